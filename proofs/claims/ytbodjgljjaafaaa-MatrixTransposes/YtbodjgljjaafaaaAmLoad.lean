/- The abstract machine: loads, addresses, slices. -/
import Derived.Test.YtbodjgljjaafaaaAmPure
namespace Go.AM

theorem ME.nil_of (e : ME) (h : e.nil = true → False) : e.nil = false := by
  cases he : e.nil
  · rfl
  · exact (h he).elim

theorem cell_of {w : World} {b off : Nat} {cs : Array Value} {t : TypeId} {fr : Nat × Nat} (h : w.heap[b]? = some (.cells cs t fr)) :
    w.cell? ⟨b, off, none⟩ = cs[off]? := by
  simp [World.cell?, h]

theorem frozen_of {w : World} {b off : Nat} {cs : Array Value} {t : TypeId} (h : w.heap[b]? = some (.cells cs t (0, 0))) :
    w.frozen? ⟨b, off, none⟩ = false := by
  simp [World.frozen?, h]

def mkV (ti : TI) (ss : List S) : Option V :=
  if ss.length == ti.size then
    if ti.k.isAgg then some (.e (.agg ss))
    else match ss with
      | [s] => some (.e (.sc s))
      | _ => none
  else none

theorem add_off (b off j : Nat) : Addr.add ⟨b, off, none⟩ j = ⟨b, off + j, none⟩ := Addr.add_lit b off j

section
variable {P : Program} {w : World} {I : Nat → Prop} {M : Mem}

theorem loadVar_ok {t : Nat} {ti : TI} (ht : TIOK P t ti) {ss : List S} {r : V} (hr : mkV ti ss = some r) {b off : Nat} {vs : List Value}
    (hc : ∀ (j : Nat) v, vs[j]? = some v → w.cell? ⟨b, off + j, none⟩ = some v) (hrel : RelL w I M vs ss) :
    ∃ v, (loadVar t ⟨b, off, none⟩).run P w = .ok v w ∧ RelV w I M v r := by
  unfold mkV at hr
  split at hr
  · rename_i hsz
    simp only [beq_iff_eq] at hsz
    have hl : vs.length = ti.size := hrel.1.trans hsz
    split at hr
    · rename_i hagg
      simp only [Option.some.injEq] at hr; subst hr
      refine ⟨.agg vs.toArray, ?_, vs.toArray, rfl, by simpa using hrel⟩
      have := run_loadCells_list (P := P) w ⟨b, off, none⟩ vs (fun j v h => by rw [add_off]; exact hc j v h)
      rw [hl] at this
      simp [loadVar, ht.isAgg, hagg, ht.sizeOf, this]
    · rename_i hagg
      split at hr
      · rename_i s
        simp only [Option.some.injEq] at hr; subst hr
        match vs, hrel with
        | [v], hrel =>
          have h0 := hc 0 v rfl
          refine ⟨v, ?_, hrel.2 0 v s rfl rfl⟩
          simp only [loadVar, Sem.run_bind, ht.isAgg, Result.andThen, hagg, Bool.false_eq_true, if_false, run_load]
          rw [show off = off + 0 from rfl, h0]
        | [], hrel => simp [RelL] at hrel
        | _ :: _ :: _, hrel => simp [RelL] at hrel
      · simp at hr
  · simp at hr

/-- Data cells: some of one element's. -/
theorem loadData_ok {t : Nat} {ti : TI} (ht : TIOK P t ti) {full : List D} {k : Nat} {r : V} (hr : mkV ti (((full.drop k).take ti.size).map .dat) = some r) {b base : Nat}
    (hc : ∀ (j : Nat) d, full[j]? = some d → ∃ v, w.cell? ⟨b, base + j, none⟩ = some v ∧ Reads w I v d) :
    ∃ v, (loadVar t ⟨b, base + k, none⟩).run P w = .ok v w ∧ RelV w I M v r := by
  have hch : ∀ (j : Nat), ∃ v, ∀ d, full[j]? = some d → w.cell? ⟨b, base + j, none⟩ = some v ∧ Reads w I v d := fun j => by
    cases hj : full[j]? with
    | none => exact ⟨undef, fun d h => by simp at h⟩
    | some d => obtain ⟨v, h1, h2⟩ := hc j d hj; exact ⟨v, fun d' h => by simp at h; subst h; exact ⟨h1, h2⟩⟩
  have hf := Classical.axiomOfChoice hch
  obtain ⟨f, hf⟩ := hf
  refine loadVar_ok ht hr (vs := (List.range ((full.drop k).take ti.size).length).map fun j => f (k + j)) (fun j v hj => ?_) ⟨by simp, fun j v s hv hs => ?_⟩
  · simp only [List.getElem?_map, Option.map_eq_some_iff] at hj
    obtain ⟨j', hj', rfl⟩ := hj
    have hlt : j < ((full.drop k).take ti.size).length := by
      rcases Nat.lt_or_ge j ((full.drop k).take ti.size).length with h | h
      · exact h
      · rw [List.getElem?_eq_none (by simpa using h)] at hj'; simp at hj'
    rw [List.getElem?_range hlt, Option.some.injEq] at hj'
    subst hj'
    simp only [List.length_take, List.length_drop] at hlt
    have : full[k + j]? = some (full[k + j]'(by omega)) := List.getElem?_eq_getElem _
    have := (hf (k + j) _ this).1
    rwa [← Nat.add_assoc] at this
  · simp only [List.getElem?_map, Option.map_eq_some_iff] at hv hs
    obtain ⟨j', hj', rfl⟩ := hv
    obtain ⟨d, hd, rfl⟩ := hs
    have hlt : j < ((full.drop k).take ti.size).length := by
      rcases Nat.lt_or_ge j ((full.drop k).take ti.size).length with h | h
      · exact h
      · rw [List.getElem?_eq_none h] at hd; simp at hd
    rw [List.getElem?_range hlt, Option.some.injEq] at hj'
    subst hj'
    rw [List.getElem?_take, List.getElem?_drop] at hd
    split at hd
    · exact (hf (k + j) d hd).2
    · simp at hd
end

def xload (T : Tab) (h : Heap) (or : Or) (t : Nat) (v : V) : Option (V × List Prop) :=
  match tfind T t with
  | none => none
  | some ti =>
    match v with
    | .e (.sc (.ptr o k)) =>
      match h[o]? with
      | some (some (.box cells)) => (mkV ti ((cells.drop k).take ti.size)).map fun r => (r, [])
      | _ => none
    | .e (.sc (.aptr o i k)) =>
      match h[o]?, or with
      | some (some (.arr _ elems)), .cells full => (mkV ti (((full.drop k).take ti.size).map .dat)).map fun r => (r, [elems[i]? = some full])
      | _, _ => none
    | .e (.sc (.eptr z elems i k)) =>
      match or with
      | .cells full => if full.length == z then (mkV ti (((full.drop k).take ti.size).map .dat)).map fun r => (r, [elems[i]? = some full]) else none
      | _ => none
    | .e (.sc (.rptr o r i k)) =>
      match h[o]?, or with
      | some (some (.mat _ rows)), .cells full => (mkV ti (((full.drop k).take ti.size).map .dat)).map fun x => (x, [at2 rows r i = some full])
      | _, _ => none
    | .e (.sc (.bptr ds k)) => (mkV ti (((ds.drop k).take ti.size).map .dat)).map fun r => (r, [])
    | .e (.sc (.dat (.box ds))) => (mkV ti ((ds.take ti.size).map .dat)).map fun r => (r, [])
    | .e (.sc (.mptr o i)) =>
      match h[o]? with
      | some (some (.mat _ _)) => (mkV ti [.row o i]).map fun r => (r, [])
      | _ => none
    | _ => none

theorem at2_some {α : Type} {l : List (List α)} {i j : Nat} {x : List α} {d : α} (h : l[i]? = some x) (hd : x[j]? = some d) : at2 l i j = some d := by
  simp [at2, h, hd]

theorem xload_ok {P : Program} {T : Tab} (hT : TOK P T) {h : Heap} {or : Or} {t : Nat} {v : V} {r : V} {obs : List Prop} (hx : xload T h or t v = some (r, obs)) (ho : AllP obs)
    {I : Nat → Prop} {M : Mem} {w : World} (s : SimH I M h w) {u : Value} (hu : RelV w I M u v) : ∃ x, (Instr.loadAt t u).run P w = .ok x w ∧ RelV w I M x r := by
  unfold xload at hx
  split at hx
  · simp at hx
  · rename_i ti hti
    have ht := hT.find hti
    split at hx
    · rename_i o k
      obtain ⟨e, he, rfl⟩ := hu
      split at hx
      · rename_i cells hcell
        simp only [Option.map_eq_some_iff, Prod.mk.injEq] at hx
        obtain ⟨r', hr, rfl, rfl⟩ := hx
        obtain ⟨e', he', cs, t', hb, hrel⟩ := s.obj o _ hcell
        rw [he] at he'; simp only [Option.some.injEq] at he'; subst he'
        have := loadVar_ok (P := P) (w := w) (I := I) (M := M) ht hr (b := e.b) (off := k) (vs := (cs.toList.drop k).take ti.size)
          (fun j v hj => by
            rw [cell_of hb]
            rw [List.getElem?_take] at hj
            split at hj
            · rw [List.getElem?_drop] at hj; simpa using hj
            · simp at hj)
          ⟨by simp [← hrel.1], fun j v s hv hs => by
            rw [List.getElem?_take] at hv hs
            split at hv
            · rw [List.getElem?_drop] at hv
              rename_i hj
              rw [if_pos hj, List.getElem?_drop] at hs
              exact hrel.2 _ v s hv hs
            · simp at hv⟩
        simpa [Instr.loadAt, Instr.sureAddr] using this
      · simp at hx
    · rename_i o i k
      obtain ⟨e, he, hi, rfl⟩ := hu
      split at hx
      · rename_i s' elems full hcell
        simp only [Option.map_eq_some_iff, Prod.mk.injEq] at hx
        obtain ⟨r', hr, rfl, rfl⟩ := hx
        obtain ⟨e', he', h1, h2, h0, hh⟩ := s.obj o _ hcell
        rw [he] at he'; simp only [Option.some.injEq] at he'; subst he'
        obtain ⟨h3, cs, t', hb, h4, h5, h6⟩ := hh (e.nil_of (fun h => by rw [h0 h] at h2; simp at h2; omega))
        have := loadData_ok (P := P) (w := w) (I := I) (M := M) ht hr (b := e.b) (base := i * e.s) (fun j d hd => by
          obtain ⟨v, p, q⟩ := h6 i j d (at2_some ho.1 hd)
          exact ⟨v, by rw [cell_of hb, h1]; exact p, q⟩)
        simpa [Instr.loadAt, Instr.sureAddr] using this
      · simp at hx
    · rename_i z elems i k
      obtain ⟨b, off, s', ⟨_, cs, t', fr, hb, hlen, h6⟩, hi, rfl⟩ := hu
      split at hx
      · rename_i full
        by_cases hz : full.length = z
        case neg => simp [hz] at hx
        simp only [hz, beq_self_eq_true, if_true] at hx
        simp only [Option.map_eq_some_iff, Prod.mk.injEq] at hx
        obtain ⟨r', hr, rfl, rfl⟩ := hx
        have hsz : s' = z := (hlen _ (List.mem_of_getElem? ho.1)).symm.trans hz
        subst hsz
        have := loadData_ok (P := P) (w := w) (I := I) (M := M) ht hr (b := b) (base := off + i * s') (fun j d hd => by
          obtain ⟨v, p, q⟩ := h6 i j d (at2_some ho.1 hd)
          exact ⟨v, by rw [cell_of hb]; exact p, q⟩)
        simpa [Instr.loadAt, Instr.sureAddr] using this
      · simp at hx
    · rename_i o r0 i k
      obtain ⟨e, b, n, cap, he, hrow, hi, rfl⟩ := hu
      split at hx
      · rename_i s' rows full hcell
        simp only [Option.map_eq_some_iff, Prod.mk.injEq] at hx
        obtain ⟨r', hr, rfl, rfl⟩ := hx
        obtain ⟨e', he', h1, h2, h4, h0, hh⟩ := s.obj o _ hcell
        rw [he] at he'; simp only [Option.some.injEq] at he'; subst he'
        have hat := ho.1
        obtain ⟨erow, her, hfull⟩ : ∃ erow, rows[r0]? = some erow ∧ erow[i]? = some full := by
          simp only [at2, Option.bind_eq_some_iff] at hat; exact hat
        obtain ⟨h3, cs, t', hb, h5, h6, h7⟩ := hh (e.nil_of (fun h => by rw [h0 h] at her; simp at her))
        obtain ⟨a, c, hv, hne⟩ := h7 r0 _ erow hrow her
        obtain ⟨b', cs', t'', ha, hb', _, _, _, h8⟩ := hne (by rintro rfl; simp at hfull)
        simp only [Value.slice.injEq] at hv
        obtain ⟨hv1, hv2, hv3⟩ := hv
        rw [ha] at hv1; simp only [Option.some.injEq, Addr.mk.injEq, and_true] at hv1; subst hv1
        have := loadData_ok (P := P) (w := w) (I := I) (M := M) ht hr (b := b) (base := i * e.s) (fun j d hd => by
          obtain ⟨v, p, q⟩ := h8 i j d (at2_some hfull hd)
          exact ⟨v, by rw [cell_of hb', h1]; exact p, q⟩)
        simpa [Instr.loadAt, Instr.sureAddr] using this
      · simp at hx
    · rename_i ds k
      obtain ⟨b, ⟨_, cs, t', fr, hb, h6⟩, rfl⟩ := hu
      simp only [Option.map_eq_some_iff, Prod.mk.injEq] at hx
      obtain ⟨r', hr, rfl, rfl⟩ := hx
      have := loadData_ok (P := P) (w := w) (I := I) (M := M) ht hr (b := b) (base := 0) (fun j d hd => by
        obtain ⟨v, p, q⟩ := h6 j d hd
        exact ⟨v, by rw [cell_of hb, Nat.zero_add]; exact p, q⟩)
      simpa [Instr.loadAt, Instr.sureAddr] using this
    · rename_i ds
      obtain ⟨b, rfl, _, cs, t', fr, hb, h6⟩ := Reads.boxAt hu
      simp only [Option.map_eq_some_iff, Prod.mk.injEq] at hx
      obtain ⟨r', hr, rfl, rfl⟩ := hx
      have := loadData_ok (P := P) (w := w) (I := I) (M := M) ht (full := ds) (k := 0) (by simpa using hr) (b := b) (base := 0) (fun j d hd => by
        obtain ⟨v, p, q⟩ := h6 j d hd
        exact ⟨v, by rw [cell_of hb, Nat.zero_add]; exact p, q⟩)
      simpa [Instr.loadAt, Instr.sureAddr] using this
    · rename_i o i
      obtain ⟨e, he, hi, rfl⟩ := hu
      split at hx
      · rename_i s' rows hcell
        simp only [Option.map_eq_some_iff, Prod.mk.injEq] at hx
        obtain ⟨r', hr, rfl, rfl⟩ := hx
        obtain ⟨e', he', h1, h2, h4, h0, hh⟩ := s.obj o _ hcell
        rw [he] at he'; simp only [Option.some.injEq] at he'; subst he'
        obtain ⟨h3, cs, t', hb, h5, h6, h7⟩ := hh (e.nil_of (fun h => by rw [h0 h] at h2; simp at h2; omega))
        have hlt : i < e.rows.length := by omega
        have hg : e.rows[i]? = some e.rows[i] := List.getElem?_eq_getElem hlt
        have := loadVar_ok (P := P) (w := w) (I := I) (M := M) ht hr (b := e.b) (off := i) (vs := [e.rows[i]])
          (fun j v hj => by
            match j, hj with
            | 0, hj => simp only [List.getElem?_cons_zero, Option.some.injEq] at hj; subst hj; rw [cell_of hb]; exact h6 i _ hg
            | j + 1, hj => simp at hj)
          ⟨rfl, fun j v s hv hs => by
            match j, hv, hs with
            | 0, hv, hs => simp only [List.getElem?_cons_zero, Option.some.injEq] at hv hs; subst hv; subst hs; exact ⟨e, he, hg⟩
            | j + 1, hv, hs => simp at hv⟩
        simpa [Instr.loadAt, Instr.sureAddr] using this
      · simp at hx
    · simp at hx

end Go.AM
