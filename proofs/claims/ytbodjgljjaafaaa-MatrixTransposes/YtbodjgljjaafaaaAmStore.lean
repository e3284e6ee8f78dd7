/- The abstract machine: stores. -/
import Derived.Test.YtbodjgljjaafaaaAmMake
namespace Go.AM

def patchG {α : Type} (cells : List α) (off : Nat) (l : List α) : List α := cells.take off ++ l ++ cells.drop (off + l.length)

theorem patchG_at {α : Type} {cells l : List α} {off : Nat} (h : off + l.length ≤ cells.length) (i : Nat) :
    (patchG cells off l)[i]? = if off ≤ i ∧ i < off + l.length then l[i - off]? else cells[i]? := by
  unfold patchG
  by_cases h1 : i < off
  · rw [if_neg (by omega), List.append_assoc, List.getElem?_append_left (by simp; omega), List.getElem?_take, if_pos h1]
  · by_cases h2 : i < off + l.length
    · rw [if_pos (by omega), List.append_assoc, List.getElem?_append_right (by simp; omega), List.getElem?_append_left (by simp; omega)]
      simp; congr 1; omega
    · rw [if_neg (by omega), List.getElem?_append_right (by simp; omega), List.getElem?_drop]
      congr 1; simp; omega

theorem patchG_length {α : Type} {cells l : List α} {off : Nat} (h : off + l.length ≤ cells.length) : (patchG cells off l).length = cells.length := by
  simp [patchG]; omega

section
variable {P : Program} {I : Nat → Prop} {M : Mem} {h : Heap} {w : World}

theorem run_storeVar {t : Nat} {ti : TI} (ht : TIOK P t ti) {b off : Nat} {cs : Array Value} {t' : TypeId} (hb : w.heap[b]? = some (.cells cs t' (0, 0))) {v : Value}
    (hsz : v.cells.size = ti.size) (hle : off + v.cells.size ≤ cs.size) (hone : ∀ u ∈ v.cells.toList, u.oneCell' = true) :
    (storeVar t ⟨b, off, none⟩ v).run P w = .ok () (w.setRow b (patchG cs.toList off v.cells.toList).toArray) := by
  have := run_storeCells_at P b off t' v.cells.toList 0 cs w hb (by simpa using hle) hone
  simp only [Nat.add_zero] at this
  simp [storeVar, ht.sizeOf, hsz, this, patchG]

theorem setRow_world (w : World) (b : Nat) (cs : Array Value) : (w.setRow b cs).os = w.os ∧ (w.setRow b cs).tape = w.tape ∧ (w.setRow b cs).output = w.output ∧ (w.setRow b cs).heap.size = w.heap.size := by
  refine ⟨rfl, rfl, rfl, by simp [World.setRow]⟩

def xstore (T : Tab) (h : Heap) (or : Or) (t : Nat) (a v : V) : Option (Heap × List Nat × List Prop) :=
  match tfind T t, v with
  | some ti, .e x =>
    if x.one && x.cells.length == ti.size then
      match a with
      | .e (.sc (.ptr o k)) =>
        match h[o]? with
        | some (some (.box cells)) => if k + x.cells.length ≤ cells.length then some (h.set o (some (.box (patchG cells k x.cells))), [o], []) else none
        | _ => none
      | .e (.sc (.aptr o i k)) =>
        match h[o]?, x.cells.mapM S.toD with
        | some (some (.arr s elems)), some ds =>
          if k == 0 && ds.length == s then some (h.set o (some (.arr s (elems.set i ds))), [o], [])
          else match or with
            | .cells full => if full.length == s && k + ds.length ≤ s then some (h.set o (some (.arr s (elems.set i (patchG full k ds)))), [o], [elems[i]? = some full]) else none
            | _ => none
        | _, _ => none
      | .e (.sc (.rptr o r i k)) =>
        match h[o]?, x.cells.mapM S.toD with
        | some (some (.mat s rows)), some ds =>
          if k == 0 && ds.length == s then some (h.set o (some (.mat s (rows.modify r (·.set i ds)))), [o], [])
          else none
        | _, _ => none
      | _ => none
    else none
  | _, _ => none

theorem at2_set {elems : List (List D)} {i : Nat} {ds : List D} {i' j : Nat} {d : D} (h : at2 (elems.set i ds) i' j = some d) :
    (i' = i ∧ i < elems.length ∧ ds[j]? = some d) ∨ (i' ≠ i ∧ at2 elems i' j = some d) := by
  simp only [at2, Option.bind_eq_some_iff] at h ⊢
  obtain ⟨x, hx, hd⟩ := h
  by_cases he : i = i'
  · subst he
    by_cases hl : i < elems.length
    · simp only [List.getElem?_set, hl, if_true, Option.some.injEq] at hx; subst hx
      exact .inl ⟨rfl, hl, hd⟩
    · rw [List.getElem?_eq_none (by simp; omega)] at hx; simp at hx
  · rw [List.getElem?_set_ne he] at hx
    exact .inr ⟨Ne.symm he, x, hx, hd⟩

/-- A row of cells, some of one element's written. -/
theorem cells_store {w w' : World} {s : Nat} {elems : List (List D)} {cs : Array Value} (hl : ∀ x ∈ elems, x.length = s)
    (hc : ∀ i j d, at2 elems i j = some d → ∃ v, cs[i * s + j]? = some v ∧ Reads w I v d) (hI : ∀ b, I b → w'.heap[b]? = w.heap[b]?)
    {i k : Nat} (hi : i < elems.length) {full ds : List D} (hfull : k = 0 ∧ ds.length = s ∨ elems[i]? = some full) (hk : k + ds.length ≤ s) {vs : List Value} (hvl : vs.length = ds.length)
    (hv : ∀ (j : Nat) v d, vs[j]? = some v → ds[j]? = some d → Reads w I v d) (hcs : elems.length * s ≤ cs.size) (new : List D) (hnew : new = (if k = 0 ∧ ds.length = s then ds else patchG full k ds)) :
    (∀ x ∈ elems.set i new, x.length = s) ∧ ∀ i' j d, at2 (elems.set i new) i' j = some d → ∃ v, (patchG cs.toList (i * s + k) vs).toArray[i' * s + j]? = some v ∧ Reads w' I v d := by
  have hisz : (i + 1) * s ≤ elems.length * s := Nat.mul_le_mul_right _ hi
  rw [Nat.add_mul, Nat.one_mul] at hisz
  have hnl : new.length = s := by
    rw [hnew]; split
    · rename_i h; exact h.2
    · rename_i h
      have hf := hfull.resolve_left h
      have := hl _ (List.mem_of_getElem? hf)
      rw [patchG_length (by omega), this]
  have hpl : (i * s + k) + vs.length ≤ cs.toList.length := by simp; omega
  refine ⟨fun x hx => ?_, fun i' j d hd => ?_⟩
  · rcases List.mem_or_eq_of_mem_set hx with h | h
    · exact hl x h
    · rw [h]; exact hnl
  · simp only [List.getElem?_toArray]
    rw [patchG_at hpl]
    rcases at2_set hd with ⟨rfl, _, hj⟩ | ⟨hne, hat⟩
    · have hjs : j < s := by
        rcases Nat.lt_or_ge j new.length with h | h
        · omega
        · rw [List.getElem?_eq_none h] at hj; simp at hj
      by_cases hin : k ≤ j ∧ j < k + ds.length
      · rw [if_pos (by omega)]
        have e : i' * s + j - (i' * s + k) = j - k := by omega
        rw [e]
        have hlt : j - k < vs.length := by omega
        refine ⟨vs[j - k], List.getElem?_eq_getElem hlt, (hv (j - k) _ d (List.getElem?_eq_getElem hlt) ?_).mono hI (fun _ h => h)⟩
        rw [hnew] at hj
        split at hj
        · rename_i h; rw [h.1]; exact hj
        · rename_i h
          have hf := hfull.resolve_left h
          have := hl _ (List.mem_of_getElem? hf)
          rw [patchG_at (by omega), if_pos hin] at hj; exact hj
      · rw [if_neg (by omega)]
        have hnf : ¬ (k = 0 ∧ ds.length = s) := fun h => hin (by omega)
        rw [hnew, if_neg hnf] at hj
        have hf := hfull.resolve_left hnf
        have := hl _ (List.mem_of_getElem? hf)
        rw [patchG_at (by omega), if_neg hin] at hj
        obtain ⟨v, p, q⟩ := hc i' j d (at2_some hf hj)
        exact ⟨v, by simpa using p, q.mono hI (fun _ h => h)⟩
    · obtain ⟨v, p, q⟩ := hc i' j d hat
      have hjs : j < s := by
        simp only [at2, Option.bind_eq_some_iff] at hat
        obtain ⟨x, hx, hxd⟩ := hat
        have := hl _ (List.mem_of_getElem? hx)
        rcases Nat.lt_or_ge j x.length with h | h
        · omega
        · rw [List.getElem?_eq_none h] at hxd; simp at hxd
      have hout : ¬ (i * s + k ≤ i' * s + j ∧ i' * s + j < i * s + k + vs.length) := by
        rintro ⟨h1, h2⟩
        rcases Nat.lt_or_gt_of_ne hne with h | h
        · have : (i' + 1) * s ≤ i * s := Nat.mul_le_mul_right _ h
          rw [Nat.add_mul] at this; omega
        · have : (i + 1) * s ≤ i' * s := Nat.mul_le_mul_right _ h
          rw [Nat.add_mul] at this; omega
      rw [if_neg hout]
      exact ⟨v, by simpa using p, q.mono hI (fun _ h => h)⟩

theorem xstore_ok {T : Tab} (hT : TOK P T) {or : Or} {t : Nat} {a v : V} {h' : Heap} {ids : List Nat} {obs : List Prop} (hx : xstore T h or t a v = some (h', ids, obs)) (ho : AllP obs)
    (s : SimH I M h w) {u x : Value} (hu : RelV w I M u a) (hv : RelV w I M x v) :
    ∃ w', (Instr.storeAt t u x).run P w = .ok () w' ∧ Eff ids I M h w I M h' w' := by
  unfold xstore at hx
  split at hx
  case h_2 => simp at hx
  rename_i ti y hti
  have ht := hT.find hti
  split at hx
  case isFalse => simp at hx
  rename_i hone
  simp only [Bool.and_eq_true, beq_iff_eq] at hone
  obtain ⟨hone, hsz⟩ := hone
  obtain ⟨hcell, hone'⟩ := E.one_cells hv hone
  have hcl : x.cells.size = y.cells.length := by simpa using hcell.1
  split at hx
  · rename_i o k
    split at hx
    case h_2 => simp at hx
    rename_i cells hobj
    split at hx
    case isFalse => simp at hx
    rename_i hle
    simp only [Option.some.injEq, Prod.mk.injEq] at hx
    obtain ⟨rfl, rfl, rfl⟩ := hx
    obtain ⟨e, he, rfl⟩ := hu
    obtain ⟨e', he', cs, t', hb, hrel⟩ := s.obj o _ hobj
    rw [he] at he'; simp only [Option.some.injEq] at he'; subst he'
    have hcs : cs.size = cells.length := by simpa using hrel.1
    have hrun := run_storeVar (P := P) ht (v := x) (off := k) hb (hcl.trans hsz) (by omega) hone'
    obtain ⟨w1, w2, w3, w4⟩ := setRow_world w e.b (patchG cs.toList k x.cells.toList).toArray
    refine ⟨_, by simpa [Instr.storeAt, Instr.sureAddr] using hrun, ?_⟩
    refine Eff.write s he hobj (obj' := .box (patchG cells k y.cells)) rfl (b := e.b) (by simp [fpE]) w4 (fun b hb => setRow_other w e.b b _ hb) w1 w2 w3 fun hI => ?_
    refine ⟨_, t', setRow_heap w e.b cs _ t' _ hb, ?_⟩
    have hp := (hrel.mono hI (fun _ h => h) (fun _ _ h => h)).patch (hcell.mono hI (fun _ h => h) (fun _ _ h => h)) k
    simp only [patchG]
    exact hp
  · rename_i o i k
    split at hx
    case h_2 => simp at hx
    rename_i s' elems ds hobj hds
    obtain ⟨e, he, hi, rfl⟩ := hu
    obtain ⟨e', he', h1, h2, h0, hh⟩ := s.obj o _ hobj
    rw [he] at he'; simp only [Option.some.injEq] at he'; subst he'
    have hnil := e.nil_of (fun h => by rw [h0 h] at h2; simp at h2; omega)
    obtain ⟨h3, cs, t', hb, h4, h5, h6⟩ := hh hnil
    obtain ⟨hdl, hdr⟩ := mapM_toD hds hcell
    have hdl' : x.cells.size = ds.length := by simpa using hdl
    rw [h2] at hi
    have hcs : elems.length * s' ≤ cs.size := by rw [h4, ← h2]; exact Nat.mul_le_mul_right _ h3
    obtain ⟨full, new, hnew, hfull, hk, hx'⟩ : ∃ full new, new = (if k = 0 ∧ ds.length = s' then ds else patchG full k ds) ∧ (k = 0 ∧ ds.length = s' ∨ elems[i]? = some full) ∧ k + ds.length ≤ s' ∧
        h' = h.set o (some (.arr s' (elems.set i new))) ∧ ids = [o] := by
      split at hx
      · rename_i hc
        simp only [Bool.and_eq_true, beq_iff_eq] at hc
        simp only [Option.some.injEq, Prod.mk.injEq] at hx
        obtain ⟨rfl, rfl, rfl⟩ := hx
        exact ⟨[], ds, by rw [if_pos hc], .inl hc, by omega, rfl, rfl⟩
      · rename_i hc
        simp only [Bool.and_eq_true, beq_iff_eq] at hc
        split at hx
        · rename_i full
          split at hx
          · rename_i hc2
            simp only [Bool.and_eq_true, beq_iff_eq, decide_eq_true_eq] at hc2
            simp only [Option.some.injEq, Prod.mk.injEq] at hx
            obtain ⟨rfl, rfl, rfl⟩ := hx
            exact ⟨full, _, by rw [if_neg hc], .inr ho.1, hc2.2, rfl, rfl⟩
          · simp at hx
        · simp at hx
    obtain ⟨rfl, rfl⟩ := hx'
    have hisz : (i + 1) * s' ≤ elems.length * s' := Nat.mul_le_mul_right _ hi
    rw [Nat.add_mul, Nat.one_mul] at hisz
    have hrun := run_storeVar (P := P) ht (v := x) (off := i * s' + k) hb (hcl.trans hsz) (by omega) hone'
    obtain ⟨w1, w2, w3, w4⟩ := setRow_world w e.b (patchG cs.toList (i * s' + k) x.cells.toList).toArray
    refine ⟨_, by rw [h1]; simpa [Instr.storeAt, Instr.sureAddr] using hrun, ?_⟩
    refine Eff.write s he hobj (obj' := .arr s' (elems.set i new)) rfl (b := e.b) (by simp [fpE, hnil]) w4 (fun b hb => setRow_other w e.b b _ hb) w1 w2 w3 fun hI => ?_
    obtain ⟨g1, g2⟩ := cells_store (w' := w.setRow e.b (patchG cs.toList (i * s' + k) x.cells.toList).toArray) h5 h6 hI hi hfull hk hdl hdr hcs new hnew
    refine ⟨h1, by simp [h2], fun h => by simp [hnil] at h, fun _ => ⟨h3, _, t', setRow_heap w e.b cs _ t' _ hb, ?_, g1, g2⟩⟩
    rw [← h4]
    simp only [List.size_toArray]
    rw [patchG_length (by simp; omega)]; simp
  · rename_i o r i k
    split at hx
    case h_2 => simp at hx
    rename_i s' rows ds hobj hds
    split at hx
    case isFalse => simp at hx
    rename_i hc
    simp only [Bool.and_eq_true, beq_iff_eq] at hc
    obtain ⟨rfl, hds'⟩ := hc
    simp only [Option.some.injEq, Prod.mk.injEq] at hx
    obtain ⟨rfl, rfl, rfl⟩ := hx
    obtain ⟨e, b, n, cap, he, hrow, hi, rfl⟩ := hu
    obtain ⟨e', he', h1, h2, h4, h0, hh⟩ := s.obj o _ hobj
    rw [he] at he'; simp only [Option.some.injEq] at he'; subst he'
    have hnil := e.nil_of (fun h => by rw [h0 h] at h4; simp only [List.length_nil, List.length_eq_zero_iff] at h4; rw [h4] at hrow; simp at hrow)
    obtain ⟨h3, cs, t', hb, h5, h6, h7⟩ := hh hnil
    obtain ⟨hdl, hdr⟩ := mapM_toD hds hcell
    have hdl' : x.cells.size = ds.length := by simpa using hdl
    have hrl : r < e.rows.length := by
      rcases Nat.lt_or_ge r e.rows.length with hl | hl
      · exact hl
      · rw [List.getElem?_eq_none hl] at hrow; simp at hrow
    have hrl' : r < rows.length := h4 ▸ hrl
    obtain ⟨a0, c0, hav, hne⟩ := h7 r _ _ hrow (List.getElem?_eq_getElem hrl')
    simp only [Value.slice.injEq] at hav
    obtain ⟨rfl, hn, rfl⟩ := hav
    obtain ⟨b', rcs, rt, hba, hrb, hrcs, hrle, hrlen, hrc⟩ := hne (by intro h0; rw [h0] at hn; simp at hn; omega)
    simp only [Option.some.injEq, Addr.mk.injEq, and_true] at hba; subst hba
    rw [hn] at hi
    have hisz : (i + 1) * s' ≤ rows[r].length * s' := Nat.mul_le_mul_right _ hi
    rw [Nat.add_mul, Nat.one_mul] at hisz
    have hcsz : rows[r].length * s' ≤ rcs.size := by rw [hrcs]; exact Nat.mul_le_mul_right _ hrle
    have hrun := run_storeVar (P := P) ht (v := x) (off := i * s') hrb (hcl.trans hsz) (by omega) hone'
    obtain ⟨w1, w2, w3, w4⟩ := setRow_world w b (patchG rcs.toList (i * s') x.cells.toList).toArray
    have hbin : b ∈ fpE e (.mat s' rows) := by
      simp only [fpE, hnil, List.mem_cons, List.mem_flatMap, Bool.false_eq_true, if_false]
      refine .inr ⟨_, List.mem_of_getElem? hrow, ?_⟩
      rw [hn]
      obtain ⟨q, hq⟩ : ∃ q, rows[r].length = q + 1 := ⟨rows[r].length - 1, by omega⟩
      rw [hq]; simp [rowBlk]
    have hnd := s.nd o
    simp only [fpAt, hobj, he, fpE, hnil, Bool.false_eq_true, if_false, List.nodup_cons, List.mem_flatMap, not_exists, not_and] at hnd
    have hbne : e.b ≠ b := fun heq => by
      simp only [fpE, hnil, Bool.false_eq_true, if_false, List.mem_cons, List.mem_flatMap] at hbin
      rcases hbin with h0 | ⟨v, hv1, hv2⟩
      · have := hnd.1 _ (List.mem_of_getElem? hrow)
        rw [hn] at this
        obtain ⟨q, hq⟩ : ∃ q, rows[r].length = q + 1 := ⟨rows[r].length - 1, by omega⟩
        rw [hq] at this; simp [rowBlk, heq] at this
      · exact hnd.1 v hv1 (heq ▸ hv2)
    refine ⟨_, by rw [h1]; simpa [Instr.storeAt, Instr.sureAddr] using hrun, ?_⟩
    refine Eff.write s he hobj (obj' := .mat s' (rows.modify r (·.set i ds))) rfl (b := b) hbin w4 (fun b' hb' => setRow_other w b b' _ hb') w1 w2 w3 fun hI => ?_
    obtain ⟨g1, g2⟩ := cells_store (w' := w.setRow b (patchG rcs.toList (i * s') x.cells.toList).toArray) hrlen hrc hI hi (full := []) (.inl ⟨rfl, hds'⟩) (by omega) hdl hdr hcsz ds (by simp [hds'])
    refine ⟨h1, by simp [h2], by simp [h4], fun h => by simp [hnil] at h, fun _ => ⟨h3, cs, t', by rw [setRow_other w b e.b _ hbne]; exact hb, h5, h6, fun k v elems hv hel => ?_⟩⟩
    rw [List.getElem?_modify] at hel
    by_cases hkr : r = k
    · subst hkr
      rw [hrow] at hv; simp only [Option.some.injEq] at hv; subst hv
      simp only [if_true, List.getElem?_eq_getElem hrl', Option.map_eq_map, Option.map_some, Option.some.injEq] at hel; subst hel
      refine ⟨some ⟨b, 0, none⟩, cap, by simp [hn], fun _ => ⟨b, _, rt, rfl, setRow_heap w b rcs _ rt _ hrb, ?_, by simpa using hrle, g1, g2⟩⟩
      rw [← hrcs]
      simp only [List.size_toArray]
      rw [patchG_length (by simp; omega)]; simp
    · simp only [if_neg hkr, Option.map_eq_map, Option.map_id_fun', id_eq] at hel
      refine (h7 k v elems hv hel).mono hI (fun _ h => h) fun b' hb' => setRow_other w b b' _ fun heq => ?_
      subst heq
      have hnd2 := hnd.2
      have hidx : ∀ (l : List Value) (p q : Nat) (x y : Value), (l.flatMap rowBlk).Nodup → l[p]? = some x → l[q]? = some y → p ≠ q → ∀ b, b ∈ rowBlk x → b ∉ rowBlk y := by
        intro l
        induction l with
        | nil => intro p q x y _ hp; simp at hp
        | cons z l ih =>
          intro p q x y hnd hp hq hpq b hbx hby
          rw [List.flatMap_cons, List.nodup_append] at hnd
          match p, q, hp, hq with
          | 0, 0, _, _ => exact hpq rfl
          | 0, q + 1, hp, hq =>
            simp only [List.getElem?_cons_zero, Option.some.injEq] at hp; subst hp
            exact hnd.2.2 b hbx b (List.mem_flatMap.2 ⟨y, List.mem_of_getElem? (by simpa using hq), hby⟩) rfl
          | p + 1, 0, hp, hq =>
            simp only [List.getElem?_cons_zero, Option.some.injEq] at hq; subst hq
            exact hnd.2.2 b hby b (List.mem_flatMap.2 ⟨x, List.mem_of_getElem? (by simpa using hp), hbx⟩) rfl
          | p + 1, q + 1, hp, hq => exact ih p q x y hnd.2.1 (by simpa using hp) (by simpa using hq) (by omega) b hbx hby
      refine hidx e.rows r k _ v hnd2 hrow hv hkr b' ?_ hb'
      rw [hn]
      obtain ⟨q, hq⟩ : ∃ q, rows[r].length = q + 1 := ⟨rows[r].length - 1, by omega⟩
      rw [hq]; simp [rowBlk]
  · simp at hx
end

end Go.AM
