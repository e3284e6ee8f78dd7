/- The abstract machine: copy. -/
import Derived.Test.YtbodjgljjaafaaaAmApp
namespace Go.AM

section
variable {P : Program} {I : Nat → Prop} {M : Mem} {h : Heap} {w : World}

theorem Eff.reflO (s : SimH I M h w) (ids : List Nat) : Eff ids I M h w I M h w :=
  ⟨rfl, rfl, fun _ _ h => h, fun _ _ => rfl, fun _ _ => rfl, rfl, rfl, rfl, Nat.le_refl _, fun _ _ _ => rfl, fun _ h => h, fun b hb => ⟨(s.imm b hb).1, .inl hb⟩,
    fun o _ obj ho => s.obj o obj ho, fun o1 o2 b _ _ => s.disj o1 o2 b, fun o _ => s.nd o, fun o b ho hb => ⟨s.lt o b hb, .inr ⟨o, ho, hb⟩⟩⟩

def xcopy (T : Tab) (h : Heap) (t : Nat) (sv xv : V) : Option (V × Heap × List Nat × List Prop) :=
  match tfind T t with
  | some ti =>
    match ti.k with
    | .slice e =>
      match tfind T e with
      | some te =>
        if te.size == 0 then none else
        match sv with
        | .e (.sc (.ref o)) =>
          match h[o]?, srcEl te h xv with
          | some (some (.arr s elems)), some (es, obs) =>
            if s == te.size then some (vint .i64 ((min es.length elems.length : Nat) : Int), h.set o (some (.arr s (es.take elems.length ++ elems.drop es.length))), [o], obs)
            else none
          | _, _ => none
        | _ => none
      | none => none
    | _ => none
  | none => none

theorem run_copy {t e : Nat} (hu : P.underlying t = some (.slice e)) {te : TI} (he : TIOK P e te) {g n m cap : Nat} {cur : Array Value} {et : TypeId} (hg : w.heap[g]? = some (.cells cur et (0, 0)))
    {a : Addr} {c : Nat} {news : List Value} (hl : news.length = min m n * te.size) (hnews : ∀ (j : Nat) u, news[j]? = some u → w.cell? (a.add j) = some u) (h1 : ∀ u ∈ news, u.oneCell' = true)
    (hfit : news.length ≤ cur.size) (ty : TypeId) :
    (Builtin.copy_ #[t, t] ty #[.slice (some ⟨g, 0, none⟩) n cap, .slice (some a) m c]).run P w =
      .ok (goInt ((min m n : Nat) : Int)) (w.setRow g (patchG cur.toList 0 news).toArray) := by
  have hf := run_firstCells_some (P := P) w te.size (min m n) a m c news hl hnews
  have hst := run_storeCells_at P g 0 et news 0 cur w hg (by simpa using hfit) h1
  simp only [Nat.add_zero, Nat.zero_add] at hst
  have hmin : Nat.min m n = min m n := rfl
  simp [Builtin.copy_, run_underlying hu, he.sizeOf, Builtin.lenOf, hf, hst, patchG, hmin]

theorem run_copy0 {t e : Nat} (hu : P.underlying t = some (.slice e)) {te : TI} (he : TIOK P e te) {a b : Option Addr} {n m cap c : Nat} (h0 : min m n = 0) (ty : TypeId) :
    (Builtin.copy_ #[t, t] ty #[.slice b n cap, .slice a m c]).run P w = .ok (goInt (0 : Int)) w := by
  have hf : (Builtin.firstCells te.size 0 (.slice a m c)).run P w = .ok #[] w := by
    cases a <;> simp [Builtin.firstCells, loadCells, loadCellsFrom]
  have hmin : Nat.min m n = 0 := h0
  cases b <;> simp [Builtin.copy_, run_underlying hu, he.sizeOf, Builtin.lenOf, hmin, hf, storeCells]

theorem set_self {l : Heap} {o : Nat} {x : Option Obj} (h : l[o]? = some x) : l.set o x = l := by
  apply List.ext_getElem?
  intro i
  by_cases hi : o = i
  · subst hi
    have : o < l.length := by
      rcases Nat.lt_or_ge o l.length with hl | hl
      · exact hl
      · rw [List.getElem?_eq_none hl] at h; simp at h
    simp [this]; rw [List.getElem?_eq_getElem this] at h; simpa using h.symm
  · rw [List.getElem?_set_ne hi]

theorem xcopy_ok {T : Tab} (hT : TOK P T) {t : Nat} {sv xv r : V} {h' : Heap} {ids : List Nat} {obs : List Prop} (hx : xcopy T h t sv xv = some (r, h', ids, obs)) (ho : AllP obs)
    (s : SimH I M h w) {u x : Value} (hu : RelV w I M u sv) (hxr : RelV w I M x xv) (ty : TypeId) :
    ∃ y w', (Builtin.copy_ #[t, t] ty #[u, x]).run P w = .ok y w' ∧ Eff ids I M h w I M h' w' ∧ RelV w' I M y r := by
  unfold xcopy at hx
  split at hx
  case h_2 => simp at hx
  rename_i ti hti
  split at hx
  case h_2 => simp at hx
  rename_i e hk
  have hund := (hT.find hti).slice hk
  split at hx
  case h_2 => simp at hx
  rename_i te hte
  have he := hT.find hte
  split at hx
  · simp at hx
  rename_i hs0
  simp only [beq_iff_eq] at hs0
  have hspos : 0 < te.size := by omega
  split at hx
  case h_2 => simp at hx
  rename_i o
  split at hx
  case h_2 => simp at hx
  rename_i s' elems es obs' hobj hsrc
  split at hx
  case isFalse => simp at hx
  rename_i hsz
  simp only [beq_iff_eq] at hsz; subst hsz
  simp only [Option.some.injEq, Prod.mk.injEq] at hx
  obtain ⟨rfl, rfl, rfl, rfl⟩ := hx
  obtain ⟨m, hm, rfl⟩ := hu
  obtain ⟨m', hm', h1, h2, h0, hh⟩ := s.obj o _ hobj
  rw [hm] at hm'; simp only [Option.some.injEq] at hm'; subst hm'
  obtain ⟨a, cap, rfl, hne, hlen⟩ := src_ok hsrc ho s hspos hxr
  by_cases hz : min es.length elems.length = 0
  · have hsame : es.take elems.length ++ elems.drop es.length = elems := by
      rcases Nat.eq_zero_or_pos es.length with h3 | h3
      · have := List.length_eq_zero_iff.1 h3; subst this; simp
      · have : elems.length = 0 := by omega
        have := List.length_eq_zero_iff.1 this; subst this; simp
    rw [hsame, set_self hobj, hz]
    have hval : m.val = .slice (if m.nil then none else some ⟨m.b, 0, none⟩) elems.length (if m.nil then 0 else m.cap) := by
      cases hnil : m.nil with
      | true => have := h0 hnil; subst this; simp [ME.val, hnil]
      | false => simp [ME.val, hnil, h2]
    rw [hval]
    exact ⟨_, w, run_copy0 hund he hz ty, Eff.reflO s _, Reads.int _ _⟩
  · have hel : elems ≠ [] := fun h => by subst h; simp at hz
    have hes : es ≠ [] := fun h => by subst h; simp at hz
    cases hnil : m.nil with
    | true => exact absurd (h0 hnil) hel
    | false =>
      obtain ⟨h3, cs, et, hb, h4, h5, h6⟩ := hh hnil
      have hval : m.val = .slice (some ⟨m.b, 0, none⟩) elems.length m.cap := by simp [ME.val, hnil, h2]
      rw [hval]
      obtain ⟨b, off, rfl, news, g1, g2, g3, g4⟩ := hne hes
      rw [h2] at h3
      have hnl : (news.take (min es.length elems.length * te.size)).length = min es.length elems.length * te.size := by
        rw [List.length_take, g1]
        exact Nat.min_eq_left (Nat.mul_le_mul_right _ (Nat.min_le_left _ _))
      have hfit : (news.take (min es.length elems.length * te.size)).length ≤ cs.size := by
        rw [hnl, h4]
        exact Nat.mul_le_mul_right _ (Nat.le_trans (Nat.min_le_right _ _) h3)
      have hrun := run_copy (P := P) hund he hb (n := elems.length) (cap := m.cap) (m := es.length) (a := ⟨b, off, none⟩) (c := cap) hnl
        (fun j u hu => by
          rw [List.getElem?_take] at hu
          split at hu
          · rw [add_off]; exact g2 j u hu
          · simp at hu) (fun u hu => g3 u (List.mem_of_mem_take hu)) hfit ty
      obtain ⟨w1, w2, w3, w4⟩ := setRow_world w m.b (patchG cs.toList 0 (news.take (min es.length elems.length * te.size))).toArray
      refine ⟨_, _, hrun, ?_, Reads.int _ _⟩
      refine Eff.write s hm hobj (obj' := .arr te.size (es.take elems.length ++ elems.drop es.length)) (by simp [fpE]) (b := m.b) (by simp [fpE, hnil]) w4 (fun k hk => setRow_other w m.b k _ hk) w1 w2 w3 fun hI => ?_
      have hfit' : 0 + (news.take (min es.length elems.length * te.size)).length ≤ cs.toList.length := by simpa using hfit
      refine ⟨h1, ?_, fun h => by simp [hnil] at h, fun _ => ⟨by omega, _, et, setRow_heap w m.b cs _ et _ hb, ?_, ?_, fun i j d hd => ?_⟩⟩
      · simp only [List.length_append, List.length_take, List.length_drop]; omega
      · rw [← h4]
        simp only [List.size_toArray]
        rw [patchG_length hfit']; simp
      · intro x hx
        rcases List.mem_append.1 hx with h | h
        · exact hlen x (List.mem_of_mem_take h)
        · exact h5 x (List.mem_of_mem_drop h)
      · simp only [List.getElem?_toArray]
        rw [patchG_at hfit', hnl]
        rcases at2_append hd with ⟨hl, hat⟩ | ⟨hl, hat⟩
        · rw [List.length_take] at hl
          have hat' : at2 es i j = some d := by
            simp only [at2, List.getElem?_take] at hat ⊢
            split at hat
            · exact hat
            · simp at hat
          obtain ⟨v, p, q⟩ := g4 i j d hat'
          have hj : j < te.size := by
            simp only [at2, Option.bind_eq_some_iff] at hat'
            obtain ⟨y, hy, hyd⟩ := hat'
            have := hlen y (List.mem_of_getElem? hy)
            rcases Nat.lt_or_ge j y.length with h | h
            · omega
            · rw [List.getElem?_eq_none h] at hyd; simp at hyd
          have hlt : i * te.size + j < min es.length elems.length * te.size := by
            have : (i + 1) * te.size ≤ min es.length elems.length * te.size := Nat.mul_le_mul_right _ (by omega)
            rw [Nat.add_mul] at this; omega
          refine ⟨v, ?_, q.mono hI (fun _ h => h)⟩
          rw [if_pos (by omega), Nat.sub_zero, List.getElem?_take, if_pos hlt]
          exact p
        · rw [List.length_take] at hl hat
          have hat' : at2 elems i j = some d := by
            have hi : es.length ≤ i := by
              rcases Nat.lt_or_ge elems.length es.length with h | h
              · exfalso
                have : elems.drop es.length = [] := List.drop_eq_nil_of_le (by omega)
                rw [this] at hat; simp [at2] at hat
              · omega
            simp only [at2, List.getElem?_drop] at hat ⊢
            rcases Nat.lt_or_ge elems.length es.length with h | h
            · exfalso
              rw [List.getElem?_eq_none (by omega)] at hat; simp at hat
            · rw [show es.length + (i - min elems.length es.length) = i by omega] at hat
              exact hat
          obtain ⟨v, p, q⟩ := h6 i j d hat'
          refine ⟨v, ?_, q.mono hI (fun _ h => h)⟩
          have hge : min es.length elems.length * te.size ≤ i * te.size := Nat.mul_le_mul_right _ (by omega)
          rw [if_neg (by omega)]
          simpa using p
end

end Go.AM
