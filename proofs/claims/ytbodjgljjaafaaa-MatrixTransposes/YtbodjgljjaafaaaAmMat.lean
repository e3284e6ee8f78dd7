/- The abstract machine: slices of slices whose rows the call owns; slices of an own slice. -/
import Derived.Test.YtbodjgljjaafaaaAmCopy
namespace Go.AM

section
variable {P : Program} {I : Nat → Prop} {M : Mem} {h : Heap} {w : World}

/-- Objects os become object nid; an object that is gone may say what its value is now. -/
theorem Eff.merge (s : SimH I M h w) {os : List Nat} {nid : Nat} (hn : M[nid]? = some none) {e' : ME} {obj' : Obj} {w' : World} {h' : Heap} (hlen : h'.length = h.length) (hnid : h'[nid]? = some (some obj'))
    (hos : ∀ o ∈ os, o ≠ nid ∧ (h'[o]? = some none ∨ h'[o]? = some (some (.fwd (.ref nid))) ∧ ∃ e, M[o]? = some (some e) ∧ e.val = e'.val)) (hother : ∀ o, o ∉ nid :: os → h'[o]? = h[o]?)
    (hsz : w.heap.size ≤ w'.heap.size) (hheap : ∀ k, k < w.heap.size → (∀ o ∈ os, k ∉ fpAt M h o) → w'.heap[k]? = w.heap[k]?) (ho : w'.os = w.os) (ht : w'.tape = w.tape) (hp : w'.output = w.output)
    (hfp : ∀ b ∈ fpE e' obj', b < w'.heap.size ∧ (w.heap.size ≤ b ∨ ∃ o ∈ os, b ∈ fpAt M h o)) (hnd : (fpE e' obj').Nodup)
    (hok : (∀ b, I b → w'.heap[b]? = w.heap[b]?) → M.le (M.set nid (some e')) → ObjOK w' I (M.set nid (some e')) e' obj') :
    Eff (nid :: os) I M h w I (M.set nid (some e')) h' w' := by
  have hlt := lt_of_none hn
  have hmono : M.le (M.set nid (some e')) := fun o' e1 h1 => by
    by_cases heq : nid = o'
    · subst heq; rw [hn] at h1; simp at h1
    · rw [List.getElem?_set_ne heq]; exact h1
  have hget : (M.set nid (some e'))[nid]? = some (some e') := by simp [hlt]
  have hfpn : fpAt (M.set nid (some e')) h' nid = fpE e' obj' := by simp only [fpAt, hget, hnid]
  have hfpo : ∀ o ∈ os, fpAt (M.set nid (some e')) h' o = [] := fun o ho => by
    obtain ⟨hne, hor⟩ := hos o ho
    rcases hor with h1 | ⟨h1, e, he, _⟩
    · simp only [fpAt, h1]
    · have : (M.set nid (some e'))[o]? = some (some e) := hmono o e he
      simp only [fpAt, h1, this, fpE]
  have hI : ∀ b, I b → w'.heap[b]? = w.heap[b]? := fun b hb => hheap b (s.imm b hb).1 fun o _ => (s.imm b hb).2 o
  have hz : ∀ o ∈ nid :: os, ∀ b, b ∈ fpAt (M.set nid (some e')) h' o → o = nid := fun o ho b hb => by
    rcases List.mem_cons.1 ho with rfl | ho
    · rfl
    · rw [hfpo o ho] at hb; simp at hb
  refine ⟨by simp, hlen, hmono, fun o' ho' => ?_, hother, ho, ht, hp, hsz, fun b hb hnb => hheap b hb fun o ho => hnb o (by simp [ho]), fun _ h => h,
    fun b hb => ⟨by have := (s.imm b hb).1; omega, .inl hb⟩, fun o' ho' obj'' hobj'' => ?_, fun o1 o2 b h1 h2 b1 b2 => (hz o1 h1 b b1).trans (hz o2 h2 b b2).symm, fun o' ho' => ?_, fun o' b ho' hb => ?_⟩
  · simp only [List.mem_cons, not_or] at ho'
    rw [List.getElem?_set_ne (Ne.symm ho'.1)]
  · rcases List.mem_cons.1 ho' with rfl | hin
    · rw [hnid] at hobj''; simp only [Option.some.injEq] at hobj''; subst hobj''
      exact ⟨e', hget, hok hI hmono⟩
    · obtain ⟨hne, hor⟩ := hos o' hin
      rcases hor with h1 | ⟨h1, e, he, hv⟩
      · rw [h1] at hobj''; simp at hobj''
      · rw [h1] at hobj''; simp only [Option.some.injEq] at hobj''; subst hobj''
        exact ⟨e, hmono o' e he, e', hget, hv⟩
  · rcases List.mem_cons.1 ho' with rfl | hin
    · rw [hfpn]; exact hnd
    · rw [hfpo o' hin]; exact List.nodup_nil
  · have := hz o' ho' b hb; subst this
    rw [hfpn] at hb
    obtain ⟨h1, h2⟩ := hfp b hb
    exact ⟨h1, h2.imp id fun ⟨o, ho, hbo⟩ => ⟨o, by simp [ho], hbo⟩⟩

/-- The value of a row of its own. -/
theorem rowOK_of {s' : Nat} {els : List (List D)} {e : ME} (hok : ObjOK w I M e (.arr s' els)) : RowOK w I s' e.val els := by
  obtain ⟨h1, h2, h0, hh⟩ := hok
  cases hnil : e.nil with
  | true => have := h0 hnil; subst this; exact ⟨none, 0, by simp [ME.val, hnil], fun h => absurd rfl h⟩
  | false =>
    obtain ⟨h3, cs, t, hb, h4, h5, h6⟩ := hh hnil
    exact ⟨some ⟨e.b, 0, none⟩, e.cap, by simp [ME.val, hnil, h2], fun _ => ⟨e.b, cs, t, rfl, hb, h4, h2 ▸ h3, h5, h6⟩⟩

theorem rowBlk_val {s' : Nat} {els : List (List D)} {e : ME} {b : Nat} (h : b ∈ rowBlk e.val) : b ∈ fpE e (.arr s' els) := by
  cases hnil : e.nil with
  | true => simp [ME.val, hnil, rowBlk] at h
  | false =>
    simp only [ME.val, hnil, Bool.false_eq_true, if_false] at h
    cases hn : e.n with
    | zero => rw [hn] at h; simp [rowBlk] at h
    | succ q => rw [hn] at h; simpa [rowBlk, fpE, hnil] using h

theorem rowBlk_nodup (v : Value) : (rowBlk v).Nodup := by
  unfold rowBlk; split
  · simp
  · exact List.nodup_nil

theorem nodup_flat_set {l : List Value} {i : Nat} {x : Value} (hl : (l.flatMap rowBlk).Nodup) (hx : ∀ b ∈ rowBlk x, ∀ v ∈ l, b ∉ rowBlk v) : ((l.set i x).flatMap rowBlk).Nodup := by
  induction l generalizing i with
  | nil => simp
  | cons z l ih =>
    rw [List.flatMap_cons, List.nodup_append] at hl
    cases i with
    | zero =>
      rw [List.set_cons_zero, List.flatMap_cons, List.nodup_append]
      refine ⟨rowBlk_nodup x, hl.2.1, fun a ha b hb hab => ?_⟩
      subst hab
      obtain ⟨v, hv, hbv⟩ := List.mem_flatMap.1 hb
      exact hx a ha v (by simp [hv]) hbv
    | succ i =>
      rw [List.set_cons_succ, List.flatMap_cons, List.nodup_append]
      refine ⟨rowBlk_nodup z, ih hl.2.1 (fun b hb v hv => hx b hb v (by simp [hv])), fun a ha b hb hab => ?_⟩
      subst hab
      obtain ⟨v, hv, hbv⟩ := List.mem_flatMap.1 hb
      rcases List.mem_or_eq_of_mem_set hv with h1 | rfl
      · exact hl.2.2 a ha a (List.mem_flatMap.2 ⟨v, h1, hbv⟩) rfl
      · exact hx a hbv z (by simp) ha

/-- A row of its own is put into an own slice of slices. -/
def xrowStore (T : Tab) (h : Heap) (nid t : Nat) (a v : V) : Option (Heap × List Nat × List Prop) :=
  match a, v with
  | .e (.sc (.mptr o i)), .e (.sc (.ref o2)) =>
    match h[o]?, h[o2]? with
    | some (some (.mat s rows)), some (some (.arr s2 els)) =>
      match tfind T t with
      | some ti => if s == s2 && o != o2 && ti.size == 1 then some (((h.set o (some (.fwd (.ref nid)))).set o2 none).set nid (some (.mat s (rows.set i els))), [nid, o, o2], []) else none
      | none => none
    | _, _ => none
  | _, _ => none

theorem xrowStore_ok {T : Tab} (hT : TOK P T) {nid t : Nat} {a v : V} {h' : Heap} {ids : List Nat} {obs : List Prop} (hx : xrowStore T h nid t a v = some (h', ids, obs))
    (s : SimH I M h w) (hn : M[nid]? = some none) {u x : Value} (hu : RelV w I M u a) (hv : RelV w I M x v) :
    ∃ M' w', (Instr.storeAt t u x).run P w = .ok () w' ∧ Eff ids I M h w I M' h' w' := by
  unfold xrowStore at hx
  split at hx
  case h_2 => simp at hx
  rename_i o i o2
  split at hx
  case h_2 => simp at hx
  rename_i s' rows s2 els hobj hobj2
  split at hx
  case h_2 => simp at hx
  rename_i ti hti
  split at hx
  case isFalse => simp at hx
  rename_i hc
  simp only [Bool.and_eq_true, beq_iff_eq, bne_iff_ne, ne_eq] at hc
  obtain ⟨⟨rfl, hoo⟩, hsz⟩ := hc
  simp only [Option.some.injEq, Prod.mk.injEq] at hx
  obtain ⟨rfl, rfl, rfl⟩ := hx
  obtain ⟨e, he, hi, rfl⟩ := hu
  obtain ⟨e', he', h1, h2, h4, h0, hh⟩ := s.obj o _ hobj
  rw [he] at he'; simp only [Option.some.injEq] at he'; subst he'
  obtain ⟨e2, he2, rfl⟩ := hv
  obtain ⟨e2', he2', hok2⟩ := s.obj o2 _ hobj2
  rw [he2] at he2'; simp only [Option.some.injEq] at he2'; subst he2'
  have hnil := e.nil_of (fun h => by rw [h0 h] at h2; simp at h2; omega)
  obtain ⟨h3, cs, t', hb, h5, h6, h7⟩ := hh hnil
  have hone : e2.val.oneCell' = true := by cases hq : e2.nil <;> simp [ME.val, hq, Value.oneCell']
  have hcell : e2.val.cells = #[e2.val] := by cases hq : e2.nil <;> simp [ME.val, hq, Value.cells]
  have hrun := run_storeVar (P := P) (hT.find hti) (v := e2.val) (off := i) hb (by rw [hcell, hsz]; rfl) (by rw [hcell, h5]; simp only [List.size_toArray, List.length_singleton]; omega) (by rw [hcell]; simpa using hone)
  rw [hcell] at hrun
  obtain ⟨w1, w2, w3, w4⟩ := setRow_world w e.b (patchG cs.toList i [e2.val]).toArray
  have hne1 : o ≠ nid := fun heq => by subst heq; rw [hn] at he; simp at he
  have hne2 : o2 ≠ nid := fun heq => by subst heq; rw [hn] at he2; simp at he2
  have hlth : nid < h.length := s.len ▸ lt_of_none hn
  have hol : o < h.length := by
    rcases Nat.lt_or_ge o h.length with hl | hl
    · exact hl
    · rw [List.getElem?_eq_none hl] at hobj; simp at hobj
  have ho2l : o2 < h.length := by
    rcases Nat.lt_or_ge o2 h.length with hl | hl
    · exact hl
    · rw [List.getElem?_eq_none hl] at hobj2; simp at hobj2
  have hfpo : fpAt M h o = e.b :: e.rows.flatMap rowBlk := by simp only [fpAt, hobj, he, fpE, hnil, Bool.false_eq_true, if_false]
  have hfp2 : fpAt M h o2 = fpE e2 (.arr s' els) := by simp only [fpAt, hobj2, he2]
  have hbo : e.b ∈ fpAt M h o := by rw [hfpo]; simp
  have hdis : ∀ b, b ∈ rowBlk e2.val → b ∉ fpAt M h o := fun b hb hbo => hoo (s.disj o o2 b hbo (hfp2 ▸ rowBlk_val hb))
  have hnd := s.nd o
  rw [hfpo, List.nodup_cons] at hnd
  have hmem : ∀ b, b ∈ (e.rows.set i e2.val).flatMap rowBlk → b ∈ rowBlk e2.val ∨ b ∈ e.rows.flatMap rowBlk := fun b hb => by
    obtain ⟨v, hv, hbv⟩ := List.mem_flatMap.1 hb
    rcases List.mem_or_eq_of_mem_set hv with h1 | rfl
    · exact .inr (List.mem_flatMap.2 ⟨v, h1, hbv⟩)
    · exact .inl hbv
  refine ⟨M.set nid (some { e with rows := e.rows.set i e2.val }), _, by simpa [Instr.storeAt, Instr.sureAddr] using hrun, ?_⟩
  refine Eff.merge s (os := [o, o2]) hn (e' := { e with rows := e.rows.set i e2.val }) (obj' := .mat s' (rows.set i els)) (by simp) (by simp [hlth]) (fun o' ho' => ?_) (fun o' ho' => ?_) (by rw [w4]; exact Nat.le_refl _)
    (fun k hk hk2 => setRow_other w e.b k _ fun heq => hk2 o (by simp) (heq ▸ hbo)) w1 w2 w3 (fun b hb => ?_) ?_ fun hI _ => ?_
  · simp only [List.mem_cons, List.not_mem_nil, or_false] at ho'
    rcases ho' with rfl | rfl
    · refine ⟨hne1, .inr ⟨?_, e, he, ?_⟩⟩
      · rw [List.getElem?_set_ne (Ne.symm hne1), List.getElem?_set_ne (Ne.symm hoo)]; simp [hol]
      · simp [ME.val]
    · refine ⟨hne2, .inl ?_⟩
      rw [List.getElem?_set_ne (Ne.symm hne2)]; simp [ho2l]
  · simp only [List.mem_cons, List.not_mem_nil, or_false, not_or] at ho'
    rw [List.getElem?_set_ne (Ne.symm ho'.1), List.getElem?_set_ne (Ne.symm ho'.2.2), List.getElem?_set_ne (Ne.symm ho'.2.1)]
  · simp only [fpE, hnil, Bool.false_eq_true, if_false, List.mem_cons] at hb
    rw [w4]
    rcases hb with rfl | hb
    · exact ⟨s.lt o _ hbo, .inr ⟨o, by simp, hbo⟩⟩
    · rcases hmem b hb with g | g
      · have : b ∈ fpAt M h o2 := hfp2 ▸ rowBlk_val g
        exact ⟨s.lt o2 b this, .inr ⟨o2, by simp, this⟩⟩
      · have : b ∈ fpAt M h o := by rw [hfpo]; simp only [List.mem_cons]; exact .inr g
        exact ⟨s.lt o b this, .inr ⟨o, by simp, this⟩⟩
  · simp only [fpE, hnil, Bool.false_eq_true, if_false, List.nodup_cons]
    refine ⟨fun hb => ?_, nodup_flat_set hnd.2 fun b hb v hv hbv => hdis b hb ?_⟩
    · rcases hmem _ hb with h | h
      · exact hdis _ h hbo
      · exact hnd.1 h
    · rw [hfpo]; simp only [List.mem_cons]; exact .inr (List.mem_flatMap.2 ⟨v, hv, hbv⟩)
  · have hpl : i + [e2.val].length ≤ cs.toList.length := by simp only [List.length_singleton, Array.length_toList, h5]; omega
    refine ⟨h1, by simp [h2], by simp [h4], fun h => by simp [hnil] at h, fun _ => ⟨h3, _, t', setRow_heap w e.b cs _ t' _ hb, ?_, fun k v hk => ?_, fun k v elems hk hel => ?_⟩⟩
    · rw [← h5]
      simp only [List.size_toArray]
      rw [patchG_length hpl]; simp
    · simp only [List.getElem?_toArray]
      rw [patchG_at hpl]
      by_cases hki : i = k
      · subst hki
        have : i < e.rows.length := by omega
        simp only [List.getElem?_set, this, if_true, Option.some.injEq] at hk; subst hk
        rw [if_pos (by simp)]; simp
      · rw [List.getElem?_set_ne hki] at hk
        rw [if_neg (by simp; omega)]
        have := h6 k v hk
        simpa using this
    · by_cases hki : i = k
      · subst hki
        have : i < e.rows.length := by omega
        have hr : i < rows.length := by omega
        simp only [List.getElem?_set, this, hr, if_true, Option.some.injEq] at hk hel; subst hk; subst hel
        refine (rowOK_of hok2).mono hI (fun _ h => h) fun b hb => setRow_other w e.b b _ fun heq => hdis b hb (heq ▸ hbo)
      · rw [List.getElem?_set_ne hki] at hk hel
        refine (h7 k v elems hk hel).mono hI (fun _ h => h) fun b hb => setRow_other w e.b b _ fun heq => ?_
        subst heq
        exact hnd.1 (List.mem_flatMap.2 ⟨v, List.mem_of_getElem? hk, hb⟩)
end

end Go.AM
