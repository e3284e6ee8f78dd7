/- The abstract machine: '[][]T{..}' and append, over rows that the call owns. -/
import Derived.Test.YtbodjgljjaafaaaAmMat
namespace Go.AM

section
variable {P : Program} {I : Nat → Prop} {M : Mem} {h : Heap} {w : World}

theorem run_buildSlice {T : Tab} (hT : TOK P T) {σ : St} {a : Act} (s : Sim I M σ a w) {t len e : Nat} {parts : Array (Nat × Operand)} {te : TI} (hund : P.underlying t = some (.slice e)) (hte : tfind T e = some te) (hle : len * te.size ≤ 16777216)
    {ps : List (Nat × E)} (hps : evParts σ.t parts.toList = some ps) {cells : List S} (hfill : xfill (fun i => some (i * te.size, te.size)) (zrep te (len * te.size)) ps = some cells) :
    ∃ arr : Array Value, (Instr.buildSlice t len (parts.map fun p => (p.1, a.eval p.2))).run P w = .ok (.slice (some ⟨w.heap.size, 0, none⟩) len len) { w with heap := w.heap.push (.cells arr e) } ∧ RelL w I M arr.toList cells := by
  have he := hT.find hte
  obtain ⟨h1, h2⟩ := evParts_ok s _ _ hps
  obtain ⟨z, hz, hzl⟩ := he.zeroValue
  obtain ⟨cs', hf, hrel⟩ := xfill_ok (w := w) (I := I) (M := M) (fun i => some (i * te.size, te.size)) ps _ _ _ ((Array.range (len * te.size)).map (z.cells[· % z.cells.size]!)) hfill h1 h2 (zrep_ok te he.zone hzl _)
  refine ⟨cs', ?_, hrel⟩
  have hsm : ¬ (16777216 < len * te.size) := by omega
  by_cases h0 : len * te.size = 0
  · have hcs0 : (Array.range (len * te.size)).map (z.cells[· % z.cells.size]!) = #[] := by rw [h0, Array.range_zero', Array.map_empty]
    rw [hcs0] at hf
    simp only [Instr.buildSlice, Sem.run_bind, run_underlying hund, Result.andThen, he.sizeOf]
    rw [if_neg (by simpa using hsm), h0]
    simp only [if_true, Sem.run_pure, Array.range_zero', Array.map_empty, Array.toList_map, Sem.run_bind, Result.andThen, hf]
    simp [newRow]
  · simp only [Instr.buildSlice, Sem.run_bind, run_underlying hund, Result.andThen, he.sizeOf]
    rw [if_neg (by simpa using hsm), if_neg h0]
    simp only [Sem.run_bind, hz, Result.andThen, Sem.run_pure, Array.toList_map, hf]
    simp [newRow]

def xbuildRows (T : Tab) (σ : St) (nid t len : Nat) (parts : List (Nat × Operand)) : Option (V × Heap × List Nat × List Prop) :=
  match tfind T t with
  | some ti =>
    match ti.k with
    | .slice e =>
      match tfind T e, evParts σ.t parts with
      | some te, some ps =>
        match te.k with
        | .slice e2 => match tfind T e2 with
          | some te2 =>
            if te.size == 1 && decide (len ≤ 1) then
              match xfill (fun i => some (i * te.size, te.size)) (zrep te (len * te.size)) ps with
              | some [] => if len == 0 then some (.e (.sc (.ref nid)), σ.h.set nid (some (.mat te2.size [])), [nid], []) else none
              | some [.ref o2] => match σ.h[o2]? with
                | some (some (.arr s els)) => if s == te2.size && len == 1 then some (.e (.sc (.ref nid)), (σ.h.set o2 none).set nid (some (.mat s [els])), [nid, o2], []) else none
                | _ => none
              | _ => none
            else none
          | none => none
        | _ => none
      | _, _ => none
    | _ => none
  | none => none

theorem xbuildRows_ok {T : Tab} (hT : TOK P T) {σ : St} {a : Act} (s : Sim I M σ a w) {nid t len : Nat} {parts : Array (Nat × Operand)} {r : V} {h' : Heap} {ids : List Nat} {obs : List Prop}
    (hx : xbuildRows T σ nid t len parts.toList = some (r, h', ids, obs)) (hn : M[nid]? = some none) :
    ∃ x I' M' w', (Instr.buildSlice t len (parts.map fun p => (p.1, a.eval p.2))).run P w = .ok x w' ∧ Eff ids I M σ.h w I' M' h' w' ∧ RelV w' I' M' x r := by
  unfold xbuildRows at hx
  split at hx
  case h_2 => simp at hx
  rename_i ti hti
  split at hx
  case h_2 => simp at hx
  rename_i e hk
  have hund := (hT.find hti).slice hk
  split at hx
  case h_2 => simp at hx
  rename_i te ps hte hps
  split at hx
  case h_2 => simp at hx
  rename_i e2 hk2
  split at hx
  case h_2 => simp at hx
  rename_i te2 hte2
  split at hx
  case isFalse => simp at hx
  rename_i hc
  simp only [Bool.and_eq_true, beq_iff_eq, decide_eq_true_eq] at hc
  obtain ⟨hs1, hl1⟩ := hc
  split at hx
  · rename_i hfill
    split at hx
    case isFalse => simp at hx
    rename_i hl0
    simp only [beq_iff_eq] at hl0; subst hl0
    simp only [Option.some.injEq, Prod.mk.injEq] at hx
    obtain ⟨rfl, rfl, rfl, rfl⟩ := hx
    obtain ⟨arr, hrun, hrel⟩ := run_buildSlice hT s hund hte (by omega) hps hfill
    refine ⟨_, I, M.set nid (some ⟨false, w.heap.size, 0, 0, te2.size, []⟩), _, hrun, ?_, ⟨false, w.heap.size, 0, 0, te2.size, []⟩, by simp [lt_of_none hn], rfl⟩
    have ha : arr.size = 0 := by have := hrel.1; simpa using this
    exact Eff.new s.toSimH hn (e := ⟨false, w.heap.size, 0, 0, te2.size, []⟩) rfl rfl rfl rfl (by simp [fpE]) fun hI hm =>
      ⟨rfl, rfl, rfl, fun h => by simp at h, fun _ => ⟨Nat.le_refl _, arr, e, push_new, ha, fun k v hk => by simp at hk, fun k v el hk => by simp at hk⟩⟩
  · rename_i o2 hfill
    split at hx
    case h_2 => simp at hx
    rename_i s' els hobj
    split at hx
    case isFalse => simp at hx
    rename_i hc2
    simp only [Bool.and_eq_true, beq_iff_eq] at hc2
    obtain ⟨hss, rfl⟩ := hc2
    simp only [Option.some.injEq, Prod.mk.injEq] at hx
    obtain ⟨rfl, rfl, rfl, rfl⟩ := hx
    obtain ⟨arr, hrun, hrel⟩ := run_buildSlice hT s hund hte (by omega) hps hfill
    obtain ⟨m, hm, hok⟩ := s.obj o2 _ hobj
    have hal : arr.toList.length = 1 := by simpa using hrel.1
    have harr : arr = #[m.val] := by
      obtain ⟨l⟩ := arr
      match l, hal with
      | [x], _ =>
        obtain ⟨m', hm', hv⟩ := hrel.2 0 x _ rfl rfl
        rw [hm] at hm'; simp only [Option.some.injEq] at hm'; subst hm'
        rw [hv]
    subst harr
    have hne : o2 ≠ nid := fun heq => by subst heq; rw [hn] at hm; simp at hm
    have hlth : nid < σ.h.length := s.len ▸ lt_of_none hn
    have ho2l : o2 < σ.h.length := by
      rcases Nat.lt_or_ge o2 σ.h.length with hl | hl
      · exact hl
      · rw [List.getElem?_eq_none hl] at hobj; simp at hobj
    have hfp2 : fpAt M σ.h o2 = fpE m (.arr s' els) := by simp only [fpAt, hobj, hm]
    refine ⟨_, I, M.set nid (some ⟨false, w.heap.size, 1, 1, s', [m.val]⟩), _, hrun, ?_, ⟨false, w.heap.size, 1, 1, s', [m.val]⟩, by simp [lt_of_none hn], rfl⟩
    refine Eff.merge s.toSimH (os := [o2]) hn (e' := ⟨false, w.heap.size, 1, 1, s', [m.val]⟩) (obj' := .mat s' [els]) (by simp) (by simp [hlth]) (fun o' ho' => ?_) (fun o' ho' => ?_) (by simp) (fun k hk _ => push_old hk) rfl rfl rfl
      (fun b hb => ?_) ?_ fun hI _ => ?_
    · simp only [List.mem_cons, List.not_mem_nil, or_false] at ho'
      subst ho'
      exact ⟨hne, .inl (by rw [List.getElem?_set_ne (Ne.symm hne)]; simp [ho2l])⟩
    · simp only [List.mem_cons, List.not_mem_nil, or_false, not_or] at ho'
      rw [List.getElem?_set_ne (Ne.symm ho'.1), List.getElem?_set_ne (Ne.symm ho'.2)]
    · simp only [fpE, Bool.false_eq_true, if_false, List.mem_cons, List.flatMap_cons, List.flatMap_nil, List.append_nil] at hb
      rcases hb with rfl | hb
      · exact ⟨by simp, .inl (Nat.le_refl _)⟩
      · have : b ∈ fpAt M σ.h o2 := hfp2 ▸ rowBlk_val hb
        exact ⟨by have := s.lt o2 b this; simp; omega, .inr ⟨o2, by simp, this⟩⟩
    · simp only [fpE, Bool.false_eq_true, if_false, List.flatMap_cons, List.flatMap_nil, List.append_nil, List.nodup_cons]
      refine ⟨fun hb => ?_, rowBlk_nodup _⟩
      have : w.heap.size ∈ fpAt M σ.h o2 := hfp2 ▸ rowBlk_val hb
      exact Nat.lt_irrefl _ (s.lt o2 _ this)
    · refine ⟨rfl, rfl, rfl, fun h => by simp at h, fun _ => ⟨Nat.le_refl _, #[m.val], e, push_new, rfl, fun k v hk => by simpa using hk, fun k v el hk hel => ?_⟩⟩
      match k, hk, hel with
      | 0, hk, hel =>
        simp only [List.getElem?_cons_zero, Option.some.injEq] at hk hel; subst hk; subst hel
        exact (rowOK_of hok).mono hI (fun _ h => h) fun b hb => push_old (s.lt o2 b (hfp2 ▸ rowBlk_val hb))
      | k + 1, hk, hel => simp at hk
  · simp at hx

def xappRows (T : Tab) (h : Heap) (nid t : Nat) (sv xv : V) : Option (V × Heap × List Nat × List Prop) :=
  match tfind T t with
  | some ti =>
    match ti.k with
    | .slice e =>
      match tfind T e with
      | some te =>
        if te.bytes == 0 || te.size != 1 || te.zero.length != 1 then none else
        match sv, xv with
        | .e (.sc (.ref o)), .e (.sc (.ref o3)) =>
          match h[o]?, h[o3]? with
          | some (some (.mat s rows)), some (some (.mat s3 rows3)) =>
            if s == s3 && o != o3 then some (.e (.sc (.ref nid)), ((h.set o none).set o3 none).set nid (some (.mat s (rows ++ rows3))), [nid, o, o3], [(rows.length + rows3.length) * te.bytes ≤ 140737488355328])
            else none
          | _, _ => none
        | _, _ => none
      | none => none
    | _ => none
  | none => none

theorem xappRows_ok {T : Tab} (hT : TOK P T) {nid t : Nat} {sv xv r : V} {h' : Heap} {ids : List Nat} {obs : List Prop} (hx : xappRows T h nid t sv xv = some (r, h', ids, obs)) (ho : AllP obs)
    (s : SimH I M h w) (hn : M[nid]? = some none) {u x : Value} (hu : RelV w I M u sv) (hxr : RelV w I M x xv) (ty : TypeId) :
    ∃ y I' M' w', (Builtin.append_ #[t, t] ty #[u, x]).run P w = .ok y w' ∧ Eff ids I M h w I' M' h' w' ∧ RelV w' I' M' y r := by
  unfold xappRows at hx
  split at hx
  case h_2 => simp at hx
  rename_i ti hti
  split at hx
  case h_2 => simp at hx
  rename_i e hk
  have hund := (hT.find hti).slice hk
  split at hx
  case h_2 => simp at hx
  rename_i te hte
  have he := hT.find hte
  split at hx
  · simp at hx
  rename_i hbz
  simp only [Bool.or_eq_true, beq_iff_eq, bne_iff_ne, ne_eq, not_or, Decidable.not_not] at hbz
  obtain ⟨⟨hb0, hs1⟩, hz1⟩ := hbz
  split at hx
  case h_2 => simp at hx
  rename_i o o3
  split at hx
  case h_2 => simp at hx
  rename_i s' rows s3 rows3 hobj hobj3
  split at hx
  case isFalse => simp at hx
  rename_i hc
  simp only [Bool.and_eq_true, beq_iff_eq, bne_iff_ne, ne_eq] at hc
  obtain ⟨rfl, hoo⟩ := hc
  simp only [Option.some.injEq, Prod.mk.injEq] at hx
  obtain ⟨rfl, rfl, rfl, rfl⟩ := hx
  have hbytes := ho.1
  obtain ⟨m, hm, rfl⟩ := hu
  obtain ⟨m', hm', a1, a2, a4, a0, ah⟩ := s.obj o _ hobj
  rw [hm] at hm'; simp only [Option.some.injEq] at hm'; subst hm'
  obtain ⟨q, hq, rfl⟩ := hxr
  obtain ⟨q', hq', b1, b2, b4, b0, bh⟩ := s.obj o3 _ hobj3
  rw [hq] at hq'; simp only [Option.some.injEq] at hq'; subst hq'
  obtain ⟨f, z', hinf, hf1, hf2, hf3, hf4⟩ := he.info
  have hlt := lt_of_none hn
  have hsmall : rows.length + rows3.length ≤ 140737488355328 := by
    have : (rows.length + rows3.length) * 1 ≤ (rows.length + rows3.length) * te.bytes := Nat.mul_le_mul_left _ (by omega)
    omega
  have hgetn : ∀ e' : ME, (M.set nid (some e'))[nid]? = some (some e') := fun e' => by simp [hlt]
  have hne : o ≠ nid := fun heq => by subst heq; rw [hn] at hm; simp at hm
  have hne3 : o3 ≠ nid := fun heq => by subst heq; rw [hn] at hq; simp at hq
  have hlth : nid < h.length := s.len ▸ hlt
  have hol : o < h.length := by
    rcases Nat.lt_or_ge o h.length with hl | hl
    · exact hl
    · rw [List.getElem?_eq_none hl] at hobj; simp at hobj
  have ho3l : o3 < h.length := by
    rcases Nat.lt_or_ge o3 h.length with hl | hl
    · exact hl
    · rw [List.getElem?_eq_none hl] at hobj3; simp at hobj3
  have hfpo : fpAt M h o = if m.nil then [] else m.b :: m.rows.flatMap rowBlk := by simp only [fpAt, hobj, hm, fpE]
  have hfp3 : fpAt M h o3 = if q.nil then [] else q.b :: q.rows.flatMap rowBlk := by simp only [fpAt, hobj3, hq, fpE]
  have rowsE : ∀ {m : ME} {rows : List (List (List D))}, m.rows.length = rows.length → (m.nil = true → rows = []) → m.nil = true → m.rows = [] := fun h1 h2 h3 => by
    have := h2 h3; subst this; exact List.length_eq_zero_iff.1 (by simpa using h1)
  have in1 : ∀ b, b ∈ m.rows.flatMap rowBlk → b ∈ fpAt M h o := fun b hb => by
    rw [hfpo]
    cases hnil : m.nil with
    | true => rw [rowsE a4 a0 hnil] at hb; simp at hb
    | false => simp only [Bool.false_eq_true, if_false, List.mem_cons]; exact .inr hb
  have in3 : ∀ b, b ∈ q.rows.flatMap rowBlk → b ∈ fpAt M h o3 := fun b hb => by
    rw [hfp3]
    cases hnil : q.nil with
    | true => rw [rowsE b4 b0 hnil] at hb; simp at hb
    | false => simp only [Bool.false_eq_true, if_false, List.mem_cons]; exact .inr hb
  have nd1 : (m.rows.flatMap rowBlk).Nodup := by
    have := s.nd o
    rw [hfpo] at this
    cases hnil : m.nil with
    | true => rw [rowsE a4 a0 hnil]; exact List.nodup_nil
    | false => rw [hnil] at this; simp only [Bool.false_eq_true, if_false, List.nodup_cons] at this; exact this.2
  have nd3 : (q.rows.flatMap rowBlk).Nodup := by
    have := s.nd o3
    rw [hfp3] at this
    cases hnil : q.nil with
    | true => rw [rowsE b4 b0 hnil]; exact List.nodup_nil
    | false => rw [hnil] at this; simp only [Bool.false_eq_true, if_false, List.nodup_cons] at this; exact this.2
  have ndA : ((m.rows ++ q.rows).flatMap rowBlk).Nodup := by
    rw [List.flatMap_append, List.nodup_append]
    exact ⟨nd1, nd3, fun a ha b hb hab => hoo (s.disj o o3 a (in1 a ha) (in3 a (hab ▸ hb)))⟩
  have inA : ∀ b, b ∈ (m.rows ++ q.rows).flatMap rowBlk → ∃ o' ∈ [o, o3], b ∈ fpAt M h o' := fun b hb => by
    rw [List.flatMap_append, List.mem_append] at hb
    rcases hb with hb | hb
    · exact ⟨o, by simp, in1 b hb⟩
    · exact ⟨o3, by simp, in3 b hb⟩
  have rowsOK : ∀ (k : Nat) v el, (m.rows ++ q.rows)[k]? = some v → (rows ++ rows3)[k]? = some el → RowOK w I s' v el := fun k v el hk hel => by
    rcases Nat.lt_or_ge k rows.length with hl | hl
    · rw [List.getElem?_append_left (by omega)] at hk
      rw [List.getElem?_append_left hl] at hel
      cases hnil : m.nil with
      | true => rw [rowsE a4 a0 hnil] at hk; simp at hk
      | false => obtain ⟨_, cs, t', _, _, _, hr⟩ := ah hnil; exact hr k v el hk hel
    · rw [List.getElem?_append_right (by omega)] at hk
      rw [List.getElem?_append_right hl] at hel
      rw [a4] at hk
      cases hnil : q.nil with
      | true => rw [rowsE b4 b0 hnil] at hk; simp at hk
      | false => obtain ⟨_, cs, t', _, _, _, hr⟩ := bh hnil; exact hr _ v el hk hel
  have one3 : ∀ v ∈ q.rows, v.oneCell' = true := fun v hv => by
    obtain ⟨k, hk⟩ := List.mem_iff_getElem?.1 hv
    have hkl : k < rows3.length := by
      rcases Nat.lt_or_ge k q.rows.length with hl | hl
      · omega
      · rw [List.getElem?_eq_none hl] at hk; simp at hk
    obtain ⟨a, cap, rfl, _⟩ := rowsOK (rows.length + k) v _ (by rw [List.getElem?_append_right (by omega), a4, Nat.add_sub_cancel_left]; exact hk) (by rw [List.getElem?_append_right (by omega), Nat.add_sub_cancel_left]; exact List.getElem?_eq_getElem hkl)
    rfl
  -- the common end
  have fin : ∀ (e' : ME) (w' : World), e'.nil = false → e'.s = s' → e'.n = rows.length + rows3.length → e'.rows = m.rows ++ q.rows → w.heap.size ≤ w'.heap.size → (∀ k, k < w.heap.size → k ≠ e'.b → w'.heap[k]? = w.heap[k]?) →
      w'.os = w.os → w'.tape = w.tape → w'.output = w.output → (e'.b = w.heap.size ∨ (m.nil = false ∧ e'.b = m.b)) → e'.b < w'.heap.size → e'.n ≤ e'.cap → (∃ cs t, w'.heap[e'.b]? = some (.cells cs t (0, 0)) ∧ cs.size = e'.cap ∧ ∀ (k : Nat) v, (m.rows ++ q.rows)[k]? = some v → cs[k]? = some v) →
      Eff [nid, o, o3] I M h w I (M.set nid (some e')) (((h.set o none).set o3 none).set nid (some (.mat s' (rows ++ rows3)))) w' := fun e' w' c1 c2 c3 c4 hsz hheap ho ht hp hbb hblt hcap hcs => by
    have hnotin : e'.b ∉ (m.rows ++ q.rows).flatMap rowBlk := fun hb => by
      obtain ⟨o', ho', hbo'⟩ := inA _ hb
      rcases hbb with h1 | ⟨h1, h2⟩
      · have := s.lt o' _ hbo'; omega
      · have hbo : m.b ∈ fpAt M h o := by rw [hfpo, h1]; simp
        rw [h2] at hbo' hb
        have := s.disj o' o _ hbo' hbo; subst this
        have hnd := s.nd o'
        rw [hfpo, h1] at hnd
        simp only [Bool.false_eq_true, if_false, List.nodup_cons] at hnd
        rw [List.flatMap_append, List.mem_append] at hb
        rcases hb with hb | hb
        · exact hnd.1 hb
        · exact hoo (s.disj o' o3 _ hbo (in3 _ hb))
    refine Eff.merge s (os := [o, o3]) hn (e' := e') (obj' := .mat s' (rows ++ rows3)) (by simp) (by simp [hlth]) (fun o' ho' => ?_) (fun o' ho' => ?_) hsz (fun k hk hk2 => hheap k hk fun heq => ?_) ho ht hp (fun b hb => ?_) ?_ fun hI _ => ?_
    · simp only [List.mem_cons, List.not_mem_nil, or_false] at ho'
      rcases ho' with rfl | rfl
      · exact ⟨hne, .inl (by rw [List.getElem?_set_ne (Ne.symm hne), List.getElem?_set_ne (Ne.symm hoo)]; simp [hol])⟩
      · exact ⟨hne3, .inl (by rw [List.getElem?_set_ne (Ne.symm hne3)]; simp [ho3l])⟩
    · simp only [List.mem_cons, List.not_mem_nil, or_false, not_or] at ho'
      rw [List.getElem?_set_ne (Ne.symm ho'.1), List.getElem?_set_ne (Ne.symm ho'.2.2), List.getElem?_set_ne (Ne.symm ho'.2.1)]
    · rcases hbb with h1 | ⟨h1, h2⟩
      · omega
      · exact hk2 o (by simp) (by rw [hfpo, h1, heq, h2]; simp)
    · simp only [fpE, c1, Bool.false_eq_true, if_false, List.mem_cons, c4] at hb
      rcases hb with rfl | hb
      · refine ⟨hblt, ?_⟩
        rcases hbb with h1 | ⟨h1, h2⟩
        · exact .inl (by omega)
        · exact .inr ⟨o, by simp, by rw [hfpo, h1, h2]; simp⟩
      · obtain ⟨o', ho', hbo'⟩ := inA b hb
        exact ⟨by have := s.lt o' b hbo'; omega, .inr ⟨o', ho', hbo'⟩⟩
    · simp only [fpE, c1, Bool.false_eq_true, if_false, List.nodup_cons, c4]
      exact ⟨hnotin, ndA⟩
    · obtain ⟨cs, t, g1, g2, g3⟩ := hcs
      refine ⟨c2, by simp [c3], by simp [c4, a4, b4], fun h => by simp [c1] at h, fun _ => ⟨hcap, cs, t, g1, g2, by rw [c4]; exact g3, fun k v el hk hel => ?_⟩⟩
      rw [c4] at hk
      refine (rowsOK k v el hk hel).mono hI (fun _ h => h) fun b hb => ?_
      have hbin : b ∈ (m.rows ++ q.rows).flatMap rowBlk := List.mem_flatMap.2 ⟨v, List.mem_of_getElem? hk, hb⟩
      obtain ⟨o', ho', hbo'⟩ := inA b hbin
      exact hheap b (s.lt o' b hbo') fun heq => hnotin (heq ▸ hbin)
  have q0 : rows3 = [] → q.rows = [] ∧ ∃ a cap, q.val = .slice a 0 cap := fun h3 => by
    subst h3
    refine ⟨List.length_eq_zero_iff.1 (by simpa using b4), ?_⟩
    cases hnil : q.nil with
    | true => exact ⟨none, 0, by simp [ME.val, hnil]⟩
    | false => exact ⟨some ⟨q.b, 0, none⟩, q.cap, by simp [ME.val, hnil, b2]⟩
  have qv : rows3 ≠ [] → ∃ cs3 t3, q.val = .slice (some ⟨q.b, 0, none⟩) rows3.length q.cap ∧ w.heap[q.b]? = some (.cells cs3 t3 (0, 0)) ∧ ∀ (k : Nat) v, q.rows[k]? = some v → cs3[k]? = some v := fun h3 => by
    cases hnil : q.nil with
    | true => exact absurd (b0 hnil) h3
    | false =>
      obtain ⟨_, cs3, t3, g1, _, g3, _⟩ := bh hnil
      exact ⟨cs3, t3, by simp [ME.val, hnil, b2], g1, g3⟩
  have zs : z'.cells.size = te.size := by
    have := hf4
    have h1 : te.zero.length = z'.cells.size := by rw [← this]; simp
    rw [← h1, hz1, hs1]
  cases hnil : m.nil with
  | true =>
    have hel := a0 hnil; subst hel
    have hmr := rowsE a4 a0 hnil
    by_cases hes : rows3 = []
    · obtain ⟨hqr, a, cap, hqv⟩ := q0 hes
      subst hes
      refine ⟨.slice none 0 0, I, M.set nid (some ⟨true, 0, 0, 0, s', []⟩), w, by rw [hqv]; simpa [ME.val, hnil] using run_app_nothing (P := P) (w := w) hund he (b := none) (n := 0) (cap := 0) (Nat.le_refl _) ty, ?_, ⟨_, hgetn _, rfl⟩⟩
      refine Eff.merge s (os := [o, o3]) hn (e' := ⟨true, 0, 0, 0, s', []⟩) (obj' := .mat s' ([] ++ [])) (by simp) (by simp [hlth]) (fun o' ho' => ?_) (fun o' ho' => ?_) (Nat.le_refl _) (fun _ _ _ => rfl) rfl rfl rfl (fun b hb => by simp [fpE] at hb) (by simp [fpE])
        fun _ _ => ⟨rfl, rfl, rfl, fun _ => rfl, fun h => by simp at h⟩
      · simp only [List.mem_cons, List.not_mem_nil, or_false] at ho'
        rcases ho' with rfl | rfl
        · exact ⟨hne, .inl (by rw [List.getElem?_set_ne (Ne.symm hne), List.getElem?_set_ne (Ne.symm hoo)]; simp [hol])⟩
        · exact ⟨hne3, .inl (by rw [List.getElem?_set_ne (Ne.symm hne3)]; simp [ho3l])⟩
      · simp only [List.mem_cons, List.not_mem_nil, or_false, not_or] at ho'
        rw [List.getElem?_set_ne (Ne.symm ho'.1), List.getElem?_set_ne (Ne.symm ho'.2.2), List.getElem?_set_ne (Ne.symm ho'.2.1)]
    · obtain ⟨cs3, t3, hqv, g1, g3⟩ := qv hes
      have hpos : 0 < rows3.length := List.length_pos_iff.2 hes
      simp only [List.length_nil, Nat.zero_add] at hbytes hsmall
      have hrun := run_append_nil (P := P) w t ty e f z' hund hinf hf3 ⟨q.b, 0, none⟩ rows3.length q.cap q.rows (by rw [hf1, hs1, b4, Nat.mul_one]) (fun j u hu => by rw [add_off, cell_of g1]; simpa using g3 j u hu) hpos (by omega) (by rw [hf2]; omega)
      have hcap := grownCap_ge w rows3.length 0 e
      refine ⟨_, I, M.set nid (some ⟨false, w.heap.size, rows3.length, grownCap w rows3.length 0 e, s', m.rows ++ q.rows⟩), _, by rw [hqv]; simpa [ME.val, hnil] using hrun, ?_, ⟨_, hgetn _, rfl⟩⟩
      refine fin ⟨false, w.heap.size, rows3.length, grownCap w rows3.length 0 e, s', m.rows ++ q.rows⟩ _ rfl rfl (by simp) rfl (by rw [drew_alloc_size]; omega) (fun k hk _ => push_old hk) rfl rfl rfl (.inl rfl) (by rw [drew_alloc_size]; exact Nat.lt_succ_self _) hcap ⟨_, e, push_new, ?_, fun k v hv => ?_⟩
      · simp only [Array.size_append, List.size_toArray, size_zeroCells, b4, zs, hs1]; omega
      · rw [hmr, List.nil_append] at hv
        rw [Array.getElem?_append_left]
        · simpa using hv
        · rcases Nat.lt_or_ge k q.rows.length with h | h
          · simpa using h
          · rw [List.getElem?_eq_none h] at hv; simp at hv
  | false =>
    obtain ⟨h3, cs, et, hb, h4, h5, _⟩ := ah hnil
    have hval : m.val = .slice (some ⟨m.b, 0, none⟩) rows.length m.cap := by simp [ME.val, hnil, a2]
    have hmb : m.b < w.heap.size := s.lt o m.b (by rw [hfpo, hnil]; simp)
    rw [hval]
    rw [a2] at h3
    by_cases hes : rows3 = []
    · obtain ⟨hqr, a, cap, hqv⟩ := q0 hes
      subst hes
      refine ⟨_, I, M.set nid (some { m with n := rows.length, rows := m.rows ++ q.rows }), w, by rw [hqv]; exact run_app_nothing (P := P) (w := w) hund he h3 ty, ?_, ⟨_, hgetn _, by simp [ME.val, hnil]⟩⟩
      exact fin { m with n := rows.length, rows := m.rows ++ q.rows } w hnil a1 (by simp) rfl (Nat.le_refl _) (fun _ _ _ => rfl) rfl rfl rfl (.inr ⟨hnil, rfl⟩) hmb h3 ⟨cs, et, hb, h4, fun k v hv => h5 k v (by rw [hqr, List.append_nil] at hv; exact hv)⟩
    · obtain ⟨cs3, t3, hqv, g1, g3⟩ := qv hes
      rw [hqv]
      have hpos : 0 < rows3.length := List.length_pos_iff.2 hes
      by_cases hroom : rows.length + rows3.length ≤ m.cap
      · have hfit : rows.length * te.size + q.rows.length ≤ cs.size := by rw [b4, h4, hs1, Nat.mul_one]; exact hroom
        have hrun := run_app_room (P := P) hund he hb (n := rows.length) (m := rows3.length) (a := ⟨q.b, 0, none⟩) (c := q.cap) (news := q.rows) (by rw [b4, hs1, Nat.mul_one]) (fun j u hu => by rw [add_off, cell_of g1]; simpa using g3 j u hu) one3 hroom hfit ty
        obtain ⟨w1, w2, w3, w4⟩ := setRow_world w m.b (patchG cs.toList (rows.length * te.size) q.rows).toArray
        refine ⟨_, I, M.set nid (some { m with n := rows.length + rows3.length, rows := m.rows ++ q.rows }), _, hrun, ?_, ⟨_, hgetn _, by simp [ME.val, hnil]⟩⟩
        refine fin { m with n := rows.length + rows3.length, rows := m.rows ++ q.rows } _ hnil a1 rfl rfl (by omega) (fun k hk hkb => setRow_other w m.b k _ hkb) w1 w2 w3 (.inr ⟨hnil, rfl⟩) (by rw [w4]; exact hmb) hroom
          ⟨_, et, setRow_heap w m.b cs _ et _ hb, ?_, fun k v hv => ?_⟩
        · rw [← h4]
          simp only [List.size_toArray]
          rw [patchG_length (by simpa using hfit)]; simp
        · simp only [List.getElem?_toArray]
          rw [patchG_at (by simpa using hfit), hs1, Nat.mul_one]
          by_cases hk : k < rows.length
          · rw [List.getElem?_append_left (by omega)] at hv
            rw [if_neg (by omega)]
            simpa using h5 k v hv
          · rw [List.getElem?_append_right (by omega), a4] at hv
            have hk2 : k - rows.length < q.rows.length := by
              rcases Nat.lt_or_ge (k - rows.length) q.rows.length with h | h
              · exact h
              · rw [List.getElem?_eq_none h] at hv; simp at hv
            rw [if_pos (by omega)]; exact hv
      · have hrun := run_append_grow (P := P) w t ty e f z' hund hinf hf3 ⟨m.b, 0, none⟩ rows.length m.cap m.rows (by rw [hf1, hs1, a4, Nat.mul_one]) (fun j u hu => by rw [add_off, cell_of hb]; simpa using h5 j u hu)
          ⟨q.b, 0, none⟩ rows3.length q.cap q.rows (by rw [hf1, hs1, b4, Nat.mul_one]) (fun j u hu => by rw [add_off, cell_of g1]; simpa using g3 j u hu) (by omega) (by omega) (by rw [hf2]; exact growslice_fits (by omega) hbytes)
        have hcap := grownCap_ge w (rows.length + rows3.length) m.cap e
        refine ⟨_, I, M.set nid (some ⟨false, w.heap.size, rows.length + rows3.length, grownCap w (rows.length + rows3.length) m.cap e, s', m.rows ++ q.rows⟩), _, hrun, ?_, ⟨_, hgetn _, rfl⟩⟩
        refine fin ⟨false, w.heap.size, rows.length + rows3.length, grownCap w (rows.length + rows3.length) m.cap e, s', m.rows ++ q.rows⟩ _ rfl rfl rfl rfl (by rw [drew_alloc_size]; omega) (fun k hk _ => push_old hk) rfl rfl rfl (.inl rfl) (by rw [drew_alloc_size]; exact Nat.lt_succ_self _) hcap ⟨_, e, push_new, ?_, fun k v hv => ?_⟩
        · simp only [Array.size_append, List.size_toArray, size_zeroCells, List.length_append, a4, b4, zs, hs1]; omega
        · rw [Array.getElem?_append_left]
          · simpa using hv
          · rcases Nat.lt_or_ge k (m.rows ++ q.rows).length with h | h
            · simpa using h
            · rw [List.getElem?_eq_none h] at hv; simp at hv
end

end Go.AM
