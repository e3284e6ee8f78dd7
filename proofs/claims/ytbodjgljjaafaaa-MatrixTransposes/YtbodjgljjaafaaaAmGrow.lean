/- The abstract machine: a prefix of an own slice; a slice of zeros appended to nil. -/
import Derived.Test.YtbodjgljjaafaaaAmMat2
namespace Go.AM

section
variable {P : Program} {I : Nat → Prop} {M : Mem} {h : Heap} {w : World}

/-- 's[:hi]' of an own slice, or of nil. -/
def xprefix (T : Tab) (h : Heap) (nid t : Nat) (x : V) (hi : Int) : Option (V × Heap × List Nat × List Prop) :=
  match tfind T t with
  | some ti =>
    match ti.k with
    | .slice e =>
      match tfind T e with
      | some te =>
        match x with
        | .e (.sc (.dat (.raw (.slice none 0 0)))) => some (.e (.sc (.dat (.raw (.slice none 0 0)))), h, [], [hi = 0])
        | .e (.sc (.ref o)) =>
          match h[o]? with
          | some (some (.arr s elems)) => if s == te.size then some (.e (.sc (.ref nid)), (h.set o none).set nid (some (.arr s (elems.take hi.toNat))), [nid, o], [0 ≤ hi ∧ hi ≤ (elems.length : Int)]) else none
          | _ => none
        | _ => none
      | none => none
    | _ => none
  | none => none

theorem xprefix_ok {T : Tab} (hT : TOK P T) {nid t : Nat} {x r : V} {hi : Int} {h' : Heap} {ids : List Nat} {obs : List Prop} (hx : xprefix T h nid t x hi = some (r, h', ids, obs)) (ho : AllP obs)
    (s : SimH I M h w) (hn : M[nid]? = some none) {u : Value} (hu : RelV w I M u x) (k : IntKind) :
    ∃ y I' M' w', (Instr.sliceAt t u none (some (.int k hi)) none).run P w = .ok y w' ∧ Eff ids I M h w I' M' h' w' ∧ RelV w' I' M' y r := by
  unfold xprefix at hx
  split at hx
  case h_2 => simp at hx
  rename_i ti hti
  split at hx
  case h_2 => simp at hx
  rename_i e hk
  have hund := (hT.find hti).slice hk
  split at hx
  case h_2 => simp at hx
  rename_i te hte
  have he := hT.find hte
  split at hx
  · simp only [Option.some.injEq, Prod.mk.injEq] at hx
    obtain ⟨rfl, rfl, rfl, rfl⟩ := hx
    have h0 := ho.1; subst h0
    have hu' : Reads w I u (.raw (.slice none 0 0)) := hu
    cases hu'
    have hb : (Instr.sliceBounds true 0 0 none (some (.int k 0)) none).run P w = .ok (0, 0, 0) w := by
      simp [Instr.sliceBounds, run_bound (P := P) (w := w) (k := k) (n := 0) (y := 0) .sliceAcap (by omega)]
    refine ⟨_, I, M, w, run_slice hund he hb, Eff.refl s, ?_⟩
    exact Reads.raw _ rfl
  · rename_i o
    split at hx
    case h_2 => simp at hx
    rename_i s' elems hobj
    split at hx
    case isFalse => simp at hx
    rename_i hsz
    simp only [beq_iff_eq] at hsz; subst hsz
    simp only [Option.some.injEq, Prod.mk.injEq] at hx
    obtain ⟨rfl, rfl, rfl, rfl⟩ := hx
    obtain ⟨m, hm, rfl⟩ := hu
    obtain ⟨m', hm', h1, h2, h0, hh⟩ := s.obj o _ hobj
    rw [hm] at hm'; simp only [Option.some.injEq] at hm'; subst hm'
    have hhi := ho.1
    have hlt := lt_of_none hn
    have hgetn : ∀ e' : ME, (M.set nid (some e'))[nid]? = some (some e') := fun e' => by simp [hlt]
    have hne : o ≠ nid := fun heq => by subst heq; rw [hn] at hm; simp at hm
    have hlth : nid < h.length := s.len ▸ hlt
    have hol : o < h.length := by
      rcases Nat.lt_or_ge o h.length with hl | hl
      · exact hl
      · rw [List.getElem?_eq_none hl] at hobj; simp at hobj
    have hfpo : fpAt M h o = if m.nil then [] else [m.b] := by simp only [fpAt, hobj, hm, fpE]
    have hcap : hi.toNat ≤ m.cap ∨ m.nil = true := by
      cases hnil : m.nil with
      | true => exact .inr rfl
      | false => obtain ⟨h3, _⟩ := hh hnil; exact .inl (by omega)
    have hmerge : ∀ e' : ME, e'.nil = m.nil → e'.b = m.b → e'.s = te.size → e'.n = hi.toNat → e'.cap = m.cap → Eff [nid, o] I M h w I (M.set nid (some e')) ((h.set o none).set nid (some (.arr te.size (elems.take hi.toNat)))) w := fun e' c1 c2 c3 c4 c5 => by
      refine Eff.merge s (os := [o]) hn (e' := e') (obj' := .arr te.size (elems.take hi.toNat)) (by simp) (by simp [hlth]) (fun o' ho' => ?_) (fun o' ho' => ?_) (Nat.le_refl _) (fun _ _ _ => rfl) rfl rfl rfl (fun b hb => ?_) ?_ fun hI _ => ?_
      · simp only [List.mem_cons, List.not_mem_nil, or_false] at ho'; subst ho'
        exact ⟨hne, .inl (by rw [List.getElem?_set_ne (Ne.symm hne)]; simp [hol])⟩
      · simp only [List.mem_cons, List.not_mem_nil, or_false, not_or] at ho'
        rw [List.getElem?_set_ne (Ne.symm ho'.1), List.getElem?_set_ne (Ne.symm ho'.2)]
      · simp only [fpE, c1] at hb
        have : b ∈ fpAt M h o := by rw [hfpo]; rw [c2] at hb; exact hb
        exact ⟨s.lt o b this, .inr ⟨o, by simp, this⟩⟩
      · simp only [fpE]; split <;> simp
      · refine ⟨c3, by rw [c4, List.length_take]; omega, fun hnil => by rw [h0 (c1 ▸ hnil)]; simp, fun hnil => ?_⟩
        obtain ⟨h3, cs, t', hb, h4, h5, h6⟩ := hh (c1 ▸ hnil)
        refine ⟨by omega, cs, t', by rw [c2]; exact hb, by rw [c5]; exact h4, fun x hx => h5 x (List.mem_of_mem_take hx), fun i j d hd => ?_⟩
        refine h6 i j d ?_
        simp only [at2, List.getElem?_take] at hd ⊢
        split at hd
        · exact hd
        · simp at hd
    cases hnil : m.nil with
    | true =>
      have hel := h0 hnil; subst hel
      have hz : hi = 0 := by simp at hhi; omega
      have hb : (Instr.sliceBounds true 0 0 none (some (.int k hi)) none).run P w = .ok (0, 0, 0) w := by
        subst hz; simp [Instr.sliceBounds, run_bound (P := P) (w := w) (k := k) (n := 0) (y := 0) .sliceAcap (by omega)]
      refine ⟨.slice none 0 0, I, M.set nid (some { m with n := hi.toNat }), w, ?_, hmerge { m with n := hi.toNat } rfl rfl h1 rfl rfl, ⟨_, hgetn _, by simp [ME.val, hnil]⟩⟩
      have := run_slice (P := P) (w := w) hund he (a := none) hb
      simpa [ME.val, hnil] using this
    | false =>
      obtain ⟨h3, cs, t', hb, h4, h5, h6⟩ := hh hnil
      have hc : hi.toNat ≤ m.cap := by omega
      have hbd : (Instr.sliceBounds true m.n m.cap none (some (.int k hi)) none).run P w = .ok (0, hi.toNat, m.cap) w := by
        simp [Instr.sliceBounds, run_bound (P := P) (w := w) (k := k) (n := hi) (y := m.cap) .sliceAcap (by omega)]
      refine ⟨.slice (some ⟨m.b, 0, none⟩) hi.toNat m.cap, I, M.set nid (some { m with n := hi.toNat }), w, ?_, hmerge { m with n := hi.toNat } rfl rfl h1 rfl rfl, ⟨_, hgetn _, by simp [ME.val, hnil]⟩⟩
      have := run_slice (P := P) (w := w) hund he (a := some ⟨m.b, 0, none⟩) hbd
      simpa [ME.val, hnil, Addr.add_lit] using this
  · simp at hx

/-- 'append(nil, make([]T, n)...)', as the translation has it. -/
def xappN (T : Tab) (nid t t2 : Nat) (h : Heap) (sv xv : V) : Option (V × Heap × List Nat × List Prop) :=
  match sv, xv with
  | .e (.sc (.dat (.raw (.slice none 0 0)))), .e (.sc (.dat (.int .i64 n))) =>
    match tfind T t, tfind T t2 with
    | some ti, some ti2 =>
      match ti.k, ti2.k with
      | .slice e, .int _ =>
        match tfind T e with
        | some te => if te.bytes == 0 || te.zero.length != te.size || te.size == 0 then none else
            some (.e (.sc (.ref nid)), h.set nid (some (.arr te.size (List.replicate n.toNat (zeroD te)))), [nid], [0 < n ∧ n * te.bytes ≤ 140737488355328])
        | none => none
      | _, _ => none
    | _, _ => none
  | _, _ => none

theorem xappN_ok {T : Tab} (hT : TOK P T) {nid t t2 : Nat} {sv xv r : V} {h' : Heap} {ids : List Nat} {obs : List Prop} (hx : xappN T nid t t2 h sv xv = some (r, h', ids, obs)) (ho : AllP obs)
    (s : SimH I M h w) (hn : M[nid]? = some none) {u x : Value} (hu : RelV w I M u sv) (hxr : RelV w I M x xv) (ty : TypeId) :
    ∃ y I' M' w', (Builtin.append_ #[t, t2] ty #[u, x]).run P w = .ok y w' ∧ Eff ids I M h w I' M' h' w' ∧ RelV w' I' M' y r := by
  unfold xappN at hx
  split at hx
  case h_2 => simp at hx
  rename_i n
  split at hx
  case h_2 => simp at hx
  rename_i ti ti2 hti hti2
  split at hx
  case h_2 => simp at hx
  rename_i e k2 hk hk2
  have hund := (hT.find hti).slice hk
  have hund2 := (hT.find hti2).int hk2
  split at hx
  case h_2 => simp at hx
  rename_i te hte
  have he := hT.find hte
  split at hx
  · simp at hx
  rename_i hbz
  simp only [Bool.or_eq_true, beq_iff_eq, bne_iff_ne, ne_eq, not_or, Decidable.not_not] at hbz
  obtain ⟨⟨hb0, hzl⟩, hs0⟩ := hbz
  simp only [Option.some.injEq, Prod.mk.injEq] at hx
  obtain ⟨rfl, rfl, rfl, rfl⟩ := hx
  obtain ⟨hpos, hbytes⟩ := ho.1
  have hu' : Reads w I u (.raw (.slice none 0 0)) := hu
  cases hu'
  have := relV_int hxr; subst this
  obtain ⟨f, z', hinf, hf1, hf2, hf3, hf4⟩ := he.info
  have hn48 : n ≤ 140737488355328 := by
    have h1 : n * 1 ≤ n * te.bytes := Int.mul_le_mul_of_nonneg_left (by omega) (by omega)
    omega
  have hw : IntKind.i64.wrap n = n := wrap_small (by omega) (by omega)
  obtain ⟨q, rfl⟩ : ∃ q : Nat, n = (q : Int) := Int.eq_ofNat_of_zero_le (Int.le_of_lt hpos)
  simp only [Int.toNat_natCast]
  have hq : 0 < q := by omega
  have hqb : q * te.bytes ≤ 140737488355328 := by
    rw [← Int.natCast_mul] at hbytes
    exact Int.ofNat_le.1 hbytes
  have zs : z'.cells.size = te.size := by
    have h1 : te.zero.length = z'.cells.size := by rw [← hf4]; simp
    rw [← h1, hzl]
  have hrun : (Builtin.append_ #[t, t2] ty #[.slice none 0 0, .int .i64 (q : Int)]).run P w =
      .ok (.slice (some ⟨w.heap.size, 0, none⟩) q (grownCap w q 0 e)) (w.drew.alloc (.cells (Builtin.zeroCells z'.cells q ++ Builtin.zeroCells z'.cells (grownCap w q 0 e - q)) e)) := by
    have e1 : ¬ ((q : Int) < 0) := by omega
    have e2 : ¬ (281474976710656 < (q : Int) * (f.bytes : Int)) := by rw [hf2]; have : (q : Int) * (te.bytes : Int) = ((q * te.bytes : Nat) : Int) := by simp
                                                                      omega
    have e3 : q ≠ 0 := by omega
    have e4 : ¬ (9223372036854775807 < (q : Int)) := by omega
    have e5 : ¬ (281474976710656 < Builtin.nextslicecap q 0 * f.bytes) := by rw [nextslicecap_zero hq, hf2]; omega
    have e6 : ¬ (q * f.size = 0) := by rw [hf1]; exact Nat.mul_ne_zero e3 hs0
    simp [Builtin.append_, run_underlying hund, run_underlying hund2, sizeOf, typeInfo, zeroValue, hinf, hf3, asInt, asIntOf, hw, e1, e2, e3, e4, e5, e6, Question.forced, run_firstCells_none, newRow, grownCap]
  have hcap := grownCap_ge w q 0 e
  refine ⟨_, I, M.set nid (some ⟨false, w.heap.size, q, grownCap w q 0 e, te.size, []⟩), _, hrun, ?_, ⟨⟨false, w.heap.size, q, grownCap w q 0 e, te.size, []⟩, by simp [lt_of_none hn], rfl⟩⟩
  refine Eff.new s hn (e := ⟨false, w.heap.size, q, grownCap w q 0 e, te.size, []⟩) rfl rfl rfl rfl rfl fun hI hm => ?_
  refine ⟨rfl, by simp, fun h => by simp at h, fun _ => ⟨hcap, _, e, push_new, ?_, fun x hx => by rw [List.eq_of_mem_replicate hx]; simp [zeroD, hzl], fun i j d hd => ?_⟩⟩
  · simp only [Array.size_append, size_zeroCells, zs, ← Nat.add_mul]; congr 1; omega
  · simp only [at2, List.getElem?_replicate, Option.bind_eq_some_iff] at hd
    obtain ⟨x, hx, hd⟩ := hd
    split at hx
    · rename_i hi
      simp only [Option.some.injEq] at hx; subst hx
      simp only [zeroD, List.getElem?_map, Option.map_eq_some_iff] at hd
      obtain ⟨v, hv, rfl⟩ := hd
      have hj : j < te.zero.length := by
        rcases Nat.lt_or_ge j te.zero.length with hl | hl
        · exact hl
        · rw [List.getElem?_eq_none hl] at hv; simp at hv
      have hlt : i * te.size + j < q * te.size := by
        have h1 : (i + 1) * te.size ≤ q * te.size := Nat.mul_le_mul_right _ (by omega)
        rw [Nat.add_mul] at h1; omega
      refine ⟨v, ?_, normD_ok (cdat_ok _ _ _ (he.zone _ (List.mem_of_getElem? hv)))⟩
      have hmod : (i * te.size + j) % te.size = j := by
        rw [Nat.mul_comm, Nat.mul_add_mod, Nat.mod_eq_of_lt (by omega)]
      have hjz : j < z'.cells.size := by omega
      have hzj : z'.cells[j]! = v := by
        rw [getElem!_pos z'.cells j hjz]
        have e1 : z'.cells[j]? = some v := by rw [← hv, ← hf4]; simp
        rw [Array.getElem?_eq_getElem hjz, Option.some.injEq] at e1; exact e1
      rw [Array.getElem?_append_left (by rw [size_zeroCells, zs]; exact hlt)]
      simp [Builtin.zeroCells, zs, hlt, hmod, hzj]
    · simp at hx
end

end Go.AM
