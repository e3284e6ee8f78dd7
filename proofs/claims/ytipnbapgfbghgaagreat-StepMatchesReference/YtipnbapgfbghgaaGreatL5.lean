/- torsionref21: the least row, the first open row; copies; numbers. -/
import Derived.Test.YtipnbapgfbghgaaGreatL4
namespace Go.AM
open Go.Proofs.Tryz
theorem rabs_ok {x : Int} (hx : Sz x) : FnD prog 100 [eI x] (eI ((x.natAbs : Nat) : Int)) [] := by
  refine vc100_ok _ _ (R := Out _) ?_
  unfold vc100
  unfold Sz at hx
  have h := made_eI (digs x.natAbs) false (digs_lt _) (by omega)
  rw [val_digs] at h
  exact ⟨_, _, h, rfl, rfl⟩
theorem rcmp_ok {x y : Int} (hx : Sz x) (hy : Sz y) : FnD prog 74 [eI x, eI y] (vi (if x - y = 0 then 0 else if x - y < 0 then -1 else 1)) [] := by
  refine vc74_ok _ _ _ _ (R := Out _) ?_
  unfold vc74
  exact ⟨_, _, _, rsub_ok hx hy, rsign_ok _, rfl, rfl⟩
theorem rcopied_ok {r c : Nat} {a : List (List Int)} (ha : Mx r c a) (hs : ∀ i j, i < r → j < c → Sz (el a i j)) (hr : r ≤ 4294967296) (hc : c ≤ 4294967296) :
    FnD prog 42 [eM r c a] (eMo r c) (oM a) := by
  have scale : FnD prog 75 [eM r c a, eI 1] (eMo r c) (oM (table r c fun i j => el a i j * 1)) := by
    refine vc75_ok _ _ _ _ _ (R := OutM r c _) ?_
    unfold vc75
    obtain ⟨f, hf⟩ : ∃ f : Nat → Nat → Int, f = fun i j => el a i j * 1 := ⟨_, rfl⟩
    refine ⟨_, _, _, rnew_ok hr hc, fun o t => ∃ i : Nat, t = (i : Int) ∧ i ≤ r ∧ o = om (table r c (gF f i 0)), fun _ t => ((r : Int) - t).toNat, ⟨0, rfl, by omega, gF_zero f⟩, ?_⟩
    rintro _ _ ⟨i, rfl, hi, rfl⟩
    refine ⟨fun h => ?_, fun h => outM ?_⟩
    · have hir : i < r := by simpa using h
      refine ⟨fun o t => ∃ j : Nat, t = (j : Int) ∧ j ≤ c ∧ o = om (table r c (gF f i j)), fun _ t => ((c : Int) - t).toNat, ⟨0, rfl, by omega, rfl⟩, ?_⟩
      rintro _ _ ⟨j, rfl, hj, rfl⟩
      refine ⟨fun h2 => ?_, fun h2 => ?_⟩
      · have hjc : j < c := by simpa using h2
        obtain ⟨e1, e2, e3, e4⟩ := read_el ha hir hjc
        refine ⟨_, _, _, decide (f i j < 0), lim (dz (f i j)), ⟨by omega, by rw [om_len]; omega⟩, ⟨by omega, e4⟩, e1, ⟨by omega, e3⟩, e2, ?_, om_in hir hjc, ?_⟩
        · subst hf; exact rmul_ok (hs i j hir hjc) (sz_le (K := 1) (by decide) (by decide))
        rw [inc64 (by omega)]
        refine ⟨⟨j + 1, rfl, by omega, ?_⟩, by show ((c : Int) - ((j + 1 : Nat) : Int)).toNat < ((c : Int) - (j : Int)).toNat; omega⟩
        rw [Int.toNat_natCast, Int.toNat_natCast]
        exact gF_step hir hjc
      · have hjc : c ≤ j := by simpa using h2
        rw [inc64 (by omega)]
        exact ⟨⟨i + 1, rfl, by omega, gF_next fun b h1 h2 => by omega⟩, by show ((r : Int) - ((i + 1 : Nat) : Int)).toNat < ((r : Int) - (i : Int)).toNat; omega⟩
    · have hir : i = r := by have : r ≤ i := by simpa using h
                             omega
      subst hir
      subst hf
      exact gF_all
  refine vc42_ok _ _ _ (R := OutM r c _) ?_
  unfold vc42
  refine ⟨_, _, _, _, _, rof_ok 1 (by decide) (by decide), scale, outM ?_⟩
  congr 1
  refine Eq.trans (table_congr fun i j _ _ => ?_) (mx_table ha).symm
  rw [Int.mul_one]
def eP (r c : Nat) (A m u v : List (List Int)) (t k : Nat) (b : Bool) : V :=
  vA [sD (dI r), sD (dI c), sD (dL (rows A)), sD (dI r), sD (dI c), sD (dL (rows m)), sD (dI r), sD (dI r), sD (dL (rows u)), sD (dI r), sD (dI r), sD (dL (rows v)), sD (dI t), sD (dI k), sD (dB b)]
def finB (r c t k : Nat) : Bool := decide (r ≤ t) || decide (c ≤ k)
theorem fin_ok {r c : Nat} {A m u v : List (List Int)} {t k : Nat} {b : Bool} : FnD prog 29 [eP r c A m u v t k b] (vb (finB r c t k)) [] := by
  refine vc29_ok _ _ _ _ _ _ _ _ _ _ _ _ _ _ _ (R := Out _) ?_
  unfold vc29
  refine ⟨fun h => outb ?_, fun h => outb ?_⟩
  · have : r ≤ t := by simpa using h
    simp [finB, this]
  · have : ¬ r ≤ t := by simpa using h
    simp [finB, this]
theorem rfin_ok {r c : Nat} {A m u v : List (List Int)} {t k : Nat} {b : Bool} : FnD prog 31 [eP r c A m u v t k b] (vb (finB r c t k)) [] := by
  refine vc31_ok _ _ _ _ _ _ _ _ _ _ _ _ _ _ _ (R := Out _) ?_
  unfold vc31
  refine ⟨fun h => outb ?_, fun h => outb ?_⟩
  · have : r ≤ t := by simpa using h
    simp [finB, this]
  · have : ¬ r ≤ t := by simpa using h
    simp [finB, this]
theorem natAbs_sub_lt {a b : Nat} : decide ((if (a : Int) - (b : Int) = 0 then (0 : Int) else if (a : Int) - (b : Int) < 0 then -1 else 1) < 0) = decide (a < b) := by
  by_cases h : a < b
  · rw [decide_eq_true h, sgn_lt.2 (by omega)]
  · rw [decide_eq_false h, decide_eq_false]
    intro hc
    have := sgn_lt.1 (decide_eq_true hc)
    omega
section
variable {r c K L : Nat} {A m u v : List (List Int)} {t k : Nat} (C : PCx r c K L m u v t k) {b : Bool}
include C
theorem rls : FnD prog 69 [eP r c A m u v t k b] (vi (lsF m k t (r - t))) [] := by
  refine vc69_ok _ _ _ _ _ _ _ _ _ _ _ _ _ _ _ (R := Out _) ?_
  unfold vc69
  have hm := C.hm; have hk := C.hk; have ht := C.ht; have hr := C.hr
  have hs : ∀ i, i < r → Sz (el m i k) := fun i hi => C.sz (el_bd C.hm C.km hi hk)
  have szn : ∀ {z : Int}, Sz z → Sz ((z.natAbs : Nat) : Int) := fun h => by unfold Sz at *; rwa [Int.natAbs_natCast]
  refine ⟨fun best i => ∃ n : Nat, i = ((t + n : Nat) : Int) ∧ t + n ≤ r ∧ best = lsF m k t n, fun _ i => ((r : Int) - i).toNat, ⟨0, rfl, Nat.le_of_lt ht, rfl⟩, ?_⟩
  rintro _ _ ⟨n, rfl, hn, rfl⟩
  refine ⟨fun h => ?_, fun h => outi ?_⟩
  · have hnr : t + n < r := by have := of_decide_eq_true h; omega
    have hnext : ∀ b, b = lsS m k (lsF m k t n) (t + n) → (∃ n' : Nat, IntKind.i64.wrap (((t + n : Nat) : Int) + 1) = ((t + n' : Nat) : Int) ∧ t + n' ≤ r ∧ b = lsF m k t n') ∧ ((r : Int) - IntKind.i64.wrap (((t + n : Nat) : Int) + 1)).toNat < ((r : Int) - ((t + n : Nat) : Int)).toNat :=
      fun b hb => by
        rw [inc64 (by omega)]
        exact ⟨⟨n + 1, rfl, by omega, hb⟩, by omega⟩
    obtain ⟨e1, e2, e3, e4⟩ := read_el hm hnr hk
    refine ⟨_, _, _, _, _, ⟨by omega, e4⟩, e1, ⟨by omega, e3⟩, e2, rabs_ok (hs _ hnr), _, rsign_ok _, fun h0 => ?_, fun h0 => hnext _ ?_⟩
    · have hne : el m (t + n) k ≠ 0 := fun hc => by rw [hc] at h0; simp at h0
      refine ⟨fun hb => hnext _ ?_, fun hb => ?_⟩
      · have hb' := of_decide_eq_true hb
        unfold lsS; rw [if_pos ⟨hne, .inl hb'⟩]
      · have hb' := of_decide_eq_false hb
        rcases lsF_ok (m := m) (c := k) (top := t) n with ⟨g1, _⟩ | ⟨p, g1, g2, g3, g4, _⟩
        · rw [g1] at hb'; exact absurd (by decide) hb'
        · have hpr : p < r := by omega
          have hst : lsS m k (p : Int) (t + n) = if (el m (t + n) k).natAbs < (el m p k).natAbs then ((t + n : Nat) : Int) else (p : Int) := by
            unfold lsS
            rw [Int.toNat_natCast]
            by_cases hlt : (el m (t + n) k).natAbs < (el m p k).natAbs
            · rw [if_pos ⟨hne, .inr hlt⟩, if_pos hlt]
            · rw [if_neg (fun ⟨_, b⟩ => b.elim (fun b => absurd b (by omega)) hlt), if_neg hlt]
          rw [g1] at hnext ⊢
          rw [hst] at hnext
          obtain ⟨d1, d2, d3, d4⟩ := read_el hm hpr hk
          refine ⟨_, _, _, _, _, _, ⟨by omega, d4⟩, d1, ⟨by omega, d3⟩, d2, rabs_ok (hs _ hpr), rcmp_ok (szn (hs _ hnr)) (szn (hs _ hpr)), ?_⟩
          rw [natAbs_sub_lt]
          refine ⟨fun hl => hnext _ ?_, fun hl => hnext _ ?_⟩
          · rw [if_pos (by simpa using hl)]
          · rw [if_neg (by simpa using hl)]
    · have hne : el m (t + n) k = 0 := by
        apply Classical.byContradiction
        intro hc
        have := (sgn_ne (z := (((el m (t + n) k).natAbs : Nat) : Int))).2 (by omega)
        rw [this] at h0; simp at h0
      unfold lsS; rw [if_neg (by simp [hne])]
  · have hnr : r ≤ t + n := by have := of_decide_eq_false h; omega
    rw [show r - t = n by omega]
def opI (r k t : Nat) (m : List (List Int)) : Int := match opnL k t m (List.range r) with
  | some i => (i : Int)
  | none => -1
omit C in
theorem opnL_some {i : Nat} (hi : i < r) (h : i ≠ t ∧ el m i k / el m t k ≠ 0) (hb : ∀ j, j < i → ¬ (j ≠ t ∧ el m j k / el m t k ≠ 0)) : opnL k t m (List.range r) = some i := by
  unfold opnL
  refine List.find?_range_eq_some.2 ⟨by simp [h.1, h.2], List.mem_range.2 hi, fun j hj => ?_⟩
  have := hb j hj
  simp only [not_and, Decidable.not_not] at this
  by_cases hjt : j = t
  · simp [hjt]
  · simp [this hjt]
omit C in
theorem opnL_none (hb : ∀ j, j < r → ¬ (j ≠ t ∧ el m j k / el m t k ≠ 0)) : opnL k t m (List.range r) = none := by
  unfold opnL
  refine List.find?_range_eq_none.2 fun j hj => ?_
  have := hb j hj
  simp only [not_and, Decidable.not_not] at this
  by_cases hjt : j = t
  · simp [hjt]
  · simp [this hjt]
omit C in
theorem opnL_inv {i : Nat} (h : opnL k t m (List.range r) = some i) : i < r ∧ i ≠ t ∧ el m i k / el m t k ≠ 0 ∧ ∀ j, j < i → j ≠ t → el m j k / el m t k = 0 := by
  unfold opnL at h
  obtain ⟨h1, h2, h3⟩ := List.find?_range_eq_some.1 h
  simp only [Bool.and_eq_true, decide_eq_true_eq] at h1
  refine ⟨List.mem_range.1 h2, h1.1, h1.2, fun j hj hjt => ?_⟩
  have := h3 j hj
  simp [hjt] at this
  exact this
omit C in
theorem div_ne_pos {x p : Int} (hp : 0 < p) : x / p ≠ 0 ↔ x < 0 ∨ p ≤ x := by
  constructor
  · intro h
    apply Classical.byContradiction
    intro hc
    exact h (Int.ediv_eq_zero_of_lt (by omega) (by omega))
  · intro h hc
    have h1 := Int.emod_add_mul_ediv x p
    rw [hc, Int.mul_zero, Int.add_zero] at h1
    have h2 := Int.emod_nonneg x (show p ≠ 0 by omega)
    have h3 := Int.emod_lt_of_pos x hp
    omega
theorem ropen_ok (hp : 0 < el m t k) (h4 : ∀ i, t ≤ i → i < r → el m i k ≠ 0 → (el m t k).natAbs ≤ (el m i k).natAbs) :
    FnD prog 70 [eP r c A m u v t k b] (vi (opI r k t m)) [] := by
  refine vc70_ok _ _ _ _ _ _ _ _ _ _ _ _ _ _ _ (R := Out _) ?_
  unfold vc70
  have hm := C.hm; have hk := C.hk; have ht := C.ht; have hr := C.hr
  have hs : ∀ i, i < r → Sz (el m i k) := fun i hi => C.sz (el_bd C.hm C.km hi hk)
  obtain ⟨e1, e2, e3, e4⟩ := read_el hm ht hk
  refine ⟨_, _, _, ⟨by omega, e4⟩, e1, ⟨by omega, e3⟩, e2, fun k' => ∃ n : Nat, k' = (n : Int) ∧ n ≤ r ∧ ∀ j, j < n → ¬ (j ≠ t ∧ el m j k / el m t k ≠ 0), fun k' => ((r : Int) - k').toNat, ⟨0, rfl, by omega, fun j hj => by omega⟩, ?_⟩
  rintro _ ⟨n, rfl, hn, hb⟩
  refine ⟨fun h => ?_, fun h => outi ?_⟩
  · have hnr : n < r := by simpa using h
    obtain ⟨d1, d2, d3, d4⟩ := read_el hm hnr hk
    have found : n ≠ t → el m n k / el m t k ≠ 0 → Out (vi (opI r k t m)) (vD (dI (n : Int))) [] := fun g1 g2 => outi (by
      unfold opI; rw [opnL_some hnr ⟨g1, g2⟩ hb])
    have nx : (n ≠ t → el m n k / el m t k = 0) → (∃ n' : Nat, IntKind.i64.wrap ((n : Int) + 1) = (n' : Int) ∧ n' ≤ r ∧ ∀ j, j < n' → ¬ (j ≠ t ∧ el m j k / el m t k ≠ 0)) ∧ ((r : Int) - IntKind.i64.wrap ((n : Int) + 1)).toNat < ((r : Int) - (n : Int)).toNat := fun g => by
      rw [inc64 (by omega)]
      refine ⟨⟨n + 1, rfl, by omega, fun j hj => ?_⟩, by omega⟩
      by_cases hjn : j = n
      · subst hjn; exact fun hc => hc.2 (g hc.1)
      · exact hb j (by omega)
    refine ⟨_, _, _, ⟨by omega, d4⟩, d1, ⟨by omega, d3⟩, d2, fun g1 => ⟨_, rsign_ok _, fun g2 => ?_, fun g2 => ⟨fun g3 => ?_, fun _ => nx fun _ => ?_⟩⟩, fun g1 => ⟨fun g3 => ⟨_, rsign_ok _, fun g4 => ?_, fun g4 => ⟨_, rcmp_ok (hs _ hnr) (hs _ ht), fun g5 => ?_, fun g5 => ?_⟩⟩, fun g3 => nx fun hnt => ?_⟩⟩
    · have hnt : t < n := by have := of_decide_eq_true g1; omega
      have hne := sgn_ne.1 g2
      have := h4 n (by omega) hnr hne
      exact found (by omega) ((div_ne_pos hp).2 (by omega))
    · exfalso
      have := of_decide_eq_true g1
      have := of_decide_eq_true g3
      omega
    · have hz : el m n k = 0 := by
        apply Classical.byContradiction
        intro hc
        rw [sgn_ne.2 hc] at g2; simp at g2
      rw [hz, Int.zero_ediv]
    · have hnt : n < t := by have := of_decide_eq_true g3; omega
      exact found (by omega) ((div_ne_pos hp).2 (.inl (sgn_lt.1 g4)))
    · have hnt : n < t := by have := of_decide_eq_true g3; omega
      refine found (by omega) ((div_ne_pos hp).2 (.inr ?_))
      have h5 := of_decide_eq_true g5
      apply Classical.byContradiction
      intro hc
      have := of_decide_eq_true ((sgn_lt (z := el m n k - el m t k)).2 (by omega))
      omega
    · refine nx fun _ => ?_
      apply Classical.byContradiction
      intro hc
      rcases (div_ne_pos hp).1 hc with h5 | h5
      · rw [sgn_lt.2 h5] at g4; simp at g4
      · have h6 := of_decide_eq_false g5
        have h7 : ¬ (if el m n k - el m t k = 0 then (0 : Int) else if el m n k - el m t k < 0 then -1 else 1) < 0 := fun h8 => by
          have := sgn_lt.1 (decide_eq_true h8)
          omega
        omega
    · exfalso
      have := of_decide_eq_false g1
      have := of_decide_eq_false g3
      omega
  · have hnr : n = r := by have : r ≤ n := by simpa using h
                           omega
    subst hnr
    unfold opI; rw [opnL_none hb]
end
end Go.AM
/- What functions of the program come to: group Sb. Printed by vc.py. -/
set_option maxRecDepth 100000
set_option linter.unusedVariables false
namespace Go.AM
open Go.Proofs.Tryz
def vc13 (p0 p1 : Int) (p2 : List (List D)) (p3 p4 : Int) (p5 : List (List D)) (p6 p7 : Int) (p8 : List (List D)) (p9 p10 : Int) (p11 : List (List D)) (p12 p13 : Int) (p14 : Bool) (budget : Int) (R : V → Heap → Prop) : Prop :=
 (decide (budget ≤ (0 : Int)) = true →
 R (vA [sD (dI p0), sD (dI p1), sD (dL p2), sD (dI p3), sD (dI p4), sD (dL p5), sD (dI p6), sD (dI p7), sD (dL p8), sD (dI p9), sD (dI p10), sD (dL p11), sD (dI p12), sD (dI p13), sD (dB p14)]) []) ∧
 (decide (budget ≤ (0 : Int)) = false →
 (p14 = true →
 R (vA [sD (dI p0), sD (dI p1), sD (dL p2), sD (dI p3), sD (dI p4), sD (dL p5), sD (dI p6), sD (dI p7), sD (dL p8), sD (dI p9), sD (dI p10), sD (dL p11), sD (dI p12), sD (dI p13), sD (dB p14)]) []) ∧
 (p14 = false →
 ∃ (r0 r1 : Int) (rrows : List (List (List D))) (r01 r11 : Int) (rrows1 : List (List (List D))) (r02 r12 : Int) (rrows2 : List (List (List D))),
 (FnD prog 32 [vA [sD (dI p3), sD (dI p4), sD (dL p5)]] (vA [sD (dI r0), sD (dI r1), S.ref 0]) [some (Obj.mat 2 rrows)]) ∧
 (FnD prog 32 [vA [sD (dI p6), sD (dI p7), sD (dL p8)]] (vA [sD (dI r01), sD (dI r11), S.ref 0]) [some (Obj.mat 2 rrows1)]) ∧
 (FnD prog 32 [vA [sD (dI p9), sD (dI p10), sD (dL p11)]] (vA [sD (dI r02), sD (dI r12), S.ref 0]) [some (Obj.mat 2 rrows2)]) ∧
 ((FnD prog 33 [] (vA [sD (D.fn (.func 64) ([] : List D)), sD (D.fn (.func 65) ([] : List D)), sD (D.fn (.func 66) ([] : List D)), sD (D.fn (.func 67) ([] : List D)), sD (D.fn (.func 68) ([] : List D))]) []) ∧
 (∃ (J0 : Int → Int → Int → Int → Int → Bool → (List (List D)) → Int → Int → Int → Int → Int → (List (List (List D))) → (List (List (List D))) → (List (List (List D))) → Int → Prop) (μ0 : Int → Int → Int → Int → Int → Bool → (List (List D)) → Int → Int → Int → Int → Int → (List (List (List D))) → (List (List (List D))) → (List (List (List D))) → Int → Nat),
 J0 p0 p1 r12 p12 p13 p14 p2 r0 r1 r01 r11 r02 rrows rrows1 rrows2 budget ∧ ∀ (p01 p15 : Int) (p101 p121 p131 : Int) (p141 : Bool) (p21 : List (List D)) (p31 p41 : Int) (p61 p71 p91 : Int) (o3 o4 o5 : List (List (List D))) (budget1 : Int), J0 p01 p15 p101 p121 p131 p141 p21 p31 p41 p61 p71 p91 o3 o4 o5 budget1 →
 (decide (budget1 > (0 : Int)) = true →
 ((!p141) = true →
 (0 ≤ (0 : Int) ∧ (0 : Int) < ((5 : Nat) : Int)) ∧
 (∃ (r : Bool) (b b1 : Int) (b2 : List (List D)) (b3 b4 : Int) (b5 b6 : Int) (b7 b8 : Int) (b9 b10 : Int) (b11 : Bool) (m m1 m2 : List (List (List D))),
 (FnO prog 64 [V.e (E.sc (S.ptr 0 0))] [some (Obj.box [sD (dI p01), sD (dI p15), sD (dL p21), sD (dI p31), sD (dI p41), S.ref 1, sD (dI p61), sD (dI p71), S.ref 2, sD (dI p91), sD (dI p101), S.ref 3, sD (dI p121), sD (dI p131), sD (dB p141)]), some (Obj.mat 2 o3), some (Obj.mat 2 o4), some (Obj.mat 2 o5)] (vD (dB r)) [some (Obj.box [sD (dI b), sD (dI b1), sD (dL b2), sD (dI b3), sD (dI b4), S.ref 1, sD (dI b5), sD (dI b6), S.ref 2, sD (dI b7), sD (dI b8), S.ref 3, sD (dI b9), sD (dI b10), sD (dB b11)]), some (Obj.mat 2 m), some (Obj.mat 2 m1), some (Obj.mat 2 m2)]) ∧
 ((r = true →
 ∃ (r2 : Bool),
 (FnD prog 29 [vA [sD (dI b), sD (dI b1), sD (dL b2), sD (dI b3), sD (dI b4), sD (dL (matD m)), sD (dI b5), sD (dI b6), sD (dL (matD m1)), sD (dI b7), sD (dI b8), sD (dL (matD m2)), sD (dI b9), sD (dI b10), sD (dB b11)]] (vD (dB r2)) []) ∧
 (J0 b b1 b8 b9 b10 r2 b2 b3 b4 b5 b6 b7 m m1 m2 (IntKind.i64.wrap (budget1 - (1 : Int))) ∧ μ0 b b1 b8 b9 b10 r2 b2 b3 b4 b5 b6 b7 m m1 m2 (IntKind.i64.wrap (budget1 - (1 : Int))) < μ0 p01 p15 p101 p121 p131 p141 p21 p31 p41 p61 p71 p91 o3 o4 o5 budget1)) ∧
 (r = false →
 (0 ≤ (1 : Int) ∧ (1 : Int) < ((5 : Nat) : Int)) ∧
 (∃ (r3 : Bool) (b12 b13 : Int) (b14 : List (List D)) (b15 b16 : Int) (b17 b18 : Int) (b19 b20 : Int) (b21 b22 : Int) (b23 : Bool) (m3 m4 m5 : List (List (List D))),
 (FnO prog 65 [V.e (E.sc (S.ptr 0 0))] [some (Obj.box [sD (dI b), sD (dI b1), sD (dL b2), sD (dI b3), sD (dI b4), S.ref 1, sD (dI b5), sD (dI b6), S.ref 2, sD (dI b7), sD (dI b8), S.ref 3, sD (dI b9), sD (dI b10), sD (dB b11)]), some (Obj.mat 2 m), some (Obj.mat 2 m1), some (Obj.mat 2 m2)] (vD (dB r3)) [some (Obj.box [sD (dI b12), sD (dI b13), sD (dL b14), sD (dI b15), sD (dI b16), S.ref 4, sD (dI b17), sD (dI b18), S.ref 5, sD (dI b19), sD (dI b20), S.ref 3, sD (dI b21), sD (dI b22), sD (dB b23)]), some (Obj.fwd (S.ref 4)), some (Obj.fwd (S.ref 5)), some (Obj.mat 2 m3), some (Obj.mat 2 m4), some (Obj.mat 2 m5)]) ∧
 ((r3 = true →
 ∃ (r4 : Bool),
 (FnD prog 29 [vA [sD (dI b12), sD (dI b13), sD (dL b14), sD (dI b15), sD (dI b16), sD (dL (matD m4)), sD (dI b17), sD (dI b18), sD (dL (matD m5)), sD (dI b19), sD (dI b20), sD (dL (matD m3)), sD (dI b21), sD (dI b22), sD (dB b23)]] (vD (dB r4)) []) ∧
 (J0 b12 b13 b20 b21 b22 r4 b14 b15 b16 b17 b18 b19 m4 m5 m3 (IntKind.i64.wrap (budget1 - (1 : Int))) ∧ μ0 b12 b13 b20 b21 b22 r4 b14 b15 b16 b17 b18 b19 m4 m5 m3 (IntKind.i64.wrap (budget1 - (1 : Int))) < μ0 p01 p15 p101 p121 p131 p141 p21 p31 p41 p61 p71 p91 o3 o4 o5 budget1)) ∧
 (r3 = false →
 (0 ≤ (2 : Int) ∧ (2 : Int) < ((5 : Nat) : Int)) ∧
 (∃ (r5 : Bool) (b24 b25 : Int) (b26 : List (List D)) (b27 b28 : Int) (b29 b30 : Int) (b31 b32 : Int) (b33 b34 : Int) (b35 : Bool) (m6 m7 m8 : List (List (List D))),
 (FnO prog 66 [V.e (E.sc (S.ptr 0 0))] [some (Obj.box [sD (dI b12), sD (dI b13), sD (dL b14), sD (dI b15), sD (dI b16), S.ref 1, sD (dI b17), sD (dI b18), S.ref 2, sD (dI b19), sD (dI b20), S.ref 3, sD (dI b21), sD (dI b22), sD (dB b23)]), some (Obj.mat 2 m4), some (Obj.mat 2 m5), some (Obj.mat 2 m3)] (vD (dB r5)) [some (Obj.box [sD (dI b24), sD (dI b25), sD (dL b26), sD (dI b27), sD (dI b28), S.ref 1, sD (dI b29), sD (dI b30), S.ref 2, sD (dI b31), sD (dI b32), S.ref 3, sD (dI b33), sD (dI b34), sD (dB b35)]), some (Obj.mat 2 m6), some (Obj.mat 2 m7), some (Obj.mat 2 m8)]) ∧
 ((r5 = true →
 ∃ (r6 : Bool),
 (FnD prog 29 [vA [sD (dI b24), sD (dI b25), sD (dL b26), sD (dI b27), sD (dI b28), sD (dL (matD m6)), sD (dI b29), sD (dI b30), sD (dL (matD m7)), sD (dI b31), sD (dI b32), sD (dL (matD m8)), sD (dI b33), sD (dI b34), sD (dB b35)]] (vD (dB r6)) []) ∧
 (J0 b24 b25 b32 b33 b34 r6 b26 b27 b28 b29 b30 b31 m6 m7 m8 (IntKind.i64.wrap (budget1 - (1 : Int))) ∧ μ0 b24 b25 b32 b33 b34 r6 b26 b27 b28 b29 b30 b31 m6 m7 m8 (IntKind.i64.wrap (budget1 - (1 : Int))) < μ0 p01 p15 p101 p121 p131 p141 p21 p31 p41 p61 p71 p91 o3 o4 o5 budget1)) ∧
 (r5 = false →
 (0 ≤ (3 : Int) ∧ (3 : Int) < ((5 : Nat) : Int)) ∧
 (∃ (r7 : Bool) (b36 b37 : Int) (b38 : List (List D)) (b39 b40 : Int) (b41 b42 : Int) (b43 b44 : Int) (b45 b46 : Int) (b47 : Bool) (m9 m10 m11 : List (List (List D))),
 (FnO prog 67 [V.e (E.sc (S.ptr 0 0))] [some (Obj.box [sD (dI b24), sD (dI b25), sD (dL b26), sD (dI b27), sD (dI b28), S.ref 1, sD (dI b29), sD (dI b30), S.ref 2, sD (dI b31), sD (dI b32), S.ref 3, sD (dI b33), sD (dI b34), sD (dB b35)]), some (Obj.mat 2 m6), some (Obj.mat 2 m7), some (Obj.mat 2 m8)] (vD (dB r7)) [some (Obj.box [sD (dI b36), sD (dI b37), sD (dL b38), sD (dI b39), sD (dI b40), S.ref 1, sD (dI b41), sD (dI b42), S.ref 2, sD (dI b43), sD (dI b44), S.ref 3, sD (dI b45), sD (dI b46), sD (dB b47)]), some (Obj.mat 2 m9), some (Obj.mat 2 m10), some (Obj.mat 2 m11)]) ∧
 ((r7 = true →
 ∃ (r8 : Bool),
 (FnD prog 29 [vA [sD (dI b36), sD (dI b37), sD (dL b38), sD (dI b39), sD (dI b40), sD (dL (matD m9)), sD (dI b41), sD (dI b42), sD (dL (matD m10)), sD (dI b43), sD (dI b44), sD (dL (matD m11)), sD (dI b45), sD (dI b46), sD (dB b47)]] (vD (dB r8)) []) ∧
 (J0 b36 b37 b44 b45 b46 r8 b38 b39 b40 b41 b42 b43 m9 m10 m11 (IntKind.i64.wrap (budget1 - (1 : Int))) ∧ μ0 b36 b37 b44 b45 b46 r8 b38 b39 b40 b41 b42 b43 m9 m10 m11 (IntKind.i64.wrap (budget1 - (1 : Int))) < μ0 p01 p15 p101 p121 p131 p141 p21 p31 p41 p61 p71 p91 o3 o4 o5 budget1)) ∧
 (r7 = false →
 (0 ≤ (4 : Int) ∧ (4 : Int) < ((5 : Nat) : Int)) ∧
 (∃ (r9 : Bool) (b48 b49 : Int) (b50 : List (List D)) (b51 b52 : Int) (b53 b54 : Int) (b55 b56 : Int) (b57 b58 : Int) (b59 : Bool) (m12 m13 m14 : List (List (List D))),
 (FnO prog 68 [V.e (E.sc (S.ptr 0 0))] [some (Obj.box [sD (dI b36), sD (dI b37), sD (dL b38), sD (dI b39), sD (dI b40), S.ref 1, sD (dI b41), sD (dI b42), S.ref 2, sD (dI b43), sD (dI b44), S.ref 3, sD (dI b45), sD (dI b46), sD (dB b47)]), some (Obj.mat 2 m9), some (Obj.mat 2 m10), some (Obj.mat 2 m11)] (vD (dB r9)) [some (Obj.box [sD (dI b48), sD (dI b49), sD (dL b50), sD (dI b51), sD (dI b52), S.ref 1, sD (dI b53), sD (dI b54), S.ref 2, sD (dI b55), sD (dI b56), S.ref 3, sD (dI b57), sD (dI b58), sD (dB b59)]), some (Obj.mat 2 m12), some (Obj.mat 2 m13), some (Obj.mat 2 m14)]) ∧
 ((r9 = true →
 ∃ (r10 : Bool),
 (FnD prog 29 [vA [sD (dI b48), sD (dI b49), sD (dL b50), sD (dI b51), sD (dI b52), sD (dL (matD m12)), sD (dI b53), sD (dI b54), sD (dL (matD m13)), sD (dI b55), sD (dI b56), sD (dL (matD m14)), sD (dI b57), sD (dI b58), sD (dB b59)]] (vD (dB r10)) []) ∧
 (J0 b48 b49 b56 b57 b58 r10 b50 b51 b52 b53 b54 b55 m12 m13 m14 (IntKind.i64.wrap (budget1 - (1 : Int))) ∧ μ0 b48 b49 b56 b57 b58 r10 b50 b51 b52 b53 b54 b55 m12 m13 m14 (IntKind.i64.wrap (budget1 - (1 : Int))) < μ0 p01 p15 p101 p121 p131 p141 p21 p31 p41 p61 p71 p91 o3 o4 o5 budget1)) ∧
 (r9 = false →
 ∃ (r13 : Bool),
 (FnD prog 29 [vA [sD (dI b48), sD (dI b49), sD (dL b50), sD (dI b51), sD (dI b52), sD (dL (matD m12)), sD (dI b53), sD (dI b54), sD (dL (matD m13)), sD (dI b55), sD (dI b56), sD (dL (matD m14)), sD (dI b57), sD (dI b58), sD (dB b59)]] (vD (dB r13)) []) ∧
 (J0 b48 b49 b56 b57 b58 r13 b50 b51 b52 b53 b54 b55 m12 m13 m14 (IntKind.i64.wrap (budget1 - (1 : Int))) ∧ μ0 b48 b49 b56 b57 b58 r13 b50 b51 b52 b53 b54 b55 m12 m13 m14 (IntKind.i64.wrap (budget1 - (1 : Int))) < μ0 p01 p15 p101 p121 p131 p141 p21 p31 p41 p61 p71 p91 o3 o4 o5 budget1))))))))))))))))) ∧
 ((!p141) = false →
 R (vA [sD (dI p01), sD (dI p15), sD (dL p21), sD (dI p31), sD (dI p41), sD (dL (matD o3)), sD (dI p61), sD (dI p71), sD (dL (matD o4)), sD (dI p91), sD (dI p101), sD (dL (matD o5)), sD (dI p121), sD (dI p131), sD (dB p141)]) [])) ∧
 (decide (budget1 > (0 : Int)) = false →
 R (vA [sD (dI p01), sD (dI p15), sD (dL p21), sD (dI p31), sD (dI p41), sD (dL (matD o3)), sD (dI p61), sD (dI p71), sD (dL (matD o4)), sD (dI p91), sD (dI p101), sD (dL (matD o5)), sD (dI p121), sD (dI p131), sD (dB p141)]) [])))))
theorem vc13_ok (p0 p1 : Int) (p2 : List (List D)) (p3 p4 : Int) (p5 : List (List D)) (p6 p7 : Int) (p8 : List (List D)) (p9 p10 : Int) (p11 : List (List D)) (p12 p13 : Int) (p14 : Bool) (budget : Int) {R : V → Heap → Prop} (h : vc13 p0 p1 p2 p3 p4 p5 p6 p7 p8 p9 p10 p11 p12 p13 p14 budget R) : FnG prog 13 [vA [sD (dI p0), sD (dI p1), sD (dL p2), sD (dI p3), sD (dI p4), sD (dL p5), sD (dI p6), sD (dI p7), sD (dL p8), sD (dI p9), sD (dI p10), sD (dL p11), sD (dI p12), sD (dI p13), sD (dB p14)], vD (dI budget)] [] R :=
  FnG.vcg hT func13 ntmps13 (.reg 2 [(0, Or.none, 0, 1), (1, Or.none, 1, 1)] [1, 2, 4] [0, 1] [] <| .spl ((decide (budget ≤ (0 : Int)))) (.reg 0 [(2, Or.bool true, 0, 0)] [1, 2, 4, 13] [0, 1] [.old 0] <| .ct true none <| .r1 [4] [1] <| .ret []) (.reg 0 [(2, Or.bool false, 0, 0)] [1, 2, 4, 13] [0, 1] [.old 0] <| .c2 (.r1 [4] [1] <| .ret []) (.ex fun r0 => .ex fun r1 => .exm fun rrows => .ex fun r01 => .ex fun r11 => .exm fun rrows1 => .ex fun r02 => .ex fun r12 => .exm fun rrows2 => .drw 3 [(2, (Or.call (vA [sD (dI r0), sD (dI r1), S.ref 0]) [some (Obj.mat 2 rrows)] [], 2, 1), [2]), (5, (Or.call (vA [sD (dI r01), sD (dI r11), S.ref 0]) [some (Obj.mat 2 rrows1)] [], 3, 1), [3]), (8, (Or.call (vA [sD (dI r02), sD (dI r12), S.ref 0]) [some (Obj.mat 2 rrows2)] [], 4, 1), [4]), (10, (Or.none, 0, 0), [0]), (12, (Or.none, 0, 0), [0]), (14, (Or.none, 0, 0), [0])] [1, 2, 4] [0, 1, 2, 3, 4] [] <| .reg 1 [(0, Or.call (vA [sD (D.fn (.func 64) ([] : List D)), sD (D.fn (.func 65) ([] : List D)), sD (D.fn (.func 66) ([] : List D)), sD (D.fn (.func 67) ([] : List D)), sD (D.fn (.func 68) ([] : List D))]) [] [], 0, 0), (1, Or.none, 5, 1)] [1, 2, 4, 5] [0, 1, 5, 2, 3, 4] [] <| .lp [.i, .i, .i, .i, .i, .b, .l, .i, .i, .i, .i, .i, .m, .m, .m, .i] (fun p01 p15 p101 p121 p131 p141 p21 p31 p41 p61 p71 p91 o3 o4 o5 budget1 => ⟨[(1, vD (dI budget1)), (2, vP 0 0), (4, vP 1 0), (5, vP 2 0)], [some (Obj.box [sD (dI p01), sD (dI p15), sD (dL p21), sD (dI p31), sD (dI p41), S.ref 3, sD (dI p61), sD (dI p71), S.ref 4, sD (dI p91), sD (dI p101), S.ref 5, sD (dI p121), sD (dI p131), sD (dB p141)]), some (Obj.box [sD (dI (0 : Int)), sD (dI (0 : Int)), sD (D.raw (.slice none 0 0)), sD (dI (0 : Int)), sD (dI (0 : Int)), sD (D.raw (.slice none 0 0)), sD (dI (0 : Int)), sD (dI (0 : Int)), sD (D.raw (.slice none 0 0)), sD (dI (0 : Int)), sD (dI (0 : Int)), sD (D.raw (.slice none 0 0)), sD (dI (0 : Int)), sD (dI (0 : Int)), sD (dB false)]), some (Obj.box [sD (D.fn (.func 64) ([] : List D)), sD (D.fn (.func 65) ([] : List D)), sD (D.fn (.func 66) ([] : List D)), sD (D.fn (.func 67) ([] : List D)), sD (D.fn (.func 68) ([] : List D))]), some (Obj.mat 2 o3), some (Obj.mat 2 o4), some (Obj.mat 2 o5)], 48⟩) [.i p0, .i p1, .i r12, .i p12, .i p13, .b p14, .l p2, .i r0, .i r1, .i r01, .i r11, .i r02, .m rrows, .m rrows1, .m rrows2, .i budget] <| .fi fun p01 => .fi fun p15 => .fi fun p101 => .fi fun p121 => .fi fun p131 => .fb fun p141 => .fl fun p21 => .fi fun p31 => .fi fun p41 => .fi fun p61 => .fi fun p71 => .fi fun p91 => .fm fun o3 => .fm fun o4 => .fm fun o5 => .fi fun budget1 => .beg <| .spl ((decide (budget1 > (0 : Int)))) (.reg 0 [(2, Or.bool true, 0, 0)] [1, 2, 4, 5, 34] [0, 1, 2, 3, 4, 5] [.old 0] <| .c2 (.r1 [1, 2, 4, 5, 37, 38] [0, 1, 2, 3, 4, 5] <| .lp1 <| .r1 [1, 2, 4, 5, 37, 38, 39] [0, 1, 2, 3, 4, 5] <| .ct true none <| .r1 [1, 2, 4, 5, 7, 37, 38] [0, 1, 2, 3, 4, 5] <| .exb fun r => .ex fun b => .ex fun b1 => .exl fun b2 => .ex fun b3 => .ex fun b4 => .ex fun b5 => .ex fun b6 => .ex fun b7 => .ex fun b8 => .ex fun b9 => .ex fun b10 => .exb fun b11 => .exm fun m => .exm fun m1 => .exm fun m2 => .reg 0 [(1, Or.callO [0, 3, 4, 5] (vD (dB r)) [some (Obj.box [sD (dI b), sD (dI b1), sD (dL b2), sD (dI b3), sD (dI b4), S.ref 1, sD (dI b5), sD (dI b6), S.ref 2, sD (dI b7), sD (dI b8), S.ref 3, sD (dI b9), sD (dI b10), sD (dB b11)]), some (Obj.mat 2 m), some (Obj.mat 2 m1), some (Obj.mat 2 m2)], 0, 0)] [1, 2, 4, 5, 37, 38, 42] [0, 1, 2, 3, 4, 5] [] <| .c2 (.exb fun r2 => .reg 0 [(1, Or.callB [3, 4, 5] [] (vD (dB r2)), 0, 0)] [1, 2, 4, 5] [0, 1, 2, 3, 4, 5] [] <| .r1 [1, 2, 4, 5] [0, 1, 2, 3, 4, 5] <| .bk 0 [.i b, .i b1, .i b8, .i b9, .i b10, .b r2, .l b2, .i b3, .i b4, .i b5, .i b6, .i b7, .m m, .m m1, .m m2, .i (IntKind.i64.wrap (budget1 - (1 : Int)))]) (.r1 [1, 2, 4, 5, 37, 38] [0, 1, 2, 3, 4, 5] <| .lp1 <| .r1 [1, 2, 4, 5, 37, 38, 39] [0, 1, 2, 3, 4, 5] <| .ct true none <| .r1 [1, 2, 4, 5, 7, 37, 38] [0, 1, 2, 3, 4, 5] <| .exb fun r3 => .ex fun b12 => .ex fun b13 => .exl fun b14 => .ex fun b15 => .ex fun b16 => .ex fun b17 => .ex fun b18 => .ex fun b19 => .ex fun b20 => .ex fun b21 => .ex fun b22 => .exb fun b23 => .exm fun m3 => .exm fun m4 => .exm fun m5 => .reg 2 [(1, Or.callO [0, 3, 4, 5] (vD (dB r3)) [some (Obj.box [sD (dI b12), sD (dI b13), sD (dL b14), sD (dI b15), sD (dI b16), S.ref 4, sD (dI b17), sD (dI b18), S.ref 5, sD (dI b19), sD (dI b20), S.ref 3, sD (dI b21), sD (dI b22), sD (dB b23)]), some (Obj.fwd (S.ref 4)), some (Obj.fwd (S.ref 5)), some (Obj.mat 2 m3), some (Obj.mat 2 m4), some (Obj.mat 2 m5)], 6, 2)] [1, 2, 4, 5, 37, 38, 42] [0, 1, 2, 6, 7, 5] [] <| .c2 (.exb fun r4 => .reg 0 [(1, Or.callB [3, 4, 5] [] (vD (dB r4)), 0, 0)] [1, 2, 4, 5] [0, 1, 2, 3, 4, 5] [] <| .r1 [1, 2, 4, 5] [0, 1, 2, 3, 4, 5] <| .bk 0 [.i b12, .i b13, .i b20, .i b21, .i b22, .b r4, .l b14, .i b15, .i b16, .i b17, .i b18, .i b19, .m m4, .m m5, .m m3, .i (IntKind.i64.wrap (budget1 - (1 : Int)))]) (.r1 [1, 2, 4, 5, 37, 38] [0, 1, 2, 3, 4, 5] <| .lp1 <| .r1 [1, 2, 4, 5, 37, 38, 39] [0, 1, 2, 3, 4, 5] <| .ct true none <| .r1 [1, 2, 4, 5, 7, 37, 38] [0, 1, 2, 3, 4, 5] <| .exb fun r5 => .ex fun b24 => .ex fun b25 => .exl fun b26 => .ex fun b27 => .ex fun b28 => .ex fun b29 => .ex fun b30 => .ex fun b31 => .ex fun b32 => .ex fun b33 => .ex fun b34 => .exb fun b35 => .exm fun m6 => .exm fun m7 => .exm fun m8 => .reg 0 [(1, Or.callO [0, 3, 4, 5] (vD (dB r5)) [some (Obj.box [sD (dI b24), sD (dI b25), sD (dL b26), sD (dI b27), sD (dI b28), S.ref 1, sD (dI b29), sD (dI b30), S.ref 2, sD (dI b31), sD (dI b32), S.ref 3, sD (dI b33), sD (dI b34), sD (dB b35)]), some (Obj.mat 2 m6), some (Obj.mat 2 m7), some (Obj.mat 2 m8)], 0, 0)] [1, 2, 4, 5, 37, 38, 42] [0, 1, 2, 3, 4, 5] [] <| .c2 (.exb fun r6 => .reg 0 [(1, Or.callB [3, 4, 5] [] (vD (dB r6)), 0, 0)] [1, 2, 4, 5] [0, 1, 2, 3, 4, 5] [] <| .r1 [1, 2, 4, 5] [0, 1, 2, 3, 4, 5] <| .bk 0 [.i b24, .i b25, .i b32, .i b33, .i b34, .b r6, .l b26, .i b27, .i b28, .i b29, .i b30, .i b31, .m m6, .m m7, .m m8, .i (IntKind.i64.wrap (budget1 - (1 : Int)))]) (.r1 [1, 2, 4, 5, 37, 38] [0, 1, 2, 3, 4, 5] <| .lp1 <| .r1 [1, 2, 4, 5, 37, 38, 39] [0, 1, 2, 3, 4, 5] <| .ct true none <| .r1 [1, 2, 4, 5, 7, 37, 38] [0, 1, 2, 3, 4, 5] <| .exb fun r7 => .ex fun b36 => .ex fun b37 => .exl fun b38 => .ex fun b39 => .ex fun b40 => .ex fun b41 => .ex fun b42 => .ex fun b43 => .ex fun b44 => .ex fun b45 => .ex fun b46 => .exb fun b47 => .exm fun m9 => .exm fun m10 => .exm fun m11 => .reg 0 [(1, Or.callO [0, 3, 4, 5] (vD (dB r7)) [some (Obj.box [sD (dI b36), sD (dI b37), sD (dL b38), sD (dI b39), sD (dI b40), S.ref 1, sD (dI b41), sD (dI b42), S.ref 2, sD (dI b43), sD (dI b44), S.ref 3, sD (dI b45), sD (dI b46), sD (dB b47)]), some (Obj.mat 2 m9), some (Obj.mat 2 m10), some (Obj.mat 2 m11)], 0, 0)] [1, 2, 4, 5, 37, 38, 42] [0, 1, 2, 3, 4, 5] [] <| .c2 (.exb fun r8 => .reg 0 [(1, Or.callB [3, 4, 5] [] (vD (dB r8)), 0, 0)] [1, 2, 4, 5] [0, 1, 2, 3, 4, 5] [] <| .r1 [1, 2, 4, 5] [0, 1, 2, 3, 4, 5] <| .bk 0 [.i b36, .i b37, .i b44, .i b45, .i b46, .b r8, .l b38, .i b39, .i b40, .i b41, .i b42, .i b43, .m m9, .m m10, .m m11, .i (IntKind.i64.wrap (budget1 - (1 : Int)))]) (.r1 [1, 2, 4, 5, 37, 38] [0, 1, 2, 3, 4, 5] <| .lp1 <| .r1 [1, 2, 4, 5, 37, 38, 39] [0, 1, 2, 3, 4, 5] <| .ct true none <| .r1 [1, 2, 4, 5, 7, 37, 38] [0, 1, 2, 3, 4, 5] <| .exb fun r9 => .ex fun b48 => .ex fun b49 => .exl fun b50 => .ex fun b51 => .ex fun b52 => .ex fun b53 => .ex fun b54 => .ex fun b55 => .ex fun b56 => .ex fun b57 => .ex fun b58 => .exb fun b59 => .exm fun m12 => .exm fun m13 => .exm fun m14 => .reg 0 [(1, Or.callO [0, 3, 4, 5] (vD (dB r9)) [some (Obj.box [sD (dI b48), sD (dI b49), sD (dL b50), sD (dI b51), sD (dI b52), S.ref 1, sD (dI b53), sD (dI b54), S.ref 2, sD (dI b55), sD (dI b56), S.ref 3, sD (dI b57), sD (dI b58), sD (dB b59)]), some (Obj.mat 2 m12), some (Obj.mat 2 m13), some (Obj.mat 2 m14)], 0, 0)] [1, 2, 4, 5, 37, 38, 42] [0, 1, 2, 3, 4, 5] [] <| .c2 (.exb fun r10 => .reg 0 [(1, Or.callB [3, 4, 5] [] (vD (dB r10)), 0, 0)] [1, 2, 4, 5] [0, 1, 2, 3, 4, 5] [] <| .r1 [1, 2, 4, 5] [0, 1, 2, 3, 4, 5] <| .bk 0 [.i b48, .i b49, .i b56, .i b57, .i b58, .b r10, .l b50, .i b51, .i b52, .i b53, .i b54, .i b55, .m m12, .m m13, .m m14, .i (IntKind.i64.wrap (budget1 - (1 : Int)))]) (.r1 [1, 2, 4, 5, 37, 38] [0, 1, 2, 3, 4, 5] <| .lp1 <| .r1 [1, 2, 4, 5, 37, 38, 39] [0, 1, 2, 3, 4, 5] <| .ct false none <| .exb fun r13 => .reg 0 [(1, Or.callB [3, 4, 5] [] (vD (dB r13)), 0, 0)] [1, 2, 4, 5] [0, 1, 2, 3, 4, 5] [] <| .r1 [1, 2, 4, 5] [0, 1, 2, 3, 4, 5] <| .bk 0 [.i b48, .i b49, .i b56, .i b57, .i b58, .b r13, .l b50, .i b51, .i b52, .i b53, .i b54, .i b55, .m m12, .m m13, .m m14, .i (IntKind.i64.wrap (budget1 - (1 : Int)))])))))) (.r1 [4] [1, 3, 4, 5] <| .frz [1, 2, 3] <| .ret [])) (.reg 0 [(2, Or.bool false, 0, 0)] [1, 2, 4, 5, 34] [0, 1, 2, 3, 4, 5] [.old 0] <| .ct false none <| .r1 [4] [1, 3, 4, 5] <| .frz [1, 2, 3] <| .ret []))))
    (by kernel_rfl) (by kernel_rfl) (by kernel_rfl) h
end Go.AM
/- Package step: Start, Step. -/
namespace Go.AM
open Go.Proofs.Tryz
abbrev idM (r : Nat) : List (List Int) := table r r delta
def eS (r c : Nat) (A : List (List Int)) (s : PS) : V := eP r c A (apL r c s.d A) (apL r r s.d (idM r)) (apCL r s.d (idM r)) s.t s.k (s.fin r c)
structure PSx (r c N L : Nat) (A : List (List Int)) : Prop where
  hm : Mx r c A
  km : BdM N A
  N1 : 1 ≤ N
  big : (N * qB r N c) * (N * qB r N c) * 4294967296 < 4294967296 ^ L
  hL : L ≤ 1073741824
  hr : r ≤ 4294967296
  hc : c ≤ 4294967296
theorem idM_bd (r : Nat) : BdM 1 (idM r) := table_bd fun i j _ _ => by unfold delta; split <;> decide
theorem finB_eq (r c : Nat) (s : PS) : s.fin r c = finB r c s.t s.k := rfl
theorem apCL_snoc {n : Nat} (d : List Opz) (o : Opz) (m : List (List Int)) : apCL n (d ++ [o]) m = apC n o (apCL n d m) := by rw [apCL_append]; rfl
section
variable {r c N L : Nat} {A : List (List Int)} (X : PSx r c N L A)
include X
theorem PSx.sz {y : Int} (h : y.natAbs ≤ N * qB r N c) : Sz y := by
  refine Sz.of_lt L X.hL (Nat.lt_of_le_of_lt (Nat.le_trans (Nat.le_trans h (kk_le _)) (Nat.le_mul_of_pos_right _ (by decide))) X.big)
theorem PSx.bds {s : PS} (h : PInv r c N A s) : BdM (N * qB r N c) (apL r c s.d A) ∧ BdM (N * qB r N c) (apL r r s.d (idM r)) ∧ BdM (N * qB r N c) (apCL r s.d (idM r)) := by
  have h1 : gL s.d * 1 ≤ N * qB r N c := by
    have := Nat.mul_le_mul X.N1 h.ge
    rw [Nat.mul_one]; rwa [Nat.one_mul] at this
  refine ⟨(apL_g h.va X.hm X.km).mono ?_, (apL_g h.va (table_mx _ _ _) (idM_bd r)).mono h1, (apCL_g h.va (table_mx _ _ _) (idM_bd r)).mono h1⟩
  rw [Nat.mul_comm]; exact Nat.mul_le_mul_left _ h.ge
theorem PSx.px {s : PS} (h : PInv r c N A s) (ht : s.t < r) (hk : s.k < c) : PCx r c (N * qB r N c) L (apL r c s.d A) (apL r r s.d (idM r)) (apCL r s.d (idM r)) s.t s.k := by
  obtain ⟨h1, h2, h3⟩ := X.bds h
  exact ⟨apL_mx _ X.hm, apL_mx _ (table_mx _ _ _), apCL_mx _ (table_mx _ _ _), h1, h2, h3, ht, hk, X.big, X.hL, X.hr, X.hc⟩
theorem pstart_ok : FnD prog 10 [eM r c A] (eS r c A ⟨[], 0, 0⟩) [] := by
  refine vc10_ok _ _ _ (R := Out _) ?_
  unfold vc10
  exact ⟨_, _, _, _, _, _, mident_ok X.hr, mident_ok X.hr, _, fin_ok (t := 0) (k := 0), rfl, rfl⟩
theorem rstart_ok : FnD prog 12 [eM r c A] (eS r c A ⟨[], 0, 0⟩) [] := by
  refine vc12_ok _ _ _ (R := Out _) ?_
  unfold vc12
  refine ⟨_, _, _, _, _, _, rident_ok X.hr, rident_ok X.hr, ?_⟩
  rw [matD_om]
  exact ⟨_, rfin_ok (t := 0) (k := 0), rfl, rfl⟩
omit X in
def Sp0 (r c N : Nat) (A : List (List Int)) (S : PS) (p0 p1 p10 p12 p13 : Int) (p14 : Bool) (p2 : List (List D)) (p3 p4 p6 p7 p9 : Int) (o3 o4 o5 : List (List (List D))) (z : Int) : Prop :=
  ∃ (s : PS) (n : Nat), (p0 = r ∧ p1 = c ∧ p10 = r ∧ p12 = s.t ∧ p13 = s.k ∧ p14 = finB r c s.t s.k ∧ p2 = rows A ∧ p3 = r ∧ p4 = c ∧ p6 = r ∧ p7 = r ∧ p9 = r ∧ o3 = om (apL r c s.d A) ∧ o4 = om (apL r r s.d (idM r)) ∧ o5 = om (apCL r s.d (idM r)) ∧ z = (n : Int)) ∧
    n ≤ 4611686018427387904 ∧ PInv r c N A s ∧ s.run r c A n = S
omit X in
abbrev Spm (_ _ _ _ _ : Int) (_ : Bool) (_ : List (List D)) (_ _ _ _ _ : Int) (_ _ _ : List (List (List D))) (z : Int) : Nat := z.toNat
set_option maxRecDepth 100000 in
theorem pstep_ok {s0 : PS} (h0 : PInv r c N A s0) {n0 : Int} (hn0 : n0 ≤ 4611686018427387904) : FnD prog 13 [eS r c A s0, vi n0] (eS r c A (s0.run r c A n0.toNat)) [] := by
  refine vc13_ok _ _ _ _ _ _ _ _ _ _ _ _ _ _ _ _ (R := Out _) ?_
  unfold vc13
  refine ⟨fun h => ?_, fun h => ⟨fun hf => ?_, fun hf => ?_⟩⟩
  · have h1 : n0 ≤ 0 := by simpa using h
    rw [show n0.toNat = 0 by omega]
    exact ⟨rfl, rfl⟩
  · rw [PS.run_fin hf]
    exact ⟨rfl, rfl⟩
  have hn : 0 < n0 := by have := of_decide_eq_false h; omega
  clear h
  have hr := X.hr; have hc := X.hc
  refine ⟨_, _, _, _, _, _, _, _, _, pcopied_ok (apL_mx _ X.hm) hr hc, pcopied_ok (apL_mx _ (table_mx _ _ _)) hr hr, pcopied_ok (apCL_mx _ (table_mx _ _ _)) hr hr, vc33_ok (R := Out _) (by unfold vc33; exact ⟨rfl, rfl⟩), ?_⟩
  refine ⟨Sp0 r c N A (s0.run r c A n0.toNat), Spm, ⟨s0, n0.toNat, ⟨rfl, rfl, rfl, rfl, rfl, rfl, rfl, rfl, rfl, rfl, rfl, rfl, rfl, rfl, rfl, by omega⟩, by omega, h0, rfl⟩, ?_⟩
  generalize s0.run r c A n0.toNat = S
  clear hf h0 hn hn0
  rintro _ _ _ _ _ _ _ _ _ _ _ _ _ _ _ _ ⟨s, n, ⟨rfl, rfl, rfl, rfl, rfl, rfl, rfl, rfl, rfl, rfl, rfl, rfl, rfl, rfl, rfl, rfl⟩, hn, hi, hS⟩
  have done : s.run r c A n = s → (fun x y => Out (eS r c A S) x y) (vA [(sD (dI r)), (sD (dI c)), (sD (dL (rows A))), (sD (dI r)), (sD (dI c)), (sD (dL (matD (om (apL r c s.d A))))), (sD (dI r)), (sD (dI r)), (sD (dL (matD (om (apL r r s.d (idM r)))))), (sD (dI r)), (sD (dI r)), (sD (dL (matD (om (apCL r s.d (idM r)))))), (sD (dI s.t)), (sD (dI s.k)), (sD (dB (finB r c s.t s.k)))]) [] := fun h => by
    rw [← hS, h, matD_om, matD_om, matD_om]
    exact ⟨rfl, rfl⟩
  refine ⟨fun h => ⟨fun h2 => ?_, fun h2 => ?_⟩, fun h => ?_⟩
  rotate_left
  · have hf : s.fin r c = true := by rw [finB_eq]; simpa using h2
    exact done (PS.run_fin hf n)
  · have : n = 0 := by have := of_decide_eq_false h; omega
    subst this
    exact done rfl
  have hf : s.fin r c = false := by rw [finB_eq]; simpa using h2
  obtain ⟨n, rfl⟩ : ∃ n', n = n' + 1 := ⟨n - 1, by have := of_decide_eq_true h; omega⟩
  have htk : s.t < r ∧ s.k < c := by
    have hf' := hf
    simp only [PS.fin, Bool.or_eq_false_iff, decide_eq_false_iff_not] at hf'
    omega
  obtain ⟨ht, hk⟩ := htk
  have hrun : (s.next r c A).run r c A n = S := by
    rw [← hS]; simp only [PS.run, hf]; rfl
  have hinv := hi.next X.hm X.km ht hk
  have P := X.px hi ht hk
  have hw : IntKind.i64.wrap (((n + 1 : Nat) : Int) - 1) = (n : Int) := by rw [w64 (by omega) (by omega)]; omega
  have hnx := nx_ok (cc := c) (a := A) ht
  clear h h2 hf done hS
  rw [hw]
  have nx : ∀ s', PInv r c N A s' → s'.run r c A n = S → Sp0 r c N A S r c r s'.t s'.k (finB r c s'.t s'.k) (rows A) r c r r r (om (apL r c s'.d A)) (om (apL r r s'.d (idM r))) (om (apCL r s'.d (idM r))) (n : Int) ∧ (n : Int).toNat < ((n + 1 : Nat) : Int).toNat :=
    fun s' g1 g2 => ⟨⟨s', n, ⟨rfl, rfl, rfl, rfl, rfl, rfl, rfl, rfl, rfl, rfl, rfl, rfl, rfl, rfl, rfl, rfl⟩, by omega, g1, g2⟩, by omega⟩
  have fin' : ∀ {m u v : List (List Int)} {t k : Nat} {b : Bool}, FnD prog 29 [vA [(sD (dI r)), (sD (dI c)), (sD (dL (rows A))), (sD (dI r)), (sD (dI c)), (sD (dL (matD (om m)))), (sD (dI r)), (sD (dI r)), (sD (dL (matD (om u)))), (sD (dI r)), (sD (dI r)), (sD (dL (matD (om v)))), (sD (dI t)), (sD (dI k)), (sD (dB b))]] (vb (finB r c t k)) [] := fun {m u v t k b} => by
    rw [matD_om, matD_om, matD_om]; exact fin_ok
  generalize hs' : s.next r c A = s' at hnx hrun hinv
  clear hs'
  refine ⟨⟨by decide, by decide⟩, ?_⟩
  have hskip := skip_ok P (A := A) (b := finB r c s.t s.k)
  cases hnx with
  | skip g1 g2 =>
    rw [decide_eq_true g1, if_pos g1] at hskip
    exact ⟨_, _, _, _, _, _, _, _, _, _, _, _, _, _, _, _, hskip, fun _ => ⟨_, fin', nx _ hinv hrun⟩, fun h => absurd h (by decide)⟩
  | swap p g0 g1 g2 g3 g4 =>
    have gn : ¬ lsF (apL r c s.d A) s.k s.t (r - s.t) < 0 := by rw [g0]; omega
    rw [decide_eq_false gn, if_neg gn] at hskip
    have h2 := exch_yes P (A := A) (b := finB r c s.t s.k) g0 g2 (by omega)
    rw [← apL_snoc, ← apL_snoc, ← apCL_snoc] at h2
    refine ⟨_, _, _, _, _, _, _, _, _, _, _, _, _, _, _, _, hskip, fun h => absurd h (by decide), fun _ => ⟨⟨by decide, by decide⟩, ?_⟩⟩
    exact ⟨_, _, _, _, _, _, _, _, _, _, _, _, _, _, _, _, h2, fun _ => ⟨_, fin', nx _ hinv hrun⟩, fun h => absurd h (by decide)⟩
  | neg g0 g1 g4 =>
    have gn : ¬ lsF (apL r c s.d A) s.k s.t (r - s.t) < 0 := by rw [g0]; omega
    rw [decide_eq_false gn, if_neg gn] at hskip
    have h2 := exch_no P (A := A) (b := finB r c s.t s.k) g0
    have h3 := neg_yes P (A := A) (b := finB r c s.t s.k) g1
    rw [← apL_snoc, ← apL_snoc, ← apCL_snoc] at h3
    refine ⟨_, _, _, _, _, _, _, _, _, _, _, _, _, _, _, _, hskip, fun h => absurd h (by decide), fun _ => ⟨⟨by decide, by decide⟩, ?_⟩⟩
    refine ⟨_, _, _, _, _, _, _, _, _, _, _, _, _, _, _, _, h2, fun h => absurd h (by decide), fun _ => ⟨⟨by decide, by decide⟩, ?_⟩⟩
    exact ⟨_, _, _, _, _, _, _, _, _, _, _, _, _, _, _, _, h3, fun _ => ⟨_, fin', nx _ hinv hrun⟩, fun h => absurd h (by decide)⟩
  | add i g0 g1 g4 ho hir hne hq =>
    have gn : ¬ lsF (apL r c s.d A) s.k s.t (r - s.t) < 0 := by rw [g0]; omega
    rw [decide_eq_false gn, if_neg gn] at hskip
    have h2 := exch_no P (A := A) (b := finB r c s.t s.k) g0
    have h3 := neg_no P (A := A) (b := finB r c s.t s.k) g1
    have h4 := red_yes P (A := A) (b := finB r c s.t s.k) (by omega) hir hne hq (opnL_inv ho).2.2.2
    rw [← apL_snoc, ← apL_snoc, ← apCL_snoc] at h4
    refine ⟨_, _, _, _, _, _, _, _, _, _, _, _, _, _, _, _, hskip, fun h => absurd h (by decide), fun _ => ⟨⟨by decide, by decide⟩, ?_⟩⟩
    refine ⟨_, _, _, _, _, _, _, _, _, _, _, _, _, _, _, _, h2, fun h => absurd h (by decide), fun _ => ⟨⟨by decide, by decide⟩, ?_⟩⟩
    refine ⟨_, _, _, _, _, _, _, _, _, _, _, _, _, _, _, _, h3, fun h => absurd h (by decide), fun _ => ⟨⟨by decide, by decide⟩, ?_⟩⟩
    exact ⟨_, _, _, _, _, _, _, _, _, _, _, _, _, _, _, _, h4, fun _ => ⟨_, fin', nx _ hinv hrun⟩, fun h => absurd h (by decide)⟩
  | adv g0 g1 ho hz =>
    have gn : ¬ lsF (apL r c s.d A) s.k s.t (r - s.t) < 0 := by rw [g0]; omega
    rw [decide_eq_false gn, if_neg gn] at hskip
    have h2 := exch_no P (A := A) (b := finB r c s.t s.k) g0
    have h3 := neg_no P (A := A) (b := finB r c s.t s.k) g1
    have h4 := red_no P (A := A) (b := finB r c s.t s.k) (by omega) hz
    have h5 := advance_ok P (A := A) (b := finB r c s.t s.k)
    refine ⟨_, _, _, _, _, _, _, _, _, _, _, _, _, _, _, _, hskip, fun h => absurd h (by decide), fun _ => ⟨⟨by decide, by decide⟩, ?_⟩⟩
    refine ⟨_, _, _, _, _, _, _, _, _, _, _, _, _, _, _, _, h2, fun h => absurd h (by decide), fun _ => ⟨⟨by decide, by decide⟩, ?_⟩⟩
    refine ⟨_, _, _, _, _, _, _, _, _, _, _, _, _, _, _, _, h3, fun h => absurd h (by decide), fun _ => ⟨⟨by decide, by decide⟩, ?_⟩⟩
    refine ⟨_, _, _, _, _, _, _, _, _, _, _, _, _, _, _, _, h4, fun h => absurd h (by decide), fun _ => ⟨⟨by decide, by decide⟩, ?_⟩⟩
    exact ⟨_, _, _, _, _, _, _, _, _, _, _, _, _, _, _, _, h5, fun _ => ⟨_, fin', nx _ hinv hrun⟩, fun h => absurd h (by decide)⟩
end
end Go.AM
/- torsionref21: next, Step, Cost, Same; package step: Cost. -/
namespace Go.AM
open Go.Proofs.Tryz
section
variable {r c N L : Nat} {A : List (List Int)} (X : PSx r c N L A)
include X
theorem rnext_ok {s : PS} (hi : PInv r c N A s) (ht : s.t < r) (hk : s.k < c) {b : Bool} :
    FnD prog 34 [eP r c A (apL r c s.d A) (apL r r s.d (idM r)) (apCL r s.d (idM r)) s.t s.k b] (eS r c A (s.next r c A)) [] := by
  refine vc34_ok _ _ _ _ _ _ _ _ _ _ _ _ _ _ _ (R := Out _) ?_
  unfold vc34
  have P := X.px hi ht hk
  have hr := X.hr; have hc := X.hc
  have hm := P.hm
  have sz : ∀ {y : Int}, y.natAbs ≤ N * qB r N c → Sz y := fun h => X.sz h
  have rfin' : ∀ {m u v : List (List Int)} {t k : Nat} {b : Bool}, FnD prog 31 [vA [(sD (dI r)), (sD (dI c)), (sD (dL (rows A))), (sD (dI r)), (sD (dI c)), (sD (dL (matD (om m)))), (sD (dI r)), (sD (dI r)), (sD (dL (matD (om u)))), (sD (dI r)), (sD (dI r)), (sD (dL (matD (om v)))), (sD (dI t)), (sD (dI k)), (sD (dB b))]] (vb (finB r c t k)) [] := fun {m u v t k b} => by
    rw [matD_om, matD_om, matD_om]; exact rfin_ok
  have out : ∀ s', s' = s.next r c A → (fun x y => Out (eS r c A (s.next r c A)) x y) (vA [(sD (dI r)), (sD (dI c)), (sD (dL (rows A))), (sD (dI r)), (sD (dI c)), (sD (dL (matD (om (apL r c s'.d A))))), (sD (dI r)), (sD (dI r)), (sD (dL (matD (om (apL r r s'.d (idM r)))))), (sD (dI r)), (sD (dI r)), (sD (dL (matD (om (apCL r s'.d (idM r)))))), (sD (dI s'.t)), (sD (dI s'.k)), (sD (dB (finB r c s'.t s'.k)))]) [] := fun s' h => by
    rw [← h, matD_om, matD_om, matD_om]
    exact ⟨rfl, rfl⟩
  have ls := rls P (A := A) (b := b)
  refine ⟨_, _, _, _, _, _, _, _, _, rcopied_ok P.hm (fun _ _ h1 h2 => sz (el_bd P.hm P.km h1 h2)) hr hc, rcopied_ok P.hu (fun _ _ h1 h2 => sz (el_bd P.hu P.ku h1 h2)) hr hr, rcopied_ok P.hv (fun _ _ h1 h2 => sz (el_bd P.hv P.kv h1 h2)) hr hr, _, ls, ?_⟩
  have hnx := nx_ok (cc := c) (a := A) ht
  generalize s.next r c A = s' at hnx out ⊢
  cases hnx with
  | skip g1 g2 =>
    refine ⟨fun _ => ?_, fun h => absurd g1 (of_decide_eq_false h)⟩
    rw [inc64 (by omega)]
    exact ⟨_, rfin', out _ rfl⟩
  | swap p g0 g1 g2 g3 g4 =>
    refine ⟨fun h => ?_, fun _ => ⟨fun _ => ?_, fun h => ?_⟩⟩
    · have := of_decide_eq_true h; rw [g0] at this; omega
    · have h2 := wswap_ok (vO_swap g2 ht (by omega)) rfl P.hm P.hu P.hv hr
      rw [← apL_snoc, ← apL_snoc, ← apCL_snoc] at h2
      rw [g0]
      exact ⟨_, _, _, _, _, _, _, _, _, h2, _, rfin', out _ rfl⟩
    · rw [g0] at h
      have : (p : Int) = (s.t : Int) := by simpa using h
      omega
  | neg g0 g1 g4 =>
    obtain ⟨d1, d2, d3, d4⟩ := read_el hm ht hk
    refine ⟨fun h => ?_, fun _ => ⟨fun h => ?_, fun h => ?_⟩⟩
    · have := of_decide_eq_true h; rw [g0] at this; omega
    · rw [g0] at h; simp at h
    refine ⟨_, _, _, _, ⟨by omega, d4⟩, d1, ⟨by omega, d3⟩, d2, rsign_ok _, fun h => ?_, fun h => ?_⟩
    · have h2 := wneg_gen (vO_neg ht) rfl P.hm P.hu P.hv P.km P.ku P.kv (fun y hy => sz hy) hr hc
      rw [← apL_snoc, ← apL_snoc, ← apCL_snoc] at h2
      exact ⟨_, _, _, _, _, _, _, _, _, h2, _, rfin', out _ rfl⟩
    · rw [sgn_lt.2 g1] at h; simp at h
  | add i g0 g1 g4 ho hir hne hq =>
    obtain ⟨d1, d2, d3, d4⟩ := read_el hm ht hk
    obtain ⟨f1, f2, f3, f4⟩ := read_el hm hir hk
    refine ⟨fun h => ?_, fun _ => ⟨fun h => ?_, fun h => ?_⟩⟩
    · have := of_decide_eq_true h; rw [g0] at this; omega
    · rw [g0] at h; simp at h
    refine ⟨_, _, _, _, ⟨by omega, d4⟩, d1, ⟨by omega, d3⟩, d2, rsign_ok _, fun h => ?_, fun h => ?_⟩
    · have := sgn_lt.1 h; omega
    have hop := ropen_ok P (A := A) (b := b) g1 g4
    have e : opI r s.k s.t (apL r c s.d A) = (i : Int) := by unfold opI; rw [ho]
    rw [e] at hop
    have hqK : (el (apL r c s.d A) i s.k / el (apL r c s.d A) s.t s.k).natAbs ≤ N * qB r N c := by
      have h1 := Int.natAbs_ediv_le_natAbs (el (apL r c s.d A) i s.k) (el (apL r c s.d A) s.t s.k)
      exact Nat.le_trans h1 (el_bd P.hm P.km hir hk)
    have hzK : (-(el (apL r c s.d A) i s.k / el (apL r c s.d A) s.t s.k)).natAbs ≤ N * qB r N c := by rw [Int.natAbs_neg]; exact hqK
    have h2 := wadd_gen (vO_add (z := -(el (apL r c s.d A) i s.k / el (apL r c s.d A) s.t s.k)) hir ht hne) rfl P.hm P.hu P.hv P.km P.ku P.kv (sz hzK) (fun y hy => ⟨sz hy, P.sz2 (by rw [Int.natAbs_mul]; exact Nat.mul_le_mul hzK hy)⟩) hr hc
    rw [← apL_snoc, ← apL_snoc, ← apCL_snoc] at h2
    refine ⟨_, hop, fun h => ?_, fun _ => ?_⟩
    · have := of_decide_eq_true h; omega
    exact ⟨_, _, _, _, _, _, _, _, _, _, _, _, _, _, _, _, ⟨by omega, f4⟩, f1, ⟨by omega, f3⟩, f2,
      floor_ok (by omega) (P.lt (el_bd P.hm P.km hir hk)) (P.lt (el_bd P.hm P.km ht hk)) P.hL, rneg_ok (sz hqK), h2, _, rfin', out _ rfl⟩
  | adv g0 g1 ho hz =>
    obtain ⟨d1, d2, d3, d4⟩ := read_el hm ht hk
    refine ⟨fun h => ?_, fun _ => ⟨fun h => ?_, fun h => ?_⟩⟩
    · have := of_decide_eq_true h; rw [g0] at this; omega
    · rw [g0] at h; simp at h
    refine ⟨_, _, _, _, ⟨by omega, d4⟩, d1, ⟨by omega, d3⟩, d2, rsign_ok _, fun h => ?_, fun h => ?_⟩
    · have := sgn_lt.1 h; omega
    have hle : ∀ i, s.t ≤ i → i < r → el (apL r c s.d A) i s.k ≠ 0 → (el (apL r c s.d A) s.t s.k).natAbs ≤ (el (apL r c s.d A) i s.k).natAbs := fun i a1 a2 a3 => by
      rcases lsF_ok (m := apL r c s.d A) (c := s.k) (top := s.t) (r - s.t) with ⟨b1, _⟩ | ⟨p, b1, _, _, _, b5⟩
      · rw [b1] at g0; omega
      · have hpt : p = s.t := by rw [b1] at g0; omega
        subst hpt
        exact b5 i a1 (by omega) a3
    have hop := ropen_ok P (A := A) (b := b) g1 hle
    have e : opI r s.k s.t (apL r c s.d A) = -1 := by unfold opI; rw [ho]
    rw [e] at hop
    refine ⟨_, hop, fun _ => ?_, fun h => absurd h (by decide)⟩
    rw [inc64 (by omega), inc64 (by omega)]
    exact ⟨_, rfin', out _ rfl⟩
omit X in
def St0 (r c N : Nat) (A : List (List Int)) (p0 p1 p10 : Int) (p11 : List (List D)) (p12 p13 : Int) (p14 : Bool) (p2 : List (List D)) (p3 p4 : Int) (p5 : List (List D)) (p6 p7 : Int) (p8 : List (List D)) (p9 : Int) (s : PS) : Prop :=
  (p0 = r ∧ p1 = c ∧ p10 = r ∧ p11 = rows (apCL r s.d (idM r)) ∧ p12 = s.t ∧ p13 = s.k ∧ p14 = s.fin r c ∧ p2 = rows A ∧ p3 = r ∧ p4 = c ∧ p5 = rows (apL r c s.d A) ∧ p6 = r ∧ p7 = r ∧ p8 = rows (apL r r s.d (idM r)) ∧ p9 = r) ∧ PInv r c N A s
theorem rstep_ok {s0 : PS} (h0 : PInv r c N A s0) {n0 : Int} (hn0 : n0 ≤ 4611686018427387904) : FnD prog 14 [eS r c A s0, vi n0] (eS r c A (s0.run r c A n0.toNat)) [] := by
  refine vc14_ok _ _ _ _ _ _ _ _ _ _ _ _ _ _ _ _ (R := Out _) ?_
  unfold vc14
  refine ⟨fun p0 p1 p10 p11 p12 p13 p14 p2 p3 p4 p5 p6 p7 p8 p9 z => ∃ (s : PS) (n : Nat), St0 r c N A p0 p1 p10 p11 p12 p13 p14 p2 p3 p4 p5 p6 p7 p8 p9 s ∧ z = (n : Int) ∧ n ≤ n0.toNat ∧ s.run r c A (n0.toNat - n) = s0.run r c A n0.toNat,
    fun _ _ _ _ _ _ _ _ _ _ _ _ _ _ _ z => (n0 - z).toNat, ⟨s0, 0, ⟨⟨rfl, rfl, rfl, rfl, rfl, rfl, rfl, rfl, rfl, rfl, rfl, rfl, rfl, rfl, rfl⟩, h0⟩, rfl, by omega, rfl⟩, ?_⟩
  rintro _ _ _ _ _ _ _ _ _ _ _ _ _ _ _ _ ⟨s, n, ⟨⟨rfl, rfl, rfl, rfl, rfl, rfl, rfl, rfl, rfl, rfl, rfl, rfl, rfl, rfl, rfl⟩, hi⟩, rfl, hn, hS⟩
  generalize s0.run r c A n0.toNat = S at hS ⊢
  have done : s.run r c A (n0.toNat - n) = s → (fun x y => Out (eS r c A S) x y) (eS r c A s) [] := fun h => by
    rw [← hS, h]; exact ⟨rfl, rfl⟩
  refine ⟨fun h => ⟨fun h2 => ?_, fun h2 => ?_⟩, fun h => ?_⟩
  rotate_left
  · have hf : s.fin r c = true := by simpa using h2
    exact done (PS.run_fin hf _)
  · have : n0.toNat - n = 0 := by have := of_decide_eq_false h; omega
    exact done (by rw [this]; rfl)
  have hf : s.fin r c = false := by simpa using h2
  have hlt : (n : Int) < n0 := of_decide_eq_true h
  have hf' := hf
  simp only [PS.fin, Bool.or_eq_false_iff, decide_eq_false_iff_not] at hf'
  have hnx := rnext_ok X hi (by omega) (by omega) (b := s.fin r c)
  refine ⟨_, _, _, _, _, _, _, _, _, _, _, _, _, _, _, hnx, ?_⟩
  rw [inc64 (by omega)]
  refine ⟨⟨s.next r c A, n + 1, ⟨⟨rfl, rfl, rfl, rfl, rfl, rfl, rfl, rfl, rfl, rfl, rfl, rfl, rfl, rfl, rfl⟩, hi.next X.hm X.km (by omega) (by omega)⟩, rfl, by omega, ?_⟩, by show (n0 - ((n + 1 : Nat) : Int)).toNat < (n0 - (n : Int)).toNat; omega⟩
  rw [← hS]
  rw [show n0.toNat - n = (n0.toNat - (n + 1)) + 1 by omega]
  simp only [PS.run, hf]
  rfl
omit X in
theorem run_next {r c : Nat} {A : List (List Int)} : ∀ (n : Nat) (s : PS), (s.run r c A n).fin r c = false → (s.run r c A n).next r c A = s.run r c A (n + 1)
  | 0, s, h => by
    have h' : s.fin r c = false := h
    simp [PS.run, h']
  | n + 1, s, h => by
    by_cases hf : s.fin r c = true
    · rw [PS.run_fin hf] at h; rw [h] at hf; exact absurd hf (by decide)
    · have e : ∀ k, s.run r c A (k + 1) = (s.next r c A).run r c A k := fun k => by simp [PS.run, hf]
      rw [e] at h
      rw [e, e]
      exact run_next n _ h
def IsCost (r c : Nat) (A : List (List Int)) (n : Nat) : Prop := (PS.run r c A n ⟨[], 0, 0⟩).fin r c = true ∧ ∀ k, k < n → (PS.run r c A k ⟨[], 0, 0⟩).fin r c = false
omit X in
theorem least_nat {p : Nat → Bool} : ∀ n, p n = true → ∃ k, k ≤ n ∧ p k = true ∧ ∀ j, j < k → p j = false
  | n, h => by
    by_cases he : ∃ j, j < n ∧ p j = true
    · obtain ⟨j, hj, hp⟩ := he
      obtain ⟨k, hk, h1, h2⟩ := least_nat j hp
      exact ⟨k, by omega, h1, h2⟩
    · refine ⟨n, Nat.le_refl _, h, fun j hj => ?_⟩
      cases hp : p j with
      | false => rfl
      | true => exact absurd ⟨j, hj, hp⟩ he
termination_by n => n
theorem pcost_ok {T : Nat} (hT : IsCost r c A T) (hTs : T ≤ 4611686018427387904) : FnD prog 15 [eM r c A] (vi T) [] := by
  refine vc15_ok _ _ _ (R := Out _) ?_
  unfold vc15
  refine ⟨_, _, _, _, _, _, _, _, _, _, _, _, _, _, _, pstart_ok X, ?_⟩
  refine ⟨fun p0 p1 p10 p11 p12 p13 p14 p2 p3 p4 p5 p6 p7 p8 p9 z => ∃ n : Nat, St0 r c N A p0 p1 p10 p11 p12 p13 p14 p2 p3 p4 p5 p6 p7 p8 p9 (PS.run r c A n ⟨[], 0, 0⟩) ∧ z = (n : Int) ∧ n ≤ T,
    fun _ _ _ _ _ _ _ _ _ _ _ _ _ _ _ z => ((T : Int) - z).toNat, ⟨0, ⟨⟨rfl, rfl, rfl, rfl, rfl, rfl, rfl, rfl, rfl, rfl, rfl, rfl, rfl, rfl, rfl⟩, PInv.start X.hm X.km⟩, rfl, by omega⟩, ?_⟩
  rintro _ _ _ _ _ _ _ _ _ _ _ _ _ _ _ _ ⟨n, ⟨⟨rfl, rfl, rfl, rfl, rfl, rfl, rfl, rfl, rfl, rfl, rfl, rfl, rfl, rfl, rfl⟩, hi⟩, rfl, hn⟩
  refine ⟨fun h => ?_, fun h => outi ?_⟩
  · have hf : (PS.run r c A n ⟨[], 0, 0⟩).fin r c = false := by simpa using h
    have hlt : n < T := by
      rcases Nat.lt_or_ge n T with h1 | h1
      · exact h1
      · rw [show n = T by omega, hT.1] at hf; exact absurd hf (by decide)
    have h1 := pstep_ok X hi (n0 := 1) (by decide)
    rw [show (1 : Int).toNat = 1 from rfl, ← PS.run_add] at h1
    refine ⟨_, _, _, _, _, _, _, _, _, _, _, _, _, _, _, h1, ?_⟩
    rw [inc64 (by omega)]
    exact ⟨⟨n + 1, ⟨⟨rfl, rfl, rfl, rfl, rfl, rfl, rfl, rfl, rfl, rfl, rfl, rfl, rfl, rfl, rfl⟩, PInv.run X.hm X.km _ (PInv.start X.hm X.km)⟩, rfl, by omega⟩, by show ((T : Int) - ((n + 1 : Nat) : Int)).toNat < ((T : Int) - (n : Int)).toNat; omega⟩
  · have hf : (PS.run r c A n ⟨[], 0, 0⟩).fin r c = true := by simpa using h
    have : n = T := by
      rcases Nat.lt_or_ge n T with h1 | h1
      · rw [hT.2 n h1] at hf; exact absurd hf (by decide)
      · omega
    rw [this]
theorem rcost_ok {T : Nat} (hT : IsCost r c A T) (hTs : T ≤ 4611686018427387904) : FnD prog 16 [eM r c A] (vi T) [] := by
  refine vc16_ok _ _ _ (R := Out _) ?_
  unfold vc16
  refine ⟨_, _, _, _, _, _, _, _, _, _, _, _, _, _, _, rstart_ok X, ?_⟩
  refine ⟨fun p0 p1 p10 p11 p12 p13 p14 p2 p3 p4 p5 p6 p7 p8 p9 z => ∃ n : Nat, St0 r c N A p0 p1 p10 p11 p12 p13 p14 p2 p3 p4 p5 p6 p7 p8 p9 (PS.run r c A n ⟨[], 0, 0⟩) ∧ z = (n : Int) ∧ n ≤ T,
    fun _ _ _ _ _ _ _ _ _ _ _ _ _ _ _ z => ((T : Int) - z).toNat, ⟨0, ⟨⟨rfl, rfl, rfl, rfl, rfl, rfl, rfl, rfl, rfl, rfl, rfl, rfl, rfl, rfl, rfl⟩, PInv.start X.hm X.km⟩, rfl, by omega⟩, ?_⟩
  rintro _ _ _ _ _ _ _ _ _ _ _ _ _ _ _ _ ⟨n, ⟨⟨rfl, rfl, rfl, rfl, rfl, rfl, rfl, rfl, rfl, rfl, rfl, rfl, rfl, rfl, rfl⟩, hi⟩, rfl, hn⟩
  refine ⟨fun h => ?_, fun h => outi ?_⟩
  · have hf : (PS.run r c A n ⟨[], 0, 0⟩).fin r c = false := by simpa using h
    have hlt : n < T := by
      rcases Nat.lt_or_ge n T with h1 | h1
      · exact h1
      · rw [show n = T by omega, hT.1] at hf; exact absurd hf (by decide)
    have hf' := hf
    simp only [PS.fin, Bool.or_eq_false_iff, decide_eq_false_iff_not] at hf'
    have h1 := rnext_ok X hi (by omega) (by omega) (b := (PS.run r c A n ⟨[], 0, 0⟩).fin r c)
    rw [run_next n _ hf] at h1
    refine ⟨_, _, _, _, _, _, _, _, _, _, _, _, _, _, _, h1, ?_⟩
    rw [inc64 (by omega)]
    exact ⟨⟨n + 1, ⟨⟨rfl, rfl, rfl, rfl, rfl, rfl, rfl, rfl, rfl, rfl, rfl, rfl, rfl, rfl, rfl⟩, PInv.run X.hm X.km _ (PInv.start X.hm X.km)⟩, rfl, by omega⟩, by show ((T : Int) - ((n + 1 : Nat) : Int)).toNat < ((T : Int) - (n : Int)).toNat; omega⟩
  · have hf : (PS.run r c A n ⟨[], 0, 0⟩).fin r c = true := by simpa using h
    have : n = T := by
      rcases Nat.lt_or_ge n T with h1 | h1
      · rw [hT.2 n h1] at hf; exact absurd hf (by decide)
      · omega
    rw [this]
end
theorem psame_ok {r c : Nat} {A m u v : List (List Int)} {t k : Nat} {b : Bool} (hA : Mx r c A) (hm : Mx r c m) (hu : Mx r r u) (hv : Mx r r v) (sA : SzM A) (sm : SzM m) (su : SzM u) (sv : SzM v) (hr : r ≤ 4294967296) (hc : c ≤ 4294967296) :
    FnD prog 11 [eP r c A m u v t k b, eP r c A m u v t k b] (vb true) [] := by
  refine vc11_ok _ _ _ _ _ _ _ _ _ _ _ _ _ _ _ _ _ _ _ _ _ _ _ _ _ _ _ _ _ _ (R := Out _) ?_
  unfold vc11
  have same : ∀ {c' : Nat} {x : List (List Int)}, Mx r c' x → SzM x → c' ≤ 4294967296 → FnD prog 22 [eM r c' x, eM r c' x] (vb true) [] := fun {c' x} hx sx hc' => by
    have := same_ok (r := r) (c := c') (r' := r) (c' := c') sx sx (by rw [hx.1]; exact hr) fun y hy => by rw [hx.2 y hy]; exact hc'
    rw [show decide ((r : Int) = r ∧ (c' : Int) = c' ∧ x = x) = true from decide_eq_true ⟨rfl, rfl, rfl⟩] at this
    exact this
  refine ⟨_, same hA sA hc, fun _ => ⟨_, same hm sm hc, fun _ => ⟨_, same hu su hr, fun _ => ⟨_, same hv sv hr, fun _ => ⟨fun _ => ⟨fun _ => outb ?_, fun h => ?_⟩, fun h => ?_⟩, fun h => absurd h (by decide)⟩, fun h => absurd h (by decide)⟩, fun h => absurd h (by decide)⟩, fun h => absurd h (by decide)⟩
  · simp
  · simp at h
  · simp at h
end Go.AM
/- What functions of the program come to: group Se. Printed by vc.py. -/
set_option maxRecDepth 100000
set_option linter.unusedVariables false
namespace Go.AM
open Go.Proofs.Tryz
def vc44 (a0 a1 : Int) (a2 : List (List D)) (rows cols : Int) (R : V → Heap → Prop) : Prop :=
 ∃ (r : Bool),
 (FnD prog 43 [vA [sD (dI a0), sD (dI a1), sD (dL a2)]] (vD (dB r)) []) ∧
 ((r = true →
 ((a0 == rows) = true →
 R (vD (dB (a1 == cols))) []) ∧
 ((a0 == rows) = false →
 R (vD (dB false)) [])) ∧
 (r = false →
 R (vD (dB false)) []))
theorem vc44_ok (a0 a1 : Int) (a2 : List (List D)) (rows cols : Int) {R : V → Heap → Prop} (h : vc44 a0 a1 a2 rows cols R) : FnG prog 44 [vA [sD (dI a0), sD (dI a1), sD (dL a2)], vD (dI rows), vD (dI cols)] [] R :=
  FnG.vcg hT func44 ntmps44 (.reg 1 [(0, Or.none, 0, 1)] [1, 2, 3] [0] [] <| .exb fun r => .ob (FnD prog 43 [vA [sD (dI a0), sD (dI a1), sD (dL a2)]] (vD (dB r)) []) <| .spl r (.spl ((a0 == rows)) (.reg 0 [(1, Or.call (vD (dB r)) [] [], 0, 0), (2, Or.bool true, 0, 0), (8, Or.bool true, 0, 0)] [6] [] [.old 2, .old 1, .old 0] <| .ret []) (.reg 0 [(1, Or.call (vD (dB r)) [] [], 0, 0), (2, Or.bool true, 0, 0), (8, Or.bool false, 0, 0)] [6] [] [.old 2, .old 1, .old 0] <| .ret [])) (.reg 0 [(1, Or.call (vD (dB r)) [] [], 0, 0), (2, Or.bool false, 0, 0)] [6] [] [.old 1, .old 0] <| .ret []))
    (by kernel_rfl) (by kernel_rfl) (by kernel_rfl) h
def vc45 (a0 a1 : Int) (a2 : List (List D)) (b0 b1 : Int) (b2 : List (List D)) (c0 c1 : Int) (c2 : List (List D)) (R : V → Heap → Prop) : Prop :=
 ∃ (r0 r1 : Int) (r2 : List (List D)) (r : Int),
 (FnD prog 79 [vA [sD (dI a0), sD (dI a1), sD (dL a2)], vA [sD (dI b0), sD (dI b1), sD (dL b2)]] (V.tup [E.agg [sD (dI r0), sD (dI r1), sD (dL r2)], eD (dI r)]) []) ∧
 (((r == (0 : Int)) = true →
 ∃ (r3 : Bool),
 (FnD prog 80 [vA [sD (dI r0), sD (dI r1), sD (dL r2)], vA [sD (dI c0), sD (dI c1), sD (dL c2)]] (vD (dB r3)) []) ∧
 (R (vD (dB r3)) [])) ∧
 ((r == (0 : Int)) = false →
 R (vD (dB false)) []))
theorem vc45_ok (a0 a1 : Int) (a2 : List (List D)) (b0 b1 : Int) (b2 : List (List D)) (c0 c1 : Int) (c2 : List (List D)) {R : V → Heap → Prop} (h : vc45 a0 a1 a2 b0 b1 b2 c0 c1 c2 R) : FnG prog 45 [vA [sD (dI a0), sD (dI a1), sD (dL a2)], vA [sD (dI b0), sD (dI b1), sD (dL b2)], vA [sD (dI c0), sD (dI c1), sD (dL c2)]] [] R :=
  FnG.vcg hT func45 ntmps45 (.reg 3 [(0, Or.none, 0, 1), (1, Or.none, 1, 1), (2, Or.none, 2, 1)] [3, 4, 5] [0, 1, 2] [] <| .ex fun r0 => .ex fun r1 => .exl fun r2 => .ex fun r => .reg 1 [(2, Or.call (V.tup [E.agg [sD (dI r0), sD (dI r1), sD (dL r2)], eD (dI r)]) [] [], 0, 0), (6, Or.none, 3, 1)] [5, 7, 8] [2, 3] [] <| .spl ((r == (0 : Int))) (.exb fun r3 => .reg 0 [(2, Or.bool true, 0, 0), (5, Or.call (vD (dB r3)) [] [], 0, 0)] [6] [] [.old 0] <| .ret []) (.reg 0 [(2, Or.bool false, 0, 0)] [6] [] [.old 0] <| .ret []))
    (by kernel_rfl) (by kernel_rfl) (by kernel_rfl) h
def vc47 (h0 h1 : Int) (h2 : List (List D)) (R : V → Heap → Prop) : Prop :=
 ∃ (r : Bool),
 (FnD prog 43 [vA [sD (dI h0), sD (dI h1), sD (dL h2)]] (vD (dB r)) []) ∧
 (((!r) = true →
 R (vD (dB false)) []) ∧
 ((!r) = false →
 ∃ (J0 : Int → Int → Prop) (μ0 : Int → Int → Nat),
 J0 (0 : Int) (-1 : Int) ∧ ∀ (t14 last : Int), J0 t14 last →
 (decide (t14 < (h2.length : Int)) = true →
 ∃ (vx : List (List D)),
 (0 ≤ t14 ∧ t14 < (h2.length : Int)) ∧
 (h2[(t14).toNat]? = some [dL vx]) ∧
 (∃ (r1 : Int),
 (FnD prog 84 [vD (dL vx)] (vD (dI r1)) []) ∧
 ((decide (r1 < (0 : Int)) = true →
 J0 (IntKind.i64.wrap (t14 + (1 : Int))) h1 ∧ μ0 (IntKind.i64.wrap (t14 + (1 : Int))) h1 < μ0 t14 last) ∧
 (decide (r1 < (0 : Int)) = false →
 (decide (r1 ≤ last) = true →
 R (vD (dB false)) []) ∧
 (decide (r1 ≤ last) = false →
 ∃ (x0 : Bool) (x1 : List (List D)) (r2 : Int),
 (0 ≤ r1 ∧ r1 < (vx.length : Int)) ∧
 (vx[(r1).toNat]? = some [dB x0, dL x1]) ∧
 (FnD prog 83 [vA [sD (dB x0), sD (dL x1)]] (vD (dI r2)) []) ∧
 ((decide (r2 < (0 : Int)) = true →
 R (vD (dB false)) []) ∧
 (decide (r2 < (0 : Int)) = false →
 ∃ (r3 : Bool),
 (0 ≤ t14 ∧ t14 ≤ (h2.length : Int)) ∧
 (FnD prog 87 [vD (dL (h2.take (t14).toNat)), vD (D.fn (.func 85) [D.box [dI r1], D.box [dL vx]])] (vD (dB r3)) []) ∧
 ((r3 = true →
 R (vD (dB false)) []) ∧
 (r3 = false →
 J0 (IntKind.i64.wrap (t14 + (1 : Int))) r1 ∧ μ0 (IntKind.i64.wrap (t14 + (1 : Int))) r1 < μ0 t14 last))))))))) ∧
 (decide (t14 < (h2.length : Int)) = false →
 R (vD (dB true)) [])))
theorem vc47_ok (h0 h1 : Int) (h2 : List (List D)) {R : V → Heap → Prop} (h : vc47 h0 h1 h2 R) : FnG prog 47 [vA [sD (dI h0), sD (dI h1), sD (dL h2)]] [] R :=
  FnG.vcg hT func47 ntmps47 (.reg 1 [(0, Or.none, 0, 1)] [1] [0] [] <| .exb fun r => .reg 0 [(1, Or.call (vD (dB r)) [] [], 0, 0)] [1, 10] [0] [] <| .c2 (.r0 [2] <| .ret []) (.r1 [1, 3] [0] <| .r1 [1, 3, 12, 13, 14] [0] <| .lp [.i, .i] (fun t14 last => ⟨[(1, vP 0 0), (3, vD (dI last)), (12, vD (dL h2)), (13, vD (dI (h2.length : Int))), (14, vD (dI t14))], [some (Obj.box [sD (dI h0), sD (dI h1), sD (dL h2)])], 45⟩) [.i (0 : Int), .i (-1 : Int)] <| .fi fun t14 => .fi fun last => .beg <| .r1 [1, 3, 12, 13, 14, 15] [0] <| .c2 (.exl fun vx => .reg 1 [(2, Or.cells [dL vx], 0, 0), (3, Or.none, 1, 1)] [1, 3, 4, 5, 12, 13, 14] [0, 1] [] <| .ex fun r1 => .reg 1 [(1, Or.call (vD (dI r1)) [] [], 0, 0), (2, Or.none, 2, 1)] [1, 3, 4, 5, 6, 12, 13, 14] [0, 1, 2] [] <| .r1 [1, 3, 4, 5, 6, 12, 13, 14, 22] [0, 1, 2] <| .c2 (.r1 [1, 3, 12, 13, 14] [0] <| .r1 [1, 3, 12, 13, 14] [0] <| .bk 0 [.i (IntKind.i64.wrap (t14 + (1 : Int))), .i h1]) (.spl ((decide (r1 ≤ last))) (.reg 0 [(3, Or.bool true, 0, 0)] [1, 4, 5, 6, 12, 13, 14, 35] [0, 1, 2] [.old 0] <| .ct true none <| .r0 [2] <| .ret []) (.exb fun x0 => .exl fun x1 => .ex fun r2 => .reg 0 [(3, Or.bool false, 0, 0), (7, Or.cells [dB x0, dL x1], 0, 0), (8, Or.call (vD (dI r2)) [] [], 0, 0)] [1, 4, 5, 6, 12, 13, 14, 35] [0, 1, 2] [.old 0] <| .c2 (.r0 [2] <| .ret []) (.r1 [1, 4, 6, 7, 12, 13, 14] [0, 2, 1] <| .frz [1, 2] <| .exb fun r3 => .reg 0 [(5, Or.call (vD (dB r3)) [] [], 0, 0)] [1, 6, 12, 13, 14, 42] [0] [] <| .c2 (.r0 [2] <| .ret []) (.r1 [1, 3, 12, 13, 14] [0] <| .r1 [1, 3, 12, 13, 14] [0] <| .bk 0 [.i (IntKind.i64.wrap (t14 + (1 : Int))), .i r1]))))) (.r0 [2] <| .ret [])))
    (by kernel_rfl) (by kernel_rfl) (by kernel_rfl) h
def vc84 (v : List (List D)) (R : V → Heap → Prop) : Prop :=
 ∃ (r : Int),
 (FnD prog 111 [vD (dL v), vD (D.fn (.func 112) ([] : List D))] (vD (dI r)) []) ∧
 (R (vD (dI r)) [])
theorem vc84_ok (v : List (List D)) {R : V → Heap → Prop} (h : vc84 v R) : FnG prog 84 [vD (dL v)] [] R :=
  FnG.vcg hT func84 ntmps84 (.r0 [0] <| .ex fun r => .reg 0 [(1, Or.call (vD (dI r)) [] [], 0, 0)] [2] [] [] <| .ret [])
    (by kernel_rfl) (by kernel_rfl) (by kernel_rfl) h
def vc85 (u : List (List D)) (c0 : Int) (c1 : List (List D)) (R : V → Heap → Prop) : Prop :=
 ∃ (x0 : Bool) (x1 : List (List D)) (r : Int),
 (0 ≤ c0 ∧ c0 < (u.length : Int)) ∧
 (u[(c0).toNat]? = some [dB x0, dL x1]) ∧
 (FnD prog 83 [vA [sD (dB x0), sD (dL x1)]] (vD (dI r)) []) ∧
 ((decide (r < (0 : Int)) = true →
 R (vD (dB true)) []) ∧
 (decide (r < (0 : Int)) = false →
 ∃ (x01 : Bool) (x11 : List (List D)) (r1 : Int),
 (0 ≤ c0 ∧ c0 < (c1.length : Int)) ∧
 (c1[(c0).toNat]? = some [dB x01, dL x11]) ∧
 (FnD prog 86 [vA [sD (dB x0), sD (dL x1)], vA [sD (dB x01), sD (dL x11)]] (vD (dI r1)) []) ∧
 (R (vD (dB (decide (r1 ≥ (0 : Int))))) [])))
theorem vc85_ok (u : List (List D)) (c0 : Int) (c1 : List (List D)) {R : V → Heap → Prop} (h : vc85 u c0 c1 R) : FnG prog 85 [vD (dL u), vD (D.box [dI c0]), vD (D.box [dL c1])] [] R :=
  FnG.vcg hT func85 ntmps85 (.r0 [0, 1, 2] <| .exb fun x0 => .exl fun x1 => .ex fun r => .ob (0 ≤ c0 ∧ c0 < (u.length : Int)) <| .ob (u[(c0).toNat]? = some [dB x0, dL x1]) <| .ob (FnD prog 83 [vA [sD (dB x0), sD (dL x1)]] (vD (dI r)) []) <| .spl ((decide (r < (0 : Int)))) (.drw 0 [(3, (Or.cells [dB x0, dL x1], 0, 0), []), (4, (Or.call (vD (dI r)) [] [], 0, 0), []), (6, (Or.bool true, 0, 0), [])] [4] [] [.old 3, .old 2, .old 1, .old 0] <| .ret []) (.exb fun x01 => .exl fun x11 => .ex fun r1 => .drw 0 [(3, (Or.cells [dB x0, dL x1], 0, 0), []), (4, (Or.call (vD (dI r)) [] [], 0, 0), []), (6, (Or.bool false, 0, 0), []), (10, (Or.cells [dB x0, dL x1], 0, 0), []), (14, (Or.cells [dB x01, dL x11], 0, 0), []), (15, (Or.call (vD (dI r1)) [] [], 0, 0), [])] [4] [] [.old 3, .old 2, .old 1, .old 0, .old 3, .old 2] <| .ret []))
    (by kernel_rfl) (by kernel_rfl) (by kernel_rfl) h
def vc87 (s : List (List D)) (f : FuncId) (fc : List D) (R : V → Heap → Prop) : Prop :=
 ∃ (r : Int),
 (FnD prog 114 [vD (dL s), vD (D.fn (.func f) fc)] (vD (dI r)) []) ∧
 (R (vD (dB (decide (r ≥ (0 : Int))))) [])
theorem vc87_ok (s : List (List D)) (f : FuncId) (fc : List D) {R : V → Heap → Prop} (h : vc87 s f fc R) : FnG prog 87 [vD (dL s), vD (D.fn (.func f) fc)] [] R :=
  FnG.vcg hT func87 ntmps87 (.r0 [0, 1] <| .ex fun r => .reg 0 [(2, Or.call (vD (dI r)) [] [], 0, 0)] [4] [] [] <| .ret [])
    (by kernel_rfl) (by kernel_rfl) (by kernel_rfl) h
def vc112 (x0 : Bool) (x1 : List (List D)) (R : V → Heap → Prop) : Prop :=
 ∃ (r : Int),
 (FnD prog 83 [vA [sD (dB x0), sD (dL x1)]] (vD (dI r)) []) ∧
 (R (vD (dB (r != (0 : Int)))) [])
theorem vc112_ok (x0 : Bool) (x1 : List (List D)) {R : V → Heap → Prop} (h : vc112 x0 x1 R) : FnG prog 112 [vA [sD (dB x0), sD (dL x1)]] [] R :=
  FnG.vcg hT func112 ntmps112 (.reg 1 [(0, Or.none, 0, 1)] [1] [0] [] <| .ex fun r => .reg 0 [(1, Or.call (vD (dI r)) [] [], 0, 0)] [2] [] [] <| .ret [])
    (by kernel_rfl) (by kernel_rfl) (by kernel_rfl) h
def vc114 (s : List (List D)) (f : FuncId) (fc : List D) (R : V → Heap → Prop) : Prop :=
 ∃ (J0 : Int → Prop) (μ0 : Int → Nat),
 J0 (0 : Int) ∧ ∀ (t8 : Int), J0 t8 →
 (decide (t8 < (s.length : Int)) = true →
 ∃ (vx : List (List D)) (r : Bool),
 (0 ≤ t8 ∧ t8 < (s.length : Int)) ∧
 (s[(t8).toNat]? = some [dL vx]) ∧
 (FnD prog f ([vD (dL vx)] ++ fc.map dV) (vD (dB r)) []) ∧
 ((r = true →
 R (vD (dI t8)) []) ∧
 (r = false →
 J0 (IntKind.i64.wrap (t8 + (1 : Int))) ∧ μ0 (IntKind.i64.wrap (t8 + (1 : Int))) < μ0 t8))) ∧
 (decide (t8 < (s.length : Int)) = false →
 R (vD (dI (-1 : Int))) [])
theorem vc114_ok (s : List (List D)) (f : FuncId) (fc : List D) {R : V → Heap → Prop} (h : vc114 s f fc R) : FnG prog 114 [vD (dL s), vD (D.fn (.func f) fc)] [] R :=
  FnG.vcg hT func114 ntmps114 (.r0 [0, 1] <| .r0 [0, 1, 7, 8] <| .lp [.i] (fun t8 => ⟨[(0, vD (dL s)), (1, vD (D.fn (.func f) fc)), (7, vD (dI (s.length : Int))), (8, vD (dI t8))], [], 19⟩) [.i (0 : Int)] <| .fi fun t8 => .beg <| .r0 [0, 1, 7, 8, 9] <| .c2 (.r0 [0, 1, 5, 7, 8] <| .exl fun vx => .exb fun r => .reg 0 [(4, Or.cells [dL vx], 0, 0), (5, Or.call (vD (dB r)) [] [], 0, 0)] [0, 1, 5, 7, 8, 16] [] [] <| .c2 (.r0 [4] <| .ret []) (.r0 [0, 1, 7, 8] <| .bk 0 [.i (IntKind.i64.wrap (t8 + (1 : Int)))])) (.r0 [4] <| .ret []))
    (by kernel_rfl) (by kernel_rfl) (by kernel_rfl) h
def vc19 (p0 p1 : Int) (p2 : List (List D)) (p3 p4 : Int) (p5 : List (List D)) (p6 p7 : Int) (p8 : List (List D)) (p9 p10 : Int) (p11 : List (List D)) (p12 p13 : Int) (p14 : Bool) (R : V → Heap → Prop) : Prop :=
 ∃ (r : Bool),
 (FnD prog 43 [vA [sD (dI p0), sD (dI p1), sD (dL p2)]] (vD (dB r)) []) ∧
 (((!r) = true →
 R (vD (dB false)) []) ∧
 ((!r) = false →
 ∃ (r1 : Bool),
 (FnD prog 44 [vA [sD (dI p3), sD (dI p4), sD (dL p5)], vD (dI p0), vD (dI p1)] (vD (dB r1)) []) ∧
 (((!r1) = true →
 R (vD (dB false)) []) ∧
 ((!r1) = false →
 ∃ (r2 : Bool),
 (FnD prog 44 [vA [sD (dI p6), sD (dI p7), sD (dL p8)], vD (dI p0), vD (dI p0)] (vD (dB r2)) []) ∧
 (((!r2) = true →
 R (vD (dB false)) []) ∧
 ((!r2) = false →
 ∃ (r3 : Bool),
 (FnD prog 44 [vA [sD (dI p9), sD (dI p10), sD (dL p11)], vD (dI p0), vD (dI p0)] (vD (dB r3)) []) ∧
 (((!r3) = true →
 R (vD (dB false)) []) ∧
 ((!r3) = false →
 (decide (p12 < (0 : Int)) = true →
 R (vD (dB false)) []) ∧
 (decide (p12 < (0 : Int)) = false →
 (decide (p12 > p0) = true →
 R (vD (dB false)) []) ∧
 (decide (p12 > p0) = false →
 (decide (p13 < p12) = true →
 R (vD (dB false)) []) ∧
 (decide (p13 < p12) = false →
 (decide (p13 > p1) = true →
 R (vD (dB false)) []) ∧
 (decide (p13 > p1) = false →
 ∃ (r4 : Bool),
 (FnD prog 29 [vA [sD (dI p0), sD (dI p1), sD (dL p2), sD (dI p3), sD (dI p4), sD (dL p5), sD (dI p6), sD (dI p7), sD (dL p8), sD (dI p9), sD (dI p10), sD (dL p11), sD (dI p12), sD (dI p13), sD (dB p14)]] (vD (dB r4)) []) ∧
 (((!(p14 == r4)) = true →
 R (vD (dB false)) []) ∧
 ((!(p14 == r4)) = false →
 ∃ (r5 : Bool),
 (FnD prog 45 [vA [sD (dI p6), sD (dI p7), sD (dL p8)], vA [sD (dI p0), sD (dI p1), sD (dL p2)], vA [sD (dI p3), sD (dI p4), sD (dL p5)]] (vD (dB r5)) []) ∧
 (((!r5) = true →
 R (vD (dB false)) []) ∧
 ((!r5) = false →
 ∃ (r0 r11 : Int) (r21 : List (List D)) (r6 : Bool),
 (FnD prog 28 [vD (dI p0)] (vA [sD (dI r0), sD (dI r11), sD (dL r21)]) []) ∧
 (FnD prog 45 [vA [sD (dI p6), sD (dI p7), sD (dL p8)], vA [sD (dI p9), sD (dI p10), sD (dL p11)], vA [sD (dI r0), sD (dI r11), sD (dL r21)]] (vD (dB r6)) []) ∧
 (((!r6) = true →
 R (vD (dB false)) []) ∧
 ((!r6) = false →
 ∃ (J0 : (List (List D)) → Int → Prop) (μ0 : (List (List D)) → Int → Nat),
 J0 ([] : List (List D)) (0 : Int) ∧ ∀ (o2 : List (List D)) (t101 : Int), J0 o2 t101 →
 (decide (t101 < (p5.length : Int)) = true →
 ∃ (vx : List (List D)),
 (0 ≤ t101 ∧ t101 < (p5.length : Int)) ∧
 (p5[(t101).toNat]? = some [dL vx]) ∧
 (∃ (r7 : Bool),
 (0 ≤ p13 ∧ p13 ≤ (vx.length : Int)) ∧
 (FnD prog 46 [vD (dL (vx.take (p13).toNat))] (vD (dB r7)) []) ∧
 (((!(r7 == (decide (t101 ≥ p12)))) = true →
 R (vD (dB false)) []) ∧
 ((!(r7 == (decide (t101 ≥ p12)))) = false →
 (decide (t101 < p12) = true →
 ((o2.length + ([[dL (vx.take (p13).toNat)]] : List (List D)).length) * 24 ≤ 140737488355328) ∧
 (J0 (o2 ++ [[dL (vx.take (p13).toNat)]]) (IntKind.i64.wrap (t101 + (1 : Int))) ∧ μ0 (o2 ++ [[dL (vx.take (p13).toNat)]]) (IntKind.i64.wrap (t101 + (1 : Int))) < μ0 o2 t101)) ∧
 (decide (t101 < p12) = false →
 J0 o2 (IntKind.i64.wrap (t101 + (1 : Int))) ∧ μ0 o2 (IntKind.i64.wrap (t101 + (1 : Int))) < μ0 o2 t101))))) ∧
 (decide (t101 < (p5.length : Int)) = false →
 ∃ (r8 : Bool),
 (FnD prog 47 [vA [sD (dI p12), sD (dI p13), sD (dL o2)]] (vD (dB r8)) []) ∧
 (R (vD (dB r8)) []))))))))))))))))))))
theorem vc19_ok (p0 p1 : Int) (p2 : List (List D)) (p3 p4 : Int) (p5 : List (List D)) (p6 p7 : Int) (p8 : List (List D)) (p9 p10 : Int) (p11 : List (List D)) (p12 p13 : Int) (p14 : Bool) {R : V → Heap → Prop} (h : vc19 p0 p1 p2 p3 p4 p5 p6 p7 p8 p9 p10 p11 p12 p13 p14 R) : FnG prog 19 [vA [sD (dI p0), sD (dI p1), sD (dL p2), sD (dI p3), sD (dI p4), sD (dL p5), sD (dI p6), sD (dI p7), sD (dL p8), sD (dI p9), sD (dI p10), sD (dL p11), sD (dI p12), sD (dI p13), sD (dB p14)]] [] R :=
  FnG.vcg hT func19 ntmps19 (.reg 1 [(0, Or.none, 0, 1)] [1] [0] [] <| .r1 [1, 3] [0] <| .exb fun r => .ob (FnD prog 43 [vA [sD (dI p0), sD (dI p1), sD (dL p2)]] (vD (dB r)) []) <| .spl ((!r)) (.drw 0 [(2, (Or.call (vD (dB r)) [] [], 0, 0), []), (4, (Or.bool true, 0, 0), [])] [1, 3, 73] [0] [.old 1, .old 0] <| .ct true none <| .r0 [2] <| .ret []) (.exb fun r1 => .ob (FnD prog 44 [vA [sD (dI p3), sD (dI p4), sD (dL p5)], vD (dI p0), vD (dI p1)] (vD (dB r1)) []) <| .spl ((!r1)) (.drw 0 [(2, (Or.call (vD (dB r)) [] [], 0, 0), []), (4, (Or.bool false, 0, 0), []), (11, (Or.call (vD (dB r1)) [] [], 0, 0), []), (14, (Or.bool true, 0, 0), [])] [1, 3, 73] [0] [.old 3, .old 2, .old 1, .old 0] <| .ct true none <| .r0 [2] <| .ret []) (.exb fun r2 => .ob (FnD prog 44 [vA [sD (dI p6), sD (dI p7), sD (dL p8)], vD (dI p0), vD (dI p0)] (vD (dB r2)) []) <| .spl ((!r2)) (.drw 0 [(2, (Or.call (vD (dB r)) [] [], 0, 0), []), (4, (Or.bool false, 0, 0), []), (11, (Or.call (vD (dB r1)) [] [], 0, 0), []), (14, (Or.bool false, 0, 0), []), (19, (Or.call (vD (dB r2)) [] [], 0, 0), []), (22, (Or.bool true, 0, 0), [])] [1, 3, 73] [0] [.old 5, .old 4, .old 3, .old 2, .old 1, .old 0] <| .ct true none <| .r0 [2] <| .ret []) (.exb fun r3 => .ob (FnD prog 44 [vA [sD (dI p9), sD (dI p10), sD (dL p11)], vD (dI p0), vD (dI p0)] (vD (dB r3)) []) <| .spl ((!r3)) (.drw 0 [(2, (Or.call (vD (dB r)) [] [], 0, 0), []), (4, (Or.bool false, 0, 0), []), (11, (Or.call (vD (dB r1)) [] [], 0, 0), []), (14, (Or.bool false, 0, 0), []), (19, (Or.call (vD (dB r2)) [] [], 0, 0), []), (22, (Or.bool false, 0, 0), []), (27, (Or.call (vD (dB r3)) [] [], 0, 0), []), (30, (Or.bool true, 0, 0), [])] [1, 3, 73] [0] [.old 7, .old 6, .old 5, .old 4, .old 3, .old 2, .old 1, .old 0] <| .ct true none <| .r0 [2] <| .ret []) (.spl ((decide (p12 < (0 : Int)))) (.drw 0 [(2, (Or.call (vD (dB r)) [] [], 0, 0), []), (4, (Or.bool false, 0, 0), []), (11, (Or.call (vD (dB r1)) [] [], 0, 0), []), (14, (Or.bool false, 0, 0), []), (19, (Or.call (vD (dB r2)) [] [], 0, 0), []), (22, (Or.bool false, 0, 0), []), (27, (Or.call (vD (dB r3)) [] [], 0, 0), []), (30, (Or.bool false, 0, 0), []), (35, (Or.bool true, 0, 0), [])] [1, 3, 73] [0] [.old 8, .old 7, .old 6, .old 5, .old 4, .old 3, .old 2, .old 1, .old 0] <| .ct true none <| .r0 [2] <| .ret []) (.spl ((decide (p12 > p0))) (.drw 0 [(2, (Or.call (vD (dB r)) [] [], 0, 0), []), (4, (Or.bool false, 0, 0), []), (11, (Or.call (vD (dB r1)) [] [], 0, 0), []), (14, (Or.bool false, 0, 0), []), (19, (Or.call (vD (dB r2)) [] [], 0, 0), []), (22, (Or.bool false, 0, 0), []), (27, (Or.call (vD (dB r3)) [] [], 0, 0), []), (30, (Or.bool false, 0, 0), []), (35, (Or.bool false, 0, 0), []), (41, (Or.bool true, 0, 0), [])] [1, 3, 73] [0] [.old 9, .old 8, .old 7, .old 6, .old 5, .old 4, .old 3, .old 2, .old 1, .old 0] <| .ct true none <| .r0 [2] <| .ret []) (.spl ((decide (p13 < p12))) (.drw 0 [(2, (Or.call (vD (dB r)) [] [], 0, 0), []), (4, (Or.bool false, 0, 0), []), (11, (Or.call (vD (dB r1)) [] [], 0, 0), []), (14, (Or.bool false, 0, 0), []), (19, (Or.call (vD (dB r2)) [] [], 0, 0), []), (22, (Or.bool false, 0, 0), []), (27, (Or.call (vD (dB r3)) [] [], 0, 0), []), (30, (Or.bool false, 0, 0), []), (35, (Or.bool false, 0, 0), []), (41, (Or.bool false, 0, 0), []), (48, (Or.bool true, 0, 0), [])] [1, 3, 73] [0] [.old 10, .old 9, .old 8, .old 7, .old 6, .old 5, .old 4, .old 3, .old 2, .old 1, .old 0] <| .ct true none <| .r0 [2] <| .ret []) (.spl ((decide (p13 > p1))) (.drw 0 [(2, (Or.call (vD (dB r)) [] [], 0, 0), []), (4, (Or.bool false, 0, 0), []), (11, (Or.call (vD (dB r1)) [] [], 0, 0), []), (14, (Or.bool false, 0, 0), []), (19, (Or.call (vD (dB r2)) [] [], 0, 0), []), (22, (Or.bool false, 0, 0), []), (27, (Or.call (vD (dB r3)) [] [], 0, 0), []), (30, (Or.bool false, 0, 0), []), (35, (Or.bool false, 0, 0), []), (41, (Or.bool false, 0, 0), []), (48, (Or.bool false, 0, 0), []), (56, (Or.bool true, 0, 0), [])] [1, 3, 73] [0] [.old 11, .old 10, .old 9, .old 8, .old 7, .old 6, .old 5, .old 4, .old 3, .old 2, .old 1, .old 0] <| .ct true none <| .r0 [2] <| .ret []) (.exb fun r4 => .drw 0 [(2, (Or.call (vD (dB r)) [] [], 0, 0), []), (4, (Or.bool false, 0, 0), []), (11, (Or.call (vD (dB r1)) [] [], 0, 0), []), (14, (Or.bool false, 0, 0), []), (19, (Or.call (vD (dB r2)) [] [], 0, 0), []), (22, (Or.bool false, 0, 0), []), (27, (Or.call (vD (dB r3)) [] [], 0, 0), []), (30, (Or.bool false, 0, 0), []), (35, (Or.bool false, 0, 0), []), (41, (Or.bool false, 0, 0), []), (48, (Or.bool false, 0, 0), []), (56, (Or.bool false, 0, 0), []), (60, (Or.call (vD (dB r4)) [] [], 0, 0), [])] [1, 3, 73] [0] [.old 11, .old 10, .old 9, .old 8, .old 7, .old 6, .old 5, .old 4, .old 3, .old 2, .old 1, .old 0] <| .c2 (.r0 [2] <| .ret []) (.exb fun r5 => .ob (FnD prog 45 [vA [sD (dI p6), sD (dI p7), sD (dL p8)], vA [sD (dI p0), sD (dI p1), sD (dL p2)], vA [sD (dI p3), sD (dI p4), sD (dL p5)]] (vD (dB r5)) []) <| .spl ((!r5)) (.drw 0 [(6, (Or.call (vD (dB r5)) [] [], 0, 0), []), (8, (Or.bool true, 0, 0), [])] [1, 91] [0] [.old 1, .old 0] <| .ct true none <| .r0 [2] <| .ret []) (.ex fun r0 => .ex fun r11 => .exl fun r21 => .exb fun r6 => .drw 0 [(6, (Or.call (vD (dB r5)) [] [], 0, 0), []), (8, (Or.bool false, 0, 0), []), (14, (Or.call (vA [sD (dI r0), sD (dI r11), sD (dL r21)]) [] [], 0, 0), []), (15, (Or.call (vD (dB r6)) [] [], 0, 0), [])] [1, 91] [0] [.old 1, .old 0] <| .c2 (.r0 [2] <| .ret []) (.reg 1 [(5, Or.none, 1, 1)] [1, 4] [0, 1] [] <| .r1 [1, 4, 99, 100, 101] [0, 1] <| .ado [] [1] 1 <| .lp [.l, .i] (fun o2 t101 => ⟨[(1, vP 0 0), (4, vP 1 0), (99, vD (dL p5)), (100, vD (dI (p5.length : Int))), (101, vD (dI t101))], [some (Obj.box [sD (dI p0), sD (dI p1), sD (dL p2), sD (dI p3), sD (dI p4), sD (dL p5), sD (dI p6), sD (dI p7), sD (dL p8), sD (dI p9), sD (dI p10), sD (dL p11), sD (dI p12), sD (dI p13), sD (dB p14)]), some (Obj.box [sD (dI p12), sD (dI p13), S.ref 2]), some (Obj.arr 1 o2)], 135⟩) [.l ([] : List (List D)), .i (0 : Int)] <| .fl fun o2 => .fi fun t101 => .beg <| .r1 [1, 4, 99, 100, 101, 102] [0, 1, 2] <| .c2 (.exl fun vx => .reg 0 [(2, Or.cells [dL vx], 0, 0)] [1, 4, 5, 6, 99, 100, 101] [0, 1, 2] [] <| .exb fun r7 => .reg 0 [(4, Or.call (vD (dB r7)) [] [], 0, 0)] [1, 4, 5, 6, 7, 99, 100, 101] [0, 1, 2] [] <| .r1 [1, 4, 5, 6, 99, 100, 101, 111] [0, 1, 2] <| .c2 (.r0 [2] <| .ret []) (.r1 [1, 4, 6, 99, 100, 101, 118] [0, 1, 2] <| .c2 (.drw 2 [(6, (Or.none, 3, 1), [3]), (7, (Or.none, 4, 1), [2, 4]), (9, (Or.none, 0, 0), [1])] [1, 4, 99, 100, 101] [0, 1, 4] [.old 3] <| .r1 [1, 4, 99, 100, 101] [0, 1, 2] <| .bk 0 [.l (o2 ++ [[dL (vx.take (p13).toNat)]]), .i (IntKind.i64.wrap (t101 + (1 : Int)))]) (.r1 [1, 4, 99, 100, 101] [0, 1, 2] <| .bk 0 [.l o2, .i (IntKind.i64.wrap (t101 + (1 : Int)))]))) (.frz [2] <| .exb fun r8 => .reg 0 [(1, Or.call (vD (dB r8)) [] [], 0, 0)] [2] [] [] <| .ret [])))))))))))))
    (by kernel_rfl) (by kernel_rfl) (by kernel_rfl) h
end Go.AM
/- Hermite normal forms: what the tests answer; products of great numbers. -/
namespace Go.AM
open Go.Proofs.Tryz
section
variable {K : Nat} (hS : ∀ y : Int, y.natAbs ≤ 4294967296 * (K * K) → Sz y)
include hS
theorem bigK {y : Int} (h : y.natAbs ≤ K) : Sz y := hS y (Nat.le_trans (Nat.le_trans h (kk_le K)) (Nat.le_mul_of_pos_left _ (by decide)))
theorem bigKK {y : Int} (h : y.natAbs ≤ K * K) : Sz y := hS y (Nat.le_trans h (Nat.le_mul_of_pos_left _ (by decide)))
theorem foldB {a b : List Int} (hab : a.length = b.length) (ha : BdR K a) (hb : BdR K b) (hl : a.length ≤ 4294967296) :
    FnD prog 122 [vs (row a), vs (row b), eI 0, .e (.sc (.dat (.fn (.func 123) ([] : List D))))] (eI (dsum (elr a) (elr b) a.length)) [] := by
  have hnK : ∀ n, n ≤ a.length → n * (K * K) ≤ 4294967296 * (K * K) := fun n hn => Nat.mul_le_mul_right _ (by omega)
  refine vc122_ok _ _ _ _ _ _ (R := Out _) ?_
  unfold vc122
  simp only [row_length]
  refine ⟨fun o0 o1 t => ∃ i : Nat, t = (i : Int) ∧ i ≤ a.length ∧ o0 = decide (dsum (elr a) (elr b) i < 0) ∧ o1 = lim (dz (dsum (elr a) (elr b) i)), fun _ _ t => ((a.length : Int) - t).toNat, ⟨0, rfl, by omega, rfl, rfl⟩, ?_⟩
  rintro _ _ _ ⟨i, rfl, hi, rfl, rfl⟩
  refine ⟨fun h => ?_, fun h => ?_⟩
  · have hia : i < a.length := by simpa using h
    have hib : i < b.length := by omega
    have hs : Sz (dsum (elr a) (elr b) i) := hS _ (Nat.le_trans (dsum_le (K := K) (L := K) i (fun k hk => ha _ (elr_mem (by omega))) fun k hk => hb _ (elr_mem (by omega))) (hnK i hi))
    have hx := ha _ (elr_mem hia)
    have hy := hb _ (elr_mem hib)
    refine ⟨_, _, _, _, decide (dsum (elr a) (elr b) (i + 1) < 0), lim (dz (dsum (elr a) (elr b) (i + 1))), ⟨by omega, by omega⟩, row_getN hia, ⟨by omega, by omega⟩, row_getN hib, dstep_ok hs (bigK hS hx) (bigK hS hy) (bigKK hS (mul_natAbs_le hx hy)), ?_⟩
    rw [inc64 (by omega)]
    exact ⟨⟨i + 1, rfl, by omega, rfl, rfl⟩, by show ((a.length : Int) - ((i + 1 : Nat) : Int)).toNat < ((a.length : Int) - (i : Int)).toNat; omega⟩
  · have hia : i = a.length := by have : a.length ≤ i := by simpa using h
                                  omega
    subst hia
    exact ⟨rfl, rfl⟩
theorem dotB {a b : List Int} (hab : a.length = b.length) (ha : BdR K a) (hb : BdR K b) (hl : a.length ≤ 4294967296) :
    FnD prog 105 [vs (row a), vs (row b)] (eI (dsum (elr a) (elr b) a.length)) [] := by
  refine vc105_ok _ _ (R := Out _) ?_
  unfold vc105
  exact ⟨_, _, foldB hS hab ha hb hl, rfl, rfl⟩
theorem mmulB {r n c : Nat} {a b : List (List Int)} (ha : Mx r n a) (hb : Mx n c b) (ka : BdM K a) (kb : BdM K b) (hr : r ≤ 4294967296) (hn : n ≤ 4294967296) (hc : c ≤ 4294967296) :
    FnD prog 79 [eM r n a, eM n c b] (eME r c (mmul r n c a b) 0) [] := by
  refine vc79_ok _ _ _ _ _ _ (R := Out _) ?_
  unfold vc79
  refine ⟨fun h => by simp at h, fun _ => ⟨_, _, _, transpose_ok hb hn hc, _, _, _, build_ok hr hc (g := fun i j => dsum (fun k => el a i k) (fun k => el b k j) n) fun i j hi hj => ?_, rfl, rfl⟩⟩
  refine vc104_ok _ _ _ _ _ _ _ _ (R := Out _) ?_
  unfold vc104
  have h1 : i < a.length := by rw [ha.1]; exact hi
  have h2 : j < (table c n fun i j => el b j i).length := by simp [table, hj]
  have hla : (a.getD i []).length = n := ha.2 _ (getD_mem h1)
  have hlb : ((table c n fun i j => el b j i).getD j []).length = n := by rw [getD_table hj]; simp [tableR]
  have hba : BdR K (a.getD i []) := ka _ (getD_mem h1)
  have hbb : BdR K ((table c n fun i j => el b j i).getD j []) := table_bd (fun i j hi hj => el_bd hb kb hj hi) _ (getD_mem h2)
  refine ⟨_, _, decide (dsum (fun k => el a i k) (fun k => el b k j) n < 0), lim (dz (dsum (fun k => el a i k) (fun k => el b k j) n)), ⟨by omega, by rw [rows_length]; omega⟩, rows_getN h1, ⟨by omega, by rw [rows_length]; omega⟩, rows_getN h2, ?_, rfl, rfl⟩
  have := dotB hS (hla.trans hlb.symm) hba hbb (by omega)
  have e : dsum (elr (a.getD i [])) (elr ((table c n fun i j => el b j i).getD j [])) (a.getD i []).length = dsum (fun k => el a i k) (fun k => el b k j) n := by
    rw [hla]
    refine dsum_congr n (fun k hk => rfl) fun k hk => ?_
    rw [getD_table hj, elr_tableR hk]
  rw [e] at this
  exact this
theorem m5mulB {r n c : Nat} {a b : List (List Int)} (ha : Mx r n a) (hb : Mx n c b) (ka : BdM K a) (kb : BdM K b) (hr : r ≤ 4294967296) (hn : n ≤ 4294967296) (hc : c ≤ 4294967296) :
    FnD prog 72 [eM r n a, eM n c b] (eME r c (mmul r n c a b) 0) [] := by
  refine vc72_ok _ _ _ _ _ _ (R := Out _) ?_
  unfold vc72
  obtain ⟨p, hp⟩ : ∃ p : Nat → Nat → Nat → Int, p = fun i j k => dsum (fun k => el a i k) (fun k => el b k j) k := ⟨_, rfl⟩
  obtain ⟨f, hf⟩ : ∃ f : Nat → Nat → Int, f = fun i j => p i j n := ⟨_, rfl⟩
  refine ⟨fun h => by simp at h, fun _ => ?_⟩
  refine ⟨_, _, _, rnew_ok hr hc, fun o t => ∃ i : Nat, t = (i : Int) ∧ i ≤ r ∧ o = om (table r c (gF f i 0)), fun _ t => ((r : Int) - t).toNat, ⟨0, rfl, by omega, gF_zero f⟩, ?_⟩
  rintro _ _ ⟨i, rfl, hi, rfl⟩
  refine ⟨fun h => ?_, fun h => outME ?_⟩
  · have hir : i < r := by simpa using h
    refine ⟨fun o t => ∃ j : Nat, t = (j : Int) ∧ j ≤ c ∧ o = om (table r c (gF f i j)), fun _ t => ((c : Int) - t).toNat, ⟨0, rfl, by omega, rfl⟩, ?_⟩
    rintro _ _ ⟨j, rfl, hj, rfl⟩
    refine ⟨fun h2 => ?_, fun h2 => ?_⟩
    · have hjc : j < c := by simpa using h2
      refine ⟨fun o t => ∃ k : Nat, t = (k : Int) ∧ k ≤ n ∧ o = om (table r c (gM f f i j (p i j k))), fun _ t => ((n : Int) - t).toNat, ⟨0, rfl, by omega, ?_⟩, ?_⟩
      · rw [gM_start]; subst hp; rfl
      rintro _ _ ⟨k, rfl, hk, rfl⟩
      refine ⟨fun h3 => ?_, fun h3 => ?_⟩
      · have hkn : k < n := by simpa using h3
        obtain ⟨e1, e2, e3, e4⟩ := read_el ha hir hkn
        obtain ⟨f1, f2, f3, f4⟩ := read_el hb hkn hjc
        have hx := el_bd ha ka hir hkn
        have hy := el_bd hb kb hkn hjc
        have hxy := mul_natAbs_le hx hy
        have hs : (p i j k).natAbs ≤ 4294967296 * (K * K) := by
          subst hp
          exact Nat.le_trans (dsum_le (K := K) (L := K) k (fun l hl => el_bd ha ka hir (by omega)) fun l hl => el_bd hb kb (by omega) hjc) (Nat.mul_le_mul_right _ (by omega))
        refine ⟨decide (p i j k < 0), lim (dz (p i j k)), _, _, _, _, _, _, _, _, decide (p i j (k + 1) < 0), lim (dz (p i j (k + 1))), ⟨by omega, by rw [om_len]; omega⟩, om_in hir hjc, ?_, ⟨by omega, e4⟩, e1, ⟨by omega, e3⟩, e2, ⟨by omega, f4⟩, f1, ⟨by omega, f3⟩, f2, rmul_ok (bigK hS hx) (bigK hS hy), ?_, ?_⟩
        · rw [Int.toNat_natCast, Int.toNat_natCast, at2_om hir hjc]
          unfold gM; rw [if_pos ⟨rfl, rfl⟩]; rfl
        · have := radd_ok (x := p i j k) (y := el a i k * el b k j) (hS _ hs) (bigKK hS hxy)
          have e : p i j (k + 1) = p i j k + el a i k * el b k j := by subst hp; rfl
          rw [e]; exact this
        · rw [inc64 (by omega)]
          refine ⟨⟨k + 1, rfl, by omega, ?_⟩, by show ((n : Int) - ((k + 1 : Nat) : Int)).toNat < ((n : Int) - (k : Int)).toNat; omega⟩
          rw [Int.toNat_natCast, Int.toNat_natCast]
          exact gM_step hir hjc
      · have hkn : k = n := by have : n ≤ k := by simpa using h3
                               omega
        subst hkn
        rw [inc64 (by omega)]
        refine ⟨⟨j + 1, rfl, by omega, ?_⟩, by show ((c : Int) - ((j + 1 : Nat) : Int)).toNat < ((c : Int) - (j : Int)).toNat; omega⟩
        have e : p i j k = f i j := by subst hf; rfl
        rw [e]; exact gM_end
    · have hjc : c ≤ j := by simpa using h2
      rw [inc64 (by omega)]
      exact ⟨⟨i + 1, rfl, by omega, gF_next fun b h1 h2 => by omega⟩, by show ((r : Int) - ((i + 1 : Nat) : Int)).toNat < ((r : Int) - (i : Int)).toNat; omega⟩
  · have hir : i = r := by have : r ≤ i := by simpa using h
                           omega
    subst hir
    rw [gF_all, matD_om]
    subst hf; subst hp; rfl
theorem m5prodB {r n c : Nat} {a b : List (List Int)} (ha : Mx r n a) (hb : Mx n c b) (ka : BdM K a) (kb : BdM K b) (hr : r ≤ 4294967296) (hn : n ≤ 4294967296) (hc : c ≤ 4294967296) :
    FnD prog 37 [eM r n a, eM n c b] (eM r c (mmul r n c a b)) [] := by
  refine vc37_ok _ _ _ _ _ _ (R := Out _) ?_
  unfold vc37
  exact ⟨_, _, _, _, m5mulB hS ha hb ka kb hr hn hc, rfl, rfl⟩
end
def piv (v : List Int) : Int := firstI (fun z => decide (z ≠ 0)) v
theorem piv_cases (v : List Int) : (piv v = -1 ∧ ∀ k, k < v.length → elr v k = 0) ∨ ∃ p : Nat, piv v = (p : Int) ∧ p < v.length ∧ elr v p ≠ 0 ∧ ∀ k, k < p → elr v k = 0 := by
  have key : ∀ n, n ≤ v.length → (∀ k, k < n → elr v k = 0) ∨ ∃ p, p < n ∧ elr v p ≠ 0 ∧ ∀ k, k < p → elr v k = 0 := fun n => by
    induction n with
    | zero => exact fun _ => .inl fun k hk => by omega
    | succ n ih =>
      intro hn
      rcases ih (by omega) with h | ⟨p, h1, h2, h3⟩
      · by_cases h0 : elr v n = 0
        · refine .inl fun k hk => ?_
          by_cases hkn : k = n
          · rw [hkn]; exact h0
          · exact h k (by omega)
        · exact .inr ⟨n, by omega, h0, h⟩
      · exact .inr ⟨p, by omega, h2, h3⟩
  rcases key v.length (Nat.le_refl _) with h | ⟨p, h1, h2, h3⟩
  · exact .inl ⟨firstI_none fun k hk => by simp [h k hk], h⟩
  · exact .inr ⟨p, firstI_at h1 (by simp [h2]) fun k hk => by simp [h3 k hk], h1, h2, h3⟩
theorem rpiv_ok {v : List Int} (hl : v.length ≤ 4294967296) : FnD prog 73 [vs (row v)] (vi (piv v)) [] := by
  refine vc73_ok _ (R := Out _) ?_
  unfold vc73
  simp only [row_length]
  refine ⟨fun t => ∃ i : Nat, t = (i : Int) ∧ i ≤ v.length ∧ ∀ k, k < i → elr v k = 0, fun t => ((v.length : Int) - t).toNat, ⟨0, rfl, by omega, fun k hk => by omega⟩, ?_⟩
  rintro _ ⟨i, rfl, hi, hinv⟩
  refine ⟨fun h => ?_, fun h => outi ?_⟩
  · have hir : i < v.length := by simpa using h
    refine ⟨_, _, _, ⟨by omega, by omega⟩, row_getN hir, rsign_ok _, fun h2 => outi ?_, fun h2 => ?_⟩
    · exact (firstI_at hir (by simpa using sgn_ne.1 h2) fun k hk => by simp [hinv k hk]).symm
    · rw [inc64 (by omega)]
      refine ⟨⟨i + 1, rfl, by omega, fun k hk => ?_⟩, by show ((v.length : Int) - ((i + 1 : Nat) : Int)).toNat < ((v.length : Int) - (i : Int)).toNat; omega⟩
      by_cases hki : k = i
      · subst hki
        apply Classical.byContradiction
        intro hc
        rw [sgn_ne.2 hc] at h2; simp at h2
      · exact hinv k (by omega)
  · have hir : i = v.length := by have : v.length ≤ i := by simpa using h
                                  omega
    exact (firstI_none fun k hk => by simp [hinv k (by omega)]).symm
theorem sgn_bne {z : Int} : ((if z = 0 then (0 : Int) else if z < 0 then -1 else 1) != 0) = decide (z ≠ 0) := by
  by_cases h : z = 0
  · simp [h]
  · by_cases h2 : z < 0
    · simp [h, h2]
    · simp [h, h2]
theorem ppiv_ok {v : List Int} (hl : v.length ≤ 4294967296) : FnD prog 84 [vs (row v)] (vi (piv v)) [] := by
  refine vc84_ok _ (R := Out _) ?_
  unfold vc84
  refine ⟨_, index134_ok (r := v) (f := 112) (fc := []) (p := fun z => decide (z ≠ 0)) hl fun k hk => ?_, rfl, rfl⟩
  refine vc112_ok _ _ (R := Out _) ?_
  unfold vc112
  exact ⟨_, sign_ok _, outb sgn_bne⟩
def lastP (c : Nat) (m : List (List Int)) : Nat → Int
  | 0 => -1
  | i + 1 => if piv (m.getD i []) < 0 then (c : Int) else piv (m.getD i [])
def rowIs (c : Nat) (m : List (List Int)) (i : Nat) : Bool :=
  decide (piv (m.getD i []) < 0) || (decide (lastP c m i < piv (m.getD i [])) && decide (0 < el m i (piv (m.getD i [])).toNat) &&
    (List.range i).all fun k => decide (0 ≤ el m k (piv (m.getD i [])).toNat) && decide (el m k (piv (m.getD i [])).toNat < el m i (piv (m.getD i [])).toNat))
def isHB (r c : Nat) (m : List (List Int)) : Bool := (List.range r).all (rowIs c m)
theorem lastP_succ (c : Nat) (m : List (List Int)) (i : Nat) : lastP c m (i + 1) = if piv (m.getD i []) < 0 then (c : Int) else piv (m.getD i []) := rfl
theorem isHB_false {r c n : Nat} {m : List (List Int)} (hn : n < r) (h : rowIs c m n = false) : isHB r c m = false := by
  unfold isHB
  rw [List.all_eq_false]
  exact ⟨n, List.mem_range.2 hn, by simp [h]⟩
theorem isHB_true {r c : Nat} {m : List (List Int)} (h : ∀ n, n < r → rowIs c m n = true) : isHB r c m = true := by
  unfold isHB
  rw [List.all_eq_true]
  exact fun n hn => h n (List.mem_range.1 hn)
theorem rowIs_neg {c i : Nat} {m : List (List Int)} (h : piv (m.getD i []) < 0) : rowIs c m i = true := by unfold rowIs; rw [decide_eq_true h]; rfl
theorem rowIs_iff {c i p : Nat} {m : List (List Int)} (h : piv (m.getD i []) = (p : Int)) : rowIs c m i = true ↔ lastP c m i < p ∧ 0 < el m i p ∧ ∀ k, k < i → 0 ≤ el m k p ∧ el m k p < el m i p := by
  unfold rowIs
  rw [h, Int.toNat_natCast]
  simp only [Bool.or_eq_true, Bool.and_eq_true, decide_eq_true_eq, List.all_eq_true, List.mem_range]
  constructor
  · rintro (h1 | ⟨⟨h1, h2⟩, h3⟩)
    · omega
    · exact ⟨h1, h2, h3⟩
  · rintro ⟨h1, h2, h3⟩
    exact .inr ⟨⟨h1, h2⟩, h3⟩
theorem rowIs_false {c i p : Nat} {m : List (List Int)} (h : piv (m.getD i []) = (p : Int)) (hn : ¬ (lastP c m i < p ∧ 0 < el m i p ∧ ∀ k, k < i → 0 ≤ el m k p ∧ el m k p < el m i p)) : rowIs c m i = false := by
  cases hb : rowIs c m i with
  | false => rfl
  | true => exact absurd ((rowIs_iff h).1 hb) hn
theorem sgn_le {z : Int} : decide ((if z = 0 then (0 : Int) else if z < 0 then -1 else 1) ≤ 0) = decide (z ≤ 0) := by
  by_cases h : z = 0
  · simp [h]
  · by_cases h2 : z < 0
    · simp [h, h2]; omega
    · simp [h, h2]; omega
theorem sgn_ge {z : Int} : decide ((if z = 0 then (0 : Int) else if z < 0 then -1 else 1) ≥ 0) = decide (z ≥ 0) := by
  by_cases h : z = 0
  · simp [h]
  · by_cases h2 : z < 0
    · simp [h, h2]
    · simp [h, h2]; omega
theorem sgn_ltd {z : Int} : decide ((if z = 0 then (0 : Int) else if z < 0 then -1 else 1) < 0) = decide (z < 0) := by
  by_cases h : z < 0
  · rw [sgn_lt.2 h, decide_eq_true h]
  · rw [decide_eq_false h, decide_eq_false]
    exact fun hc => h (sgn_lt.1 (decide_eq_true hc))
theorem mx_row {r c : Nat} {m : List (List Int)} (hm : Mx r c m) {i : Nat} (hi : i < r) : i < m.length ∧ (m.getD i []).length = c := by
  have h1 : i < m.length := by rw [hm.1]; exact hi
  exact ⟨h1, hm.2 _ (getD_mem h1)⟩
theorem elr_el {m : List (List Int)} {i j : Nat} : elr (m.getD i []) j = el m i j := rfl
theorem szM_el {r c : Nat} {m : List (List Int)} (hm : Mx r c m) (hs : SzM m) {i j : Nat} (hi : i < r) (hj : j < c) : Sz (el m i j) := by
  obtain ⟨h1, h2⟩ := el_mem hm hi hj
  exact hs _ h2 _ (getD_mem (by omega))
theorem rIs_ok {r c : Nat} {m : List (List Int)} (hm : Mx r c m) (hs : SzM m) (hr : r ≤ 4294967296) (hc : c ≤ 4294967296) : FnD prog 39 [eM r c m] (vb (isHB r c m)) [] := by
  refine vc39_ok _ _ _ (R := Out _) ?_
  unfold vc39
  refine ⟨_, rvalidM_ok hm hs hr hc, fun h => absurd h (by decide), fun _ => ?_⟩
  refine ⟨fun last i => ∃ n : Nat, i = (n : Int) ∧ n ≤ r ∧ last = lastP c m n ∧ ∀ j, j < n → rowIs c m j = true, fun _ i => ((r : Int) - i).toNat, ⟨0, rfl, by omega, rfl, fun j hj => by omega⟩, ?_⟩
  rintro _ _ ⟨n, rfl, hn, rfl, hb⟩
  refine ⟨fun h => ?_, fun h => outb ?_⟩
  · have hnr : n < r := by simpa using h
    obtain ⟨hnm, hnl⟩ := mx_row hm hnr
    have bad : rowIs c m n = false → Out (vb (isHB r c m)) (vD (dB false)) [] := fun g => outb (isHB_false hnr g).symm
    have nx : ∀ last, rowIs c m n = true → last = lastP c m (n + 1) → (∃ n' : Nat, IntKind.i64.wrap ((n : Int) + 1) = (n' : Int) ∧ n' ≤ r ∧ last = lastP c m n' ∧ ∀ j, j < n' → rowIs c m j = true) ∧ ((r : Int) - IntKind.i64.wrap ((n : Int) + 1)).toNat < ((r : Int) - (n : Int)).toNat := fun last g g2 => by
      rw [inc64 (by omega)]
      refine ⟨⟨n + 1, rfl, by omega, g2, fun j hj => ?_⟩, by omega⟩
      by_cases hjn : j = n
      · rw [hjn]; exact g
      · exact hb j (by omega)
    refine ⟨_, _, ⟨by omega, by rw [rows_length]; omega⟩, rows_getN hnm, rpiv_ok (by omega), fun h2 => ?_, fun h2 => ?_⟩
    · have h3 := of_decide_eq_true h2
      exact nx _ (rowIs_neg h3) (by rw [lastP_succ, if_pos h3])
    rcases piv_cases (m.getD n []) with ⟨hp, _⟩ | ⟨p, hp, hpc, hpn, _⟩
    · exfalso; have := of_decide_eq_false h2; omega
    rw [hnl] at hpc
    have hlp : lastP c m (n + 1) = (p : Int) := by rw [lastP_succ, if_neg (by omega)]; exact hp
    rw [hp]
    refine ⟨fun h3 => bad (rowIs_false hp fun ⟨g, _⟩ => ?_), fun h3 => ⟨_, _, _, ⟨by omega, by rw [row_length]; omega⟩, row_getN (by omega), rsign_ok _, fun h4 => bad (rowIs_false hp fun ⟨_, g, _⟩ => ?_), fun h4 => ?_⟩⟩
    · have := of_decide_eq_true h3; omega
    · rw [sgn_le] at h4; have := of_decide_eq_true h4; rw [elr_el] at this; omega
    rw [sgn_le, elr_el] at h4
    have g4 := of_decide_eq_false h4
    have g3 := of_decide_eq_false h3
    refine ⟨fun k => ∃ q : Nat, k = (q : Int) ∧ q ≤ n ∧ ∀ j, j < q → 0 ≤ el m j p ∧ el m j p < el m n p, fun k => ((n : Int) - k).toNat, ⟨0, rfl, by omega, fun j hj => by omega⟩, ?_⟩
    rintro _ ⟨q, rfl, hq, hqb⟩
    refine ⟨fun h5 => ?_, fun h5 => nx _ ((rowIs_iff hp).2 ⟨by omega, by omega, fun k hk => hqb k (by have := of_decide_eq_false h5; omega)⟩) hlp.symm⟩
    have hqn : q < n := by simpa using h5
    obtain ⟨hqm, hql⟩ := mx_row hm (show q < r by omega)
    refine ⟨_, _, _, _, ⟨by omega, by rw [rows_length]; omega⟩, rows_getN hqm, ⟨by omega, by rw [row_length]; omega⟩, row_getN (by omega), rsign_ok _, fun h6 => bad (rowIs_false hp fun ⟨_, _, g⟩ => ?_), fun h6 => ⟨_, rcmp_ok (szM_el hm hs (show q < r by omega) hpc) (szM_el hm hs hnr hpc), fun h7 => bad (rowIs_false hp fun ⟨_, _, g⟩ => ?_), fun h7 => ?_⟩⟩
    · rw [sgn_ltd, elr_el] at h6; have := of_decide_eq_true h6; have := (g q hqn).1; omega
    · rw [sgn_ge] at h7; simp only [elr_el] at h7; have := of_decide_eq_true h7; have := (g q hqn).2; omega
    · rw [sgn_ltd, elr_el] at h6
      rw [sgn_ge] at h7
      simp only [elr_el] at h7
      have k6 := of_decide_eq_false h6
      have k7 := of_decide_eq_false h7
      rw [inc64 (by omega)]
      refine ⟨⟨q + 1, rfl, by omega, fun j hj => ?_⟩, by show ((n : Int) - ((q + 1 : Nat) : Int)).toNat < ((n : Int) - (q : Int)).toNat; omega⟩
      by_cases hjq : j = q
      · rw [hjq]; omega
      · exact hqb j (by omega)
  · have hnr : n = r := by have : r ≤ n := by simpa using h
                           omega
    subst hnr
    exact (isHB_true hb).symm
end Go.AM
/- Hermite normal forms: the tests of package hermite; corners; ranks. -/
namespace Go.AM
open Go.Proofs.Tryz
theorem rows_takeN (m : List (List Int)) (n : Nat) : (rows m).take n = rows (m.take n) := by simp [rows, List.map_take]
theorem row_takeN (v : List Int) (n : Nat) : (row v).take n = row (v.take n) := by simp [row, List.map_take]
theorem containsR_ok {m : List (List Int)} {f : FuncId} {fc : List D} {p : Nat → Bool} (hl : m.length ≤ 4294967296) (hf : ∀ k, k < m.length → FnD prog f ([vs (row (m.getD k []))] ++ fc.map dV) (vb (p k)) []) :
    FnD prog 87 [vs (rows m), .e (.sc (.dat (.fn (.func f) fc)))] (vb ((List.range m.length).any p)) [] := by
  refine vc87_ok _ _ _ (R := Out _) ?_
  unfold vc87
  have key : ∃ r : Int, FnD prog 114 [vs (rows m), .e (.sc (.dat (.fn (.func f) fc)))] (vi r) [] ∧ decide (r ≥ 0) = (List.range m.length).any p := by
    by_cases he : ∃ i, i < m.length ∧ p i = true
    · obtain ⟨i0, h1, h2⟩ := he
      obtain ⟨i, hi, hp, hbef⟩ := least_nat (p := p) i0 h2
      refine ⟨(i : Int), ?_, ?_⟩
      · refine vc114_ok _ _ _ (R := Out _) ?_
        unfold vc114
        simp only [rows_length]
        refine ⟨fun t => ∃ n : Nat, t = (n : Int) ∧ n ≤ i, fun t => ((m.length : Int) - t).toNat, ⟨0, rfl, by omega⟩, ?_⟩
        rintro _ ⟨n, rfl, hn⟩
        have hnm : n < m.length := by omega
        refine ⟨fun _ => ⟨_, p n, ⟨by omega, by omega⟩, rows_getN hnm, hf n hnm, fun h2 => outi ?_, fun h2 => ?_⟩, fun h => ?_⟩
        · rcases Nat.lt_or_ge n i with h3 | h3
          · rw [hbef n h3] at h2; exact absurd h2 (by decide)
          · omega
        · have : n < i := by
            rcases Nat.lt_or_ge n i with h3 | h3
            · exact h3
            · rw [show n = i by omega, hp] at h2; exact absurd h2 (by decide)
          rw [inc64 (by omega)]
          exact ⟨⟨n + 1, rfl, by omega⟩, by show ((m.length : Int) - ((n + 1 : Nat) : Int)).toNat < ((m.length : Int) - (n : Int)).toNat; omega⟩
        · exfalso; have : m.length ≤ n := by simpa using h
          omega
      · rw [decide_eq_true (by omega), List.any_eq_true.2 ⟨i0, List.mem_range.2 h1, h2⟩]
    · have hno : ∀ i, i < m.length → p i = false := fun i hi => by
        cases hp : p i with
        | false => rfl
        | true => exact absurd ⟨i, hi, hp⟩ he
      refine ⟨-1, ?_, ?_⟩
      · refine vc114_ok _ _ _ (R := Out _) ?_
        unfold vc114
        simp only [rows_length]
        refine ⟨fun t => ∃ n : Nat, t = (n : Int) ∧ n ≤ m.length, fun t => ((m.length : Int) - t).toNat, ⟨0, rfl, by omega⟩, ?_⟩
        rintro _ ⟨n, rfl, hn⟩
        refine ⟨fun h => ?_, fun _ => outi rfl⟩
        have hnm : n < m.length := by simpa using h
        refine ⟨_, p n, ⟨by omega, by omega⟩, rows_getN hnm, hf n hnm, fun h2 => ?_, fun _ => ?_⟩
        · rw [hno n hnm] at h2; exact absurd h2 (by decide)
        · rw [inc64 (by omega)]
          exact ⟨⟨n + 1, rfl, by omega⟩, by show ((m.length : Int) - ((n + 1 : Nat) : Int)).toNat < ((m.length : Int) - (n : Int)).toNat; omega⟩
      · have : (List.range m.length).any p = false := by
          rw [List.any_eq_false]
          intro i hi
          simp [hno i (List.mem_range.1 hi)]
        rw [this]; rfl
  obtain ⟨r, h1, h2⟩ := key
  exact ⟨r, h1, outb h2⟩
theorem cmpI_ge {x y : Int} (h : ¬ x < 0) : decide (cmpI x y ≥ 0) = (decide (x < 0) || decide (x ≥ y)) := by
  rw [decide_eq_false h, Bool.false_or]
  unfold cmpI
  by_cases h7 : x < y
  · simp [h7]
  · by_cases h9 : y < x
    · simp [h7, h9]; omega
    · simp [h7, h9]; omega
theorem pIs_ok {r c : Nat} {m : List (List Int)} (hm : Mx r c m) (hs : SzM m) (hr : r ≤ 4294967296) (hc : c ≤ 4294967296) : FnD prog 47 [eM r c m] (vb (isHB r c m)) [] := by
  refine vc47_ok _ _ _ (R := Out _) ?_
  unfold vc47
  have hlen : ((rows m).length : Int) = (r : Int) := by rw [rows_length, hm.1]
  rw [hlen]
  refine ⟨_, mvalid_ok hm hs hr hc, fun h => absurd h (by decide), fun _ => ?_⟩
  refine ⟨fun i last => ∃ n : Nat, i = (n : Int) ∧ n ≤ r ∧ last = lastP c m n ∧ ∀ j, j < n → rowIs c m j = true, fun i _ => ((r : Int) - i).toNat, ⟨0, rfl, by omega, rfl, fun j hj => by omega⟩, ?_⟩
  rintro _ _ ⟨n, rfl, hn, rfl, hb⟩
  refine ⟨fun h => ?_, fun h => outb ?_⟩
  · have hnr : n < r := by simpa using h
    obtain ⟨hnm, hnl⟩ := mx_row hm hnr
    have bad : rowIs c m n = false → Out (vb (isHB r c m)) (vD (dB false)) [] := fun g => outb (isHB_false hnr g).symm
    have nx : ∀ last, rowIs c m n = true → last = lastP c m (n + 1) → (∃ n' : Nat, IntKind.i64.wrap ((n : Int) + 1) = (n' : Int) ∧ n' ≤ r ∧ last = lastP c m n' ∧ ∀ j, j < n' → rowIs c m j = true) ∧ ((r : Int) - IntKind.i64.wrap ((n : Int) + 1)).toNat < ((r : Int) - (n : Int)).toNat := fun last g g2 => by
      rw [inc64 (by omega)]
      refine ⟨⟨n + 1, rfl, by omega, g2, fun j hj => ?_⟩, by omega⟩
      by_cases hjn : j = n
      · rw [hjn]; exact g
      · exact hb j (by omega)
    refine ⟨_, ⟨by omega, by omega⟩, rows_getN hnm, _, ppiv_ok (by omega), fun h2 => ?_, fun h2 => ?_⟩
    · have h3 := of_decide_eq_true h2
      exact nx _ (rowIs_neg h3) (by rw [lastP_succ, if_pos h3])
    rcases piv_cases (m.getD n []) with ⟨hp, _⟩ | ⟨p, hp, hpc, hpn, _⟩
    · exfalso; have := of_decide_eq_false h2; omega
    rw [hnl] at hpc
    have hlp : lastP c m (n + 1) = (p : Int) := by rw [lastP_succ, if_neg (by omega)]; exact hp
    rw [hp]
    refine ⟨fun h3 => bad (rowIs_false hp fun ⟨g, _⟩ => ?_), fun h3 => ⟨_, _, _, ⟨by omega, by rw [row_length]; omega⟩, row_getN (by omega), sign_ok _, fun h4 => bad (rowIs_false hp fun ⟨_, g, _⟩ => ?_), fun h4 => ?_⟩⟩
    · have := of_decide_eq_true h3; omega
    · rw [sgn_ltd] at h4; have := of_decide_eq_true h4; rw [elr_el] at this; omega
    rw [sgn_ltd] at h4
    have g4 := of_decide_eq_false h4
    have g3 := of_decide_eq_false h3
    have hpos : 0 < el m n p := by rw [elr_el] at g4 hpn; omega
    have hct := containsR_ok (m := m.take n) (f := 85) (fc := [D.box [dI (p : Int)], D.box [D.sl (row (m.getD n []))]]) (p := fun k => decide (el m k p < 0) || decide (el m k p ≥ el m n p)) (by rw [List.length_take]; omega) fun k hk => ?_
    · refine ⟨_, ⟨by omega, by omega⟩, by rw [Int.toNat_natCast, rows_takeN]; exact hct, fun h5 => ?_, fun h5 => ?_⟩
      · refine bad (rowIs_false hp fun ⟨_, _, g⟩ => ?_)
        rw [List.any_eq_true] at h5
        obtain ⟨k, hk, hk2⟩ := h5
        have hkn : k < n := by have := List.mem_range.1 hk; rw [List.length_take] at this; omega
        have := g k hkn
        simp only [Bool.or_eq_true, decide_eq_true_eq] at hk2
        omega
      · refine nx _ ((rowIs_iff hp).2 ⟨by omega, hpos, fun k hk => ?_⟩) hlp.symm
        rw [List.any_eq_false] at h5
        have := h5 k (List.mem_range.2 (by rw [List.length_take]; omega))
        simp only [Bool.or_eq_true, decide_eq_true_eq, not_or] at this
        omega
    · rw [List.length_take] at hk
      have hkr : k < r := by omega
      obtain ⟨hkm, hkl⟩ := mx_row hm hkr
      have e : (m.take n).getD k [] = m.getD k [] := by
        rw [List.getD_eq_getElem?_getD, List.getElem?_take_of_lt (by omega), ← List.getD_eq_getElem?_getD]
      rw [e]
      refine vc85_ok _ _ _ (R := Out _) ?_
      unfold vc85
      refine ⟨_, _, _, ⟨by omega, by rw [row_length]; omega⟩, row_getN (by omega), sign_ok _, fun h6 => outb ?_, fun h6 => ⟨_, _, _, ⟨by omega, by rw [row_length]; omega⟩, row_getN (by omega), cmp_ok (szM_el hm hs hkr hpc) (szM_el hm hs hnr hpc), outb ?_⟩⟩
      · rw [sgn_ltd] at h6
        simp only [elr_el] at h6
        have h8 := of_decide_eq_true h6
        simp [h8]
      · rw [sgn_ltd] at h6
        simp only [elr_el] at h6
        have h8 := of_decide_eq_false h6
        exact cmpI_ge h8
  · have hnr : n = r := by have : r ≤ n := by simpa using h
                           omega
    subst hnr
    exact (isHB_true hb).symm
def cor (t k : Nat) (m : List (List Int)) : List (List Int) := (m.take t).map (List.take k)
theorem cor_mx {r c t k : Nat} {m : List (List Int)} (hm : Mx r c m) (ht : t ≤ r) (hk : k ≤ c) : Mx t k (cor t k m) := by
  refine ⟨by simp [cor, hm.1, ht], fun x hx => ?_⟩
  simp only [cor, List.mem_map] at hx
  obtain ⟨y, hy, rfl⟩ := hx
  have := hm.2 y (List.mem_of_mem_take hy)
  rw [List.length_take]; omega
theorem cor_sz {t k : Nat} {m : List (List Int)} (hs : SzM m) : SzM (cor t k m) := fun x hx => by
  simp only [cor, List.mem_map] at hx
  obtain ⟨y, hy, rfl⟩ := hx
  exact fun z hz => hs y (List.mem_of_mem_take hy) z (List.mem_of_mem_take hz)
theorem cor_row {t k i : Nat} {m : List (List Int)} (hi : i < t) (hm : t ≤ m.length) : (cor t k m).getD i [] = (m.getD i []).take k := by
  have h1 : i < m.length := by omega
  simp [cor, hi, h1]
theorem cor_succ {t k : Nat} {m : List (List Int)} (ht : t < m.length) : cor (t + 1) k m = cor t k m ++ [(m.getD t []).take k] := by
  unfold cor
  rw [List.take_add_one, List.map_append]
  simp [ht]
def rankF : Nat → List (List Int) → Nat
  | 0, _ => 0
  | n + 1, m => if 0 ≤ piv (m.getD n []) then rankF n m + 1 else rankF n m
theorem rankF_le : ∀ n m, rankF n m ≤ n
  | 0, _ => Nat.le_refl _
  | n + 1, m => by have := rankF_le n m; unfold rankF; split <;> omega
theorem rankF_full : ∀ n m, rankF n m = n ↔ ∀ i, i < n → 0 ≤ piv (m.getD i [])
  | 0, _ => by simp [rankF]
  | n + 1, m => by
    have h1 := rankF_full n m
    have h2 := rankF_le n m
    have h3 : rankF (n + 1) m = if 0 ≤ piv (m.getD n []) then rankF n m + 1 else rankF n m := rfl
    rw [h3]
    constructor
    · intro h i hi
      split at h
      · rename_i hp
        by_cases hin : i = n
        · rw [hin]; exact hp
        · exact h1.1 (by omega) i (by omega)
      · omega
    · intro h
      rw [if_pos (h n (by omega)), h1.2 fun i hi => h i (by omega)]
end Go.AM
/- Package step and its reference: Valid; torsionref12.Check. -/
namespace Go.AM
open Go.Proofs.Tryz
def ePi (r c : Nat) (A m u v : List (List Int)) (t k : Int) (b : Bool) : V :=
  vA [sD (dI r), sD (dI c), sD (dL (rows A)), sD (dI r), sD (dI c), sD (dL (rows m)), sD (dI r), sD (dI r), sD (dL (rows u)), sD (dI r), sD (dI r), sD (dL (rows v)), sD (dI t), sD (dI k), sD (dB b)]
def finI (r c : Nat) (t k : Int) : Bool := decide (t ≥ (r : Int)) || decide (k ≥ (c : Int))
theorem finI_ok {r c : Nat} {A m u v : List (List Int)} {t k : Int} {b : Bool} : FnD prog 29 [ePi r c A m u v t k b] (vb (finI r c t k)) [] := by
  refine vc29_ok _ _ _ _ _ _ _ _ _ _ _ _ _ _ _ (R := Out _) ?_
  unfold vc29
  refine ⟨fun h => outb ?_, fun h => outb ?_⟩
  · simp only [finI, h, Bool.true_or]
  · simp only [finI, h, Bool.false_or]
def zP (k : Nat) (m : List (List Int)) (i : Nat) : Bool := !((m.getD i []).take k).any fun z => decide (z ≠ 0)
def zeroB (r t k : Nat) (m : List (List Int)) : Bool := (List.range r).all fun i => decide (i < t) || zP k m i
def validR (r t k : Nat) (m : List (List Int)) : Bool := isHB t k (cor t k m) && decide (rankF t (cor t k m) = t) && zeroB r t k m
def validI (r c : Nat) (A m u v : List (List Int)) (t k : Int) (b : Bool) : Bool :=
  decide (0 ≤ t) && decide (t ≤ r) && decide (t ≤ k) && decide (k ≤ c) && (b == finI r c t k) && decide (mmul r r c u A = m) && decide (mmul r r r u v = idM r) && validR r t.toNat k.toNat m
theorem validR_iff {r t k : Nat} {m : List (List Int)} : validR r t k m = true ↔ isHB t k (cor t k m) = true ∧ rankF t (cor t k m) = t ∧ zeroB r t k m = true := by
  unfold validR; simp [and_assoc]
structure VX (r c K : Nat) (A m u v : List (List Int)) : Prop where
  hA : Mx r c A
  hm : Mx r c m
  hu : Mx r r u
  hv : Mx r r v
  kA : BdM K A
  km : BdM K m
  ku : BdM K u
  kv : BdM K v
  hS : ∀ y : Int, y.natAbs ≤ 4294967296 * (K * K) → Sz y
  hr : r ≤ 4294967296
  hc : c ≤ 4294967296
theorem BdM.szm {K : Nat} {m : List (List Int)} (h : BdM K m) (hS : ∀ y : Int, y.natAbs ≤ 4294967296 * (K * K) → Sz y) : SzM m := fun x hx z hz => bigK hS (h x hx z hz)
section
variable {r c K : Nat} {A m u v : List (List Int)} (C : VX r c K A m u v)
include C
theorem VX.mmul_sz {n c' : Nat} {a b : List (List Int)} (hn : n ≤ 4294967296) (ha : Mx r n a) (hb : Mx n c' b) (ka : BdM K a) (kb : BdM K b) : SzM (mmul r n c' a b) := by
  have := table_bd (r := r) (c := c') (K := 4294967296 * (K * K)) (g := fun i j => dsum (fun k => el a i k) (fun k => el b k j) n) fun i j hi hj =>
    Nat.le_trans (dsum_le (K := K) (L := K) n (fun l hl => el_bd ha ka hi hl) fun l hl => el_bd hb kb hl hj) (Nat.mul_le_mul_right _ hn)
  exact fun x hx z hz => C.hS z (this x hx z hz)
omit C in
theorem VX.same {n c' : Nat} {a b : List (List Int)} (ha : Mx n c' a) (sa : SzM a) (sb : SzM b) (hn : n ≤ 4294967296) (hc' : c' ≤ 4294967296) : FnD prog 22 [eM n c' a, eM n c' b] (vb (decide (a = b))) [] := by
  have := same_ok (r := n) (c := c') (r' := n) (c' := c') sa sb (by rw [ha.1]; exact hn) fun y hy => by rw [ha.2 y hy]; exact hc'
  rwa [show decide ((n : Int) = n ∧ (c' : Int) = c' ∧ a = b) = decide (a = b) by simp] at this
omit C in
theorem VX.equal {n c' : Nat} {a b : List (List Int)} (ha : Mx n c' a) (sa : SzM a) (sb : SzM b) (hn : n ≤ 4294967296) (hc' : c' ≤ 4294967296) : FnD prog 80 [eM n c' a, eM n c' b] (vb (decide (a = b))) [] := by
  have := equal_ok (r := n) (c := c') (r' := n) (c' := c') sa sb (by rw [ha.1]; exact hn) fun y hy => by rw [ha.2 y hy]; exact hc'
  rwa [show decide ((n : Int) = n ∧ (c' : Int) = c' ∧ a = b) = decide (a = b) by simp] at this
omit C in
theorem psized_ok {n c' : Nat} {a : List (List Int)} (ha : Mx n c' a) (sa : SzM a) (hn : n ≤ 4294967296) (hc' : c' ≤ 4294967296) : FnD prog 44 [eM n c' a, vi n, vi c'] (vb true) [] := by
  refine vc44_ok _ _ _ _ _ (R := Out _) ?_
  unfold vc44
  refine ⟨_, mvalid_ok ha sa hn hc', fun _ => ⟨fun _ => outb (by simp), fun h => by simp at h⟩, fun h => absurd h (by decide)⟩
theorem pproduct_ok {c' : Nat} {a b d : List (List Int)} (ha : Mx r r a) (hb : Mx r c' b) (ka : BdM K a) (kb : BdM K b) (sd : SzM d) (hc' : c' ≤ 4294967296) : FnD prog 45 [eM r r a, eM r c' b, eM r c' d] (vb (decide (mmul r r c' a b = d))) [] := by
  refine vc45_ok _ _ _ _ _ _ _ _ _ (R := Out _) ?_
  unfold vc45
  refine ⟨_, _, _, _, mmulB C.hS ha hb ka kb C.hr C.hr hc', fun _ => ⟨_, VX.equal (mmul_mx r r c' a b) (C.mmul_sz C.hr ha hb ka kb) sd C.hr hc', outb rfl⟩, fun h => by simp at h⟩
omit C in
theorem piv_take {w : List Int} {k : Nat} : 0 ≤ piv (w.take k) ↔ (!(w.take k).any fun z => decide (z ≠ 0)) = false := by
  have := firstI_any (fun z => decide (z ≠ 0)) (w.take k)
  show 0 ≤ firstI _ _ ↔ _
  rw [Bool.not_eq_false', ← this, decide_eq_true_eq]
theorem VX.validR_eq {t k : Nat} (ht : t ≤ r) : validR r t k m = ((List.range r).all (fun i => zP k m i == decide (t ≤ i)) && isHB t k (cor t k m)) := by
  have hl := C.hm.1
  rw [Bool.eq_iff_iff, validR_iff, rankF_full, Bool.and_eq_true, List.all_eq_true]
  unfold zeroB
  rw [List.all_eq_true]
  constructor
  · rintro ⟨h1, h2, h3⟩
    refine ⟨fun i hi => ?_, h1⟩
    by_cases hit : i < t
    · have := h2 i hit
      rw [cor_row hit (by omega), piv_take] at this
      unfold zP
      rw [this, decide_eq_false (by omega)]; rfl
    · have := h3 i hi
      simp only [hit, decide_false, Bool.false_or] at this
      rw [this, decide_eq_true (by omega)]; rfl
  · rintro ⟨h1, h2⟩
    refine ⟨h2, fun i hit => ?_, fun i hi => ?_⟩
    · have := h1 i (List.mem_range.2 (by omega))
      rw [cor_row hit (by omega), piv_take]
      rw [decide_eq_false (by omega), beq_iff_eq] at this
      exact this
    · have := h1 i hi
      by_cases hit : i < t
      · simp [hit]
      · rw [decide_eq_true (by omega), beq_iff_eq] at this
        simp [this]
theorem pvalid_ok (t k : Int) (b : Bool) : FnD prog 19 [ePi r c A m u v t k b] (vb (validI r c A m u v t k b)) [] := by
  refine vc19_ok _ _ _ _ _ _ _ _ _ _ _ _ _ _ _ (R := Out _) ?_
  unfold vc19
  have hr := C.hr; have hc := C.hc
  have sA := C.kA.szm C.hS; have sm := C.km.szm C.hS; have su := C.ku.szm C.hS; have sv := C.kv.szm C.hS
  refine ⟨_, mvalid_ok C.hA sA hr hc, fun h => absurd h (by decide), fun _ => ⟨_, psized_ok C.hm sm hr hc, fun h => absurd h (by decide), fun _ => ⟨_, psized_ok C.hu su hr hr, fun h => absurd h (by decide), fun _ => ⟨_, psized_ok C.hv sv hr hr, fun h => absurd h (by decide), fun _ => ?_⟩⟩⟩⟩
  refine ⟨fun h => outb ?_, fun h1 => ⟨fun h => outb ?_, fun h2 => ⟨fun h => outb ?_, fun h3 => ⟨fun h => outb ?_, fun h4 => ?_⟩⟩⟩⟩
  · have := of_decide_eq_true h; simp [validI, show ¬ 0 ≤ t by omega]
  · have := of_decide_eq_true h; simp [validI, show ¬ t ≤ r by omega]
  · have := of_decide_eq_true h; simp [validI, show ¬ t ≤ k by omega]
  · have := of_decide_eq_true h; simp [validI, show ¬ k ≤ c by omega]
  have g1 : 0 ≤ t := by have := of_decide_eq_false h1; omega
  have g2 : t ≤ r := by have := of_decide_eq_false h2; omega
  have g3 : t ≤ k := by have := of_decide_eq_false h3; omega
  have g4 : k ≤ c := by have := of_decide_eq_false h4; omega
  clear h1 h2 h3 h4
  refine ⟨_, finI_ok, fun h => outb ?_, fun h5 => ⟨_, pproduct_ok C C.hu C.hA C.ku C.kA sm hc, fun h => outb ?_, fun h6 => ⟨_, _, _, _, mident_ok hr, pproduct_ok C C.hu C.hv C.ku C.kv (d := idM r) ((idM_bd r).sz (by decide)) hr, fun h => outb ?_, fun h7 => ?_⟩⟩⟩
  · have : (b == finI r c t k) = false := by simpa using h
    simp [validI, this]
  · have : ¬ mmul r r c u A = m := by simpa using h
    simp [validI, this]
  · have : ¬ mmul r r r u v = idM r := by simpa using h
    simp [validI, this]
  have g5 : (b == finI r c t k) = true := by simpa using h5
  have g6 : mmul r r c u A = m := by simpa using h6
  have g7 : mmul r r r u v = idM r := by simpa using h7
  have hv : validI r c A m u v t k b = validR r t.toNat k.toNat m := by simp [validI, g1, g2, g3, g4, g5, g6, g7]
  rw [hv]
  clear hv h5 h6 h7 g5 g6 g7
  obtain ⟨t, rfl⟩ : ∃ n : Nat, t = (n : Int) := ⟨t.toNat, by omega⟩
  obtain ⟨k, rfl⟩ : ∃ n : Nat, k = (n : Int) := ⟨k.toNat, by omega⟩
  rw [Int.toNat_natCast, Int.toNat_natCast]
  have ht : t ≤ r := by omega
  have hk : k ≤ c := by omega
  rw [C.validR_eq ht]
  have hlen : ((rows m).length : Int) = (r : Int) := by rw [rows_length, C.hm.1]
  rw [hlen]
  have bad : ∀ {n : Nat}, n < r → (zP k m n == decide (t ≤ n)) = false → ((List.range r).all (fun i => zP k m i == decide (t ≤ i)) && isHB t k (cor t k m)) = false := fun {n} hn h => by
    have : (List.range r).all (fun i => zP k m i == decide (t ≤ i)) = false := by
      rw [List.all_eq_false]
      exact ⟨n, List.mem_range.2 hn, by rw [h]; decide⟩
    rw [this]; rfl
  refine ⟨fun o i => ∃ n : Nat, i = (n : Int) ∧ n ≤ r ∧ o = rows (cor (min n t) k m) ∧ ∀ j, j < n → (zP k m j == decide (t ≤ j)) = true, fun _ i => ((r : Int) - i).toNat, ⟨0, rfl, by omega, by rw [Nat.zero_min]; rfl, fun j hj => by omega⟩, ?_⟩
  rintro _ _ ⟨n, rfl, hn, rfl, hz⟩
  refine ⟨fun h => ?_, fun h => ?_⟩
  · have hnr : n < r := by simpa using h
    obtain ⟨hnm, hnl⟩ := mx_row C.hm hnr
    have hzo := mzero_ok (r := (m.getD n []).take k) (by rw [List.length_take]; omega)
    have hdt : decide ((n : Int) ≥ (t : Int)) = decide (t ≤ n) := by
      by_cases h : t ≤ n
      · rw [decide_eq_true h, decide_eq_true (by omega)]
      · rw [decide_eq_false h, decide_eq_false (by omega)]
    refine ⟨_, ⟨by omega, by omega⟩, rows_getN hnm, zP k m n, ⟨by omega, by rw [row_length]; omega⟩, by rw [row_takeN]; exact hzo, fun h2 => outb ?_, fun h2 => ?_⟩
    · rw [hdt] at h2
      exact (bad hnr (by simpa using h2)).symm
    rw [hdt] at h2
    have h3 : (zP k m n == decide (t ≤ n)) = true := by simpa using h2
    have hz' : ∀ j, j < n + 1 → (zP k m j == decide (t ≤ j)) = true := fun j hj => by
      by_cases hjn : j = n
      · rw [hjn]; exact h3
      · exact hz j (by omega)
    rw [inc64 (by omega)]
    refine ⟨fun h4 => ?_, fun h4 => ?_⟩
    · have hnt : n < t := by have := of_decide_eq_true h4; omega
      have hcl : (cor (min n t) k m).length = n := by rw [Nat.min_eq_left (by omega)]; exact (cor_mx C.hm (by omega) hk).1
      refine ⟨?_, ⟨n + 1, rfl, by omega, ?_, hz'⟩, by show ((r : Int) - ((n + 1 : Nat) : Int)).toNat < ((r : Int) - (n : Int)).toNat; omega⟩
      · rw [rows_length, hcl]; simp only [List.length_cons, List.length_nil]; omega
      · rw [Nat.min_eq_left (by omega), Nat.min_eq_left (by omega), cor_succ hnm, row_takeN]
        simp [rows]
    · have hnt : t ≤ n := by have := of_decide_eq_false h4; omega
      refine ⟨⟨n + 1, rfl, by omega, ?_, hz'⟩, by show ((r : Int) - ((n + 1 : Nat) : Int)).toNat < ((r : Int) - (n : Int)).toNat; omega⟩
      rw [Nat.min_eq_right (by omega), Nat.min_eq_right (by omega)]
  · have hnr : n = r := by have : r ≤ n := by simpa using h
                           omega
    subst hnr
    rw [Nat.min_eq_right ht]
    refine ⟨_, pIs_ok (cor_mx C.hm ht hk) (cor_sz sm) (by omega) (by omega), outb ?_⟩
    have : (List.range n).all (fun i => zP k m i == decide (t ≤ i)) = true := by
      rw [List.all_eq_true]
      exact fun i hi => hz i (List.mem_range.1 hi)
    rw [this, Bool.true_and]
end
theorem rcheck_ok {r c K : Nat} {A m u v : List (List Int)} (C : VX r c K A m u v) : FnD prog 21 [eM r c A, eHer r c m u v] (vb (isHB r c m && (decide (mmul r r c u A = m) && decide (mmul r r r u v = idM r)))) [] := by
  refine vc21_ok _ _ _ _ _ _ _ _ _ _ _ _ (R := Out _) ?_
  unfold vc21
  have hr := C.hr; have hc := C.hc
  have sA := C.kA.szm C.hS; have sm := C.km.szm C.hS; have su := C.ku.szm C.hS; have sv := C.kv.szm C.hS
  have e2 := sized_ok C.hu su hr hr r r
  have e3 := sized_ok C.hv sv hr hr r r
  rw [decide_eq_true ⟨rfl, rfl⟩] at e2 e3
  have p1 := m5prodB C.hS C.hu C.hA C.ku C.kA hr hr hc
  have p2 := m5prodB C.hS C.hu C.hv C.ku C.kv hr hr hr
  have q1 := VX.same (mmul_mx r r c u A) (C.mmul_sz hr C.hu C.hA C.ku C.kA) sm hr hc
  have q2 := VX.same (mmul_mx r r r u v) (C.mmul_sz hr C.hu C.hv C.ku C.kv) (b := idM r) ((idM_bd r).sz (by decide)) hr hr
  refine ⟨_, rvalidM_ok C.hA sA hr hc, _, rIs_ok C.hm sm hr hc, fun h => absurd h (by decide), fun _ => ⟨fun h => outb ?_, fun h1 => ⟨fun h => by simp at h, fun _ => ⟨fun h => by simp at h, fun _ => ⟨_, e2, _, e3, fun _ => ⟨fun _ => ⟨_, _, _, _, p1, q1, fun h2 => ⟨_, _, _, _, _, _, _, p2, FnD.frz (rident_ok hr), q2, outb ?_⟩, fun h2 => outb ?_⟩, fun h => absurd h (by decide)⟩, fun h => absurd h (by decide)⟩⟩⟩⟩⟩
  · have : isHB r c m = false := by simpa using h
    rw [this]; rfl
  · have g1 : isHB r c m = true := by simpa using h1
    rw [g1, h2]; rfl
  · rw [h2, Bool.false_and, Bool.and_false]
end Go.AM
/- The fixed examples of the law of steps, with the answers put in. Printed by gen8.py. -/
set_option maxRecDepth 100000
set_option linter.unusedVariables false
namespace Go.AM
open Go.Proofs.Tryz
def vc8 (R : V → Heap → Prop) : Prop :=
 (FnD prog 26 [vD (dI (2 : Int)), vD (dI (1 : Int)), vD (dL [[dI (4 : Int)], [dI (6 : Int)]])] (vA [sD (dI (2 : Int)), sD (dI (1 : Int)), S.ref 0]) [some (Obj.mat 2 (om [[4], [6]]))]) ∧
 (FnD prog 10 [vA [sD (dI (2 : Int)), sD (dI (1 : Int)), sD (dL (matD (om [[4], [6]])))]] (vA [sD (dI (2 : Int)), sD (dI (1 : Int)), sD (dL (rows [[4], [6]])), sD (dI (2 : Int)), sD (dI (1 : Int)), sD (dL (rows [[4], [6]])), sD (dI (2 : Int)), sD (dI (2 : Int)), sD (dL (rows [[1, 0], [0, 1]])), sD (dI (2 : Int)), sD (dI (2 : Int)), sD (dL (rows [[1, 0], [0, 1]])), sD (dI (0 : Int)), sD (dI (0 : Int)), sD (dB false)]) []) ∧
 (FnD prog 13 [vA [sD (dI (2 : Int)), sD (dI (1 : Int)), sD (dL (rows [[4], [6]])), sD (dI (2 : Int)), sD (dI (1 : Int)), sD (dL (rows [[4], [6]])), sD (dI (2 : Int)), sD (dI (2 : Int)), sD (dL (rows [[1, 0], [0, 1]])), sD (dI (2 : Int)), sD (dI (2 : Int)), sD (dL (rows [[1, 0], [0, 1]])), sD (dI (0 : Int)), sD (dI (0 : Int)), sD (dB false)], vD (dI (1 : Int))] (vA [sD (dI (2 : Int)), sD (dI (1 : Int)), sD (dL (rows [[4], [6]])), sD (dI (2 : Int)), sD (dI (1 : Int)), sD (dL (rows [[4], [2]])), sD (dI (2 : Int)), sD (dI (2 : Int)), sD (dL (rows [[1, 0], [-1, 1]])), sD (dI (2 : Int)), sD (dI (2 : Int)), sD (dL (rows [[1, 0], [1, 1]])), sD (dI (0 : Int)), sD (dI (0 : Int)), sD (dB false)]) []) ∧
 (FnD prog 13 [vA [sD (dI (2 : Int)), sD (dI (1 : Int)), sD (dL (rows [[4], [6]])), sD (dI (2 : Int)), sD (dI (1 : Int)), sD (dL (rows [[4], [2]])), sD (dI (2 : Int)), sD (dI (2 : Int)), sD (dL (rows [[1, 0], [-1, 1]])), sD (dI (2 : Int)), sD (dI (2 : Int)), sD (dL (rows [[1, 0], [1, 1]])), sD (dI (0 : Int)), sD (dI (0 : Int)), sD (dB false)], vD (dI (1 : Int))] (vA [sD (dI (2 : Int)), sD (dI (1 : Int)), sD (dL (rows [[4], [6]])), sD (dI (2 : Int)), sD (dI (1 : Int)), sD (dL (rows [[2], [4]])), sD (dI (2 : Int)), sD (dI (2 : Int)), sD (dL (rows [[-1, 1], [1, 0]])), sD (dI (2 : Int)), sD (dI (2 : Int)), sD (dL (rows [[0, 1], [1, 1]])), sD (dI (0 : Int)), sD (dI (0 : Int)), sD (dB false)]) []) ∧
 (FnD prog 13 [vA [sD (dI (2 : Int)), sD (dI (1 : Int)), sD (dL (rows [[4], [6]])), sD (dI (2 : Int)), sD (dI (1 : Int)), sD (dL (rows [[2], [4]])), sD (dI (2 : Int)), sD (dI (2 : Int)), sD (dL (rows [[-1, 1], [1, 0]])), sD (dI (2 : Int)), sD (dI (2 : Int)), sD (dL (rows [[0, 1], [1, 1]])), sD (dI (0 : Int)), sD (dI (0 : Int)), sD (dB false)], vD (dI (100 : Int))] (vA [sD (dI (2 : Int)), sD (dI (1 : Int)), sD (dL (rows [[4], [6]])), sD (dI (2 : Int)), sD (dI (1 : Int)), sD (dL (rows [[2], [0]])), sD (dI (2 : Int)), sD (dI (2 : Int)), sD (dL (rows [[-1, 1], [3, -2]])), sD (dI (2 : Int)), sD (dI (2 : Int)), sD (dL (rows [[2, 1], [3, 1]])), sD (dI (1 : Int)), sD (dI (1 : Int)), sD (dB true)]) []) ∧
 (FnD prog 20 [vA [sD (dI (2 : Int)), sD (dI (1 : Int)), sD (dL (rows [[4], [6]])), sD (dI (2 : Int)), sD (dI (1 : Int)), sD (dL (rows [[2], [4]])), sD (dI (2 : Int)), sD (dI (2 : Int)), sD (dL (rows [[-1, 1], [1, 0]])), sD (dI (2 : Int)), sD (dI (2 : Int)), sD (dL (rows [[0, 1], [1, 1]])), sD (dI (0 : Int)), sD (dI (0 : Int)), sD (dB false)]] (V.tup [E.agg [sD (dI (0 : Int)), sD (dI (0 : Int)), sD (dL ([] : List (List D))), sD (dI (0 : Int)), sD (dI (0 : Int)), sD (dL ([] : List (List D))), sD (dI (0 : Int)), sD (dI (0 : Int)), sD (dL ([] : List (List D)))], eD (dI (210 : Int))]) []) ∧
 (FnD prog 20 [vA [sD (dI (2 : Int)), sD (dI (1 : Int)), sD (dL (rows [[4], [6]])), sD (dI (2 : Int)), sD (dI (1 : Int)), sD (dL (rows [[2], [0]])), sD (dI (2 : Int)), sD (dI (2 : Int)), sD (dL (rows [[-1, 1], [3, -2]])), sD (dI (2 : Int)), sD (dI (2 : Int)), sD (dL (rows [[2, 1], [3, 1]])), sD (dI (1 : Int)), sD (dI (1 : Int)), sD (dB true)]] (V.tup [E.agg [sD (dI (2 : Int)), sD (dI (1 : Int)), sD (dL (rows [[2], [0]])), sD (dI (2 : Int)), sD (dI (2 : Int)), sD (dL (rows [[-1, 1], [3, -2]])), sD (dI (2 : Int)), sD (dI (2 : Int)), sD (dL (rows [[2, 1], [3, 1]]))], eD (dI (0 : Int))]) []) ∧
 (FnD prog 10 [vA [sD (dI (0 : Int)), sD (dI (3 : Int)), sD (dL ([] : List (List D)))]] (vA [sD (dI (0 : Int)), sD (dI (3 : Int)), sD (dL ([] : List (List D))), sD (dI (0 : Int)), sD (dI (3 : Int)), sD (dL ([] : List (List D))), sD (dI (0 : Int)), sD (dI (0 : Int)), sD (dL ([] : List (List D))), sD (dI (0 : Int)), sD (dI (0 : Int)), sD (dL ([] : List (List D))), sD (dI (0 : Int)), sD (dI (0 : Int)), sD (dB true)]) []) ∧
 (FnD prog 12 [vA [sD (dI (2 : Int)), sD (dI (1 : Int)), sD (dL (matD (om [[4], [6]])))]] (vA [sD (dI (2 : Int)), sD (dI (1 : Int)), sD (dL (rows [[4], [6]])), sD (dI (2 : Int)), sD (dI (1 : Int)), sD (dL (rows [[4], [6]])), sD (dI (2 : Int)), sD (dI (2 : Int)), sD (dL (rows [[1, 0], [0, 1]])), sD (dI (2 : Int)), sD (dI (2 : Int)), sD (dL (rows [[1, 0], [0, 1]])), sD (dI (0 : Int)), sD (dI (0 : Int)), sD (dB false)]) []) ∧
 (FnD prog 11 [vA [sD (dI (2 : Int)), sD (dI (1 : Int)), sD (dL (rows [[4], [6]])), sD (dI (2 : Int)), sD (dI (1 : Int)), sD (dL (rows [[4], [6]])), sD (dI (2 : Int)), sD (dI (2 : Int)), sD (dL (rows [[1, 0], [0, 1]])), sD (dI (2 : Int)), sD (dI (2 : Int)), sD (dL (rows [[1, 0], [0, 1]])), sD (dI (0 : Int)), sD (dI (0 : Int)), sD (dB false)], vA [sD (dI (2 : Int)), sD (dI (1 : Int)), sD (dL (rows [[4], [6]])), sD (dI (2 : Int)), sD (dI (1 : Int)), sD (dL (rows [[4], [6]])), sD (dI (2 : Int)), sD (dI (2 : Int)), sD (dL (rows [[1, 0], [0, 1]])), sD (dI (2 : Int)), sD (dI (2 : Int)), sD (dL (rows [[1, 0], [0, 1]])), sD (dI (0 : Int)), sD (dI (0 : Int)), sD (dB false)]] (vD (dB true)) []) ∧
 (FnD prog 26 [vD (dI (2 : Int)), vD (dI (1 : Int)), vD (dL [[dI (4 : Int)], [dI (2 : Int)]])] (vA [sD (dI (2 : Int)), sD (dI (1 : Int)), sD (dL (rows [[4], [2]]))]) []) ∧
 (FnD prog 22 [vA [sD (dI (2 : Int)), sD (dI (1 : Int)), sD (dL (rows [[4], [2]]))], vA [sD (dI (2 : Int)), sD (dI (1 : Int)), sD (dL (rows [[4], [2]]))]] (vD (dB true)) []) ∧
 (FnD prog 26 [vD (dI (2 : Int)), vD (dI (1 : Int)), vD (dL [[dI (2 : Int)], [dI (4 : Int)]])] (vA [sD (dI (2 : Int)), sD (dI (1 : Int)), sD (dL (rows [[2], [4]]))]) []) ∧
 (FnD prog 22 [vA [sD (dI (2 : Int)), sD (dI (1 : Int)), sD (dL (rows [[2], [4]]))], vA [sD (dI (2 : Int)), sD (dI (1 : Int)), sD (dL (rows [[2], [4]]))]] (vD (dB true)) []) ∧
 (FnD prog 26 [vD (dI (2 : Int)), vD (dI (1 : Int)), vD (dL [[dI (2 : Int)], [dI (0 : Int)]])] (vA [sD (dI (2 : Int)), sD (dI (1 : Int)), sD (dL (rows [[2], [0]]))]) []) ∧
 (FnD prog 22 [vA [sD (dI (2 : Int)), sD (dI (1 : Int)), sD (dL (rows [[2], [0]]))], vA [sD (dI (2 : Int)), sD (dI (1 : Int)), sD (dL (rows [[2], [0]]))]] (vD (dB true)) []) ∧
 (FnD prog 21 [vA [sD (dI (2 : Int)), sD (dI (1 : Int)), sD (dL (matD (om [[4], [6]])))], vA [sD (dI (2 : Int)), sD (dI (1 : Int)), sD (dL (rows [[2], [0]])), sD (dI (2 : Int)), sD (dI (2 : Int)), sD (dL (rows [[-1, 1], [3, -2]])), sD (dI (2 : Int)), sD (dI (2 : Int)), sD (dL (rows [[2, 1], [3, 1]]))]] (vD (dB true)) []) ∧
 (FnD prog 15 [vA [sD (dI (2 : Int)), sD (dI (1 : Int)), sD (dL (matD (om [[4], [6]])))]] (vD (dI (4 : Int))) []) ∧
 (FnD prog 15 [vA [sD (dI (1 : Int)), sD (dI (0 : Int)), sD (dL [[dL ([] : List (List D))]])]] (vD (dI (0 : Int))) []) ∧
 (FnD prog 19 [vA [sD (dI (2 : Int)), sD (dI (1 : Int)), sD (dL (rows [[4], [6]])), sD (dI (2 : Int)), sD (dI (1 : Int)), sD (dL (rows [[2], [4]])), sD (dI (2 : Int)), sD (dI (2 : Int)), sD (dL (rows [[-1, 1], [1, 0]])), sD (dI (2 : Int)), sD (dI (2 : Int)), sD (dL (rows [[0, 1], [1, 1]])), sD (dI (0 : Int)), sD (dI (0 : Int)), sD (dB false)]] (vD (dB true)) []) ∧
 (FnD prog 19 [vA [sD (dI (0 : Int)), sD (dI (0 : Int)), sD (dL ([] : List (List D))), sD (dI (0 : Int)), sD (dI (0 : Int)), sD (dL ([] : List (List D))), sD (dI (0 : Int)), sD (dI (0 : Int)), sD (dL ([] : List (List D))), sD (dI (0 : Int)), sD (dI (0 : Int)), sD (dL ([] : List (List D))), sD (dI (1 : Int)), sD (dI (0 : Int)), sD (dB false)]] (vD (dB false)) []) ∧
 (FnD prog 19 [vA [sD (dI (0 : Int)), sD (dI (0 : Int)), sD (dL ([] : List (List D))), sD (dI (0 : Int)), sD (dI (0 : Int)), sD (dL ([] : List (List D))), sD (dI (0 : Int)), sD (dI (0 : Int)), sD (dL ([] : List (List D))), sD (dI (0 : Int)), sD (dI (0 : Int)), sD (dL ([] : List (List D))), sD (dI (0 : Int)), sD (dI (0 : Int)), sD (dB false)]] (vD (dB false)) []) ∧
 R (vD (dB (!false))) []
theorem vc8_ok {R : V → Heap → Prop} (h : vc8 R) : FnG prog 8 [] [] R :=
  FnG.vcg hT func8 ntmps8 (.r0 [] <| .reg 3 [(0, Or.frz, 0, 1), (1, Or.call (vA [sD (dI (2 : Int)), sD (dI (1 : Int)), S.ref 0]) [some (Obj.mat 2 (om [[4], [6]]))] [], 1, 1), (2, Or.none, 2, 1)] [1] [2, 1] [] <| .frz [1] <| .reg 1 [(1, Or.call (vA [sD (dI (2 : Int)), sD (dI (1 : Int)), sD (dL (rows [[4], [6]])), sD (dI (2 : Int)), sD (dI (1 : Int)), sD (dL (rows [[4], [6]])), sD (dI (2 : Int)), sD (dI (2 : Int)), sD (dL (rows [[1, 0], [0, 1]])), sD (dI (2 : Int)), sD (dI (2 : Int)), sD (dL (rows [[1, 0], [0, 1]])), sD (dI (0 : Int)), sD (dI (0 : Int)), sD (dB false)]) [] [], 0, 0), (2, Or.none, 2, 1)] [1, 2] [0, 2] [] <| .reg 1 [(1, Or.call (vA [sD (dI (2 : Int)), sD (dI (1 : Int)), sD (dL (rows [[4], [6]])), sD (dI (2 : Int)), sD (dI (1 : Int)), sD (dL (rows [[4], [2]])), sD (dI (2 : Int)), sD (dI (2 : Int)), sD (dL (rows [[1, 0], [-1, 1]])), sD (dI (2 : Int)), sD (dI (2 : Int)), sD (dL (rows [[1, 0], [1, 1]])), sD (dI (0 : Int)), sD (dI (0 : Int)), sD (dB false)]) [] [], 0, 0), (2, Or.none, 2, 1)] [1, 2, 3] [0, 1, 2] [] <| .reg 1 [(1, Or.call (vA [sD (dI (2 : Int)), sD (dI (1 : Int)), sD (dL (rows [[4], [6]])), sD (dI (2 : Int)), sD (dI (1 : Int)), sD (dL (rows [[2], [4]])), sD (dI (2 : Int)), sD (dI (2 : Int)), sD (dL (rows [[-1, 1], [1, 0]])), sD (dI (2 : Int)), sD (dI (2 : Int)), sD (dL (rows [[0, 1], [1, 1]])), sD (dI (0 : Int)), sD (dI (0 : Int)), sD (dB false)]) [] [], 0, 0), (2, Or.none, 3, 1)] [1, 2, 3, 4] [0, 1, 2, 3] [] <| .reg 1 [(1, Or.call (vA [sD (dI (2 : Int)), sD (dI (1 : Int)), sD (dL (rows [[4], [6]])), sD (dI (2 : Int)), sD (dI (1 : Int)), sD (dL (rows [[2], [0]])), sD (dI (2 : Int)), sD (dI (2 : Int)), sD (dL (rows [[-1, 1], [3, -2]])), sD (dI (2 : Int)), sD (dI (2 : Int)), sD (dL (rows [[2, 1], [3, 1]])), sD (dI (1 : Int)), sD (dI (1 : Int)), sD (dB true)]) [] [], 0, 0), (2, Or.none, 4, 1)] [1, 2, 3, 4, 5] [0, 1, 2, 3, 4] [] <| .reg 1 [(1, Or.call (V.tup [E.agg [sD (dI (0 : Int)), sD (dI (0 : Int)), sD (dL ([] : List (List D))), sD (dI (0 : Int)), sD (dI (0 : Int)), sD (dL ([] : List (List D))), sD (dI (0 : Int)), sD (dI (0 : Int)), sD (dL ([] : List (List D)))], eD (dI (210 : Int))]) [] [], 0, 0), (5, Or.none, 5, 1)] [1, 2, 3, 4, 5, 7] [0, 1, 2, 3, 4] [] <| .reg 1 [(1, Or.call (V.tup [E.agg [sD (dI (2 : Int)), sD (dI (1 : Int)), sD (dL (rows [[2], [0]])), sD (dI (2 : Int)), sD (dI (2 : Int)), sD (dL (rows [[-1, 1], [3, -2]])), sD (dI (2 : Int)), sD (dI (2 : Int)), sD (dL (rows [[2, 1], [3, 1]]))], eD (dI (0 : Int))]) [] [], 0, 0), (5, Or.none, 5, 1)] [1, 2, 3, 4, 5, 7, 8, 9] [0, 1, 2, 3, 4, 5] [] <| .reg 1 [(1, Or.call (vA [sD (dI (0 : Int)), sD (dI (3 : Int)), sD (dL ([] : List (List D))), sD (dI (0 : Int)), sD (dI (3 : Int)), sD (dL ([] : List (List D))), sD (dI (0 : Int)), sD (dI (0 : Int)), sD (dL ([] : List (List D))), sD (dI (0 : Int)), sD (dI (0 : Int)), sD (dL ([] : List (List D))), sD (dI (0 : Int)), sD (dI (0 : Int)), sD (dB true)]) [] [], 0, 0), (2, Or.none, 6, 1)] [1, 2, 3, 4, 5, 7, 8, 9, 10] [0, 1, 2, 3, 4, 5, 6] [] <| .drw 5 [(2, (Or.call (vA [sD (dI (2 : Int)), sD (dI (1 : Int)), sD (dL (rows [[4], [6]])), sD (dI (2 : Int)), sD (dI (1 : Int)), sD (dL (rows [[4], [6]])), sD (dI (2 : Int)), sD (dI (2 : Int)), sD (dL (rows [[1, 0], [0, 1]])), sD (dI (2 : Int)), sD (dI (2 : Int)), sD (dL (rows [[1, 0], [0, 1]])), sD (dI (0 : Int)), sD (dI (0 : Int)), sD (dB false)]) [] [], 0, 0), []), (3, (Or.call (vD (dB true)) [] [], 0, 0), []), (12, (Or.frz, 7, 1), []), (13, (Or.call (vA [sD (dI (2 : Int)), sD (dI (1 : Int)), sD (dL (rows [[4], [2]]))]) [] [], 0, 0), []), (14, (Or.call (vD (dB true)) [] [], 0, 0), []), (19, (Or.frz, 8, 1), []), (20, (Or.call (vA [sD (dI (2 : Int)), sD (dI (1 : Int)), sD (dL (rows [[2], [4]]))]) [] [], 0, 0), []), (21, (Or.call (vD (dB true)) [] [], 0, 0), []), (26, (Or.frz, 9, 1), []), (27, (Or.call (vA [sD (dI (2 : Int)), sD (dI (1 : Int)), sD (dL (rows [[2], [0]]))]) [] [], 0, 0), []), (28, (Or.call (vD (dB true)) [] [], 0, 0), []), (45, (Or.call (vD (dB true)) [] [], 0, 0), []), (53, (Or.call (vD (dI (4 : Int))) [] [], 0, 0), []), (57, (Or.frz, 10, 1), []), (58, (Or.frz, 11, 1), []), (60, (Or.call (vD (dI (0 : Int))) [] [], 0, 0), []), (65, (Or.call (vD (dB true)) [] [], 0, 0), []), (69, (Or.call (vD (dB false)) [] [], 0, 0), []), (74, (Or.call (vD (dB false)) [] [], 0, 0), [])] [0] [] [] <| .ret [])
    (by kernel_rfl) (by kernel_rfl) (by kernel_rfl) h
end Go.AM
/- What functions of the program come to: group L3. Printed by vc.py. -/
set_option maxRecDepth 100000
set_option linter.unusedVariables false
namespace Go.AM
open Go.Proofs.Tryz
def vc3 (x0 x1 : Int) (x2 : List (List D)) (n : Int) (R : V → Heap → Prop) : Prop :=
 ∃ (r : Bool),
 (FnD prog 8 [] (vD (dB r)) []) ∧
 (∃ (r0 r1 : Int) (rrows : List (List (List D))),
 (FnD prog 9 [vA [sD (D.int .u8 x0), sD (D.int .u8 x1), sD (dL x2)]] (vA [sD (dI r0), sD (dI r1), S.ref 0]) [some (Obj.mat 2 rrows)]) ∧
 (((60 : Int) ≠ 0) ∧
 (∃ (r01 r11 : Int) (r2 : List (List D)) (r3 r4 : Int) (r5 : List (List D)) (r6 r7 : Int) (r8 : List (List D)) (r9 r10 : Int) (r111 : List (List D)) (r12 r13 : Int) (r14 : Bool),
 (FnD prog 10 [vA [sD (dI r0), sD (dI r1), sD (dL (matD rrows))]] (vA [sD (dI r01), sD (dI r11), sD (dL r2), sD (dI r3), sD (dI r4), sD (dL r5), sD (dI r6), sD (dI r7), sD (dL r8), sD (dI r9), sD (dI r10), sD (dL r111), sD (dI r12), sD (dI r13), sD (dB r14)]) []) ∧
 (∃ (r02 r15 : Int) (r21 : List (List D)) (r31 r41 : Int) (r51 : List (List D)) (r61 r71 : Int) (r81 : List (List D)) (r91 r101 : Int) (r112 : List (List D)) (r121 r131 : Int) (r141 r16 : Bool),
 (FnD prog 12 [vA [sD (dI r0), sD (dI r1), sD (dL (matD rrows))]] (vA [sD (dI r02), sD (dI r15), sD (dL r21), sD (dI r31), sD (dI r41), sD (dL r51), sD (dI r61), sD (dI r71), sD (dL r81), sD (dI r91), sD (dI r101), sD (dL r112), sD (dI r121), sD (dI r131), sD (dB r141)]) []) ∧
 (FnD prog 11 [vA [sD (dI r01), sD (dI r11), sD (dL r2), sD (dI r3), sD (dI r4), sD (dL r5), sD (dI r6), sD (dI r7), sD (dL r8), sD (dI r9), sD (dI r10), sD (dL r111), sD (dI r12), sD (dI r13), sD (dB r14)], vA [sD (dI r02), sD (dI r15), sD (dL r21), sD (dI r31), sD (dI r41), sD (dL r51), sD (dI r61), sD (dI r71), sD (dL r81), sD (dI r91), sD (dI r101), sD (dL r112), sD (dI r121), sD (dI r131), sD (dB r141)]] (vD (dB r16)) []) ∧
 (((!r16) = true →
 R (vD (dB false)) []) ∧
 ((!r16) = false →
 (r = true →
 ∃ (r03 r17 : Int) (r22 : List (List D)) (r32 r42 : Int) (r52 : List (List D)) (r62 r72 : Int) (r82 : List (List D)) (r92 r102 : Int) (r113 : List (List D)) (r122 r132 : Int) (r142 : Bool) (r04 r18 : Int) (r23 : List (List D)) (r33 r43 : Int) (r53 : List (List D)) (r63 r73 : Int) (r83 : List (List D)) (r93 r103 : Int) (r114 : List (List D)) (r123 r133 : Int) (r143 : Bool) (r05 r19 : Int) (r24 : List (List D)) (r34 r44 : Int) (r54 : List (List D)) (r64 r74 : Int) (r84 : List (List D)) (r94 r104 : Int) (r115 : List (List D)) (r124 r134 : Int) (r144 r20 : Bool),
 (FnD prog 13 [vA [sD (dI r01), sD (dI r11), sD (dL r2), sD (dI r3), sD (dI r4), sD (dL r5), sD (dI r6), sD (dI r7), sD (dL r8), sD (dI r9), sD (dI r10), sD (dL r111), sD (dI r12), sD (dI r13), sD (dB r14)], vD (dI ((IntKind.i64.wrap n).tmod (60 : Int)))] (vA [sD (dI r03), sD (dI r17), sD (dL r22), sD (dI r32), sD (dI r42), sD (dL r52), sD (dI r62), sD (dI r72), sD (dL r82), sD (dI r92), sD (dI r102), sD (dL r113), sD (dI r122), sD (dI r132), sD (dB r142)]) []) ∧
 (FnD prog 12 [vA [sD (dI r0), sD (dI r1), sD (dL (matD rrows))]] (vA [sD (dI r04), sD (dI r18), sD (dL r23), sD (dI r33), sD (dI r43), sD (dL r53), sD (dI r63), sD (dI r73), sD (dL r83), sD (dI r93), sD (dI r103), sD (dL r114), sD (dI r123), sD (dI r133), sD (dB r143)]) []) ∧
 (FnD prog 14 [vA [sD (dI r04), sD (dI r18), sD (dL r23), sD (dI r33), sD (dI r43), sD (dL r53), sD (dI r63), sD (dI r73), sD (dL r83), sD (dI r93), sD (dI r103), sD (dL r114), sD (dI r123), sD (dI r133), sD (dB r143)], vD (dI ((IntKind.i64.wrap n).tmod (60 : Int)))] (vA [sD (dI r05), sD (dI r19), sD (dL r24), sD (dI r34), sD (dI r44), sD (dL r54), sD (dI r64), sD (dI r74), sD (dL r84), sD (dI r94), sD (dI r104), sD (dL r115), sD (dI r124), sD (dI r134), sD (dB r144)]) []) ∧
 (FnD prog 11 [vA [sD (dI r03), sD (dI r17), sD (dL r22), sD (dI r32), sD (dI r42), sD (dL r52), sD (dI r62), sD (dI r72), sD (dL r82), sD (dI r92), sD (dI r102), sD (dL r113), sD (dI r122), sD (dI r132), sD (dB r142)], vA [sD (dI r05), sD (dI r19), sD (dL r24), sD (dI r34), sD (dI r44), sD (dL r54), sD (dI r64), sD (dI r74), sD (dL r84), sD (dI r94), sD (dI r104), sD (dL r115), sD (dI r124), sD (dI r134), sD (dB r144)]] (vD (dB r20)) []) ∧
 ((r20 = true →
 ∃ (r25 r26 : Int),
 (FnD prog 15 [vA [sD (dI r0), sD (dI r1), sD (dL (matD rrows))]] (vD (dI r25)) []) ∧
 (FnD prog 16 [vA [sD (dI r0), sD (dI r1), sD (dL (matD rrows))]] (vD (dI r26)) []) ∧
 (R (vD (dB (r25 == r26))) [])) ∧
 (r20 = false →
 R (vD (dB false)) []))) ∧
 (r = false →
 R (vD (dB false)) [])))))))
theorem vc3_ok (x0 x1 : Int) (x2 : List (List D)) (n : Int) {R : V → Heap → Prop} (h : vc3 x0 x1 x2 n R) : FnG prog 3 [vA [sD (D.int .u8 x0), sD (D.int .u8 x1), sD (dL x2)], vD (D.int .i8 n)] [] R :=
  FnG.vcg hT func3 ntmps3 (.reg 1 [(0, Or.none, 0, 1)] [1, 2] [0] [] <| .exb fun r => .reg 0 [(0, Or.call (vD (dB r)) [] [], 0, 0)] [1, 2, 5] [0] [] <| .ex fun r0 => .ex fun r1 => .exm fun rrows => .reg 2 [(1, Or.call (vA [sD (dI r0), sD (dI r1), S.ref 0]) [some (Obj.mat 2 rrows)] [], 1, 1), (2, Or.none, 2, 1)] [1, 5, 6] [2, 1] [] <| .r1 [5, 6, 7] [0, 1] <| .frz [1] <| .ex fun r01 => .ex fun r11 => .exl fun r2 => .ex fun r3 => .ex fun r4 => .exl fun r5 => .ex fun r6 => .ex fun r7 => .exl fun r8 => .ex fun r9 => .ex fun r10 => .exl fun r111 => .ex fun r12 => .ex fun r13 => .exb fun r14 => .reg 1 [(1, Or.call (vA [sD (dI r01), sD (dI r11), sD (dL r2), sD (dI r3), sD (dI r4), sD (dL r5), sD (dI r6), sD (dI r7), sD (dL r8), sD (dI r9), sD (dI r10), sD (dL r111), sD (dI r12), sD (dI r13), sD (dB r14)]) [] [], 0, 0), (2, Or.none, 2, 1)] [5, 6, 7, 8] [0, 2] [] <| .ex fun r02 => .ex fun r15 => .exl fun r21 => .ex fun r31 => .ex fun r41 => .exl fun r51 => .ex fun r61 => .ex fun r71 => .exl fun r81 => .ex fun r91 => .ex fun r101 => .exl fun r112 => .ex fun r121 => .ex fun r131 => .exb fun r141 => .exb fun r16 => .drw 0 [(2, (Or.call (vA [sD (dI r02), sD (dI r15), sD (dL r21), sD (dI r31), sD (dI r41), sD (dL r51), sD (dI r61), sD (dI r71), sD (dL r81), sD (dI r91), sD (dI r101), sD (dL r112), sD (dI r121), sD (dI r131), sD (dB r141)]) [] [], 0, 0), []), (3, (Or.call (vD (dB r16)) [] [], 0, 0), [])] [5, 6, 7, 8, 21] [0, 1] [] <| .c2 (.r0 [4] <| .ret []) (.spl r (.ex fun r03 => .ex fun r17 => .exl fun r22 => .ex fun r32 => .ex fun r42 => .exl fun r52 => .ex fun r62 => .ex fun r72 => .exl fun r82 => .ex fun r92 => .ex fun r102 => .exl fun r113 => .ex fun r122 => .ex fun r132 => .exb fun r142 => .ex fun r04 => .ex fun r18 => .exl fun r23 => .ex fun r33 => .ex fun r43 => .exl fun r53 => .ex fun r63 => .ex fun r73 => .exl fun r83 => .ex fun r93 => .ex fun r103 => .exl fun r114 => .ex fun r123 => .ex fun r133 => .exb fun r143 => .ex fun r05 => .ex fun r19 => .exl fun r24 => .ex fun r34 => .ex fun r44 => .exl fun r54 => .ex fun r64 => .ex fun r74 => .exl fun r84 => .ex fun r94 => .ex fun r104 => .exl fun r115 => .ex fun r124 => .ex fun r134 => .exb fun r144 => .exb fun r20 => .ob (FnD prog 13 [vA [sD (dI r01), sD (dI r11), sD (dL r2), sD (dI r3), sD (dI r4), sD (dL r5), sD (dI r6), sD (dI r7), sD (dL r8), sD (dI r9), sD (dI r10), sD (dL r111), sD (dI r12), sD (dI r13), sD (dB r14)], vD (dI ((IntKind.i64.wrap n).tmod (60 : Int)))] (vA [sD (dI r03), sD (dI r17), sD (dL r22), sD (dI r32), sD (dI r42), sD (dL r52), sD (dI r62), sD (dI r72), sD (dL r82), sD (dI r92), sD (dI r102), sD (dL r113), sD (dI r122), sD (dI r132), sD (dB r142)]) []) <| .ob (FnD prog 12 [vA [sD (dI r0), sD (dI r1), sD (dL (matD rrows))]] (vA [sD (dI r04), sD (dI r18), sD (dL r23), sD (dI r33), sD (dI r43), sD (dL r53), sD (dI r63), sD (dI r73), sD (dL r83), sD (dI r93), sD (dI r103), sD (dL r114), sD (dI r123), sD (dI r133), sD (dB r143)]) []) <| .ob (FnD prog 14 [vA [sD (dI r04), sD (dI r18), sD (dL r23), sD (dI r33), sD (dI r43), sD (dL r53), sD (dI r63), sD (dI r73), sD (dL r83), sD (dI r93), sD (dI r103), sD (dL r114), sD (dI r123), sD (dI r133), sD (dB r143)], vD (dI ((IntKind.i64.wrap n).tmod (60 : Int)))] (vA [sD (dI r05), sD (dI r19), sD (dL r24), sD (dI r34), sD (dI r44), sD (dL r54), sD (dI r64), sD (dI r74), sD (dL r84), sD (dI r94), sD (dI r104), sD (dL r115), sD (dI r124), sD (dI r134), sD (dB r144)]) []) <| .ob (FnD prog 11 [vA [sD (dI r03), sD (dI r17), sD (dL r22), sD (dI r32), sD (dI r42), sD (dL r52), sD (dI r62), sD (dI r72), sD (dL r82), sD (dI r92), sD (dI r102), sD (dL r113), sD (dI r122), sD (dI r132), sD (dB r142)], vA [sD (dI r05), sD (dI r19), sD (dL r24), sD (dI r34), sD (dI r44), sD (dL r54), sD (dI r64), sD (dI r74), sD (dL r84), sD (dI r94), sD (dI r104), sD (dL r115), sD (dI r124), sD (dI r134), sD (dB r144)]] (vD (dB r20)) []) <| .spl r20 (.ex fun r25 => .ex fun r26 => .drw 0 [(1, (Or.bool true, 0, 0), []), (4, (Or.call (vA [sD (dI r03), sD (dI r17), sD (dL r22), sD (dI r32), sD (dI r42), sD (dL r52), sD (dI r62), sD (dI r72), sD (dL r82), sD (dI r92), sD (dI r102), sD (dL r113), sD (dI r122), sD (dI r132), sD (dB r142)]) [] [], 0, 0), []), (6, (Or.call (vA [sD (dI r04), sD (dI r18), sD (dL r23), sD (dI r33), sD (dI r43), sD (dL r53), sD (dI r63), sD (dI r73), sD (dL r83), sD (dI r93), sD (dI r103), sD (dL r114), sD (dI r123), sD (dI r133), sD (dB r143)]) [] [], 0, 0), []), (8, (Or.call (vA [sD (dI r05), sD (dI r19), sD (dL r24), sD (dI r34), sD (dI r44), sD (dL r54), sD (dI r64), sD (dI r74), sD (dL r84), sD (dI r94), sD (dI r104), sD (dL r115), sD (dI r124), sD (dI r134), sD (dB r144)]) [] [], 0, 0), []), (9, (Or.call (vD (dB r20)) [] [], 0, 0), []), (11, (Or.bool true, 0, 0), []), (13, (Or.call (vD (dI r25)) [] [], 0, 0), []), (15, (Or.call (vD (dI r26)) [] [], 0, 0), [])] [4] [] [.old 5, .old 4, .old 3, .old 2, .old 1, .old 0] <| .ret []) (.drw 0 [(1, (Or.bool true, 0, 0), []), (4, (Or.call (vA [sD (dI r03), sD (dI r17), sD (dL r22), sD (dI r32), sD (dI r42), sD (dL r52), sD (dI r62), sD (dI r72), sD (dL r82), sD (dI r92), sD (dI r102), sD (dL r113), sD (dI r122), sD (dI r132), sD (dB r142)]) [] [], 0, 0), []), (6, (Or.call (vA [sD (dI r04), sD (dI r18), sD (dL r23), sD (dI r33), sD (dI r43), sD (dL r53), sD (dI r63), sD (dI r73), sD (dL r83), sD (dI r93), sD (dI r103), sD (dL r114), sD (dI r123), sD (dI r133), sD (dB r143)]) [] [], 0, 0), []), (8, (Or.call (vA [sD (dI r05), sD (dI r19), sD (dL r24), sD (dI r34), sD (dI r44), sD (dL r54), sD (dI r64), sD (dI r74), sD (dL r84), sD (dI r94), sD (dI r104), sD (dL r115), sD (dI r124), sD (dI r134), sD (dB r144)]) [] [], 0, 0), []), (9, (Or.call (vD (dB r20)) [] [], 0, 0), []), (11, (Or.bool false, 0, 0), [])] [4] [] [.old 5, .old 4, .old 3, .old 2, .old 1, .old 0] <| .ret [])) (.drw 0 [(1, (Or.bool false, 0, 0), [])] [4] [] [.old 0] <| .ret [])))
    (by kernel_rfl) (by kernel_rfl) (by kernel_rfl) h
end Go.AM
/- The law of steps against the reference; the fixed examples. -/
namespace Go.AM
open Go.Proofs.Tryz
theorem pxs {r c L : Nat} {A : List (List Int)} (hm : Mx r c A) (km : BdM 9 A) (big : (9 * qB r 9 c) * (9 * qB r 9 c) * 4294967296 < 4294967296 ^ L) (hL : L ≤ 1073741824) (hr : r ≤ 4) (hc : c ≤ 4) : PSx r c 9 L A :=
  ⟨hm, km, by decide, big, hL, by omega, by omega⟩
theorem pxs_small {r c : Nat} {A : List (List Int)} (hm : Mx r c A) (km : BdM 9 A) (hr : r ≤ 4) (hc : c ≤ 4) : PSx r c 9 1000 A := by
  refine pxs hm km ?_ (by decide) hr hc
  have h : ∀ r, r ≤ 4 → ∀ c, c ≤ 4 → (9 * qB r 9 c) * (9 * qB r 9 c) * 4294967296 < 4294967296 ^ 1000 := by decide +kernel
  exact h r hr c hc
theorem eS_eq {r c : Nat} {A : List (List Int)} {s : PS} {m u v : List (List Int)} {t k : Nat} {b : Bool}
    (h : apL r c s.d A = m ∧ apL r r s.d (idM r) = u ∧ apCL r s.d (idM r) = v ∧ s.t = t ∧ s.k = k ∧ s.fin r c = b) : eS r c A s = eP r c A m u v t k b := by
  obtain ⟨rfl, rfl, rfl, rfl, rfl, rfl⟩ := h
  rfl
theorem vx_of {r c K : Nat} {A m u v : List (List Int)} (h : (decide (A.length = r) && A.all (fun x => decide (x.length = c)) && (decide (m.length = r) && m.all (fun x => decide (x.length = c))) && (decide (u.length = r) && u.all (fun x => decide (x.length = r))) && (decide (v.length = r) && v.all (fun x => decide (x.length = r))) &&
    (A.all fun x => x.all fun z => decide (z.natAbs ≤ K)) && (m.all fun x => x.all fun z => decide (z.natAbs ≤ K)) && (u.all fun x => x.all fun z => decide (z.natAbs ≤ K)) && (v.all fun x => x.all fun z => decide (z.natAbs ≤ K))) = true) (hK : K ≤ 9) (hr : r ≤ 4) (hc : c ≤ 4) : VX r c K A m u v := by
  simp only [Bool.and_eq_true, decide_eq_true_eq, List.all_eq_true] at h
  obtain ⟨⟨⟨⟨⟨⟨⟨⟨a1, a2⟩, b1, b2⟩, c1, c2⟩, d1, d2⟩, e1⟩, e2⟩, e3⟩, e4⟩ := h
  refine ⟨⟨a1, a2⟩, ⟨b1, b2⟩, ⟨c1, c2⟩, ⟨d1, d2⟩, e1, e2, e3, e4, fun y hy => sz_of (Nat.le_trans hy ?_), by omega, by omega⟩
  exact Nat.le_trans (Nat.mul_le_mul_left _ (Nat.mul_le_mul hK hK)) (by decide)
theorem presult_no {r c : Nat} {A m u v : List (List Int)} {t k : Nat} {b : Bool} (h : finB r c t k = false) :
    FnD prog 20 [eP r c A m u v t k b] (V.tup [(E.agg [(sD (dI (0 : Int))), (sD (dI (0 : Int))), (sD (dL ([] : List (List D)))), (sD (dI (0 : Int))), (sD (dI (0 : Int))), (sD (dL ([] : List (List D)))), (sD (dI (0 : Int))), (sD (dI (0 : Int))), (sD (dL ([] : List (List D))))]), (eD (dI (210 : Int)))]) [] := by
  refine vc20_ok _ _ _ _ _ _ _ _ _ _ _ _ _ _ _ (R := Out _) ?_
  unfold vc20
  have := fin_ok (r := r) (c := c) (A := A) (m := m) (u := u) (v := v) (t := t) (k := k) (b := b)
  rw [h] at this
  exact ⟨_, this, fun _ => ⟨rfl, rfl⟩, fun h => absurd h (by decide)⟩
theorem presult_yes {r c : Nat} {A m u v : List (List Int)} {t k : Nat} {b : Bool} (h : finB r c t k = true) :
    FnD prog 20 [eP r c A m u v t k b] (V.tup [(E.agg [(sD (dI r)), (sD (dI c)), (sD (dL (rows m))), (sD (dI r)), (sD (dI r)), (sD (dL (rows u))), (sD (dI r)), (sD (dI r)), (sD (dL (rows v)))]), (eD (dI (0 : Int)))]) [] := by
  refine vc20_ok _ _ _ _ _ _ _ _ _ _ _ _ _ _ _ (R := Out _) ?_
  unfold vc20
  have := fin_ok (r := r) (c := c) (A := A) (m := m) (u := u) (v := v) (t := t) (k := k) (b := b)
  rw [h] at this
  exact ⟨_, this, fun h => absurd h (by decide), fun _ => ⟨rfl, rfl⟩⟩
def A46 : List (List Int) := [[4], [6]]
theorem sanity21_ok : FnD prog 8 [] (vb true) [] := by
  refine vc8_ok (R := Out _) ?_
  unfold vc8
  have hA : Mx 2 1 A46 := ⟨by decide, by decide⟩
  have kA : BdM 9 A46 := by unfold BdM BdR; decide
  have X : PSx 2 1 9 1000 A46 := pxs_small hA kA (by decide) (by decide)
  have i0 := PInv.start hA kA
  have e0 : eS 2 1 A46 ⟨[], 0, 0⟩ = eP 2 1 [[4], [6]] [[4], [6]] [[1, 0], [0, 1]] [[1, 0], [0, 1]] 0 0 false := eS_eq (by decide +kernel)
  have e1 : eS 2 1 A46 (PS.run 2 1 A46 1 ⟨[], 0, 0⟩) = eP 2 1 [[4], [6]] [[4], [2]] [[1, 0], [-1, 1]] [[1, 0], [1, 1]] 0 0 false := eS_eq (by decide +kernel)
  have e2 : eS 2 1 A46 (PS.run 2 1 A46 1 (PS.run 2 1 A46 1 ⟨[], 0, 0⟩)) = eP 2 1 [[4], [6]] [[2], [4]] [[-1, 1], [1, 0]] [[0, 1], [1, 1]] 0 0 false := eS_eq (by decide +kernel)
  have e3 : eS 2 1 A46 (PS.run 2 1 A46 100 (PS.run 2 1 A46 1 (PS.run 2 1 A46 1 ⟨[], 0, 0⟩))) = eP 2 1 [[4], [6]] [[2], [0]] [[-1, 1], [3, -2]] [[2, 1], [3, 1]] 1 1 true := eS_eq (by decide +kernel)
  have i1 := PInv.run hA kA 1 i0
  have i2 := PInv.run hA kA 1 i1
  have s1 := pstep_ok X i0 (n0 := 1) (by decide)
  have s2 := pstep_ok X i1 (n0 := 1) (by decide)
  have s3 := pstep_ok X i2 (n0 := 100) (by decide)
  rw [show (1 : Int).toNat = 1 from rfl, e0, e1] at s1
  rw [show (1 : Int).toNat = 1 from rfl, e1, e2] at s2
  rw [show (100 : Int).toNat = 100 from rfl, e2, e3] at s3
  have p0 := pstart_ok X
  have q0 := rstart_ok X
  rw [e0] at p0 q0
  have hZ : Mx 0 3 [] := ⟨rfl, fun _ h => by simp at h⟩
  have kZ : BdM 9 [] := fun _ h => by simp at h
  have z0 := pstart_ok (pxs_small hZ kZ (by decide) (by decide))
  have eZ : eS 0 3 [] ⟨[], 0, 0⟩ = eP 0 3 [] [] [] [] 0 0 true := eS_eq (by decide +kernel)
  rw [eZ] at z0
  have V0 : VX 2 1 9 [[4], [6]] [[4], [6]] [[1, 0], [0, 1]] [[1, 0], [0, 1]] := vx_of (by decide +kernel) (by decide) (by decide) (by decide)
  have V2 : VX 2 1 9 [[4], [6]] [[2], [4]] [[-1, 1], [1, 0]] [[0, 1], [1, 1]] := vx_of (by decide +kernel) (by decide) (by decide) (by decide)
  have V3 : VX 2 1 9 [[4], [6]] [[2], [0]] [[-1, 1], [3, -2]] [[2, 1], [3, 1]] := vx_of (by decide +kernel) (by decide) (by decide) (by decide)
  have VZ : VX 0 0 9 [] [] [] [] := vx_of (by decide +kernel) (by decide) (by decide) (by decide)
  have sz : ∀ {m : List (List Int)}, BdM 9 m → SzM m := fun h => h.sz (by decide)
  have d0 := psame_ok (t := 0) (k := 0) (b := false) V0.hA V0.hm V0.hu V0.hv (sz V0.kA) (sz V0.km) (sz V0.ku) (sz V0.kv) (by decide) (by decide)
  have ints : ∀ {v : List Int} {m : List (List Int)}, table 2 1 (fillF 1 v) = m → (∀ z ∈ v, -9223372036854775808 ≤ z ∧ z ≤ 9223372036854775807) → FnD prog 26 [vi 2, vi 1, vs (ints v)] (eM 2 1 m) [] := fun h hv => FnD.frz (h ▸ rints_ok (r := 2) (c := 1) (by decide) (by decide) hv)
  have intso : FnD prog 26 [vi 2, vi 1, vs (Go.AM.ints [4, 6])] (eMo 2 1) (oM [[4], [6]]) := (show table 2 1 (fillF 1 [4, 6]) = [[4], [6]] by decide +kernel) ▸ rints_ok (r := 2) (c := 1) (by decide) (by decide) (by decide)
  have same : ∀ {m : List (List Int)}, Mx 2 1 m → BdM 9 m → FnD prog 22 [eM 2 1 m, eM 2 1 m] (vb true) [] := fun h k => same_yes h k k rfl (by decide) (by decide) (by decide)
  have ck := rcheck_ok V3
  rw [show (isHB 2 1 [[2], [0]] && (decide (mmul 2 2 1 [[-1, 1], [3, -2]] [[4], [6]] = [[2], [0]]) && decide (mmul 2 2 2 [[-1, 1], [3, -2]] [[2, 1], [3, 1]] = idM 2))) = true by decide +kernel] at ck
  have cost : FnD prog 15 [eM 2 1 A46] (vi (4 : Nat)) [] := pcost_ok X (T := 4) ⟨by decide +kernel, by decide +kernel⟩ (by decide)
  have hO : Mx 1 0 [[]] := ⟨by decide, by decide⟩
  have kO : BdM 9 [[]] := by unfold BdM BdR; decide
  have cost0 : FnD prog 15 [eM 1 0 [[]]] (vi (0 : Nat)) [] := pcost_ok (pxs_small hO kO (by decide) (by decide)) (T := 0) ⟨by decide +kernel, by decide +kernel⟩ (by decide)
  have w2 := pvalid_ok V2 0 0 false
  rw [show validI 2 1 [[4], [6]] [[2], [4]] [[-1, 1], [1, 0]] [[0, 1], [1, 1]] 0 0 false = true by decide +kernel] at w2
  have wa := pvalid_ok VZ 1 0 false
  rw [show validI 0 0 [] [] [] [] 1 0 false = false by decide +kernel] at wa
  have wb := pvalid_ok VZ 0 0 false
  rw [show validI 0 0 [] [] [] [] 0 0 false = false by decide +kernel] at wb
  have n1 : FnD prog 26 [vi 2, vi 1, vs (Go.AM.ints [4, 2])] (eM 2 1 [[4], [2]]) [] := ints (by decide +kernel) (by decide)
  have n2 : FnD prog 26 [vi 2, vi 1, vs (Go.AM.ints [2, 4])] (eM 2 1 [[2], [4]]) [] := ints (by decide +kernel) (by decide)
  have n3 : FnD prog 26 [vi 2, vi 1, vs (Go.AM.ints [2, 0])] (eM 2 1 [[2], [0]]) [] := ints (by decide +kernel) (by decide)
  exact ⟨intso, p0, s1, s2, s3, presult_no (by decide), presult_yes (by decide), z0, q0, d0, n1, same ⟨by decide, by decide⟩ (by unfold BdM BdR; decide),
    n2, same ⟨by decide, by decide⟩ (by unfold BdM BdR; decide), n3, same ⟨by decide, by decide⟩ (by unfold BdM BdR; decide), ck, cost, cost0, w2, wa, wb, rfl, rfl⟩
theorem stepMatches_ok (x0 : Int) (g0 : IntKind.u8.min ≤ x0 ∧ x0 ≤ IntKind.u8.max) (x1 : Int) (g1 : IntKind.u8.min ≤ x1 ∧ x1 ≤ IntKind.u8.max) (l2 : List (List D)) (g2 : l2.length ≤ 9223372036854775807 ∧ ∀ x ∈ l2, DOKL [.i .i8] x)
    (n : Int) (gn : IntKind.i8.min ≤ n ∧ n ≤ IntKind.i8.max) :
    FnD prog 3 [.e (.agg [.dat (.int .u8 x0), .dat (.int .u8 x1), .dat (.sl l2)]), .e (.sc (.dat (.int .i8 n)))] (vb true) [] := by
  obtain ⟨v, rfl, _⟩ := i8s_of g2
  obtain ⟨r, c, hr, hc, hA⟩ := rawmade_ok v g0.1 g1.1
  obtain ⟨a, ea⟩ : ∃ a, a = table r c (fillG c v) := ⟨_, rfl⟩
  have ma : Mx r c a := ea ▸ table_mx _ _ _
  have ka : BdM 9 a := ea ▸ filled_bd
  rw [← ea] at hA
  clear ea
  have n1 : -128 ≤ n := gn.1
  have n2 : n ≤ 127 := gn.2
  have X := pxs_small ma ka hr hc
  have i0 := PInv.start ma ka
  obtain ⟨q, hq⟩ : ∃ q, q = (IntKind.i64.wrap n).tmod 60 := ⟨_, rfl⟩
  have hq2 : q ≤ 4611686018427387904 := by
    rw [hq, w64 (by omega) (by omega)]
    have := Int.tmod_lt_of_pos n (b := 60) (by decide)
    omega
  have ps := pstep_ok X i0 hq2
  have rs := rstep_ok X i0 hq2
  have i1 := PInv.run ma ka q.toNat i0
  obtain ⟨T0, hT0, hfin⟩ := ends_small ma (ka.mono (by decide)) hr hc
  obtain ⟨T, hT, t1, t2⟩ := least_nat (p := fun n => (PS.run r c a n ⟨[], 0, 0⟩).fin r c) T0 hfin
  have hcost : IsCost r c a T := ⟨t1, t2⟩
  have same : ∀ {s : PS}, PInv r c 9 a s → FnD prog 11 [eS r c a s, eS r c a s] (vb true) [] := fun {s} hs => by
    obtain ⟨b1, b2, b3⟩ := X.bds hs
    have szm : ∀ {m : List (List Int)}, BdM (9 * qB r 9 c) m → SzM m := fun h x hx z hz => X.sz (h x hx z hz)
    exact psame_ok ma (apL_mx _ ma) (apL_mx _ (table_mx _ _ _)) (apCL_mx _ (table_mx _ _ _)) (ka.sz (by decide)) (szm b1) (szm b2) (szm b3) (by omega) (by omega)
  refine vc3_ok _ _ _ _ (R := Out _) ?_
  unfold vc3
  rw [← hq]
  have p0 : FnD prog 10 [vA [sD (dI r), sD (dI c), sD (dL (matD (om a)))]] (eS r c a ⟨[], 0, 0⟩) [] := by rw [matD_om]; exact pstart_ok X
  have r0 : FnD prog 12 [vA [sD (dI r), sD (dI c), sD (dL (matD (om a)))]] (eS r c a ⟨[], 0, 0⟩) [] := by rw [matD_om]; exact rstart_ok X
  have pc : FnD prog 15 [vA [sD (dI r), sD (dI c), sD (dL (matD (om a)))]] (vi T) [] := by rw [matD_om]; exact pcost_ok X hcost (by omega)
  have rc : FnD prog 16 [vA [sD (dI r), sD (dI c), sD (dL (matD (om a)))]] (vi T) [] := by rw [matD_om]; exact rcost_ok X hcost (by omega)
  refine ⟨_, sanity21_ok, _, _, _, hA, by decide, _, _, _, _, _, _, _, _, _, _, _, _, _, _, _, p0, _, _, _, _, _, _, _, _, _, _, _, _, _, _, _, _, r0, same i0, fun h => absurd h (by decide), fun _ => ⟨fun _ => ?_, fun h => absurd h (by decide)⟩⟩
  exact ⟨_, _, _, _, _, _, _, _, _, _, _, _, _, _, _, _, _, _, _, _, _, _, _, _, _, _, _, _, _, _, _, _, _, _, _, _, _, _, _, _, _, _, _, _, _, _, ps, r0, rs, same i1, fun _ => ⟨_, _, pc, rc, outb (by simp)⟩, fun h => absurd h (by decide)⟩
end Go.AM
