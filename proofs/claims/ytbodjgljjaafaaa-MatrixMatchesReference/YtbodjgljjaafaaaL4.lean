/- The law of the ring of matrices. -/
import Derived.Test.YtbodjgljjaafaaaL3
namespace Go.AM
open Go.Proofs.Try

/-- 'Three' opened: bytes in lists. -/
theorem i8s_of {l : List (List D)} (h : l.length ≤ 9223372036854775807 ∧ ∀ x ∈ l, DOKL [.i .i8] x) : ∃ zs : List Int, l = i8s zs ∧ ∀ z ∈ zs, -128 ≤ z ∧ z ≤ 127 := by
  obtain ⟨zs, h1, h2⟩ := ints_of h.2
  exact ⟨zs, h1, h2⟩

abbrev BIG : Nat := 1329227995784915872903807060280344576

theorem ring_ok (x0 : Int) (g0 : IntKind.u8.min ≤ x0 ∧ x0 ≤ IntKind.u8.max) (x1 : Int) (g1 : IntKind.u8.min ≤ x1 ∧ x1 ≤ IntKind.u8.max) (x2 : Int) (g2 : IntKind.u8.min ≤ x2 ∧ x2 ≤ IntKind.u8.max) (x3 : Int) (g3 : IntKind.u8.min ≤ x3 ∧ x3 ≤ IntKind.u8.max)
    (l4 : List (List D)) (g4 : l4.length ≤ 9223372036854775807 ∧ ∀ x ∈ l4, DOKL [.i .i8] x) (l5 : List (List D)) (g5 : l5.length ≤ 9223372036854775807 ∧ ∀ x ∈ l5, DOKL [.i .i8] x) (l6 : List (List D)) (g6 : l6.length ≤ 9223372036854775807 ∧ ∀ x ∈ l6, DOKL [.i .i8] x)
    (l7 : List (List D)) (g7 : l7.length ≤ 9223372036854775807 ∧ ∀ x ∈ l7, DOKL [.i .i8] x) :
    FnD prog 11 [.e (.agg [.dat (.int .u8 x0), .dat (.int .u8 x1), .dat (.int .u8 x2), .dat (.int .u8 x3), .dat (.sl l4), .dat (.sl l5), .dat (.sl l6)]), .e (.sc (.dat (.sl l7)))] (vb true) [] := by
  obtain ⟨a, rfl, _⟩ := i8s_of g4
  obtain ⟨b, rfl, _⟩ := i8s_of g5
  obtain ⟨c, rfl, _⟩ := i8s_of g6
  obtain ⟨d, rfl, _⟩ := i8s_of g7
  obtain ⟨n0, n1, n2, n3, b0, b1, b2, b3, hchain⟩ := chain_ok a b c g0.1 g1.1 g2.1 g3.1
  obtain ⟨A, hA⟩ : ∃ A, A = table n0 n1 (fillG n1 a) := ⟨_, rfl⟩
  obtain ⟨B, hB⟩ : ∃ B, B = table n1 n2 (fillG n2 b) := ⟨_, rfl⟩
  obtain ⟨C, hC⟩ : ∃ C, C = table n2 n3 (fillG n3 c) := ⟨_, rfl⟩
  obtain ⟨B2, hB2⟩ : ∃ B2, B2 = table n1 n2 (fillG n2 d) := ⟨_, rfl⟩
  have mA : Mx n0 n1 A := hA ▸ table_mx _ _ _
  have mB : Mx n1 n2 B := hB ▸ table_mx _ _ _
  have mC : Mx n2 n3 C := hC ▸ table_mx _ _ _
  have mB2 : Mx n1 n2 B2 := hB2 ▸ table_mx _ _ _
  have kA : BdM 9 A := hA ▸ filled_bd
  have kB : BdM 9 B := hB ▸ filled_bd
  have kC : BdM 9 C := hC ▸ filled_bd
  have kB2 : BdM 9 B2 := hB2 ▸ filled_bd
  have hfill := filled_ok (r := n1) (c := n2) (v := d) (by omega) (by omega)
  rw [← hA, ← hB, ← hC] at hchain
  rw [← hB2] at hfill
  clear hA hB hC hB2
  have big : ∀ K : Nat, K ≤ 1000000 → K ≤ BIG := fun K h => by unfold BIG; omega
  have mAB := mmul_mx n0 n1 n2 A B
  have kAB : BdM 1000 (mmul n0 n1 n2 A B) := (mmul_bd mA mB kA kB).mono (by omega)
  have mBC := mmul_mx n1 n2 n3 B C
  have kBC : BdM 1000 (mmul n1 n2 n3 B C) := (mmul_bd mB mC kB kC).mono (by omega)
  have mS := mcomb_mx n1 n2 (· + ·) B B2
  have kS : BdM 1000 (mcomb n1 n2 (· + ·) B B2) := (mcomb_bd mB mB2 kB kB2).1.mono (by omega)
  have mO := mmul_mx n0 n1 n2 A B2
  have kO : BdM 1000 (mmul n0 n1 n2 A B2) := (mmul_bd mA mB2 kA kB2).mono (by omega)
  have mI : Mx n1 n1 (table n1 n1 delta) := table_mx _ _ _
  have kI := (ident_bd n1).mono (L := 1000) (by omega)
  have up : ∀ {m : List (List Int)}, BdM 9 m → BdM 1000 m := fun h => h.mono (by omega)
  refine vc11_ok _ _ _ _ _ _ _ _ (R := Out _) ?_
  unfold vc11
  refine ⟨true, sanity_ok, _, _, _, _, _, _, _, _, _, hchain, _, _, _, hfill, ?_⟩
  simp only [matD_om]
  refine ⟨_, _, _, _, mmul_ok mA mB kA kB (by omega) (by omega) (by omega) (by omega), _, _, _, _, mmul_ok mB mC kB kC (by omega) (by omega) (by omega) (by omega), _, _, _, _, madd_ok mB mB2 kB kB2 (by omega) (by omega) (by omega),
    _, _, _, _, madd_ok mB2 mB kB2 kB (by omega) (by omega) (by omega), fun h => absurd h (by decide), fun _ => ⟨fun h => absurd h (by decide), fun _ => ⟨fun h => absurd h (by decide), fun _ => ⟨fun h => absurd h (by decide), fun _ => ?_⟩⟩⟩⟩
  refine ⟨true, sized_yes mAB kAB (by omega) (by omega) (big _ (by omega)), fun h => absurd h (by decide), fun _ => ?_⟩
  refine ⟨true, sized_yes mBC kBC (by omega) (by omega) (big _ (by omega)), fun h => absurd h (by decide), fun _ => ?_⟩
  refine ⟨true, sized_yes mS kS (by omega) (by omega) (big _ (by omega)), fun h => absurd h (by decide), fun _ => ?_⟩
  refine ⟨_, _, _, _, mmul_ok mAB mC kAB (up kC) (by omega) (by omega) (by omega) (by omega), _, _, _, _, mmul_ok mA mBC (up kA) kBC (by omega) (by omega) (by omega) (by omega), _, _, _, _, mmul_ok mA mS (up kA) kS (by omega) (by omega) (by omega) (by omega),
    _, _, _, _, mmul_ok mA mB2 kA kB2 (by omega) (by omega) (by omega) (by omega), fun h => absurd h (by decide), fun _ => ⟨fun h => absurd h (by decide), fun _ => ⟨fun h => absurd h (by decide), fun _ => ⟨fun h => absurd h (by decide), fun _ => ?_⟩⟩⟩⟩
  refine ⟨true, sized_yes mO kO (by omega) (by omega) (big _ (by omega)), fun h => absurd h (by decide), fun _ => ?_⟩
  refine ⟨_, _, _, _, madd_ok mAB mO kAB kO (by omega) (by omega) (by omega), _, _, _, _, _, _, _, mident_ok (by omega), mmul_ok mA mI (up kA) kI (by omega) (by omega) (by omega) (by omega), _, _, _, _, msub_ok mS mB2 kS (up kB2) (by omega) (by omega) (by omega),
    fun _ => ⟨fun _ => ⟨fun _ => ?_, fun h => absurd h (by decide)⟩, fun h => absurd h (by decide)⟩, fun h => absurd h (by decide)⟩
  have kL := mmul_bd mAB mC kAB (up kC)
  have kR := mmul_bd mA mBC (up kA) kBC
  have kP := (mcomb_bd mAB mO kAB kO).1
  have kQ := mmul_bd mA mS (up kA) kS
  have L : ∀ n, n ≤ 4 → n * (1000 * 1000) ≤ 4000000 := fun n h => by omega
  refine ⟨true, same_yes (K := 4000000) (mmul_mx _ _ _ _ _) (kL.mono (L _ b2)) (kR.mono (L _ b1)) (mmul_assoc A B C) (by omega) (by omega) (by omega), fun _ => ?_, fun h => nomatch h⟩
  refine ⟨true, same_yes (K := 4000000) (mmul_mx _ _ _ _ _) (kQ.mono (L _ b1)) (kP.mono (by omega)) (mmul_add_right A B B2) (by omega) (by omega) (by omega), fun _ => ?_, fun h => nomatch h⟩
  refine ⟨true, same_yes (K := 1000) mS kS (mcomb_comm n1 n2 B B2 ▸ kS) (mcomb_comm n1 n2 B B2) (by omega) (by omega) (by omega), fun _ => ?_, fun h => nomatch h⟩
  refine ⟨true, same_yes (K := 1000) (mmul_mx _ _ _ _ _) ((mmul_ident mA).symm ▸ up kA) (up kA) (mmul_ident mA) (by omega) (by omega) (by omega), fun _ => ?_, fun h => nomatch h⟩
  refine ⟨true, same_yes (K := 1000) (mcomb_mx _ _ _ _ _) ((mcomb_sub mB).symm ▸ up kB) (up kB) (mcomb_sub mB) (by omega) (by omega) (by omega), fun _ => ⟨rfl, rfl⟩, fun h => nomatch h⟩

end Go.AM

/- What the functions of package matrix, and of its reference, answer: comparing, picking, blocks of the reference. -/
namespace Go.AM
open Go.Proofs.Try

theorem m5transpose_ok {r c : Nat} {a : List (List Int)} (ha : Mx r c a) (hr : r ≤ 4294967296) (hc : c ≤ 4294967296) :
    FnD prog 39 [eM r c a] (eM c r (trM r c a)) [] := by
  refine vc39_ok _ _ _ (R := Out _) ?_
  unfold vc39
  obtain ⟨g, hg⟩ : ∃ g : Nat → Nat → Nat → Nat → Int, g = fun i j p q => if q < i ∨ (q = i ∧ p < j) then el a q p else 0 := ⟨_, rfl⟩
  refine ⟨_, _, _, rnew_ok hc hr, fun o t => ∃ i : Nat, t = (i : Int) ∧ i ≤ r ∧ o = om (table c r (g i 0)), fun _ t => ((r : Int) - t).toNat, ⟨0, rfl, by omega, ?_⟩, ?_⟩
  · congr 1; exact table_congr fun p q _ _ => by subst hg; simp
  rintro _ _ ⟨i, rfl, hi, rfl⟩
  refine ⟨fun h => ?_, fun h => ?_⟩
  · have hir : i < r := by simpa using h
    refine ⟨fun o t => ∃ j : Nat, t = (j : Int) ∧ j ≤ c ∧ o = om (table c r (g i j)), fun _ t => ((c : Int) - t).toNat, ⟨0, rfl, by omega, rfl⟩, ?_⟩
    rintro _ _ ⟨j, rfl, hj, rfl⟩
    refine ⟨fun h2 => ?_, fun h2 => ?_⟩
    · have hjc : j < c := by simpa using h2
      obtain ⟨e1, e2, e3, e4⟩ := read_el ha hir hjc
      refine ⟨_, _, _, ⟨by omega, by rw [om_len]; omega⟩, ⟨by omega, e4⟩, e1, ⟨by omega, e3⟩, e2, om_in hjc hir, ?_⟩
      rw [inc64 (by omega)]
      refine ⟨⟨j + 1, rfl, by omega, ?_⟩, by show ((c : Int) - ((j + 1 : Nat) : Int)).toNat < ((c : Int) - (j : Int)).toNat; omega⟩
      rw [Int.toNat_natCast, Int.toNat_natCast]
      refine Eq.trans (om_set (z := el a i j) hjc hir) ?_
      congr 1
      refine table_congr fun p q _ _ => ?_
      subst hg
      by_cases h1 : p = j ∧ q = i
      · obtain ⟨rfl, rfl⟩ := h1
        rw [if_pos ⟨rfl, rfl⟩]; simp
      · rw [if_neg h1]
        by_cases h3 : q < i ∨ (q = i ∧ p < j)
        · simp only [if_pos h3]; rw [if_pos (by omega)]
        · simp only [if_neg h3]; rw [if_neg (by omega)]
    · have hjc : c ≤ j := by simpa using h2
      rw [inc64 (by omega)]
      refine ⟨⟨i + 1, rfl, by omega, ?_⟩, by show ((r : Int) - ((i + 1 : Nat) : Int)).toNat < ((r : Int) - (i : Int)).toNat; omega⟩
      congr 1
      refine table_congr fun p q hp _ => ?_
      subst hg
      by_cases h3 : q < i ∨ (q = i ∧ p < j)
      · simp only [if_pos h3]; rw [if_pos (by omega)]
      · simp only [if_neg h3]; rw [if_neg (by omega)]
  · have hir : i = r := by have : r ≤ i := by simpa using h
                           omega
    subst hir
    have e : om (table c i (g i 0)) = om (trM i c a) := by
      congr 1
      refine table_congr fun p q _ hq => ?_
      subst hg; simp only; rw [if_pos (.inl hq)]
    rw [e, matD_om]
    exact ⟨rfl, rfl⟩

theorem om_append (a b : List (List Int)) : om a ++ om b = om (a ++ b) := by simp [om]

theorem m5stack_ok {r s c K : Nat} {a b : List (List Int)} (ha : Mx r c a) (hb : Mx s c b) (ka : BdM K a) (kb : BdM K b) (hr : r ≤ 2147483648) (hs : s ≤ 2147483648) (hc : c ≤ 4294967296) (hK : K ≤ 1329227995784915872903807060280344576) :
    FnD prog 60 [eM r c a, eM s c b] (eME ((r + s : Nat) : Int) c (a ++ b) 0) [] := by
  refine vc60_ok _ _ _ _ _ _ (R := Out _) ?_
  unfold vc60
  have hw : IntKind.i64.wrap ((r : Int) + (s : Int)) = ((r + s : Nat) : Int) := by rw [w64 (by omega) (by omega)]; simp
  rw [hw]
  refine ⟨fun h => by simp at h, fun _ => ⟨_, _, _, m5copied_ok ha ka (by omega) hc hK, _, _, _, m5copied_ok hb kb (by omega) hc hK, ?_, outME ?_⟩⟩
  · rw [om_length, om_length, ha.1, hb.1]; omega
  · rw [om_append, matD_om]

theorem m5stack_bad {r c s c' : Int} {a b : List (List Int)} (h : c ≠ c') : FnD prog 60 [eM r c a, eM s c' b] (eME 0 0 [] 50) [] := by
  refine vc60_ok _ _ _ _ _ _ (R := Out _) ?_
  unfold vc60
  exact ⟨fun _ => ⟨rfl, rfl⟩, fun h2 => absurd (by simpa using h2) h⟩

theorem stack_bad {r c s c' : Int} {a b : List (List Int)} (h : c ≠ c') : FnD prog 25 [eM r c a, eM s c' b] (eME 0 0 [] 50) [] := by
  refine vc25_ok _ _ _ _ _ _ (R := Out _) ?_
  unfold vc25
  exact ⟨fun _ => ⟨rfl, rfl⟩, fun h2 => absurd (by simpa using h2) h⟩

theorem beside_bad {r c r' c' : Int} {a b : List (List Int)} (h : r ≠ r') : FnD prog 26 [eM r c a, eM r' c' b] (eME 0 0 [] 50) [] := by
  refine vc26_ok _ _ _ _ _ _ (R := Out _) ?_
  unfold vc26
  exact ⟨fun _ => ⟨rfl, rfl⟩, fun h2 => absurd (by simpa using h2) h⟩

theorem m5beside_bad {r c r' c' : Int} {a b : List (List Int)} (h : r ≠ r') : FnD prog 61 [eM r c a, eM r' c' b] (eME 0 0 [] 50) [] := by
  refine vc61_ok _ _ _ _ _ _ (R := Out _) ?_
  unfold vc61
  exact ⟨fun _ => ⟨rfl, rfl⟩, fun h2 => absurd (by simpa using h2) h⟩

theorem m5beside_ok {r c d : Nat} {a b : List (List Int)} (ha : Mx r c a) (hb : Mx r d b) (hr : r ≤ 2147483648) (hc : c ≤ 2147483648) (hd : d ≤ 2147483648) :
    FnD prog 61 [eM r c a, eM r d b] (eME r ((c + d : Nat) : Int) (table r (c + d) fun i j => if j < c then el a i j else el b i (j - c)) 0) [] := by
  refine vc61_ok _ _ _ _ _ _ (R := Out _) ?_
  unfold vc61
  obtain ⟨f, hf⟩ : ∃ f : Nat → Nat → Int, f = fun i j => if j < c then el a i j else el b i (j - c) := ⟨_, rfl⟩
  have hw : IntKind.i64.wrap ((c : Int) + (d : Int)) = ((c + d : Nat) : Int) := by rw [w64 (by omega) (by omega)]; simp
  rw [hw, ← hf]
  refine ⟨fun h => by simp at h, fun _ => ?_⟩
  refine ⟨_, _, _, rnew_ok (by omega) (by omega), fun o t => ∃ i : Nat, t = (i : Int) ∧ i ≤ r ∧ o = om (table r (c + d) (gF f i 0)), fun _ t => ((r : Int) - t).toNat, ⟨0, rfl, by omega, gF_zero f⟩, ?_⟩
  rintro _ _ ⟨i, rfl, hi, rfl⟩
  refine ⟨fun h => ?_, fun h => outME ?_⟩
  · have hir : i < r := by simpa using h
    refine ⟨fun o t => ∃ j : Nat, t = (j : Int) ∧ j ≤ c ∧ o = om (table r (c + d) (gF f i j)), fun _ t => ((c : Int) - t).toNat, ⟨0, rfl, by omega, rfl⟩, ?_⟩
    rintro _ _ ⟨j, rfl, hj, rfl⟩
    refine ⟨fun h2 => ?_, fun h2 => ?_⟩
    · have hjc : j < c := by simpa using h2
      obtain ⟨e1, e2, e3, e4⟩ := read_el ha hir hjc
      refine ⟨_, _, _, ⟨by omega, by rw [om_len]; omega⟩, ⟨by omega, e4⟩, e1, ⟨by omega, e3⟩, e2, om_in hir (by omega), ?_⟩
      rw [inc64 (by omega)]
      refine ⟨⟨j + 1, rfl, by omega, ?_⟩, by show ((c : Int) - ((j + 1 : Nat) : Int)).toNat < ((c : Int) - (j : Int)).toNat; omega⟩
      rw [Int.toNat_natCast, Int.toNat_natCast]
      have e : el a i j = f i j := by subst hf; simp only [if_pos hjc]
      have := gF_step (r := r) (c := c + d) (f := f) hir (j := j) (by omega)
      rw [← e] at this
      exact this
    · have hjc : j = c := by have : c ≤ j := by simpa using h2
                             omega
      subst hjc
      refine ⟨fun o t => ∃ k : Nat, t = (k : Int) ∧ k ≤ d ∧ o = om (table r (j + d) (gF f i (j + k))), fun _ t => ((d : Int) - t).toNat, ⟨0, rfl, by omega, rfl⟩, ?_⟩
      rintro _ _ ⟨k, rfl, hk, rfl⟩
      refine ⟨fun h3 => ?_, fun h3 => ?_⟩
      · have hkd : k < d := by simpa using h3
        obtain ⟨e1, e2, e3, e4⟩ := read_el hb hir hkd
        have hw3 : IntKind.i64.wrap ((j : Int) + (k : Int)) = ((j + k : Nat) : Int) := by rw [w64 (by omega) (by omega)]; simp
        rw [hw3]
        refine ⟨_, _, _, ⟨by omega, by rw [om_len]; omega⟩, ⟨by omega, e4⟩, e1, ⟨by omega, e3⟩, e2, om_in hir (by omega), ?_⟩
        rw [inc64 (by omega)]
        refine ⟨⟨k + 1, rfl, by omega, ?_⟩, by show ((d : Int) - ((k + 1 : Nat) : Int)).toNat < ((d : Int) - (k : Int)).toNat; omega⟩
        rw [Int.toNat_natCast, Int.toNat_natCast]
        have e : el b i k = f i (j + k) := by subst hf; simp only [if_neg (show ¬ j + k < j by omega), Nat.add_sub_cancel_left]
        have := gF_step (r := r) (c := j + d) (f := f) hir (j := j + k) (by omega)
        rw [← e] at this
        exact this
      · have hkd : k = d := by have : d ≤ k := by simpa using h3
                               omega
        subst hkd
        rw [inc64 (by omega)]
        exact ⟨⟨i + 1, rfl, by omega, gF_next fun b h1 h2 => by omega⟩, by show ((r : Int) - ((i + 1 : Nat) : Int)).toNat < ((r : Int) - (i : Int)).toNat; omega⟩
  · have hir : i = r := by have : r ≤ i := by simpa using h
                           omega
    subst hir
    rw [gF_all, matD_om]

/-! ### Comparing -/

theorem cmp_zero (x y : Int) : (cmpI x y == 0) = decide (x = y) := by
  unfold cmpI
  by_cases h1 : x < y
  · simp [h1]; omega
  · by_cases h2 : y < x
    · simp [h1, h2]; omega
    · simp [h1, h2]; omega

theorem same118_ok {x y : Int} (hx : Sz x) (hy : Sz y) : FnD prog 118 [eI x, eI y] (vb (decide (x = y))) [] := by
  refine vc118_ok _ _ _ _ (R := Out _) ?_
  unfold vc118
  exact ⟨_, cmp_ok hx hy, outb (cmp_zero x y)⟩

theorem eqRow_ok {a b : List Int} (ha : SzR a) (hb : SzR b) (hl : a.length ≤ 4294967296) : FnD prog 117 [vs (row a), vs (row b), .e (.sc (.dat (.fn (.func 118) ([] : List D))))] (vb (decide (a = b))) [] := by
  refine vc117_ok _ _ _ _ (R := Out _) ?_
  unfold vc117
  simp only [row_length]
  refine ⟨fun h => outb ?_, fun h => ?_⟩
  · have h : ¬ ((a.length : Int) = (b.length : Int)) := by simpa using h
    rw [eq_comm, decide_eq_false_iff_not]
    intro e; subst e; exact h rfl
  · have hlen : a.length = b.length := by
      have : (a.length : Int) = (b.length : Int) := by simpa using h
      omega
    refine ⟨fun t => ∃ i : Nat, t = (i : Int) ∧ i ≤ a.length ∧ ∀ k, k < i → elr a k = elr b k, fun t => ((a.length : Int) - t).toNat, ⟨0, rfl, by omega, fun k hk => by omega⟩, ?_⟩
    rintro _ ⟨i, rfl, hi, hinv⟩
    refine ⟨fun h2 => ?_, fun h2 => outb ?_⟩
    · have hia : i < a.length := by simpa using h2
      have hib : i < b.length := by omega
      refine ⟨_, _, ⟨by omega, by omega⟩, row_getN hia, _, _, ⟨by omega, by omega⟩, row_getN hib, decide (elr a i = elr b i), same118_ok (ha _ (elr_mem hia)) (hb _ (elr_mem hib)), fun h3 => outb ?_, fun h3 => ?_⟩
      · rw [eq_comm, decide_eq_false_iff_not]
        intro e; subst e; simp at h3
      · have he : elr a i = elr b i := by simpa using h3
        rw [inc64 (by omega)]
        refine ⟨⟨i + 1, rfl, by omega, fun k hk => ?_⟩, by show ((a.length : Int) - ((i + 1 : Nat) : Int)).toNat < ((a.length : Int) - (i : Int)).toNat; omega⟩
        by_cases hki : k = i
        · subst hki; exact he
        · exact hinv k (by omega)
    · have hia : i = a.length := by have : a.length ≤ i := by simpa using h2
                                    omega
      have : a = b := list_ext hlen fun k hk => hinv k (by omega)
      simp [this]

theorem eqRows_ok {a b : List (List Int)} (ha : SzM a) (hb : SzM b) (hl : a.length ≤ 4294967296) (hc : ∀ x ∈ a, x.length ≤ 4294967296) :
    FnD prog 115 [vs (rows a), vs (rows b), .e (.sc (.dat (.fn (.func 116) ([] : List D))))] (vb (decide (a = b))) [] := by
  refine vc115_ok _ _ _ _ (R := Out _) ?_
  unfold vc115
  simp only [rows_length]
  refine ⟨fun h => outb ?_, fun h => ?_⟩
  · have h : ¬ ((a.length : Int) = (b.length : Int)) := by simpa using h
    rw [eq_comm, decide_eq_false_iff_not]
    intro e; subst e; exact h rfl
  · have hlen : a.length = b.length := by
      have : (a.length : Int) = (b.length : Int) := by simpa using h
      omega
    refine ⟨fun t => ∃ i : Nat, t = (i : Int) ∧ i ≤ a.length ∧ ∀ k, k < i → a.getD k [] = b.getD k [], fun t => ((a.length : Int) - t).toNat, ⟨0, rfl, by omega, fun k hk => by omega⟩, ?_⟩
    rintro _ ⟨i, rfl, hi, hinv⟩
    refine ⟨fun h4 => ?_, fun h4 => outb ?_⟩
    · have hia : i < a.length := by simpa using h4
      have hib : i < b.length := by omega
      have e116 : FnD prog 116 [vs (row (a.getD i [])), vs (row (b.getD i []))] (vb (decide (a.getD i [] = b.getD i []))) [] := by
        refine vc116_ok _ _ (R := Out _) ?_
        unfold vc116
        exact ⟨_, eqRow_ok (ha _ (getD_mem hia)) (hb _ (getD_mem hib)) (hc _ (getD_mem hia)), rfl, rfl⟩
      refine ⟨_, ⟨by omega, by omega⟩, rows_getN hia, _, ⟨by omega, by omega⟩, rows_getN hib, decide (a.getD i [] = b.getD i []), e116, fun h5 => outb ?_, fun h5 => ?_⟩
      · rw [eq_comm, decide_eq_false_iff_not]
        rintro e; subst e; simp at h5
      · have he : a.getD i [] = b.getD i [] := by simpa using h5
        rw [inc64 (by omega)]
        refine ⟨⟨i + 1, rfl, by omega, fun k hk => ?_⟩, by show ((a.length : Int) - ((i + 1 : Nat) : Int)).toNat < ((a.length : Int) - (i : Int)).toNat; omega⟩
        by_cases hki : k = i
        · subst hki; exact he
        · exact hinv k (by omega)
    · have hia : i = a.length := by have : a.length ≤ i := by simpa using h4
                                    omega
      have : a = b := lists_ext hlen fun k hk => hinv k (by omega)
      simp [this]

theorem equal_ok {r c r' c' : Int} {a b : List (List Int)} (ha : SzM a) (hb : SzM b) (hl : a.length ≤ 4294967296) (hc : ∀ x ∈ a, x.length ≤ 4294967296) :
    FnD prog 65 [eM r c a, eM r' c' b] (vb (decide (r = r' ∧ c = c' ∧ a = b))) [] := by
  refine vc65_ok _ _ _ _ _ _ (R := Out _) ?_
  unfold vc65
  refine ⟨_, _, _, _, size_ok r c a, size_ok r' c' b, fun h => ⟨_, eqRows_ok ha hb hl hc, outb ?_⟩, fun h => outb ?_⟩
  · have h : r = r' ∧ c = c' := by simpa using h
    simp [h.1, h.2]
  · rw [eq_comm, decide_eq_false_iff_not]
    rintro ⟨rfl, rfl, _⟩
    simp at h

theorem mscale_ok {r c K : Nat} {a : List (List Int)} {k : Int} (ha : Mx r c a) (ka : BdM K a) (hk : k.natAbs ≤ 1329227995784915872903807060280344576) (hr : r ≤ 4294967296) (hc : c ≤ 4294967296) (hK : K ≤ 1329227995784915872903807060280344576) :
    FnD prog 63 [eM r c a, eI k] (eM r c (table r c fun i j => el a i j * k)) [] := by
  refine vc63_ok _ _ _ _ _ (R := Out _) ?_
  unfold vc63
  refine ⟨_, _, _, build_ok hr hc (g := fun i j => el a i j * k) fun i j hi hj => ?_, rfl, rfl⟩
  refine vc112_ok _ _ _ _ _ _ _ (R := Out _) ?_
  unfold vc112
  obtain ⟨e1, e2, e3, e4⟩ := read_el ha hi hj
  have := mul_ok (x := k) (y := el a i j) (sz_le hk (Nat.le_refl _)) (sz_le (el_bd ha ka hi hj) hK)
  rw [Int.mul_comm] at this
  exact ⟨_, _, _, _, _, ⟨by omega, e4⟩, e1, ⟨by omega, e3⟩, e2, this, rfl, rfl⟩

/-- A described matrix. -/
theorem rawmade_ok {x y : Int} (v : List Int) (hx : 0 ≤ x) (hy : 0 ≤ y) : ∃ r c : Nat, r ≤ 4 ∧ c ≤ 4 ∧
    FnD prog 15 [.e (.agg [.dat (.int .u8 x), .dat (.int .u8 y), .dat (.sl (i8s v))])] (eMo r c) (oM (table r c (fillG c v))) := by
  obtain ⟨r, e0, b0⟩ := mod5 hx
  obtain ⟨c, e1, b1⟩ := mod5 hy
  refine ⟨r, c, b0, b1, ?_⟩
  refine vc15_ok _ _ _ (R := OutM r c _) ?_
  unfold vc15
  rw [e0, e1]
  exact ⟨_, _, _, by decide, filled_ok (by omega) (by omega), outM rfl⟩

end Go.AM

/- What functions of the program come to: group P12. Printed by vc.py. -/
set_option maxRecDepth 100000
set_option linter.unusedVariables false

namespace Go.AM
open Go.Proofs.Try

/- f12 torsion/torsionlaw05.MatrixMatchesReference -/
def vc12 (x0 : Int) (x1 : Int) (x2 : List (List D)) (y0 : Int) (y1 : Int) (y2 : List (List D)) (k : Int) (R : V → Heap → Prop) : Prop :=
  ∃ (r : Bool),
  (FnD prog 14 [] (vD (dB r)) []) ∧
  (∃ (r0 : Int) (r1 : Int) (rrows : List (List (List D))) (r01 : Int) (r11 : Int) (rrows1 : List (List (List D))),
  (FnD prog 15 [(vA [(sD (D.int .u8 x0)), (sD (D.int .u8 x1)), (sD (dL x2))])] (vA [(sD (dI r0)), (sD (dI r1)), (S.ref 0)]) [(some (Obj.mat 2 rrows))]) ∧
  (FnD prog 15 [(vA [(sD (D.int .u8 y0)), (sD (D.int .u8 y1)), (sD (dL y2))])] (vA [(sD (dI r01)), (sD (dI r11)), (S.ref 0)]) [(some (Obj.mat 2 rrows1))]) ∧
  (∃ (r02 : Int) (r12 : Int) (r2 : List (List D)) (r3 : Int),
  (FnD prog 55 [(vA [(sD (dI r0)), (sD (dI r1)), (sD (dL (matD rrows)))]), (vA [(sD (dI r01)), (sD (dI r11)), (sD (dL (matD rrows1)))])] (V.tup [(E.agg [(sD (dI r02)), (sD (dI r12)), (sD (dL r2))]), (eD (dI r3))]) []) ∧
  (∃ (r03 : Int) (r13 : Int) (r21 : List (List D)) (r4 : Int),
  (FnD prog 28 [(vA [(sD (dI r0)), (sD (dI r1)), (sD (dL (matD rrows)))]), (vA [(sD (dI r01)), (sD (dI r11)), (sD (dL (matD rrows1)))])] (V.tup [(E.agg [(sD (dI r03)), (sD (dI r13)), (sD (dL r21))]), (eD (dI r4))]) []) ∧
  (∃ (r04 : Int) (r14 : Int) (r22 : List (List D)) (r5 : Int),
  (FnD prog 57 [(vA [(sD (dI r0)), (sD (dI r1)), (sD (dL (matD rrows)))]), (vA [(sD (dI r01)), (sD (dI r11)), (sD (dL (matD rrows1)))])] (V.tup [(E.agg [(sD (dI r04)), (sD (dI r14)), (sD (dL r22))]), (eD (dI r5))]) []) ∧
  (∃ (r05 : Int) (r15 : Int) (r23 : List (List D)) (r6 : Int),
  (FnD prog 58 [(vA [(sD (dI r0)), (sD (dI r1)), (sD (dL (matD rrows)))]), (vA [(sD (dI r01)), (sD (dI r11)), (sD (dL (matD rrows1)))])] (V.tup [(E.agg [(sD (dI r05)), (sD (dI r15)), (sD (dL r23))]), (eD (dI r6))]) []) ∧
  (∃ (r06 : Int) (r16 : Int) (r24 : List (List D)) (r7 : Int),
  (FnD prog 20 [(vA [(sD (dI r0)), (sD (dI r1)), (sD (dL (matD rrows)))]), (vA [(sD (dI r01)), (sD (dI r11)), (sD (dL (matD rrows1)))])] (V.tup [(E.agg [(sD (dI r06)), (sD (dI r16)), (sD (dL r24))]), (eD (dI r7))]) []) ∧
  (∃ (r07 : Int) (r17 : Int) (r25 : List (List D)) (r8 : Int),
  (FnD prog 59 [(vA [(sD (dI r0)), (sD (dI r1)), (sD (dL (matD rrows)))]), (vA [(sD (dI r01)), (sD (dI r11)), (sD (dL (matD rrows1)))])] (V.tup [(E.agg [(sD (dI r07)), (sD (dI r17)), (sD (dL r25))]), (eD (dI r8))]) []) ∧
  (∃ (r9 : Bool),
  (FnD prog 23 [(vA [(sD (dI r02)), (sD (dI r12)), (sD (dL r2))]), (vA [(sD (dI r03)), (sD (dI r13)), (sD (dL r21))])] (vD (dB r9)) []) ∧
  (((!r9) = true →
    R (vD (dB false)) []) ∧
  ((!r9) = false →
    ((r3 != r4) = true →
      R (vD (dB false)) []) ∧
    ((r3 != r4) = false →
      ∃ (r10 : Bool),
      (FnD prog 23 [(vA [(sD (dI r04)), (sD (dI r14)), (sD (dL r22))]), (vA [(sD (dI r05)), (sD (dI r15)), (sD (dL r23))])] (vD (dB r10)) []) ∧
      (((!r10) = true →
        R (vD (dB false)) []) ∧
      ((!r10) = false →
        ((r5 != r6) = true →
          R (vD (dB false)) []) ∧
        ((r5 != r6) = false →
          ∃ (r18 : Bool),
          (FnD prog 23 [(vA [(sD (dI r06)), (sD (dI r16)), (sD (dL r24))]), (vA [(sD (dI r07)), (sD (dI r17)), (sD (dL r25))])] (vD (dB r18)) []) ∧
          (((!r18) = true →
            R (vD (dB false)) []) ∧
          ((!r18) = false →
            ((r7 != r8) = true →
              R (vD (dB false)) []) ∧
            ((r7 != r8) = false →
              ∃ (r08 : Int) (r19 : Int) (r26 : List (List D)) (r20 : Int),
              (FnD prog 25 [(vA [(sD (dI r0)), (sD (dI r1)), (sD (dL (matD rrows)))]), (vA [(sD (dI r01)), (sD (dI r11)), (sD (dL (matD rrows1)))])] (V.tup [(E.agg [(sD (dI r08)), (sD (dI r19)), (sD (dL r26))]), (eD (dI r20))]) []) ∧
              (∃ (r09 : Int) (r110 : Int) (r27 : List (List D)) (r28 : Int),
              (FnD prog 60 [(vA [(sD (dI r0)), (sD (dI r1)), (sD (dL (matD rrows)))]), (vA [(sD (dI r01)), (sD (dI r11)), (sD (dL (matD rrows1)))])] (V.tup [(E.agg [(sD (dI r09)), (sD (dI r110)), (sD (dL r27))]), (eD (dI r28))]) []) ∧
              (∃ (r010 : Int) (r111 : Int) (r29 : List (List D)) (r30 : Int),
              (FnD prog 26 [(vA [(sD (dI r0)), (sD (dI r1)), (sD (dL (matD rrows)))]), (vA [(sD (dI r01)), (sD (dI r11)), (sD (dL (matD rrows1)))])] (V.tup [(E.agg [(sD (dI r010)), (sD (dI r111)), (sD (dL r29))]), (eD (dI r30))]) []) ∧
              (∃ (r011 : Int) (r112 : Int) (r210 : List (List D)) (r31 : Int),
              (FnD prog 61 [(vA [(sD (dI r0)), (sD (dI r1)), (sD (dL (matD rrows)))]), (vA [(sD (dI r01)), (sD (dI r11)), (sD (dL (matD rrows1)))])] (V.tup [(E.agg [(sD (dI r011)), (sD (dI r112)), (sD (dL r210))]), (eD (dI r31))]) []) ∧
              (∃ (r32 : Bool),
              (FnD prog 23 [(vA [(sD (dI r08)), (sD (dI r19)), (sD (dL r26))]), (vA [(sD (dI r09)), (sD (dI r110)), (sD (dL r27))])] (vD (dB r32)) []) ∧
              (((!r32) = true →
                R (vD (dB false)) []) ∧
              ((!r32) = false →
                ((r20 != r28) = true →
                  R (vD (dB false)) []) ∧
                ((r20 != r28) = false →
                  ∃ (r33 : Bool),
                  (FnD prog 23 [(vA [(sD (dI r010)), (sD (dI r111)), (sD (dL r29))]), (vA [(sD (dI r011)), (sD (dI r112)), (sD (dL r210))])] (vD (dB r33)) []) ∧
                  (((!r33) = true →
                    R (vD (dB false)) []) ∧
                  ((!r33) = false →
                    ((r30 != r31) = true →
                      R (vD (dB false)) []) ∧
                    ((r30 != r31) = false →
                      ∃ (r012 : Int) (r113 : Int) (r211 : List (List D)) (r013 : Int) (r114 : Int) (r212 : List (List D)) (r34 : Bool),
                      (FnD prog 62 [(vD (dI r0)), (vD (dI r11))] (vA [(sD (dI r012)), (sD (dI r113)), (sD (dL r211))]) []) ∧
                      (FnD prog 33 [(vD (dI r0)), (vD (dI r11))] (vA [(sD (dI r013)), (sD (dI r114)), (sD (dL r212))]) []) ∧
                      (FnD prog 23 [(vA [(sD (dI r012)), (sD (dI r113)), (sD (dL r211))]), (vA [(sD (dI r013)), (sD (dI r114)), (sD (dL r212))])] (vD (dB r34)) []) ∧
                      ((r34 = true →
                        ∃ (r014 : Int) (r115 : Int) (r213 : List (List D)) (r015 : Int) (r116 : Int) (r214 : List (List D)) (r35 : Bool),
                        (FnD prog 56 [(vD (dI r0))] (vA [(sD (dI r014)), (sD (dI r115)), (sD (dL r213))]) []) ∧
                        (FnD prog 49 [(vD (dI r0))] (vA [(sD (dI r015)), (sD (dI r116)), (sD (dL r214))]) []) ∧
                        (FnD prog 23 [(vA [(sD (dI r014)), (sD (dI r115)), (sD (dL r213))]), (vA [(sD (dI r015)), (sD (dI r116)), (sD (dL r214))])] (vD (dB r35)) []) ∧
                        ((r35 = true →
                          ∃ (r016 : Bool) (r117 : List (List D)) (r017 : Int) (r118 : Int) (r215 : List (List D)) (r018 : Bool) (r119 : List (List D)) (r019 : Int) (r120 : Int) (r216 : List (List D)) (r36 : Bool),
                          (FnD prog 16 [(vD (dI k))] (vA [(sD (dB r016)), (sD (dL r117))]) []) ∧
                          (FnD prog 63 [(vA [(sD (dI r0)), (sD (dI r1)), (sD (dL (matD rrows)))]), (vA [(sD (dB r016)), (sD (dL r117))])] (vA [(sD (dI r017)), (sD (dI r118)), (sD (dL r215))]) []) ∧
                          (FnD prog 16 [(vD (dI k))] (vA [(sD (dB r018)), (sD (dL r119))]) []) ∧
                          (FnD prog 64 [(vA [(sD (dI r0)), (sD (dI r1)), (sD (dL (matD rrows)))]), (vA [(sD (dB r018)), (sD (dL r119))])] (vA [(sD (dI r019)), (sD (dI r120)), (sD (dL r216))]) []) ∧
                          (FnD prog 23 [(vA [(sD (dI r017)), (sD (dI r118)), (sD (dL r215))]), (vA [(sD (dI r019)), (sD (dI r120)), (sD (dL r216))])] (vD (dB r36)) []) ∧
                          ((r36 = true →
                            ∃ (r020 : Int) (r121 : Int) (r217 : List (List D)) (r021 : Int) (r122 : Int) (r218 : List (List D)) (r37 : Bool),
                            (FnD prog 21 [(vA [(sD (dI r0)), (sD (dI r1)), (sD (dL (matD rrows)))])] (vA [(sD (dI r020)), (sD (dI r121)), (sD (dL r217))]) []) ∧
                            (FnD prog 39 [(vA [(sD (dI r0)), (sD (dI r1)), (sD (dL (matD rrows)))])] (vA [(sD (dI r021)), (sD (dI r122)), (sD (dL r218))]) []) ∧
                            (FnD prog 23 [(vA [(sD (dI r020)), (sD (dI r121)), (sD (dL r217))]), (vA [(sD (dI r021)), (sD (dI r122)), (sD (dL r218))])] (vD (dB r37)) []) ∧
                            ((r37 = true →
                              ∃ (r38 : Bool) (r39 : Bool),
                              (FnD prog 65 [(vA [(sD (dI r0)), (sD (dI r1)), (sD (dL (matD rrows)))]), (vA [(sD (dI r01)), (sD (dI r11)), (sD (dL (matD rrows1)))])] (vD (dB r38)) []) ∧
                              (FnD prog 23 [(vA [(sD (dI r0)), (sD (dI r1)), (sD (dL (matD rrows)))]), (vA [(sD (dI r01)), (sD (dI r11)), (sD (dL (matD rrows1)))])] (vD (dB r39)) []) ∧
                              (((r38 == r39) = true →
                                ∃ (r022 : Int) (r123 : Int) (r219 : List (List D)) (r40 : Bool),
                                (FnD prog 66 [(vA [(sD (dI r0)), (sD (dI r1)), (sD (dL (matD rrows)))])] (vA [(sD (dI r022)), (sD (dI r123)), (sD (dL r219))]) []) ∧
                                (FnD prog 65 [(vA [(sD (dI r0)), (sD (dI r1)), (sD (dL (matD rrows)))]), (vA [(sD (dI r022)), (sD (dI r123)), (sD (dL r219))])] (vD (dB r40)) []) ∧
                                ((r40 = true →
                                  R (vD (dB r)) []) ∧
                                (r40 = false →
                                  R (vD (dB false)) []))) ∧
                              ((r38 == r39) = false →
                                R (vD (dB false)) []))) ∧
                            (r37 = false →
                              R (vD (dB false)) []))) ∧
                          (r36 = false →
                            R (vD (dB false)) []))) ∧
                        (r35 = false →
                          R (vD (dB false)) []))) ∧
                      (r34 = false →
                        R (vD (dB false)) [])))))))))))))))))))))))))))))

theorem vc12_ok (x0 : Int) (x1 : Int) (x2 : List (List D)) (y0 : Int) (y1 : Int) (y2 : List (List D)) (k : Int) {R : V → Heap → Prop} (h : vc12 x0 x1 x2 y0 y1 y2 k R) : FnG prog 12 [(vA [(sD (D.int .u8 x0)), (sD (D.int .u8 x1)), (sD (dL x2))]), (vA [(sD (D.int .u8 y0)), (sD (D.int .u8 y1)), (sD (dL y2))]), (vD (dI k))] [] R :=
  FnG.vcg hT func12 ntmps12 (.reg 2 [(0, Or.none, 0, 1), (1, Or.none, 1, 1)] [2, 3, 4] [0, 1] [] <| .exb fun r => .reg 0 [(0, (Or.call (vD (dB r)) [] []), 0, 0)] [2, 3, 4, 7] [0, 1] [] <| .ex fun r0 => .ex fun r1 => .exm fun rrows => .ex fun r01 => .ex fun r11 => .exm fun rrows1 => .drw 4 [(1, ((Or.call (vA [(sD (dI r0)), (sD (dI r1)), (S.ref 0)]) [(some (Obj.mat 2 rrows))] []), 2, 1), [2]), (3, ((Or.call (vA [(sD (dI r01)), (sD (dI r11)), (S.ref 0)]) [(some (Obj.mat 2 rrows1))] []), 3, 1), [3]), (4, (Or.none, 4, 1), [4]), (5, (Or.none, 5, 1), [5]), (6, (Or.none, 0, 0), [4]), (7, (Or.none, 0, 0), [5])] [2, 7, 8, 9] [4, 5, 2, 3] [] <| .frz [2, 3] <| .ex fun r02 => .ex fun r12 => .exl fun r2 => .ex fun r3 => .reg 1 [(2, (Or.call (V.tup [(E.agg [(sD (dI r02)), (sD (dI r12)), (sD (dL r2))]), (eD (dI r3))]) [] []), 0, 0), (6, Or.none, 4, 1)] [2, 7, 8, 9, 10, 11] [0, 1, 4] [] <| .ex fun r03 => .ex fun r13 => .exl fun r21 => .ex fun r4 => .reg 1 [(2, (Or.call (V.tup [(E.agg [(sD (dI r03)), (sD (dI r13)), (sD (dL r21))]), (eD (dI r4))]) [] []), 0, 0), (6, Or.none, 3, 1)] [2, 7, 8, 9, 10, 11, 12, 13] [0, 1, 2, 3] [] <| .ex fun r04 => .ex fun r14 => .exl fun r22 => .ex fun r5 => .reg 1 [(2, (Or.call (V.tup [(E.agg [(sD (dI r04)), (sD (dI r14)), (sD (dL r22))]), (eD (dI r5))]) [] []), 0, 0), (6, Or.none, 4, 1)] [2, 7, 8, 9, 10, 11, 12, 13, 14, 15] [0, 1, 2, 3, 4] [] <| .ex fun r05 => .ex fun r15 => .exl fun r23 => .ex fun r6 => .reg 1 [(2, (Or.call (V.tup [(E.agg [(sD (dI r05)), (sD (dI r15)), (sD (dL r23))]), (eD (dI r6))]) [] []), 0, 0), (6, Or.none, 5, 1)] [2, 7, 8, 9, 10, 11, 12, 13, 14, 15, 16, 17] [0, 1, 2, 3, 4, 5] [] <| .ex fun r06 => .ex fun r16 => .exl fun r24 => .ex fun r7 => .reg 1 [(2, (Or.call (V.tup [(E.agg [(sD (dI r06)), (sD (dI r16)), (sD (dL r24))]), (eD (dI r7))]) [] []), 0, 0), (6, Or.none, 6, 1)] [2, 7, 8, 9, 10, 11, 12, 13, 14, 15, 16, 17, 18, 19] [0, 1, 2, 3, 4, 5, 6] [] <| .ex fun r07 => .ex fun r17 => .exl fun r25 => .ex fun r8 => .reg 1 [(2, (Or.call (V.tup [(E.agg [(sD (dI r07)), (sD (dI r17)), (sD (dL r25))]), (eD (dI r8))]) [] []), 0, 0), (6, Or.none, 7, 1)] [2, 7, 8, 9, 10, 11, 12, 13, 14, 15, 16, 17, 18, 19, 20, 21] [0, 1, 2, 3, 4, 5, 6, 7] [] <| .exb fun r9 => .ob (FnD prog 23 [(vA [(sD (dI r02)), (sD (dI r12)), (sD (dL r2))]), (vA [(sD (dI r03)), (sD (dI r13)), (sD (dL r21))])] (vD (dB r9)) []) <| .spl ((!r9)) (.reg 0 [(2, (Or.call (vD (dB r9)) [] []), 0, 0), (4, (Or.bool true), 0, 0)] [2, 7, 8, 9, 102] [0, 1] [.old 1, .old 0] <| .ct true none <| .r0 [6] <| .ret []) (.spl ((r3 != r4)) (.reg 0 [(2, (Or.call (vD (dB r9)) [] []), 0, 0), (4, (Or.bool false), 0, 0), (9, (Or.bool true), 0, 0)] [2, 7, 8, 9, 102] [0, 1] [.old 2, .old 1, .old 0] <| .ct true none <| .r0 [6] <| .ret []) (.exb fun r10 => .ob (FnD prog 23 [(vA [(sD (dI r04)), (sD (dI r14)), (sD (dL r22))]), (vA [(sD (dI r05)), (sD (dI r15)), (sD (dL r23))])] (vD (dB r10)) []) <| .spl ((!r10)) (.reg 0 [(2, (Or.call (vD (dB r9)) [] []), 0, 0), (4, (Or.bool false), 0, 0), (9, (Or.bool false), 0, 0), (12, (Or.call (vD (dB r10)) [] []), 0, 0), (15, (Or.bool true), 0, 0)] [2, 7, 8, 9, 102] [0, 1] [.old 4, .old 3, .old 2, .old 1, .old 0] <| .ct true none <| .r0 [6] <| .ret []) (.spl ((r5 != r6)) (.reg 0 [(2, (Or.call (vD (dB r9)) [] []), 0, 0), (4, (Or.bool false), 0, 0), (9, (Or.bool false), 0, 0), (12, (Or.call (vD (dB r10)) [] []), 0, 0), (15, (Or.bool false), 0, 0), (20, (Or.bool true), 0, 0)] [2, 7, 8, 9, 102] [0, 1] [.old 5, .old 4, .old 3, .old 2, .old 1, .old 0] <| .ct true none <| .r0 [6] <| .ret []) (.exb fun r18 => .ob (FnD prog 23 [(vA [(sD (dI r06)), (sD (dI r16)), (sD (dL r24))]), (vA [(sD (dI r07)), (sD (dI r17)), (sD (dL r25))])] (vD (dB r18)) []) <| .spl ((!r18)) (.reg 0 [(2, (Or.call (vD (dB r9)) [] []), 0, 0), (4, (Or.bool false), 0, 0), (9, (Or.bool false), 0, 0), (12, (Or.call (vD (dB r10)) [] []), 0, 0), (15, (Or.bool false), 0, 0), (20, (Or.bool false), 0, 0), (23, (Or.call (vD (dB r18)) [] []), 0, 0), (26, (Or.bool true), 0, 0)] [2, 7, 8, 9, 102] [0, 1] [.old 7, .old 6, .old 5, .old 4, .old 3, .old 2, .old 1, .old 0] <| .ct true none <| .r0 [6] <| .ret []) (.reg 0 [(2, (Or.call (vD (dB r9)) [] []), 0, 0), (4, (Or.bool false), 0, 0), (9, (Or.bool false), 0, 0), (12, (Or.call (vD (dB r10)) [] []), 0, 0), (15, (Or.bool false), 0, 0), (20, (Or.bool false), 0, 0), (23, (Or.call (vD (dB r18)) [] []), 0, 0), (26, (Or.bool false), 0, 0)] [2, 7, 8, 9, 102] [0, 1] [.old 7, .old 6, .old 5, .old 4, .old 3, .old 2, .old 1, .old 0] <| .c2 (.r0 [6] <| .ret []) (.ex fun r08 => .ex fun r19 => .exl fun r26 => .ex fun r20 => .reg 1 [(2, (Or.call (V.tup [(E.agg [(sD (dI r08)), (sD (dI r19)), (sD (dL r26))]), (eD (dI r20))]) [] []), 0, 0), (6, Or.none, 2, 1)] [2, 7, 8, 9, 22, 23] [0, 1, 2] [] <| .ex fun r09 => .ex fun r110 => .exl fun r27 => .ex fun r28 => .reg 1 [(2, (Or.call (V.tup [(E.agg [(sD (dI r09)), (sD (dI r110)), (sD (dL r27))]), (eD (dI r28))]) [] []), 0, 0), (6, Or.none, 3, 1)] [2, 7, 8, 9, 22, 23, 24, 25] [0, 1, 2, 3] [] <| .ex fun r010 => .ex fun r111 => .exl fun r29 => .ex fun r30 => .reg 1 [(2, (Or.call (V.tup [(E.agg [(sD (dI r010)), (sD (dI r111)), (sD (dL r29))]), (eD (dI r30))]) [] []), 0, 0), (6, Or.none, 4, 1)] [2, 7, 8, 9, 22, 23, 24, 25, 26, 27] [0, 1, 2, 3, 4] [] <| .ex fun r011 => .ex fun r112 => .exl fun r210 => .ex fun r31 => .reg 1 [(2, (Or.call (V.tup [(E.agg [(sD (dI r011)), (sD (dI r112)), (sD (dL r210))]), (eD (dI r31))]) [] []), 0, 0), (6, Or.none, 5, 1)] [2, 7, 8, 9, 22, 23, 24, 25, 26, 27, 28, 29] [0, 1, 2, 3, 4, 5] [] <| .exb fun r32 => .ob (FnD prog 23 [(vA [(sD (dI r08)), (sD (dI r19)), (sD (dL r26))]), (vA [(sD (dI r09)), (sD (dI r110)), (sD (dL r27))])] (vD (dB r32)) []) <| .spl ((!r32)) (.reg 0 [(2, (Or.call (vD (dB r32)) [] []), 0, 0), (4, (Or.bool true), 0, 0)] [2, 7, 8, 9, 146] [0, 1] [.old 1, .old 0] <| .ct true none <| .r0 [6] <| .ret []) (.spl ((r20 != r28)) (.reg 0 [(2, (Or.call (vD (dB r32)) [] []), 0, 0), (4, (Or.bool false), 0, 0), (9, (Or.bool true), 0, 0)] [2, 7, 8, 9, 146] [0, 1] [.old 2, .old 1, .old 0] <| .ct true none <| .r0 [6] <| .ret []) (.exb fun r33 => .ob (FnD prog 23 [(vA [(sD (dI r010)), (sD (dI r111)), (sD (dL r29))]), (vA [(sD (dI r011)), (sD (dI r112)), (sD (dL r210))])] (vD (dB r33)) []) <| .spl ((!r33)) (.reg 0 [(2, (Or.call (vD (dB r32)) [] []), 0, 0), (4, (Or.bool false), 0, 0), (9, (Or.bool false), 0, 0), (12, (Or.call (vD (dB r33)) [] []), 0, 0), (15, (Or.bool true), 0, 0)] [2, 7, 8, 9, 146] [0, 1] [.old 4, .old 3, .old 2, .old 1, .old 0] <| .ct true none <| .r0 [6] <| .ret []) (.reg 0 [(2, (Or.call (vD (dB r32)) [] []), 0, 0), (4, (Or.bool false), 0, 0), (9, (Or.bool false), 0, 0), (12, (Or.call (vD (dB r33)) [] []), 0, 0), (15, (Or.bool false), 0, 0)] [2, 7, 8, 9, 146] [0, 1] [.old 4, .old 3, .old 2, .old 1, .old 0] <| .c2 (.r0 [6] <| .ret []) (.ex fun r012 => .ex fun r113 => .exl fun r211 => .ex fun r013 => .ex fun r114 => .exl fun r212 => .exb fun r34 => .ob (FnD prog 62 [(vD (dI r0)), (vD (dI r11))] (vA [(sD (dI r012)), (sD (dI r113)), (sD (dL r211))]) []) <| .ob (FnD prog 33 [(vD (dI r0)), (vD (dI r11))] (vA [(sD (dI r013)), (sD (dI r114)), (sD (dL r212))]) []) <| .ob (FnD prog 23 [(vA [(sD (dI r012)), (sD (dI r113)), (sD (dL r211))]), (vA [(sD (dI r013)), (sD (dI r114)), (sD (dL r212))])] (vD (dB r34)) []) <| .spl r34 (.ex fun r014 => .ex fun r115 => .exl fun r213 => .ex fun r015 => .ex fun r116 => .exl fun r214 => .exb fun r35 => .ob (FnD prog 56 [(vD (dI r0))] (vA [(sD (dI r014)), (sD (dI r115)), (sD (dL r213))]) []) <| .ob (FnD prog 49 [(vD (dI r0))] (vA [(sD (dI r015)), (sD (dI r116)), (sD (dL r214))]) []) <| .ob (FnD prog 23 [(vA [(sD (dI r014)), (sD (dI r115)), (sD (dL r213))]), (vA [(sD (dI r015)), (sD (dI r116)), (sD (dL r214))])] (vD (dB r35)) []) <| .spl r35 (.exb fun r016 => .exl fun r117 => .ex fun r017 => .ex fun r118 => .exl fun r215 => .exb fun r018 => .exl fun r119 => .ex fun r019 => .ex fun r120 => .exl fun r216 => .exb fun r36 => .ob (FnD prog 16 [(vD (dI k))] (vA [(sD (dB r016)), (sD (dL r117))]) []) <| .ob (FnD prog 63 [(vA [(sD (dI r0)), (sD (dI r1)), (sD (dL (matD rrows)))]), (vA [(sD (dB r016)), (sD (dL r117))])] (vA [(sD (dI r017)), (sD (dI r118)), (sD (dL r215))]) []) <| .ob (FnD prog 16 [(vD (dI k))] (vA [(sD (dB r018)), (sD (dL r119))]) []) <| .ob (FnD prog 64 [(vA [(sD (dI r0)), (sD (dI r1)), (sD (dL (matD rrows)))]), (vA [(sD (dB r018)), (sD (dL r119))])] (vA [(sD (dI r019)), (sD (dI r120)), (sD (dL r216))]) []) <| .ob (FnD prog 23 [(vA [(sD (dI r017)), (sD (dI r118)), (sD (dL r215))]), (vA [(sD (dI r019)), (sD (dI r120)), (sD (dL r216))])] (vD (dB r36)) []) <| .spl r36 (.ex fun r020 => .ex fun r121 => .exl fun r217 => .ex fun r021 => .ex fun r122 => .exl fun r218 => .exb fun r37 => .drw 0 [(4, ((Or.call (vA [(sD (dI r012)), (sD (dI r113)), (sD (dL r211))]) [] []), 0, 0), []), (9, ((Or.call (vA [(sD (dI r013)), (sD (dI r114)), (sD (dL r212))]) [] []), 0, 0), []), (10, ((Or.call (vD (dB r34)) [] []), 0, 0), []), (11, ((Or.bool true), 0, 0), []), (14, ((Or.call (vA [(sD (dI r014)), (sD (dI r115)), (sD (dL r213))]) [] []), 0, 0), []), (17, ((Or.call (vA [(sD (dI r015)), (sD (dI r116)), (sD (dL r214))]) [] []), 0, 0), []), (18, ((Or.call (vD (dB r35)) [] []), 0, 0), []), (20, ((Or.bool true), 0, 0), []), (23, ((Or.call (vA [(sD (dB r016)), (sD (dL r117))]) [] []), 0, 0), []), (24, ((Or.call (vA [(sD (dI r017)), (sD (dI r118)), (sD (dL r215))]) [] []), 0, 0), []), (27, ((Or.call (vA [(sD (dB r018)), (sD (dL r119))]) [] []), 0, 0), []), (28, ((Or.call (vA [(sD (dI r019)), (sD (dI r120)), (sD (dL r216))]) [] []), 0, 0), []), (29, ((Or.call (vD (dB r36)) [] []), 0, 0), []), (31, ((Or.bool true), 0, 0), []), (33, ((Or.call (vA [(sD (dI r020)), (sD (dI r121)), (sD (dL r217))]) [] []), 0, 0), []), (35, ((Or.call (vA [(sD (dI r021)), (sD (dI r122)), (sD (dL r218))]) [] []), 0, 0), []), (36, ((Or.call (vD (dB r37)) [] []), 0, 0), [])] [7, 8, 9, 30] [0, 1] [.old 13, .old 12, .old 11, .old 10, .old 9, .old 8, .old 7, .old 6, .old 5, .old 4, .old 3, .old 2, .old 1, .old 0] <| .spl r37 (.exb fun r38 => .exb fun r39 => .ob (FnD prog 65 [(vA [(sD (dI r0)), (sD (dI r1)), (sD (dL (matD rrows)))]), (vA [(sD (dI r01)), (sD (dI r11)), (sD (dL (matD rrows1)))])] (vD (dB r38)) []) <| .ob (FnD prog 23 [(vA [(sD (dI r0)), (sD (dI r1)), (sD (dL (matD rrows)))]), (vA [(sD (dI r01)), (sD (dI r11)), (sD (dL (matD rrows1)))])] (vD (dB r39)) []) <| .spl ((r38 == r39)) (.ex fun r022 => .ex fun r123 => .exl fun r219 => .exb fun r40 => .ob (FnD prog 66 [(vA [(sD (dI r0)), (sD (dI r1)), (sD (dL (matD rrows)))])] (vA [(sD (dI r022)), (sD (dI r123)), (sD (dL r219))]) []) <| .ob (FnD prog 65 [(vA [(sD (dI r0)), (sD (dI r1)), (sD (dL (matD rrows)))]), (vA [(sD (dI r022)), (sD (dI r123)), (sD (dL r219))])] (vD (dB r40)) []) <| .spl r40 (.drw 0 [(1, ((Or.bool true), 0, 0), []), (4, ((Or.call (vD (dB r38)) [] []), 0, 0), []), (7, ((Or.call (vD (dB r39)) [] []), 0, 0), []), (10, ((Or.bool true), 0, 0), []), (13, ((Or.call (vA [(sD (dI r022)), (sD (dI r123)), (sD (dL r219))]) [] []), 0, 0), []), (14, ((Or.call (vD (dB r40)) [] []), 0, 0), []), (16, ((Or.bool true), 0, 0), [])] [6] [] [.old 6, .old 5, .old 4, .old 3, .old 2, .old 1, .old 0] <| .ret []) (.drw 0 [(1, ((Or.bool true), 0, 0), []), (4, ((Or.call (vD (dB r38)) [] []), 0, 0), []), (7, ((Or.call (vD (dB r39)) [] []), 0, 0), []), (10, ((Or.bool true), 0, 0), []), (13, ((Or.call (vA [(sD (dI r022)), (sD (dI r123)), (sD (dL r219))]) [] []), 0, 0), []), (14, ((Or.call (vD (dB r40)) [] []), 0, 0), []), (16, ((Or.bool false), 0, 0), [])] [6] [] [.old 6, .old 5, .old 4, .old 3, .old 2, .old 1, .old 0] <| .ret [])) (.drw 0 [(1, ((Or.bool true), 0, 0), []), (4, ((Or.call (vD (dB r38)) [] []), 0, 0), []), (7, ((Or.call (vD (dB r39)) [] []), 0, 0), []), (10, ((Or.bool false), 0, 0), [])] [6] [] [.old 3, .old 2, .old 1, .old 0] <| .ret [])) (.drw 0 [(1, ((Or.bool false), 0, 0), [])] [6] [] [.old 0] <| .ret [])) (.drw 0 [(4, ((Or.call (vA [(sD (dI r012)), (sD (dI r113)), (sD (dL r211))]) [] []), 0, 0), []), (9, ((Or.call (vA [(sD (dI r013)), (sD (dI r114)), (sD (dL r212))]) [] []), 0, 0), []), (10, ((Or.call (vD (dB r34)) [] []), 0, 0), []), (11, ((Or.bool true), 0, 0), []), (14, ((Or.call (vA [(sD (dI r014)), (sD (dI r115)), (sD (dL r213))]) [] []), 0, 0), []), (17, ((Or.call (vA [(sD (dI r015)), (sD (dI r116)), (sD (dL r214))]) [] []), 0, 0), []), (18, ((Or.call (vD (dB r35)) [] []), 0, 0), []), (20, ((Or.bool true), 0, 0), []), (23, ((Or.call (vA [(sD (dB r016)), (sD (dL r117))]) [] []), 0, 0), []), (24, ((Or.call (vA [(sD (dI r017)), (sD (dI r118)), (sD (dL r215))]) [] []), 0, 0), []), (27, ((Or.call (vA [(sD (dB r018)), (sD (dL r119))]) [] []), 0, 0), []), (28, ((Or.call (vA [(sD (dI r019)), (sD (dI r120)), (sD (dL r216))]) [] []), 0, 0), []), (29, ((Or.call (vD (dB r36)) [] []), 0, 0), []), (31, ((Or.bool false), 0, 0), [])] [7, 8, 9, 30] [0, 1] [.old 13, .old 12, .old 11, .old 10, .old 9, .old 8, .old 7, .old 6, .old 5, .old 4, .old 3, .old 2, .old 1, .old 0] <| .drw 0 [] [6] [] [] <| .ret [])) (.drw 0 [(4, ((Or.call (vA [(sD (dI r012)), (sD (dI r113)), (sD (dL r211))]) [] []), 0, 0), []), (9, ((Or.call (vA [(sD (dI r013)), (sD (dI r114)), (sD (dL r212))]) [] []), 0, 0), []), (10, ((Or.call (vD (dB r34)) [] []), 0, 0), []), (11, ((Or.bool true), 0, 0), []), (14, ((Or.call (vA [(sD (dI r014)), (sD (dI r115)), (sD (dL r213))]) [] []), 0, 0), []), (17, ((Or.call (vA [(sD (dI r015)), (sD (dI r116)), (sD (dL r214))]) [] []), 0, 0), []), (18, ((Or.call (vD (dB r35)) [] []), 0, 0), []), (20, ((Or.bool false), 0, 0), [])] [7, 8, 9, 30] [0, 1] [.old 7, .old 6, .old 5, .old 4, .old 3, .old 2, .old 1, .old 0] <| .drw 0 [] [6] [] [] <| .ret [])) (.drw 0 [(4, ((Or.call (vA [(sD (dI r012)), (sD (dI r113)), (sD (dL r211))]) [] []), 0, 0), []), (9, ((Or.call (vA [(sD (dI r013)), (sD (dI r114)), (sD (dL r212))]) [] []), 0, 0), []), (10, ((Or.call (vD (dB r34)) [] []), 0, 0), []), (11, ((Or.bool false), 0, 0), [])] [7, 8, 9, 30] [0, 1] [.old 3, .old 2, .old 1, .old 0] <| .drw 0 [] [6] [] [] <| .ret []))))))))))))
    (by kernel_rfl) (by kernel_rfl) (by kernel_rfl) h

end Go.AM

/- The law of matrices against the reference. -/
namespace Go.AM
open Go.Proofs.Try

/-- A matrix that may be handed on. -/
def Fine (r c : Nat) (m : List (List Int)) : Prop := Mx r c m ∧ BdM 1329227995784915872903807060280344576 m ∧ r ≤ 100 ∧ c ≤ 100

theorem Fine.same {r c : Nat} {m : List (List Int)} (h : Fine r c m) : FnD prog 23 [eM r c m, eM r c m] (vb true) [] :=
  same_yes h.1 h.2.1 h.2.1 rfl (by have := h.2.2; omega) (by have := h.2.2; omega) (Nat.le_refl _)

theorem Fine.nil : Fine 0 0 [] := ⟨⟨rfl, fun _ h => by simp at h⟩, fun _ h => by simp at h, by decide, by decide⟩

/-- The two answer alike. -/
def Both (k l : FuncId) (x y : V) : Prop := ∃ (r c : Nat) (m : List (List Int)) (e : Int), FnD prog k [x, y] (eME r c m e) [] ∧ FnD prog l [x, y] (eME r c m e) [] ∧ Fine r c m

section
variable {r c r' c' : Nat} {a b : List (List Int)} (ha : Mx r c a) (hb : Mx r' c' b) (ka : BdM 9 a) (kb : BdM 9 b) (hr : r ≤ 4) (hc : c ≤ 4) (hr' : r' ≤ 4) (hc' : c' ≤ 4)
include ha hb ka kb hr hc hr' hc'

theorem both_add : Both 55 28 (eM r c a) (eM r' c' b) := by
  by_cases h : r = r' ∧ c = c'
  · obtain ⟨rfl, rfl⟩ := h
    exact ⟨_, _, _, _, madd_ok ha hb ka kb (by omega) (by omega) (by omega), m5add_ok ha hb ka kb (by omega) (by omega) (by omega), mcomb_mx _ _ _ _ _, (mcomb_bd ha hb ka kb).1.mono (by omega), by omega, by omega⟩
  · refine ⟨0, 0, [], 50, ?_, m5add_bad (by omega), Fine.nil⟩
    refine vc55_ok _ _ _ _ _ _ (R := Out _) ?_
    unfold vc55
    refine ⟨_, _, _, _, ?_, rfl, rfl⟩
    refine vc105_ok _ _ _ _ _ _ _ _ (R := Out _) ?_
    unfold vc105
    refine ⟨_, _, _, _, size_ok r c a, size_ok r' c' b, fun _ => ⟨rfl, rfl⟩, fun h2 => ?_⟩
    exact absurd (by simpa using h2) (show ¬ ((r : Int) = r' ∧ (c : Int) = c') by omega)

theorem both_sub : Both 57 58 (eM r c a) (eM r' c' b) := by
  by_cases h : r = r' ∧ c = c'
  · obtain ⟨rfl, rfl⟩ := h
    exact ⟨_, _, _, _, msub_ok ha hb ka kb (by omega) (by omega) (by omega), m5sub_ok ha hb ka kb (by omega) (by omega) (by omega), mcomb_mx _ _ _ _ _, (mcomb_bd ha hb ka kb).2.mono (by omega), by omega, by omega⟩
  · refine ⟨0, 0, [], 50, ?_, m5sub_bad hb kb (by omega) (by omega) (by omega) (by omega), Fine.nil⟩
    refine vc57_ok _ _ _ _ _ _ (R := Out _) ?_
    unfold vc57
    refine ⟨_, _, _, _, ?_, rfl, rfl⟩
    refine vc105_ok _ _ _ _ _ _ _ _ (R := Out _) ?_
    unfold vc105
    refine ⟨_, _, _, _, size_ok r c a, size_ok r' c' b, fun _ => ⟨rfl, rfl⟩, fun h2 => ?_⟩
    exact absurd (by simpa using h2) (show ¬ ((r : Int) = r' ∧ (c : Int) = c') by omega)

theorem both_mul : Both 20 59 (eM r c a) (eM r' c' b) := by
  by_cases h : c = r'
  · subst h
    have L : ∀ n, n ≤ 4 → n * (9 * 9) ≤ 1329227995784915872903807060280344576 := fun n h => by omega
    exact ⟨_, _, _, _, mmul_ok ha hb ka kb (by omega) (by omega) (by omega) (by omega), m5mul_ok ha hb ka kb (by omega) (by omega) (by omega) (by omega), mmul_mx _ _ _ _ _, (mmul_bd ha hb ka kb).mono (L _ hc), by omega, by omega⟩
  · exact ⟨0, 0, [], 50, mmul_bad (by omega), m5mul_bad (by omega), Fine.nil⟩

theorem both_stack : Both 25 60 (eM r c a) (eM r' c' b) := by
  by_cases h : c = c'
  · subst h
    refine ⟨_, _, _, _, stack_ok ha.1 hb.1 (by omega) (by omega), m5stack_ok ha hb ka kb (by omega) (by omega) (by omega) (by omega), ⟨by rw [List.length_append, ha.1, hb.1], fun x hx => ?_⟩, fun x hx => ?_, by omega, by omega⟩
    · rcases List.mem_append.1 hx with h | h
      · exact ha.2 x h
      · exact hb.2 x h
    · intro z hz
      rcases List.mem_append.1 hx with h | h
      · exact Nat.le_trans (ka x h z hz) (by omega)
      · exact Nat.le_trans (kb x h z hz) (by omega)
  · exact ⟨0, 0, [], 50, stack_bad (by omega), m5stack_bad (by omega), Fine.nil⟩

theorem both_beside : Both 26 61 (eM r c a) (eM r' c' b) := by
  by_cases h : r = r'
  · subst h
    refine ⟨_, _, _, _, beside_ok ha hb (by omega) (by omega) (by omega), m5beside_ok ha hb (by omega) (by omega) (by omega), table_mx _ _ _, table_bd fun i j hi hj => ?_, by omega, by omega⟩
    by_cases h : j < c
    · simp only [if_pos h]; exact Nat.le_trans (el_bd ha ka hi h) (by omega)
    · simp only [if_neg h]; exact Nat.le_trans (el_bd hb kb hi (by omega)) (by omega)
  · exact ⟨0, 0, [], 50, beside_bad (by omega), m5beside_bad (by omega), Fine.nil⟩
end

theorem matches_ok (x0 : Int) (g0 : IntKind.u8.min ≤ x0 ∧ x0 ≤ IntKind.u8.max) (x1 : Int) (g1 : IntKind.u8.min ≤ x1 ∧ x1 ≤ IntKind.u8.max) (l2 : List (List D)) (g2 : l2.length ≤ 9223372036854775807 ∧ ∀ x ∈ l2, DOKL [.i .i8] x)
    (x3 : Int) (g3 : IntKind.u8.min ≤ x3 ∧ x3 ≤ IntKind.u8.max) (x4 : Int) (g4 : IntKind.u8.min ≤ x4 ∧ x4 ≤ IntKind.u8.max) (l5 : List (List D)) (g5 : l5.length ≤ 9223372036854775807 ∧ ∀ x ∈ l5, DOKL [.i .i8] x)
    (k : Int) (gk : IntKind.i64.min ≤ k ∧ k ≤ IntKind.i64.max) :
    FnD prog 12 [.e (.agg [.dat (.int .u8 x0), .dat (.int .u8 x1), .dat (.sl l2)]), .e (.agg [.dat (.int .u8 x3), .dat (.int .u8 x4), .dat (.sl l5)]), .e (.sc (.dat (.int .i64 k)))] (vb true) [] := by
  obtain ⟨v, rfl, _⟩ := i8s_of g2
  obtain ⟨u, rfl, _⟩ := i8s_of g5
  have k1 : -9223372036854775808 ≤ k := gk.1
  have k2 : k ≤ 9223372036854775807 := gk.2
  have kk : k.natAbs ≤ 1329227995784915872903807060280344576 := by omega
  obtain ⟨r, c, hr, hc, hA⟩ := rawmade_ok v g0.1 g1.1
  obtain ⟨r', c', hr', hc', hB⟩ := rawmade_ok u g3.1 g4.1
  obtain ⟨a, ea⟩ : ∃ a, a = table r c (fillG c v) := ⟨_, rfl⟩
  obtain ⟨b, eb⟩ : ∃ b, b = table r' c' (fillG c' u) := ⟨_, rfl⟩
  have ma : Mx r c a := ea ▸ table_mx _ _ _
  have mb : Mx r' c' b := eb ▸ table_mx _ _ _
  have ka : BdM 9 a := ea ▸ filled_bd
  have kb : BdM 9 b := eb ▸ filled_bd
  rw [← ea] at hA
  rw [← eb] at hB
  clear ea eb
  have up : ∀ {m : List (List Int)}, BdM 9 m → BdM 1329227995784915872903807060280344576 m := fun h => h.mono (by omega)
  have sa : SzM a := ka.sz (by decide)
  have sb : SzM b := kb.sz (by decide)
  obtain ⟨r1, c1, m1, e1, p1, q1, f1⟩ := both_add ma mb ka kb hr hc hr' hc'
  obtain ⟨r2, c2, m2, e2, p2, q2, f2⟩ := both_sub ma mb ka kb hr hc hr' hc'
  obtain ⟨r3, c3, m3, e3, p3, q3, f3⟩ := both_mul ma mb ka kb hr hc hr' hc'
  obtain ⟨r4, c4, m4, e4, p4, q4, f4⟩ := both_stack ma mb ka kb hr hc hr' hc'
  obtain ⟨r5, c5, m5, e5, p5, q5, f5⟩ := both_beside ma mb ka kb hr hc hr' hc'
  have ne : ∀ {e : Int} {X : Prop}, (e != e) = true → X := fun h => by simp at h
  have nt : ∀ {X : Prop}, (!true) = true → X := fun h => by simp at h
  refine vc12_ok _ _ _ _ _ _ _ (R := Out _) ?_
  unfold vc12
  refine ⟨true, sanity_ok, _, _, _, _, _, _, hA, hB, ?_⟩
  simp only [matD_om]
  refine ⟨_, _, _, _, p1, _, _, _, _, q1, _, _, _, _, p2, _, _, _, _, q2, _, _, _, _, p3, _, _, _, _, q3, true, f1.same, nt, fun _ => ⟨ne, fun _ => ⟨true, f2.same, nt, fun _ => ⟨ne, fun _ => ⟨true, f3.same, nt, fun _ => ⟨ne, fun _ => ?_⟩⟩⟩⟩⟩⟩
  refine ⟨_, _, _, _, p4, _, _, _, _, q4, _, _, _, _, p5, _, _, _, _, q5, true, f4.same, nt, fun _ => ⟨ne, fun _ => ⟨true, f5.same, nt, fun _ => ⟨ne, fun _ => ?_⟩⟩⟩⟩
  have n1 : FnD prog 62 [vi r, vi c'] (eM r c' (table r c' fun _ _ => 0)) [] := mnew_ok (by omega) (by omega)
  have n2 : FnD prog 33 [vi r, vi c'] (eM r c' (table r c' fun _ _ => 0)) [] := FnD.frz (rnew_ok (by omega) (by omega))
  have fn : Fine r c' (table r c' fun _ _ => 0) := ⟨table_mx _ _ _, table_bd fun _ _ _ _ => by decide, by omega, by omega⟩
  have i1 : FnD prog 56 [vi r] (eM r r (table r r delta)) [] := mident_ok (by omega)
  have i2 : FnD prog 49 [vi r] (eM r r (table r r delta)) [] := FnD.frz (rident_ok (by omega))
  have fi : Fine r r (table r r delta) := ⟨table_mx _ _ _, (ident_bd r).mono (by omega), by omega, by omega⟩
  have s1 : FnD prog 63 [eM r c a, eI k] (eM r c (table r c fun i j => el a i j * k)) [] := mscale_ok ma (up ka) kk (by omega) (by omega) (Nat.le_refl _)
  have s2 : FnD prog 64 [eM r c a, eI k] (eM r c (table r c fun i j => el a i j * k)) [] := FnD.frz (m5scale_ok ma (up ka) kk (by omega) (by omega) (Nat.le_refl _))
  have fs : Fine r c (table r c fun i j => el a i j * k) := ⟨table_mx _ _ _, table_bd fun i j hi hj => Nat.le_trans (mul_natAbs_le (L := 9223372036854775808) (el_bd ma ka hi hj) (by omega)) (by decide), by omega, by omega⟩
  have t1 : FnD prog 21 [eM r c a] (eM c r (trM r c a)) [] := transpose_ok ma (by omega) (by omega)
  have t2 : FnD prog 39 [eM r c a] (eM c r (trM r c a)) [] := m5transpose_ok ma (by omega) (by omega)
  have ft : Fine c r (trM r c a) := ⟨trM_mx r c a, trM_bd ma (up ka), by omega, by omega⟩
  have w := rof_ok k k1 k2
  refine ⟨_, _, _, _, _, _, true, n1, n2, fn.same, fun _ => ⟨_, _, _, _, _, _, true, i1, i2, fi.same, fun _ => ⟨_, _, _, _, _, _, _, _, _, _, true, w, s1, w, s2, fs.same, fun _ => ?_, fun h => nomatch h⟩, fun h => nomatch h⟩, fun h => nomatch h⟩
  have ca : ∀ x ∈ a, x.length ≤ 4294967296 := ma.cols (by omega)
  have la : a.length ≤ 4294967296 := by rw [ma.1]; omega
  have eq1 := equal_ok (r := (r : Int)) (c := (c : Int)) (r' := (r' : Int)) (c' := (c' : Int)) sa sb la ca
  have sm1 := same_ok (r := (r : Int)) (c := (c : Int)) (r' := (r' : Int)) (c' := (c' : Int)) sa sb la ca
  have eq2 := equal_ok (r := (r : Int)) (c := (c : Int)) (r' := (r : Int)) (c' := (c : Int)) sa sa la ca
  rw [show decide ((r : Int) = r ∧ (c : Int) = c ∧ a = a) = true by simp] at eq2
  have cp : FnD prog 66 [eM r c a] (eM r c a) [] := FnD.frz (m5copied_ok ma (up ka) (by omega) (by omega) (Nat.le_refl _))
  refine ⟨_, _, _, _, _, _, true, t1, t2, ft.same, fun _ => ⟨_, _, eq1, sm1, fun _ => ⟨_, _, _, true, cp, eq2, fun _ => ⟨rfl, rfl⟩, fun h => nomatch h⟩, fun h => ?_⟩, fun h => nomatch h⟩
  simp at h

end Go.AM
