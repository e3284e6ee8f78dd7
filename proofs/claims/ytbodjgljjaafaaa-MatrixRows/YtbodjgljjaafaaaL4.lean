/- The law of the ring of matrices. -/
import Derived.Test.YtbodjgljjaafaaaL3
namespace Go.AM
open Go.Proofs.Try

/-- 'Three' opened: bytes in lists. -/
theorem i8s_of {l : List (List D)} (h : l.length ≤ 9223372036854775807 ∧ ∀ x ∈ l, DOKL [.i .i8] x) : ∃ zs : List Int, l = i8s zs ∧ ∀ z ∈ zs, -128 ≤ z ∧ z ≤ 127 := by
  obtain ⟨zs, h1, h2⟩ := ints_of h.2
  exact ⟨zs, h1, h2⟩

abbrev BIG : Nat := 1329227995784915872903807060280344576

theorem ring_ok (x0 : Int) (g0 : IntKind.u8.min ≤ x0 ∧ x0 ≤ IntKind.u8.max) (x1 : Int) (g1 : IntKind.u8.min ≤ x1 ∧ x1 ≤ IntKind.u8.max) (x2 : Int) (g2 : IntKind.u8.min ≤ x2 ∧ x2 ≤ IntKind.u8.max) (x3 : Int) (g3 : IntKind.u8.min ≤ x3 ∧ x3 ≤ IntKind.u8.max)
    (l4 : List (List D)) (g4 : l4.length ≤ 9223372036854775807 ∧ ∀ x ∈ l4, DOKL [.i .i8] x) (l5 : List (List D)) (g5 : l5.length ≤ 9223372036854775807 ∧ ∀ x ∈ l5, DOKL [.i .i8] x) (l6 : List (List D)) (g6 : l6.length ≤ 9223372036854775807 ∧ ∀ x ∈ l6, DOKL [.i .i8] x)
    (l7 : List (List D)) (g7 : l7.length ≤ 9223372036854775807 ∧ ∀ x ∈ l7, DOKL [.i .i8] x) :
    FnD prog 11 [.e (.agg [.dat (.int .u8 x0), .dat (.int .u8 x1), .dat (.int .u8 x2), .dat (.int .u8 x3), .dat (.sl l4), .dat (.sl l5), .dat (.sl l6)]), .e (.sc (.dat (.sl l7)))] (vb true) [] := by
  obtain ⟨a, rfl, _⟩ := i8s_of g4
  obtain ⟨b, rfl, _⟩ := i8s_of g5
  obtain ⟨c, rfl, _⟩ := i8s_of g6
  obtain ⟨d, rfl, _⟩ := i8s_of g7
  obtain ⟨n0, n1, n2, n3, b0, b1, b2, b3, hchain⟩ := chain_ok a b c g0.1 g1.1 g2.1 g3.1
  obtain ⟨A, hA⟩ : ∃ A, A = table n0 n1 (fillG n1 a) := ⟨_, rfl⟩
  obtain ⟨B, hB⟩ : ∃ B, B = table n1 n2 (fillG n2 b) := ⟨_, rfl⟩
  obtain ⟨C, hC⟩ : ∃ C, C = table n2 n3 (fillG n3 c) := ⟨_, rfl⟩
  obtain ⟨B2, hB2⟩ : ∃ B2, B2 = table n1 n2 (fillG n2 d) := ⟨_, rfl⟩
  have mA : Mx n0 n1 A := hA ▸ table_mx _ _ _
  have mB : Mx n1 n2 B := hB ▸ table_mx _ _ _
  have mC : Mx n2 n3 C := hC ▸ table_mx _ _ _
  have mB2 : Mx n1 n2 B2 := hB2 ▸ table_mx _ _ _
  have kA : BdM 9 A := hA ▸ filled_bd
  have kB : BdM 9 B := hB ▸ filled_bd
  have kC : BdM 9 C := hC ▸ filled_bd
  have kB2 : BdM 9 B2 := hB2 ▸ filled_bd
  have hfill := filled_ok (r := n1) (c := n2) (v := d) (by omega) (by omega)
  rw [← hA, ← hB, ← hC] at hchain
  rw [← hB2] at hfill
  clear hA hB hC hB2
  have big : ∀ K : Nat, K ≤ 1000000 → K ≤ BIG := fun K h => by unfold BIG; omega
  have mAB := mmul_mx n0 n1 n2 A B
  have kAB : BdM 1000 (mmul n0 n1 n2 A B) := (mmul_bd mA mB kA kB).mono (by omega)
  have mBC := mmul_mx n1 n2 n3 B C
  have kBC : BdM 1000 (mmul n1 n2 n3 B C) := (mmul_bd mB mC kB kC).mono (by omega)
  have mS := mcomb_mx n1 n2 (· + ·) B B2
  have kS : BdM 1000 (mcomb n1 n2 (· + ·) B B2) := (mcomb_bd mB mB2 kB kB2).1.mono (by omega)
  have mO := mmul_mx n0 n1 n2 A B2
  have kO : BdM 1000 (mmul n0 n1 n2 A B2) := (mmul_bd mA mB2 kA kB2).mono (by omega)
  have mI : Mx n1 n1 (table n1 n1 delta) := table_mx _ _ _
  have kI := (ident_bd n1).mono (L := 1000) (by omega)
  have up : ∀ {m : List (List Int)}, BdM 9 m → BdM 1000 m := fun h => h.mono (by omega)
  refine vc11_ok _ _ _ _ _ _ _ _ (R := Out _) ?_
  unfold vc11
  refine ⟨true, sanity_ok, _, _, _, _, _, _, _, _, _, hchain, _, _, _, hfill, ?_⟩
  simp only [matD_om]
  refine ⟨_, _, _, _, mmul_ok mA mB kA kB (by omega) (by omega) (by omega) (by omega), _, _, _, _, mmul_ok mB mC kB kC (by omega) (by omega) (by omega) (by omega), _, _, _, _, madd_ok mB mB2 kB kB2 (by omega) (by omega) (by omega),
    _, _, _, _, madd_ok mB2 mB kB2 kB (by omega) (by omega) (by omega), fun h => absurd h (by decide), fun _ => ⟨fun h => absurd h (by decide), fun _ => ⟨fun h => absurd h (by decide), fun _ => ⟨fun h => absurd h (by decide), fun _ => ?_⟩⟩⟩⟩
  refine ⟨true, sized_yes mAB kAB (by omega) (by omega) (big _ (by omega)), fun h => absurd h (by decide), fun _ => ?_⟩
  refine ⟨true, sized_yes mBC kBC (by omega) (by omega) (big _ (by omega)), fun h => absurd h (by decide), fun _ => ?_⟩
  refine ⟨true, sized_yes mS kS (by omega) (by omega) (big _ (by omega)), fun h => absurd h (by decide), fun _ => ?_⟩
  refine ⟨_, _, _, _, mmul_ok mAB mC kAB (up kC) (by omega) (by omega) (by omega) (by omega), _, _, _, _, mmul_ok mA mBC (up kA) kBC (by omega) (by omega) (by omega) (by omega), _, _, _, _, mmul_ok mA mS (up kA) kS (by omega) (by omega) (by omega) (by omega),
    _, _, _, _, mmul_ok mA mB2 kA kB2 (by omega) (by omega) (by omega) (by omega), fun h => absurd h (by decide), fun _ => ⟨fun h => absurd h (by decide), fun _ => ⟨fun h => absurd h (by decide), fun _ => ⟨fun h => absurd h (by decide), fun _ => ?_⟩⟩⟩⟩
  refine ⟨true, sized_yes mO kO (by omega) (by omega) (big _ (by omega)), fun h => absurd h (by decide), fun _ => ?_⟩
  refine ⟨_, _, _, _, madd_ok mAB mO kAB kO (by omega) (by omega) (by omega), _, _, _, _, _, _, _, mident_ok (by omega), mmul_ok mA mI (up kA) kI (by omega) (by omega) (by omega) (by omega), _, _, _, _, msub_ok mS mB2 kS (up kB2) (by omega) (by omega) (by omega),
    fun _ => ⟨fun _ => ⟨fun _ => ?_, fun h => absurd h (by decide)⟩, fun h => absurd h (by decide)⟩, fun h => absurd h (by decide)⟩
  have kL := mmul_bd mAB mC kAB (up kC)
  have kR := mmul_bd mA mBC (up kA) kBC
  have kP := (mcomb_bd mAB mO kAB kO).1
  have kQ := mmul_bd mA mS (up kA) kS
  have L : ∀ n, n ≤ 4 → n * (1000 * 1000) ≤ 4000000 := fun n h => by omega
  refine ⟨true, same_yes (K := 4000000) (mmul_mx _ _ _ _ _) (kL.mono (L _ b2)) (kR.mono (L _ b1)) (mmul_assoc A B C) (by omega) (by omega) (by omega), fun _ => ?_, fun h => nomatch h⟩
  refine ⟨true, same_yes (K := 4000000) (mmul_mx _ _ _ _ _) (kQ.mono (L _ b1)) (kP.mono (by omega)) (mmul_add_right A B B2) (by omega) (by omega) (by omega), fun _ => ?_, fun h => nomatch h⟩
  refine ⟨true, same_yes (K := 1000) mS kS (mcomb_comm n1 n2 B B2 ▸ kS) (mcomb_comm n1 n2 B B2) (by omega) (by omega) (by omega), fun _ => ?_, fun h => nomatch h⟩
  refine ⟨true, same_yes (K := 1000) (mmul_mx _ _ _ _ _) ((mmul_ident mA).symm ▸ up kA) (up kA) (mmul_ident mA) (by omega) (by omega) (by omega), fun _ => ?_, fun h => nomatch h⟩
  refine ⟨true, same_yes (K := 1000) (mcomb_mx _ _ _ _ _) ((mcomb_sub mB).symm ▸ up kB) (up kB) (mcomb_sub mB) (by omega) (by omega) (by omega), fun _ => ⟨rfl, rfl⟩, fun h => nomatch h⟩

end Go.AM

/- What the functions of package matrix, and of its reference, answer: comparing, picking, blocks of the reference. -/
namespace Go.AM
open Go.Proofs.Try

theorem m5transpose_ok {r c : Nat} {a : List (List Int)} (ha : Mx r c a) (hr : r ≤ 4294967296) (hc : c ≤ 4294967296) :
    FnD prog 39 [eM r c a] (eM c r (trM r c a)) [] := by
  refine vc39_ok _ _ _ (R := Out _) ?_
  unfold vc39
  obtain ⟨g, hg⟩ : ∃ g : Nat → Nat → Nat → Nat → Int, g = fun i j p q => if q < i ∨ (q = i ∧ p < j) then el a q p else 0 := ⟨_, rfl⟩
  refine ⟨_, _, _, rnew_ok hc hr, fun o t => ∃ i : Nat, t = (i : Int) ∧ i ≤ r ∧ o = om (table c r (g i 0)), fun _ t => ((r : Int) - t).toNat, ⟨0, rfl, by omega, ?_⟩, ?_⟩
  · congr 1; exact table_congr fun p q _ _ => by subst hg; simp
  rintro _ _ ⟨i, rfl, hi, rfl⟩
  refine ⟨fun h => ?_, fun h => ?_⟩
  · have hir : i < r := by simpa using h
    refine ⟨fun o t => ∃ j : Nat, t = (j : Int) ∧ j ≤ c ∧ o = om (table c r (g i j)), fun _ t => ((c : Int) - t).toNat, ⟨0, rfl, by omega, rfl⟩, ?_⟩
    rintro _ _ ⟨j, rfl, hj, rfl⟩
    refine ⟨fun h2 => ?_, fun h2 => ?_⟩
    · have hjc : j < c := by simpa using h2
      obtain ⟨e1, e2, e3, e4⟩ := read_el ha hir hjc
      refine ⟨_, _, _, ⟨by omega, by rw [om_len]; omega⟩, ⟨by omega, e4⟩, e1, ⟨by omega, e3⟩, e2, om_in hjc hir, ?_⟩
      rw [inc64 (by omega)]
      refine ⟨⟨j + 1, rfl, by omega, ?_⟩, by show ((c : Int) - ((j + 1 : Nat) : Int)).toNat < ((c : Int) - (j : Int)).toNat; omega⟩
      rw [Int.toNat_natCast, Int.toNat_natCast]
      refine Eq.trans (om_set (z := el a i j) hjc hir) ?_
      congr 1
      refine table_congr fun p q _ _ => ?_
      subst hg
      by_cases h1 : p = j ∧ q = i
      · obtain ⟨rfl, rfl⟩ := h1
        rw [if_pos ⟨rfl, rfl⟩]; simp
      · rw [if_neg h1]
        by_cases h3 : q < i ∨ (q = i ∧ p < j)
        · simp only [if_pos h3]; rw [if_pos (by omega)]
        · simp only [if_neg h3]; rw [if_neg (by omega)]
    · have hjc : c ≤ j := by simpa using h2
      rw [inc64 (by omega)]
      refine ⟨⟨i + 1, rfl, by omega, ?_⟩, by show ((r : Int) - ((i + 1 : Nat) : Int)).toNat < ((r : Int) - (i : Int)).toNat; omega⟩
      congr 1
      refine table_congr fun p q hp _ => ?_
      subst hg
      by_cases h3 : q < i ∨ (q = i ∧ p < j)
      · simp only [if_pos h3]; rw [if_pos (by omega)]
      · simp only [if_neg h3]; rw [if_neg (by omega)]
  · have hir : i = r := by have : r ≤ i := by simpa using h
                           omega
    subst hir
    have e : om (table c i (g i 0)) = om (trM i c a) := by
      congr 1
      refine table_congr fun p q _ hq => ?_
      subst hg; simp only; rw [if_pos (.inl hq)]
    rw [e, matD_om]
    exact ⟨rfl, rfl⟩

theorem om_append (a b : List (List Int)) : om a ++ om b = om (a ++ b) := by simp [om]

theorem m5stack_ok {r s c K : Nat} {a b : List (List Int)} (ha : Mx r c a) (hb : Mx s c b) (ka : BdM K a) (kb : BdM K b) (hr : r ≤ 2147483648) (hs : s ≤ 2147483648) (hc : c ≤ 4294967296) (hK : K ≤ 1329227995784915872903807060280344576) :
    FnD prog 60 [eM r c a, eM s c b] (eME ((r + s : Nat) : Int) c (a ++ b) 0) [] := by
  refine vc60_ok _ _ _ _ _ _ (R := Out _) ?_
  unfold vc60
  have hw : IntKind.i64.wrap ((r : Int) + (s : Int)) = ((r + s : Nat) : Int) := by rw [w64 (by omega) (by omega)]; simp
  rw [hw]
  refine ⟨fun h => by simp at h, fun _ => ⟨_, _, _, m5copied_ok ha ka (by omega) hc hK, _, _, _, m5copied_ok hb kb (by omega) hc hK, ?_, outME ?_⟩⟩
  · rw [om_length, om_length, ha.1, hb.1]; omega
  · rw [om_append, matD_om]

theorem m5stack_bad {r c s c' : Int} {a b : List (List Int)} (h : c ≠ c') : FnD prog 60 [eM r c a, eM s c' b] (eME 0 0 [] 50) [] := by
  refine vc60_ok _ _ _ _ _ _ (R := Out _) ?_
  unfold vc60
  exact ⟨fun _ => ⟨rfl, rfl⟩, fun h2 => absurd (by simpa using h2) h⟩

theorem stack_bad {r c s c' : Int} {a b : List (List Int)} (h : c ≠ c') : FnD prog 25 [eM r c a, eM s c' b] (eME 0 0 [] 50) [] := by
  refine vc25_ok _ _ _ _ _ _ (R := Out _) ?_
  unfold vc25
  exact ⟨fun _ => ⟨rfl, rfl⟩, fun h2 => absurd (by simpa using h2) h⟩

theorem beside_bad {r c r' c' : Int} {a b : List (List Int)} (h : r ≠ r') : FnD prog 26 [eM r c a, eM r' c' b] (eME 0 0 [] 50) [] := by
  refine vc26_ok _ _ _ _ _ _ (R := Out _) ?_
  unfold vc26
  exact ⟨fun _ => ⟨rfl, rfl⟩, fun h2 => absurd (by simpa using h2) h⟩

theorem m5beside_bad {r c r' c' : Int} {a b : List (List Int)} (h : r ≠ r') : FnD prog 61 [eM r c a, eM r' c' b] (eME 0 0 [] 50) [] := by
  refine vc61_ok _ _ _ _ _ _ (R := Out _) ?_
  unfold vc61
  exact ⟨fun _ => ⟨rfl, rfl⟩, fun h2 => absurd (by simpa using h2) h⟩

theorem m5beside_ok {r c d : Nat} {a b : List (List Int)} (ha : Mx r c a) (hb : Mx r d b) (hr : r ≤ 2147483648) (hc : c ≤ 2147483648) (hd : d ≤ 2147483648) :
    FnD prog 61 [eM r c a, eM r d b] (eME r ((c + d : Nat) : Int) (table r (c + d) fun i j => if j < c then el a i j else el b i (j - c)) 0) [] := by
  refine vc61_ok _ _ _ _ _ _ (R := Out _) ?_
  unfold vc61
  obtain ⟨f, hf⟩ : ∃ f : Nat → Nat → Int, f = fun i j => if j < c then el a i j else el b i (j - c) := ⟨_, rfl⟩
  have hw : IntKind.i64.wrap ((c : Int) + (d : Int)) = ((c + d : Nat) : Int) := by rw [w64 (by omega) (by omega)]; simp
  rw [hw, ← hf]
  refine ⟨fun h => by simp at h, fun _ => ?_⟩
  refine ⟨_, _, _, rnew_ok (by omega) (by omega), fun o t => ∃ i : Nat, t = (i : Int) ∧ i ≤ r ∧ o = om (table r (c + d) (gF f i 0)), fun _ t => ((r : Int) - t).toNat, ⟨0, rfl, by omega, gF_zero f⟩, ?_⟩
  rintro _ _ ⟨i, rfl, hi, rfl⟩
  refine ⟨fun h => ?_, fun h => outME ?_⟩
  · have hir : i < r := by simpa using h
    refine ⟨fun o t => ∃ j : Nat, t = (j : Int) ∧ j ≤ c ∧ o = om (table r (c + d) (gF f i j)), fun _ t => ((c : Int) - t).toNat, ⟨0, rfl, by omega, rfl⟩, ?_⟩
    rintro _ _ ⟨j, rfl, hj, rfl⟩
    refine ⟨fun h2 => ?_, fun h2 => ?_⟩
    · have hjc : j < c := by simpa using h2
      obtain ⟨e1, e2, e3, e4⟩ := read_el ha hir hjc
      refine ⟨_, _, _, ⟨by omega, by rw [om_len]; omega⟩, ⟨by omega, e4⟩, e1, ⟨by omega, e3⟩, e2, om_in hir (by omega), ?_⟩
      rw [inc64 (by omega)]
      refine ⟨⟨j + 1, rfl, by omega, ?_⟩, by show ((c : Int) - ((j + 1 : Nat) : Int)).toNat < ((c : Int) - (j : Int)).toNat; omega⟩
      rw [Int.toNat_natCast, Int.toNat_natCast]
      have e : el a i j = f i j := by subst hf; simp only [if_pos hjc]
      have := gF_step (r := r) (c := c + d) (f := f) hir (j := j) (by omega)
      rw [← e] at this
      exact this
    · have hjc : j = c := by have : c ≤ j := by simpa using h2
                             omega
      subst hjc
      refine ⟨fun o t => ∃ k : Nat, t = (k : Int) ∧ k ≤ d ∧ o = om (table r (j + d) (gF f i (j + k))), fun _ t => ((d : Int) - t).toNat, ⟨0, rfl, by omega, rfl⟩, ?_⟩
      rintro _ _ ⟨k, rfl, hk, rfl⟩
      refine ⟨fun h3 => ?_, fun h3 => ?_⟩
      · have hkd : k < d := by simpa using h3
        obtain ⟨e1, e2, e3, e4⟩ := read_el hb hir hkd
        have hw3 : IntKind.i64.wrap ((j : Int) + (k : Int)) = ((j + k : Nat) : Int) := by rw [w64 (by omega) (by omega)]; simp
        rw [hw3]
        refine ⟨_, _, _, ⟨by omega, by rw [om_len]; omega⟩, ⟨by omega, e4⟩, e1, ⟨by omega, e3⟩, e2, om_in hir (by omega), ?_⟩
        rw [inc64 (by omega)]
        refine ⟨⟨k + 1, rfl, by omega, ?_⟩, by show ((d : Int) - ((k + 1 : Nat) : Int)).toNat < ((d : Int) - (k : Int)).toNat; omega⟩
        rw [Int.toNat_natCast, Int.toNat_natCast]
        have e : el b i k = f i (j + k) := by subst hf; simp only [if_neg (show ¬ j + k < j by omega), Nat.add_sub_cancel_left]
        have := gF_step (r := r) (c := j + d) (f := f) hir (j := j + k) (by omega)
        rw [← e] at this
        exact this
      · have hkd : k = d := by have : d ≤ k := by simpa using h3
                               omega
        subst hkd
        rw [inc64 (by omega)]
        exact ⟨⟨i + 1, rfl, by omega, gF_next fun b h1 h2 => by omega⟩, by show ((r : Int) - ((i + 1 : Nat) : Int)).toNat < ((r : Int) - (i : Int)).toNat; omega⟩
  · have hir : i = r := by have : r ≤ i := by simpa using h
                           omega
    subst hir
    rw [gF_all, matD_om]

/-! ### Comparing -/

theorem cmp_zero (x y : Int) : (cmpI x y == 0) = decide (x = y) := by
  unfold cmpI
  by_cases h1 : x < y
  · simp [h1]; omega
  · by_cases h2 : y < x
    · simp [h1, h2]; omega
    · simp [h1, h2]; omega

theorem same118_ok {x y : Int} (hx : Sz x) (hy : Sz y) : FnD prog 118 [eI x, eI y] (vb (decide (x = y))) [] := by
  refine vc118_ok _ _ _ _ (R := Out _) ?_
  unfold vc118
  exact ⟨_, cmp_ok hx hy, outb (cmp_zero x y)⟩

theorem eqRow_ok {a b : List Int} (ha : SzR a) (hb : SzR b) (hl : a.length ≤ 4294967296) : FnD prog 117 [vs (row a), vs (row b), .e (.sc (.dat (.fn (.func 118) ([] : List D))))] (vb (decide (a = b))) [] := by
  refine vc117_ok _ _ _ _ (R := Out _) ?_
  unfold vc117
  simp only [row_length]
  refine ⟨fun h => outb ?_, fun h => ?_⟩
  · have h : ¬ ((a.length : Int) = (b.length : Int)) := by simpa using h
    rw [eq_comm, decide_eq_false_iff_not]
    intro e; subst e; exact h rfl
  · have hlen : a.length = b.length := by
      have : (a.length : Int) = (b.length : Int) := by simpa using h
      omega
    refine ⟨fun t => ∃ i : Nat, t = (i : Int) ∧ i ≤ a.length ∧ ∀ k, k < i → elr a k = elr b k, fun t => ((a.length : Int) - t).toNat, ⟨0, rfl, by omega, fun k hk => by omega⟩, ?_⟩
    rintro _ ⟨i, rfl, hi, hinv⟩
    refine ⟨fun h2 => ?_, fun h2 => outb ?_⟩
    · have hia : i < a.length := by simpa using h2
      have hib : i < b.length := by omega
      refine ⟨_, _, ⟨by omega, by omega⟩, row_getN hia, _, _, ⟨by omega, by omega⟩, row_getN hib, decide (elr a i = elr b i), same118_ok (ha _ (elr_mem hia)) (hb _ (elr_mem hib)), fun h3 => outb ?_, fun h3 => ?_⟩
      · rw [eq_comm, decide_eq_false_iff_not]
        intro e; subst e; simp at h3
      · have he : elr a i = elr b i := by simpa using h3
        rw [inc64 (by omega)]
        refine ⟨⟨i + 1, rfl, by omega, fun k hk => ?_⟩, by show ((a.length : Int) - ((i + 1 : Nat) : Int)).toNat < ((a.length : Int) - (i : Int)).toNat; omega⟩
        by_cases hki : k = i
        · subst hki; exact he
        · exact hinv k (by omega)
    · have hia : i = a.length := by have : a.length ≤ i := by simpa using h2
                                    omega
      have : a = b := list_ext hlen fun k hk => hinv k (by omega)
      simp [this]

theorem eqRows_ok {a b : List (List Int)} (ha : SzM a) (hb : SzM b) (hl : a.length ≤ 4294967296) (hc : ∀ x ∈ a, x.length ≤ 4294967296) :
    FnD prog 115 [vs (rows a), vs (rows b), .e (.sc (.dat (.fn (.func 116) ([] : List D))))] (vb (decide (a = b))) [] := by
  refine vc115_ok _ _ _ _ (R := Out _) ?_
  unfold vc115
  simp only [rows_length]
  refine ⟨fun h => outb ?_, fun h => ?_⟩
  · have h : ¬ ((a.length : Int) = (b.length : Int)) := by simpa using h
    rw [eq_comm, decide_eq_false_iff_not]
    intro e; subst e; exact h rfl
  · have hlen : a.length = b.length := by
      have : (a.length : Int) = (b.length : Int) := by simpa using h
      omega
    refine ⟨fun t => ∃ i : Nat, t = (i : Int) ∧ i ≤ a.length ∧ ∀ k, k < i → a.getD k [] = b.getD k [], fun t => ((a.length : Int) - t).toNat, ⟨0, rfl, by omega, fun k hk => by omega⟩, ?_⟩
    rintro _ ⟨i, rfl, hi, hinv⟩
    refine ⟨fun h4 => ?_, fun h4 => outb ?_⟩
    · have hia : i < a.length := by simpa using h4
      have hib : i < b.length := by omega
      have e116 : FnD prog 116 [vs (row (a.getD i [])), vs (row (b.getD i []))] (vb (decide (a.getD i [] = b.getD i []))) [] := by
        refine vc116_ok _ _ (R := Out _) ?_
        unfold vc116
        exact ⟨_, eqRow_ok (ha _ (getD_mem hia)) (hb _ (getD_mem hib)) (hc _ (getD_mem hia)), rfl, rfl⟩
      refine ⟨_, ⟨by omega, by omega⟩, rows_getN hia, _, ⟨by omega, by omega⟩, rows_getN hib, decide (a.getD i [] = b.getD i []), e116, fun h5 => outb ?_, fun h5 => ?_⟩
      · rw [eq_comm, decide_eq_false_iff_not]
        rintro e; subst e; simp at h5
      · have he : a.getD i [] = b.getD i [] := by simpa using h5
        rw [inc64 (by omega)]
        refine ⟨⟨i + 1, rfl, by omega, fun k hk => ?_⟩, by show ((a.length : Int) - ((i + 1 : Nat) : Int)).toNat < ((a.length : Int) - (i : Int)).toNat; omega⟩
        by_cases hki : k = i
        · subst hki; exact he
        · exact hinv k (by omega)
    · have hia : i = a.length := by have : a.length ≤ i := by simpa using h4
                                    omega
      have : a = b := lists_ext hlen fun k hk => hinv k (by omega)
      simp [this]

theorem equal_ok {r c r' c' : Int} {a b : List (List Int)} (ha : SzM a) (hb : SzM b) (hl : a.length ≤ 4294967296) (hc : ∀ x ∈ a, x.length ≤ 4294967296) :
    FnD prog 65 [eM r c a, eM r' c' b] (vb (decide (r = r' ∧ c = c' ∧ a = b))) [] := by
  refine vc65_ok _ _ _ _ _ _ (R := Out _) ?_
  unfold vc65
  refine ⟨_, _, _, _, size_ok r c a, size_ok r' c' b, fun h => ⟨_, eqRows_ok ha hb hl hc, outb ?_⟩, fun h => outb ?_⟩
  · have h : r = r' ∧ c = c' := by simpa using h
    simp [h.1, h.2]
  · rw [eq_comm, decide_eq_false_iff_not]
    rintro ⟨rfl, rfl, _⟩
    simp at h

theorem mscale_ok {r c K : Nat} {a : List (List Int)} {k : Int} (ha : Mx r c a) (ka : BdM K a) (hk : k.natAbs ≤ 1329227995784915872903807060280344576) (hr : r ≤ 4294967296) (hc : c ≤ 4294967296) (hK : K ≤ 1329227995784915872903807060280344576) :
    FnD prog 63 [eM r c a, eI k] (eM r c (table r c fun i j => el a i j * k)) [] := by
  refine vc63_ok _ _ _ _ _ (R := Out _) ?_
  unfold vc63
  refine ⟨_, _, _, build_ok hr hc (g := fun i j => el a i j * k) fun i j hi hj => ?_, rfl, rfl⟩
  refine vc112_ok _ _ _ _ _ _ _ (R := Out _) ?_
  unfold vc112
  obtain ⟨e1, e2, e3, e4⟩ := read_el ha hi hj
  have := mul_ok (x := k) (y := el a i j) (sz_le hk (Nat.le_refl _)) (sz_le (el_bd ha ka hi hj) hK)
  rw [Int.mul_comm] at this
  exact ⟨_, _, _, _, _, ⟨by omega, e4⟩, e1, ⟨by omega, e3⟩, e2, this, rfl, rfl⟩

/-- A described matrix. -/
theorem rawmade_ok {x y : Int} (v : List Int) (hx : 0 ≤ x) (hy : 0 ≤ y) : ∃ r c : Nat, r ≤ 4 ∧ c ≤ 4 ∧
    FnD prog 15 [.e (.agg [.dat (.int .u8 x), .dat (.int .u8 y), .dat (.sl (i8s v))])] (eMo r c) (oM (table r c (fillG c v))) := by
  obtain ⟨r, e0, b0⟩ := mod5 hx
  obtain ⟨c, e1, b1⟩ := mod5 hy
  refine ⟨r, c, b0, b1, ?_⟩
  refine vc15_ok _ _ _ (R := OutM r c _) ?_
  unfold vc15
  rw [e0, e1]
  exact ⟨_, _, _, by decide, filled_ok (by omega) (by omega), outM rfl⟩

end Go.AM

/- What functions of the program come to: group P7. Printed by vc.py. -/
set_option maxRecDepth 100000
set_option linter.unusedVariables false

namespace Go.AM
open Go.Proofs.Try

/- f7 torsion/torsionlaw05.MatrixRows -/
def vc7 (x0 : Int) (x1 : Int) (x2 : List (List D)) (v : List (List D)) (n : Int) (R : V → Heap → Prop) : Prop :=
  ∃ (r : Bool),
  (FnD prog 14 [] (vD (dB r)) []) ∧
  (∃ (r0 : Int) (r1 : Int) (rrows : List (List (List D))) (r2 : List (List D)),
  (FnD prog 15 [(vA [(sD (D.int .u8 x0)), (sD (D.int .u8 x1)), (sD (dL x2))])] (vA [(sD (dI r0)), (sD (dI r1)), (S.ref 0)]) [(some (Obj.mat 2 rrows))]) ∧
  ((5 : Int) ≠ 0) ∧
  (FnD prog 34 [(vD (dL v)), (vD (dI (IntKind.i64.wrap (n.tmod (5 : Int)))))] (vD (dL r2)) []) ∧
  (∃ (r3 : List (List D)) (r4 : Int),
  (FnD prog 35 [(vD (dL r2)), (vA [(sD (dI r0)), (sD (dI r1)), (sD (dL (matD rrows)))])] (V.tup [(eD (dL r3)), (eD (dI r4))]) []) ∧
  ((((r2.length : Int) != r0) = true →
    ((r4 == (50 : Int)) = true →
      (((r3.length : Int) == (0 : Int)) = true →
        R (vD (dB r)) []) ∧
      (((r3.length : Int) == (0 : Int)) = false →
        R (vD (dB false)) [])) ∧
    ((r4 == (50 : Int)) = false →
      R (vD (dB false)) [])) ∧
  (((r2.length : Int) != r0) = false →
    ∃ (r01 : Int) (r11 : Int) (r21 : List (List D)) (r02 : Int) (r12 : Int) (r22 : List (List D)) (r5 : Int),
    (FnD prog 36 [(vD (dL r2))] (vA [(sD (dI r01)), (sD (dI r11)), (sD (dL r21))]) []) ∧
    (FnD prog 20 [(vA [(sD (dI r01)), (sD (dI r11)), (sD (dL r21))]), (vA [(sD (dI r0)), (sD (dI r1)), (sD (dL (matD rrows)))])] (V.tup [(E.agg [(sD (dI r02)), (sD (dI r12)), (sD (dL r22))]), (eD (dI r5))]) []) ∧
    (((r4 != (0 : Int)) = true →
      R (vD (dB false)) []) ∧
    ((r4 != (0 : Int)) = false →
      ((r5 != (0 : Int)) = true →
        R (vD (dB false)) []) ∧
      ((r5 != (0 : Int)) = false →
        ∃ (r6 : Bool),
        (FnD prog 22 [(vA [(sD (dI r02)), (sD (dI r12)), (sD (dL r22))]), (vD (dI (1 : Int))), (vD (dI r1))] (vD (dB r6)) []) ∧
        (((!r6) = true →
          R (vD (dB false)) []) ∧
        ((!r6) = false →
          ∃ (vx : List (List D)) (r7 : Bool),
          (0 ≤ (0 : Int) ∧ (0 : Int) < (r22.length : Int)) ∧
          (r22[0]? = some [(dL vx)]) ∧
          (FnD prog 37 [(vD (dL r3)), (vD (dL vx))] (vD (dB r7)) []) ∧
          (((!r7) = true →
            R (vD (dB false)) []) ∧
          ((!r7) = false →
            ∃ (J0 : Int → Prop) (μ0 : Int → Nat),
            J0 (0 : Int) ∧ ∀ (j : Int), J0 j →
              ((decide (j < r1)) = true →
                ∃ (r03 : Int) (r13 : Int) (r23 : List (List D)) (vx1 : List (List D)) (r04 : Bool) (r14 : List (List D)) (r8 : Int),
                (FnD prog 39 [(vA [(sD (dI r0)), (sD (dI r1)), (sD (dL (matD rrows)))])] (vA [(sD (dI r03)), (sD (dI r13)), (sD (dL r23))]) []) ∧
                (0 ≤ j ∧ j < (r23.length : Int)) ∧
                (r23[(j).toNat]? = some [(dL vx1)]) ∧
                (FnD prog 38 [(vD (dL r2)), (vD (dL vx1))] (V.tup [(E.agg [(sD (dB r04)), (sD (dL r14))]), (eD (dI r8))]) []) ∧
                (((r8 != (0 : Int)) = true →
                  R (vD (dB false)) []) ∧
                ((r8 != (0 : Int)) = false →
                  ∃ (x01 : Bool) (x11 : List (List D)) (r9 : Bool),
                  (0 ≤ j ∧ j < (r3.length : Int)) ∧
                  (r3[(j).toNat]? = some [(dB x01), (dL x11)]) ∧
                  (FnD prog 40 [(vA [(sD (dB r04)), (sD (dL r14))]), (vA [(sD (dB x01)), (sD (dL x11))])] (vD (dB r9)) []) ∧
                  (((!r9) = true →
                    R (vD (dB false)) []) ∧
                  ((!r9) = false →
                    J0 (IntKind.i64.wrap (j + (1 : Int))) ∧ μ0 (IntKind.i64.wrap (j + (1 : Int))) < μ0 j))))) ∧
              ((decide (j < r1)) = false →
                ∃ (r05 : Bool) (r15 : List (List D)) (r06 : Bool) (r16 : List (List D)) (r10 : Int),
                (∀ y ∈ r2, y.length = 2) ∧
                ((([] : List (List D)).length + (r2 : List (List D)).length) * 32 ≤ 140737488355328) ∧
                (FnD prog 16 [(vD (dI (1 : Int)))] (vA [(sD (dB r05)), (sD (dL r15))]) []) ∧
                (((([] : List (List D)) ++ r2).length + ([[(dB r05), (dL r15)]] : List (List D)).length) * 32 ≤ 140737488355328) ∧
                (FnD prog 38 [(vD (dL r2)), (vD (dL ((([] : List (List D)) ++ r2) ++ [[(dB r05), (dL r15)]])))] (V.tup [(E.agg [(sD (dB r06)), (sD (dL r16))]), (eD (dI r10))]) []) ∧
                (((r10 == (50 : Int)) = true →
                  ∃ (r17 : Bool) (r18 : Bool),
                  (FnD prog 41 [(vD (dL r2))] (vD (dB r17)) []) ∧
                  (FnD prog 42 [(vD (dL r2))] (vD (dB r18)) []) ∧
                  (((r17 == r18) = true →
                    R (vD (dB r)) []) ∧
                  ((r17 == r18) = false →
                    R (vD (dB false)) []))) ∧
                ((r10 == (50 : Int)) = false →
                  R (vD (dB false)) []))))))))))))))

theorem vc7_ok (x0 : Int) (x1 : Int) (x2 : List (List D)) (v : List (List D)) (n : Int) {R : V → Heap → Prop} (h : vc7 x0 x1 x2 v n R) : FnG prog 7 [(vA [(sD (D.int .u8 x0)), (sD (D.int .u8 x1)), (sD (dL x2))]), (vD (dL v)), (vD (D.int .u8 n))] [] R :=
  FnG.vcg hT func7 ntmps7 (.reg 1 [(0, Or.none, 0, 1)] [1, 2, 3] [0] [] <| .exb fun r => .reg 0 [(0, (Or.call (vD (dB r)) [] []), 0, 0)] [1, 2, 3, 7] [0] [] <| .ex fun r0 => .ex fun r1 => .exm fun rrows => .exl fun r2 => .reg 2 [(1, (Or.call (vA [(sD (dI r0)), (sD (dI r1)), (S.ref 0)]) [(some (Obj.mat 2 rrows))] []), 1, 1), (6, (Or.call (vD (dL r2)) [] []), 0, 0), (7, Or.none, 2, 1)] [7, 8, 9] [2, 1] [] <| .frz [1] <| .exl fun r3 => .ex fun r4 => .reg 0 [(2, (Or.call (V.tup [(eD (dL r3)), (eD (dI r4))]) [] []), 0, 0)] [7, 8, 9, 10, 11] [0] [] <| .r1 [7, 8, 9, 10, 11, 37] [0] <| .c2 (.spl ((r4 == (50 : Int))) (.spl (((r3.length : Int) == (0 : Int))) (.reg 0 [(2, (Or.bool true), 0, 0), (7, (Or.bool true), 0, 0)] [6] [] [.old 1, .old 0] <| .ret []) (.reg 0 [(2, (Or.bool true), 0, 0), (7, (Or.bool false), 0, 0)] [6] [] [.old 1, .old 0] <| .ret [])) (.reg 0 [(2, (Or.bool false), 0, 0)] [6] [] [.old 0] <| .ret [])) (.ex fun r01 => .ex fun r11 => .exl fun r21 => .ex fun r02 => .ex fun r12 => .exl fun r22 => .ex fun r5 => .drw 1 [(1, ((Or.call (vA [(sD (dI r01)), (sD (dI r11)), (sD (dL r21))]) [] []), 0, 0), []), (3, ((Or.call (V.tup [(E.agg [(sD (dI r02)), (sD (dI r12)), (sD (dL r22))]), (eD (dI r5))]) [] []), 0, 0), []), (7, (Or.none, 1, 1), [1]), (8, (Or.none, 0, 0), [1])] [7, 8, 9, 10, 11, 12, 13] [0, 1] [] <| .spl ((r4 != (0 : Int))) (.reg 0 [(2, (Or.bool true), 0, 0)] [7, 8, 9, 10, 76] [0] [.old 0] <| .ct true none <| .r0 [6] <| .ret []) (.spl ((r5 != (0 : Int))) (.reg 0 [(2, (Or.bool false), 0, 0), (6, (Or.bool true), 0, 0)] [7, 8, 9, 10, 76] [0] [.old 1, .old 0] <| .ct true none <| .r0 [6] <| .ret []) (.exb fun r6 => .ob (FnD prog 22 [(vA [(sD (dI r02)), (sD (dI r12)), (sD (dL r22))]), (vD (dI (1 : Int))), (vD (dI r1))] (vD (dB r6)) []) <| .spl ((!r6)) (.reg 0 [(2, (Or.bool false), 0, 0), (6, (Or.bool false), 0, 0), (10, (Or.call (vD (dB r6)) [] []), 0, 0), (13, (Or.bool true), 0, 0)] [7, 8, 9, 10, 76] [0] [.old 3, .old 2, .old 1, .old 0] <| .ct true none <| .r0 [6] <| .ret []) (.exl fun vx => .exb fun r7 => .reg 0 [(2, (Or.bool false), 0, 0), (6, (Or.bool false), 0, 0), (10, (Or.call (vD (dB r6)) [] []), 0, 0), (13, (Or.bool false), 0, 0), (18, (Or.cells [(dL vx)]), 0, 0), (19, (Or.call (vD (dB r7)) [] []), 0, 0)] [7, 8, 9, 10, 76] [0] [.old 3, .old 2, .old 1, .old 0] <| .c2 (.r0 [6] <| .ret []) (.r1 [7, 8, 9, 10, 14] [0] <| .lp [.i] (fun j => ⟨[(7, (vD (dB r))), (8, (vP 0 0)), (9, (vD (dL r2))), (10, (vD (dL r3))), (14, (vD (dI j)))], [(some (Obj.box [(sD (dI r0)), (sD (dI r1)), (sD (dL (matD rrows)))]))], 128⟩) [.i (0 : Int)] <| .fi fun j => .beg <| .r1 [7, 8, 9, 10, 14, 80] [0] <| .c2 (.ex fun r03 => .ex fun r13 => .exl fun r23 => .exl fun vx1 => .exb fun r04 => .exl fun r14 => .ex fun r8 => .reg 1 [(2, (Or.call (vA [(sD (dI r03)), (sD (dI r13)), (sD (dL r23))]) [] []), 0, 0), (6, (Or.cells [(dL vx1)]), 0, 0), (7, (Or.call (V.tup [(E.agg [(sD (dB r04)), (sD (dL r14))]), (eD (dI r8))]) [] []), 0, 0), (11, Or.none, 1, 1)] [7, 8, 9, 10, 14, 15, 16] [0, 1] [] <| .spl ((r8 != (0 : Int))) (.drw 0 [(2, ((Or.bool true), 0, 0), [])] [7, 8, 9, 10, 14, 104] [0] [.old 0] <| .ct true none <| .r0 [6] <| .ret []) (.exb fun x01 => .exl fun x11 => .exb fun r9 => .drw 0 [(2, ((Or.bool false), 0, 0), []), (7, ((Or.cells [(dB x01), (dL x11)]), 0, 0), []), (8, ((Or.call (vD (dB r9)) [] []), 0, 0), [])] [7, 8, 9, 10, 14, 104] [0] [.old 0] <| .c2 (.r0 [6] <| .ret []) (.r1 [7, 8, 9, 10, 14] [0] <| .bk 0 [.i (IntKind.i64.wrap (j + (1 : Int)))]))) (.exb fun r05 => .exl fun r15 => .exb fun r06 => .exl fun r16 => .ex fun r10 => .reg 5 [(1, Or.none, 1, 1), (3, Or.none, 2, 1), (4, (Or.call (vA [(sD (dB r05)), (sD (dL r15))]) [] []), 0, 0), (5, Or.none, 3, 1), (6, Or.frz, 4, 1), (7, (Or.call (V.tup [(E.agg [(sD (dB r06)), (sD (dL r16))]), (eD (dI r10))]) [] []), 0, 0), (11, Or.none, 5, 1)] [7, 9, 18] [] [] <| .spl ((r10 == (50 : Int))) (.exb fun r17 => .exb fun r18 => .ob (FnD prog 41 [(vD (dL r2))] (vD (dB r17)) []) <| .ob (FnD prog 42 [(vD (dL r2))] (vD (dB r18)) []) <| .spl ((r17 == r18)) (.reg 0 [(2, (Or.bool true), 0, 0), (4, (Or.call (vD (dB r17)) [] []), 0, 0), (6, (Or.call (vD (dB r18)) [] []), 0, 0), (9, (Or.bool true), 0, 0)] [6] [] [.old 3, .old 2, .old 1, .old 0] <| .ret []) (.reg 0 [(2, (Or.bool true), 0, 0), (4, (Or.call (vD (dB r17)) [] []), 0, 0), (6, (Or.call (vD (dB r18)) [] []), 0, 0), (9, (Or.bool false), 0, 0)] [6] [] [.old 3, .old 2, .old 1, .old 0] <| .ret [])) (.reg 0 [(2, (Or.bool false), 0, 0)] [6] [] [.old 0] <| .ret []))))))))
    (by kernel_rfl) (by kernel_rfl) (by kernel_rfl) h

end Go.AM

/- The law of rows. -/
namespace Go.AM
open Go.Proofs.Try

theorem vector_ok {n : Nat} (v : List Int) (hn : n ≤ 16) : FnD prog 34 [vs (i8s v), vi n] (vs (row (tableR n (fillG n v 0)))) [] := by
  refine vc34_ok _ _ (R := Out _) ?_
  unfold vc34
  refine ⟨_, _, _, filled_ok (r := 1) (c := n) (v := v) (by omega) hn, ⟨by omega, by simp [om, table]⟩, ?_⟩
  have : (om (table 1 n (fillG n v))).getD 0 [] = row (tableR n (fillG n v 0)) := rfl
  rw [this]; exact ⟨rfl, rfl⟩

theorem row36_ok (r : List Int) : FnD prog 36 [vs (row r)] (eM 1 r.length [r]) [] := by
  refine vc36_ok _ (R := Out _) ?_
  unfold vc36
  rw [row_length]
  exact ⟨rfl, rfl⟩

theorem sgn_ne (z : Int) : ((if z = 0 then (0 : Int) else if z < 0 then -1 else 1) != 0) = decide (z ≠ 0) := by
  by_cases h : z = 0
  · subst h; rfl
  · by_cases h2 : z < 0 <;> simp [h, h2]

theorem rzero_ok {r : List Int} (hl : r.length ≤ 4294967296) : FnD prog 42 [vs (row r)] (vb (!(r.any fun z => decide (z ≠ 0)))) [] := by
  refine vc42_ok _ (R := Out _) ?_
  unfold vc42
  simp only [row_length]
  refine ⟨fun t => ∃ i : Nat, t = (i : Int) ∧ i ≤ r.length ∧ ∀ k, k < i → elr r k = 0, fun t => ((r.length : Int) - t).toNat, ⟨0, rfl, by omega, fun k hk => by omega⟩, ?_⟩
  rintro _ ⟨i, rfl, hi, hinv⟩
  refine ⟨fun h => ?_, fun h => outb ?_⟩
  · have hil : i < r.length := by simpa using h
    refine ⟨_, _, _, ⟨by omega, by omega⟩, row_getN hil, rsign_ok (elr r i), fun h1 => outb ?_, fun h1 => ?_⟩
    · rw [sgn_ne] at h1
      have : (r.any fun z => decide (z ≠ 0)) = true := List.any_eq_true.2 ⟨_, elr_mem hil, h1⟩
      rw [this]; rfl
    · rw [sgn_ne] at h1
      have h1 : elr r i = 0 := by simpa using h1
      rw [inc64 (by omega)]
      refine ⟨⟨i + 1, rfl, by omega, fun k hk => ?_⟩, by show ((r.length : Int) - ((i + 1 : Nat) : Int)).toNat < ((r.length : Int) - (i : Int)).toNat; omega⟩
      by_cases hki : k = i
      · subst hki; exact h1
      · exact hinv k (by omega)
  · have hil : i = r.length := by have : r.length ≤ i := by simpa using h
                                  omega
    subst hil
    have : (r.any fun z => decide (z ≠ 0)) = false := by
      rw [List.any_eq_false]
      intro z hz
      obtain ⟨k, hk, rfl⟩ := List.getElem_of_mem hz
      have := hinv k hk
      rw [elr_get hk] at this
      simp [this]
    rw [this]; rfl

theorem mtimes_bad {r c : Int} {v : List Int} {a : List (List Int)} (h : (v.length : Int) ≠ r) : FnD prog 35 [vs (row v), eM r c a] (eRE [] 50) [] := by
  refine vc35_ok _ _ _ _ (R := Out _) ?_
  unfold vc35
  simp only [row_length]
  exact ⟨fun _ => ⟨rfl, rfl⟩, fun h2 => absurd (by simpa using h2) h⟩

theorem rows_ok (x0 : Int) (g0 : IntKind.u8.min ≤ x0 ∧ x0 ≤ IntKind.u8.max) (x1 : Int) (g1 : IntKind.u8.min ≤ x1 ∧ x1 ≤ IntKind.u8.max) (l2 : List (List D)) (g2 : l2.length ≤ 9223372036854775807 ∧ ∀ x ∈ l2, DOKL [.i .i8] x)
    (l3 : List (List D)) (g3 : l3.length ≤ 9223372036854775807 ∧ ∀ x ∈ l3, DOKL [.i .i8] x) (x4 : Int) (g4 : IntKind.u8.min ≤ x4 ∧ x4 ≤ IntKind.u8.max) :
    FnD prog 7 [.e (.agg [.dat (.int .u8 x0), .dat (.int .u8 x1), .dat (.sl l2)]), .e (.sc (.dat (.sl l3))), .e (.sc (.dat (.int .u8 x4)))] (vb true) [] := by
  obtain ⟨v, rfl, _⟩ := i8s_of g2
  obtain ⟨u, rfl, _⟩ := i8s_of g3
  obtain ⟨r, c, hr, hc, hA⟩ := rawmade_ok v g0.1 g1.1
  obtain ⟨n, hn, bn⟩ := mod5 g4.1
  obtain ⟨a, ea⟩ : ∃ a, a = table r c (fillG c v) := ⟨_, rfl⟩
  obtain ⟨w, ew⟩ : ∃ w, w = tableR n (fillG n u 0) := ⟨_, rfl⟩
  have ma : Mx r c a := ea ▸ table_mx _ _ _
  have ka : BdM 9 a := ea ▸ filled_bd
  have lw : w.length = n := by rw [ew]; simp [tableR]
  have kw : BdR 9 w := fun z hz => by
    rw [ew] at hz
    simp only [tableR, List.mem_map] at hz
    obtain ⟨j, _, rfl⟩ := hz
    exact tmod10 _
  have hw := vector_ok (n := n) u (by omega)
  rw [← ea] at hA
  rw [← ew] at hw
  clear ea ew
  have nt : ∀ {X : Prop}, (!true) = true → X := fun h => by simp at h
  refine vc7_ok _ _ _ _ _ (R := Out _) ?_
  unfold vc7
  rw [hn]
  refine ⟨true, sanity_ok, _, _, _, _, hA, by decide, hw, ?_⟩
  simp only [matD_om, row_length]
  by_cases hwr : n = r
  case neg =>
    refine ⟨_, _, mtimes_bad (by omega), fun _ => ⟨fun _ => ⟨fun _ => ⟨rfl, rfl⟩, fun h => by simp [row] at h⟩, fun h => absurd h (by decide)⟩, fun h => ?_⟩
    exact absurd (by simpa using h) (show ¬ ((w.length : Int) = (r : Int)) by omega)
  subst hwr
  obtain ⟨g, hg⟩ : ∃ g : Nat → Int, g = fun j => dsum (elr w) (fun k => el a k j) n := ⟨_, rfl⟩
  have ht := mtimes_ok ma lw ka kw (by omega) (by omega) (by omega)
  rw [← hg] at ht
  have m1 : Mx 1 n [w] := ⟨rfl, fun x hx => by simp at hx; subst hx; exact lw⟩
  have k1 : BdM 9 [w] := fun x hx => by simp at hx; subst hx; exact kw
  have hm := mmul_ok m1 ma k1 ka (by omega) (by omega) (by omega) (by omega)
  have em : mmul 1 n c [w] a = [tableR c g] := by
    have : mmul 1 n c [w] a = [tableR c fun j => dsum (fun k => el [w] 0 k) (fun k => el a k j) n] := rfl
    rw [this, hg]; rfl
  rw [em] at hm
  have L : ∀ n, n ≤ 4 → n * (9 * 9) ≤ 1000 := fun n h => by omega
  have kG : BdR 1000 (tableR c g) := fun z hz => by
    simp only [tableR, List.mem_map, List.mem_range] at hz
    obtain ⟨j, hj, rfl⟩ := hz
    rw [hg]
    exact Nat.le_trans (dsum_le (K := 9) (L := 9) n (fun k hk => kw _ (elr_mem (by omega))) fun k hk => el_bd ma ka hk hj) (L n bn)
  have lG : (tableR c g).length = c := by simp [tableR]
  have hrow := row36_ok w
  rw [lw] at hrow
  refine ⟨_, _, ht, fun h => ?_, fun _ => ?_⟩
  · exfalso; rw [lw] at h; simp at h
  refine ⟨_, _, _, _, _, _, _, hrow, hm, fun h => absurd h (by decide), fun _ => ⟨fun h => absurd h (by decide), fun _ => ?_⟩⟩
  have mG : Mx 1 c [tableR c g] := ⟨rfl, fun x hx => by simp at hx; subst hx; exact lG⟩
  have kGM : BdM 1000 [tableR c g] := fun x hx => by simp at hx; subst hx; exact kG
  refine ⟨true, sized_yes mG kGM (by omega) (by omega) (by decide), nt, fun _ => ?_⟩
  have sG : SzR (tableR c g) := kG.sz (by decide)
  have same := sameVec_ok sG sG (by rw [lG]; omega)
  rw [show decide (tableR c g = tableR c g) = true by simp] at same
  refine ⟨row (tableR c g), true, ⟨by decide, by simp [rows]⟩, rfl, same, nt, fun _ => ?_⟩
  refine ⟨fun t => ∃ j : Nat, t = (j : Int) ∧ j ≤ c, fun t => ((c : Int) - t).toNat, ⟨0, rfl, by omega⟩, ?_⟩
  rintro _ ⟨j, rfl, hj⟩
  have mT : Mx c n (trM n c a) := trM_mx n c a
  refine ⟨fun h => ?_, fun h => ?_⟩
  · have hjc : j < c := by simpa using h
    have hjl : j < (trM n c a).length := by rw [mT.1]; exact hjc
    have hrj : ((trM n c a).getD j []).length = n := mT.2 _ (getD_mem hjl)
    have krj : BdR 9 ((trM n c a).getD j []) := trM_bd ma ka _ (getD_mem hjl)
    have hd := mdot_ok (a := w) (b := (trM n c a).getD j []) (K := 9) (by omega) kw krj (by omega) (by omega)
    have ed : dsum (elr w) (elr ((trM n c a).getD j [])) w.length = g j := by
      rw [hg, lw]
      refine dsum_congr n (fun _ _ => rfl) fun k hk => ?_
      have : (trM n c a).getD j [] = tableR n fun i => el a i j := getD_table hjc
      rw [this, elr_tableR hk]
    rw [ed] at hd
    have kg : (g j).natAbs ≤ 1000 := by
      have := kG (g j) (by simp only [tableR, List.mem_map, List.mem_range]; exact ⟨j, hjc, rfl⟩)
      exact this
    have sm1 := rsame_ok (x := g j) (y := g j) (sz_of (Nat.le_trans kg (by decide))) (sz_of (Nat.le_trans kg (by decide)))
    rw [show decide (g j = g j) = true by simp] at sm1
    refine ⟨_, _, _, _, _, _, _, m5transpose_ok ma (by omega) (by omega), ⟨by omega, by rw [rows_length]; omega⟩, rows_getN hjl, hd, fun h => absurd h (by decide), fun _ => ?_⟩
    have hge : elr (tableR c g) j = g j := elr_tableR hjc
    have hrow := row_getN (r := tableR c g) (i := j) (by omega)
    rw [hge] at hrow
    refine ⟨_, _, true, ⟨by omega, by rw [row_length]; omega⟩, hrow, sm1, nt, fun _ => ?_⟩
    rw [inc64 (by omega)]
    exact ⟨⟨j + 1, rfl, by omega⟩, by show ((c : Int) - ((j + 1 : Nat) : Int)).toNat < ((c : Int) - (j : Int)).toNat; omega⟩
  · have e1 : (([] : List (List D)) ++ row w) ++ [cI 1] = row (w ++ [1]) := by simp [row]
    have hz1 := rzero_ok (r := w) (by omega)
    have hd : FnD prog 38 [vs (row w), vs ((([] : List (List D)) ++ row w) ++ [cI 1])] (eIE 0 50) [] := by
      rw [e1]; exact mdot_bad (by simp)
    refine ⟨_, _, _, _, _, fun y hy => ?_, by simp only [List.length_nil]; omega, rof_ok 1 (by decide) (by decide), by simp only [List.nil_append, row_length, List.length_singleton]; omega, hd, ?_⟩
    · simp only [row, List.mem_map] at hy
      obtain ⟨z, _, rfl⟩ := hy; rfl
    · refine ⟨fun _ => ⟨_, _, mzero_ok (r := w) (by omega), hz1, fun _ => ⟨rfl, rfl⟩, fun h => ?_⟩, fun h => absurd h (by decide)⟩
      simp at h

end Go.AM
