/- The law of the ring of matrices. -/
import Derived.Test.YtbodjgljjaafaaaL3
namespace Go.AM
open Go.Proofs.Try

/-- 'Three' opened: bytes in lists. -/
theorem i8s_of {l : List (List D)} (h : l.length ≤ 9223372036854775807 ∧ ∀ x ∈ l, DOKL [.i .i8] x) : ∃ zs : List Int, l = i8s zs ∧ ∀ z ∈ zs, -128 ≤ z ∧ z ≤ 127 := by
  obtain ⟨zs, h1, h2⟩ := ints_of h.2
  exact ⟨zs, h1, h2⟩

abbrev BIG : Nat := 1329227995784915872903807060280344576

theorem ring_ok (x0 : Int) (g0 : IntKind.u8.min ≤ x0 ∧ x0 ≤ IntKind.u8.max) (x1 : Int) (g1 : IntKind.u8.min ≤ x1 ∧ x1 ≤ IntKind.u8.max) (x2 : Int) (g2 : IntKind.u8.min ≤ x2 ∧ x2 ≤ IntKind.u8.max) (x3 : Int) (g3 : IntKind.u8.min ≤ x3 ∧ x3 ≤ IntKind.u8.max)
    (l4 : List (List D)) (g4 : l4.length ≤ 9223372036854775807 ∧ ∀ x ∈ l4, DOKL [.i .i8] x) (l5 : List (List D)) (g5 : l5.length ≤ 9223372036854775807 ∧ ∀ x ∈ l5, DOKL [.i .i8] x) (l6 : List (List D)) (g6 : l6.length ≤ 9223372036854775807 ∧ ∀ x ∈ l6, DOKL [.i .i8] x)
    (l7 : List (List D)) (g7 : l7.length ≤ 9223372036854775807 ∧ ∀ x ∈ l7, DOKL [.i .i8] x) :
    FnD prog 11 [.e (.agg [.dat (.int .u8 x0), .dat (.int .u8 x1), .dat (.int .u8 x2), .dat (.int .u8 x3), .dat (.sl l4), .dat (.sl l5), .dat (.sl l6)]), .e (.sc (.dat (.sl l7)))] (vb true) [] := by
  obtain ⟨a, rfl, _⟩ := i8s_of g4
  obtain ⟨b, rfl, _⟩ := i8s_of g5
  obtain ⟨c, rfl, _⟩ := i8s_of g6
  obtain ⟨d, rfl, _⟩ := i8s_of g7
  obtain ⟨n0, n1, n2, n3, b0, b1, b2, b3, hchain⟩ := chain_ok a b c g0.1 g1.1 g2.1 g3.1
  obtain ⟨A, hA⟩ : ∃ A, A = table n0 n1 (fillG n1 a) := ⟨_, rfl⟩
  obtain ⟨B, hB⟩ : ∃ B, B = table n1 n2 (fillG n2 b) := ⟨_, rfl⟩
  obtain ⟨C, hC⟩ : ∃ C, C = table n2 n3 (fillG n3 c) := ⟨_, rfl⟩
  obtain ⟨B2, hB2⟩ : ∃ B2, B2 = table n1 n2 (fillG n2 d) := ⟨_, rfl⟩
  have mA : Mx n0 n1 A := hA ▸ table_mx _ _ _
  have mB : Mx n1 n2 B := hB ▸ table_mx _ _ _
  have mC : Mx n2 n3 C := hC ▸ table_mx _ _ _
  have mB2 : Mx n1 n2 B2 := hB2 ▸ table_mx _ _ _
  have kA : BdM 9 A := hA ▸ filled_bd
  have kB : BdM 9 B := hB ▸ filled_bd
  have kC : BdM 9 C := hC ▸ filled_bd
  have kB2 : BdM 9 B2 := hB2 ▸ filled_bd
  have hfill := filled_ok (r := n1) (c := n2) (v := d) (by omega) (by omega)
  rw [← hA, ← hB, ← hC] at hchain
  rw [← hB2] at hfill
  clear hA hB hC hB2
  have big : ∀ K : Nat, K ≤ 1000000 → K ≤ BIG := fun K h => by unfold BIG; omega
  have mAB := mmul_mx n0 n1 n2 A B
  have kAB : BdM 1000 (mmul n0 n1 n2 A B) := (mmul_bd mA mB kA kB).mono (by omega)
  have mBC := mmul_mx n1 n2 n3 B C
  have kBC : BdM 1000 (mmul n1 n2 n3 B C) := (mmul_bd mB mC kB kC).mono (by omega)
  have mS := mcomb_mx n1 n2 (· + ·) B B2
  have kS : BdM 1000 (mcomb n1 n2 (· + ·) B B2) := (mcomb_bd mB mB2 kB kB2).1.mono (by omega)
  have mO := mmul_mx n0 n1 n2 A B2
  have kO : BdM 1000 (mmul n0 n1 n2 A B2) := (mmul_bd mA mB2 kA kB2).mono (by omega)
  have mI : Mx n1 n1 (table n1 n1 delta) := table_mx _ _ _
  have kI := (ident_bd n1).mono (L := 1000) (by omega)
  have up : ∀ {m : List (List Int)}, BdM 9 m → BdM 1000 m := fun h => h.mono (by omega)
  refine vc11_ok _ _ _ _ _ _ _ _ (R := Out _) ?_
  unfold vc11
  refine ⟨true, sanity_ok, _, _, _, _, _, _, _, _, _, hchain, _, _, _, hfill, ?_⟩
  simp only [matD_om]
  refine ⟨_, _, _, _, mmul_ok mA mB kA kB (by omega) (by omega) (by omega) (by omega), _, _, _, _, mmul_ok mB mC kB kC (by omega) (by omega) (by omega) (by omega), _, _, _, _, madd_ok mB mB2 kB kB2 (by omega) (by omega) (by omega),
    _, _, _, _, madd_ok mB2 mB kB2 kB (by omega) (by omega) (by omega), fun h => absurd h (by decide), fun _ => ⟨fun h => absurd h (by decide), fun _ => ⟨fun h => absurd h (by decide), fun _ => ⟨fun h => absurd h (by decide), fun _ => ?_⟩⟩⟩⟩
  refine ⟨true, sized_yes mAB kAB (by omega) (by omega) (big _ (by omega)), fun h => absurd h (by decide), fun _ => ?_⟩
  refine ⟨true, sized_yes mBC kBC (by omega) (by omega) (big _ (by omega)), fun h => absurd h (by decide), fun _ => ?_⟩
  refine ⟨true, sized_yes mS kS (by omega) (by omega) (big _ (by omega)), fun h => absurd h (by decide), fun _ => ?_⟩
  refine ⟨_, _, _, _, mmul_ok mAB mC kAB (up kC) (by omega) (by omega) (by omega) (by omega), _, _, _, _, mmul_ok mA mBC (up kA) kBC (by omega) (by omega) (by omega) (by omega), _, _, _, _, mmul_ok mA mS (up kA) kS (by omega) (by omega) (by omega) (by omega),
    _, _, _, _, mmul_ok mA mB2 kA kB2 (by omega) (by omega) (by omega) (by omega), fun h => absurd h (by decide), fun _ => ⟨fun h => absurd h (by decide), fun _ => ⟨fun h => absurd h (by decide), fun _ => ⟨fun h => absurd h (by decide), fun _ => ?_⟩⟩⟩⟩
  refine ⟨true, sized_yes mO kO (by omega) (by omega) (big _ (by omega)), fun h => absurd h (by decide), fun _ => ?_⟩
  refine ⟨_, _, _, _, madd_ok mAB mO kAB kO (by omega) (by omega) (by omega), _, _, _, _, _, _, _, mident_ok (by omega), mmul_ok mA mI (up kA) kI (by omega) (by omega) (by omega) (by omega), _, _, _, _, msub_ok mS mB2 kS (up kB2) (by omega) (by omega) (by omega),
    fun _ => ⟨fun _ => ⟨fun _ => ?_, fun h => absurd h (by decide)⟩, fun h => absurd h (by decide)⟩, fun h => absurd h (by decide)⟩
  have kL := mmul_bd mAB mC kAB (up kC)
  have kR := mmul_bd mA mBC (up kA) kBC
  have kP := (mcomb_bd mAB mO kAB kO).1
  have kQ := mmul_bd mA mS (up kA) kS
  have L : ∀ n, n ≤ 4 → n * (1000 * 1000) ≤ 4000000 := fun n h => by omega
  refine ⟨true, same_yes (K := 4000000) (mmul_mx _ _ _ _ _) (kL.mono (L _ b2)) (kR.mono (L _ b1)) (mmul_assoc A B C) (by omega) (by omega) (by omega), fun _ => ?_, fun h => nomatch h⟩
  refine ⟨true, same_yes (K := 4000000) (mmul_mx _ _ _ _ _) (kQ.mono (L _ b1)) (kP.mono (by omega)) (mmul_add_right A B B2) (by omega) (by omega) (by omega), fun _ => ?_, fun h => nomatch h⟩
  refine ⟨true, same_yes (K := 1000) mS kS (mcomb_comm n1 n2 B B2 ▸ kS) (mcomb_comm n1 n2 B B2) (by omega) (by omega) (by omega), fun _ => ?_, fun h => nomatch h⟩
  refine ⟨true, same_yes (K := 1000) (mmul_mx _ _ _ _ _) ((mmul_ident mA).symm ▸ up kA) (up kA) (mmul_ident mA) (by omega) (by omega) (by omega), fun _ => ?_, fun h => nomatch h⟩
  refine ⟨true, same_yes (K := 1000) (mcomb_mx _ _ _ _ _) ((mcomb_sub mB).symm ▸ up kB) (up kB) (mcomb_sub mB) (by omega) (by omega) (by omega), fun _ => ⟨rfl, rfl⟩, fun h => nomatch h⟩

end Go.AM

/- What the functions of package matrix, and of its reference, answer: comparing, picking, blocks of the reference. -/
namespace Go.AM
open Go.Proofs.Try

theorem m5transpose_ok {r c : Nat} {a : List (List Int)} (ha : Mx r c a) (hr : r ≤ 4294967296) (hc : c ≤ 4294967296) :
    FnD prog 39 [eM r c a] (eM c r (trM r c a)) [] := by
  refine vc39_ok _ _ _ (R := Out _) ?_
  unfold vc39
  obtain ⟨g, hg⟩ : ∃ g : Nat → Nat → Nat → Nat → Int, g = fun i j p q => if q < i ∨ (q = i ∧ p < j) then el a q p else 0 := ⟨_, rfl⟩
  refine ⟨_, _, _, rnew_ok hc hr, fun o t => ∃ i : Nat, t = (i : Int) ∧ i ≤ r ∧ o = om (table c r (g i 0)), fun _ t => ((r : Int) - t).toNat, ⟨0, rfl, by omega, ?_⟩, ?_⟩
  · congr 1; exact table_congr fun p q _ _ => by subst hg; simp
  rintro _ _ ⟨i, rfl, hi, rfl⟩
  refine ⟨fun h => ?_, fun h => ?_⟩
  · have hir : i < r := by simpa using h
    refine ⟨fun o t => ∃ j : Nat, t = (j : Int) ∧ j ≤ c ∧ o = om (table c r (g i j)), fun _ t => ((c : Int) - t).toNat, ⟨0, rfl, by omega, rfl⟩, ?_⟩
    rintro _ _ ⟨j, rfl, hj, rfl⟩
    refine ⟨fun h2 => ?_, fun h2 => ?_⟩
    · have hjc : j < c := by simpa using h2
      obtain ⟨e1, e2, e3, e4⟩ := read_el ha hir hjc
      refine ⟨_, _, _, ⟨by omega, by rw [om_len]; omega⟩, ⟨by omega, e4⟩, e1, ⟨by omega, e3⟩, e2, om_in hjc hir, ?_⟩
      rw [inc64 (by omega)]
      refine ⟨⟨j + 1, rfl, by omega, ?_⟩, by show ((c : Int) - ((j + 1 : Nat) : Int)).toNat < ((c : Int) - (j : Int)).toNat; omega⟩
      rw [Int.toNat_natCast, Int.toNat_natCast]
      refine Eq.trans (om_set (z := el a i j) hjc hir) ?_
      congr 1
      refine table_congr fun p q _ _ => ?_
      subst hg
      by_cases h1 : p = j ∧ q = i
      · obtain ⟨rfl, rfl⟩ := h1
        rw [if_pos ⟨rfl, rfl⟩]; simp
      · rw [if_neg h1]
        by_cases h3 : q < i ∨ (q = i ∧ p < j)
        · simp only [if_pos h3]; rw [if_pos (by omega)]
        · simp only [if_neg h3]; rw [if_neg (by omega)]
    · have hjc : c ≤ j := by simpa using h2
      rw [inc64 (by omega)]
      refine ⟨⟨i + 1, rfl, by omega, ?_⟩, by show ((r : Int) - ((i + 1 : Nat) : Int)).toNat < ((r : Int) - (i : Int)).toNat; omega⟩
      congr 1
      refine table_congr fun p q hp _ => ?_
      subst hg
      by_cases h3 : q < i ∨ (q = i ∧ p < j)
      · simp only [if_pos h3]; rw [if_pos (by omega)]
      · simp only [if_neg h3]; rw [if_neg (by omega)]
  · have hir : i = r := by have : r ≤ i := by simpa using h
                           omega
    subst hir
    have e : om (table c i (g i 0)) = om (trM i c a) := by
      congr 1
      refine table_congr fun p q _ hq => ?_
      subst hg; simp only; rw [if_pos (.inl hq)]
    rw [e, matD_om]
    exact ⟨rfl, rfl⟩

theorem om_append (a b : List (List Int)) : om a ++ om b = om (a ++ b) := by simp [om]

theorem m5stack_ok {r s c K : Nat} {a b : List (List Int)} (ha : Mx r c a) (hb : Mx s c b) (ka : BdM K a) (kb : BdM K b) (hr : r ≤ 2147483648) (hs : s ≤ 2147483648) (hc : c ≤ 4294967296) (hK : K ≤ 1329227995784915872903807060280344576) :
    FnD prog 60 [eM r c a, eM s c b] (eME ((r + s : Nat) : Int) c (a ++ b) 0) [] := by
  refine vc60_ok _ _ _ _ _ _ (R := Out _) ?_
  unfold vc60
  have hw : IntKind.i64.wrap ((r : Int) + (s : Int)) = ((r + s : Nat) : Int) := by rw [w64 (by omega) (by omega)]; simp
  rw [hw]
  refine ⟨fun h => by simp at h, fun _ => ⟨_, _, _, m5copied_ok ha ka (by omega) hc hK, _, _, _, m5copied_ok hb kb (by omega) hc hK, ?_, outME ?_⟩⟩
  · rw [om_length, om_length, ha.1, hb.1]; omega
  · rw [om_append, matD_om]

theorem m5stack_bad {r c s c' : Int} {a b : List (List Int)} (h : c ≠ c') : FnD prog 60 [eM r c a, eM s c' b] (eME 0 0 [] 50) [] := by
  refine vc60_ok _ _ _ _ _ _ (R := Out _) ?_
  unfold vc60
  exact ⟨fun _ => ⟨rfl, rfl⟩, fun h2 => absurd (by simpa using h2) h⟩

theorem stack_bad {r c s c' : Int} {a b : List (List Int)} (h : c ≠ c') : FnD prog 25 [eM r c a, eM s c' b] (eME 0 0 [] 50) [] := by
  refine vc25_ok _ _ _ _ _ _ (R := Out _) ?_
  unfold vc25
  exact ⟨fun _ => ⟨rfl, rfl⟩, fun h2 => absurd (by simpa using h2) h⟩

theorem beside_bad {r c r' c' : Int} {a b : List (List Int)} (h : r ≠ r') : FnD prog 26 [eM r c a, eM r' c' b] (eME 0 0 [] 50) [] := by
  refine vc26_ok _ _ _ _ _ _ (R := Out _) ?_
  unfold vc26
  exact ⟨fun _ => ⟨rfl, rfl⟩, fun h2 => absurd (by simpa using h2) h⟩

theorem m5beside_bad {r c r' c' : Int} {a b : List (List Int)} (h : r ≠ r') : FnD prog 61 [eM r c a, eM r' c' b] (eME 0 0 [] 50) [] := by
  refine vc61_ok _ _ _ _ _ _ (R := Out _) ?_
  unfold vc61
  exact ⟨fun _ => ⟨rfl, rfl⟩, fun h2 => absurd (by simpa using h2) h⟩

theorem m5beside_ok {r c d : Nat} {a b : List (List Int)} (ha : Mx r c a) (hb : Mx r d b) (hr : r ≤ 2147483648) (hc : c ≤ 2147483648) (hd : d ≤ 2147483648) :
    FnD prog 61 [eM r c a, eM r d b] (eME r ((c + d : Nat) : Int) (table r (c + d) fun i j => if j < c then el a i j else el b i (j - c)) 0) [] := by
  refine vc61_ok _ _ _ _ _ _ (R := Out _) ?_
  unfold vc61
  obtain ⟨f, hf⟩ : ∃ f : Nat → Nat → Int, f = fun i j => if j < c then el a i j else el b i (j - c) := ⟨_, rfl⟩
  have hw : IntKind.i64.wrap ((c : Int) + (d : Int)) = ((c + d : Nat) : Int) := by rw [w64 (by omega) (by omega)]; simp
  rw [hw, ← hf]
  refine ⟨fun h => by simp at h, fun _ => ?_⟩
  refine ⟨_, _, _, rnew_ok (by omega) (by omega), fun o t => ∃ i : Nat, t = (i : Int) ∧ i ≤ r ∧ o = om (table r (c + d) (gF f i 0)), fun _ t => ((r : Int) - t).toNat, ⟨0, rfl, by omega, gF_zero f⟩, ?_⟩
  rintro _ _ ⟨i, rfl, hi, rfl⟩
  refine ⟨fun h => ?_, fun h => outME ?_⟩
  · have hir : i < r := by simpa using h
    refine ⟨fun o t => ∃ j : Nat, t = (j : Int) ∧ j ≤ c ∧ o = om (table r (c + d) (gF f i j)), fun _ t => ((c : Int) - t).toNat, ⟨0, rfl, by omega, rfl⟩, ?_⟩
    rintro _ _ ⟨j, rfl, hj, rfl⟩
    refine ⟨fun h2 => ?_, fun h2 => ?_⟩
    · have hjc : j < c := by simpa using h2
      obtain ⟨e1, e2, e3, e4⟩ := read_el ha hir hjc
      refine ⟨_, _, _, ⟨by omega, by rw [om_len]; omega⟩, ⟨by omega, e4⟩, e1, ⟨by omega, e3⟩, e2, om_in hir (by omega), ?_⟩
      rw [inc64 (by omega)]
      refine ⟨⟨j + 1, rfl, by omega, ?_⟩, by show ((c : Int) - ((j + 1 : Nat) : Int)).toNat < ((c : Int) - (j : Int)).toNat; omega⟩
      rw [Int.toNat_natCast, Int.toNat_natCast]
      have e : el a i j = f i j := by subst hf; simp only [if_pos hjc]
      have := gF_step (r := r) (c := c + d) (f := f) hir (j := j) (by omega)
      rw [← e] at this
      exact this
    · have hjc : j = c := by have : c ≤ j := by simpa using h2
                             omega
      subst hjc
      refine ⟨fun o t => ∃ k : Nat, t = (k : Int) ∧ k ≤ d ∧ o = om (table r (j + d) (gF f i (j + k))), fun _ t => ((d : Int) - t).toNat, ⟨0, rfl, by omega, rfl⟩, ?_⟩
      rintro _ _ ⟨k, rfl, hk, rfl⟩
      refine ⟨fun h3 => ?_, fun h3 => ?_⟩
      · have hkd : k < d := by simpa using h3
        obtain ⟨e1, e2, e3, e4⟩ := read_el hb hir hkd
        have hw3 : IntKind.i64.wrap ((j : Int) + (k : Int)) = ((j + k : Nat) : Int) := by rw [w64 (by omega) (by omega)]; simp
        rw [hw3]
        refine ⟨_, _, _, ⟨by omega, by rw [om_len]; omega⟩, ⟨by omega, e4⟩, e1, ⟨by omega, e3⟩, e2, om_in hir (by omega), ?_⟩
        rw [inc64 (by omega)]
        refine ⟨⟨k + 1, rfl, by omega, ?_⟩, by show ((d : Int) - ((k + 1 : Nat) : Int)).toNat < ((d : Int) - (k : Int)).toNat; omega⟩
        rw [Int.toNat_natCast, Int.toNat_natCast]
        have e : el b i k = f i (j + k) := by subst hf; simp only [if_neg (show ¬ j + k < j by omega), Nat.add_sub_cancel_left]
        have := gF_step (r := r) (c := j + d) (f := f) hir (j := j + k) (by omega)
        rw [← e] at this
        exact this
      · have hkd : k = d := by have : d ≤ k := by simpa using h3
                               omega
        subst hkd
        rw [inc64 (by omega)]
        exact ⟨⟨i + 1, rfl, by omega, gF_next fun b h1 h2 => by omega⟩, by show ((r : Int) - ((i + 1 : Nat) : Int)).toNat < ((r : Int) - (i : Int)).toNat; omega⟩
  · have hir : i = r := by have : r ≤ i := by simpa using h
                           omega
    subst hir
    rw [gF_all, matD_om]

/-! ### Comparing -/

theorem cmp_zero (x y : Int) : (cmpI x y == 0) = decide (x = y) := by
  unfold cmpI
  by_cases h1 : x < y
  · simp [h1]; omega
  · by_cases h2 : y < x
    · simp [h1, h2]; omega
    · simp [h1, h2]; omega

theorem same118_ok {x y : Int} (hx : Sz x) (hy : Sz y) : FnD prog 118 [eI x, eI y] (vb (decide (x = y))) [] := by
  refine vc118_ok _ _ _ _ (R := Out _) ?_
  unfold vc118
  exact ⟨_, cmp_ok hx hy, outb (cmp_zero x y)⟩

theorem eqRow_ok {a b : List Int} (ha : SzR a) (hb : SzR b) (hl : a.length ≤ 4294967296) : FnD prog 117 [vs (row a), vs (row b), .e (.sc (.dat (.fn (.func 118) ([] : List D))))] (vb (decide (a = b))) [] := by
  refine vc117_ok _ _ _ _ (R := Out _) ?_
  unfold vc117
  simp only [row_length]
  refine ⟨fun h => outb ?_, fun h => ?_⟩
  · have h : ¬ ((a.length : Int) = (b.length : Int)) := by simpa using h
    rw [eq_comm, decide_eq_false_iff_not]
    intro e; subst e; exact h rfl
  · have hlen : a.length = b.length := by
      have : (a.length : Int) = (b.length : Int) := by simpa using h
      omega
    refine ⟨fun t => ∃ i : Nat, t = (i : Int) ∧ i ≤ a.length ∧ ∀ k, k < i → elr a k = elr b k, fun t => ((a.length : Int) - t).toNat, ⟨0, rfl, by omega, fun k hk => by omega⟩, ?_⟩
    rintro _ ⟨i, rfl, hi, hinv⟩
    refine ⟨fun h2 => ?_, fun h2 => outb ?_⟩
    · have hia : i < a.length := by simpa using h2
      have hib : i < b.length := by omega
      refine ⟨_, _, ⟨by omega, by omega⟩, row_getN hia, _, _, ⟨by omega, by omega⟩, row_getN hib, decide (elr a i = elr b i), same118_ok (ha _ (elr_mem hia)) (hb _ (elr_mem hib)), fun h3 => outb ?_, fun h3 => ?_⟩
      · rw [eq_comm, decide_eq_false_iff_not]
        intro e; subst e; simp at h3
      · have he : elr a i = elr b i := by simpa using h3
        rw [inc64 (by omega)]
        refine ⟨⟨i + 1, rfl, by omega, fun k hk => ?_⟩, by show ((a.length : Int) - ((i + 1 : Nat) : Int)).toNat < ((a.length : Int) - (i : Int)).toNat; omega⟩
        by_cases hki : k = i
        · subst hki; exact he
        · exact hinv k (by omega)
    · have hia : i = a.length := by have : a.length ≤ i := by simpa using h2
                                    omega
      have : a = b := list_ext hlen fun k hk => hinv k (by omega)
      simp [this]

theorem eqRows_ok {a b : List (List Int)} (ha : SzM a) (hb : SzM b) (hl : a.length ≤ 4294967296) (hc : ∀ x ∈ a, x.length ≤ 4294967296) :
    FnD prog 115 [vs (rows a), vs (rows b), .e (.sc (.dat (.fn (.func 116) ([] : List D))))] (vb (decide (a = b))) [] := by
  refine vc115_ok _ _ _ _ (R := Out _) ?_
  unfold vc115
  simp only [rows_length]
  refine ⟨fun h => outb ?_, fun h => ?_⟩
  · have h : ¬ ((a.length : Int) = (b.length : Int)) := by simpa using h
    rw [eq_comm, decide_eq_false_iff_not]
    intro e; subst e; exact h rfl
  · have hlen : a.length = b.length := by
      have : (a.length : Int) = (b.length : Int) := by simpa using h
      omega
    refine ⟨fun t => ∃ i : Nat, t = (i : Int) ∧ i ≤ a.length ∧ ∀ k, k < i → a.getD k [] = b.getD k [], fun t => ((a.length : Int) - t).toNat, ⟨0, rfl, by omega, fun k hk => by omega⟩, ?_⟩
    rintro _ ⟨i, rfl, hi, hinv⟩
    refine ⟨fun h4 => ?_, fun h4 => outb ?_⟩
    · have hia : i < a.length := by simpa using h4
      have hib : i < b.length := by omega
      have e116 : FnD prog 116 [vs (row (a.getD i [])), vs (row (b.getD i []))] (vb (decide (a.getD i [] = b.getD i []))) [] := by
        refine vc116_ok _ _ (R := Out _) ?_
        unfold vc116
        exact ⟨_, eqRow_ok (ha _ (getD_mem hia)) (hb _ (getD_mem hib)) (hc _ (getD_mem hia)), rfl, rfl⟩
      refine ⟨_, ⟨by omega, by omega⟩, rows_getN hia, _, ⟨by omega, by omega⟩, rows_getN hib, decide (a.getD i [] = b.getD i []), e116, fun h5 => outb ?_, fun h5 => ?_⟩
      · rw [eq_comm, decide_eq_false_iff_not]
        rintro e; subst e; simp at h5
      · have he : a.getD i [] = b.getD i [] := by simpa using h5
        rw [inc64 (by omega)]
        refine ⟨⟨i + 1, rfl, by omega, fun k hk => ?_⟩, by show ((a.length : Int) - ((i + 1 : Nat) : Int)).toNat < ((a.length : Int) - (i : Int)).toNat; omega⟩
        by_cases hki : k = i
        · subst hki; exact he
        · exact hinv k (by omega)
    · have hia : i = a.length := by have : a.length ≤ i := by simpa using h4
                                    omega
      have : a = b := lists_ext hlen fun k hk => hinv k (by omega)
      simp [this]

theorem equal_ok {r c r' c' : Int} {a b : List (List Int)} (ha : SzM a) (hb : SzM b) (hl : a.length ≤ 4294967296) (hc : ∀ x ∈ a, x.length ≤ 4294967296) :
    FnD prog 65 [eM r c a, eM r' c' b] (vb (decide (r = r' ∧ c = c' ∧ a = b))) [] := by
  refine vc65_ok _ _ _ _ _ _ (R := Out _) ?_
  unfold vc65
  refine ⟨_, _, _, _, size_ok r c a, size_ok r' c' b, fun h => ⟨_, eqRows_ok ha hb hl hc, outb ?_⟩, fun h => outb ?_⟩
  · have h : r = r' ∧ c = c' := by simpa using h
    simp [h.1, h.2]
  · rw [eq_comm, decide_eq_false_iff_not]
    rintro ⟨rfl, rfl, _⟩
    simp at h

theorem mscale_ok {r c K : Nat} {a : List (List Int)} {k : Int} (ha : Mx r c a) (ka : BdM K a) (hk : k.natAbs ≤ 1329227995784915872903807060280344576) (hr : r ≤ 4294967296) (hc : c ≤ 4294967296) (hK : K ≤ 1329227995784915872903807060280344576) :
    FnD prog 63 [eM r c a, eI k] (eM r c (table r c fun i j => el a i j * k)) [] := by
  refine vc63_ok _ _ _ _ _ (R := Out _) ?_
  unfold vc63
  refine ⟨_, _, _, build_ok hr hc (g := fun i j => el a i j * k) fun i j hi hj => ?_, rfl, rfl⟩
  refine vc112_ok _ _ _ _ _ _ _ (R := Out _) ?_
  unfold vc112
  obtain ⟨e1, e2, e3, e4⟩ := read_el ha hi hj
  have := mul_ok (x := k) (y := el a i j) (sz_le hk (Nat.le_refl _)) (sz_le (el_bd ha ka hi hj) hK)
  rw [Int.mul_comm] at this
  exact ⟨_, _, _, _, _, ⟨by omega, e4⟩, e1, ⟨by omega, e3⟩, e2, this, rfl, rfl⟩

/-- A described matrix. -/
theorem rawmade_ok {x y : Int} (v : List Int) (hx : 0 ≤ x) (hy : 0 ≤ y) : ∃ r c : Nat, r ≤ 4 ∧ c ≤ 4 ∧
    FnD prog 15 [.e (.agg [.dat (.int .u8 x), .dat (.int .u8 y), .dat (.sl (i8s v))])] (eMo r c) (oM (table r c (fillG c v))) := by
  obtain ⟨r, e0, b0⟩ := mod5 hx
  obtain ⟨c, e1, b1⟩ := mod5 hy
  refine ⟨r, c, b0, b1, ?_⟩
  refine vc15_ok _ _ _ (R := OutM r c _) ?_
  unfold vc15
  rw [e0, e1]
  exact ⟨_, _, _, by decide, filled_ok (by omega) (by omega), outM rfl⟩

end Go.AM

/- What functions of the program come to: group P5. Printed by vc.py. -/
set_option maxRecDepth 100000
set_option linter.unusedVariables false

namespace Go.AM
open Go.Proofs.Try

/- f5 torsion/torsionlaw05.MatrixBlocks -/
def vc5 (x0 : Int) (x1 : Int) (x2 : Int) (x3 : Int) (x4 : List (List D)) (x5 : List (List D)) (x6 : List (List D)) (d : List (List D)) (k : Int) (R : V → Heap → Prop) : Prop :=
  ∃ (r : Bool),
  (FnD prog 14 [] (vD (dB r)) []) ∧
  (∃ (r0 : Int) (r1 : Int) (r2 : List (List D)) (r01 : Int) (r11 : Int) (r21 : List (List D)) (r02 : Int) (r12 : Int) (r22 : List (List D)),
  (FnD prog 19 [(vA [(sD (D.int .u8 x0)), (sD (D.int .u8 x1)), (sD (D.int .u8 x2)), (sD (D.int .u8 x3)), (sD (dL x4)), (sD (dL x5)), (sD (dL x6))])] (V.tup [(E.agg [(sD (dI r0)), (sD (dI r1)), (sD (dL r2))]), (E.agg [(sD (dI r01)), (sD (dI r11)), (sD (dL r21))]), (E.agg [(sD (dI r02)), (sD (dI r12)), (sD (dL r22))])]) []) ∧
  (∃ (r03 : Int) (r13 : Int) (rrows : List (List (List D))),
  ((4 : Int) ≠ 0) ∧
  (FnD prog 24 [(vD (dI (IntKind.i64.wrap (k.tmod (4 : Int))))), (vD (dI r1)), (vD (dL d))] (vA [(sD (dI r03)), (sD (dI r13)), (S.ref 0)]) [(some (Obj.mat 2 rrows))]) ∧
  (∃ (r04 : Int) (r14 : Int) (rrows1 : List (List (List D))),
  (FnD prog 24 [(vD (dI r01)), (vD (dI (IntKind.i64.wrap (k.tmod (4 : Int))))), (vD (dL d))] (vA [(sD (dI r04)), (sD (dI r14)), (S.ref 0)]) [(some (Obj.mat 2 rrows1))]) ∧
  (∃ (r05 : Int) (r15 : Int) (r23 : List (List D)) (r3 : Int),
  (FnD prog 25 [(vA [(sD (dI r0)), (sD (dI r1)), (sD (dL r2))]), (vA [(sD (dI r03)), (sD (dI r13)), (sD (dL (matD rrows)))])] (V.tup [(E.agg [(sD (dI r05)), (sD (dI r15)), (sD (dL r23))]), (eD (dI r3))]) []) ∧
  (∃ (r06 : Int) (r16 : Int) (r24 : List (List D)) (r4 : Int),
  (FnD prog 26 [(vA [(sD (dI r01)), (sD (dI r11)), (sD (dL r21))]), (vA [(sD (dI r04)), (sD (dI r14)), (sD (dL (matD rrows1)))])] (V.tup [(E.agg [(sD (dI r06)), (sD (dI r16)), (sD (dL r24))]), (eD (dI r4))]) []) ∧
  (((r3 != (0 : Int)) = true →
    R (vD (dB false)) []) ∧
  ((r3 != (0 : Int)) = false →
    ((r4 != (0 : Int)) = true →
      R (vD (dB false)) []) ∧
    ((r4 != (0 : Int)) = false →
      ∃ (r5 : Bool),
      (FnD prog 22 [(vA [(sD (dI r05)), (sD (dI r15)), (sD (dL r23))]), (vD (dI (IntKind.i64.wrap (r0 + r03)))), (vD (dI r1))] (vD (dB r5)) []) ∧
      (((!r5) = true →
        R (vD (dB false)) []) ∧
      ((!r5) = false →
        ∃ (r6 : Bool),
        (FnD prog 22 [(vA [(sD (dI r06)), (sD (dI r16)), (sD (dL r24))]), (vD (dI r01)), (vD (dI (IntKind.i64.wrap (r11 + r14))))] (vD (dB r6)) []) ∧
        (((!r6) = true →
          R (vD (dB false)) []) ∧
        ((!r6) = false →
          ∃ (r07 : Int) (r17 : Int) (r25 : List (List D)) (r7 : Int),
          (FnD prog 20 [(vA [(sD (dI r05)), (sD (dI r15)), (sD (dL r23))]), (vA [(sD (dI r01)), (sD (dI r11)), (sD (dL r21))])] (V.tup [(E.agg [(sD (dI r07)), (sD (dI r17)), (sD (dL r25))]), (eD (dI r7))]) []) ∧
          (∃ (r08 : Int) (r18 : Int) (r26 : List (List D)) (r8 : Int),
          (FnD prog 20 [(vA [(sD (dI r0)), (sD (dI r1)), (sD (dL r2))]), (vA [(sD (dI r06)), (sD (dI r16)), (sD (dL r24))])] (V.tup [(E.agg [(sD (dI r08)), (sD (dI r18)), (sD (dL r26))]), (eD (dI r8))]) []) ∧
          (∃ (r09 : Int) (r19 : Int) (r27 : List (List D)) (r010 : Int) (r110 : Int) (r28 : List (List D)) (r011 : Int) (r111 : Int) (r29 : List (List D)),
          (FnD prog 27 [(vA [(sD (dI r0)), (sD (dI r1)), (sD (dL r2))]), (vA [(sD (dI r01)), (sD (dI r11)), (sD (dL r21))])] (vA [(sD (dI r09)), (sD (dI r19)), (sD (dL r27))]) []) ∧
          (FnD prog 27 [(vA [(sD (dI r03)), (sD (dI r13)), (sD (dL (matD rrows)))]), (vA [(sD (dI r01)), (sD (dI r11)), (sD (dL r21))])] (vA [(sD (dI r010)), (sD (dI r110)), (sD (dL r28))]) []) ∧
          (FnD prog 27 [(vA [(sD (dI r0)), (sD (dI r1)), (sD (dL r2))]), (vA [(sD (dI r04)), (sD (dI r14)), (sD (dL (matD rrows1)))])] (vA [(sD (dI r011)), (sD (dI r111)), (sD (dL r29))]) []) ∧
          (∃ (r012 : Int) (r112 : Int) (r210 : List (List D)) (r9 : Int),
          (FnD prog 25 [(vA [(sD (dI r09)), (sD (dI r19)), (sD (dL r27))]), (vA [(sD (dI r010)), (sD (dI r110)), (sD (dL r28))])] (V.tup [(E.agg [(sD (dI r012)), (sD (dI r112)), (sD (dL r210))]), (eD (dI r9))]) []) ∧
          (∃ (r013 : Int) (r113 : Int) (r211 : List (List D)) (r10 : Int),
          (FnD prog 26 [(vA [(sD (dI r09)), (sD (dI r19)), (sD (dL r27))]), (vA [(sD (dI r011)), (sD (dI r111)), (sD (dL r29))])] (V.tup [(E.agg [(sD (dI r013)), (sD (dI r113)), (sD (dL r211))]), (eD (dI r10))]) []) ∧
          (∃ (r014 : Int) (r114 : Int) (rrows2 : List (List (List D))),
          (FnD prog 24 [(vD (dI r0)), (vD (dI (IntKind.i64.wrap (k.tmod (4 : Int))))), (vD (dL d))] (vA [(sD (dI r014)), (sD (dI r114)), (S.ref 0)]) [(some (Obj.mat 2 rrows2))]) ∧
          (∃ (r015 : Int) (r115 : Int) (r212 : List (List D)) (r20 : Int),
          (FnD prog 26 [(vA [(sD (dI r0)), (sD (dI r1)), (sD (dL r2))]), (vA [(sD (dI r014)), (sD (dI r114)), (sD (dL (matD rrows2)))])] (V.tup [(E.agg [(sD (dI r015)), (sD (dI r115)), (sD (dL r212))]), (eD (dI r20))]) []) ∧
          (∃ (r016 : Int) (r116 : Int) (rrows3 : List (List (List D))),
          (FnD prog 24 [(vD (dI (IntKind.i64.wrap (k.tmod (4 : Int))))), (vD (dI r11)), (vD (dL d))] (vA [(sD (dI r016)), (sD (dI r116)), (S.ref 0)]) [(some (Obj.mat 2 rrows3))]) ∧
          (∃ (r017 : Int) (r117 : Int) (r213 : List (List D)) (r30 : Int),
          (FnD prog 25 [(vA [(sD (dI r01)), (sD (dI r11)), (sD (dL r21))]), (vA [(sD (dI r016)), (sD (dI r116)), (sD (dL (matD rrows3)))])] (V.tup [(E.agg [(sD (dI r017)), (sD (dI r117)), (sD (dL r213))]), (eD (dI r30))]) []) ∧
          (((r7 != (0 : Int)) = true →
            R (vD (dB false)) []) ∧
          ((r7 != (0 : Int)) = false →
            ((r8 != (0 : Int)) = true →
              R (vD (dB false)) []) ∧
            ((r8 != (0 : Int)) = false →
              ((r9 != (0 : Int)) = true →
                R (vD (dB false)) []) ∧
              ((r9 != (0 : Int)) = false →
                ((r10 != (0 : Int)) = true →
                  R (vD (dB false)) []) ∧
                ((r10 != (0 : Int)) = false →
                  ((r20 != (0 : Int)) = true →
                    R (vD (dB false)) []) ∧
                  ((r20 != (0 : Int)) = false →
                    ((r30 != (0 : Int)) = true →
                      R (vD (dB false)) []) ∧
                    ((r30 != (0 : Int)) = false →
                      ∃ (r31 : Bool),
                      (FnD prog 22 [(vA [(sD (dI r015)), (sD (dI r115)), (sD (dL r212))]), (vD (dI r0)), (vD (dI (IntKind.i64.wrap (r1 + r114))))] (vD (dB r31)) []) ∧
                      (((!r31) = true →
                        R (vD (dB false)) []) ∧
                      ((!r31) = false →
                        ∃ (r32 : Bool),
                        (FnD prog 22 [(vA [(sD (dI r017)), (sD (dI r117)), (sD (dL r213))]), (vD (dI (IntKind.i64.wrap (r01 + r016)))), (vD (dI r11))] (vD (dB r32)) []) ∧
                        (((!r32) = true →
                          R (vD (dB false)) []) ∧
                        ((!r32) = false →
                          ∃ (r018 : Int) (r118 : Int) (r214 : List (List D)) (r33 : Int),
                          (FnD prog 20 [(vA [(sD (dI r015)), (sD (dI r115)), (sD (dL r212))]), (vA [(sD (dI r017)), (sD (dI r117)), (sD (dL r213))])] (V.tup [(E.agg [(sD (dI r018)), (sD (dI r118)), (sD (dL r214))]), (eD (dI r33))]) []) ∧
                          (∃ (r019 : Int) (r119 : Int) (r215 : List (List D)) (r020 : Int) (r120 : Int) (r216 : List (List D)) (r34 : Int),
                          (FnD prog 27 [(vA [(sD (dI r014)), (sD (dI r114)), (sD (dL (matD rrows2)))]), (vA [(sD (dI r016)), (sD (dI r116)), (sD (dL (matD rrows3)))])] (vA [(sD (dI r019)), (sD (dI r119)), (sD (dL r215))]) []) ∧
                          (FnD prog 28 [(vA [(sD (dI r09)), (sD (dI r19)), (sD (dL r27))]), (vA [(sD (dI r019)), (sD (dI r119)), (sD (dL r215))])] (V.tup [(E.agg [(sD (dI r020)), (sD (dI r120)), (sD (dL r216))]), (eD (dI r34))]) []) ∧
                          (((r33 == (0 : Int)) = true →
                            ((r34 == (0 : Int)) = true →
                              ∃ (r35 : Bool),
                              (FnD prog 23 [(vA [(sD (dI r07)), (sD (dI r17)), (sD (dL r25))]), (vA [(sD (dI r012)), (sD (dI r112)), (sD (dL r210))])] (vD (dB r35)) []) ∧
                              ((r35 = true →
                                ∃ (r36 : Bool),
                                (FnD prog 23 [(vA [(sD (dI r08)), (sD (dI r18)), (sD (dL r26))]), (vA [(sD (dI r013)), (sD (dI r113)), (sD (dL r211))])] (vD (dB r36)) []) ∧
                                ((r36 = true →
                                  ∃ (r37 : Bool),
                                  (FnD prog 23 [(vA [(sD (dI r018)), (sD (dI r118)), (sD (dL r214))]), (vA [(sD (dI r020)), (sD (dI r120)), (sD (dL r216))])] (vD (dB r37)) []) ∧
                                  ((r37 = true →
                                    R (vD (dB r)) []) ∧
                                  (r37 = false →
                                    R (vD (dB false)) []))) ∧
                                (r36 = false →
                                  R (vD (dB false)) []))) ∧
                              (r35 = false →
                                R (vD (dB false)) []))) ∧
                            ((r34 == (0 : Int)) = false →
                              R (vD (dB false)) [])) ∧
                          ((r33 == (0 : Int)) = false →
                            R (vD (dB false)) []))))))))))))))))))))))))))))))))))

theorem vc5_ok (x0 : Int) (x1 : Int) (x2 : Int) (x3 : Int) (x4 : List (List D)) (x5 : List (List D)) (x6 : List (List D)) (d : List (List D)) (k : Int) {R : V → Heap → Prop} (h : vc5 x0 x1 x2 x3 x4 x5 x6 d k R) : FnG prog 5 [(vA [(sD (D.int .u8 x0)), (sD (D.int .u8 x1)), (sD (D.int .u8 x2)), (sD (D.int .u8 x3)), (sD (dL x4)), (sD (dL x5)), (sD (dL x6))]), (vD (dL d)), (vD (D.int .u8 k))] [] R :=
  FnG.vcg hT func5 ntmps5 (.reg 1 [(0, Or.none, 0, 1)] [1, 2, 3] [0] [] <| .exb fun r => .reg 0 [(0, (Or.call (vD (dB r)) [] []), 0, 0)] [1, 2, 3, 7] [0] [] <| .ex fun r0 => .ex fun r1 => .exl fun r2 => .ex fun r01 => .ex fun r11 => .exl fun r21 => .ex fun r02 => .ex fun r12 => .exl fun r22 => .reg 3 [(1, (Or.call (V.tup [(E.agg [(sD (dI r0)), (sD (dI r1)), (sD (dL r2))]), (E.agg [(sD (dI r01)), (sD (dI r11)), (sD (dL r21))]), (E.agg [(sD (dI r02)), (sD (dI r12)), (sD (dL r22))])]) [] []), 0, 0), (6, Or.none, 1, 1), (7, Or.none, 2, 1), (8, Or.none, 3, 1)] [1, 2, 7, 8, 9] [1, 2] [] <| .ex fun r03 => .ex fun r13 => .exm fun rrows => .reg 2 [(6, (Or.call (vA [(sD (dI r03)), (sD (dI r13)), (S.ref 0)]) [(some (Obj.mat 2 rrows))] []), 2, 1), (7, Or.none, 3, 1)] [1, 2, 7, 8, 9, 11] [0, 1, 3, 2] [] <| .ex fun r04 => .ex fun r14 => .exm fun rrows1 => .reg 2 [(6, (Or.call (vA [(sD (dI r04)), (sD (dI r14)), (S.ref 0)]) [(some (Obj.mat 2 rrows1))] []), 4, 1), (7, Or.none, 5, 1)] [1, 2, 7, 8, 9, 11, 12] [0, 1, 2, 5, 3, 4] [.old 1] <| .frz [4] <| .ex fun r05 => .ex fun r15 => .exl fun r23 => .ex fun r3 => .reg 1 [(2, (Or.call (V.tup [(E.agg [(sD (dI r05)), (sD (dI r15)), (sD (dL r23))]), (eD (dI r3))]) [] []), 0, 0), (6, Or.none, 6, 1)] [1, 2, 7, 8, 9, 11, 12, 13, 14] [0, 1, 2, 3, 6, 5] [] <| .frz [5] <| .ex fun r06 => .ex fun r16 => .exl fun r24 => .ex fun r4 => .reg 1 [(2, (Or.call (V.tup [(E.agg [(sD (dI r06)), (sD (dI r16)), (sD (dL r24))]), (eD (dI r4))]) [] []), 0, 0), (6, Or.none, 6, 1)] [1, 2, 7, 8, 9, 11, 12, 13, 14, 15, 16] [0, 1, 2, 3, 4, 6] [] <| .spl ((r3 != (0 : Int))) (.reg 0 [(2, (Or.bool true), 0, 0)] [1, 2, 7, 8, 9, 11, 12, 13, 15, 100] [0, 1, 2, 3, 4, 5] [.old 0] <| .ct true none <| .r0 [6] <| .ret []) (.spl ((r4 != (0 : Int))) (.reg 0 [(2, (Or.bool false), 0, 0), (6, (Or.bool true), 0, 0)] [1, 2, 7, 8, 9, 11, 12, 13, 15, 100] [0, 1, 2, 3, 4, 5] [.old 1, .old 0] <| .ct true none <| .r0 [6] <| .ret []) (.exb fun r5 => .ob (FnD prog 22 [(vA [(sD (dI r05)), (sD (dI r15)), (sD (dL r23))]), (vD (dI (IntKind.i64.wrap (r0 + r03)))), (vD (dI r1))] (vD (dB r5)) []) <| .spl ((!r5)) (.reg 0 [(2, (Or.bool false), 0, 0), (6, (Or.bool false), 0, 0), (15, (Or.call (vD (dB r5)) [] []), 0, 0), (18, (Or.bool true), 0, 0)] [1, 2, 7, 8, 9, 11, 12, 13, 15, 100] [0, 1, 2, 3, 4, 5] [.old 3, .old 2, .old 1, .old 0] <| .ct true none <| .r0 [6] <| .ret []) (.exb fun r6 => .reg 0 [(2, (Or.bool false), 0, 0), (6, (Or.bool false), 0, 0), (15, (Or.call (vD (dB r5)) [] []), 0, 0), (18, (Or.bool false), 0, 0), (27, (Or.call (vD (dB r6)) [] []), 0, 0)] [1, 2, 7, 8, 9, 11, 12, 13, 15, 100] [0, 1, 2, 3, 4, 5] [.old 3, .old 2, .old 1, .old 0] <| .c2 (.r0 [6] <| .ret []) (.ex fun r07 => .ex fun r17 => .exl fun r25 => .ex fun r7 => .reg 1 [(2, (Or.call (V.tup [(E.agg [(sD (dI r07)), (sD (dI r17)), (sD (dL r25))]), (eD (dI r7))]) [] []), 0, 0), (6, Or.none, 6, 1)] [1, 2, 7, 8, 9, 11, 12, 15, 17, 18] [0, 1, 2, 3, 5, 6] [] <| .ex fun r08 => .ex fun r18 => .exl fun r26 => .ex fun r8 => .reg 1 [(2, (Or.call (V.tup [(E.agg [(sD (dI r08)), (sD (dI r18)), (sD (dL r26))]), (eD (dI r8))]) [] []), 0, 0), (6, Or.none, 6, 1)] [1, 2, 7, 8, 9, 11, 12, 17, 18, 19, 20] [0, 1, 2, 3, 5, 6] [] <| .ex fun r09 => .ex fun r19 => .exl fun r27 => .ex fun r010 => .ex fun r110 => .exl fun r28 => .ex fun r011 => .ex fun r111 => .exl fun r29 => .drw 3 [(2, ((Or.call (vA [(sD (dI r09)), (sD (dI r19)), (sD (dL r27))]) [] []), 0, 0), []), (5, ((Or.call (vA [(sD (dI r010)), (sD (dI r110)), (sD (dL r28))]) [] []), 0, 0), []), (8, ((Or.call (vA [(sD (dI r011)), (sD (dI r111)), (sD (dL r29))]) [] []), 0, 0), []), (9, (Or.none, 6, 1), [6]), (10, (Or.none, 7, 1), [7]), (11, (Or.none, 8, 1), [8]), (12, (Or.none, 0, 0), [6]), (13, (Or.none, 0, 0), [7]), (14, (Or.none, 0, 0), [8])] [1, 2, 7, 8, 9, 17, 18, 19, 20, 21, 22, 23] [0, 1, 4, 5, 6, 7, 8] [] <| .ex fun r012 => .ex fun r112 => .exl fun r210 => .ex fun r9 => .reg 1 [(2, (Or.call (V.tup [(E.agg [(sD (dI r012)), (sD (dI r112)), (sD (dL r210))]), (eD (dI r9))]) [] []), 0, 0), (6, Or.none, 7, 1)] [1, 2, 7, 8, 9, 17, 18, 19, 20, 21, 23, 24, 25] [0, 1, 2, 3, 4, 6, 7] [] <| .ex fun r013 => .ex fun r113 => .exl fun r211 => .ex fun r10 => .reg 1 [(2, (Or.call (V.tup [(E.agg [(sD (dI r013)), (sD (dI r113)), (sD (dL r211))]), (eD (dI r10))]) [] []), 0, 0), (6, Or.none, 7, 1)] [1, 2, 7, 8, 9, 17, 18, 19, 20, 21, 24, 25, 26, 27] [0, 1, 2, 3, 4, 6, 7] [] <| .ex fun r014 => .ex fun r114 => .exm fun rrows2 => .reg 2 [(6, (Or.call (vA [(sD (dI r014)), (sD (dI r114)), (S.ref 0)]) [(some (Obj.mat 2 rrows2))] []), 7, 1), (7, Or.none, 8, 1)] [1, 2, 7, 8, 9, 17, 18, 19, 20, 21, 24, 25, 26, 27, 28] [0, 1, 2, 3, 4, 5, 6, 8, 7] [.old 17] <| .frz [8] <| .ex fun r015 => .ex fun r115 => .exl fun r212 => .ex fun r20 => .reg 1 [(2, (Or.call (V.tup [(E.agg [(sD (dI r015)), (sD (dI r115)), (sD (dL r212))]), (eD (dI r20))]) [] []), 0, 0), (6, Or.none, 9, 1)] [1, 2, 7, 8, 9, 17, 18, 19, 20, 21, 24, 25, 26, 27, 28, 29, 30] [0, 1, 2, 3, 4, 5, 6, 7, 9] [] <| .ex fun r016 => .ex fun r116 => .exm fun rrows3 => .reg 2 [(6, (Or.call (vA [(sD (dI r016)), (sD (dI r116)), (S.ref 0)]) [(some (Obj.mat 2 rrows3))] []), 9, 1), (7, Or.none, 10, 1)] [7, 8, 9, 17, 18, 19, 20, 21, 24, 25, 26, 27, 28, 29, 30, 31] [0, 1, 2, 3, 4, 5, 6, 7, 8, 10, 9] [.old 19] <| .frz [10] <| .ex fun r017 => .ex fun r117 => .exl fun r213 => .ex fun r30 => .reg 1 [(2, (Or.call (V.tup [(E.agg [(sD (dI r017)), (sD (dI r117)), (sD (dL r213))]), (eD (dI r30))]) [] []), 0, 0), (6, Or.none, 11, 1)] [7, 8, 9, 17, 18, 19, 20, 21, 24, 25, 26, 27, 28, 29, 30, 31, 32, 33] [0, 1, 2, 3, 4, 5, 6, 7, 8, 9, 11] [] <| .spl ((r7 != (0 : Int))) (.reg 0 [(2, (Or.bool true), 0, 0)] [7, 17, 19, 21, 24, 26, 28, 29, 31, 32, 205] [2, 3, 4, 5, 6, 7, 8, 9, 10] [.old 0] <| .ct true none <| .r0 [6] <| .ret []) (.spl ((r8 != (0 : Int))) (.reg 0 [(2, (Or.bool false), 0, 0), (6, (Or.bool true), 0, 0)] [7, 17, 19, 21, 24, 26, 28, 29, 31, 32, 205] [2, 3, 4, 5, 6, 7, 8, 9, 10] [.old 1, .old 0] <| .ct true none <| .r0 [6] <| .ret []) (.spl ((r9 != (0 : Int))) (.reg 0 [(2, (Or.bool false), 0, 0), (6, (Or.bool false), 0, 0), (10, (Or.bool true), 0, 0)] [7, 17, 19, 21, 24, 26, 28, 29, 31, 32, 205] [2, 3, 4, 5, 6, 7, 8, 9, 10] [.old 2, .old 1, .old 0] <| .ct true none <| .r0 [6] <| .ret []) (.spl ((r10 != (0 : Int))) (.reg 0 [(2, (Or.bool false), 0, 0), (6, (Or.bool false), 0, 0), (10, (Or.bool false), 0, 0), (14, (Or.bool true), 0, 0)] [7, 17, 19, 21, 24, 26, 28, 29, 31, 32, 205] [2, 3, 4, 5, 6, 7, 8, 9, 10] [.old 3, .old 2, .old 1, .old 0] <| .ct true none <| .r0 [6] <| .ret []) (.spl ((r20 != (0 : Int))) (.reg 0 [(2, (Or.bool false), 0, 0), (6, (Or.bool false), 0, 0), (10, (Or.bool false), 0, 0), (14, (Or.bool false), 0, 0), (18, (Or.bool true), 0, 0)] [7, 17, 19, 21, 24, 26, 28, 29, 31, 32, 205] [2, 3, 4, 5, 6, 7, 8, 9, 10] [.old 4, .old 3, .old 2, .old 1, .old 0] <| .ct true none <| .r0 [6] <| .ret []) (.spl ((r30 != (0 : Int))) (.reg 0 [(2, (Or.bool false), 0, 0), (6, (Or.bool false), 0, 0), (10, (Or.bool false), 0, 0), (14, (Or.bool false), 0, 0), (18, (Or.bool false), 0, 0), (22, (Or.bool true), 0, 0)] [7, 17, 19, 21, 24, 26, 28, 29, 31, 32, 205] [2, 3, 4, 5, 6, 7, 8, 9, 10] [.old 5, .old 4, .old 3, .old 2, .old 1, .old 0] <| .ct true none <| .r0 [6] <| .ret []) (.exb fun r31 => .ob (FnD prog 22 [(vA [(sD (dI r015)), (sD (dI r115)), (sD (dL r212))]), (vD (dI r0)), (vD (dI (IntKind.i64.wrap (r1 + r114))))] (vD (dB r31)) []) <| .spl ((!r31)) (.reg 0 [(2, (Or.bool false), 0, 0), (6, (Or.bool false), 0, 0), (10, (Or.bool false), 0, 0), (14, (Or.bool false), 0, 0), (18, (Or.bool false), 0, 0), (22, (Or.bool false), 0, 0), (31, (Or.call (vD (dB r31)) [] []), 0, 0), (34, (Or.bool true), 0, 0)] [7, 17, 19, 21, 24, 26, 28, 29, 31, 32, 205] [2, 3, 4, 5, 6, 7, 8, 9, 10] [.old 7, .old 6, .old 5, .old 4, .old 3, .old 2, .old 1, .old 0] <| .ct true none <| .r0 [6] <| .ret []) (.exb fun r32 => .reg 0 [(2, (Or.bool false), 0, 0), (6, (Or.bool false), 0, 0), (10, (Or.bool false), 0, 0), (14, (Or.bool false), 0, 0), (18, (Or.bool false), 0, 0), (22, (Or.bool false), 0, 0), (31, (Or.call (vD (dB r31)) [] []), 0, 0), (34, (Or.bool false), 0, 0), (43, (Or.call (vD (dB r32)) [] []), 0, 0)] [7, 17, 19, 21, 24, 26, 28, 29, 31, 32, 205] [2, 3, 4, 5, 6, 7, 8, 9, 10] [.old 7, .old 6, .old 5, .old 4, .old 3, .old 2, .old 1, .old 0] <| .c2 (.r0 [6] <| .ret []) (.ex fun r018 => .ex fun r118 => .exl fun r214 => .ex fun r33 => .reg 1 [(2, (Or.call (V.tup [(E.agg [(sD (dI r018)), (sD (dI r118)), (sD (dL r214))]), (eD (dI r33))]) [] []), 0, 0), (6, Or.none, 9, 1)] [7, 17, 19, 21, 24, 26, 28, 31, 34, 35] [0, 1, 2, 3, 4, 5, 7, 9] [] <| .ex fun r019 => .ex fun r119 => .exl fun r215 => .ex fun r020 => .ex fun r120 => .exl fun r216 => .ex fun r34 => .drw 1 [(3, ((Or.call (vA [(sD (dI r019)), (sD (dI r119)), (sD (dL r215))]) [] []), 0, 0), []), (4, ((Or.call (V.tup [(E.agg [(sD (dI r020)), (sD (dI r120)), (sD (dL r216))]), (eD (dI r34))]) [] []), 0, 0), []), (8, (Or.none, 8, 1), [8]), (9, (Or.none, 0, 0), [8])] [7, 17, 19, 24, 26, 34, 35, 36, 37] [0, 1, 3, 4, 7, 8] [] <| .spl ((r33 == (0 : Int))) (.spl ((r34 == (0 : Int))) (.exb fun r35 => .ob (FnD prog 23 [(vA [(sD (dI r07)), (sD (dI r17)), (sD (dL r25))]), (vA [(sD (dI r012)), (sD (dI r112)), (sD (dL r210))])] (vD (dB r35)) []) <| .spl r35 (.exb fun r36 => .ob (FnD prog 23 [(vA [(sD (dI r08)), (sD (dI r18)), (sD (dL r26))]), (vA [(sD (dI r013)), (sD (dI r113)), (sD (dL r211))])] (vD (dB r36)) []) <| .spl r36 (.exb fun r37 => .ob (FnD prog 23 [(vA [(sD (dI r018)), (sD (dI r118)), (sD (dL r214))]), (vA [(sD (dI r020)), (sD (dI r120)), (sD (dL r216))])] (vD (dB r37)) []) <| .spl r37 (.reg 0 [(2, (Or.bool true), 0, 0), (6, (Or.bool true), 0, 0), (9, (Or.call (vD (dB r35)) [] []), 0, 0), (11, (Or.bool true), 0, 0), (14, (Or.call (vD (dB r36)) [] []), 0, 0), (16, (Or.bool true), 0, 0), (19, (Or.call (vD (dB r37)) [] []), 0, 0), (21, (Or.bool true), 0, 0)] [6] [] [.old 7, .old 6, .old 5, .old 4, .old 3, .old 2, .old 1, .old 0] <| .ret []) (.reg 0 [(2, (Or.bool true), 0, 0), (6, (Or.bool true), 0, 0), (9, (Or.call (vD (dB r35)) [] []), 0, 0), (11, (Or.bool true), 0, 0), (14, (Or.call (vD (dB r36)) [] []), 0, 0), (16, (Or.bool true), 0, 0), (19, (Or.call (vD (dB r37)) [] []), 0, 0), (21, (Or.bool false), 0, 0)] [6] [] [.old 7, .old 6, .old 5, .old 4, .old 3, .old 2, .old 1, .old 0] <| .ret [])) (.reg 0 [(2, (Or.bool true), 0, 0), (6, (Or.bool true), 0, 0), (9, (Or.call (vD (dB r35)) [] []), 0, 0), (11, (Or.bool true), 0, 0), (14, (Or.call (vD (dB r36)) [] []), 0, 0), (16, (Or.bool false), 0, 0)] [6] [] [.old 5, .old 4, .old 3, .old 2, .old 1, .old 0] <| .ret [])) (.reg 0 [(2, (Or.bool true), 0, 0), (6, (Or.bool true), 0, 0), (9, (Or.call (vD (dB r35)) [] []), 0, 0), (11, (Or.bool false), 0, 0)] [6] [] [.old 3, .old 2, .old 1, .old 0] <| .ret [])) (.reg 0 [(2, (Or.bool true), 0, 0), (6, (Or.bool false), 0, 0)] [6] [] [.old 1, .old 0] <| .ret [])) (.reg 0 [(2, (Or.bool false), 0, 0)] [6] [] [.old 0] <| .ret []))))))))))))))
    (by kernel_rfl) (by kernel_rfl) (by kernel_rfl) h

end Go.AM

/- The law of blocks of matrices. -/
namespace Go.AM
open Go.Proofs.Try

theorem el_append {r : Nat} {a b : List (List Int)} (ha : a.length = r) (i j : Nat) : el (a ++ b) i j = if i < r then el a i j else el b (i - r) j := by
  unfold el
  simp only [List.getD_eq_getElem?_getD, List.getElem?_append, ha]
  by_cases h : i < r <;> simp [h]

theorem append_mx {r s c : Nat} {a b : List (List Int)} (ha : Mx r c a) (hb : Mx s c b) : Mx (r + s) c (a ++ b) :=
  ⟨by rw [List.length_append, ha.1, hb.1], fun x hx => by
    rcases List.mem_append.1 hx with h | h
    · exact ha.2 x h
    · exact hb.2 x h⟩

theorem append_bd {K : Nat} {a b : List (List Int)} (ha : BdM K a) (hb : BdM K b) : BdM K (a ++ b) := fun x hx => by
  rcases List.mem_append.1 hx with h | h
  · exact ha x h
  · exact hb x h

/-- Two matrices side by side. -/
def besM (r c d : Nat) (a b : List (List Int)) : List (List Int) := table r (c + d) fun i j => if j < c then el a i j else el b i (j - c)

theorem besM_bd {r c d K : Nat} {a b : List (List Int)} (ha : Mx r c a) (hb : Mx r d b) (ka : BdM K a) (kb : BdM K b) : BdM K (besM r c d a b) := table_bd fun i j hi hj => by
  by_cases h : j < c
  · simp only [if_pos h]; exact el_bd ha ka hi h
  · simp only [if_neg h]; exact el_bd hb kb hi (by omega)

theorem el_besM {r c d : Nat} {a b : List (List Int)} {i j : Nat} (hi : i < r) (hj : j < c + d) : el (besM r c d a b) i j = if j < c then el a i j else el b i (j - c) := el_table hi hj

theorem mmul_stack {r s n c : Nat} {a b m : List (List Int)} (ha : Mx r n a) : mmul (r + s) n c (a ++ b) m = mmul r n c a m ++ mmul s n c b m := by
  refine mx_ext (mmul_mx _ _ _ _ _) (append_mx (mmul_mx r n c a m) (mmul_mx s n c b m)) fun i j hi hj => ?_
  rw [el_mmul hi hj, el_append (mmul_mx r n c a m).1]
  by_cases h : i < r
  · rw [if_pos h, el_mmul h hj]
    exact sm_congr n fun k _ => by rw [el_append ha.1, if_pos h]
  · rw [if_neg h, el_mmul (by omega) hj]
    exact sm_congr n fun k _ => by rw [el_append ha.1, if_neg h]

theorem mmul_beside {r n c d : Nat} (a m w : List (List Int)) : mmul r n (c + d) a (besM n c d m w) = besM r c d (mmul r n c a m) (mmul r n d a w) := by
  refine mx_ext (mmul_mx _ _ _ _ _) (table_mx _ _ _) fun i j hi hj => ?_
  rw [el_mmul hi hj, el_besM hi hj]
  by_cases h : j < c
  · rw [if_pos h, el_mmul hi h]
    exact sm_congr n fun k hk => by rw [el_besM hk hj, if_pos h]
  · rw [if_neg h, el_mmul hi (by omega)]
    exact sm_congr n fun k hk => by rw [el_besM hk hj, if_neg h]

theorem mmul_blocks {r n s c : Nat} {a t b u : List (List Int)} (hb : Mx n c b) : mmul r (n + s) c (besM r n s a t) (b ++ u) = mcomb r c (· + ·) (mmul r n c a b) (mmul r s c t u) := by
  refine mx_ext (mmul_mx _ _ _ _ _) (mcomb_mx _ _ _ _ _) fun i j hi hj => ?_
  rw [el_mmul hi hj, el_mcomb hi hj, el_mmul hi hj, el_mmul hi hj, sm_split]
  have e1 : sm (fun k => el (besM r n s a t) i k * el (b ++ u) k j) n = sm (fun k => el a i k * el b k j) n :=
    sm_congr n fun k hk => by rw [el_besM hi (by omega), if_pos hk, el_append hb.1, if_pos hk]
  have e2 : sm (fun k => el (besM r n s a t) i (n + k) * el (b ++ u) (n + k) j) s = sm (fun k => el t i k * el u k j) s :=
    sm_congr s fun k hk => by rw [el_besM hi (by omega), if_neg (by omega), el_append hb.1, if_neg (by omega), Nat.add_sub_cancel_left]
  rw [e1, e2]

theorem mod4 {x : Int} (h0 : 0 ≤ x) : ∃ n : Nat, IntKind.i64.wrap (x.tmod 4) = (n : Int) ∧ n ≤ 3 := by
  refine ⟨(x % 4).toNat, ?_, by omega⟩
  rw [Int.tmod_eq_emod_of_nonneg h0, w64 (by omega) (by omega)]; omega

theorem wadd {a b : Nat} (h : a + b ≤ 4611686018427387904) : IntKind.i64.wrap ((a : Int) + (b : Int)) = ((a + b : Nat) : Int) := by rw [w64 (by omega) (by omega)]; simp

theorem blocks_ok (x0 : Int) (g0 : IntKind.u8.min ≤ x0 ∧ x0 ≤ IntKind.u8.max) (x1 : Int) (g1 : IntKind.u8.min ≤ x1 ∧ x1 ≤ IntKind.u8.max) (x2 : Int) (g2 : IntKind.u8.min ≤ x2 ∧ x2 ≤ IntKind.u8.max) (x3 : Int) (g3 : IntKind.u8.min ≤ x3 ∧ x3 ≤ IntKind.u8.max)
    (l4 : List (List D)) (g4 : l4.length ≤ 9223372036854775807 ∧ ∀ x ∈ l4, DOKL [.i .i8] x) (l5 : List (List D)) (g5 : l5.length ≤ 9223372036854775807 ∧ ∀ x ∈ l5, DOKL [.i .i8] x) (l6 : List (List D)) (g6 : l6.length ≤ 9223372036854775807 ∧ ∀ x ∈ l6, DOKL [.i .i8] x)
    (l7 : List (List D)) (g7 : l7.length ≤ 9223372036854775807 ∧ ∀ x ∈ l7, DOKL [.i .i8] x) (x8 : Int) (g8 : IntKind.u8.min ≤ x8 ∧ x8 ≤ IntKind.u8.max) :
    FnD prog 5 [.e (.agg [.dat (.int .u8 x0), .dat (.int .u8 x1), .dat (.int .u8 x2), .dat (.int .u8 x3), .dat (.sl l4), .dat (.sl l5), .dat (.sl l6)]), .e (.sc (.dat (.sl l7))), .e (.sc (.dat (.int .u8 x8)))] (vb true) [] := by
  obtain ⟨a, rfl, _⟩ := i8s_of g4
  obtain ⟨b, rfl, _⟩ := i8s_of g5
  obtain ⟨c, rfl, _⟩ := i8s_of g6
  obtain ⟨d, rfl, _⟩ := i8s_of g7
  obtain ⟨n0, n1, n2, n3, b0, b1, b2, b3, hchain⟩ := chain_ok a b c g0.1 g1.1 g2.1 g3.1
  obtain ⟨k, hk, bk⟩ := mod4 (x := x8) g8.1
  obtain ⟨A, hA⟩ : ∃ A, A = table n0 n1 (fillG n1 a) := ⟨_, rfl⟩
  obtain ⟨B, hB⟩ : ∃ B, B = table n1 n2 (fillG n2 b) := ⟨_, rfl⟩
  obtain ⟨W, hW⟩ : ∃ W, W = table k n1 (fillG n1 d) := ⟨_, rfl⟩
  obtain ⟨X, hX⟩ : ∃ X, X = table n1 k (fillG k d) := ⟨_, rfl⟩
  obtain ⟨T, hT⟩ : ∃ T, T = table n0 k (fillG k d) := ⟨_, rfl⟩
  obtain ⟨F, hF⟩ : ∃ F, F = table k n2 (fillG n2 d) := ⟨_, rfl⟩
  have mA : Mx n0 n1 A := hA ▸ table_mx _ _ _
  have mB : Mx n1 n2 B := hB ▸ table_mx _ _ _
  have mW : Mx k n1 W := hW ▸ table_mx _ _ _
  have mX : Mx n1 k X := hX ▸ table_mx _ _ _
  have mT : Mx n0 k T := hT ▸ table_mx _ _ _
  have mF : Mx k n2 F := hF ▸ table_mx _ _ _
  have kA : BdM 9 A := hA ▸ filled_bd
  have kB : BdM 9 B := hB ▸ filled_bd
  have kW : BdM 9 W := hW ▸ filled_bd
  have kX : BdM 9 X := hX ▸ filled_bd
  have kT : BdM 9 T := hT ▸ filled_bd
  have kF : BdM 9 F := hF ▸ filled_bd
  have fW := filled_ok (r := k) (c := n1) (v := d) (by omega) (by omega)
  have fX := filled_ok (r := n1) (c := k) (v := d) (by omega) (by omega)
  have fT := filled_ok (r := n0) (c := k) (v := d) (by omega) (by omega)
  have fF := filled_ok (r := k) (c := n2) (v := d) (by omega) (by omega)
  rw [← hA, ← hB] at hchain
  rw [← hW] at fW
  rw [← hX] at fX
  rw [← hT] at fT
  rw [← hF] at fF
  clear hA hB hW hX hT hF
  have mS := append_mx mA mW
  have kS := append_bd kA kW
  have mV : Mx n1 (n2 + k) (besM n1 n2 k B X) := table_mx _ _ _
  have kV := besM_bd mB mX kB kX
  have mR : Mx n0 (n1 + k) (besM n0 n1 k A T) := table_mx _ _ _
  have kR := besM_bd mA mT kA kT
  have mC := append_mx mB mF
  have kC := append_bd kB kF
  have L : ∀ n, n ≤ 8 → n * (9 * 9) ≤ 1000 := fun n h => by omega
  have mAB := mmul_mx n0 n1 n2 A B
  have kAB := (mmul_bd mA mB kA kB).mono (L n1 (by omega))
  have mWB := mmul_mx k n1 n2 W B
  have kWB := (mmul_bd mW mB kW kB).mono (L n1 (by omega))
  have mAX := mmul_mx n0 n1 k A X
  have kAX := (mmul_bd mA mX kA kX).mono (L n1 (by omega))
  have mTF := mmul_mx n0 k n2 T F
  have kTF := (mmul_bd mT mF kT kF).mono (L k (by omega))
  refine vc5_ok _ _ _ _ _ _ _ _ _ (R := Out _) ?_
  unfold vc5
  rw [hk]
  refine ⟨true, sanity_ok, _, _, _, _, _, _, _, _, _, hchain, _, _, _, by decide, fW, _, _, _, fX, ?_⟩
  simp only [matD_om]
  refine ⟨_, _, _, _, stack_ok mA.1 mW.1 (by omega) (by omega), _, _, _, _, beside_ok mB mX (by omega) (by omega) (by omega), fun h => absurd h (by decide), fun _ => ⟨fun h => absurd h (by decide), fun _ => ?_⟩⟩
  rw [wadd (by omega), wadd (by omega)]
  refine ⟨true, sized_yes mS kS (by omega) (by omega) (by decide), fun h => absurd h (by decide), fun _ => ?_⟩
  refine ⟨true, sized_yes mV kV (by omega) (by omega) (by decide), fun h => absurd h (by decide), fun _ => ?_⟩
  refine ⟨_, _, _, _, mmul_ok mS mB kS kB (by omega) (by omega) (by omega) (by omega), _, _, _, _, mmul_ok mA mV kA kV (by omega) (by omega) (by omega) (by omega), ?_⟩
  refine ⟨_, _, _, _, _, _, _, _, _, m5prod_ok mA mB kA kB (by omega) (by omega) (by omega) (by omega), m5prod_ok mW mB kW kB (by omega) (by omega) (by omega) (by omega), m5prod_ok mA mX kA kX (by omega) (by omega) (by omega) (by omega), ?_⟩
  refine ⟨_, _, _, _, stack_ok mAB.1 mWB.1 (by omega) (by omega), _, _, _, _, beside_ok mAB mAX (by omega) (by omega) (by omega), _, _, _, fT, ?_⟩
  simp only [matD_om]
  refine ⟨_, _, _, _, beside_ok mA mT (by omega) (by omega) (by omega), _, _, _, fF, ?_⟩
  simp only [matD_om]
  refine ⟨_, _, _, _, stack_ok mB.1 mF.1 (by omega) (by omega), ?_⟩
  refine ⟨fun h => absurd h (by decide), fun _ => ⟨fun h => absurd h (by decide), fun _ => ⟨fun h => absurd h (by decide), fun _ => ⟨fun h => absurd h (by decide), fun _ => ⟨fun h => absurd h (by decide), fun _ => ⟨fun h => absurd h (by decide), fun _ => ?_⟩⟩⟩⟩⟩⟩
  rw [wadd (by omega)]
  refine ⟨true, sized_yes mR kR (by omega) (by omega) (by decide), fun h => absurd h (by decide), fun _ => ?_⟩
  refine ⟨true, sized_yes mC kC (by omega) (by omega) (by decide), fun h => absurd h (by decide), fun _ => ?_⟩
  refine ⟨_, _, _, _, mmul_ok mR mC kR kC (by omega) (by omega) (by omega) (by omega), _, _, _, _, _, _, _, m5prod_ok mT mF kT kF (by omega) (by omega) (by omega) (by omega), m5add_ok mAB mTF kAB kTF (by omega) (by omega) (by omega), ?_⟩
  refine ⟨fun _ => ⟨fun _ => ?_, fun h => absurd h (by decide)⟩, fun h => absurd h (by decide)⟩
  have kP := (mcomb_bd mAB mTF kAB kTF).1
  have kSB := (mmul_bd mS mB kS kB).mono (L n1 (by omega))
  have kAV := (mmul_bd mA mV kA kV).mono (L n1 (by omega))
  have kRC := (mmul_bd mR mC kR kC).mono (L (n1 + k) (by omega))
  refine ⟨true, same_yes (K := 1000) (mmul_mx _ _ _ _ _) kSB (append_bd kAB kWB) (mmul_stack mA) (by omega) (by omega) (by omega), fun _ => ?_, fun h => nomatch h⟩
  refine ⟨true, same_yes (K := 1000) (mmul_mx _ _ _ _ _) kAV (besM_bd mAB mAX kAB kAX) (mmul_beside A B X) (by omega) (by omega) (by omega), fun _ => ?_, fun h => nomatch h⟩
  exact ⟨true, same_yes (K := 2000) (mmul_mx _ _ _ _ _) (kRC.mono (by omega)) (kP.mono (by omega)) (mmul_blocks mB) (by omega) (by omega) (by omega), fun _ => ⟨rfl, rfl⟩, fun h => nomatch h⟩

end Go.AM

/- What functions of the program come to: group P6. Printed by vc.py. -/
set_option maxRecDepth 100000
set_option linter.unusedVariables false

namespace Go.AM
open Go.Proofs.Try

/- f29 torsion/torsionlaw05.indices -/
def vc29 (l : List (List D)) (n : Int) (R : V → Heap → Prop) : Prop :=
  ∃ (J0 : (List (List D)) → Int → Prop) (μ0 : (List (List D)) → Int → Nat),
  J0 ([] : List (List D)) (0 : Int) ∧ ∀ (out : List (List D)) (i : Int), J0 out i →
    ((decide (i < (l.length : Int))) = true →
      ((decide (i < (6 : Int))) = true →
        ((decide (n > (0 : Int))) = true →
          ∃ (vx : Int),
          (0 ≤ i ∧ i < (l.length : Int)) ∧
          (l[(i).toNat]? = some [(D.int .i8 vx)]) ∧
          (n ≠ 0) ∧
          ((out.length + ([[(dI ((IntKind.i64.wrap (IntKind.u8.wrap vx)).tmod n))]] : List (List D)).length) * 8 ≤ 140737488355328) ∧
          (J0 (out ++ [[(dI ((IntKind.i64.wrap (IntKind.u8.wrap vx)).tmod n))]]) (IntKind.i64.wrap (i + (1 : Int))) ∧ μ0 (out ++ [[(dI ((IntKind.i64.wrap (IntKind.u8.wrap vx)).tmod n))]]) (IntKind.i64.wrap (i + (1 : Int))) < μ0 out i)) ∧
        ((decide (n > (0 : Int))) = false →
          R (vD (dL out)) [])) ∧
      ((decide (i < (6 : Int))) = false →
        R (vD (dL out)) [])) ∧
    ((decide (i < (l.length : Int))) = false →
      R (vD (dL out)) [])

theorem vc29_ok (l : List (List D)) (n : Int) {R : V → Heap → Prop} (h : vc29 l n R) : FnG prog 29 [(vD (dL l)), (vD (dI n))] [] R :=
  FnG.vcg hT func29 ntmps29 (.r0 [0, 1] <| .reg 1 [(0, Or.none, 0, 1)] [0, 1, 5] [0] [] <| .r1 [0, 1, 5, 6] [0] <| .lp [.l, .i] (fun out i => ⟨[(0, (vD (dL l))), (1, (vD (dI n))), (5, (vR 0)), (6, (vD (dI i)))], [(some (Obj.arr 1 out))], 34⟩) [.l ([] : List (List D)), .i (0 : Int)] <| .fl fun out => .fi fun i => .beg <| .spl ((decide (i < (l.length : Int)))) (.spl ((decide (i < (6 : Int)))) (.reg 0 [(4, (Or.bool true), 0, 0), (8, (Or.bool true), 0, 0)] [0, 1, 5, 6, 19] [0] [.old 1, .old 0] <| .c2 (.ex fun vx => .reg 2 [(4, (Or.cells [(D.int .i8 vx)]), 0, 0), (9, Or.none, 1, 1), (10, Or.none, 2, 1)] [0, 1, 5, 6] [2] [] <| .r1 [0, 1, 5, 6] [0] <| .bk 0 [.l (out ++ [[(dI ((IntKind.i64.wrap (IntKind.u8.wrap vx)).tmod n))]]), .i (IntKind.i64.wrap (i + (1 : Int)))]) (.r1 [4] [0] <| .frz [0] <| .ret [])) (.reg 0 [(4, (Or.bool true), 0, 0), (8, (Or.bool false), 0, 0)] [0, 1, 5, 6, 19] [0] [.old 1, .old 0] <| .ct false none <| .r1 [4] [0] <| .frz [0] <| .ret [])) (.reg 0 [(4, (Or.bool false), 0, 0)] [0, 1, 5, 6, 19] [0] [.old 0] <| .ct false none <| .r1 [4] [0] <| .frz [0] <| .ret []))
    (by kernel_rfl) (by kernel_rfl) (by kernel_rfl) h

/- f6 torsion/torsionlaw05.MatrixPicks -/
def vc6 (x0 : Int) (x1 : Int) (x2 : Int) (x3 : Int) (x4 : List (List D)) (x5 : List (List D)) (x6 : List (List D)) (rows : List (List D)) (cols : List (List D)) (R : V → Heap → Prop) : Prop :=
  ∃ (r : Bool),
  (FnD prog 14 [] (vD (dB r)) []) ∧
  (∃ (r0 : Int) (r1 : Int) (r2 : List (List D)) (r01 : Int) (r11 : Int) (r21 : List (List D)) (r02 : Int) (r12 : Int) (r22 : List (List D)),
  (FnD prog 19 [(vA [(sD (D.int .u8 x0)), (sD (D.int .u8 x1)), (sD (D.int .u8 x2)), (sD (D.int .u8 x3)), (sD (dL x4)), (sD (dL x5)), (sD (dL x6))])] (V.tup [(E.agg [(sD (dI r0)), (sD (dI r1)), (sD (dL r2))]), (E.agg [(sD (dI r01)), (sD (dI r11)), (sD (dL r21))]), (E.agg [(sD (dI r02)), (sD (dI r12)), (sD (dL r22))])]) []) ∧
  (∃ (r03 : Int) (r13 : Int) (r23 : List (List D)),
  (FnD prog 27 [(vA [(sD (dI r0)), (sD (dI r1)), (sD (dL r2))]), (vA [(sD (dI r01)), (sD (dI r11)), (sD (dL r21))])] (vA [(sD (dI r03)), (sD (dI r13)), (sD (dL r23))]) []) ∧
  (∃ (r3 : List (List D)) (r4 : List (List D)),
  (FnD prog 29 [(vD (dL rows)), (vD (dI (IntKind.i64.wrap (r0 + (1 : Int)))))] (vD (dL r3)) []) ∧
  (FnD prog 29 [(vD (dL cols)), (vD (dI (IntKind.i64.wrap (r11 + (1 : Int)))))] (vD (dL r4)) []) ∧
  (∃ (r04 : Int) (r14 : Int) (r24 : List (List D)) (r5 : Int),
  (FnD prog 30 [(vA [(sD (dI r03)), (sD (dI r13)), (sD (dL r23))]), (vD (dL r3)), (vD (dL r4))] (V.tup [(E.agg [(sD (dI r04)), (sD (dI r14)), (sD (dL r24))]), (eD (dI r5))]) []) ∧
  (∃ (r05 : Int) (r15 : Int) (r25 : List (List D)) (r6 : Int),
  (FnD prog 31 [(vA [(sD (dI r03)), (sD (dI r13)), (sD (dL r23))]), (vD (dL r3)), (vD (dL r4))] (V.tup [(E.agg [(sD (dI r05)), (sD (dI r15)), (sD (dL r25))]), (eD (dI r6))]) []) ∧
  (∃ (r7 : Bool),
  (FnD prog 23 [(vA [(sD (dI r04)), (sD (dI r14)), (sD (dL r24))]), (vA [(sD (dI r05)), (sD (dI r15)), (sD (dL r25))])] (vD (dB r7)) []) ∧
  (((!r7) = true →
    R (vD (dB false)) []) ∧
  ((!r7) = false →
    ((r5 != r6) = true →
      R (vD (dB false)) []) ∧
    ((r5 != r6) = false →
      ((r5 != (0 : Int)) = true →
        R (vD (dB r)) []) ∧
      ((r5 != (0 : Int)) = false →
        ∃ (r8 : List (List D)) (r06 : Int) (r16 : Int) (r26 : List (List D)) (r9 : Int),
        (FnD prog 32 [(vD (dI r1))] (vD (dL r8)) []) ∧
        (FnD prog 30 [(vA [(sD (dI r0)), (sD (dI r1)), (sD (dL r2))]), (vD (dL r3)), (vD (dL r8))] (V.tup [(E.agg [(sD (dI r06)), (sD (dI r16)), (sD (dL r26))]), (eD (dI r9))]) []) ∧
        (∃ (r10 : List (List D)) (r07 : Int) (r17 : Int) (r27 : List (List D)) (r18 : Int),
        (FnD prog 32 [(vD (dI r01))] (vD (dL r10)) []) ∧
        (FnD prog 30 [(vA [(sD (dI r01)), (sD (dI r11)), (sD (dL r21))]), (vD (dL r10)), (vD (dL r4))] (V.tup [(E.agg [(sD (dI r07)), (sD (dI r17)), (sD (dL r27))]), (eD (dI r18))]) []) ∧
        (((r9 != (0 : Int)) = true →
          R (vD (dB false)) []) ∧
        ((r9 != (0 : Int)) = false →
          ((r18 != (0 : Int)) = true →
            R (vD (dB false)) []) ∧
          ((r18 != (0 : Int)) = false →
            ∃ (r19 : Bool),
            (FnD prog 22 [(vA [(sD (dI r06)), (sD (dI r16)), (sD (dL r26))]), (vD (dI (r3.length : Int))), (vD (dI r1))] (vD (dB r19)) []) ∧
            (((!r19) = true →
              R (vD (dB false)) []) ∧
            ((!r19) = false →
              ∃ (r20 : Bool),
              (FnD prog 22 [(vA [(sD (dI r07)), (sD (dI r17)), (sD (dL r27))]), (vD (dI r01)), (vD (dI (r4.length : Int)))] (vD (dB r20)) []) ∧
              (((!r20) = true →
                R (vD (dB false)) []) ∧
              ((!r20) = false →
                ∃ (r08 : Int) (r110 : Int) (r28 : List (List D)) (r29 : Int),
                (FnD prog 20 [(vA [(sD (dI r06)), (sD (dI r16)), (sD (dL r26))]), (vA [(sD (dI r07)), (sD (dI r17)), (sD (dL r27))])] (V.tup [(E.agg [(sD (dI r08)), (sD (dI r110)), (sD (dL r28))]), (eD (dI r29))]) []) ∧
                (∃ (r30 : List (List D)) (r09 : Int) (r111 : Int) (r210 : List (List D)) (r31 : Int),
                (FnD prog 32 [(vD (dI (r3.length : Int)))] (vD (dL r30)) []) ∧
                (FnD prog 30 [(vA [(sD (dI r04)), (sD (dI r14)), (sD (dL r24))]), (vD (dL r30)), (vD (dL ([] : List (List D))))] (V.tup [(E.agg [(sD (dI r09)), (sD (dI r111)), (sD (dL r210))]), (eD (dI r31))]) []) ∧
                (((r29 == (0 : Int)) = true →
                  ∃ (r32 : Bool),
                  (FnD prog 23 [(vA [(sD (dI r08)), (sD (dI r110)), (sD (dL r28))]), (vA [(sD (dI r04)), (sD (dI r14)), (sD (dL r24))])] (vD (dB r32)) []) ∧
                  ((r32 = true →
                    ((r31 == (0 : Int)) = true →
                      ∃ (r010 : Int) (r112 : Int) (r211 : List (List D)) (r33 : Bool),
                      (FnD prog 33 [(vD (dI (r3.length : Int))), (vD (dI (0 : Int)))] (vA [(sD (dI r010)), (sD (dI r112)), (sD (dL r211))]) []) ∧
                      (FnD prog 23 [(vA [(sD (dI r09)), (sD (dI r111)), (sD (dL r210))]), (vA [(sD (dI r010)), (sD (dI r112)), (sD (dL r211))])] (vD (dB r33)) []) ∧
                      ((r33 = true →
                        R (vD (dB r)) []) ∧
                      (r33 = false →
                        R (vD (dB false)) []))) ∧
                    ((r31 == (0 : Int)) = false →
                      R (vD (dB false)) [])) ∧
                  (r32 = false →
                    R (vD (dB false)) []))) ∧
                ((r29 == (0 : Int)) = false →
                  R (vD (dB false)) [])))))))))))))))))))))

theorem vc6_ok (x0 : Int) (x1 : Int) (x2 : Int) (x3 : Int) (x4 : List (List D)) (x5 : List (List D)) (x6 : List (List D)) (rows : List (List D)) (cols : List (List D)) {R : V → Heap → Prop} (h : vc6 x0 x1 x2 x3 x4 x5 x6 rows cols R) : FnG prog 6 [(vA [(sD (D.int .u8 x0)), (sD (D.int .u8 x1)), (sD (D.int .u8 x2)), (sD (D.int .u8 x3)), (sD (dL x4)), (sD (dL x5)), (sD (dL x6))]), (vD (dL rows)), (vD (dL cols))] [] R :=
  FnG.vcg hT func6 ntmps6 (.reg 1 [(0, Or.none, 0, 1)] [1, 2, 3] [0] [] <| .exb fun r => .reg 0 [(0, (Or.call (vD (dB r)) [] []), 0, 0)] [1, 2, 3, 7] [0] [] <| .ex fun r0 => .ex fun r1 => .exl fun r2 => .ex fun r01 => .ex fun r11 => .exl fun r21 => .ex fun r02 => .ex fun r12 => .exl fun r22 => .reg 3 [(1, (Or.call (V.tup [(E.agg [(sD (dI r0)), (sD (dI r1)), (sD (dL r2))]), (E.agg [(sD (dI r01)), (sD (dI r11)), (sD (dL r21))]), (E.agg [(sD (dI r02)), (sD (dI r12)), (sD (dL r22))])]) [] []), 0, 0), (6, Or.none, 1, 1), (7, Or.none, 2, 1), (8, Or.none, 3, 1)] [1, 2, 7, 8, 9] [1, 2] [] <| .ex fun r03 => .ex fun r13 => .exl fun r23 => .reg 1 [(2, (Or.call (vA [(sD (dI r03)), (sD (dI r13)), (sD (dL r23))]) [] []), 0, 0), (3, Or.none, 2, 1)] [1, 2, 7, 8, 9, 11] [0, 1, 2] [] <| .exl fun r3 => .exl fun r4 => .drw 0 [(4, ((Or.call (vD (dL r3)) [] []), 0, 0), []), (9, ((Or.call (vD (dL r4)) [] []), 0, 0), [])] [7, 8, 9, 11, 12, 13] [0, 1, 2] [] <| .ex fun r04 => .ex fun r14 => .exl fun r24 => .ex fun r5 => .reg 1 [(3, (Or.call (V.tup [(E.agg [(sD (dI r04)), (sD (dI r14)), (sD (dL r24))]), (eD (dI r5))]) [] []), 0, 0), (7, Or.none, 3, 1)] [7, 8, 9, 11, 12, 13, 14, 15] [0, 1, 2, 3] [] <| .ex fun r05 => .ex fun r15 => .exl fun r25 => .ex fun r6 => .reg 1 [(3, (Or.call (V.tup [(E.agg [(sD (dI r05)), (sD (dI r15)), (sD (dL r25))]), (eD (dI r6))]) [] []), 0, 0), (7, Or.none, 4, 1)] [7, 8, 9, 12, 13, 14, 15, 16, 17] [0, 1, 3, 4] [] <| .exb fun r7 => .ob (FnD prog 23 [(vA [(sD (dI r04)), (sD (dI r14)), (sD (dL r24))]), (vA [(sD (dI r05)), (sD (dI r15)), (sD (dL r25))])] (vD (dB r7)) []) <| .spl ((!r7)) (.reg 0 [(2, (Or.call (vD (dB r7)) [] []), 0, 0), (4, (Or.bool true), 0, 0)] [7, 8, 9, 12, 13, 14, 15, 68] [0, 1, 2] [.old 1, .old 0] <| .ct true none <| .r0 [6] <| .ret []) (.reg 0 [(2, (Or.call (vD (dB r7)) [] []), 0, 0), (4, (Or.bool false), 0, 0)] [7, 8, 9, 12, 13, 14, 15, 68] [0, 1, 2] [.old 1, .old 0] <| .c2 (.r0 [6] <| .ret []) (.r1 [7, 8, 9, 12, 13, 14, 70] [0, 1, 2] <| .c2 (.r0 [6] <| .ret []) (.exl fun r8 => .ex fun r06 => .ex fun r16 => .exl fun r26 => .ex fun r9 => .drw 1 [(4, ((Or.call (vD (dL r8)) [] []), 0, 0), []), (5, ((Or.call (V.tup [(E.agg [(sD (dI r06)), (sD (dI r16)), (sD (dL r26))]), (eD (dI r9))]) [] []), 0, 0), []), (9, (Or.none, 3, 1), [3]), (10, (Or.none, 0, 0), [3])] [7, 8, 9, 12, 13, 14, 18, 19] [0, 1, 2, 3] [] <| .exl fun r10 => .ex fun r07 => .ex fun r17 => .exl fun r27 => .ex fun r18 => .drw 1 [(3, ((Or.call (vD (dL r10)) [] []), 0, 0), []), (5, ((Or.call (V.tup [(E.agg [(sD (dI r07)), (sD (dI r17)), (sD (dL r27))]), (eD (dI r18))]) [] []), 0, 0), []), (9, (Or.none, 4, 1), [4]), (10, (Or.none, 0, 0), [4])] [7, 8, 9, 12, 13, 14, 18, 19, 20, 21] [0, 1, 2, 3, 4] [] <| .spl ((r9 != (0 : Int))) (.reg 0 [(2, (Or.bool true), 0, 0)] [7, 12, 14, 18, 20, 113] [2, 3, 4] [.old 0] <| .ct true none <| .r0 [6] <| .ret []) (.spl ((r18 != (0 : Int))) (.reg 0 [(2, (Or.bool false), 0, 0), (6, (Or.bool true), 0, 0)] [7, 12, 14, 18, 20, 113] [2, 3, 4] [.old 1, .old 0] <| .ct true none <| .r0 [6] <| .ret []) (.exb fun r19 => .ob (FnD prog 22 [(vA [(sD (dI r06)), (sD (dI r16)), (sD (dL r26))]), (vD (dI (r3.length : Int))), (vD (dI r1))] (vD (dB r19)) []) <| .spl ((!r19)) (.reg 0 [(2, (Or.bool false), 0, 0), (6, (Or.bool false), 0, 0), (12, (Or.call (vD (dB r19)) [] []), 0, 0), (15, (Or.bool true), 0, 0)] [7, 12, 14, 18, 20, 113] [2, 3, 4] [.old 3, .old 2, .old 1, .old 0] <| .ct true none <| .r0 [6] <| .ret []) (.exb fun r20 => .reg 0 [(2, (Or.bool false), 0, 0), (6, (Or.bool false), 0, 0), (12, (Or.call (vD (dB r19)) [] []), 0, 0), (15, (Or.bool false), 0, 0), (21, (Or.call (vD (dB r20)) [] []), 0, 0)] [7, 12, 14, 18, 20, 113] [2, 3, 4] [.old 3, .old 2, .old 1, .old 0] <| .c2 (.r0 [6] <| .ret []) (.ex fun r08 => .ex fun r110 => .exl fun r28 => .ex fun r29 => .reg 1 [(2, (Or.call (V.tup [(E.agg [(sD (dI r08)), (sD (dI r110)), (sD (dL r28))]), (eD (dI r29))]) [] []), 0, 0), (6, Or.none, 3, 1)] [7, 12, 14, 22, 23] [0, 3] [] <| .exl fun r30 => .ex fun r09 => .ex fun r111 => .exl fun r210 => .ex fun r31 => .drw 1 [(3, ((Or.call (vD (dL r30)) [] []), 0, 0), []), (4, ((Or.call (V.tup [(E.agg [(sD (dI r09)), (sD (dI r111)), (sD (dL r210))]), (eD (dI r31))]) [] []), 0, 0), []), (8, (Or.none, 2, 1), [2]), (9, (Or.none, 0, 0), [2])] [7, 12, 14, 22, 23, 24, 25] [0, 1, 2] [] <| .spl ((r29 == (0 : Int))) (.exb fun r32 => .ob (FnD prog 23 [(vA [(sD (dI r08)), (sD (dI r110)), (sD (dL r28))]), (vA [(sD (dI r04)), (sD (dI r14)), (sD (dL r24))])] (vD (dB r32)) []) <| .spl r32 (.spl ((r31 == (0 : Int))) (.ex fun r010 => .ex fun r112 => .exl fun r211 => .exb fun r33 => .ob (FnD prog 33 [(vD (dI (r3.length : Int))), (vD (dI (0 : Int)))] (vA [(sD (dI r010)), (sD (dI r112)), (sD (dL r211))]) []) <| .ob (FnD prog 23 [(vA [(sD (dI r09)), (sD (dI r111)), (sD (dL r210))]), (vA [(sD (dI r010)), (sD (dI r112)), (sD (dL r211))])] (vD (dB r33)) []) <| .spl r33 (.drw 0 [(2, ((Or.bool true), 0, 0), []), (5, ((Or.call (vD (dB r32)) [] []), 0, 0), []), (7, ((Or.bool true), 0, 0), []), (11, ((Or.bool true), 0, 0), []), (15, ((Or.call (vA [(sD (dI r010)), (sD (dI r112)), (sD (dL r211))]) [] []), 0, 0), []), (16, ((Or.call (vD (dB r33)) [] []), 0, 0), []), (18, ((Or.bool true), 0, 0), [])] [6] [] [.old 6, .old 5, .old 4, .old 3, .old 2, .old 1, .old 0] <| .ret []) (.drw 0 [(2, ((Or.bool true), 0, 0), []), (5, ((Or.call (vD (dB r32)) [] []), 0, 0), []), (7, ((Or.bool true), 0, 0), []), (11, ((Or.bool true), 0, 0), []), (15, ((Or.call (vA [(sD (dI r010)), (sD (dI r112)), (sD (dL r211))]) [] []), 0, 0), []), (16, ((Or.call (vD (dB r33)) [] []), 0, 0), []), (18, ((Or.bool false), 0, 0), [])] [6] [] [.old 6, .old 5, .old 4, .old 3, .old 2, .old 1, .old 0] <| .ret [])) (.drw 0 [(2, ((Or.bool true), 0, 0), []), (5, ((Or.call (vD (dB r32)) [] []), 0, 0), []), (7, ((Or.bool true), 0, 0), []), (11, ((Or.bool false), 0, 0), [])] [6] [] [.old 3, .old 2, .old 1, .old 0] <| .ret [])) (.drw 0 [(2, ((Or.bool true), 0, 0), []), (5, ((Or.call (vD (dB r32)) [] []), 0, 0), []), (7, ((Or.bool false), 0, 0), [])] [6] [] [.old 2, .old 1, .old 0] <| .ret [])) (.drw 0 [(2, ((Or.bool false), 0, 0), [])] [6] [] [.old 0] <| .ret [])))))))))
    (by kernel_rfl) (by kernel_rfl) (by kernel_rfl) h

end Go.AM

/- The law of picking. -/
namespace Go.AM
open Go.Proofs.Try

theorem inside_ok (l : List Int) (n : Int) (hl : l.length ≤ 4294967296) : FnD prog 87 [vs (ints l), vi n] (vb (!l.any (outP n))) [] := by
  refine vc87_ok _ _ (R := Out _) ?_
  unfold vc87
  simp only [ints_length]
  refine ⟨fun t => ∃ i : Nat, t = (i : Int) ∧ i ≤ l.length ∧ ∀ k, k < i → outP n (elr l k) = false, fun t => ((l.length : Int) - t).toNat, ⟨0, rfl, by omega, fun k hk => by omega⟩, ?_⟩
  rintro _ ⟨i, rfl, hi, hinv⟩
  refine ⟨fun h => ?_, fun h => outb ?_⟩
  · have hil : i < l.length := by simpa using h
    have bad : outP n (elr l i) = true → false = !l.any (outP n) := fun ho => by
      have : l.any (outP n) = true := List.any_eq_true.2 ⟨_, elr_mem hil, ho⟩
      rw [this]; rfl
    refine ⟨elr l i, ⟨by omega, by omega⟩, ints_getN hil, fun h1 => outb (bad ?_), fun h1 => ⟨fun h2 => outb (bad ?_), fun h2 => ?_⟩⟩
    · unfold outP; rw [h1]; rfl
    · unfold outP; rw [h2]; simp
    · rw [inc64 (by omega)]
      refine ⟨⟨i + 1, rfl, by omega, fun k hk => ?_⟩, by show ((l.length : Int) - ((i + 1 : Nat) : Int)).toNat < ((l.length : Int) - (i : Int)).toNat; omega⟩
      by_cases hki : k = i
      · subst hki; unfold outP; rw [h1, h2]; rfl
      · exact hinv k (by omega)
  · have hil : i = l.length := by have : l.length ≤ i := by simpa using h
                                  omega
    subst hil
    have : l.any (outP n) = false := by
      rw [List.any_eq_false]
      intro z hz
      obtain ⟨k, hk, rfl⟩ := List.getElem_of_mem hz
      have := hinv k hk
      rw [elr_get hk] at this
      simp [this]
    rw [this]; rfl

theorem m5pick_bad {r c : Int} {a : List (List Int)} {p q : List Int} (hp : p.length ≤ 4294967296) (hq : q.length ≤ 4294967296) (h : p.any (outP r) = true ∨ q.any (outP c) = true) :
    FnD prog 31 [eM r c a, vs (ints p), vs (ints q)] (eME 0 0 [] 1) [] := by
  refine vc31_ok _ _ _ _ _ (R := Out _) ?_
  unfold vc31
  refine ⟨_, inside_ok p r hp, fun _ => ⟨rfl, rfl⟩, fun h1 => ⟨_, inside_ok q c hq, fun _ => ⟨rfl, rfl⟩, fun h2 => ?_⟩⟩
  exfalso
  rcases h with h | h
  · rw [h] at h1; simp at h1
  · rw [h] at h2; simp at h2

theorem no_out {l : List Int} {n : Int} (h : ∀ k, k < l.length → 0 ≤ elr l k ∧ elr l k < n) : l.any (outP n) = false := by
  rw [List.any_eq_false]
  intro z hz
  obtain ⟨k, hk, rfl⟩ := List.getElem_of_mem hz
  have := h k hk
  rw [elr_get hk] at this
  simp [outP]; omega

theorem no_out' {l : List Int} {n : Int} (h : l.any (outP n) = false) : ∀ k, k < l.length → 0 ≤ elr l k ∧ elr l k < n := fun k hk => by
  rw [List.any_eq_false] at h
  have := h _ (elr_mem hk)
  simp [outP] at this; omega

theorem m5pick_ok {r c : Nat} {a : List (List Int)} (ha : Mx r c a) {p q : List Int} (hp : p.length ≤ 4294967296) (hq : q.length ≤ 4294967296)
    (ip : ∀ k, k < p.length → 0 ≤ elr p k ∧ elr p k < r) (iq : ∀ k, k < q.length → 0 ≤ elr q k ∧ elr q k < c) :
    FnD prog 31 [eM r c a, vs (ints p), vs (ints q)] (eME p.length q.length (table p.length q.length fun i j => el a (elr p i).toNat (elr q j).toNat) 0) [] := by
  refine vc31_ok _ _ _ _ _ (R := Out _) ?_
  unfold vc31
  simp only [ints_length]
  have c1 := inside_ok p r hp
  have c2 := inside_ok q c hq
  rw [no_out ip] at c1
  rw [no_out iq] at c2
  obtain ⟨f, hf⟩ : ∃ f : Nat → Nat → Int, f = fun i j => el a (elr p i).toNat (elr q j).toNat := ⟨_, rfl⟩
  rw [← hf]
  refine ⟨_, c1, fun h => by simp at h, fun _ => ⟨_, c2, fun h => by simp at h, fun _ => ?_⟩⟩
  refine ⟨_, _, _, rnew_ok hp hq, fun o t => ∃ i : Nat, t = (i : Int) ∧ i ≤ p.length ∧ o = om (table p.length q.length (gF f i 0)), fun _ t => ((p.length : Int) - t).toNat, ⟨0, rfl, by omega, gF_zero f⟩, ?_⟩
  rintro _ _ ⟨i, rfl, hi, rfl⟩
  refine ⟨fun h => ?_, fun h => outME ?_⟩
  · have hir : i < p.length := by simpa using h
    refine ⟨fun o t => ∃ j : Nat, t = (j : Int) ∧ j ≤ q.length ∧ o = om (table p.length q.length (gF f i j)), fun _ t => ((q.length : Int) - t).toNat, ⟨0, rfl, by omega, rfl⟩, ?_⟩
    rintro _ _ ⟨j, rfl, hj, rfl⟩
    refine ⟨fun h2 => ?_, fun h2 => ?_⟩
    · have hjc : j < q.length := by simpa using h2
      obtain ⟨p1, p2⟩ := ip i hir
      obtain ⟨q1, q2⟩ := iq j hjc
      have h1 : (elr p i).toNat < r := by omega
      have h2 : (elr q j).toNat < c := by omega
      obtain ⟨e1, e2, e3, e4⟩ := read_el ha h1 h2
      rw [Int.toNat_natCast] at e1 e2
      refine ⟨elr p i, _, elr q j, _, _, ⟨by omega, by rw [om_len]; omega⟩, ⟨by omega, by omega⟩, ints_getN hir, ⟨p1, by omega⟩, e1, ⟨by omega, by omega⟩, ints_getN hjc, ⟨q1, by omega⟩, e2, om_in hir hjc, ?_⟩
      rw [inc64 (by omega)]
      refine ⟨⟨j + 1, rfl, by omega, ?_⟩, by show ((q.length : Int) - ((j + 1 : Nat) : Int)).toNat < ((q.length : Int) - (j : Int)).toNat; omega⟩
      rw [Int.toNat_natCast, Int.toNat_natCast]
      have e : el a (elr p i).toNat (elr q j).toNat = f i j := by subst hf; rfl
      rw [e]
      exact gF_step hir hjc
    · have hjc : q.length ≤ j := by simpa using h2
      rw [inc64 (by omega)]
      exact ⟨⟨i + 1, rfl, by omega, gF_next fun b h1 h2 => by omega⟩, by show ((p.length : Int) - ((i + 1 : Nat) : Int)).toNat < ((p.length : Int) - (i : Int)).toNat; omega⟩
  · have hir : i = p.length := by have : p.length ≤ i := by simpa using h
                                  omega
    subst hir
    rw [gF_all, matD_om]

/-- The numbers below n. -/
def iota (n : Nat) : List Int := (List.range n).map fun (k : Nat) => (k : Int)

theorem iota_length (n : Nat) : (iota n).length = n := by simp [iota]
theorem elr_iota {n k : Nat} (h : k < n) : elr (iota n) k = k := by simp [elr, iota, h]
theorem ints_snoc (l : List Int) (z : Int) : ints l ++ [[D.int .i64 z]] = ints (l ++ [z]) := by simp [ints]

theorem range_ok {n : Nat} (hn : n ≤ 4294967296) : FnD prog 32 [vi n] (vs (ints (iota n))) [] := by
  refine vc32_ok _ (R := Out _) ?_
  unfold vc32
  refine ⟨fun o t => ∃ i : Nat, t = (i : Int) ∧ i ≤ n ∧ o = ints (iota i), fun _ t => ((n : Int) - t).toNat, ⟨0, rfl, by omega, rfl⟩, ?_⟩
  rintro _ _ ⟨i, rfl, hi, rfl⟩
  refine ⟨fun h => ?_, fun h => ?_⟩
  · have hin : i < n := by simpa using h
    refine ⟨by simp only [ints_length, iota_length, List.length_singleton]; omega, ?_⟩
    rw [inc64 (by omega)]
    refine ⟨⟨i + 1, rfl, by omega, ?_⟩, by show ((n : Int) - ((i + 1 : Nat) : Int)).toNat < ((n : Int) - (i : Int)).toNat; omega⟩
    have : iota (i + 1) = iota i ++ [(i : Int)] := by simp [iota, List.range_succ]
    rw [this, ← ints_snoc]
  · have hin : i = n := by have : n ≤ i := by simpa using h
                           omega
    subst hin
    exact ⟨rfl, rfl⟩

theorem indices_ok (l : List Int) {n : Nat} (hn : n ≤ 4294967296) : ∃ p : List Int, p.length ≤ 6 ∧ (∀ k, k < p.length → 0 ≤ elr p k ∧ elr p k < n) ∧ FnD prog 29 [vs (i8s l), vi n] (vs (ints p)) [] := by
  obtain ⟨g, hg⟩ : ∃ g : Nat → Int, g = fun k => (IntKind.i64.wrap (IntKind.u8.wrap (elr l k))).tmod (n : Int) := ⟨_, rfl⟩
  have key : ∀ m, m ≤ 6 → m ≤ l.length → (0 < m → 0 < n) → ∀ k, k < (tableR m g).length → 0 ≤ elr (tableR m g) k ∧ elr (tableR m g) k < n := fun m _ hm hz k hk => by
    have hkm : k < m := by simpa [tableR] using hk
    rw [elr_tableR hkm]
    subst hg
    have hz' := hz (by omega)
    have h0 : IntKind.u8.wrap (elr l k) = elr l k % 256 := rfl
    have h1 : 0 ≤ IntKind.u8.wrap (elr l k) := by omega
    have h2 : IntKind.u8.wrap (elr l k) ≤ 255 := by omega
    have h3 : IntKind.i64.wrap (IntKind.u8.wrap (elr l k)) = IntKind.u8.wrap (elr l k) := w64 (by omega) (by omega)
    simp only [h3]
    rw [Int.tmod_eq_emod_of_nonneg h1]
    exact ⟨Int.emod_nonneg _ (by omega), Int.emod_lt_of_pos _ (by omega)⟩
  suffices h : ∃ m, m ≤ 6 ∧ m ≤ l.length ∧ (0 < m → 0 < n) ∧ FnD prog 29 [vs (i8s l), vi n] (vs (ints (tableR m g))) [] by
    obtain ⟨m, h1, h2, h3, h4⟩ := h
    exact ⟨_, by simp [tableR]; omega, key m h1 h2 h3, h4⟩
  by_cases hn0 : n = 0
  · refine ⟨0, by omega, by omega, fun h => by omega, ?_⟩
    refine vc29_ok _ _ (R := Out _) ?_
    unfold vc29
    refine ⟨fun o t => t = 0 ∧ o = [], fun _ _ => 0, ⟨rfl, rfl⟩, ?_⟩
    rintro _ _ ⟨rfl, rfl⟩
    refine ⟨fun _ => ⟨fun _ => ⟨fun h => ?_, fun _ => ⟨rfl, rfl⟩⟩, fun _ => ⟨rfl, rfl⟩⟩, fun _ => ⟨rfl, rfl⟩⟩
    subst hn0; simp at h
  · refine ⟨min 6 l.length, by omega, by omega, fun _ => by omega, ?_⟩
    refine vc29_ok _ _ (R := Out _) ?_
    unfold vc29
    simp only [i8s_length]
    have fin : ∀ i, i = min 6 l.length → Out (vs (ints (tableR (min 6 l.length) g))) (V.e (E.sc (S.dat (D.sl (ints (tableR i g)))))) [] := fun i hi => by subst hi; exact ⟨rfl, rfl⟩
    refine ⟨fun o t => ∃ i : Nat, t = (i : Int) ∧ i ≤ min 6 l.length ∧ o = ints (tableR i g), fun _ t => (6 - t).toNat, ⟨0, rfl, by omega, rfl⟩, ?_⟩
    rintro _ _ ⟨i, rfl, hi, rfl⟩
    refine ⟨fun h => ⟨fun h2 => ⟨fun _ => ?_, fun h3 => ?_⟩, fun h2 => ?_⟩, fun h => ?_⟩
    · have hil : i < l.length := by simpa using h
      have hi6 : i < 6 := by have := of_decide_eq_true h2; omega
      refine ⟨elr l i, ⟨by omega, by omega⟩, i8s_getN hil, by omega, by simp only [ints_length, tableR, List.length_map, List.length_range, List.length_singleton]; omega, ?_⟩
      rw [inc64 (by omega)]
      refine ⟨⟨i + 1, rfl, by omega, ?_⟩, by show ((6 : Int) - ((i + 1 : Nat) : Int)).toNat < ((6 : Int) - (i : Int)).toNat; omega⟩
      have e : tableR (i + 1) g = tableR i g ++ [g i] := by simp [tableR, List.range_succ]
      rw [e, ← ints_snoc]
      subst hg; rfl
    · have := of_decide_eq_false h3; omega
    · exact fin i (by have := of_decide_eq_false h2; omega)
    · exact fin i (by have : l.length ≤ i := by simpa using h
                      omega)

theorem picks_ok (x0 : Int) (g0 : IntKind.u8.min ≤ x0 ∧ x0 ≤ IntKind.u8.max) (x1 : Int) (g1 : IntKind.u8.min ≤ x1 ∧ x1 ≤ IntKind.u8.max) (x2 : Int) (g2 : IntKind.u8.min ≤ x2 ∧ x2 ≤ IntKind.u8.max) (x3 : Int) (g3 : IntKind.u8.min ≤ x3 ∧ x3 ≤ IntKind.u8.max)
    (l4 : List (List D)) (g4 : l4.length ≤ 9223372036854775807 ∧ ∀ x ∈ l4, DOKL [.i .i8] x) (l5 : List (List D)) (g5 : l5.length ≤ 9223372036854775807 ∧ ∀ x ∈ l5, DOKL [.i .i8] x) (l6 : List (List D)) (g6 : l6.length ≤ 9223372036854775807 ∧ ∀ x ∈ l6, DOKL [.i .i8] x)
    (l7 : List (List D)) (g7 : l7.length ≤ 9223372036854775807 ∧ ∀ x ∈ l7, DOKL [.i .i8] x) (l8 : List (List D)) (g8 : l8.length ≤ 9223372036854775807 ∧ ∀ x ∈ l8, DOKL [.i .i8] x) :
    FnD prog 6 [.e (.agg [.dat (.int .u8 x0), .dat (.int .u8 x1), .dat (.int .u8 x2), .dat (.int .u8 x3), .dat (.sl l4), .dat (.sl l5), .dat (.sl l6)]), .e (.sc (.dat (.sl l7))), .e (.sc (.dat (.sl l8)))] (vb true) [] := by
  obtain ⟨a, rfl, _⟩ := i8s_of g4
  obtain ⟨b, rfl, _⟩ := i8s_of g5
  obtain ⟨c, rfl, _⟩ := i8s_of g6
  obtain ⟨d, rfl, _⟩ := i8s_of g7
  obtain ⟨e, rfl, _⟩ := i8s_of g8
  obtain ⟨n0, n1, n2, n3, b0, b1, b2, b3, hchain⟩ := chain_ok a b c g0.1 g1.1 g2.1 g3.1
  obtain ⟨A, hA⟩ : ∃ A, A = table n0 n1 (fillG n1 a) := ⟨_, rfl⟩
  obtain ⟨B, hB⟩ : ∃ B, B = table n1 n2 (fillG n2 b) := ⟨_, rfl⟩
  have mA : Mx n0 n1 A := hA ▸ table_mx _ _ _
  have mB : Mx n1 n2 B := hB ▸ table_mx _ _ _
  have kA : BdM 9 A := hA ▸ filled_bd
  have kB : BdM 9 B := hB ▸ filled_bd
  rw [← hA, ← hB] at hchain
  clear hA hB
  obtain ⟨p, hp6, hp, ip⟩ := indices_ok d (n := n0 + 1) (by omega)
  obtain ⟨q, hq6, hq, iq⟩ := indices_ok e (n := n2 + 1) (by omega)
  have L : ∀ n, n ≤ 6 → n * (9 * 9) ≤ 1000 := fun n h => by omega
  have mAB := mmul_mx n0 n1 n2 A B
  have kAB := (mmul_bd mA mB kA kB).mono (L n1 (by omega))
  have ne : ∀ {e : Int} {X : Prop}, (e != e) = true → X := fun h => by simp at h
  have nt : ∀ {X : Prop}, (!true) = true → X := fun h => by simp at h
  refine vc6_ok _ _ _ _ _ _ _ _ _ (R := Out _) ?_
  unfold vc6
  refine ⟨true, sanity_ok, _, _, _, _, _, _, _, _, _, hchain, _, _, _, m5prod_ok mA mB kA kB (by omega) (by omega) (by omega) (by omega), ?_⟩
  have w1 : IntKind.i64.wrap ((n0 : Int) + 1) = ((n0 + 1 : Nat) : Int) := inc64 (by omega)
  have w2 : IntKind.i64.wrap ((n2 : Int) + 1) = ((n2 + 1 : Nat) : Int) := inc64 (by omega)
  rw [w1, w2]
  refine ⟨_, _, ip, iq, ?_⟩
  simp only [ints_length]
  by_cases hbad : p.any (outP n0) = true ∨ q.any (outP n2) = true
  · refine ⟨_, _, _, _, pick_bad (by omega) (by omega) hbad, _, _, _, _, m5pick_bad (by omega) (by omega) hbad, true, ?_, nt, fun _ => ⟨ne, fun _ => ⟨fun _ => ⟨rfl, rfl⟩, fun h => absurd h (by decide)⟩⟩⟩
    exact same_yes (r := 0) (c := 0) (K := 0) (a := []) (b := []) ⟨rfl, fun _ h => by simp at h⟩ (fun _ h => by simp at h) (fun _ h => by simp at h) rfl (by decide) (by decide) (by decide)
  have hbad1 : p.any (outP n0) = false := by
    cases h : p.any (outP n0) with
    | false => rfl
    | true => exact (hbad (.inl h)).elim
  have hbad2 : q.any (outP n2) = false := by
    cases h : q.any (outP n2) with
    | false => rfl
    | true => exact (hbad (.inr h)).elim
  have jp := no_out' hbad1
  have jq := no_out' hbad2
  obtain ⟨P, hP⟩ : ∃ P, P = table p.length q.length fun i j => el (mmul n0 n1 n2 A B) (elr p i).toNat (elr q j).toNat := ⟨_, rfl⟩
  have mP : Mx p.length q.length P := hP ▸ table_mx _ _ _
  have kP : BdM 1000 P := hP ▸ table_bd fun i j hi hj => el_bd mAB kAB (by have := jp i hi; omega) (by have := jq j hj; omega)
  have pk := pick_ok mAB (p := p) (q := q) (by omega) (by omega) (by omega) (by omega) jp jq
  have pk5 := m5pick_ok mAB (p := p) (q := q) (by omega) (by omega) jp jq
  rw [← hP] at pk pk5
  refine ⟨_, _, _, _, pk, _, _, _, _, pk5, true, same_yes mP kP kP rfl (by omega) (by omega) (by omega), nt, fun _ => ⟨ne, fun _ => ⟨fun h => absurd h (by decide), fun _ => ?_⟩⟩⟩
  have io : ∀ n k, k < (iota n).length → 0 ≤ elr (iota n) k ∧ elr (iota n) k < n := fun n k hk => by
    rw [iota_length] at hk
    rw [elr_iota hk]; omega
  have f1 := pick_ok mA (p := p) (q := iota n1) (by omega) (by omega) (by omega) (by rw [iota_length]; omega) jp (io n1)
  have f2 := pick_ok mB (p := iota n1) (q := q) (by omega) (by omega) (by rw [iota_length]; omega) (by omega) (io n1) jq
  rw [iota_length] at f1 f2
  obtain ⟨F, hF⟩ : ∃ F, F = table p.length n1 fun i j => el A (elr p i).toNat (elr (iota n1) j).toNat := ⟨_, rfl⟩
  obtain ⟨G, hG⟩ : ∃ G, G = table n1 q.length fun i j => el B (elr (iota n1) i).toNat (elr q j).toNat := ⟨_, rfl⟩
  rw [← hF] at f1
  rw [← hG] at f2
  have mF : Mx p.length n1 F := hF ▸ table_mx _ _ _
  have mG : Mx n1 q.length G := hG ▸ table_mx _ _ _
  have eF : ∀ i j, i < p.length → j < n1 → el F i j = el A (elr p i).toNat j := fun i j hi hj => by rw [hF, el_table hi hj, elr_iota hj]; rfl
  have eG : ∀ i j, i < n1 → j < q.length → el G i j = el B i (elr q j).toNat := fun i j hi hj => by rw [hG, el_table hi hj, elr_iota hi]; rfl
  have kF : BdM 9 F := hF ▸ table_bd fun i j hi hj => el_bd mA kA (by have := jp i hi; omega) (by rw [elr_iota hj]; omega)
  have kG : BdM 9 G := hG ▸ table_bd fun i j hi hj => el_bd mB kB (by rw [elr_iota hi]; omega) (by have := jq j hj; omega)
  refine ⟨_, _, _, _, _, range_ok (by omega), f1, _, _, _, _, _, range_ok (by omega), f2, fun h => absurd h (by decide), fun _ => ⟨fun h => absurd h (by decide), fun _ => ?_⟩⟩
  refine ⟨true, sized_yes mF kF (by omega) (by omega) (by decide), nt, fun _ => ⟨true, sized_yes mG kG (by omega) (by omega) (by decide), nt, fun _ => ?_⟩⟩
  have eP : mmul p.length n1 q.length F G = P := by
    refine mx_ext (mmul_mx _ _ _ _ _) mP fun i j hi hj => ?_
    rw [el_mmul hi hj, hP, el_table hi hj, el_mmul (by have := jp i hi; omega) (by have := jq j hj; omega)]
    exact sm_congr n1 fun k hk => by rw [eF i k hi hk, eG k j hk hj]
  have mm := mmul_ok mF mG kF kG (by omega) (by omega) (by omega) (by omega)
  rw [eP] at mm
  have low := pick_ok mP (p := iota p.length) (q := []) (by omega) (by omega) (by rw [iota_length]; omega) (by decide) (io p.length) (fun k hk => by simp at hk)
  rw [iota_length] at low
  refine ⟨_, _, _, _, mm, _, _, _, _, _, range_ok (by omega), low, fun _ => ⟨true, same_yes mP kP kP rfl (by omega) (by omega) (by omega), fun _ => ⟨fun _ => ?_, fun h => absurd h (by decide)⟩, fun h => nomatch h⟩, fun h => absurd h (by decide)⟩
  refine ⟨_, _, _, true, FnD.frz (rnew_ok (r := p.length) (c := 0) (by omega) (by omega)), ?_, fun _ => ⟨rfl, rfl⟩, fun h => nomatch h⟩
  refine same_yes (r := p.length) (c := 0) (K := 0) (table_mx _ _ _) (table_bd fun i j _ hj => ?_) (table_bd fun i j _ hj => ?_) (table_congr fun i j _ hj => ?_) (by omega) (by omega) (by omega)
  · exact absurd hj (Nat.not_lt_zero _)
  · exact absurd hj (Nat.not_lt_zero _)
  · exact absurd hj (Nat.not_lt_zero _)

end Go.AM

/- Valid, of values that no integer need be. -/
namespace Go.AM
open Go.Proofs.Try

/-- A sign and limbs, whatever they are. -/
abbrev RE := Bool × List Nat
def cR (e : RE) : List D := [D.bool e.1, D.sl (lim e.2)]
def rowR (r : List RE) : List (List D) := r.map cR
def rowsR (m : List (List RE)) : List (List D) := m.map fun r => [D.sl (rowR r)]
def eMR (r c : Int) (m : List (List RE)) : V := .e (.agg [.dat (.int .i64 r), .dat (.int .i64 c), .dat (.sl (rowsR m))])
def okE (e : RE) : Bool := bif e.2.isEmpty then !e.1 else decide (dg e.2 (e.2.length - 1) ≠ 0)
def szE (e : RE) : Prop := e.2.length ≤ 1073741824
def elR (r : List RE) (i : Nat) : RE := r.getD i (false, [])
def okM (r c : Int) (m : List (List RE)) : Bool := decide (0 ≤ r) && decide (0 ≤ c) && decide ((m.length : Int) = r) && m.all fun x => decide ((x.length : Int) = c) && x.all okE

theorem rowR_length (r : List RE) : (rowR r).length = r.length := by simp [rowR]
theorem rowsR_length (m : List (List RE)) : (rowsR m).length = m.length := by simp [rowsR]
theorem rowR_getN {r : List RE} {i : Nat} (h : i < r.length) : (rowR r)[(i : Int).toNat]? = some (cR (elR r i)) := by
  rw [Int.toNat_natCast]; simp [rowR, elR, h]
theorem rowsR_getN {m : List (List RE)} {i : Nat} (h : i < m.length) : (rowsR m)[(i : Int).toNat]? = some [D.sl (rowR (m.getD i []))] := by
  rw [Int.toNat_natCast]; simp [rowsR, h]
theorem elR_mem {r : List RE} {i : Nat} (h : i < r.length) : elR r i ∈ r := getD_mem h

theorem rvalidR {e : RE} (h : szE e) : FnD prog 127 [.e (.agg [.dat (.bool e.1), .dat (.sl (lim e.2))])] (vb (okE e)) [] := by
  obtain ⟨n, a⟩ := e
  unfold szE at h
  simp only at h
  refine vc127_ok _ _ (R := Out _) ?_
  unfold vc127
  simp only [lim_length]
  refine ⟨fun h0 => outb ?_, fun h0 => ?_⟩
  · have h1 : a = [] := by
      have : (a.length : Int) = 0 := by simpa using h0
      exact List.length_eq_zero_iff.1 (by omega)
    subst h1; rfl
  · have h1 : 0 < a.length := by
      have : ¬ (a.length : Int) = 0 := by simpa using h0
      omega
    have hw : IntKind.i64.wrap ((a.length : Int) - 1) = ((a.length - 1 : Nat) : Int) := by rw [w64 (by omega) (by omega)]; omega
    rw [hw]
    refine ⟨(dg a (a.length - 1) : Nat), ⟨by omega, by omega⟩, ?_, outb ?_⟩
    · have := lim_getI (l := a) (i := ((a.length - 1 : Nat) : Int)) (by omega) (by omega)
      rw [Int.toNat_natCast] at *; exact this
    · have h2 : a.isEmpty = false := by cases a with
        | nil => simp at h1
        | cons => rfl
      by_cases h3 : dg a (a.length - 1) = 0 <;> simp [okE, h2, h3]

theorem ivalidR {e : RE} (h : szE e) : FnD prog 74 [.e (.agg [.dat (.bool e.1), .dat (.sl (lim e.2))])] (vb (okE e)) [] := by
  obtain ⟨n, a⟩ := e
  unfold szE at h
  simp only at h
  refine vc74_ok _ _ (R := Out _) ?_
  unfold vc74
  simp only [lim_length]
  refine ⟨fun h0 => ?_, fun h0 => ⟨fun h2 => ?_, fun h2 => ?_⟩⟩
  · have h1 : a = [] := by
      have : (a.length : Int) = 0 := by simpa using h0
      exact List.length_eq_zero_iff.1 (by omega)
    subst h1
    cases n with
    | true => exact ⟨fun h => by simp at h, fun _ => ⟨fun h => by simp at h, fun _ => outb rfl⟩⟩
    | false => exact ⟨fun _ => outb rfl, fun h => by simp at h⟩
  · have h1 : 0 < a.length := by
      have : (a.length : Int) > 0 := by simpa using h2
      omega
    have hw : IntKind.i64.wrap ((a.length : Int) - 1) = ((a.length - 1 : Nat) : Int) := by rw [w64 (by omega) (by omega)]; omega
    rw [hw]
    refine ⟨(dg a (a.length - 1) : Nat), ⟨by omega, by omega⟩, ?_, outb ?_⟩
    · have := lim_getI (l := a) (i := ((a.length - 1 : Nat) : Int)) (by omega) (by omega)
      rw [Int.toNat_natCast] at *; exact this
    · have h2 : a.isEmpty = false := by cases a with
        | nil => simp at h1
        | cons => rfl
      by_cases h3 : dg a (a.length - 1) = 0 <;> simp [okE, h2, h3]
  · exfalso
    have h1 : ¬ (a.length : Int) > 0 := by simpa using h2
    have h3 : ¬ (a.length : Int) = 0 := by simpa using h0
    omega

theorem all_snoc {α : Type} {p : α → Bool} {l : List α} {d : α} {i : Nat} (h : i < l.length) (hi : (l.take i).all p = true) (hp : p (l.getD i d) = true) : (l.take (i + 1)).all p = true := by
  rw [List.take_add_one, List.getElem?_eq_getElem h]
  simp only [Option.toList_some, List.all_append, hi, Bool.true_and, List.all_cons, List.all_nil, Bool.and_true]
  rwa [List.getD_eq_getElem?_getD, List.getElem?_eq_getElem h] at hp

theorem all_not {α : Type} {p : α → Bool} {l : List α} {d : α} {i : Nat} (h : i < l.length) (hp : p (l.getD i d) = false) : l.all p = false := by
  rw [← Bool.not_eq_true, List.all_eq_true]
  intro hh
  have := hh _ (getD_mem (d := d) h)
  rw [hp] at this; simp at this

theorem validVecR {r : List RE} (hr : ∀ e ∈ r, szE e) (hl : r.length ≤ 4294967296) : FnD prog 75 [vs (rowR r)] (vb (r.all okE)) [] := by
  refine vc75_ok (rowR r) (R := Out _) ?_
  unfold vc75
  simp only [rowR_length]
  refine ⟨fun t => ∃ i : Nat, t = (i : Int) ∧ i ≤ r.length ∧ (r.take i).all okE = true, fun t => ((r.length : Int) - t).toNat, ⟨0, rfl, by omega, by simp⟩, ?_⟩
  rintro _ ⟨i, rfl, hi, hinv⟩
  refine ⟨fun h => ?_, fun h => outb ?_⟩
  · have hir : i < r.length := by simpa using h
    refine ⟨(elR r i).1, lim (elR r i).2, okE (elR r i), ⟨by omega, by omega⟩, rowR_getN hir, rvalidR (hr _ (elR_mem hir)), fun h2 => outb ?_, fun h2 => ?_⟩
    · exact (all_not (d := (false, [])) hir (by simpa [elR] using h2)).symm
    · rw [inc64 (by omega)]
      exact ⟨⟨i + 1, rfl, by omega, all_snoc (d := (false, [])) hir hinv (by simpa [elR] using h2)⟩, by show ((r.length : Int) - ((i + 1 : Nat) : Int)).toNat < ((r.length : Int) - (i : Int)).toNat; omega⟩
  · have hir : i = r.length := by have : r.length ≤ i := by simpa using h
                                  omega
    subst hir
    rw [List.take_length] at hinv
    exact hinv.symm

theorem okM_bad {r c : Int} {m : List (List RE)} (h : r < 0 ∨ c < 0 ∨ (m.length : Int) ≠ r) : okM r c m = false := by
  unfold okM
  rcases h with h | h | h
  · rw [decide_eq_false (by omega)]; rfl
  · rw [decide_eq_false (p := 0 ≤ c) (by omega)]; simp
  · rw [decide_eq_false (p := (m.length : Int) = r) h]; simp

theorem okM_good {r c : Int} {m : List (List RE)} (h0 : 0 ≤ r) (h1 : 0 ≤ c) (h2 : (m.length : Int) = r) : okM r c m = m.all fun x => decide ((x.length : Int) = c) && x.all okE := by
  unfold okM
  rw [decide_eq_true h0, decide_eq_true h1, decide_eq_true h2]; rfl

theorem rvalidMR {r c : Int} {m : List (List RE)} (hs : ∀ x ∈ m, x.length ≤ 4294967296 ∧ ∀ e ∈ x, szE e) (hl : m.length ≤ 4294967296) : FnD prog 18 [eMR r c m] (vb (okM r c m)) [] := by
  refine vc18_ok _ _ _ (R := Out _) ?_
  unfold vc18
  simp only [rowsR_length]
  refine ⟨fun h => outb (okM_bad (.inl (by simpa using h))).symm, fun h0 => ⟨fun h => outb (okM_bad (.inr (.inl (by simpa using h)))).symm, fun h1 => ⟨fun h => outb (okM_bad (.inr (.inr (by simpa using h)))).symm, fun h2 => ?_⟩⟩⟩
  rw [okM_good (by simpa using h0) (by simpa using h1) (by simpa using h2)]
  refine ⟨fun t => ∃ i : Nat, t = (i : Int) ∧ i ≤ m.length ∧ ((m.take i).all fun x => decide ((x.length : Int) = c) && x.all okE) = true, fun t => ((m.length : Int) - t).toNat, ⟨0, rfl, by omega, by simp⟩, ?_⟩
  rintro _ ⟨i, rfl, hi, hinv⟩
  refine ⟨fun h => ?_, fun h => outb ?_⟩
  · have hir : i < m.length := by simpa using h
    have hin : m.getD i [] ∈ m := getD_mem hir
    refine ⟨rowR (m.getD i []), ⟨by omega, by omega⟩, rowsR_getN hir, fun h3 => outb ?_, fun h3 => ⟨(m.getD i []).all okE, validVecR (hs _ hin).2 (hs _ hin).1, fun h4 => outb ?_, fun h4 => ?_⟩⟩
    · rw [rowR_length] at h3
      refine (all_not (d := []) hir ?_).symm
      rw [decide_eq_false (by simpa using h3)]; rfl
    · refine (all_not (d := []) hir ?_).symm
      have : (m.getD i []).all okE = false := by simpa using h4
      rw [this]; simp
    · rw [inc64 (by omega)]
      rw [rowR_length] at h3
      refine ⟨⟨i + 1, rfl, by omega, all_snoc (d := []) hir hinv ?_⟩, by show ((m.length : Int) - ((i + 1 : Nat) : Int)).toNat < ((m.length : Int) - (i : Int)).toNat; omega⟩
      have : (m.getD i []).all okE = true := by simpa using h4
      rw [this, decide_eq_true (by simpa using h3)]; rfl
  · have hir : i = m.length := by have : m.length ≤ i := by simpa using h
                                  omega
    subst hir
    rw [List.take_length] at hinv
    exact hinv.symm

/-- The place of the first that p holds of, or -1. -/
def firstR (p : RE → Bool) (r : List RE) : Int := if r.any p then (r.findIdx p : Nat) else -1

theorem elR_get {r : List RE} {i : Nat} (h : i < r.length) : elR r i = r[i] := by simp [elR, h]

theorem firstR_at {p : RE → Bool} {r : List RE} {i : Nat} (h : i < r.length) (hp : p (elR r i) = true) (hn : ∀ k, k < i → p (elR r k) = false) : firstR p r = (i : Int) := by
  have h1 : r.any p = true := List.any_eq_true.2 ⟨elR r i, elR_mem h, hp⟩
  have h2 : r.findIdx p = i := by
    rw [List.findIdx_eq h]
    refine ⟨by rw [← elR_get h]; exact hp, fun j hj => ?_⟩
    have := hn j hj
    rw [elR_get (by omega)] at this
    exact this
  unfold firstR
  rw [h1, h2]; rfl

theorem firstR_none {p : RE → Bool} {r : List RE} (hn : ∀ k, k < r.length → p (elR r k) = false) : firstR p r = -1 := by
  unfold firstR
  rw [if_neg]
  intro h
  obtain ⟨z, hz, hp⟩ := List.any_eq_true.1 h
  obtain ⟨k, hk, rfl⟩ := List.getElem_of_mem hz
  have := hn k hk
  rw [elR_get hk, hp] at this
  simp at this

theorem firstR_any (p : RE → Bool) (r : List RE) : decide (firstR p r ≥ 0) = r.any p := by
  unfold firstR
  cases h : r.any p <;> simp

theorem index126R {r : List RE} {f : FuncId} {fc : List D} {p : RE → Bool} (hl : r.length ≤ 4294967296) (hf : ∀ k, k < r.length → FnD prog f ([.e (.agg [.dat (.bool (elR r k).1), .dat (.sl (lim (elR r k).2))])] ++ fc.map dV) (vb (p (elR r k))) []) :
    FnD prog 126 [vs (rowR r), .e (.sc (.dat (.fn (.func f) fc)))] (vi (firstR p r)) [] := by
  refine vc126_ok _ _ _ (R := Out _) ?_
  unfold vc126
  simp only [rowR_length]
  refine ⟨fun t => ∃ i : Nat, t = (i : Int) ∧ i ≤ r.length ∧ ∀ k, k < i → p (elR r k) = false, fun t => ((r.length : Int) - t).toNat, ⟨0, rfl, by omega, fun k hk => by omega⟩, ?_⟩
  rintro _ ⟨i, rfl, hi, hinv⟩
  refine ⟨fun h => ?_, fun h => outi ?_⟩
  · have hir : i < r.length := by simpa using h
    refine ⟨_, _, p (elR r i), ⟨by omega, by omega⟩, rowR_getN hir, hf i hir, fun h2 => outi ?_, fun h2 => ?_⟩
    · exact (firstR_at hir h2 hinv).symm
    · rw [inc64 (by omega)]
      refine ⟨⟨i + 1, rfl, by omega, fun k hk => ?_⟩, by show ((r.length : Int) - ((i + 1 : Nat) : Int)).toNat < ((r.length : Int) - (i : Int)).toNat; omega⟩
      by_cases hki : k = i
      · subst hki; exact h2
      · exact hinv k (by omega)
  · have hir : i = r.length := by have : r.length ≤ i := by simpa using h
                                  omega
    exact (firstR_none fun k hk => hinv k (by omega)).symm

theorem contains72R {r : List RE} {f : FuncId} {fc : List D} {p : RE → Bool} (hl : r.length ≤ 4294967296) (hf : ∀ k, k < r.length → FnD prog f ([.e (.agg [.dat (.bool (elR r k).1), .dat (.sl (lim (elR r k).2))])] ++ fc.map dV) (vb (p (elR r k))) []) :
    FnD prog 72 [vs (rowR r), .e (.sc (.dat (.fn (.func f) fc)))] (vb (r.any p)) [] := by
  refine vc72_ok _ _ _ (R := Out _) ?_
  unfold vc72
  exact ⟨_, index126R hl hf, outb (firstR_any p r)⟩

theorem mvalidR {r c : Int} {m : List (List RE)} (hs : ∀ x ∈ m, x.length ≤ 4294967296 ∧ ∀ e ∈ x, szE e) (hl : m.length ≤ 4294967296) : FnD prog 17 [eMR r c m] (vb (okM r c m)) [] := by
  refine vc17_ok _ _ _ (R := Out _) ?_
  unfold vc17
  simp only [rowsR_length]
  refine ⟨fun h => outb (okM_bad (.inl (by simpa using h))).symm, fun h0 => ⟨fun h => outb (okM_bad (.inr (.inl (by simpa using h)))).symm, fun h1 => ⟨fun h => outb (okM_bad (.inr (.inr (by simpa using h)))).symm, fun h2 => ?_⟩⟩⟩
  rw [okM_good (by simpa using h0) (by simpa using h1) (by simpa using h2)]
  refine ⟨fun t => ∃ i : Nat, t = (i : Int) ∧ i ≤ m.length ∧ ((m.take i).all fun x => decide ((x.length : Int) = c) && x.all okE) = true, fun t => ((m.length : Int) - t).toNat, ⟨0, rfl, by omega, by simp⟩, ?_⟩
  rintro _ ⟨i, rfl, hi, hinv⟩
  refine ⟨fun h => ?_, fun h => outb ?_⟩
  · have hir : i < m.length := by simpa using h
    have hin : m.getD i [] ∈ m := getD_mem hir
    refine ⟨rowR (m.getD i []), ⟨by omega, by omega⟩, rowsR_getN hir, fun h3 => outb ?_, fun h3 => ⟨(m.getD i []).any fun e => !okE e, ?_, fun h4 => outb ?_, fun h4 => ?_⟩⟩
    · rw [rowR_length] at h3
      refine (all_not (d := []) hir ?_).symm
      rw [decide_eq_false (by simpa using h3)]; rfl
    · refine contains72R (f := 73) (fc := []) (hs _ hin).1 fun k hk => ?_
      refine vc73_ok _ _ (R := Out _) ?_
      unfold vc73
      exact ⟨_, ivalidR ((hs _ hin).2 _ (elR_mem hk)), outb rfl⟩
    · refine (all_not (d := []) hir ?_).symm
      have : (m.getD i []).all okE = false := by
        rw [← Bool.not_eq_true, List.all_eq_true]
        intro hh
        obtain ⟨e, he, h5⟩ := List.any_eq_true.1 h4
        rw [hh e he] at h5; simp at h5
      rw [this]; simp
    · rw [inc64 (by omega)]
      rw [rowR_length] at h3
      refine ⟨⟨i + 1, rfl, by omega, all_snoc (d := []) hir hinv ?_⟩, by show ((m.length : Int) - ((i + 1 : Nat) : Int)).toNat < ((m.length : Int) - (i : Int)).toNat; omega⟩
      have : (m.getD i []).all okE = true := by
        rw [List.all_eq_true]
        intro e he
        have := List.any_eq_false.1 h4 e he
        simpa using this
      rw [this, decide_eq_true (by simpa using h3)]; rfl
  · have hir : i = m.length := by have : m.length ≤ i := by simpa using h
                                  omega
    subst hir
    rw [List.take_length] at hinv
    exact hinv.symm

end Go.AM

/- A matrix's first row is taken out, and put back longer. -/
namespace Go.AM

section
variable {I I' : Nat → Prop} {M : Mem} {w : World}

theorem RowOK.reads {s : Nat} {v : Value} {el : List (List D)} (h : RowOK w I s v el) (hi : ∀ b, I b → I' b) (hf : ∀ b ∈ rowBlk v, I' b) : Reads w I' v (.sl el) := by
  obtain ⟨a, cap, rfl, hne⟩ := h.ne
  by_cases hemp : el = []
  · subst hemp; exact .slnil _ _
  · obtain ⟨b, rcs, rt, rfl, hb, _, g2, g3, g4⟩ := hne hemp
    refine .sl (t := rt) (fr := (0, 0)) (cs := rcs) _ (fun i j => (rcs[i * s + j]?).getD undef) (hf _ (by simp [rowBlk])) hb g3 g2 (fun i j d hd => ?_) (fun i j d hd => ?_)
    · obtain ⟨v, p, _⟩ := g4 i j d hd; rw [Nat.zero_add, p]; rfl
    · obtain ⟨v, p, q⟩ := g4 i j d hd; rw [p]; exact q.mono (fun _ _ => rfl) hi

/-- A row as an object of its own. -/
theorem RowOK.own {s : Nat} {v : Value} {el : List (List D)} (h : RowOK w I s v el) (hi : ∀ b, I b → I' b) (M' : Mem) : ∃ q : ME, q.val = v ∧ fpE q (.arr s el) = rowBlk v ∧ ObjOK w I' M' q (.arr s el) := by
  obtain ⟨a, cap, rfl, h0, h1⟩ := h
  cases a with
  | none =>
    obtain ⟨rfl, rfl⟩ := h0 rfl
    exact ⟨⟨true, 0, 0, 0, s, []⟩, rfl, rfl, rfl, rfl, fun _ => rfl, fun h => by simp at h⟩
  | some a =>
    obtain ⟨b, cs, t, ha, hb, g1, g2, g3, g4⟩ := h1 (by simp)
    simp only [Option.some.injEq] at ha; subst ha
    exact ⟨⟨false, b, el.length, cap, s, []⟩, rfl, rfl, rfl, rfl, fun h => by simp at h, fun _ => ⟨g2, cs, t, hb, g1, g3, fun i j d hd => let ⟨v, p, q⟩ := g4 i j d hd; ⟨v, p, q.mono (fun _ _ => rfl) hi⟩⟩⟩

/-- The matrix as a box of slices: its first row an object of its own, the others data. -/
theorem wk_open {t : List (Nat × V)} {a b : D} {s n : Nat} {m : List (List (List D))} (hm : m ≠ []) (ht : ∀ i v, (i, v) ∈ t → v = V.e (E.sc (S.ptr 0 0)) ∨ ∃ d, v = V.e (E.sc (S.dat d))) :
    Wk 0 ⟨t, [some (.box [.dat a, .dat b, .ref 1]), some (.mat s m)], n⟩
      ⟨t, [some (.box [.dat a, .dat b, .refb 1 (List.length m)]), some (.box (S.ref 2 :: List.map (fun r => S.dat (.sl r)) (List.tail m))), some (.arr s (List.headD m []))], n⟩ := fun I M a' w sim => by
  obtain ⟨r0, rs, rfl⟩ : ∃ r0 rs, m = r0 :: rs := by
    cases m with
    | nil => exact absurd rfl hm
    | cons x l => exact ⟨x, l, rfl⟩
  have hlen : M.length = 2 := sim.len
  obtain ⟨e0, he0, cs0, t0, hb0, hrel0⟩ := sim.obj 0 _ rfl
  obtain ⟨e1, he1, g1, g2, g3, g4, g5⟩ := sim.obj 1 _ rfl
  have hnil : e1.nil = false := e1.nil_of fun h => by have := g4 h; simp at this
  obtain ⟨g6, cs1, t1, hb1, g7, g8, g9⟩ := g5 hnil
  have hM : M = [some e0, some e1] := by
    apply List.ext_getElem?
    intro k
    match k with
    | 0 => simpa using he0
    | 1 => simpa using he1
    | k + 2 => rw [List.getElem?_eq_none (by omega)]; simp
  obtain ⟨v0, vs, hvs⟩ : ∃ v0 vs, e1.rows = v0 :: vs := by
    cases h : e1.rows with
    | nil => rw [h] at g3; simp at g3
    | cons x l => exact ⟨x, l, rfl⟩
  rw [hvs] at g8 g9 g3
  have f0 : fpAt M [some (.box [.dat a, .dat b, .ref 1]), some (.mat s (r0 :: rs))] 0 = [e0.b] := by subst hM; rfl
  have f1 : fpAt M [some (.box [.dat a, .dat b, .ref 1]), some (.mat s (r0 :: rs))] 1 = e1.b :: (rowBlk v0 ++ vs.flatMap rowBlk) := by
    subst hM; simp only [fpAt, List.getElem?_cons_succ, List.getElem?_cons_zero, fpE, hnil, hvs]; rfl
  have nd1 := sim.nd 1
  rw [f1, List.nodup_cons, List.nodup_append] at nd1
  have dj : ∀ x, x ∈ fpAt M [some (.box [.dat a, .dat b, .ref 1]), some (.mat s (r0 :: rs))] 1 → x ≠ e0.b := fun x hx hx2 => by
    have := sim.disj 0 1 x (by rw [f0, hx2]; simp) hx
    simp at this
  rw [f1] at dj
  have lt0 := sim.lt 0 e0.b (by rw [f0]; simp)
  have lt1 : ∀ x ∈ e1.b :: (rowBlk v0 ++ vs.flatMap rowBlk), x < w.heap.size := fun x hx => sim.lt 1 x (by rw [f1]; exact hx)
  have im0 : ∀ x, I x → x ≠ e0.b := fun x hx hx2 => (sim.imm x hx).2 0 (by rw [f0, hx2]; simp)
  have im1 : ∀ x, I x → x ∉ e1.b :: (rowBlk v0 ++ vs.flatMap rowBlk) := fun x hx hx2 => (sim.imm x hx).2 1 (by rw [f1]; exact hx2)
  obtain ⟨q, q1, q2, q3⟩ := (g9 0 v0 r0 rfl rfl).own (I' := fun x => I x ∨ x ∈ vs.flatMap rowBlk) (fun _ h => .inl h) [some e0, some e1]
  obtain ⟨I', hI'⟩ : ∃ I' : Nat → Prop, I' = fun x => I x ∨ x ∈ vs.flatMap rowBlk := ⟨_, rfl⟩
  have hi : ∀ x, I x → I' x := fun x h => by rw [hI']; exact .inl h
  have q3' : ObjOK w I' [some e0, some e1, some q] q (.arr s r0) := by rw [hI']; exact q3
  obtain ⟨h', hh'⟩ : ∃ h' : Heap, h' = [some (.box [.dat a, .dat b, .refb 1 (List.length (r0 :: rs))]), some (.box (S.ref 2 :: List.map (fun r => S.dat (.sl r)) (List.tail (r0 :: rs)))), some (.arr s (List.headD (r0 :: rs) []))] := ⟨_, rfl⟩
  have k0 : fpAt [some e0, some e1, some q] h' 0 = [e0.b] := by subst hh'; rfl
  have k1 : fpAt [some e0, some e1, some q] h' 1 = [e1.b] := by subst hh'; rfl
  have k2 : fpAt [some e0, some e1, some q] h' 2 = rowBlk v0 := by subst hh'; rw [← q2]; rfl
  have k3 : ∀ o, fpAt [some e0, some e1, some q] h' (o + 3) = [] := fun o => by subst hh'; rfl
  have val1 : e1.val = .slice (some ⟨e1.b, 0, none⟩) (r0 :: rs).length e1.cap := by simp only [ME.val, hnil, Bool.false_eq_true, if_false, g2]
  refine ⟨I', [some e0, some e1, some q], ?_, hi, fun x hx => ?_, fun x ⟨o, ho⟩ => ?_, fun o e ho => absurd ho (Nat.not_lt_zero o)⟩
  · rw [← hh']
    refine { len := by subst hh'; rfl, obj := fun o obj ho => ?_, disj := fun o1 o2 x h1 h2 => ?_, nd := fun o => ?_, lt := fun o x hx => ?_, imm := fun x hx => ?_, tm := fun i v hv => ?_, size := sim.size, defers := sim.defers }
    · subst hh'
      match o, ho with
      | 0, ho =>
        simp only [List.getElem?_cons_zero, Option.some.injEq] at ho; subst ho
        refine ⟨e0, rfl, cs0, t0, hb0, hrel0.1, fun i v x hv hx => ?_⟩
        match i, hx with
        | 0, hx =>
          simp only [List.getElem?_cons_zero, Option.some.injEq] at hx; subst hx
          exact Reads.mono (hrel0.2 0 v _ hv rfl) (fun _ _ => rfl) hi
        | 1, hx =>
          simp only [List.getElem?_cons_zero, List.getElem?_cons_succ, Option.some.injEq] at hx; subst hx
          exact Reads.mono (hrel0.2 1 v _ hv rfl) (fun _ _ => rfl) hi
        | 2, hx =>
          simp only [List.getElem?_cons_zero, List.getElem?_cons_succ, Option.some.injEq] at hx; subst hx
          obtain ⟨e, he, hve⟩ := hrel0.2 2 v _ hv rfl
          rw [he1] at he; simp only [Option.some.injEq] at he; subst he
          exact ⟨e1, rfl, hve.trans val1, by rw [← g2]; exact g6⟩
        | i + 3, hx => simp at hx
      | 1, ho =>
        simp only [List.getElem?_cons_zero, List.getElem?_cons_succ, Option.some.injEq] at ho; subst ho
        refine ⟨e1, rfl, cs1, t1, hb1, ?_, fun i v x hv hx => ?_⟩
        · simp only [List.tail_cons, List.length_cons, List.length_map, Array.length_toList, g7] at g2 ⊢; omega
        · match i, hx with
          | 0, hx =>
            simp only [List.getElem?_cons_zero, Option.some.injEq] at hx; subst hx
            have := g8 0 v0 rfl
            rw [Array.getElem?_toList, this, Option.some.injEq] at hv
            exact ⟨q, rfl, by rw [q1, hv]⟩
          | i + 1, hx =>
            simp only [List.tail_cons, List.getElem?_cons_succ, List.getElem?_map, Option.map_eq_some_iff] at hx
            obtain ⟨r, hr, rfl⟩ := hx
            have hil : i < vs.length := by
              have : i < rs.length := by
                rcases Nat.lt_or_ge i rs.length with h | h
                · exact h
                · rw [List.getElem?_eq_none h] at hr; simp at hr
              simp only [List.length_cons] at g3; omega
            have hvi : (v0 :: vs)[i + 1]? = some vs[i] := by simp [hil]
            have := g8 (i + 1) _ hvi
            rw [Array.getElem?_toList, this, Option.some.injEq] at hv; subst hv
            refine (g9 (i + 1) _ r hvi (by simpa using hr)).reads hi fun x hx => ?_
            rw [hI']; exact .inr (List.mem_flatMap.2 ⟨_, List.getElem_mem hil, hx⟩)
      | 2, ho =>
        simp only [List.getElem?_cons_zero, List.getElem?_cons_succ, Option.some.injEq] at ho; subst ho
        exact ⟨q, rfl, q3'⟩
      | o + 3, ho => simp at ho
    · match o1, o2, h1, h2 with
      | 0, 0, _, _ => rfl
      | 1, 1, _, _ => rfl
      | 2, 2, _, _ => rfl
      | 0, 1, h1, h2 => rw [k0] at h1; rw [k1] at h2; simp only [List.mem_singleton] at h1 h2; exact absurd h1 (dj x (by rw [h2]; simp))
      | 1, 0, h1, h2 => rw [k1] at h1; rw [k0] at h2; simp only [List.mem_singleton] at h1 h2; exact absurd h2 (dj x (by rw [h1]; simp))
      | 0, 2, h1, h2 => rw [k0] at h1; rw [k2] at h2; simp only [List.mem_singleton] at h1; exact absurd h1 (dj x (by simp [h2]))
      | 2, 0, h1, h2 => rw [k2] at h1; rw [k0] at h2; simp only [List.mem_singleton] at h2; exact absurd h2 (dj x (by simp [h1]))
      | 1, 2, h1, h2 => rw [k1] at h1; rw [k2] at h2; simp only [List.mem_singleton] at h1; subst h1; exact absurd (List.mem_append_left _ h2) nd1.1
      | 2, 1, h1, h2 => rw [k2] at h1; rw [k1] at h2; simp only [List.mem_singleton] at h2; subst h2; exact absurd (List.mem_append_left _ h1) nd1.1
      | o + 3, _, h1, _ => rw [k3] at h1; simp at h1
      | _, o + 3, _, h2 => rw [k3] at h2; simp at h2
    · match o with
      | 0 => rw [k0]; simp
      | 1 => rw [k1]; simp
      | 2 => rw [k2]; exact nd1.2.1
      | o + 3 => rw [k3]; exact List.nodup_nil
    · match o, hx with
      | 0, hx => rw [k0] at hx; simp only [List.mem_singleton] at hx; subst hx; exact lt0
      | 1, hx => rw [k1] at hx; simp only [List.mem_singleton] at hx; subst hx; exact lt1 _ (by simp)
      | 2, hx => rw [k2] at hx; exact lt1 _ (by simp [hx])
      | o + 3, hx => rw [k3] at hx; simp at hx
    · rw [hI'] at hx
      rcases hx with hx | hx
      · refine ⟨(sim.imm x hx).1, fun o ho => ?_⟩
        match o, ho with
        | 0, ho => rw [k0] at ho; simp only [List.mem_singleton] at ho; exact im0 x hx ho
        | 1, ho => rw [k1] at ho; simp only [List.mem_singleton] at ho; exact im1 x hx (by simp [ho])
        | 2, ho => rw [k2] at ho; exact im1 x hx (by simp [ho])
        | o + 3, ho => rw [k3] at ho; simp at ho
      · refine ⟨lt1 _ (by simp only [List.mem_cons, List.mem_append]; exact .inr (.inr hx)), fun o ho => ?_⟩
        match o, ho with
        | 0, ho => rw [k0] at ho; simp only [List.mem_singleton] at ho; exact dj x (by simp only [List.mem_cons, List.mem_append]; exact .inr (.inr hx)) ho
        | 1, ho => rw [k1] at ho; simp only [List.mem_singleton] at ho; subst ho; exact nd1.1 (List.mem_append_right _ hx)
        | 2, ho => rw [k2] at ho; exact nd1.2.2.2 x ho x hx rfl
        | o + 3, ho => rw [k3] at ho; simp at ho
    · have := sim.tm i v hv
      rcases ht i v hv with rfl | ⟨d, rfl⟩
      · obtain ⟨e, he, hve⟩ := this
        rw [he0] at he; simp only [Option.some.injEq] at he; subst he
        exact ⟨e0, rfl, hve⟩
      · exact Reads.mono this (fun _ _ => rfl) hi
  · rw [hI'] at hx
    rcases hx with hx | hx
    · exact .inl hx
    · exact .inr ⟨1, by rw [f1]; simp only [List.mem_cons, List.mem_append]; exact .inr (.inr hx)⟩
  · rw [← hh'] at ho
    match o, ho with
    | 0, ho => exact ⟨0, by rw [f0]; rw [k0] at ho; exact ho⟩
    | 1, ho => rw [k1] at ho; simp only [List.mem_singleton] at ho; exact ⟨1, by rw [f1, ho]; simp⟩
    | 2, ho => rw [k2] at ho; exact ⟨1, by rw [f1]; simp [ho]⟩
    | o + 3, ho => rw [k3] at ho; simp at ho

/-- .. and back, as data. -/
theorem wk_close {t : List (Nat × V)} {a b : D} {s n : Nat} {ids : List Nat} {m : List (List (List D))} {el : List (List D)} (hm : m ≠ []) (ht : ∀ i v, (i, v) ∈ t → v = V.e (E.sc (S.ptr 0 0)) ∨ ∃ d, v = V.e (E.sc (S.dat d))) :
    Wk 0 ⟨t, [some (.box [.dat a, .dat b, .refb 1 (List.length m)]), some (.box (S.ref 2 :: List.map (rnS ids) (List.map (fun r => S.dat (.sl r)) (List.tail m)))), some (.arr s el)], n⟩
      ⟨t, [some (.box [.dat a, .dat b, .dat (.sl (matD (el :: List.tail m)))]), none, none], n⟩ := fun I M a' w sim => by
  obtain ⟨r0, rs, rfl⟩ : ∃ r0 rs, m = r0 :: rs := by
    cases m with
    | nil => exact absurd rfl hm
    | cons x l => exact ⟨x, l, rfl⟩
  have hlen : M.length = 3 := sim.len
  obtain ⟨e0, he0, cs0, t0, hb0, hrel0⟩ := sim.obj 0 _ rfl
  obtain ⟨e1, he1, cs1, t1, hb1, hrel1⟩ := sim.obj 1 _ rfl
  obtain ⟨e2, he2, hok2⟩ := sim.obj 2 _ rfl
  have hM : M = [some e0, some e1, some e2] := by
    apply List.ext_getElem?
    intro k
    match k with
    | 0 => simpa using he0
    | 1 => simpa using he1
    | 2 => simpa using he2
    | k + 3 => rw [List.getElem?_eq_none (by omega)]; simp
  obtain ⟨h, hh⟩ : ∃ h : Heap, h = [some (.box [.dat a, .dat b, .refb 1 (List.length (r0 :: rs))]), some (.box (S.ref 2 :: List.map (rnS ids) (List.map (fun r => S.dat (.sl r)) (List.tail (r0 :: rs))))), some (.arr s el)] := ⟨_, rfl⟩
  have f0 : fpAt M h 0 = [e0.b] := by subst hh; subst hM; rfl
  have f1 : fpAt M h 1 = [e1.b] := by subst hh; subst hM; rfl
  have f2 : fpAt M h 2 = fpE e2 (.arr s el) := by subst hh; subst hM; rfl
  have sim' : Sim I M ⟨t, h, n⟩ a' w := by subst hh; exact sim
  obtain ⟨I', hI'⟩ : ∃ I' : Nat → Prop, I' = fun x => I x ∨ x = e1.b ∨ x ∈ fpE e2 (.arr s el) := ⟨_, rfl⟩
  have hi : ∀ x, I x → I' x := fun x h => by rw [hI']; exact .inl h
  obtain ⟨h', hh'⟩ : ∃ h' : Heap, h' = [some (.box [.dat a, .dat b, .dat (.sl (matD (el :: List.tail (r0 :: rs))))]), none, none] := ⟨_, rfl⟩
  have k0 : fpAt M h' 0 = [e0.b] := by subst hh'; subst hM; rfl
  have k3 : ∀ o, fpAt M h' (o + 1) = [] := fun o => by
    subst hh'; subst hM
    match o with
    | 0 => rfl
    | 1 => rfl
    | o + 2 => rfl
  have rd0 := (fd_ref hok2 hi (fun x hx => by rw [hI']; exact .inr (.inr hx))).1 s el rfl
  rw [← hh]
  refine ⟨I', M, ?_, hi, fun x hx => ?_, fun x ⟨o, ho⟩ => ?_, fun _ _ _ h => h⟩
  · rw [← hh']
    refine { len := by subst hh'; exact hlen, obj := fun o obj ho => ?_, disj := fun o1 o2 x h1 h2 => ?_, nd := fun o => ?_, lt := fun o x hx => ?_, imm := fun x hx => ?_, tm := fun i v hv => ?_, size := sim.size, defers := sim.defers }
    · subst hh'
      match o, ho with
      | 0, ho =>
        simp only [List.getElem?_cons_zero, Option.some.injEq] at ho; subst ho
        refine ⟨e0, he0, cs0, t0, hb0, hrel0.1, fun i v x hv hx => ?_⟩
        match i, hx with
        | 0, hx =>
          simp only [List.getElem?_cons_zero, Option.some.injEq] at hx; subst hx
          exact Reads.mono (hrel0.2 0 v _ hv rfl) (fun _ _ => rfl) hi
        | 1, hx =>
          simp only [List.getElem?_cons_zero, List.getElem?_cons_succ, Option.some.injEq] at hx; subst hx
          exact Reads.mono (hrel0.2 1 v _ hv rfl) (fun _ _ => rfl) hi
        | 2, hx =>
          simp only [List.getElem?_cons_zero, List.getElem?_cons_succ, Option.some.injEq] at hx; subst hx
          obtain ⟨e, he, hve, hcap⟩ := hrel0.2 2 v _ hv rfl
          rw [he1] at he; simp only [Option.some.injEq] at he; subst he
          show Reads w I' v _
          rw [hve]
          have hml : (matD (el :: rs)).length = (r0 :: rs).length := by simp [matD]
          rw [← hml]
          have hat : ∀ i j d, at2 (matD (el :: rs)) i j = some d → j = 0 ∧ ∃ r, (el :: rs)[i]? = some r ∧ d = .sl r := fun i j d hd => by
            simp only [at2, matD, List.getElem?_map, Option.bind_eq_some_iff, Option.map_eq_some_iff] at hd
            obtain ⟨x, ⟨y, hy, rfl⟩, hd⟩ := hd
            match j, hd with
            | 0, hd => simp only [List.getElem?_cons_zero, Option.some.injEq] at hd; exact ⟨rfl, y, hy, hd.symm⟩
            | j + 1, hd => simp at hd
          have key : ∀ (i : Nat) r, (el :: rs)[i]? = some r → ∃ v, cs1[i]? = some v ∧ Reads w I' v (.sl r) := fun i r hr => by
            have hil : i < cs1.toList.length := by
              have h1 := hrel1.1
              have h2 : i < (el :: rs).length := by
                rcases Nat.lt_or_ge i (el :: rs).length with h | h
                · exact h
                · rw [List.getElem?_eq_none h] at hr; simp at hr
              simp only [List.tail_cons, List.length_cons, List.length_map] at h1 h2; omega
            refine ⟨cs1.toList[i], by rw [← Array.getElem?_toList]; exact List.getElem?_eq_getElem hil, ?_⟩
            have hget : cs1.toList[i]? = some cs1.toList[i] := List.getElem?_eq_getElem hil
            generalize cs1.toList[i] = u at hget
            match i, hr with
            | 0, hr =>
              simp only [List.getElem?_cons_zero, Option.some.injEq] at hr; subst hr
              obtain ⟨e, he, hve⟩ := hrel1.2 0 _ _ hget rfl
              rw [he2] at he; simp only [Option.some.injEq] at he; subst he
              rw [hve]; exact rd0
            | i + 1, hr =>
              have := hrel1.2 (i + 1) u (.dat (.sl r)) hget (by
                simp only [List.tail_cons, List.getElem?_cons_succ, List.getElem?_map] at hr ⊢
                rw [hr]; rfl)
              exact Reads.mono this (fun _ _ => rfl) hi
          refine .sl (s := 1) (t := t1) (fr := (0, 0)) (cs := cs1) _ (fun i _ => (cs1[i]?).getD undef) (by rw [hI']; exact .inr (.inl rfl)) hb1 (fun x hx => ?_) (by rw [hml]; exact hcap) (fun i j d hd => ?_) (fun i j d hd => ?_)
          · simp only [matD, List.mem_map] at hx; obtain ⟨y, _, rfl⟩ := hx; rfl
          · obtain ⟨rfl, r, hr, rfl⟩ := hat i j d hd
            obtain ⟨v, p, _⟩ := key i r hr
            rw [Nat.zero_add, Nat.mul_one, Nat.add_zero, p]; rfl
          · obtain ⟨rfl, r, hr, rfl⟩ := hat i j d hd
            obtain ⟨v, p, q⟩ := key i r hr
            rw [p]; exact q
        | i + 3, hx => simp at hx
      | 1, ho => simp at ho
      | 2, ho => simp at ho
      | o + 3, ho => simp at ho
    · match o1, o2, h1, h2 with
      | 0, 0, _, _ => rfl
      | o + 1, _, h1, _ => rw [k3] at h1; simp at h1
      | _, o + 1, _, h2 => rw [k3] at h2; simp at h2
    · match o with
      | 0 => rw [k0]; simp
      | o + 1 => rw [k3]; exact List.nodup_nil
    · match o, hx with
      | 0, hx => rw [k0] at hx; exact sim'.lt 0 x (by rw [f0]; exact hx)
      | o + 1, hx => rw [k3] at hx; simp at hx
    · rw [hI'] at hx
      have ne0 : ∀ o, x ∈ fpAt M h (o + 1) → ∀ o', x ∉ fpAt M h' o' := fun o hxo o' ho' => by
        match o', ho' with
        | 0, ho' =>
          have := sim'.disj 0 (o + 1) x (by rw [f0]; rw [k0] at ho'; exact ho') hxo
          omega
        | o' + 1, ho' => rw [k3] at ho'; simp at ho'
      rcases hx with hx | hx | hx
      · refine ⟨(sim.imm x hx).1, fun o ho => ?_⟩
        match o, ho with
        | 0, ho => exact (sim'.imm x hx).2 0 (by rw [f0]; rw [k0] at ho; exact ho)
        | o + 1, ho => rw [k3] at ho; simp at ho
      · exact ⟨sim'.lt 1 x (by rw [f1, hx]; simp), ne0 0 (by rw [f1, hx]; simp)⟩
      · exact ⟨sim'.lt 2 x (by rw [f2]; exact hx), ne0 1 (by rw [f2]; exact hx)⟩
    · have := sim.tm i v hv
      rcases ht i v hv with rfl | ⟨d, rfl⟩
      · exact this
      · exact Reads.mono this (fun _ _ => rfl) hi
  · rw [hI'] at hx
    rcases hx with hx | hx | hx
    · exact .inl hx
    · exact .inr ⟨1, by rw [f1, hx]; simp⟩
    · exact .inr ⟨2, by rw [f2]; exact hx⟩
  · rw [← hh'] at ho
    match o, ho with
    | 0, ho => exact ⟨0, by rw [f0]; rw [k0] at ho; exact ho⟩
    | o + 1, ho => rw [k3] at ho; simp at ho
end

end Go.AM

/- What functions of the program come to: group P3. Printed by vc.py. -/
set_option maxRecDepth 100000
set_option linter.unusedVariables false

namespace Go.AM
open Go.Proofs.Try

/- f3 torsion/torsionlaw05.MatrixValidMatchesReference -/
def vc3 (x0 : Int) (x1 : Int) (x2 : List (List D)) (w0 : Int) (w1 : Int) (w2 : Int) (v0 : Bool) (v1 : List (List D)) (R : V → Heap → Prop) : Prop :=
  ∃ (r : Bool),
  (FnD prog 14 [] (vD (dB r)) []) ∧
  (∃ (r0 : Int) (r1 : Int) (rrows : List (List (List D))),
  (FnD prog 15 [(vA [(sD (D.int .u8 x0)), (sD (D.int .u8 x1)), (sD (dL x2))])] (vA [(sD (dI r0)), (sD (dI r1)), (S.ref 0)]) [(some (Obj.mat 2 rrows))]) ∧
  (((decide ((v1.length : Int) > (4 : Int))) = true →
    R (vD (dB r)) []) ∧
  ((decide ((v1.length : Int) > (4 : Int))) = false →
    (0 ≤ (0 : Int) ∧ (0 : Int) < ((3 : Nat) : Int)) ∧
    ((2 : Int) ≠ 0) ∧
    ((0 ≤ (1 : Int) ∧ (1 : Int) < ((3 : Nat) : Int)) ∧
    ((0 ≤ (2 : Int) ∧ (2 : Int) < ((3 : Nat) : Int)) ∧
    ((8 : Int) ≠ 0) ∧
    (((decide ((IntKind.i64.wrap ((IntKind.u8.wrap w2).tmod (8 : Int))) < (rrows.length : Int))) = true →
      (0 ≤ (IntKind.i64.wrap ((IntKind.u8.wrap w2).tmod (8 : Int))) ∧ (IntKind.i64.wrap ((IntKind.u8.wrap w2).tmod (8 : Int))) < (rrows.length : Int)) ∧
      (((decide (((rrows.getD ((IntKind.i64.wrap ((IntKind.u8.wrap w2).tmod (8 : Int)))).toNat ([] : List (List D))).length : Int) > (0 : Int))) = true →
        (∃ l, rrows[((IntKind.i64.wrap ((IntKind.u8.wrap w2).tmod (8 : Int)))).toNat]? = some l ∧ 0 ≤ (0 : Int) ∧ (0 : Int) < (l.length : Int)) ∧
        (((decide (w2 < (-100 : Int))) = true →
          ((decide (((rrows.modify ((IntKind.i64.wrap ((IntKind.u8.wrap w2).tmod (8 : Int)))).toNat (fun r => r.set 0 [(dB v0), (dL v1)])).length : Int) > (0 : Int))) = true →
            (Wk 0 ⟨[(7, (vD (dB r))), (8, (vP 0 0)), (68, (vD (dB (decide (((rrows.modify ((IntKind.i64.wrap ((IntKind.u8.wrap w2).tmod (8 : Int)))).toNat (fun r => r.set 0 [(dB v0), (dL v1)])).length : Int) > (0 : Int))))))], [(some (Obj.box [(sD (dI (IntKind.i64.wrap (r0 + (IntKind.i64.wrap (w0.tmod (2 : Int))))))), (sD (dI (IntKind.i64.wrap (r1 + (IntKind.i64.wrap (w1.tmod (2 : Int))))))), (S.ref 1)])), (some (Obj.mat 2 (rrows.modify ((IntKind.i64.wrap ((IntKind.u8.wrap w2).tmod (8 : Int)))).toNat (fun r => r.set 0 [(dB v0), (dL v1)]))))], 87⟩ ⟨[(7, (vD (dB r))), (8, (vP 0 0)), (68, (vD (dB (decide (((rrows.modify ((IntKind.i64.wrap ((IntKind.u8.wrap w2).tmod (8 : Int)))).toNat (fun r => r.set 0 [(dB v0), (dL v1)])).length : Int) > (0 : Int))))))], [(some (Obj.box [(sD (dI (IntKind.i64.wrap (r0 + (IntKind.i64.wrap (w0.tmod (2 : Int))))))), (sD (dI (IntKind.i64.wrap (r1 + (IntKind.i64.wrap (w1.tmod (2 : Int))))))), (S.refb 1 (List.length (rrows.modify ((IntKind.i64.wrap ((IntKind.u8.wrap w2).tmod (8 : Int)))).toNat (fun r => r.set 0 [(dB v0), (dL v1)]))))])), (some (Obj.box ((S.ref 2) :: (List.map (fun r => sD (dL r)) (List.tail (rrows.modify ((IntKind.i64.wrap ((IntKind.u8.wrap w2).tmod (8 : Int)))).toNat (fun r => r.set 0 [(dB v0), (dL v1)]))))))), (some (Obj.arr 2 (List.headD (rrows.modify ((IntKind.i64.wrap ((IntKind.u8.wrap w2).tmod (8 : Int)))).toNat (fun r => r.set 0 [(dB v0), (dL v1)])) ([] : List (List D)))))], 87⟩) ∧
            (∃ (r01 : Bool) (r11 : List (List D)),
            (0 ≤ (0 : Int) ∧ (0 : Int) < (((List.length (rrows.modify ((IntKind.i64.wrap ((IntKind.u8.wrap w2).tmod (8 : Int)))).toNat (fun r => r.set 0 [(dB v0), (dL v1)]))) : Nat) : Int)) ∧
            (FnD prog 16 [(vD (dI (1 : Int)))] (vA [(sD (dB r01)), (sD (dL r11))]) []) ∧
            (((List.headD (rrows.modify ((IntKind.i64.wrap ((IntKind.u8.wrap w2).tmod (8 : Int)))).toNat (fun r => r.set 0 [(dB v0), (dL v1)])) ([] : List (List D))).length + ([[(dB r01), (dL r11)]] : List (List D)).length) * 32 ≤ 140737488355328) ∧
            ((Wk 0 ⟨[(7, (vD (dB r))), (8, (vP 0 0))], [(some (Obj.box [(sD (dI (IntKind.i64.wrap (r0 + (IntKind.i64.wrap (w0.tmod (2 : Int))))))), (sD (dI (IntKind.i64.wrap (r1 + (IntKind.i64.wrap (w1.tmod (2 : Int))))))), (S.refb 1 (List.length (rrows.modify ((IntKind.i64.wrap ((IntKind.u8.wrap w2).tmod (8 : Int)))).toNat (fun r => r.set 0 [(dB v0), (dL v1)]))))])), (some (Obj.box ((S.ref 2) :: (List.map (rnS [0, 1, 4]) (List.map (fun r => sD (dL r)) (List.tail (rrows.modify ((IntKind.i64.wrap ((IntKind.u8.wrap w2).tmod (8 : Int)))).toNat (fun r => r.set 0 [(dB v0), (dL v1)])))))))), (some (Obj.arr 2 ((List.headD (rrows.modify ((IntKind.i64.wrap ((IntKind.u8.wrap w2).tmod (8 : Int)))).toNat (fun r => r.set 0 [(dB v0), (dL v1)])) ([] : List (List D))) ++ [[(dB r01), (dL r11)]])))], 87⟩ ⟨[(7, (vD (dB r))), (8, (vP 0 0))], [(some (Obj.box [(sD (dI (IntKind.i64.wrap (r0 + (IntKind.i64.wrap (w0.tmod (2 : Int))))))), (sD (dI (IntKind.i64.wrap (r1 + (IntKind.i64.wrap (w1.tmod (2 : Int))))))), (sD (dL (matD (((List.headD (rrows.modify ((IntKind.i64.wrap ((IntKind.u8.wrap w2).tmod (8 : Int)))).toNat (fun r => r.set 0 [(dB v0), (dL v1)])) ([] : List (List D))) ++ [[(dB r01), (dL r11)]]) :: List.tail (rrows.modify ((IntKind.i64.wrap ((IntKind.u8.wrap w2).tmod (8 : Int)))).toNat (fun r => r.set 0 [(dB v0), (dL v1)]))))))])), none, none], 87⟩) ∧
            (∃ (r2 : Bool) (r3 : Bool),
            (FnD prog 17 [(vA [(sD (dI (IntKind.i64.wrap (r0 + (IntKind.i64.wrap (w0.tmod (2 : Int))))))), (sD (dI (IntKind.i64.wrap (r1 + (IntKind.i64.wrap (w1.tmod (2 : Int))))))), (sD (dL (matD (((List.headD (rrows.modify ((IntKind.i64.wrap ((IntKind.u8.wrap w2).tmod (8 : Int)))).toNat (fun r => r.set 0 [(dB v0), (dL v1)])) ([] : List (List D))) ++ [[(dB r01), (dL r11)]]) :: List.tail (rrows.modify ((IntKind.i64.wrap ((IntKind.u8.wrap w2).tmod (8 : Int)))).toNat (fun r => r.set 0 [(dB v0), (dL v1)]))))))])] (vD (dB r2)) []) ∧
            (FnD prog 18 [(vA [(sD (dI (IntKind.i64.wrap (r0 + (IntKind.i64.wrap (w0.tmod (2 : Int))))))), (sD (dI (IntKind.i64.wrap (r1 + (IntKind.i64.wrap (w1.tmod (2 : Int))))))), (sD (dL (matD (((List.headD (rrows.modify ((IntKind.i64.wrap ((IntKind.u8.wrap w2).tmod (8 : Int)))).toNat (fun r => r.set 0 [(dB v0), (dL v1)])) ([] : List (List D))) ++ [[(dB r01), (dL r11)]]) :: List.tail (rrows.modify ((IntKind.i64.wrap ((IntKind.u8.wrap w2).tmod (8 : Int)))).toNat (fun r => r.set 0 [(dB v0), (dL v1)]))))))])] (vD (dB r3)) []) ∧
            (((r2 == r3) = true →
              R (vD (dB r)) []) ∧
            ((r2 == r3) = false →
              R (vD (dB false)) [])))))) ∧
          ((decide (((rrows.modify ((IntKind.i64.wrap ((IntKind.u8.wrap w2).tmod (8 : Int)))).toNat (fun r => r.set 0 [(dB v0), (dL v1)])).length : Int) > (0 : Int))) = false →
            ∃ (r4 : Bool) (r5 : Bool),
            (FnD prog 17 [(vA [(sD (dI (IntKind.i64.wrap (r0 + (IntKind.i64.wrap (w0.tmod (2 : Int))))))), (sD (dI (IntKind.i64.wrap (r1 + (IntKind.i64.wrap (w1.tmod (2 : Int))))))), (sD (dL (matD (rrows.modify ((IntKind.i64.wrap ((IntKind.u8.wrap w2).tmod (8 : Int)))).toNat (fun r => r.set 0 [(dB v0), (dL v1)])))))])] (vD (dB r4)) []) ∧
            (FnD prog 18 [(vA [(sD (dI (IntKind.i64.wrap (r0 + (IntKind.i64.wrap (w0.tmod (2 : Int))))))), (sD (dI (IntKind.i64.wrap (r1 + (IntKind.i64.wrap (w1.tmod (2 : Int))))))), (sD (dL (matD (rrows.modify ((IntKind.i64.wrap ((IntKind.u8.wrap w2).tmod (8 : Int)))).toNat (fun r => r.set 0 [(dB v0), (dL v1)])))))])] (vD (dB r5)) []) ∧
            (((r4 == r5) = true →
              R (vD (dB r)) []) ∧
            ((r4 == r5) = false →
              R (vD (dB false)) [])))) ∧
        ((decide (w2 < (-100 : Int))) = false →
          ∃ (r6 : Bool) (r7 : Bool),
          (FnD prog 17 [(vA [(sD (dI (IntKind.i64.wrap (r0 + (IntKind.i64.wrap (w0.tmod (2 : Int))))))), (sD (dI (IntKind.i64.wrap (r1 + (IntKind.i64.wrap (w1.tmod (2 : Int))))))), (sD (dL (matD (rrows.modify ((IntKind.i64.wrap ((IntKind.u8.wrap w2).tmod (8 : Int)))).toNat (fun r => r.set 0 [(dB v0), (dL v1)])))))])] (vD (dB r6)) []) ∧
          (FnD prog 18 [(vA [(sD (dI (IntKind.i64.wrap (r0 + (IntKind.i64.wrap (w0.tmod (2 : Int))))))), (sD (dI (IntKind.i64.wrap (r1 + (IntKind.i64.wrap (w1.tmod (2 : Int))))))), (sD (dL (matD (rrows.modify ((IntKind.i64.wrap ((IntKind.u8.wrap w2).tmod (8 : Int)))).toNat (fun r => r.set 0 [(dB v0), (dL v1)])))))])] (vD (dB r7)) []) ∧
          (((r6 == r7) = true →
            R (vD (dB r)) []) ∧
          ((r6 == r7) = false →
            R (vD (dB false)) []))))) ∧
      ((decide (((rrows.getD ((IntKind.i64.wrap ((IntKind.u8.wrap w2).tmod (8 : Int)))).toNat ([] : List (List D))).length : Int) > (0 : Int))) = false →
        ((decide (w2 < (-100 : Int))) = true →
          ((decide ((rrows.length : Int) > (0 : Int))) = true →
            (Wk 0 ⟨[(7, (vD (dB r))), (8, (vP 0 0)), (68, (vD (dB (decide ((rrows.length : Int) > (0 : Int))))))], [(some (Obj.box [(sD (dI (IntKind.i64.wrap (r0 + (IntKind.i64.wrap (w0.tmod (2 : Int))))))), (sD (dI (IntKind.i64.wrap (r1 + (IntKind.i64.wrap (w1.tmod (2 : Int))))))), (S.ref 1)])), (some (Obj.mat 2 rrows))], 87⟩ ⟨[(7, (vD (dB r))), (8, (vP 0 0)), (68, (vD (dB (decide ((rrows.length : Int) > (0 : Int))))))], [(some (Obj.box [(sD (dI (IntKind.i64.wrap (r0 + (IntKind.i64.wrap (w0.tmod (2 : Int))))))), (sD (dI (IntKind.i64.wrap (r1 + (IntKind.i64.wrap (w1.tmod (2 : Int))))))), (S.refb 1 (List.length rrows))])), (some (Obj.box ((S.ref 2) :: (List.map (fun r => sD (dL r)) (List.tail rrows))))), (some (Obj.arr 2 (List.headD rrows ([] : List (List D)))))], 87⟩) ∧
            (∃ (r02 : Bool) (r12 : List (List D)),
            (0 ≤ (0 : Int) ∧ (0 : Int) < (((List.length rrows) : Nat) : Int)) ∧
            (FnD prog 16 [(vD (dI (1 : Int)))] (vA [(sD (dB r02)), (sD (dL r12))]) []) ∧
            (((List.headD rrows ([] : List (List D))).length + ([[(dB r02), (dL r12)]] : List (List D)).length) * 32 ≤ 140737488355328) ∧
            ((Wk 0 ⟨[(7, (vD (dB r))), (8, (vP 0 0))], [(some (Obj.box [(sD (dI (IntKind.i64.wrap (r0 + (IntKind.i64.wrap (w0.tmod (2 : Int))))))), (sD (dI (IntKind.i64.wrap (r1 + (IntKind.i64.wrap (w1.tmod (2 : Int))))))), (S.refb 1 (List.length rrows))])), (some (Obj.box ((S.ref 2) :: (List.map (rnS [0, 1, 4]) (List.map (fun r => sD (dL r)) (List.tail rrows)))))), (some (Obj.arr 2 ((List.headD rrows ([] : List (List D))) ++ [[(dB r02), (dL r12)]])))], 87⟩ ⟨[(7, (vD (dB r))), (8, (vP 0 0))], [(some (Obj.box [(sD (dI (IntKind.i64.wrap (r0 + (IntKind.i64.wrap (w0.tmod (2 : Int))))))), (sD (dI (IntKind.i64.wrap (r1 + (IntKind.i64.wrap (w1.tmod (2 : Int))))))), (sD (dL (matD (((List.headD rrows ([] : List (List D))) ++ [[(dB r02), (dL r12)]]) :: List.tail rrows))))])), none, none], 87⟩) ∧
            (∃ (r8 : Bool) (r9 : Bool),
            (FnD prog 17 [(vA [(sD (dI (IntKind.i64.wrap (r0 + (IntKind.i64.wrap (w0.tmod (2 : Int))))))), (sD (dI (IntKind.i64.wrap (r1 + (IntKind.i64.wrap (w1.tmod (2 : Int))))))), (sD (dL (matD (((List.headD rrows ([] : List (List D))) ++ [[(dB r02), (dL r12)]]) :: List.tail rrows))))])] (vD (dB r8)) []) ∧
            (FnD prog 18 [(vA [(sD (dI (IntKind.i64.wrap (r0 + (IntKind.i64.wrap (w0.tmod (2 : Int))))))), (sD (dI (IntKind.i64.wrap (r1 + (IntKind.i64.wrap (w1.tmod (2 : Int))))))), (sD (dL (matD (((List.headD rrows ([] : List (List D))) ++ [[(dB r02), (dL r12)]]) :: List.tail rrows))))])] (vD (dB r9)) []) ∧
            (((r8 == r9) = true →
              R (vD (dB r)) []) ∧
            ((r8 == r9) = false →
              R (vD (dB false)) [])))))) ∧
          ((decide ((rrows.length : Int) > (0 : Int))) = false →
            ∃ (r10 : Bool) (r13 : Bool),
            (FnD prog 17 [(vA [(sD (dI (IntKind.i64.wrap (r0 + (IntKind.i64.wrap (w0.tmod (2 : Int))))))), (sD (dI (IntKind.i64.wrap (r1 + (IntKind.i64.wrap (w1.tmod (2 : Int))))))), (sD (dL (matD rrows)))])] (vD (dB r10)) []) ∧
            (FnD prog 18 [(vA [(sD (dI (IntKind.i64.wrap (r0 + (IntKind.i64.wrap (w0.tmod (2 : Int))))))), (sD (dI (IntKind.i64.wrap (r1 + (IntKind.i64.wrap (w1.tmod (2 : Int))))))), (sD (dL (matD rrows)))])] (vD (dB r13)) []) ∧
            (((r10 == r13) = true →
              R (vD (dB r)) []) ∧
            ((r10 == r13) = false →
              R (vD (dB false)) [])))) ∧
        ((decide (w2 < (-100 : Int))) = false →
          ∃ (r14 : Bool) (r15 : Bool),
          (FnD prog 17 [(vA [(sD (dI (IntKind.i64.wrap (r0 + (IntKind.i64.wrap (w0.tmod (2 : Int))))))), (sD (dI (IntKind.i64.wrap (r1 + (IntKind.i64.wrap (w1.tmod (2 : Int))))))), (sD (dL (matD rrows)))])] (vD (dB r14)) []) ∧
          (FnD prog 18 [(vA [(sD (dI (IntKind.i64.wrap (r0 + (IntKind.i64.wrap (w0.tmod (2 : Int))))))), (sD (dI (IntKind.i64.wrap (r1 + (IntKind.i64.wrap (w1.tmod (2 : Int))))))), (sD (dL (matD rrows)))])] (vD (dB r15)) []) ∧
          (((r14 == r15) = true →
            R (vD (dB r)) []) ∧
          ((r14 == r15) = false →
            R (vD (dB false)) [])))))) ∧
    ((decide ((IntKind.i64.wrap ((IntKind.u8.wrap w2).tmod (8 : Int))) < (rrows.length : Int))) = false →
      ((decide (w2 < (-100 : Int))) = true →
        ((decide ((rrows.length : Int) > (0 : Int))) = true →
          (Wk 0 ⟨[(7, (vD (dB r))), (8, (vP 0 0)), (68, (vD (dB (decide ((rrows.length : Int) > (0 : Int))))))], [(some (Obj.box [(sD (dI (IntKind.i64.wrap (r0 + (IntKind.i64.wrap (w0.tmod (2 : Int))))))), (sD (dI (IntKind.i64.wrap (r1 + (IntKind.i64.wrap (w1.tmod (2 : Int))))))), (S.ref 1)])), (some (Obj.mat 2 rrows))], 87⟩ ⟨[(7, (vD (dB r))), (8, (vP 0 0)), (68, (vD (dB (decide ((rrows.length : Int) > (0 : Int))))))], [(some (Obj.box [(sD (dI (IntKind.i64.wrap (r0 + (IntKind.i64.wrap (w0.tmod (2 : Int))))))), (sD (dI (IntKind.i64.wrap (r1 + (IntKind.i64.wrap (w1.tmod (2 : Int))))))), (S.refb 1 (List.length rrows))])), (some (Obj.box ((S.ref 2) :: (List.map (fun r => sD (dL r)) (List.tail rrows))))), (some (Obj.arr 2 (List.headD rrows ([] : List (List D)))))], 87⟩) ∧
          (∃ (r03 : Bool) (r16 : List (List D)),
          (0 ≤ (0 : Int) ∧ (0 : Int) < (((List.length rrows) : Nat) : Int)) ∧
          (FnD prog 16 [(vD (dI (1 : Int)))] (vA [(sD (dB r03)), (sD (dL r16))]) []) ∧
          (((List.headD rrows ([] : List (List D))).length + ([[(dB r03), (dL r16)]] : List (List D)).length) * 32 ≤ 140737488355328) ∧
          ((Wk 0 ⟨[(7, (vD (dB r))), (8, (vP 0 0))], [(some (Obj.box [(sD (dI (IntKind.i64.wrap (r0 + (IntKind.i64.wrap (w0.tmod (2 : Int))))))), (sD (dI (IntKind.i64.wrap (r1 + (IntKind.i64.wrap (w1.tmod (2 : Int))))))), (S.refb 1 (List.length rrows))])), (some (Obj.box ((S.ref 2) :: (List.map (rnS [0, 1, 4]) (List.map (fun r => sD (dL r)) (List.tail rrows)))))), (some (Obj.arr 2 ((List.headD rrows ([] : List (List D))) ++ [[(dB r03), (dL r16)]])))], 87⟩ ⟨[(7, (vD (dB r))), (8, (vP 0 0))], [(some (Obj.box [(sD (dI (IntKind.i64.wrap (r0 + (IntKind.i64.wrap (w0.tmod (2 : Int))))))), (sD (dI (IntKind.i64.wrap (r1 + (IntKind.i64.wrap (w1.tmod (2 : Int))))))), (sD (dL (matD (((List.headD rrows ([] : List (List D))) ++ [[(dB r03), (dL r16)]]) :: List.tail rrows))))])), none, none], 87⟩) ∧
          (∃ (r17 : Bool) (r18 : Bool),
          (FnD prog 17 [(vA [(sD (dI (IntKind.i64.wrap (r0 + (IntKind.i64.wrap (w0.tmod (2 : Int))))))), (sD (dI (IntKind.i64.wrap (r1 + (IntKind.i64.wrap (w1.tmod (2 : Int))))))), (sD (dL (matD (((List.headD rrows ([] : List (List D))) ++ [[(dB r03), (dL r16)]]) :: List.tail rrows))))])] (vD (dB r17)) []) ∧
          (FnD prog 18 [(vA [(sD (dI (IntKind.i64.wrap (r0 + (IntKind.i64.wrap (w0.tmod (2 : Int))))))), (sD (dI (IntKind.i64.wrap (r1 + (IntKind.i64.wrap (w1.tmod (2 : Int))))))), (sD (dL (matD (((List.headD rrows ([] : List (List D))) ++ [[(dB r03), (dL r16)]]) :: List.tail rrows))))])] (vD (dB r18)) []) ∧
          (((r17 == r18) = true →
            R (vD (dB r)) []) ∧
          ((r17 == r18) = false →
            R (vD (dB false)) [])))))) ∧
        ((decide ((rrows.length : Int) > (0 : Int))) = false →
          ∃ (r19 : Bool) (r20 : Bool),
          (FnD prog 17 [(vA [(sD (dI (IntKind.i64.wrap (r0 + (IntKind.i64.wrap (w0.tmod (2 : Int))))))), (sD (dI (IntKind.i64.wrap (r1 + (IntKind.i64.wrap (w1.tmod (2 : Int))))))), (sD (dL (matD rrows)))])] (vD (dB r19)) []) ∧
          (FnD prog 18 [(vA [(sD (dI (IntKind.i64.wrap (r0 + (IntKind.i64.wrap (w0.tmod (2 : Int))))))), (sD (dI (IntKind.i64.wrap (r1 + (IntKind.i64.wrap (w1.tmod (2 : Int))))))), (sD (dL (matD rrows)))])] (vD (dB r20)) []) ∧
          (((r19 == r20) = true →
            R (vD (dB r)) []) ∧
          ((r19 == r20) = false →
            R (vD (dB false)) [])))) ∧
      ((decide (w2 < (-100 : Int))) = false →
        ∃ (r21 : Bool) (r22 : Bool),
        (FnD prog 17 [(vA [(sD (dI (IntKind.i64.wrap (r0 + (IntKind.i64.wrap (w0.tmod (2 : Int))))))), (sD (dI (IntKind.i64.wrap (r1 + (IntKind.i64.wrap (w1.tmod (2 : Int))))))), (sD (dL (matD rrows)))])] (vD (dB r21)) []) ∧
        (FnD prog 18 [(vA [(sD (dI (IntKind.i64.wrap (r0 + (IntKind.i64.wrap (w0.tmod (2 : Int))))))), (sD (dI (IntKind.i64.wrap (r1 + (IntKind.i64.wrap (w1.tmod (2 : Int))))))), (sD (dL (matD rrows)))])] (vD (dB r22)) []) ∧
        (((r21 == r22) = true →
          R (vD (dB r)) []) ∧
        ((r21 == r22) = false →
          R (vD (dB false)) []))))))))))

theorem vc3_ok (x0 : Int) (x1 : Int) (x2 : List (List D)) (w0 : Int) (w1 : Int) (w2 : Int) (v0 : Bool) (v1 : List (List D)) {R : V → Heap → Prop} (h : vc3 x0 x1 x2 w0 w1 w2 v0 v1 R) : FnG prog 3 [(vA [(sD (D.int .u8 x0)), (sD (D.int .u8 x1)), (sD (dL x2))]), (vA [(sD (D.int .i8 w0)), (sD (D.int .i8 w1)), (sD (D.int .i8 w2))]), (vA [(sD (dB v0)), (sD (dL v1))])] [] R :=
  FnG.vcg hT func3 ntmps3 (.reg 3 [(0, Or.none, 0, 1), (1, Or.none, 1, 1), (2, Or.none, 2, 1)] [3, 4, 5] [0, 1, 2] [] <| .exb fun r => .reg 0 [(0, (Or.call (vD (dB r)) [] []), 0, 0)] [3, 4, 5, 7] [0, 1, 2] [] <| .ex fun r0 => .ex fun r1 => .exm fun rrows => .reg 2 [(1, (Or.call (vA [(sD (dI r0)), (sD (dI r1)), (S.ref 0)]) [(some (Obj.mat 2 rrows))] []), 3, 1), (2, Or.none, 4, 1)] [4, 5, 7, 8] [1, 2, 4, 3] [] <| .r1 [4, 5, 7, 8, 16] [0, 1, 2, 3] <| .c2 (.r0 [6] <| .ret []) (.r1 [4, 5, 7, 8] [0, 1, 2, 3] <| .reg 0 [] [4, 5, 7, 8] [0, 1, 2, 3] [.new, .old 1] <| .r1 [4, 5, 7, 8, 9] [0, 1, 2, 3] <| .spl ((decide ((IntKind.i64.wrap ((IntKind.u8.wrap w2).tmod (8 : Int))) < (rrows.length : Int)))) (.reg 0 [(5, (Or.bool true), 0, 0)] [4, 5, 7, 8, 9, 52] [0, 1, 2, 3] [.old 0] <| .c2 (.drw 0 [(7, (Or.none, 0, 0), [3])] [4, 7, 8] [0, 2, 3] [.old 1] <| .spl ((decide (w2 < (-100 : Int)))) (.reg 0 [(3, (Or.bool true), 0, 0)] [7, 8, 68] [1, 2] [.old 6, .old 0] <| .c2 (.hwk ⟨[(7, (vD (dB r))), (8, (vP 0 0)), (68, (vD (dB (decide (((rrows.modify ((IntKind.i64.wrap ((IntKind.u8.wrap w2).tmod (8 : Int)))).toNat (fun r => r.set 0 [(dB v0), (dL v1)])).length : Int) > (0 : Int))))))], [(some (Obj.box [(sD (dI (IntKind.i64.wrap (r0 + (IntKind.i64.wrap (w0.tmod (2 : Int))))))), (sD (dI (IntKind.i64.wrap (r1 + (IntKind.i64.wrap (w1.tmod (2 : Int))))))), (S.ref 1)])), (some (Obj.mat 2 (rrows.modify ((IntKind.i64.wrap ((IntKind.u8.wrap w2).tmod (8 : Int)))).toNat (fun r => r.set 0 [(dB v0), (dL v1)]))))], 87⟩ ⟨[(7, (vD (dB r))), (8, (vP 0 0)), (68, (vD (dB (decide (((rrows.modify ((IntKind.i64.wrap ((IntKind.u8.wrap w2).tmod (8 : Int)))).toNat (fun r => r.set 0 [(dB v0), (dL v1)])).length : Int) > (0 : Int))))))], [(some (Obj.box [(sD (dI (IntKind.i64.wrap (r0 + (IntKind.i64.wrap (w0.tmod (2 : Int))))))), (sD (dI (IntKind.i64.wrap (r1 + (IntKind.i64.wrap (w1.tmod (2 : Int))))))), (S.refb 1 (List.length (rrows.modify ((IntKind.i64.wrap ((IntKind.u8.wrap w2).tmod (8 : Int)))).toNat (fun r => r.set 0 [(dB v0), (dL v1)]))))])), (some (Obj.box ((S.ref 2) :: (List.map (fun r => sD (dL r)) (List.tail (rrows.modify ((IntKind.i64.wrap ((IntKind.u8.wrap w2).tmod (8 : Int)))).toNat (fun r => r.set 0 [(dB v0), (dL v1)]))))))), (some (Obj.arr 2 (List.headD (rrows.modify ((IntKind.i64.wrap ((IntKind.u8.wrap w2).tmod (8 : Int)))).toNat (fun r => r.set 0 [(dB v0), (dL v1)])) ([] : List (List D)))))], 87⟩ <| .exb fun r01 => .exl fun r11 => .drl 2 [(6, ((Or.call (vA [(sD (dB r01)), (sD (dL r11))]) [] []), 0, 0), []), (7, (Or.none, 3, 1), [3]), (8, (Or.none, 4, 1), [2, 4]), (10, (Or.none, 0, 0), [1])] [7, 8] [0, 1, 4] [.new, .new, .new, .old 2] <| .hwk ⟨[(7, (vD (dB r))), (8, (vP 0 0))], [(some (Obj.box [(sD (dI (IntKind.i64.wrap (r0 + (IntKind.i64.wrap (w0.tmod (2 : Int))))))), (sD (dI (IntKind.i64.wrap (r1 + (IntKind.i64.wrap (w1.tmod (2 : Int))))))), (S.refb 1 (List.length (rrows.modify ((IntKind.i64.wrap ((IntKind.u8.wrap w2).tmod (8 : Int)))).toNat (fun r => r.set 0 [(dB v0), (dL v1)]))))])), (some (Obj.box ((S.ref 2) :: (List.map (rnS [0, 1, 4]) (List.map (fun r => sD (dL r)) (List.tail (rrows.modify ((IntKind.i64.wrap ((IntKind.u8.wrap w2).tmod (8 : Int)))).toNat (fun r => r.set 0 [(dB v0), (dL v1)])))))))), (some (Obj.arr 2 ((List.headD (rrows.modify ((IntKind.i64.wrap ((IntKind.u8.wrap w2).tmod (8 : Int)))).toNat (fun r => r.set 0 [(dB v0), (dL v1)])) ([] : List (List D))) ++ [[(dB r01), (dL r11)]])))], 87⟩ ⟨[(7, (vD (dB r))), (8, (vP 0 0))], [(some (Obj.box [(sD (dI (IntKind.i64.wrap (r0 + (IntKind.i64.wrap (w0.tmod (2 : Int))))))), (sD (dI (IntKind.i64.wrap (r1 + (IntKind.i64.wrap (w1.tmod (2 : Int))))))), (sD (dL (matD (((List.headD (rrows.modify ((IntKind.i64.wrap ((IntKind.u8.wrap w2).tmod (8 : Int)))).toNat (fun r => r.set 0 [(dB v0), (dL v1)])) ([] : List (List D))) ++ [[(dB r01), (dL r11)]]) :: List.tail (rrows.modify ((IntKind.i64.wrap ((IntKind.u8.wrap w2).tmod (8 : Int)))).toNat (fun r => r.set 0 [(dB v0), (dL v1)]))))))])), none, none], 87⟩ <| .viw [7, 8] [0] <| .exb fun r2 => .exb fun r3 => .ob (FnD prog 17 [(vA [(sD (dI (IntKind.i64.wrap (r0 + (IntKind.i64.wrap (w0.tmod (2 : Int))))))), (sD (dI (IntKind.i64.wrap (r1 + (IntKind.i64.wrap (w1.tmod (2 : Int))))))), (sD (dL (matD (((List.headD (rrows.modify ((IntKind.i64.wrap ((IntKind.u8.wrap w2).tmod (8 : Int)))).toNat (fun r => r.set 0 [(dB v0), (dL v1)])) ([] : List (List D))) ++ [[(dB r01), (dL r11)]]) :: List.tail (rrows.modify ((IntKind.i64.wrap ((IntKind.u8.wrap w2).tmod (8 : Int)))).toNat (fun r => r.set 0 [(dB v0), (dL v1)]))))))])] (vD (dB r2)) []) <| .ob (FnD prog 18 [(vA [(sD (dI (IntKind.i64.wrap (r0 + (IntKind.i64.wrap (w0.tmod (2 : Int))))))), (sD (dI (IntKind.i64.wrap (r1 + (IntKind.i64.wrap (w1.tmod (2 : Int))))))), (sD (dL (matD (((List.headD (rrows.modify ((IntKind.i64.wrap ((IntKind.u8.wrap w2).tmod (8 : Int)))).toNat (fun r => r.set 0 [(dB v0), (dL v1)])) ([] : List (List D))) ++ [[(dB r01), (dL r11)]]) :: List.tail (rrows.modify ((IntKind.i64.wrap ((IntKind.u8.wrap w2).tmod (8 : Int)))).toNat (fun r => r.set 0 [(dB v0), (dL v1)]))))))])] (vD (dB r3)) []) <| .spl ((r2 == r3)) (.drw 0 [(1, ((Or.call (vD (dB r2)) [] []), 0, 0), []), (3, ((Or.call (vD (dB r3)) [] []), 0, 0), []), (5, ((Or.bool true), 0, 0), [])] [6] [] [.old 2, .old 1, .old 0] <| .ret []) (.drw 0 [(1, ((Or.call (vD (dB r2)) [] []), 0, 0), []), (3, ((Or.call (vD (dB r3)) [] []), 0, 0), []), (5, ((Or.bool false), 0, 0), [])] [6] [] [.old 2, .old 1, .old 0] <| .ret [])) (.frz [1] <| .exb fun r4 => .exb fun r5 => .ob (FnD prog 17 [(vA [(sD (dI (IntKind.i64.wrap (r0 + (IntKind.i64.wrap (w0.tmod (2 : Int))))))), (sD (dI (IntKind.i64.wrap (r1 + (IntKind.i64.wrap (w1.tmod (2 : Int))))))), (sD (dL (matD (rrows.modify ((IntKind.i64.wrap ((IntKind.u8.wrap w2).tmod (8 : Int)))).toNat (fun r => r.set 0 [(dB v0), (dL v1)])))))])] (vD (dB r4)) []) <| .ob (FnD prog 18 [(vA [(sD (dI (IntKind.i64.wrap (r0 + (IntKind.i64.wrap (w0.tmod (2 : Int))))))), (sD (dI (IntKind.i64.wrap (r1 + (IntKind.i64.wrap (w1.tmod (2 : Int))))))), (sD (dL (matD (rrows.modify ((IntKind.i64.wrap ((IntKind.u8.wrap w2).tmod (8 : Int)))).toNat (fun r => r.set 0 [(dB v0), (dL v1)])))))])] (vD (dB r5)) []) <| .spl ((r4 == r5)) (.drw 0 [(1, ((Or.call (vD (dB r4)) [] []), 0, 0), []), (3, ((Or.call (vD (dB r5)) [] []), 0, 0), []), (5, ((Or.bool true), 0, 0), [])] [6] [] [.old 2, .old 1, .old 0] <| .ret []) (.drw 0 [(1, ((Or.call (vD (dB r4)) [] []), 0, 0), []), (3, ((Or.call (vD (dB r5)) [] []), 0, 0), []), (5, ((Or.bool false), 0, 0), [])] [6] [] [.old 2, .old 1, .old 0] <| .ret []))) (.reg 0 [(3, (Or.bool false), 0, 0)] [7, 8, 68] [1, 2] [.old 6, .old 0] <| .ct false none <| .frz [1] <| .exb fun r6 => .exb fun r7 => .ob (FnD prog 17 [(vA [(sD (dI (IntKind.i64.wrap (r0 + (IntKind.i64.wrap (w0.tmod (2 : Int))))))), (sD (dI (IntKind.i64.wrap (r1 + (IntKind.i64.wrap (w1.tmod (2 : Int))))))), (sD (dL (matD (rrows.modify ((IntKind.i64.wrap ((IntKind.u8.wrap w2).tmod (8 : Int)))).toNat (fun r => r.set 0 [(dB v0), (dL v1)])))))])] (vD (dB r6)) []) <| .ob (FnD prog 18 [(vA [(sD (dI (IntKind.i64.wrap (r0 + (IntKind.i64.wrap (w0.tmod (2 : Int))))))), (sD (dI (IntKind.i64.wrap (r1 + (IntKind.i64.wrap (w1.tmod (2 : Int))))))), (sD (dL (matD (rrows.modify ((IntKind.i64.wrap ((IntKind.u8.wrap w2).tmod (8 : Int)))).toNat (fun r => r.set 0 [(dB v0), (dL v1)])))))])] (vD (dB r7)) []) <| .spl ((r6 == r7)) (.drw 0 [(1, ((Or.call (vD (dB r6)) [] []), 0, 0), []), (3, ((Or.call (vD (dB r7)) [] []), 0, 0), []), (5, ((Or.bool true), 0, 0), [])] [6] [] [.old 2, .old 1, .old 0] <| .ret []) (.drw 0 [(1, ((Or.call (vD (dB r6)) [] []), 0, 0), []), (3, ((Or.call (vD (dB r7)) [] []), 0, 0), []), (5, ((Or.bool false), 0, 0), [])] [6] [] [.old 2, .old 1, .old 0] <| .ret []))) (.spl ((decide (w2 < (-100 : Int)))) (.reg 0 [(3, (Or.bool true), 0, 0)] [7, 8, 68] [2, 3] [.old 5, .old 0] <| .c2 (.hwk ⟨[(7, (vD (dB r))), (8, (vP 0 0)), (68, (vD (dB (decide ((rrows.length : Int) > (0 : Int))))))], [(some (Obj.box [(sD (dI (IntKind.i64.wrap (r0 + (IntKind.i64.wrap (w0.tmod (2 : Int))))))), (sD (dI (IntKind.i64.wrap (r1 + (IntKind.i64.wrap (w1.tmod (2 : Int))))))), (S.ref 1)])), (some (Obj.mat 2 rrows))], 87⟩ ⟨[(7, (vD (dB r))), (8, (vP 0 0)), (68, (vD (dB (decide ((rrows.length : Int) > (0 : Int))))))], [(some (Obj.box [(sD (dI (IntKind.i64.wrap (r0 + (IntKind.i64.wrap (w0.tmod (2 : Int))))))), (sD (dI (IntKind.i64.wrap (r1 + (IntKind.i64.wrap (w1.tmod (2 : Int))))))), (S.refb 1 (List.length rrows))])), (some (Obj.box ((S.ref 2) :: (List.map (fun r => sD (dL r)) (List.tail rrows))))), (some (Obj.arr 2 (List.headD rrows ([] : List (List D)))))], 87⟩ <| .exb fun r02 => .exl fun r12 => .drl 2 [(6, ((Or.call (vA [(sD (dB r02)), (sD (dL r12))]) [] []), 0, 0), []), (7, (Or.none, 3, 1), [3]), (8, (Or.none, 4, 1), [2, 4]), (10, (Or.none, 0, 0), [1])] [7, 8] [0, 1, 4] [.new, .new, .new, .old 2] <| .hwk ⟨[(7, (vD (dB r))), (8, (vP 0 0))], [(some (Obj.box [(sD (dI (IntKind.i64.wrap (r0 + (IntKind.i64.wrap (w0.tmod (2 : Int))))))), (sD (dI (IntKind.i64.wrap (r1 + (IntKind.i64.wrap (w1.tmod (2 : Int))))))), (S.refb 1 (List.length rrows))])), (some (Obj.box ((S.ref 2) :: (List.map (rnS [0, 1, 4]) (List.map (fun r => sD (dL r)) (List.tail rrows)))))), (some (Obj.arr 2 ((List.headD rrows ([] : List (List D))) ++ [[(dB r02), (dL r12)]])))], 87⟩ ⟨[(7, (vD (dB r))), (8, (vP 0 0))], [(some (Obj.box [(sD (dI (IntKind.i64.wrap (r0 + (IntKind.i64.wrap (w0.tmod (2 : Int))))))), (sD (dI (IntKind.i64.wrap (r1 + (IntKind.i64.wrap (w1.tmod (2 : Int))))))), (sD (dL (matD (((List.headD rrows ([] : List (List D))) ++ [[(dB r02), (dL r12)]]) :: List.tail rrows))))])), none, none], 87⟩ <| .viw [7, 8] [0] <| .exb fun r8 => .exb fun r9 => .ob (FnD prog 17 [(vA [(sD (dI (IntKind.i64.wrap (r0 + (IntKind.i64.wrap (w0.tmod (2 : Int))))))), (sD (dI (IntKind.i64.wrap (r1 + (IntKind.i64.wrap (w1.tmod (2 : Int))))))), (sD (dL (matD (((List.headD rrows ([] : List (List D))) ++ [[(dB r02), (dL r12)]]) :: List.tail rrows))))])] (vD (dB r8)) []) <| .ob (FnD prog 18 [(vA [(sD (dI (IntKind.i64.wrap (r0 + (IntKind.i64.wrap (w0.tmod (2 : Int))))))), (sD (dI (IntKind.i64.wrap (r1 + (IntKind.i64.wrap (w1.tmod (2 : Int))))))), (sD (dL (matD (((List.headD rrows ([] : List (List D))) ++ [[(dB r02), (dL r12)]]) :: List.tail rrows))))])] (vD (dB r9)) []) <| .spl ((r8 == r9)) (.drw 0 [(1, ((Or.call (vD (dB r8)) [] []), 0, 0), []), (3, ((Or.call (vD (dB r9)) [] []), 0, 0), []), (5, ((Or.bool true), 0, 0), [])] [6] [] [.old 2, .old 1, .old 0] <| .ret []) (.drw 0 [(1, ((Or.call (vD (dB r8)) [] []), 0, 0), []), (3, ((Or.call (vD (dB r9)) [] []), 0, 0), []), (5, ((Or.bool false), 0, 0), [])] [6] [] [.old 2, .old 1, .old 0] <| .ret [])) (.frz [1] <| .exb fun r10 => .exb fun r13 => .ob (FnD prog 17 [(vA [(sD (dI (IntKind.i64.wrap (r0 + (IntKind.i64.wrap (w0.tmod (2 : Int))))))), (sD (dI (IntKind.i64.wrap (r1 + (IntKind.i64.wrap (w1.tmod (2 : Int))))))), (sD (dL (matD rrows)))])] (vD (dB r10)) []) <| .ob (FnD prog 18 [(vA [(sD (dI (IntKind.i64.wrap (r0 + (IntKind.i64.wrap (w0.tmod (2 : Int))))))), (sD (dI (IntKind.i64.wrap (r1 + (IntKind.i64.wrap (w1.tmod (2 : Int))))))), (sD (dL (matD rrows)))])] (vD (dB r13)) []) <| .spl ((r10 == r13)) (.drw 0 [(1, ((Or.call (vD (dB r10)) [] []), 0, 0), []), (3, ((Or.call (vD (dB r13)) [] []), 0, 0), []), (5, ((Or.bool true), 0, 0), [])] [6] [] [.old 2, .old 1, .old 0] <| .ret []) (.drw 0 [(1, ((Or.call (vD (dB r10)) [] []), 0, 0), []), (3, ((Or.call (vD (dB r13)) [] []), 0, 0), []), (5, ((Or.bool false), 0, 0), [])] [6] [] [.old 2, .old 1, .old 0] <| .ret []))) (.reg 0 [(3, (Or.bool false), 0, 0)] [7, 8, 68] [2, 3] [.old 5, .old 0] <| .ct false none <| .frz [1] <| .exb fun r14 => .exb fun r15 => .ob (FnD prog 17 [(vA [(sD (dI (IntKind.i64.wrap (r0 + (IntKind.i64.wrap (w0.tmod (2 : Int))))))), (sD (dI (IntKind.i64.wrap (r1 + (IntKind.i64.wrap (w1.tmod (2 : Int))))))), (sD (dL (matD rrows)))])] (vD (dB r14)) []) <| .ob (FnD prog 18 [(vA [(sD (dI (IntKind.i64.wrap (r0 + (IntKind.i64.wrap (w0.tmod (2 : Int))))))), (sD (dI (IntKind.i64.wrap (r1 + (IntKind.i64.wrap (w1.tmod (2 : Int))))))), (sD (dL (matD rrows)))])] (vD (dB r15)) []) <| .spl ((r14 == r15)) (.drw 0 [(1, ((Or.call (vD (dB r14)) [] []), 0, 0), []), (3, ((Or.call (vD (dB r15)) [] []), 0, 0), []), (5, ((Or.bool true), 0, 0), [])] [6] [] [.old 2, .old 1, .old 0] <| .ret []) (.drw 0 [(1, ((Or.call (vD (dB r14)) [] []), 0, 0), []), (3, ((Or.call (vD (dB r15)) [] []), 0, 0), []), (5, ((Or.bool false), 0, 0), [])] [6] [] [.old 2, .old 1, .old 0] <| .ret [])))) (.reg 0 [(5, (Or.bool false), 0, 0)] [4, 5, 7, 8, 9, 52] [0, 1, 2, 3] [.old 0] <| .ct false none <| .spl ((decide (w2 < (-100 : Int)))) (.reg 0 [(3, (Or.bool true), 0, 0)] [7, 8, 68] [2, 3] [.old 3, .old 0] <| .c2 (.hwk ⟨[(7, (vD (dB r))), (8, (vP 0 0)), (68, (vD (dB (decide ((rrows.length : Int) > (0 : Int))))))], [(some (Obj.box [(sD (dI (IntKind.i64.wrap (r0 + (IntKind.i64.wrap (w0.tmod (2 : Int))))))), (sD (dI (IntKind.i64.wrap (r1 + (IntKind.i64.wrap (w1.tmod (2 : Int))))))), (S.ref 1)])), (some (Obj.mat 2 rrows))], 87⟩ ⟨[(7, (vD (dB r))), (8, (vP 0 0)), (68, (vD (dB (decide ((rrows.length : Int) > (0 : Int))))))], [(some (Obj.box [(sD (dI (IntKind.i64.wrap (r0 + (IntKind.i64.wrap (w0.tmod (2 : Int))))))), (sD (dI (IntKind.i64.wrap (r1 + (IntKind.i64.wrap (w1.tmod (2 : Int))))))), (S.refb 1 (List.length rrows))])), (some (Obj.box ((S.ref 2) :: (List.map (fun r => sD (dL r)) (List.tail rrows))))), (some (Obj.arr 2 (List.headD rrows ([] : List (List D)))))], 87⟩ <| .exb fun r03 => .exl fun r16 => .drl 2 [(6, ((Or.call (vA [(sD (dB r03)), (sD (dL r16))]) [] []), 0, 0), []), (7, (Or.none, 3, 1), [3]), (8, (Or.none, 4, 1), [2, 4]), (10, (Or.none, 0, 0), [1])] [7, 8] [0, 1, 4] [.new, .new, .new, .old 2] <| .hwk ⟨[(7, (vD (dB r))), (8, (vP 0 0))], [(some (Obj.box [(sD (dI (IntKind.i64.wrap (r0 + (IntKind.i64.wrap (w0.tmod (2 : Int))))))), (sD (dI (IntKind.i64.wrap (r1 + (IntKind.i64.wrap (w1.tmod (2 : Int))))))), (S.refb 1 (List.length rrows))])), (some (Obj.box ((S.ref 2) :: (List.map (rnS [0, 1, 4]) (List.map (fun r => sD (dL r)) (List.tail rrows)))))), (some (Obj.arr 2 ((List.headD rrows ([] : List (List D))) ++ [[(dB r03), (dL r16)]])))], 87⟩ ⟨[(7, (vD (dB r))), (8, (vP 0 0))], [(some (Obj.box [(sD (dI (IntKind.i64.wrap (r0 + (IntKind.i64.wrap (w0.tmod (2 : Int))))))), (sD (dI (IntKind.i64.wrap (r1 + (IntKind.i64.wrap (w1.tmod (2 : Int))))))), (sD (dL (matD (((List.headD rrows ([] : List (List D))) ++ [[(dB r03), (dL r16)]]) :: List.tail rrows))))])), none, none], 87⟩ <| .viw [7, 8] [0] <| .exb fun r17 => .exb fun r18 => .ob (FnD prog 17 [(vA [(sD (dI (IntKind.i64.wrap (r0 + (IntKind.i64.wrap (w0.tmod (2 : Int))))))), (sD (dI (IntKind.i64.wrap (r1 + (IntKind.i64.wrap (w1.tmod (2 : Int))))))), (sD (dL (matD (((List.headD rrows ([] : List (List D))) ++ [[(dB r03), (dL r16)]]) :: List.tail rrows))))])] (vD (dB r17)) []) <| .ob (FnD prog 18 [(vA [(sD (dI (IntKind.i64.wrap (r0 + (IntKind.i64.wrap (w0.tmod (2 : Int))))))), (sD (dI (IntKind.i64.wrap (r1 + (IntKind.i64.wrap (w1.tmod (2 : Int))))))), (sD (dL (matD (((List.headD rrows ([] : List (List D))) ++ [[(dB r03), (dL r16)]]) :: List.tail rrows))))])] (vD (dB r18)) []) <| .spl ((r17 == r18)) (.drw 0 [(1, ((Or.call (vD (dB r17)) [] []), 0, 0), []), (3, ((Or.call (vD (dB r18)) [] []), 0, 0), []), (5, ((Or.bool true), 0, 0), [])] [6] [] [.old 2, .old 1, .old 0] <| .ret []) (.drw 0 [(1, ((Or.call (vD (dB r17)) [] []), 0, 0), []), (3, ((Or.call (vD (dB r18)) [] []), 0, 0), []), (5, ((Or.bool false), 0, 0), [])] [6] [] [.old 2, .old 1, .old 0] <| .ret [])) (.frz [1] <| .exb fun r19 => .exb fun r20 => .ob (FnD prog 17 [(vA [(sD (dI (IntKind.i64.wrap (r0 + (IntKind.i64.wrap (w0.tmod (2 : Int))))))), (sD (dI (IntKind.i64.wrap (r1 + (IntKind.i64.wrap (w1.tmod (2 : Int))))))), (sD (dL (matD rrows)))])] (vD (dB r19)) []) <| .ob (FnD prog 18 [(vA [(sD (dI (IntKind.i64.wrap (r0 + (IntKind.i64.wrap (w0.tmod (2 : Int))))))), (sD (dI (IntKind.i64.wrap (r1 + (IntKind.i64.wrap (w1.tmod (2 : Int))))))), (sD (dL (matD rrows)))])] (vD (dB r20)) []) <| .spl ((r19 == r20)) (.drw 0 [(1, ((Or.call (vD (dB r19)) [] []), 0, 0), []), (3, ((Or.call (vD (dB r20)) [] []), 0, 0), []), (5, ((Or.bool true), 0, 0), [])] [6] [] [.old 2, .old 1, .old 0] <| .ret []) (.drw 0 [(1, ((Or.call (vD (dB r19)) [] []), 0, 0), []), (3, ((Or.call (vD (dB r20)) [] []), 0, 0), []), (5, ((Or.bool false), 0, 0), [])] [6] [] [.old 2, .old 1, .old 0] <| .ret []))) (.reg 0 [(3, (Or.bool false), 0, 0)] [7, 8, 68] [2, 3] [.old 3, .old 0] <| .ct false none <| .frz [1] <| .exb fun r21 => .exb fun r22 => .ob (FnD prog 17 [(vA [(sD (dI (IntKind.i64.wrap (r0 + (IntKind.i64.wrap (w0.tmod (2 : Int))))))), (sD (dI (IntKind.i64.wrap (r1 + (IntKind.i64.wrap (w1.tmod (2 : Int))))))), (sD (dL (matD rrows)))])] (vD (dB r21)) []) <| .ob (FnD prog 18 [(vA [(sD (dI (IntKind.i64.wrap (r0 + (IntKind.i64.wrap (w0.tmod (2 : Int))))))), (sD (dI (IntKind.i64.wrap (r1 + (IntKind.i64.wrap (w1.tmod (2 : Int))))))), (sD (dL (matD rrows)))])] (vD (dB r22)) []) <| .spl ((r21 == r22)) (.drw 0 [(1, ((Or.call (vD (dB r21)) [] []), 0, 0), []), (3, ((Or.call (vD (dB r22)) [] []), 0, 0), []), (5, ((Or.bool true), 0, 0), [])] [6] [] [.old 2, .old 1, .old 0] <| .ret []) (.drw 0 [(1, ((Or.call (vD (dB r21)) [] []), 0, 0), []), (3, ((Or.call (vD (dB r22)) [] []), 0, 0), []), (5, ((Or.bool false), 0, 0), [])] [6] [] [.old 2, .old 1, .old 0] <| .ret [])))))
    (by kernel_rfl) (by kernel_rfl) (by kernel_rfl) h

end Go.AM

/- Valid agrees with the reference, for matrices whose parts were changed. -/
namespace Go.AM
open Go.Proofs.Try

def encR (z : Int) : RE := (decide (z < 0), digs z.natAbs)

theorem om_raw (m : List (List Int)) : om m = (m.map (·.map encR)).map rowR := by
  simp only [om, List.map_map]
  apply List.map_congr_left
  intro r _
  simp only [Function.comp, rowR, row, List.map_map]
  apply List.map_congr_left
  intro z _
  rfl

theorem matD_raw (R : List (List RE)) : matD (R.map rowR) = rowsR R := by simp [matD, rowsR]

theorem mod_raw (R : List (List RE)) (i : Nat) (n : Bool) (l : List Nat) : (R.map rowR).modify i (fun r => r.set 0 [dB n, dL (lim l)]) = (R.modify i (fun r => r.set 0 (n, l))).map rowR := by
  apply List.ext_getElem?
  intro k
  rw [List.getElem?_modify, List.getElem?_map, List.getElem?_map, List.getElem?_modify]
  by_cases h : i = k
  · simp only [h, if_true]
    cases R[k]? with
    | none => rfl
    | some r =>
      simp only [Option.map_eq_map, Option.map_some, Option.some.injEq, rowR]
      rw [List.map_set]; rfl
  · simp only [if_neg h]
    cases R[k]? <;> rfl

theorem grow_raw {R : List (List RE)} (h : R ≠ []) (n : Bool) (l : List Nat) : (List.headD (R.map rowR) ([] : List (List D)) ++ [[dB n, dL (lim l)]]) :: List.tail (R.map rowR) = ((R.headD [] ++ [(n, l)]) :: R.tail).map rowR := by
  cases R with
  | nil => exact absurd rfl h
  | cons r0 rs => simp [rowR, cR]

/-- Sizes. -/
def szM (R : List (List RE)) : Prop := R.length ≤ 4 ∧ ∀ x ∈ R, x.length ≤ 5 ∧ ∀ e ∈ x, szE e

theorem szM_mod {R : List (List RE)} (h : szM R) {i : Nat} {e : RE} (he : szE e) : szM (R.modify i (fun r => r.set 0 e)) := by
  refine ⟨by rw [List.length_modify]; exact h.1, fun x hx => ?_⟩
  obtain ⟨k, hk⟩ := List.mem_iff_getElem?.1 hx
  rw [List.getElem?_modify] at hk
  by_cases hik : i = k
  · simp only [hik, if_true, Option.map_eq_map, Option.map_eq_some_iff] at hk
    obtain ⟨r, hr, rfl⟩ := hk
    have := h.2 r (List.mem_of_getElem? hr)
    refine ⟨by rw [List.length_set]; exact this.1, fun y hy => ?_⟩
    rcases List.mem_or_eq_of_mem_set hy with h1 | rfl
    · exact this.2 y h1
    · exact he
  · simp only [if_neg hik] at hk
    exact h.2 x (List.mem_of_getElem? (by cases hr : R[k]? with
      | none => rw [hr] at hk; simp at hk
      | some y => rw [hr] at hk; simpa using hk))

theorem u32s_of {l : List (List D)} (h : ∀ x ∈ l, DOKL [.i .u32] x) : ∃ a : List Nat, l = lim a := by
  obtain ⟨zs, rfl, h2⟩ := ints_of h
  refine ⟨zs.map Int.toNat, ?_⟩
  unfold lim
  rw [List.map_map]
  apply List.map_congr_left
  intro z hz
  have : 0 ≤ z := (h2 z hz).1
  simp [Int.toNat_of_nonneg this]

theorem both17 {r c : Int} {R : List (List RE)} (h : ∀ x ∈ R, x.length ≤ 4294967296 ∧ ∀ e ∈ x, szE e) (hl : R.length ≤ 4294967296) {m : List (List D)} (hm : m = rowsR R) :
    FnD prog 17 [vA [sD (dI r), sD (dI c), sD (dL m)]] (vD (dB (okM r c R))) [] ∧ FnD prog 18 [vA [sD (dI r), sD (dI c), sD (dL m)]] (vD (dB (okM r c R))) [] := by
  subst hm
  exact ⟨mvalidR h hl, rvalidMR h hl⟩

theorem valids_ok (x0 : Int) (g0 : IntKind.u8.min ≤ x0 ∧ x0 ≤ IntKind.u8.max) (x1 : Int) (g1 : IntKind.u8.min ≤ x1 ∧ x1 ≤ IntKind.u8.max) (l2 : List (List D)) (g2 : l2.length ≤ 9223372036854775807 ∧ ∀ x ∈ l2, DOKL [.i .i8] x)
    (x3 : Int) (_ : IntKind.i8.min ≤ x3 ∧ x3 ≤ IntKind.i8.max) (x4 : Int) (_ : IntKind.i8.min ≤ x4 ∧ x4 ≤ IntKind.i8.max) (x5 : Int) (_ : IntKind.i8.min ≤ x5 ∧ x5 ≤ IntKind.i8.max)
    (x6 : Bool) (l7 : List (List D)) (g7 : l7.length ≤ 9223372036854775807 ∧ ∀ x ∈ l7, DOKL [.i .u32] x) :
    FnD prog 3 [.e (.agg [.dat (.int .u8 x0), .dat (.int .u8 x1), .dat (.sl l2)]), .e (.agg [.dat (.int .i8 x3), .dat (.int .i8 x4), .dat (.int .i8 x5)]), .e (.agg [.dat (.bool x6), .dat (.sl l7)])] (vb true) [] := by
  obtain ⟨v, rfl, _⟩ := i8s_of g2
  obtain ⟨l, rfl⟩ := u32s_of g7.2
  clear g2 g7
  obtain ⟨r, c, hr, hc, hA⟩ := rawmade_ok v g0.1 g1.1
  obtain ⟨a, ea⟩ : ∃ a, a = table r c (fillG c v) := ⟨_, rfl⟩
  have ma : Mx r c a := ea ▸ table_mx _ _ _
  have ka : BdM 9 a := ea ▸ filled_bd
  rw [← ea] at hA
  clear ea
  have sa : SzM a := ka.sz (by decide)
  unfold oM at hA
  rw [om_raw] at hA
  obtain ⟨R, hR⟩ : ∃ R, R = a.map (·.map encR) := ⟨_, rfl⟩
  rw [← hR] at hA
  have sR : szM R := by
    subst hR
    refine ⟨by rw [List.length_map, ma.1]; exact hr, fun x hx => ?_⟩
    obtain ⟨y, hy, rfl⟩ := List.mem_map.1 hx
    refine ⟨by rw [List.length_map, ma.2 y hy]; omega, fun e he => ?_⟩
    obtain ⟨z, hz, rfl⟩ := List.mem_map.1 he
    exact sa y hy z hz
  clear hR ma ka sa
  refine vc3_ok _ _ _ _ _ _ _ _ (R := Out _) ?_
  unfold vc3
  refine ⟨true, sanity_ok, _, _, _, hA, fun _ => outb rfl, fun h4 => ⟨by decide, by decide, by decide, by decide, by decide, ?_⟩⟩
  have hl4 : l.length ≤ 4 := by
    rw [lim_length] at h4
    have : ¬ (l.length : Int) > 4 := by simpa using h4
    omega
  have hi : 0 ≤ IntKind.i64.wrap ((IntKind.u8.wrap x5).tmod (8 : Int)) := by
    have h1 : 0 ≤ IntKind.u8.wrap x5 := by show 0 ≤ x5 % 256; omega
    have h2 : 0 ≤ (IntKind.u8.wrap x5).tmod 8 := Int.tmod_nonneg _ h1
    have h3 : (IntKind.u8.wrap x5).tmod 8 < 8 := Int.tmod_lt_of_pos _ (by decide)
    rw [w64 (by omega) (by omega)]; exact h2
  generalize IntKind.i64.wrap ((IntKind.u8.wrap x5).tmod (8 : Int)) = ii at hi
  rw [mod_raw]
  obtain ⟨R2, hR2⟩ : ∃ R2, R2 = R.modify ii.toNat (fun r => r.set 0 (x6, l)) := ⟨_, rfl⟩
  have sR2 : szM R2 := hR2 ▸ szM_mod sR (by unfold szE; simp only; omega)
  rw [← hR2]
  have ne : ∀ {Q : List (List RE)}, decide ((((Q.map rowR).length : Nat) : Int) > 0) = true → Q ≠ [] ∧ Q.map rowR ≠ [] := fun {Q} h => by
    cases Q with
    | nil => simp at h
    | cons => simp
  have up : ∀ {Q : List (List RE)}, szM Q → (∀ x ∈ Q, x.length ≤ 4294967296 ∧ ∀ e ∈ x, szE e) ∧ Q.length ≤ 4294967296 := fun h => ⟨fun x hx => ⟨by have := (h.2 x hx).1; omega, (h.2 x hx).2⟩, by have := h.1; omega⟩
  have one : FnD prog 16 [vi 1] (eI 1) [] := rof_ok 1 (by decide) (by decide)
  have upG : ∀ {Q : List (List RE)}, Q ≠ [] → szM Q → (∀ x ∈ ((Q.headD [] ++ [encR 1]) :: Q.tail), x.length ≤ 4294967296 ∧ ∀ e ∈ x, szE e) ∧ ((Q.headD [] ++ [encR 1]) :: Q.tail).length ≤ 4294967296 := fun {Q} hq h => by
    cases Q with
    | nil => exact absurd rfl hq
    | cons r0 rs =>
      have u := up h
      refine ⟨fun x hx => ?_, by simpa using u.2⟩
      simp only [List.headD_cons, List.tail_cons, List.mem_cons] at hx
      rcases hx with rfl | hx
      · have h0 := h.2 r0 (by simp)
        refine ⟨by simp only [List.length_append, List.length_singleton]; omega, fun e he => ?_⟩
        rcases List.mem_append.1 he with h1 | h1
        · exact h0.2 e h1
        · simp only [List.mem_singleton] at h1; subst h1; exact (by decide : (digs (1 : Int).natAbs).length ≤ 1073741824)
      · exact u.1 x (by simp [hx])
  have hd : ∀ {Q : List (List RE)}, szM Q → ((List.headD (Q.map rowR) ([] : List (List D))).length + ([[dB (decide ((1 : Int) < 0)), dL (lim (digs (1 : Int).natAbs))]] : List (List D)).length) * 32 ≤ 140737488355328 := fun {Q} h => by
    cases Q with
    | nil => simp
    | cons r0 rs =>
      have := (h.2 r0 (by simp)).1
      simp only [List.map_cons, List.headD_cons, rowR_length, List.length_singleton]; omega
  have nb : ∀ {b : Bool} {X : Prop}, (b == b) = false → X := fun h => by simp at h
  have big : ∀ {Q : List (List RE)}, szM Q → ∀ {r c : Int},
      (FnD prog 17 [vA [sD (dI r), sD (dI c), sD (dL (matD (Q.map rowR)))]] (vD (dB (okM r c Q))) [] ∧ FnD prog 18 [vA [sD (dI r), sD (dI c), sD (dL (matD (Q.map rowR)))]] (vD (dB (okM r c Q))) []) :=
    fun {Q} h {_ _} => both17 (up h).1 (up h).2 (matD_raw Q)
  have bigG : ∀ {Q : List (List RE)}, szM Q → Q ≠ [] → ∀ {r c : Int},
      (FnD prog 17 [vA [sD (dI r), sD (dI c), sD (dL (matD ((List.headD (Q.map rowR) ([] : List (List D)) ++ [[dB (decide ((1 : Int) < 0)), dL (lim (digs (1 : Int).natAbs))]]) :: List.tail (Q.map rowR))))]] (vD (dB (okM r c ((Q.headD [] ++ [encR 1]) :: Q.tail)))) [] ∧
       FnD prog 18 [vA [sD (dI r), sD (dI c), sD (dL (matD ((List.headD (Q.map rowR) ([] : List (List D)) ++ [[dB (decide ((1 : Int) < 0)), dL (lim (digs (1 : Int).natAbs))]]) :: List.tail (Q.map rowR))))]] (vD (dB (okM r c ((Q.headD [] ++ [encR 1]) :: Q.tail)))) []) :=
    fun {Q} h hq {_ _} => both17 (upG hq h).1 (upG hq h).2 (by rw [grow_raw hq]; exact matD_raw _)
  have W1 : ∀ {Q : List (List RE)} {a b : D} {x : Bool}, Q.map rowR ≠ [] → Wk 0 ⟨[(7, (vD (dB true))), (8, (vP 0 0)), (68, (vD (dB x)))], [(some (Obj.box [(sD a), (sD b), (S.ref 1)])), (some (Obj.mat 2 (Q.map rowR)))], 87⟩
      ⟨[(7, (vD (dB true))), (8, (vP 0 0)), (68, (vD (dB x)))], [(some (Obj.box [(sD a), (sD b), (S.refb 1 (List.length (Q.map rowR)))])), (some (Obj.box ((S.ref 2) :: (List.map (fun r => sD (dL r)) (List.tail (Q.map rowR)))))), (some (Obj.arr 2 (List.headD (Q.map rowR) ([] : List (List D)))))], 87⟩ := fun {_ _ _ _} h =>
    wk_open h fun i v hv => by
      simp only [List.mem_cons, Prod.mk.injEq, List.not_mem_nil, or_false] at hv
      rcases hv with ⟨_, rfl⟩ | ⟨_, rfl⟩ | ⟨_, rfl⟩
      · exact .inr ⟨_, rfl⟩
      · exact .inl rfl
      · exact .inr ⟨_, rfl⟩
  have W2 : ∀ {Q : List (List RE)} {a b : D} {el : List (List D)}, Q.map rowR ≠ [] → Wk 0 ⟨[(7, (vD (dB true))), (8, (vP 0 0))], [(some (Obj.box [(sD a), (sD b), (S.refb 1 (List.length (Q.map rowR)))])), (some (Obj.box ((S.ref 2) :: (List.map (rnS [0, 1, 4]) (List.map (fun r => sD (dL r)) (List.tail (Q.map rowR))))))), (some (Obj.arr 2 el))], 87⟩
      ⟨[(7, (vD (dB true))), (8, (vP 0 0))], [(some (Obj.box [(sD a), (sD b), (sD (dL (matD (el :: List.tail (Q.map rowR)))))])), none, none], 87⟩ := fun {_ _ _ _} h =>
    wk_close h fun i v hv => by
      simp only [List.mem_cons, Prod.mk.injEq, List.not_mem_nil, or_false] at hv
      rcases hv with ⟨_, rfl⟩ | ⟨_, rfl⟩
      · exact .inr ⟨_, rfl⟩
      · exact .inl rfl
  have pos : ∀ {Q : List (List RE)}, Q ≠ [] → 0 ≤ (0 : Int) ∧ (0 : Int) < (((List.length (Q.map rowR) : Nat)) : Int) := fun {Q} h => by
    cases Q with
    | nil => exact absurd rfl h
    | cons => simp
  have gt : ∀ {Q : List (List RE)} {i : Int}, 0 ≤ i → decide (i < (((Q.map rowR).length : Nat) : Int)) = true → decide (((((Q.map rowR).getD i.toNat ([] : List (List D))).length : Nat) : Int) > 0) = true →
      ∃ l, (Q.map rowR)[i.toNat]? = some l ∧ 0 ≤ (0 : Int) ∧ (0 : Int) < ((l.length : Nat) : Int) := fun {Q i} h0 h1 h2 => by
    have h3 : i.toNat < (Q.map rowR).length := by have : i < (((Q.map rowR).length : Nat) : Int) := by simpa using h1
                                                  omega
    rw [List.getD_eq_getElem?_getD, List.getElem?_eq_getElem h3, Option.getD_some] at h2
    exact ⟨_, List.getElem?_eq_getElem h3, Int.le_refl _, by simpa using h2⟩
  refine ⟨fun h1 => ⟨⟨hi, by simpa using h1⟩, fun h2 => ⟨gt hi h1 h2, fun _ => ⟨fun h3 => ⟨W1 (ne h3).2, _, _, pos (ne h3).1, one, hd sR2, W2 (ne h3).2, _, _, (bigG sR2 (ne h3).1).1, (bigG sR2 (ne h3).1).2, fun _ => outb rfl, nb⟩, fun _ => ⟨_, _, (big sR2).1, (big sR2).2, fun _ => outb rfl, nb⟩⟩, fun _ => ⟨_, _, (big sR2).1, (big sR2).2, fun _ => outb rfl, nb⟩⟩,
    fun _ => ⟨fun _ => ⟨fun h3 => ⟨W1 (ne h3).2, _, _, pos (ne h3).1, one, hd sR, W2 (ne h3).2, _, _, (bigG sR (ne h3).1).1, (bigG sR (ne h3).1).2, fun _ => outb rfl, nb⟩, fun _ => ⟨_, _, (big sR).1, (big sR).2, fun _ => outb rfl, nb⟩⟩, fun _ => ⟨_, _, (big sR).1, (big sR).2, fun _ => outb rfl, nb⟩⟩⟩,
    fun _ => ⟨fun _ => ⟨fun h3 => ⟨W1 (ne h3).2, _, _, pos (ne h3).1, one, hd sR, W2 (ne h3).2, _, _, (bigG sR (ne h3).1).1, (bigG sR (ne h3).1).2, fun _ => outb rfl, nb⟩, fun _ => ⟨_, _, (big sR).1, (big sR).2, fun _ => outb rfl, nb⟩⟩, fun _ => ⟨_, _, (big sR).1, (big sR).2, fun _ => outb rfl, nb⟩⟩⟩

end Go.AM
