/- What the functions of package matrix' reference, and of its law, answer: matrices out of bytes. -/
import Derived.Test.YtbodjgljjaafaaaLawN
import Derived.Test.YtbodjgljjaafaaaVcL5
namespace Go.AM
open Go.Proofs.Try

def i8s (r : List Int) : List (List D) := r.map fun n => [D.int .i8 n]
theorem i8s_length (r : List Int) : (i8s r).length = r.length := by simp [i8s]
theorem i8s_getN {r : List Int} {i : Nat} (h : i < r.length) : (i8s r)[(i : Int).toNat]? = some [D.int .i8 (elr r i)] := by
  rw [Int.toNat_natCast]; simp [i8s, elr, h]

def fillG (c : Nat) (v : List Int) (i j : Nat) : Int := (elr v (i * c + j)).tmod 10

theorem tmod10 (n : Int) : (n.tmod 10).natAbs ≤ 9 := by
  rw [Int.natAbs_tmod]
  have : (10 : Int).natAbs = 10 := rfl
  rw [this]; omega

theorem clamp16 {n : Nat} (h : n ≤ 16) : (if (16 : Int) < (if (0 : Int) > (n : Int) then (0 : Int) else (n : Int)) then (16 : Int) else (if (0 : Int) > (n : Int) then (0 : Int) else (n : Int))) = (n : Int) := by
  rw [if_neg (show ¬ (0 : Int) > (n : Int) by omega), if_neg (by omega)]

theorem filled_ok {r c : Nat} {v : List Int} (hr : r ≤ 16) (hc : c ≤ 16) : FnD prog 24 [vi r, vi c, vs (i8s v)] (eMo r c) (oM (table r c (fillG c v))) := by
  refine vc24_ok _ _ _ (R := OutM r c _) ?_
  unfold vc24
  simp only [i8s_length]
  rw [clamp16 hr, clamp16 hc]
  refine ⟨_, _, _, rnew_ok (by omega) (by omega), fun o t => ∃ i : Nat, t = (i : Int) ∧ i ≤ r ∧ o = om (table r c (gF (fillG c v) i 0)), fun _ t => ((r : Int) - t).toNat, ⟨0, rfl, by omega, gF_zero _⟩, ?_⟩
  rintro _ _ ⟨i, rfl, hi, rfl⟩
  refine ⟨fun h => ?_, fun h => outM ?_⟩
  · have hir : i < r := by simpa using h
    refine ⟨fun o t => ∃ j : Nat, t = (j : Int) ∧ j ≤ c ∧ o = om (table r c (gF (fillG c v) i j)), fun _ t => ((c : Int) - t).toNat, ⟨0, rfl, by omega, rfl⟩, ?_⟩
    rintro _ _ ⟨j, rfl, hj, rfl⟩
    have hprod : i * c ≤ 16 * 16 := Nat.mul_le_mul (by omega) hc
    have hw1 : IntKind.i64.wrap ((i : Int) * (c : Int)) = ((i * c : Nat) : Int) := by
      rw [← Int.natCast_mul]; exact w64 (by omega) (by omega)
    have hw2 : IntKind.i64.wrap (((i * c : Nat) : Int) + (j : Int)) = ((i * c + j : Nat) : Int) := by
      rw [← Int.natCast_add]; exact w64 (by omega) (by omega)
    have next : (∀ b, j ≤ b → b < c → fillG c v i b = 0) →
        (∃ i' : Nat, IntKind.i64.wrap ((i : Int) + 1) = (i' : Int) ∧ i' ≤ r ∧ om (table r c (gF (fillG c v) i j)) = om (table r c (gF (fillG c v) i' 0))) ∧ ((r : Int) - IntKind.i64.wrap ((i : Int) + 1)).toNat < ((r : Int) - (i : Int)).toNat := fun h0 => by
      rw [inc64 (by omega)]
      exact ⟨⟨i + 1, rfl, by omega, gF_next h0⟩, by omega⟩
    rw [hw1, hw2]
    refine ⟨fun h2 => ⟨fun h3 => ?_, fun h3 => next fun b hb _ => ?_⟩, fun h2 => next fun b hb hbc => ?_⟩
    · have hjc : j < c := by simpa using h2
      have hlt : i * c + j < v.length := by
        have h3 := of_decide_eq_true h3
        omega
      have hm := tmod10 (elr v (i * c + j))
      have hw3 : IntKind.i64.wrap ((elr v (i * c + j)).tmod 10) = (elr v (i * c + j)).tmod 10 := w64 (by omega) (by omega)
      refine ⟨elr v (i * c + j), decide (fillG c v i j < 0), lim (dz (fillG c v i j)), ⟨by omega, by simp [om_length, table]; omega⟩, ⟨by omega, by omega⟩, i8s_getN hlt, by decide, ?_, om_in hir hjc, ?_⟩
      · rw [hw3]; exact rof_ok _ (by omega) (by omega)
      rw [inc64 (by omega)]
      refine ⟨⟨j + 1, rfl, by omega, ?_⟩, by show ((c : Int) - ((j + 1 : Nat) : Int)).toNat < ((c : Int) - (j : Int)).toNat; omega⟩
      rw [Int.toNat_natCast, Int.toNat_natCast]
      exact gF_step hir hjc
    · have hlt : v.length ≤ i * c + j := by
        have h3 := of_decide_eq_false h3
        omega
      unfold fillG
      rw [elr_out (by omega)]; rfl
    · have hjc : c ≤ j := by simpa using h2
      omega
  · have hir : i = r := by have : r ≤ i := by simpa using h
                           omega
    subst hir
    exact gF_all

theorem filled_bd {r c : Nat} {v : List Int} : BdM 9 (table r c (fillG c v)) := table_bd fun i j _ _ => tmod10 _

/-- A byte, modulo 5. -/
theorem mod5 {x : Int} (h0 : 0 ≤ x) : ∃ n : Nat, IntKind.i64.wrap (x.tmod 5) = (n : Int) ∧ n ≤ 4 := by
  refine ⟨(x % 5).toNat, ?_, by omega⟩
  rw [Int.tmod_eq_emod_of_nonneg h0, w64 (by omega) (by omega)]; omega

def d3 (x0 x1 x2 x3 : Int) (a b c : List Int) : V := .e (.agg [.dat (.int .u8 x0), .dat (.int .u8 x1), .dat (.int .u8 x2), .dat (.int .u8 x3), .dat (.sl (i8s a)), .dat (.sl (i8s b)), .dat (.sl (i8s c))])
def eM3 (r0 c0 : Int) (m0 : List (List Int)) (r1 c1 : Int) (m1 : List (List Int)) (r2 c2 : Int) (m2 : List (List Int)) : V :=
  .tup [.agg [.dat (.int .i64 r0), .dat (.int .i64 c0), .dat (.sl (rows m0))], .agg [.dat (.int .i64 r1), .dat (.int .i64 c1), .dat (.sl (rows m1))], .agg [.dat (.int .i64 r2), .dat (.int .i64 c2), .dat (.sl (rows m2))]]

/-- Three matrices that can be multiplied in this order. -/
theorem chain_ok {x0 x1 x2 x3 : Int} (a b c : List Int) (h0 : 0 ≤ x0) (h1 : 0 ≤ x1) (h2 : 0 ≤ x2) (h3 : 0 ≤ x3) :
    ∃ (n0 n1 n2 n3 : Nat), n0 ≤ 4 ∧ n1 ≤ 4 ∧ n2 ≤ 4 ∧ n3 ≤ 4 ∧
      FnD prog 19 [d3 x0 x1 x2 x3 a b c] (eM3 n0 n1 (table n0 n1 (fillG n1 a)) n1 n2 (table n1 n2 (fillG n2 b)) n2 n3 (table n2 n3 (fillG n3 c))) [] := by
  obtain ⟨n0, e0, b0⟩ := mod5 h0
  obtain ⟨n1, e1, b1⟩ := mod5 h1
  obtain ⟨n2, e2, b2⟩ := mod5 h2
  obtain ⟨n3, e3, b3⟩ := mod5 h3
  refine ⟨n0, n1, n2, n3, b0, b1, b2, b3, ?_⟩
  refine vc19_ok _ _ _ _ _ _ _ (R := Out _) ?_
  unfold vc19
  rw [e0, e1, e2, e3]
  refine ⟨by decide, by decide, by decide, by decide, by decide, _, _, _, _, _, _, _, _, _, filled_ok (by omega) (by omega), filled_ok (by omega) (by omega), filled_ok (by omega) (by omega), ?_⟩
  simp only [matD_om]
  exact ⟨rfl, rfl⟩

end Go.AM
