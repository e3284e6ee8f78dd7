/- The law of transposes, but for the fixed examples. -/
import Derived.Test.YtbodjgljjaafaaaLawO
namespace Go.AM
open Go.Proofs.Try

theorem dsum_comm (f g : Nat → Int) : ∀ n, dsum f g n = dsum g f n
  | 0 => rfl
  | n + 1 => by simp only [dsum]; rw [dsum_comm f g n, Int.mul_comm]

def trM (r c : Nat) (m : List (List Int)) : List (List Int) := table c r fun i j => el m j i

theorem trM_mx (r c : Nat) (m : List (List Int)) : Mx c r (trM r c m) := table_mx _ _ _

theorem trM_bd {r c K : Nat} {m : List (List Int)} (hm : Mx r c m) (h : BdM K m) : BdM K (trM r c m) := table_bd fun i j hi hj => el_bd hm h hj hi

theorem el_trM {r c : Nat} {m : List (List Int)} {i j : Nat} (hi : i < c) (hj : j < r) : el (trM r c m) i j = el m j i := el_table hi hj

theorem trM_trM {r c : Nat} {m : List (List Int)} (hm : Mx r c m) : trM c r (trM r c m) = m := by
  refine Eq.trans (table_congr fun i j hi hj => ?_) (mx_table hm).symm
  rw [el_trM hj hi]

theorem trM_mmul {r n c : Nat} (a b : List (List Int)) : trM r c (mmul r n c a b) = mmul c n r (trM n c b) (trM r n a) := by
  unfold trM mmul
  refine table_congr fun i j hi hj => ?_
  rw [el_table hj hi, dsum_comm]
  refine dsum_congr n (fun k hk => ?_) fun k hk => ?_
  · rw [el_table hi hk]
  · rw [el_table hk hj]

theorem mmul_mx (r n c : Nat) (a b : List (List Int)) : Mx r c (mmul r n c a b) := table_mx _ _ _

theorem mmul_bd {r n c K L : Nat} {a b : List (List Int)} (ha : Mx r n a) (hb : Mx n c b) (ka : BdM K a) (kb : BdM L b) : BdM (n * (K * L)) (mmul r n c a b) :=
  table_bd fun _ _ hi hj => dsum_le n (fun _ hk => el_bd ha ka hi hk) fun _ hk => el_bd hb kb hk hj

theorem BdM.mono {K L : Nat} {m : List (List Int)} (h : BdM K m) (hl : K ≤ L) : BdM L m := fun r hr z hz => Nat.le_trans (h r hr z hz) hl

theorem Mx.cols {r c : Nat} {m : List (List Int)} (h : Mx r c m) (hc : c ≤ 4294967296) : ∀ x ∈ m, x.length ≤ 4294967296 := fun x hx => by rw [h.2 x hx]; exact hc

/-- 'Same' says yes at equal matrices. -/
theorem same_yes {r c K : Nat} {a b : List (List Int)} (ha : Mx r c a) (ka : BdM K a) (kb : BdM K b) (h : a = b) (hr : r ≤ 4294967296) (hc : c ≤ 4294967296) (hK : K ≤ 1329227995784915872903807060280344576) : FnD prog 23 [eM r c a, eM r c b] (vb true) [] := by
  have := same_ok (r := (r : Int)) (c := (c : Int)) (r' := (r : Int)) (c' := (c : Int)) (ka.sz (Nat.le_trans hK (by decide))) (kb.sz (Nat.le_trans hK (by decide))) (by rw [ha.1]; exact hr) (ha.cols hc)
  rw [show decide ((r : Int) = r ∧ (c : Int) = c ∧ a = b) = true by simp [h]] at this
  exact this

theorem sized_yes {r c K : Nat} {a : List (List Int)} (ha : Mx r c a) (ka : BdM K a) (hr : r ≤ 4294967296) (hc : c ≤ 4294967296) (hK : K ≤ 1329227995784915872903807060280344576) : FnD prog 22 [eM r c a, vi r, vi c] (vb true) [] := by
  have := sized_ok ha (ka.sz (Nat.le_trans hK (by decide))) hr hc r c
  rw [show decide ((r : Int) = r ∧ (c : Int) = c) = true by simp] at this
  exact this

theorem transposes_ok (hsan : FnD prog 14 [] (vb true) []) {x0 x1 x2 x3 : Int} (a b c : List Int) (h0 : 0 ≤ x0) (h1 : 0 ≤ x1) (h2 : 0 ≤ x2) (h3 : 0 ≤ x3) : FnD prog 4 [d3 x0 x1 x2 x3 a b c] (vb true) [] := by
  obtain ⟨n0, n1, n2, n3, b0, b1, b2, b3, hchain⟩ := chain_ok a b c h0 h1 h2 h3
  obtain ⟨A, hA⟩ : ∃ A, A = table n0 n1 (fillG n1 a) := ⟨_, rfl⟩
  obtain ⟨B, hB⟩ : ∃ B, B = table n1 n2 (fillG n2 b) := ⟨_, rfl⟩
  have mA : Mx n0 n1 A := hA ▸ table_mx _ _ _
  have mB : Mx n1 n2 B := hB ▸ table_mx _ _ _
  have kA : BdM 9 A := hA ▸ filled_bd
  have kB : BdM 9 B := hB ▸ filled_bd
  rw [← hA, ← hB] at hchain
  have mAB := mmul_mx n0 n1 n2 A B
  have kAB : BdM 10000 (mmul n0 n1 n2 A B) := (mmul_bd mA mB kA kB).mono (by omega)
  have mS := trM_mx n0 n1 A
  have mT := trM_mx n1 n2 B
  have kS := trM_bd mA kA
  have kT := trM_bd mB kB
  have mTS := mmul_mx n2 n1 n0 (trM n1 n2 B) (trM n0 n1 A)
  have kTS : BdM 10000 (mmul n2 n1 n0 (trM n1 n2 B) (trM n0 n1 A)) := (mmul_bd mT mS kT kS).mono (by omega)
  have big : ∀ K : Nat, K ≤ 10000 → K ≤ 1329227995784915872903807060280344576 := fun K h => by omega
  refine vc4_ok _ _ _ _ _ _ _ (R := Out _) ?_
  unfold vc4
  refine ⟨true, hsan, _, _, _, _, _, _, _, _, _, hchain, _, _, _, _, mmul_ok mA mB kA kB (by omega) (by omega) (by omega) (by omega), _, _, _, _, _, _, transpose_ok mA (by omega) (by omega), transpose_ok mB (by omega) (by omega), fun h => absurd h (by decide), fun _ => ?_⟩
  refine ⟨true, sized_yes mAB kAB (by omega) (by omega) (big _ (by omega)), fun h => absurd h (by decide), fun _ => ?_⟩
  refine ⟨true, sized_yes mS kS (by omega) (by omega) (big _ (by omega)), fun h => absurd h (by decide), fun _ => ?_⟩
  refine ⟨true, sized_yes mT kT (by omega) (by omega) (big _ (by omega)), fun h => absurd h (by decide), fun _ => ?_⟩
  refine ⟨_, _, _, _, mmul_ok mT mS kT kS (by omega) (by omega) (by omega) (by omega), fun _ => ?_, fun h => absurd h (by decide)⟩
  refine ⟨_, _, _, true, transpose_ok mAB (by omega) (by omega), same_yes (trM_mx n0 n2 _) (trM_bd mAB kAB) kTS (trM_mmul A B) (by omega) (by omega) (big _ (by omega)), fun _ => ?_, fun h => nomatch h⟩
  exact ⟨_, _, _, true, transpose_ok mS (by omega) (by omega), same_yes (trM_mx n1 n0 _) (trM_bd mS kS) kA (trM_trM mA) (by omega) (by omega) (big _ (by omega)), fun _ => ⟨rfl, rfl⟩, fun h => nomatch h⟩

end Go.AM
