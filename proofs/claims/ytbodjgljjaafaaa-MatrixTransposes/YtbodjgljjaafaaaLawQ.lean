/- The fixed examples of the law of matrices. -/
import Derived.Test.YtbodjgljjaafaaaLawP
import Derived.Test.YtbodjgljjaafaaaVcSan
namespace Go.AM
open Go.Proofs.Try

theorem q_ints {r c : Nat} {v : List Int} {m : List (List Int)} (h : table r c (fillF c v) = m) (hr : r ≤ 1048576) (hc : c ≤ 1048576) (hv : ∀ z ∈ v, -9223372036854775808 ≤ z ∧ z ≤ 9223372036854775807) :
    FnD prog 70 [vi r, vi c, vs (ints v)] (eMo r c) (oM m) := h ▸ rints_ok hr hc hv

theorem q_mul {r n c : Nat} {a b m : List (List Int)} (h : mmul r n c a b = m) (ha : Mx r n a) (hb : Mx n c b) (ka : BdM 9 a) (kb : BdM 9 b) (hr : r ≤ 9) (hn : n ≤ 9) (hc : c ≤ 9) :
    FnD prog 20 [eM r n a, eM n c b] (eME r c m 0) [] := h ▸ mmul_ok ha hb ka kb (by omega) (by omega) (by omega) (by decide)

theorem sanity_ok : FnD prog 14 [] (vb true) [] := by
  have h1 : FnD prog 70 [vi 2, vi 2, vs (ints [1, 2, 3, 4])] (eMo 2 2) (oM [[1, 2], [3, 4]]) := q_ints (r := 2) (c := 2) (by decide) (by decide) (by decide) (by decide)
  have h2 : FnD prog 70 [vi 1, vi 2, vs (ints [1, 2])] (eMo 1 2) (oM [[1, 2]]) := q_ints (r := 1) (c := 2) (by decide) (by decide) (by decide) (by decide)
  have h3 : FnD prog 70 [vi 2, vi 2, vs (ints [0, 1, 1, 0])] (eM 2 2 [[0, 1], [1, 0]]) [] := FnD.frz (q_ints (r := 2) (c := 2) (by decide) (by decide) (by decide) (by decide))
  have h4 : FnD prog 20 [eM 2 2 [[1, 2], [3, 4]], eM 2 2 [[0, 1], [1, 0]]] (eME 2 2 [[2, 1], [4, 3]] 0) [] := q_mul (r := 2) (n := 2) (c := 2) (by decide) ⟨by decide, by decide⟩ ⟨by decide, by decide⟩ (by unfold BdM BdR; decide) (by unfold BdM BdR; decide) (by decide) (by decide) (by decide)
  have o1 : FnD prog 16 [vi 1] (eI 1) [] := rof_ok 1 (by decide) (by decide)
  have o2 : FnD prog 16 [vi (-1)] (eI (-1)) [] := rof_ok (-1) (by decide) (by decide)
  have o3 : FnD prog 16 [vi (-2)] (eI (-2)) [] := rof_ok (-2) (by decide) (by decide)
  have h5 : FnD prog 35 [vs (row [1, -1]), eM 2 2 [[1, 2], [3, 4]]] (eRE [-2, -2] 0) [] := by
    have := mtimes_ok (r := 2) (c := 2) (K := 9) (v := [1, -1]) (a := [[1, 2], [3, 4]]) ⟨by decide, by decide⟩ (by decide) (by unfold BdM BdR; decide) (by unfold BdR; decide) (by decide) (by decide) (by decide)
    rw [show tableR 2 (fun j => dsum (elr [1, -1]) (fun k => el [[1, 2], [3, 4]] k j) 2) = [-2, -2] by decide] at this
    exact this
  have h6 : FnD prog 70 [vi 1, vi 2, vs (ints [3, 4])] (eM 1 2 [[3, 4]]) [] := FnD.frz (q_ints (r := 1) (c := 2) (by decide) (by decide) (by decide) (by decide))
  have h7 : FnD prog 25 [eM 1 2 [[1, 2]], eM 1 2 [[3, 4]]] (eME 2 2 [[1, 2], [3, 4]] 0) [] := stack_ok (r := 1) (s := 1) (c := 2) (a := [[1, 2]]) (b := [[3, 4]]) (by decide) (by decide) (by decide) (by decide)
  have h8 : FnD prog 70 [vi 2, vi 1, vs (ints [1, 2])] (eM 2 1 [[1], [2]]) [] := FnD.frz (q_ints (r := 2) (c := 1) (by decide) (by decide) (by decide) (by decide))
  have h9 : FnD prog 70 [vi 2, vi 1, vs (ints [3, 4])] (eM 2 1 [[3], [4]]) [] := FnD.frz (q_ints (r := 2) (c := 1) (by decide) (by decide) (by decide) (by decide))
  have h10 : FnD prog 26 [eM 2 1 [[1], [2]], eM 2 1 [[3], [4]]] (eME 2 2 [[1, 3], [2, 4]] 0) [] := by
    have := beside_ok (r := 2) (c := 1) (d := 1) (a := [[1], [2]]) (b := [[3], [4]]) ⟨by decide, by decide⟩ ⟨by decide, by decide⟩ (by decide) (by decide) (by decide)
    rw [show (table 2 (1 + 1) fun i j => if j < 1 then el [[1], [2]] i j else el [[3], [4]] i (j - 1)) = [[1, 3], [2, 4]] by decide] at this
    exact this
  have h11 : FnD prog 70 [vi 2, vi 3, vs (ints [1, 2, 3, 4, 5, 6])] (eM 2 3 [[1, 2, 3], [4, 5, 6]]) [] := FnD.frz (q_ints (r := 2) (c := 3) (by decide) (by decide) (by decide) (by decide))
  have h12 : FnD prog 30 [eM 2 3 [[1, 2, 3], [4, 5, 6]], vs (ints [1, 1]), vs (ints [2, 0])] (eME 2 2 [[6, 4], [6, 4]] 0) [] := by
    have := pick_ok (r := 2) (c := 3) (a := [[1, 2, 3], [4, 5, 6]]) (p := [1, 1]) (q := [2, 0]) ⟨by decide, by decide⟩ (by decide) (by decide) (by decide) (by decide) (by decide) (by decide)
    rw [show (table [(1 : Int), 1].length [(2 : Int), 0].length fun i j => el [[1, 2, 3], [4, 5, 6]] (elr [1, 1] i).toNat (elr [2, 0] j).toNat) = [[6, 4], [6, 4]] by decide] at this
    exact this
  have h13 : FnD prog 33 [vi 2, vi 0] (eM 2 0 [[], []]) [] := FnD.frz (rnew_ok (r := 2) (c := 0) (by decide) (by decide))
  have h14 : FnD prog 33 [vi 0, vi 3] (eM 0 3 []) [] := FnD.frz (rnew_ok (r := 0) (c := 3) (by decide) (by decide))
  have h15 : FnD prog 20 [eM 2 0 [[], []], eM 0 3 []] (eME 2 3 [[0, 0, 0], [0, 0, 0]] 0) [] := q_mul (r := 2) (n := 0) (c := 3) (by decide) ⟨by decide, by decide⟩ ⟨by decide, by decide⟩ (by unfold BdM BdR; decide) (by unfold BdM BdR; decide) (by decide) (by decide) (by decide)
  have h16 : FnD prog 20 [eM 1 2 [[1, 2]], eM 1 2 [[1, 2]]] (eME 0 0 [] 50) [] := mmul_bad (by decide)
  have h17 : FnD prog 30 [eM 2 2 [[1, 2], [3, 4]], vs (ints [2]), vs (ints [])] (eME 0 0 [] 1) [] := pick_bad (by decide) (by decide) (.inl (by decide))
  have h18 : FnD prog 38 [vs (row [1]), vs (row [])] (eIE 0 50) [] := mdot_bad (by decide)
  have h19 : FnD prog 70 [vi 2, vi 2, vs (ints [2, 1, 4, 3])] (eM 2 2 [[2, 1], [4, 3]]) [] := FnD.frz (q_ints (r := 2) (c := 2) (by decide) (by decide) (by decide) (by decide))
  have same : ∀ (r c : Nat) (m : List (List Int)), Mx r c m → BdM 9 m → r ≤ 9 → c ≤ 9 → FnD prog 23 [eM r c m, eM r c m] (vb true) [] := fun r c m hm hk hr hc => same_yes hm hk hk rfl (by omega) (by omega) (by decide)
  have h20 : FnD prog 23 [eM 2 2 [[2, 1], [4, 3]], eM 2 2 [[2, 1], [4, 3]]] (vb true) [] := same 2 2 _ ⟨by decide, by decide⟩ (by unfold BdM BdR; decide) (by decide) (by decide)
  have h21 : FnD prog 37 [vs (row [-2, -2]), vs (row [-2, -2])] (vb true) [] := by
    have := sameVec_ok (a := [-2, -2]) (b := [-2, -2]) (BdR.sz (K := 9) (by unfold BdR; decide) (by decide)) (BdR.sz (K := 9) (by unfold BdR; decide) (by decide)) (by decide)
    exact this
  have h22 : FnD prog 33 [vi 2, vi 3] (eM 2 3 [[0, 0, 0], [0, 0, 0]]) [] := FnD.frz (rnew_ok (r := 2) (c := 3) (by decide) (by decide))
  have h23 : FnD prog 23 [eM 2 3 [[0, 0, 0], [0, 0, 0]], eM 2 3 [[0, 0, 0], [0, 0, 0]]] (vb true) [] := same 2 3 _ ⟨by decide, by decide⟩ (by unfold BdM BdR; decide) (by decide) (by decide)
  have h24 : FnD prog 23 [eM 2 2 [[1, 2], [3, 4]], eM 2 2 [[1, 2], [3, 4]]] (vb true) [] := same 2 2 _ ⟨by decide, by decide⟩ (by unfold BdM BdR; decide) (by decide) (by decide)
  have h25 : FnD prog 70 [vi 2, vi 2, vs (ints [1, 3, 2, 4])] (eM 2 2 [[1, 3], [2, 4]]) [] := FnD.frz (q_ints (r := 2) (c := 2) (by decide) (by decide) (by decide) (by decide))
  have h26 : FnD prog 23 [eM 2 2 [[1, 3], [2, 4]], eM 2 2 [[1, 3], [2, 4]]] (vb true) [] := same 2 2 _ ⟨by decide, by decide⟩ (by unfold BdM BdR; decide) (by decide) (by decide)
  have h27 : FnD prog 70 [vi 2, vi 2, vs (ints [6, 4, 6, 4])] (eM 2 2 [[6, 4], [6, 4]]) [] := FnD.frz (q_ints (r := 2) (c := 2) (by decide) (by decide) (by decide) (by decide))
  have h28 : FnD prog 23 [eM 2 2 [[6, 4], [6, 4]], eM 2 2 [[6, 4], [6, 4]]] (vb true) [] := same 2 2 _ ⟨by decide, by decide⟩ (by unfold BdM BdR; decide) (by decide) (by decide)
  have h29 : FnD prog 56 [vi 2] (eM 2 2 [[1, 0], [0, 1]]) [] := mident_ok (n := 2) (by decide)
  have h30 : FnD prog 49 [vi 2] (eM 2 2 [[1, 0], [0, 1]]) [] := FnD.frz (rident_ok (n := 2) (by decide))
  have h31 : FnD prog 23 [eM 2 2 [[1, 0], [0, 1]], eM 2 2 [[1, 0], [0, 1]]] (vb true) [] := same 2 2 _ ⟨by decide, by decide⟩ (by unfold BdM BdR; decide) (by decide) (by decide)
  have h32 : FnD prog 17 [eM 2 2 [[1, 2], [3, 4]]] (vb true) [] := mvalid_ok (r := 2) (c := 2) ⟨by decide, by decide⟩ (BdM.sz (K := 9) (by unfold BdM BdR; decide) (by decide)) (by decide) (by decide)
  have h33 : FnD prog 17 [eM 1 0 []] (vb false) [] := mvalid_bad (by decide)
  have h34 : FnD prog 41 [vs (row [])] (vb true) [] := mzero_ok (r := []) (by decide)
  have h35 : FnD prog 41 [vs (row [1, 2])] (vb false) [] := mzero_ok (r := [1, 2]) (by decide)
  refine vc14_ok (R := Out _) ?_
  unfold vc14
  refine ⟨_, _, _, h1, _, _, _, h2, ?_⟩
  refine ⟨_, _, _, _, _, _, _, h3, h4, ?_⟩
  refine ⟨_, _, _, _, _, _, o1, o2, h5, ?_⟩
  refine ⟨_, _, _, _, _, _, _, h6, h7, ?_⟩
  refine ⟨_, _, _, _, _, _, _, _, _, _, h8, h9, h10, ?_⟩
  refine ⟨_, _, _, _, _, _, _, h11, h12, ?_⟩
  refine ⟨_, _, _, _, _, _, _, _, _, _, h13, h14, h15, ?_⟩
  refine ⟨_, _, _, _, h16, ?_⟩
  refine ⟨_, _, _, _, h17, ?_⟩
  refine ⟨_, _, _, _, _, o1, h18, ?_⟩
  refine ⟨fun _ => ?_, fun h => absurd h (by decide)⟩
  refine ⟨_, _, _, true, h19, h20, fun _ => ?_, fun h => absurd h (by decide)⟩
  refine ⟨fun _ => ?_, fun h => absurd h (by decide)⟩
  refine ⟨_, _, _, _, true, o3, o3, h21, fun _ => ?_, fun h => absurd h (by decide)⟩
  refine ⟨fun _ => ?_, fun h => absurd h (by decide)⟩
  refine ⟨_, _, _, true, h22, h23, fun _ => ?_, fun h => absurd h (by decide)⟩
  refine ⟨true, h24, fun _ => ?_, fun h => absurd h (by decide)⟩
  refine ⟨fun _ => ?_, fun h => absurd h (by decide)⟩
  refine ⟨_, _, _, true, h25, h26, fun _ => ?_, fun h => absurd h (by decide)⟩
  refine ⟨fun _ => ?_, fun h => absurd h (by decide)⟩
  refine ⟨_, _, _, true, h27, h28, ?_⟩
  refine ⟨fun _ => ⟨fun _ => ⟨fun _ => ⟨fun _ => ⟨fun _ => ?_, fun h => absurd h (by decide)⟩, fun h => absurd h (by decide)⟩, fun h => absurd h (by decide)⟩, fun h => absurd h (by decide)⟩, fun h => absurd h (by decide)⟩
  refine ⟨_, _, _, _, _, _, true, h29, h30, h31, fun _ => ?_, fun h => absurd h (by decide)⟩
  refine ⟨true, h32, fun _ => ?_, fun h => absurd h (by decide)⟩
  refine ⟨false, h33, fun _ => ?_, fun h => absurd h (by decide)⟩
  refine ⟨true, h34, fun _ => ?_, fun h => absurd h (by decide)⟩
  exact ⟨_, false, by decide, rfl, h35, rfl, rfl⟩

end Go.AM
