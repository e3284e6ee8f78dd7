/- The fixed examples of the law of operations. -/
import Derived.Test.YtbodjgljjaafaaaL4
namespace Go.AM
open Go.Proofs.Try

theorem o_ints {r c : Nat} {v : List Int} {m : List (List Int)} (h : table r c (fillF c v) = m) (hr : r ≤ 1048576) (hc : c ≤ 1048576) (hv : ∀ z ∈ v, -9223372036854775808 ≤ z ∧ z ≤ 9223372036854775807) :
    FnD prog 70 [vi r, vi c, vs (ints v)] (eM r c m) [] := FnD.frz (h ▸ rints_ok hr hc hv)

theorem VO.of {n : Nat} {l : List Opz} (h : (l.all fun o => vO n o && decide (o.z.natAbs ≤ 128)) = true) : VO n l := fun o ho => by
  have := List.all_eq_true.1 h o ho
  simpa using this

theorem SzO.of {l : List Opz} (h : (l.all fun o => decide (o.z.natAbs ≤ 128)) = true) : SzO l := fun o ho => by
  have := List.all_eq_true.1 h o ho
  exact sz_of (Nat.le_trans (by simpa using this) (by decide))

theorem o_apply {r c : Nat} {l : List Opz} {m m' : List (List Int)} (h : apL r c l m = m') (hv : (l.all fun o => vO r o && decide (o.z.natAbs ≤ 128)) = true) (hl : l.length ≤ 10) (hm : Mx r c m) (km : BdM 9 m) (hr : r ≤ 9) (hc : c ≤ 9) :
    FnD prog 45 [vs (oL l), eM r c m] (eME r c m' 0) [] :=
  h ▸ apply_ok (VO.of hv) (by omega) hm km (by omega) (by omega) (by decide) (Nat.le_trans (Nat.mul_le_mul_right 9 (Nat.pow_le_pow_right (by decide) hl)) (by decide))

theorem o_comp {l l' : List Opz} (h : comp l = l') (hz : (l.all fun o => decide (o.z.natAbs ≤ 128)) = true) (hl : l.length ≤ 10) : FnD prog 50 [vs (oL l)] (vs (oL l')) [] :=
  h ▸ compact_ok (fun o ho => Nat.le_trans (by simpa using List.all_eq_true.1 hz o ho) (show 128 ≤ 1280 by decide)) (by omega)

theorem o_same {l : List Opz} (hz : (l.all fun o => decide (o.z.natAbs ≤ 128)) = true) (hl : l.length ≤ 10) : FnD prog 54 [vs (oL l), vs (oL l)] (vb true) [] := by
  have := sameOps_ok (SzO.of hz) (SzO.of hz) (a := l) (b := l) (by omega)
  rwa [decide_eq_true rfl] at this

theorem o_valid {l : List Opz} {n : Nat} {b : Bool} (h : l.all (vO n) = b) (hz : (l.all fun o => decide (o.z.natAbs ≤ 128)) = true) (hl : l.length ≤ 10) : FnD prog 96 [vs (oL l), vi n] (vb b) [] :=
  h ▸ valid_ok (by omega) (SzO.of hz)

theorem sanity18_ok : FnD prog 43 [] (vb true) [] := by
  have a013 : FnD prog 93 [vi 0, vi 1, vi 3] (oE ⟨3, 0, 1, 3⟩) [] := addOp_ok 0 1 3 (by decide) (by decide)
  have a023 : FnD prog 93 [vi 0, vi 2, vi 3] (oE ⟨3, 0, 2, 3⟩) [] := addOp_ok 0 2 3 (by decide) (by decide)
  have a102 : FnD prog 93 [vi 1, vi 0, vi 2] (oE ⟨3, 1, 0, 2⟩) [] := addOp_ok 1 0 2 (by decide) (by decide)
  have a012 : FnD prog 93 [vi 0, vi 1, vi 2] (oE ⟨3, 0, 1, 2⟩) [] := addOp_ok 0 1 2 (by decide) (by decide)
  have a100 : FnD prog 93 [vi 1, vi 0, vi 0] (oE ⟨3, 1, 0, 0⟩) [] := addOp_ok 1 0 0 (by decide) (by decide)
  have a01m5 : FnD prog 93 [vi 0, vi 1, vi (-5)] (oE ⟨3, 0, 1, -5⟩) [] := addOp_ok 0 1 (-5) (by decide) (by decide)
  have a01m3 : FnD prog 93 [vi 0, vi 1, vi (-3)] (oE ⟨3, 0, 1, -3⟩) [] := addOp_ok 0 1 (-3) (by decide) (by decide)
  have s00 : FnD prog 94 [vi 0, vi 0] (oE ⟨1, 0, 0, 0⟩) [] := swapOp_ok 0 0
  have s01 : FnD prog 94 [vi 0, vi 1] (oE ⟨1, 0, 1, 0⟩) [] := swapOp_ok 0 1
  have s10 : FnD prog 94 [vi 1, vi 0] (oE ⟨1, 1, 0, 0⟩) [] := swapOp_ok 1 0
  have n0 : FnD prog 95 [vi 0] (oE ⟨2, 0, 0, 0⟩) [] := negOp_ok 0
  have n1 : FnD prog 95 [vi 1] (oE ⟨2, 1, 0, 0⟩) [] := negOp_ok 1
  have id2 : FnD prog 49 [vi 2] (eM 2 2 [[1, 0], [0, 1]]) [] := FnD.frz (rident_ok (n := 2) (by decide))
  have h1 : FnD prog 45 [vs (oL [⟨3, 0, 1, 3⟩]), eM 2 2 [[1, 0], [0, 1]]] (eME 2 2 [[1, 3], [0, 1]] 0) [] := o_apply (r := 2) (c := 2) (by decide) (by decide) (by decide) ⟨by decide, by decide⟩ (by unfold BdM BdR; decide) (by decide) (by decide)
  have h2 : FnD prog 45 [vs (oL [⟨3, 0, 2, 3⟩]), eM 2 2 [[1, 0], [0, 1]]] (eME 0 0 [] 180) [] := apply_bad (r := 2) (c := 2) (SzO.of (by decide)) (by decide) (by decide)
  have h3 : FnD prog 46 [vs (oL [⟨1, 0, 0, 0⟩]), eM 2 2 [[1, 0], [0, 1]]] (eME 0 0 [] 180) [] := undo_bad (r := 2) (c := 2) (SzO.of (by decide)) (by decide) (by decide)
  have h4 : FnD prog 47 [vs (oL [⟨1, 0, 1, 0⟩, ⟨2, 0, 0, 0⟩, ⟨3, 1, 0, 2⟩]), vi 2] (eME 2 2 [[0, -1], [1, -2]] 0) [] := by
    have := matrix_ok (n := 2) (l := [⟨1, 0, 1, 0⟩, ⟨2, 0, 0, 0⟩, ⟨3, 1, 0, 2⟩]) (VO.of (by decide)) (by decide) (by decide) (by decide)
    rwa [show mat 2 [⟨1, 0, 1, 0⟩, ⟨2, 0, 0, 0⟩, ⟨3, 1, 0, 2⟩] = [[0, -1], [1, -2]] by decide] at this
  have h5 : FnD prog 47 [vs [], vi 65] (eME 0 0 [] 1) [] := matrix_big (n := 65) [] (by decide)
  have h6 : FnD prog 47 [vs (oL [⟨2, 0, 0, 0⟩]), vi 0] (eME 0 0 [] 180) [] := matrix_bad (n := 0) (SzO.of (by decide)) (by decide) (by decide) (by decide)
  have h7 : FnD prog 50 [vs (oL [⟨1, 0, 1, 0⟩, ⟨1, 1, 0, 0⟩, ⟨2, 0, 0, 0⟩])] (vs (oL [⟨2, 0, 0, 0⟩])) [] := o_comp (by decide) (by decide) (by decide)
  have h8 : FnD prog 50 [vs (oL [⟨3, 0, 1, 2⟩, ⟨3, 0, 1, 3⟩, ⟨3, 1, 0, 0⟩, ⟨3, 0, 1, -5⟩, ⟨2, 1, 0, 0⟩])] (vs (oL [⟨2, 1, 0, 0⟩])) [] := o_comp (by decide) (by decide) (by decide)
  have h9 : FnD prog 48 [vs (oL [⟨1, 0, 1, 0⟩, ⟨3, 0, 1, 3⟩])] (vs (oL [⟨3, 0, 1, -3⟩, ⟨1, 0, 1, 0⟩])) [] := by
    have := invert_oL (l := [⟨1, 0, 1, 0⟩, ⟨3, 0, 1, 3⟩]) (by decide)
    rwa [show inL [⟨1, 0, 1, 0⟩, ⟨3, 0, 1, 3⟩] = [⟨3, 0, 1, -3⟩, ⟨1, 0, 1, 0⟩] by decide] at this
  have i1 : FnD prog 70 [vi 2, vi 2, vs (ints [1, 3, 0, 1])] (eM 2 2 [[1, 3], [0, 1]]) [] := o_ints (r := 2) (c := 2) (by decide) (by decide) (by decide) (by decide)
  have i2 : FnD prog 70 [vi 2, vi 2, vs (ints [0, -1, 1, -2])] (eM 2 2 [[0, -1], [1, -2]]) [] := o_ints (r := 2) (c := 2) (by decide) (by decide) (by decide) (by decide)
  have same : ∀ (r c : Nat) (m : List (List Int)), Mx r c m → BdM 9 m → r ≤ 9 → c ≤ 9 → FnD prog 23 [eM r c m, eM r c m] (vb true) [] := fun r c m hm hk hr hc => same_yes hm hk hk rfl (by omega) (by omega) (by decide)
  have e1 : FnD prog 23 [eM 2 2 [[1, 3], [0, 1]], eM 2 2 [[1, 3], [0, 1]]] (vb true) [] := same 2 2 _ ⟨by decide, by decide⟩ (by unfold BdM BdR; decide) (by decide) (by decide)
  have e2 : FnD prog 23 [eM 2 2 [[0, -1], [1, -2]], eM 2 2 [[0, -1], [1, -2]]] (vb true) [] := same 2 2 _ ⟨by decide, by decide⟩ (by unfold BdM BdR; decide) (by decide) (by decide)
  have c1 : FnD prog 54 [vs (oL [⟨2, 0, 0, 0⟩]), vs (oL [⟨2, 0, 0, 0⟩])] (vb true) [] := o_same (by decide) (by decide)
  have c2 : FnD prog 54 [vs (oL [⟨2, 1, 0, 0⟩]), vs (oL [⟨2, 1, 0, 0⟩])] (vb true) [] := o_same (by decide) (by decide)
  have c3 : FnD prog 54 [vs (oL [⟨3, 0, 1, -3⟩, ⟨1, 0, 1, 0⟩]), vs (oL [⟨3, 0, 1, -3⟩, ⟨1, 0, 1, 0⟩])] (vb true) [] := o_same (by decide) (by decide)
  have v1 : FnD prog 96 [vs (oL []), vi 0] (vb true) [] := o_valid (n := 0) (by decide) (by decide) (by decide)
  have v2 : FnD prog 96 [vs (oL [⟨2, 0, 1, 0⟩]), vi 2] (vb false) [] := o_valid (n := 2) (by decide) (by decide) (by decide)
  have v3 : FnD prog 96 [vs (oL [⟨0, 0, 0, 0⟩]), vi 2] (vb false) [] := o_valid (n := 2) (by decide) (by decide) (by decide)
  refine vc43_ok (R := Out _) ?_
  unfold vc43
  exact ⟨a013, id2, h1, a023, id2, h2, s00, id2, h3, s01, n0, a102, h4, h5, n0, h6, s01, s10, n0, h7, a012, a013, a100, a01m5, n1, h8, s01, a013, h9,
    i1, e1, i2, e2, n0, c1, n1, c2, a01m3, s01, c3, v1, v2, v3, rfl, rfl⟩

end Go.AM

/- What functions of the program come to: group Og. Printed by vc.py. -/
set_option maxRecDepth 100000
set_option linter.unusedVariables false

namespace Go.AM
open Go.Proofs.Try

/- f8 torsion/torsionlaw18.OplogUndoes -/
def vc8 (x0 : Int) (x1 : Int) (x2 : List (List D)) (l : List (List D)) (R : V → Heap → Prop) : Prop :=
  ∃ (r : Bool),
  (FnD prog 43 [] (vD (dB r)) []) ∧
  (∃ (r0 : Int) (r1 : Int) (rrows : List (List (List D))),
  (FnD prog 15 [(vA [(sD (D.int .u8 x0)), (sD (D.int .u8 x1)), (sD (dL x2))])] (vA [(sD (dI r0)), (sD (dI r1)), (S.ref 0)]) [(some (Obj.mat 2 rrows))]) ∧
  (∃ (r2 : List (List D)),
  (FnD prog 44 [(vD (dL l)), (vD (dI r0)), (vD (dI (10 : Int)))] (vD (dL r2)) []) ∧
  (∃ (r01 : Int) (r11 : Int) (r21 : List (List D)) (r3 : Int),
  (FnD prog 45 [(vD (dL r2)), (vA [(sD (dI r0)), (sD (dI r1)), (sD (dL (matD rrows)))])] (V.tup [(E.agg [(sD (dI r01)), (sD (dI r11)), (sD (dL r21))]), (eD (dI r3))]) []) ∧
  (((r3 != (0 : Int)) = true →
    R (vD (dB false)) []) ∧
  ((r3 != (0 : Int)) = false →
    ∃ (r4 : Bool),
    (FnD prog 22 [(vA [(sD (dI r01)), (sD (dI r11)), (sD (dL r21))]), (vD (dI r0)), (vD (dI r1))] (vD (dB r4)) []) ∧
    (((!r4) = true →
      R (vD (dB false)) []) ∧
    ((!r4) = false →
      ∃ (r02 : Int) (r12 : Int) (r22 : List (List D)) (r5 : Int),
      (FnD prog 46 [(vD (dL r2)), (vA [(sD (dI r01)), (sD (dI r11)), (sD (dL r21))])] (V.tup [(E.agg [(sD (dI r02)), (sD (dI r12)), (sD (dL r22))]), (eD (dI r5))]) []) ∧
      (∃ (r03 : Int) (r13 : Int) (r23 : List (List D)) (r6 : Int),
      (FnD prog 46 [(vD (dL r2)), (vA [(sD (dI r0)), (sD (dI r1)), (sD (dL (matD rrows)))])] (V.tup [(E.agg [(sD (dI r03)), (sD (dI r13)), (sD (dL r23))]), (eD (dI r6))]) []) ∧
      (((r5 != (0 : Int)) = true →
        R (vD (dB false)) []) ∧
      ((r5 != (0 : Int)) = false →
        ((r6 != (0 : Int)) = true →
          R (vD (dB false)) []) ∧
        ((r6 != (0 : Int)) = false →
          ∃ (r7 : Bool),
          (FnD prog 22 [(vA [(sD (dI r03)), (sD (dI r13)), (sD (dL r23))]), (vD (dI r0)), (vD (dI r1))] (vD (dB r7)) []) ∧
          (((!r7) = true →
            R (vD (dB false)) []) ∧
          ((!r7) = false →
            ∃ (r04 : Int) (r14 : Int) (r24 : List (List D)) (r8 : Int),
            (FnD prog 45 [(vD (dL r2)), (vA [(sD (dI r03)), (sD (dI r13)), (sD (dL r23))])] (V.tup [(E.agg [(sD (dI r04)), (sD (dI r14)), (sD (dL r24))]), (eD (dI r8))]) []) ∧
            (∃ (r05 : Int) (r15 : Int) (r25 : List (List D)) (r9 : Int),
            (FnD prog 47 [(vD (dL r2)), (vD (dI r0))] (V.tup [(E.agg [(sD (dI r05)), (sD (dI r15)), (sD (dL r25))]), (eD (dI r9))]) []) ∧
            (∃ (r10 : List (List D)) (r06 : Int) (r16 : Int) (r26 : List (List D)) (r17 : Int),
            (FnD prog 48 [(vD (dL r2))] (vD (dL r10)) []) ∧
            (FnD prog 47 [(vD (dL r10)), (vD (dI r0))] (V.tup [(E.agg [(sD (dI r06)), (sD (dI r16)), (sD (dL r26))]), (eD (dI r17))]) []) ∧
            (((r8 != (0 : Int)) = true →
              R (vD (dB false)) []) ∧
            ((r8 != (0 : Int)) = false →
              ((r9 != (0 : Int)) = true →
                R (vD (dB false)) []) ∧
              ((r9 != (0 : Int)) = false →
                ((r17 != (0 : Int)) = true →
                  R (vD (dB false)) []) ∧
                ((r17 != (0 : Int)) = false →
                  ∃ (r18 : Bool),
                  (FnD prog 22 [(vA [(sD (dI r05)), (sD (dI r15)), (sD (dL r25))]), (vD (dI r0)), (vD (dI r0))] (vD (dB r18)) []) ∧
                  (((!r18) = true →
                    R (vD (dB false)) []) ∧
                  ((!r18) = false →
                    ∃ (r19 : Bool),
                    (FnD prog 22 [(vA [(sD (dI r06)), (sD (dI r16)), (sD (dL r26))]), (vD (dI r0)), (vD (dI r0))] (vD (dB r19)) []) ∧
                    (((!r19) = true →
                      R (vD (dB false)) []) ∧
                    ((!r19) = false →
                      (r = true →
                        ∃ (r20 : Bool),
                        (FnD prog 23 [(vA [(sD (dI r02)), (sD (dI r12)), (sD (dL r22))]), (vA [(sD (dI r0)), (sD (dI r1)), (sD (dL (matD rrows)))])] (vD (dB r20)) []) ∧
                        ((r20 = true →
                          ∃ (r27 : Bool),
                          (FnD prog 23 [(vA [(sD (dI r04)), (sD (dI r14)), (sD (dL r24))]), (vA [(sD (dI r0)), (sD (dI r1)), (sD (dL (matD rrows)))])] (vD (dB r27)) []) ∧
                          ((r27 = true →
                            ∃ (r07 : Int) (r110 : Int) (r28 : List (List D)) (r08 : Int) (r111 : Int) (r29 : List (List D)) (r30 : Bool),
                            (FnD prog 27 [(vA [(sD (dI r05)), (sD (dI r15)), (sD (dL r25))]), (vA [(sD (dI r06)), (sD (dI r16)), (sD (dL r26))])] (vA [(sD (dI r07)), (sD (dI r110)), (sD (dL r28))]) []) ∧
                            (FnD prog 49 [(vD (dI r0))] (vA [(sD (dI r08)), (sD (dI r111)), (sD (dL r29))]) []) ∧
                            (FnD prog 23 [(vA [(sD (dI r07)), (sD (dI r110)), (sD (dL r28))]), (vA [(sD (dI r08)), (sD (dI r111)), (sD (dL r29))])] (vD (dB r30)) []) ∧
                            (R (vD (dB r30)) [])) ∧
                          (r27 = false →
                            R (vD (dB false)) []))) ∧
                        (r20 = false →
                          R (vD (dB false)) []))) ∧
                      (r = false →
                        R (vD (dB false)) []))))))))))))))))))))))))

theorem vc8_ok (x0 : Int) (x1 : Int) (x2 : List (List D)) (l : List (List D)) {R : V → Heap → Prop} (h : vc8 x0 x1 x2 l R) : FnG prog 8 [(vA [(sD (D.int .u8 x0)), (sD (D.int .u8 x1)), (sD (dL x2))]), (vD (dL l))] [] R :=
  FnG.vcg hT func8 ntmps8 (.reg 1 [(0, Or.none, 0, 1)] [1, 2] [0] [] <| .exb fun r => .reg 0 [(0, (Or.call (vD (dB r)) [] []), 0, 0)] [1, 2, 5] [0] [] <| .ex fun r0 => .ex fun r1 => .exm fun rrows => .reg 2 [(1, (Or.call (vA [(sD (dI r0)), (sD (dI r1)), (S.ref 0)]) [(some (Obj.mat 2 rrows))] []), 1, 1), (2, Or.none, 2, 1)] [1, 5, 6] [2, 1] [] <| .exl fun r2 => .reg 0 [(3, (Or.call (vD (dL r2)) [] []), 0, 0)] [5, 6, 7] [0, 1] [] <| .frz [1] <| .ex fun r01 => .ex fun r11 => .exl fun r21 => .ex fun r3 => .reg 1 [(2, (Or.call (V.tup [(E.agg [(sD (dI r01)), (sD (dI r11)), (sD (dL r21))]), (eD (dI r3))]) [] []), 0, 0), (6, Or.none, 2, 1)] [5, 6, 7, 8, 9] [0, 2] [] <| .spl ((r3 != (0 : Int))) (.reg 0 [(2, (Or.bool true), 0, 0)] [5, 6, 7, 8, 43] [0, 1] [.old 0] <| .ct true none <| .r0 [4] <| .ret []) (.exb fun r4 => .reg 0 [(2, (Or.bool false), 0, 0), (8, (Or.call (vD (dB r4)) [] []), 0, 0)] [5, 6, 7, 8, 43] [0, 1] [.old 0] <| .c2 (.r0 [4] <| .ret []) (.ex fun r02 => .ex fun r12 => .exl fun r22 => .ex fun r5 => .reg 1 [(2, (Or.call (V.tup [(E.agg [(sD (dI r02)), (sD (dI r12)), (sD (dL r22))]), (eD (dI r5))]) [] []), 0, 0), (6, Or.none, 2, 1)] [5, 6, 7, 10, 11] [0, 2] [] <| .ex fun r03 => .ex fun r13 => .exl fun r23 => .ex fun r6 => .reg 1 [(2, (Or.call (V.tup [(E.agg [(sD (dI r03)), (sD (dI r13)), (sD (dL r23))]), (eD (dI r6))]) [] []), 0, 0), (6, Or.none, 2, 1)] [5, 6, 7, 10, 11, 12, 13] [0, 1, 2] [] <| .spl ((r5 != (0 : Int))) (.reg 0 [(2, (Or.bool true), 0, 0)] [5, 6, 7, 10, 12, 70] [0, 1, 2] [.old 0] <| .ct true none <| .r0 [4] <| .ret []) (.spl ((r6 != (0 : Int))) (.reg 0 [(2, (Or.bool false), 0, 0), (6, (Or.bool true), 0, 0)] [5, 6, 7, 10, 12, 70] [0, 1, 2] [.old 1, .old 0] <| .ct true none <| .r0 [4] <| .ret []) (.exb fun r7 => .reg 0 [(2, (Or.bool false), 0, 0), (6, (Or.bool false), 0, 0), (12, (Or.call (vD (dB r7)) [] []), 0, 0)] [5, 6, 7, 10, 12, 70] [0, 1, 2] [.old 1, .old 0] <| .c2 (.r0 [4] <| .ret []) (.ex fun r04 => .ex fun r14 => .exl fun r24 => .ex fun r8 => .reg 1 [(2, (Or.call (V.tup [(E.agg [(sD (dI r04)), (sD (dI r14)), (sD (dL r24))]), (eD (dI r8))]) [] []), 0, 0), (6, Or.none, 3, 1)] [5, 6, 7, 10, 14, 15] [0, 1, 3] [] <| .ex fun r05 => .ex fun r15 => .exl fun r25 => .ex fun r9 => .reg 1 [(3, (Or.call (V.tup [(E.agg [(sD (dI r05)), (sD (dI r15)), (sD (dL r25))]), (eD (dI r9))]) [] []), 0, 0), (7, Or.none, 3, 1)] [5, 6, 7, 10, 14, 15, 16, 17] [0, 1, 2, 3] [] <| .exl fun r10 => .ex fun r06 => .ex fun r16 => .exl fun r26 => .ex fun r17 => .drw 1 [(1, ((Or.call (vD (dL r10)) [] []), 0, 0), []), (4, ((Or.call (V.tup [(E.agg [(sD (dI r06)), (sD (dI r16)), (sD (dL r26))]), (eD (dI r17))]) [] []), 0, 0), []), (8, (Or.none, 4, 1), [4]), (9, (Or.none, 0, 0), [4])] [5, 6, 10, 14, 15, 16, 17, 18, 19] [0, 1, 2, 3, 4] [] <| .spl ((r8 != (0 : Int))) (.reg 0 [(2, (Or.bool true), 0, 0)] [5, 6, 10, 14, 16, 18, 119] [0, 1, 2, 3, 4] [.old 0] <| .ct true none <| .r0 [4] <| .ret []) (.spl ((r9 != (0 : Int))) (.reg 0 [(2, (Or.bool false), 0, 0), (6, (Or.bool true), 0, 0)] [5, 6, 10, 14, 16, 18, 119] [0, 1, 2, 3, 4] [.old 1, .old 0] <| .ct true none <| .r0 [4] <| .ret []) (.spl ((r17 != (0 : Int))) (.reg 0 [(2, (Or.bool false), 0, 0), (6, (Or.bool false), 0, 0), (10, (Or.bool true), 0, 0)] [5, 6, 10, 14, 16, 18, 119] [0, 1, 2, 3, 4] [.old 2, .old 1, .old 0] <| .ct true none <| .r0 [4] <| .ret []) (.exb fun r18 => .ob (FnD prog 22 [(vA [(sD (dI r05)), (sD (dI r15)), (sD (dL r25))]), (vD (dI r0)), (vD (dI r0))] (vD (dB r18)) []) <| .spl ((!r18)) (.reg 0 [(2, (Or.bool false), 0, 0), (6, (Or.bool false), 0, 0), (10, (Or.bool false), 0, 0), (16, (Or.call (vD (dB r18)) [] []), 0, 0), (19, (Or.bool true), 0, 0)] [5, 6, 10, 14, 16, 18, 119] [0, 1, 2, 3, 4] [.old 4, .old 3, .old 2, .old 1, .old 0] <| .ct true none <| .r0 [4] <| .ret []) (.exb fun r19 => .reg 0 [(2, (Or.bool false), 0, 0), (6, (Or.bool false), 0, 0), (10, (Or.bool false), 0, 0), (16, (Or.call (vD (dB r18)) [] []), 0, 0), (19, (Or.bool false), 0, 0), (25, (Or.call (vD (dB r19)) [] []), 0, 0)] [5, 6, 10, 14, 16, 18, 119] [0, 1, 2, 3, 4] [.old 4, .old 3, .old 2, .old 1, .old 0] <| .c2 (.r0 [4] <| .ret []) (.spl r (.exb fun r20 => .ob (FnD prog 23 [(vA [(sD (dI r02)), (sD (dI r12)), (sD (dL r22))]), (vA [(sD (dI r0)), (sD (dI r1)), (sD (dL (matD rrows)))])] (vD (dB r20)) []) <| .spl r20 (.exb fun r27 => .ob (FnD prog 23 [(vA [(sD (dI r04)), (sD (dI r14)), (sD (dL r24))]), (vA [(sD (dI r0)), (sD (dI r1)), (sD (dL (matD rrows)))])] (vD (dB r27)) []) <| .spl r27 (.ex fun r07 => .ex fun r110 => .exl fun r28 => .ex fun r08 => .ex fun r111 => .exl fun r29 => .exb fun r30 => .drw 0 [(1, ((Or.bool true), 0, 0), []), (4, ((Or.call (vD (dB r20)) [] []), 0, 0), []), (6, ((Or.bool true), 0, 0), []), (9, ((Or.call (vD (dB r27)) [] []), 0, 0), []), (11, ((Or.bool true), 0, 0), []), (14, ((Or.call (vA [(sD (dI r07)), (sD (dI r110)), (sD (dL r28))]) [] []), 0, 0), []), (17, ((Or.call (vA [(sD (dI r08)), (sD (dI r111)), (sD (dL r29))]) [] []), 0, 0), []), (18, ((Or.call (vD (dB r30)) [] []), 0, 0), [])] [4] [] [.old 4, .old 3, .old 2, .old 1, .old 0] <| .ret []) (.drw 0 [(1, ((Or.bool true), 0, 0), []), (4, ((Or.call (vD (dB r20)) [] []), 0, 0), []), (6, ((Or.bool true), 0, 0), []), (9, ((Or.call (vD (dB r27)) [] []), 0, 0), []), (11, ((Or.bool false), 0, 0), [])] [4] [] [.old 4, .old 3, .old 2, .old 1, .old 0] <| .ret [])) (.drw 0 [(1, ((Or.bool true), 0, 0), []), (4, ((Or.call (vD (dB r20)) [] []), 0, 0), []), (6, ((Or.bool false), 0, 0), [])] [4] [] [.old 2, .old 1, .old 0] <| .ret [])) (.drw 0 [(1, ((Or.bool false), 0, 0), [])] [4] [] [.old 0] <| .ret []))))))))))))
    (by kernel_rfl) (by kernel_rfl) (by kernel_rfl) h

/- f9 torsion/torsionlaw18.OplogComposes -/
def vc9 (x0 : Int) (x1 : Int) (x2 : List (List D)) (l : List (List D)) (k : List (List D)) (R : V → Heap → Prop) : Prop :=
  ∃ (r : Bool),
  (FnD prog 43 [] (vD (dB r)) []) ∧
  (∃ (r0 : Int) (r1 : Int) (rrows : List (List (List D))),
  (FnD prog 15 [(vA [(sD (D.int .u8 x0)), (sD (D.int .u8 x1)), (sD (dL x2))])] (vA [(sD (dI r0)), (sD (dI r1)), (S.ref 0)]) [(some (Obj.mat 2 rrows))]) ∧
  (∃ (r2 : List (List D)),
  (FnD prog 44 [(vD (dL l)), (vD (dI r0)), (vD (dI (8 : Int)))] (vD (dL r2)) []) ∧
  (∃ (r3 : List (List D)),
  (FnD prog 44 [(vD (dL k)), (vD (dI r0)), (vD (dI (8 : Int)))] (vD (dL r3)) []) ∧
  ((∀ y ∈ r2, y.length = 5) ∧
  ((([] : List (List D)).length + (r2 : List (List D)).length) * 56 ≤ 140737488355328) ∧
  ((∀ y ∈ r3, y.length = 5) ∧
  (((([] : List (List D)) ++ r2).length + (r3 : List (List D)).length) * 56 ≤ 140737488355328) ∧
  (∃ (r01 : Int) (r11 : Int) (r21 : List (List D)) (r4 : Int),
  (FnD prog 45 [(vD (dL r2)), (vA [(sD (dI r0)), (sD (dI r1)), (sD (dL (matD rrows)))])] (V.tup [(E.agg [(sD (dI r01)), (sD (dI r11)), (sD (dL r21))]), (eD (dI r4))]) []) ∧
  (∃ (r02 : Int) (r12 : Int) (r22 : List (List D)) (r5 : Int),
  (FnD prog 47 [(vD (dL r2)), (vD (dI r0))] (V.tup [(E.agg [(sD (dI r02)), (sD (dI r12)), (sD (dL r22))]), (eD (dI r5))]) []) ∧
  (∃ (r03 : Int) (r13 : Int) (r23 : List (List D)) (r6 : Int),
  (FnD prog 47 [(vD (dL r3)), (vD (dI r0))] (V.tup [(E.agg [(sD (dI r03)), (sD (dI r13)), (sD (dL r23))]), (eD (dI r6))]) []) ∧
  (∃ (r04 : Int) (r14 : Int) (r24 : List (List D)) (r7 : Int),
  (FnD prog 47 [(vD (dL ((([] : List (List D)) ++ r2) ++ r3))), (vD (dI r0))] (V.tup [(E.agg [(sD (dI r04)), (sD (dI r14)), (sD (dL r24))]), (eD (dI r7))]) []) ∧
  (((r4 != (0 : Int)) = true →
    R (vD (dB false)) []) ∧
  ((r4 != (0 : Int)) = false →
    ((r5 != (0 : Int)) = true →
      R (vD (dB false)) []) ∧
    ((r5 != (0 : Int)) = false →
      ((r6 != (0 : Int)) = true →
        R (vD (dB false)) []) ∧
      ((r6 != (0 : Int)) = false →
        ((r7 != (0 : Int)) = true →
          R (vD (dB false)) []) ∧
        ((r7 != (0 : Int)) = false →
          ∃ (r8 : Bool),
          (FnD prog 22 [(vA [(sD (dI r02)), (sD (dI r12)), (sD (dL r22))]), (vD (dI r0)), (vD (dI r0))] (vD (dB r8)) []) ∧
          (((!r8) = true →
            R (vD (dB false)) []) ∧
          ((!r8) = false →
            ∃ (r9 : Bool),
            (FnD prog 22 [(vA [(sD (dI r03)), (sD (dI r13)), (sD (dL r23))]), (vD (dI r0)), (vD (dI r0))] (vD (dB r9)) []) ∧
            (((!r9) = true →
              R (vD (dB false)) []) ∧
            ((!r9) = false →
              (r = true →
                ∃ (r05 : Int) (r15 : Int) (r25 : List (List D)) (r10 : Bool),
                (FnD prog 27 [(vA [(sD (dI r02)), (sD (dI r12)), (sD (dL r22))]), (vA [(sD (dI r0)), (sD (dI r1)), (sD (dL (matD rrows)))])] (vA [(sD (dI r05)), (sD (dI r15)), (sD (dL r25))]) []) ∧
                (FnD prog 23 [(vA [(sD (dI r01)), (sD (dI r11)), (sD (dL r21))]), (vA [(sD (dI r05)), (sD (dI r15)), (sD (dL r25))])] (vD (dB r10)) []) ∧
                ((r10 = true →
                  ∃ (r06 : Int) (r16 : Int) (r26 : List (List D)) (r17 : Bool),
                  (FnD prog 27 [(vA [(sD (dI r03)), (sD (dI r13)), (sD (dL r23))]), (vA [(sD (dI r02)), (sD (dI r12)), (sD (dL r22))])] (vA [(sD (dI r06)), (sD (dI r16)), (sD (dL r26))]) []) ∧
                  (FnD prog 23 [(vA [(sD (dI r04)), (sD (dI r14)), (sD (dL r24))]), (vA [(sD (dI r06)), (sD (dI r16)), (sD (dL r26))])] (vD (dB r17)) []) ∧
                  (R (vD (dB r17)) [])) ∧
                (r10 = false →
                  R (vD (dB false)) []))) ∧
              (r = false →
                R (vD (dB false)) [])))))))))))))))))))

theorem vc9_ok (x0 : Int) (x1 : Int) (x2 : List (List D)) (l : List (List D)) (k : List (List D)) {R : V → Heap → Prop} (h : vc9 x0 x1 x2 l k R) : FnG prog 9 [(vA [(sD (D.int .u8 x0)), (sD (D.int .u8 x1)), (sD (dL x2))]), (vD (dL l)), (vD (dL k))] [] R :=
  FnG.vcg hT func9 ntmps9 (.reg 1 [(0, Or.none, 0, 1)] [1, 2, 3] [0] [] <| .exb fun r => .reg 0 [(0, (Or.call (vD (dB r)) [] []), 0, 0)] [1, 2, 3, 7] [0] [] <| .ex fun r0 => .ex fun r1 => .exm fun rrows => .reg 2 [(1, (Or.call (vA [(sD (dI r0)), (sD (dI r1)), (S.ref 0)]) [(some (Obj.mat 2 rrows))] []), 1, 1), (2, Or.none, 2, 1)] [1, 2, 7, 8] [2, 1] [] <| .exl fun r2 => .reg 0 [(3, (Or.call (vD (dL r2)) [] []), 0, 0)] [2, 7, 8, 9] [0, 1] [] <| .exl fun r3 => .reg 0 [(3, (Or.call (vD (dL r3)) [] []), 0, 0)] [7, 8, 9, 10] [0, 1] [] <| .reg 2 [(0, Or.none, 2, 1), (2, Or.none, 3, 1)] [7, 8, 9, 10, 11] [0, 3, 1] [] <| .reg 1 [(2, Or.none, 3, 1)] [7, 8, 9, 10, 11] [0, 3, 2] [] <| .frz [2] <| .ex fun r01 => .ex fun r11 => .exl fun r21 => .ex fun r4 => .reg 1 [(2, (Or.call (V.tup [(E.agg [(sD (dI r01)), (sD (dI r11)), (sD (dL r21))]), (eD (dI r4))]) [] []), 0, 0), (6, Or.none, 3, 1)] [7, 8, 9, 10, 11, 12, 13] [0, 1, 3] [] <| .ex fun r02 => .ex fun r12 => .exl fun r22 => .ex fun r5 => .reg 1 [(3, (Or.call (V.tup [(E.agg [(sD (dI r02)), (sD (dI r12)), (sD (dL r22))]), (eD (dI r5))]) [] []), 0, 0), (7, Or.none, 3, 1)] [7, 8, 10, 11, 12, 13, 14, 15] [0, 1, 2, 3] [] <| .ex fun r03 => .ex fun r13 => .exl fun r23 => .ex fun r6 => .reg 1 [(3, (Or.call (V.tup [(E.agg [(sD (dI r03)), (sD (dI r13)), (sD (dL r23))]), (eD (dI r6))]) [] []), 0, 0), (7, Or.none, 4, 1)] [7, 8, 11, 12, 13, 14, 15, 16, 17] [0, 1, 2, 3, 4] [] <| .frz [1] <| .ex fun r04 => .ex fun r14 => .exl fun r24 => .ex fun r7 => .reg 1 [(3, (Or.call (V.tup [(E.agg [(sD (dI r04)), (sD (dI r14)), (sD (dL r24))]), (eD (dI r7))]) [] []), 0, 0), (7, Or.none, 5, 1)] [7, 8, 12, 13, 14, 15, 16, 17, 18, 19] [0, 2, 3, 4, 5] [] <| .spl ((r4 != (0 : Int))) (.reg 0 [(2, (Or.bool true), 0, 0)] [7, 8, 12, 14, 16, 18, 95] [0, 1, 2, 3, 4] [.old 0] <| .ct true none <| .r0 [6] <| .ret []) (.spl ((r5 != (0 : Int))) (.reg 0 [(2, (Or.bool false), 0, 0), (6, (Or.bool true), 0, 0)] [7, 8, 12, 14, 16, 18, 95] [0, 1, 2, 3, 4] [.old 1, .old 0] <| .ct true none <| .r0 [6] <| .ret []) (.spl ((r6 != (0 : Int))) (.reg 0 [(2, (Or.bool false), 0, 0), (6, (Or.bool false), 0, 0), (10, (Or.bool true), 0, 0)] [7, 8, 12, 14, 16, 18, 95] [0, 1, 2, 3, 4] [.old 2, .old 1, .old 0] <| .ct true none <| .r0 [6] <| .ret []) (.spl ((r7 != (0 : Int))) (.reg 0 [(2, (Or.bool false), 0, 0), (6, (Or.bool false), 0, 0), (10, (Or.bool false), 0, 0), (14, (Or.bool true), 0, 0)] [7, 8, 12, 14, 16, 18, 95] [0, 1, 2, 3, 4] [.old 3, .old 2, .old 1, .old 0] <| .ct true none <| .r0 [6] <| .ret []) (.exb fun r8 => .ob (FnD prog 22 [(vA [(sD (dI r02)), (sD (dI r12)), (sD (dL r22))]), (vD (dI r0)), (vD (dI r0))] (vD (dB r8)) []) <| .spl ((!r8)) (.reg 0 [(2, (Or.bool false), 0, 0), (6, (Or.bool false), 0, 0), (10, (Or.bool false), 0, 0), (14, (Or.bool false), 0, 0), (20, (Or.call (vD (dB r8)) [] []), 0, 0), (23, (Or.bool true), 0, 0)] [7, 8, 12, 14, 16, 18, 95] [0, 1, 2, 3, 4] [.old 5, .old 4, .old 3, .old 2, .old 1, .old 0] <| .ct true none <| .r0 [6] <| .ret []) (.exb fun r9 => .reg 0 [(2, (Or.bool false), 0, 0), (6, (Or.bool false), 0, 0), (10, (Or.bool false), 0, 0), (14, (Or.bool false), 0, 0), (20, (Or.call (vD (dB r8)) [] []), 0, 0), (23, (Or.bool false), 0, 0), (29, (Or.call (vD (dB r9)) [] []), 0, 0)] [7, 8, 12, 14, 16, 18, 95] [0, 1, 2, 3, 4] [.old 5, .old 4, .old 3, .old 2, .old 1, .old 0] <| .c2 (.r0 [6] <| .ret []) (.spl r (.ex fun r05 => .ex fun r15 => .exl fun r25 => .exb fun r10 => .ob (FnD prog 27 [(vA [(sD (dI r02)), (sD (dI r12)), (sD (dL r22))]), (vA [(sD (dI r0)), (sD (dI r1)), (sD (dL (matD rrows)))])] (vA [(sD (dI r05)), (sD (dI r15)), (sD (dL r25))]) []) <| .ob (FnD prog 23 [(vA [(sD (dI r01)), (sD (dI r11)), (sD (dL r21))]), (vA [(sD (dI r05)), (sD (dI r15)), (sD (dL r25))])] (vD (dB r10)) []) <| .spl r10 (.ex fun r06 => .ex fun r16 => .exl fun r26 => .exb fun r17 => .drw 0 [(1, ((Or.bool true), 0, 0), []), (5, ((Or.call (vA [(sD (dI r05)), (sD (dI r15)), (sD (dL r25))]) [] []), 0, 0), []), (6, ((Or.call (vD (dB r10)) [] []), 0, 0), []), (8, ((Or.bool true), 0, 0), []), (12, ((Or.call (vA [(sD (dI r06)), (sD (dI r16)), (sD (dL r26))]) [] []), 0, 0), []), (13, ((Or.call (vD (dB r17)) [] []), 0, 0), [])] [6] [] [.old 3, .old 2, .old 1, .old 0] <| .ret []) (.drw 0 [(1, ((Or.bool true), 0, 0), []), (5, ((Or.call (vA [(sD (dI r05)), (sD (dI r15)), (sD (dL r25))]) [] []), 0, 0), []), (6, ((Or.call (vD (dB r10)) [] []), 0, 0), []), (8, ((Or.bool false), 0, 0), [])] [6] [] [.old 3, .old 2, .old 1, .old 0] <| .ret [])) (.drw 0 [(1, ((Or.bool false), 0, 0), [])] [6] [] [.old 0] <| .ret []))))))))
    (by kernel_rfl) (by kernel_rfl) (by kernel_rfl) h

end Go.AM

/- The laws of lists of operations: undoing, composing. -/
namespace Go.AM
open Go.Proofs.Try

theorem mat_bd {n m : Nat} {l : List Opz} (hv : VO n l) (hl : l.length ≤ m) : BdM (129 ^ m) (mat n l) := by
  have := apL_bd hv (table_mx n n delta) (ident_bd n)
  rw [Nat.mul_one] at this
  exact this.mono (Nat.pow_le_pow_right (by decide) hl)

theorem apl_bd' {r c m : Nat} {l : List Opz} {a : List (List Int)} (hv : VO r l) (hl : l.length ≤ m) (ha : Mx r c a) (ka : BdM 9 a) : BdM (129 ^ m * 9) (apL r c l a) :=
  (apL_bd hv ha ka).mono (Nat.mul_le_mul_right 9 (Nat.pow_le_pow_right (by decide) hl))

theorem apply10 {r c : Nat} {l : List Opz} {m : List (List Int)} (hv : VO r l) (hl : l.length ≤ 10) (hm : Mx r c m) (km : BdM (129 ^ 10 * 9) m) (hr : r ≤ 4) (hc : c ≤ 4) : FnD prog 45 [vs (oL l), eM r c m] (eME r c (apL r c l m) 0) [] :=
  apply_ok hv (by omega) hm km (by omega) (by omega) (by decide) (Nat.le_trans (Nat.mul_le_mul_right _ (Nat.pow_le_pow_right (by decide) hl)) (by decide))

theorem undo10 {r c : Nat} {l : List Opz} {m : List (List Int)} (hv : VO r l) (hl : l.length ≤ 10) (hm : Mx r c m) (km : BdM (129 ^ 10 * 9) m) (hr : r ≤ 4) (hc : c ≤ 4) : FnD prog 46 [vs (oL l), eM r c m] (eME r c (apL r c (inL l) m) 0) [] :=
  undo_ok hv (by omega) hm km (by omega) (by omega) (by decide) (Nat.le_trans (Nat.mul_le_mul_right _ (Nat.pow_le_pow_right (by decide) hl)) (by decide))

theorem matrix20 {n : Nat} {l : List Opz} (hv : VO n l) (hl : l.length ≤ 20) (hn : n ≤ 4) : FnD prog 47 [vs (oL l), vi n] (eME n n (mat n l) 0) [] :=
  matrix_ok hv (by omega) (by omega) (Nat.le_trans (Nat.pow_le_pow_right (by decide) hl) (by decide))

theorem undoes_ok (x0 : Int) (g0 : IntKind.u8.min ≤ x0 ∧ x0 ≤ IntKind.u8.max) (x1 : Int) (g1 : IntKind.u8.min ≤ x1 ∧ x1 ≤ IntKind.u8.max) (l2 : List (List D)) (g2 : l2.length ≤ 9223372036854775807 ∧ ∀ x ∈ l2, DOKL [.i .i8] x)
    (l3 : List (List D)) (g3 : l3.length ≤ 9223372036854775807 ∧ ∀ x ∈ l3, DOKL [.i .u8, .i .u8, .i .u8, .i .i8] x) :
    FnD prog 8 [.e (.agg [.dat (.int .u8 x0), .dat (.int .u8 x1), .dat (.sl l2)]), .e (.sc (.dat (.sl l3)))] (vb true) [] := by
  obtain ⟨v, rfl, _⟩ := i8s_of g2
  obtain ⟨r, c, hr, hc, hA⟩ := rawmade_ok v g0.1 g1.1
  obtain ⟨a, ea⟩ : ∃ a, a = table r c (fillG c v) := ⟨_, rfl⟩
  have ma : Mx r c a := ea ▸ table_mx _ _ _
  have ka : BdM 9 a := ea ▸ filled_bd
  rw [← ea] at hA
  clear ea
  have hL : FnD prog 44 [vs l3, vi r, vi 10] (vs (oL (made r l3 10))) [] := ops_made (n := r) (m := 10) (by omega) (by decide) g3.2 g3.1
  have hv : VO r (made r l3 10) := made_VO g3.2
  have hl : (made r l3 10).length ≤ 10 := made_length _ _ _
  generalize made r l3 10 = l at hL hv hl
  have ka' : BdM (129 ^ 10 * 9) a := ka.mono (by decide)
  have mb := apL_mx l ma
  have kb := apl_bd' hv hl ma ka
  have md := apL_mx (inL l) ma
  have kd := apl_bd' hv.inv (by rw [inL_length]; exact hl) ma ka
  have h45 := apply10 hv hl ma ka' hr hc
  have h46 := undo10 hv hl mb kb hr hc
  rw [apL_inv hv.valid ma] at h46
  have h46' := undo10 hv hl ma ka' hr hc
  have h45' := apply10 hv hl md kd hr hc
  rw [apL_inv' hv.valid ma] at h45'
  have h47 := matrix20 hv (by omega) hr
  have h48 := invert_oL (l := l) (by omega)
  have h47' := matrix20 hv.inv (by rw [inL_length]; omega) hr
  have sb := sized_yes mb kb (by omega) (by omega) (by decide)
  have sd := sized_yes md kd (by omega) (by omega) (by decide)
  have mp := mat_mx r l
  have mq := mat_mx r (inL l)
  have kp : BdM (129 ^ 10) (mat r l) := mat_bd hv hl
  have kq : BdM (129 ^ 10) (mat r (inL l)) := mat_bd hv.inv (by rw [inL_length]; exact hl)
  have sp := sized_yes mp kp (by omega) (by omega) (by decide)
  have sq := sized_yes mq kq (by omega) (by omega) (by decide)
  have sa := same_yes ma ka' ka' rfl (by omega) (by omega) (by decide)
  have hP := m5prod_ok mp mq kp kq (by omega) (by omega) (by omega) (by decide)
  rw [mat_inv hv.valid] at hP
  have hI : FnD prog 49 [vi r] (eM r r (table r r delta)) [] := FnD.frz (rident_ok (by omega))
  have sI := same_yes (table_mx r r delta) (ident_bd r) (ident_bd r) rfl (by omega) (by omega) (by decide)
  have nt : ∀ {X : Prop}, (!true) = true → X := fun h => by simp at h
  have nz : ∀ {X : Prop}, ((0 : Int) != 0) = true → X := fun h => by simp at h
  have nf : ∀ {X : Prop}, true = false → X := fun h => by simp at h
  refine vc8_ok _ _ _ _ (R := Out _) ?_
  unfold vc8
  refine ⟨true, sanity18_ok, _, _, _, hA, _, hL, ?_⟩
  simp only [matD_om]
  refine ⟨_, _, _, _, h45, nz, fun _ => ⟨_, sb, nt, fun _ => ⟨_, _, _, _, h46, _, _, _, _, h46', nz, fun _ => ⟨nz, fun _ => ⟨_, sd, nt, fun _ => ?_⟩⟩⟩⟩⟩
  refine ⟨_, _, _, _, h45', _, _, _, _, h47, _, _, _, _, _, h48, h47', nz, fun _ => ⟨nz, fun _ => ⟨nz, fun _ => ⟨_, sp, nt, fun _ => ⟨_, sq, nt, fun _ => ⟨fun _ => ?_, nf⟩⟩⟩⟩⟩⟩
  exact ⟨_, sa, fun _ => ⟨_, sa, fun _ => ⟨_, _, _, _, _, _, _, hP, hI, sI, rfl, rfl⟩, nf⟩, nf⟩

theorem oL_append (l k : List Opz) : oL (l ++ k) = oL l ++ oL k := by simp [oL]
theorem oL_five (l : List Opz) : ∀ y ∈ oL l, y.length = 5 := fun y hy => by
  simp only [oL, List.mem_map] at hy
  obtain ⟨o, _, rfl⟩ := hy; rfl

theorem composes_ok (x0 : Int) (g0 : IntKind.u8.min ≤ x0 ∧ x0 ≤ IntKind.u8.max) (x1 : Int) (g1 : IntKind.u8.min ≤ x1 ∧ x1 ≤ IntKind.u8.max) (l2 : List (List D)) (g2 : l2.length ≤ 9223372036854775807 ∧ ∀ x ∈ l2, DOKL [.i .i8] x)
    (l3 : List (List D)) (g3 : l3.length ≤ 9223372036854775807 ∧ ∀ x ∈ l3, DOKL [.i .u8, .i .u8, .i .u8, .i .i8] x) (l4 : List (List D)) (g4 : l4.length ≤ 9223372036854775807 ∧ ∀ x ∈ l4, DOKL [.i .u8, .i .u8, .i .u8, .i .i8] x) :
    FnD prog 9 [.e (.agg [.dat (.int .u8 x0), .dat (.int .u8 x1), .dat (.sl l2)]), .e (.sc (.dat (.sl l3))), .e (.sc (.dat (.sl l4)))] (vb true) [] := by
  obtain ⟨v, rfl, _⟩ := i8s_of g2
  obtain ⟨r, c, hr, hc, hA⟩ := rawmade_ok v g0.1 g1.1
  obtain ⟨a, ea⟩ : ∃ a, a = table r c (fillG c v) := ⟨_, rfl⟩
  have ma : Mx r c a := ea ▸ table_mx _ _ _
  have ka : BdM 9 a := ea ▸ filled_bd
  rw [← ea] at hA
  clear ea
  have hL : FnD prog 44 [vs l3, vi r, vi 8] (vs (oL (made r l3 8))) [] := ops_made (n := r) (m := 8) (by omega) (by decide) g3.2 g3.1
  have hv : VO r (made r l3 8) := made_VO g3.2
  have hl : (made r l3 8).length ≤ 8 := made_length _ _ _
  generalize made r l3 8 = l at hL hv hl
  have hL' : FnD prog 44 [vs l4, vi r, vi 8] (vs (oL (made r l4 8))) [] := ops_made (n := r) (m := 8) (by omega) (by decide) g4.2 g4.1
  have hv' : VO r (made r l4 8) := made_VO g4.2
  have hl' : (made r l4 8).length ≤ 8 := made_length _ _ _
  generalize made r l4 8 = k at hL' hv' hl'
  have ka' : BdM (129 ^ 10 * 9) a := ka.mono (by decide)
  have kb := apl_bd' (m := 10) hv (by omega) ma ka
  have h45 := apply10 hv (by omega) ma ka' hr hc
  have h47 := matrix20 hv (by omega) hr
  have h47' := matrix20 hv' (by omega) hr
  have h47b := matrix20 (hv.append hv') (by simp; omega) hr
  rw [oL_append] at h47b
  have mp := mat_mx r l
  have mq := mat_mx r k
  have kp : BdM (129 ^ 10 * 9) (mat r l) := (mat_bd (m := 10) hv (by omega)).mono (by decide)
  have kq : BdM (129 ^ 10 * 9) (mat r k) := (mat_bd (m := 10) hv' (by omega)).mono (by decide)
  have sp := sized_yes mp kp (by omega) (by omega) (by decide)
  have sq := sized_yes mq kq (by omega) (by omega) (by decide)
  have hP := m5prod_ok mp ma kp ka' (by omega) (by omega) (by omega) (by decide)
  rw [← apL_mat hv.valid ma] at hP
  have sb := same_yes (apL_mx l ma) kb kb rfl (by omega) (by omega) (by decide)
  have hQ := m5prod_ok mq mp kq kp (by omega) (by omega) (by omega) (by decide)
  rw [← mat_append hv'.valid] at hQ
  have kr : BdM (129 ^ 16) (mat r (l ++ k)) := mat_bd (hv.append hv') (by simp; omega)
  have sr := same_yes (mat_mx r (l ++ k)) kr kr rfl (by omega) (by omega) (by decide)
  have nt : ∀ {X : Prop}, (!true) = true → X := fun h => by simp at h
  have nz : ∀ {X : Prop}, ((0 : Int) != 0) = true → X := fun h => by simp at h
  have nf : ∀ {X : Prop}, true = false → X := fun h => by simp at h
  refine vc9_ok _ _ _ _ _ (R := Out _) ?_
  unfold vc9
  refine ⟨true, sanity18_ok, _, _, _, hA, _, hL, _, hL', ?_⟩
  simp only [matD_om, List.nil_append, oL_length, List.length_nil]
  refine ⟨oL_five l, by omega, oL_five k, by omega, _, _, _, _, h45, _, _, _, _, h47, _, _, _, _, h47', _, _, _, _, h47b, nz, fun _ => ⟨nz, fun _ => ⟨nz, fun _ => ⟨nz, fun _ => ⟨_, sp, nt, fun _ => ⟨_, sq, nt, fun _ => ⟨fun _ => ?_, nf⟩⟩⟩⟩⟩⟩⟩
  exact ⟨_, _, _, _, hP, sb, fun _ => ⟨_, _, _, _, hQ, sr, rfl, rfl⟩, nf⟩

end Go.AM

/- What functions of the program come to: group Ob. Printed by vc.py. -/
set_option maxRecDepth 100000
set_option linter.unusedVariables false

namespace Go.AM
open Go.Proofs.Try

/- f120 torsion/torsionref12.Start -/
def vc120 (a0 : Int) (a1 : Int) (a2 : List (List D)) (R : V → Heap → Prop) : Prop :=
  ∃ (r0 : Int) (r1 : Int) (rrows : List (List (List D))) (r01 : Int) (r11 : Int) (rrows1 : List (List (List D))) (r02 : Int) (r12 : Int) (rrows2 : List (List (List D))),
  (FnD prog 66 [(vA [(sD (dI a0)), (sD (dI a1)), (sD (dL a2))])] (vA [(sD (dI r0)), (sD (dI r1)), (S.ref 0)]) [(some (Obj.mat 2 rrows))]) ∧
  (FnD prog 49 [(vD (dI a0))] (vA [(sD (dI r01)), (sD (dI r11)), (S.ref 0)]) [(some (Obj.mat 2 rrows1))]) ∧
  (FnD prog 49 [(vD (dI a0))] (vA [(sD (dI r02)), (sD (dI r12)), (S.ref 0)]) [(some (Obj.mat 2 rrows2))]) ∧
  (R (V.e (E.sc (S.ptr 0 0))) [(some (Obj.box [(sD (dI r0)), (sD (dI r1)), (S.ref 1), (sD (dI r01)), (sD (dI r11)), (S.ref 2), (sD (dI r02)), (sD (dI r12)), (S.ref 3)])), (some (Obj.mat 2 rrows)), (some (Obj.mat 2 rrows1)), (some (Obj.mat 2 rrows2))])

theorem vc120_ok (a0 : Int) (a1 : Int) (a2 : List (List D)) {R : V → Heap → Prop} (h : vc120 a0 a1 a2 R) : FnG prog 120 [(vA [(sD (dI a0)), (sD (dI a1)), (sD (dL a2))])] [] R :=
  FnG.vcg hT func120 ntmps120 (.reg 1 [(0, Or.none, 0, 1)] [1] [0] [] <| .ex fun r0 => .ex fun r1 => .exm fun rrows => .ex fun r01 => .ex fun r11 => .exm fun rrows1 => .ex fun r02 => .ex fun r12 => .exm fun rrows2 => .drw 4 [(1, ((Or.call (vA [(sD (dI r0)), (sD (dI r1)), (S.ref 0)]) [(some (Obj.mat 2 rrows))] []), 1, 1), [1]), (4, ((Or.call (vA [(sD (dI r01)), (sD (dI r11)), (S.ref 0)]) [(some (Obj.mat 2 rrows1))] []), 2, 1), [2]), (7, ((Or.call (vA [(sD (dI r02)), (sD (dI r12)), (S.ref 0)]) [(some (Obj.mat 2 rrows2))] []), 3, 1), [3]), (9, (Or.none, 4, 1), [4])] [2] [4, 1, 2, 3] [] <| .ret [0, 1, 2, 3])
    (by kernel_rfl) (by kernel_rfl) (by kernel_rfl) h

/- f121 (*torsion/torsionref12.Work).Swap -/
def vc121 (w0 : Int) (w1 : Int) (w2 : List (List (List D))) (w3 : Int) (w4 : Int) (w5 : List (List (List D))) (w6 : Int) (w7 : Int) (w8 : List (List (List D))) (i : Int) (j : Int) (R : V → Heap → Prop) : Prop :=
  (0 ≤ i ∧ i < (w2.length : Int)) ∧
  ((0 ≤ j ∧ j < (w2.length : Int)) ∧
  (((j).toNat = (j).toNat) ∧
  ((i).toNat = (i).toNat) ∧
  ((0 ≤ i ∧ i < (w5.length : Int)) ∧
  ((0 ≤ j ∧ j < (w5.length : Int)) ∧
  (∃ (J0 : (List (List (List D))) → Int → Prop) (μ0 : (List (List (List D))) → Int → Nat),
  J0 w8 (0 : Int) ∧ ∀ (o3 : List (List (List D))) (r : Int), J0 o3 r →
    ((decide (r < w6)) = true →
      ∃ (x0 : Bool) (x1 : List (List D)),
      (0 ≤ r ∧ r < (o3.length : Int)) ∧
      (∃ l, o3[(r).toNat]? = some l ∧ 0 ≤ i ∧ i < (l.length : Int)) ∧
      (at2 o3 (r).toNat (i).toNat = some [(dB x0), (dL x1)]) ∧
      (∃ (x01 : Bool) (x11 : List (List D)),
      (∃ l, o3[(r).toNat]? = some l ∧ 0 ≤ j ∧ j < (l.length : Int)) ∧
      (at2 o3 (r).toNat (j).toNat = some [(dB x01), (dL x11)]) ∧
      ((0 ≤ r ∧ r < ((o3.modify (r).toNat (fun r => r.set (i).toNat [(dB x01), (dL x11)])).length : Int)) ∧
      (∃ l, (o3.modify (r).toNat (fun r => r.set (i).toNat [(dB x01), (dL x11)]))[(r).toNat]? = some l ∧ 0 ≤ j ∧ j < (l.length : Int)) ∧
      (J0 ((o3.modify (r).toNat (fun r => r.set (i).toNat [(dB x01), (dL x11)])).modify (r).toNat (fun r => r.set (j).toNat [(dB x0), (dL x1)])) (IntKind.i64.wrap (r + (1 : Int))) ∧ μ0 ((o3.modify (r).toNat (fun r => r.set (i).toNat [(dB x01), (dL x11)])).modify (r).toNat (fun r => r.set (j).toNat [(dB x0), (dL x1)])) (IntKind.i64.wrap (r + (1 : Int))) < μ0 o3 r)))) ∧
    ((decide (r < w6)) = false →
      R (V.tup []) [(some (Obj.box [(sD (dI w0)), (sD (dI w1)), (S.ref 4), (sD (dI w3)), (sD (dI w4)), (S.ref 5), (sD (dI w6)), (sD (dI w7)), (S.ref 3)])), (some (Obj.fwd (S.ref 4))), (some (Obj.fwd (S.ref 5))), (some (Obj.mat 2 o3)), (some (Obj.mat 2 (swapR w2 ((i).toNat) ((j).toNat)))), (some (Obj.mat 2 (swapR w5 ((i).toNat) ((j).toNat))))]))))))

theorem vc121_ok (w0 : Int) (w1 : Int) (w2 : List (List (List D))) (w3 : Int) (w4 : Int) (w5 : List (List (List D))) (w6 : Int) (w7 : Int) (w8 : List (List (List D))) (i : Int) (j : Int) {R : V → Heap → Prop} (h : vc121 w0 w1 w2 w3 w4 w5 w6 w7 w8 i j R) : FnG prog 121 [(V.e (E.sc (S.ptr 0 0))), (vD (dI i)), (vD (dI j))] [(some (Obj.box [(sD (dI w0)), (sD (dI w1)), (S.ref 1), (sD (dI w3)), (sD (dI w4)), (S.ref 2), (sD (dI w6)), (sD (dI w7)), (S.ref 3)])), (some (Obj.mat 2 w2)), (some (Obj.mat 2 w5)), (some (Obj.mat 2 w8))] R :=
  FnG.vcg hT func121 ntmps121 (.r1 [0, 1, 2, 6] [0, 1, 2, 3] <| .drw 0 [(15, (Or.none, 0, 0), [1])] [0, 1, 2, 6] [0, 1, 2, 3] [.new, .old 1] <| .reg 1 [(8, Or.none, 4, 1)] [0, 1, 2] [0, 1, 2, 3, 4] [.old 0] <| .fwd [] [0] <| .r1 [0, 1, 2, 6] [0, 1, 2, 3, 4] <| .fwd [] [] <| .drw 0 [(15, (Or.none, 0, 0), [2])] [0, 1, 2, 6] [0, 1, 2, 3, 4] [.new, .old 1] <| .fwd [] [] <| .reg 1 [(8, Or.none, 5, 1)] [0, 1, 2] [0, 1, 2, 3, 4, 5] [.old 0, .old 3, .old 2] <| .fwd [] [0] <| .r1 [0, 1, 2, 7] [0, 1, 2, 3, 4, 5] <| .fwd [] [] <| .lp [.m, .i] (fun o3 r => ⟨[(0, (vP 0 0)), (1, (vD (dI i))), (2, (vD (dI j))), (7, (vD (dI r)))], [(some (Obj.box [(sD (dI w0)), (sD (dI w1)), (S.ref 4), (sD (dI w3)), (sD (dI w4)), (S.ref 5), (sD (dI w6)), (sD (dI w7)), (S.ref 3)])), (some (Obj.fwd (S.ref 4))), (some (Obj.fwd (S.ref 5))), (some (Obj.mat 2 o3)), (some (Obj.mat 2 (swapR w2 ((i).toNat) ((j).toNat)))), (some (Obj.mat 2 (swapR w5 ((i).toNat) ((j).toNat))))], 123⟩) [.m w8, .i (0 : Int)] <| .fm fun o3 => .fi fun r => .beg <| .r1 [0, 1, 2, 7, 77] [0, 1, 2, 3, 4, 5] <| .fwd [] [] <| .c2 (.exb fun x0 => .exl fun x1 => .reg 1 [(10, (Or.cells [(dB x0), (dL x1)]), 0, 0), (11, Or.none, 6, 1)] [0, 1, 2, 7, 8] [0, 1, 2, 3, 6, 4, 5] [] <| .fwd [] [] <| .exb fun x01 => .exl fun x11 => .drw 0 [(19, ((Or.cells [(dB x01), (dL x11)]), 0, 0), []), (21, (Or.none, 0, 0), [3])] [0, 1, 2, 7, 8] [0, 1, 2, 3, 4, 5, 6] [.old 2, .old 2, .new, .new, .old 3] <| .fwd [] [] <| .drw 0 [(11, (Or.none, 0, 0), [3])] [0, 1, 2, 7] [0, 1, 2, 3, 5, 6] [] <| .fwd [] [] <| .r1 [0, 1, 2, 7] [0, 1, 2, 3, 4, 5] <| .fwd [] [] <| .bk 0 [.m ((o3.modify (r).toNat (fun r => r.set (i).toNat [(dB x01), (dL x11)])).modify (r).toNat (fun r => r.set (j).toNat [(dB x0), (dL x1)])), .i (IntKind.i64.wrap (r + (1 : Int)))]) (.ret [0, 1, 2, 3, 4, 5]))
    (by kernel_rfl) (by kernel_rfl) (by kernel_rfl) h

/- f122 (*torsion/torsionref12.Work).Negate -/
def vc122 (w0 : Int) (w1 : Int) (w2 : List (List (List D))) (w3 : Int) (w4 : Int) (w5 : List (List (List D))) (w6 : Int) (w7 : Int) (w8 : List (List (List D))) (i : Int) (R : V → Heap → Prop) : Prop :=
  ∃ (J0 : (List (List (List D))) → Int → Prop) (μ0 : (List (List (List D))) → Int → Nat),
  J0 w2 (0 : Int) ∧ ∀ (o1 : List (List (List D))) (c : Int), J0 o1 c →
    ((decide (c < w1)) = true →
      ∃ (x0 : Bool) (x1 : List (List D)) (r0 : Bool) (r1 : List (List D)),
      (0 ≤ i ∧ i < (o1.length : Int)) ∧
      (∃ l, o1[(i).toNat]? = some l ∧ 0 ≤ c ∧ c < (l.length : Int)) ∧
      (at2 o1 (i).toNat (c).toNat = some [(dB x0), (dL x1)]) ∧
      (FnD prog 104 [(vA [(sD (dB x0)), (sD (dL x1))])] (vA [(sD (dB r0)), (sD (dL r1))]) []) ∧
      (J0 (o1.modify (i).toNat (fun r => r.set (c).toNat [(dB r0), (dL r1)])) (IntKind.i64.wrap (c + (1 : Int))) ∧ μ0 (o1.modify (i).toNat (fun r => r.set (c).toNat [(dB r0), (dL r1)])) (IntKind.i64.wrap (c + (1 : Int))) < μ0 o1 c)) ∧
    ((decide (c < w1)) = false →
      ∃ (J1 : (List (List (List D))) → Int → Prop) (μ1 : (List (List (List D))) → Int → Nat),
      J1 w5 (0 : Int) ∧ ∀ (o2 : List (List (List D))) (c1 : Int), J1 o2 c1 →
        ((decide (c1 < w4)) = true →
          ∃ (x01 : Bool) (x11 : List (List D)) (r01 : Bool) (r11 : List (List D)),
          (0 ≤ i ∧ i < (o2.length : Int)) ∧
          (∃ l, o2[(i).toNat]? = some l ∧ 0 ≤ c1 ∧ c1 < (l.length : Int)) ∧
          (at2 o2 (i).toNat (c1).toNat = some [(dB x01), (dL x11)]) ∧
          (FnD prog 104 [(vA [(sD (dB x01)), (sD (dL x11))])] (vA [(sD (dB r01)), (sD (dL r11))]) []) ∧
          (J1 (o2.modify (i).toNat (fun r => r.set (c1).toNat [(dB r01), (dL r11)])) (IntKind.i64.wrap (c1 + (1 : Int))) ∧ μ1 (o2.modify (i).toNat (fun r => r.set (c1).toNat [(dB r01), (dL r11)])) (IntKind.i64.wrap (c1 + (1 : Int))) < μ1 o2 c1)) ∧
        ((decide (c1 < w4)) = false →
          ∃ (J2 : (List (List (List D))) → Int → Prop) (μ2 : (List (List (List D))) → Int → Nat),
          J2 w8 (0 : Int) ∧ ∀ (o3 : List (List (List D))) (r : Int), J2 o3 r →
            ((decide (r < w6)) = true →
              ∃ (x02 : Bool) (x12 : List (List D)) (r02 : Bool) (r12 : List (List D)),
              (0 ≤ r ∧ r < (o3.length : Int)) ∧
              (∃ l, o3[(r).toNat]? = some l ∧ 0 ≤ i ∧ i < (l.length : Int)) ∧
              (at2 o3 (r).toNat (i).toNat = some [(dB x02), (dL x12)]) ∧
              (FnD prog 104 [(vA [(sD (dB x02)), (sD (dL x12))])] (vA [(sD (dB r02)), (sD (dL r12))]) []) ∧
              (J2 (o3.modify (r).toNat (fun r => r.set (i).toNat [(dB r02), (dL r12)])) (IntKind.i64.wrap (r + (1 : Int))) ∧ μ2 (o3.modify (r).toNat (fun r => r.set (i).toNat [(dB r02), (dL r12)])) (IntKind.i64.wrap (r + (1 : Int))) < μ2 o3 r)) ∧
            ((decide (r < w6)) = false →
              R (V.tup []) [(some (Obj.box [(sD (dI w0)), (sD (dI w1)), (S.ref 1), (sD (dI w3)), (sD (dI w4)), (S.ref 2), (sD (dI w6)), (sD (dI w7)), (S.ref 3)])), (some (Obj.mat 2 o1)), (some (Obj.mat 2 o2)), (some (Obj.mat 2 o3))])))

theorem vc122_ok (w0 : Int) (w1 : Int) (w2 : List (List (List D))) (w3 : Int) (w4 : Int) (w5 : List (List (List D))) (w6 : Int) (w7 : Int) (w8 : List (List (List D))) (i : Int) {R : V → Heap → Prop} (h : vc122 w0 w1 w2 w3 w4 w5 w6 w7 w8 i R) : FnG prog 122 [(V.e (E.sc (S.ptr 0 0))), (vD (dI i))] [(some (Obj.box [(sD (dI w0)), (sD (dI w1)), (S.ref 1), (sD (dI w3)), (sD (dI w4)), (S.ref 2), (sD (dI w6)), (sD (dI w7)), (S.ref 3)])), (some (Obj.mat 2 w2)), (some (Obj.mat 2 w5)), (some (Obj.mat 2 w8))] R :=
  FnG.vcg hT func122 ntmps122 (.r1 [0, 1, 4] [0, 1, 2, 3] <| .lp [.m, .i] (fun o1 c => ⟨[(0, (vP 0 0)), (1, (vD (dI i))), (4, (vD (dI c)))], [(some (Obj.box [(sD (dI w0)), (sD (dI w1)), (S.ref 1), (sD (dI w3)), (sD (dI w4)), (S.ref 2), (sD (dI w6)), (sD (dI w7)), (S.ref 3)])), (some (Obj.mat 2 o1)), (some (Obj.mat 2 w5)), (some (Obj.mat 2 w8))], 100⟩) [.m w2, .i (0 : Int)] <| .fm fun o1 => .fi fun c => .beg <| .r1 [0, 1, 4, 13] [0, 1, 2, 3] <| .c2 (.exb fun x0 => .exl fun x1 => .exb fun r0 => .exl fun r1 => .drw 0 [(19, ((Or.cells [(dB x0), (dL x1)]), 0, 0), []), (20, ((Or.call (vA [(sD (dB r0)), (sD (dL r1))]) [] []), 0, 0), []), (22, (Or.none, 0, 0), [1])] [0, 1, 4] [0, 1, 2, 3] [.new, .old 0, .new, .new, .new, .old 2] <| .r1 [0, 1, 4] [0, 1, 2, 3] <| .bk 0 [.m (o1.modify (i).toNat (fun r => r.set (c).toNat [(dB r0), (dL r1)])), .i (IntKind.i64.wrap (c + (1 : Int)))]) (.r1 [0, 1, 5] [0, 1, 2, 3] <| .lp [.m, .i] (fun o2 c1 => ⟨[(0, (vP 0 0)), (1, (vD (dI i))), (5, (vD (dI c1)))], [(some (Obj.box [(sD (dI w0)), (sD (dI w1)), (S.ref 1), (sD (dI w3)), (sD (dI w4)), (S.ref 2), (sD (dI w6)), (sD (dI w7)), (S.ref 3)])), (some (Obj.mat 2 o1)), (some (Obj.mat 2 o2)), (some (Obj.mat 2 w8))], 100⟩) [.m w5, .i (0 : Int)] <| .fm fun o2 => .fi fun c1 => .beg <| .r1 [0, 1, 5, 44] [0, 1, 2, 3] <| .c2 (.exb fun x01 => .exl fun x11 => .exb fun r01 => .exl fun r11 => .drw 0 [(19, ((Or.cells [(dB x01), (dL x11)]), 0, 0), []), (20, ((Or.call (vA [(sD (dB r01)), (sD (dL r11))]) [] []), 0, 0), []), (22, (Or.none, 0, 0), [2])] [0, 1, 5] [0, 1, 2, 3] [.new, .old 0, .new, .new, .new, .old 2] <| .r1 [0, 1, 5] [0, 1, 2, 3] <| .bk 0 [.m (o2.modify (i).toNat (fun r => r.set (c1).toNat [(dB r01), (dL r11)])), .i (IntKind.i64.wrap (c1 + (1 : Int)))]) (.r1 [0, 1, 6] [0, 1, 2, 3] <| .lp [.m, .i] (fun o3 r => ⟨[(0, (vP 0 0)), (1, (vD (dI i))), (6, (vD (dI r)))], [(some (Obj.box [(sD (dI w0)), (sD (dI w1)), (S.ref 1), (sD (dI w3)), (sD (dI w4)), (S.ref 2), (sD (dI w6)), (sD (dI w7)), (S.ref 3)])), (some (Obj.mat 2 o1)), (some (Obj.mat 2 o2)), (some (Obj.mat 2 o3))], 100⟩) [.m w8, .i (0 : Int)] <| .fm fun o3 => .fi fun r => .beg <| .r1 [0, 1, 6, 75] [0, 1, 2, 3] <| .c2 (.exb fun x02 => .exl fun x12 => .exb fun r02 => .exl fun r12 => .drw 0 [(19, ((Or.cells [(dB x02), (dL x12)]), 0, 0), []), (20, ((Or.call (vA [(sD (dB r02)), (sD (dL r12))]) [] []), 0, 0), []), (22, (Or.none, 0, 0), [3])] [0, 1, 6] [0, 1, 2, 3] [.new, .old 0, .new, .new, .new, .old 2] <| .r1 [0, 1, 6] [0, 1, 2, 3] <| .bk 0 [.m (o3.modify (r).toNat (fun r => r.set (i).toNat [(dB r02), (dL r12)])), .i (IntKind.i64.wrap (r + (1 : Int)))]) (.ret [0, 1, 2, 3]))))
    (by kernel_rfl) (by kernel_rfl) (by kernel_rfl) h

/- f123 (*torsion/torsionref12.Work).AddTo -/
def vc123 (w0 : Int) (w1 : Int) (w2 : List (List (List D))) (w3 : Int) (w4 : Int) (w5 : List (List (List D))) (w6 : Int) (w7 : Int) (w8 : List (List (List D))) (i : Int) (j : Int) (k0 : Bool) (k1 : List (List D)) (R : V → Heap → Prop) : Prop :=
  ∃ (J0 : (List (List (List D))) → Int → Prop) (μ0 : (List (List (List D))) → Int → Nat),
  J0 w2 (0 : Int) ∧ ∀ (o1 : List (List (List D))) (c : Int), J0 o1 c →
    ((decide (c < w1)) = true →
      ∃ (x0 : Bool) (x1 : List (List D)) (x01 : Bool) (x11 : List (List D)) (r0 : Bool) (r1 : List (List D)) (r01 : Bool) (r11 : List (List D)),
      (0 ≤ i ∧ i < (o1.length : Int)) ∧
      (∃ l, o1[(i).toNat]? = some l ∧ 0 ≤ c ∧ c < (l.length : Int)) ∧
      (at2 o1 (i).toNat (c).toNat = some [(dB x0), (dL x1)]) ∧
      (0 ≤ j ∧ j < (o1.length : Int)) ∧
      (∃ l, o1[(j).toNat]? = some l ∧ 0 ≤ c ∧ c < (l.length : Int)) ∧
      (at2 o1 (j).toNat (c).toNat = some [(dB x01), (dL x11)]) ∧
      (FnD prog 110 [(vA [(sD (dB k0)), (sD (dL k1))]), (vA [(sD (dB x01)), (sD (dL x11))])] (vA [(sD (dB r0)), (sD (dL r1))]) []) ∧
      (FnD prog 82 [(vA [(sD (dB x0)), (sD (dL x1))]), (vA [(sD (dB r0)), (sD (dL r1))])] (vA [(sD (dB r01)), (sD (dL r11))]) []) ∧
      (J0 (o1.modify (i).toNat (fun r => r.set (c).toNat [(dB r01), (dL r11)])) (IntKind.i64.wrap (c + (1 : Int))) ∧ μ0 (o1.modify (i).toNat (fun r => r.set (c).toNat [(dB r01), (dL r11)])) (IntKind.i64.wrap (c + (1 : Int))) < μ0 o1 c)) ∧
    ((decide (c < w1)) = false →
      ∃ (J1 : (List (List (List D))) → Int → Prop) (μ1 : (List (List (List D))) → Int → Nat),
      J1 w5 (0 : Int) ∧ ∀ (o2 : List (List (List D))) (c1 : Int), J1 o2 c1 →
        ((decide (c1 < w4)) = true →
          ∃ (x02 : Bool) (x12 : List (List D)) (x03 : Bool) (x13 : List (List D)) (r02 : Bool) (r12 : List (List D)) (r03 : Bool) (r13 : List (List D)),
          (0 ≤ i ∧ i < (o2.length : Int)) ∧
          (∃ l, o2[(i).toNat]? = some l ∧ 0 ≤ c1 ∧ c1 < (l.length : Int)) ∧
          (at2 o2 (i).toNat (c1).toNat = some [(dB x02), (dL x12)]) ∧
          (0 ≤ j ∧ j < (o2.length : Int)) ∧
          (∃ l, o2[(j).toNat]? = some l ∧ 0 ≤ c1 ∧ c1 < (l.length : Int)) ∧
          (at2 o2 (j).toNat (c1).toNat = some [(dB x03), (dL x13)]) ∧
          (FnD prog 110 [(vA [(sD (dB k0)), (sD (dL k1))]), (vA [(sD (dB x03)), (sD (dL x13))])] (vA [(sD (dB r02)), (sD (dL r12))]) []) ∧
          (FnD prog 82 [(vA [(sD (dB x02)), (sD (dL x12))]), (vA [(sD (dB r02)), (sD (dL r12))])] (vA [(sD (dB r03)), (sD (dL r13))]) []) ∧
          (J1 (o2.modify (i).toNat (fun r => r.set (c1).toNat [(dB r03), (dL r13)])) (IntKind.i64.wrap (c1 + (1 : Int))) ∧ μ1 (o2.modify (i).toNat (fun r => r.set (c1).toNat [(dB r03), (dL r13)])) (IntKind.i64.wrap (c1 + (1 : Int))) < μ1 o2 c1)) ∧
        ((decide (c1 < w4)) = false →
          ∃ (J2 : (List (List (List D))) → Int → Prop) (μ2 : (List (List (List D))) → Int → Nat),
          J2 w8 (0 : Int) ∧ ∀ (o3 : List (List (List D))) (r : Int), J2 o3 r →
            ((decide (r < w6)) = true →
              ∃ (x04 : Bool) (x14 : List (List D)) (x05 : Bool) (x15 : List (List D)) (r04 : Bool) (r14 : List (List D)) (r05 : Bool) (r15 : List (List D)),
              (0 ≤ r ∧ r < (o3.length : Int)) ∧
              (∃ l, o3[(r).toNat]? = some l ∧ 0 ≤ j ∧ j < (l.length : Int)) ∧
              (at2 o3 (r).toNat (j).toNat = some [(dB x04), (dL x14)]) ∧
              (∃ l, o3[(r).toNat]? = some l ∧ 0 ≤ i ∧ i < (l.length : Int)) ∧
              (at2 o3 (r).toNat (i).toNat = some [(dB x05), (dL x15)]) ∧
              (FnD prog 110 [(vA [(sD (dB k0)), (sD (dL k1))]), (vA [(sD (dB x05)), (sD (dL x15))])] (vA [(sD (dB r04)), (sD (dL r14))]) []) ∧
              (FnD prog 151 [(vA [(sD (dB x04)), (sD (dL x14))]), (vA [(sD (dB r04)), (sD (dL r14))])] (vA [(sD (dB r05)), (sD (dL r15))]) []) ∧
              (J2 (o3.modify (r).toNat (fun r => r.set (j).toNat [(dB r05), (dL r15)])) (IntKind.i64.wrap (r + (1 : Int))) ∧ μ2 (o3.modify (r).toNat (fun r => r.set (j).toNat [(dB r05), (dL r15)])) (IntKind.i64.wrap (r + (1 : Int))) < μ2 o3 r)) ∧
            ((decide (r < w6)) = false →
              R (V.tup []) [(some (Obj.box [(sD (dI w0)), (sD (dI w1)), (S.ref 1), (sD (dI w3)), (sD (dI w4)), (S.ref 2), (sD (dI w6)), (sD (dI w7)), (S.ref 3)])), (some (Obj.mat 2 o1)), (some (Obj.mat 2 o2)), (some (Obj.mat 2 o3))])))

theorem vc123_ok (w0 : Int) (w1 : Int) (w2 : List (List (List D))) (w3 : Int) (w4 : Int) (w5 : List (List (List D))) (w6 : Int) (w7 : Int) (w8 : List (List (List D))) (i : Int) (j : Int) (k0 : Bool) (k1 : List (List D)) {R : V → Heap → Prop} (h : vc123 w0 w1 w2 w3 w4 w5 w6 w7 w8 i j k0 k1 R) : FnG prog 123 [(V.e (E.sc (S.ptr 0 0))), (vD (dI i)), (vD (dI j)), (vA [(sD (dB k0)), (sD (dL k1))])] [(some (Obj.box [(sD (dI w0)), (sD (dI w1)), (S.ref 1), (sD (dI w3)), (sD (dI w4)), (S.ref 2), (sD (dI w6)), (sD (dI w7)), (S.ref 3)])), (some (Obj.mat 2 w2)), (some (Obj.mat 2 w5)), (some (Obj.mat 2 w8))] R :=
  FnG.vcg hT func123 ntmps123 (.reg 1 [(0, Or.none, 4, 1)] [0, 1, 2, 7] [0, 1, 2, 3, 4] [] <| .r1 [0, 1, 2, 7, 8] [0, 1, 2, 3, 4] <| .lp [.m, .i] (fun o1 c => ⟨[(0, (vP 0 0)), (1, (vD (dI i))), (2, (vD (dI j))), (7, (vP 4 0)), (8, (vD (dI c)))], [(some (Obj.box [(sD (dI w0)), (sD (dI w1)), (S.ref 1), (sD (dI w3)), (sD (dI w4)), (S.ref 2), (sD (dI w6)), (sD (dI w7)), (S.ref 3)])), (some (Obj.mat 2 o1)), (some (Obj.mat 2 w5)), (some (Obj.mat 2 w8)), (some (Obj.box [(sD (dB k0)), (sD (dL k1))]))], 143⟩) [.m w2, .i (0 : Int)] <| .fm fun o1 => .fi fun c => .beg <| .r1 [0, 1, 2, 7, 8, 17] [0, 1, 2, 3, 4] <| .c2 (.exb fun x0 => .exl fun x1 => .exb fun x01 => .exl fun x11 => .exb fun r0 => .exl fun r1 => .exb fun r01 => .exl fun r11 => .drw 0 [(19, ((Or.cells [(dB x0), (dL x1)]), 0, 0), []), (31, ((Or.cells [(dB x01), (dL x11)]), 0, 0), []), (32, ((Or.call (vA [(sD (dB r0)), (sD (dL r1))]) [] []), 0, 0), []), (33, ((Or.call (vA [(sD (dB r01)), (sD (dL r11))]) [] []), 0, 0), []), (35, (Or.none, 0, 0), [1])] [0, 1, 2, 7, 8] [0, 1, 2, 3, 4] [.new, .old 0, .new, .new, .new, .new, .new, .new, .new, .old 6] <| .r1 [0, 1, 2, 7, 8] [0, 1, 2, 3, 4] <| .bk 0 [.m (o1.modify (i).toNat (fun r => r.set (c).toNat [(dB r01), (dL r11)])), .i (IntKind.i64.wrap (c + (1 : Int)))]) (.r1 [0, 1, 2, 7, 9] [0, 1, 2, 3, 4] <| .lp [.m, .i] (fun o2 c1 => ⟨[(0, (vP 0 0)), (1, (vD (dI i))), (2, (vD (dI j))), (7, (vP 4 0)), (9, (vD (dI c1)))], [(some (Obj.box [(sD (dI w0)), (sD (dI w1)), (S.ref 1), (sD (dI w3)), (sD (dI w4)), (S.ref 2), (sD (dI w6)), (sD (dI w7)), (S.ref 3)])), (some (Obj.mat 2 o1)), (some (Obj.mat 2 o2)), (some (Obj.mat 2 w8)), (some (Obj.box [(sD (dB k0)), (sD (dL k1))]))], 143⟩) [.m w5, .i (0 : Int)] <| .fm fun o2 => .fi fun c1 => .beg <| .r1 [0, 1, 2, 7, 9, 61] [0, 1, 2, 3, 4] <| .c2 (.exb fun x02 => .exl fun x12 => .exb fun x03 => .exl fun x13 => .exb fun r02 => .exl fun r12 => .exb fun r03 => .exl fun r13 => .drw 0 [(19, ((Or.cells [(dB x02), (dL x12)]), 0, 0), []), (31, ((Or.cells [(dB x03), (dL x13)]), 0, 0), []), (32, ((Or.call (vA [(sD (dB r02)), (sD (dL r12))]) [] []), 0, 0), []), (33, ((Or.call (vA [(sD (dB r03)), (sD (dL r13))]) [] []), 0, 0), []), (35, (Or.none, 0, 0), [2])] [0, 1, 2, 7, 9] [0, 1, 2, 3, 4] [.new, .old 0, .new, .new, .new, .new, .new, .new, .new, .old 6] <| .r1 [0, 1, 2, 7, 9] [0, 1, 2, 3, 4] <| .bk 0 [.m (o2.modify (i).toNat (fun r => r.set (c1).toNat [(dB r03), (dL r13)])), .i (IntKind.i64.wrap (c1 + (1 : Int)))]) (.r1 [0, 1, 2, 7, 10] [0, 1, 2, 3, 4] <| .lp [.m, .i] (fun o3 r => ⟨[(0, (vP 0 0)), (1, (vD (dI i))), (2, (vD (dI j))), (7, (vP 4 0)), (10, (vD (dI r)))], [(some (Obj.box [(sD (dI w0)), (sD (dI w1)), (S.ref 1), (sD (dI w3)), (sD (dI w4)), (S.ref 2), (sD (dI w6)), (sD (dI w7)), (S.ref 3)])), (some (Obj.mat 2 o1)), (some (Obj.mat 2 o2)), (some (Obj.mat 2 o3)), (some (Obj.box [(sD (dB k0)), (sD (dL k1))]))], 143⟩) [.m w8, .i (0 : Int)] <| .fm fun o3 => .fi fun r => .beg <| .r1 [0, 1, 2, 7, 10, 105] [0, 1, 2, 3, 4] <| .c2 (.exb fun x04 => .exl fun x14 => .exb fun x05 => .exl fun x15 => .exb fun r04 => .exl fun r14 => .exb fun r05 => .exl fun r15 => .drw 0 [(19, ((Or.cells [(dB x04), (dL x14)]), 0, 0), []), (31, ((Or.cells [(dB x05), (dL x15)]), 0, 0), []), (32, ((Or.call (vA [(sD (dB r04)), (sD (dL r14))]) [] []), 0, 0), []), (33, ((Or.call (vA [(sD (dB r05)), (sD (dL r15))]) [] []), 0, 0), []), (35, (Or.none, 0, 0), [3])] [0, 1, 2, 7, 10] [0, 1, 2, 3, 4] [.new, .old 0, .new, .new, .old 2, .new, .new, .new, .new, .old 5] <| .r1 [0, 1, 2, 7, 10] [0, 1, 2, 3, 4] <| .bk 0 [.m (o3.modify (r).toNat (fun r => r.set (j).toNat [(dB r05), (dL r15)])), .i (IntKind.i64.wrap (r + (1 : Int)))]) (.ret [0, 1, 2, 3]))))
    (by kernel_rfl) (by kernel_rfl) (by kernel_rfl) h

end Go.AM

/- torsionref18.Apply: the operations on a matrix with its transforms. -/
namespace Go.AM
open Go.Proofs.Try

theorem rsub_ok {x y : Int} (hx : Sz x) (hy : Sz y) : FnD prog 151 [eI x, eI y] (eI (x - y)) [] := by
  refine vc151_ok _ _ _ _ (R := Out _) ?_
  unfold vc151
  have hy' : Sz (-y) := by unfold Sz; rw [Int.natAbs_neg]; exact hy
  have h := radd_ok hx hy'
  rw [← Int.sub_eq_add_neg] at h
  exact ⟨_, _, _, _, rneg_ok hy, h, rfl, rfl⟩

/-- The same operation, undone, on the columns. -/
def colF (o : Opz) (f : Nat → Nat → Int) (a b : Nat) : Int :=
  if o.k = 1 then (if b = o.i then f a o.j else if b = o.j then f a o.i else f a b)
  else if o.k = 2 then (if b = o.i then - f a b else f a b)
  else if b = o.j then f a b - o.z * f a o.i else f a b

def apC (n : Nat) (o : Opz) (m : List (List Int)) : List (List Int) := table n n (colF o (el m))
def apCL (n : Nat) : List Opz → List (List Int) → List (List Int)
  | [], m => m
  | o :: l, m => apCL n l (apC n o m)

theorem apC_mx (n : Nat) (o : Opz) (m : List (List Int)) : Mx n n (apC n o m) := table_mx _ _ _
theorem apCL_mx {n : Nat} : ∀ (l : List Opz) {m : List (List Int)}, Mx n n m → Mx n n (apCL n l m)
  | [], _, h => h
  | _ :: l, _, _ => apCL_mx l (apC_mx _ _ _)

theorem apCL_append {n : Nat} : ∀ (l l' : List Opz) (m : List (List Int)), apCL n (l ++ l') m = apCL n l' (apCL n l m)
  | [], _, _ => rfl
  | o :: l, l', m => by simp only [List.cons_append, apCL]; exact apCL_append l l' _

theorem apCL_take {n : Nat} {l : List Opz} {m : List (List Int)} {i : Nat} (hi : i < l.length) : apCL n (l.take (i + 1)) m = apC n l[i] (apCL n (l.take i) m) := by
  rw [List.take_add_one, apCL_append, List.getElem?_eq_getElem hi]; rfl

theorem apC_bd {n K : Nat} {o : Opz} {m : List (List Int)} (h : vO n o = true) (hz : o.z.natAbs ≤ 1280) (hm : Mx n n m) (km : BdM K m) : BdM (1281 * K) (apC n o m) := table_bd fun a b ha hb => by
  obtain ⟨hi, _⟩ := vO_ok h
  have hj := vO_j h
  have e1 := el_bd hm km ha hb
  have e2 := el_bd hm km ha hi
  unfold colF
  by_cases h1 : o.k = 1
  · have e3 := el_bd hm km ha (hj (by omega))
    simp only [h1, if_true]
    repeat' split
    all_goals omega
  · simp only [h1, if_false]
    by_cases h2 : o.k = 2
    · simp only [h2, if_true]
      repeat' split
      all_goals omega
    · simp only [h2, if_false]
      split
      · have e4 := mul_natAbs_le hz e2
        have := Int.natAbs_sub_le (el m a b) (o.z * el m a o.i)
        omega
      · omega

theorem apCL_bd {n : Nat} : ∀ {l : List Opz} {K : Nat} {m : List (List Int)}, (∀ o ∈ l, vO n o = true ∧ o.z.natAbs ≤ 1280) → Mx n n m → BdM K m → BdM (1281 ^ l.length * K) (apCL n l m)
  | [], K, m, _, _, km => by simpa [apCL] using km
  | o :: l, K, m, h, hm, km => by
    have := apCL_bd (l := l) (fun o' ho' => h o' (by simp [ho'])) (apC_mx n o m) (apC_bd (h o (by simp)).1 (h o (by simp)).2 hm km)
    rw [← Nat.mul_assoc, ← Nat.pow_succ] at this
    exact this

/-- The first rows are done. -/
def cP (o : Opz) (f : Nat → Nat → Int) (t : Nat) (a b : Nat) : Int := if a < t then colF o f a b else f a b

theorem cP_zero {n : Nat} {o : Opz} {m : List (List Int)} (hm : Mx n n m) : om m = om (table n n (cP o (el m) 0)) := by
  congr 1
  refine Eq.trans (mx_table hm) (table_congr fun a b _ _ => ?_)
  simp [cP]

theorem cP_all {n : Nat} {o : Opz} {m : List (List Int)} : om (table n n (cP o (el m) n)) = om (apC n o m) := by
  unfold apC
  congr 1
  exact table_congr fun a b ha _ => by unfold cP; rw [if_pos ha]

theorem cP_at {o : Opz} {f : Nat → Nat → Int} {t b : Nat} : cP o f t t b = f t b := by unfold cP; rw [if_neg (by omega)]

theorem cP_one {n : Nat} {o : Opz} {f : Nat → Nat → Int} {t j : Nat} {v : Int} (ht : t < n) (hj : j < n) (hv : colF o f t j = v) (ho : ∀ b, b < n → b ≠ j → colF o f t b = f t b) :
    (om (table n n (cP o f t))).modify t (fun q => q.set j (cI v)) = om (table n n (cP o f (t + 1))) := by
  refine Eq.trans (om_set ht hj) ?_
  congr 1
  refine table_congr fun a b _ hb => ?_
  unfold cP
  by_cases h1 : a = t ∧ b = j
  · rw [if_pos h1, if_pos (by omega), h1.1, h1.2, hv]
  · rw [if_neg h1]
    by_cases h2 : a < t
    · rw [if_pos h2, if_pos (by omega)]
    · rw [if_neg h2]
      by_cases h3 : a = t
      · subst h3
        rw [if_pos (by omega), ho b hb (by omega)]
      · rw [if_neg (by omega)]

/-- The work matrices: a box with three matrices of one's own. -/
def wH (r c : Nat) (m u v : List (List Int)) : Heap :=
  [some (.box [sD (dI r), sD (dI c), .ref 1, sD (dI r), sD (dI r), .ref 2, sD (dI r), sD (dI r), .ref 3]), some (.mat 2 (om m)), some (.mat 2 (om u)), some (.mat 2 (om v))]

theorem start_ok {r c K : Nat} {m : List (List Int)} (hm : Mx r c m) (km : BdM K m) (hr : r ≤ 4294967296) (hc : c ≤ 4294967296) (hK : K ≤ 1329227995784915872903807060280344576) :
    FnO prog 120 [eM r c m] [] (vP 0 0) (wH r c m (table r r delta) (table r r delta)) := by
  refine vc120_ok _ _ _ (R := fun x y => x = vP 0 0 ∧ y = wH r c m (table r r delta) (table r r delta)) ?_
  unfold vc120
  exact ⟨_, _, _, _, _, _, _, _, _, m5copied_ok hm km hr hc hK, rident_ok hr, rident_ok hr, rfl, rfl⟩

theorem swapR_om {r c : Nat} {o : Opz} {m : List (List Int)} (h : vO r o = true) (hk : o.k = 1) (hm : Mx r c m) : swapR (om m) o.i o.j = om (apO r c o m) := by
  obtain ⟨hi, _⟩ := vO_ok h
  have hj := vO_j h (by omega)
  rw [mx_table hm]
  unfold swapR apO
  apply List.ext_getElem?
  intro k
  have hlen : (om (table r c (el m))).length = r := om_len
  have hg : ∀ a, a < r → (om (table r c (el m))).getD a [] = row (tableR c (el m a)) := fun a ha => by
    simp [om, table, ha]
  have hF : ∀ a, a < r → (om (table r c (opF o (el (table r c (el m))))))[a]? = some (row (tableR c (opF o (el (table r c (el m))) a))) := fun a ha => by
    simp [om, table, ha]
  have hE : ∀ a b, a < r → b < c → el (table r c (el m)) a b = el m a b := fun a b ha hb => el_table ha hb
  have hrow : ∀ {f g : Nat → Int}, (∀ b, b < c → f b = g b) → tableR c f = tableR c g := fun hfg => List.map_congr_left fun b hb => hfg b (List.mem_range.1 hb)
  by_cases hkr : k < r
  · rw [hF k hkr, hg _ hi, hg _ hj]
    by_cases e1 : o.j = k
    · subst e1
      rw [List.getElem?_set_self (by simp [hlen]; exact hj)]
      congr 2
      refine hrow fun b hb => ?_
      by_cases e2 : o.j = o.i
      · simp only [opF, hk, if_true, e2]; rw [hE _ _ hi hb]
      · simp only [opF, hk, if_true, if_neg e2]; rw [hE _ _ hi hb]
    · rw [List.getElem?_set_ne e1]
      by_cases e2 : o.i = k
      · subst e2
        rw [List.getElem?_set_self (by rw [hlen]; exact hi)]
        congr 2
        refine hrow fun b hb => ?_
        simp only [opF, hk, if_true]; rw [hE _ _ hj hb]
      · rw [List.getElem?_set_ne e2]
        have : (om (table r c (el m)))[k]? = some (row (tableR c (el m k))) := by simp [om, table, hkr]
        rw [this]
        congr 2
        refine hrow fun b hb => ?_
        simp only [opF, hk, if_true, if_neg (Ne.symm e2), if_neg (Ne.symm e1)]; rw [hE _ _ hkr hb]
  · rw [List.getElem?_eq_none (by simp [hlen]; omega), List.getElem?_eq_none (by rw [om_len]; omega)]

def wHs (r c : Nat) (m u v : List (List Int)) : Heap :=
  [some (.box [sD (dI r), sD (dI c), .ref 4, sD (dI r), sD (dI r), .ref 5, sD (dI r), sD (dI r), .ref 3]), some (.fwd (.ref 4)), some (.fwd (.ref 5)), some (.mat 2 (om v)), some (.mat 2 (om m)), some (.mat 2 (om u))]

theorem wswap_ok {r c : Nat} {o : Opz} {m u v : List (List Int)} (h : vO r o = true) (hk : o.k = 1) (hm : Mx r c m) (hu : Mx r r u) (hv : Mx r r v) (hr : r ≤ 4294967296) :
    FnO prog 121 [vP 0 0, vi o.i, vi o.j] (wH r c m u v) (.tup []) (wHs r c (apO r c o m) (apO r r o u) (apC r o v)) := by
  obtain ⟨hi, hcase⟩ := vO_ok h
  have hj := vO_j h (by omega)
  have hne : o.i ≠ o.j := by
    rcases hcase with h | h | h
    · omega
    · exact h.2.2.1
    · exact h.2.2
  refine vc121_ok _ _ _ _ _ _ _ _ _ _ _ (R := fun x y => x = .tup [] ∧ y = wHs r c (apO r c o m) (apO r r o u) (apC r o v)) ?_
  unfold vc121
  have lm : (om m).length = r := by rw [om_length, hm.1]
  have lu : (om u).length = r := by rw [om_length, hu.1]
  refine ⟨⟨by omega, by omega⟩, ⟨by omega, by omega⟩, rfl, rfl, ⟨by omega, by omega⟩, ⟨by omega, by omega⟩, ?_⟩
  refine ⟨fun a t => ∃ n : Nat, t = (n : Int) ∧ n ≤ r ∧ a = om (table r r (cP o (el v) n)), fun _ t => ((r : Int) - t).toNat, ⟨0, rfl, by omega, cP_zero hv⟩, ?_⟩
  rintro _ _ ⟨n, rfl, hn, rfl⟩
  refine ⟨fun h2 => ?_, fun h2 => ?_⟩
  · have hnr : n < r := by simpa using h2
    have e1 : (om (table r r (cP o (el v) n))).modify (n : Int).toNat (fun q => q.set (o.i : Int).toNat (cI (el v n o.j))) = om (table r r fun a b => if a = n ∧ b = o.i then el v n o.j else cP o (el v) n a b) := by
      rw [Int.toNat_natCast, Int.toNat_natCast]; exact om_set hnr hi
    have e2 : cP o (el v) n (n : Int).toNat (o.i : Int).toNat = el v n o.i := by rw [Int.toNat_natCast, Int.toNat_natCast]; exact cP_at
    have e3 : cP o (el v) n (n : Int).toNat (o.j : Int).toNat = el v n o.j := by rw [Int.toNat_natCast, Int.toNat_natCast]; exact cP_at
    have a1 := at2_om (r := r) (c := r) (g := cP o (el v) n) (i := (n : Int).toNat) (j := (o.i : Int).toNat) (by omega) (by omega)
    have a2 := at2_om (r := r) (c := r) (g := cP o (el v) n) (i := (n : Int).toNat) (j := (o.j : Int).toNat) (by omega) (by omega)
    rw [e2] at a1
    rw [e3] at a2
    refine ⟨_, _, ⟨by omega, by rw [om_len]; omega⟩, om_in hnr hi, a1, _, _, om_in hnr hj, a2, ?_⟩
    have e1' : (om (table r r (cP o (el v) n))).modify (n : Int).toNat (fun q => q.set (o.i : Int).toNat [dB (decide (el v n o.j < 0)), dL (lim (digs (el v n o.j).natAbs))]) = om (table r r fun a b => if a = n ∧ b = o.i then el v n o.j else cP o (el v) n a b) := e1
    rw [e1', inc64 (by omega)]
    refine ⟨⟨by omega, by rw [om_len]; omega⟩, om_in hnr hj, ⟨n + 1, rfl, by omega, ?_⟩, by show ((r : Int) - ((n + 1 : Nat) : Int)).toNat < ((r : Int) - (n : Int)).toNat; omega⟩
    rw [Int.toNat_natCast, Int.toNat_natCast]
    refine Eq.trans (om_set hnr hj) ?_
    congr 1
    refine table_congr fun a b _ _ => ?_
    unfold cP colF
    simp only [hk, if_true]
    by_cases ha : a = n
    · subst ha
      by_cases hb : b = o.j
      · subst hb
        simp [Ne.symm hne]
      · by_cases hb' : b = o.i
        · subst hb'; simp [hne]
        · simp [hb, hb']
    · by_cases ha' : a < n
      · simp [ha, ha', show a < n + 1 by omega]
      · simp [ha, ha', show ¬ a < n + 1 by omega]
  · have hnr : n = r := by have : r ≤ n := by simpa using h2
                           omega
    subst hnr
    rw [Int.toNat_natCast, Int.toNat_natCast, swapR_om h hk hm, swapR_om h hk hu, cP_all]
    exact ⟨rfl, rfl⟩

end Go.AM

/- torsionref18: Negate and AddTo on the work matrices; Valid, Apply, Matrix, Invert. -/
namespace Go.AM
open Go.Proofs.Try

theorem rowM_in {r c : Nat} {g : Nat → Nat → Int} {i j : Nat} (hi : i < r) (hj : j < c) : at2 (om (table r c g)) (i : Int).toNat (j : Int).toNat = some (cI (g i j)) := by
  rw [Int.toNat_natCast, Int.toNat_natCast]; exact at2_om hi hj

theorem wneg_ok {r c K : Nat} {o : Opz} {m u v : List (List Int)} (h : vO r o = true) (hk : o.k = 2) (hm : Mx r c m) (hu : Mx r r u) (hv : Mx r r v) (km : BdM K m) (ku : BdM K u) (kv : BdM K v)
    (hK : K ≤ 497323236409786642155382248146820840100456150797347717440463976893159497012533375533056) (hr : r ≤ 4294967296) (hc : c ≤ 4294967296) :
    FnO prog 122 [vP 0 0, vi o.i] (wH r c m u v) (.tup []) (wH r c (apO r c o m) (apO r r o u) (apC r o v)) := by
  obtain ⟨hi, _⟩ := vO_ok h
  refine vc122_ok _ _ _ _ _ _ _ _ _ _ (R := fun x y => x = .tup [] ∧ y = wH r c (apO r c o m) (apO r r o u) (apC r o v)) ?_
  unfold vc122
  have sz : ∀ {z : Int}, z.natAbs ≤ K → Sz z := fun h => sz_of (Nat.le_trans h hK)
  refine ⟨fun a t => ∃ n : Nat, t = (n : Int) ∧ n ≤ c ∧ a = om (table r c (rF o (el m) n)), fun _ t => ((c : Int) - t).toNat, ⟨0, rfl, by omega, rF_zero hm⟩, ?_⟩
  rintro _ _ ⟨n, rfl, hn, rfl⟩
  refine ⟨fun h2 => ?_, fun h2 => ?_⟩
  · have hnc : n < c := by simpa using h2
    have e : rF o (el m) n o.i n = el m o.i n := by unfold rF; rw [if_neg (by omega)]
    have e2 : opF o (el m) o.i n = - el m o.i n := by simp [opF, hk]
    have a1 := rowM_in (r := r) (c := c) (g := rF o (el m) n) hi hnc
    rw [e] at a1
    have f1 := rneg_ok (sz (el_bd hm km hi hnc))
    rw [← e2] at f1
    refine ⟨_, _, _, _, ⟨by omega, by rw [om_len]; omega⟩, om_in hi hnc, a1, f1, ?_⟩
    rw [inc64 (by omega)]
    refine ⟨⟨n + 1, rfl, by omega, ?_⟩, by show ((c : Int) - ((n + 1 : Nat) : Int)).toNat < ((c : Int) - (n : Int)).toNat; omega⟩
    rw [Int.toNat_natCast, Int.toNat_natCast]
    exact rF_step hi hnc
  have hnc : n = c := by have : c ≤ n := by simpa using h2
                         omega
  subst hnc
  refine ⟨fun a t => ∃ n : Nat, t = (n : Int) ∧ n ≤ r ∧ a = om (table r r (rF o (el u) n)), fun _ t => ((r : Int) - t).toNat, ⟨0, rfl, by omega, rF_zero hu⟩, ?_⟩
  rintro _ _ ⟨p, rfl, hp, rfl⟩
  refine ⟨fun h2 => ?_, fun h2 => ?_⟩
  · have hnc : p < r := by simpa using h2
    have e : rF o (el u) p o.i p = el u o.i p := by unfold rF; rw [if_neg (by omega)]
    have e2 : opF o (el u) o.i p = - el u o.i p := by simp [opF, hk]
    have a1 := rowM_in (r := r) (c := r) (g := rF o (el u) p) hi hnc
    rw [e] at a1
    have f1 := rneg_ok (sz (el_bd hu ku hi hnc))
    rw [← e2] at f1
    refine ⟨_, _, _, _, ⟨by omega, by rw [om_len]; omega⟩, om_in hi hnc, a1, f1, ?_⟩
    rw [inc64 (by omega)]
    refine ⟨⟨p + 1, rfl, by omega, ?_⟩, by show ((r : Int) - ((p + 1 : Nat) : Int)).toNat < ((r : Int) - (p : Int)).toNat; omega⟩
    rw [Int.toNat_natCast, Int.toNat_natCast]
    exact rF_step hi hnc
  have hpr : p = r := by have : r ≤ p := by simpa using h2
                         omega
  subst hpr
  refine ⟨fun a t => ∃ q : Nat, t = (q : Int) ∧ q ≤ p ∧ a = om (table p p (cP o (el v) q)), fun _ t => ((p : Int) - t).toNat, ⟨0, rfl, by omega, cP_zero hv⟩, ?_⟩
  rintro _ _ ⟨q, rfl, hq, rfl⟩
  refine ⟨fun h2 => ?_, fun h2 => ?_⟩
  · have hqr : q < p := by simpa using h2
    have a1 := rowM_in (r := p) (c := p) (g := cP o (el v) q) hqr hi
    rw [cP_at] at a1
    have f1 := rneg_ok (sz (el_bd hv kv hqr hi))
    refine ⟨_, _, _, _, ⟨by omega, by rw [om_len]; omega⟩, om_in hqr hi, a1, f1, ?_⟩
    rw [inc64 (by omega)]
    refine ⟨⟨q + 1, rfl, by omega, ?_⟩, by show ((p : Int) - ((q + 1 : Nat) : Int)).toNat < ((p : Int) - (q : Int)).toNat; omega⟩
    rw [Int.toNat_natCast, Int.toNat_natCast]
    exact cP_one hqr hi (by simp [colF, hk]) fun b _ hb => by simp [colF, hk, hb]
  · have hqr : q = p := by have : p ≤ q := by simpa using h2
                           omega
    subst hqr
    rw [rF_all (by omega), rF_all (by omega), cP_all]
    exact ⟨rfl, rfl⟩

theorem wadd_ok {r c K : Nat} {o : Opz} {m u v : List (List Int)} (h : vO r o = true) (hk : o.k = 3) (hm : Mx r c m) (hu : Mx r r u) (hv : Mx r r v) (km : BdM K m) (ku : BdM K u) (kv : BdM K v) (hz : o.z.natAbs ≤ 1280)
    (hK : 1281 * K ≤ 497323236409786642155382248146820840100456150797347717440463976893159497012533375533056) (hr : r ≤ 4294967296) (hc : c ≤ 4294967296) :
    FnO prog 123 [vP 0 0, vi o.i, vi o.j, eI o.z] (wH r c m u v) (.tup []) (wH r c (apO r c o m) (apO r r o u) (apC r o v)) := by
  obtain ⟨hi, hcase⟩ := vO_ok h
  have hj := vO_j h (by omega)
  have hne : o.i ≠ o.j := by
    rcases hcase with h | h | h
    · omega
    · omega
    · exact h.2.2
  refine vc123_ok _ _ _ _ _ _ _ _ _ _ _ _ _ (R := fun x y => x = .tup [] ∧ y = wH r c (apO r c o m) (apO r r o u) (apC r o v)) ?_
  unfold vc123
  have szm : ∀ {x y : Int}, x.natAbs ≤ K → y.natAbs ≤ K → Sz x ∧ Sz y ∧ Sz o.z ∧ Sz (o.z * y) := fun {x y} hx hy => by
    have h3 := mul_natAbs_le hz hy
    exact ⟨sz_of (by omega), sz_of (by omega), sz_of (by omega), sz_of (by omega)⟩
  refine ⟨fun a t => ∃ n : Nat, t = (n : Int) ∧ n ≤ c ∧ a = om (table r c (rF o (el m) n)), fun _ t => ((c : Int) - t).toNat, ⟨0, rfl, by omega, rF_zero hm⟩, ?_⟩
  rintro _ _ ⟨n, rfl, hn, rfl⟩
  refine ⟨fun h2 => ?_, fun h2 => ?_⟩
  · have hnc : n < c := by simpa using h2
    have e : rF o (el m) n o.i n = el m o.i n := by unfold rF; rw [if_neg (by omega)]
    have e' : rF o (el m) n o.j n = el m o.j n := by unfold rF; rw [if_neg (by omega)]
    have e2 : opF o (el m) o.i n = el m o.i n + o.z * el m o.j n := by simp [opF, hk]
    have a1 := rowM_in (r := r) (c := c) (g := rF o (el m) n) hi hnc
    have a2 := rowM_in (r := r) (c := c) (g := rF o (el m) n) hj hnc
    rw [e] at a1
    rw [e'] at a2
    obtain ⟨s1, s2, s3, s4⟩ := szm (el_bd hm km hi hnc) (el_bd hm km hj hnc)
    have f1 := rmul_ok s3 s2
    have f2 := radd_ok s1 s4
    rw [← e2] at f2
    refine ⟨_, _, _, _, _, _, _, _, ⟨by omega, by rw [om_len]; omega⟩, om_in hi hnc, a1, ⟨by omega, by rw [om_len]; omega⟩, om_in hj hnc, a2, f1, f2, ?_⟩
    rw [inc64 (by omega)]
    refine ⟨⟨n + 1, rfl, by omega, ?_⟩, by show ((c : Int) - ((n + 1 : Nat) : Int)).toNat < ((c : Int) - (n : Int)).toNat; omega⟩
    rw [Int.toNat_natCast, Int.toNat_natCast]
    exact rF_step hi hnc
  have hnc : n = c := by have : c ≤ n := by simpa using h2
                         omega
  subst hnc
  refine ⟨fun a t => ∃ n : Nat, t = (n : Int) ∧ n ≤ r ∧ a = om (table r r (rF o (el u) n)), fun _ t => ((r : Int) - t).toNat, ⟨0, rfl, by omega, rF_zero hu⟩, ?_⟩
  rintro _ _ ⟨p, rfl, hp, rfl⟩
  refine ⟨fun h2 => ?_, fun h2 => ?_⟩
  · have hnc : p < r := by simpa using h2
    have e : rF o (el u) p o.i p = el u o.i p := by unfold rF; rw [if_neg (by omega)]
    have e' : rF o (el u) p o.j p = el u o.j p := by unfold rF; rw [if_neg (by omega)]
    have e2 : opF o (el u) o.i p = el u o.i p + o.z * el u o.j p := by simp [opF, hk]
    have a1 := rowM_in (r := r) (c := r) (g := rF o (el u) p) hi hnc
    have a2 := rowM_in (r := r) (c := r) (g := rF o (el u) p) hj hnc
    rw [e] at a1
    rw [e'] at a2
    obtain ⟨s1, s2, s3, s4⟩ := szm (el_bd hu ku hi hnc) (el_bd hu ku hj hnc)
    have f1 := rmul_ok s3 s2
    have f2 := radd_ok s1 s4
    rw [← e2] at f2
    refine ⟨_, _, _, _, _, _, _, _, ⟨by omega, by rw [om_len]; omega⟩, om_in hi hnc, a1, ⟨by omega, by rw [om_len]; omega⟩, om_in hj hnc, a2, f1, f2, ?_⟩
    rw [inc64 (by omega)]
    refine ⟨⟨p + 1, rfl, by omega, ?_⟩, by show ((r : Int) - ((p + 1 : Nat) : Int)).toNat < ((r : Int) - (p : Int)).toNat; omega⟩
    rw [Int.toNat_natCast, Int.toNat_natCast]
    exact rF_step hi hnc
  have hpr : p = r := by have : r ≤ p := by simpa using h2
                         omega
  subst hpr
  refine ⟨fun a t => ∃ q : Nat, t = (q : Int) ∧ q ≤ p ∧ a = om (table p p (cP o (el v) q)), fun _ t => ((p : Int) - t).toNat, ⟨0, rfl, by omega, cP_zero hv⟩, ?_⟩
  rintro _ _ ⟨q, rfl, hq, rfl⟩
  refine ⟨fun h2 => ?_, fun h2 => ?_⟩
  · have hqr : q < p := by simpa using h2
    have a1 := rowM_in (r := p) (c := p) (g := cP o (el v) q) hqr hj
    have a2 := rowM_in (r := p) (c := p) (g := cP o (el v) q) hqr hi
    rw [cP_at] at a1 a2
    obtain ⟨s1, s2, s3, s4⟩ := szm (el_bd hv kv hqr hj) (el_bd hv kv hqr hi)
    have f1 := rmul_ok s3 s2
    have f2 := rsub_ok s1 s4
    refine ⟨_, _, _, _, _, _, _, _, ⟨by omega, by rw [om_len]; omega⟩, om_in hqr hj, a1, om_in hqr hi, a2, f1, f2, ?_⟩
    rw [inc64 (by omega)]
    refine ⟨⟨q + 1, rfl, by omega, ?_⟩, by show ((p : Int) - ((q + 1 : Nat) : Int)).toNat < ((p : Int) - (q : Int)).toNat; omega⟩
    rw [Int.toNat_natCast, Int.toNat_natCast]
    exact cP_one hqr hj (by simp [colF, hk]) fun b _ hb => by simp [colF, hk, hb]
  · have hqr : q = p := by have : p ≤ q := by simpa using h2
                           omega
    subst hqr
    rw [rF_all (by omega), rF_all (by omega), cP_all]
    exact ⟨rfl, rfl⟩

/-! ### Valid -/

theorem inside142_ok (i n : Nat) : FnD prog 142 [vi i, vi n] (vb (decide (i < n))) [] := by
  refine vc142_ok _ _ (R := Out _) ?_
  unfold vc142
  exact ⟨fun _ => outb (by simp), fun h => absurd h (by simp)⟩

theorem rvalidOp_ok {o : Opz} {n : Nat} (hz : Sz o.z) : FnD prog 103 [oE o, vi n] (vb (vO n o)) [] := by
  refine vc103_ok _ _ _ _ _ _ (R := Out _) ?_
  unfold vc103
  have kq : ∀ {q : Nat} {b : Bool}, ((o.k : Int) == (q : Int)) = b → decide (o.k = q) = b := fun h => (natEq _ _).symm.trans h
  refine ⟨true, rvalid_ok o.z hz, fun h1 => ?_, fun h1 => ⟨fun h2 => ?_, fun h2 => ⟨fun h3 => ?_, fun h3 => ?_⟩⟩⟩
  · have hk : o.k = 1 := by simpa using kq (q := 1) h1
    refine ⟨_, inside142_ok _ _, fun hi => ⟨_, inside142_ok _ _, fun hj => ⟨fun hn => ⟨fun hl => outb ?_, fun hl => outb ?_⟩, fun hn => outb ?_⟩, fun hj => outb ?_⟩, fun hi => outb ?_⟩
    · have hi' : o.i < n := by simpa using hi
      have hj' : o.j < n := by simpa using hj
      have hn' : o.i ≠ o.j := by simpa using (natNe _ _).symm.trans hn
      have hl' : o.z = 0 := by simpa using (lim_zero o.z).symm.trans hl
      simp [vO, hk, hi', hj', hn', hl']
    · have hl' : o.z ≠ 0 := by simpa using (lim_zero o.z).symm.trans hl
      simp [vO, hk, hl']
    · have hn' : o.i = o.j := by simpa using (natNe _ _).symm.trans hn
      simp [vO, hk, hn']
    · have hj' : ¬ o.j < n := by simpa using hj
      simp [vO, hk, hj']
    · have hi' : ¬ o.i < n := by simpa using hi
      simp [vO, hi']
  · have hk : o.k = 2 := by simpa using kq (q := 2) h2
    refine ⟨_, inside142_ok _ _, fun hi => ⟨fun hj => ⟨fun hl => outb ?_, fun hl => outb ?_⟩, fun hj => outb ?_⟩, fun hi => outb ?_⟩
    · have hi' : o.i < n := by simpa using hi
      have hj' : o.j = 0 := by simpa using (natEq o.j 0).symm.trans hj
      have hl' : o.z = 0 := by simpa using (lim_zero o.z).symm.trans hl
      simp [vO, hk, hi', hj', hl']
    · have hl' : o.z ≠ 0 := by simpa using (lim_zero o.z).symm.trans hl
      simp [vO, hk, hl']
    · have hj' : o.j ≠ 0 := by simpa using (natEq o.j 0).symm.trans hj
      simp [vO, hk, hj']
    · have hi' : ¬ o.i < n := by simpa using hi
      simp [vO, hi']
  · have hk : o.k = 3 := by simpa using kq (q := 3) h3
    refine ⟨_, inside142_ok _ _, fun hi => ⟨_, inside142_ok _ _, fun hj => ⟨fun hn => outb ?_, fun hn => outb ?_⟩, fun hj => outb ?_⟩, fun hi => outb ?_⟩
    · have hi' : o.i < n := by simpa using hi
      have hj' : o.j < n := by simpa using hj
      have hn' : o.i ≠ o.j := by simpa using (natNe _ _).symm.trans hn
      simp [vO, hk, hi', hj', hn']
    · have hn' : o.i = o.j := by simpa using (natNe _ _).symm.trans hn
      simp [vO, hk, hn']
    · have hj' : ¬ o.j < n := by simpa using hj
      simp [vO, hk, hj']
    · have hi' : ¬ o.i < n := by simpa using hi
      simp [vO, hi']
  · have e1 : o.k ≠ 1 := by simpa using kq (q := 1) h1
    have e2 : o.k ≠ 2 := by simpa using kq (q := 2) h2
    have e3 : o.k ≠ 3 := by simpa using kq (q := 3) h3
    exact outb (by simp [vO, e1, e2, e3])

end Go.AM

/- Shortened lists of operations, in plain Lean: the same product; nothing left to shorten; a list and its inverse. -/
namespace Go.AM

/-- Are two operations joined? -/
def joinB (a b : Opz) : Bool :=
  if a.k ≠ b.k then false
  else if a.k = 1 then decide ((a.i = b.i ∧ a.j = b.j) ∨ (a.i = b.j ∧ a.j = b.i))
  else if a.k = 2 then decide (a.i = b.i)
  else decide (a.i = b.i ∧ a.j = b.j)

theorem joinO_B (a b : Opz) : (joinO a b).2 = joinB a b := by
  unfold joinO joinB
  repeat' split
  all_goals rfl

theorem joinO_1 {a b : Opz} (h : a.k = b.k) (h1 : a.k = 1 ∨ a.k = 2) : (joinO a b).1 = ⟨3, 0, 0, 0⟩ := by
  unfold joinO
  rw [if_neg (by simp [h])]
  split
  · rfl
  · rw [if_pos (by omega)]

theorem joinO_3 {a b : Opz} (h : a.k = b.k) (h1 : a.k ≠ 1) (h2 : a.k ≠ 2) : (joinO a b).1 = { a with z := a.z + b.z } := by
  unfold joinO
  rw [if_neg (by simp [h]), if_neg h1, if_neg h2]

theorem joinB_k {a b : Opz} (h : joinB a b = true) : a.k = b.k := by
  unfold joinB at h
  split at h
  · simp at h
  · omega

theorem joinB_z (a b : Opz) (z w : Int) : joinB { a with z := z } { b with z := w } = joinB a b := rfl

/-- What a stack of operations looks like: valid, none empty, none joined to the one below. -/
def Tidy (n : Nat) : List Opz → Prop
  | [] => True
  | [x] => vO n x = true ∧ emptyO x = false
  | x :: y :: st => vO n x = true ∧ emptyO x = false ∧ joinB y x = false ∧ Tidy n (y :: st)

theorem Tidy.tail {n : Nat} {x : Opz} {st : List Opz} (h : Tidy n (x :: st)) : Tidy n st := by
  cases st with
  | nil => trivial
  | cons y st => exact h.2.2.2

theorem Tidy.head {n : Nat} {x : Opz} {st : List Opz} (h : Tidy n (x :: st)) : vO n x = true ∧ emptyO x = false := by
  cases st with
  | nil => exact h
  | cons y st => exact ⟨h.1, h.2.1⟩

theorem vO_z {n : Nat} {o : Opz} (h : vO n o = true) (hk : o.k = 3) (z : Int) : vO n { o with z := z } = true := by
  simpa [vO, hk] using h

theorem Tidy.step {n : Nat} {st : List Opz} {x : Opz} (h : Tidy n st) (hx : vO n x = true) : Tidy n (stepC st x) := by
  unfold stepC
  split
  · exact h
  · rename_i he
    have he' : emptyO x = false := by simpa using he
    cases st with
    | nil => exact ⟨hx, he'⟩
    | cons y st =>
      simp only
      rw [joinO_B]
      cases hj : joinB y x with
      | false => simp only [Bool.false_eq_true, if_false]; exact ⟨hx, he', hj, h⟩
      | true =>
        simp only [if_true]
        split
        · exact h.tail
        · rename_i hne
          have hk := joinB_k hj
          have hk3 : y.k = 3 := by
            rcases (vO_ok h.head.1).2 with g | g | g
            · rw [joinO_1 hk (by omega)] at hne; exact absurd (by decide) hne
            · rw [joinO_1 hk (by omega)] at hne; exact absurd (by decide) hne
            · exact g.1
          rw [joinO_3 hk (by omega) (by omega)] at hne ⊢
          have hne' : emptyO { y with z := y.z + x.z } = false := by simpa using hne
          have hv := vO_z h.head.1 hk3 (y.z + x.z)
          cases st with
          | nil => exact ⟨hv, hne'⟩
          | cons t st => exact ⟨hv, hne', by rw [show joinB t { y with z := y.z + x.z } = joinB t y from rfl]; exact h.2.2.1, h.2.2.2⟩

theorem Tidy.fold {n : Nat} : ∀ {l : List Opz} {st : List Opz}, Tidy n st → (∀ o ∈ l, vO n o = true) → Tidy n (l.foldl stepC st)
  | [], _, h, _ => h
  | x :: l, st, h, hl => Tidy.fold (l := l) (st := stepC st x) (h.step (hl x (by simp))) fun o ho => hl o (by simp [ho])

theorem Tidy.valid {n : Nat} : ∀ {st : List Opz}, Tidy n st → ∀ o ∈ st, vO n o = true
  | [], _, o, ho => by simp at ho
  | x :: st, h, o, ho => by
    rcases List.mem_cons.1 ho with rfl | ho
    · exact h.head.1
    · exact h.tail.valid o ho

theorem comp_valid {n : Nat} {l : List Opz} (hl : ∀ o ∈ l, vO n o = true) : ∀ o ∈ comp l, vO n o = true := fun o ho =>
  (Tidy.fold (st := []) trivial hl).valid o (List.mem_reverse.1 ho)

/-- Pushed one after the other. -/
theorem stepC_push {n : Nat} {st : List Opz} {x : Opz} (h : Tidy n (x :: st)) : stepC st x = x :: st := by
  unfold stepC
  rw [if_neg (by simp [h.head.2])]
  cases st with
  | nil => rfl
  | cons y st =>
    simp only
    rw [joinO_B, h.2.2.1]; rfl

theorem Tidy.rebuild {n : Nat} : ∀ {st : List Opz}, Tidy n st → st.reverse.foldl stepC [] = st
  | [], _ => rfl
  | x :: st, h => by
    rw [List.reverse_cons, List.foldl_append, h.tail.rebuild]
    exact stepC_push h

theorem comp_comp {n : Nat} {l : List Opz} (hl : ∀ o ∈ l, vO n o = true) : comp (comp l) = comp l := by
  have := (Tidy.fold (n := n) (st := []) trivial hl).rebuild
  unfold comp compR
  rw [this]

theorem comp_length (l : List Opz) : (comp l).length ≤ l.length := by
  have key : ∀ (l st : List Opz), (l.foldl stepC st).length ≤ st.length + l.length := fun l => by
    induction l with
    | nil => intro st; simp
    | cons x l ih =>
      intro st
      have h1 := ih (stepC st x)
      have h2 := stepC_length st x
      simp only [List.foldl_cons, List.length_cons]; omega
  have := key l []
  simpa [comp, compR] using this

/-! ### The same product -/

theorem apO_empty {r c : Nat} {o : Opz} {m : List (List Int)} (h : emptyO o = true) (hm : Mx r c m) : apO r c o m = m := by
  simp only [emptyO, Bool.and_eq_true, decide_eq_true_eq] at h
  refine mx_ext (apO_mx _ _ _ _) hm fun a b ha hb => ?_
  rw [el_apO ha hb]
  simp [opF, h.1, h.2]

theorem apO_joined {r c : Nat} {y x : Opz} {m : List (List Int)} (hj : joinB y x = true) (hy : vO r y = true) (hx : vO r x = true) (hm : Mx r c m) :
    apO r c x (apO r c y m) = if emptyO (joinO y x).1 then m else apO r c (joinO y x).1 m := by
  have hk := joinB_k hj
  have h12 : y.k = 1 ∨ y.k = 2 → apO r c x (apO r c y m) = m := fun h => by
    refine mx_ext (apO_mx _ _ _ _) hm fun a b ha hb => ?_
    rw [el_apO ha hb, opF_congr hx ha fun a' ha' => el_apO ha' hb]
    rcases (vO_ok hy).2 with g | g | g
    · have hk2 : x.k = 2 := by omega
      have hi : y.i = x.i := by simpa [joinB, hk2, g.1] using hj
      simp only [opF, hk2, g.1, hi]
      by_cases he : a = x.i <;> simp [he]
    · have hk1 : x.k = 1 := by omega
      have hi : (y.i = x.i ∧ y.j = x.j) ∨ (y.i = x.j ∧ y.j = x.i) := by simpa [joinB, hk1, g.1] using hj
      simp only [opF, hk1, g.1, if_true]
      rcases hi with ⟨h1, h2⟩ | ⟨h1, h2⟩
      · rw [h1, h2]
        have hne : x.i ≠ x.j := by rw [← h1, ← h2]; exact g.2.2.1
        by_cases he : a = x.i
        · simp [he, Ne.symm hne]
        · by_cases hf : a = x.j
          · simp [hf, Ne.symm hne]
          · simp [he, hf]
      · rw [h1, h2]
        have hne : x.i ≠ x.j := by rw [← h1, ← h2]; exact Ne.symm g.2.2.1
        by_cases he : a = x.i
        · simp [he]
        · by_cases hf : a = x.j
          · simp [hf, hne, Ne.symm hne]
          · simp [he, hf]
    · omega
  by_cases h : y.k = 1 ∨ y.k = 2
  · rw [joinO_1 hk h, if_pos (by decide)]; exact h12 h
  · have g3 : y.k = 3 ∧ y.j < r ∧ y.i ≠ y.j := by
      rcases (vO_ok hy).2 with g | g | g
      · omega
      · omega
      · exact g
    have hx3 : x.k = 3 := by omega
    have hij : y.i = x.i ∧ y.j = x.j := by simpa [joinB, hx3, g3.1] using hj
    have e : apO r c x (apO r c y m) = apO r c { y with z := y.z + x.z } m := by
      refine mx_ext (apO_mx _ _ _ _) (apO_mx _ _ _ _) fun a b ha hb => ?_
      rw [el_apO ha hb, opF_congr hx ha fun a' ha' => el_apO ha' hb, el_apO ha hb]
      simp only [opF, hx3, g3.1, ← hij.1, ← hij.2]
      by_cases he : a = y.i
      · simp [he, Ne.symm g3.2.2, Int.add_mul]; omega
      · simp [he]
    rw [joinO_3 hk (by omega) (by omega), e]
    split
    · rename_i h0; exact apO_empty h0 hm
    · rfl

theorem apL_step {r c : Nat} {st : List Opz} {x : Opz} {m : List (List Int)} (h : Tidy r st) (hx : vO r x = true) (hm : Mx r c m) : apL r c (stepC st x).reverse m = apO r c x (apL r c st.reverse m) := by
  unfold stepC
  split
  · rename_i he; exact (apO_empty he (apL_mx _ hm)).symm
  · cases st with
    | nil => rfl
    | cons y st =>
      simp only
      rw [joinO_B]
      have e : apL r c (y :: st).reverse m = apO r c y (apL r c st.reverse m) := by rw [List.reverse_cons, apL_append]; rfl
      cases hj : joinB y x with
      | false => simp only [Bool.false_eq_true, if_false]; rw [List.reverse_cons, apL_append]; rfl
      | true =>
        simp only [if_true]
        rw [e, apO_joined hj h.head.1 hx (apL_mx _ hm)]
        split
        · rfl
        · rw [List.reverse_cons, apL_append]; rfl

theorem apL_fold {r c : Nat} {m : List (List Int)} (hm : Mx r c m) : ∀ (l : List Opz) (st : List Opz), Tidy r st → (∀ o ∈ l, vO r o = true) → apL r c (l.foldl stepC st).reverse m = apL r c l (apL r c st.reverse m)
  | [], _, _, _ => rfl
  | x :: l, st, h, hl => by
    rw [List.foldl_cons, apL_fold hm l _ (h.step (hl x (by simp))) fun o ho => hl o (by simp [ho]), apL_step h (hl x (by simp)) hm]
    rfl

theorem apL_comp {r c : Nat} {l : List Opz} {m : List (List Int)} (hl : ∀ o ∈ l, vO r o = true) (hm : Mx r c m) : apL r c (comp l) m = apL r c l m :=
  apL_fold hm l [] trivial hl

/-! ### A list and its inverse -/

/-- Swaps name the lesser row first. -/
def nO (o : Opz) : Opz := if o.k = 1 ∧ o.j < o.i then { o with i := o.j, j := o.i } else o

theorem nO_k (o : Opz) : (nO o).k = o.k := by unfold nO; split <;> rfl
theorem nO_z (o : Opz) : (nO o).z = o.z := by unfold nO; split <;> rfl
theorem nO_ne {o : Opz} (h : o.k ≠ 1) : nO o = o := by unfold nO; rw [if_neg (by simp [h])]
theorem nO_empty (o : Opz) : emptyO (nO o) = emptyO o := by simp only [emptyO, nO_k, nO_z]

theorem nO_join (a b : Opz) : joinB (nO a) (nO b) = joinB a b := by
  by_cases hk : a.k = b.k
  · by_cases h1 : a.k = 1
    · have h1' : b.k = 1 := by omega
      simp only [joinB, nO_k, hk, h1', ne_eq, not_true_eq_false, if_false, if_true]
      congr 1
      simp only [eq_iff_iff]
      unfold nO
      simp only [h1, h1', true_and]
      repeat' split
      all_goals simp only
      all_goals constructor
      all_goals intro h
      all_goals omega
    · rw [nO_ne h1, nO_ne (by omega)]
  · have hk' : ¬ (nO a).k = (nO b).k := by rw [nO_k, nO_k]; exact hk
    unfold joinB
    rw [if_pos hk', if_pos hk]

theorem nO_step (st : List Opz) (x : Opz) : (stepC st x).map nO = stepC (st.map nO) (nO x) := by
  unfold stepC
  rw [nO_empty]
  split
  · rfl
  · cases st with
    | nil => rfl
    | cons y st =>
      simp only [List.map_cons]
      rw [joinO_B, joinO_B, nO_join]
      cases hj : joinB y x with
      | false => rfl
      | true =>
        simp only [if_true]
        have hk := joinB_k hj
        by_cases h : y.k = 1 ∨ y.k = 2
        · rw [joinO_1 hk h, joinO_1 (by rw [nO_k, nO_k]; exact hk) (by rw [nO_k]; exact h), if_pos (by decide), if_pos (by decide)]
        · have e1 := nO_ne (o := y) (by omega)
          have e2 := nO_ne (o := x) (by omega)
          rw [e1, e2]
          split
          · rfl
          · rw [List.map_cons, joinO_3 hk (by omega) (by omega), nO_ne (o := { y with z := y.z + x.z }) (by show y.k ≠ 1; omega)]

theorem nO_fold : ∀ (l st : List Opz), (l.foldl stepC st).map nO = (l.map nO).foldl stepC (st.map nO)
  | [], _ => rfl
  | x :: l, st => by rw [List.foldl_cons, nO_fold l, nO_step]; rfl

theorem nO_nO (o : Opz) : nO (nO o) = nO o := by
  unfold nO
  by_cases h : o.k = 1 ∧ o.j < o.i
  · rw [if_pos h]
    rw [if_neg]
    simp only
    omega
  · rw [if_neg h, if_neg h]

theorem nO_inO (o : Opz) : nO (inO o) = inO (nO o) := by
  unfold nO
  by_cases h : o.k = 1 ∧ o.j < o.i
  · rw [if_pos h, if_pos (show (inO o).k = 1 ∧ (inO o).j < (inO o).i from h)]; rfl
  · rw [if_neg h, if_neg (show ¬ ((inO o).k = 1 ∧ (inO o).j < (inO o).i) from h)]

theorem nO_valid {n : Nat} {o : Opz} (h : vO n o = true) : vO n (nO o) = true := by
  unfold nO
  split
  · rename_i hk
    obtain ⟨hi, hc⟩ := vO_ok h
    rcases hc with g | g | g
    · omega
    · simp [vO, hk.1, hi, g.2.1, g.2.2.2, Ne.symm g.2.2.1]
    · omega
  · exact h

/-- Joined swaps and negations are the same operation. -/
theorem join_eq {n : Nat} {y x : Opz} (hj : joinB y x = true) (hy : vO n y = true) (hx : vO n x = true) (ny : nO y = y) (nx : nO x = x) (h : y.k = 1 ∨ y.k = 2) : y = x := by
  have hk := joinB_k hj
  have hy2 := (vO_ok hy).2
  have hx2 := (vO_ok hx).2
  have e : y.i = x.i ∧ y.j = x.j ∧ y.z = x.z := by
    rcases h with h | h
    · have hk1 : x.k = 1 := by omega
      have hi : (y.i = x.i ∧ y.j = x.j) ∨ (y.i = x.j ∧ y.j = x.i) := by simpa [joinB, hk1, h] using hj
      have ly : ¬ y.j < y.i := fun hlt => by
        unfold nO at ny
        rw [if_pos ⟨h, hlt⟩] at ny
        have : ({ y with i := y.j, j := y.i } : Opz).i = y.i := by rw [ny]
        simp only at this; omega
      have lx : ¬ x.j < x.i := fun hlt => by
        unfold nO at nx
        rw [if_pos ⟨hk1, hlt⟩] at nx
        have : ({ x with i := x.j, j := x.i } : Opz).i = x.i := by rw [nx]
        simp only at this; omega
      omega
    · have hk2 : x.k = 2 := by omega
      have hi : y.i = x.i := by simpa [joinB, hk2, h] using hj
      omega
  cases y; cases x
  simp only at e hk
  obtain ⟨e1, e2, e3⟩ := e
  subst hk; subst e1; subst e2; subst e3; rfl

theorem inO_valid_ne {n : Nat} {x : Opz} (hx : vO n x = true) (h : x.k = 1 ∨ x.k = 2) : inO x = x := by
  have : x.z = 0 := by
    rcases (vO_ok hx).2 with g | g | g
    · exact g.2.2
    · exact g.2.2.2
    · omega
  cases x
  simp only at this
  subst this; rfl

theorem join_in (x : Opz) : joinB x (inO x) = true := by
  unfold joinB inO
  simp

theorem join_in_empty {n : Nat} {x : Opz} (hx : vO n x = true) : emptyO (joinO x (inO x)).1 = true := by
  by_cases h : x.k = 1 ∨ x.k = 2
  · rw [joinO_1 (a := x) (b := inO x) rfl h]; decide
  · rw [joinO_3 (a := x) (b := inO x) rfl (by omega) (by omega)]
    have h3 : x.k = 3 := by
      rcases (vO_ok hx).2 with g | g | g
      · omega
      · omega
      · exact g.1
    have : x.z + -x.z = 0 := by omega
    simp [emptyO, h3, inO, this]

theorem inO_empty (x : Opz) : emptyO (inO x) = emptyO x := by
  have : decide ((inO x).z = 0) = decide (x.z = 0) := by simp [inO]
  show (decide (x.k = 3) && decide ((inO x).z = 0)) = _
  rw [this]; rfl

/-- One step, undone. -/
theorem step_back {n : Nat} {S : List Opz} {x : Opz} (h : Tidy n S) (hN : ∀ o ∈ S, nO o = o) (hx : vO n x = true) (nx : nO x = x) : stepC (stepC S x) (inO x) = S := by
  cases hE : emptyO x with
  | true =>
    have e1 : stepC S x = S := by unfold stepC; rw [if_pos hE]
    rw [e1]; unfold stepC; rw [if_pos (by rw [inO_empty]; exact hE)]
  | false =>
    have hE' : emptyO (inO x) = false := by rw [inO_empty]; exact hE
    have pop : ∀ S', stepC (x :: S') (inO x) = S' := fun S' => by
      unfold stepC
      rw [if_neg (by simp [hE'])]
      simp only
      rw [joinO_B, join_in, if_pos rfl, if_pos (join_in_empty hx)]
    cases S with
    | nil =>
      have e1 : stepC [] x = [x] := by unfold stepC; rw [if_neg (by simp [hE])]
      rw [e1, pop]
    | cons y S =>
      cases hj : joinB y x with
      | false =>
        have e1 : stepC (y :: S) x = x :: y :: S := by
          unfold stepC; rw [if_neg (by simp [hE])]; simp only; rw [joinO_B, hj]; rfl
        rw [e1, pop]
      | true =>
        have hk := joinB_k hj
        have hy := h.head
        by_cases h12 : y.k = 1 ∨ y.k = 2
        · have e := join_eq hj hy.1 hx (hN y (by simp)) nx h12
          subst e
          have e1 : stepC (y :: S) y = S := by
            unfold stepC; rw [if_neg (by simp [hE])]; simp only; rw [joinO_B, hj, if_pos rfl, joinO_1 rfl h12, if_pos (by decide)]
          rw [e1, inO_valid_ne hx h12]
          exact stepC_push h
        · have h3 : y.k = 3 := by
            rcases (vO_ok hy.1).2 with g | g | g
            · omega
            · omega
            · exact g.1
          have hx3 : x.k = 3 := by omega
          have hij : y.i = x.i ∧ y.j = x.j := by simpa [joinB, hx3, h3] using hj
          have hjo := joinO_3 (a := y) (b := x) hk (by omega) (by omega)
          by_cases h0 : y.z + x.z = 0
          · have e1 : stepC (y :: S) x = S := by
              unfold stepC; rw [if_neg (by simp [hE])]; simp only; rw [joinO_B, hj, if_pos rfl, hjo, if_pos (by simp [emptyO, h3, h0])]
            have e2 : inO x = y := by
              cases y; cases x
              simp only [inO] at *
              simp only [Opz.mk.injEq]
              omega
            rw [e1, e2]
            exact stepC_push h
          · have e1 : stepC (y :: S) x = { y with z := y.z + x.z } :: S := by
              unfold stepC; rw [if_neg (by simp [hE])]; simp only; rw [joinO_B, hj, if_pos rfl, hjo, if_neg (by simp [emptyO, h0])]
            rw [e1]
            have hj2 : joinB { y with z := y.z + x.z } (inO x) = true := hj
            have hjo2 : (joinO { y with z := y.z + x.z } (inO x)).1 = y := by
              rw [joinO_3 (a := { y with z := y.z + x.z }) (b := inO x) hk (by show y.k ≠ 1; omega) (by show y.k ≠ 2; omega)]
              cases y
              simp only [inO, Opz.mk.injEq, true_and]
              simp only at *
              omega
            unfold stepC
            rw [if_neg (by simp [hE'])]
            simp only
            rw [joinO_B, hj2, if_pos rfl, hjo2, if_neg (by simp [hy.2])]

theorem fixed_step {S : List Opz} {x : Opz} (h : ∀ o ∈ S, nO o = o) (hx : nO x = x) : ∀ o ∈ stepC S x, nO o = o := by
  have e : (stepC S x).map nO = stepC S x := by
    rw [nO_step, hx]
    congr 1
    conv => rhs; rw [← List.map_id S]
    exact List.map_congr_left fun o ho => h o ho
  intro o ho
  obtain ⟨i, hi, rfl⟩ := List.getElem_of_mem ho
  have h1 : ((stepC S x).map nO)[i]? = some (stepC S x)[i] := by rw [e]; exact List.getElem?_eq_getElem hi
  rw [List.getElem?_map, List.getElem?_eq_getElem hi] at h1
  simpa using h1

theorem fold_back {n : Nat} : ∀ {l S : List Opz}, Tidy n S → (∀ o ∈ S, nO o = o) → (∀ o ∈ l, vO n o = true ∧ nO o = o) → (inL l).foldl stepC (l.foldl stepC S) = S
  | [], _, _, _, _ => rfl
  | x :: l, S, h, hN, hl => by
    have hx := hl x (by simp)
    have e : inL (x :: l) = inL l ++ [inO x] := by simp [inL]
    have e2 : (x :: l).foldl stepC S = l.foldl stepC (stepC S x) := rfl
    rw [e, List.foldl_append, e2, fold_back (h.step hx.1) (fixed_step hN hx.2) fun o ho => hl o (by simp [ho])]
    exact step_back h hN hx.1 hx.2

theorem comp_inverse {n : Nat} {l : List Opz} (hl : ∀ o ∈ l, vO n o = true) : comp (l ++ inL l) = [] := by
  have e : (inL l).map nO = inL (l.map nO) := by
    simp only [inL, List.map_map, List.map_reverse]
    congr 1
    exact List.map_congr_left fun o _ => nO_inO o
  have h2 : ((l ++ inL l).foldl stepC []).map nO = [] := by
    rw [nO_fold, List.map_append, e, List.foldl_append]
    exact fold_back (n := n) (S := []) trivial (by simp) fun o ho => by
      simp only [List.mem_map] at ho
      obtain ⟨o', ho', rfl⟩ := ho
      exact ⟨nO_valid (hl o' ho'), nO_nO o'⟩
  have h3 : (l ++ inL l).foldl stepC [] = [] := by simpa using h2
  unfold comp compR
  rw [h3]; rfl

end Go.AM

/- What functions of the program come to: group Oh. Printed by vc.py. -/
set_option maxRecDepth 100000
set_option linter.unusedVariables false

namespace Go.AM
open Go.Proofs.Try

/- f10 torsion/torsionlaw18.OplogCompacts -/
def vc10 (n : Int) (l : List (List D)) (R : V → Heap → Prop) : Prop :=
  ∃ (r : Bool),
  (FnD prog 43 [] (vD (dB r)) []) ∧
  (((5 : Int) ≠ 0) ∧
  (∃ (r1 : List (List D)),
  (FnD prog 44 [(vD (dL l)), (vD (dI (IntKind.i64.wrap (n.tmod (5 : Int))))), (vD (dI (10 : Int)))] (vD (dL r1)) []) ∧
  (∃ (r2 : List (List D)),
  (FnD prog 50 [(vD (dL r1))] (vD (dL r2)) []) ∧
  (∃ (r3 : Bool),
  (FnD prog 51 [(vD (dL r2)), (vD (dI (IntKind.i64.wrap (n.tmod (5 : Int)))))] (vD (dB r3)) []) ∧
  (((!r3) = true →
    R (vD (dB false)) []) ∧
  ((!r3) = false →
    ((decide ((r2.length : Int) > (r1.length : Int))) = true →
      R (vD (dB false)) []) ∧
    ((decide ((r2.length : Int) > (r1.length : Int))) = false →
      ∃ (r0 : Int) (r11 : Int) (r21 : List (List D)) (r4 : Int),
      (FnD prog 52 [(vD (dL r1)), (vD (dI (IntKind.i64.wrap (n.tmod (5 : Int)))))] (V.tup [(E.agg [(sD (dI r0)), (sD (dI r11)), (sD (dL r21))]), (eD (dI r4))]) []) ∧
      (∃ (r01 : Int) (r12 : Int) (r22 : List (List D)) (r5 : Int),
      (FnD prog 52 [(vD (dL r2)), (vD (dI (IntKind.i64.wrap (n.tmod (5 : Int)))))] (V.tup [(E.agg [(sD (dI r01)), (sD (dI r12)), (sD (dL r22))]), (eD (dI r5))]) []) ∧
      ((∀ y ∈ r1, y.length = 5) ∧
      ((([] : List (List D)).length + (r1 : List (List D)).length) * 56 ≤ 140737488355328) ∧
      (∃ (r6 : List (List D)),
      (FnD prog 53 [(vD (dL r1))] (vD (dL r6)) []) ∧
      (∀ y ∈ r6, y.length = 5) ∧
      (((([] : List (List D)) ++ r1).length + (r6 : List (List D)).length) * 56 ≤ 140737488355328) ∧
      ((r = true →
        ∃ (r7 : Bool),
        (FnD prog 23 [(vA [(sD (dI r0)), (sD (dI r11)), (sD (dL r21))]), (vA [(sD (dI r01)), (sD (dI r12)), (sD (dL r22))])] (vD (dB r7)) []) ∧
        ((r7 = true →
          ∃ (r8 : List (List D)) (r9 : Bool),
          (FnD prog 50 [(vD (dL r2))] (vD (dL r8)) []) ∧
          (FnD prog 54 [(vD (dL r8)), (vD (dL r2))] (vD (dB r9)) []) ∧
          ((r9 = true →
            ∃ (r10 : List (List D)),
            (FnD prog 50 [(vD (dL ((([] : List (List D)) ++ r1) ++ r6)))] (vD (dL r10)) []) ∧
            (R (vD (dB ((r10.length : Int) == (0 : Int)))) [])) ∧
          (r9 = false →
            R (vD (dB false)) []))) ∧
        (r7 = false →
          R (vD (dB false)) []))) ∧
      (r = false →
        R (vD (dB false)) []))))))))))))

theorem vc10_ok (n : Int) (l : List (List D)) {R : V → Heap → Prop} (h : vc10 n l R) : FnG prog 10 [(vD (D.int .u8 n)), (vD (dL l))] [] R :=
  FnG.vcg hT func10 ntmps10 (.r0 [0, 1] <| .exb fun r => .reg 0 [(0, (Or.call (vD (dB r)) [] []), 0, 0)] [0, 1, 5] [] [] <| .r0 [1, 5, 6] <| .exl fun r1 => .reg 0 [(2, (Or.call (vD (dL r1)) [] []), 0, 0)] [5, 6, 7] [] [] <| .exl fun r2 => .reg 0 [(1, (Or.call (vD (dL r2)) [] []), 0, 0)] [5, 6, 7, 8] [] [] <| .exb fun r3 => .reg 0 [(2, (Or.call (vD (dB r3)) [] []), 0, 0)] [5, 6, 7, 8, 9] [] [] <| .spl ((!r3)) (.reg 0 [(2, (Or.bool true), 0, 0)] [5, 6, 7, 8, 35] [] [.old 0] <| .ct true none <| .r0 [4] <| .ret []) (.reg 0 [(2, (Or.bool false), 0, 0)] [5, 6, 7, 8, 35] [] [.old 0] <| .c2 (.r0 [4] <| .ret []) (.ex fun r0 => .ex fun r11 => .exl fun r21 => .ex fun r4 => .reg 1 [(2, (Or.call (V.tup [(E.agg [(sD (dI r0)), (sD (dI r11)), (sD (dL r21))]), (eD (dI r4))]) [] []), 0, 0), (6, Or.none, 0, 1)] [5, 6, 7, 8, 10] [0] [] <| .ex fun r01 => .ex fun r12 => .exl fun r22 => .ex fun r5 => .reg 1 [(2, (Or.call (V.tup [(E.agg [(sD (dI r01)), (sD (dI r12)), (sD (dL r22))]), (eD (dI r5))]) [] []), 0, 0), (6, Or.none, 1, 1)] [5, 7, 8, 10, 12] [0, 1] [] <| .reg 2 [(0, Or.none, 2, 1), (2, Or.none, 3, 1)] [5, 7, 8, 10, 12, 14] [0, 1, 3] [] <| .exl fun r6 => .reg 1 [(2, (Or.call (vD (dL r6)) [] []), 0, 0), (3, Or.none, 3, 1)] [5, 8, 10, 12, 14] [0, 1, 3] [] <| .frz [2] <| .spl r (.exb fun r7 => .ob (FnD prog 23 [(vA [(sD (dI r0)), (sD (dI r11)), (sD (dL r21))]), (vA [(sD (dI r01)), (sD (dI r12)), (sD (dL r22))])] (vD (dB r7)) []) <| .spl r7 (.exl fun r8 => .exb fun r9 => .ob (FnD prog 50 [(vD (dL r2))] (vD (dL r8)) []) <| .ob (FnD prog 54 [(vD (dL r8)), (vD (dL r2))] (vD (dB r9)) []) <| .spl r9 (.exl fun r10 => .reg 0 [(1, (Or.bool true), 0, 0), (4, (Or.call (vD (dB r7)) [] []), 0, 0), (6, (Or.bool true), 0, 0), (8, (Or.call (vD (dL r8)) [] []), 0, 0), (10, (Or.call (vD (dB r9)) [] []), 0, 0), (12, (Or.bool true), 0, 0), (14, (Or.call (vD (dL r10)) [] []), 0, 0)] [4] [] [.old 5, .old 4, .old 3, .old 2, .old 1, .old 0] <| .ret []) (.reg 0 [(1, (Or.bool true), 0, 0), (4, (Or.call (vD (dB r7)) [] []), 0, 0), (6, (Or.bool true), 0, 0), (8, (Or.call (vD (dL r8)) [] []), 0, 0), (10, (Or.call (vD (dB r9)) [] []), 0, 0), (12, (Or.bool false), 0, 0)] [4] [] [.old 5, .old 4, .old 3, .old 2, .old 1, .old 0] <| .ret [])) (.reg 0 [(1, (Or.bool true), 0, 0), (4, (Or.call (vD (dB r7)) [] []), 0, 0), (6, (Or.bool false), 0, 0)] [4] [] [.old 2, .old 1, .old 0] <| .ret [])) (.reg 0 [(1, (Or.bool false), 0, 0)] [4] [] [.old 0] <| .ret []))))
    (by kernel_rfl) (by kernel_rfl) (by kernel_rfl) h

end Go.AM

/- The law of shortened lists of operations. -/
namespace Go.AM
open Go.Proofs.Try

theorem apO_bdZ {r c K : Nat} {o : Opz} {m : List (List Int)} (h : vO r o = true) (hz : o.z.natAbs ≤ 1280) (hm : Mx r c m) (km : BdM K m) : BdM (1281 * K) (apO r c o m) := table_bd fun a b ha hb => by
  obtain ⟨hi, _⟩ := vO_ok h
  have hj := vO_j h
  have e1 := el_bd hm km ha hb
  have e2 := el_bd hm km hi hb
  unfold opF
  by_cases h1 : o.k = 1
  · have e3 := el_bd hm km (hj (by omega)) hb
    simp only [h1, if_true]
    repeat' split
    all_goals omega
  · simp only [h1, if_false]
    by_cases h2 : o.k = 2
    · simp only [h2, if_true]
      repeat' split
      all_goals omega
    · have e3 := el_bd hm km (hj h2) hb
      simp only [h2, if_false]
      split
      · have e4 := mul_natAbs_le hz e3
        have := Int.natAbs_add_le (el m a b) (o.z * el m o.j b)
        omega
      · omega

theorem apL_bdZ {r c : Nat} : ∀ {l : List Opz} {K : Nat} {m : List (List Int)}, (∀ o ∈ l, vO r o = true ∧ o.z.natAbs ≤ 1280) → Mx r c m → BdM K m → BdM (1281 ^ l.length * K) (apL r c l m)
  | [], K, m, _, _, km => by simpa [apL] using km
  | o :: l, K, m, h, hm, km => by
    have := apL_bdZ (l := l) (fun o' ho' => h o' (by simp [ho'])) (apO_mx r c o m) (apO_bdZ (h o (by simp)).1 (h o (by simp)).2 hm km)
    rw [← Nat.mul_assoc, ← Nat.pow_succ] at this
    exact this

theorem powZ_le {n K : Nat} {B : Nat} (h : 1281 ^ n * K ≤ B) {m : Nat} (hm : m ≤ n) : 1281 ^ m * K ≤ B :=
  Nat.le_trans (Nat.mul_le_mul_right K (Nat.pow_le_pow_right (by decide) hm)) h

theorem rvalid_list {l : List Opz} {n : Nat} (hl : l.length ≤ 4294967296) (hz : SzO l) : FnD prog 51 [vs (oL l), vi n] (vb (l.all (vO n))) [] := by
  refine vc51_ok _ _ (R := Out _) ?_
  unfold vc51
  simp only [oL_length]
  refine ⟨fun t => ∃ i : Nat, t = (i : Int) ∧ i ≤ l.length ∧ ∀ k, (hk : k < l.length) → k < i → vO n l[k] = true, fun t => ((l.length : Int) - t).toNat, ⟨0, rfl, by omega, fun k _ hk => by omega⟩, ?_⟩
  rintro _ ⟨i, rfl, hi, hinv⟩
  refine ⟨fun h => ?_, fun h => outb ?_⟩
  · have hir : i < l.length := by simpa using h
    refine ⟨_, _, _, _, _, vO n l[i], ⟨by omega, by omega⟩, oL_get hir, rvalidOp_ok (hz _ (List.getElem_mem hir)), fun h2 => outb ?_, fun h2 => ?_⟩
    · have h3 : vO n l[i] = false := by simpa using h2
      symm
      rw [List.all_eq_false]
      exact ⟨l[i], List.getElem_mem hir, by rw [h3]; simp⟩
    · rw [inc64 (by omega)]
      refine ⟨⟨i + 1, rfl, by omega, fun k hkl hk => ?_⟩, by show ((l.length : Int) - ((i + 1 : Nat) : Int)).toNat < ((l.length : Int) - (i : Int)).toNat; omega⟩
      by_cases hki : k = i
      · subst hki; simpa using h2
      · exact hinv k hkl (by omega)
  · have hir : i = l.length := by have : l.length ≤ i := by simpa using h
                                  omega
    symm
    refine List.all_eq_true.2 fun o ho => ?_
    obtain ⟨k, hk, rfl⟩ := List.getElem_of_mem ho
    exact hinv k hk (by omega)

/-- A valid list of coefficients that are not too great. -/
def VZ (n : Nat) (l : List Opz) : Prop := ∀ o ∈ l, vO n o = true ∧ o.z.natAbs ≤ 1280

theorem VZ.valid {n : Nat} {l : List Opz} (h : VZ n l) : ∀ o ∈ l, vO n o = true := fun o ho => (h o ho).1
theorem VZ.sz {n : Nat} {l : List Opz} (h : VZ n l) : SzO l := fun o ho => sz_of (Nat.le_trans (h o ho).2 (by decide))
theorem VZ.all {n : Nat} {l : List Opz} (h : VZ n l) : l.all (vO n) = true := List.all_eq_true.2 h.valid
theorem VO.z {n : Nat} {l : List Opz} (h : VO n l) : VZ n l := fun o ho => ⟨(h o ho).1, Nat.le_trans (h o ho).2 (by decide)⟩

theorem rapply_ok {r c K : Nat} {l : List Opz} {m : List (List Int)} (hv : VZ r l) (hl : l.length ≤ 4294967295) (hm : Mx r c m) (km : BdM K m) (h1 : 1 ≤ K) (hr : r ≤ 4294967296) (hc : c ≤ 4294967296) (hK : K ≤ 1329227995784915872903807060280344576)
    (hB : 1281 ^ l.length * K ≤ 497323236409786642155382248146820840100456150797347717440463976893159497012533375533056) : FnD prog 68 [vs (oL l), eM r c m] (eME r c (apL r c l m) 0) [] := by
  refine vc68_ok _ _ _ _ (R := Out _) ?_
  unfold vc68
  have hval := rvalid_list (l := l) (n := r) (by omega) hv.sz
  rw [hv.all] at hval
  refine ⟨_, hval, fun h => absurd h (by simp), fun _ => ⟨_, _, _, _, _, _, _, _, _, start_ok hm km hr hc hK, ?_⟩⟩
  simp only [oL_length]
  refine ⟨fun w0 w1 w3 w4 w6 w7 o2 o3 o4 t => ∃ i : Nat, t = (i : Int) ∧ i ≤ l.length ∧ w0 = r ∧ w1 = c ∧ w3 = r ∧ w4 = r ∧ w6 = r ∧ w7 = r ∧ o2 = om (apL r c (l.take i) m) ∧ o3 = om (apL r r (l.take i) (table r r delta)) ∧ o4 = om (apCL r (l.take i) (table r r delta)),
    fun _ _ _ _ _ _ _ _ _ t => ((l.length : Int) - t).toNat, ⟨0, rfl, by omega, rfl, rfl, rfl, rfl, rfl, rfl, by simp [apL], by simp [apL], by simp [apCL]⟩, ?_⟩
  rintro _ _ _ _ _ _ _ _ _ _ ⟨i, rfl, hi, rfl, rfl, rfl, rfl, rfl, rfl, rfl, rfl, rfl⟩
  refine ⟨fun h => ?_, fun h => ?_⟩
  · have hir : i < l.length := by simpa using h
    have ho := hv _ (List.getElem_mem hir)
    have hpre : VZ r (l.take i) := fun o ho => hv o (List.mem_of_mem_take ho)
    have mm := apL_mx (l.take i) hm
    have mu := apL_mx (l.take i) (table_mx r r delta)
    have mv := apCL_mx (l.take i) (table_mx r r delta)
    have kI : BdM K (table r r delta) := (ident_bd r).mono h1
    have bm := apL_bdZ hpre hm km
    have bu := apL_bdZ hpre (table_mx r r delta) kI
    have bv := apCL_bd hpre (table_mx r r delta) kI
    have hlt : (l.take i).length = i := by simp; omega
    rw [hlt] at bm bu bv
    have hB2 : 1281 * (1281 ^ i * K) ≤ 497323236409786642155382248146820840100456150797347717440463976893159497012533375533056 := by
      rw [← Nat.mul_assoc, Nat.mul_comm 1281, ← Nat.pow_succ]; exact powZ_le hB (by omega)
    have hB1 : 1281 ^ i * K ≤ 497323236409786642155382248146820840100456150797347717440463976893159497012533375533056 := powZ_le hB (by omega)
    have e1 : om (apO r c l[i] (apL r c (l.take i) m)) = om (apL r c (l.take (i + 1)) m) := by rw [apL_take hir]
    have e2 : om (apO r r l[i] (apL r r (l.take i) (table r r delta))) = om (apL r r (l.take (i + 1)) (table r r delta)) := by rw [apL_take hir]
    have e3 : om (apC r l[i] (apCL r (l.take i) (table r r delta))) = om (apCL r (l.take (i + 1)) (table r r delta)) := by rw [apCL_take hir]
    refine ⟨_, _, _, _, _, ⟨by omega, by omega⟩, oL_get hir, ?_⟩
    rw [inc64 (by omega)]
    have hdec : ((l.length : Int) - ((i + 1 : Nat) : Int)).toNat < ((l.length : Int) - (i : Int)).toNat := by omega
    refine ⟨fun hk => ?_, fun hk => ⟨fun hk2 => ?_, fun hk2 => ?_⟩⟩
    · have hk' : l[i].k = 1 := by simpa using (natEq _ 1).symm.trans hk
      exact ⟨_, _, _, _, _, _, _, _, _, wswap_ok ho.1 hk' mm mu mv hr, ⟨i + 1, rfl, by omega, rfl, rfl, rfl, rfl, rfl, rfl, e1, e2, e3⟩, hdec⟩
    · have hk' : l[i].k = 2 := by simpa using (natEq _ 2).symm.trans hk2
      exact ⟨_, _, _, _, _, _, _, _, _, wneg_ok ho.1 hk' mm mu mv bm bu bv hB1 hr hc, ⟨i + 1, rfl, by omega, rfl, rfl, rfl, rfl, rfl, rfl, e1, e2, e3⟩, hdec⟩
    · have hk1 : l[i].k ≠ 1 := by simpa using (natEq _ 1).symm.trans hk
      have hk2' : l[i].k ≠ 2 := by simpa using (natEq _ 2).symm.trans hk2
      have hk3 : l[i].k = 3 := by
        rcases (vO_ok ho.1).2 with g | g | g
        · omega
        · omega
        · exact g.1
      exact ⟨_, _, _, _, _, _, _, _, _, wadd_ok ho.1 hk3 mm mu mv bm bu bv ho.2 hB2 hr hc, ⟨i + 1, rfl, by omega, rfl, rfl, rfl, rfl, rfl, rfl, e1, e2, e3⟩, hdec⟩
  · have hir : i = l.length := by have : l.length ≤ i := by simpa using h
                                  omega
    subst hir
    rw [List.take_length]
    exact outME (matD_om _)

theorem rmatrix_ok {n : Nat} {l : List Opz} (hv : VZ n l) (hl : l.length ≤ 10) (hn : n ≤ 64) : FnD prog 52 [vs (oL l), vi n] (eME n n (mat n l) 0) [] := by
  refine vc52_ok _ _ (R := Out _) ?_
  unfold vc52
  refine ⟨fun h => absurd h (by simp), fun _ => ⟨fun h => absurd h (by simp; omega), fun _ => ⟨_, _, _, _, _, _, _, FnD.frz (rident_ok (by omega)), ?_, rfl, rfl⟩⟩⟩
  exact rapply_ok hv (by omega) (table_mx _ _ _) (ident_bd n) (by decide) (by omega) (by omega) (by decide) (Nat.le_trans (Nat.mul_le_mul_right 1 (Nat.pow_le_pow_right (by decide) hl)) (by decide))

theorem inL_get {l : List Opz} {t : Nat} (ht : t < l.length) : (inL l)[t]? = some (inO (l[l.length - 1 - t]'(by omega))) := by
  unfold inL
  rw [List.getElem?_map, List.getElem?_reverse ht, List.getElem?_eq_getElem (by omega)]; rfl

theorem rinvert_ok {l : List Opz} (hl : l.length ≤ 1000) (hz : SzO l) : FnD prog 53 [vs (oL l)] (vs (oL (inL l))) [] := by
  refine vc53_ok _ (R := Out _) ?_
  unfold vc53
  simp only [oL_length]
  refine ⟨fun out t => ∃ q : Nat, t = (l.length : Int) - 1 - q ∧ q ≤ l.length ∧ out = oL ((inL l).take q), fun _ t => (t + 1).toNat, ⟨0, by rw [w64 (by omega) (by omega)]; simp, by omega, by simp [oL]⟩, ?_⟩
  rintro _ _ ⟨q, rfl, hq, rfl⟩
  refine ⟨fun h => ?_, fun h => outs ?_⟩
  · have hql : q < l.length := by simp at h; omega
    have hi : l.length - 1 - q < l.length := by omega
    have e : ((l.length : Int) - 1 - q) = ((l.length - 1 - q : Nat) : Int) := by omega
    have hg := oL_get hi
    rw [← e] at hg
    refine ⟨_, _, _, _, _, ⟨by omega, by omega⟩, hg, _, _, rneg_ok (hz _ (List.getElem_mem hi)), ?_, ⟨q + 1, ?_, by omega, ?_⟩, ?_⟩
    · rw [oL_length]; simp only [List.length_take, List.length_cons, List.length_nil]; omega
    · rw [w64 (by omega) (by omega)]; omega
    · rw [List.take_add_one, inL_get hql, oL_append]; rfl
    · rw [w64 (by omega) (by omega)]
      show ((l.length : Int) - 1 - q - 1 + 1).toNat < ((l.length : Int) - 1 - q + 1).toNat
      omega
  · have hql : l.length ≤ q := by simp at h; omega
    rw [List.take_of_length_le (by rw [inL_length]; exact hql)]

theorem comp_VZ {n : Nat} {l : List Opz} (hv : VO n l) (hl : l.length ≤ 10) : VZ n (comp l) := fun o ho => by
  refine ⟨comp_valid hv.valid o ho, ?_⟩
  have h1 : ∀ i, i ≤ l.length → ∀ y ∈ compR (l.take i), y.z.natAbs ≤ 128 * i := fun i => by
    induction i with
    | zero => intro _ y hy; simp [compR] at hy
    | succ i ih =>
      intro hi y hy
      have hil : i < l.length := by omega
      rw [compR_snoc hil] at hy
      have := stepC_z (ih (by omega)) (hv _ (List.getElem_mem hil)).2 y hy
      omega
  have h2 := h1 l.length (Nat.le_refl _) o (by rw [List.take_length]; exact List.mem_reverse.1 ho)
  omega

theorem compacts_ok (x0 : Int) (g0 : IntKind.u8.min ≤ x0 ∧ x0 ≤ IntKind.u8.max) (l1 : List (List D)) (g1 : l1.length ≤ 9223372036854775807 ∧ ∀ x ∈ l1, DOKL [.i .u8, .i .u8, .i .u8, .i .i8] x) :
    FnD prog 10 [.e (.sc (.dat (.int .u8 x0))), .e (.sc (.dat (.sl l1)))] (vb true) [] := by
  obtain ⟨n, hn, bn⟩ := mod5 g0.1
  have hL : FnD prog 44 [vs l1, vi n, vi 10] (vs (oL (made n l1 10))) [] := ops_made (n := n) (m := 10) (by omega) (by decide) g1.2 g1.1
  have hv : VO n (made n l1 10) := made_VO g1.2
  have hl : (made n l1 10).length ≤ 10 := made_length _ _ _
  generalize made n l1 10 = l at hL hv hl
  have hc : FnD prog 50 [vs (oL l)] (vs (oL (comp l))) [] := compact_ok (fun o ho => Nat.le_trans (hv o ho).2 (by decide)) (by omega)
  have vc := comp_VZ hv hl
  have lc := comp_length l
  have h51 := rvalid_list (l := comp l) (n := n) (by omega) vc.sz
  rw [vc.all] at h51
  have hp := rmatrix_ok hv.z hl (n := n) (by omega)
  have hq := rmatrix_ok vc (by omega) (n := n) (by omega)
  have em : mat n (comp l) = mat n l := apL_comp hv.valid (table_mx _ _ _)
  rw [em] at hq
  have hi := rinvert_ok (l := l) (by omega) hv.sz
  have km : BdM (129 ^ 10) (mat n l) := by
    have := apL_bd hv (table_mx n n delta) (ident_bd n)
    rw [Nat.mul_one] at this
    exact this.mono (Nat.pow_le_pow_right (by decide) hl)
  have hs := same_yes (mat_mx n l) km km rfl (by omega) (by omega) (by decide)
  have hcc : FnD prog 50 [vs (oL (comp l))] (vs (oL (comp l))) [] := by
    have := compact_ok (l := comp l) (fun o ho => (vc o ho).2) (by omega)
    rwa [comp_comp hv.valid] at this
  have h54 := sameOps_ok vc.sz vc.sz (a := comp l) (b := comp l) (by omega)
  rw [decide_eq_true rfl] at h54
  have h0 : FnD prog 50 [vs (oL (l ++ inL l))] (vs (oL [])) [] := by
    have := compact_ok (l := l ++ inL l) (fun o ho => by
      rcases List.mem_append.1 ho with h | h
      · exact Nat.le_trans (hv o h).2 (by decide)
      · exact Nat.le_trans (hv.inv o h).2 (by decide)) (by rw [List.length_append, inL_length]; omega)
    rwa [comp_inverse hv.valid] at this
  rw [oL_append] at h0
  have nt : ∀ {X : Prop}, (!true) = true → X := fun h => by simp at h
  have nf : ∀ {X : Prop}, true = false → X := fun h => by simp at h
  refine vc10_ok _ _ (R := Out _) ?_
  unfold vc10
  rw [hn]
  refine ⟨true, sanity18_ok, by decide, _, hL, _, hc, true, h51, nt, fun _ => ?_⟩
  simp only [oL_length, List.nil_append, List.length_nil]
  refine ⟨fun h => absurd h (by simp; omega), fun _ => ⟨_, _, _, _, hp, _, _, _, _, hq, oL_five l, by omega, _, hi, oL_five _, by rw [oL_length, inL_length]; omega, fun _ => ?_, nf⟩⟩
  exact ⟨_, hs, fun _ => ⟨_, _, hcc, h54, fun _ => ⟨_, h0, rfl, rfl⟩, nf⟩, nf⟩

end Go.AM
