/- The fixed examples of the law of operations. -/
import Derived.Test.YtbodjgljjaafaaaL4
namespace Go.AM
open Go.Proofs.Try

theorem o_ints {r c : Nat} {v : List Int} {m : List (List Int)} (h : table r c (fillF c v) = m) (hr : r ≤ 1048576) (hc : c ≤ 1048576) (hv : ∀ z ∈ v, -9223372036854775808 ≤ z ∧ z ≤ 9223372036854775807) :
    FnD prog 70 [vi r, vi c, vs (ints v)] (eM r c m) [] := FnD.frz (h ▸ rints_ok hr hc hv)

theorem VO.of {n : Nat} {l : List Opz} (h : (l.all fun o => vO n o && decide (o.z.natAbs ≤ 128)) = true) : VO n l := fun o ho => by
  have := List.all_eq_true.1 h o ho
  simpa using this

theorem SzO.of {l : List Opz} (h : (l.all fun o => decide (o.z.natAbs ≤ 128)) = true) : SzO l := fun o ho => by
  have := List.all_eq_true.1 h o ho
  exact sz_of (Nat.le_trans (by simpa using this) (by decide))

theorem o_apply {r c : Nat} {l : List Opz} {m m' : List (List Int)} (h : apL r c l m = m') (hv : (l.all fun o => vO r o && decide (o.z.natAbs ≤ 128)) = true) (hl : l.length ≤ 10) (hm : Mx r c m) (km : BdM 9 m) (hr : r ≤ 9) (hc : c ≤ 9) :
    FnD prog 45 [vs (oL l), eM r c m] (eME r c m' 0) [] :=
  h ▸ apply_ok (VO.of hv) (by omega) hm km (by omega) (by omega) (by decide) (Nat.le_trans (Nat.mul_le_mul_right 9 (Nat.pow_le_pow_right (by decide) hl)) (by decide))

theorem o_comp {l l' : List Opz} (h : comp l = l') (hz : (l.all fun o => decide (o.z.natAbs ≤ 128)) = true) (hl : l.length ≤ 10) : FnD prog 50 [vs (oL l)] (vs (oL l')) [] :=
  h ▸ compact_ok (fun o ho => by simpa using List.all_eq_true.1 hz o ho) (by omega)

theorem o_same {l : List Opz} (hz : (l.all fun o => decide (o.z.natAbs ≤ 128)) = true) (hl : l.length ≤ 10) : FnD prog 54 [vs (oL l), vs (oL l)] (vb true) [] := by
  have := sameOps_ok (SzO.of hz) (SzO.of hz) (a := l) (b := l) (by omega)
  rwa [decide_eq_true rfl] at this

theorem o_valid {l : List Opz} {n : Nat} {b : Bool} (h : l.all (vO n) = b) (hz : (l.all fun o => decide (o.z.natAbs ≤ 128)) = true) (hl : l.length ≤ 10) : FnD prog 96 [vs (oL l), vi n] (vb b) [] :=
  h ▸ valid_ok (by omega) (SzO.of hz)

theorem sanity18_ok : FnD prog 43 [] (vb true) [] := by
  have a013 : FnD prog 93 [vi 0, vi 1, vi 3] (oE ⟨3, 0, 1, 3⟩) [] := addOp_ok 0 1 3 (by decide) (by decide)
  have a023 : FnD prog 93 [vi 0, vi 2, vi 3] (oE ⟨3, 0, 2, 3⟩) [] := addOp_ok 0 2 3 (by decide) (by decide)
  have a102 : FnD prog 93 [vi 1, vi 0, vi 2] (oE ⟨3, 1, 0, 2⟩) [] := addOp_ok 1 0 2 (by decide) (by decide)
  have a012 : FnD prog 93 [vi 0, vi 1, vi 2] (oE ⟨3, 0, 1, 2⟩) [] := addOp_ok 0 1 2 (by decide) (by decide)
  have a100 : FnD prog 93 [vi 1, vi 0, vi 0] (oE ⟨3, 1, 0, 0⟩) [] := addOp_ok 1 0 0 (by decide) (by decide)
  have a01m5 : FnD prog 93 [vi 0, vi 1, vi (-5)] (oE ⟨3, 0, 1, -5⟩) [] := addOp_ok 0 1 (-5) (by decide) (by decide)
  have a01m3 : FnD prog 93 [vi 0, vi 1, vi (-3)] (oE ⟨3, 0, 1, -3⟩) [] := addOp_ok 0 1 (-3) (by decide) (by decide)
  have s00 : FnD prog 94 [vi 0, vi 0] (oE ⟨1, 0, 0, 0⟩) [] := swapOp_ok 0 0
  have s01 : FnD prog 94 [vi 0, vi 1] (oE ⟨1, 0, 1, 0⟩) [] := swapOp_ok 0 1
  have s10 : FnD prog 94 [vi 1, vi 0] (oE ⟨1, 1, 0, 0⟩) [] := swapOp_ok 1 0
  have n0 : FnD prog 95 [vi 0] (oE ⟨2, 0, 0, 0⟩) [] := negOp_ok 0
  have n1 : FnD prog 95 [vi 1] (oE ⟨2, 1, 0, 0⟩) [] := negOp_ok 1
  have id2 : FnD prog 49 [vi 2] (eM 2 2 [[1, 0], [0, 1]]) [] := FnD.frz (rident_ok (n := 2) (by decide))
  have h1 : FnD prog 45 [vs (oL [⟨3, 0, 1, 3⟩]), eM 2 2 [[1, 0], [0, 1]]] (eME 2 2 [[1, 3], [0, 1]] 0) [] := o_apply (r := 2) (c := 2) (by decide) (by decide) (by decide) ⟨by decide, by decide⟩ (by unfold BdM BdR; decide) (by decide) (by decide)
  have h2 : FnD prog 45 [vs (oL [⟨3, 0, 2, 3⟩]), eM 2 2 [[1, 0], [0, 1]]] (eME 0 0 [] 180) [] := apply_bad (r := 2) (c := 2) (SzO.of (by decide)) (by decide) (by decide)
  have h3 : FnD prog 46 [vs (oL [⟨1, 0, 0, 0⟩]), eM 2 2 [[1, 0], [0, 1]]] (eME 0 0 [] 180) [] := undo_bad (r := 2) (c := 2) (SzO.of (by decide)) (by decide) (by decide)
  have h4 : FnD prog 47 [vs (oL [⟨1, 0, 1, 0⟩, ⟨2, 0, 0, 0⟩, ⟨3, 1, 0, 2⟩]), vi 2] (eME 2 2 [[0, -1], [1, -2]] 0) [] := by
    have := matrix_ok (n := 2) (l := [⟨1, 0, 1, 0⟩, ⟨2, 0, 0, 0⟩, ⟨3, 1, 0, 2⟩]) (VO.of (by decide)) (by decide) (by decide) (by decide)
    rwa [show mat 2 [⟨1, 0, 1, 0⟩, ⟨2, 0, 0, 0⟩, ⟨3, 1, 0, 2⟩] = [[0, -1], [1, -2]] by decide] at this
  have h5 : FnD prog 47 [vs [], vi 65] (eME 0 0 [] 1) [] := matrix_big (n := 65) [] (by decide)
  have h6 : FnD prog 47 [vs (oL [⟨2, 0, 0, 0⟩]), vi 0] (eME 0 0 [] 180) [] := matrix_bad (n := 0) (SzO.of (by decide)) (by decide) (by decide) (by decide)
  have h7 : FnD prog 50 [vs (oL [⟨1, 0, 1, 0⟩, ⟨1, 1, 0, 0⟩, ⟨2, 0, 0, 0⟩])] (vs (oL [⟨2, 0, 0, 0⟩])) [] := o_comp (by decide) (by decide) (by decide)
  have h8 : FnD prog 50 [vs (oL [⟨3, 0, 1, 2⟩, ⟨3, 0, 1, 3⟩, ⟨3, 1, 0, 0⟩, ⟨3, 0, 1, -5⟩, ⟨2, 1, 0, 0⟩])] (vs (oL [⟨2, 1, 0, 0⟩])) [] := o_comp (by decide) (by decide) (by decide)
  have h9 : FnD prog 48 [vs (oL [⟨1, 0, 1, 0⟩, ⟨3, 0, 1, 3⟩])] (vs (oL [⟨3, 0, 1, -3⟩, ⟨1, 0, 1, 0⟩])) [] := by
    have := invert_oL (l := [⟨1, 0, 1, 0⟩, ⟨3, 0, 1, 3⟩]) (by decide)
    rwa [show inL [⟨1, 0, 1, 0⟩, ⟨3, 0, 1, 3⟩] = [⟨3, 0, 1, -3⟩, ⟨1, 0, 1, 0⟩] by decide] at this
  have i1 : FnD prog 70 [vi 2, vi 2, vs (ints [1, 3, 0, 1])] (eM 2 2 [[1, 3], [0, 1]]) [] := o_ints (r := 2) (c := 2) (by decide) (by decide) (by decide) (by decide)
  have i2 : FnD prog 70 [vi 2, vi 2, vs (ints [0, -1, 1, -2])] (eM 2 2 [[0, -1], [1, -2]]) [] := o_ints (r := 2) (c := 2) (by decide) (by decide) (by decide) (by decide)
  have same : ∀ (r c : Nat) (m : List (List Int)), Mx r c m → BdM 9 m → r ≤ 9 → c ≤ 9 → FnD prog 23 [eM r c m, eM r c m] (vb true) [] := fun r c m hm hk hr hc => same_yes hm hk hk rfl (by omega) (by omega) (by decide)
  have e1 : FnD prog 23 [eM 2 2 [[1, 3], [0, 1]], eM 2 2 [[1, 3], [0, 1]]] (vb true) [] := same 2 2 _ ⟨by decide, by decide⟩ (by unfold BdM BdR; decide) (by decide) (by decide)
  have e2 : FnD prog 23 [eM 2 2 [[0, -1], [1, -2]], eM 2 2 [[0, -1], [1, -2]]] (vb true) [] := same 2 2 _ ⟨by decide, by decide⟩ (by unfold BdM BdR; decide) (by decide) (by decide)
  have c1 : FnD prog 54 [vs (oL [⟨2, 0, 0, 0⟩]), vs (oL [⟨2, 0, 0, 0⟩])] (vb true) [] := o_same (by decide) (by decide)
  have c2 : FnD prog 54 [vs (oL [⟨2, 1, 0, 0⟩]), vs (oL [⟨2, 1, 0, 0⟩])] (vb true) [] := o_same (by decide) (by decide)
  have c3 : FnD prog 54 [vs (oL [⟨3, 0, 1, -3⟩, ⟨1, 0, 1, 0⟩]), vs (oL [⟨3, 0, 1, -3⟩, ⟨1, 0, 1, 0⟩])] (vb true) [] := o_same (by decide) (by decide)
  have v1 : FnD prog 96 [vs (oL []), vi 0] (vb true) [] := o_valid (n := 0) (by decide) (by decide) (by decide)
  have v2 : FnD prog 96 [vs (oL [⟨2, 0, 1, 0⟩]), vi 2] (vb false) [] := o_valid (n := 2) (by decide) (by decide) (by decide)
  have v3 : FnD prog 96 [vs (oL [⟨0, 0, 0, 0⟩]), vi 2] (vb false) [] := o_valid (n := 2) (by decide) (by decide) (by decide)
  refine vc43_ok (R := Out _) ?_
  unfold vc43
  exact ⟨a013, id2, h1, a023, id2, h2, s00, id2, h3, s01, n0, a102, h4, h5, n0, h6, s01, s10, n0, h7, a012, a013, a100, a01m5, n1, h8, s01, a013, h9,
    i1, e1, i2, e2, n0, c1, n1, c2, a01m3, s01, c3, v1, v2, v3, rfl, rfl⟩

end Go.AM

/- What functions of the program come to: group Og. Printed by vc.py. -/
set_option maxRecDepth 100000
set_option linter.unusedVariables false

namespace Go.AM
open Go.Proofs.Try

/- f8 torsion/torsionlaw18.OplogUndoes -/
def vc8 (x0 : Int) (x1 : Int) (x2 : List (List D)) (l : List (List D)) (R : V → Heap → Prop) : Prop :=
  ∃ (r : Bool),
  (FnD prog 43 [] (vD (dB r)) []) ∧
  (∃ (r0 : Int) (r1 : Int) (rrows : List (List (List D))),
  (FnD prog 15 [(vA [(sD (D.int .u8 x0)), (sD (D.int .u8 x1)), (sD (dL x2))])] (vA [(sD (dI r0)), (sD (dI r1)), (S.ref 0)]) [(some (Obj.mat 2 rrows))]) ∧
  (∃ (r2 : List (List D)),
  (FnD prog 44 [(vD (dL l)), (vD (dI r0)), (vD (dI (10 : Int)))] (vD (dL r2)) []) ∧
  (∃ (r01 : Int) (r11 : Int) (r21 : List (List D)) (r3 : Int),
  (FnD prog 45 [(vD (dL r2)), (vA [(sD (dI r0)), (sD (dI r1)), (sD (dL (matD rrows)))])] (V.tup [(E.agg [(sD (dI r01)), (sD (dI r11)), (sD (dL r21))]), (eD (dI r3))]) []) ∧
  (((r3 != (0 : Int)) = true →
    R (vD (dB false)) []) ∧
  ((r3 != (0 : Int)) = false →
    ∃ (r4 : Bool),
    (FnD prog 22 [(vA [(sD (dI r01)), (sD (dI r11)), (sD (dL r21))]), (vD (dI r0)), (vD (dI r1))] (vD (dB r4)) []) ∧
    (((!r4) = true →
      R (vD (dB false)) []) ∧
    ((!r4) = false →
      ∃ (r02 : Int) (r12 : Int) (r22 : List (List D)) (r5 : Int),
      (FnD prog 46 [(vD (dL r2)), (vA [(sD (dI r01)), (sD (dI r11)), (sD (dL r21))])] (V.tup [(E.agg [(sD (dI r02)), (sD (dI r12)), (sD (dL r22))]), (eD (dI r5))]) []) ∧
      (∃ (r03 : Int) (r13 : Int) (r23 : List (List D)) (r6 : Int),
      (FnD prog 46 [(vD (dL r2)), (vA [(sD (dI r0)), (sD (dI r1)), (sD (dL (matD rrows)))])] (V.tup [(E.agg [(sD (dI r03)), (sD (dI r13)), (sD (dL r23))]), (eD (dI r6))]) []) ∧
      (((r5 != (0 : Int)) = true →
        R (vD (dB false)) []) ∧
      ((r5 != (0 : Int)) = false →
        ((r6 != (0 : Int)) = true →
          R (vD (dB false)) []) ∧
        ((r6 != (0 : Int)) = false →
          ∃ (r7 : Bool),
          (FnD prog 22 [(vA [(sD (dI r03)), (sD (dI r13)), (sD (dL r23))]), (vD (dI r0)), (vD (dI r1))] (vD (dB r7)) []) ∧
          (((!r7) = true →
            R (vD (dB false)) []) ∧
          ((!r7) = false →
            ∃ (r04 : Int) (r14 : Int) (r24 : List (List D)) (r8 : Int),
            (FnD prog 45 [(vD (dL r2)), (vA [(sD (dI r03)), (sD (dI r13)), (sD (dL r23))])] (V.tup [(E.agg [(sD (dI r04)), (sD (dI r14)), (sD (dL r24))]), (eD (dI r8))]) []) ∧
            (∃ (r05 : Int) (r15 : Int) (r25 : List (List D)) (r9 : Int),
            (FnD prog 47 [(vD (dL r2)), (vD (dI r0))] (V.tup [(E.agg [(sD (dI r05)), (sD (dI r15)), (sD (dL r25))]), (eD (dI r9))]) []) ∧
            (∃ (r10 : List (List D)) (r06 : Int) (r16 : Int) (r26 : List (List D)) (r17 : Int),
            (FnD prog 48 [(vD (dL r2))] (vD (dL r10)) []) ∧
            (FnD prog 47 [(vD (dL r10)), (vD (dI r0))] (V.tup [(E.agg [(sD (dI r06)), (sD (dI r16)), (sD (dL r26))]), (eD (dI r17))]) []) ∧
            (((r8 != (0 : Int)) = true →
              R (vD (dB false)) []) ∧
            ((r8 != (0 : Int)) = false →
              ((r9 != (0 : Int)) = true →
                R (vD (dB false)) []) ∧
              ((r9 != (0 : Int)) = false →
                ((r17 != (0 : Int)) = true →
                  R (vD (dB false)) []) ∧
                ((r17 != (0 : Int)) = false →
                  ∃ (r18 : Bool),
                  (FnD prog 22 [(vA [(sD (dI r05)), (sD (dI r15)), (sD (dL r25))]), (vD (dI r0)), (vD (dI r0))] (vD (dB r18)) []) ∧
                  (((!r18) = true →
                    R (vD (dB false)) []) ∧
                  ((!r18) = false →
                    ∃ (r19 : Bool),
                    (FnD prog 22 [(vA [(sD (dI r06)), (sD (dI r16)), (sD (dL r26))]), (vD (dI r0)), (vD (dI r0))] (vD (dB r19)) []) ∧
                    (((!r19) = true →
                      R (vD (dB false)) []) ∧
                    ((!r19) = false →
                      (r = true →
                        ∃ (r20 : Bool),
                        (FnD prog 23 [(vA [(sD (dI r02)), (sD (dI r12)), (sD (dL r22))]), (vA [(sD (dI r0)), (sD (dI r1)), (sD (dL (matD rrows)))])] (vD (dB r20)) []) ∧
                        ((r20 = true →
                          ∃ (r27 : Bool),
                          (FnD prog 23 [(vA [(sD (dI r04)), (sD (dI r14)), (sD (dL r24))]), (vA [(sD (dI r0)), (sD (dI r1)), (sD (dL (matD rrows)))])] (vD (dB r27)) []) ∧
                          ((r27 = true →
                            ∃ (r07 : Int) (r110 : Int) (r28 : List (List D)) (r08 : Int) (r111 : Int) (r29 : List (List D)) (r30 : Bool),
                            (FnD prog 27 [(vA [(sD (dI r05)), (sD (dI r15)), (sD (dL r25))]), (vA [(sD (dI r06)), (sD (dI r16)), (sD (dL r26))])] (vA [(sD (dI r07)), (sD (dI r110)), (sD (dL r28))]) []) ∧
                            (FnD prog 49 [(vD (dI r0))] (vA [(sD (dI r08)), (sD (dI r111)), (sD (dL r29))]) []) ∧
                            (FnD prog 23 [(vA [(sD (dI r07)), (sD (dI r110)), (sD (dL r28))]), (vA [(sD (dI r08)), (sD (dI r111)), (sD (dL r29))])] (vD (dB r30)) []) ∧
                            (R (vD (dB r30)) [])) ∧
                          (r27 = false →
                            R (vD (dB false)) []))) ∧
                        (r20 = false →
                          R (vD (dB false)) []))) ∧
                      (r = false →
                        R (vD (dB false)) []))))))))))))))))))))))))

theorem vc8_ok (x0 : Int) (x1 : Int) (x2 : List (List D)) (l : List (List D)) {R : V → Heap → Prop} (h : vc8 x0 x1 x2 l R) : FnG prog 8 [(vA [(sD (D.int .u8 x0)), (sD (D.int .u8 x1)), (sD (dL x2))]), (vD (dL l))] [] R :=
  FnG.vcg hT func8 ntmps8 (.reg 1 [(0, Or.none, 0, 1)] [1, 2] [0] [] <| .exb fun r => .reg 0 [(0, (Or.call (vD (dB r)) [] []), 0, 0)] [1, 2, 5] [0] [] <| .ex fun r0 => .ex fun r1 => .exm fun rrows => .reg 2 [(1, (Or.call (vA [(sD (dI r0)), (sD (dI r1)), (S.ref 0)]) [(some (Obj.mat 2 rrows))] []), 1, 1), (2, Or.none, 2, 1)] [1, 5, 6] [2, 1] [] <| .exl fun r2 => .reg 0 [(3, (Or.call (vD (dL r2)) [] []), 0, 0)] [5, 6, 7] [0, 1] [] <| .frz [1] <| .ex fun r01 => .ex fun r11 => .exl fun r21 => .ex fun r3 => .reg 1 [(2, (Or.call (V.tup [(E.agg [(sD (dI r01)), (sD (dI r11)), (sD (dL r21))]), (eD (dI r3))]) [] []), 0, 0), (6, Or.none, 2, 1)] [5, 6, 7, 8, 9] [0, 2] [] <| .spl ((r3 != (0 : Int))) (.reg 0 [(2, (Or.bool true), 0, 0)] [5, 6, 7, 8, 43] [0, 1] [.old 0] <| .ct true none <| .r0 [4] <| .ret []) (.exb fun r4 => .reg 0 [(2, (Or.bool false), 0, 0), (8, (Or.call (vD (dB r4)) [] []), 0, 0)] [5, 6, 7, 8, 43] [0, 1] [.old 0] <| .c2 (.r0 [4] <| .ret []) (.ex fun r02 => .ex fun r12 => .exl fun r22 => .ex fun r5 => .reg 1 [(2, (Or.call (V.tup [(E.agg [(sD (dI r02)), (sD (dI r12)), (sD (dL r22))]), (eD (dI r5))]) [] []), 0, 0), (6, Or.none, 2, 1)] [5, 6, 7, 10, 11] [0, 2] [] <| .ex fun r03 => .ex fun r13 => .exl fun r23 => .ex fun r6 => .reg 1 [(2, (Or.call (V.tup [(E.agg [(sD (dI r03)), (sD (dI r13)), (sD (dL r23))]), (eD (dI r6))]) [] []), 0, 0), (6, Or.none, 2, 1)] [5, 6, 7, 10, 11, 12, 13] [0, 1, 2] [] <| .spl ((r5 != (0 : Int))) (.reg 0 [(2, (Or.bool true), 0, 0)] [5, 6, 7, 10, 12, 70] [0, 1, 2] [.old 0] <| .ct true none <| .r0 [4] <| .ret []) (.spl ((r6 != (0 : Int))) (.reg 0 [(2, (Or.bool false), 0, 0), (6, (Or.bool true), 0, 0)] [5, 6, 7, 10, 12, 70] [0, 1, 2] [.old 1, .old 0] <| .ct true none <| .r0 [4] <| .ret []) (.exb fun r7 => .reg 0 [(2, (Or.bool false), 0, 0), (6, (Or.bool false), 0, 0), (12, (Or.call (vD (dB r7)) [] []), 0, 0)] [5, 6, 7, 10, 12, 70] [0, 1, 2] [.old 1, .old 0] <| .c2 (.r0 [4] <| .ret []) (.ex fun r04 => .ex fun r14 => .exl fun r24 => .ex fun r8 => .reg 1 [(2, (Or.call (V.tup [(E.agg [(sD (dI r04)), (sD (dI r14)), (sD (dL r24))]), (eD (dI r8))]) [] []), 0, 0), (6, Or.none, 3, 1)] [5, 6, 7, 10, 14, 15] [0, 1, 3] [] <| .ex fun r05 => .ex fun r15 => .exl fun r25 => .ex fun r9 => .reg 1 [(3, (Or.call (V.tup [(E.agg [(sD (dI r05)), (sD (dI r15)), (sD (dL r25))]), (eD (dI r9))]) [] []), 0, 0), (7, Or.none, 3, 1)] [5, 6, 7, 10, 14, 15, 16, 17] [0, 1, 2, 3] [] <| .exl fun r10 => .ex fun r06 => .ex fun r16 => .exl fun r26 => .ex fun r17 => .drw 1 [(1, ((Or.call (vD (dL r10)) [] []), 0, 0), []), (4, ((Or.call (V.tup [(E.agg [(sD (dI r06)), (sD (dI r16)), (sD (dL r26))]), (eD (dI r17))]) [] []), 0, 0), []), (8, (Or.none, 4, 1), [4]), (9, (Or.none, 0, 0), [4])] [5, 6, 10, 14, 15, 16, 17, 18, 19] [0, 1, 2, 3, 4] [] <| .spl ((r8 != (0 : Int))) (.reg 0 [(2, (Or.bool true), 0, 0)] [5, 6, 10, 14, 16, 18, 119] [0, 1, 2, 3, 4] [.old 0] <| .ct true none <| .r0 [4] <| .ret []) (.spl ((r9 != (0 : Int))) (.reg 0 [(2, (Or.bool false), 0, 0), (6, (Or.bool true), 0, 0)] [5, 6, 10, 14, 16, 18, 119] [0, 1, 2, 3, 4] [.old 1, .old 0] <| .ct true none <| .r0 [4] <| .ret []) (.spl ((r17 != (0 : Int))) (.reg 0 [(2, (Or.bool false), 0, 0), (6, (Or.bool false), 0, 0), (10, (Or.bool true), 0, 0)] [5, 6, 10, 14, 16, 18, 119] [0, 1, 2, 3, 4] [.old 2, .old 1, .old 0] <| .ct true none <| .r0 [4] <| .ret []) (.exb fun r18 => .ob (FnD prog 22 [(vA [(sD (dI r05)), (sD (dI r15)), (sD (dL r25))]), (vD (dI r0)), (vD (dI r0))] (vD (dB r18)) []) <| .spl ((!r18)) (.reg 0 [(2, (Or.bool false), 0, 0), (6, (Or.bool false), 0, 0), (10, (Or.bool false), 0, 0), (16, (Or.call (vD (dB r18)) [] []), 0, 0), (19, (Or.bool true), 0, 0)] [5, 6, 10, 14, 16, 18, 119] [0, 1, 2, 3, 4] [.old 4, .old 3, .old 2, .old 1, .old 0] <| .ct true none <| .r0 [4] <| .ret []) (.exb fun r19 => .reg 0 [(2, (Or.bool false), 0, 0), (6, (Or.bool false), 0, 0), (10, (Or.bool false), 0, 0), (16, (Or.call (vD (dB r18)) [] []), 0, 0), (19, (Or.bool false), 0, 0), (25, (Or.call (vD (dB r19)) [] []), 0, 0)] [5, 6, 10, 14, 16, 18, 119] [0, 1, 2, 3, 4] [.old 4, .old 3, .old 2, .old 1, .old 0] <| .c2 (.r0 [4] <| .ret []) (.spl r (.exb fun r20 => .ob (FnD prog 23 [(vA [(sD (dI r02)), (sD (dI r12)), (sD (dL r22))]), (vA [(sD (dI r0)), (sD (dI r1)), (sD (dL (matD rrows)))])] (vD (dB r20)) []) <| .spl r20 (.exb fun r27 => .ob (FnD prog 23 [(vA [(sD (dI r04)), (sD (dI r14)), (sD (dL r24))]), (vA [(sD (dI r0)), (sD (dI r1)), (sD (dL (matD rrows)))])] (vD (dB r27)) []) <| .spl r27 (.ex fun r07 => .ex fun r110 => .exl fun r28 => .ex fun r08 => .ex fun r111 => .exl fun r29 => .exb fun r30 => .drw 0 [(1, ((Or.bool true), 0, 0), []), (4, ((Or.call (vD (dB r20)) [] []), 0, 0), []), (6, ((Or.bool true), 0, 0), []), (9, ((Or.call (vD (dB r27)) [] []), 0, 0), []), (11, ((Or.bool true), 0, 0), []), (14, ((Or.call (vA [(sD (dI r07)), (sD (dI r110)), (sD (dL r28))]) [] []), 0, 0), []), (17, ((Or.call (vA [(sD (dI r08)), (sD (dI r111)), (sD (dL r29))]) [] []), 0, 0), []), (18, ((Or.call (vD (dB r30)) [] []), 0, 0), [])] [4] [] [.old 4, .old 3, .old 2, .old 1, .old 0] <| .ret []) (.drw 0 [(1, ((Or.bool true), 0, 0), []), (4, ((Or.call (vD (dB r20)) [] []), 0, 0), []), (6, ((Or.bool true), 0, 0), []), (9, ((Or.call (vD (dB r27)) [] []), 0, 0), []), (11, ((Or.bool false), 0, 0), [])] [4] [] [.old 4, .old 3, .old 2, .old 1, .old 0] <| .ret [])) (.drw 0 [(1, ((Or.bool true), 0, 0), []), (4, ((Or.call (vD (dB r20)) [] []), 0, 0), []), (6, ((Or.bool false), 0, 0), [])] [4] [] [.old 2, .old 1, .old 0] <| .ret [])) (.drw 0 [(1, ((Or.bool false), 0, 0), [])] [4] [] [.old 0] <| .ret []))))))))))))
    (by kernel_rfl) (by kernel_rfl) (by kernel_rfl) h

/- f9 torsion/torsionlaw18.OplogComposes -/
def vc9 (x0 : Int) (x1 : Int) (x2 : List (List D)) (l : List (List D)) (k : List (List D)) (R : V → Heap → Prop) : Prop :=
  ∃ (r : Bool),
  (FnD prog 43 [] (vD (dB r)) []) ∧
  (∃ (r0 : Int) (r1 : Int) (rrows : List (List (List D))),
  (FnD prog 15 [(vA [(sD (D.int .u8 x0)), (sD (D.int .u8 x1)), (sD (dL x2))])] (vA [(sD (dI r0)), (sD (dI r1)), (S.ref 0)]) [(some (Obj.mat 2 rrows))]) ∧
  (∃ (r2 : List (List D)),
  (FnD prog 44 [(vD (dL l)), (vD (dI r0)), (vD (dI (8 : Int)))] (vD (dL r2)) []) ∧
  (∃ (r3 : List (List D)),
  (FnD prog 44 [(vD (dL k)), (vD (dI r0)), (vD (dI (8 : Int)))] (vD (dL r3)) []) ∧
  ((∀ y ∈ r2, y.length = 5) ∧
  ((([] : List (List D)).length + (r2 : List (List D)).length) * 56 ≤ 140737488355328) ∧
  ((∀ y ∈ r3, y.length = 5) ∧
  (((([] : List (List D)) ++ r2).length + (r3 : List (List D)).length) * 56 ≤ 140737488355328) ∧
  (∃ (r01 : Int) (r11 : Int) (r21 : List (List D)) (r4 : Int),
  (FnD prog 45 [(vD (dL r2)), (vA [(sD (dI r0)), (sD (dI r1)), (sD (dL (matD rrows)))])] (V.tup [(E.agg [(sD (dI r01)), (sD (dI r11)), (sD (dL r21))]), (eD (dI r4))]) []) ∧
  (∃ (r02 : Int) (r12 : Int) (r22 : List (List D)) (r5 : Int),
  (FnD prog 47 [(vD (dL r2)), (vD (dI r0))] (V.tup [(E.agg [(sD (dI r02)), (sD (dI r12)), (sD (dL r22))]), (eD (dI r5))]) []) ∧
  (∃ (r03 : Int) (r13 : Int) (r23 : List (List D)) (r6 : Int),
  (FnD prog 47 [(vD (dL r3)), (vD (dI r0))] (V.tup [(E.agg [(sD (dI r03)), (sD (dI r13)), (sD (dL r23))]), (eD (dI r6))]) []) ∧
  (∃ (r04 : Int) (r14 : Int) (r24 : List (List D)) (r7 : Int),
  (FnD prog 47 [(vD (dL ((([] : List (List D)) ++ r2) ++ r3))), (vD (dI r0))] (V.tup [(E.agg [(sD (dI r04)), (sD (dI r14)), (sD (dL r24))]), (eD (dI r7))]) []) ∧
  (((r4 != (0 : Int)) = true →
    R (vD (dB false)) []) ∧
  ((r4 != (0 : Int)) = false →
    ((r5 != (0 : Int)) = true →
      R (vD (dB false)) []) ∧
    ((r5 != (0 : Int)) = false →
      ((r6 != (0 : Int)) = true →
        R (vD (dB false)) []) ∧
      ((r6 != (0 : Int)) = false →
        ((r7 != (0 : Int)) = true →
          R (vD (dB false)) []) ∧
        ((r7 != (0 : Int)) = false →
          ∃ (r8 : Bool),
          (FnD prog 22 [(vA [(sD (dI r02)), (sD (dI r12)), (sD (dL r22))]), (vD (dI r0)), (vD (dI r0))] (vD (dB r8)) []) ∧
          (((!r8) = true →
            R (vD (dB false)) []) ∧
          ((!r8) = false →
            ∃ (r9 : Bool),
            (FnD prog 22 [(vA [(sD (dI r03)), (sD (dI r13)), (sD (dL r23))]), (vD (dI r0)), (vD (dI r0))] (vD (dB r9)) []) ∧
            (((!r9) = true →
              R (vD (dB false)) []) ∧
            ((!r9) = false →
              (r = true →
                ∃ (r05 : Int) (r15 : Int) (r25 : List (List D)) (r10 : Bool),
                (FnD prog 27 [(vA [(sD (dI r02)), (sD (dI r12)), (sD (dL r22))]), (vA [(sD (dI r0)), (sD (dI r1)), (sD (dL (matD rrows)))])] (vA [(sD (dI r05)), (sD (dI r15)), (sD (dL r25))]) []) ∧
                (FnD prog 23 [(vA [(sD (dI r01)), (sD (dI r11)), (sD (dL r21))]), (vA [(sD (dI r05)), (sD (dI r15)), (sD (dL r25))])] (vD (dB r10)) []) ∧
                ((r10 = true →
                  ∃ (r06 : Int) (r16 : Int) (r26 : List (List D)) (r17 : Bool),
                  (FnD prog 27 [(vA [(sD (dI r03)), (sD (dI r13)), (sD (dL r23))]), (vA [(sD (dI r02)), (sD (dI r12)), (sD (dL r22))])] (vA [(sD (dI r06)), (sD (dI r16)), (sD (dL r26))]) []) ∧
                  (FnD prog 23 [(vA [(sD (dI r04)), (sD (dI r14)), (sD (dL r24))]), (vA [(sD (dI r06)), (sD (dI r16)), (sD (dL r26))])] (vD (dB r17)) []) ∧
                  (R (vD (dB r17)) [])) ∧
                (r10 = false →
                  R (vD (dB false)) []))) ∧
              (r = false →
                R (vD (dB false)) [])))))))))))))))))))

theorem vc9_ok (x0 : Int) (x1 : Int) (x2 : List (List D)) (l : List (List D)) (k : List (List D)) {R : V → Heap → Prop} (h : vc9 x0 x1 x2 l k R) : FnG prog 9 [(vA [(sD (D.int .u8 x0)), (sD (D.int .u8 x1)), (sD (dL x2))]), (vD (dL l)), (vD (dL k))] [] R :=
  FnG.vcg hT func9 ntmps9 (.reg 1 [(0, Or.none, 0, 1)] [1, 2, 3] [0] [] <| .exb fun r => .reg 0 [(0, (Or.call (vD (dB r)) [] []), 0, 0)] [1, 2, 3, 7] [0] [] <| .ex fun r0 => .ex fun r1 => .exm fun rrows => .reg 2 [(1, (Or.call (vA [(sD (dI r0)), (sD (dI r1)), (S.ref 0)]) [(some (Obj.mat 2 rrows))] []), 1, 1), (2, Or.none, 2, 1)] [1, 2, 7, 8] [2, 1] [] <| .exl fun r2 => .reg 0 [(3, (Or.call (vD (dL r2)) [] []), 0, 0)] [2, 7, 8, 9] [0, 1] [] <| .exl fun r3 => .reg 0 [(3, (Or.call (vD (dL r3)) [] []), 0, 0)] [7, 8, 9, 10] [0, 1] [] <| .reg 2 [(0, Or.none, 2, 1), (2, Or.none, 3, 1)] [7, 8, 9, 10, 11] [0, 3, 1] [] <| .reg 1 [(2, Or.none, 3, 1)] [7, 8, 9, 10, 11] [0, 3, 2] [] <| .frz [2] <| .ex fun r01 => .ex fun r11 => .exl fun r21 => .ex fun r4 => .reg 1 [(2, (Or.call (V.tup [(E.agg [(sD (dI r01)), (sD (dI r11)), (sD (dL r21))]), (eD (dI r4))]) [] []), 0, 0), (6, Or.none, 3, 1)] [7, 8, 9, 10, 11, 12, 13] [0, 1, 3] [] <| .ex fun r02 => .ex fun r12 => .exl fun r22 => .ex fun r5 => .reg 1 [(3, (Or.call (V.tup [(E.agg [(sD (dI r02)), (sD (dI r12)), (sD (dL r22))]), (eD (dI r5))]) [] []), 0, 0), (7, Or.none, 3, 1)] [7, 8, 10, 11, 12, 13, 14, 15] [0, 1, 2, 3] [] <| .ex fun r03 => .ex fun r13 => .exl fun r23 => .ex fun r6 => .reg 1 [(3, (Or.call (V.tup [(E.agg [(sD (dI r03)), (sD (dI r13)), (sD (dL r23))]), (eD (dI r6))]) [] []), 0, 0), (7, Or.none, 4, 1)] [7, 8, 11, 12, 13, 14, 15, 16, 17] [0, 1, 2, 3, 4] [] <| .frz [1] <| .ex fun r04 => .ex fun r14 => .exl fun r24 => .ex fun r7 => .reg 1 [(3, (Or.call (V.tup [(E.agg [(sD (dI r04)), (sD (dI r14)), (sD (dL r24))]), (eD (dI r7))]) [] []), 0, 0), (7, Or.none, 5, 1)] [7, 8, 12, 13, 14, 15, 16, 17, 18, 19] [0, 2, 3, 4, 5] [] <| .spl ((r4 != (0 : Int))) (.reg 0 [(2, (Or.bool true), 0, 0)] [7, 8, 12, 14, 16, 18, 95] [0, 1, 2, 3, 4] [.old 0] <| .ct true none <| .r0 [6] <| .ret []) (.spl ((r5 != (0 : Int))) (.reg 0 [(2, (Or.bool false), 0, 0), (6, (Or.bool true), 0, 0)] [7, 8, 12, 14, 16, 18, 95] [0, 1, 2, 3, 4] [.old 1, .old 0] <| .ct true none <| .r0 [6] <| .ret []) (.spl ((r6 != (0 : Int))) (.reg 0 [(2, (Or.bool false), 0, 0), (6, (Or.bool false), 0, 0), (10, (Or.bool true), 0, 0)] [7, 8, 12, 14, 16, 18, 95] [0, 1, 2, 3, 4] [.old 2, .old 1, .old 0] <| .ct true none <| .r0 [6] <| .ret []) (.spl ((r7 != (0 : Int))) (.reg 0 [(2, (Or.bool false), 0, 0), (6, (Or.bool false), 0, 0), (10, (Or.bool false), 0, 0), (14, (Or.bool true), 0, 0)] [7, 8, 12, 14, 16, 18, 95] [0, 1, 2, 3, 4] [.old 3, .old 2, .old 1, .old 0] <| .ct true none <| .r0 [6] <| .ret []) (.exb fun r8 => .ob (FnD prog 22 [(vA [(sD (dI r02)), (sD (dI r12)), (sD (dL r22))]), (vD (dI r0)), (vD (dI r0))] (vD (dB r8)) []) <| .spl ((!r8)) (.reg 0 [(2, (Or.bool false), 0, 0), (6, (Or.bool false), 0, 0), (10, (Or.bool false), 0, 0), (14, (Or.bool false), 0, 0), (20, (Or.call (vD (dB r8)) [] []), 0, 0), (23, (Or.bool true), 0, 0)] [7, 8, 12, 14, 16, 18, 95] [0, 1, 2, 3, 4] [.old 5, .old 4, .old 3, .old 2, .old 1, .old 0] <| .ct true none <| .r0 [6] <| .ret []) (.exb fun r9 => .reg 0 [(2, (Or.bool false), 0, 0), (6, (Or.bool false), 0, 0), (10, (Or.bool false), 0, 0), (14, (Or.bool false), 0, 0), (20, (Or.call (vD (dB r8)) [] []), 0, 0), (23, (Or.bool false), 0, 0), (29, (Or.call (vD (dB r9)) [] []), 0, 0)] [7, 8, 12, 14, 16, 18, 95] [0, 1, 2, 3, 4] [.old 5, .old 4, .old 3, .old 2, .old 1, .old 0] <| .c2 (.r0 [6] <| .ret []) (.spl r (.ex fun r05 => .ex fun r15 => .exl fun r25 => .exb fun r10 => .ob (FnD prog 27 [(vA [(sD (dI r02)), (sD (dI r12)), (sD (dL r22))]), (vA [(sD (dI r0)), (sD (dI r1)), (sD (dL (matD rrows)))])] (vA [(sD (dI r05)), (sD (dI r15)), (sD (dL r25))]) []) <| .ob (FnD prog 23 [(vA [(sD (dI r01)), (sD (dI r11)), (sD (dL r21))]), (vA [(sD (dI r05)), (sD (dI r15)), (sD (dL r25))])] (vD (dB r10)) []) <| .spl r10 (.ex fun r06 => .ex fun r16 => .exl fun r26 => .exb fun r17 => .drw 0 [(1, ((Or.bool true), 0, 0), []), (5, ((Or.call (vA [(sD (dI r05)), (sD (dI r15)), (sD (dL r25))]) [] []), 0, 0), []), (6, ((Or.call (vD (dB r10)) [] []), 0, 0), []), (8, ((Or.bool true), 0, 0), []), (12, ((Or.call (vA [(sD (dI r06)), (sD (dI r16)), (sD (dL r26))]) [] []), 0, 0), []), (13, ((Or.call (vD (dB r17)) [] []), 0, 0), [])] [6] [] [.old 3, .old 2, .old 1, .old 0] <| .ret []) (.drw 0 [(1, ((Or.bool true), 0, 0), []), (5, ((Or.call (vA [(sD (dI r05)), (sD (dI r15)), (sD (dL r25))]) [] []), 0, 0), []), (6, ((Or.call (vD (dB r10)) [] []), 0, 0), []), (8, ((Or.bool false), 0, 0), [])] [6] [] [.old 3, .old 2, .old 1, .old 0] <| .ret [])) (.drw 0 [(1, ((Or.bool false), 0, 0), [])] [6] [] [.old 0] <| .ret []))))))))
    (by kernel_rfl) (by kernel_rfl) (by kernel_rfl) h

end Go.AM

/- The laws of lists of operations: undoing, composing. -/
namespace Go.AM
open Go.Proofs.Try

theorem mat_bd {n m : Nat} {l : List Opz} (hv : VO n l) (hl : l.length ≤ m) : BdM (129 ^ m) (mat n l) := by
  have := apL_bd hv (table_mx n n delta) (ident_bd n)
  rw [Nat.mul_one] at this
  exact this.mono (Nat.pow_le_pow_right (by decide) hl)

theorem apl_bd' {r c m : Nat} {l : List Opz} {a : List (List Int)} (hv : VO r l) (hl : l.length ≤ m) (ha : Mx r c a) (ka : BdM 9 a) : BdM (129 ^ m * 9) (apL r c l a) :=
  (apL_bd hv ha ka).mono (Nat.mul_le_mul_right 9 (Nat.pow_le_pow_right (by decide) hl))

theorem apply10 {r c : Nat} {l : List Opz} {m : List (List Int)} (hv : VO r l) (hl : l.length ≤ 10) (hm : Mx r c m) (km : BdM (129 ^ 10 * 9) m) (hr : r ≤ 4) (hc : c ≤ 4) : FnD prog 45 [vs (oL l), eM r c m] (eME r c (apL r c l m) 0) [] :=
  apply_ok hv (by omega) hm km (by omega) (by omega) (by decide) (Nat.le_trans (Nat.mul_le_mul_right _ (Nat.pow_le_pow_right (by decide) hl)) (by decide))

theorem undo10 {r c : Nat} {l : List Opz} {m : List (List Int)} (hv : VO r l) (hl : l.length ≤ 10) (hm : Mx r c m) (km : BdM (129 ^ 10 * 9) m) (hr : r ≤ 4) (hc : c ≤ 4) : FnD prog 46 [vs (oL l), eM r c m] (eME r c (apL r c (inL l) m) 0) [] :=
  undo_ok hv (by omega) hm km (by omega) (by omega) (by decide) (Nat.le_trans (Nat.mul_le_mul_right _ (Nat.pow_le_pow_right (by decide) hl)) (by decide))

theorem matrix20 {n : Nat} {l : List Opz} (hv : VO n l) (hl : l.length ≤ 20) (hn : n ≤ 4) : FnD prog 47 [vs (oL l), vi n] (eME n n (mat n l) 0) [] :=
  matrix_ok hv (by omega) (by omega) (Nat.le_trans (Nat.pow_le_pow_right (by decide) hl) (by decide))

theorem undoes_ok (x0 : Int) (g0 : IntKind.u8.min ≤ x0 ∧ x0 ≤ IntKind.u8.max) (x1 : Int) (g1 : IntKind.u8.min ≤ x1 ∧ x1 ≤ IntKind.u8.max) (l2 : List (List D)) (g2 : l2.length ≤ 9223372036854775807 ∧ ∀ x ∈ l2, DOKL [.i .i8] x)
    (l3 : List (List D)) (g3 : l3.length ≤ 9223372036854775807 ∧ ∀ x ∈ l3, DOKL [.i .u8, .i .u8, .i .u8, .i .i8] x) :
    FnD prog 8 [.e (.agg [.dat (.int .u8 x0), .dat (.int .u8 x1), .dat (.sl l2)]), .e (.sc (.dat (.sl l3)))] (vb true) [] := by
  obtain ⟨v, rfl, _⟩ := i8s_of g2
  obtain ⟨r, c, hr, hc, hA⟩ := rawmade_ok v g0.1 g1.1
  obtain ⟨a, ea⟩ : ∃ a, a = table r c (fillG c v) := ⟨_, rfl⟩
  have ma : Mx r c a := ea ▸ table_mx _ _ _
  have ka : BdM 9 a := ea ▸ filled_bd
  rw [← ea] at hA
  clear ea
  have hL : FnD prog 44 [vs l3, vi r, vi 10] (vs (oL (made r l3 10))) [] := ops_made (n := r) (m := 10) (by omega) (by decide) g3.2 g3.1
  have hv : VO r (made r l3 10) := made_VO g3.2
  have hl : (made r l3 10).length ≤ 10 := made_length _ _ _
  generalize made r l3 10 = l at hL hv hl
  have ka' : BdM (129 ^ 10 * 9) a := ka.mono (by decide)
  have mb := apL_mx l ma
  have kb := apl_bd' hv hl ma ka
  have md := apL_mx (inL l) ma
  have kd := apl_bd' hv.inv (by rw [inL_length]; exact hl) ma ka
  have h45 := apply10 hv hl ma ka' hr hc
  have h46 := undo10 hv hl mb kb hr hc
  rw [apL_inv hv.valid ma] at h46
  have h46' := undo10 hv hl ma ka' hr hc
  have h45' := apply10 hv hl md kd hr hc
  rw [apL_inv' hv.valid ma] at h45'
  have h47 := matrix20 hv (by omega) hr
  have h48 := invert_oL (l := l) (by omega)
  have h47' := matrix20 hv.inv (by rw [inL_length]; omega) hr
  have sb := sized_yes mb kb (by omega) (by omega) (by decide)
  have sd := sized_yes md kd (by omega) (by omega) (by decide)
  have mp := mat_mx r l
  have mq := mat_mx r (inL l)
  have kp : BdM (129 ^ 10) (mat r l) := mat_bd hv hl
  have kq : BdM (129 ^ 10) (mat r (inL l)) := mat_bd hv.inv (by rw [inL_length]; exact hl)
  have sp := sized_yes mp kp (by omega) (by omega) (by decide)
  have sq := sized_yes mq kq (by omega) (by omega) (by decide)
  have sa := same_yes ma ka' ka' rfl (by omega) (by omega) (by decide)
  have hP := m5prod_ok mp mq kp kq (by omega) (by omega) (by omega) (by decide)
  rw [mat_inv hv.valid] at hP
  have hI : FnD prog 49 [vi r] (eM r r (table r r delta)) [] := FnD.frz (rident_ok (by omega))
  have sI := same_yes (table_mx r r delta) (ident_bd r) (ident_bd r) rfl (by omega) (by omega) (by decide)
  have nt : ∀ {X : Prop}, (!true) = true → X := fun h => by simp at h
  have nz : ∀ {X : Prop}, ((0 : Int) != 0) = true → X := fun h => by simp at h
  have nf : ∀ {X : Prop}, true = false → X := fun h => by simp at h
  refine vc8_ok _ _ _ _ (R := Out _) ?_
  unfold vc8
  refine ⟨true, sanity18_ok, _, _, _, hA, _, hL, ?_⟩
  simp only [matD_om]
  refine ⟨_, _, _, _, h45, nz, fun _ => ⟨_, sb, nt, fun _ => ⟨_, _, _, _, h46, _, _, _, _, h46', nz, fun _ => ⟨nz, fun _ => ⟨_, sd, nt, fun _ => ?_⟩⟩⟩⟩⟩
  refine ⟨_, _, _, _, h45', _, _, _, _, h47, _, _, _, _, _, h48, h47', nz, fun _ => ⟨nz, fun _ => ⟨nz, fun _ => ⟨_, sp, nt, fun _ => ⟨_, sq, nt, fun _ => ⟨fun _ => ?_, nf⟩⟩⟩⟩⟩⟩
  exact ⟨_, sa, fun _ => ⟨_, sa, fun _ => ⟨_, _, _, _, _, _, _, hP, hI, sI, rfl, rfl⟩, nf⟩, nf⟩

theorem oL_append (l k : List Opz) : oL (l ++ k) = oL l ++ oL k := by simp [oL]
theorem oL_five (l : List Opz) : ∀ y ∈ oL l, y.length = 5 := fun y hy => by
  simp only [oL, List.mem_map] at hy
  obtain ⟨o, _, rfl⟩ := hy; rfl

theorem composes_ok (x0 : Int) (g0 : IntKind.u8.min ≤ x0 ∧ x0 ≤ IntKind.u8.max) (x1 : Int) (g1 : IntKind.u8.min ≤ x1 ∧ x1 ≤ IntKind.u8.max) (l2 : List (List D)) (g2 : l2.length ≤ 9223372036854775807 ∧ ∀ x ∈ l2, DOKL [.i .i8] x)
    (l3 : List (List D)) (g3 : l3.length ≤ 9223372036854775807 ∧ ∀ x ∈ l3, DOKL [.i .u8, .i .u8, .i .u8, .i .i8] x) (l4 : List (List D)) (g4 : l4.length ≤ 9223372036854775807 ∧ ∀ x ∈ l4, DOKL [.i .u8, .i .u8, .i .u8, .i .i8] x) :
    FnD prog 9 [.e (.agg [.dat (.int .u8 x0), .dat (.int .u8 x1), .dat (.sl l2)]), .e (.sc (.dat (.sl l3))), .e (.sc (.dat (.sl l4)))] (vb true) [] := by
  obtain ⟨v, rfl, _⟩ := i8s_of g2
  obtain ⟨r, c, hr, hc, hA⟩ := rawmade_ok v g0.1 g1.1
  obtain ⟨a, ea⟩ : ∃ a, a = table r c (fillG c v) := ⟨_, rfl⟩
  have ma : Mx r c a := ea ▸ table_mx _ _ _
  have ka : BdM 9 a := ea ▸ filled_bd
  rw [← ea] at hA
  clear ea
  have hL : FnD prog 44 [vs l3, vi r, vi 8] (vs (oL (made r l3 8))) [] := ops_made (n := r) (m := 8) (by omega) (by decide) g3.2 g3.1
  have hv : VO r (made r l3 8) := made_VO g3.2
  have hl : (made r l3 8).length ≤ 8 := made_length _ _ _
  generalize made r l3 8 = l at hL hv hl
  have hL' : FnD prog 44 [vs l4, vi r, vi 8] (vs (oL (made r l4 8))) [] := ops_made (n := r) (m := 8) (by omega) (by decide) g4.2 g4.1
  have hv' : VO r (made r l4 8) := made_VO g4.2
  have hl' : (made r l4 8).length ≤ 8 := made_length _ _ _
  generalize made r l4 8 = k at hL' hv' hl'
  have ka' : BdM (129 ^ 10 * 9) a := ka.mono (by decide)
  have kb := apl_bd' (m := 10) hv (by omega) ma ka
  have h45 := apply10 hv (by omega) ma ka' hr hc
  have h47 := matrix20 hv (by omega) hr
  have h47' := matrix20 hv' (by omega) hr
  have h47b := matrix20 (hv.append hv') (by simp; omega) hr
  rw [oL_append] at h47b
  have mp := mat_mx r l
  have mq := mat_mx r k
  have kp : BdM (129 ^ 10 * 9) (mat r l) := (mat_bd (m := 10) hv (by omega)).mono (by decide)
  have kq : BdM (129 ^ 10 * 9) (mat r k) := (mat_bd (m := 10) hv' (by omega)).mono (by decide)
  have sp := sized_yes mp kp (by omega) (by omega) (by decide)
  have sq := sized_yes mq kq (by omega) (by omega) (by decide)
  have hP := m5prod_ok mp ma kp ka' (by omega) (by omega) (by omega) (by decide)
  rw [← apL_mat hv.valid ma] at hP
  have sb := same_yes (apL_mx l ma) kb kb rfl (by omega) (by omega) (by decide)
  have hQ := m5prod_ok mq mp kq kp (by omega) (by omega) (by omega) (by decide)
  rw [← mat_append hv'.valid] at hQ
  have kr : BdM (129 ^ 16) (mat r (l ++ k)) := mat_bd (hv.append hv') (by simp; omega)
  have sr := same_yes (mat_mx r (l ++ k)) kr kr rfl (by omega) (by omega) (by decide)
  have nt : ∀ {X : Prop}, (!true) = true → X := fun h => by simp at h
  have nz : ∀ {X : Prop}, ((0 : Int) != 0) = true → X := fun h => by simp at h
  have nf : ∀ {X : Prop}, true = false → X := fun h => by simp at h
  refine vc9_ok _ _ _ _ _ (R := Out _) ?_
  unfold vc9
  refine ⟨true, sanity18_ok, _, _, _, hA, _, hL, _, hL', ?_⟩
  simp only [matD_om, List.nil_append, oL_length, List.length_nil]
  refine ⟨oL_five l, by omega, oL_five k, by omega, _, _, _, _, h45, _, _, _, _, h47, _, _, _, _, h47', _, _, _, _, h47b, nz, fun _ => ⟨nz, fun _ => ⟨nz, fun _ => ⟨nz, fun _ => ⟨_, sp, nt, fun _ => ⟨_, sq, nt, fun _ => ⟨fun _ => ?_, nf⟩⟩⟩⟩⟩⟩⟩
  exact ⟨_, _, _, _, hP, sb, fun _ => ⟨_, _, _, _, hQ, sr, rfl, rfl⟩, nf⟩

end Go.AM
