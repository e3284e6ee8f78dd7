/- What functions of the program come to: group P11. Printed by vc.py. -/
import Derived.Test.YtbodjgljjaafaaaL3
import Derived.Shelf.Abstract
set_option maxRecDepth 100000
set_option linter.unusedVariables false

namespace Go.AM
open Go.Proofs.Try

/- f11 torsion/torsionlaw05.MatrixRing -/
def vc11 (x0 : Int) (x1 : Int) (x2 : Int) (x3 : Int) (x4 : List (List D)) (x5 : List (List D)) (x6 : List (List D)) (d : List (List D)) (R : V → Heap → Prop) : Prop :=
  ∃ (r : Bool),
  (FnD prog 14 [] (vD (dB r)) []) ∧
  (∃ (r0 : Int) (r1 : Int) (r2 : List (List D)) (r01 : Int) (r11 : Int) (r21 : List (List D)) (r02 : Int) (r12 : Int) (r22 : List (List D)),
  (FnD prog 19 [(vA [(sD (D.int .u8 x0)), (sD (D.int .u8 x1)), (sD (D.int .u8 x2)), (sD (D.int .u8 x3)), (sD (dL x4)), (sD (dL x5)), (sD (dL x6))])] (V.tup [(E.agg [(sD (dI r0)), (sD (dI r1)), (sD (dL r2))]), (E.agg [(sD (dI r01)), (sD (dI r11)), (sD (dL r21))]), (E.agg [(sD (dI r02)), (sD (dI r12)), (sD (dL r22))])]) []) ∧
  (∃ (r03 : Int) (r13 : Int) (rrows : List (List (List D))),
  (FnD prog 24 [(vD (dI r01)), (vD (dI r11)), (vD (dL d))] (vA [(sD (dI r03)), (sD (dI r13)), (S.ref 0)]) [(some (Obj.mat 2 rrows))]) ∧
  (∃ (r04 : Int) (r14 : Int) (r23 : List (List D)) (r3 : Int),
  (FnD prog 20 [(vA [(sD (dI r0)), (sD (dI r1)), (sD (dL r2))]), (vA [(sD (dI r01)), (sD (dI r11)), (sD (dL r21))])] (V.tup [(E.agg [(sD (dI r04)), (sD (dI r14)), (sD (dL r23))]), (eD (dI r3))]) []) ∧
  (∃ (r05 : Int) (r15 : Int) (r24 : List (List D)) (r4 : Int),
  (FnD prog 20 [(vA [(sD (dI r01)), (sD (dI r11)), (sD (dL r21))]), (vA [(sD (dI r02)), (sD (dI r12)), (sD (dL r22))])] (V.tup [(E.agg [(sD (dI r05)), (sD (dI r15)), (sD (dL r24))]), (eD (dI r4))]) []) ∧
  (∃ (r06 : Int) (r16 : Int) (r25 : List (List D)) (r5 : Int),
  (FnD prog 55 [(vA [(sD (dI r01)), (sD (dI r11)), (sD (dL r21))]), (vA [(sD (dI r03)), (sD (dI r13)), (sD (dL (matD rrows)))])] (V.tup [(E.agg [(sD (dI r06)), (sD (dI r16)), (sD (dL r25))]), (eD (dI r5))]) []) ∧
  (∃ (r07 : Int) (r17 : Int) (r26 : List (List D)) (r6 : Int),
  (FnD prog 55 [(vA [(sD (dI r03)), (sD (dI r13)), (sD (dL (matD rrows)))]), (vA [(sD (dI r01)), (sD (dI r11)), (sD (dL r21))])] (V.tup [(E.agg [(sD (dI r07)), (sD (dI r17)), (sD (dL r26))]), (eD (dI r6))]) []) ∧
  (((r3 != (0 : Int)) = true →
    R (vD (dB false)) []) ∧
  ((r3 != (0 : Int)) = false →
    ((r4 != (0 : Int)) = true →
      R (vD (dB false)) []) ∧
    ((r4 != (0 : Int)) = false →
      ((r5 != (0 : Int)) = true →
        R (vD (dB false)) []) ∧
      ((r5 != (0 : Int)) = false →
        ((r6 != (0 : Int)) = true →
          R (vD (dB false)) []) ∧
        ((r6 != (0 : Int)) = false →
          ∃ (r7 : Bool),
          (FnD prog 22 [(vA [(sD (dI r04)), (sD (dI r14)), (sD (dL r23))]), (vD (dI r0)), (vD (dI r11))] (vD (dB r7)) []) ∧
          (((!r7) = true →
            R (vD (dB false)) []) ∧
          ((!r7) = false →
            ∃ (r8 : Bool),
            (FnD prog 22 [(vA [(sD (dI r05)), (sD (dI r15)), (sD (dL r24))]), (vD (dI r01)), (vD (dI r12))] (vD (dB r8)) []) ∧
            (((!r8) = true →
              R (vD (dB false)) []) ∧
            ((!r8) = false →
              ∃ (r9 : Bool),
              (FnD prog 22 [(vA [(sD (dI r06)), (sD (dI r16)), (sD (dL r25))]), (vD (dI r01)), (vD (dI r11))] (vD (dB r9)) []) ∧
              (((!r9) = true →
                R (vD (dB false)) []) ∧
              ((!r9) = false →
                ∃ (r08 : Int) (r18 : Int) (r27 : List (List D)) (r10 : Int),
                (FnD prog 20 [(vA [(sD (dI r04)), (sD (dI r14)), (sD (dL r23))]), (vA [(sD (dI r02)), (sD (dI r12)), (sD (dL r22))])] (V.tup [(E.agg [(sD (dI r08)), (sD (dI r18)), (sD (dL r27))]), (eD (dI r10))]) []) ∧
                (∃ (r09 : Int) (r19 : Int) (r28 : List (List D)) (r20 : Int),
                (FnD prog 20 [(vA [(sD (dI r0)), (sD (dI r1)), (sD (dL r2))]), (vA [(sD (dI r05)), (sD (dI r15)), (sD (dL r24))])] (V.tup [(E.agg [(sD (dI r09)), (sD (dI r19)), (sD (dL r28))]), (eD (dI r20))]) []) ∧
                (∃ (r010 : Int) (r110 : Int) (r29 : List (List D)) (r30 : Int),
                (FnD prog 20 [(vA [(sD (dI r0)), (sD (dI r1)), (sD (dL r2))]), (vA [(sD (dI r06)), (sD (dI r16)), (sD (dL r25))])] (V.tup [(E.agg [(sD (dI r010)), (sD (dI r110)), (sD (dL r29))]), (eD (dI r30))]) []) ∧
                (∃ (r011 : Int) (r111 : Int) (r210 : List (List D)) (r31 : Int),
                (FnD prog 20 [(vA [(sD (dI r0)), (sD (dI r1)), (sD (dL r2))]), (vA [(sD (dI r03)), (sD (dI r13)), (sD (dL (matD rrows)))])] (V.tup [(E.agg [(sD (dI r011)), (sD (dI r111)), (sD (dL r210))]), (eD (dI r31))]) []) ∧
                (((r10 != (0 : Int)) = true →
                  R (vD (dB false)) []) ∧
                ((r10 != (0 : Int)) = false →
                  ((r20 != (0 : Int)) = true →
                    R (vD (dB false)) []) ∧
                  ((r20 != (0 : Int)) = false →
                    ((r30 != (0 : Int)) = true →
                      R (vD (dB false)) []) ∧
                    ((r30 != (0 : Int)) = false →
                      ((r31 != (0 : Int)) = true →
                        R (vD (dB false)) []) ∧
                      ((r31 != (0 : Int)) = false →
                        ∃ (r32 : Bool),
                        (FnD prog 22 [(vA [(sD (dI r011)), (sD (dI r111)), (sD (dL r210))]), (vD (dI r0)), (vD (dI r11))] (vD (dB r32)) []) ∧
                        (((!r32) = true →
                          R (vD (dB false)) []) ∧
                        ((!r32) = false →
                          ∃ (r012 : Int) (r112 : Int) (r211 : List (List D)) (r33 : Int),
                          (FnD prog 55 [(vA [(sD (dI r04)), (sD (dI r14)), (sD (dL r23))]), (vA [(sD (dI r011)), (sD (dI r111)), (sD (dL r210))])] (V.tup [(E.agg [(sD (dI r012)), (sD (dI r112)), (sD (dL r211))]), (eD (dI r33))]) []) ∧
                          (∃ (r013 : Int) (r113 : Int) (r212 : List (List D)) (r014 : Int) (r114 : Int) (r213 : List (List D)) (r34 : Int),
                          (FnD prog 56 [(vD (dI r1))] (vA [(sD (dI r013)), (sD (dI r113)), (sD (dL r212))]) []) ∧
                          (FnD prog 20 [(vA [(sD (dI r0)), (sD (dI r1)), (sD (dL r2))]), (vA [(sD (dI r013)), (sD (dI r113)), (sD (dL r212))])] (V.tup [(E.agg [(sD (dI r014)), (sD (dI r114)), (sD (dL r213))]), (eD (dI r34))]) []) ∧
                          (∃ (r015 : Int) (r115 : Int) (r214 : List (List D)) (r35 : Int),
                          (FnD prog 57 [(vA [(sD (dI r06)), (sD (dI r16)), (sD (dL r25))]), (vA [(sD (dI r03)), (sD (dI r13)), (sD (dL (matD rrows)))])] (V.tup [(E.agg [(sD (dI r015)), (sD (dI r115)), (sD (dL r214))]), (eD (dI r35))]) []) ∧
                          (((r33 == (0 : Int)) = true →
                            ((r34 == (0 : Int)) = true →
                              ((r35 == (0 : Int)) = true →
                                ∃ (r36 : Bool),
                                (FnD prog 23 [(vA [(sD (dI r08)), (sD (dI r18)), (sD (dL r27))]), (vA [(sD (dI r09)), (sD (dI r19)), (sD (dL r28))])] (vD (dB r36)) []) ∧
                                ((r36 = true →
                                  ∃ (r37 : Bool),
                                  (FnD prog 23 [(vA [(sD (dI r010)), (sD (dI r110)), (sD (dL r29))]), (vA [(sD (dI r012)), (sD (dI r112)), (sD (dL r211))])] (vD (dB r37)) []) ∧
                                  ((r37 = true →
                                    ∃ (r38 : Bool),
                                    (FnD prog 23 [(vA [(sD (dI r06)), (sD (dI r16)), (sD (dL r25))]), (vA [(sD (dI r07)), (sD (dI r17)), (sD (dL r26))])] (vD (dB r38)) []) ∧
                                    ((r38 = true →
                                      ∃ (r39 : Bool),
                                      (FnD prog 23 [(vA [(sD (dI r014)), (sD (dI r114)), (sD (dL r213))]), (vA [(sD (dI r0)), (sD (dI r1)), (sD (dL r2))])] (vD (dB r39)) []) ∧
                                      ((r39 = true →
                                        ∃ (r40 : Bool),
                                        (FnD prog 23 [(vA [(sD (dI r015)), (sD (dI r115)), (sD (dL r214))]), (vA [(sD (dI r01)), (sD (dI r11)), (sD (dL r21))])] (vD (dB r40)) []) ∧
                                        ((r40 = true →
                                          R (vD (dB r)) []) ∧
                                        (r40 = false →
                                          R (vD (dB false)) []))) ∧
                                      (r39 = false →
                                        R (vD (dB false)) []))) ∧
                                    (r38 = false →
                                      R (vD (dB false)) []))) ∧
                                  (r37 = false →
                                    R (vD (dB false)) []))) ∧
                                (r36 = false →
                                  R (vD (dB false)) []))) ∧
                              ((r35 == (0 : Int)) = false →
                                R (vD (dB false)) [])) ∧
                            ((r34 == (0 : Int)) = false →
                              R (vD (dB false)) [])) ∧
                          ((r33 == (0 : Int)) = false →
                            R (vD (dB false)) [])))))))))))))))))))))))))))))))

theorem vc11_ok (x0 : Int) (x1 : Int) (x2 : Int) (x3 : Int) (x4 : List (List D)) (x5 : List (List D)) (x6 : List (List D)) (d : List (List D)) {R : V → Heap → Prop} (h : vc11 x0 x1 x2 x3 x4 x5 x6 d R) : FnG prog 11 [(vA [(sD (D.int .u8 x0)), (sD (D.int .u8 x1)), (sD (D.int .u8 x2)), (sD (D.int .u8 x3)), (sD (dL x4)), (sD (dL x5)), (sD (dL x6))]), (vD (dL d))] [] R :=
  FnG.vcg hT func11 ntmps11 (.reg 1 [(0, Or.none, 0, 1)] [1, 2] [0] [] <| .exb fun r => .reg 0 [(0, (Or.call (vD (dB r)) [] []), 0, 0)] [1, 2, 5] [0] [] <| .ex fun r0 => .ex fun r1 => .exl fun r2 => .ex fun r01 => .ex fun r11 => .exl fun r21 => .ex fun r02 => .ex fun r12 => .exl fun r22 => .reg 3 [(1, (Or.call (V.tup [(E.agg [(sD (dI r0)), (sD (dI r1)), (sD (dL r2))]), (E.agg [(sD (dI r01)), (sD (dI r11)), (sD (dL r21))]), (E.agg [(sD (dI r02)), (sD (dI r12)), (sD (dL r22))])]) [] []), 0, 0), (6, Or.none, 1, 1), (7, Or.none, 2, 1), (8, Or.none, 3, 1)] [1, 5, 6, 7, 8] [1, 2, 3] [] <| .ex fun r03 => .ex fun r13 => .exm fun rrows => .reg 2 [(5, (Or.call (vA [(sD (dI r03)), (sD (dI r13)), (S.ref 0)]) [(some (Obj.mat 2 rrows))] []), 3, 1), (6, Or.none, 4, 1)] [5, 6, 7, 8, 9] [0, 1, 2, 4, 3] [] <| .ex fun r04 => .ex fun r14 => .exl fun r23 => .ex fun r3 => .reg 1 [(2, (Or.call (V.tup [(E.agg [(sD (dI r04)), (sD (dI r14)), (sD (dL r23))]), (eD (dI r3))]) [] []), 0, 0), (6, Or.none, 5, 1)] [5, 6, 7, 8, 9, 10, 11] [0, 1, 2, 3, 5, 4] [] <| .ex fun r05 => .ex fun r15 => .exl fun r24 => .ex fun r4 => .reg 1 [(2, (Or.call (V.tup [(E.agg [(sD (dI r05)), (sD (dI r15)), (sD (dL r24))]), (eD (dI r4))]) [] []), 0, 0), (6, Or.none, 6, 1)] [5, 6, 7, 8, 9, 10, 11, 12, 13] [0, 1, 2, 3, 4, 6, 5] [] <| .frz [6] <| .ex fun r06 => .ex fun r16 => .exl fun r25 => .ex fun r5 => .reg 1 [(2, (Or.call (V.tup [(E.agg [(sD (dI r06)), (sD (dI r16)), (sD (dL r25))]), (eD (dI r5))]) [] []), 0, 0), (6, Or.none, 7, 1)] [5, 6, 7, 8, 9, 10, 11, 12, 13, 14, 15] [0, 1, 2, 3, 4, 5, 7] [] <| .ex fun r07 => .ex fun r17 => .exl fun r26 => .ex fun r6 => .reg 1 [(2, (Or.call (V.tup [(E.agg [(sD (dI r07)), (sD (dI r17)), (sD (dL r26))]), (eD (dI r6))]) [] []), 0, 0), (6, Or.none, 7, 1)] [5, 6, 7, 8, 9, 10, 11, 12, 13, 14, 15, 16, 17] [0, 1, 2, 3, 4, 5, 6, 7] [] <| .spl ((r3 != (0 : Int))) (.reg 0 [(2, (Or.bool true), 0, 0)] [5, 6, 7, 8, 9, 10, 12, 14, 16, 109] [0, 1, 2, 3, 4, 5, 6, 7] [.old 0] <| .ct true none <| .r0 [4] <| .ret []) (.spl ((r4 != (0 : Int))) (.reg 0 [(2, (Or.bool false), 0, 0), (6, (Or.bool true), 0, 0)] [5, 6, 7, 8, 9, 10, 12, 14, 16, 109] [0, 1, 2, 3, 4, 5, 6, 7] [.old 1, .old 0] <| .ct true none <| .r0 [4] <| .ret []) (.spl ((r5 != (0 : Int))) (.reg 0 [(2, (Or.bool false), 0, 0), (6, (Or.bool false), 0, 0), (10, (Or.bool true), 0, 0)] [5, 6, 7, 8, 9, 10, 12, 14, 16, 109] [0, 1, 2, 3, 4, 5, 6, 7] [.old 2, .old 1, .old 0] <| .ct true none <| .r0 [4] <| .ret []) (.spl ((r6 != (0 : Int))) (.reg 0 [(2, (Or.bool false), 0, 0), (6, (Or.bool false), 0, 0), (10, (Or.bool false), 0, 0), (14, (Or.bool true), 0, 0)] [5, 6, 7, 8, 9, 10, 12, 14, 16, 109] [0, 1, 2, 3, 4, 5, 6, 7] [.old 3, .old 2, .old 1, .old 0] <| .ct true none <| .r0 [4] <| .ret []) (.exb fun r7 => .ob (FnD prog 22 [(vA [(sD (dI r04)), (sD (dI r14)), (sD (dL r23))]), (vD (dI r0)), (vD (dI r11))] (vD (dB r7)) []) <| .spl ((!r7)) (.reg 0 [(2, (Or.bool false), 0, 0), (6, (Or.bool false), 0, 0), (10, (Or.bool false), 0, 0), (14, (Or.bool false), 0, 0), (20, (Or.call (vD (dB r7)) [] []), 0, 0), (23, (Or.bool true), 0, 0)] [5, 6, 7, 8, 9, 10, 12, 14, 16, 109] [0, 1, 2, 3, 4, 5, 6, 7] [.old 5, .old 4, .old 3, .old 2, .old 1, .old 0] <| .ct true none <| .r0 [4] <| .ret []) (.exb fun r8 => .ob (FnD prog 22 [(vA [(sD (dI r05)), (sD (dI r15)), (sD (dL r24))]), (vD (dI r01)), (vD (dI r12))] (vD (dB r8)) []) <| .spl ((!r8)) (.reg 0 [(2, (Or.bool false), 0, 0), (6, (Or.bool false), 0, 0), (10, (Or.bool false), 0, 0), (14, (Or.bool false), 0, 0), (20, (Or.call (vD (dB r7)) [] []), 0, 0), (23, (Or.bool false), 0, 0), (29, (Or.call (vD (dB r8)) [] []), 0, 0), (32, (Or.bool true), 0, 0)] [5, 6, 7, 8, 9, 10, 12, 14, 16, 109] [0, 1, 2, 3, 4, 5, 6, 7] [.old 7, .old 6, .old 5, .old 4, .old 3, .old 2, .old 1, .old 0] <| .ct true none <| .r0 [4] <| .ret []) (.exb fun r9 => .reg 0 [(2, (Or.bool false), 0, 0), (6, (Or.bool false), 0, 0), (10, (Or.bool false), 0, 0), (14, (Or.bool false), 0, 0), (20, (Or.call (vD (dB r7)) [] []), 0, 0), (23, (Or.bool false), 0, 0), (29, (Or.call (vD (dB r8)) [] []), 0, 0), (32, (Or.bool false), 0, 0), (38, (Or.call (vD (dB r9)) [] []), 0, 0)] [5, 6, 7, 8, 9, 10, 12, 14, 16, 109] [0, 1, 2, 3, 4, 5, 6, 7] [.old 7, .old 6, .old 5, .old 4, .old 3, .old 2, .old 1, .old 0] <| .c2 (.r0 [4] <| .ret []) (.ex fun r08 => .ex fun r18 => .exl fun r27 => .ex fun r10 => .reg 1 [(2, (Or.call (V.tup [(E.agg [(sD (dI r08)), (sD (dI r18)), (sD (dL r27))]), (eD (dI r10))]) [] []), 0, 0), (6, Or.none, 8, 1)] [5, 6, 7, 9, 10, 12, 14, 16, 18, 19] [0, 1, 3, 4, 5, 6, 7, 8] [] <| .ex fun r09 => .ex fun r19 => .exl fun r28 => .ex fun r20 => .reg 1 [(2, (Or.call (V.tup [(E.agg [(sD (dI r09)), (sD (dI r19)), (sD (dL r28))]), (eD (dI r20))]) [] []), 0, 0), (6, Or.none, 8, 1)] [5, 6, 7, 9, 10, 14, 16, 18, 19, 20, 21] [0, 1, 2, 3, 5, 6, 7, 8] [] <| .ex fun r010 => .ex fun r110 => .exl fun r29 => .ex fun r30 => .reg 1 [(2, (Or.call (V.tup [(E.agg [(sD (dI r010)), (sD (dI r110)), (sD (dL r29))]), (eD (dI r30))]) [] []), 0, 0), (6, Or.none, 8, 1)] [5, 6, 7, 9, 10, 14, 16, 18, 19, 20, 21, 22, 23] [0, 1, 2, 3, 4, 5, 6, 7, 8] [] <| .ex fun r011 => .ex fun r111 => .exl fun r210 => .ex fun r31 => .reg 1 [(2, (Or.call (V.tup [(E.agg [(sD (dI r011)), (sD (dI r111)), (sD (dL r210))]), (eD (dI r31))]) [] []), 0, 0), (6, Or.none, 9, 1)] [5, 6, 7, 9, 10, 14, 16, 18, 19, 20, 21, 22, 23, 24, 25] [0, 1, 2, 3, 4, 5, 6, 7, 8, 9] [] <| .spl ((r10 != (0 : Int))) (.reg 0 [(2, (Or.bool true), 0, 0)] [5, 6, 7, 9, 10, 14, 16, 18, 20, 22, 24, 156] [0, 1, 2, 3, 4, 5, 6, 7, 8, 9] [.old 0] <| .ct true none <| .r0 [4] <| .ret []) (.spl ((r20 != (0 : Int))) (.reg 0 [(2, (Or.bool false), 0, 0), (6, (Or.bool true), 0, 0)] [5, 6, 7, 9, 10, 14, 16, 18, 20, 22, 24, 156] [0, 1, 2, 3, 4, 5, 6, 7, 8, 9] [.old 1, .old 0] <| .ct true none <| .r0 [4] <| .ret []) (.spl ((r30 != (0 : Int))) (.reg 0 [(2, (Or.bool false), 0, 0), (6, (Or.bool false), 0, 0), (10, (Or.bool true), 0, 0)] [5, 6, 7, 9, 10, 14, 16, 18, 20, 22, 24, 156] [0, 1, 2, 3, 4, 5, 6, 7, 8, 9] [.old 2, .old 1, .old 0] <| .ct true none <| .r0 [4] <| .ret []) (.spl ((r31 != (0 : Int))) (.reg 0 [(2, (Or.bool false), 0, 0), (6, (Or.bool false), 0, 0), (10, (Or.bool false), 0, 0), (14, (Or.bool true), 0, 0)] [5, 6, 7, 9, 10, 14, 16, 18, 20, 22, 24, 156] [0, 1, 2, 3, 4, 5, 6, 7, 8, 9] [.old 3, .old 2, .old 1, .old 0] <| .ct true none <| .r0 [4] <| .ret []) (.exb fun r32 => .reg 0 [(2, (Or.bool false), 0, 0), (6, (Or.bool false), 0, 0), (10, (Or.bool false), 0, 0), (14, (Or.bool false), 0, 0), (20, (Or.call (vD (dB r32)) [] []), 0, 0)] [5, 6, 7, 9, 10, 14, 16, 18, 20, 22, 24, 156] [0, 1, 2, 3, 4, 5, 6, 7, 8, 9] [.old 3, .old 2, .old 1, .old 0] <| .c2 (.r0 [4] <| .ret []) (.ex fun r012 => .ex fun r112 => .exl fun r211 => .ex fun r33 => .reg 1 [(2, (Or.call (V.tup [(E.agg [(sD (dI r012)), (sD (dI r112)), (sD (dL r211))]), (eD (dI r33))]) [] []), 0, 0), (6, Or.none, 10, 1)] [5, 6, 7, 9, 14, 16, 18, 20, 22, 26, 27] [0, 1, 2, 4, 5, 6, 7, 8, 10] [] <| .ex fun r013 => .ex fun r113 => .exl fun r212 => .ex fun r014 => .ex fun r114 => .exl fun r213 => .ex fun r34 => .drw 1 [(3, ((Or.call (vA [(sD (dI r013)), (sD (dI r113)), (sD (dL r212))]) [] []), 0, 0), []), (4, ((Or.call (V.tup [(E.agg [(sD (dI r014)), (sD (dI r114)), (sD (dL r213))]), (eD (dI r34))]) [] []), 0, 0), []), (8, (Or.none, 9, 1), [9]), (9, (Or.none, 0, 0), [9])] [5, 6, 7, 9, 14, 16, 18, 20, 22, 26, 27, 28, 29] [0, 1, 2, 3, 4, 5, 6, 7, 8, 9] [] <| .ex fun r015 => .ex fun r115 => .exl fun r214 => .ex fun r35 => .reg 1 [(2, (Or.call (V.tup [(E.agg [(sD (dI r015)), (sD (dI r115)), (sD (dL r214))]), (eD (dI r35))]) [] []), 0, 0), (6, Or.none, 10, 1)] [5, 6, 7, 14, 16, 18, 20, 22, 26, 27, 28, 29, 30, 31] [0, 1, 3, 4, 5, 6, 7, 8, 9, 10] [] <| .spl ((r33 == (0 : Int))) (.spl ((r34 == (0 : Int))) (.spl ((r35 == (0 : Int))) (.exb fun r36 => .ob (FnD prog 23 [(vA [(sD (dI r08)), (sD (dI r18)), (sD (dL r27))]), (vA [(sD (dI r09)), (sD (dI r19)), (sD (dL r28))])] (vD (dB r36)) []) <| .spl r36 (.exb fun r37 => .ob (FnD prog 23 [(vA [(sD (dI r010)), (sD (dI r110)), (sD (dL r29))]), (vA [(sD (dI r012)), (sD (dI r112)), (sD (dL r211))])] (vD (dB r37)) []) <| .spl r37 (.exb fun r38 => .ob (FnD prog 23 [(vA [(sD (dI r06)), (sD (dI r16)), (sD (dL r25))]), (vA [(sD (dI r07)), (sD (dI r17)), (sD (dL r26))])] (vD (dB r38)) []) <| .spl r38 (.exb fun r39 => .ob (FnD prog 23 [(vA [(sD (dI r014)), (sD (dI r114)), (sD (dL r213))]), (vA [(sD (dI r0)), (sD (dI r1)), (sD (dL r2))])] (vD (dB r39)) []) <| .spl r39 (.exb fun r40 => .ob (FnD prog 23 [(vA [(sD (dI r015)), (sD (dI r115)), (sD (dL r214))]), (vA [(sD (dI r01)), (sD (dI r11)), (sD (dL r21))])] (vD (dB r40)) []) <| .spl r40 (.reg 0 [(2, (Or.bool true), 0, 0), (6, (Or.bool true), 0, 0), (10, (Or.bool true), 0, 0), (13, (Or.call (vD (dB r36)) [] []), 0, 0), (15, (Or.bool true), 0, 0), (18, (Or.call (vD (dB r37)) [] []), 0, 0), (20, (Or.bool true), 0, 0), (23, (Or.call (vD (dB r38)) [] []), 0, 0), (25, (Or.bool true), 0, 0), (28, (Or.call (vD (dB r39)) [] []), 0, 0), (30, (Or.bool true), 0, 0), (33, (Or.call (vD (dB r40)) [] []), 0, 0), (35, (Or.bool true), 0, 0)] [4] [] [.old 12, .old 11, .old 10, .old 9, .old 8, .old 7, .old 6, .old 5, .old 4, .old 3, .old 2, .old 1, .old 0] <| .ret []) (.reg 0 [(2, (Or.bool true), 0, 0), (6, (Or.bool true), 0, 0), (10, (Or.bool true), 0, 0), (13, (Or.call (vD (dB r36)) [] []), 0, 0), (15, (Or.bool true), 0, 0), (18, (Or.call (vD (dB r37)) [] []), 0, 0), (20, (Or.bool true), 0, 0), (23, (Or.call (vD (dB r38)) [] []), 0, 0), (25, (Or.bool true), 0, 0), (28, (Or.call (vD (dB r39)) [] []), 0, 0), (30, (Or.bool true), 0, 0), (33, (Or.call (vD (dB r40)) [] []), 0, 0), (35, (Or.bool false), 0, 0)] [4] [] [.old 12, .old 11, .old 10, .old 9, .old 8, .old 7, .old 6, .old 5, .old 4, .old 3, .old 2, .old 1, .old 0] <| .ret [])) (.reg 0 [(2, (Or.bool true), 0, 0), (6, (Or.bool true), 0, 0), (10, (Or.bool true), 0, 0), (13, (Or.call (vD (dB r36)) [] []), 0, 0), (15, (Or.bool true), 0, 0), (18, (Or.call (vD (dB r37)) [] []), 0, 0), (20, (Or.bool true), 0, 0), (23, (Or.call (vD (dB r38)) [] []), 0, 0), (25, (Or.bool true), 0, 0), (28, (Or.call (vD (dB r39)) [] []), 0, 0), (30, (Or.bool false), 0, 0)] [4] [] [.old 10, .old 9, .old 8, .old 7, .old 6, .old 5, .old 4, .old 3, .old 2, .old 1, .old 0] <| .ret [])) (.reg 0 [(2, (Or.bool true), 0, 0), (6, (Or.bool true), 0, 0), (10, (Or.bool true), 0, 0), (13, (Or.call (vD (dB r36)) [] []), 0, 0), (15, (Or.bool true), 0, 0), (18, (Or.call (vD (dB r37)) [] []), 0, 0), (20, (Or.bool true), 0, 0), (23, (Or.call (vD (dB r38)) [] []), 0, 0), (25, (Or.bool false), 0, 0)] [4] [] [.old 8, .old 7, .old 6, .old 5, .old 4, .old 3, .old 2, .old 1, .old 0] <| .ret [])) (.reg 0 [(2, (Or.bool true), 0, 0), (6, (Or.bool true), 0, 0), (10, (Or.bool true), 0, 0), (13, (Or.call (vD (dB r36)) [] []), 0, 0), (15, (Or.bool true), 0, 0), (18, (Or.call (vD (dB r37)) [] []), 0, 0), (20, (Or.bool false), 0, 0)] [4] [] [.old 6, .old 5, .old 4, .old 3, .old 2, .old 1, .old 0] <| .ret [])) (.reg 0 [(2, (Or.bool true), 0, 0), (6, (Or.bool true), 0, 0), (10, (Or.bool true), 0, 0), (13, (Or.call (vD (dB r36)) [] []), 0, 0), (15, (Or.bool false), 0, 0)] [4] [] [.old 4, .old 3, .old 2, .old 1, .old 0] <| .ret [])) (.reg 0 [(2, (Or.bool true), 0, 0), (6, (Or.bool true), 0, 0), (10, (Or.bool false), 0, 0)] [4] [] [.old 2, .old 1, .old 0] <| .ret [])) (.reg 0 [(2, (Or.bool true), 0, 0), (6, (Or.bool false), 0, 0)] [4] [] [.old 1, .old 0] <| .ret [])) (.reg 0 [(2, (Or.bool false), 0, 0)] [4] [] [.old 0] <| .ret []))))))))))))))
    (by kernel_rfl) (by kernel_rfl) (by kernel_rfl) h

end Go.AM

/- The law of the ring of matrices. -/
namespace Go.AM
open Go.Proofs.Try

/-- 'Three' opened: bytes in lists. -/
theorem i8s_of {l : List (List D)} (h : l.length ≤ 9223372036854775807 ∧ ∀ x ∈ l, DOKL [.i .i8] x) : ∃ zs : List Int, l = i8s zs ∧ ∀ z ∈ zs, -128 ≤ z ∧ z ≤ 127 := by
  obtain ⟨zs, h1, h2⟩ := ints_of h.2
  exact ⟨zs, h1, h2⟩

abbrev BIG : Nat := 1329227995784915872903807060280344576

theorem ring_ok (x0 : Int) (g0 : IntKind.u8.min ≤ x0 ∧ x0 ≤ IntKind.u8.max) (x1 : Int) (g1 : IntKind.u8.min ≤ x1 ∧ x1 ≤ IntKind.u8.max) (x2 : Int) (g2 : IntKind.u8.min ≤ x2 ∧ x2 ≤ IntKind.u8.max) (x3 : Int) (g3 : IntKind.u8.min ≤ x3 ∧ x3 ≤ IntKind.u8.max)
    (l4 : List (List D)) (g4 : l4.length ≤ 9223372036854775807 ∧ ∀ x ∈ l4, DOKL [.i .i8] x) (l5 : List (List D)) (g5 : l5.length ≤ 9223372036854775807 ∧ ∀ x ∈ l5, DOKL [.i .i8] x) (l6 : List (List D)) (g6 : l6.length ≤ 9223372036854775807 ∧ ∀ x ∈ l6, DOKL [.i .i8] x)
    (l7 : List (List D)) (g7 : l7.length ≤ 9223372036854775807 ∧ ∀ x ∈ l7, DOKL [.i .i8] x) :
    FnD prog 11 [.e (.agg [.dat (.int .u8 x0), .dat (.int .u8 x1), .dat (.int .u8 x2), .dat (.int .u8 x3), .dat (.sl l4), .dat (.sl l5), .dat (.sl l6)]), .e (.sc (.dat (.sl l7)))] (vb true) [] := by
  obtain ⟨a, rfl, _⟩ := i8s_of g4
  obtain ⟨b, rfl, _⟩ := i8s_of g5
  obtain ⟨c, rfl, _⟩ := i8s_of g6
  obtain ⟨d, rfl, _⟩ := i8s_of g7
  obtain ⟨n0, n1, n2, n3, b0, b1, b2, b3, hchain⟩ := chain_ok a b c g0.1 g1.1 g2.1 g3.1
  obtain ⟨A, hA⟩ : ∃ A, A = table n0 n1 (fillG n1 a) := ⟨_, rfl⟩
  obtain ⟨B, hB⟩ : ∃ B, B = table n1 n2 (fillG n2 b) := ⟨_, rfl⟩
  obtain ⟨C, hC⟩ : ∃ C, C = table n2 n3 (fillG n3 c) := ⟨_, rfl⟩
  obtain ⟨B2, hB2⟩ : ∃ B2, B2 = table n1 n2 (fillG n2 d) := ⟨_, rfl⟩
  have mA : Mx n0 n1 A := hA ▸ table_mx _ _ _
  have mB : Mx n1 n2 B := hB ▸ table_mx _ _ _
  have mC : Mx n2 n3 C := hC ▸ table_mx _ _ _
  have mB2 : Mx n1 n2 B2 := hB2 ▸ table_mx _ _ _
  have kA : BdM 9 A := hA ▸ filled_bd
  have kB : BdM 9 B := hB ▸ filled_bd
  have kC : BdM 9 C := hC ▸ filled_bd
  have kB2 : BdM 9 B2 := hB2 ▸ filled_bd
  have hfill := filled_ok (r := n1) (c := n2) (v := d) (by omega) (by omega)
  rw [← hA, ← hB, ← hC] at hchain
  rw [← hB2] at hfill
  clear hA hB hC hB2
  have big : ∀ K : Nat, K ≤ 1000000 → K ≤ BIG := fun K h => by unfold BIG; omega
  have mAB := mmul_mx n0 n1 n2 A B
  have kAB : BdM 1000 (mmul n0 n1 n2 A B) := (mmul_bd mA mB kA kB).mono (by omega)
  have mBC := mmul_mx n1 n2 n3 B C
  have kBC : BdM 1000 (mmul n1 n2 n3 B C) := (mmul_bd mB mC kB kC).mono (by omega)
  have mS := mcomb_mx n1 n2 (· + ·) B B2
  have kS : BdM 1000 (mcomb n1 n2 (· + ·) B B2) := (mcomb_bd mB mB2 kB kB2).1.mono (by omega)
  have mO := mmul_mx n0 n1 n2 A B2
  have kO : BdM 1000 (mmul n0 n1 n2 A B2) := (mmul_bd mA mB2 kA kB2).mono (by omega)
  have mI : Mx n1 n1 (table n1 n1 delta) := table_mx _ _ _
  have kI := (ident_bd n1).mono (L := 1000) (by omega)
  have up : ∀ {m : List (List Int)}, BdM 9 m → BdM 1000 m := fun h => h.mono (by omega)
  refine vc11_ok _ _ _ _ _ _ _ _ (R := Out _) ?_
  unfold vc11
  refine ⟨true, sanity_ok, _, _, _, _, _, _, _, _, _, hchain, _, _, _, hfill, ?_⟩
  simp only [matD_om]
  refine ⟨_, _, _, _, mmul_ok mA mB kA kB (by omega) (by omega) (by omega) (by omega), _, _, _, _, mmul_ok mB mC kB kC (by omega) (by omega) (by omega) (by omega), _, _, _, _, madd_ok mB mB2 kB kB2 (by omega) (by omega) (by omega),
    _, _, _, _, madd_ok mB2 mB kB2 kB (by omega) (by omega) (by omega), fun h => absurd h (by decide), fun _ => ⟨fun h => absurd h (by decide), fun _ => ⟨fun h => absurd h (by decide), fun _ => ⟨fun h => absurd h (by decide), fun _ => ?_⟩⟩⟩⟩
  refine ⟨true, sized_yes mAB kAB (by omega) (by omega) (big _ (by omega)), fun h => absurd h (by decide), fun _ => ?_⟩
  refine ⟨true, sized_yes mBC kBC (by omega) (by omega) (big _ (by omega)), fun h => absurd h (by decide), fun _ => ?_⟩
  refine ⟨true, sized_yes mS kS (by omega) (by omega) (big _ (by omega)), fun h => absurd h (by decide), fun _ => ?_⟩
  refine ⟨_, _, _, _, mmul_ok mAB mC kAB (up kC) (by omega) (by omega) (by omega) (by omega), _, _, _, _, mmul_ok mA mBC (up kA) kBC (by omega) (by omega) (by omega) (by omega), _, _, _, _, mmul_ok mA mS (up kA) kS (by omega) (by omega) (by omega) (by omega),
    _, _, _, _, mmul_ok mA mB2 kA kB2 (by omega) (by omega) (by omega) (by omega), fun h => absurd h (by decide), fun _ => ⟨fun h => absurd h (by decide), fun _ => ⟨fun h => absurd h (by decide), fun _ => ⟨fun h => absurd h (by decide), fun _ => ?_⟩⟩⟩⟩
  refine ⟨true, sized_yes mO kO (by omega) (by omega) (big _ (by omega)), fun h => absurd h (by decide), fun _ => ?_⟩
  refine ⟨_, _, _, _, madd_ok mAB mO kAB kO (by omega) (by omega) (by omega), _, _, _, _, _, _, _, mident_ok (by omega), mmul_ok mA mI (up kA) kI (by omega) (by omega) (by omega) (by omega), _, _, _, _, msub_ok mS mB2 kS (up kB2) (by omega) (by omega) (by omega),
    fun _ => ⟨fun _ => ⟨fun _ => ?_, fun h => absurd h (by decide)⟩, fun h => absurd h (by decide)⟩, fun h => absurd h (by decide)⟩
  have kL := mmul_bd mAB mC kAB (up kC)
  have kR := mmul_bd mA mBC (up kA) kBC
  have kP := (mcomb_bd mAB mO kAB kO).1
  have kQ := mmul_bd mA mS (up kA) kS
  have L : ∀ n, n ≤ 4 → n * (1000 * 1000) ≤ 4000000 := fun n h => by omega
  refine ⟨true, same_yes (K := 4000000) (mmul_mx _ _ _ _ _) (kL.mono (L _ b2)) (kR.mono (L _ b1)) (mmul_assoc A B C) (by omega) (by omega) (by omega), fun _ => ?_, fun h => nomatch h⟩
  refine ⟨true, same_yes (K := 4000000) (mmul_mx _ _ _ _ _) (kQ.mono (L _ b1)) (kP.mono (by omega)) (mmul_add_right A B B2) (by omega) (by omega) (by omega), fun _ => ?_, fun h => nomatch h⟩
  refine ⟨true, same_yes (K := 1000) mS kS (mcomb_comm n1 n2 B B2 ▸ kS) (mcomb_comm n1 n2 B B2) (by omega) (by omega) (by omega), fun _ => ?_, fun h => nomatch h⟩
  refine ⟨true, same_yes (K := 1000) (mmul_mx _ _ _ _ _) ((mmul_ident mA).symm ▸ up kA) (up kA) (mmul_ident mA) (by omega) (by omega) (by omega), fun _ => ?_, fun h => nomatch h⟩
  refine ⟨true, same_yes (K := 1000) (mcomb_mx _ _ _ _ _) ((mcomb_sub mB).symm ▸ up kB) (up kB) (mcomb_sub mB) (by omega) (by omega) (by omega), fun _ => ⟨rfl, rfl⟩, fun h => nomatch h⟩

end Go.AM

/- What the functions of package matrix, and of its reference, answer: comparing, picking, blocks of the reference. -/
namespace Go.AM
open Go.Proofs.Try

theorem m5transpose_ok {r c : Nat} {a : List (List Int)} (ha : Mx r c a) (hr : r ≤ 4294967296) (hc : c ≤ 4294967296) :
    FnD prog 39 [eM r c a] (eM c r (trM r c a)) [] := by
  refine vc39_ok _ _ _ (R := Out _) ?_
  unfold vc39
  obtain ⟨g, hg⟩ : ∃ g : Nat → Nat → Nat → Nat → Int, g = fun i j p q => if q < i ∨ (q = i ∧ p < j) then el a q p else 0 := ⟨_, rfl⟩
  refine ⟨_, _, _, rnew_ok hc hr, fun o t => ∃ i : Nat, t = (i : Int) ∧ i ≤ r ∧ o = om (table c r (g i 0)), fun _ t => ((r : Int) - t).toNat, ⟨0, rfl, by omega, ?_⟩, ?_⟩
  · congr 1; exact table_congr fun p q _ _ => by subst hg; simp
  rintro _ _ ⟨i, rfl, hi, rfl⟩
  refine ⟨fun h => ?_, fun h => ?_⟩
  · have hir : i < r := by simpa using h
    refine ⟨fun o t => ∃ j : Nat, t = (j : Int) ∧ j ≤ c ∧ o = om (table c r (g i j)), fun _ t => ((c : Int) - t).toNat, ⟨0, rfl, by omega, rfl⟩, ?_⟩
    rintro _ _ ⟨j, rfl, hj, rfl⟩
    refine ⟨fun h2 => ?_, fun h2 => ?_⟩
    · have hjc : j < c := by simpa using h2
      obtain ⟨e1, e2, e3, e4⟩ := read_el ha hir hjc
      refine ⟨_, _, _, ⟨by omega, by rw [om_len]; omega⟩, ⟨by omega, e4⟩, e1, ⟨by omega, e3⟩, e2, om_in hjc hir, ?_⟩
      rw [inc64 (by omega)]
      refine ⟨⟨j + 1, rfl, by omega, ?_⟩, by show ((c : Int) - ((j + 1 : Nat) : Int)).toNat < ((c : Int) - (j : Int)).toNat; omega⟩
      rw [Int.toNat_natCast, Int.toNat_natCast]
      refine Eq.trans (om_set (z := el a i j) hjc hir) ?_
      congr 1
      refine table_congr fun p q _ _ => ?_
      subst hg
      by_cases h1 : p = j ∧ q = i
      · obtain ⟨rfl, rfl⟩ := h1
        rw [if_pos ⟨rfl, rfl⟩]; simp
      · rw [if_neg h1]
        by_cases h3 : q < i ∨ (q = i ∧ p < j)
        · simp only [if_pos h3]; rw [if_pos (by omega)]
        · simp only [if_neg h3]; rw [if_neg (by omega)]
    · have hjc : c ≤ j := by simpa using h2
      rw [inc64 (by omega)]
      refine ⟨⟨i + 1, rfl, by omega, ?_⟩, by show ((r : Int) - ((i + 1 : Nat) : Int)).toNat < ((r : Int) - (i : Int)).toNat; omega⟩
      congr 1
      refine table_congr fun p q hp _ => ?_
      subst hg
      by_cases h3 : q < i ∨ (q = i ∧ p < j)
      · simp only [if_pos h3]; rw [if_pos (by omega)]
      · simp only [if_neg h3]; rw [if_neg (by omega)]
  · have hir : i = r := by have : r ≤ i := by simpa using h
                           omega
    subst hir
    have e : om (table c i (g i 0)) = om (trM i c a) := by
      congr 1
      refine table_congr fun p q _ hq => ?_
      subst hg; simp only; rw [if_pos (.inl hq)]
    rw [e, matD_om]
    exact ⟨rfl, rfl⟩

theorem om_append (a b : List (List Int)) : om a ++ om b = om (a ++ b) := by simp [om]

theorem m5stack_ok {r s c K : Nat} {a b : List (List Int)} (ha : Mx r c a) (hb : Mx s c b) (ka : BdM K a) (kb : BdM K b) (hr : r ≤ 2147483648) (hs : s ≤ 2147483648) (hc : c ≤ 4294967296) (hK : K ≤ 1329227995784915872903807060280344576) :
    FnD prog 60 [eM r c a, eM s c b] (eME ((r + s : Nat) : Int) c (a ++ b) 0) [] := by
  refine vc60_ok _ _ _ _ _ _ (R := Out _) ?_
  unfold vc60
  have hw : IntKind.i64.wrap ((r : Int) + (s : Int)) = ((r + s : Nat) : Int) := by rw [w64 (by omega) (by omega)]; simp
  rw [hw]
  refine ⟨fun h => by simp at h, fun _ => ⟨_, _, _, m5copied_ok ha ka (by omega) hc hK, _, _, _, m5copied_ok hb kb (by omega) hc hK, ?_, outME ?_⟩⟩
  · rw [om_length, om_length, ha.1, hb.1]; omega
  · rw [om_append, matD_om]

theorem m5stack_bad {r c s c' : Int} {a b : List (List Int)} (h : c ≠ c') : FnD prog 60 [eM r c a, eM s c' b] (eME 0 0 [] 50) [] := by
  refine vc60_ok _ _ _ _ _ _ (R := Out _) ?_
  unfold vc60
  exact ⟨fun _ => ⟨rfl, rfl⟩, fun h2 => absurd (by simpa using h2) h⟩

theorem stack_bad {r c s c' : Int} {a b : List (List Int)} (h : c ≠ c') : FnD prog 25 [eM r c a, eM s c' b] (eME 0 0 [] 50) [] := by
  refine vc25_ok _ _ _ _ _ _ (R := Out _) ?_
  unfold vc25
  exact ⟨fun _ => ⟨rfl, rfl⟩, fun h2 => absurd (by simpa using h2) h⟩

theorem beside_bad {r c r' c' : Int} {a b : List (List Int)} (h : r ≠ r') : FnD prog 26 [eM r c a, eM r' c' b] (eME 0 0 [] 50) [] := by
  refine vc26_ok _ _ _ _ _ _ (R := Out _) ?_
  unfold vc26
  exact ⟨fun _ => ⟨rfl, rfl⟩, fun h2 => absurd (by simpa using h2) h⟩

theorem m5beside_bad {r c r' c' : Int} {a b : List (List Int)} (h : r ≠ r') : FnD prog 61 [eM r c a, eM r' c' b] (eME 0 0 [] 50) [] := by
  refine vc61_ok _ _ _ _ _ _ (R := Out _) ?_
  unfold vc61
  exact ⟨fun _ => ⟨rfl, rfl⟩, fun h2 => absurd (by simpa using h2) h⟩

theorem m5beside_ok {r c d : Nat} {a b : List (List Int)} (ha : Mx r c a) (hb : Mx r d b) (hr : r ≤ 2147483648) (hc : c ≤ 2147483648) (hd : d ≤ 2147483648) :
    FnD prog 61 [eM r c a, eM r d b] (eME r ((c + d : Nat) : Int) (table r (c + d) fun i j => if j < c then el a i j else el b i (j - c)) 0) [] := by
  refine vc61_ok _ _ _ _ _ _ (R := Out _) ?_
  unfold vc61
  obtain ⟨f, hf⟩ : ∃ f : Nat → Nat → Int, f = fun i j => if j < c then el a i j else el b i (j - c) := ⟨_, rfl⟩
  have hw : IntKind.i64.wrap ((c : Int) + (d : Int)) = ((c + d : Nat) : Int) := by rw [w64 (by omega) (by omega)]; simp
  rw [hw, ← hf]
  refine ⟨fun h => by simp at h, fun _ => ?_⟩
  refine ⟨_, _, _, rnew_ok (by omega) (by omega), fun o t => ∃ i : Nat, t = (i : Int) ∧ i ≤ r ∧ o = om (table r (c + d) (gF f i 0)), fun _ t => ((r : Int) - t).toNat, ⟨0, rfl, by omega, gF_zero f⟩, ?_⟩
  rintro _ _ ⟨i, rfl, hi, rfl⟩
  refine ⟨fun h => ?_, fun h => outME ?_⟩
  · have hir : i < r := by simpa using h
    refine ⟨fun o t => ∃ j : Nat, t = (j : Int) ∧ j ≤ c ∧ o = om (table r (c + d) (gF f i j)), fun _ t => ((c : Int) - t).toNat, ⟨0, rfl, by omega, rfl⟩, ?_⟩
    rintro _ _ ⟨j, rfl, hj, rfl⟩
    refine ⟨fun h2 => ?_, fun h2 => ?_⟩
    · have hjc : j < c := by simpa using h2
      obtain ⟨e1, e2, e3, e4⟩ := read_el ha hir hjc
      refine ⟨_, _, _, ⟨by omega, by rw [om_len]; omega⟩, ⟨by omega, e4⟩, e1, ⟨by omega, e3⟩, e2, om_in hir (by omega), ?_⟩
      rw [inc64 (by omega)]
      refine ⟨⟨j + 1, rfl, by omega, ?_⟩, by show ((c : Int) - ((j + 1 : Nat) : Int)).toNat < ((c : Int) - (j : Int)).toNat; omega⟩
      rw [Int.toNat_natCast, Int.toNat_natCast]
      have e : el a i j = f i j := by subst hf; simp only [if_pos hjc]
      have := gF_step (r := r) (c := c + d) (f := f) hir (j := j) (by omega)
      rw [← e] at this
      exact this
    · have hjc : j = c := by have : c ≤ j := by simpa using h2
                             omega
      subst hjc
      refine ⟨fun o t => ∃ k : Nat, t = (k : Int) ∧ k ≤ d ∧ o = om (table r (j + d) (gF f i (j + k))), fun _ t => ((d : Int) - t).toNat, ⟨0, rfl, by omega, rfl⟩, ?_⟩
      rintro _ _ ⟨k, rfl, hk, rfl⟩
      refine ⟨fun h3 => ?_, fun h3 => ?_⟩
      · have hkd : k < d := by simpa using h3
        obtain ⟨e1, e2, e3, e4⟩ := read_el hb hir hkd
        have hw3 : IntKind.i64.wrap ((j : Int) + (k : Int)) = ((j + k : Nat) : Int) := by rw [w64 (by omega) (by omega)]; simp
        rw [hw3]
        refine ⟨_, _, _, ⟨by omega, by rw [om_len]; omega⟩, ⟨by omega, e4⟩, e1, ⟨by omega, e3⟩, e2, om_in hir (by omega), ?_⟩
        rw [inc64 (by omega)]
        refine ⟨⟨k + 1, rfl, by omega, ?_⟩, by show ((d : Int) - ((k + 1 : Nat) : Int)).toNat < ((d : Int) - (k : Int)).toNat; omega⟩
        rw [Int.toNat_natCast, Int.toNat_natCast]
        have e : el b i k = f i (j + k) := by subst hf; simp only [if_neg (show ¬ j + k < j by omega), Nat.add_sub_cancel_left]
        have := gF_step (r := r) (c := j + d) (f := f) hir (j := j + k) (by omega)
        rw [← e] at this
        exact this
      · have hkd : k = d := by have : d ≤ k := by simpa using h3
                               omega
        subst hkd
        rw [inc64 (by omega)]
        exact ⟨⟨i + 1, rfl, by omega, gF_next fun b h1 h2 => by omega⟩, by show ((r : Int) - ((i + 1 : Nat) : Int)).toNat < ((r : Int) - (i : Int)).toNat; omega⟩
  · have hir : i = r := by have : r ≤ i := by simpa using h
                           omega
    subst hir
    rw [gF_all, matD_om]

/-! ### Comparing -/

theorem cmp_zero (x y : Int) : (cmpI x y == 0) = decide (x = y) := by
  unfold cmpI
  by_cases h1 : x < y
  · simp [h1]; omega
  · by_cases h2 : y < x
    · simp [h1, h2]; omega
    · simp [h1, h2]; omega

theorem same118_ok {x y : Int} (hx : Sz x) (hy : Sz y) : FnD prog 118 [eI x, eI y] (vb (decide (x = y))) [] := by
  refine vc118_ok _ _ _ _ (R := Out _) ?_
  unfold vc118
  exact ⟨_, cmp_ok hx hy, outb (cmp_zero x y)⟩

theorem eqRow_ok {a b : List Int} (ha : SzR a) (hb : SzR b) (hl : a.length ≤ 4294967296) : FnD prog 117 [vs (row a), vs (row b), .e (.sc (.dat (.fn (.func 118) ([] : List D))))] (vb (decide (a = b))) [] := by
  refine vc117_ok _ _ _ _ (R := Out _) ?_
  unfold vc117
  simp only [row_length]
  refine ⟨fun h => outb ?_, fun h => ?_⟩
  · have h : ¬ ((a.length : Int) = (b.length : Int)) := by simpa using h
    rw [eq_comm, decide_eq_false_iff_not]
    intro e; subst e; exact h rfl
  · have hlen : a.length = b.length := by
      have : (a.length : Int) = (b.length : Int) := by simpa using h
      omega
    refine ⟨fun t => ∃ i : Nat, t = (i : Int) ∧ i ≤ a.length ∧ ∀ k, k < i → elr a k = elr b k, fun t => ((a.length : Int) - t).toNat, ⟨0, rfl, by omega, fun k hk => by omega⟩, ?_⟩
    rintro _ ⟨i, rfl, hi, hinv⟩
    refine ⟨fun h2 => ?_, fun h2 => outb ?_⟩
    · have hia : i < a.length := by simpa using h2
      have hib : i < b.length := by omega
      refine ⟨_, _, ⟨by omega, by omega⟩, row_getN hia, _, _, ⟨by omega, by omega⟩, row_getN hib, decide (elr a i = elr b i), same118_ok (ha _ (elr_mem hia)) (hb _ (elr_mem hib)), fun h3 => outb ?_, fun h3 => ?_⟩
      · rw [eq_comm, decide_eq_false_iff_not]
        intro e; subst e; simp at h3
      · have he : elr a i = elr b i := by simpa using h3
        rw [inc64 (by omega)]
        refine ⟨⟨i + 1, rfl, by omega, fun k hk => ?_⟩, by show ((a.length : Int) - ((i + 1 : Nat) : Int)).toNat < ((a.length : Int) - (i : Int)).toNat; omega⟩
        by_cases hki : k = i
        · subst hki; exact he
        · exact hinv k (by omega)
    · have hia : i = a.length := by have : a.length ≤ i := by simpa using h2
                                    omega
      have : a = b := list_ext hlen fun k hk => hinv k (by omega)
      simp [this]

theorem eqRows_ok {a b : List (List Int)} (ha : SzM a) (hb : SzM b) (hl : a.length ≤ 4294967296) (hc : ∀ x ∈ a, x.length ≤ 4294967296) :
    FnD prog 115 [vs (rows a), vs (rows b), .e (.sc (.dat (.fn (.func 116) ([] : List D))))] (vb (decide (a = b))) [] := by
  refine vc115_ok _ _ _ _ (R := Out _) ?_
  unfold vc115
  simp only [rows_length]
  refine ⟨fun h => outb ?_, fun h => ?_⟩
  · have h : ¬ ((a.length : Int) = (b.length : Int)) := by simpa using h
    rw [eq_comm, decide_eq_false_iff_not]
    intro e; subst e; exact h rfl
  · have hlen : a.length = b.length := by
      have : (a.length : Int) = (b.length : Int) := by simpa using h
      omega
    refine ⟨fun t => ∃ i : Nat, t = (i : Int) ∧ i ≤ a.length ∧ ∀ k, k < i → a.getD k [] = b.getD k [], fun t => ((a.length : Int) - t).toNat, ⟨0, rfl, by omega, fun k hk => by omega⟩, ?_⟩
    rintro _ ⟨i, rfl, hi, hinv⟩
    refine ⟨fun h4 => ?_, fun h4 => outb ?_⟩
    · have hia : i < a.length := by simpa using h4
      have hib : i < b.length := by omega
      have e116 : FnD prog 116 [vs (row (a.getD i [])), vs (row (b.getD i []))] (vb (decide (a.getD i [] = b.getD i []))) [] := by
        refine vc116_ok _ _ (R := Out _) ?_
        unfold vc116
        exact ⟨_, eqRow_ok (ha _ (getD_mem hia)) (hb _ (getD_mem hib)) (hc _ (getD_mem hia)), rfl, rfl⟩
      refine ⟨_, ⟨by omega, by omega⟩, rows_getN hia, _, ⟨by omega, by omega⟩, rows_getN hib, decide (a.getD i [] = b.getD i []), e116, fun h5 => outb ?_, fun h5 => ?_⟩
      · rw [eq_comm, decide_eq_false_iff_not]
        rintro e; subst e; simp at h5
      · have he : a.getD i [] = b.getD i [] := by simpa using h5
        rw [inc64 (by omega)]
        refine ⟨⟨i + 1, rfl, by omega, fun k hk => ?_⟩, by show ((a.length : Int) - ((i + 1 : Nat) : Int)).toNat < ((a.length : Int) - (i : Int)).toNat; omega⟩
        by_cases hki : k = i
        · subst hki; exact he
        · exact hinv k (by omega)
    · have hia : i = a.length := by have : a.length ≤ i := by simpa using h4
                                    omega
      have : a = b := lists_ext hlen fun k hk => hinv k (by omega)
      simp [this]

theorem equal_ok {r c r' c' : Int} {a b : List (List Int)} (ha : SzM a) (hb : SzM b) (hl : a.length ≤ 4294967296) (hc : ∀ x ∈ a, x.length ≤ 4294967296) :
    FnD prog 65 [eM r c a, eM r' c' b] (vb (decide (r = r' ∧ c = c' ∧ a = b))) [] := by
  refine vc65_ok _ _ _ _ _ _ (R := Out _) ?_
  unfold vc65
  refine ⟨_, _, _, _, size_ok r c a, size_ok r' c' b, fun h => ⟨_, eqRows_ok ha hb hl hc, outb ?_⟩, fun h => outb ?_⟩
  · have h : r = r' ∧ c = c' := by simpa using h
    simp [h.1, h.2]
  · rw [eq_comm, decide_eq_false_iff_not]
    rintro ⟨rfl, rfl, _⟩
    simp at h

theorem mscale_ok {r c K : Nat} {a : List (List Int)} {k : Int} (ha : Mx r c a) (ka : BdM K a) (hk : k.natAbs ≤ 1329227995784915872903807060280344576) (hr : r ≤ 4294967296) (hc : c ≤ 4294967296) (hK : K ≤ 1329227995784915872903807060280344576) :
    FnD prog 63 [eM r c a, eI k] (eM r c (table r c fun i j => el a i j * k)) [] := by
  refine vc63_ok _ _ _ _ _ (R := Out _) ?_
  unfold vc63
  refine ⟨_, _, _, build_ok hr hc (g := fun i j => el a i j * k) fun i j hi hj => ?_, rfl, rfl⟩
  refine vc112_ok _ _ _ _ _ _ _ (R := Out _) ?_
  unfold vc112
  obtain ⟨e1, e2, e3, e4⟩ := read_el ha hi hj
  have := mul_ok (x := k) (y := el a i j) (sz_le hk (Nat.le_refl _)) (sz_le (el_bd ha ka hi hj) hK)
  rw [Int.mul_comm] at this
  exact ⟨_, _, _, _, _, ⟨by omega, e4⟩, e1, ⟨by omega, e3⟩, e2, this, rfl, rfl⟩

/-- A described matrix. -/
theorem rawmade_ok {x y : Int} (v : List Int) (hx : 0 ≤ x) (hy : 0 ≤ y) : ∃ r c : Nat, r ≤ 4 ∧ c ≤ 4 ∧
    FnD prog 15 [.e (.agg [.dat (.int .u8 x), .dat (.int .u8 y), .dat (.sl (i8s v))])] (eMo r c) (oM (table r c (fillG c v))) := by
  obtain ⟨r, e0, b0⟩ := mod5 hx
  obtain ⟨c, e1, b1⟩ := mod5 hy
  refine ⟨r, c, b0, b1, ?_⟩
  refine vc15_ok _ _ _ (R := OutM r c _) ?_
  unfold vc15
  rw [e0, e1]
  exact ⟨_, _, _, by decide, filled_ok (by omega) (by omega), outM rfl⟩

end Go.AM

/- What functions of the program come to: group Oa. Printed by vc.py. -/
set_option maxRecDepth 100000
set_option linter.unusedVariables false

namespace Go.AM
open Go.Proofs.Try

/- f76 torsion/matrix.build -/
def vc76o (rows : Int) (cols : Int) (f : FuncId) (fc : List D) (R : V → Heap → Prop) : Prop :=
  (0 ≤ rows ∧ rows ≤ rows ∧ rows * (24 : Nat) ≤ 281474976710656) ∧
  (∃ (J0 : (List (List (List D))) → Int → Prop) (μ0 : (List (List (List D))) → Int → Nat),
  J0 (List.replicate (rows).toNat ([] : List (List D))) (0 : Int) ∧ ∀ (o2 : List (List (List D))) (t16 : Int), J0 o2 t16 →
    ((decide (t16 < rows)) = true →
      (0 ≤ cols ∧ cols ≤ cols ∧ cols * (32 : Nat) ≤ 281474976710656) ∧
      (0 ≤ t16 ∧ t16 < (o2.length : Int)) ∧
      (∃ (J1 : (List (List (List D))) → Int → Prop) (μ1 : (List (List (List D))) → Int → Nat),
      J1 (o2.set (t16).toNat (List.replicate (cols).toNat [(dB false), (dL ([] : List (List D)))])) (0 : Int) ∧ ∀ (o21 : List (List (List D))) (t26 : Int), J1 o21 t26 →
        ((decide (t26 < cols)) = true →
          ∃ (r0 : Bool) (r1 : List (List D)),
          (0 ≤ t16 ∧ t16 < (o21.length : Int)) ∧
          (FnD prog f ([(vD (dI t16)), (vD (dI t26))] ++ fc.map dV) (vA [(sD (dB r0)), (sD (dL r1))]) []) ∧
          (∃ l, o21[(t16).toNat]? = some l ∧ 0 ≤ t26 ∧ t26 < (l.length : Int)) ∧
          (J1 (o21.modify (t16).toNat (fun r => r.set (t26).toNat [(dB r0), (dL r1)])) (IntKind.i64.wrap (t26 + (1 : Int))) ∧ μ1 (o21.modify (t16).toNat (fun r => r.set (t26).toNat [(dB r0), (dL r1)])) (IntKind.i64.wrap (t26 + (1 : Int))) < μ1 o21 t26)) ∧
        ((decide (t26 < cols)) = false →
          J0 o21 (IntKind.i64.wrap (t16 + (1 : Int))) ∧ μ0 o21 (IntKind.i64.wrap (t16 + (1 : Int))) < μ0 o2 t16))) ∧
    ((decide (t16 < rows)) = false →
      R (vA [(sD (dI rows)), (sD (dI cols)), (S.ref 0)]) [(some (Obj.mat 2 o2))]))

theorem vc76o_ok (rows : Int) (cols : Int) (f : FuncId) (fc : List D) {R : V → Heap → Prop} (h : vc76o rows cols f fc R) : FnG prog 76 [(vD (dI rows)), (vD (dI cols)), (vD (D.fn (.func f) fc))] [] R :=
  FnG.vcg hT func76 ntmps76 (.reg 1 [(0, Or.none, 0, 1)] [0, 1, 2, 6] [0] [] <| .reg 2 [(3, Or.none, 1, 1), (5, Or.none, 2, 1)] [0, 1, 2, 6, 7] [0, 2, 1] [] <| .r1 [1, 2, 6, 7, 15, 16] [0, 1, 2] <| .lp [.m, .i] (fun o2 t16 => ⟨[(1, (vD (dI cols))), (2, (vD (D.fn (.func f) fc))), (6, (vP 0 0)), (7, (vP 1 0)), (15, (vD (dI rows))), (16, (vD (dI t16)))], [(some (Obj.box [(sD (dI (0 : Int))), (sD (dI (0 : Int))), (sD (D.raw (.slice none 0 0)))])), (some (Obj.box [(sD (dI rows)), (sD (dI cols)), (S.ref 2)])), (some (Obj.mat 2 o2))], 43⟩) [.m (List.replicate (rows).toNat ([] : List (List D))), .i (0 : Int)] <| .fm fun o2 => .fi fun t16 => .beg <| .r1 [1, 2, 6, 7, 15, 16, 17] [0, 1, 2] <| .c2 (.r1 [1, 2, 6, 7, 8, 15, 16] [0, 1, 2] <| .drw 2 [(4, (Or.none, 3, 1), [3]), (6, (Or.none, 4, 1), [2, 3, 4])] [1, 2, 6, 7, 8, 15, 16] [0, 1, 2, 4] [] <| .fwd [] [1] <| .viw [1, 2, 6, 7, 8, 15, 16] [0, 1, 3] <| .r1 [1, 2, 6, 7, 8, 15, 16, 25, 26] [0, 1, 2] <| .lp [.m, .i] (fun o21 t26 => ⟨[(1, (vD (dI cols))), (2, (vD (D.fn (.func f) fc))), (6, (vP 0 0)), (7, (vP 1 0)), (8, (vD (dI t16))), (15, (vD (dI rows))), (16, (vD (dI t16))), (25, (vD (dI cols))), (26, (vD (dI t26)))], [(some (Obj.box [(sD (dI (0 : Int))), (sD (dI (0 : Int))), (sD (D.raw (.slice none 0 0)))])), (some (Obj.box [(sD (dI rows)), (sD (dI cols)), (S.ref 2)])), (some (Obj.mat 2 o21))], 43⟩) [.m (o2.set (t16).toNat (List.replicate (cols).toNat [(dB false), (dL ([] : List (List D)))])), .i (0 : Int)] <| .fm fun o21 => .fi fun t26 => .beg <| .r1 [1, 2, 6, 7, 8, 15, 16, 25, 26, 27] [0, 1, 2] <| .c2 (.r1 [1, 2, 6, 7, 8, 9, 15, 16, 25, 26] [0, 1, 2] <| .exb fun r0 => .exl fun r1 => .drw 0 [(9, ((Or.call (vA [(sD (dB r0)), (sD (dL r1))]) [] []), 0, 0), []), (11, (Or.none, 0, 0), [2])] [1, 2, 6, 7, 8, 15, 16, 25, 26] [0, 1, 2] [] <| .r1 [1, 2, 6, 7, 8, 15, 16, 25, 26] [0, 1, 2] <| .bk 0 [.m (o21.modify (t16).toNat (fun r => r.set (t26).toNat [(dB r0), (dL r1)])), .i (IntKind.i64.wrap (t26 + (1 : Int)))]) (.r1 [1, 2, 6, 7, 15, 16] [0, 1, 2] <| .bk 1 [.m o21, .i (IntKind.i64.wrap (t16 + (1 : Int)))])) (.r1 [6] [0, 2] <| .ret [1]))
    (by kernel_rfl) (by kernel_rfl) (by kernel_rfl) h

/- f63 torsion/matrix.Scale -/
def vc63o (a0 : Int) (a1 : Int) (a2 : List (List D)) (k0 : Bool) (k1 : List (List D)) (R : V → Heap → Prop) : Prop :=
  ∃ (r0 : Int) (r1 : Int) (rrows : List (List (List D))),
  (FnD prog 76 [(vD (dI a0)), (vD (dI a1)), (vD (D.fn (.func 112) [(D.box [(dB k0), (dL k1)]), (D.box [(dI a0), (dI a1), (dL a2)])]))] (vA [(sD (dI r0)), (sD (dI r1)), (S.ref 0)]) [(some (Obj.mat 2 rrows))]) ∧
  (R (vA [(sD (dI r0)), (sD (dI r1)), (S.ref 0)]) [(some (Obj.mat 2 rrows))])

theorem vc63o_ok (a0 : Int) (a1 : Int) (a2 : List (List D)) (k0 : Bool) (k1 : List (List D)) {R : V → Heap → Prop} (h : vc63o a0 a1 a2 k0 k1 R) : FnG prog 63 [(vA [(sD (dI a0)), (sD (dI a1)), (sD (dL a2))]), (vA [(sD (dB k0)), (sD (dL k1))])] [] R :=
  FnG.vcg hT func63 ntmps63 (.reg 3 [(0, Or.none, 0, 1), (1, Or.none, 1, 1), (2, Or.none, 2, 1)] [2, 3, 4] [0, 1, 2] [] <| .frz [0, 1] <| .ex fun r0 => .ex fun r1 => .exm fun rrows => .reg 1 [(5, (Or.call (vA [(sD (dI r0)), (sD (dI r1)), (S.ref 0)]) [(some (Obj.mat 2 rrows))] []), 3, 1)] [4] [2, 3] [] <| .ret [1])
    (by kernel_rfl) (by kernel_rfl) (by kernel_rfl) h

/- f97 torsion/oplog.copied -/
def vc97 (a0 : Int) (a1 : Int) (a2 : List (List D)) (R : V → Heap → Prop) : Prop :=
  ∃ (r0 : Bool) (r1 : List (List D)) (r01 : Int) (r11 : Int) (rrows : List (List (List D))),
  (FnD prog 108 [(vD (dI (1 : Int)))] (vA [(sD (dB r0)), (sD (dL r1))]) []) ∧
  (FnD prog 63 [(vA [(sD (dI a0)), (sD (dI a1)), (sD (dL a2))]), (vA [(sD (dB r0)), (sD (dL r1))])] (vA [(sD (dI r01)), (sD (dI r11)), (S.ref 0)]) [(some (Obj.mat 2 rrows))]) ∧
  (R (vA [(sD (dI r01)), (sD (dI r11)), (S.ref 0)]) [(some (Obj.mat 2 rrows))])

theorem vc97_ok (a0 : Int) (a1 : Int) (a2 : List (List D)) {R : V → Heap → Prop} (h : vc97 a0 a1 a2 R) : FnG prog 97 [(vA [(sD (dI a0)), (sD (dI a1)), (sD (dL a2))])] [] R :=
  FnG.vcg hT func97 ntmps97 (.reg 2 [(0, Or.none, 0, 1), (1, Or.none, 1, 1)] [1, 2] [0, 1] [] <| .exb fun r0 => .exl fun r1 => .ex fun r01 => .ex fun r11 => .exm fun rrows => .drw 1 [(1, ((Or.call (vA [(sD (dB r0)), (sD (dL r1))]) [] []), 0, 0), []), (2, ((Or.call (vA [(sD (dI r01)), (sD (dI r11)), (S.ref 0)]) [(some (Obj.mat 2 rrows))] []), 2, 1), [2]), (3, (Or.none, 0, 0), [1])] [2] [1, 2] [] <| .ret [1])
    (by kernel_rfl) (by kernel_rfl) (by kernel_rfl) h

/- f98 torsion/oplog.effects -/
def vc98  (R : V → Heap → Prop) : Prop :=
  R (vA [(sD (D.raw (.nilFunc))), (sD (D.fn (.func 138) ([] : List D))), (sD (D.fn (.func 139) ([] : List D))), (sD (D.fn (.func 140) ([] : List D)))]) []

theorem vc98_ok  {R : V → Heap → Prop} (h : vc98  R) : FnG prog 98 [] [] R :=
  FnG.vcg hT func98 ntmps98 (.reg 1 [(0, Or.none, 0, 1)] [0] [0] [] <| .r1 [0] [0] <| .ret [])
    (by kernel_rfl) (by kernel_rfl) (by kernel_rfl) h

/- f138 torsion/oplog.effects$1 -/
def vc138 (a : List (List (List D))) (x0 : Int) (x1 : Int) (x2 : Int) (x3 : Bool) (x4 : List (List D)) (R : V → Heap → Prop) : Prop :=
  (0 ≤ x2 ∧ x2 < (a.length : Int)) ∧
  (0 ≤ x1 ∧ x1 < (a.length : Int)) ∧
  ((x2).toNat = (x2).toNat) ∧
  ((x1).toNat = (x1).toNat) ∧
  (R (V.tup []) [(some (Obj.fwd (S.ref 1))), (some (Obj.mat 2 (swapR a ((x1).toNat) ((x2).toNat))))])

theorem vc138_ok (a : List (List (List D))) (x0 : Int) (x1 : Int) (x2 : Int) (x3 : Bool) (x4 : List (List D)) {R : V → Heap → Prop} (h : vc138 a x0 x1 x2 x3 x4 R) : FnG prog 138 [(V.e (E.sc (S.ref 0))), (vA [(sD (dI x0)), (sD (dI x1)), (sD (dI x2)), (sD (dB x3)), (sD (dL x4))])] [(some (Obj.mat 2 a))] R :=
  FnG.vcg hT func138 ntmps138 (.reg 1 [(0, Or.none, 1, 1)] [0, 3] [0, 1] [] <| .drw 1 [(17, (Or.none, 0, 0), [0]), (19, (Or.none, 2, 1), [0, 2])] [] [0, 2] [.new, .new, .old 0, .old 1] <| .fwd [] [] <| .ret [0, 1])
    (by kernel_rfl) (by kernel_rfl) (by kernel_rfl) h

/- f139 torsion/oplog.effects$2 -/
def vc139 (a : List (List (List D))) (x0 : Int) (x1 : Int) (x2 : Int) (x3 : Bool) (x4 : List (List D)) (R : V → Heap → Prop) : Prop :=
  (0 ≤ x1 ∧ x1 < (a.length : Int)) ∧
  (∃ (J0 : (List (List (List D))) → Int → Prop) (μ0 : (List (List (List D))) → Int → Nat),
  J0 a (0 : Int) ∧ ∀ (a1 : List (List (List D))) (t12 : Int), J0 a1 t12 →
    ((decide (t12 < ((a.getD (x1).toNat ([] : List (List D))).length : Int))) = true →
      ∃ (x01 : Bool) (x11 : List (List D)),
      (∃ l, a1[(x1).toNat]? = some l ∧ 0 ≤ t12 ∧ t12 < (l.length : Int)) ∧
      (at2 a1 (x1).toNat (t12).toNat = some [(dB x01), (dL x11)]) ∧
      (∃ (r0 : Bool) (r1 : List (List D)),
      (0 ≤ x1 ∧ x1 < (a1.length : Int)) ∧
      (FnD prog 100 [(vA [(sD (dB x01)), (sD (dL x11))])] (vA [(sD (dB r0)), (sD (dL r1))]) []) ∧
      (J0 (a1.modify (x1).toNat (fun r => r.set (t12).toNat [(dB r0), (dL r1)])) (IntKind.i64.wrap (t12 + (1 : Int))) ∧ μ0 (a1.modify (x1).toNat (fun r => r.set (t12).toNat [(dB r0), (dL r1)])) (IntKind.i64.wrap (t12 + (1 : Int))) < μ0 a1 t12))) ∧
    ((decide (t12 < ((a.getD (x1).toNat ([] : List (List D))).length : Int))) = false →
      R (V.tup []) [(some (Obj.fwd (S.ref 1))), (some (Obj.mat 2 a1))]))

theorem vc139_ok (a : List (List (List D))) (x0 : Int) (x1 : Int) (x2 : Int) (x3 : Bool) (x4 : List (List D)) {R : V → Heap → Prop} (h : vc139 a x0 x1 x2 x3 x4 R) : FnG prog 139 [(V.e (E.sc (S.ref 0))), (vA [(sD (dI x0)), (sD (dI x1)), (sD (dI x2)), (sD (dB x3)), (sD (dL x4))])] [(some (Obj.mat 2 a))] R :=
  FnG.vcg hT func139 ntmps139 (.reg 1 [(0, Or.none, 1, 1)] [0, 3] [0, 1] [] <| .r1 [0, 3, 10, 11, 12] [0, 1] <| .lp [.m, .i] (fun a1 t12 => ⟨[(0, (vR 0)), (3, (vP 1 0)), (10, (V.e (E.sc (S.row 0 (x1).toNat)))), (11, (vD (dI ((a.getD (x1).toNat ([] : List (List D))).length : Int)))), (12, (vD (dI t12)))], [(some (Obj.mat 2 a1)), (some (Obj.box [(sD (dI x0)), (sD (dI x1)), (sD (dI x2)), (sD (dB x3)), (sD (dL x4))]))], 27⟩) [.m a, .i (0 : Int)] <| .fm fun a1 => .fi fun t12 => .beg <| .r1 [0, 3, 10, 11, 12, 13] [0, 1] <| .c2 (.exb fun x01 => .exl fun x11 => .reg 1 [(2, (Or.cells [(dB x01), (dL x11)]), 0, 0), (3, Or.none, 2, 1)] [0, 3, 4, 5, 10, 11, 12] [0, 1, 2] [] <| .exb fun r0 => .exl fun r1 => .drw 0 [(7, ((Or.call (vA [(sD (dB r0)), (sD (dL r1))]) [] []), 0, 0), []), (9, (Or.none, 0, 0), [0])] [0, 3, 10, 11, 12] [0, 1] [.new, .new, .old 3] <| .r1 [0, 3, 10, 11, 12] [0, 1] <| .bk 0 [.m (a1.modify (x1).toNat (fun r => r.set (t12).toNat [(dB r0), (dL r1)])), .i (IntKind.i64.wrap (t12 + (1 : Int)))]) (.mv 0 <| .ret [0, 2]))
    (by kernel_rfl) (by kernel_rfl) (by kernel_rfl) h

/- f140 torsion/oplog.effects$3 -/
def vc140 (a : List (List (List D))) (x0 : Int) (x1 : Int) (x2 : Int) (x3 : Bool) (x4 : List (List D)) (R : V → Heap → Prop) : Prop :=
  (0 ≤ x2 ∧ x2 < (a.length : Int)) ∧
  (∃ (J0 : (List (List (List D))) → Int → Prop) (μ0 : (List (List (List D))) → Int → Nat),
  J0 a (0 : Int) ∧ ∀ (a1 : List (List (List D))) (t12 : Int), J0 a1 t12 →
    ((decide (t12 < ((a.getD (x2).toNat ([] : List (List D))).length : Int))) = true →
      ∃ (x01 : Bool) (x11 : List (List D)),
      (∃ l, a1[(x2).toNat]? = some l ∧ 0 ≤ t12 ∧ t12 < (l.length : Int)) ∧
      (at2 a1 (x2).toNat (t12).toNat = some [(dB x01), (dL x11)]) ∧
      (∃ (x02 : Bool) (x12 : List (List D)) (r0 : Bool) (r1 : List (List D)) (r01 : Bool) (r11 : List (List D)),
      (0 ≤ x1 ∧ x1 < (a1.length : Int)) ∧
      (∃ l, a1[(x1).toNat]? = some l ∧ 0 ≤ t12 ∧ t12 < (l.length : Int)) ∧
      (at2 a1 (x1).toNat (t12).toNat = some [(dB x02), (dL x12)]) ∧
      (FnD prog 113 [(vA [(sD (dB x3)), (sD (dL x4))]), (vA [(sD (dB x01)), (sD (dL x11))])] (vA [(sD (dB r0)), (sD (dL r1))]) []) ∧
      (FnD prog 106 [(vA [(sD (dB x02)), (sD (dL x12))]), (vA [(sD (dB r0)), (sD (dL r1))])] (vA [(sD (dB r01)), (sD (dL r11))]) []) ∧
      (J0 (a1.modify (x1).toNat (fun r => r.set (t12).toNat [(dB r01), (dL r11)])) (IntKind.i64.wrap (t12 + (1 : Int))) ∧ μ0 (a1.modify (x1).toNat (fun r => r.set (t12).toNat [(dB r01), (dL r11)])) (IntKind.i64.wrap (t12 + (1 : Int))) < μ0 a1 t12))) ∧
    ((decide (t12 < ((a.getD (x2).toNat ([] : List (List D))).length : Int))) = false →
      R (V.tup []) [(some (Obj.fwd (S.ref 1))), (some (Obj.mat 2 a1))]))

theorem vc140_ok (a : List (List (List D))) (x0 : Int) (x1 : Int) (x2 : Int) (x3 : Bool) (x4 : List (List D)) {R : V → Heap → Prop} (h : vc140 a x0 x1 x2 x3 x4 R) : FnG prog 140 [(V.e (E.sc (S.ref 0))), (vA [(sD (dI x0)), (sD (dI x1)), (sD (dI x2)), (sD (dB x3)), (sD (dL x4))])] [(some (Obj.mat 2 a))] R :=
  FnG.vcg hT func140 ntmps140 (.reg 1 [(0, Or.none, 1, 1)] [0, 3] [0, 1] [] <| .r1 [0, 3, 10, 11, 12] [0, 1] <| .lp [.m, .i] (fun a1 t12 => ⟨[(0, (vR 0)), (3, (vP 1 0)), (10, (V.e (E.sc (S.row 0 (x2).toNat)))), (11, (vD (dI ((a.getD (x2).toNat ([] : List (List D))).length : Int)))), (12, (vD (dI t12)))], [(some (Obj.mat 2 a1)), (some (Obj.box [(sD (dI x0)), (sD (dI x1)), (sD (dI x2)), (sD (dB x3)), (sD (dL x4))]))], 38⟩) [.m a, .i (0 : Int)] <| .fm fun a1 => .fi fun t12 => .beg <| .r1 [0, 3, 10, 11, 12, 13] [0, 1] <| .c2 (.exb fun x01 => .exl fun x11 => .reg 1 [(2, (Or.cells [(dB x01), (dL x11)]), 0, 0), (3, Or.none, 2, 1)] [0, 3, 4, 5, 10, 11, 12] [0, 1, 2] [] <| .exb fun x02 => .exl fun x12 => .exb fun r0 => .exl fun r1 => .exb fun r01 => .exl fun r11 => .drw 0 [(13, ((Or.cells [(dB x02), (dL x12)]), 0, 0), []), (17, ((Or.call (vA [(sD (dB r0)), (sD (dL r1))]) [] []), 0, 0), []), (18, ((Or.call (vA [(sD (dB r01)), (sD (dL r11))]) [] []), 0, 0), []), (20, (Or.none, 0, 0), [0])] [0, 3, 10, 11, 12] [0, 1] [.new, .old 0, .new, .new, .new, .new, .old 3] <| .r1 [0, 3, 10, 11, 12] [0, 1] <| .bk 0 [.m (a1.modify (x1).toNat (fun r => r.set (t12).toNat [(dB r01), (dL r11)])), .i (IntKind.i64.wrap (t12 + (1 : Int)))]) (.mv 0 <| .ret [0, 2]))
    (by kernel_rfl) (by kernel_rfl) (by kernel_rfl) h

/- f45 torsion/oplog.Apply -/
def vc45 (l : List (List D)) (a0 : Int) (a1 : Int) (a2 : List (List D)) (R : V → Heap → Prop) : Prop :=
  ∃ (r : Bool),
  (FnD prog 96 [(vD (dL l)), (vD (dI a0))] (vD (dB r)) []) ∧
  (((!r) = true →
    R (V.tup [(E.agg [(sD (dI (0 : Int))), (sD (dI (0 : Int))), (sD (dL ([] : List (List D))))]), (eD (dI (180 : Int)))]) []) ∧
  ((!r) = false →
    ∃ (r0 : Int) (r1 : Int) (rrows : List (List (List D))),
    (FnD prog 97 [(vA [(sD (dI a0)), (sD (dI a1)), (sD (dL a2))])] (vA [(sD (dI r0)), (sD (dI r1)), (S.ref 0)]) [(some (Obj.mat 2 rrows))]) ∧
    (FnD prog 98 [] (vA [(sD (D.raw (.nilFunc))), (sD (D.fn (.func 138) ([] : List D))), (sD (D.fn (.func 139) ([] : List D))), (sD (D.fn (.func 140) ([] : List D)))]) []) ∧
    (∃ (J0 : (List (List (List D))) → Int → Prop) (μ0 : (List (List (List D))) → Int → Nat),
    J0 rrows (0 : Int) ∧ ∀ (o3 : List (List (List D))) (t21 : Int), J0 o3 t21 →
      ((decide (t21 < (l.length : Int))) = true →
        ∃ (x0 : Int) (x1 : Int) (x2 : Int) (x3 : Bool) (x4 : List (List D)),
        (0 ≤ t21 ∧ t21 < (l.length : Int)) ∧
        (l[(t21).toNat]? = some [(dI x0), (dI x1), (dI x2), (dB x3), (dL x4)]) ∧
        (∃ (q : FuncId) (qc : List D) (m : List (List (List D))),
        (0 ≤ x0 ∧ x0 < ((4 : Nat) : Int)) ∧
        (([(sD (D.raw (.nilFunc))), (sD (D.fn (.func 138) ([] : List D))), (sD (D.fn (.func 139) ([] : List D))), (sD (D.fn (.func 140) ([] : List D)))] : List S)[0 + (x0).toNat * 1]? = some (sD (D.fn (.func q) qc))) ∧
        (FnO prog q ([(V.e (E.sc (S.ref 0))), (vA [(sD (dI x0)), (sD (dI x1)), (sD (dI x2)), (sD (dB x3)), (sD (dL x4))])] ++ (qc.map dV).map (V.map (rnS [4]))) [(some (Obj.mat 2 o3))] (V.tup []) [(some (Obj.fwd (S.ref 1))), (some (Obj.mat 2 m))]) ∧
        (J0 m (IntKind.i64.wrap (t21 + (1 : Int))) ∧ μ0 m (IntKind.i64.wrap (t21 + (1 : Int))) < μ0 o3 t21))) ∧
      ((decide (t21 < (l.length : Int))) = false →
        R (V.tup [(E.agg [(sD (dI r0)), (sD (dI r1)), (sD (dL (matD o3)))]), (eD (dI (0 : Int)))]) []))))

theorem vc45_ok (l : List (List D)) (a0 : Int) (a1 : Int) (a2 : List (List D)) {R : V → Heap → Prop} (h : vc45 l a0 a1 a2 R) : FnG prog 45 [(vD (dL l)), (vA [(sD (dI a0)), (sD (dI a1)), (sD (dL a2))])] [] R :=
  FnG.vcg hT func45 ntmps45 (.reg 2 [(0, Or.none, 0, 1), (1, Or.none, 1, 1)] [0, 3, 4] [0, 1] [] <| .exb fun r => .reg 0 [(3, (Or.call (vD (dB r)) [] []), 0, 0)] [0, 3, 4, 14] [0, 1] [] <| .c2 (.r1 [4, 5] [1] <| .nrm [4, 5] [0] <| .ret []) (.ex fun r0 => .ex fun r1 => .exm fun rrows => .reg 3 [(1, (Or.call (vA [(sD (dI r0)), (sD (dI r1)), (S.ref 0)]) [(some (Obj.mat 2 rrows))] []), 2, 1), (2, (Or.call (vA [(sD (D.raw (.nilFunc))), (sD (D.fn (.func 138) ([] : List D))), (sD (D.fn (.func 139) ([] : List D))), (sD (D.fn (.func 140) ([] : List D)))]) [] []), 0, 0), (3, Or.none, 3, 1), (4, Or.none, 4, 1)] [0, 4, 6, 7] [1, 3, 4, 2] [] <| .r1 [4, 6, 7, 19, 20, 21] [0, 1, 2, 3] <| .lp [.m, .i] (fun o3 t21 => ⟨[(4, (vP 0 0)), (6, (vP 1 0)), (7, (vP 2 0)), (19, (vD (dL l))), (20, (vD (dI (l.length : Int)))), (21, (vD (dI t21)))], [(some (Obj.box [(sD (dI (0 : Int))), (sD (dI (0 : Int))), (sD (D.raw (.slice none 0 0)))])), (some (Obj.box [(sD (dI r0)), (sD (dI r1)), (S.ref 3)])), (some (Obj.box [(sD (D.raw (.nilFunc))), (sD (D.fn (.func 138) ([] : List D))), (sD (D.fn (.func 139) ([] : List D))), (sD (D.fn (.func 140) ([] : List D)))])), (some (Obj.mat 2 o3))], 35⟩) [.m rrows, .i (0 : Int)] <| .fm fun o3 => .fi fun t21 => .beg <| .r1 [4, 6, 7, 19, 20, 21, 22] [0, 1, 2, 3] <| .c2 (.ex fun x0 => .ex fun x1 => .ex fun x2 => .exb fun x3 => .exl fun x4 => .reg 1 [(1, (Or.cells [(dI x0), (dI x1), (dI x2), (dB x3), (dL x4)]), 0, 0), (2, Or.none, 4, 1)] [4, 6, 7, 9, 19, 20, 21] [0, 1, 2, 4, 3] [] <| .exf fun q => .exd fun qc => .exm fun m => .drw 1 [(3, ((Or.cell (sD (D.fn (.func q) qc))), 0, 0), []), (7, ((Or.callO [4] (V.tup []) [(some (Obj.fwd (S.ref 1))), (some (Obj.mat 2 m))]), 5, 1), [4, 5])] [4, 6, 7, 19, 20, 21] [0, 1, 2, 4, 5] [] <| .fwd [] [1] <| .viw [4, 6, 7, 19, 20, 21] [0, 1, 2, 4] <| .r1 [4, 6, 7, 19, 20, 21] [0, 1, 2, 3] <| .bk 0 [.m m, .i (IntKind.i64.wrap (t21 + (1 : Int)))]) (.r1 [4, 5] [0, 3] <| .frz [1] <| .ret [])))
    (by kernel_rfl) (by kernel_rfl) (by kernel_rfl) h

end Go.AM

/- oplog.Apply: the operations on a matrix of one's own. -/
namespace Go.AM
open Go.Proofs.Try

theorem part_om {r c : Nat} {g : Nat → Nat → Int} : part r c g r = om (table r c g) := by
  unfold part om table
  rw [List.map_map]
  apply List.map_congr_left
  intro k hk
  simp [List.mem_range.1 hk]

theorem build_own {r c : Nat} (hr : r ≤ 4294967296) (hc : c ≤ 4294967296) {f : FuncId} {fc : List D} {g : Nat → Nat → Int}
    (hf : ∀ i j : Nat, i < r → j < c → FnD prog f ([vi i, vi j] ++ fc.map dV) (eI (g i j)) []) :
    FnD prog 76 [vi r, vi c, .e (.sc (.dat (.fn (.func f) fc)))] (eMo r c) (oM (table r c g)) := by
  refine vc76o_ok r c f fc (R := OutM r c _) ?_
  unfold vc76o
  refine ⟨⟨by omega, by omega, by omega⟩, fun o t => ∃ i : Nat, t = (i : Int) ∧ i ≤ r ∧ o = part r c g i, fun _ t => ((r : Int) - t).toNat, ⟨0, rfl, by omega, ?_⟩, ?_⟩
  · unfold part
    rw [Int.toNat_natCast]
    have : (fun k => if k < 0 then row (tableR c (g k)) else ([] : List (List D))) = fun _ => [] := by funext k; simp
    rw [this, List.map_const']; simp
  rintro _ _ ⟨i, rfl, hi, rfl⟩
  have hlen : ∀ i, (part r c g i).length = r := fun i => by simp [part]
  refine ⟨fun h => ?_, fun h => ?_⟩
  · have hir : i < r := by simpa using h
    refine ⟨⟨by omega, by omega, by omega⟩, ⟨by omega, by rw [hlen]; omega⟩, fun o t => ∃ j : Nat, t = (j : Int) ∧ j ≤ c ∧ o = (part r c g i).set i (row (partR c (g i) j)), fun _ t => ((c : Int) - t).toNat, ⟨0, rfl, by omega, ?_⟩, ?_⟩
    · rw [Int.toNat_natCast, Int.toNat_natCast, partR_zero]
    rintro _ _ ⟨j, rfl, hj, rfl⟩
    refine ⟨fun h2 => ?_, fun h2 => ?_⟩
    · have hjc : j < c := by simpa using h2
      refine ⟨decide (g i j < 0), lim (dz (g i j)), ⟨by omega, by simp [hlen]; omega⟩, hf i j hir hjc, ⟨row (partR c (g i) j), by rw [Int.toNat_natCast]; simp [hlen, hir], by omega, by simp [row_length, partR]; omega⟩, ?_⟩
      rw [inc64 (by omega)]
      refine ⟨⟨j + 1, rfl, by omega, ?_⟩, by show ((c : Int) - ((j + 1 : Nat) : Int)).toNat < ((c : Int) - (j : Int)).toNat; omega⟩
      rw [Int.toNat_natCast, Int.toNat_natCast]
      have e1 : ((part r c g i).set i (row (partR c (g i) j))).modify i (fun q => q.set j [D.bool (decide (g i j < 0)), D.sl (lim (dz (g i j)))]) = (part r c g i).set i ((row (partR c (g i) j)).set j (cI (g i j))) := by
        apply List.ext_getElem?
        intro k
        rw [List.getElem?_modify]
        by_cases hk : i = k
        · subst hk; simp [hlen, hir]; rfl
        · simp [hk, List.getElem?_set_ne hk]
      rw [e1, partR_set c (g i) j hjc]
    · have hjc : j = c := by have : c ≤ j := by simpa using h2
                             omega
      subst hjc
      rw [inc64 (by omega)]
      refine ⟨⟨i + 1, rfl, by omega, ?_⟩, by show ((r : Int) - ((i + 1 : Nat) : Int)).toNat < ((r : Int) - (i : Int)).toNat; omega⟩
      rw [partR_all, part_set r j g i hir]
  · have hir : i = r := by have : r ≤ i := by simpa using h
                           omega
    subst hir
    exact outM part_om


theorem mscale_own {r c K : Nat} {a : List (List Int)} {k : Int} (ha : Mx r c a) (ka : BdM K a) (hk : k.natAbs ≤ 1329227995784915872903807060280344576) (hr : r ≤ 4294967296) (hc : c ≤ 4294967296) (hK : K ≤ 1329227995784915872903807060280344576) :
    FnD prog 63 [eM r c a, eI k] (eMo r c) (oM (table r c fun i j => el a i j * k)) := by
  refine vc63o_ok _ _ _ _ _ (R := OutM r c _) ?_
  unfold vc63o
  refine ⟨_, _, _, build_own hr hc (g := fun i j => el a i j * k) fun i j hi hj => ?_, outM rfl⟩
  refine vc112_ok _ _ _ _ _ _ _ (R := Out _) ?_
  unfold vc112
  obtain ⟨e1, e2, e3, e4⟩ := read_el ha hi hj
  have := mul_ok (x := k) (y := el a i j) (sz_le hk (Nat.le_refl _)) (sz_le (el_bd ha ka hi hj) hK)
  rw [Int.mul_comm] at this
  exact ⟨_, _, _, _, _, ⟨by omega, e4⟩, e1, ⟨by omega, e3⟩, e2, this, rfl, rfl⟩

theorem copied_own {r c K : Nat} {a : List (List Int)} (ha : Mx r c a) (ka : BdM K a) (hr : r ≤ 4294967296) (hc : c ≤ 4294967296) (hK : K ≤ 1329227995784915872903807060280344576) :
    FnD prog 97 [eM r c a] (eMo r c) (oM a) := by
  refine vc97_ok _ _ _ (R := OutM r c _) ?_
  unfold vc97
  refine ⟨_, _, _, _, _, of_ok 1 (by decide) (by decide), mscale_own ha ka (by decide) hr hc hK, outM ?_⟩
  congr 1
  refine Eq.trans (table_congr fun i j _ _ => ?_) (mx_table ha).symm
  rw [Int.mul_one]

/-- An operation as a value. -/
def oE (o : Opz) : V := vA [sD (dI o.k), sD (dI o.i), sD (dI o.j), sD (dB (decide (o.z < 0))), sD (dL (lim (digs o.z.natAbs)))]

/-- What an effect does to the matrix that it is handed. -/
def EffM (m : List (List Int)) : V → Heap → Prop := fun v h => v = .tup [] ∧ h = [some (.fwd (.ref 1)), some (.mat 2 (om m))]

theorem effM {m : List (List Int)} {o : List (List (List D))} (h : o = om m) : EffM m (.tup []) [some (.fwd (.ref 1)), some (.mat 2 o)] := by subst h; exact ⟨rfl, rfl⟩

theorem om_get {r c : Nat} {m : List (List Int)} (hm : Mx r c m) {i : Nat} (hi : i < r) : (om m)[i]? = some (row (m.getD i [])) := by
  have : i < m.length := by rw [hm.1]; exact hi
  simp [om, this]

theorem swap_ok {r c : Nat} {o : Opz} {m : List (List Int)} (h : vO r o = true) (hk : o.k = 1) (hm : Mx r c m) : FnG prog 138 [vR 0, oE o] [some (.mat 2 (om m))] (EffM (apO r c o m)) := by
  obtain ⟨hi, _⟩ := vO_ok h
  have hj := vO_j h (by omega)
  refine vc138_ok _ _ _ _ _ _ (R := EffM _) ?_
  unfold vc138
  have hl : (om m).length = r := by rw [om_length, hm.1]
  refine ⟨⟨by omega, by omega⟩, ⟨by omega, by omega⟩, rfl, rfl, effM ?_⟩
  rw [Int.toNat_natCast, Int.toNat_natCast]
  rw [mx_table hm]
  unfold swapR apO
  apply List.ext_getElem?
  intro k
  have hlen : (om (table r c (el m))).length = r := om_len
  have hg : ∀ a, a < r → (om (table r c (el m))).getD a [] = row (tableR c (el m a)) := fun a ha => by
    simp [om, table, ha]
  have hF : ∀ a, a < r → (om (table r c (opF o (el (table r c (el m))))))[a]? = some (row (tableR c (opF o (el (table r c (el m))) a))) := fun a ha => by
    simp [om, table, ha]
  have hE : ∀ a b, a < r → b < c → el (table r c (el m)) a b = el m a b := fun a b ha hb => el_table ha hb
  have hrow : ∀ {f g : Nat → Int}, (∀ b, b < c → f b = g b) → tableR c f = tableR c g := fun hfg => List.map_congr_left fun b hb => hfg b (List.mem_range.1 hb)
  by_cases hkr : k < r
  · rw [hF k hkr, hg _ hi, hg _ hj]
    by_cases e1 : o.j = k
    · subst e1
      rw [List.getElem?_set_self (by simp [hlen]; exact hj)]
      congr 2
      refine hrow fun b hb => ?_
      by_cases e2 : o.j = o.i
      · simp only [opF, hk, if_true, e2]; rw [hE _ _ hi hb]
      · simp only [opF, hk, if_true, if_neg e2]; rw [hE _ _ hi hb]
    · rw [List.getElem?_set_ne e1]
      by_cases e2 : o.i = k
      · subst e2
        rw [List.getElem?_set_self (by rw [hlen]; exact hi)]
        congr 2
        refine hrow fun b hb => ?_
        simp only [opF, hk, if_true]; rw [hE _ _ hj hb]
      · rw [List.getElem?_set_ne e2]
        have : (om (table r c (el m)))[k]? = some (row (tableR c (el m k))) := by simp [om, table, hkr]
        rw [this]
        congr 2
        refine hrow fun b hb => ?_
        simp only [opF, hk, if_true, if_neg (Ne.symm e2), if_neg (Ne.symm e1)]; rw [hE _ _ hkr hb]
  · rw [List.getElem?_eq_none (by simp [hlen]; omega), List.getElem?_eq_none (by rw [om_len]; omega)]

/-- A row under way: the first elements are done. -/
def rF (o : Opz) (f : Nat → Nat → Int) (t : Nat) (a b : Nat) : Int := if a = o.i ∧ b < t then opF o f a b else f a b

theorem rF_zero {r c : Nat} {o : Opz} {m : List (List Int)} (hm : Mx r c m) : om m = om (table r c (rF o (el m) 0)) := by
  congr 1
  refine Eq.trans (mx_table hm) (table_congr fun a b _ _ => ?_)
  simp [rF]

theorem rF_step {r c : Nat} {o : Opz} {f : Nat → Nat → Int} {t : Nat} (hi : o.i < r) (ht : t < c) : (om (table r c (rF o f t))).modify o.i (fun q => q.set t (cI (opF o f o.i t))) = om (table r c (rF o f (t + 1))) := by
  refine Eq.trans (om_set hi ht) ?_
  congr 1
  refine table_congr fun a b _ _ => ?_
  unfold rF
  by_cases h1 : a = o.i ∧ b = t
  · rw [if_pos h1, if_pos (by omega), h1.1, h1.2]
  · rw [if_neg h1]
    by_cases h2 : a = o.i ∧ b < t
    · rw [if_pos h2, if_pos (by omega)]
    · rw [if_neg h2, if_neg (by omega)]

theorem rF_all {r c : Nat} {o : Opz} {m : List (List Int)} (hk : o.k ≠ 1) : om (table r c (rF o (el m) c)) = om (apO r c o m) := by
  unfold apO
  congr 1
  refine table_congr fun a b _ hb => ?_
  unfold rF
  by_cases h : a = o.i
  · rw [if_pos ⟨h, hb⟩]
  · rw [if_neg (by omega)]
    unfold opF
    simp [hk, h]

theorem neg138_ok {r c : Nat} {o : Opz} {m : List (List Int)} (h : vO r o = true) (hk : o.k = 2) (hm : Mx r c m) (hc : c ≤ 4294967296) : FnG prog 139 [vR 0, oE o] [some (.mat 2 (om m))] (EffM (apO r c o m)) := by
  obtain ⟨hi, _⟩ := vO_ok h
  refine vc139_ok _ _ _ _ _ _ (R := EffM _) ?_
  unfold vc139
  have hl : (om m).length = r := by rw [om_length, hm.1]
  have hlen : ((om m).getD ((o.i : Int)).toNat ([] : List (List D))).length = c := by
    rw [Int.toNat_natCast, List.getD_eq_getElem?_getD, om_get hm hi]
    simp only [Option.getD_some, row_length]
    have h1 : o.i < m.length := by rw [hm.1]; exact hi
    have h3 : m.getD o.i [] = m[o.i] := by simp [h1]
    rw [h3]; exact hm.2 _ (List.getElem_mem _)
  rw [hlen]
  refine ⟨⟨by omega, by omega⟩, fun a t => ∃ n : Nat, t = (n : Int) ∧ n ≤ c ∧ a = om (table r c (rF o (el m) n)), fun _ t => ((c : Int) - t).toNat, ⟨0, rfl, by omega, rF_zero hm⟩, ?_⟩
  rintro _ _ ⟨n, rfl, hn, rfl⟩
  refine ⟨fun h2 => ?_, fun h2 => ?_⟩
  · have hnc : n < c := by simpa using h2
    have e : rF o (el m) n (o.i : Int).toNat (n : Int).toNat = el m o.i n := by rw [Int.toNat_natCast, Int.toNat_natCast]; unfold rF; rw [if_neg (by omega)]
    have e2 : opF o (el m) o.i n = - el m o.i n := by simp [opF, hk]
    refine ⟨_, _, om_in hi hnc, at2_om hi hnc, _, _, ⟨by omega, by rw [om_len]; omega⟩, neg_ok _, ?_⟩
    rw [e, ← e2, inc64 (by omega)]
    refine ⟨⟨n + 1, rfl, by omega, ?_⟩, by show ((c : Int) - ((n + 1 : Nat) : Int)).toNat < ((c : Int) - (n : Int)).toNat; omega⟩
    rw [Int.toNat_natCast, Int.toNat_natCast]
    exact rF_step hi hnc
  · have hnc : n = c := by have : c ≤ n := by simpa using h2
                           omega
    subst hnc
    exact effM (rF_all (by omega))

theorem add138_ok {r c K : Nat} {o : Opz} {m : List (List Int)} (h : vO r o = true) (hk : o.k = 3) (hm : Mx r c m) (km : BdM K m) (hz : o.z.natAbs ≤ 128) (hK : 129 * K ≤ 497323236409786642155382248146820840100456150797347717440463976893159497012533375533056)
    (hc : c ≤ 4294967296) : FnG prog 140 [vR 0, oE o] [some (.mat 2 (om m))] (EffM (apO r c o m)) := by
  obtain ⟨hi, _⟩ := vO_ok h
  have hj := vO_j h (by omega)
  have hne : o.i ≠ o.j := by
    rcases (vO_ok h).2 with h | h | h
    · omega
    · omega
    · exact h.2.2
  refine vc140_ok _ _ _ _ _ _ (R := EffM _) ?_
  unfold vc140
  have hl : (om m).length = r := by rw [om_length, hm.1]
  have hlen : ((om m).getD ((o.j : Int)).toNat ([] : List (List D))).length = c := by
    rw [Int.toNat_natCast, List.getD_eq_getElem?_getD, om_get hm hj]
    simp only [Option.getD_some, row_length]
    have h1 : o.j < m.length := by rw [hm.1]; exact hj
    have h3 : m.getD o.j [] = m[o.j] := by simp [h1]
    rw [h3]; exact hm.2 _ (List.getElem_mem _)
  rw [hlen]
  refine ⟨⟨by omega, by omega⟩, fun a t => ∃ n : Nat, t = (n : Int) ∧ n ≤ c ∧ a = om (table r c (rF o (el m) n)), fun _ t => ((c : Int) - t).toNat, ⟨0, rfl, by omega, rF_zero hm⟩, ?_⟩
  rintro _ _ ⟨n, rfl, hn, rfl⟩
  refine ⟨fun h2 => ?_, fun h2 => ?_⟩
  · have hnc : n < c := by simpa using h2
    have e : rF o (el m) n (o.i : Int).toNat (n : Int).toNat = el m o.i n := by rw [Int.toNat_natCast, Int.toNat_natCast]; unfold rF; rw [if_neg (by omega)]
    have e' : rF o (el m) n (o.j : Int).toNat (n : Int).toNat = el m o.j n := by rw [Int.toNat_natCast, Int.toNat_natCast]; unfold rF; rw [if_neg (by omega)]
    have e2 : opF o (el m) o.i n = el m o.i n + o.z * el m o.j n := by simp [opF, hk]
    have b1 := el_bd hm km hi hnc
    have b2 := el_bd hm km hj hnc
    have b3 := mul_natAbs_le hz b2
    have f1 := mul_ok (x := o.z) (y := el m o.j n) (sz_of (by omega)) (sz_of (by omega))
    have f2 := add_ok (x := el m o.i n) (y := o.z * el m o.j n) (sz_of (by omega)) (sz_of (by omega))
    rw [← e2] at f2
    refine ⟨_, _, om_in hj hnc, at2_om hj hnc, _, _, _, _, _, _, ⟨by omega, by rw [om_len]; omega⟩, om_in hi hnc, at2_om hi hnc, by rw [e']; exact f1, by rw [e]; exact f2, ?_⟩
    rw [inc64 (by omega)]
    refine ⟨⟨n + 1, rfl, by omega, ?_⟩, by show ((c : Int) - ((n + 1 : Nat) : Int)).toNat < ((c : Int) - (n : Int)).toNat; omega⟩
    rw [Int.toNat_natCast, Int.toNat_natCast]
    exact rF_step hi hnc
  · have hnc : n = c := by have : c ≤ n := by simpa using h2
                           omega
    subst hnc
    exact effM (rF_all (by omega))

end Go.AM

/- What functions of the program come to: group Od. Printed by vc.py. -/
set_option maxRecDepth 100000
set_option linter.unusedVariables false

namespace Go.AM
open Go.Proofs.Try

/- f93 torsion/torsionlaw18.add -/
def vc93 (i : Int) (j : Int) (k : Int) (R : V → Heap → Prop) : Prop :=
  ∃ (r0 : Bool) (r1 : List (List D)),
  (FnD prog 16 [(vD (dI k))] (vA [(sD (dB r0)), (sD (dL r1))]) []) ∧
  (R (vA [(sD (dI (3 : Int))), (sD (dI i)), (sD (dI j)), (sD (dB r0)), (sD (dL r1))]) [])

theorem vc93_ok (i : Int) (j : Int) (k : Int) {R : V → Heap → Prop} (h : vc93 i j k R) : FnG prog 93 [(vD (dI i)), (vD (dI j)), (vD (dI k))] [] R :=
  FnG.vcg hT func93 ntmps93 (.reg 1 [(0, Or.none, 0, 1)] [0, 1, 2, 6] [0] [] <| .exb fun r0 => .exl fun r1 => .reg 0 [(3, (Or.call (vA [(sD (dB r0)), (sD (dL r1))]) [] []), 0, 0)] [6] [0] [] <| .ret [])
    (by kernel_rfl) (by kernel_rfl) (by kernel_rfl) h

/- f94 torsion/torsionlaw18.swap -/
def vc94 (i : Int) (j : Int) (R : V → Heap → Prop) : Prop :=
  R (vA [(sD (dI (1 : Int))), (sD (dI i)), (sD (dI j)), (sD (dB false)), (sD (dL ([] : List (List D))))]) []

theorem vc94_ok (i : Int) (j : Int) {R : V → Heap → Prop} (h : vc94 i j R) : FnG prog 94 [(vD (dI i)), (vD (dI j))] [] R :=
  FnG.vcg hT func94 ntmps94 (.reg 1 [(0, Or.none, 0, 1)] [0, 1, 4] [0] [] <| .r1 [4] [0] <| .nrm [4] [0] <| .ret [])
    (by kernel_rfl) (by kernel_rfl) (by kernel_rfl) h

/- f95 torsion/torsionlaw18.negate -/
def vc95 (i : Int) (R : V → Heap → Prop) : Prop :=
  R (vA [(sD (dI (2 : Int))), (sD (dI i)), (sD (dI (0 : Int))), (sD (dB false)), (sD (dL ([] : List (List D))))]) []

theorem vc95_ok (i : Int) {R : V → Heap → Prop} (h : vc95 i R) : FnG prog 95 [(vD (dI i))] [] R :=
  FnG.vcg hT func95 ntmps95 (.reg 1 [(0, Or.none, 0, 1)] [0, 2] [0] [] <| .r1 [2] [0] <| .nrm [2] [0] <| .ret [])
    (by kernel_rfl) (by kernel_rfl) (by kernel_rfl) h

/- f96 torsion/oplog.Valid -/
def vc96 (l : List (List D)) (n : Int) (R : V → Heap → Prop) : Prop :=
  ∃ (r : Bool),
  (FnD prog 135 [(vD (dL l)), (vD (D.fn (.func 136) [(D.box [(dI n)])]))] (vD (dB r)) []) ∧
  (R (vD (dB (!r))) [])

theorem vc96_ok (l : List (List D)) (n : Int) {R : V → Heap → Prop} (h : vc96 l n R) : FnG prog 96 [(vD (dL l)), (vD (dI n))] [] R :=
  FnG.vcg hT func96 ntmps96 (.reg 1 [(0, Or.none, 0, 1)] [0, 3] [0] [] <| .frz [0] <| .exb fun r => .reg 0 [(2, (Or.call (vD (dB r)) [] []), 0, 0)] [4] [] [] <| .ret [])
    (by kernel_rfl) (by kernel_rfl) (by kernel_rfl) h

/- f101 torsion/oplog.empty -/
def vc101 (x0 : Int) (x1 : Int) (x2 : Int) (x3 : Bool) (x4 : List (List D)) (R : V → Heap → Prop) : Prop :=
  ((x0 == (3 : Int)) = true →
    ∃ (r : Int),
    (FnD prog 91 [(vA [(sD (dB x3)), (sD (dL x4))])] (vD (dI r)) []) ∧
    (R (vD (dB (r == (0 : Int)))) [])) ∧
  ((x0 == (3 : Int)) = false →
    R (vD (dB false)) [])

theorem vc101_ok (x0 : Int) (x1 : Int) (x2 : Int) (x3 : Bool) (x4 : List (List D)) {R : V → Heap → Prop} (h : vc101 x0 x1 x2 x3 x4 R) : FnG prog 101 [(vA [(sD (dI x0)), (sD (dI x1)), (sD (dI x2)), (sD (dB x3)), (sD (dL x4))])] [] R :=
  FnG.vcg hT func101 ntmps101 (.reg 1 [(0, Or.none, 0, 1)] [1] [0] [] <| .spl ((x0 == (3 : Int))) (.ex fun r => .reg 0 [(3, (Or.bool true), 0, 0), (6, (Or.call (vD (dI r)) [] []), 0, 0)] [2] [] [.old 0] <| .ret []) (.reg 0 [(3, (Or.bool false), 0, 0)] [2] [] [.old 0] <| .ret []))
    (by kernel_rfl) (by kernel_rfl) (by kernel_rfl) h

/- f102 torsion/oplog.joined -/
def vc102 (a0 : Int) (a1 : Int) (a2 : Int) (a3 : Bool) (a4 : List (List D)) (b0 : Int) (b1 : Int) (b2 : Int) (b3 : Bool) (b4 : List (List D)) (R : V → Heap → Prop) : Prop :=
  ((a0 != b0) = true →
    R (V.tup [(E.agg [(sD (dI (0 : Int))), (sD (dI (0 : Int))), (sD (dI (0 : Int))), (sD (dB false)), (sD (dL ([] : List (List D))))]), (eD (dB false))]) []) ∧
  ((a0 != b0) = false →
    ((a0 == (1 : Int)) = true →
      ((a1 == b1) = true →
        ((a2 == b2) = true →
          R (V.tup [(E.agg [(sD (dI (3 : Int))), (sD (dI (0 : Int))), (sD (dI (0 : Int))), (sD (dB false)), (sD (dL ([] : List (List D))))]), (eD (dB true))]) []) ∧
        ((a2 == b2) = false →
          ((a1 == b2) = true →
            R (V.tup [(E.agg [(sD (dI (3 : Int))), (sD (dI (0 : Int))), (sD (dI (0 : Int))), (sD (dB false)), (sD (dL ([] : List (List D))))]), (eD (dB (a2 == b1)))]) []) ∧
          ((a1 == b2) = false →
            R (V.tup [(E.agg [(sD (dI (3 : Int))), (sD (dI (0 : Int))), (sD (dI (0 : Int))), (sD (dB false)), (sD (dL ([] : List (List D))))]), (eD (dB false))]) []))) ∧
      ((a1 == b1) = false →
        ((a1 == b2) = true →
          R (V.tup [(E.agg [(sD (dI (3 : Int))), (sD (dI (0 : Int))), (sD (dI (0 : Int))), (sD (dB false)), (sD (dL ([] : List (List D))))]), (eD (dB (a2 == b1)))]) []) ∧
        ((a1 == b2) = false →
          R (V.tup [(E.agg [(sD (dI (3 : Int))), (sD (dI (0 : Int))), (sD (dI (0 : Int))), (sD (dB false)), (sD (dL ([] : List (List D))))]), (eD (dB false))]) []))) ∧
    ((a0 == (1 : Int)) = false →
      ((a0 == (2 : Int)) = true →
        R (V.tup [(E.agg [(sD (dI (3 : Int))), (sD (dI (0 : Int))), (sD (dI (0 : Int))), (sD (dB false)), (sD (dL ([] : List (List D))))]), (eD (dB (a1 == b1)))]) []) ∧
      ((a0 == (2 : Int)) = false →
        ∃ (r0 : Bool) (r1 : List (List D)),
        (FnD prog 106 [(vA [(sD (dB a3)), (sD (dL a4))]), (vA [(sD (dB b3)), (sD (dL b4))])] (vA [(sD (dB r0)), (sD (dL r1))]) []) ∧
        (((a1 == b1) = true →
          R (V.tup [(E.agg [(sD (dI a0)), (sD (dI a1)), (sD (dI a2)), (sD (dB r0)), (sD (dL r1))]), (eD (dB (a2 == b2)))]) []) ∧
        ((a1 == b1) = false →
          R (V.tup [(E.agg [(sD (dI a0)), (sD (dI a1)), (sD (dI a2)), (sD (dB r0)), (sD (dL r1))]), (eD (dB false))]) [])))))

theorem vc102_ok (a0 : Int) (a1 : Int) (a2 : Int) (a3 : Bool) (a4 : List (List D)) (b0 : Int) (b1 : Int) (b2 : Int) (b3 : Bool) (b4 : List (List D)) {R : V → Heap → Prop} (h : vc102 a0 a1 a2 a3 a4 b0 b1 b2 b3 b4 R) : FnG prog 102 [(vA [(sD (dI a0)), (sD (dI a1)), (sD (dI a2)), (sD (dB a3)), (sD (dL a4))]), (vA [(sD (dI b0)), (sD (dI b1)), (sD (dI b2)), (sD (dB b3)), (sD (dL b4))])] [] R :=
  FnG.vcg hT func102 ntmps102 (.reg 3 [(0, Or.none, 0, 1), (1, Or.none, 1, 1), (2, Or.none, 2, 1)] [2, 3, 4] [0, 1, 2] [] <| .reg 1 [(1, Or.none, 3, 1)] [2, 3, 4, 6] [0, 1, 2, 3] [] <| .r1 [2, 3, 4, 6, 8] [0, 1, 2, 3] <| .c2 (.r1 [4, 5] [2] <| .nrm [4, 5] [0] <| .ret []) (.r1 [2, 3, 4, 6, 15] [0, 1, 2, 3] <| .c2 (.spl ((a1 == b1)) (.spl ((a2 == b2)) (.drw 0 [(6, ((Or.bool true), 0, 0), []), (13, ((Or.bool true), 0, 0), []), (27, (Or.none, 0, 0), [2])] [4, 5] [2] [.old 1, .old 0] <| .nrm [4, 5] [0] <| .ret []) (.spl ((a1 == b2)) (.drw 0 [(6, ((Or.bool true), 0, 0), []), (13, ((Or.bool false), 0, 0), []), (19, ((Or.bool true), 0, 0), []), (27, (Or.none, 0, 0), [2])] [4, 5] [2] [.old 2, .old 1, .old 0] <| .nrm [4, 5] [0] <| .ret []) (.drw 0 [(6, ((Or.bool true), 0, 0), []), (13, ((Or.bool false), 0, 0), []), (19, ((Or.bool false), 0, 0), []), (27, (Or.none, 0, 0), [2])] [4, 5] [2] [.old 2, .old 1, .old 0] <| .nrm [4, 5] [0] <| .ret []))) (.spl ((a1 == b2)) (.drw 0 [(6, ((Or.bool false), 0, 0), []), (19, ((Or.bool true), 0, 0), []), (27, (Or.none, 0, 0), [2])] [4, 5] [2] [.old 1, .old 0] <| .nrm [4, 5] [0] <| .ret []) (.drw 0 [(6, ((Or.bool false), 0, 0), []), (19, ((Or.bool false), 0, 0), []), (27, (Or.none, 0, 0), [2])] [4, 5] [2] [.old 1, .old 0] <| .nrm [4, 5] [0] <| .ret []))) (.r1 [2, 3, 4, 6, 46] [0, 1, 2, 3] <| .c2 (.drw 0 [(6, (Or.none, 0, 0), [2])] [4, 5] [2] [] <| .nrm [4, 5] [0] <| .ret []) (.exb fun r0 => .exl fun r1 => .reg 0 [(4, (Or.call (vA [(sD (dB r0)), (sD (dL r1))]) [] []), 0, 0)] [2, 3, 4] [0, 1, 2] [] <| .spl ((a1 == b1)) (.drw 0 [(6, ((Or.bool true), 0, 0), []), (13, (Or.none, 0, 0), [2])] [4, 5] [2] [.old 0] <| .ret []) (.drw 0 [(6, ((Or.bool false), 0, 0), []), (13, (Or.none, 0, 0), [2])] [4, 5] [2] [.old 0] <| .ret [])))))
    (by kernel_rfl) (by kernel_rfl) (by kernel_rfl) h

/- f103 torsion/torsionref18.ValidOp -/
def vc103 (x0 : Int) (x1 : Int) (x2 : Int) (x3 : Bool) (x4 : List (List D)) (n : Int) (R : V → Heap → Prop) : Prop :=
  ∃ (r : Bool),
  (FnD prog 127 [(vA [(sD (dB x3)), (sD (dL x4))])] (vD (dB r)) []) ∧
  (((x0 == (1 : Int)) = true →
    ∃ (r1 : Bool),
    (FnD prog 142 [(vD (dI x1)), (vD (dI n))] (vD (dB r1)) []) ∧
    ((r1 = true →
      ∃ (r2 : Bool),
      (FnD prog 142 [(vD (dI x2)), (vD (dI n))] (vD (dB r2)) []) ∧
      ((r2 = true →
        ((x1 != x2) = true →
          (((x4.length : Int) == (0 : Int)) = true →
            R (vD (dB r)) []) ∧
          (((x4.length : Int) == (0 : Int)) = false →
            R (vD (dB false)) [])) ∧
        ((x1 != x2) = false →
          R (vD (dB false)) [])) ∧
      (r2 = false →
        R (vD (dB false)) []))) ∧
    (r1 = false →
      R (vD (dB false)) []))) ∧
  ((x0 == (1 : Int)) = false →
    ((x0 == (2 : Int)) = true →
      ∃ (r3 : Bool),
      (FnD prog 142 [(vD (dI x1)), (vD (dI n))] (vD (dB r3)) []) ∧
      ((r3 = true →
        ((x2 == (0 : Int)) = true →
          (((x4.length : Int) == (0 : Int)) = true →
            R (vD (dB r)) []) ∧
          (((x4.length : Int) == (0 : Int)) = false →
            R (vD (dB false)) [])) ∧
        ((x2 == (0 : Int)) = false →
          R (vD (dB false)) [])) ∧
      (r3 = false →
        R (vD (dB false)) []))) ∧
    ((x0 == (2 : Int)) = false →
      ((x0 == (3 : Int)) = true →
        ∃ (r4 : Bool),
        (FnD prog 142 [(vD (dI x1)), (vD (dI n))] (vD (dB r4)) []) ∧
        ((r4 = true →
          ∃ (r5 : Bool),
          (FnD prog 142 [(vD (dI x2)), (vD (dI n))] (vD (dB r5)) []) ∧
          ((r5 = true →
            ((x1 != x2) = true →
              R (vD (dB r)) []) ∧
            ((x1 != x2) = false →
              R (vD (dB false)) [])) ∧
          (r5 = false →
            R (vD (dB false)) []))) ∧
        (r4 = false →
          R (vD (dB false)) []))) ∧
      ((x0 == (3 : Int)) = false →
        R (vD (dB false)) []))))

theorem vc103_ok (x0 : Int) (x1 : Int) (x2 : Int) (x3 : Bool) (x4 : List (List D)) (n : Int) {R : V → Heap → Prop} (h : vc103 x0 x1 x2 x3 x4 n R) : FnG prog 103 [(vA [(sD (dI x0)), (sD (dI x1)), (sD (dI x2)), (sD (dB x3)), (sD (dL x4))]), (vD (dI n))] [] R :=
  FnG.vcg hT func103 ntmps103 (.reg 1 [(0, Or.none, 0, 1)] [1, 2] [0] [] <| .exb fun r => .reg 0 [(2, (Or.call (vD (dB r)) [] []), 0, 0)] [1, 2, 5] [0] [] <| .r1 [1, 2, 5, 10] [0] <| .r1 [1, 2, 5, 10, 11] [0] <| .c2 (.exb fun r1 => .ob (FnD prog 142 [(vD (dI x1)), (vD (dI n))] (vD (dB r1)) []) <| .spl r1 (.exb fun r2 => .ob (FnD prog 142 [(vD (dI x2)), (vD (dI n))] (vD (dB r2)) []) <| .spl r2 (.spl ((x1 != x2)) (.spl (((x4.length : Int) == (0 : Int))) (.reg 0 [(3, (Or.call (vD (dB r1)) [] []), 0, 0), (4, (Or.bool true), 0, 0), (8, (Or.call (vD (dB r2)) [] []), 0, 0), (10, (Or.bool true), 0, 0), (17, (Or.bool true), 0, 0), (24, (Or.bool true), 0, 0)] [4] [] [.old 5, .old 4, .old 3, .old 2, .old 1, .old 0] <| .ret []) (.reg 0 [(3, (Or.call (vD (dB r1)) [] []), 0, 0), (4, (Or.bool true), 0, 0), (8, (Or.call (vD (dB r2)) [] []), 0, 0), (10, (Or.bool true), 0, 0), (17, (Or.bool true), 0, 0), (24, (Or.bool false), 0, 0)] [4] [] [.old 5, .old 4, .old 3, .old 2, .old 1, .old 0] <| .ret [])) (.reg 0 [(3, (Or.call (vD (dB r1)) [] []), 0, 0), (4, (Or.bool true), 0, 0), (8, (Or.call (vD (dB r2)) [] []), 0, 0), (10, (Or.bool true), 0, 0), (17, (Or.bool false), 0, 0)] [4] [] [.old 4, .old 3, .old 2, .old 1, .old 0] <| .ret [])) (.reg 0 [(3, (Or.call (vD (dB r1)) [] []), 0, 0), (4, (Or.bool true), 0, 0), (8, (Or.call (vD (dB r2)) [] []), 0, 0), (10, (Or.bool false), 0, 0)] [4] [] [.old 3, .old 2, .old 1, .old 0] <| .ret [])) (.reg 0 [(3, (Or.call (vD (dB r1)) [] []), 0, 0), (4, (Or.bool false), 0, 0)] [4] [] [.old 1, .old 0] <| .ret [])) (.r1 [1, 2, 5, 10, 40] [0] <| .c2 (.exb fun r3 => .ob (FnD prog 142 [(vD (dI x1)), (vD (dI n))] (vD (dB r3)) []) <| .spl r3 (.spl ((x2 == (0 : Int))) (.spl (((x4.length : Int) == (0 : Int))) (.reg 0 [(3, (Or.call (vD (dB r3)) [] []), 0, 0), (4, (Or.bool true), 0, 0), (9, (Or.bool true), 0, 0), (16, (Or.bool true), 0, 0)] [4] [] [.old 3, .old 2, .old 1, .old 0] <| .ret []) (.reg 0 [(3, (Or.call (vD (dB r3)) [] []), 0, 0), (4, (Or.bool true), 0, 0), (9, (Or.bool true), 0, 0), (16, (Or.bool false), 0, 0)] [4] [] [.old 3, .old 2, .old 1, .old 0] <| .ret [])) (.reg 0 [(3, (Or.call (vD (dB r3)) [] []), 0, 0), (4, (Or.bool true), 0, 0), (9, (Or.bool false), 0, 0)] [4] [] [.old 2, .old 1, .old 0] <| .ret [])) (.reg 0 [(3, (Or.call (vD (dB r3)) [] []), 0, 0), (4, (Or.bool false), 0, 0)] [4] [] [.old 1, .old 0] <| .ret [])) (.r1 [1, 2, 5, 61] [0] <| .c2 (.exb fun r4 => .ob (FnD prog 142 [(vD (dI x1)), (vD (dI n))] (vD (dB r4)) []) <| .spl r4 (.exb fun r5 => .ob (FnD prog 142 [(vD (dI x2)), (vD (dI n))] (vD (dB r5)) []) <| .spl r5 (.spl ((x1 != x2)) (.reg 0 [(3, (Or.call (vD (dB r4)) [] []), 0, 0), (4, (Or.bool true), 0, 0), (8, (Or.call (vD (dB r5)) [] []), 0, 0), (10, (Or.bool true), 0, 0), (17, (Or.bool true), 0, 0)] [4] [] [.old 4, .old 3, .old 2, .old 1, .old 0] <| .ret []) (.reg 0 [(3, (Or.call (vD (dB r4)) [] []), 0, 0), (4, (Or.bool true), 0, 0), (8, (Or.call (vD (dB r5)) [] []), 0, 0), (10, (Or.bool true), 0, 0), (17, (Or.bool false), 0, 0)] [4] [] [.old 4, .old 3, .old 2, .old 1, .old 0] <| .ret [])) (.reg 0 [(3, (Or.call (vD (dB r4)) [] []), 0, 0), (4, (Or.bool true), 0, 0), (8, (Or.call (vD (dB r5)) [] []), 0, 0), (10, (Or.bool false), 0, 0)] [4] [] [.old 3, .old 2, .old 1, .old 0] <| .ret [])) (.reg 0 [(3, (Or.call (vD (dB r4)) [] []), 0, 0), (4, (Or.bool false), 0, 0)] [4] [] [.old 1, .old 0] <| .ret [])) (.r0 [4] <| .ret []))))
    (by kernel_rfl) (by kernel_rfl) (by kernel_rfl) h

/- f135 slices.ContainsFunc[[]torsion/api.Op,torsion/api.Op] -/
def vc135 (s : List (List D)) (f : FuncId) (fc : List D) (R : V → Heap → Prop) : Prop :=
  ∃ (r : Int),
  (FnD prog 153 [(vD (dL s)), (vD (D.fn (.func f) fc))] (vD (dI r)) []) ∧
  (R (vD (dB (decide (r ≥ (0 : Int))))) [])

theorem vc135_ok (s : List (List D)) (f : FuncId) (fc : List D) {R : V → Heap → Prop} (h : vc135 s f fc R) : FnG prog 135 [(vD (dL s)), (vD (D.fn (.func f) fc))] [] R :=
  FnG.vcg hT func135 ntmps135 (.r0 [0, 1] <| .ex fun r => .reg 0 [(2, (Or.call (vD (dI r)) [] []), 0, 0)] [4] [] [] <| .ret [])
    (by kernel_rfl) (by kernel_rfl) (by kernel_rfl) h

/- f136 torsion/oplog.Valid$1 -/
def vc136 (x0 : Int) (x1 : Int) (x2 : Int) (x3 : Bool) (x4 : List (List D)) (c0 : Int) (R : V → Heap → Prop) : Prop :=
  ∃ (r : Bool),
  (FnD prog 137 [(vA [(sD (dI x0)), (sD (dI x1)), (sD (dI x2)), (sD (dB x3)), (sD (dL x4))]), (vD (dI c0))] (vD (dB r)) []) ∧
  (R (vD (dB (!r))) [])

theorem vc136_ok (x0 : Int) (x1 : Int) (x2 : Int) (x3 : Bool) (x4 : List (List D)) (c0 : Int) {R : V → Heap → Prop} (h : vc136 x0 x1 x2 x3 x4 c0 R) : FnG prog 136 [(vA [(sD (dI x0)), (sD (dI x1)), (sD (dI x2)), (sD (dB x3)), (sD (dL x4))]), (vD (D.box [(dI c0)]))] [] R :=
  FnG.vcg hT func136 ntmps136 (.reg 1 [(0, Or.none, 0, 1)] [1, 2] [0] [] <| .exb fun r => .reg 0 [(2, (Or.call (vD (dB r)) [] []), 0, 0)] [3] [] [] <| .ret [])
    (by kernel_rfl) (by kernel_rfl) (by kernel_rfl) h

/- f137 torsion/oplog.valid -/
def vc137 (x0 : Int) (x1 : Int) (x2 : Int) (x3 : Bool) (x4 : List (List D)) (n : Int) (R : V → Heap → Prop) : Prop :=
  ∃ (r : Bool),
  (FnD prog 74 [(vA [(sD (dB x3)), (sD (dL x4))])] (vD (dB r)) []) ∧
  (((!r) = true →
    R (vD (dB false)) []) ∧
  ((!r) = false →
    ∃ (r1 : Bool),
    (FnD prog 154 [(vD (dI x1)), (dV (D.box [(dI n)]))] (vD (dB r1)) []) ∧
    (((!r1) = true →
      R (vD (dB false)) []) ∧
    ((!r1) = false →
      ((x0 == (2 : Int)) = true →
        ((x2 == (0 : Int)) = true →
          R (vD (dB ((x4.length : Int) == (0 : Int)))) []) ∧
        ((x2 == (0 : Int)) = false →
          R (vD (dB false)) [])) ∧
      ((x0 == (2 : Int)) = false →
        ((x0 == (1 : Int)) = true →
          ∃ (r2 : Bool),
          (FnD prog 154 [(vD (dI x2)), (dV (D.box [(dI n)]))] (vD (dB r2)) []) ∧
          ((r2 = true →
            ((x1 != x2) = true →
              R (vD (dB ((x4.length : Int) == (0 : Int)))) []) ∧
            ((x1 != x2) = false →
              R (vD (dB false)) [])) ∧
          (r2 = false →
            R (vD (dB false)) []))) ∧
        ((x0 == (1 : Int)) = false →
          ((x0 == (3 : Int)) = true →
            ∃ (r3 : Bool),
            (FnD prog 154 [(vD (dI x2)), (dV (D.box [(dI n)]))] (vD (dB r3)) []) ∧
            ((r3 = true →
              R (vD (dB (x1 != x2))) []) ∧
            (r3 = false →
              R (vD (dB false)) []))) ∧
          ((x0 == (3 : Int)) = false →
            R (vD (dB false)) [])))))))

theorem vc137_ok (x0 : Int) (x1 : Int) (x2 : Int) (x3 : Bool) (x4 : List (List D)) (n : Int) {R : V → Heap → Prop} (h : vc137 x0 x1 x2 x3 x4 n R) : FnG prog 137 [(vA [(sD (dI x0)), (sD (dI x1)), (sD (dI x2)), (sD (dB x3)), (sD (dL x4))]), (vD (dI n))] [] R :=
  FnG.vcg hT func137 ntmps137 (.reg 2 [(0, Or.none, 0, 1), (1, Or.none, 1, 1)] [2, 3] [0, 1] [] <| .r1 [2, 5] [0, 1] <| .r1 [2, 5, 6] [0, 1] <| .frz [1] <| .exb fun r => .ob (FnD prog 74 [(vA [(sD (dB x3)), (sD (dL x4))])] (vD (dB r)) []) <| .spl ((!r)) (.reg 0 [(2, (Or.call (vD (dB r)) [] []), 0, 0), (4, (Or.bool true), 0, 0)] [2, 5, 6, 13] [0] [.old 1, .old 0] <| .ct true none <| .r0 [4] <| .ret []) (.exb fun r1 => .reg 0 [(2, (Or.call (vD (dB r)) [] []), 0, 0), (4, (Or.bool false), 0, 0), (8, (Or.call (vD (dB r1)) [] []), 0, 0)] [2, 5, 6, 13] [0] [.old 1, .old 0] <| .c2 (.r0 [4] <| .ret []) (.r1 [2, 5, 6, 25] [0] <| .c2 (.spl ((x2 == (0 : Int))) (.reg 0 [(3, (Or.bool true), 0, 0)] [4] [] [.old 0] <| .ret []) (.reg 0 [(3, (Or.bool false), 0, 0)] [4] [] [.old 0] <| .ret [])) (.r1 [2, 5, 6, 35] [0] <| .c2 (.exb fun r2 => .ob (FnD prog 154 [(vD (dI x2)), (dV (D.box [(dI n)]))] (vD (dB r2)) []) <| .spl r2 (.spl ((x1 != x2)) (.reg 0 [(3, (Or.call (vD (dB r2)) [] []), 0, 0), (4, (Or.bool true), 0, 0), (11, (Or.bool true), 0, 0)] [4] [] [.old 2, .old 1, .old 0] <| .ret []) (.reg 0 [(3, (Or.call (vD (dB r2)) [] []), 0, 0), (4, (Or.bool true), 0, 0), (11, (Or.bool false), 0, 0)] [4] [] [.old 2, .old 1, .old 0] <| .ret [])) (.reg 0 [(3, (Or.call (vD (dB r2)) [] []), 0, 0), (4, (Or.bool false), 0, 0)] [4] [] [.old 1, .old 0] <| .ret [])) (.spl ((x0 == (3 : Int))) (.exb fun r3 => .ob (FnD prog 154 [(vD (dI x2)), (dV (D.box [(dI n)]))] (vD (dB r3)) []) <| .spl r3 (.reg 0 [(3, (Or.bool true), 0, 0), (7, (Or.call (vD (dB r3)) [] []), 0, 0), (9, (Or.bool true), 0, 0)] [4] [] [.old 2, .old 1, .old 0] <| .ret []) (.reg 0 [(3, (Or.bool true), 0, 0), (7, (Or.call (vD (dB r3)) [] []), 0, 0), (9, (Or.bool false), 0, 0)] [4] [] [.old 2, .old 1, .old 0] <| .ret [])) (.reg 0 [(3, (Or.bool false), 0, 0)] [4] [] [.old 0] <| .ret []))))))
    (by kernel_rfl) (by kernel_rfl) (by kernel_rfl) h

/- f142 torsion/torsionref18.inside -/
def vc142 (i : Int) (n : Int) (R : V → Heap → Prop) : Prop :=
  ((decide (i ≥ (0 : Int))) = true →
    R (vD (dB (decide (i < n)))) []) ∧
  ((decide (i ≥ (0 : Int))) = false →
    R (vD (dB false)) [])

theorem vc142_ok (i : Int) (n : Int) {R : V → Heap → Prop} (h : vc142 i n R) : FnG prog 142 [(vD (dI i)), (vD (dI n))] [] R :=
  FnG.vcg hT func142 ntmps142 (.r0 [0, 1] <| .spl ((decide (i ≥ (0 : Int)))) (.reg 0 [(2, (Or.bool true), 0, 0)] [4] [] [.old 0] <| .ret []) (.reg 0 [(2, (Or.bool false), 0, 0)] [4] [] [.old 0] <| .ret []))
    (by kernel_rfl) (by kernel_rfl) (by kernel_rfl) h

/- f153 slices.IndexFunc[[]torsion/api.Op,torsion/api.Op] -/
def vc153 (s : List (List D)) (f : FuncId) (fc : List D) (R : V → Heap → Prop) : Prop :=
  ∃ (J0 : Int → Prop) (μ0 : Int → Nat),
  J0 (0 : Int) ∧ ∀ (t8 : Int), J0 t8 →
    ((decide (t8 < (s.length : Int))) = true →
      ∃ (x0 : Int) (x1 : Int) (x2 : Int) (x3 : Bool) (x4 : List (List D)) (r : Bool),
      (0 ≤ t8 ∧ t8 < (s.length : Int)) ∧
      (s[(t8).toNat]? = some [(dI x0), (dI x1), (dI x2), (dB x3), (dL x4)]) ∧
      (FnD prog f ([(vA [(sD (dI x0)), (sD (dI x1)), (sD (dI x2)), (sD (dB x3)), (sD (dL x4))])] ++ fc.map dV) (vD (dB r)) []) ∧
      ((r = true →
        R (vD (dI t8)) []) ∧
      (r = false →
        J0 (IntKind.i64.wrap (t8 + (1 : Int))) ∧ μ0 (IntKind.i64.wrap (t8 + (1 : Int))) < μ0 t8))) ∧
    ((decide (t8 < (s.length : Int))) = false →
      R (vD (dI (-1 : Int))) [])

theorem vc153_ok (s : List (List D)) (f : FuncId) (fc : List D) {R : V → Heap → Prop} (h : vc153 s f fc R) : FnG prog 153 [(vD (dL s)), (vD (D.fn (.func f) fc))] [] R :=
  FnG.vcg hT func153 ntmps153 (.r0 [0, 1] <| .r0 [0, 1, 7, 8] <| .lp [.i] (fun t8 => ⟨[(0, (vD (dL s))), (1, (vD (D.fn (.func f) fc))), (7, (vD (dI (s.length : Int)))), (8, (vD (dI t8)))], [], 19⟩) [.i (0 : Int)] <| .fi fun t8 => .beg <| .r0 [0, 1, 7, 8, 9] <| .c2 (.r0 [0, 1, 5, 7, 8] <| .ex fun x0 => .ex fun x1 => .ex fun x2 => .exb fun x3 => .exl fun x4 => .exb fun r => .reg 0 [(4, (Or.cells [(dI x0), (dI x1), (dI x2), (dB x3), (dL x4)]), 0, 0), (5, (Or.call (vD (dB r)) [] []), 0, 0)] [0, 1, 5, 7, 8, 16] [] [] <| .c2 (.r0 [4] <| .ret []) (.r0 [0, 1, 7, 8] <| .bk 0 [.i (IntKind.i64.wrap (t8 + (1 : Int)))])) (.r0 [4] <| .ret []))
    (by kernel_rfl) (by kernel_rfl) (by kernel_rfl) h

/- f154 torsion/oplog.valid$1 -/
def vc154 (i : Int) (c0 : Int) (R : V → Heap → Prop) : Prop :=
  ((decide ((0 : Int) ≤ i)) = true →
    R (vD (dB (decide (i < c0)))) []) ∧
  ((decide ((0 : Int) ≤ i)) = false →
    R (vD (dB false)) [])

theorem vc154_ok (i : Int) (c0 : Int) {R : V → Heap → Prop} (h : vc154 i c0 R) : FnG prog 154 [(vD (dI i)), (vD (D.box [(dI c0)]))] [] R :=
  FnG.vcg hT func154 ntmps154 (.r0 [0, 1] <| .spl ((decide ((0 : Int) ≤ i))) (.reg 0 [(2, (Or.bool true), 0, 0)] [3] [] [.old 0] <| .ret []) (.reg 0 [(2, (Or.bool false), 0, 0)] [3] [] [.old 0] <| .ret []))
    (by kernel_rfl) (by kernel_rfl) (by kernel_rfl) h

/- f51 torsion/torsionref18.Valid -/
def vc51 (l : List (List D)) (n : Int) (R : V → Heap → Prop) : Prop :=
  ∃ (J0 : Int → Prop) (μ0 : Int → Nat),
  J0 (0 : Int) ∧ ∀ (i : Int), J0 i →
    ((decide (i < (l.length : Int))) = true →
      ∃ (x0 : Int) (x1 : Int) (x2 : Int) (x3 : Bool) (x4 : List (List D)) (r : Bool),
      (0 ≤ i ∧ i < (l.length : Int)) ∧
      (l[(i).toNat]? = some [(dI x0), (dI x1), (dI x2), (dB x3), (dL x4)]) ∧
      (FnD prog 103 [(vA [(sD (dI x0)), (sD (dI x1)), (sD (dI x2)), (sD (dB x3)), (sD (dL x4))]), (vD (dI n))] (vD (dB r)) []) ∧
      (((!r) = true →
        R (vD (dB false)) []) ∧
      ((!r) = false →
        J0 (IntKind.i64.wrap (i + (1 : Int))) ∧ μ0 (IntKind.i64.wrap (i + (1 : Int))) < μ0 i))) ∧
    ((decide (i < (l.length : Int))) = false →
      R (vD (dB true)) [])

theorem vc51_ok (l : List (List D)) (n : Int) {R : V → Heap → Prop} (h : vc51 l n R) : FnG prog 51 [(vD (dL l)), (vD (dI n))] [] R :=
  FnG.vcg hT func51 ntmps51 (.r0 [0, 1] <| .r0 [0, 1, 5] <| .lp [.i] (fun i => ⟨[(0, (vD (dL l))), (1, (vD (dI n))), (5, (vD (dI i)))], [], 19⟩) [.i (0 : Int)] <| .fi fun i => .beg <| .r0 [0, 1, 5, 9] <| .c2 (.ex fun x0 => .ex fun x1 => .ex fun x2 => .exb fun x3 => .exl fun x4 => .exb fun r => .reg 0 [(3, (Or.cells [(dI x0), (dI x1), (dI x2), (dB x3), (dL x4)]), 0, 0), (5, (Or.call (vD (dB r)) [] []), 0, 0)] [0, 1, 5, 18] [] [] <| .c2 (.r0 [4] <| .ret []) (.r0 [0, 1, 5] <| .bk 0 [.i (IntKind.i64.wrap (i + (1 : Int)))])) (.r0 [4] <| .ret []))
    (by kernel_rfl) (by kernel_rfl) (by kernel_rfl) h

/- f53 torsion/torsionref18.Invert -/
def vc53 (l : List (List D)) (R : V → Heap → Prop) : Prop :=
  ∃ (J0 : (List (List D)) → Int → Prop) (μ0 : (List (List D)) → Int → Nat),
  J0 ([] : List (List D)) (IntKind.i64.wrap ((l.length : Int) - (1 : Int))) ∧ ∀ (out : List (List D)) (i : Int), J0 out i →
    ((decide (i ≥ (0 : Int))) = true →
      ∃ (x0 : Int) (x1 : Int) (x2 : Int) (x3 : Bool) (x4 : List (List D)),
      (0 ≤ i ∧ i < (l.length : Int)) ∧
      (l[(i).toNat]? = some [(dI x0), (dI x1), (dI x2), (dB x3), (dL x4)]) ∧
      (∃ (r0 : Bool) (r1 : List (List D)),
      (FnD prog 104 [(vA [(sD (dB x3)), (sD (dL x4))])] (vA [(sD (dB r0)), (sD (dL r1))]) []) ∧
      (((out.length + ([[(dI x0), (dI x1), (dI x2), (dB r0), (dL r1)]] : List (List D)).length) * 56 ≤ 140737488355328) ∧
      (J0 (out ++ [[(dI x0), (dI x1), (dI x2), (dB r0), (dL r1)]]) (IntKind.i64.wrap (i - (1 : Int))) ∧ μ0 (out ++ [[(dI x0), (dI x1), (dI x2), (dB r0), (dL r1)]]) (IntKind.i64.wrap (i - (1 : Int))) < μ0 out i)))) ∧
    ((decide (i ≥ (0 : Int))) = false →
      R (vD (dL out)) [])

theorem vc53_ok (l : List (List D)) {R : V → Heap → Prop} (h : vc53 l R) : FnG prog 53 [(vD (dL l))] [] R :=
  FnG.vcg hT func53 ntmps53 (.r0 [0] <| .reg 1 [(0, Or.none, 0, 1)] [0, 3] [0] [] <| .r1 [0, 3, 4] [0] <| .lp [.l, .i] (fun out i => ⟨[(0, (vD (dL l))), (3, (vR 0)), (4, (vD (dI i)))], [(some (Obj.arr 5 out))], 27⟩) [.l ([] : List (List D)), .i (IntKind.i64.wrap ((l.length : Int) - (1 : Int)))] <| .fl fun out => .fi fun i => .beg <| .r1 [0, 3, 4, 11] [0] <| .c2 (.ex fun x0 => .ex fun x1 => .ex fun x2 => .exb fun x3 => .exl fun x4 => .reg 1 [(3, (Or.cells [(dI x0), (dI x1), (dI x2), (dB x3), (dL x4)]), 0, 0), (4, Or.none, 1, 1)] [0, 3, 4, 5] [0, 1] [] <| .exb fun r0 => .exl fun r1 => .reg 0 [(2, (Or.call (vA [(sD (dB r0)), (sD (dL r1))]) [] []), 0, 0)] [0, 3, 4, 5] [0, 1] [] <| .reg 2 [(2, Or.none, 2, 1), (3, Or.none, 3, 1)] [0, 3, 4] [3] [] <| .r1 [0, 3, 4] [0] <| .bk 0 [.l (out ++ [[(dI x0), (dI x1), (dI x2), (dB r0), (dL r1)]]), .i (IntKind.i64.wrap (i - (1 : Int)))]) (.r1 [2] [0] <| .frz [0] <| .ret []))
    (by kernel_rfl) (by kernel_rfl) (by kernel_rfl) h

/- f54 torsion/torsionref18.Same -/
def vc54 (a : List (List D)) (b : List (List D)) (R : V → Heap → Prop) : Prop :=
  (((a.length : Int) != (b.length : Int)) = true →
    R (vD (dB false)) []) ∧
  (((a.length : Int) != (b.length : Int)) = false →
    ∃ (J0 : Int → Prop) (μ0 : Int → Nat),
    J0 (0 : Int) ∧ ∀ (i : Int), J0 i →
      ((decide (i < (a.length : Int))) = true →
        ∃ (x0 : Int) (x1 : Int) (x2 : Int) (x3 : Bool) (x4 : List (List D)) (x01 : Int) (x11 : Int) (x21 : Int) (x31 : Bool) (x41 : List (List D)),
        (0 ≤ i ∧ i < (a.length : Int)) ∧
        (a[(i).toNat]? = some [(dI x0), (dI x1), (dI x2), (dB x3), (dL x4)]) ∧
        (0 ≤ i ∧ i < (b.length : Int)) ∧
        (b[(i).toNat]? = some [(dI x01), (dI x11), (dI x21), (dB x31), (dL x41)]) ∧
        (((x0 != x01) = true →
          R (vD (dB false)) []) ∧
        ((x0 != x01) = false →
          ((x1 != x11) = true →
            R (vD (dB false)) []) ∧
          ((x1 != x11) = false →
            ((x2 != x21) = true →
              R (vD (dB false)) []) ∧
            ((x2 != x21) = false →
              ∃ (r : Bool),
              (FnD prog 40 [(vA [(sD (dB x3)), (sD (dL x4))]), (vA [(sD (dB x31)), (sD (dL x41))])] (vD (dB r)) []) ∧
              (((!r) = true →
                R (vD (dB false)) []) ∧
              ((!r) = false →
                J0 (IntKind.i64.wrap (i + (1 : Int))) ∧ μ0 (IntKind.i64.wrap (i + (1 : Int))) < μ0 i))))))) ∧
      ((decide (i < (a.length : Int))) = false →
        R (vD (dB true)) []))

theorem vc54_ok (a : List (List D)) (b : List (List D)) {R : V → Heap → Prop} (h : vc54 a b R) : FnG prog 54 [(vD (dL a)), (vD (dL b))] [] R :=
  FnG.vcg hT func54 ntmps54 (.r0 [0, 1] <| .r0 [0, 1, 10] <| .c2 (.r0 [4] <| .ret []) (.r0 [0, 1, 5] <| .lp [.i] (fun i => ⟨[(0, (vD (dL a))), (1, (vD (dL b))), (5, (vD (dI i)))], [], 68⟩) [.i (0 : Int)] <| .fi fun i => .beg <| .r0 [0, 1, 5, 14] <| .c2 (.ex fun x0 => .ex fun x1 => .ex fun x2 => .exb fun x3 => .exl fun x4 => .ex fun x01 => .ex fun x11 => .ex fun x21 => .exb fun x31 => .exl fun x41 => .ob (0 ≤ i ∧ i < (a.length : Int)) <| .ob (a[(i).toNat]? = some [(dI x0), (dI x1), (dI x2), (dB x3), (dL x4)]) <| .ob (0 ≤ i ∧ i < (b.length : Int)) <| .ob (b[(i).toNat]? = some [(dI x01), (dI x11), (dI x21), (dB x31), (dL x41)]) <| .spl ((x0 != x01)) (.drw 0 [(4, ((Or.cells [(dI x0), (dI x1), (dI x2), (dB x3), (dL x4)]), 0, 0), []), (9, ((Or.cells [(dI x01), (dI x11), (dI x21), (dB x31), (dL x41)]), 0, 0), []), (11, ((Or.bool true), 0, 0), [])] [0, 1, 5, 67] [] [.old 4, .old 3, .old 2, .old 1, .old 0] <| .ct true none <| .r0 [4] <| .ret []) (.spl ((x1 != x11)) (.drw 0 [(4, ((Or.cells [(dI x0), (dI x1), (dI x2), (dB x3), (dL x4)]), 0, 0), []), (9, ((Or.cells [(dI x01), (dI x11), (dI x21), (dB x31), (dL x41)]), 0, 0), []), (11, ((Or.bool false), 0, 0), []), (16, ((Or.cells [(dI x0), (dI x1), (dI x2), (dB x3), (dL x4)]), 0, 0), []), (21, ((Or.cells [(dI x01), (dI x11), (dI x21), (dB x31), (dL x41)]), 0, 0), []), (24, ((Or.bool true), 0, 0), [])] [0, 1, 5, 67] [] [.old 5, .old 4, .old 3, .old 2, .old 1, .old 5, .old 4, .old 3, .old 2, .old 0] <| .ct true none <| .r0 [4] <| .ret []) (.spl ((x2 != x21)) (.drw 0 [(4, ((Or.cells [(dI x0), (dI x1), (dI x2), (dB x3), (dL x4)]), 0, 0), []), (9, ((Or.cells [(dI x01), (dI x11), (dI x21), (dB x31), (dL x41)]), 0, 0), []), (11, ((Or.bool false), 0, 0), []), (16, ((Or.cells [(dI x0), (dI x1), (dI x2), (dB x3), (dL x4)]), 0, 0), []), (21, ((Or.cells [(dI x01), (dI x11), (dI x21), (dB x31), (dL x41)]), 0, 0), []), (24, ((Or.bool false), 0, 0), []), (29, ((Or.cells [(dI x0), (dI x1), (dI x2), (dB x3), (dL x4)]), 0, 0), []), (34, ((Or.cells [(dI x01), (dI x11), (dI x21), (dB x31), (dL x41)]), 0, 0), []), (37, ((Or.bool true), 0, 0), [])] [0, 1, 5, 67] [] [.old 6, .old 5, .old 4, .old 3, .old 2, .old 6, .old 5, .old 4, .old 3, .old 1, .old 6, .old 5, .old 4, .old 3, .old 0] <| .ct true none <| .r0 [4] <| .ret []) (.exb fun r => .drw 0 [(4, ((Or.cells [(dI x0), (dI x1), (dI x2), (dB x3), (dL x4)]), 0, 0), []), (9, ((Or.cells [(dI x01), (dI x11), (dI x21), (dB x31), (dL x41)]), 0, 0), []), (11, ((Or.bool false), 0, 0), []), (16, ((Or.cells [(dI x0), (dI x1), (dI x2), (dB x3), (dL x4)]), 0, 0), []), (21, ((Or.cells [(dI x01), (dI x11), (dI x21), (dB x31), (dL x41)]), 0, 0), []), (24, ((Or.bool false), 0, 0), []), (29, ((Or.cells [(dI x0), (dI x1), (dI x2), (dB x3), (dL x4)]), 0, 0), []), (34, ((Or.cells [(dI x01), (dI x11), (dI x21), (dB x31), (dL x41)]), 0, 0), []), (37, ((Or.bool false), 0, 0), []), (42, ((Or.cells [(dI x0), (dI x1), (dI x2), (dB x3), (dL x4)]), 0, 0), []), (47, ((Or.cells [(dI x01), (dI x11), (dI x21), (dB x31), (dL x41)]), 0, 0), []), (48, ((Or.call (vD (dB r)) [] []), 0, 0), [])] [0, 1, 5, 67] [] [.old 6, .old 5, .old 4, .old 3, .old 2, .old 6, .old 5, .old 4, .old 3, .old 1, .old 6, .old 5, .old 4, .old 3, .old 0, .old 6, .old 5, .old 4, .old 3] <| .c2 (.r0 [4] <| .ret []) (.r0 [0, 1, 5] <| .bk 0 [.i (IntKind.i64.wrap (i + (1 : Int)))]))))) (.r0 [4] <| .ret [])))
    (by kernel_rfl) (by kernel_rfl) (by kernel_rfl) h

/- f44 torsion/torsionref18.Made -/
def vc44 (l : List (List D)) (n : Int) (m : Int) (R : V → Heap → Prop) : Prop :=
  ∃ (J0 : (List (List D)) → Int → Prop) (μ0 : (List (List D)) → Int → Nat),
  J0 ([] : List (List D)) (0 : Int) ∧ ∀ (out : List (List D)) (i : Int), J0 out i →
    ((decide (i < (l.length : Int))) = true →
      ((decide (i < m)) = true →
        ((decide (n > (0 : Int))) = true →
          ∃ (x0 : Int) (x1 : Int) (x2 : Int) (x3 : Int),
          (0 ≤ i ∧ i < (l.length : Int)) ∧
          (l[(i).toNat]? = some [(D.int .u8 x0), (D.int .u8 x1), (D.int .u8 x2), (D.int .i8 x3)]) ∧
          ((3 : Int) ≠ 0) ∧
          (n ≠ 0) ∧
          ((((IntKind.i64.wrap ((1 : Int) + (IntKind.i64.wrap (x0.tmod (3 : Int))))) == (3 : Int)) = true →
            ∃ (r0 : Bool) (r1 : List (List D)),
            (FnD prog 16 [(vD (dI (IntKind.i64.wrap x3)))] (vA [(sD (dB r0)), (sD (dL r1))]) []) ∧
            ((((IntKind.i64.wrap ((1 : Int) + (IntKind.i64.wrap (x0.tmod (3 : Int))))) == (2 : Int)) = true →
              ((out.length + ([[(dI (IntKind.i64.wrap ((1 : Int) + (IntKind.i64.wrap (x0.tmod (3 : Int)))))), (dI ((IntKind.i64.wrap x1).tmod n)), (dI (0 : Int)), (dB r0), (dL r1)]] : List (List D)).length) * 56 ≤ 140737488355328) ∧
              (J0 (out ++ [[(dI (IntKind.i64.wrap ((1 : Int) + (IntKind.i64.wrap (x0.tmod (3 : Int)))))), (dI ((IntKind.i64.wrap x1).tmod n)), (dI (0 : Int)), (dB r0), (dL r1)]]) (IntKind.i64.wrap (i + (1 : Int))) ∧ μ0 (out ++ [[(dI (IntKind.i64.wrap ((1 : Int) + (IntKind.i64.wrap (x0.tmod (3 : Int)))))), (dI ((IntKind.i64.wrap x1).tmod n)), (dI (0 : Int)), (dB r0), (dL r1)]]) (IntKind.i64.wrap (i + (1 : Int))) < μ0 out i)) ∧
            (((IntKind.i64.wrap ((1 : Int) + (IntKind.i64.wrap (x0.tmod (3 : Int))))) == (2 : Int)) = false →
              ((((IntKind.i64.wrap x1).tmod n) != ((IntKind.i64.wrap x2).tmod n)) = true →
                ((out.length + ([[(dI (IntKind.i64.wrap ((1 : Int) + (IntKind.i64.wrap (x0.tmod (3 : Int)))))), (dI ((IntKind.i64.wrap x1).tmod n)), (dI ((IntKind.i64.wrap x2).tmod n)), (dB r0), (dL r1)]] : List (List D)).length) * 56 ≤ 140737488355328) ∧
                (J0 (out ++ [[(dI (IntKind.i64.wrap ((1 : Int) + (IntKind.i64.wrap (x0.tmod (3 : Int)))))), (dI ((IntKind.i64.wrap x1).tmod n)), (dI ((IntKind.i64.wrap x2).tmod n)), (dB r0), (dL r1)]]) (IntKind.i64.wrap (i + (1 : Int))) ∧ μ0 (out ++ [[(dI (IntKind.i64.wrap ((1 : Int) + (IntKind.i64.wrap (x0.tmod (3 : Int)))))), (dI ((IntKind.i64.wrap x1).tmod n)), (dI ((IntKind.i64.wrap x2).tmod n)), (dB r0), (dL r1)]]) (IntKind.i64.wrap (i + (1 : Int))) < μ0 out i)) ∧
              ((((IntKind.i64.wrap x1).tmod n) != ((IntKind.i64.wrap x2).tmod n)) = false →
                J0 out (IntKind.i64.wrap (i + (1 : Int))) ∧ μ0 out (IntKind.i64.wrap (i + (1 : Int))) < μ0 out i)))) ∧
          (((IntKind.i64.wrap ((1 : Int) + (IntKind.i64.wrap (x0.tmod (3 : Int))))) == (3 : Int)) = false →
            (((IntKind.i64.wrap ((1 : Int) + (IntKind.i64.wrap (x0.tmod (3 : Int))))) == (2 : Int)) = true →
              ((out.length + ([[(dI (IntKind.i64.wrap ((1 : Int) + (IntKind.i64.wrap (x0.tmod (3 : Int)))))), (dI ((IntKind.i64.wrap x1).tmod n)), (dI (0 : Int)), (dB false), (dL ([] : List (List D)))]] : List (List D)).length) * 56 ≤ 140737488355328) ∧
              (J0 (out ++ [[(dI (IntKind.i64.wrap ((1 : Int) + (IntKind.i64.wrap (x0.tmod (3 : Int)))))), (dI ((IntKind.i64.wrap x1).tmod n)), (dI (0 : Int)), (dB false), (dL ([] : List (List D)))]]) (IntKind.i64.wrap (i + (1 : Int))) ∧ μ0 (out ++ [[(dI (IntKind.i64.wrap ((1 : Int) + (IntKind.i64.wrap (x0.tmod (3 : Int)))))), (dI ((IntKind.i64.wrap x1).tmod n)), (dI (0 : Int)), (dB false), (dL ([] : List (List D)))]]) (IntKind.i64.wrap (i + (1 : Int))) < μ0 out i)) ∧
            (((IntKind.i64.wrap ((1 : Int) + (IntKind.i64.wrap (x0.tmod (3 : Int))))) == (2 : Int)) = false →
              ((((IntKind.i64.wrap x1).tmod n) != ((IntKind.i64.wrap x2).tmod n)) = true →
                ((out.length + ([[(dI (IntKind.i64.wrap ((1 : Int) + (IntKind.i64.wrap (x0.tmod (3 : Int)))))), (dI ((IntKind.i64.wrap x1).tmod n)), (dI ((IntKind.i64.wrap x2).tmod n)), (dB false), (dL ([] : List (List D)))]] : List (List D)).length) * 56 ≤ 140737488355328) ∧
                (J0 (out ++ [[(dI (IntKind.i64.wrap ((1 : Int) + (IntKind.i64.wrap (x0.tmod (3 : Int)))))), (dI ((IntKind.i64.wrap x1).tmod n)), (dI ((IntKind.i64.wrap x2).tmod n)), (dB false), (dL ([] : List (List D)))]]) (IntKind.i64.wrap (i + (1 : Int))) ∧ μ0 (out ++ [[(dI (IntKind.i64.wrap ((1 : Int) + (IntKind.i64.wrap (x0.tmod (3 : Int)))))), (dI ((IntKind.i64.wrap x1).tmod n)), (dI ((IntKind.i64.wrap x2).tmod n)), (dB false), (dL ([] : List (List D)))]]) (IntKind.i64.wrap (i + (1 : Int))) < μ0 out i)) ∧
              ((((IntKind.i64.wrap x1).tmod n) != ((IntKind.i64.wrap x2).tmod n)) = false →
                J0 out (IntKind.i64.wrap (i + (1 : Int))) ∧ μ0 out (IntKind.i64.wrap (i + (1 : Int))) < μ0 out i))))) ∧
        ((decide (n > (0 : Int))) = false →
          R (vD (dL out)) [])) ∧
      ((decide (i < m)) = false →
        R (vD (dL out)) [])) ∧
    ((decide (i < (l.length : Int))) = false →
      R (vD (dL out)) [])

theorem vc44_ok (l : List (List D)) (n : Int) (m : Int) {R : V → Heap → Prop} (h : vc44 l n m R) : FnG prog 44 [(vD (dL l)), (vD (dI n)), (vD (dI m))] [] R :=
  FnG.vcg hT func44 ntmps44 (.r0 [0, 1, 2] <| .reg 1 [(0, Or.none, 0, 1)] [0, 1, 2, 7] [0] [] <| .r1 [0, 1, 2, 7, 8] [0] <| .lp [.l, .i] (fun out i => ⟨[(0, (vD (dL l))), (1, (vD (dI n))), (2, (vD (dI m))), (7, (vR 0)), (8, (vD (dI i)))], [(some (Obj.arr 5 out))], 81⟩) [.l ([] : List (List D)), .i (0 : Int)] <| .fl fun out => .fi fun i => .beg <| .spl ((decide (i < (l.length : Int)))) (.spl ((decide (i < m))) (.reg 0 [(4, (Or.bool true), 0, 0), (9, (Or.bool true), 0, 0)] [0, 1, 2, 7, 8, 23] [0] [.old 1, .old 0] <| .c2 (.ex fun x0 => .ex fun x1 => .ex fun x2 => .ex fun x3 => .drw 1 [(4, ((Or.cells [(D.int .u8 x0), (D.int .u8 x1), (D.int .u8 x2), (D.int .i8 x3)]), 0, 0), []), (12, ((Or.cells [(D.int .u8 x0), (D.int .u8 x1), (D.int .u8 x2), (D.int .i8 x3)]), 0, 0), []), (20, ((Or.cells [(D.int .u8 x0), (D.int .u8 x1), (D.int .u8 x2), (D.int .i8 x3)]), 0, 0), []), (25, (Or.none, 1, 1), [1]), (26, (Or.none, 0, 0), [1])] [0, 1, 2, 7, 8, 9] [0, 1] [.new, .new, .new, .old 2, .old 1, .new, .old 3, .old 2, .old 0] <| .r1 [0, 1, 2, 7, 8, 9, 53] [0, 1] <| .c2 (.exb fun r0 => .exl fun r1 => .reg 0 [(4, (Or.cells [(D.int .u8 x0), (D.int .u8 x1), (D.int .u8 x2), (D.int .i8 x3)]), 0, 0), (6, (Or.call (vA [(sD (dB r0)), (sD (dL r1))]) [] []), 0, 0)] [0, 1, 2, 7, 8, 9] [0, 1] [.old 4, .old 3] <| .r1 [0, 1, 2, 7, 8, 9, 64] [0, 1] <| .c2 (.r1 [0, 1, 2, 7, 8, 9] [0, 1] <| .reg 0 [(3, (Or.bool true), 0, 0)] [0, 1, 2, 7, 8, 9, 75] [0, 1] [.old 0] <| .ct true none <| .reg 2 [(2, Or.none, 2, 1), (3, Or.none, 3, 1)] [0, 1, 2, 7, 8] [3] [] <| .r1 [0, 1, 2, 7, 8] [0] <| .bk 0 [.l (out ++ [[(dI (IntKind.i64.wrap ((1 : Int) + (IntKind.i64.wrap (x0.tmod (3 : Int)))))), (dI ((IntKind.i64.wrap x1).tmod n)), (dI (0 : Int)), (dB r0), (dL r1)]]), .i (IntKind.i64.wrap (i + (1 : Int)))]) (.reg 0 [(3, (Or.bool false), 0, 0)] [0, 1, 2, 7, 8, 9, 75] [0, 1] [.old 0] <| .c2 (.reg 2 [(2, Or.none, 2, 1), (3, Or.none, 3, 1)] [0, 1, 2, 7, 8] [3] [] <| .r1 [0, 1, 2, 7, 8] [0] <| .bk 0 [.l (out ++ [[(dI (IntKind.i64.wrap ((1 : Int) + (IntKind.i64.wrap (x0.tmod (3 : Int)))))), (dI ((IntKind.i64.wrap x1).tmod n)), (dI ((IntKind.i64.wrap x2).tmod n)), (dB r0), (dL r1)]]), .i (IntKind.i64.wrap (i + (1 : Int)))]) (.r1 [0, 1, 2, 7, 8] [0] <| .bk 0 [.l out, .i (IntKind.i64.wrap (i + (1 : Int)))]))) (.r1 [0, 1, 2, 7, 8, 9, 64] [0, 1] <| .c2 (.r1 [0, 1, 2, 7, 8, 9] [0, 1] <| .reg 0 [(3, (Or.bool true), 0, 0)] [0, 1, 2, 7, 8, 9, 75] [0, 1] [.old 0] <| .ct true none <| .reg 2 [(2, Or.none, 2, 1), (3, Or.none, 3, 1)] [0, 1, 2, 7, 8] [3] [] <| .r1 [0, 1, 2, 7, 8] [0] <| .bk 0 [.l (out ++ [[(dI (IntKind.i64.wrap ((1 : Int) + (IntKind.i64.wrap (x0.tmod (3 : Int)))))), (dI ((IntKind.i64.wrap x1).tmod n)), (dI (0 : Int)), (dB false), (dL ([] : List (List D)))]]), .i (IntKind.i64.wrap (i + (1 : Int)))]) (.reg 0 [(3, (Or.bool false), 0, 0)] [0, 1, 2, 7, 8, 9, 75] [0, 1] [.old 0] <| .c2 (.reg 2 [(2, Or.none, 2, 1), (3, Or.none, 3, 1)] [0, 1, 2, 7, 8] [3] [] <| .r1 [0, 1, 2, 7, 8] [0] <| .bk 0 [.l (out ++ [[(dI (IntKind.i64.wrap ((1 : Int) + (IntKind.i64.wrap (x0.tmod (3 : Int)))))), (dI ((IntKind.i64.wrap x1).tmod n)), (dI ((IntKind.i64.wrap x2).tmod n)), (dB false), (dL ([] : List (List D)))]]), .i (IntKind.i64.wrap (i + (1 : Int)))]) (.r1 [0, 1, 2, 7, 8] [0] <| .bk 0 [.l out, .i (IntKind.i64.wrap (i + (1 : Int)))])))) (.r1 [6] [0] <| .frz [0] <| .ret [])) (.reg 0 [(4, (Or.bool true), 0, 0), (9, (Or.bool false), 0, 0)] [0, 1, 2, 7, 8, 23] [0] [.old 1, .old 0] <| .ct false none <| .r1 [6] [0] <| .frz [0] <| .ret [])) (.reg 0 [(4, (Or.bool false), 0, 0)] [0, 1, 2, 7, 8, 23] [0] [.old 0] <| .ct false none <| .r1 [6] [0] <| .frz [0] <| .ret []))
    (by kernel_rfl) (by kernel_rfl) (by kernel_rfl) h

/- f50 torsion/oplog.Compact -/
def vc50 (l : List (List D)) (R : V → Heap → Prop) : Prop :=
  ∃ (J0 : (List (List D)) → Int → Prop) (μ0 : (List (List D)) → Int → Nat),
  J0 ([] : List (List D)) (0 : Int) ∧ ∀ (out : List (List D)) (t11 : Int), J0 out t11 →
    ((decide (t11 < (l.length : Int))) = true →
      ∃ (x0 : Int) (x1 : Int) (x2 : Int) (x3 : Bool) (x4 : List (List D)),
      (0 ≤ t11 ∧ t11 < (l.length : Int)) ∧
      (l[(t11).toNat]? = some [(dI x0), (dI x1), (dI x2), (dB x3), (dL x4)]) ∧
      (∃ (r : Bool),
      (FnD prog 101 [(vA [(sD (dI x0)), (sD (dI x1)), (sD (dI x2)), (sD (dB x3)), (sD (dL x4))])] (vD (dB r)) []) ∧
      ((r = true →
        J0 out (IntKind.i64.wrap (t11 + (1 : Int))) ∧ μ0 out (IntKind.i64.wrap (t11 + (1 : Int))) < μ0 out t11) ∧
      (r = false →
        ((decide ((out.length : Int) > (0 : Int))) = true →
          ∃ (x01 : Int) (x11 : Int) (x21 : Int) (x31 : Bool) (x41 : List (List D)) (r0 : Int) (r1 : Int) (r2 : Int) (r3 : Bool) (r4 : List (List D)) (r5 : Bool),
          (0 ≤ (IntKind.i64.wrap ((out.length : Int) - (1 : Int))) ∧ (IntKind.i64.wrap ((out.length : Int) - (1 : Int))) < (out.length : Int)) ∧
          (out[((IntKind.i64.wrap ((out.length : Int) - (1 : Int)))).toNat]? = some [(dI x01), (dI x11), (dI x21), (dB x31), (dL x41)]) ∧
          (FnD prog 102 [(vA [(sD (dI x01)), (sD (dI x11)), (sD (dI x21)), (sD (dB x31)), (sD (dL x41))]), (vA [(sD (dI x0)), (sD (dI x1)), (sD (dI x2)), (sD (dB x3)), (sD (dL x4))])] (V.tup [(E.agg [(sD (dI r0)), (sD (dI r1)), (sD (dI r2)), (sD (dB r3)), (sD (dL r4))]), (eD (dB r5))]) []) ∧
          ((r5 = true →
            (0 ≤ (IntKind.i64.wrap ((out.length : Int) - (1 : Int))) ∧ (IntKind.i64.wrap ((out.length : Int) - (1 : Int))) ≤ (out.length : Int)) ∧
            (∃ (r6 : Bool),
            (FnD prog 101 [(vA [(sD (dI r0)), (sD (dI r1)), (sD (dI r2)), (sD (dB r3)), (sD (dL r4))])] (vD (dB r6)) []) ∧
            (((!r6) = true →
              (((out.take ((IntKind.i64.wrap ((out.length : Int) - (1 : Int)))).toNat).length + ([[(dI r0), (dI r1), (dI r2), (dB r3), (dL r4)]] : List (List D)).length) * 56 ≤ 140737488355328) ∧
              (J0 ((out.take ((IntKind.i64.wrap ((out.length : Int) - (1 : Int)))).toNat) ++ [[(dI r0), (dI r1), (dI r2), (dB r3), (dL r4)]]) (IntKind.i64.wrap (t11 + (1 : Int))) ∧ μ0 ((out.take ((IntKind.i64.wrap ((out.length : Int) - (1 : Int)))).toNat) ++ [[(dI r0), (dI r1), (dI r2), (dB r3), (dL r4)]]) (IntKind.i64.wrap (t11 + (1 : Int))) < μ0 out t11)) ∧
            ((!r6) = false →
              J0 (out.take ((IntKind.i64.wrap ((out.length : Int) - (1 : Int)))).toNat) (IntKind.i64.wrap (t11 + (1 : Int))) ∧ μ0 (out.take ((IntKind.i64.wrap ((out.length : Int) - (1 : Int)))).toNat) (IntKind.i64.wrap (t11 + (1 : Int))) < μ0 out t11)))) ∧
          (r5 = false →
            ∃ (r7 : Bool),
            (FnD prog 101 [(vA [(sD (dI x0)), (sD (dI x1)), (sD (dI x2)), (sD (dB x3)), (sD (dL x4))])] (vD (dB r7)) []) ∧
            (((!r7) = true →
              ((out.length + ([[(dI x0), (dI x1), (dI x2), (dB x3), (dL x4)]] : List (List D)).length) * 56 ≤ 140737488355328) ∧
              (J0 (out ++ [[(dI x0), (dI x1), (dI x2), (dB x3), (dL x4)]]) (IntKind.i64.wrap (t11 + (1 : Int))) ∧ μ0 (out ++ [[(dI x0), (dI x1), (dI x2), (dB x3), (dL x4)]]) (IntKind.i64.wrap (t11 + (1 : Int))) < μ0 out t11)) ∧
            ((!r7) = false →
              J0 out (IntKind.i64.wrap (t11 + (1 : Int))) ∧ μ0 out (IntKind.i64.wrap (t11 + (1 : Int))) < μ0 out t11))))) ∧
        ((decide ((out.length : Int) > (0 : Int))) = false →
          ∃ (r8 : Bool),
          (FnD prog 101 [(vA [(sD (dI x0)), (sD (dI x1)), (sD (dI x2)), (sD (dB x3)), (sD (dL x4))])] (vD (dB r8)) []) ∧
          (((!r8) = true →
            ((out.length + ([[(dI x0), (dI x1), (dI x2), (dB x3), (dL x4)]] : List (List D)).length) * 56 ≤ 140737488355328) ∧
            (J0 (out ++ [[(dI x0), (dI x1), (dI x2), (dB x3), (dL x4)]]) (IntKind.i64.wrap (t11 + (1 : Int))) ∧ μ0 (out ++ [[(dI x0), (dI x1), (dI x2), (dB x3), (dL x4)]]) (IntKind.i64.wrap (t11 + (1 : Int))) < μ0 out t11)) ∧
          ((!r8) = false →
            J0 out (IntKind.i64.wrap (t11 + (1 : Int))) ∧ μ0 out (IntKind.i64.wrap (t11 + (1 : Int))) < μ0 out t11))))))) ∧
    ((decide (t11 < (l.length : Int))) = false →
      R (vD (dL out)) [])

theorem vc50_ok (l : List (List D)) {R : V → Heap → Prop} (h : vc50 l R) : FnG prog 50 [(vD (dL l))] [] R :=
  FnG.vcg hT func50 ntmps50 (.r0 [0] <| .r0 [0, 3] <| .r0 [3, 9, 10, 11] <| .ado [3] [] 5 <| .lp [.l, .i] (fun out t11 => ⟨[(3, (vR 0)), (9, (vD (dL l))), (10, (vD (dI (l.length : Int)))), (11, (vD (dI t11)))], [(some (Obj.arr 5 out))], 46⟩) [.l ([] : List (List D)), .i (0 : Int)] <| .fl fun out => .fi fun t11 => .beg <| .r1 [3, 9, 10, 11, 12] [0] <| .c2 (.ex fun x0 => .ex fun x1 => .ex fun x2 => .exb fun x3 => .exl fun x4 => .reg 1 [(1, (Or.cells [(dI x0), (dI x1), (dI x2), (dB x3), (dL x4)]), 0, 0), (2, Or.none, 1, 1)] [3, 5, 9, 10, 11] [0, 1] [] <| .exb fun r => .reg 0 [(1, (Or.call (vD (dB r)) [] []), 0, 0)] [3, 5, 9, 10, 11, 16] [0, 1] [] <| .c2 (.r1 [3, 9, 10, 11] [0] <| .bk 0 [.l out, .i (IntKind.i64.wrap (t11 + (1 : Int)))]) (.r1 [3, 5, 6, 9, 10, 11] [0, 1] <| .r1 [3, 5, 6, 9, 10, 11, 20] [0, 1] <| .c2 (.ex fun x01 => .ex fun x11 => .ex fun x21 => .exb fun x31 => .exl fun x41 => .ex fun r0 => .ex fun r1 => .ex fun r2 => .exb fun r3 => .exl fun r4 => .exb fun r5 => .drw 1 [(4, ((Or.cells [(dI x01), (dI x11), (dI x21), (dB x31), (dL x41)]), 0, 0), []), (6, ((Or.call (V.tup [(E.agg [(sD (dI r0)), (sD (dI r1)), (sD (dI r2)), (sD (dB r3)), (sD (dL r4))]), (eD (dB r5))]) [] []), 0, 0), []), (10, (Or.none, 2, 1), [2]), (11, (Or.none, 0, 0), [2])] [3, 5, 6, 7, 8, 9, 10, 11] [0, 1, 2] [] <| .r1 [3, 5, 6, 7, 9, 10, 11, 31] [0, 1, 2] <| .c2 (.drw 1 [(3, (Or.none, 3, 1), [0, 3]), (6, (Or.none, 0, 0), [1])] [3, 5, 9, 10, 11] [3, 1] [] <| .exb fun r6 => .reg 0 [(1, (Or.call (vD (dB r6)) [] []), 0, 0)] [3, 5, 9, 10, 11, 39] [0, 1] [] <| .c2 (.reg 2 [(2, Or.none, 2, 1), (3, Or.none, 3, 1)] [3, 9, 10, 11] [3] [] <| .r1 [3, 9, 10, 11] [0] <| .bk 0 [.l ((out.take ((IntKind.i64.wrap ((out.length : Int) - (1 : Int)))).toNat) ++ [[(dI r0), (dI r1), (dI r2), (dB r3), (dL r4)]]), .i (IntKind.i64.wrap (t11 + (1 : Int)))]) (.r1 [3, 9, 10, 11] [0] <| .bk 0 [.l (out.take ((IntKind.i64.wrap ((out.length : Int) - (1 : Int)))).toNat), .i (IntKind.i64.wrap (t11 + (1 : Int)))])) (.exb fun r7 => .reg 0 [(1, (Or.call (vD (dB r7)) [] []), 0, 0)] [3, 5, 9, 10, 11, 39] [0, 1] [] <| .c2 (.reg 2 [(2, Or.none, 2, 1), (3, Or.none, 3, 1)] [3, 9, 10, 11] [3] [] <| .r1 [3, 9, 10, 11] [0] <| .bk 0 [.l (out ++ [[(dI x0), (dI x1), (dI x2), (dB x3), (dL x4)]]), .i (IntKind.i64.wrap (t11 + (1 : Int)))]) (.r1 [3, 9, 10, 11] [0] <| .bk 0 [.l out, .i (IntKind.i64.wrap (t11 + (1 : Int)))]))) (.exb fun r8 => .reg 0 [(1, (Or.call (vD (dB r8)) [] []), 0, 0)] [3, 5, 9, 10, 11, 39] [0, 1] [] <| .c2 (.reg 2 [(2, Or.none, 2, 1), (3, Or.none, 3, 1)] [3, 9, 10, 11] [3] [] <| .r1 [3, 9, 10, 11] [0] <| .bk 0 [.l (out ++ [[(dI x0), (dI x1), (dI x2), (dB x3), (dL x4)]]), .i (IntKind.i64.wrap (t11 + (1 : Int)))]) (.r1 [3, 9, 10, 11] [0] <| .bk 0 [.l out, .i (IntKind.i64.wrap (t11 + (1 : Int)))])))) (.r1 [2] [0] <| .frz [0] <| .ret []))
    (by kernel_rfl) (by kernel_rfl) (by kernel_rfl) h

/- f46 torsion/oplog.Undo -/
def vc46 (l : List (List D)) (a0 : Int) (a1 : Int) (a2 : List (List D)) (R : V → Heap → Prop) : Prop :=
  ∃ (r : Bool),
  (FnD prog 96 [(vD (dL l)), (vD (dI a0))] (vD (dB r)) []) ∧
  (((!r) = true →
    R (V.tup [(E.agg [(sD (dI (0 : Int))), (sD (dI (0 : Int))), (sD (dL ([] : List (List D))))]), (eD (dI (180 : Int)))]) []) ∧
  ((!r) = false →
    ∃ (r1 : List (List D)) (r0 : Int) (r11 : Int) (r2 : List (List D)) (r3 : Int),
    (FnD prog 48 [(vD (dL l))] (vD (dL r1)) []) ∧
    (FnD prog 45 [(vD (dL r1)), (vA [(sD (dI a0)), (sD (dI a1)), (sD (dL a2))])] (V.tup [(E.agg [(sD (dI r0)), (sD (dI r11)), (sD (dL r2))]), (eD (dI r3))]) []) ∧
    (R (V.tup [(E.agg [(sD (dI r0)), (sD (dI r11)), (sD (dL r2))]), (eD (dI r3))]) [])))

theorem vc46_ok (l : List (List D)) (a0 : Int) (a1 : Int) (a2 : List (List D)) {R : V → Heap → Prop} (h : vc46 l a0 a1 a2 R) : FnG prog 46 [(vD (dL l)), (vA [(sD (dI a0)), (sD (dI a1)), (sD (dL a2))])] [] R :=
  FnG.vcg hT func46 ntmps46 (.reg 2 [(0, Or.none, 0, 1), (1, Or.none, 1, 1)] [0, 3, 4] [0, 1] [] <| .exb fun r => .reg 0 [(3, (Or.call (vD (dB r)) [] []), 0, 0)] [0, 3, 4, 10] [0, 1] [] <| .c2 (.r1 [4, 5] [1] <| .nrm [4, 5] [0] <| .ret []) (.exl fun r1 => .ex fun r0 => .ex fun r11 => .exl fun r2 => .ex fun r3 => .drw 0 [(1, ((Or.call (vD (dL r1)) [] []), 0, 0), []), (3, ((Or.call (V.tup [(E.agg [(sD (dI r0)), (sD (dI r11)), (sD (dL r2))]), (eD (dI r3))]) [] []), 0, 0), []), (6, (Or.none, 0, 0), [1])] [4, 5] [1] [] <| .ret []))
    (by kernel_rfl) (by kernel_rfl) (by kernel_rfl) h

/- f47 torsion/oplog.Matrix -/
def vc47 (l : List (List D)) (n : Int) (R : V → Heap → Prop) : Prop :=
  ((decide (n < (0 : Int))) = true →
    R (V.tup [(E.agg [(sD (dI (0 : Int))), (sD (dI (0 : Int))), (sD (dL ([] : List (List D))))]), (eD (dI (1 : Int)))]) []) ∧
  ((decide (n < (0 : Int))) = false →
    ((decide (n > (64 : Int))) = true →
      R (V.tup [(E.agg [(sD (dI (0 : Int))), (sD (dI (0 : Int))), (sD (dL ([] : List (List D))))]), (eD (dI (1 : Int)))]) []) ∧
    ((decide (n > (64 : Int))) = false →
      ∃ (r0 : Int) (r1 : Int) (r2 : List (List D)) (r01 : Int) (r11 : Int) (r21 : List (List D)) (r : Int),
      (FnD prog 56 [(vD (dI n))] (vA [(sD (dI r0)), (sD (dI r1)), (sD (dL r2))]) []) ∧
      (FnD prog 45 [(vD (dL l)), (vA [(sD (dI r0)), (sD (dI r1)), (sD (dL r2))])] (V.tup [(E.agg [(sD (dI r01)), (sD (dI r11)), (sD (dL r21))]), (eD (dI r))]) []) ∧
      (R (V.tup [(E.agg [(sD (dI r01)), (sD (dI r11)), (sD (dL r21))]), (eD (dI r))]) [])))

theorem vc47_ok (l : List (List D)) (n : Int) {R : V → Heap → Prop} (h : vc47 l n R) : FnG prog 47 [(vD (dL l)), (vD (dI n))] [] R :=
  FnG.vcg hT func47 ntmps47 (.reg 1 [(0, Or.none, 0, 1)] [0, 1, 4] [0] [] <| .spl ((decide (n < (0 : Int)))) (.reg 0 [(2, (Or.bool true), 0, 0)] [0, 1, 4, 11] [0] [.old 0] <| .ct true none <| .r1 [4, 5] [0] <| .nrm [4, 5] [0] <| .ret []) (.reg 0 [(2, (Or.bool false), 0, 0)] [0, 1, 4, 11] [0] [.old 0] <| .c2 (.r1 [4, 5] [0] <| .nrm [4, 5] [0] <| .ret []) (.ex fun r0 => .ex fun r1 => .exl fun r2 => .ex fun r01 => .ex fun r11 => .exl fun r21 => .ex fun r => .reg 0 [(2, (Or.call (vA [(sD (dI r0)), (sD (dI r1)), (sD (dL r2))]) [] []), 0, 0), (3, (Or.call (V.tup [(E.agg [(sD (dI r01)), (sD (dI r11)), (sD (dL r21))]), (eD (dI r))]) [] []), 0, 0)] [4, 5] [0] [] <| .ret [])))
    (by kernel_rfl) (by kernel_rfl) (by kernel_rfl) h

/- f52 torsion/torsionref18.Matrix -/
def vc52 (l : List (List D)) (n : Int) (R : V → Heap → Prop) : Prop :=
  ((decide (n < (0 : Int))) = true →
    R (V.tup [(E.agg [(sD (dI (0 : Int))), (sD (dI (0 : Int))), (sD (dL ([] : List (List D))))]), (eD (dI (1 : Int)))]) []) ∧
  ((decide (n < (0 : Int))) = false →
    ((decide (n > (64 : Int))) = true →
      R (V.tup [(E.agg [(sD (dI (0 : Int))), (sD (dI (0 : Int))), (sD (dL ([] : List (List D))))]), (eD (dI (1 : Int)))]) []) ∧
    ((decide (n > (64 : Int))) = false →
      ∃ (r0 : Int) (r1 : Int) (r2 : List (List D)) (r01 : Int) (r11 : Int) (r21 : List (List D)) (r : Int),
      (FnD prog 49 [(vD (dI n))] (vA [(sD (dI r0)), (sD (dI r1)), (sD (dL r2))]) []) ∧
      (FnD prog 68 [(vD (dL l)), (vA [(sD (dI r0)), (sD (dI r1)), (sD (dL r2))])] (V.tup [(E.agg [(sD (dI r01)), (sD (dI r11)), (sD (dL r21))]), (eD (dI r))]) []) ∧
      (R (V.tup [(E.agg [(sD (dI r01)), (sD (dI r11)), (sD (dL r21))]), (eD (dI r))]) [])))

theorem vc52_ok (l : List (List D)) (n : Int) {R : V → Heap → Prop} (h : vc52 l n R) : FnG prog 52 [(vD (dL l)), (vD (dI n))] [] R :=
  FnG.vcg hT func52 ntmps52 (.reg 1 [(0, Or.none, 0, 1)] [0, 1, 4] [0] [] <| .spl ((decide (n < (0 : Int)))) (.reg 0 [(2, (Or.bool true), 0, 0)] [0, 1, 4, 11] [0] [.old 0] <| .ct true none <| .r1 [4, 5] [0] <| .nrm [4, 5] [0] <| .ret []) (.reg 0 [(2, (Or.bool false), 0, 0)] [0, 1, 4, 11] [0] [.old 0] <| .c2 (.r1 [4, 5] [0] <| .nrm [4, 5] [0] <| .ret []) (.ex fun r0 => .ex fun r1 => .exl fun r2 => .ex fun r01 => .ex fun r11 => .exl fun r21 => .ex fun r => .reg 0 [(2, (Or.call (vA [(sD (dI r0)), (sD (dI r1)), (sD (dL r2))]) [] []), 0, 0), (3, (Or.call (V.tup [(E.agg [(sD (dI r01)), (sD (dI r11)), (sD (dL r21))]), (eD (dI r))]) [] []), 0, 0)] [4, 5] [0] [] <| .ret [])))
    (by kernel_rfl) (by kernel_rfl) (by kernel_rfl) h

end Go.AM

/- slices.Backward's iterator (f141): it calls yield with the elements from the last to the first. -/
set_option maxRecDepth 100000
set_option linter.unusedVariables false
namespace Go.AM
open Go.Proofs.Try

/-- The iterator's slots between two rounds. -/
abbrev bkT (l : Nat) (L : List (List D)) (i : Int) : List (Nat × V) := [(0, vD (.fn (.yield l) [])), (1, vD (.box [.sl L])), (3, vD (dI i))]

def iOf : Value → Int
  | .int _ n => n
  | _ => 0

/-- What a slice of data yields, from its end. -/
def bkX (L : List (List D)) (k : Nat) : V := .e (.agg ((L[L.length - 1 - k]?.getD []).map .dat))

theorem iOf_ok {w : World} {I : Nat → Prop} {v : Value} {k : IntKind} {n : Int} (h : Reads w I v (.int k n)) : iOf v = n := by
  cases h; rfl

theorem rel_dats {w : World} {I : Nat → Prop} {M M' : Mem} {v : Value} {ds : List D} (h : RelV w I M v (.e (.agg (ds.map .dat)))) : RelV w I M' v (.e (.agg (ds.map .dat))) := by
  obtain ⟨cs, rfl, h1, h2⟩ := h
  refine ⟨cs, rfl, h1, fun i v s hv hs => ?_⟩
  have h3 := h2 i v s hv hs
  simp only [List.getElem?_map, Option.map_eq_some_iff] at hs
  obtain ⟨d, _, rfl⟩ := hs
  exact h3

set_option maxHeartbeats 1000000 in
theorem back_stops (L : List (List D)) (hl : L.length ≤ 9223372036854775807) (hL : ∀ x ∈ L, ∃ d0 d1 d2 d3 d4, x = [d0, d1, d2, d3, d4]) :
    Stops prog 141 [vD (.box [.sl L])] L.length (fun k => vD (dI ((L.length : Int) - 1 - k))) (bkX L) := by
  intro l J hJs hJe hY I0 M0 W0 lb hJ0 hlb n
  obtain ⟨h, hS⟩ := hJs _ _ _ _ hJ0
  have hargs : (#[Value.func (.yield l) #[] #[]] ++ lb.toArray) = (Value.func (.yield l) #[] #[] :: lb).toArray := by simp
  rw [hargs]
  refine callsIn_of_wp func141 rfl trivial ?_
  have hs0 := Sim.start (fn := f141) ntmps141 (args := [vD (.fn (.yield l) []), vD (.box [.sl L])]) (by simp) hS.data (vs := Value.func (.yield l) #[] #[] :: lb)
    ⟨by simpa using hlb.1, fun i v x hv hx => by
      cases i with
      | zero =>
        simp only [List.getElem?_cons_zero, Option.some.injEq] at hv hx
        subst hv; subst hx
        exact Reads.fn (.yield l) [] [] rfl (fun i v d h => by simp at h)
      | succ i => exact hlb.2 i v x (by simpa using hv) (by simpa using hx)⟩
  have noE : ∀ {M : Mem} {h : Heap} {I I' : Nat → Prop} {w w' : World} {M' : Mem} {h' : Heap}, (∀ b, ¬ fpAll M h b) → Nw0 0 M h I w M' h' I' w' → Ext (fun _ => False) I w I' w' := fun hf n => n.ext.mono fun b hb => hf b hb
  have no0 : ∀ b, ¬ fpAll [] [] b := fun b ⟨o, ho⟩ => by simp [fpAt] at ho
  -- region 0
  refine wpIn_seq (wpIn_mono (Does.regV hT (n0 := 0) [0, 1, 3] [] (σ' := ⟨bkT l L (IntKind.i64.wrap ((L.length : Int) - 1)), [], 19⟩) (cnt := 0) (ins := [o0, o0, o0, o0]) (obs := []) (by kernel_rfl) rfl rfl (by kernel_rfl) trivial none n I0 [] _ W0 hs0) ?_)
  rintro e a1 W1 ⟨rfl, I1, M1, s1, n1⟩
  rw [w64 (by omega) (by omega)] at s1
  have hJ1 : J 0 I1 M0 W1 := hJe _ _ _ _ _ _ hJ0 (noE no0 n1) fun b hb => (s1.imm b hb).1
  refine wpIn_block ?_
  refine wpIn_loop (fun a W => ∃ k I M M', k ≤ L.length ∧ J k I M W ∧ Sim I M' ⟨bkT l L ((L.length : Int) - 1 - k), [], 19⟩ a W) (fun a _ => (iOf (a.tmps.getD 3 undef) + 1).toNat) ⟨0, I1, M0, M1, Nat.zero_le _, hJ1, by simpa using s1⟩ ?_
  rintro a2 W2 ⟨k, I2, M2, M2', hk, hJ2, s2⟩
  have s2' : Sim I2 [] ⟨bkT l L ((L.length : Int) - 1 - k), [], 19⟩ a2 W2 := by
    obtain ⟨h, hS⟩ := hJs _ _ _ _ hJ2
    refine { toSimH := hS.data, tm := fun i v hv => ?_, size := s2.size, defers := s2.defers }
    have := s2.tm i v hv
    simp only [bkT, List.mem_cons, Prod.mk.injEq, List.not_mem_nil, or_false] at hv
    rcases hv with ⟨rfl, rfl⟩ | ⟨rfl, rfl⟩ | ⟨rfl, rfl⟩ <;> exact this
  have hm2 : iOf (a2.tmps.getD 3 undef) = (L.length : Int) - 1 - k := iOf_ok (s2.tm 3 (vD (dI ((L.length : Int) - 1 - k))) (by simp))
  -- region 1
  refine wpIn_seq (wpIn_seq (wpIn_mono (Does.regV hT (n0 := 0) [0, 1, 3, 8] [] (σ' := ⟨[(0, vD (.fn (.yield l) [])), (1, vD (.box [.sl L])), (3, vD (dI ((L.length : Int) - 1 - k))), (8, vD (dB (decide ((L.length : Int) - 1 - k ≥ 0))))], [], 19⟩) (cnt := 0) (ins := [o0, o0]) (obs := []) (by kernel_rfl) rfl rfl (by kernel_rfl) trivial none n I2 [] _ W2 s2') ?_))
  rintro e a3 W3 ⟨rfl, I3, M3, s3, n3⟩
  have hJ3 : J k I3 M2 W3 := hJe _ _ _ _ _ _ hJ2 (noE no0 n3) fun b hb => (s3.imm b hb).1
  refine wpIn_cond_split (t := decide ((L.length : Int) - 1 - k ≥ 0)) ?_ ?_ ?_
  · have h8 : Reads W3 I3 (a3.tmps.getD 8 undef) (.bool (decide ((L.length : Int) - 1 - k ≥ 0))) := s3.tm 8 (vD (dB (decide ((L.length : Int) - 1 - k ≥ 0)))) (by simp)
    show a3.tmps.getD 8 undef = _
    generalize a3.tmps.getD 8 undef = z at h8
    cases h8; rfl
  · intro hc
    simp only [decide_eq_true_eq] at hc
    refine wpIn_skip ?_
    have hkl : L.length - 1 - k < L.length := by omega
    obtain ⟨d0, d1, d2, d3, d4, hd⟩ := hL _ (List.getElem_mem hkl)
    have hd' : L[((L.length : Int) - 1 - k).toNat]? = some [d0, d1, d2, d3, d4] := by
      rw [show ((L.length : Int) - 1 - k).toNat = L.length - 1 - k by omega, List.getElem?_eq_getElem hkl, hd]
    have hx : bkX L k = vA [sD d0, sD d1, sD d2, sD d3, sD d4] := by
      simp only [bkX, List.getElem?_eq_getElem hkl, Option.getD_some, hd]; rfl
    refine wpIn_seq (wpIn_block (wpIn_seq ?_))
    refine wpIn_region (xpart_ok (k := 0) (c := 6) (rest := [6, 7]) hT (ins := [o0, o0, o0, o0, o0, (Or.cells [d0, d1, d2, d3, d4], 0, 0)]) (live := [0, 1, 3, 11, 12, 16])
      (σ' := ⟨[(0, vD (.fn (.yield l) [])), (1, vD (.box [.sl L])), (3, vD (dI ((L.length : Int) - 1 - k))), (11, vD (.fn (.yield l) [])), (12, vD (dI ((L.length : Int) - 1 - k))), (16, vA [sD d0, sD d1, sD d2, sD d3, sD d4])], [], 19⟩)
      (obs := [0 ≤ (L.length : Int) - 1 - k ∧ (L.length : Int) - 1 - k < (L.length : Int), L[((L.length : Int) - 1 - k).toNat]? = some [d0, d1, d2, d3, d4]]) (by kernel_rfl) ⟨⟨by omega, by omega⟩, hd', trivial⟩ s3 ?_)
    intro a4 W4 I4 M4 s4 n4
    have hJ4 : J k I4 M2 W4 := hJe _ _ _ _ _ _ hJ3 (noE (fun b ⟨o, ho⟩ => by simp [fpAt] at ho) n4) fun b hb => (s4.imm b hb).1
    have h11 : a4.eval (.tmp 11) = .func (.yield l) #[] #[] := by
      have h : Reads W4 I4 (a4.tmps.getD 11 undef) (.fn (.yield l) []) := s4.tm 11 (vD (.fn (.yield l) [])) (by simp)
      show a4.tmps.getD 11 undef = _
      generalize a4.tmps.getD 11 undef = z at h
      cases h with
      | fn _ cs _ hl _ =>
        have : cs = [] := List.length_eq_zero_iff.1 (by simpa using hl)
        subst this; rfl
    have r12 : RelV W4 I4 M4 (a4.tmps.getD 12 undef) (vD (dI ((L.length : Int) - 1 - k))) := s4.tm 12 _ (by simp)
    have r16 : RelV W4 I4 M4 (a4.tmps.getD 16 undef) (vA [sD d0, sD d1, sD d2, sD d3, sD d4]) := s4.tm 16 _ (by simp)
    refine wpOpsIn_one rfl rfl (wpIn_yield (args := #[a4.tmps.getD 12 undef, a4.tmps.getD 16 undef]) rfl rfl h11 (by simp [Act.eval]) (hY k I4 M2 W4 _ _ (by omega) hJ4 (toData_ok r12 rfl) (by rw [hx]; exact rel_dats (ds := [d0, d1, d2, d3, d4]) r16)) ?_)
    rintro e W5 ⟨rfl, I5, M5, hJ5, hk5⟩
    refine ⟨rfl, ?_⟩
    obtain ⟨h5, hS5⟩ := hJs _ _ _ _ hJ5
    have s5 : Sim I5 [] ⟨[(0, vD (.fn (.yield l) [])), (1, vD (.box [.sl L])), (3, vD (dI ((L.length : Int) - 1 - k))), (17, vD (dB true))], [], 19⟩ (a4.put (some 17) (.bool true)) W5 := by
      have hsz : a4.tmps.size = 19 := s4.size
      refine { toSimH := hS5.data, tm := fun i v hv => ?_, size := by simp [Act.put, hsz], defers := s4.defers }
      have old : ∀ i v d, (i, vD d) ∈ [(0, vD (.fn (.yield l) [])), (1, vD (.box [.sl L])), (3, vD (dI ((L.length : Int) - 1 - k)))] → v = vD d → RelV W5 I5 [] (a4.tmps.getD i undef) v := fun i v d hm hv => by
        subst hv
        have h : Reads W4 I4 (a4.tmps.getD i undef) d := s4.tm i (vD d) (by
          simp only [List.mem_cons, Prod.mk.injEq, List.not_mem_nil, or_false] at hm ⊢
          rcases hm with h | h | h <;> simp [h])
        exact Reads.mono h (fun b hb => (hk5 b hb).2) (fun b hb => (hk5 b hb).1)
      simp only [List.mem_cons, Prod.mk.injEq, List.not_mem_nil, or_false] at hv
      have hne : ∀ i, i ≠ 17 → (a4.put (some 17) (.bool true)).tmps.getD i undef = a4.tmps.getD i undef := fun i hi => by
        simp [Act.put, Array.getD_eq_getD_getElem?, Ne.symm hi]
      rcases hv with ⟨rfl, rfl⟩ | ⟨rfl, rfl⟩ | ⟨rfl, rfl⟩ | ⟨rfl, rfl⟩
      · rw [hne 0 (by simp)]; exact old 0 _ _ (by simp) rfl
      · rw [hne 1 (by simp)]; exact old 1 _ _ (by simp) rfl
      · rw [hne 3 (by simp)]; exact old 3 _ _ (by simp) rfl
      · have : (a4.put (some 17) (.bool true)).tmps.getD 17 undef = .bool true := by
          simp [Act.put, Array.getD_eq_getD_getElem?, hsz]
        rw [this]; exact Reads.bool true
    refine xpart_ok (k := 7) (c := 1) (rest := []) hT (ins := [o0]) (live := [0, 1, 3, 18]) (σ' := ⟨[(0, vD (.fn (.yield l) [])), (1, vD (.box [.sl L])), (3, vD (dI ((L.length : Int) - 1 - k))), (18, vD (dB (!true)))], [], 19⟩)
      (obs := []) (by kernel_rfl) trivial s5 ?_
    intro a6 W6 I6 M6 s6 n6
    have hJ6 : J (k + 1) I6 M5 W6 := hJe _ _ _ _ _ _ hJ5 (noE no0 n6) fun b hb => (s6.imm b hb).1
    show Code.wpIn _ _ _ _ _ _ _
    refine wpIn_cond_false ?_ (wpIn_skip ?_)
    · have h8 : Reads W6 I6 (a6.tmps.getD 18 undef) (.bool false) := s6.tm 18 (vD (dB (!true))) (by simp)
      show a6.tmps.getD 18 undef = _
      generalize a6.tmps.getD 18 undef = z at h8
      cases h8; rfl
    -- region 2
    refine wpIn_mono (Does.regV hT (n0 := 0) [0, 1, 3] [] (σ' := ⟨bkT l L (IntKind.i64.wrap ((L.length : Int) - 1 - k - 1)), [], 19⟩) (cnt := 0) (ins := [o0, o0, o0]) (obs := []) (by kernel_rfl) rfl rfl (by kernel_rfl) trivial none n I6 _ _ W6 s6) ?_
    rintro e a7 W7 ⟨rfl, I7, M7, s7, n7⟩
    rw [w64 (by omega) (by omega)] at s7
    have hJ7 : J (k + 1) I7 M5 W7 := hJe _ _ _ _ _ _ hJ6 (noE (fun b ⟨o, ho⟩ => by simp [fpAt] at ho) n7) fun b hb => (s7.imm b hb).1
    refine ⟨⟨k + 1, I7, M5, M7, by omega, hJ7, by rw [show (L.length : Int) - 1 - ((k + 1 : Nat) : Int) = (L.length : Int) - 1 - k - 1 by omega]; exact s7⟩, ?_⟩
    have hm7 : iOf (a7.tmps.getD 3 undef) = (L.length : Int) - 1 - k - 1 := iOf_ok (s7.tm 3 (vD (dI ((L.length : Int) - 1 - k - 1))) (by simp))
    rw [hm7, hm2]; omega
  · intro hc
    simp only [decide_eq_false_iff_not] at hc
    obtain rfl : k = L.length := by omega
    refine wpIn_exit ?_
    exact ⟨s3.defers, .tuple #[], results_none rfl _ _ _, ⟨_, rfl⟩, I3, M2, hJ3⟩

end Go.AM

/- oplog.Invert (f48): the list, from its end, each with its coefficient negated. -/
set_option maxRecDepth 100000
set_option linter.unusedVariables false
namespace Go.AM
open Go.Proofs.Try

def vc99 (s : List (List D)) (R : V → Heap → Prop) : Prop :=
  R (vD (D.fn (.func 141) [(D.box [(dL s)])])) []

theorem vc99_ok (s : List (List D)) {R : V → Heap → Prop} (h : vc99 s R) : FnG prog 99 [(vD (dL s))] [] R :=
  FnG.vcg hT func99 ntmps99 (.reg 1 [(0, Or.none, 0, 1)] [1] [0] [] <| .r1 [2] [0] <| .frz [0] <| .ret [])
    (by kernel_rfl) (by kernel_rfl) (by kernel_rfl) h

theorem back_ok (s : List (List D)) : FnD prog 99 [vD (dL s)] (vD (D.fn (.func 141) [D.box [dL s]])) [] := vc99_ok s ⟨rfl, rfl⟩

/-- The list so far. -/
def invK (neg : List D → List D) (L : List (List D)) (k : Nat) : List (List D) := (L.reverse.take k).map neg

theorem invK_succ (neg : List D → List D) {L : List (List D)} {k : Nat} (hk : k < L.length) {x : List D} (hx : L[L.length - 1 - k]? = some x) : invK neg L (k + 1) = invK neg L k ++ [neg x] := by
  have h1 : L.reverse[k]? = some x := by rw [List.getElem?_reverse hk]; exact hx
  rw [invK, List.take_add_one, h1]
  simp [invK]

/-- An operation and its inverse. -/
def NegOK (neg : List D → List D) (x : List D) : Prop :=
  ∃ (i0 i1 i2 : Int) (s : Bool) (m : List (List D)) (s' : Bool) (m' : List (List D)), x = [dI i0, dI i1, dI i2, dB s, dL m] ∧ neg x = [dI i0, dI i1, dI i2, dB s', dL m'] ∧
    FnD prog 100 [vA [sD (dB s), sD (dL m)]] (vA [sD (dB s'), sD (dL m')]) []

abbrev ivT : List (Nat × V) := [(3, vP 0 0)]
abbrev ivH (l : List (List D)) : Heap := [some (.box [.ref 1]), some (.arr 5 l)]

set_option maxHeartbeats 1000000 in
theorem invert_ok (L : List (List D)) (hl : L.length * 56 ≤ 140737488355328) (neg : List D → List D) (hL : ∀ x ∈ L, NegOK neg x) : FnD prog 48 [vD (dL L)] (vD (dL (L.reverse.map neg))) [] := by
  refine ⟨⟨f48, func48, rfl, by kernel_rfl⟩, fun I M w vs s hr => ?_⟩
  refine (callsIn_wide (n := 0)).1 (callsIn_of_wp_marks func48 rfl trivial ?_)
  have s0 := Sim.start (fn := f48) ntmps48 (args := [vD (dL L)]) (by simp) s hr
  -- regions 0, 1; the nil list is taken for a list of its own
  refine wpIn_seq (wpIn_mono (Does.regV hT (n0 := 0) [0] [] (σ' := ⟨[(0, vD (dL L))], [], 19⟩) (cnt := 0) (ins := [o0]) (obs := []) (by kernel_rfl) rfl rfl (by kernel_rfl) trivial none 0 I M _ w s0) ?_)
  rintro e a1 w1 ⟨rfl, I1, M1, s1, n1⟩
  refine wpIn_seq (wpIn_mono ((Does.regV hT (n0 := 0) [0, 3] [0] (σ' := ⟨[(0, vD (dL L)), (3, vP 0 0)], [some (.box [sD (.raw nilS)])], 19⟩) (cnt := 1) (ins := [(Or.none, 0, 1)]) (obs := []) (by kernel_rfl) rfl rfl (by kernel_rfl) trivial).wk
    (σ2 := ⟨[(0, vD (dL L)), (3, vP 0 0)], ivH [], 19⟩) (xadopt_ok (sl := []) (bx := [0]) (z := 5) (by kernel_rfl)) none 0 I1 M1 a1 w1 s1) ?_)
  rintro e a2 w2 ⟨rfl, I2, M2, s2, n2⟩
  refine wpIn_seq (wpIn_seq (wpIn_mono (Does.regV hT (n0 := 0) [3, 7] [0, 1] (σ' := ⟨[(3, vP 0 0), (7, vD (D.fn (.func 141) [D.box [dL L]]))], ivH [], 19⟩) (cnt := 0) (ins := [o0, (Or.call (vD (D.fn (.func 141) [D.box [dL L]])) [] [], 0, 0)])
    (obs := [FnD prog 99 [vD (dL L)] (vD (D.fn (.func 141) [D.box [dL L]])) []]) (by kernel_rfl) rfl rfl (by kernel_rfl) ⟨back_ok L, trivial⟩ none 0 I2 M2 a2 w2 s2) ?_))
  rintro e a3 w3 ⟨rfl, I3, M3, s3, n3⟩
  refine wpIn_block ?_
  refine wpIn_rf s3 (kb := 141) (cds := [D.box [dL L]]) rfl (Go.Proofs.enters_of func141 rfl rfl) (back_stops L (by omega) fun x hx => ?_) (n1 := 1) (t := ivT) ?_ ⟨by simp, by simp, by simp⟩ (fun k => ivH (invK neg L k)) rfl
    (fun k => ⟨[(3, vP 0 0), (5, vP 2 0)], ivH (invK neg L k) ++ [some (.box ((L[L.length - 1 - k]?.getD []).map .dat))], 19⟩) ?_ ?_ ?_
  · obtain ⟨d0, d1, d2, s, m, _, _, rfl, _⟩ := hL x hx
    exact ⟨_, _, _, _, _, rfl⟩
  · intro p hp
    simp only [ivT, List.mem_cons, List.not_mem_nil, or_false] at hp
    subst hp
    exact ⟨by simp, rfl, by simp, by simp⟩
  · -- the round's variable
    intro k hk
    have hkl : L.length - 1 - k < L.length := by omega
    obtain ⟨d0, d1, d2, s, m, s', m', hd, hn, hc⟩ := hL _ (List.getElem_mem hkl)
    have hx : bkX L k = vA [sD (dI d0), sD (dI d1), sD (dI d2), sD (dB s), sD (dL m)] := by
      simp only [bkX, List.getElem?_eq_getElem hkl, Option.getD_some, hd]; rfl
    simp only [List.getElem?_eq_getElem hkl, Option.getD_some, hd, hx]
    exact Does.regV hT [3, 5] [0, 1, 2] (cnt := 1) (ins := [(Or.none, 2, 1), o0]) (obs := []) (by kernel_rfl) rfl rfl (by kernel_rfl) trivial
  · -- the round
    intro k hk
    have hkl : L.length - 1 - k < L.length := by omega
    obtain ⟨d0, d1, d2, s, m, s', m', hd, hn, hc⟩ := hL _ (List.getElem_mem hkl)
    have hk1 : invK neg L (k + 1) = invK neg L k ++ [[dI d0, dI d1, dI d2, dB s', dL m']] := by
      rw [invK_succ neg hk (List.getElem?_eq_getElem hkl), hd, ← hn, hd]
    have hlen : ((invK neg L k).length + ([[dI d0, dI d1, dI d2, dB s', dL m']] : List (List D)).length) * 56 ≤ 140737488355328 := by
      simp only [invK, List.length_map, List.length_take, List.length_reverse, List.length_cons, List.length_nil]; omega
    simp only [List.getElem?_eq_getElem hkl, Option.getD_some, hd, hk1]
    refine ⟨ivT, Does.block (Does.seq (σ1 := ⟨[(3, vP 0 0), (5, vP 2 0)], ivH (invK neg L k) ++ [some (.box [sD (dI d0), sD (dI d1), sD (dI d2), sD (dB s'), sD (dL m')])], 19⟩)
      (Does.regV hT [3, 5] [0, 1, 2] (cnt := 0) (ins := [o0, o0, (Or.call (vA [sD (dB s'), sD (dL m')]) [] [], 0, 0), o0, o0]) (obs := [FnD prog 100 [vA [sD (dB s), sD (dL m)]] (vA [sD (dB s'), sD (dL m')]) []]) (by kernel_rfl) rfl rfl (by kernel_rfl) ⟨hc, trivial⟩)
      (Does.regV hT [3] [0, 4] (cnt := 2) (ins := [o0, o0, (Or.none, 3, 1), (Or.none, 4, 1), o0]) (obs := [((invK neg L k).length + ([[dI d0, dI d1, dI d2, dB s', dL m']] : List (List D)).length) * 56 ≤ 140737488355328]) (by kernel_rfl) rfl rfl (by kernel_rfl) ⟨hlen, trivial⟩))⟩
  · -- behind the loop
    intro D W I' M' sW hD hiD hfD hsz nW
    have hfin : ivH (invK neg L L.length) = ivH (L.reverse.map neg) := by simp [invK, List.take_of_length_le]
    simp only [hfin] at sW hfD nW
    have hDlt : D < W.heap.size := (Array.getElem?_eq_some_iff.1 hD).1
    have e : ({ a3 with defers := { target := .collected D, args := #[] } :: a3.defers } : Act) = { a3 with defers := [{ target := .collected D, args := #[] }] } := by rw [s3.defers]
    rw [e]
    refine wpIn_seq (region_mark hT (live := [2]) (ids := [1]) (σ' := ⟨[(2, vR 0)], [some (.arr 5 (L.reverse.map neg))], 19⟩) (cnt := 0) (ins := [o0, o0]) (obs := []) (by kernel_rfl) rfl (by kernel_rfl) trivial sW [{ target := .collected D, args := #[] }] ?_)
    intro a6 W6 I6 M6 s6 n6
    -- what is handed back is data from here on
    obtain ⟨I7, M7, s7, g1, g2, g3, _⟩ := xfreeze_ok (n0 := 0) (ids := [0]) (σ := ⟨[(2, vR 0)], [some (.arr 5 (L.reverse.map neg))], 19⟩) (σ' := ⟨[(2, vD (dL (L.reverse.map neg)))], [none], 19⟩) (by kernel_rfl) I6 M6 a6 W6 s6
    obtain ⟨I8, M8, s8, k1, k2, k3, _⟩ := xview_ok (n0 := 0) (live := [2]) (ids := []) (σ := ⟨[(2, vD (dL (L.reverse.map neg)))], [none], 19⟩) (σ' := ⟨[(2, vD (dL (L.reverse.map neg)))], [], 19⟩) (by kernel_rfl) rfl rfl I7 M7 a6 W6 s7
    have hD6 : W6.heap[D]? = some (.deferred (some [])) := (n6.ext.heap D hDlt hfD).trans hD
    have hfp6 : ¬ fpAll M6 [some (.arr 5 (L.reverse.map neg))] D := fun h => by
      rcases n6.fp D h with h1 | h1
      · exact hfD h1
      · omega
    have hi6 : ¬ I6 D := fun h => by
      rcases n6.ext.immNew D h with h1 | h1 | h1
      · exact hiD h1
      · omega
      · exact hfD h1
    have no7 : ∀ b, ¬ fpAll M7 [none] b := fun b ⟨o, ho⟩ => by
      cases o <;> simp [fpAt] at ho
    have hi8 : ¬ I8 D := fun h => by
      rcases k2 D h with h1 | h1
      · rcases g2 D h1 with h2 | h2
        · exact hi6 h2
        · exact hfp6 h2
      · exact no7 D h1
    have no8 : ∀ b, ¬ fpAll M8 [] b := fun b ⟨o, ho⟩ => by simp [fpAt] at ho
    refine ret_mark hT (fn := f48) (by kernel_rfl) s8 hD6 hi8 (no8 D) fun u hu hS => ⟨u, _, [], I8, M8, rfl, ⟨rfl, rfl⟩, hu, hS, ?_, fun b hb => absurd hb (no8 b), fun o e ho => by simp at ho⟩
    -- what has become of memory
    have hsz0 : w.heap.size ≤ D := by have := n1.ext.size; have := n2.ext.size; have := n3.ext.size; omega
    have nA := ((n1.trans n2).trans n3).trans ⟨nW.ext, nW.fp, fun o e ho => by omega⟩ |>.trans n6
    have eA : Ext (fpAll M []) I w I8 W6 := ⟨nA.ext.os, nA.ext.tape, nA.ext.output, nA.ext.size, nA.ext.heap, fun b hb => k1 b (g1 b (nA.ext.imm b hb)), fun b hb => by
      rcases k2 b hb with h1 | h1
      · rcases g2 b h1 with h2 | h2
        · exact nA.ext.immNew b h2
        · rcases nA.fp b h2 with h3 | h3
          · exact .inr (.inr h3)
          · exact .inr (.inl h3)
      · exact absurd h1 (no7 b)⟩
    exact eA.put _ hsz0

end Go.AM

/- oplog.Valid, Apply, Undo, Matrix, Invert. -/
namespace Go.AM
open Go.Proofs.Try

/-- The place of the first that p holds of, or -1. -/
def firstG {α : Type} (p : α → Bool) (r : List α) : Int := if r.any p then (r.findIdx p : Nat) else -1

theorem firstG_at {α : Type} {p : α → Bool} {r : List α} {i : Nat} (h : i < r.length) (hp : p r[i] = true) (hn : ∀ k, (hk : k < i) → p (r[k]'(by omega)) = false) : firstG p r = (i : Int) := by
  have h1 : r.any p = true := List.any_eq_true.2 ⟨r[i], List.getElem_mem h, hp⟩
  have h2 : r.findIdx p = i := by
    rw [List.findIdx_eq h]
    exact ⟨hp, fun j hj => hn j hj⟩
  unfold firstG
  rw [h1, h2]; rfl

theorem firstG_none {α : Type} {p : α → Bool} {r : List α} (hn : ∀ k, (hk : k < r.length) → p r[k] = false) : firstG p r = -1 := by
  unfold firstG
  rw [if_neg]
  intro h
  obtain ⟨z, hz, hp⟩ := List.any_eq_true.1 h
  obtain ⟨k, hk, rfl⟩ := List.getElem_of_mem hz
  have := hn k hk
  rw [hp] at this
  simp at this

theorem firstG_any {α : Type} (p : α → Bool) (r : List α) : decide (firstG p r ≥ 0) = r.any p := by
  unfold firstG
  cases h : r.any p <;> simp

theorem inside154_ok (i n : Nat) : FnD prog 154 [vi i, .e (.sc (.dat (D.box [dI n])))] (vb (decide (i < n))) [] := by
  refine vc154_ok _ _ (R := Out _) ?_
  unfold vc154
  exact ⟨fun _ => outb (by simp), fun h => absurd h (by simp)⟩

theorem lim_zero (z : Int) : (((lim (digs z.natAbs)).length : Int) == (0 : Int)) = decide (z = 0) := by
  rw [lim_length]
  by_cases h : z = 0
  · subst h; rfl
  · have h1 : digs z.natAbs ≠ [] := fun e => h (by have := digs_nil.1 e; omega)
    have : (digs z.natAbs).length ≠ 0 := fun e => h1 (List.length_eq_zero_iff.1 e)
    rw [decide_eq_false h]
    simp [this]

theorem natEq (a b : Nat) : ((a : Int) == (b : Int)) = decide (a = b) := by
  by_cases h : a = b
  · simp [h]
  · have h1 : (a : Int) ≠ b := by omega
    simp [h, h1]
theorem natNe (a b : Nat) : ((a : Int) != (b : Int)) = decide (a ≠ b) := by
  by_cases h : a = b
  · simp [h]
  · have h1 : (a : Int) ≠ b := by omega
    simp [h, h1]

theorem validOp_ok {o : Opz} {n : Nat} (hz : Sz o.z) : FnD prog 137 [oE o, vi n] (vb (vO n o)) [] := by
  refine vc137_ok _ _ _ _ _ _ (R := Out _) ?_
  unfold vc137
  refine ⟨_, ivalid_ok hz, fun h => absurd h (by simp), fun _ => ⟨_, inside154_ok _ _, fun h => outb ?_, fun h => ?_⟩⟩
  · have h2 : ¬ o.i < n := by simpa using h
    simp [vO, h2]
  · have h2 : o.i < n := by simpa using h
    refine ⟨fun hk => ?_, fun hk => ⟨fun hk1 => ?_, fun hk1 => ⟨fun hk3 => ?_, fun hk3 => outb ?_⟩⟩⟩
    · have hk' : o.k = 2 := by simpa using (natEq o.k 2).symm.trans hk
      refine ⟨fun hj => outb ?_, fun hj => outb ?_⟩
      · have hj' : o.j = 0 := by simpa using (natEq o.j 0).symm.trans hj
        rw [lim_zero]; simp [vO, h2, hk', hj']
      · have hj' : o.j ≠ 0 := by simpa using (natEq o.j 0).symm.trans hj
        simp [vO, h2, hk', hj']
    · have hk' : o.k = 1 := by simpa using (natEq o.k 1).symm.trans hk1
      refine ⟨_, inside154_ok _ _, fun hj => ⟨fun hn => outb ?_, fun hn => outb ?_⟩, fun hj => outb ?_⟩
      · have hj' : o.j < n := by simpa using hj
        have hn' : o.i ≠ o.j := by simpa using (natNe o.i o.j).symm.trans hn
        rw [lim_zero]; simp [vO, h2, hk', hj', hn']
      · have hn' : o.i = o.j := by simpa using (natNe o.i o.j).symm.trans hn
        simp [vO, hk', hn']
      · have hj' : ¬ o.j < n := by simpa using hj
        simp [vO, hk', hj']
    · have hk' : o.k = 3 := by simpa using (natEq o.k 3).symm.trans hk3
      refine ⟨_, inside154_ok _ _, fun hj => outb ?_, fun hj => outb ?_⟩
      · have hj' : o.j < n := by simpa using hj
        rw [natNe]; simp [vO, h2, hk', hj']
      · have hj' : ¬ o.j < n := by simpa using hj
        simp [vO, hk', hj']
    · have e2 : o.k ≠ 2 := by simpa using (natEq o.k 2).symm.trans hk
      have e1 : o.k ≠ 1 := by simpa using (natEq o.k 1).symm.trans hk1
      have e3 : o.k ≠ 3 := by simpa using (natEq o.k 3).symm.trans hk3
      simp [vO, e1, e2, e3]

theorem index153_ok {l : List Opz} {f : FuncId} {fc : List D} {p : Opz → Bool} (hl : l.length ≤ 4294967296) (hf : ∀ o ∈ l, FnD prog f ([oE o] ++ fc.map dV) (vb (p o)) []) :
    FnD prog 153 [vs (oL l), .e (.sc (.dat (.fn (.func f) fc)))] (vi (firstG p l)) [] := by
  refine vc153_ok _ _ _ (R := Out _) ?_
  unfold vc153
  simp only [oL_length]
  refine ⟨fun t => ∃ i : Nat, t = (i : Int) ∧ i ≤ l.length ∧ ∀ k, (hk : k < l.length) → k < i → p l[k] = false, fun t => ((l.length : Int) - t).toNat, ⟨0, rfl, by omega, fun k _ hk => by omega⟩, ?_⟩
  rintro _ ⟨i, rfl, hi, hinv⟩
  refine ⟨fun h => ?_, fun h => outi ?_⟩
  · have hir : i < l.length := by simpa using h
    refine ⟨_, _, _, _, _, p l[i], ⟨by omega, by omega⟩, oL_get hir, hf _ (List.getElem_mem hir), fun h2 => outi ?_, fun h2 => ?_⟩
    · exact (firstG_at hir h2 fun k hk => hinv k (by omega) hk).symm
    · rw [inc64 (by omega)]
      refine ⟨⟨i + 1, rfl, by omega, fun k hkl hk => ?_⟩, by show ((l.length : Int) - ((i + 1 : Nat) : Int)).toNat < ((l.length : Int) - (i : Int)).toNat; omega⟩
      by_cases hki : k = i
      · subst hki; exact h2
      · exact hinv k hkl (by omega)
  · have hir : i = l.length := by have : l.length ≤ i := by simpa using h
                                  omega
    exact (firstG_none fun k hk => hinv k hk (by omega)).symm

def SzO (l : List Opz) : Prop := ∀ o ∈ l, Sz o.z

theorem valid_ok {l : List Opz} {n : Nat} (hl : l.length ≤ 4294967296) (hz : SzO l) : FnD prog 96 [vs (oL l), vi n] (vb (l.all (vO n))) [] := by
  refine vc96_ok _ _ (R := Out _) ?_
  unfold vc96
  have h136 : ∀ o ∈ l, FnD prog 136 ([oE o] ++ [D.box [dI n]].map dV) (vb (!vO n o)) [] := fun o ho => by
    refine vc136_ok _ _ _ _ _ _ (R := Out _) ?_
    unfold vc136
    exact ⟨_, validOp_ok (hz o ho), outb rfl⟩
  have h135 : FnD prog 135 [vs (oL l), .e (.sc (.dat (.fn (.func 136) [D.box [dI n]])))] (vb (l.any fun o => !vO n o)) [] := by
    refine vc135_ok _ _ _ (R := Out _) ?_
    unfold vc135
    exact ⟨_, index153_ok hl h136, outb (firstG_any _ _)⟩
  exact ⟨_, h135, outb (by rw [List.all_eq_not_any_not])⟩

/-- A valid list of small coefficients. -/
def VO (n : Nat) (l : List Opz) : Prop := ∀ o ∈ l, vO n o = true ∧ o.z.natAbs ≤ 128

theorem VO.valid {n : Nat} {l : List Opz} (h : VO n l) : ∀ o ∈ l, vO n o = true := fun o ho => (h o ho).1
theorem VO.sz {n : Nat} {l : List Opz} (h : VO n l) : SzO l := fun o ho => sz_of (Nat.le_trans (h o ho).2 (by decide))
theorem VO.all {n : Nat} {l : List Opz} (h : VO n l) : l.all (vO n) = true := List.all_eq_true.2 h.valid
theorem VO.inv {n : Nat} {l : List Opz} (h : VO n l) : VO n (inL l) := fun o ho => by
  refine ⟨inL_valid h.valid o ho, ?_⟩
  simp only [inL, List.mem_map, List.mem_reverse] at ho
  obtain ⟨o', ho', rfl⟩ := ho
  have := (h o' ho').2
  simpa [inO] using this
theorem VO.append {n : Nat} {l k : List Opz} (h : VO n l) (h' : VO n k) : VO n (l ++ k) := fun o ho => by
  rcases List.mem_append.1 ho with h1 | h1
  · exact h o h1
  · exact h' o h1

theorem apL_take {r c : Nat} {l : List Opz} {m : List (List Int)} {i : Nat} (hi : i < l.length) : apL r c (l.take (i + 1)) m = apO r c l[i] (apL r c (l.take i) m) := by
  rw [List.take_add_one, apL_append, List.getElem?_eq_getElem hi]; rfl

theorem effects_ok : FnD prog 98 [] (vA [(sD (D.raw (.nilFunc))), (sD (D.fn (.func 138) ([] : List D))), (sD (D.fn (.func 139) ([] : List D))), (sD (D.fn (.func 140) ([] : List D)))]) [] := by
  refine vc98_ok (R := Out _) ?_
  unfold vc98
  exact ⟨rfl, rfl⟩

theorem pow_le {n K : Nat} {B : Nat} (h : 129 ^ n * K ≤ B) {m : Nat} (hm : m ≤ n) : 129 ^ m * K ≤ B :=
  Nat.le_trans (Nat.mul_le_mul_right K (Nat.pow_le_pow_right (by decide) hm)) h

theorem apply_ok {r c K : Nat} {l : List Opz} {m : List (List Int)} (hv : VO r l) (hl : l.length ≤ 4294967295) (hm : Mx r c m) (km : BdM K m) (hr : r ≤ 4294967296) (hc : c ≤ 4294967296) (hK : K ≤ 1329227995784915872903807060280344576)
    (hB : 129 ^ l.length * K ≤ 497323236409786642155382248146820840100456150797347717440463976893159497012533375533056) : FnD prog 45 [vs (oL l), eM r c m] (eME r c (apL r c l m) 0) [] := by
  refine vc45_ok _ _ _ _ (R := Out _) ?_
  unfold vc45
  have hval := valid_ok (l := l) (n := r) (by omega) hv.sz
  rw [hv.all] at hval
  refine ⟨_, hval, fun h => absurd h (by simp), fun _ => ⟨_, _, _, copied_own hm km hr hc hK, effects_ok, ?_⟩⟩
  simp only [oL_length]
  refine ⟨fun o t => ∃ i : Nat, t = (i : Int) ∧ i ≤ l.length ∧ o = om (apL r c (l.take i) m), fun _ t => ((l.length : Int) - t).toNat, ⟨0, rfl, by omega, by simp [apL]⟩, ?_⟩
  rintro _ _ ⟨i, rfl, hi, rfl⟩
  refine ⟨fun h => ?_, fun h => ?_⟩
  · have hir : i < l.length := by simpa using h
    have ho := hv _ (List.getElem_mem hir)
    have hpre : VO r (l.take i) := fun o ho => hv o (List.mem_of_mem_take ho)
    have hmx := apL_mx (l.take i) hm
    have hbd := apL_bd hpre hm km
    have hlt : (l.take i).length = i := by simp; omega
    rw [hlt] at hbd
    have hB2 : 129 * (129 ^ i * K) ≤ 497323236409786642155382248146820840100456150797347717440463976893159497012533375533056 := by
      rw [← Nat.mul_assoc, Nat.mul_comm 129, ← Nat.pow_succ]; exact pow_le hB (by omega)
    have hrest : om (apO r c l[i] (apL r c (l.take i) m)) = om (apL r c (l.take (i + 1)) m) := by rw [apL_take hir]
    have hnext : (fun (o : List (List (List D))) (t : Int) => ∃ i : Nat, t = (i : Int) ∧ i ≤ l.length ∧ o = om (apL r c (l.take i) m)) (om (apO r c l[i] (apL r c (l.take i) m))) (IntKind.i64.wrap ((i : Int) + 1)) ∧
        ((l.length : Int) - (IntKind.i64.wrap ((i : Int) + 1))).toNat < ((l.length : Int) - (i : Int)).toNat := by
      rw [inc64 (by omega)]
      exact ⟨⟨i + 1, rfl, by omega, hrest⟩, by omega⟩
    refine ⟨_, _, _, _, _, ⟨by omega, by omega⟩, oL_get hir, ?_⟩
    rcases (vO_ok ho.1).2 with ⟨hk, _, _⟩ | ⟨hk, _, _, _⟩ | ⟨hk, _, _⟩
    · refine ⟨139, [], om (apO r c l[i] (apL r c (l.take i) m)), by rw [hk]; decide, by rw [hk]; rfl, ?_, hnext⟩
      exact neg138_ok ho.1 hk hmx hc
    · refine ⟨138, [], om (apO r c l[i] (apL r c (l.take i) m)), by rw [hk]; decide, by rw [hk]; rfl, ?_, hnext⟩
      exact swap_ok ho.1 hk hmx
    · refine ⟨140, [], om (apO r c l[i] (apL r c (l.take i) m)), by rw [hk]; decide, by rw [hk]; rfl, ?_, hnext⟩
      exact add138_ok ho.1 hk hmx hbd ho.2 hB2 hc
  · have hir : i = l.length := by have : l.length ≤ i := by simpa using h
                                  omega
    subst hir
    rw [List.take_length]
    exact outME (matD_om _)

/-- A list that is not valid is refused. -/
theorem apply_bad {r : Nat} {c : Int} {l : List Opz} {m : List (List Int)} (hz : SzO l) (hl : l.length ≤ 4294967295) (hv : l.all (vO r) = false) : FnD prog 45 [vs (oL l), eM r c m] (eME 0 0 [] 180) [] := by
  refine vc45_ok _ _ _ _ (R := Out _) ?_
  unfold vc45
  have hval := valid_ok (l := l) (n := r) (by omega) hz
  rw [hv] at hval
  exact ⟨_, hval, fun _ => ⟨rfl, rfl⟩, fun h => absurd h (by simp)⟩

/-- The data of the inverse. -/
theorem invert_oL {l : List Opz} (hl : l.length ≤ 4294967296) : FnD prog 48 [vs (oL l)] (vs (oL (inL l))) [] := by
  -- a map on data that negates the coefficient of each operation of l
  have key : ∀ o ∈ l, ∀ o' ∈ l, oD o = oD o' → oD (inO o) = oD (inO o') := fun o _ o' _ h => by
    simp only [oD, List.cons.injEq, D.int.injEq, D.bool.injEq, D.sl.injEq, true_and, and_true] at h
    obtain ⟨h1, h2, h3, h4, h5⟩ := h
    have e : digs o.z.natAbs = digs o'.z.natAbs := by
      have h6 : (lim (digs o.z.natAbs)).length = (lim (digs o'.z.natAbs)).length := by rw [h5]
      apply List.ext_getElem
      · simpa [lim_length] using h6
      · intro i hi hi'
        have g1 := lim_get hi
        have g2 := lim_get hi'
        rw [h5, g2] at g1
        simp only [Option.some.injEq, List.cons.injEq, D.int.injEq, and_true, true_and] at g1
        omega
    have e2 : o.z.natAbs = o'.z.natAbs := by rw [← val_digs o.z.natAbs, e, val_digs]
    have e3 : o.z = o'.z := by
      have h4' : (o.z < 0) = (o'.z < 0) := by simpa using h4
      have : (o.z < 0) ↔ (o'.z < 0) := by rw [h4']
      omega
    have e4 : o.k = o'.k := by omega
    have e5 : o.i = o'.i := by omega
    have e6 : o.j = o'.j := by omega
    have e7 : o = o' := by
      cases o; cases o'
      simp only at e3 e4 e5 e6
      subst e3; subst e4; subst e5; subst e6; rfl
    rw [e7]
  classical
  obtain ⟨neg, hneg⟩ : ∃ neg : List D → List D, ∀ o ∈ l, neg (oD o) = oD (inO o) :=
    ⟨fun x => if h : ∃ o, o ∈ l ∧ oD o = x then oD (inO (Classical.choose h)) else [], fun o ho => by
      have h : ∃ o', o' ∈ l ∧ oD o' = oD o := ⟨o, ho, rfl⟩
      refine (dif_pos h).trans ?_
      exact key _ (Classical.choose_spec h).1 _ ho (Classical.choose_spec h).2⟩
  have := invert_ok (oL l) (by rw [oL_length]; omega) neg fun x hx => by
    simp only [oL, List.mem_map] at hx
    obtain ⟨o, ho, rfl⟩ := hx
    exact ⟨_, _, _, _, _, _, _, rfl, hneg o ho, neg_ok o.z⟩
  have e : (oL l).reverse.map neg = oL (inL l) := by
    simp only [oL, inL, ← List.map_reverse, List.map_map]
    exact List.map_congr_left fun o ho => hneg o (List.mem_reverse.1 ho)
  rw [e] at this
  exact this

theorem undo_ok {r c K : Nat} {l : List Opz} {m : List (List Int)} (hv : VO r l) (hl : l.length ≤ 4294967295) (hm : Mx r c m) (km : BdM K m) (hr : r ≤ 4294967296) (hc : c ≤ 4294967296) (hK : K ≤ 1329227995784915872903807060280344576)
    (hB : 129 ^ l.length * K ≤ 497323236409786642155382248146820840100456150797347717440463976893159497012533375533056) : FnD prog 46 [vs (oL l), eM r c m] (eME r c (apL r c (inL l) m) 0) [] := by
  refine vc46_ok _ _ _ _ (R := Out _) ?_
  unfold vc46
  have hval := valid_ok (l := l) (n := r) (by omega) hv.sz
  rw [hv.all] at hval
  exact ⟨_, hval, fun h => absurd h (by simp), fun _ => ⟨_, _, _, _, _, invert_oL (by omega), apply_ok hv.inv (by rw [inL_length]; exact hl) hm km hr hc hK (by rw [inL_length]; exact hB), rfl, rfl⟩⟩

theorem undo_bad {r : Nat} {c : Int} {l : List Opz} {m : List (List Int)} (hz : SzO l) (hl : l.length ≤ 4294967295) (hv : l.all (vO r) = false) : FnD prog 46 [vs (oL l), eM r c m] (eME 0 0 [] 180) [] := by
  refine vc46_ok _ _ _ _ (R := Out _) ?_
  unfold vc46
  have hval := valid_ok (l := l) (n := r) (by omega) hz
  rw [hv] at hval
  exact ⟨_, hval, fun _ => ⟨rfl, rfl⟩, fun h => absurd h (by simp)⟩

theorem matrix_ok {n : Nat} {l : List Opz} (hv : VO n l) (hl : l.length ≤ 4294967295) (hn : n ≤ 64) (hB : 129 ^ l.length ≤ 497323236409786642155382248146820840100456150797347717440463976893159497012533375533056) :
    FnD prog 47 [vs (oL l), vi n] (eME n n (mat n l) 0) [] := by
  refine vc47_ok _ _ (R := Out _) ?_
  unfold vc47
  refine ⟨fun h => absurd h (by simp), fun _ => ⟨fun h => absurd h (by simp; omega), fun _ => ⟨_, _, _, _, _, _, _, mident_ok (by omega), ?_, rfl, rfl⟩⟩⟩
  exact apply_ok hv hl (table_mx _ _ _) (ident_bd n) (by omega) (by omega) (by decide) (by rw [Nat.mul_one]; exact hB)

theorem matrix_bad {n : Nat} {l : List Opz} (hz : SzO l) (hl : l.length ≤ 4294967295) (hn : n ≤ 64) (hv : l.all (vO n) = false) : FnD prog 47 [vs (oL l), vi n] (eME 0 0 [] 180) [] := by
  refine vc47_ok _ _ (R := Out _) ?_
  unfold vc47
  exact ⟨fun h => absurd h (by simp), fun _ => ⟨fun h => absurd h (by simp; omega), fun _ => ⟨_, _, _, _, _, _, _, mident_ok (by omega), apply_bad hz hl hv, rfl, rfl⟩⟩⟩

theorem matrix_big {n : Nat} (l : List (List D)) (hn : 64 < n) : FnD prog 47 [vs l, vi n] (eME 0 0 [] 1) [] := by
  refine vc47_ok _ _ (R := Out _) ?_
  unfold vc47
  exact ⟨fun h => absurd h (by simp), fun _ => ⟨fun _ => ⟨rfl, rfl⟩, fun h => absurd h (by simp; omega)⟩⟩

end Go.AM

/- torsionref18.Made: a list of operations out of a description. -/
namespace Go.AM
open Go.Proofs.Try

/-- The operation that a description stands for. -/
def mvZ (n : Nat) (x0 x1 x2 x3 : Int) : Opz :=
  { k := 1 + (x0 % 3).toNat, i := (x1 % n).toNat, j := if (x0 % 3).toNat = 1 then 0 else (x2 % n).toNat, z := if (x0 % 3).toNat = 2 then x3 else 0 }

def mvOf (n : Nat) : List D → Option Opz
  | [.int _ x0, .int _ x1, .int _ x2, .int _ x3] => if (mvZ n x0 x1 x2 x3).k = 2 ∨ (mvZ n x0 x1 x2 x3).i ≠ (mvZ n x0 x1 x2 x3).j then some (mvZ n x0 x1 x2 x3) else none
  | _ => none

def madeT (n : Nat) (l : List (List D)) (t : Nat) : List Opz := (l.take t).filterMap (mvOf n)

def made (n : Nat) (l : List (List D)) (m : Nat) : List Opz := if n = 0 then [] else madeT n l (min l.length m)

theorem madeT_succ {n : Nat} {l : List (List D)} {t : Nat} {x : List D} (hx : l[t]? = some x) : madeT n l (t + 1) = madeT n l t ++ (mvOf n x).toList := by
  unfold madeT
  rw [List.take_add_one, hx, List.filterMap_append]
  cases h : mvOf n x <;> simp [h]

theorem madeT_length (n : Nat) (l : List (List D)) (t : Nat) : (madeT n l t).length ≤ t :=
  Nat.le_trans (List.length_filterMap_le _ _) (List.length_take_le _ _)

abbrev mvSp : List Sp := [.i .u8, .i .u8, .i .u8, .i .i8]

theorem mv_open {x : List D} (h : DOKL mvSp x) : ∃ x0 x1 x2 x3 : Int, x = [.int .u8 x0, .int .u8 x1, .int .u8 x2, .int .i8 x3] ∧ (0 ≤ x0 ∧ x0 ≤ 255) ∧ (0 ≤ x1 ∧ x1 ≤ 255) ∧ (0 ≤ x2 ∧ x2 ≤ 255) ∧ (-128 ≤ x3 ∧ x3 ≤ 127) := by
  have := exDL_of h (K := fun y => y = x) rfl
  simp only [exDL, exD] at this
  obtain ⟨x0, h0, x1, h1, x2, h2, x3, h3, rfl⟩ := this
  exact ⟨x0, x1, x2, x3, rfl, h0, h1, h2, h3⟩

theorem mvZ_ok {n : Nat} (hn : 0 < n) {x0 x1 x2 x3 : Int} (h3 : -128 ≤ x3 ∧ x3 ≤ 127) (hk : (mvZ n x0 x1 x2 x3).k = 2 ∨ (mvZ n x0 x1 x2 x3).i ≠ (mvZ n x0 x1 x2 x3).j) :
    vO n (mvZ n x0 x1 x2 x3) = true ∧ (mvZ n x0 x1 x2 x3).z.natAbs ≤ 128 := by
  have e1 : (x1 % n).toNat < n := by
    have := Int.emod_lt_of_pos x1 (show (0 : Int) < n by omega)
    have := Int.emod_nonneg x1 (show (n : Int) ≠ 0 by omega)
    omega
  have e2 : (x2 % n).toNat < n := by
    have := Int.emod_lt_of_pos x2 (show (0 : Int) < n by omega)
    have := Int.emod_nonneg x2 (show (n : Int) ≠ 0 by omega)
    omega
  have e3 : (x0 % 3).toNat = 0 ∨ (x0 % 3).toNat = 1 ∨ (x0 % 3).toNat = 2 := by omega
  refine ⟨?_, ?_⟩
  · simp only [mvZ] at hk
    rcases e3 with e | e | e
    · simp only [e] at hk
      simp [vO, mvZ, e, e1, e2]
      simpa using hk
    · simp [vO, mvZ, e, e1]
    · simp only [e] at hk
      simp [vO, mvZ, e, e1, e2]
      simpa using hk
  · simp only [mvZ]
    split <;> omega

theorem made_VO {n : Nat} {l : List (List D)} {m : Nat} (hl : ∀ x ∈ l, DOKL mvSp x) : VO n (made n l m) := fun o ho => by
  unfold made at ho
  split at ho
  · simp at ho
  · rename_i hn
    simp only [madeT, List.mem_filterMap] at ho
    obtain ⟨x, hx, hox⟩ := ho
    obtain ⟨x0, x1, x2, x3, rfl, h0, h1, h2, h3⟩ := mv_open (hl x (List.mem_of_mem_take hx))
    simp only [mvOf] at hox
    split at hox
    · rename_i hk
      simp only [Option.some.injEq] at hox
      subst hox
      exact mvZ_ok (by omega) h3 hk
    · simp at hox

theorem made_length (n : Nat) (l : List (List D)) (m : Nat) : (made n l m).length ≤ m := by
  unfold made
  split
  · simp
  · exact Nat.le_trans (madeT_length _ _ _) (by omega)

theorem ops_made {n m : Nat} {l : List (List D)} (hn : n ≤ 64) (hm : m ≤ 1000) (hl : ∀ x ∈ l, DOKL mvSp x) (hlen : l.length ≤ 9223372036854775807) : FnD prog 44 [vs l, vi n, vi m] (vs (oL (made n l m))) [] := by
  refine vc44_ok _ _ _ (R := Out _) ?_
  unfold vc44
  refine ⟨fun out t => ∃ i : Nat, t = (i : Int) ∧ i ≤ m ∧ i ≤ l.length ∧ (n = 0 → i = 0) ∧ out = oL (madeT n l i), fun _ t => ((m : Int) - t).toNat, ⟨0, rfl, by omega, by omega, fun _ => rfl, rfl⟩, ?_⟩
  rintro _ _ ⟨i, rfl, him, hil, hn0, rfl⟩
  refine ⟨fun h => ⟨fun h2 => ⟨fun h3 => ?_, fun h3 => outs ?_⟩, fun h2 => outs ?_⟩, fun h => outs ?_⟩
  · have hil2 : i < l.length := by simpa using h
    have him2 : i < m := by simpa using h2
    have hn1 : 0 < n := by simpa using h3
    obtain ⟨x0, x1, x2, x3, hx, h0, h1, h2', h3'⟩ := mv_open (hl _ (List.getElem_mem hil2))
    have hx' : l[i]? = some [.int .u8 x0, .int .u8 x1, .int .u8 x2, .int .i8 x3] := by rw [List.getElem?_eq_getElem hil2, hx]
    have hT := madeT_succ (n := n) hx'
    have e1 : IntKind.i64.wrap ((1 : Int) + IntKind.i64.wrap (x0.tmod 3)) = (((mvZ n x0 x1 x2 x3).k : Nat) : Int) := by
      rw [Int.tmod_eq_emod_of_nonneg h0.1, w64 (n := x0 % 3) (by omega) (by omega), w64 (by omega) (by omega)]
      simp only [mvZ]; omega
    have e2 : (IntKind.i64.wrap x1).tmod n = (((x1 % n).toNat : Nat) : Int) := by
      rw [w64 (by omega) (by omega), Int.tmod_eq_emod_of_nonneg h1.1]
      have := Int.emod_nonneg x1 (show (n : Int) ≠ 0 by omega)
      omega
    have e3 : (IntKind.i64.wrap x2).tmod n = (((x2 % n).toNat : Nat) : Int) := by
      rw [w64 (by omega) (by omega), Int.tmod_eq_emod_of_nonneg h2'.1]
      have := Int.emod_nonneg x2 (show (n : Int) ≠ 0 by omega)
      omega
    have e4 : IntKind.i64.wrap x3 = x3 := w64 (by omega) (by omega)
    have hlt := madeT_length n l i
    have hbound : ∀ x : List D, ((oL (madeT n l i)).length + ([x] : List (List D)).length) * 56 ≤ 140737488355328 := fun x => by
      rw [oL_length]; simp only [List.length_cons, List.length_nil]; omega
    refine ⟨x0, x1, x2, x3, ⟨by omega, by omega⟩, by rw [Int.toNat_natCast]; exact hx', by decide, by omega, ?_⟩
    rw [e1, e2, e3, e4, inc64 (by omega)]
    have hk : (x0 % 3).toNat = 0 ∨ (x0 % 3).toNat = 1 ∨ (x0 % 3).toNat = 2 := by omega
    have hback : ∀ out, out = oL (madeT n l (i + 1)) → (∃ j : Nat, ((i + 1 : Nat) : Int) = (j : Int) ∧ j ≤ m ∧ j ≤ l.length ∧ (n = 0 → j = 0) ∧ out = oL (madeT n l j)) ∧ ((m : Int) - ((i + 1 : Nat) : Int)).toNat < ((m : Int) - (i : Int)).toNat :=
      fun out ho => ⟨⟨i + 1, rfl, by omega, by omega, fun h => by omega, ho⟩, by omega⟩
    have hsome : ((mvZ n x0 x1 x2 x3).k = 2 ∨ (mvZ n x0 x1 x2 x3).i ≠ (mvZ n x0 x1 x2 x3).j) → oL (madeT n l i) ++ [oD (mvZ n x0 x1 x2 x3)] = oL (madeT n l (i + 1)) := fun hc => by
      rw [hT]; simp only [mvOf, if_pos hc, oL]; simp
    have hnone : ¬ ((mvZ n x0 x1 x2 x3).k = 2 ∨ (mvZ n x0 x1 x2 x3).i ≠ (mvZ n x0 x1 x2 x3).j) → oL (madeT n l i) = oL (madeT n l (i + 1)) := fun hc => by
      rw [hT]; simp only [mvOf, if_neg hc, oL]; simp
    rcases hk with hk | hk | hk
    · have ek : (mvZ n x0 x1 x2 x3).k = 1 := by simp [mvZ, hk]
      have ej : (mvZ n x0 x1 x2 x3).j = (x2 % n).toNat := by simp [mvZ, hk]
      have ez : (mvZ n x0 x1 x2 x3).z = 0 := by simp [mvZ, hk]
      have eo : oD (mvZ n x0 x1 x2 x3) = [dI ((1 : Nat) : Int), dI (((x1 % n).toNat : Nat) : Int), dI (((x2 % n).toNat : Nat) : Int), dB false, dL []] := by
        simp only [oD, ek, ej, ez]; rfl
      rw [ek]
      refine ⟨fun h => absurd h (by decide), fun _ => ⟨fun h => absurd h (by decide), fun _ => ⟨fun hne => ⟨hbound _, hback _ ?_⟩, fun hne => hback _ ?_⟩⟩⟩
      · rw [← eo]
        refine hsome (.inr ?_)
        rw [ej]
        show (x1 % n).toNat ≠ (x2 % n).toNat
        simpa using (natNe (x1 % n).toNat (x2 % n).toNat).symm.trans hne
      · refine hnone ?_
        rw [ek, ej]
        have : (x1 % n).toNat = (x2 % n).toNat := by simpa using (natNe (x1 % n).toNat (x2 % n).toNat).symm.trans hne
        simp [mvZ, this]
    · have ek : (mvZ n x0 x1 x2 x3).k = 2 := by simp [mvZ, hk]
      have ej : (mvZ n x0 x1 x2 x3).j = 0 := by simp [mvZ, hk]
      have ez : (mvZ n x0 x1 x2 x3).z = 0 := by simp [mvZ, hk]
      have eo : oD (mvZ n x0 x1 x2 x3) = [dI ((2 : Nat) : Int), dI (((x1 % n).toNat : Nat) : Int), dI 0, dB false, dL []] := by
        simp only [oD, ek, ej, ez]; rfl
      rw [ek]
      refine ⟨fun h => absurd h (by decide), fun _ => ⟨fun _ => ⟨hbound _, hback _ ?_⟩, fun h => absurd h (by decide)⟩⟩
      rw [← eo]
      exact hsome (.inl ek)
    · have ek : (mvZ n x0 x1 x2 x3).k = 3 := by simp [mvZ, hk]
      have ej : (mvZ n x0 x1 x2 x3).j = (x2 % n).toNat := by simp [mvZ, hk]
      have ez : (mvZ n x0 x1 x2 x3).z = x3 := by simp [mvZ, hk]
      have eo : oD (mvZ n x0 x1 x2 x3) = [dI ((3 : Nat) : Int), dI (((x1 % n).toNat : Nat) : Int), dI (((x2 % n).toNat : Nat) : Int), dB (decide (x3 < 0)), dL (lim (digs x3.natAbs))] := by
        simp only [oD, ek, ej, ez]; rfl
      rw [ek]
      refine ⟨fun _ => ⟨_, _, rof_ok x3 (by omega) (by omega), fun h => absurd h (by decide), fun _ => ⟨fun hne => ⟨hbound _, hback _ ?_⟩, fun hne => hback _ ?_⟩⟩, fun h => absurd h (by decide)⟩
      · rw [← eo]
        refine hsome (.inr ?_)
        rw [ej]
        show (x1 % n).toNat ≠ (x2 % n).toNat
        simpa using (natNe (x1 % n).toNat (x2 % n).toNat).symm.trans hne
      · refine hnone ?_
        rw [ek, ej]
        have : (x1 % n).toNat = (x2 % n).toNat := by simpa using (natNe (x1 % n).toNat (x2 % n).toNat).symm.trans hne
        simp [mvZ, this]
  · have hn1 : n = 0 := by have : ¬ (0 : Int) < n := by simpa using h3
                           omega
    rw [hn0 hn1]; simp [made, hn1, madeT]
  · have him2 : m ≤ i := by simpa using h2
    unfold made
    split
    · rename_i h0; rw [hn0 h0]; simp [madeT]
    · rw [show min l.length m = i by omega]
  · have him2 : l.length ≤ i := by simpa using h
    unfold made
    split
    · rename_i h0; rw [hn0 h0]; simp [madeT]
    · rw [show min l.length m = i by omega]

end Go.AM

/- What functions of the program come to: group Oc. Printed by vc.py. -/
set_option maxRecDepth 100000
set_option linter.unusedVariables false

namespace Go.AM
open Go.Proofs.Try

/- f68 torsion/torsionref18.Apply -/
def vc68 (l : List (List D)) (a0 : Int) (a1 : Int) (a2 : List (List D)) (R : V → Heap → Prop) : Prop :=
  ∃ (r : Bool),
  (FnD prog 51 [(vD (dL l)), (vD (dI a0))] (vD (dB r)) []) ∧
  (((!r) = true →
    R (V.tup [(E.agg [(sD (dI (0 : Int))), (sD (dI (0 : Int))), (sD (dL ([] : List (List D))))]), (eD (dI (180 : Int)))]) []) ∧
  ((!r) = false →
    ∃ (b : Int) (b1 : Int) (b2 : Int) (b3 : Int) (b4 : Int) (b5 : Int) (m : List (List (List D))) (m1 : List (List (List D))) (m2 : List (List (List D))),
    (FnO prog 120 [(vA [(sD (dI a0)), (sD (dI a1)), (sD (dL a2))])] [] (V.e (E.sc (S.ptr 0 0))) [(some (Obj.box [(sD (dI b)), (sD (dI b1)), (S.ref 1), (sD (dI b2)), (sD (dI b3)), (S.ref 2), (sD (dI b4)), (sD (dI b5)), (S.ref 3)])), (some (Obj.mat 2 m)), (some (Obj.mat 2 m1)), (some (Obj.mat 2 m2))]) ∧
    (∃ (J0 : Int → Int → Int → Int → Int → Int → (List (List (List D))) → (List (List (List D))) → (List (List (List D))) → Int → Prop) (μ0 : Int → Int → Int → Int → Int → Int → (List (List (List D))) → (List (List (List D))) → (List (List (List D))) → Int → Nat),
    J0 b b1 b2 b3 b4 b5 m m1 m2 (0 : Int) ∧ ∀ (w0 : Int) (w1 : Int) (w3 : Int) (w4 : Int) (w6 : Int) (w7 : Int) (o2 : List (List (List D))) (o3 : List (List (List D))) (o4 : List (List (List D))) (i : Int), J0 w0 w1 w3 w4 w6 w7 o2 o3 o4 i →
      ((decide (i < (l.length : Int))) = true →
        ∃ (x0 : Int) (x1 : Int) (x2 : Int) (x3 : Bool) (x4 : List (List D)),
        (0 ≤ i ∧ i < (l.length : Int)) ∧
        (l[(i).toNat]? = some [(dI x0), (dI x1), (dI x2), (dB x3), (dL x4)]) ∧
        (((x0 == (1 : Int)) = true →
          ∃ (b6 : Int) (b7 : Int) (b8 : Int) (b9 : Int) (b10 : Int) (b11 : Int) (m3 : List (List (List D))) (m4 : List (List (List D))) (m5 : List (List (List D))),
          (FnO prog 121 [(V.e (E.sc (S.ptr 0 0))), (vD (dI x1)), (vD (dI x2))] [(some (Obj.box [(sD (dI w0)), (sD (dI w1)), (S.ref 1), (sD (dI w3)), (sD (dI w4)), (S.ref 2), (sD (dI w6)), (sD (dI w7)), (S.ref 3)])), (some (Obj.mat 2 o2)), (some (Obj.mat 2 o3)), (some (Obj.mat 2 o4))] (V.tup []) [(some (Obj.box [(sD (dI b6)), (sD (dI b7)), (S.ref 4), (sD (dI b8)), (sD (dI b9)), (S.ref 5), (sD (dI b10)), (sD (dI b11)), (S.ref 3)])), (some (Obj.fwd (S.ref 4))), (some (Obj.fwd (S.ref 5))), (some (Obj.mat 2 m3)), (some (Obj.mat 2 m4)), (some (Obj.mat 2 m5))]) ∧
          (J0 b6 b7 b8 b9 b10 b11 m4 m5 m3 (IntKind.i64.wrap (i + (1 : Int))) ∧ μ0 b6 b7 b8 b9 b10 b11 m4 m5 m3 (IntKind.i64.wrap (i + (1 : Int))) < μ0 w0 w1 w3 w4 w6 w7 o2 o3 o4 i)) ∧
        ((x0 == (1 : Int)) = false →
          ((x0 == (2 : Int)) = true →
            ∃ (b12 : Int) (b13 : Int) (b14 : Int) (b15 : Int) (b16 : Int) (b17 : Int) (m6 : List (List (List D))) (m7 : List (List (List D))) (m8 : List (List (List D))),
            (FnO prog 122 [(V.e (E.sc (S.ptr 0 0))), (vD (dI x1))] [(some (Obj.box [(sD (dI w0)), (sD (dI w1)), (S.ref 1), (sD (dI w3)), (sD (dI w4)), (S.ref 2), (sD (dI w6)), (sD (dI w7)), (S.ref 3)])), (some (Obj.mat 2 o2)), (some (Obj.mat 2 o3)), (some (Obj.mat 2 o4))] (V.tup []) [(some (Obj.box [(sD (dI b12)), (sD (dI b13)), (S.ref 1), (sD (dI b14)), (sD (dI b15)), (S.ref 2), (sD (dI b16)), (sD (dI b17)), (S.ref 3)])), (some (Obj.mat 2 m6)), (some (Obj.mat 2 m7)), (some (Obj.mat 2 m8))]) ∧
            (J0 b12 b13 b14 b15 b16 b17 m6 m7 m8 (IntKind.i64.wrap (i + (1 : Int))) ∧ μ0 b12 b13 b14 b15 b16 b17 m6 m7 m8 (IntKind.i64.wrap (i + (1 : Int))) < μ0 w0 w1 w3 w4 w6 w7 o2 o3 o4 i)) ∧
          ((x0 == (2 : Int)) = false →
            ∃ (b18 : Int) (b19 : Int) (b20 : Int) (b21 : Int) (b22 : Int) (b23 : Int) (m9 : List (List (List D))) (m10 : List (List (List D))) (m11 : List (List (List D))),
            (FnO prog 123 [(V.e (E.sc (S.ptr 0 0))), (vD (dI x1)), (vD (dI x2)), (vA [(sD (dB x3)), (sD (dL x4))])] [(some (Obj.box [(sD (dI w0)), (sD (dI w1)), (S.ref 1), (sD (dI w3)), (sD (dI w4)), (S.ref 2), (sD (dI w6)), (sD (dI w7)), (S.ref 3)])), (some (Obj.mat 2 o2)), (some (Obj.mat 2 o3)), (some (Obj.mat 2 o4))] (V.tup []) [(some (Obj.box [(sD (dI b18)), (sD (dI b19)), (S.ref 1), (sD (dI b20)), (sD (dI b21)), (S.ref 2), (sD (dI b22)), (sD (dI b23)), (S.ref 3)])), (some (Obj.mat 2 m9)), (some (Obj.mat 2 m10)), (some (Obj.mat 2 m11))]) ∧
            (J0 b18 b19 b20 b21 b22 b23 m9 m10 m11 (IntKind.i64.wrap (i + (1 : Int))) ∧ μ0 b18 b19 b20 b21 b22 b23 m9 m10 m11 (IntKind.i64.wrap (i + (1 : Int))) < μ0 w0 w1 w3 w4 w6 w7 o2 o3 o4 i))))) ∧
      ((decide (i < (l.length : Int))) = false →
        R (V.tup [(E.agg [(sD (dI w0)), (sD (dI w1)), (sD (dL (matD o2)))]), (eD (dI (0 : Int)))]) []))))

theorem vc68_ok (l : List (List D)) (a0 : Int) (a1 : Int) (a2 : List (List D)) {R : V → Heap → Prop} (h : vc68 l a0 a1 a2 R) : FnG prog 68 [(vD (dL l)), (vA [(sD (dI a0)), (sD (dI a1)), (sD (dL a2))])] [] R :=
  FnG.vcg hT func68 ntmps68 (.reg 2 [(0, Or.none, 0, 1), (1, Or.none, 1, 1)] [0, 3, 4] [0, 1] [] <| .exb fun r => .reg 0 [(3, (Or.call (vD (dB r)) [] []), 0, 0)] [0, 3, 4, 6] [0, 1] [] <| .r1 [0, 3, 4, 14] [0, 1] <| .c2 (.r1 [4, 5] [1] <| .nrm [4, 5] [0] <| .ret []) (.ex fun b => .ex fun b1 => .ex fun b2 => .ex fun b3 => .ex fun b4 => .ex fun b5 => .exm fun m => .exm fun m1 => .exm fun m2 => .reg 4 [(1, (Or.callO [] (V.e (E.sc (S.ptr 0 0))) [(some (Obj.box [(sD (dI b)), (sD (dI b1)), (S.ref 1), (sD (dI b2)), (sD (dI b3)), (S.ref 2), (sD (dI b4)), (sD (dI b5)), (S.ref 3)])), (some (Obj.mat 2 m)), (some (Obj.mat 2 m1)), (some (Obj.mat 2 m2))]), 2, 4)] [0, 4, 7] [1, 2, 3, 4, 5] [] <| .r1 [0, 4, 7, 8] [0, 1, 2, 3, 4] <| .lp [.i, .i, .i, .i, .i, .i, .m, .m, .m, .i] (fun w0 w1 w3 w4 w6 w7 o2 o3 o4 i => ⟨[(0, (vD (dL l))), (4, (vP 0 0)), (7, (vP 1 0)), (8, (vD (dI i)))], [(some (Obj.box [(sD (dI (0 : Int))), (sD (dI (0 : Int))), (sD (D.raw (.slice none 0 0)))])), (some (Obj.box [(sD (dI w0)), (sD (dI w1)), (S.ref 2), (sD (dI w3)), (sD (dI w4)), (S.ref 3), (sD (dI w6)), (sD (dI w7)), (S.ref 4)])), (some (Obj.mat 2 o2)), (some (Obj.mat 2 o3)), (some (Obj.mat 2 o4))], 73⟩) [.i b, .i b1, .i b2, .i b3, .i b4, .i b5, .m m, .m m1, .m m2, .i (0 : Int)] <| .fi fun w0 => .fi fun w1 => .fi fun w3 => .fi fun w4 => .fi fun w6 => .fi fun w7 => .fm fun o2 => .fm fun o3 => .fm fun o4 => .fi fun i => .beg <| .r1 [0, 4, 7, 8, 21] [0, 1, 2, 3, 4] <| .c2 (.ex fun x0 => .ex fun x1 => .ex fun x2 => .exb fun x3 => .exl fun x4 => .reg 0 [(4, (Or.cells [(dI x0), (dI x1), (dI x2), (dB x3), (dL x4)]), 0, 0)] [0, 4, 7, 8, 28] [0, 1, 2, 3, 4] [] <| .r1 [0, 4, 7, 8, 28, 46] [0, 1, 2, 3, 4] <| .c2 (.ex fun b6 => .ex fun b7 => .ex fun b8 => .ex fun b9 => .ex fun b10 => .ex fun b11 => .exm fun m3 => .exm fun m4 => .exm fun m5 => .drw 2 [(5, ((Or.cells [(dI x0), (dI x1), (dI x2), (dB x3), (dL x4)]), 0, 0), []), (10, ((Or.cells [(dI x0), (dI x1), (dI x2), (dB x3), (dL x4)]), 0, 0), []), (11, ((Or.callO [1, 2, 3, 4] (V.tup []) [(some (Obj.box [(sD (dI b6)), (sD (dI b7)), (S.ref 4), (sD (dI b8)), (sD (dI b9)), (S.ref 5), (sD (dI b10)), (sD (dI b11)), (S.ref 3)])), (some (Obj.fwd (S.ref 4))), (some (Obj.fwd (S.ref 5))), (some (Obj.mat 2 m3)), (some (Obj.mat 2 m4)), (some (Obj.mat 2 m5))]), 5, 2), [1, 2, 3, 4, 5, 6])] [0, 4, 7, 8] [0, 1, 5, 6, 4] [.old 2, .old 1, .old 2, .old 1] <| .r1 [0, 4, 7, 8] [0, 1, 2, 3, 4] <| .bk 0 [.i b6, .i b7, .i b8, .i b9, .i b10, .i b11, .m m4, .m m5, .m m3, .i (IntKind.i64.wrap (i + (1 : Int)))]) (.r1 [0, 4, 7, 8, 60] [0, 1, 2, 3, 4] <| .c2 (.ex fun b12 => .ex fun b13 => .ex fun b14 => .ex fun b15 => .ex fun b16 => .ex fun b17 => .exm fun m6 => .exm fun m7 => .exm fun m8 => .reg 0 [(5, (Or.cells [(dI x0), (dI x1), (dI x2), (dB x3), (dL x4)]), 0, 0), (6, (Or.callO [1, 2, 3, 4] (V.tup []) [(some (Obj.box [(sD (dI b12)), (sD (dI b13)), (S.ref 1), (sD (dI b14)), (sD (dI b15)), (S.ref 2), (sD (dI b16)), (sD (dI b17)), (S.ref 3)])), (some (Obj.mat 2 m6)), (some (Obj.mat 2 m7)), (some (Obj.mat 2 m8))]), 0, 0)] [0, 4, 7, 8] [0, 1, 2, 3, 4] [.old 3, .old 2] <| .r1 [0, 4, 7, 8] [0, 1, 2, 3, 4] <| .bk 0 [.i b12, .i b13, .i b14, .i b15, .i b16, .i b17, .m m6, .m m7, .m m8, .i (IntKind.i64.wrap (i + (1 : Int)))]) (.ex fun b18 => .ex fun b19 => .ex fun b20 => .ex fun b21 => .ex fun b22 => .ex fun b23 => .exm fun m9 => .exm fun m10 => .exm fun m11 => .drw 0 [(5, ((Or.cells [(dI x0), (dI x1), (dI x2), (dB x3), (dL x4)]), 0, 0), []), (10, ((Or.cells [(dI x0), (dI x1), (dI x2), (dB x3), (dL x4)]), 0, 0), []), (15, ((Or.cells [(dI x0), (dI x1), (dI x2), (dB x3), (dL x4)]), 0, 0), []), (16, ((Or.callO [1, 2, 3, 4] (V.tup []) [(some (Obj.box [(sD (dI b18)), (sD (dI b19)), (S.ref 1), (sD (dI b20)), (sD (dI b21)), (S.ref 2), (sD (dI b22)), (sD (dI b23)), (S.ref 3)])), (some (Obj.mat 2 m9)), (some (Obj.mat 2 m10)), (some (Obj.mat 2 m11))]), 0, 0), [1, 2, 3, 4])] [0, 4, 7, 8] [0, 1, 2, 3, 4] [.old 3, .old 2, .old 3, .old 2, .old 3, .old 2] <| .r1 [0, 4, 7, 8] [0, 1, 2, 3, 4] <| .bk 0 [.i b18, .i b19, .i b20, .i b21, .i b22, .i b23, .m m9, .m m10, .m m11, .i (IntKind.i64.wrap (i + (1 : Int)))]))) (.r1 [4, 5] [0, 2] <| .frz [1] <| .ret [])))
    (by kernel_rfl) (by kernel_rfl) (by kernel_rfl) h

end Go.AM

/- What functions of the program come to: group Oe. Printed by vc.py. -/
set_option maxRecDepth 100000
set_option linter.unusedVariables false

namespace Go.AM
open Go.Proofs.Try

/- f124 torsion/torsionref01.DivMod -/
def vc124 (a0 : Bool) (a1 : List (List D)) (b0 : Bool) (b1 : List (List D)) (R : V → Heap → Prop) : Prop :=
  ∃ (r0 : Bool) (r1 : List (List D)) (r01 : Bool) (r11 : List (List D)),
  (FnD prog 71 [(vD (dL a1)), (vD (dB a0))] (vA [(sD (dB r0)), (sD (dL r1))]) []) ∧
  (FnD prog 71 [(vD (dL b1)), (vD (dB b0))] (vA [(sD (dB r01)), (sD (dL r11))]) []) ∧
  (∃ (r : Int),
  (FnD prog 92 [(vA [(sD (dB r01)), (sD (dL r11))])] (vD (dI r)) []) ∧
  (((r == (0 : Int)) = true →
    R (V.tup [(E.agg [(sD (dB false)), (sD (dL ([] : List (List D))))]), (E.agg [(sD (dB false)), (sD (dL ([] : List (List D))))]), (eD (dI (3 : Int)))]) []) ∧
  ((r == (0 : Int)) = false →
    ∃ (r02 : Bool) (r12 : List (List D)) (r03 : Bool) (r13 : List (List D)),
    (FnD prog 152 [(vD (dL r1)), (vD (dL r11))] (V.tup [(E.agg [(sD (dB r02)), (sD (dL r12))]), (E.agg [(sD (dB r03)), (sD (dL r13))])]) []) ∧
    ((r0 = true →
      ∃ (r2 : Int),
      (FnD prog 92 [(vA [(sD (dB r03)), (sD (dL r13))])] (vD (dI r2)) []) ∧
      (((decide (r2 > (0 : Int))) = true →
        ∃ (r04 : Bool) (r14 : List (List D)) (r05 : Bool) (r15 : List (List D)),
        (FnD prog 16 [(vD (dI (1 : Int)))] (vA [(sD (dB r04)), (sD (dL r14))]) []) ∧
        (FnD prog 82 [(vA [(sD (dB r02)), (sD (dL r12))]), (vA [(sD (dB r04)), (sD (dL r14))])] (vA [(sD (dB r05)), (sD (dL r15))]) []) ∧
        (∃ (r06 : Bool) (r16 : List (List D)) (r07 : Bool) (r17 : List (List D)),
        (FnD prog 71 [(vD (dL r11)), (vD (dB false))] (vA [(sD (dB r06)), (sD (dL r16))]) []) ∧
        (FnD prog 151 [(vA [(sD (dB r06)), (sD (dL r16))]), (vA [(sD (dB r03)), (sD (dL r13))])] (vA [(sD (dB r07)), (sD (dL r17))]) []) ∧
        (((!(r0 == r01)) = true →
          ∃ (r08 : Bool) (r18 : List (List D)),
          (FnD prog 104 [(vA [(sD (dB r05)), (sD (dL r15))])] (vA [(sD (dB r08)), (sD (dL r18))]) []) ∧
          (R (V.tup [(E.agg [(sD (dB r08)), (sD (dL r18))]), (E.agg [(sD (dB r07)), (sD (dL r17))]), (eD (dI (0 : Int)))]) [])) ∧
        ((!(r0 == r01)) = false →
          R (V.tup [(E.agg [(sD (dB r05)), (sD (dL r15))]), (E.agg [(sD (dB r07)), (sD (dL r17))]), (eD (dI (0 : Int)))]) [])))) ∧
      ((decide (r2 > (0 : Int))) = false →
        ((!(r0 == r01)) = true →
          ∃ (r09 : Bool) (r19 : List (List D)),
          (FnD prog 104 [(vA [(sD (dB r02)), (sD (dL r12))])] (vA [(sD (dB r09)), (sD (dL r19))]) []) ∧
          (R (V.tup [(E.agg [(sD (dB r09)), (sD (dL r19))]), (E.agg [(sD (dB r03)), (sD (dL r13))]), (eD (dI (0 : Int)))]) [])) ∧
        ((!(r0 == r01)) = false →
          R (V.tup [(E.agg [(sD (dB r02)), (sD (dL r12))]), (E.agg [(sD (dB r03)), (sD (dL r13))]), (eD (dI (0 : Int)))]) [])))) ∧
    (r0 = false →
      ((!(r0 == r01)) = true →
        ∃ (r010 : Bool) (r110 : List (List D)),
        (FnD prog 104 [(vA [(sD (dB r02)), (sD (dL r12))])] (vA [(sD (dB r010)), (sD (dL r110))]) []) ∧
        (R (V.tup [(E.agg [(sD (dB r010)), (sD (dL r110))]), (E.agg [(sD (dB r03)), (sD (dL r13))]), (eD (dI (0 : Int)))]) [])) ∧
      ((!(r0 == r01)) = false →
        R (V.tup [(E.agg [(sD (dB r02)), (sD (dL r12))]), (E.agg [(sD (dB r03)), (sD (dL r13))]), (eD (dI (0 : Int)))]) []))))))

theorem vc124_ok (a0 : Bool) (a1 : List (List D)) (b0 : Bool) (b1 : List (List D)) {R : V → Heap → Prop} (h : vc124 a0 a1 b0 b1 R) : FnG prog 124 [(vA [(sD (dB a0)), (sD (dL a1))]), (vA [(sD (dB b0)), (sD (dL b1))])] [] R :=
  FnG.vcg hT func124 ntmps124 (.reg 4 [(0, Or.none, 0, 1), (1, Or.none, 1, 1), (2, Or.none, 2, 1), (3, Or.none, 3, 1)] [2, 3, 4, 5] [0, 1, 2, 3] [] <| .exb fun r0 => .exl fun r1 => .exb fun r01 => .exl fun r11 => .drw 0 [(4, ((Or.call (vA [(sD (dB r0)), (sD (dL r1))]) [] []), 0, 0), []), (9, ((Or.call (vA [(sD (dB r01)), (sD (dL r11))]) [] []), 0, 0), []), (10, (Or.none, 0, 0), [0]), (11, (Or.none, 0, 0), [1])] [2, 3, 4, 5] [0, 1, 2, 3] [] <| .ex fun r => .reg 0 [(1, (Or.call (vD (dI r)) [] []), 0, 0)] [2, 3, 4, 5, 21] [0, 1, 2, 3] [] <| .c2 (.r1 [4, 5, 6] [2, 3] <| .nrm [4, 5, 6] [0, 1] <| .ret []) (.exb fun r02 => .exl fun r12 => .exb fun r03 => .exl fun r13 => .reg 2 [(4, (Or.call (V.tup [(E.agg [(sD (dB r02)), (sD (dL r12))]), (E.agg [(sD (dB r03)), (sD (dL r13))])]) [] []), 0, 0), (8, Or.none, 4, 1), (9, Or.none, 5, 1)] [2, 3, 4, 5, 7, 8] [0, 1, 2, 3, 4, 5] [] <| .spl r0 (.ex fun r2 => .reg 0 [(2, (Or.bool true), 0, 0), (4, (Or.call (vD (dI r2)) [] []), 0, 0)] [2, 3, 4, 5, 7, 8, 38] [0, 1, 2, 3, 4, 5] [.old 0] <| .c2 (.exb fun r04 => .exl fun r14 => .exb fun r05 => .exl fun r15 => .drw 0 [(1, ((Or.call (vA [(sD (dB r04)), (sD (dL r14))]) [] []), 0, 0), []), (2, ((Or.call (vA [(sD (dB r05)), (sD (dL r15))]) [] []), 0, 0), []), (3, (Or.none, 0, 0), [4])] [2, 3, 4, 5, 7, 8] [0, 1, 2, 3, 4, 5] [] <| .exb fun r06 => .exl fun r16 => .exb fun r07 => .exl fun r17 => .drw 0 [(2, ((Or.call (vA [(sD (dB r06)), (sD (dL r16))]) [] []), 0, 0), []), (4, ((Or.call (vA [(sD (dB r07)), (sD (dL r17))]) [] []), 0, 0), []), (5, (Or.none, 0, 0), [5])] [2, 3, 4, 5, 7, 8] [0, 1, 2, 3, 4, 5] [] <| .r1 [4, 5, 7, 8, 51] [2, 3, 4, 5] <| .c2 (.exb fun r08 => .exl fun r18 => .reg 0 [(1, (Or.call (vA [(sD (dB r08)), (sD (dL r18))]) [] []), 0, 0)] [4, 5, 7, 8] [0, 1, 2, 3] [] <| .drw 0 [(2, (Or.none, 0, 0), [0]), (3, (Or.none, 0, 0), [1])] [4, 5, 6] [0, 1] [] <| .ret []) (.drw 0 [(2, (Or.none, 0, 0), [0]), (3, (Or.none, 0, 0), [1])] [4, 5, 6] [0, 1] [] <| .ret [])) (.r1 [4, 5, 7, 8, 51] [2, 3, 4, 5] <| .c2 (.exb fun r09 => .exl fun r19 => .reg 0 [(1, (Or.call (vA [(sD (dB r09)), (sD (dL r19))]) [] []), 0, 0)] [4, 5, 7, 8] [0, 1, 2, 3] [] <| .drw 0 [(2, (Or.none, 0, 0), [0]), (3, (Or.none, 0, 0), [1])] [4, 5, 6] [0, 1] [] <| .ret []) (.drw 0 [(2, (Or.none, 0, 0), [0]), (3, (Or.none, 0, 0), [1])] [4, 5, 6] [0, 1] [] <| .ret []))) (.reg 0 [(2, (Or.bool false), 0, 0)] [2, 3, 4, 5, 7, 8, 38] [0, 1, 2, 3, 4, 5] [.old 0] <| .ct false none <| .r1 [4, 5, 7, 8, 51] [2, 3, 4, 5] <| .c2 (.exb fun r010 => .exl fun r110 => .reg 0 [(1, (Or.call (vA [(sD (dB r010)), (sD (dL r110))]) [] []), 0, 0)] [4, 5, 7, 8] [0, 1, 2, 3] [] <| .drw 0 [(2, (Or.none, 0, 0), [0]), (3, (Or.none, 0, 0), [1])] [4, 5, 6] [0, 1] [] <| .ret []) (.drw 0 [(2, (Or.none, 0, 0), [0]), (3, (Or.none, 0, 0), [1])] [4, 5, 6] [0, 1] [] <| .ret []))))
    (by kernel_rfl) (by kernel_rfl) (by kernel_rfl) h

/- f125 torsion/torsionref12.Floor -/
def vc125 (a0 : Bool) (a1 : List (List D)) (b0 : Bool) (b1 : List (List D)) (R : V → Heap → Prop) : Prop :=
  ∃ (r0 : Bool) (r1 : List (List D)) (r01 : Bool) (r11 : List (List D)) (r : Int),
  (FnD prog 124 [(vA [(sD (dB a0)), (sD (dL a1))]), (vA [(sD (dB b0)), (sD (dL b1))])] (V.tup [(E.agg [(sD (dB r0)), (sD (dL r1))]), (E.agg [(sD (dB r01)), (sD (dL r11))]), (eD (dI r))]) []) ∧
  (R (vA [(sD (dB r0)), (sD (dL r1))]) [])

theorem vc125_ok (a0 : Bool) (a1 : List (List D)) (b0 : Bool) (b1 : List (List D)) {R : V → Heap → Prop} (h : vc125 a0 a1 b0 b1 R) : FnG prog 125 [(vA [(sD (dB a0)), (sD (dL a1))]), (vA [(sD (dB b0)), (sD (dL b1))])] [] R :=
  FnG.vcg hT func125 ntmps125 (.reg 3 [(0, Or.none, 0, 1), (1, Or.none, 1, 1), (2, Or.none, 2, 1)] [2, 3, 4] [0, 1, 2] [] <| .exb fun r0 => .exl fun r1 => .exb fun r01 => .exl fun r11 => .ex fun r => .reg 2 [(2, (Or.call (V.tup [(E.agg [(sD (dB r0)), (sD (dL r1))]), (E.agg [(sD (dB r01)), (sD (dL r11))]), (eD (dI r))]) [] []), 0, 0), (7, Or.none, 3, 1), (8, Or.none, 4, 1)] [4, 5] [2, 3] [] <| .r1 [4] [0] <| .ret [])
    (by kernel_rfl) (by kernel_rfl) (by kernel_rfl) h

/- f151 torsion/torsionref01.Sub -/
def vc151 (a0 : Bool) (a1 : List (List D)) (b0 : Bool) (b1 : List (List D)) (R : V → Heap → Prop) : Prop :=
  ∃ (r0 : Bool) (r1 : List (List D)) (r01 : Bool) (r11 : List (List D)),
  (FnD prog 104 [(vA [(sD (dB b0)), (sD (dL b1))])] (vA [(sD (dB r0)), (sD (dL r1))]) []) ∧
  (FnD prog 82 [(vA [(sD (dB a0)), (sD (dL a1))]), (vA [(sD (dB r0)), (sD (dL r1))])] (vA [(sD (dB r01)), (sD (dL r11))]) []) ∧
  (R (vA [(sD (dB r01)), (sD (dL r11))]) [])

theorem vc151_ok (a0 : Bool) (a1 : List (List D)) (b0 : Bool) (b1 : List (List D)) {R : V → Heap → Prop} (h : vc151 a0 a1 b0 b1 R) : FnG prog 151 [(vA [(sD (dB a0)), (sD (dL a1))]), (vA [(sD (dB b0)), (sD (dL b1))])] [] R :=
  FnG.vcg hT func151 ntmps151 (.reg 3 [(0, Or.none, 0, 1), (1, Or.none, 1, 1), (2, Or.none, 2, 1)] [2, 3, 4] [0, 1, 2] [] <| .exb fun r0 => .exl fun r1 => .exb fun r01 => .exl fun r11 => .drw 0 [(2, ((Or.call (vA [(sD (dB r0)), (sD (dL r1))]) [] []), 0, 0), []), (3, ((Or.call (vA [(sD (dB r01)), (sD (dL r11))]) [] []), 0, 0), []), (4, (Or.none, 0, 0), [2])] [4] [2] [] <| .ret [])
    (by kernel_rfl) (by kernel_rfl) (by kernel_rfl) h

/- f152 torsion/torsionref01.divide -/
def vc152 (a : List (List D)) (b : List (List D)) (R : V → Heap → Prop) : Prop :=
  (((b.length : Int) == (1 : Int)) = true →
    ∃ (vx : Int) (r : List (List D)) (r1 : Int),
    (0 ≤ (0 : Int) ∧ (0 : Int) < (b.length : Int)) ∧
    (b[0]? = some [(dU vx)]) ∧
    (FnD prog 161 [(vD (dL a)), (vD (dU vx))] (V.tup [(eD (dL r)), (eD (dU r1))]) []) ∧
    (∃ (r0 : Bool) (r11 : List (List D)) (r01 : Bool) (r12 : List (List D)),
    (FnD prog 71 [(vD (dL r)), (vD (dB false))] (vA [(sD (dB r0)), (sD (dL r11))]) []) ∧
    (FnD prog 71 [(vD (dL [[(dU r1)]])), (vD (dB false))] (vA [(sD (dB r01)), (sD (dL r12))]) []) ∧
    (R (V.tup [(E.agg [(sD (dB r0)), (sD (dL r11))]), (E.agg [(sD (dB r01)), (sD (dL r12))])]) []))) ∧
  (((b.length : Int) == (1 : Int)) = false →
    ∃ (J0 : Int → Prop) (μ0 : Int → Nat),
    J0 (1 : Int) ∧ ∀ (scale : Int), J0 scale →
      ∃ (vx1 : Int),
      (0 ≤ (IntKind.i64.wrap ((b.length : Int) - (1 : Int))) ∧ (IntKind.i64.wrap ((b.length : Int) - (1 : Int))) < (b.length : Int)) ∧
      (b[((IntKind.i64.wrap ((b.length : Int) - (1 : Int)))).toNat]? = some [(dU vx1)]) ∧
      (((decide ((IntKind.u64.wrap ((IntKind.u64.wrap vx1) * (IntKind.u64.wrap scale))) < (2147483648 : Int))) = true →
        J0 (IntKind.u32.wrap ((2 : Int) * scale)) ∧ μ0 (IntKind.u32.wrap ((2 : Int) * scale)) < μ0 scale) ∧
      ((decide ((IntKind.u64.wrap ((IntKind.u64.wrap vx1) * (IntKind.u64.wrap scale))) < (2147483648 : Int))) = false →
        ∃ (r02 : Bool) (r13 : List (List D)),
        (FnD prog 71 [(vD (dL [[(dU scale)]])), (vD (dB false))] (vA [(sD (dB r02)), (sD (dL r13))]) []) ∧
        (∃ (r03 : Bool) (r14 : List (List D)) (r04 : Bool) (r15 : List (List D)) (r05 : Bool) (r16 : List (List D)) (r06 : Bool) (r17 : List (List D)),
        (FnD prog 71 [(vD (dL a)), (vD (dB false))] (vA [(sD (dB r03)), (sD (dL r14))]) []) ∧
        (FnD prog 110 [(vA [(sD (dB r03)), (sD (dL r14))]), (vA [(sD (dB r02)), (sD (dL r13))])] (vA [(sD (dB r04)), (sD (dL r15))]) []) ∧
        (FnD prog 71 [(vD (dL b)), (vD (dB false))] (vA [(sD (dB r05)), (sD (dL r16))]) []) ∧
        (FnD prog 110 [(vA [(sD (dB r05)), (sD (dL r16))]), (vA [(sD (dB r02)), (sD (dL r13))])] (vA [(sD (dB r06)), (sD (dL r17))]) []) ∧
        (∃ (J1 : Bool → (List (List D)) → Bool → (List (List D)) → Prop) (μ1 : Bool → (List (List D)) → Bool → (List (List D)) → Nat),
        J1 r04 r15 false ([] : List (List D)) ∧ ∀ (r07 : Bool) (r18 : List (List D)) (q0 : Bool) (q1 : List (List D)), J1 r07 r18 q0 q1 →
          ∃ (r2 : Bool),
          (FnD prog 88 [(vD (dL r18)), (vD (dL r17))] (vD (dB r2)) []) ∧
          (((!r2) = true →
            ∃ (r08 : Bool) (r19 : List (List D)),
            (FnD prog 162 [(vD (dL r18)), (vD (dL r17))] (vA [(sD (dB r08)), (sD (dL r19))]) []) ∧
            (∃ (r09 : Bool) (r110 : List (List D)),
            (FnD prog 82 [(vA [(sD (dB q0)), (sD (dL q1))]), (vA [(sD (dB r08)), (sD (dL r19))])] (vA [(sD (dB r09)), (sD (dL r110))]) []) ∧
            (∃ (r010 : Bool) (r111 : List (List D)) (r011 : Bool) (r112 : List (List D)),
            (FnD prog 110 [(vA [(sD (dB r08)), (sD (dL r19))]), (vA [(sD (dB r06)), (sD (dL r17))])] (vA [(sD (dB r010)), (sD (dL r111))]) []) ∧
            (FnD prog 151 [(vA [(sD (dB r07)), (sD (dL r18))]), (vA [(sD (dB r010)), (sD (dL r111))])] (vA [(sD (dB r011)), (sD (dL r112))]) []) ∧
            (J1 r011 r112 r09 r110 ∧ μ1 r011 r112 r09 r110 < μ1 r07 r18 q0 q1)))) ∧
          ((!r2) = false →
            ∃ (r3 : List (List D)) (r4 : Int),
            (FnD prog 161 [(vD (dL r18)), (vD (dU scale))] (V.tup [(eD (dL r3)), (eD (dU r4))]) []) ∧
            (∃ (r012 : Bool) (r113 : List (List D)),
            (FnD prog 71 [(vD (dL r3)), (vD (dB false))] (vA [(sD (dB r012)), (sD (dL r113))]) []) ∧
            (R (V.tup [(E.agg [(sD (dB q0)), (sD (dL q1))]), (E.agg [(sD (dB r012)), (sD (dL r113))])]) [])))))))))

theorem vc152_ok (a : List (List D)) (b : List (List D)) {R : V → Heap → Prop} (h : vc152 a b R) : FnG prog 152 [(vD (dL a)), (vD (dL b))] [] R :=
  FnG.vcg hT func152 ntmps152 (.reg 2 [(0, Or.none, 0, 1), (1, Or.none, 1, 1)] [0, 1, 4, 5] [0, 1] [] <| .r1 [0, 1, 4, 5, 18] [0, 1] <| .c2 (.ex fun vx => .exl fun r => .ex fun r1 => .reg 0 [(3, (Or.cells [(dU vx)]), 0, 0), (4, (Or.call (V.tup [(eD (dL r)), (eD (dU r1))]) [] []), 0, 0)] [4, 5, 6, 7] [0, 1] [] <| .exb fun r0 => .exl fun r11 => .exb fun r01 => .exl fun r12 => .reg 1 [(1, (Or.call (vA [(sD (dB r0)), (sD (dL r11))]) [] []), 0, 0), (3, Or.frz, 2, 1), (4, (Or.call (vA [(sD (dB r01)), (sD (dL r12))]) [] []), 0, 0)] [4, 5] [0, 1] [] <| .ret []) (.r1 [0, 1, 4, 5, 8] [0, 1] <| .lp [.i] (fun scale => ⟨[(0, (vD (dL a))), (1, (vD (dL b))), (4, (vP 0 0)), (5, (vP 1 0)), (8, (vD (dU scale)))], [(some (Obj.box [(sD (dB false)), (sD (D.raw (.slice none 0 0)))])), (some (Obj.box [(sD (dB false)), (sD (D.raw (.slice none 0 0)))]))], 86⟩) [.i (1 : Int)] <| .fi fun scale => .beg <| .ex fun vx1 => .reg 0 [(5, (Or.cells [(dU vx1)]), 0, 0)] [0, 1, 4, 5, 8, 42] [0, 1] [] <| .c2 (.r1 [0, 1, 4, 5, 8] [0, 1] <| .bk 0 [.i (IntKind.u32.wrap ((2 : Int) * scale))]) (.exb fun r02 => .exl fun r13 => .reg 2 [(1, Or.frz, 2, 1), (2, (Or.call (vA [(sD (dB r02)), (sD (dL r13))]) [] []), 0, 0), (3, Or.none, 3, 1)] [0, 1, 4, 5, 8, 9] [0, 1, 3] [] <| .exb fun r03 => .exl fun r14 => .exb fun r04 => .exl fun r15 => .exb fun r05 => .exl fun r16 => .exb fun r06 => .exl fun r17 => .drw 3 [(1, ((Or.call (vA [(sD (dB r03)), (sD (dL r14))]) [] []), 0, 0), []), (3, ((Or.call (vA [(sD (dB r04)), (sD (dL r15))]) [] []), 0, 0), []), (5, ((Or.call (vA [(sD (dB r05)), (sD (dL r16))]) [] []), 0, 0), []), (7, ((Or.call (vA [(sD (dB r06)), (sD (dL r17))]) [] []), 0, 0), []), (9, (Or.none, 3, 1), [3]), (10, (Or.none, 4, 1), [4]), (11, (Or.none, 5, 1), [5]), (12, (Or.none, 0, 0), [3]), (13, (Or.none, 0, 0), [4]), (14, (Or.none, 0, 0), [5])] [4, 5, 8, 10, 11, 12] [0, 1, 3, 4, 5] [] <| .nrm [] [4] <| .lp [.b, .l, .b, .l] (fun r07 r18 q0 q1 => ⟨[(4, (vP 0 0)), (5, (vP 1 0)), (8, (vD (dU scale))), (10, (vP 2 0)), (11, (vP 3 0)), (12, (vP 4 0))], [(some (Obj.box [(sD (dB false)), (sD (D.raw (.slice none 0 0)))])), (some (Obj.box [(sD (dB false)), (sD (D.raw (.slice none 0 0)))])), (some (Obj.box [(sD (dB r07)), (sD (dL r18))])), (some (Obj.box [(sD (dB r06)), (sD (dL r17))])), (some (Obj.box [(sD (dB q0)), (sD (dL q1))]))], 86⟩) [.b r04, .l r15, .b false, .l ([] : List (List D))] <| .fb fun r07 => .fl fun r18 => .fb fun q0 => .fl fun q1 => .beg <| .exb fun r2 => .reg 0 [(4, (Or.call (vD (dB r2)) [] []), 0, 0)] [4, 5, 8, 10, 11, 12, 62] [0, 1, 2, 3, 4] [] <| .c2 (.exb fun r08 => .exl fun r19 => .reg 1 [(4, (Or.call (vA [(sD (dB r08)), (sD (dL r19))]) [] []), 0, 0), (5, Or.none, 5, 1)] [4, 5, 8, 10, 11, 12, 13] [0, 1, 2, 3, 4, 5] [] <| .exb fun r09 => .exl fun r110 => .reg 0 [(2, (Or.call (vA [(sD (dB r09)), (sD (dL r110))]) [] []), 0, 0)] [4, 5, 8, 10, 11, 12, 13] [0, 1, 2, 3, 4, 5] [] <| .exb fun r010 => .exl fun r111 => .exb fun r011 => .exl fun r112 => .drw 0 [(3, ((Or.call (vA [(sD (dB r010)), (sD (dL r111))]) [] []), 0, 0), []), (4, ((Or.call (vA [(sD (dB r011)), (sD (dL r112))]) [] []), 0, 0), []), (5, (Or.none, 0, 0), [2])] [4, 5, 8, 10, 11, 12] [0, 1, 2, 3, 4] [] <| .bk 0 [.b r011, .l r112, .b r09, .l r110]) (.exl fun r3 => .ex fun r4 => .reg 0 [(3, (Or.call (V.tup [(eD (dL r3)), (eD (dU r4))]) [] []), 0, 0)] [4, 5, 12, 14] [0, 1, 4] [] <| .exb fun r012 => .exl fun r113 => .drw 0 [(2, ((Or.call (vA [(sD (dB r012)), (sD (dL r113))]) [] []), 0, 0), []), (3, (Or.none, 0, 0), [0]), (4, (Or.none, 0, 0), [1])] [4, 5] [0, 1] [] <| .ret []))))
    (by kernel_rfl) (by kernel_rfl) (by kernel_rfl) h

/- f161 torsion/torsionref01.short -/
def vc161 (a : List (List D)) (d : Int) (R : V → Heap → Prop) : Prop :=
  (0 ≤ (a.length : Int) ∧ (a.length : Int) ≤ (a.length : Int) ∧ (a.length : Int) * (4 : Nat) ≤ 281474976710656) ∧
  (∃ (J0 : (List (List D)) → Int → Int → Prop) (μ0 : (List (List D)) → Int → Int → Nat),
  J0 (List.replicate ((a.length : Int)).toNat [(dU (0 : Int))]) (0 : Int) (IntKind.i64.wrap ((a.length : Int) - (1 : Int))) ∧ ∀ (out : List (List D)) (rest : Int) (i : Int), J0 out rest i →
    ((decide (i ≥ (0 : Int))) = true →
      ∃ (vx : Int),
      (0 ≤ i ∧ i < (a.length : Int)) ∧
      (a[(i).toNat]? = some [(dU vx)]) ∧
      (((IntKind.u64.wrap d) ≠ 0) ∧
      (0 ≤ i ∧ i < (out.length : Int)) ∧
      (J0 (out.set (i).toNat [(dU (IntKind.u32.wrap (IntKind.u64.wrap ((IntKind.u64.wrap ((IntKind.u64.wrap (rest * (4294967296 : Int))) + (IntKind.u64.wrap vx))).tdiv (IntKind.u64.wrap d)))))]) ((IntKind.u64.wrap ((IntKind.u64.wrap (rest * (4294967296 : Int))) + (IntKind.u64.wrap vx))).tmod (IntKind.u64.wrap d)) (IntKind.i64.wrap (i - (1 : Int))) ∧ μ0 (out.set (i).toNat [(dU (IntKind.u32.wrap (IntKind.u64.wrap ((IntKind.u64.wrap ((IntKind.u64.wrap (rest * (4294967296 : Int))) + (IntKind.u64.wrap vx))).tdiv (IntKind.u64.wrap d)))))]) ((IntKind.u64.wrap ((IntKind.u64.wrap (rest * (4294967296 : Int))) + (IntKind.u64.wrap vx))).tmod (IntKind.u64.wrap d)) (IntKind.i64.wrap (i - (1 : Int))) < μ0 out rest i))) ∧
    ((decide (i ≥ (0 : Int))) = false →
      R (V.tup [(eD (dL out)), (eD (dU (IntKind.u32.wrap rest)))]) []))

theorem vc161_ok (a : List (List D)) (d : Int) {R : V → Heap → Prop} (h : vc161 a d R) : FnG prog 161 [(vD (dL a)), (vD (dU d))] [] R :=
  FnG.vcg hT func161 ntmps161 (.r0 [0, 1] <| .reg 1 [(2, Or.none, 0, 1)] [0, 1, 6, 7] [0] [] <| .r1 [0, 1, 6, 7, 8] [0] <| .lp [.l, .i, .i] (fun out rest i => ⟨[(0, (vD (dL a))), (1, (vD (dU d))), (6, (vR 0)), (7, (vD (D.int .u64 rest))), (8, (vD (dI i)))], [(some (Obj.arr 1 out))], 42⟩) [.l (List.replicate ((a.length : Int)).toNat [(dU (0 : Int))]), .i (0 : Int), .i (IntKind.i64.wrap ((a.length : Int) - (1 : Int)))] <| .fl fun out => .fi fun rest => .fi fun i => .beg <| .r1 [0, 1, 6, 7, 8, 16] [0] <| .c2 (.ex fun vx => .reg 0 [(5, (Or.cells [(dU vx)]), 0, 0)] [0, 1, 6, 7, 8] [0] [] <| .r1 [0, 1, 6, 7, 8] [0] <| .reg 0 [] [0, 1, 6, 7, 8] [0] [.old 1] <| .r1 [0, 1, 6, 7, 8] [0] <| .bk 0 [.l (out.set (i).toNat [(dU (IntKind.u32.wrap (IntKind.u64.wrap ((IntKind.u64.wrap ((IntKind.u64.wrap (rest * (4294967296 : Int))) + (IntKind.u64.wrap vx))).tdiv (IntKind.u64.wrap d)))))]), .i ((IntKind.u64.wrap ((IntKind.u64.wrap (rest * (4294967296 : Int))) + (IntKind.u64.wrap vx))).tmod (IntKind.u64.wrap d)), .i (IntKind.i64.wrap (i - (1 : Int)))]) (.r1 [4, 5] [0] <| .frz [0] <| .ret []))
    (by kernel_rfl) (by kernel_rfl) (by kernel_rfl) h

/- f162 torsion/torsionref01.estimate -/
def vc162 (r : List (List D)) (d : List (List D)) (R : V → Heap → Prop) : Prop :=
  ∃ (vx : Int),
  (0 ≤ (IntKind.i64.wrap ((d.length : Int) - (1 : Int))) ∧ (IntKind.i64.wrap ((d.length : Int) - (1 : Int))) < (d.length : Int)) ∧
  (d[((IntKind.i64.wrap ((d.length : Int) - (1 : Int)))).toNat]? = some [(dU vx)]) ∧
  ((((IntKind.i64.wrap ((r.length : Int) - (d.length : Int))) == (0 : Int)) = true →
    ∃ (vx1 : Int) (r0 : Bool) (r1 : List (List D)),
    (0 ≤ (IntKind.i64.wrap ((r.length : Int) - (1 : Int))) ∧ (IntKind.i64.wrap ((r.length : Int) - (1 : Int))) < (r.length : Int)) ∧
    (r[((IntKind.i64.wrap ((r.length : Int) - (1 : Int)))).toNat]? = some [(dU vx1)]) ∧
    ((IntKind.u64.wrap ((IntKind.u64.wrap vx) + (1 : Int))) ≠ 0) ∧
    (FnD prog 16 [(vD (dI (IntKind.i64.wrap (if (IntKind.u64.wrap ((IntKind.u64.wrap vx1).tdiv (IntKind.u64.wrap ((IntKind.u64.wrap vx) + (1 : Int))))) > (1 : Int) then (IntKind.u64.wrap ((IntKind.u64.wrap vx1).tdiv (IntKind.u64.wrap ((IntKind.u64.wrap vx) + (1 : Int))))) else (1 : Int)))))] (vA [(sD (dB r0)), (sD (dL r1))]) []) ∧
    (R (vA [(sD (dB r0)), (sD (dL r1))]) [])) ∧
  (((IntKind.i64.wrap ((r.length : Int) - (d.length : Int))) == (0 : Int)) = false →
    ∃ (vx2 : Int) (vx3 : Int),
    (0 ≤ (IntKind.i64.wrap ((r.length : Int) - (1 : Int))) ∧ (IntKind.i64.wrap ((r.length : Int) - (1 : Int))) < (r.length : Int)) ∧
    (r[((IntKind.i64.wrap ((r.length : Int) - (1 : Int)))).toNat]? = some [(dU vx2)]) ∧
    (0 ≤ (IntKind.i64.wrap ((r.length : Int) - (2 : Int))) ∧ (IntKind.i64.wrap ((r.length : Int) - (2 : Int))) < (r.length : Int)) ∧
    (r[((IntKind.i64.wrap ((r.length : Int) - (2 : Int)))).toNat]? = some [(dU vx3)]) ∧
    ((IntKind.u64.wrap ((IntKind.u64.wrap vx) + (1 : Int))) ≠ 0) ∧
    ((0 ≤ (IntKind.i64.wrap ((IntKind.i64.wrap ((r.length : Int) - (d.length : Int))) - (1 : Int))) ∧ (IntKind.i64.wrap ((IntKind.i64.wrap ((r.length : Int) - (d.length : Int))) - (1 : Int))) ≤ (IntKind.i64.wrap ((IntKind.i64.wrap ((r.length : Int) - (d.length : Int))) - (1 : Int))) ∧ (IntKind.i64.wrap ((IntKind.i64.wrap ((r.length : Int) - (d.length : Int))) - (1 : Int))) * (4 : Nat) ≤ 281474976710656) ∧
    (∃ (r01 : Bool) (r11 : List (List D)),
    (0 ≤ (32 : Int)) ∧
    (((List.replicate ((IntKind.i64.wrap ((IntKind.i64.wrap ((r.length : Int) - (d.length : Int))) - (1 : Int)))).toNat [(dU (0 : Int))]).length + ([[(dU (IntKind.u32.wrap (IntKind.u64.wrap ((IntKind.u64.wrap ((IntKind.u64.wrap ((IntKind.u64.wrap vx2) * (4294967296 : Int))) + (IntKind.u64.wrap vx3))).tdiv (IntKind.u64.wrap ((IntKind.u64.wrap vx) + (1 : Int)))))))], [(dU (IntKind.u32.wrap ((IntKind.u64.wrap ((IntKind.u64.wrap ((IntKind.u64.wrap ((IntKind.u64.wrap vx2) * (4294967296 : Int))) + (IntKind.u64.wrap vx3))).tdiv (IntKind.u64.wrap ((IntKind.u64.wrap vx) + (1 : Int))))).fdiv (2 ^ (min (32 : Int).toNat IntKind.u64.bits)))))]] : List (List D)).length) * 4 ≤ 140737488355328) ∧
    (FnD prog 71 [(vD (dL ((List.replicate ((IntKind.i64.wrap ((IntKind.i64.wrap ((r.length : Int) - (d.length : Int))) - (1 : Int)))).toNat [(dU (0 : Int))]) ++ [[(dU (IntKind.u32.wrap (IntKind.u64.wrap ((IntKind.u64.wrap ((IntKind.u64.wrap ((IntKind.u64.wrap vx2) * (4294967296 : Int))) + (IntKind.u64.wrap vx3))).tdiv (IntKind.u64.wrap ((IntKind.u64.wrap vx) + (1 : Int)))))))], [(dU (IntKind.u32.wrap ((IntKind.u64.wrap ((IntKind.u64.wrap ((IntKind.u64.wrap ((IntKind.u64.wrap vx2) * (4294967296 : Int))) + (IntKind.u64.wrap vx3))).tdiv (IntKind.u64.wrap ((IntKind.u64.wrap vx) + (1 : Int))))).fdiv (2 ^ (min (32 : Int).toNat IntKind.u64.bits)))))]]))), (vD (dB false))] (vA [(sD (dB r01)), (sD (dL r11))]) []) ∧
    (R (vA [(sD (dB r01)), (sD (dL r11))]) [])))))

theorem vc162_ok (r : List (List D)) (d : List (List D)) {R : V → Heap → Prop} (h : vc162 r d R) : FnG prog 162 [(vD (dL r)), (vD (dL d))] [] R :=
  FnG.vcg hT func162 ntmps162 (.reg 1 [(0, Or.none, 0, 1)] [0, 1, 4] [0] [] <| .ex fun vx => .drw 0 [(12, ((Or.cells [(dU vx)]), 0, 0), [])] [0, 4, 5, 6, 7] [0] [] <| .r1 [0, 4, 5, 6, 7, 26] [0] <| .c2 (.ex fun vx1 => .exb fun r0 => .exl fun r1 => .reg 0 [(4, (Or.cells [(dU vx1)]), 0, 0), (10, (Or.call (vA [(sD (dB r0)), (sD (dL r1))]) [] []), 0, 0)] [4] [0] [] <| .ret []) (.ex fun vx2 => .ex fun vx3 => .drw 0 [(4, ((Or.cells [(dU vx2)]), 0, 0), []), (11, ((Or.cells [(dU vx3)]), 0, 0), [])] [4, 5, 8] [0] [] <| .reg 1 [(2, Or.none, 1, 1)] [4, 8, 9] [0, 1] [] <| .exb fun r01 => .exl fun r11 => .reg 2 [(6, Or.none, 2, 1), (7, Or.frz, 3, 1), (8, (Or.call (vA [(sD (dB r01)), (sD (dL r11))]) [] []), 0, 0)] [4] [0] [] <| .ret []))
    (by kernel_rfl) (by kernel_rfl) (by kernel_rfl) h

/- f165 torsion/integer.Abs -/
def vc165 (a0 : Bool) (a1 : List (List D)) (R : V → Heap → Prop) : Prop :=
  R (vA [(sD (dB false)), (sD (dL a1))]) []

theorem vc165_ok (a0 : Bool) (a1 : List (List D)) {R : V → Heap → Prop} (h : vc165 a0 a1 R) : FnG prog 165 [(vA [(sD (dB a0)), (sD (dL a1))])] [] R :=
  FnG.vcg hT func165 ntmps165 (.reg 2 [(0, Or.none, 0, 1), (1, Or.none, 1, 1)] [1, 2] [0, 1] [] <| .r1 [2] [1] <| .ret [])
    (by kernel_rfl) (by kernel_rfl) (by kernel_rfl) h

/- f166 torsion/integer.DivMod -/
def vc166 (a0 : Bool) (a1 : List (List D)) (b0 : Bool) (b1 : List (List D)) (R : V → Heap → Prop) : Prop :=
  (((b1.length : Int) == (0 : Int)) = true →
    R (V.tup [(E.agg [(sD (dB false)), (sD (dL ([] : List (List D))))]), (E.agg [(sD (dB false)), (sD (dL ([] : List (List D))))]), (eD (dI (3 : Int)))]) []) ∧
  (((b1.length : Int) == (0 : Int)) = false →
    ∃ (r : List (List D)) (r1 : List (List D)),
    (FnD prog 167 [(vD (dL a1)), (vD (dL b1))] (V.tup [(eD (dL r)), (eD (dL r1))]) []) ∧
    (∃ (r0 : Bool) (r11 : List (List D)) (r01 : Bool) (r12 : List (List D)),
    (FnD prog 144 [(vD (dL r)), (vD (dB false))] (vA [(sD (dB r0)), (sD (dL r11))]) []) ∧
    (FnD prog 144 [(vD (dL r1)), (vD (dB false))] (vA [(sD (dB r01)), (sD (dL r12))]) []) ∧
    ((a0 = true →
      ((decide ((r12.length : Int) > (0 : Int))) = true →
        ∃ (r02 : Bool) (r13 : List (List D)) (r03 : Bool) (r14 : List (List D)),
        (FnD prog 108 [(vD (dI (1 : Int)))] (vA [(sD (dB r02)), (sD (dL r13))]) []) ∧
        (FnD prog 106 [(vA [(sD (dB r0)), (sD (dL r11))]), (vA [(sD (dB r02)), (sD (dL r13))])] (vA [(sD (dB r03)), (sD (dL r14))]) []) ∧
        (∃ (r2 : List (List D)) (r04 : Bool) (r15 : List (List D)),
        (FnD prog 147 [(vD (dL b1)), (vD (dL r12))] (vD (dL r2)) []) ∧
        (FnD prog 144 [(vD (dL r2)), (vD (dB false))] (vA [(sD (dB r04)), (sD (dL r15))]) []) ∧
        (((!(a0 == b0)) = true →
          ∃ (r05 : Bool) (r16 : List (List D)),
          (FnD prog 100 [(vA [(sD (dB r03)), (sD (dL r14))])] (vA [(sD (dB r05)), (sD (dL r16))]) []) ∧
          (R (V.tup [(E.agg [(sD (dB r05)), (sD (dL r16))]), (E.agg [(sD (dB r04)), (sD (dL r15))]), (eD (dI (0 : Int)))]) [])) ∧
        ((!(a0 == b0)) = false →
          R (V.tup [(E.agg [(sD (dB r03)), (sD (dL r14))]), (E.agg [(sD (dB r04)), (sD (dL r15))]), (eD (dI (0 : Int)))]) [])))) ∧
      ((decide ((r12.length : Int) > (0 : Int))) = false →
        ((!(a0 == b0)) = true →
          ∃ (r06 : Bool) (r17 : List (List D)),
          (FnD prog 100 [(vA [(sD (dB r0)), (sD (dL r11))])] (vA [(sD (dB r06)), (sD (dL r17))]) []) ∧
          (R (V.tup [(E.agg [(sD (dB r06)), (sD (dL r17))]), (E.agg [(sD (dB r01)), (sD (dL r12))]), (eD (dI (0 : Int)))]) [])) ∧
        ((!(a0 == b0)) = false →
          R (V.tup [(E.agg [(sD (dB r0)), (sD (dL r11))]), (E.agg [(sD (dB r01)), (sD (dL r12))]), (eD (dI (0 : Int)))]) []))) ∧
    (a0 = false →
      ((!(a0 == b0)) = true →
        ∃ (r07 : Bool) (r18 : List (List D)),
        (FnD prog 100 [(vA [(sD (dB r0)), (sD (dL r11))])] (vA [(sD (dB r07)), (sD (dL r18))]) []) ∧
        (R (V.tup [(E.agg [(sD (dB r07)), (sD (dL r18))]), (E.agg [(sD (dB r01)), (sD (dL r12))]), (eD (dI (0 : Int)))]) [])) ∧
      ((!(a0 == b0)) = false →
        R (V.tup [(E.agg [(sD (dB r0)), (sD (dL r11))]), (E.agg [(sD (dB r01)), (sD (dL r12))]), (eD (dI (0 : Int)))]) [])))))

theorem vc166_ok (a0 : Bool) (a1 : List (List D)) (b0 : Bool) (b1 : List (List D)) {R : V → Heap → Prop} (h : vc166 a0 a1 b0 b1 R) : FnG prog 166 [(vA [(sD (dB a0)), (sD (dL a1))]), (vA [(sD (dB b0)), (sD (dL b1))])] [] R :=
  FnG.vcg hT func166 ntmps166 (.reg 4 [(0, Or.none, 0, 1), (1, Or.none, 1, 1), (2, Or.none, 2, 1), (3, Or.none, 3, 1)] [2, 3, 4, 5] [0, 1, 2, 3] [] <| .r1 [2, 3, 4, 5, 14] [0, 1, 2, 3] <| .c2 (.r1 [4, 5, 6] [2, 3] <| .nrm [4, 5, 6] [0, 1] <| .ret []) (.exl fun r => .exl fun r1 => .reg 0 [(4, (Or.call (V.tup [(eD (dL r)), (eD (dL r1))]) [] []), 0, 0)] [2, 3, 4, 5, 7, 8] [0, 1, 2, 3] [] <| .exb fun r0 => .exl fun r11 => .exb fun r01 => .exl fun r12 => .reg 2 [(1, (Or.call (vA [(sD (dB r0)), (sD (dL r11))]) [] []), 0, 0), (3, (Or.call (vA [(sD (dB r01)), (sD (dL r12))]) [] []), 0, 0), (4, Or.none, 4, 1), (5, Or.none, 5, 1)] [2, 3, 4, 5, 9, 10] [0, 1, 2, 3, 4, 5] [] <| .spl a0 (.reg 0 [(2, (Or.bool true), 0, 0)] [2, 3, 4, 5, 9, 10, 36] [0, 1, 2, 3, 4, 5] [.old 0] <| .c2 (.exb fun r02 => .exl fun r13 => .exb fun r03 => .exl fun r14 => .drw 0 [(1, ((Or.call (vA [(sD (dB r02)), (sD (dL r13))]) [] []), 0, 0), []), (2, ((Or.call (vA [(sD (dB r03)), (sD (dL r14))]) [] []), 0, 0), []), (3, (Or.none, 0, 0), [4])] [2, 3, 4, 5, 9, 10] [0, 1, 2, 3, 4, 5] [] <| .exl fun r2 => .exb fun r04 => .exl fun r15 => .reg 0 [(4, (Or.call (vD (dL r2)) [] []), 0, 0), (5, (Or.call (vA [(sD (dB r04)), (sD (dL r15))]) [] []), 0, 0)] [2, 3, 4, 5, 9, 10] [0, 1, 2, 3, 4, 5] [] <| .r1 [4, 5, 9, 10, 50] [2, 3, 4, 5] <| .c2 (.exb fun r05 => .exl fun r16 => .reg 0 [(1, (Or.call (vA [(sD (dB r05)), (sD (dL r16))]) [] []), 0, 0)] [4, 5, 9, 10] [0, 1, 2, 3] [] <| .drw 0 [(2, (Or.none, 0, 0), [0]), (3, (Or.none, 0, 0), [1])] [4, 5, 6] [0, 1] [] <| .ret []) (.drw 0 [(2, (Or.none, 0, 0), [0]), (3, (Or.none, 0, 0), [1])] [4, 5, 6] [0, 1] [] <| .ret [])) (.r1 [4, 5, 9, 10, 50] [2, 3, 4, 5] <| .c2 (.exb fun r06 => .exl fun r17 => .reg 0 [(1, (Or.call (vA [(sD (dB r06)), (sD (dL r17))]) [] []), 0, 0)] [4, 5, 9, 10] [0, 1, 2, 3] [] <| .drw 0 [(2, (Or.none, 0, 0), [0]), (3, (Or.none, 0, 0), [1])] [4, 5, 6] [0, 1] [] <| .ret []) (.drw 0 [(2, (Or.none, 0, 0), [0]), (3, (Or.none, 0, 0), [1])] [4, 5, 6] [0, 1] [] <| .ret []))) (.reg 0 [(2, (Or.bool false), 0, 0)] [2, 3, 4, 5, 9, 10, 36] [0, 1, 2, 3, 4, 5] [.old 0] <| .ct false none <| .r1 [4, 5, 9, 10, 50] [2, 3, 4, 5] <| .c2 (.exb fun r07 => .exl fun r18 => .reg 0 [(1, (Or.call (vA [(sD (dB r07)), (sD (dL r18))]) [] []), 0, 0)] [4, 5, 9, 10] [0, 1, 2, 3] [] <| .drw 0 [(2, (Or.none, 0, 0), [0]), (3, (Or.none, 0, 0), [1])] [4, 5, 6] [0, 1] [] <| .ret []) (.drw 0 [(2, (Or.none, 0, 0), [0]), (3, (Or.none, 0, 0), [1])] [4, 5, 6] [0, 1] [] <| .ret []))))
    (by kernel_rfl) (by kernel_rfl) (by kernel_rfl) h

/- f167 torsion/integer.divide -/
def vc167 (a : List (List D)) (b : List (List D)) (R : V → Heap → Prop) : Prop :=
  ∃ (r : Int),
  (FnD prog 146 [(vD (dL a)), (vD (dL b))] (vD (dI r)) []) ∧
  (((decide (r < (0 : Int))) = true →
    ∃ (r1 : List (List D)),
    (FnD prog 168 [(vD (dL a))] (vD (dL r1)) []) ∧
    (R (V.tup [(eD (dL ([] : List (List D)))), (eD (dL r1))]) [])) ∧
  ((decide (r < (0 : Int))) = false →
    (((b.length : Int) == (1 : Int)) = true →
      ∃ (vx : Int) (r2 : List (List D)) (r3 : Int),
      (0 ≤ (0 : Int) ∧ (0 : Int) < (b.length : Int)) ∧
      (b[0]? = some [(dU vx)]) ∧
      (FnD prog 169 [(vD (dL a)), (vD (dU vx))] (V.tup [(eD (dL r2)), (eD (dU r3))]) []) ∧
      (R (V.tup [(eD (dL r2)), (eD (dL [[(dU r3)]]))]) [])) ∧
    (((b.length : Int) == (1 : Int)) = false →
      ∃ (r4 : List (List D)) (r5 : List (List D)),
      (FnD prog 170 [(vD (dL a)), (vD (dL b))] (V.tup [(eD (dL r4)), (eD (dL r5))]) []) ∧
      (R (V.tup [(eD (dL r4)), (eD (dL r5))]) []))))

theorem vc167_ok (a : List (List D)) (b : List (List D)) {R : V → Heap → Prop} (h : vc167 a b R) : FnG prog 167 [(vD (dL a)), (vD (dL b))] [] R :=
  FnG.vcg hT func167 ntmps167 (.r0 [0, 1] <| .ex fun r => .reg 0 [(2, (Or.call (vD (dI r)) [] []), 0, 0)] [0, 1, 8] [] [] <| .c2 (.exl fun r1 => .reg 0 [(1, (Or.call (vD (dL r1)) [] []), 0, 0)] [4, 5] [] [] <| .nrm [4, 5] [] <| .ret []) (.r0 [0, 1, 15] <| .c2 (.ex fun vx => .exl fun r2 => .ex fun r3 => .reg 0 [(3, (Or.cells [(dU vx)]), 0, 0), (4, (Or.call (V.tup [(eD (dL r2)), (eD (dU r3))]) [] []), 0, 0)] [6, 7] [] [] <| .reg 1 [(2, Or.none, 0, 1)] [4, 5] [0] [] <| .frz [0] <| .ret []) (.exl fun r4 => .exl fun r5 => .reg 0 [(2, (Or.call (V.tup [(eD (dL r4)), (eD (dL r5))]) [] []), 0, 0)] [4, 5] [] [] <| .ret [])))
    (by kernel_rfl) (by kernel_rfl) (by kernel_rfl) h

/- f159 torsion/oplog.least -/
def vc159 (a : List (List D)) (top : Int) (c : Int) (R : V → Heap → Prop) : Prop :=
  ∃ (J0 : Int → Int → Prop) (μ0 : Int → Int → Nat),
  J0 (-1 : Int) top ∧ ∀ (best : Int) (i : Int), J0 best i →
    ((decide (i < (a.length : Int))) = true →
      ∃ (vx : List (List D)) (x0 : Bool) (x1 : List (List D)) (r : Int),
      (0 ≤ i ∧ i < (a.length : Int)) ∧
      (a[(i).toNat]? = some [(dL vx)]) ∧
      (0 ≤ c ∧ c < (vx.length : Int)) ∧
      (vx[(c).toNat]? = some [(dB x0), (dL x1)]) ∧
      (FnD prog 91 [(vA [(sD (dB x0)), (sD (dL x1))])] (vD (dI r)) []) ∧
      (((r != (0 : Int)) = true →
        ((decide (best < (0 : Int))) = true →
          J0 i (IntKind.i64.wrap (i + (1 : Int))) ∧ μ0 i (IntKind.i64.wrap (i + (1 : Int))) < μ0 best i) ∧
        ((decide (best < (0 : Int))) = false →
          ∃ (r0 : Bool) (r1 : List (List D)) (vx1 : List (List D)) (x01 : Bool) (x11 : List (List D)) (r01 : Bool) (r11 : List (List D)) (r2 : Int),
          (FnD prog 165 [(vA [(sD (dB x0)), (sD (dL x1))])] (vA [(sD (dB r0)), (sD (dL r1))]) []) ∧
          (0 ≤ best ∧ best < (a.length : Int)) ∧
          (a[(best).toNat]? = some [(dL vx1)]) ∧
          (0 ≤ c ∧ c < (vx1.length : Int)) ∧
          (vx1[(c).toNat]? = some [(dB x01), (dL x11)]) ∧
          (FnD prog 165 [(vA [(sD (dB x01)), (sD (dL x11))])] (vA [(sD (dB r01)), (sD (dL r11))]) []) ∧
          (FnD prog 148 [(vA [(sD (dB r0)), (sD (dL r1))]), (vA [(sD (dB r01)), (sD (dL r11))])] (vD (dI r2)) []) ∧
          (((decide (r2 < (0 : Int))) = true →
            J0 i (IntKind.i64.wrap (i + (1 : Int))) ∧ μ0 i (IntKind.i64.wrap (i + (1 : Int))) < μ0 best i) ∧
          ((decide (r2 < (0 : Int))) = false →
            J0 best (IntKind.i64.wrap (i + (1 : Int))) ∧ μ0 best (IntKind.i64.wrap (i + (1 : Int))) < μ0 best i)))) ∧
      ((r != (0 : Int)) = false →
        J0 best (IntKind.i64.wrap (i + (1 : Int))) ∧ μ0 best (IntKind.i64.wrap (i + (1 : Int))) < μ0 best i))) ∧
    ((decide (i < (a.length : Int))) = false →
      R (vD (dI best)) [])

theorem vc159_ok (a : List (List D)) (top : Int) (c : Int) {R : V → Heap → Prop} (h : vc159 a top c R) : FnG prog 159 [(vD (dL a)), (vD (dI top)), (vD (dI c))] [] R :=
  FnG.vcg hT func159 ntmps159 (.r0 [0, 1, 2] <| .r0 [0, 1, 2, 7] <| .r0 [0, 2, 7, 8] <| .lp [.i, .i] (fun best i => ⟨[(0, (vD (dL a))), (2, (vD (dI c))), (7, (vD (dI best))), (8, (vD (dI i)))], [], 51⟩) [.i (-1 : Int), .i top] <| .fi fun best => .fi fun i => .beg <| .r0 [0, 2, 7, 8, 13] <| .c2 (.exl fun vx => .exb fun x0 => .exl fun x1 => .ex fun r => .ob (0 ≤ i ∧ i < (a.length : Int)) <| .ob (a[(i).toNat]? = some [(dL vx)]) <| .ob (0 ≤ c ∧ c < (vx.length : Int)) <| .ob (vx[(c).toNat]? = some [(dB x0), (dL x1)]) <| .ob (FnD prog 91 [(vA [(sD (dB x0)), (sD (dL x1))])] (vD (dI r)) []) <| .spl ((r != (0 : Int))) (.spl ((decide (best < (0 : Int)))) (.drw 0 [(3, ((Or.cells [(dL vx)]), 0, 0), []), (6, ((Or.cells [(dB x0), (dL x1)]), 0, 0), []), (7, ((Or.call (vD (dI r)) [] []), 0, 0), []), (9, ((Or.bool true), 0, 0), []), (12, ((Or.bool true), 0, 0), [])] [0, 2, 7, 8, 48] [] [.old 6, .old 5, .old 4, .old 3, .old 2, .old 1, .old 0] <| .ct true none <| .r0 [0, 2, 7, 8] <| .r0 [0, 2, 7, 8] <| .bk 0 [.i i, .i (IntKind.i64.wrap (i + (1 : Int)))]) (.exb fun r0 => .exl fun r1 => .exl fun vx1 => .exb fun x01 => .exl fun x11 => .exb fun r01 => .exl fun r11 => .ex fun r2 => .drw 0 [(3, ((Or.cells [(dL vx)]), 0, 0), []), (6, ((Or.cells [(dB x0), (dL x1)]), 0, 0), []), (7, ((Or.call (vD (dI r)) [] []), 0, 0), []), (9, ((Or.bool true), 0, 0), []), (12, ((Or.bool false), 0, 0), []), (16, ((Or.cells [(dL vx)]), 0, 0), []), (19, ((Or.cells [(dB x0), (dL x1)]), 0, 0), []), (20, ((Or.call (vA [(sD (dB r0)), (sD (dL r1))]) [] []), 0, 0), []), (24, ((Or.cells [(dL vx1)]), 0, 0), []), (27, ((Or.cells [(dB x01), (dL x11)]), 0, 0), []), (28, ((Or.call (vA [(sD (dB r01)), (sD (dL r11))]) [] []), 0, 0), []), (29, ((Or.call (vD (dI r2)) [] []), 0, 0), [])] [0, 2, 7, 8, 48] [] [.old 6, .old 5, .old 4, .old 3, .old 2, .old 1, .old 0, .old 6, .old 5, .old 4, .old 3] <| .c2 (.r0 [0, 2, 7, 8] <| .r0 [0, 2, 7, 8] <| .bk 0 [.i i, .i (IntKind.i64.wrap (i + (1 : Int)))]) (.r0 [0, 2, 7, 8] <| .bk 0 [.i best, .i (IntKind.i64.wrap (i + (1 : Int)))]))) (.drw 0 [(3, ((Or.cells [(dL vx)]), 0, 0), []), (6, ((Or.cells [(dB x0), (dL x1)]), 0, 0), []), (7, ((Or.call (vD (dI r)) [] []), 0, 0), []), (9, ((Or.bool false), 0, 0), [])] [0, 2, 7, 8, 48] [] [.old 5, .old 4, .old 3, .old 2, .old 1, .old 0] <| .ct false none <| .r0 [0, 2, 7, 8] <| .bk 0 [.i best, .i (IntKind.i64.wrap (i + (1 : Int)))])) (.r0 [6] <| .ret []))
    (by kernel_rfl) (by kernel_rfl) (by kernel_rfl) h

/- f160 torsion/oplog.by -/
def vc160 (a : List (List D)) (i : Int) (top : Int) (c : Int) (R : V → Heap → Prop) : Prop :=
  ∃ (vx : List (List D)) (x0 : Bool) (x1 : List (List D)) (vx1 : List (List D)) (x01 : Bool) (x11 : List (List D)) (r0 : Bool) (r1 : List (List D)) (r01 : Bool) (r11 : List (List D)) (r : Int),
  (0 ≤ i ∧ i < (a.length : Int)) ∧
  (a[(i).toNat]? = some [(dL vx)]) ∧
  (0 ≤ c ∧ c < (vx.length : Int)) ∧
  (vx[(c).toNat]? = some [(dB x0), (dL x1)]) ∧
  (0 ≤ top ∧ top < (a.length : Int)) ∧
  (a[(top).toNat]? = some [(dL vx1)]) ∧
  (0 ≤ c ∧ c < (vx1.length : Int)) ∧
  (vx1[(c).toNat]? = some [(dB x01), (dL x11)]) ∧
  (FnD prog 166 [(vA [(sD (dB x0)), (sD (dL x1))]), (vA [(sD (dB x01)), (sD (dL x11))])] (V.tup [(E.agg [(sD (dB r0)), (sD (dL r1))]), (E.agg [(sD (dB r01)), (sD (dL r11))]), (eD (dI r))]) []) ∧
  (∃ (r02 : Bool) (r12 : List (List D)),
  (FnD prog 100 [(vA [(sD (dB r0)), (sD (dL r1))])] (vA [(sD (dB r02)), (sD (dL r12))]) []) ∧
  (R (vA [(sD (dI (3 : Int))), (sD (dI i)), (sD (dI top)), (sD (dB r02)), (sD (dL r12))]) []))

theorem vc160_ok (a : List (List D)) (i : Int) (top : Int) (c : Int) {R : V → Heap → Prop} (h : vc160 a i top c R) : FnG prog 160 [(vD (dL a)), (vD (dI i)), (vD (dI top)), (vD (dI c))] [] R :=
  FnG.vcg hT func160 ntmps160 (.reg 1 [(0, Or.none, 0, 1)] [0, 1, 2, 3, 8] [0] [] <| .exl fun vx => .exb fun x0 => .exl fun x1 => .exl fun vx1 => .exb fun x01 => .exl fun x11 => .exb fun r0 => .exl fun r1 => .exb fun r01 => .exl fun r11 => .ex fun r => .drw 2 [(3, ((Or.cells [(dL vx)]), 0, 0), []), (6, ((Or.cells [(dB x0), (dL x1)]), 0, 0), []), (10, ((Or.cells [(dL vx1)]), 0, 0), []), (13, ((Or.cells [(dB x01), (dL x11)]), 0, 0), []), (14, ((Or.call (V.tup [(E.agg [(sD (dB r0)), (sD (dL r1))]), (E.agg [(sD (dB r01)), (sD (dL r11))]), (eD (dI r))]) [] []), 0, 0), []), (19, (Or.none, 1, 1), [1]), (20, (Or.none, 2, 1), [2]), (21, (Or.none, 0, 0), [1]), (22, (Or.none, 0, 0), [2])] [1, 2, 8, 9] [0, 1] [] <| .exb fun r02 => .exl fun r12 => .reg 0 [(3, (Or.call (vA [(sD (dB r02)), (sD (dL r12))]) [] []), 0, 0)] [8] [0] [] <| .ret [])
    (by kernel_rfl) (by kernel_rfl) (by kernel_rfl) h

/- f69 torsion/torsionref12.Form -/
def vc69 (a0 : Int) (a1 : Int) (a2 : List (List D)) (R : V → Heap → Prop) : Prop :=
  ∃ (b : Int) (b1 : Int) (b2 : Int) (b3 : Int) (b4 : Int) (b5 : Int) (m : List (List (List D))) (m1 : List (List (List D))) (m2 : List (List (List D))),
  (FnO prog 120 [(vA [(sD (dI a0)), (sD (dI a1)), (sD (dL a2))])] [] (V.e (E.sc (S.ptr 0 0))) [(some (Obj.box [(sD (dI b)), (sD (dI b1)), (S.ref 1), (sD (dI b2)), (sD (dI b3)), (S.ref 2), (sD (dI b4)), (sD (dI b5)), (S.ref 3)])), (some (Obj.mat 2 m)), (some (Obj.mat 2 m1)), (some (Obj.mat 2 m2))]) ∧
  (∃ (J0 : Int → Int → Int → Int → Int → Int → (List (List (List D))) → (List (List (List D))) → (List (List (List D))) → Int → Int → Prop) (μ0 : Int → Int → Int → Int → Int → Int → (List (List (List D))) → (List (List (List D))) → (List (List (List D))) → Int → Int → Nat),
  J0 b b1 b2 b3 b4 b5 m m1 m2 (0 : Int) (0 : Int) ∧ ∀ (w0 : Int) (w1 : Int) (w3 : Int) (w4 : Int) (w6 : Int) (w7 : Int) (o3 : List (List (List D))) (o4 : List (List (List D))) (o5 : List (List (List D))) (top : Int) (c : Int), J0 w0 w1 w3 w4 w6 w7 o3 o4 o5 top c →
    ((decide (c < a1)) = true →
      ((decide (top < a0)) = true →
        ∃ (J1 : Int → Int → Int → Int → Int → Int → (List (List (List D))) → (List (List (List D))) → (List (List (List D))) → Int → Prop) (μ1 : Int → Int → Int → Int → Int → Int → (List (List (List D))) → (List (List (List D))) → (List (List (List D))) → Int → Nat),
        J1 w0 w1 w3 w4 w6 w7 o3 o4 o5 (IntKind.i64.wrap (top + (1 : Int))) ∧ ∀ (w01 : Int) (w11 : Int) (w31 : Int) (w41 : Int) (w61 : Int) (w71 : Int) (o31 : List (List (List D))) (o41 : List (List (List D))) (o51 : List (List (List D))) (i : Int), J1 w01 w11 w31 w41 w61 w71 o31 o41 o51 i →
          ((decide (i < a0)) = true →
            ∃ (J2 : Int → Int → Int → Int → Int → Int → (List (List (List D))) → (List (List (List D))) → (List (List (List D))) → Prop) (μ2 : Int → Int → Int → Int → Int → Int → (List (List (List D))) → (List (List (List D))) → (List (List (List D))) → Nat),
            J2 w01 w11 w31 w41 w61 w71 o31 o41 o51 ∧ ∀ (w02 : Int) (w12 : Int) (w32 : Int) (w42 : Int) (w62 : Int) (w72 : Int) (o32 : List (List (List D))) (o42 : List (List (List D))) (o52 : List (List (List D))), J2 w02 w12 w32 w42 w62 w72 o32 o42 o52 →
              ∃ (x0 : Bool) (x1 : List (List D)) (r : Int),
              (0 ≤ i ∧ i < (o32.length : Int)) ∧
              (∃ l, o32[(i).toNat]? = some l ∧ 0 ≤ c ∧ c < (l.length : Int)) ∧
              (at2 o32 (i).toNat (c).toNat = some [(dB x0), (dL x1)]) ∧
              (FnD prog 92 [(vA [(sD (dB x0)), (sD (dL x1))])] (vD (dI r)) []) ∧
              (((r != (0 : Int)) = true →
                ∃ (x01 : Bool) (x11 : List (List D)) (r1 : Int),
                (0 ≤ top ∧ top < (o32.length : Int)) ∧
                (∃ l, o32[(top).toNat]? = some l ∧ 0 ≤ c ∧ c < (l.length : Int)) ∧
                (at2 o32 (top).toNat (c).toNat = some [(dB x01), (dL x11)]) ∧
                (FnD prog 92 [(vA [(sD (dB x01)), (sD (dL x11))])] (vD (dI r1)) []) ∧
                (((r1 != (0 : Int)) = true →
                  ∃ (r0 : Bool) (r11 : List (List D)) (r01 : Bool) (r12 : List (List D)) (r2 : Int),
                  (FnD prog 124 [(vA [(sD (dB x01)), (sD (dL x11))]), (vA [(sD (dB x0)), (sD (dL x1))])] (V.tup [(E.agg [(sD (dB r0)), (sD (dL r11))]), (E.agg [(sD (dB r01)), (sD (dL r12))]), (eD (dI r2))]) []) ∧
                  (∃ (r02 : Bool) (r13 : List (List D)) (b6 : Int) (b7 : Int) (b8 : Int) (b9 : Int) (b10 : Int) (b11 : Int) (m3 : List (List (List D))) (m4 : List (List (List D))) (m5 : List (List (List D))),
                  (FnD prog 104 [(vA [(sD (dB r0)), (sD (dL r11))])] (vA [(sD (dB r02)), (sD (dL r13))]) []) ∧
                  (FnO prog 123 [(V.e (E.sc (S.ptr 0 0))), (vD (dI top)), (vD (dI i)), (vA [(sD (dB r02)), (sD (dL r13))])] [(some (Obj.box [(sD (dI w02)), (sD (dI w12)), (S.ref 1), (sD (dI w32)), (sD (dI w42)), (S.ref 2), (sD (dI w62)), (sD (dI w72)), (S.ref 3)])), (some (Obj.mat 2 o32)), (some (Obj.mat 2 o42)), (some (Obj.mat 2 o52))] (V.tup []) [(some (Obj.box [(sD (dI b6)), (sD (dI b7)), (S.ref 1), (sD (dI b8)), (sD (dI b9)), (S.ref 2), (sD (dI b10)), (sD (dI b11)), (S.ref 3)])), (some (Obj.mat 2 m3)), (some (Obj.mat 2 m4)), (some (Obj.mat 2 m5))]) ∧
                  (∃ (b12 : Int) (b13 : Int) (b14 : Int) (b15 : Int) (b16 : Int) (b17 : Int) (m6 : List (List (List D))) (m7 : List (List (List D))) (m8 : List (List (List D))),
                  (FnO prog 121 [(V.e (E.sc (S.ptr 0 0))), (vD (dI top)), (vD (dI i))] [(some (Obj.box [(sD (dI b6)), (sD (dI b7)), (S.ref 1), (sD (dI b8)), (sD (dI b9)), (S.ref 2), (sD (dI b10)), (sD (dI b11)), (S.ref 3)])), (some (Obj.mat 2 m3)), (some (Obj.mat 2 m4)), (some (Obj.mat 2 m5))] (V.tup []) [(some (Obj.box [(sD (dI b12)), (sD (dI b13)), (S.ref 4), (sD (dI b14)), (sD (dI b15)), (S.ref 5), (sD (dI b16)), (sD (dI b17)), (S.ref 3)])), (some (Obj.fwd (S.ref 4))), (some (Obj.fwd (S.ref 5))), (some (Obj.mat 2 m6)), (some (Obj.mat 2 m7)), (some (Obj.mat 2 m8))]) ∧
                  (J2 b12 b13 b14 b15 b16 b17 m7 m8 m6 ∧ μ2 b12 b13 b14 b15 b16 b17 m7 m8 m6 < μ2 w02 w12 w32 w42 w62 w72 o32 o42 o52)))) ∧
                ((r1 != (0 : Int)) = false →
                  ∃ (b18 : Int) (b19 : Int) (b20 : Int) (b21 : Int) (b22 : Int) (b23 : Int) (m9 : List (List (List D))) (m10 : List (List (List D))) (m11 : List (List (List D))),
                  (FnO prog 121 [(V.e (E.sc (S.ptr 0 0))), (vD (dI top)), (vD (dI i))] [(some (Obj.box [(sD (dI w02)), (sD (dI w12)), (S.ref 1), (sD (dI w32)), (sD (dI w42)), (S.ref 2), (sD (dI w62)), (sD (dI w72)), (S.ref 3)])), (some (Obj.mat 2 o32)), (some (Obj.mat 2 o42)), (some (Obj.mat 2 o52))] (V.tup []) [(some (Obj.box [(sD (dI b18)), (sD (dI b19)), (S.ref 4), (sD (dI b20)), (sD (dI b21)), (S.ref 5), (sD (dI b22)), (sD (dI b23)), (S.ref 3)])), (some (Obj.fwd (S.ref 4))), (some (Obj.fwd (S.ref 5))), (some (Obj.mat 2 m9)), (some (Obj.mat 2 m10)), (some (Obj.mat 2 m11))]) ∧
                  (J2 b18 b19 b20 b21 b22 b23 m10 m11 m9 ∧ μ2 b18 b19 b20 b21 b22 b23 m10 m11 m9 < μ2 w02 w12 w32 w42 w62 w72 o32 o42 o52)))) ∧
              ((r != (0 : Int)) = false →
                J1 w02 w12 w32 w42 w62 w72 o32 o42 o52 (IntKind.i64.wrap (i + (1 : Int))) ∧ μ1 w02 w12 w32 w42 w62 w72 o32 o42 o52 (IntKind.i64.wrap (i + (1 : Int))) < μ1 w01 w11 w31 w41 w61 w71 o31 o41 o51 i))) ∧
          ((decide (i < a0)) = false →
            ∃ (x02 : Bool) (x12 : List (List D)) (r3 : Int),
            (0 ≤ top ∧ top < (o31.length : Int)) ∧
            (∃ l, o31[(top).toNat]? = some l ∧ 0 ≤ c ∧ c < (l.length : Int)) ∧
            (at2 o31 (top).toNat (c).toNat = some [(dB x02), (dL x12)]) ∧
            (FnD prog 92 [(vA [(sD (dB x02)), (sD (dL x12))])] (vD (dI r3)) []) ∧
            (((r3 == (0 : Int)) = true →
              J0 w01 w11 w31 w41 w61 w71 o31 o41 o51 top (IntKind.i64.wrap (c + (1 : Int))) ∧ μ0 w01 w11 w31 w41 w61 w71 o31 o41 o51 top (IntKind.i64.wrap (c + (1 : Int))) < μ0 w0 w1 w3 w4 w6 w7 o3 o4 o5 top c) ∧
            ((r3 == (0 : Int)) = false →
              ∃ (r4 : Int),
              (FnD prog 92 [(vA [(sD (dB x02)), (sD (dL x12))])] (vD (dI r4)) []) ∧
              (((decide (r4 < (0 : Int))) = true →
                ∃ (b24 : Int) (b25 : Int) (b26 : Int) (b27 : Int) (b28 : Int) (b29 : Int) (m12 : List (List (List D))) (m13 : List (List (List D))) (m14 : List (List (List D))),
                (FnO prog 122 [(V.e (E.sc (S.ptr 0 0))), (vD (dI top))] [(some (Obj.box [(sD (dI w01)), (sD (dI w11)), (S.ref 1), (sD (dI w31)), (sD (dI w41)), (S.ref 2), (sD (dI w61)), (sD (dI w71)), (S.ref 3)])), (some (Obj.mat 2 o31)), (some (Obj.mat 2 o41)), (some (Obj.mat 2 o51))] (V.tup []) [(some (Obj.box [(sD (dI b24)), (sD (dI b25)), (S.ref 1), (sD (dI b26)), (sD (dI b27)), (S.ref 2), (sD (dI b28)), (sD (dI b29)), (S.ref 3)])), (some (Obj.mat 2 m12)), (some (Obj.mat 2 m13)), (some (Obj.mat 2 m14))]) ∧
                (∃ (J3 : Int → Int → Int → Int → Int → Int → (List (List (List D))) → (List (List (List D))) → (List (List (List D))) → Int → Prop) (μ3 : Int → Int → Int → Int → Int → Int → (List (List (List D))) → (List (List (List D))) → (List (List (List D))) → Int → Nat),
                J3 b24 b25 b26 b27 b28 b29 m12 m13 m14 (0 : Int) ∧ ∀ (w03 : Int) (w13 : Int) (w33 : Int) (w43 : Int) (w63 : Int) (w73 : Int) (o33 : List (List (List D))) (o43 : List (List (List D))) (o53 : List (List (List D))) (i1 : Int), J3 w03 w13 w33 w43 w63 w73 o33 o43 o53 i1 →
                  ((decide (i1 < top)) = true →
                    ∃ (x03 : Bool) (x13 : List (List D)) (x04 : Bool) (x14 : List (List D)) (r03 : Bool) (r14 : List (List D)) (r04 : Bool) (r15 : List (List D)) (b30 : Int) (b31 : Int) (b32 : Int) (b33 : Int) (b34 : Int) (b35 : Int) (m15 : List (List (List D))) (m16 : List (List (List D))) (m17 : List (List (List D))),
                    (0 ≤ i1 ∧ i1 < (o33.length : Int)) ∧
                    (∃ l, o33[(i1).toNat]? = some l ∧ 0 ≤ c ∧ c < (l.length : Int)) ∧
                    (at2 o33 (i1).toNat (c).toNat = some [(dB x03), (dL x13)]) ∧
                    (0 ≤ top ∧ top < (o33.length : Int)) ∧
                    (∃ l, o33[(top).toNat]? = some l ∧ 0 ≤ c ∧ c < (l.length : Int)) ∧
                    (at2 o33 (top).toNat (c).toNat = some [(dB x04), (dL x14)]) ∧
                    (FnD prog 125 [(vA [(sD (dB x03)), (sD (dL x13))]), (vA [(sD (dB x04)), (sD (dL x14))])] (vA [(sD (dB r03)), (sD (dL r14))]) []) ∧
                    (FnD prog 104 [(vA [(sD (dB r03)), (sD (dL r14))])] (vA [(sD (dB r04)), (sD (dL r15))]) []) ∧
                    (FnO prog 123 [(V.e (E.sc (S.ptr 0 0))), (vD (dI i1)), (vD (dI top)), (vA [(sD (dB r04)), (sD (dL r15))])] [(some (Obj.box [(sD (dI w03)), (sD (dI w13)), (S.ref 1), (sD (dI w33)), (sD (dI w43)), (S.ref 2), (sD (dI w63)), (sD (dI w73)), (S.ref 3)])), (some (Obj.mat 2 o33)), (some (Obj.mat 2 o43)), (some (Obj.mat 2 o53))] (V.tup []) [(some (Obj.box [(sD (dI b30)), (sD (dI b31)), (S.ref 1), (sD (dI b32)), (sD (dI b33)), (S.ref 2), (sD (dI b34)), (sD (dI b35)), (S.ref 3)])), (some (Obj.mat 2 m15)), (some (Obj.mat 2 m16)), (some (Obj.mat 2 m17))]) ∧
                    (J3 b30 b31 b32 b33 b34 b35 m15 m16 m17 (IntKind.i64.wrap (i1 + (1 : Int))) ∧ μ3 b30 b31 b32 b33 b34 b35 m15 m16 m17 (IntKind.i64.wrap (i1 + (1 : Int))) < μ3 w03 w13 w33 w43 w63 w73 o33 o43 o53 i1)) ∧
                  ((decide (i1 < top)) = false →
                    J0 w03 w13 w33 w43 w63 w73 o33 o43 o53 (IntKind.i64.wrap (top + (1 : Int))) (IntKind.i64.wrap (c + (1 : Int))) ∧ μ0 w03 w13 w33 w43 w63 w73 o33 o43 o53 (IntKind.i64.wrap (top + (1 : Int))) (IntKind.i64.wrap (c + (1 : Int))) < μ0 w0 w1 w3 w4 w6 w7 o3 o4 o5 top c))) ∧
              ((decide (r4 < (0 : Int))) = false →
                ∃ (J4 : Int → Int → Int → Int → Int → Int → (List (List (List D))) → (List (List (List D))) → (List (List (List D))) → Int → Prop) (μ4 : Int → Int → Int → Int → Int → Int → (List (List (List D))) → (List (List (List D))) → (List (List (List D))) → Int → Nat),
                J4 w01 w11 w31 w41 w61 w71 o31 o41 o51 (0 : Int) ∧ ∀ (w04 : Int) (w14 : Int) (w34 : Int) (w44 : Int) (w64 : Int) (w74 : Int) (o34 : List (List (List D))) (o44 : List (List (List D))) (o54 : List (List (List D))) (i2 : Int), J4 w04 w14 w34 w44 w64 w74 o34 o44 o54 i2 →
                  ((decide (i2 < top)) = true →
                    ∃ (x05 : Bool) (x15 : List (List D)) (x06 : Bool) (x16 : List (List D)) (r05 : Bool) (r16 : List (List D)) (r06 : Bool) (r17 : List (List D)) (b36 : Int) (b37 : Int) (b38 : Int) (b39 : Int) (b40 : Int) (b41 : Int) (m18 : List (List (List D))) (m19 : List (List (List D))) (m20 : List (List (List D))),
                    (0 ≤ i2 ∧ i2 < (o34.length : Int)) ∧
                    (∃ l, o34[(i2).toNat]? = some l ∧ 0 ≤ c ∧ c < (l.length : Int)) ∧
                    (at2 o34 (i2).toNat (c).toNat = some [(dB x05), (dL x15)]) ∧
                    (0 ≤ top ∧ top < (o34.length : Int)) ∧
                    (∃ l, o34[(top).toNat]? = some l ∧ 0 ≤ c ∧ c < (l.length : Int)) ∧
                    (at2 o34 (top).toNat (c).toNat = some [(dB x06), (dL x16)]) ∧
                    (FnD prog 125 [(vA [(sD (dB x05)), (sD (dL x15))]), (vA [(sD (dB x06)), (sD (dL x16))])] (vA [(sD (dB r05)), (sD (dL r16))]) []) ∧
                    (FnD prog 104 [(vA [(sD (dB r05)), (sD (dL r16))])] (vA [(sD (dB r06)), (sD (dL r17))]) []) ∧
                    (FnO prog 123 [(V.e (E.sc (S.ptr 0 0))), (vD (dI i2)), (vD (dI top)), (vA [(sD (dB r06)), (sD (dL r17))])] [(some (Obj.box [(sD (dI w04)), (sD (dI w14)), (S.ref 1), (sD (dI w34)), (sD (dI w44)), (S.ref 2), (sD (dI w64)), (sD (dI w74)), (S.ref 3)])), (some (Obj.mat 2 o34)), (some (Obj.mat 2 o44)), (some (Obj.mat 2 o54))] (V.tup []) [(some (Obj.box [(sD (dI b36)), (sD (dI b37)), (S.ref 1), (sD (dI b38)), (sD (dI b39)), (S.ref 2), (sD (dI b40)), (sD (dI b41)), (S.ref 3)])), (some (Obj.mat 2 m18)), (some (Obj.mat 2 m19)), (some (Obj.mat 2 m20))]) ∧
                    (J4 b36 b37 b38 b39 b40 b41 m18 m19 m20 (IntKind.i64.wrap (i2 + (1 : Int))) ∧ μ4 b36 b37 b38 b39 b40 b41 m18 m19 m20 (IntKind.i64.wrap (i2 + (1 : Int))) < μ4 w04 w14 w34 w44 w64 w74 o34 o44 o54 i2)) ∧
                  ((decide (i2 < top)) = false →
                    J0 w04 w14 w34 w44 w64 w74 o34 o44 o54 (IntKind.i64.wrap (top + (1 : Int))) (IntKind.i64.wrap (c + (1 : Int))) ∧ μ0 w04 w14 w34 w44 w64 w74 o34 o44 o54 (IntKind.i64.wrap (top + (1 : Int))) (IntKind.i64.wrap (c + (1 : Int))) < μ0 w0 w1 w3 w4 w6 w7 o3 o4 o5 top c))))))) ∧
      ((decide (top < a0)) = false →
        R (vA [(sD (dI w0)), (sD (dI w1)), (sD (dL (matD o3))), (sD (dI w3)), (sD (dI w4)), (sD (dL (matD o4))), (sD (dI w6)), (sD (dI w7)), (sD (dL (matD o5)))]) [])) ∧
    ((decide (c < a1)) = false →
      R (vA [(sD (dI w0)), (sD (dI w1)), (sD (dL (matD o3))), (sD (dI w3)), (sD (dI w4)), (sD (dL (matD o4))), (sD (dI w6)), (sD (dI w7)), (sD (dL (matD o5)))]) []))

theorem vc69_ok (a0 : Int) (a1 : Int) (a2 : List (List D)) {R : V → Heap → Prop} (h : vc69 a0 a1 a2 R) : FnG prog 69 [(vA [(sD (dI a0)), (sD (dI a1)), (sD (dL a2))])] [] R :=
  FnG.vcg hT func69 ntmps69 (.reg 2 [(0, Or.none, 0, 1), (1, Or.none, 1, 1)] [1, 2] [0, 1] [] <| .ex fun b => .ex fun b1 => .ex fun b2 => .ex fun b3 => .ex fun b4 => .ex fun b5 => .exm fun m => .exm fun m1 => .exm fun m2 => .reg 4 [(1, (Or.callO [] (V.e (E.sc (S.ptr 0 0))) [(some (Obj.box [(sD (dI b)), (sD (dI b1)), (S.ref 1), (sD (dI b2)), (sD (dI b3)), (S.ref 2), (sD (dI b4)), (sD (dI b5)), (S.ref 3)])), (some (Obj.mat 2 m)), (some (Obj.mat 2 m1)), (some (Obj.mat 2 m2))]), 2, 4)] [1, 2, 3] [0, 1, 2, 3, 4, 5] [] <| .r1 [1, 2, 3, 4] [0, 1, 2, 3, 4, 5] <| .r1 [1, 2, 3, 4, 5] [0, 1, 2, 3, 4, 5] <| .lp [.i, .i, .i, .i, .i, .i, .m, .m, .m, .i, .i] (fun w0 w1 w3 w4 w6 w7 o3 o4 o5 top c => ⟨[(1, (vP 0 0)), (2, (vP 1 0)), (3, (vP 2 0)), (4, (vD (dI top))), (5, (vD (dI c)))], [(some (Obj.box [(sD (dI a0)), (sD (dI a1)), (sD (dL a2))])), (some (Obj.box [(sD (dI (0 : Int))), (sD (dI (0 : Int))), (sD (D.raw (.slice none 0 0))), (sD (dI (0 : Int))), (sD (dI (0 : Int))), (sD (D.raw (.slice none 0 0))), (sD (dI (0 : Int))), (sD (dI (0 : Int))), (sD (D.raw (.slice none 0 0)))])), (some (Obj.box [(sD (dI w0)), (sD (dI w1)), (S.ref 3), (sD (dI w3)), (sD (dI w4)), (S.ref 4), (sD (dI w6)), (sD (dI w7)), (S.ref 5)])), (some (Obj.mat 2 o3)), (some (Obj.mat 2 o4)), (some (Obj.mat 2 o5))], 173⟩) [.i b, .i b1, .i b2, .i b3, .i b4, .i b5, .m m, .m m1, .m m2, .i (0 : Int), .i (0 : Int)] <| .fi fun w0 => .fi fun w1 => .fi fun w3 => .fi fun w4 => .fi fun w6 => .fi fun w7 => .fm fun o3 => .fm fun o4 => .fm fun o5 => .fi fun top => .fi fun c => .beg <| .spl ((decide (c < a1))) (.reg 0 [(4, (Or.bool true), 0, 0)] [1, 2, 3, 4, 5, 22] [0, 1, 2, 3, 4, 5] [.old 0] <| .c2 (.r1 [1, 2, 3, 4, 5, 6] [0, 1, 2, 3, 4, 5] <| .lp [.i, .i, .i, .i, .i, .i, .m, .m, .m, .i] (fun w01 w11 w31 w41 w61 w71 o31 o41 o51 i => ⟨[(1, (vP 0 0)), (2, (vP 1 0)), (3, (vP 2 0)), (4, (vD (dI top))), (5, (vD (dI c))), (6, (vD (dI i)))], [(some (Obj.box [(sD (dI a0)), (sD (dI a1)), (sD (dL a2))])), (some (Obj.box [(sD (dI (0 : Int))), (sD (dI (0 : Int))), (sD (D.raw (.slice none 0 0))), (sD (dI (0 : Int))), (sD (dI (0 : Int))), (sD (D.raw (.slice none 0 0))), (sD (dI (0 : Int))), (sD (dI (0 : Int))), (sD (D.raw (.slice none 0 0)))])), (some (Obj.box [(sD (dI w01)), (sD (dI w11)), (S.ref 3), (sD (dI w31)), (sD (dI w41)), (S.ref 4), (sD (dI w61)), (sD (dI w71)), (S.ref 5)])), (some (Obj.mat 2 o31)), (some (Obj.mat 2 o41)), (some (Obj.mat 2 o51))], 173⟩) [.i w0, .i w1, .i w3, .i w4, .i w6, .i w7, .m o3, .m o4, .m o5, .i (IntKind.i64.wrap (top + (1 : Int)))] <| .fi fun w01 => .fi fun w11 => .fi fun w31 => .fi fun w41 => .fi fun w61 => .fi fun w71 => .fm fun o31 => .fm fun o41 => .fm fun o51 => .fi fun i => .beg <| .r1 [1, 2, 3, 4, 5, 6, 30] [0, 1, 2, 3, 4, 5] <| .c2 (.viw [1, 2, 3, 4, 5, 6] [0, 1, 2, 3, 4, 5] <| .lp [.i, .i, .i, .i, .i, .i, .m, .m, .m] (fun w02 w12 w32 w42 w62 w72 o32 o42 o52 => ⟨[(1, (vP 0 0)), (2, (vP 1 0)), (3, (vP 2 0)), (4, (vD (dI top))), (5, (vD (dI c))), (6, (vD (dI i)))], [(some (Obj.box [(sD (dI a0)), (sD (dI a1)), (sD (dL a2))])), (some (Obj.box [(sD (dI (0 : Int))), (sD (dI (0 : Int))), (sD (D.raw (.slice none 0 0))), (sD (dI (0 : Int))), (sD (dI (0 : Int))), (sD (D.raw (.slice none 0 0))), (sD (dI (0 : Int))), (sD (dI (0 : Int))), (sD (D.raw (.slice none 0 0)))])), (some (Obj.box [(sD (dI w02)), (sD (dI w12)), (S.ref 3), (sD (dI w32)), (sD (dI w42)), (S.ref 4), (sD (dI w62)), (sD (dI w72)), (S.ref 5)])), (some (Obj.mat 2 o32)), (some (Obj.mat 2 o42)), (some (Obj.mat 2 o52))], 173⟩) [.i w01, .i w11, .i w31, .i w41, .i w61, .i w71, .m o31, .m o41, .m o51] <| .fi fun w02 => .fi fun w12 => .fi fun w32 => .fi fun w42 => .fi fun w62 => .fi fun w72 => .fm fun o32 => .fm fun o42 => .fm fun o52 => .beg <| .exb fun x0 => .exl fun x1 => .ex fun r => .reg 0 [(10, (Or.cells [(dB x0), (dL x1)]), 0, 0), (11, (Or.call (vD (dI r)) [] []), 0, 0)] [1, 2, 3, 4, 5, 6, 45] [0, 1, 2, 3, 4, 5] [] <| .c2 (.exb fun x01 => .exl fun x11 => .ex fun r1 => .reg 0 [(10, (Or.cells [(dB x01), (dL x11)]), 0, 0), (11, (Or.call (vD (dI r1)) [] []), 0, 0)] [1, 2, 3, 4, 5, 6, 58] [0, 1, 2, 3, 4, 5] [] <| .c2 (.exb fun r0 => .exl fun r11 => .exb fun r01 => .exl fun r12 => .ex fun r2 => .drw 2 [(10, ((Or.cells [(dB x01), (dL x11)]), 0, 0), []), (21, ((Or.cells [(dB x0), (dL x1)]), 0, 0), []), (22, ((Or.call (V.tup [(E.agg [(sD (dB r0)), (sD (dL r11))]), (E.agg [(sD (dB r01)), (sD (dL r12))]), (eD (dI r2))]) [] []), 0, 0), []), (27, (Or.none, 6, 1), [6]), (28, (Or.none, 7, 1), [7]), (29, (Or.none, 0, 0), [6]), (30, (Or.none, 0, 0), [7])] [1, 2, 3, 4, 5, 6, 7] [0, 1, 2, 6, 3, 4, 5] [.old 4, .old 3, .old 2, .old 9, .old 8, .old 7] <| .exb fun r02 => .exl fun r13 => .ex fun b6 => .ex fun b7 => .ex fun b8 => .ex fun b9 => .ex fun b10 => .ex fun b11 => .exm fun m3 => .exm fun m4 => .exm fun m5 => .reg 0 [(4, (Or.call (vA [(sD (dB r02)), (sD (dL r13))]) [] []), 0, 0), (5, (Or.callO [2, 4, 5, 6] (V.tup []) [(some (Obj.box [(sD (dI b6)), (sD (dI b7)), (S.ref 1), (sD (dI b8)), (sD (dI b9)), (S.ref 2), (sD (dI b10)), (sD (dI b11)), (S.ref 3)])), (some (Obj.mat 2 m3)), (some (Obj.mat 2 m4)), (some (Obj.mat 2 m5))]), 0, 0)] [1, 2, 3, 4, 5, 6] [0, 1, 2, 4, 5, 6] [] <| .ex fun b12 => .ex fun b13 => .ex fun b14 => .ex fun b15 => .ex fun b16 => .ex fun b17 => .exm fun m6 => .exm fun m7 => .exm fun m8 => .reg 2 [(3, (Or.callO [2, 3, 4, 5] (V.tup []) [(some (Obj.box [(sD (dI b12)), (sD (dI b13)), (S.ref 4), (sD (dI b14)), (sD (dI b15)), (S.ref 5), (sD (dI b16)), (sD (dI b17)), (S.ref 3)])), (some (Obj.fwd (S.ref 4))), (some (Obj.fwd (S.ref 5))), (some (Obj.mat 2 m6)), (some (Obj.mat 2 m7)), (some (Obj.mat 2 m8))]), 6, 2)] [1, 2, 3, 4, 5, 6] [0, 1, 2, 6, 7, 5] [] <| .bk 0 [.i b12, .i b13, .i b14, .i b15, .i b16, .i b17, .m m7, .m m8, .m m6]) (.ex fun b18 => .ex fun b19 => .ex fun b20 => .ex fun b21 => .ex fun b22 => .ex fun b23 => .exm fun m9 => .exm fun m10 => .exm fun m11 => .reg 2 [(3, (Or.callO [2, 3, 4, 5] (V.tup []) [(some (Obj.box [(sD (dI b18)), (sD (dI b19)), (S.ref 4), (sD (dI b20)), (sD (dI b21)), (S.ref 5), (sD (dI b22)), (sD (dI b23)), (S.ref 3)])), (some (Obj.fwd (S.ref 4))), (some (Obj.fwd (S.ref 5))), (some (Obj.mat 2 m9)), (some (Obj.mat 2 m10)), (some (Obj.mat 2 m11))]), 6, 2)] [1, 2, 3, 4, 5, 6] [0, 1, 2, 6, 7, 5] [] <| .bk 0 [.i b18, .i b19, .i b20, .i b21, .i b22, .i b23, .m m10, .m m11, .m m9])) (.r1 [1, 2, 3, 4, 5, 6] [0, 1, 2, 3, 4, 5] <| .bk 1 [.i w02, .i w12, .i w32, .i w42, .i w62, .i w72, .m o32, .m o42, .m o52, .i (IntKind.i64.wrap (i + (1 : Int)))])) (.exb fun x02 => .exl fun x12 => .ex fun r3 => .reg 0 [(10, (Or.cells [(dB x02), (dL x12)]), 0, 0), (11, (Or.call (vD (dI r3)) [] []), 0, 0)] [1, 2, 3, 4, 5, 108] [0, 1, 2, 3, 4, 5] [] <| .c2 (.r1 [1, 2, 3, 4, 5] [0, 1, 2, 3, 4, 5] <| .bk 1 [.i w01, .i w11, .i w31, .i w41, .i w61, .i w71, .m o31, .m o41, .m o51, .i top, .i (IntKind.i64.wrap (c + (1 : Int)))]) (.ex fun r4 => .reg 0 [(10, (Or.cells [(dB x02), (dL x12)]), 0, 0), (11, (Or.call (vD (dI r4)) [] []), 0, 0)] [1, 2, 3, 4, 5, 121] [0, 1, 2, 3, 4, 5] [.old 4, .old 3, .old 2] <| .c2 (.ex fun b24 => .ex fun b25 => .ex fun b26 => .ex fun b27 => .ex fun b28 => .ex fun b29 => .exm fun m12 => .exm fun m13 => .exm fun m14 => .reg 0 [(2, (Or.callO [2, 3, 4, 5] (V.tup []) [(some (Obj.box [(sD (dI b24)), (sD (dI b25)), (S.ref 1), (sD (dI b26)), (sD (dI b27)), (S.ref 2), (sD (dI b28)), (sD (dI b29)), (S.ref 3)])), (some (Obj.mat 2 m12)), (some (Obj.mat 2 m13)), (some (Obj.mat 2 m14))]), 0, 0)] [1, 2, 3, 4, 5] [0, 1, 2, 3, 4, 5] [] <| .r1 [1, 2, 3, 4, 5, 10] [0, 1, 2, 3, 4, 5] <| .lp [.i, .i, .i, .i, .i, .i, .m, .m, .m, .i] (fun w03 w13 w33 w43 w63 w73 o33 o43 o53 i1 => ⟨[(1, (vP 0 0)), (2, (vP 1 0)), (3, (vP 2 0)), (4, (vD (dI top))), (5, (vD (dI c))), (10, (vD (dI i1)))], [(some (Obj.box [(sD (dI a0)), (sD (dI a1)), (sD (dL a2))])), (some (Obj.box [(sD (dI (0 : Int))), (sD (dI (0 : Int))), (sD (D.raw (.slice none 0 0))), (sD (dI (0 : Int))), (sD (dI (0 : Int))), (sD (D.raw (.slice none 0 0))), (sD (dI (0 : Int))), (sD (dI (0 : Int))), (sD (D.raw (.slice none 0 0)))])), (some (Obj.box [(sD (dI w03)), (sD (dI w13)), (S.ref 3), (sD (dI w33)), (sD (dI w43)), (S.ref 4), (sD (dI w63)), (sD (dI w73)), (S.ref 5)])), (some (Obj.mat 2 o33)), (some (Obj.mat 2 o43)), (some (Obj.mat 2 o53))], 173⟩) [.i b24, .i b25, .i b26, .i b27, .i b28, .i b29, .m m12, .m m13, .m m14, .i (0 : Int)] <| .fi fun w03 => .fi fun w13 => .fi fun w33 => .fi fun w43 => .fi fun w63 => .fi fun w73 => .fm fun o33 => .fm fun o43 => .fm fun o53 => .fi fun i1 => .beg <| .r1 [1, 2, 3, 4, 5, 10, 127] [0, 1, 2, 3, 4, 5] <| .c2 (.exb fun x03 => .exl fun x13 => .exb fun x04 => .exl fun x14 => .exb fun r03 => .exl fun r14 => .exb fun r04 => .exl fun r15 => .ex fun b30 => .ex fun b31 => .ex fun b32 => .ex fun b33 => .ex fun b34 => .ex fun b35 => .exm fun m15 => .exm fun m16 => .exm fun m17 => .drw 0 [(13, ((Or.cells [(dB x03), (dL x13)]), 0, 0), []), (24, ((Or.cells [(dB x04), (dL x14)]), 0, 0), []), (25, ((Or.call (vA [(sD (dB r03)), (sD (dL r14))]) [] []), 0, 0), []), (26, ((Or.call (vA [(sD (dB r04)), (sD (dL r15))]) [] []), 0, 0), []), (27, ((Or.callO [2, 3, 4, 5] (V.tup []) [(some (Obj.box [(sD (dI b30)), (sD (dI b31)), (S.ref 1), (sD (dI b32)), (sD (dI b33)), (S.ref 2), (sD (dI b34)), (sD (dI b35)), (S.ref 3)])), (some (Obj.mat 2 m15)), (some (Obj.mat 2 m16)), (some (Obj.mat 2 m17))]), 0, 0), [2, 3, 4, 5])] [1, 2, 3, 4, 5, 10] [0, 1, 2, 3, 4, 5] [] <| .r1 [1, 2, 3, 4, 5, 10] [0, 1, 2, 3, 4, 5] <| .bk 0 [.i b30, .i b31, .i b32, .i b33, .i b34, .i b35, .m m15, .m m16, .m m17, .i (IntKind.i64.wrap (i1 + (1 : Int)))]) (.r1 [1, 2, 3, 4, 5] [0, 1, 2, 3, 4, 5] <| .r1 [1, 2, 3, 4, 5] [0, 1, 2, 3, 4, 5] <| .bk 2 [.i w03, .i w13, .i w33, .i w43, .i w63, .i w73, .m o33, .m o43, .m o53, .i (IntKind.i64.wrap (top + (1 : Int))), .i (IntKind.i64.wrap (c + (1 : Int)))])) (.r1 [1, 2, 3, 4, 5, 10] [0, 1, 2, 3, 4, 5] <| .lp [.i, .i, .i, .i, .i, .i, .m, .m, .m, .i] (fun w04 w14 w34 w44 w64 w74 o34 o44 o54 i2 => ⟨[(1, (vP 0 0)), (2, (vP 1 0)), (3, (vP 2 0)), (4, (vD (dI top))), (5, (vD (dI c))), (10, (vD (dI i2)))], [(some (Obj.box [(sD (dI a0)), (sD (dI a1)), (sD (dL a2))])), (some (Obj.box [(sD (dI (0 : Int))), (sD (dI (0 : Int))), (sD (D.raw (.slice none 0 0))), (sD (dI (0 : Int))), (sD (dI (0 : Int))), (sD (D.raw (.slice none 0 0))), (sD (dI (0 : Int))), (sD (dI (0 : Int))), (sD (D.raw (.slice none 0 0)))])), (some (Obj.box [(sD (dI w04)), (sD (dI w14)), (S.ref 3), (sD (dI w34)), (sD (dI w44)), (S.ref 4), (sD (dI w64)), (sD (dI w74)), (S.ref 5)])), (some (Obj.mat 2 o34)), (some (Obj.mat 2 o44)), (some (Obj.mat 2 o54))], 173⟩) [.i w01, .i w11, .i w31, .i w41, .i w61, .i w71, .m o31, .m o41, .m o51, .i (0 : Int)] <| .fi fun w04 => .fi fun w14 => .fi fun w34 => .fi fun w44 => .fi fun w64 => .fi fun w74 => .fm fun o34 => .fm fun o44 => .fm fun o54 => .fi fun i2 => .beg <| .r1 [1, 2, 3, 4, 5, 10, 127] [0, 1, 2, 3, 4, 5] <| .c2 (.exb fun x05 => .exl fun x15 => .exb fun x06 => .exl fun x16 => .exb fun r05 => .exl fun r16 => .exb fun r06 => .exl fun r17 => .ex fun b36 => .ex fun b37 => .ex fun b38 => .ex fun b39 => .ex fun b40 => .ex fun b41 => .exm fun m18 => .exm fun m19 => .exm fun m20 => .drw 0 [(13, ((Or.cells [(dB x05), (dL x15)]), 0, 0), []), (24, ((Or.cells [(dB x06), (dL x16)]), 0, 0), []), (25, ((Or.call (vA [(sD (dB r05)), (sD (dL r16))]) [] []), 0, 0), []), (26, ((Or.call (vA [(sD (dB r06)), (sD (dL r17))]) [] []), 0, 0), []), (27, ((Or.callO [2, 3, 4, 5] (V.tup []) [(some (Obj.box [(sD (dI b36)), (sD (dI b37)), (S.ref 1), (sD (dI b38)), (sD (dI b39)), (S.ref 2), (sD (dI b40)), (sD (dI b41)), (S.ref 3)])), (some (Obj.mat 2 m18)), (some (Obj.mat 2 m19)), (some (Obj.mat 2 m20))]), 0, 0), [2, 3, 4, 5])] [1, 2, 3, 4, 5, 10] [0, 1, 2, 3, 4, 5] [] <| .r1 [1, 2, 3, 4, 5, 10] [0, 1, 2, 3, 4, 5] <| .bk 0 [.i b36, .i b37, .i b38, .i b39, .i b40, .i b41, .m m18, .m m19, .m m20, .i (IntKind.i64.wrap (i2 + (1 : Int)))]) (.r1 [1, 2, 3, 4, 5] [0, 1, 2, 3, 4, 5] <| .r1 [1, 2, 3, 4, 5] [0, 1, 2, 3, 4, 5] <| .bk 2 [.i w04, .i w14, .i w34, .i w44, .i w64, .i w74, .m o34, .m o44, .m o54, .i (IntKind.i64.wrap (top + (1 : Int))), .i (IntKind.i64.wrap (c + (1 : Int)))]))))) (.drw 0 [(13, (Or.none, 0, 0), [1])] [2] [1, 3, 4, 5] [] <| .frz [1, 2, 3] <| .ret [])) (.reg 0 [(4, (Or.bool false), 0, 0)] [1, 2, 3, 4, 5, 22] [0, 1, 2, 3, 4, 5] [.old 0] <| .ct false none <| .drw 0 [(13, (Or.none, 0, 0), [1])] [2] [1, 3, 4, 5] [] <| .frz [1, 2, 3] <| .ret []))
    (by kernel_rfl) (by kernel_rfl) (by kernel_rfl) h

end Go.AM

/- oplog.Compact, torsionref18.Same, and the law's own operations. -/
namespace Go.AM
open Go.Proofs.Try

def emptyO (o : Opz) : Bool := decide (o.k = 3) && decide (o.z = 0)

def joinO (a b : Opz) : Opz × Bool :=
  if a.k ≠ b.k then (⟨0, 0, 0, 0⟩, false)
  else if a.k = 1 then (⟨3, 0, 0, 0⟩, decide ((a.i = b.i ∧ a.j = b.j) ∨ (a.i = b.j ∧ a.j = b.i)))
  else if a.k = 2 then (⟨3, 0, 0, 0⟩, decide (a.i = b.i))
  else ({ a with z := a.z + b.z }, decide (a.i = b.i ∧ a.j = b.j))

/-- A step, on the list from its end. -/
def stepC (st : List Opz) (x : Opz) : List Opz :=
  if emptyO x then st
  else match st with
    | y :: st' => if (joinO y x).2 then (if emptyO (joinO y x).1 then st' else (joinO y x).1 :: st') else x :: y :: st'
    | [] => [x]

def compR (l : List Opz) : List Opz := l.foldl stepC []
def comp (l : List Opz) : List Opz := (compR l).reverse

theorem oE_eq {a b c : Int} {k : Nat} {i j : Nat} {z : Int} {s : Bool} {m : List (List D)} (h1 : a = k) (h2 : b = i) (h3 : c = j) (h4 : s = decide (z < 0)) (h5 : m = lim (digs z.natAbs)) :
    (vA [sD (dI a), sD (dI b), sD (dI c), sD (dB s), sD (dL m)] : V) = oE ⟨k, i, j, z⟩ := by subst h1; subst h2; subst h3; subst h4; subst h5; rfl

theorem empty_ok (o : Opz) : FnD prog 101 [oE o] (vb (emptyO o)) [] := by
  refine vc101_ok _ _ _ _ _ (R := Out _) ?_
  unfold vc101
  refine ⟨fun h => ⟨_, sign_ok o.z, outb ?_⟩, fun h => outb ?_⟩
  · have hk : o.k = 3 := by simpa using (natEq o.k 3).symm.trans h
    simp only [emptyO, hk]
    by_cases hz : o.z = 0
    · simp [hz]
    · simp only [hz, if_false]
      split <;> simp
  · have hk : o.k ≠ 3 := by simpa using (natEq o.k 3).symm.trans h
    simp [emptyO, hk]

/-- Two results: an operation and a truth value. -/
def oEB (o : Opz) (b : Bool) : V := .tup [.agg [sD (dI o.k), sD (dI o.i), sD (dI o.j), sD (dB (decide (o.z < 0))), sD (dL (lim (digs o.z.natAbs)))], eD (dB b)]

theorem outOB {o : Opz} {b c : Bool} (h : b = c) : Out (oEB o c) (.tup [.agg [sD (dI o.k), sD (dI o.i), sD (dI o.j), sD (dB (decide (o.z < 0))), sD (dL (lim (digs o.z.natAbs)))], eD (dB b)]) [] := by
  subst h; exact ⟨rfl, rfl⟩

theorem join_ok {a b : Opz} (ha : Sz a.z) (hb : Sz b.z) : FnD prog 102 [oE a, oE b] (oEB (joinO a b).1 (joinO a b).2) [] := by
  refine vc102_ok _ _ _ _ _ _ _ _ _ _ (R := Out _) ?_
  unfold vc102
  have ne : ∀ {x y : Nat}, ((x : Int) == (y : Int)) = true → x = y := fun h => by simpa using (natEq _ _).symm.trans h
  have nf : ∀ {x y : Nat}, ((x : Int) == (y : Int)) = false → x ≠ y := fun h => by simpa using (natEq _ _).symm.trans h
  refine ⟨fun h => ?_, fun h => ?_⟩
  · have hk : a.k ≠ b.k := by simpa using (natNe _ _).symm.trans h
    have e : joinO a b = (⟨0, 0, 0, 0⟩, false) := by simp [joinO, hk]
    rw [e]
    exact ⟨rfl, rfl⟩
  · have hk : a.k = b.k := by simpa using (natNe _ _).symm.trans h
    refine ⟨fun h1 => ?_, fun h1 => ⟨fun h2 => ?_, fun h2 => ?_⟩⟩
    · have hk1 : a.k = 1 := by simpa using (natEq a.k 1).symm.trans h1
      have e : joinO a b = (⟨3, 0, 0, 0⟩, decide ((a.i = b.i ∧ a.j = b.j) ∨ (a.i = b.j ∧ a.j = b.i))) := by
        have hb1 : b.k = 1 := by omega
        simp [joinO, hk1, hb1]
      rw [e]
      refine ⟨fun g1 => ⟨fun g2 => ?_, fun g2 => ⟨fun g3 => ?_, fun g3 => ?_⟩⟩, fun g1 => ⟨fun g3 => ?_, fun g3 => ?_⟩⟩
      · exact outOB (o := ⟨3, 0, 0, 0⟩) (by simp [ne g1, ne g2])
      · exact outOB (o := ⟨3, 0, 0, 0⟩) (by rw [natEq, decide_eq_decide]; have h1 := nf g2; have h2 := ne g1; have h3 := ne g3; constructor <;> intro h <;> omega)
      · exact outOB (o := ⟨3, 0, 0, 0⟩) (by have h1 := nf g2; have h2 := ne g1; have h3 := nf g3; exact (decide_eq_false (by omega)).symm)
      · exact outOB (o := ⟨3, 0, 0, 0⟩) (by rw [natEq, decide_eq_decide]; have h1 := nf g1; have h3 := ne g3; constructor <;> intro h <;> omega)
      · exact outOB (o := ⟨3, 0, 0, 0⟩) (by have h1 := nf g1; have h3 := nf g3; exact (decide_eq_false (by omega)).symm)
    · have hk2 : a.k = 2 := by simpa using (natEq a.k 2).symm.trans h2
      have e : joinO a b = (⟨3, 0, 0, 0⟩, decide (a.i = b.i)) := by
        have hb1 : b.k = 2 := by omega
        simp [joinO, hk2, hb1]
      rw [e]
      exact outOB (o := ⟨3, 0, 0, 0⟩) (natEq _ _)
    · have e1 : a.k ≠ 1 := by simpa using (natEq a.k 1).symm.trans h1
      have e2 : a.k ≠ 2 := by simpa using (natEq a.k 2).symm.trans h2
      have e : joinO a b = ({ a with z := a.z + b.z }, decide (a.i = b.i ∧ a.j = b.j)) := by
        unfold joinO
        rw [if_neg (by simpa using hk), if_neg e1, if_neg e2]
      rw [e]
      refine ⟨_, _, add_ok ha hb, fun g => ?_, fun g => ?_⟩
      · exact outOB (o := { a with z := a.z + b.z }) (by rw [natEq]; have := ne g; simp [this])
      · exact outOB (o := { a with z := a.z + b.z }) (by have := nf g; simp [this])

/-! ### Compact -/

theorem stepC_z {K L : Nat} {st : List Opz} {x : Opz} (h : ∀ y ∈ st, y.z.natAbs ≤ K) (hx : x.z.natAbs ≤ L) : ∀ y ∈ stepC st x, y.z.natAbs ≤ K + L := by
  have h' : ∀ y ∈ st, y.z.natAbs ≤ K + L := fun y hy => Nat.le_trans (h y hy) (by omega)
  unfold stepC
  split
  · exact h'
  · cases st with
    | nil => intro y hy; simp at hy; subst hy; omega
    | cons y st' =>
      simp only
      split
      · have hj : (joinO y x).1.z.natAbs ≤ K + L := by
          have := h y (by simp)
          unfold joinO
          repeat' split
          all_goals simp
          omega
        split
        · intro y' hy'; exact h' y' (by simp [hy'])
        · intro y' hy'
          rcases List.mem_cons.1 hy' with rfl | h1
          · exact hj
          · exact h' y' (by simp [h1])
      · intro y' hy'
        rcases List.mem_cons.1 hy' with rfl | h1
        · omega
        · exact h' y' h1

theorem stepC_length (st : List Opz) (x : Opz) : (stepC st x).length ≤ st.length + 1 := by
  unfold stepC
  split
  · omega
  · cases st with
    | nil => simp
    | cons y st' =>
      simp only
      split
      · split
        · simp; omega
        · simp
      · simp

theorem compR_snoc {l : List Opz} {i : Nat} (hi : i < l.length) : compR (l.take (i + 1)) = stepC (compR (l.take i)) l[i] := by
  unfold compR
  rw [List.take_add_one, List.getElem?_eq_getElem hi, List.foldl_append]; rfl

theorem compR_z {l : List Opz} (hl : ∀ o ∈ l, o.z.natAbs ≤ 1280) : ∀ i, i ≤ l.length → (∀ y ∈ compR (l.take i), y.z.natAbs ≤ 1280 * i) ∧ (compR (l.take i)).length ≤ i
  | 0, _ => by simp [compR]
  | i + 1, h => by
    obtain ⟨h1, h2⟩ := compR_z hl i (by omega)
    have hi : i < l.length := by omega
    rw [compR_snoc hi]
    refine ⟨fun y hy => ?_, Nat.le_trans (stepC_length _ _) (by omega)⟩
    have := stepC_z h1 (hl _ (List.getElem_mem hi)) y hy
    omega

theorem compact_ok {l : List Opz} (hl : ∀ o ∈ l, o.z.natAbs ≤ 1280) (hn : l.length ≤ 1000) : FnD prog 50 [vs (oL l)] (vs (oL (comp l))) [] := by
  refine vc50_ok _ (R := Out _) ?_
  unfold vc50
  simp only [oL_length]
  refine ⟨fun out t => ∃ i : Nat, t = (i : Int) ∧ i ≤ l.length ∧ out = oL (compR (l.take i)).reverse, fun _ t => ((l.length : Int) - t).toNat, ⟨0, rfl, by omega, by simp [compR, oL]⟩, ?_⟩
  rintro _ _ ⟨i, rfl, hi, rfl⟩
  refine ⟨fun h => ?_, fun h => outs ?_⟩
  · have hir : i < l.length := by simpa using h
    obtain ⟨hz, hlen⟩ := compR_z hl i hi
    have hstep := compR_snoc hir
    have hx := hl _ (List.getElem_mem hir)
    have szx : Sz l[i].z := sz_of (Nat.le_trans hx (by decide))
    generalize hst : compR (l.take i) = st at hz hlen hstep
    rw [inc64 (by omega)]
    have hback : ∀ out, out = oL (stepC st l[i]).reverse → (∃ j : Nat, ((i + 1 : Nat) : Int) = (j : Int) ∧ j ≤ l.length ∧ out = oL (compR (l.take j)).reverse) ∧ ((l.length : Int) - ((i + 1 : Nat) : Int)).toNat < ((l.length : Int) - (i : Int)).toNat :=
      fun out ho => ⟨⟨i + 1, rfl, by omega, by rw [hstep]; exact ho⟩, by omega⟩
    refine ⟨_, _, _, _, _, ⟨by omega, by omega⟩, oL_get hir, _, empty_ok l[i], fun he => hback _ ?_, fun he => ⟨fun ho => ?_, fun ho => ?_⟩⟩
    · simp [stepC, he]
    · -- there is a last one
      cases st with
      | nil => simp [oL] at ho
      | cons y st' =>
        have hlast : IntKind.i64.wrap (((oL (y :: st').reverse).length : Int) - 1) = ((st'.length : Nat) : Int) := by
          rw [oL_length, List.length_reverse, List.length_cons]
          simp only [List.length_cons] at hlen
          rw [w64 (by omega) (by omega)]; omega
        have hlen' : ((oL (y :: st').reverse).length : Int) = ((st'.length + 1 : Nat) : Int) := by rw [oL_length]; simp
        have hget : (oL (y :: st').reverse)[((st'.length : Nat) : Int).toNat]? = some (oD y) := by
          rw [Int.toNat_natCast]; simp [oL]
        have htake : (oL (y :: st').reverse).take ((st'.length : Nat) : Int).toNat = oL st'.reverse := by
          rw [Int.toNat_natCast]; simp only [oL, List.reverse_cons, List.map_append]
          rw [List.take_append_of_le_length (by simp)]
          exact List.take_of_length_le (by simp)
        have szy : Sz y.z := sz_of (Nat.le_trans (hz y (by simp)) (by omega))
        rw [hlast, htake]
        simp only [List.length_cons] at hlen
        have e0 : (joinO y l[i]).1.z.natAbs ≤ 1280 * i + 1280 := by
          have := hz y (by simp)
          unfold joinO
          repeat' split
          all_goals simp
          omega
        refine ⟨_, _, _, _, _, _, _, _, _, _, _, ⟨by omega, by rw [hlen']; omega⟩, hget, join_ok szy szx, fun hj => ⟨⟨by omega, by rw [hlen']; omega⟩, _, empty_ok _, fun hne => ⟨?_, hback _ ?_⟩, fun hne => hback _ ?_⟩, fun hj => ⟨_, empty_ok l[i], fun hne => ⟨?_, hback _ ?_⟩, fun hne => ?_⟩⟩
        · rw [oL_length]; simp only [List.length_reverse, List.length_cons, List.length_nil]; omega
        · have hne' : emptyO (joinO y l[i]).1 = false := by simpa using hne
          simp [stepC, he, hj, hne', oL]; rfl
        · have hne' : emptyO (joinO y l[i]).1 = true := by simpa using hne
          simp [stepC, he, hj, hne', oL]
        · rw [oL_length]; simp only [List.length_reverse, List.length_cons, List.length_nil]; omega
        · simp [stepC, he, hj, oL]; rfl
        · rw [he] at hne; simp at hne
    · have hnil : st = [] := by
        cases st with
        | nil => rfl
        | cons y st' => rw [oL_length] at ho; simp at ho
      subst hnil
      refine ⟨_, empty_ok l[i], fun hne => ⟨by simp [oL], hback _ ?_⟩, fun hne => ?_⟩
      · simp [stepC, he, oL]; rfl
      · rw [he] at hne; simp at hne
  · have hir : i = l.length := by have : l.length ≤ i := by simpa using h
                                  omega
    subst hir
    rw [List.take_length]; rfl

/-! ### Same -/

theorem sameOps_ok {a b : List Opz} (ha : SzO a) (hb : SzO b) (hn : a.length ≤ 4294967296) : FnD prog 54 [vs (oL a), vs (oL b)] (vb (decide (a = b))) [] := by
  refine vc54_ok _ _ (R := Out _) ?_
  unfold vc54
  simp only [oL_length]
  refine ⟨fun h => outb ?_, fun h => ?_⟩
  · have hne : a.length ≠ b.length := by simpa using (natNe _ _).symm.trans h
    simp only [false_eq_decide_iff]
    exact fun e => hne (by rw [e])
  · have hlen : a.length = b.length := by simpa using (natNe _ _).symm.trans h
    refine ⟨fun t => ∃ i : Nat, t = (i : Int) ∧ i ≤ a.length ∧ ∀ k, (hk : k < a.length) → k < i → a[k] = b[k]'(by omega), fun t => ((a.length : Int) - t).toNat, ⟨0, rfl, by omega, fun k _ hk => by omega⟩, ?_⟩
    rintro _ ⟨i, rfl, hi, hinv⟩
    refine ⟨fun h2 => ?_, fun h2 => outb ?_⟩
    · have hia : i < a.length := by simpa using h2
      have hib : i < b.length := by omega
      have no : ∀ {p : Prop}, a[i] ≠ b[i] → Out (vb (decide (a = b))) (vD (dB false)) [] := fun hne => outb (by
        simp only [false_eq_decide_iff]
        intro e
        exact hne (by subst e; rfl))
      refine ⟨_, _, _, _, _, _, _, _, _, _, ⟨by omega, by omega⟩, oL_get hia, ⟨by omega, by omega⟩, oL_get hib, fun g => ?_, fun g => ⟨fun g2 => ?_, fun g2 => ⟨fun g3 => ?_, fun g3 => ⟨_, rsame_ok (ha _ (List.getElem_mem hia)) (hb _ (List.getElem_mem hib)), fun g4 => ?_, fun g4 => ?_⟩⟩⟩⟩
      · have : a[i].k ≠ b[i].k := by simpa using (natNe _ _).symm.trans g
        exact no (p := True) fun e => this (by rw [e])
      · have : a[i].i ≠ b[i].i := by simpa using (natNe _ _).symm.trans g2
        exact no (p := True) fun e => this (by rw [e])
      · have : a[i].j ≠ b[i].j := by simpa using (natNe _ _).symm.trans g3
        exact no (p := True) fun e => this (by rw [e])
      · have : a[i].z ≠ b[i].z := by simpa using g4
        exact no (p := True) fun e => this (by rw [e])
      · rw [inc64 (by omega)]
        refine ⟨⟨i + 1, rfl, by omega, fun k hka hk => ?_⟩, by show ((a.length : Int) - ((i + 1 : Nat) : Int)).toNat < ((a.length : Int) - (i : Int)).toNat; omega⟩
        by_cases hki : k = i
        · subst hki
          have e1 : a[k].k = b[k].k := by simpa using (natNe _ _).symm.trans g
          have e2 : a[k].i = b[k].i := by simpa using (natNe _ _).symm.trans g2
          have e3 : a[k].j = b[k].j := by simpa using (natNe _ _).symm.trans g3
          have e4 : a[k].z = b[k].z := by simpa using g4
          generalize a[k] = x at e1 e2 e3 e4 ⊢
          generalize b[k] = y at e1 e2 e3 e4 ⊢
          cases x; cases y
          simp only at e1 e2 e3 e4
          subst e1; subst e2; subst e3; subst e4; rfl
        · exact hinv k hka (by omega)
    · have hir : i = a.length := by have : a.length ≤ i := by simpa using h2
                                    omega
      simp only [true_eq_decide_iff]
      exact List.ext_getElem hlen fun k hk _ => hinv k hk (by omega)

/-! ### The law's own operations -/

theorem addOp_ok (i j : Nat) (z : Int) (h0 : -9223372036854775808 ≤ z) (h1 : z ≤ 9223372036854775807) : FnD prog 93 [vi i, vi j, vi z] (oE ⟨3, i, j, z⟩) [] := by
  refine vc93_ok _ _ _ (R := Out _) ?_
  unfold vc93
  exact ⟨_, _, rof_ok z h0 h1, rfl, rfl⟩

theorem swapOp_ok (i j : Nat) : FnD prog 94 [vi i, vi j] (oE ⟨1, i, j, 0⟩) [] := by
  refine vc94_ok _ _ (R := Out _) ?_
  unfold vc94
  exact ⟨rfl, rfl⟩

theorem negOp_ok (i : Nat) : FnD prog 95 [vi i] (oE ⟨2, i, 0, 0⟩) [] := by
  refine vc95_ok _ (R := Out _) ?_
  unfold vc95
  exact ⟨rfl, rfl⟩

end Go.AM

/- The fixed examples of the law of operations, with the answers put in. Printed by gen43.py. -/
set_option maxRecDepth 100000
set_option linter.unusedVariables false

namespace Go.AM
open Go.Proofs.Try

def vc43 (R : V → Heap → Prop) : Prop :=
  (FnD prog 93 [(vD (dI (0 : Int))), (vD (dI (1 : Int))), (vD (dI (3 : Int)))] (vA [(sD (dI (3 : Int))), (sD (dI (0 : Int))), (sD (dI (1 : Int))), (sD (dB (decide ((3 : Int) < 0)))), (sD (dL (lim (digs (Int.natAbs (3 : Int))))))]) []) ∧
  (FnD prog 49 [(vD (dI (2 : Int)))] (vA [(sD (dI (2 : Int))), (sD (dI (2 : Int))), (sD (dL (rows [[1, 0], [0, 1]])))]) []) ∧
  (FnD prog 45 [(vD (dL [[(dI (3 : Int)), (dI (0 : Int)), (dI (1 : Int)), (dB (decide ((3 : Int) < 0))), (dL (lim (digs (Int.natAbs (3 : Int)))))]])), (vA [(sD (dI (2 : Int))), (sD (dI (2 : Int))), (sD (dL (rows [[1, 0], [0, 1]])))])] (V.tup [(E.agg [(sD (dI (2 : Int))), (sD (dI (2 : Int))), (sD (dL (rows [[1, 3], [0, 1]])))]), (eD (dI (0 : Int)))]) []) ∧
  (FnD prog 93 [(vD (dI (0 : Int))), (vD (dI (2 : Int))), (vD (dI (3 : Int)))] (vA [(sD (dI (3 : Int))), (sD (dI (0 : Int))), (sD (dI (2 : Int))), (sD (dB (decide ((3 : Int) < 0)))), (sD (dL (lim (digs (Int.natAbs (3 : Int))))))]) []) ∧
  (FnD prog 49 [(vD (dI (2 : Int)))] (vA [(sD (dI (2 : Int))), (sD (dI (2 : Int))), (sD (dL (rows [[1, 0], [0, 1]])))]) []) ∧
  (FnD prog 45 [(vD (dL [[(dI (3 : Int)), (dI (0 : Int)), (dI (2 : Int)), (dB (decide ((3 : Int) < 0))), (dL (lim (digs (Int.natAbs (3 : Int)))))]])), (vA [(sD (dI (2 : Int))), (sD (dI (2 : Int))), (sD (dL (rows [[1, 0], [0, 1]])))])] (V.tup [(E.agg [(sD (dI (0 : Int))), (sD (dI (0 : Int))), (sD (dL (rows [])))]), (eD (dI (180 : Int)))]) []) ∧
  (FnD prog 94 [(vD (dI (0 : Int))), (vD (dI (0 : Int)))] (vA [(sD (dI (1 : Int))), (sD (dI (0 : Int))), (sD (dI (0 : Int))), (sD (dB (decide ((0 : Int) < 0)))), (sD (dL (lim (digs (Int.natAbs (0 : Int))))))]) []) ∧
  (FnD prog 49 [(vD (dI (2 : Int)))] (vA [(sD (dI (2 : Int))), (sD (dI (2 : Int))), (sD (dL (rows [[1, 0], [0, 1]])))]) []) ∧
  (FnD prog 46 [(vD (dL [[(dI (1 : Int)), (dI (0 : Int)), (dI (0 : Int)), (dB (decide ((0 : Int) < 0))), (dL (lim (digs (Int.natAbs (0 : Int)))))]])), (vA [(sD (dI (2 : Int))), (sD (dI (2 : Int))), (sD (dL (rows [[1, 0], [0, 1]])))])] (V.tup [(E.agg [(sD (dI (0 : Int))), (sD (dI (0 : Int))), (sD (dL (rows [])))]), (eD (dI (180 : Int)))]) []) ∧
  (FnD prog 94 [(vD (dI (0 : Int))), (vD (dI (1 : Int)))] (vA [(sD (dI (1 : Int))), (sD (dI (0 : Int))), (sD (dI (1 : Int))), (sD (dB (decide ((0 : Int) < 0)))), (sD (dL (lim (digs (Int.natAbs (0 : Int))))))]) []) ∧
  (FnD prog 95 [(vD (dI (0 : Int)))] (vA [(sD (dI (2 : Int))), (sD (dI (0 : Int))), (sD (dI (0 : Int))), (sD (dB (decide ((0 : Int) < 0)))), (sD (dL (lim (digs (Int.natAbs (0 : Int))))))]) []) ∧
  (FnD prog 93 [(vD (dI (1 : Int))), (vD (dI (0 : Int))), (vD (dI (2 : Int)))] (vA [(sD (dI (3 : Int))), (sD (dI (1 : Int))), (sD (dI (0 : Int))), (sD (dB (decide ((2 : Int) < 0)))), (sD (dL (lim (digs (Int.natAbs (2 : Int))))))]) []) ∧
  (FnD prog 47 [(vD (dL [[(dI (1 : Int)), (dI (0 : Int)), (dI (1 : Int)), (dB (decide ((0 : Int) < 0))), (dL (lim (digs (Int.natAbs (0 : Int)))))], [(dI (2 : Int)), (dI (0 : Int)), (dI (0 : Int)), (dB (decide ((0 : Int) < 0))), (dL (lim (digs (Int.natAbs (0 : Int)))))], [(dI (3 : Int)), (dI (1 : Int)), (dI (0 : Int)), (dB (decide ((2 : Int) < 0))), (dL (lim (digs (Int.natAbs (2 : Int)))))]])), (vD (dI (2 : Int)))] (V.tup [(E.agg [(sD (dI (2 : Int))), (sD (dI (2 : Int))), (sD (dL (rows [[0, -1], [1, -2]])))]), (eD (dI (0 : Int)))]) []) ∧
  (FnD prog 47 [(vD (dL ([] : List (List D)))), (vD (dI (65 : Int)))] (V.tup [(E.agg [(sD (dI (0 : Int))), (sD (dI (0 : Int))), (sD (dL (rows [])))]), (eD (dI (1 : Int)))]) []) ∧
  (FnD prog 95 [(vD (dI (0 : Int)))] (vA [(sD (dI (2 : Int))), (sD (dI (0 : Int))), (sD (dI (0 : Int))), (sD (dB (decide ((0 : Int) < 0)))), (sD (dL (lim (digs (Int.natAbs (0 : Int))))))]) []) ∧
  (FnD prog 47 [(vD (dL [[(dI (2 : Int)), (dI (0 : Int)), (dI (0 : Int)), (dB (decide ((0 : Int) < 0))), (dL (lim (digs (Int.natAbs (0 : Int)))))]])), (vD (dI (0 : Int)))] (V.tup [(E.agg [(sD (dI (0 : Int))), (sD (dI (0 : Int))), (sD (dL (rows [])))]), (eD (dI (180 : Int)))]) []) ∧
  (FnD prog 94 [(vD (dI (0 : Int))), (vD (dI (1 : Int)))] (vA [(sD (dI (1 : Int))), (sD (dI (0 : Int))), (sD (dI (1 : Int))), (sD (dB (decide ((0 : Int) < 0)))), (sD (dL (lim (digs (Int.natAbs (0 : Int))))))]) []) ∧
  (FnD prog 94 [(vD (dI (1 : Int))), (vD (dI (0 : Int)))] (vA [(sD (dI (1 : Int))), (sD (dI (1 : Int))), (sD (dI (0 : Int))), (sD (dB (decide ((0 : Int) < 0)))), (sD (dL (lim (digs (Int.natAbs (0 : Int))))))]) []) ∧
  (FnD prog 95 [(vD (dI (0 : Int)))] (vA [(sD (dI (2 : Int))), (sD (dI (0 : Int))), (sD (dI (0 : Int))), (sD (dB (decide ((0 : Int) < 0)))), (sD (dL (lim (digs (Int.natAbs (0 : Int))))))]) []) ∧
  (FnD prog 50 [(vD (dL [[(dI (1 : Int)), (dI (0 : Int)), (dI (1 : Int)), (dB (decide ((0 : Int) < 0))), (dL (lim (digs (Int.natAbs (0 : Int)))))], [(dI (1 : Int)), (dI (1 : Int)), (dI (0 : Int)), (dB (decide ((0 : Int) < 0))), (dL (lim (digs (Int.natAbs (0 : Int)))))], [(dI (2 : Int)), (dI (0 : Int)), (dI (0 : Int)), (dB (decide ((0 : Int) < 0))), (dL (lim (digs (Int.natAbs (0 : Int)))))]]))] (vD (dL (oL [⟨2, 0, 0, 0⟩]))) []) ∧
  (FnD prog 93 [(vD (dI (0 : Int))), (vD (dI (1 : Int))), (vD (dI (2 : Int)))] (vA [(sD (dI (3 : Int))), (sD (dI (0 : Int))), (sD (dI (1 : Int))), (sD (dB (decide ((2 : Int) < 0)))), (sD (dL (lim (digs (Int.natAbs (2 : Int))))))]) []) ∧
  (FnD prog 93 [(vD (dI (0 : Int))), (vD (dI (1 : Int))), (vD (dI (3 : Int)))] (vA [(sD (dI (3 : Int))), (sD (dI (0 : Int))), (sD (dI (1 : Int))), (sD (dB (decide ((3 : Int) < 0)))), (sD (dL (lim (digs (Int.natAbs (3 : Int))))))]) []) ∧
  (FnD prog 93 [(vD (dI (1 : Int))), (vD (dI (0 : Int))), (vD (dI (0 : Int)))] (vA [(sD (dI (3 : Int))), (sD (dI (1 : Int))), (sD (dI (0 : Int))), (sD (dB (decide ((0 : Int) < 0)))), (sD (dL (lim (digs (Int.natAbs (0 : Int))))))]) []) ∧
  (FnD prog 93 [(vD (dI (0 : Int))), (vD (dI (1 : Int))), (vD (dI (-5 : Int)))] (vA [(sD (dI (3 : Int))), (sD (dI (0 : Int))), (sD (dI (1 : Int))), (sD (dB (decide ((-5 : Int) < 0)))), (sD (dL (lim (digs (Int.natAbs (-5 : Int))))))]) []) ∧
  (FnD prog 95 [(vD (dI (1 : Int)))] (vA [(sD (dI (2 : Int))), (sD (dI (1 : Int))), (sD (dI (0 : Int))), (sD (dB (decide ((0 : Int) < 0)))), (sD (dL (lim (digs (Int.natAbs (0 : Int))))))]) []) ∧
  (FnD prog 50 [(vD (dL [[(dI (3 : Int)), (dI (0 : Int)), (dI (1 : Int)), (dB (decide ((2 : Int) < 0))), (dL (lim (digs (Int.natAbs (2 : Int)))))], [(dI (3 : Int)), (dI (0 : Int)), (dI (1 : Int)), (dB (decide ((3 : Int) < 0))), (dL (lim (digs (Int.natAbs (3 : Int)))))], [(dI (3 : Int)), (dI (1 : Int)), (dI (0 : Int)), (dB (decide ((0 : Int) < 0))), (dL (lim (digs (Int.natAbs (0 : Int)))))], [(dI (3 : Int)), (dI (0 : Int)), (dI (1 : Int)), (dB (decide ((-5 : Int) < 0))), (dL (lim (digs (Int.natAbs (-5 : Int)))))], [(dI (2 : Int)), (dI (1 : Int)), (dI (0 : Int)), (dB (decide ((0 : Int) < 0))), (dL (lim (digs (Int.natAbs (0 : Int)))))]]))] (vD (dL (oL [⟨2, 1, 0, 0⟩]))) []) ∧
  (FnD prog 94 [(vD (dI (0 : Int))), (vD (dI (1 : Int)))] (vA [(sD (dI (1 : Int))), (sD (dI (0 : Int))), (sD (dI (1 : Int))), (sD (dB (decide ((0 : Int) < 0)))), (sD (dL (lim (digs (Int.natAbs (0 : Int))))))]) []) ∧
  (FnD prog 93 [(vD (dI (0 : Int))), (vD (dI (1 : Int))), (vD (dI (3 : Int)))] (vA [(sD (dI (3 : Int))), (sD (dI (0 : Int))), (sD (dI (1 : Int))), (sD (dB (decide ((3 : Int) < 0)))), (sD (dL (lim (digs (Int.natAbs (3 : Int))))))]) []) ∧
  (FnD prog 48 [(vD (dL [[(dI (1 : Int)), (dI (0 : Int)), (dI (1 : Int)), (dB (decide ((0 : Int) < 0))), (dL (lim (digs (Int.natAbs (0 : Int)))))], [(dI (3 : Int)), (dI (0 : Int)), (dI (1 : Int)), (dB (decide ((3 : Int) < 0))), (dL (lim (digs (Int.natAbs (3 : Int)))))]]))] (vD (dL (oL [⟨3, 0, 1, -3⟩, ⟨1, 0, 1, 0⟩]))) []) ∧
  (FnD prog 70 [(vD (dI (2 : Int))), (vD (dI (2 : Int))), (vD (dL [[(dI (1 : Int))], [(dI (3 : Int))], [(dI (0 : Int))], [(dI (1 : Int))]]))] (vA [(sD (dI (2 : Int))), (sD (dI (2 : Int))), (sD (dL (rows [[1, 3], [0, 1]])))]) []) ∧
  (FnD prog 23 [(vA [(sD (dI (2 : Int))), (sD (dI (2 : Int))), (sD (dL (rows [[1, 3], [0, 1]])))]), (vA [(sD (dI (2 : Int))), (sD (dI (2 : Int))), (sD (dL (rows [[1, 3], [0, 1]])))])] (vD (dB true)) []) ∧
  (FnD prog 70 [(vD (dI (2 : Int))), (vD (dI (2 : Int))), (vD (dL [[(dI (0 : Int))], [(dI (-1 : Int))], [(dI (1 : Int))], [(dI (-2 : Int))]]))] (vA [(sD (dI (2 : Int))), (sD (dI (2 : Int))), (sD (dL (rows [[0, -1], [1, -2]])))]) []) ∧
  (FnD prog 23 [(vA [(sD (dI (2 : Int))), (sD (dI (2 : Int))), (sD (dL (rows [[0, -1], [1, -2]])))]), (vA [(sD (dI (2 : Int))), (sD (dI (2 : Int))), (sD (dL (rows [[0, -1], [1, -2]])))])] (vD (dB true)) []) ∧
  (FnD prog 95 [(vD (dI (0 : Int)))] (vA [(sD (dI (2 : Int))), (sD (dI (0 : Int))), (sD (dI (0 : Int))), (sD (dB (decide ((0 : Int) < 0)))), (sD (dL (lim (digs (Int.natAbs (0 : Int))))))]) []) ∧
  (FnD prog 54 [(vD (dL (oL [⟨2, 0, 0, 0⟩]))), (vD (dL [[(dI (2 : Int)), (dI (0 : Int)), (dI (0 : Int)), (dB (decide ((0 : Int) < 0))), (dL (lim (digs (Int.natAbs (0 : Int)))))]]))] (vD (dB true)) []) ∧
  (FnD prog 95 [(vD (dI (1 : Int)))] (vA [(sD (dI (2 : Int))), (sD (dI (1 : Int))), (sD (dI (0 : Int))), (sD (dB (decide ((0 : Int) < 0)))), (sD (dL (lim (digs (Int.natAbs (0 : Int))))))]) []) ∧
  (FnD prog 54 [(vD (dL (oL [⟨2, 1, 0, 0⟩]))), (vD (dL [[(dI (2 : Int)), (dI (1 : Int)), (dI (0 : Int)), (dB (decide ((0 : Int) < 0))), (dL (lim (digs (Int.natAbs (0 : Int)))))]]))] (vD (dB true)) []) ∧
  (FnD prog 93 [(vD (dI (0 : Int))), (vD (dI (1 : Int))), (vD (dI (-3 : Int)))] (vA [(sD (dI (3 : Int))), (sD (dI (0 : Int))), (sD (dI (1 : Int))), (sD (dB (decide ((-3 : Int) < 0)))), (sD (dL (lim (digs (Int.natAbs (-3 : Int))))))]) []) ∧
  (FnD prog 94 [(vD (dI (0 : Int))), (vD (dI (1 : Int)))] (vA [(sD (dI (1 : Int))), (sD (dI (0 : Int))), (sD (dI (1 : Int))), (sD (dB (decide ((0 : Int) < 0)))), (sD (dL (lim (digs (Int.natAbs (0 : Int))))))]) []) ∧
  (FnD prog 54 [(vD (dL (oL [⟨3, 0, 1, -3⟩, ⟨1, 0, 1, 0⟩]))), (vD (dL [[(dI (3 : Int)), (dI (0 : Int)), (dI (1 : Int)), (dB (decide ((-3 : Int) < 0))), (dL (lim (digs (Int.natAbs (-3 : Int)))))], [(dI (1 : Int)), (dI (0 : Int)), (dI (1 : Int)), (dB (decide ((0 : Int) < 0))), (dL (lim (digs (Int.natAbs (0 : Int)))))]]))] (vD (dB true)) []) ∧
  (FnD prog 96 [(vD (dL ([] : List (List D)))), (vD (dI (0 : Int)))] (vD (dB true)) []) ∧
  (FnD prog 96 [(vD (dL [[(dI (2 : Int)), (dI (0 : Int)), (dI (1 : Int)), (dB false), (dL ([] : List (List D)))]])), (vD (dI (2 : Int)))] (vD (dB false)) []) ∧
  (FnD prog 96 [(vD (dL [[(dI (0 : Int)), (dI (0 : Int)), (dI (0 : Int)), (dB false), (dL ([] : List (List D)))]])), (vD (dI (2 : Int)))] (vD (dB false)) []) ∧
  R (vD (dB (!false))) []

theorem vc43_ok {R : V → Heap → Prop} (h : vc43 R) : FnG prog 43 [] [] R :=
  FnG.vcg hT func43 ntmps43 (.r0 [] <| .reg 2 [(0, (Or.call (vA [(sD (dI (3 : Int))), (sD (dI (0 : Int))), (sD (dI (1 : Int))), (sD (dB (decide ((3 : Int) < 0)))), (sD (dL (lim (digs (Int.natAbs (3 : Int))))))]) [] []), 0, 0), (1, Or.frz, 0, 1), (2, (Or.call (vA [(sD (dI (2 : Int))), (sD (dI (2 : Int))), (sD (dL (rows [[1, 0], [0, 1]])))]) [] []), 0, 0), (3, (Or.call (V.tup [(E.agg [(sD (dI (2 : Int))), (sD (dI (2 : Int))), (sD (dL (rows [[1, 3], [0, 1]])))]), (eD (dI (0 : Int)))]) [] []), 0, 0), (7, Or.none, 1, 1)] [1, 2] [1] [] <| .reg 2 [(0, (Or.call (vA [(sD (dI (3 : Int))), (sD (dI (0 : Int))), (sD (dI (2 : Int))), (sD (dB (decide ((3 : Int) < 0)))), (sD (dL (lim (digs (Int.natAbs (3 : Int))))))]) [] []), 0, 0), (1, Or.frz, 1, 1), (2, (Or.call (vA [(sD (dI (2 : Int))), (sD (dI (2 : Int))), (sD (dL (rows [[1, 0], [0, 1]])))]) [] []), 0, 0), (3, (Or.call (V.tup [(E.agg [(sD (dI (0 : Int))), (sD (dI (0 : Int))), (sD (dL (rows [])))]), (eD (dI (180 : Int)))]) [] []), 0, 0), (7, Or.none, 2, 1)] [1, 2, 4] [0] [] <| .reg 2 [(0, (Or.call (vA [(sD (dI (1 : Int))), (sD (dI (0 : Int))), (sD (dI (0 : Int))), (sD (dB (decide ((0 : Int) < 0)))), (sD (dL (lim (digs (Int.natAbs (0 : Int))))))]) [] []), 0, 0), (1, Or.frz, 1, 1), (2, (Or.call (vA [(sD (dI (2 : Int))), (sD (dI (2 : Int))), (sD (dL (rows [[1, 0], [0, 1]])))]) [] []), 0, 0), (3, (Or.call (V.tup [(E.agg [(sD (dI (0 : Int))), (sD (dI (0 : Int))), (sD (dL (rows [])))]), (eD (dI (180 : Int)))]) [] []), 0, 0), (7, Or.none, 2, 1)] [1, 2, 4, 6] [0] [] <| .reg 2 [(0, (Or.call (vA [(sD (dI (1 : Int))), (sD (dI (0 : Int))), (sD (dI (1 : Int))), (sD (dB (decide ((0 : Int) < 0)))), (sD (dL (lim (digs (Int.natAbs (0 : Int))))))]) [] []), 0, 0), (1, (Or.call (vA [(sD (dI (2 : Int))), (sD (dI (0 : Int))), (sD (dI (0 : Int))), (sD (dB (decide ((0 : Int) < 0)))), (sD (dL (lim (digs (Int.natAbs (0 : Int))))))]) [] []), 0, 0), (2, (Or.call (vA [(sD (dI (3 : Int))), (sD (dI (1 : Int))), (sD (dI (0 : Int))), (sD (dB (decide ((2 : Int) < 0)))), (sD (dL (lim (digs (Int.natAbs (2 : Int))))))]) [] []), 0, 0), (3, Or.frz, 1, 1), (4, (Or.call (V.tup [(E.agg [(sD (dI (2 : Int))), (sD (dI (2 : Int))), (sD (dL (rows [[0, -1], [1, -2]])))]), (eD (dI (0 : Int)))]) [] []), 0, 0), (8, Or.none, 2, 1)] [1, 2, 4, 6, 7, 8] [0, 2] [] <| .reg 1 [(0, (Or.call (V.tup [(E.agg [(sD (dI (0 : Int))), (sD (dI (0 : Int))), (sD (dL (rows [])))]), (eD (dI (1 : Int)))]) [] []), 0, 0), (4, Or.none, 2, 1)] [1, 2, 4, 6, 7, 8, 10] [0, 1] [] <| .reg 2 [(0, (Or.call (vA [(sD (dI (2 : Int))), (sD (dI (0 : Int))), (sD (dI (0 : Int))), (sD (dB (decide ((0 : Int) < 0)))), (sD (dL (lim (digs (Int.natAbs (0 : Int))))))]) [] []), 0, 0), (1, Or.frz, 2, 1), (2, (Or.call (V.tup [(E.agg [(sD (dI (0 : Int))), (sD (dI (0 : Int))), (sD (dL (rows [])))]), (eD (dI (180 : Int)))]) [] []), 0, 0), (6, Or.none, 3, 1)] [1, 2, 4, 6, 7, 8, 10, 12] [0, 1] [] <| .reg 1 [(0, (Or.call (vA [(sD (dI (1 : Int))), (sD (dI (0 : Int))), (sD (dI (1 : Int))), (sD (dB (decide ((0 : Int) < 0)))), (sD (dL (lim (digs (Int.natAbs (0 : Int))))))]) [] []), 0, 0), (1, (Or.call (vA [(sD (dI (1 : Int))), (sD (dI (1 : Int))), (sD (dI (0 : Int))), (sD (dB (decide ((0 : Int) < 0)))), (sD (dL (lim (digs (Int.natAbs (0 : Int))))))]) [] []), 0, 0), (2, (Or.call (vA [(sD (dI (2 : Int))), (sD (dI (0 : Int))), (sD (dI (0 : Int))), (sD (dB (decide ((0 : Int) < 0)))), (sD (dL (lim (digs (Int.natAbs (0 : Int))))))]) [] []), 0, 0), (3, Or.frz, 2, 1), (4, (Or.call (vD (dL (oL [⟨2, 0, 0, 0⟩]))) [] []), 0, 0)] [1, 2, 4, 6, 7, 8, 10, 12, 13] [0, 1] [] <| .reg 1 [(0, (Or.call (vA [(sD (dI (3 : Int))), (sD (dI (0 : Int))), (sD (dI (1 : Int))), (sD (dB (decide ((2 : Int) < 0)))), (sD (dL (lim (digs (Int.natAbs (2 : Int))))))]) [] []), 0, 0), (1, (Or.call (vA [(sD (dI (3 : Int))), (sD (dI (0 : Int))), (sD (dI (1 : Int))), (sD (dB (decide ((3 : Int) < 0)))), (sD (dL (lim (digs (Int.natAbs (3 : Int))))))]) [] []), 0, 0), (2, (Or.call (vA [(sD (dI (3 : Int))), (sD (dI (1 : Int))), (sD (dI (0 : Int))), (sD (dB (decide ((0 : Int) < 0)))), (sD (dL (lim (digs (Int.natAbs (0 : Int))))))]) [] []), 0, 0), (3, (Or.call (vA [(sD (dI (3 : Int))), (sD (dI (0 : Int))), (sD (dI (1 : Int))), (sD (dB (decide ((-5 : Int) < 0)))), (sD (dL (lim (digs (Int.natAbs (-5 : Int))))))]) [] []), 0, 0), (4, (Or.call (vA [(sD (dI (2 : Int))), (sD (dI (1 : Int))), (sD (dI (0 : Int))), (sD (dB (decide ((0 : Int) < 0)))), (sD (dL (lim (digs (Int.natAbs (0 : Int))))))]) [] []), 0, 0), (5, Or.frz, 2, 1), (6, (Or.call (vD (dL (oL [⟨2, 1, 0, 0⟩]))) [] []), 0, 0)] [1, 2, 4, 6, 7, 8, 10, 12, 13, 14] [0, 1] [] <| .reg 1 [(0, (Or.call (vA [(sD (dI (1 : Int))), (sD (dI (0 : Int))), (sD (dI (1 : Int))), (sD (dB (decide ((0 : Int) < 0)))), (sD (dL (lim (digs (Int.natAbs (0 : Int))))))]) [] []), 0, 0), (1, (Or.call (vA [(sD (dI (3 : Int))), (sD (dI (0 : Int))), (sD (dI (1 : Int))), (sD (dB (decide ((3 : Int) < 0)))), (sD (dL (lim (digs (Int.natAbs (3 : Int))))))]) [] []), 0, 0), (2, Or.frz, 2, 1), (3, (Or.call (vD (dL (oL [⟨3, 0, 1, -3⟩, ⟨1, 0, 1, 0⟩]))) [] []), 0, 0)] [1, 2, 4, 6, 7, 8, 10, 12, 13, 14, 15] [0, 1] [] <| .drw 7 [(4, (Or.frz, 2, 1), []), (5, ((Or.call (vA [(sD (dI (2 : Int))), (sD (dI (2 : Int))), (sD (dL (rows [[1, 3], [0, 1]])))]) [] []), 0, 0), []), (6, ((Or.call (vD (dB true)) [] []), 0, 0), []), (22, (Or.frz, 3, 1), []), (23, ((Or.call (vA [(sD (dI (2 : Int))), (sD (dI (2 : Int))), (sD (dL (rows [[0, -1], [1, -2]])))]) [] []), 0, 0), []), (24, ((Or.call (vD (dB true)) [] []), 0, 0), []), (36, ((Or.call (vA [(sD (dI (2 : Int))), (sD (dI (0 : Int))), (sD (dI (0 : Int))), (sD (dB (decide ((0 : Int) < 0)))), (sD (dL (lim (digs (Int.natAbs (0 : Int))))))]) [] []), 0, 0), []), (37, (Or.frz, 4, 1), []), (38, ((Or.call (vD (dB true)) [] []), 0, 0), []), (42, ((Or.call (vA [(sD (dI (2 : Int))), (sD (dI (1 : Int))), (sD (dI (0 : Int))), (sD (dB (decide ((0 : Int) < 0)))), (sD (dL (lim (digs (Int.natAbs (0 : Int))))))]) [] []), 0, 0), []), (43, (Or.frz, 5, 1), []), (44, ((Or.call (vD (dB true)) [] []), 0, 0), []), (48, ((Or.call (vA [(sD (dI (3 : Int))), (sD (dI (0 : Int))), (sD (dI (1 : Int))), (sD (dB (decide ((-3 : Int) < 0)))), (sD (dL (lim (digs (Int.natAbs (-3 : Int))))))]) [] []), 0, 0), []), (49, ((Or.call (vA [(sD (dI (1 : Int))), (sD (dI (0 : Int))), (sD (dI (1 : Int))), (sD (dB (decide ((0 : Int) < 0)))), (sD (dL (lim (digs (Int.natAbs (0 : Int))))))]) [] []), 0, 0), []), (50, (Or.frz, 6, 1), []), (51, ((Or.call (vD (dB true)) [] []), 0, 0), []), (54, ((Or.call (vD (dB true)) [] []), 0, 0), []), (58, (Or.frz, 7, 1), []), (59, ((Or.call (vD (dB false)) [] []), 0, 0), []), (64, (Or.frz, 8, 1), []), (65, ((Or.call (vD (dB false)) [] []), 0, 0), [])] [0] [] [] <| .ret [])
    (by kernel_rfl) (by kernel_rfl) (by kernel_rfl) h

end Go.AM
