/- What functions of the program come to: group L4. Printed by vc.py. -/
import Derived.Test.YtipnbapgfbghgaaGreatL4
set_option maxRecDepth 100000
set_option linter.unusedVariables false
namespace Go.AM
open Go.Proofs.Tryz
def vc4 (x0 x1 : Int) (x2 l : List (List D)) (R : V → Heap → Prop) : Prop :=
 ∃ (r : Bool),
 (FnD prog 8 [] (vD (dB r)) []) ∧
 (∃ (r0 r1 : Int) (rrows : List (List (List D))),
 (FnD prog 9 [vA [sD (D.int .u8 x0), sD (D.int .u8 x1), sD (dL x2)]] (vA [sD (dI r0), sD (dI r1), S.ref 0]) [some (Obj.mat 2 rrows)]) ∧
 (∃ (r01 r11 : Int) (r2 : List (List D)) (r3 r4 : Int) (r5 : List (List D)) (r6 r7 : Int) (r8 : List (List D)) (r9 r10 : Int) (r111 : List (List D)) (r12 r13 : Int) (r14 : Bool),
 (FnD prog 10 [vA [sD (dI r0), sD (dI r1), sD (dL (matD rrows))]] (vA [sD (dI r01), sD (dI r11), sD (dL r2), sD (dI r3), sD (dI r4), sD (dL r5), sD (dI r6), sD (dI r7), sD (dL r8), sD (dI r9), sD (dI r10), sD (dL r111), sD (dI r12), sD (dI r13), sD (dB r14)]) []) ∧
 (∃ (J0 : Int → Int → Int → (List (List D)) → Int → Int → Bool → (List (List D)) → Int → Int → (List (List D)) → Int → Int → (List (List D)) → Int → Int → Int → Prop) (μ0 : Int → Int → Int → (List (List D)) → Int → Int → Bool → (List (List D)) → Int → Int → (List (List D)) → Int → Int → (List (List D)) → Int → Int → Int → Nat),
 J0 r01 r11 r10 r111 r12 r13 r14 r2 r3 r4 r5 r6 r7 r8 r9 (0 : Int) (0 : Int) ∧ ∀ (p0 p1 p10 : Int) (p11 : List (List D)) (p12 p13 : Int) (p14 : Bool) (p2 : List (List D)) (p3 p4 : Int) (p5 : List (List D)) (p6 p7 : Int) (p8 : List (List D)) (p9 total i : Int), J0 p0 p1 p10 p11 p12 p13 p14 p2 p3 p4 p5 p6 p7 p8 p9 total i →
 (decide (i < (l.length : Int)) = true →
 (decide (i < (8 : Int)) = true →
 ∃ (vx : Int),
 (0 ≤ i ∧ i < (l.length : Int)) ∧
 (l[(i).toNat]? = some [D.int .i8 vx]) ∧
 ((16 : Int) ≠ 0) ∧
 (∃ (r15 : Bool),
 (FnD prog 17 [vA [sD (dI p0), sD (dI p1), sD (dL p2), sD (dI p3), sD (dI p4), sD (dL p5), sD (dI p6), sD (dI p7), sD (dL p8), sD (dI p9), sD (dI p10), sD (dL p11), sD (dI p12), sD (dI p13), sD (dB p14)]] (vD (dB r15)) []) ∧
 (((!r15) = true →
 R (vD (dB false)) []) ∧
 ((!r15) = false →
 ∃ (r02 r16 : Int) (r21 : List (List D)) (r31 r41 : Int) (r51 : List (List D)) (r61 r71 : Int) (r81 : List (List D)) (r91 r101 : Int) (r112 : List (List D)) (r121 r131 : Int) (r141 : Bool),
 (FnD prog 18 [vA [sD (dI p0), sD (dI p1), sD (dL p2), sD (dI p3), sD (dI p4), sD (dL p5), sD (dI p6), sD (dI p7), sD (dL p8), sD (dI p9), sD (dI p10), sD (dL p11), sD (dI p12), sD (dI p13), sD (dB p14)]] (vA [sD (dI r02), sD (dI r16), sD (dL r21), sD (dI r31), sD (dI r41), sD (dL r51), sD (dI r61), sD (dI r71), sD (dL r81), sD (dI r91), sD (dI r101), sD (dL r112), sD (dI r121), sD (dI r131), sD (dB r141)]) []) ∧
 (∃ (r03 r17 : Int) (r22 : List (List D)) (r32 r42 : Int) (r52 : List (List D)) (r62 r72 : Int) (r82 : List (List D)) (r92 r102 : Int) (r113 : List (List D)) (r122 r132 : Int) (r142 : Bool),
 (FnD prog 13 [vA [sD (dI p0), sD (dI p1), sD (dL p2), sD (dI p3), sD (dI p4), sD (dL p5), sD (dI p6), sD (dI p7), sD (dL p8), sD (dI p9), sD (dI p10), sD (dL p11), sD (dI p12), sD (dI p13), sD (dB p14)], vD (dI ((IntKind.i64.wrap vx).tmod (16 : Int)))] (vA [sD (dI r03), sD (dI r17), sD (dL r22), sD (dI r32), sD (dI r42), sD (dL r52), sD (dI r62), sD (dI r72), sD (dL r82), sD (dI r92), sD (dI r102), sD (dL r113), sD (dI r122), sD (dI r132), sD (dB r142)]) []) ∧
 (∃ (r18 : Bool),
 (FnD prog 11 [vA [sD (dI p0), sD (dI p1), sD (dL p2), sD (dI p3), sD (dI p4), sD (dL p5), sD (dI p6), sD (dI p7), sD (dL p8), sD (dI p9), sD (dI p10), sD (dL p11), sD (dI p12), sD (dI p13), sD (dB p14)], vA [sD (dI r02), sD (dI r16), sD (dL r21), sD (dI r31), sD (dI r41), sD (dL r51), sD (dI r61), sD (dI r71), sD (dL r81), sD (dI r91), sD (dI r101), sD (dL r112), sD (dI r121), sD (dI r131), sD (dB r141)]] (vD (dB r18)) []) ∧
 (((!r18) = true →
 R (vD (dB false)) []) ∧
 ((!r18) = false →
 ∃ (r04 r19 : Int) (r23 : List (List D)) (r33 r43 : Int) (r53 : List (List D)) (r63 r73 : Int) (r83 : List (List D)) (r93 r103 : Int) (r114 : List (List D)) (r123 r133 : Int) (r143 r20 : Bool),
 (FnD prog 13 [vA [sD (dI p0), sD (dI p1), sD (dL p2), sD (dI p3), sD (dI p4), sD (dL p5), sD (dI p6), sD (dI p7), sD (dL p8), sD (dI p9), sD (dI p10), sD (dL p11), sD (dI p12), sD (dI p13), sD (dB p14)], vD (dI ((IntKind.i64.wrap vx).tmod (16 : Int)))] (vA [sD (dI r04), sD (dI r19), sD (dL r23), sD (dI r33), sD (dI r43), sD (dL r53), sD (dI r63), sD (dI r73), sD (dL r83), sD (dI r93), sD (dI r103), sD (dL r114), sD (dI r123), sD (dI r133), sD (dB r143)]) []) ∧
 (FnD prog 11 [vA [sD (dI r04), sD (dI r19), sD (dL r23), sD (dI r33), sD (dI r43), sD (dL r53), sD (dI r63), sD (dI r73), sD (dL r83), sD (dI r93), sD (dI r103), sD (dL r114), sD (dI r123), sD (dI r133), sD (dB r143)], vA [sD (dI r03), sD (dI r17), sD (dL r22), sD (dI r32), sD (dI r42), sD (dL r52), sD (dI r62), sD (dI r72), sD (dL r82), sD (dI r92), sD (dI r102), sD (dL r113), sD (dI r122), sD (dI r132), sD (dB r142)]] (vD (dB r20)) []) ∧
 (((!r20) = true →
 R (vD (dB false)) []) ∧
 ((!r20) = false →
 J0 r03 r17 r102 r113 r122 r132 r142 r22 r32 r42 r52 r62 r72 r82 r92 (IntKind.i64.wrap (total + (if (0 : Int) > ((IntKind.i64.wrap vx).tmod (16 : Int)) then (0 : Int) else ((IntKind.i64.wrap vx).tmod (16 : Int))))) (IntKind.i64.wrap (i + (1 : Int))) ∧ μ0 r03 r17 r102 r113 r122 r132 r142 r22 r32 r42 r52 r62 r72 r82 r92 (IntKind.i64.wrap (total + (if (0 : Int) > ((IntKind.i64.wrap vx).tmod (16 : Int)) then (0 : Int) else ((IntKind.i64.wrap vx).tmod (16 : Int))))) (IntKind.i64.wrap (i + (1 : Int))) < μ0 p0 p1 p10 p11 p12 p13 p14 p2 p3 p4 p5 p6 p7 p8 p9 total i)))))))))) ∧
 (decide (i < (8 : Int)) = false →
 (r = true →
 ∃ (r05 r110 : Int) (r24 : List (List D)) (r34 r44 : Int) (r54 : List (List D)) (r64 r74 : Int) (r84 : List (List D)) (r94 r104 : Int) (r115 : List (List D)) (r124 r134 : Int) (r144 : Bool) (r06 r116 : Int) (r25 : List (List D)) (r35 r45 : Int) (r55 : List (List D)) (r65 r75 : Int) (r85 : List (List D)) (r95 r105 : Int) (r117 : List (List D)) (r125 r135 : Int) (r145 r26 : Bool),
 (FnD prog 10 [vA [sD (dI r0), sD (dI r1), sD (dL (matD rrows))]] (vA [sD (dI r05), sD (dI r110), sD (dL r24), sD (dI r34), sD (dI r44), sD (dL r54), sD (dI r64), sD (dI r74), sD (dL r84), sD (dI r94), sD (dI r104), sD (dL r115), sD (dI r124), sD (dI r134), sD (dB r144)]) []) ∧
 (FnD prog 13 [vA [sD (dI r05), sD (dI r110), sD (dL r24), sD (dI r34), sD (dI r44), sD (dL r54), sD (dI r64), sD (dI r74), sD (dL r84), sD (dI r94), sD (dI r104), sD (dL r115), sD (dI r124), sD (dI r134), sD (dB r144)], vD (dI total)] (vA [sD (dI r06), sD (dI r116), sD (dL r25), sD (dI r35), sD (dI r45), sD (dL r55), sD (dI r65), sD (dI r75), sD (dL r85), sD (dI r95), sD (dI r105), sD (dL r117), sD (dI r125), sD (dI r135), sD (dB r145)]) []) ∧
 (FnD prog 11 [vA [sD (dI p0), sD (dI p1), sD (dL p2), sD (dI p3), sD (dI p4), sD (dL p5), sD (dI p6), sD (dI p7), sD (dL p8), sD (dI p9), sD (dI p10), sD (dL p11), sD (dI p12), sD (dI p13), sD (dB p14)], vA [sD (dI r06), sD (dI r116), sD (dL r25), sD (dI r35), sD (dI r45), sD (dL r55), sD (dI r65), sD (dI r75), sD (dL r85), sD (dI r95), sD (dI r105), sD (dL r117), sD (dI r125), sD (dI r135), sD (dB r145)]] (vD (dB r26)) []) ∧
 (R (vD (dB r26)) [])) ∧
 (r = false →
 R (vD (dB false)) []))) ∧
 (decide (i < (l.length : Int)) = false →
 (r = true →
 ∃ (r07 r118 : Int) (r27 : List (List D)) (r36 r46 : Int) (r56 : List (List D)) (r66 r76 : Int) (r86 : List (List D)) (r96 r106 : Int) (r119 : List (List D)) (r126 r136 : Int) (r146 : Bool) (r08 r120 : Int) (r28 : List (List D)) (r37 r47 : Int) (r57 : List (List D)) (r67 r77 : Int) (r87 : List (List D)) (r97 r107 : Int) (r1110 : List (List D)) (r127 r137 : Int) (r147 r29 : Bool),
 (FnD prog 10 [vA [sD (dI r0), sD (dI r1), sD (dL (matD rrows))]] (vA [sD (dI r07), sD (dI r118), sD (dL r27), sD (dI r36), sD (dI r46), sD (dL r56), sD (dI r66), sD (dI r76), sD (dL r86), sD (dI r96), sD (dI r106), sD (dL r119), sD (dI r126), sD (dI r136), sD (dB r146)]) []) ∧
 (FnD prog 13 [vA [sD (dI r07), sD (dI r118), sD (dL r27), sD (dI r36), sD (dI r46), sD (dL r56), sD (dI r66), sD (dI r76), sD (dL r86), sD (dI r96), sD (dI r106), sD (dL r119), sD (dI r126), sD (dI r136), sD (dB r146)], vD (dI total)] (vA [sD (dI r08), sD (dI r120), sD (dL r28), sD (dI r37), sD (dI r47), sD (dL r57), sD (dI r67), sD (dI r77), sD (dL r87), sD (dI r97), sD (dI r107), sD (dL r1110), sD (dI r127), sD (dI r137), sD (dB r147)]) []) ∧
 (FnD prog 11 [vA [sD (dI p0), sD (dI p1), sD (dL p2), sD (dI p3), sD (dI p4), sD (dL p5), sD (dI p6), sD (dI p7), sD (dL p8), sD (dI p9), sD (dI p10), sD (dL p11), sD (dI p12), sD (dI p13), sD (dB p14)], vA [sD (dI r08), sD (dI r120), sD (dL r28), sD (dI r37), sD (dI r47), sD (dL r57), sD (dI r67), sD (dI r77), sD (dL r87), sD (dI r97), sD (dI r107), sD (dL r1110), sD (dI r127), sD (dI r137), sD (dB r147)]] (vD (dB r29)) []) ∧
 (R (vD (dB r29)) [])) ∧
 (r = false →
 R (vD (dB false)) [])))))
theorem vc4_ok (x0 x1 : Int) (x2 l : List (List D)) {R : V → Heap → Prop} (h : vc4 x0 x1 x2 l R) : FnG prog 4 [vA [sD (D.int .u8 x0), sD (D.int .u8 x1), sD (dL x2)], vD (dL l)] [] R :=
  FnG.vcg hT func4 ntmps4 (.reg 1 [(0, Or.none, 0, 1)] [1, 2] [0] [] <| .exb fun r => .reg 0 [(0, Or.call (vD (dB r)) [] [], 0, 0)] [1, 2, 5] [0] [] <| .ex fun r0 => .ex fun r1 => .exm fun rrows => .reg 2 [(1, Or.call (vA [sD (dI r0), sD (dI r1), S.ref 0]) [some (Obj.mat 2 rrows)] [], 1, 1), (2, Or.none, 2, 1)] [1, 5, 6] [2, 1] [] <| .frz [1] <| .ex fun r01 => .ex fun r11 => .exl fun r2 => .ex fun r3 => .ex fun r4 => .exl fun r5 => .ex fun r6 => .ex fun r7 => .exl fun r8 => .ex fun r9 => .ex fun r10 => .exl fun r111 => .ex fun r12 => .ex fun r13 => .exb fun r14 => .reg 1 [(1, Or.call (vA [sD (dI r01), sD (dI r11), sD (dL r2), sD (dI r3), sD (dI r4), sD (dL r5), sD (dI r6), sD (dI r7), sD (dL r8), sD (dI r9), sD (dI r10), sD (dL r111), sD (dI r12), sD (dI r13), sD (dB r14)]) [] [], 0, 0), (2, Or.none, 2, 1)] [1, 5, 6, 7] [0, 2] [] <| .r1 [1, 5, 6, 7, 8] [0, 1] <| .r1 [1, 5, 6, 7, 8, 9] [0, 1] <| .lp [.i, .i, .i, .l, .i, .i, .b, .l, .i, .i, .l, .i, .i, .l, .i, .i, .i] (fun p0 p1 p10 p11 p12 p13 p14 p2 p3 p4 p5 p6 p7 p8 p9 total i => ⟨[(1, vD (dL l)), (5, vD (dB r)), (6, vP 0 0), (7, vP 1 0), (8, vD (dI total)), (9, vD (dI i))], [some (Obj.box [sD (dI r0), sD (dI r1), sD (dL (matD rrows))]), some (Obj.box [sD (dI p0), sD (dI p1), sD (dL p2), sD (dI p3), sD (dI p4), sD (dL p5), sD (dI p6), sD (dI p7), sD (dL p8), sD (dI p9), sD (dI p10), sD (dL p11), sD (dI p12), sD (dI p13), sD (dB p14)])], 70⟩) [.i r01, .i r11, .i r10, .l r111, .i r12, .i r13, .b r14, .l r2, .i r3, .i r4, .l r5, .i r6, .i r7, .l r8, .i r9, .i (0 : Int), .i (0 : Int)] <| .fi fun p0 => .fi fun p1 => .fi fun p10 => .fl fun p11 => .fi fun p12 => .fi fun p13 => .fb fun p14 => .fl fun p2 => .fi fun p3 => .fi fun p4 => .fl fun p5 => .fi fun p6 => .fi fun p7 => .fl fun p8 => .fi fun p9 => .fi fun total => .fi fun i => .beg <| .spl ((decide (i < (l.length : Int)))) (.reg 0 [(4, Or.bool true, 0, 0)] [1, 5, 6, 7, 8, 9, 26] [0, 1] [.old 0] <| .c2 (.ex fun vx => .reg 0 [(3, Or.cells [D.int .i8 vx], 0, 0)] [1, 5, 6, 7, 8, 9, 10] [0, 1] [] <| .exb fun r15 => .reg 0 [(1, Or.call (vD (dB r15)) [] [], 0, 0)] [1, 5, 6, 7, 8, 9, 10, 11] [0, 1] [] <| .r1 [1, 5, 6, 7, 8, 9, 10, 38] [0, 1] <| .c2 (.r0 [4] <| .ret []) (.ex fun r02 => .ex fun r16 => .exl fun r21 => .ex fun r31 => .ex fun r41 => .exl fun r51 => .ex fun r61 => .ex fun r71 => .exl fun r81 => .ex fun r91 => .ex fun r101 => .exl fun r112 => .ex fun r121 => .ex fun r131 => .exb fun r141 => .reg 1 [(1, Or.call (vA [sD (dI r02), sD (dI r16), sD (dL r21), sD (dI r31), sD (dI r41), sD (dL r51), sD (dI r61), sD (dI r71), sD (dL r81), sD (dI r91), sD (dI r101), sD (dL r112), sD (dI r121), sD (dI r131), sD (dB r141)]) [] [], 0, 0), (2, Or.none, 2, 1)] [1, 5, 6, 7, 8, 9, 10, 12] [0, 1, 2] [] <| .ex fun r03 => .ex fun r17 => .exl fun r22 => .ex fun r32 => .ex fun r42 => .exl fun r52 => .ex fun r62 => .ex fun r72 => .exl fun r82 => .ex fun r92 => .ex fun r102 => .exl fun r113 => .ex fun r122 => .ex fun r132 => .exb fun r142 => .reg 1 [(2, Or.call (vA [sD (dI r03), sD (dI r17), sD (dL r22), sD (dI r32), sD (dI r42), sD (dL r52), sD (dI r62), sD (dI r72), sD (dL r82), sD (dI r92), sD (dI r102), sD (dL r113), sD (dI r122), sD (dI r132), sD (dB r142)]) [] [], 0, 0), (3, Or.none, 3, 1)] [1, 5, 6, 7, 8, 9, 10, 12, 13] [0, 1, 2, 3] [] <| .exb fun r18 => .ob (FnD prog 11 [vA [sD (dI p0), sD (dI p1), sD (dL p2), sD (dI p3), sD (dI p4), sD (dL p5), sD (dI p6), sD (dI p7), sD (dL p8), sD (dI p9), sD (dI p10), sD (dL p11), sD (dI p12), sD (dI p13), sD (dB p14)], vA [sD (dI r02), sD (dI r16), sD (dL r21), sD (dI r31), sD (dI r41), sD (dL r51), sD (dI r61), sD (dI r71), sD (dL r81), sD (dI r91), sD (dI r101), sD (dL r112), sD (dI r121), sD (dI r131), sD (dB r141)]] (vD (dB r18)) []) <| .spl ((!r18)) (.drw 0 [(2, (Or.call (vD (dB r18)) [] [], 0, 0), []), (4, (Or.bool true, 0, 0), [])] [1, 5, 6, 7, 8, 9, 10, 13, 55] [0, 1, 3] [.old 1, .old 0] <| .ct true none <| .r0 [4] <| .ret []) (.ex fun r04 => .ex fun r19 => .exl fun r23 => .ex fun r33 => .ex fun r43 => .exl fun r53 => .ex fun r63 => .ex fun r73 => .exl fun r83 => .ex fun r93 => .ex fun r103 => .exl fun r114 => .ex fun r123 => .ex fun r133 => .exb fun r143 => .exb fun r20 => .drw 0 [(2, (Or.call (vD (dB r18)) [] [], 0, 0), []), (4, (Or.bool false, 0, 0), []), (7, (Or.call (vA [sD (dI r04), sD (dI r19), sD (dL r23), sD (dI r33), sD (dI r43), sD (dL r53), sD (dI r63), sD (dI r73), sD (dL r83), sD (dI r93), sD (dI r103), sD (dL r114), sD (dI r123), sD (dI r133), sD (dB r143)]) [] [], 0, 0), []), (9, (Or.call (vD (dB r20)) [] [], 0, 0), [])] [1, 5, 6, 7, 8, 9, 10, 13, 55] [0, 1, 3] [.old 1, .old 0] <| .c2 (.r0 [4] <| .ret []) (.r1 [1, 5, 6, 7, 8, 9, 13] [0, 1, 2] <| .r1 [1, 5, 6, 7, 8, 9] [0, 1] <| .r1 [1, 5, 6, 7, 8, 9] [0, 1] <| .bk 0 [.i r03, .i r17, .i r102, .l r113, .i r122, .i r132, .b r142, .l r22, .i r32, .i r42, .l r52, .i r62, .i r72, .l r82, .i r92, .i (IntKind.i64.wrap (total + (if (0 : Int) > ((IntKind.i64.wrap vx).tmod (16 : Int)) then (0 : Int) else ((IntKind.i64.wrap vx).tmod (16 : Int))))), .i (IntKind.i64.wrap (i + (1 : Int)))])))) (.spl r (.ex fun r05 => .ex fun r110 => .exl fun r24 => .ex fun r34 => .ex fun r44 => .exl fun r54 => .ex fun r64 => .ex fun r74 => .exl fun r84 => .ex fun r94 => .ex fun r104 => .exl fun r115 => .ex fun r124 => .ex fun r134 => .exb fun r144 => .ex fun r06 => .ex fun r116 => .exl fun r25 => .ex fun r35 => .ex fun r45 => .exl fun r55 => .ex fun r65 => .ex fun r75 => .exl fun r85 => .ex fun r95 => .ex fun r105 => .exl fun r117 => .ex fun r125 => .ex fun r135 => .exb fun r145 => .exb fun r26 => .drw 0 [(1, (Or.bool true, 0, 0), []), (4, (Or.call (vA [sD (dI r05), sD (dI r110), sD (dL r24), sD (dI r34), sD (dI r44), sD (dL r54), sD (dI r64), sD (dI r74), sD (dL r84), sD (dI r94), sD (dI r104), sD (dL r115), sD (dI r124), sD (dI r134), sD (dB r144)]) [] [], 0, 0), []), (6, (Or.call (vA [sD (dI r06), sD (dI r116), sD (dL r25), sD (dI r35), sD (dI r45), sD (dL r55), sD (dI r65), sD (dI r75), sD (dL r85), sD (dI r95), sD (dI r105), sD (dL r117), sD (dI r125), sD (dI r135), sD (dB r145)]) [] [], 0, 0), []), (7, (Or.call (vD (dB r26)) [] [], 0, 0), [])] [4] [] [.old 0] <| .ret []) (.drw 0 [(1, (Or.bool false, 0, 0), [])] [4] [] [.old 0] <| .ret []))) (.reg 0 [(4, Or.bool false, 0, 0)] [1, 5, 6, 7, 8, 9, 26] [0, 1] [.old 0] <| .ct false none <| .spl r (.ex fun r07 => .ex fun r118 => .exl fun r27 => .ex fun r36 => .ex fun r46 => .exl fun r56 => .ex fun r66 => .ex fun r76 => .exl fun r86 => .ex fun r96 => .ex fun r106 => .exl fun r119 => .ex fun r126 => .ex fun r136 => .exb fun r146 => .ex fun r08 => .ex fun r120 => .exl fun r28 => .ex fun r37 => .ex fun r47 => .exl fun r57 => .ex fun r67 => .ex fun r77 => .exl fun r87 => .ex fun r97 => .ex fun r107 => .exl fun r1110 => .ex fun r127 => .ex fun r137 => .exb fun r147 => .exb fun r29 => .drw 0 [(1, (Or.bool true, 0, 0), []), (4, (Or.call (vA [sD (dI r07), sD (dI r118), sD (dL r27), sD (dI r36), sD (dI r46), sD (dL r56), sD (dI r66), sD (dI r76), sD (dL r86), sD (dI r96), sD (dI r106), sD (dL r119), sD (dI r126), sD (dI r136), sD (dB r146)]) [] [], 0, 0), []), (6, (Or.call (vA [sD (dI r08), sD (dI r120), sD (dL r28), sD (dI r37), sD (dI r47), sD (dL r57), sD (dI r67), sD (dI r77), sD (dL r87), sD (dI r97), sD (dI r107), sD (dL r1110), sD (dI r127), sD (dI r137), sD (dB r147)]) [] [], 0, 0), []), (7, (Or.call (vD (dB r29)) [] [], 0, 0), [])] [4] [] [.old 0] <| .ret []) (.drw 0 [(1, (Or.bool false, 0, 0), [])] [4] [] [.old 0] <| .ret [])))
    (by kernel_rfl) (by kernel_rfl) (by kernel_rfl) h
end Go.AM
/- Package step: every state of the run is valid; the laws of validity and of resuming. -/
namespace Go.AM
open Go.Proofs.Tryz
theorem take_elr {w : List Int} {k j : Nat} (h : j < k) : elr (w.take k) j = elr w j := by simp [elr, List.getElem?_take, h]
theorem piv_is {w : List Int} {p : Nat} (hp : p < w.length) (hz : ∀ j, j < p → elr w j = 0) (hn : elr w p ≠ 0) : piv w = (p : Int) := by
  rcases piv_cases w with ⟨_, h⟩ | ⟨q, h1, h2, h3, h4⟩
  · exact absurd (h p hp) hn
  · rcases Nat.lt_trichotomy q p with g | g | g
    · exact absurd (hz q g) h3
    · rw [h1, g]
    · exact absurd (h4 p g) hn
theorem HI.valid {r c t k : Nat} {m : List (List Int)} (hm : Mx r c m) (h : HI r t k m) (ht : t ≤ r) (hk : k ≤ c) : validR r t k m = true := by
  obtain ⟨p, hp⟩ := h.pv
  have cr : ∀ i, i < t → (cor t k m).getD i [] = (m.getD i []).take k := fun i hi => cor_row hi (by rw [hm.1]; exact ht)
  have ce : ∀ i j, i < t → j < k → el (cor t k m) i j = el m i j := fun i j hi hj => by
    rw [← elr_el, cr i hi, take_elr hj, elr_el]
  have pv : ∀ i, i < t → piv ((cor t k m).getD i []) = (p i : Int) := fun i hi => by
    obtain ⟨g1, g2, g3, _⟩ := hp i hi
    obtain ⟨_, hl⟩ := mx_row hm (show i < r by omega)
    rw [cr i hi]
    refine piv_is (by rw [List.length_take]; omega) (fun j hj => by rw [take_elr (by omega), elr_el]; exact g2 j hj) ?_
    rw [take_elr g1, elr_el]
    omega
  rw [validR_iff]
  refine ⟨isHB_true fun n hn => ?_, (rankF_full _ _).2 fun i hi => by rw [pv i hi]; omega, ?_⟩
  · rw [rowIs_iff (pv n hn)]
    obtain ⟨g1, g2, g3, g4⟩ := hp n hn
    refine ⟨?_, by rw [ce n _ hn g1]; exact g3, fun l hl => by rw [ce l _ (by omega) g1, ce n _ hn g1]; exact (g4 l hl).2⟩
    cases n with
    | zero => show (-1 : Int) < _; omega
    | succ n =>
      rw [lastP_succ, pv n (by omega), if_neg (by omega)]
      have := (g4 n (by omega)).1
      omega
  · unfold zeroB
    rw [List.all_eq_true]
    intro i hi
    have hi := List.mem_range.1 hi
    by_cases hit : i < t
    · simp [hit]
    · obtain ⟨_, hl⟩ := mx_row hm hi
      rw [(zP_iff (by omega)).2 fun j hj => h.ze i (by omega) hi j hj, Bool.or_true]
section
variable {r c N L : Nat} {A : List (List Int)} (X : PSx r c N L A)
include X
theorem PSx.vx {s : PS} (h : PInv r c N A s) : VX r c (N * qB r N c) A (apL r c s.d A) (apL r r s.d (idM r)) (apCL r s.d (idM r)) := by
  obtain ⟨b1, b2, b3⟩ := X.bds h
  refine ⟨X.hm, apL_mx _ X.hm, apL_mx _ (table_mx _ _ _), apCL_mx _ (table_mx _ _ _), X.km.mono (Nat.le_mul_of_pos_right _ (qB_pos _ _ _)), b1, b2, b3, fun y hy => ?_, X.hr, X.hc⟩
  refine Sz.of_lt L X.hL (Nat.lt_of_le_of_lt hy ?_)
  rw [Nat.mul_comm]; exact X.big
theorem PSx.valid {s : PS} (h : PInv r c N A s) (g : HI r s.t s.k (apL r c s.d A)) : validI r c A (apL r c s.d A) (apL r r s.d (idM r)) (apCL r s.d (idM r)) s.t s.k (s.fin r c) = true := by
  have e1 : mmul r r c (apL r r s.d (idM r)) A = apL r c s.d A := (apL_mat h.va X.hm).symm
  have e2 : mmul r r r (apL r r s.d (idM r)) (apCL r s.d (idM r)) = idM r := uv_id h.va
  have e3 : finI r c s.t s.k = s.fin r c := by simp [finI, PS.fin]
  have h1 := h.tr; have h2 := h.tk; have h3 := h.kc
  unfold validI
  rw [Int.toNat_natCast, Int.toNat_natCast, HI.valid (apL_mx _ X.hm) g h1 h3, e1, e2, e3]
  simp [h1, h2, h3]
theorem PSx.rvalid {s : PS} (h : PInv r c N A s) (g : HI r s.t s.k (apL r c s.d A)) : FnD prog 17 [eS r c A s] (vb true) [] := by
  have := rvalidP_ok (X.vx h) s.t s.k (s.fin r c)
  rw [X.valid h g] at this
  exact this
theorem PSx.same {s : PS} (hs : PInv r c N A s) : FnD prog 11 [eS r c A s, eS r c A s] (vb true) [] := by
  obtain ⟨b1, b2, b3⟩ := X.bds hs
  have szm : ∀ {m : List (List Int)}, BdM (N * qB r N c) m → SzM m := fun h x hx z hz => X.sz (h x hx z hz)
  exact psame_ok X.hm (apL_mx _ X.hm) (apL_mx _ (table_mx _ _ _)) (apCL_mx _ (table_mx _ _ _)) (szm (X.km.mono (Nat.le_mul_of_pos_right _ (qB_pos _ _ _)))) (szm b1) (szm b2) (szm b3) X.hr X.hc
end
theorem hi_run {r c : Nat} {a : List (List Int)} (n : Nat) : HI r (PS.run r c a n ⟨[], 0, 0⟩).t (PS.run r c a n ⟨[], 0, 0⟩).k (apL r c (PS.run r c a n ⟨[], 0, 0⟩).d a) :=
  HI.run n (s := ⟨[], 0, 0⟩) HI.zero
theorem rcopiedS_ok {r c N L : Nat} {A : List (List Int)} (X : PSx r c N L A) {s : PS} (h : PInv r c N A s) : FnD prog 18 [eS r c A s] (eS r c A s) [] := by
  refine vc18_ok _ _ _ _ _ _ _ _ _ _ _ _ _ _ _ (R := Out _) ?_
  unfold vc18
  have V := X.vx h
  have cp : ∀ {n k : Nat} {m : List (List Int)}, Mx n k m → BdM (N * qB r N c) m → n ≤ 4294967296 → k ≤ 4294967296 → FnD prog 42 [eM n k m] (eMo n k) (oM m) := fun hm km hn hk => rcopied_ok hm (fun i j hi hj => X.sz (el_bd hm km hi hj)) hn hk
  exact ⟨_, _, _, _, _, _, _, _, _, _, _, _, cp V.hA V.kA X.hr X.hc, cp V.hm V.km X.hr X.hc, cp V.hu V.ku X.hr X.hr, cp V.hv V.kv X.hr X.hr, by
    rw [matD_om, matD_om, matD_om, matD_om]; exact ⟨rfl, rfl⟩⟩
theorem stepResumes_ok (x0 : Int) (g0 : IntKind.u8.min ≤ x0 ∧ x0 ≤ IntKind.u8.max) (x1 : Int) (g1 : IntKind.u8.min ≤ x1 ∧ x1 ≤ IntKind.u8.max) (l2 : List (List D)) (g2 : l2.length ≤ 9223372036854775807 ∧ ∀ x ∈ l2, DOKL [.i .i8] x)
    (l3 : List (List D)) (g3 : l3.length ≤ 9223372036854775807 ∧ ∀ x ∈ l3, DOKL [.i .i8] x) :
    FnD prog 4 [.e (.agg [.dat (.int .u8 x0), .dat (.int .u8 x1), .dat (.sl l2)]), .e (.sc (.dat (.sl l3)))] (vb true) [] := by
  obtain ⟨v, rfl, _⟩ := i8s_of g2
  obtain ⟨zs, rfl, hzs⟩ := i8s_of g3
  obtain ⟨r, c, hr, hc, hA⟩ := rawmade_ok v g0.1 g1.1
  obtain ⟨a, ea⟩ : ∃ a, a = table r c (fillG c v) := ⟨_, rfl⟩
  have ma : Mx r c a := ea ▸ table_mx _ _ _
  have ka : BdM 9 a := ea ▸ filled_bd
  rw [← ea] at hA
  clear ea
  have X := pxs_small ma ka hr hc
  have hI : ∀ n, PInv r c 9 a (PS.run r c a n ⟨[], 0, 0⟩) := fun n => PInv.run ma ka n (PInv.start ma ka)
  refine vc4_ok _ _ _ _ (R := Out _) ?_
  unfold vc4
  have p0 : FnD prog 10 [vA [sD (dI r), sD (dI c), sD (dL (matD (om a)))]] (eS r c a ⟨[], 0, 0⟩) [] := by rw [matD_om]; exact pstart_ok X
  refine ⟨_, sanity21_ok, _, _, _, hA, _, _, _, _, _, _, _, _, _, _, _, _, _, _, _, p0, ?_⟩
  refine ⟨fun p0 p1 p10 p11 p12 p13 p14 p2 p3 p4 p5 p6 p7 p8 p9 tt z => ∃ n k : Nat, St0 r c 9 a p0 p1 p10 p11 p12 p13 p14 p2 p3 p4 p5 p6 p7 p8 p9 (PS.run r c a n ⟨[], 0, 0⟩) ∧ tt = (n : Int) ∧ z = (k : Int) ∧ n ≤ 16 * k ∧ k ≤ 8,
    fun _ _ _ _ _ _ _ _ _ _ _ _ _ _ _ _ z => ((8 : Int) - z).toNat, ⟨0, 0, ⟨⟨rfl, rfl, rfl, rfl, rfl, rfl, rfl, rfl, rfl, rfl, rfl, rfl, rfl, rfl, rfl⟩, hI 0⟩, rfl, rfl, by omega, by omega⟩, ?_⟩
  rintro _ _ _ _ _ _ _ _ _ _ _ _ _ _ _ _ _ ⟨n, k, ⟨⟨rfl, rfl, rfl, rfl, rfl, rfl, rfl, rfl, rfl, rfl, rfl, rfl, rfl, rfl, rfl⟩, hi⟩, rfl, rfl, hn, hk⟩
  have last : FnD prog 13 [eS r c a ⟨[], 0, 0⟩, vi n] (eS r c a (PS.run r c a n ⟨[], 0, 0⟩)) [] := pstep_ok X (hI 0) (n0 := (n : Int)) (by omega)
  refine ⟨fun h => ⟨fun h2 => ?_, fun _ => ⟨fun _ => ?_, fun h => absurd h (by decide)⟩⟩, fun _ => ⟨fun _ => ?_, fun h => absurd h (by decide)⟩⟩
  · have hlt : k < 8 := by have := of_decide_eq_true h2; omega
    have hkl : k < (i8s zs).length := by have := of_decide_eq_true h; omega
    have hkz : k < zs.length := by simpa [i8s] using hkl
    have hz := hzs _ (List.getElem_mem hkz)
    have hrd : (i8s zs)[((k : Int)).toNat]? = some [D.int .i8 zs[k]] := by simp [i8s, hkz]
    obtain ⟨q, hq⟩ : ∃ q, q = (IntKind.i64.wrap zs[k]).tmod 16 := ⟨_, rfl⟩
    have hq1 : -16 < q ∧ q < 16 := by
      rw [hq, w64 (by omega) (by omega)]
      have h1 := Int.tmod_lt_of_pos zs[k] (b := 16) (by decide)
      have h2 := Int.lt_tmod_of_pos zs[k] (b := 16) (by decide)
      omega
    have h1 := pstep_ok X hi (n0 := q) (by omega)
    rw [← PS.run_add] at h1
    have em : (if (0 : Int) > q then (0 : Int) else q) = (q.toNat : Int) := by split <;> omega
    refine ⟨zs[k], ⟨by omega, by omega⟩, hrd, by decide, _, X.rvalid hi (hi_run n), fun h => absurd h (by decide), fun _ => ?_⟩
    rw [← hq, em]
    refine ⟨_, _, _, _, _, _, _, _, _, _, _, _, _, _, _, rcopiedS_ok X hi, _, _, _, _, _, _, _, _, _, _, _, _, _, _, _, h1, _, X.same hi, fun h => absurd h (by decide), fun _ => ?_⟩
    refine ⟨_, _, _, _, _, _, _, _, _, _, _, _, _, _, _, _, h1, X.same (hI _), fun h => absurd h (by decide), fun _ => ?_⟩
    rw [inc64 (by omega), w64 (n := (n : Int) + (q.toNat : Int)) (by omega) (by omega)]
    exact ⟨⟨n + q.toNat, k + 1, ⟨⟨rfl, rfl, rfl, rfl, rfl, rfl, rfl, rfl, rfl, rfl, rfl, rfl, rfl, rfl, rfl⟩, hI _⟩, by omega, rfl, by omega, by omega⟩, by show ((8 : Int) - ((k + 1 : Nat) : Int)).toNat < ((8 : Int) - (k : Int)).toNat; omega⟩
  · exact ⟨_, _, _, _, _, _, _, _, _, _, _, _, _, _, _, _, _, _, _, _, _, _, _, _, _, _, _, _, _, _, _, p0, last, X.same hi, outb rfl⟩
  · exact ⟨_, _, _, _, _, _, _, _, _, _, _, _, _, _, _, _, _, _, _, _, _, _, _, _, _, _, _, _, _, _, _, p0, last, X.same hi, outb rfl⟩
end Go.AM
