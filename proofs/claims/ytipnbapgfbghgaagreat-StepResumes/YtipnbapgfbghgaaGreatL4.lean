/- What functions of the program come to: group Sa. Printed by vc.py. -/
import Derived.Test.YtipnbapgfbghgaaGreatL3
set_option maxRecDepth 100000
set_option linter.unusedVariables false
namespace Go.AM
open Go.Proofs.Tryz
def vc29 (p0 p1 : Int) (p2 : List (List D)) (p3 p4 : Int) (p5 : List (List D)) (p6 p7 : Int) (p8 : List (List D)) (p9 p10 : Int) (p11 : List (List D)) (p12 p13 : Int) (p14 : Bool) (R : V → Heap → Prop) : Prop :=
 (decide (p12 ≥ p0) = true →
 R (vD (dB true)) []) ∧
 (decide (p12 ≥ p0) = false →
 R (vD (dB (decide (p13 ≥ p1)))) [])
theorem vc29_ok (p0 p1 : Int) (p2 : List (List D)) (p3 p4 : Int) (p5 : List (List D)) (p6 p7 : Int) (p8 : List (List D)) (p9 p10 : Int) (p11 : List (List D)) (p12 p13 : Int) (p14 : Bool) {R : V → Heap → Prop} (h : vc29 p0 p1 p2 p3 p4 p5 p6 p7 p8 p9 p10 p11 p12 p13 p14 R) : FnG prog 29 [vA [sD (dI p0), sD (dI p1), sD (dL p2), sD (dI p3), sD (dI p4), sD (dL p5), sD (dI p6), sD (dI p7), sD (dL p8), sD (dI p9), sD (dI p10), sD (dL p11), sD (dI p12), sD (dI p13), sD (dB p14)]] [] R :=
  FnG.vcg hT func29 ntmps29 (.reg 1 [(0, Or.none, 0, 1)] [1] [0] [] <| .spl ((decide (p12 ≥ p0))) (.reg 0 [(6, Or.bool true, 0, 0)] [2] [] [.old 0] <| .ret []) (.reg 0 [(6, Or.bool false, 0, 0)] [2] [] [.old 0] <| .ret []))
    (by kernel_rfl) (by kernel_rfl) (by kernel_rfl) h
def vc31 (p0 p1 : Int) (p2 : List (List D)) (p3 p4 : Int) (p5 : List (List D)) (p6 p7 : Int) (p8 : List (List D)) (p9 p10 : Int) (p11 : List (List D)) (p12 p13 : Int) (p14 : Bool) (R : V → Heap → Prop) : Prop :=
 (decide (p12 ≥ p0) = true →
 R (vD (dB true)) []) ∧
 (decide (p12 ≥ p0) = false →
 R (vD (dB (decide (p13 ≥ p1)))) [])
theorem vc31_ok (p0 p1 : Int) (p2 : List (List D)) (p3 p4 : Int) (p5 : List (List D)) (p6 p7 : Int) (p8 : List (List D)) (p9 p10 : Int) (p11 : List (List D)) (p12 p13 : Int) (p14 : Bool) {R : V → Heap → Prop} (h : vc31 p0 p1 p2 p3 p4 p5 p6 p7 p8 p9 p10 p11 p12 p13 p14 R) : FnG prog 31 [vA [sD (dI p0), sD (dI p1), sD (dL p2), sD (dI p3), sD (dI p4), sD (dL p5), sD (dI p6), sD (dI p7), sD (dL p8), sD (dI p9), sD (dI p10), sD (dL p11), sD (dI p12), sD (dI p13), sD (dB p14)]] [] R :=
  FnG.vcg hT func31 ntmps31 (.reg 1 [(0, Or.none, 0, 1)] [1] [0] [] <| .spl ((decide (p12 ≥ p0))) (.reg 0 [(6, Or.bool true, 0, 0)] [2] [] [.old 0] <| .ret []) (.reg 0 [(6, Or.bool false, 0, 0)] [2] [] [.old 0] <| .ret []))
    (by kernel_rfl) (by kernel_rfl) (by kernel_rfl) h
def vc10 (a0 a1 : Int) (a2 : List (List D)) (R : V → Heap → Prop) : Prop :=
 ∃ (r0 r1 : Int) (r2 : List (List D)) (r01 r11 : Int) (r21 : List (List D)),
 (FnD prog 28 [vD (dI a0)] (vA [sD (dI r0), sD (dI r1), sD (dL r2)]) []) ∧
 (FnD prog 28 [vD (dI a0)] (vA [sD (dI r01), sD (dI r11), sD (dL r21)]) []) ∧
 (∃ (r : Bool),
 (FnD prog 29 [vA [sD (dI a0), sD (dI a1), sD (dL a2), sD (dI a0), sD (dI a1), sD (dL a2), sD (dI r0), sD (dI r1), sD (dL r2), sD (dI r01), sD (dI r11), sD (dL r21), sD (dI (0 : Int)), sD (dI (0 : Int)), sD (dB false)]] (vD (dB r)) []) ∧
 (R (vA [sD (dI a0), sD (dI a1), sD (dL a2), sD (dI a0), sD (dI a1), sD (dL a2), sD (dI r0), sD (dI r1), sD (dL r2), sD (dI r01), sD (dI r11), sD (dL r21), sD (dI (0 : Int)), sD (dI (0 : Int)), sD (dB r)]) []))
theorem vc10_ok (a0 a1 : Int) (a2 : List (List D)) {R : V → Heap → Prop} (h : vc10 a0 a1 a2 R) : FnG prog 10 [vA [sD (dI a0), sD (dI a1), sD (dL a2)]] [] R :=
  FnG.vcg hT func10 ntmps10 (.reg 2 [(0, Or.none, 0, 1), (1, Or.none, 1, 1)] [1, 2] [0, 1] [] <| .ex fun r0 => .ex fun r1 => .exl fun r2 => .ex fun r01 => .ex fun r11 => .exl fun r21 => .drw 1 [(4, (Or.call (vA [sD (dI r0), sD (dI r1), sD (dL r2)]) [] [], 0, 0), []), (7, (Or.call (vA [sD (dI r01), sD (dI r11), sD (dL r21)]) [] [], 0, 0), []), (9, (Or.none, 2, 1), [2]), (10, (Or.none, 0, 0), [2])] [2, 3] [1, 2] [] <| .exb fun r => .reg 0 [(1, Or.call (vD (dB r)) [] [], 0, 0)] [2, 3] [0, 1] [] <| .r1 [2] [0] <| .ret [])
    (by kernel_rfl) (by kernel_rfl) (by kernel_rfl) h
def vc12 (a0 a1 : Int) (a2 : List (List D)) (R : V → Heap → Prop) : Prop :=
 ∃ (r0 r1 : Int) (rrows : List (List (List D))) (r01 r11 : Int) (rrows1 : List (List (List D))),
 (FnD prog 30 [vD (dI a0)] (vA [sD (dI r0), sD (dI r1), S.ref 0]) [some (Obj.mat 2 rrows)]) ∧
 (FnD prog 30 [vD (dI a0)] (vA [sD (dI r01), sD (dI r11), S.ref 0]) [some (Obj.mat 2 rrows1)]) ∧
 (∃ (r : Bool),
 (FnD prog 31 [vA [sD (dI a0), sD (dI a1), sD (dL a2), sD (dI a0), sD (dI a1), sD (dL a2), sD (dI r0), sD (dI r1), sD (dL (matD rrows)), sD (dI r01), sD (dI r11), sD (dL (matD rrows1)), sD (dI (0 : Int)), sD (dI (0 : Int)), sD (dB false)]] (vD (dB r)) []) ∧
 (R (vA [sD (dI a0), sD (dI a1), sD (dL a2), sD (dI a0), sD (dI a1), sD (dL a2), sD (dI r0), sD (dI r1), sD (dL (matD rrows)), sD (dI r01), sD (dI r11), sD (dL (matD rrows1)), sD (dI (0 : Int)), sD (dI (0 : Int)), sD (dB r)]) []))
theorem vc12_ok (a0 a1 : Int) (a2 : List (List D)) {R : V → Heap → Prop} (h : vc12 a0 a1 a2 R) : FnG prog 12 [vA [sD (dI a0), sD (dI a1), sD (dL a2)]] [] R :=
  FnG.vcg hT func12 ntmps12 (.reg 2 [(0, Or.none, 0, 1), (1, Or.none, 1, 1)] [1, 2] [0, 1] [] <| .ex fun r0 => .ex fun r1 => .exm fun rrows => .ex fun r01 => .ex fun r11 => .exm fun rrows1 => .drw 3 [(4, (Or.call (vA [sD (dI r0), sD (dI r1), S.ref 0]) [some (Obj.mat 2 rrows)] [], 2, 1), [2]), (7, (Or.call (vA [sD (dI r01), sD (dI r11), S.ref 0]) [some (Obj.mat 2 rrows1)] [], 3, 1), [3]), (9, (Or.none, 4, 1), [4]), (10, (Or.none, 0, 0), [4])] [2, 3] [1, 4, 2, 3] [] <| .frz [2] <| .frz [3] <| .exb fun r => .reg 0 [(1, Or.call (vD (dB r)) [] [], 0, 0)] [2, 3] [0, 1] [] <| .r1 [2] [0] <| .ret [])
    (by kernel_rfl) (by kernel_rfl) (by kernel_rfl) h
def vc94 (p0 p1 : Int) (p2 : List (List D)) (p3 p4 : Int) (p5 : List (List D)) (p6 p7 : Int) (p8 : List (List D)) (p9 p10 : Int) (p11 : List (List D)) (p12 p13 : Int) (p14 : Bool) (i : Int) (R : V → Heap → Prop) : Prop :=
 ∃ (vx : List (List D)) (x0 : Bool) (x1 : List (List D)),
 (0 ≤ i ∧ i < (p5.length : Int)) ∧
 (p5[(i).toNat]? = some [dL vx]) ∧
 (0 ≤ p13 ∧ p13 < (vx.length : Int)) ∧
 (vx[(p13).toNat]? = some [dB x0, dL x1]) ∧
 (R (vA [sD (dB x0), sD (dL x1)]) [])
theorem vc94_ok (p0 p1 : Int) (p2 : List (List D)) (p3 p4 : Int) (p5 : List (List D)) (p6 p7 : Int) (p8 : List (List D)) (p9 p10 : Int) (p11 : List (List D)) (p12 p13 : Int) (p14 : Bool) (i : Int) {R : V → Heap → Prop} (h : vc94 p0 p1 p2 p3 p4 p5 p6 p7 p8 p9 p10 p11 p12 p13 p14 i R) : FnG prog 94 [vD (D.box [dI p0, dI p1, dL p2, dI p3, dI p4, dL p5, dI p6, dI p7, dL p8, dI p9, dI p10, dL p11, dI p12, dI p13, dB p14]), vD (dI i)] [] R :=
  FnG.vcg hT func94 ntmps94 (.reg 1 [(0, Or.none, 0, 1)] [0, 1, 4] [0] [] <| .exl fun vx => .exb fun x0 => .exl fun x1 => .drw 0 [(7, (Or.cells [dL vx], 0, 0), []), (13, (Or.cells [dB x0, dL x1], 0, 0), []), (14, (Or.none, 0, 0), [0])] [4] [0] [] <| .ret [])
    (by kernel_rfl) (by kernel_rfl) (by kernel_rfl) h
def vc94o (p0 p1 : Int) (p2 : List (List D)) (p3 p4 : Int) (p5 : List (List (List D))) (p6 p7 : Int) (p8 : List (List (List D))) (p9 p10 : Int) (p11 : List (List (List D))) (p12 p13 : Int) (p14 : Bool) (i : Int) (R : V → Heap → Prop) : Prop :=
 ∃ (x0 : Bool) (x1 : List (List D)),
 (0 ≤ i ∧ i < (p5.length : Int)) ∧
 (∃ l, p5[(i).toNat]? = some l ∧ 0 ≤ p13 ∧ p13 < (l.length : Int)) ∧
 (at2 p5 (i).toNat (p13).toNat = some [dB x0, dL x1]) ∧
 (R (vA [sD (dB x0), sD (dL x1)]) [some (Obj.box [sD (dI p0), sD (dI p1), sD (dL p2), sD (dI p3), sD (dI p4), S.ref 1, sD (dI p6), sD (dI p7), S.ref 2, sD (dI p9), sD (dI p10), S.ref 3, sD (dI p12), sD (dI p13), sD (dB p14)]), some (Obj.mat 2 p5), some (Obj.mat 2 p8), some (Obj.mat 2 p11)])
theorem vc94o_ok (p0 p1 : Int) (p2 : List (List D)) (p3 p4 : Int) (p5 : List (List (List D))) (p6 p7 : Int) (p8 : List (List (List D))) (p9 p10 : Int) (p11 : List (List (List D))) (p12 p13 : Int) (p14 : Bool) (i : Int) {R : V → Heap → Prop} (h : vc94o p0 p1 p2 p3 p4 p5 p6 p7 p8 p9 p10 p11 p12 p13 p14 i R) : FnG prog 94 [V.e (E.sc (S.ptr 0 0)), vD (dI i)] [some (Obj.box [sD (dI p0), sD (dI p1), sD (dL p2), sD (dI p3), sD (dI p4), S.ref 1, sD (dI p6), sD (dI p7), S.ref 2, sD (dI p9), sD (dI p10), S.ref 3, sD (dI p12), sD (dI p13), sD (dB p14)]), some (Obj.mat 2 p5), some (Obj.mat 2 p8), some (Obj.mat 2 p11)] R :=
  FnG.vcg hT func94 ntmps94 (.reg 1 [(0, Or.none, 4, 1)] [0, 1, 4] [0, 1, 2, 3, 4] [] <| .exb fun x0 => .exl fun x1 => .drw 0 [(13, (Or.cells [dB x0, dL x1], 0, 0), []), (14, (Or.none, 0, 0), [4])] [4] [0, 1, 2, 3, 4] [] <| .ret [0, 1, 2, 3])
    (by kernel_rfl) (by kernel_rfl) (by kernel_rfl) h
def vc93 (p0 p1 : Int) (p2 : List (List D)) (p3 p4 : Int) (p5 : List (List D)) (p6 p7 : Int) (p8 : List (List D)) (p9 p10 : Int) (p11 : List (List D)) (p12 p13 : Int) (p14 : Bool) (R : V → Heap → Prop) : Prop :=
 ∃ (J0 : Int → Int → Prop) (μ0 : Int → Int → Nat),
 J0 (-1 : Int) p12 ∧ ∀ (best i : Int), J0 best i →
 (decide (i < p3) = true →
 ∃ (r0 : Bool) (r1 : List (List D)) (r01 : Bool) (r11 : List (List D)),
 (FnD prog 94 [vD (D.box [dI p0, dI p1, dL p2, dI p3, dI p4, dL p5, dI p6, dI p7, dL p8, dI p9, dI p10, dL p11, dI p12, dI p13, dB p14]), vD (dI i)] (vA [sD (dB r0), sD (dL r1)]) []) ∧
 (FnD prog 117 [vA [sD (dB r0), sD (dL r1)]] (vA [sD (dB r01), sD (dL r11)]) []) ∧
 (∃ (r : Int),
 (FnD prog 83 [vA [sD (dB r01), sD (dL r11)]] (vD (dI r)) []) ∧
 ((decide (r > (0 : Int)) = true →
 (decide (best < (0 : Int)) = true →
 J0 i (IntKind.i64.wrap (i + (1 : Int))) ∧ μ0 i (IntKind.i64.wrap (i + (1 : Int))) < μ0 best i) ∧
 (decide (best < (0 : Int)) = false →
 ∃ (r02 : Bool) (r12 : List (List D)) (r03 : Bool) (r13 : List (List D)) (r2 : Int),
 (FnD prog 94 [vD (D.box [dI p0, dI p1, dL p2, dI p3, dI p4, dL p5, dI p6, dI p7, dL p8, dI p9, dI p10, dL p11, dI p12, dI p13, dB p14]), vD (dI best)] (vA [sD (dB r02), sD (dL r12)]) []) ∧
 (FnD prog 117 [vA [sD (dB r02), sD (dL r12)]] (vA [sD (dB r03), sD (dL r13)]) []) ∧
 (FnD prog 86 [vA [sD (dB r01), sD (dL r11)], vA [sD (dB r03), sD (dL r13)]] (vD (dI r2)) []) ∧
 ((decide (r2 < (0 : Int)) = true →
 J0 i (IntKind.i64.wrap (i + (1 : Int))) ∧ μ0 i (IntKind.i64.wrap (i + (1 : Int))) < μ0 best i) ∧
 (decide (r2 < (0 : Int)) = false →
 J0 best (IntKind.i64.wrap (i + (1 : Int))) ∧ μ0 best (IntKind.i64.wrap (i + (1 : Int))) < μ0 best i)))) ∧
 (decide (r > (0 : Int)) = false →
 J0 best (IntKind.i64.wrap (i + (1 : Int))) ∧ μ0 best (IntKind.i64.wrap (i + (1 : Int))) < μ0 best i)))) ∧
 (decide (i < p3) = false →
 R (vD (dI best)) [])
theorem vc93_ok (p0 p1 : Int) (p2 : List (List D)) (p3 p4 : Int) (p5 : List (List D)) (p6 p7 : Int) (p8 : List (List D)) (p9 p10 : Int) (p11 : List (List D)) (p12 p13 : Int) (p14 : Bool) {R : V → Heap → Prop} (h : vc93 p0 p1 p2 p3 p4 p5 p6 p7 p8 p9 p10 p11 p12 p13 p14 R) : FnG prog 93 [vD (D.box [dI p0, dI p1, dL p2, dI p3, dI p4, dL p5, dI p6, dI p7, dL p8, dI p9, dI p10, dL p11, dI p12, dI p13, dB p14])] [] R :=
  FnG.vcg hT func93 ntmps93 (.r0 [0] <| .r0 [0, 3] <| .r0 [0, 3, 4] <| .lp [.i, .i] (fun best i => ⟨[(0, vD (D.box [dI p0, dI p1, dL p2, dI p3, dI p4, dL p5, dI p6, dI p7, dL p8, dI p9, dI p10, dL p11, dI p12, dI p13, dB p14])), (3, vD (dI best)), (4, vD (dI i))], [], 41⟩) [.i (-1 : Int), .i p12] <| .fi fun best => .fi fun i => .beg <| .r0 [0, 3, 4, 16] <| .c2 (.exb fun r0 => .exl fun r1 => .exb fun r01 => .exl fun r11 => .reg 1 [(2, Or.call (vA [sD (dB r0), sD (dL r1)]) [] [], 0, 0), (3, Or.call (vA [sD (dB r01), sD (dL r11)]) [] [], 0, 0), (4, Or.none, 0, 1)] [0, 3, 4, 5] [0] [] <| .ex fun r => .ob (FnD prog 83 [vA [sD (dB r01), sD (dL r11)]] (vD (dI r)) []) <| .spl ((decide (r > (0 : Int)))) (.spl ((decide (best < (0 : Int)))) (.drw 0 [(1, (Or.call (vD (dI r)) [] [], 0, 0), []), (3, (Or.bool true, 0, 0), []), (6, (Or.bool true, 0, 0), [])] [0, 3, 4, 38] [] [.old 2, .old 1, .old 0] <| .ct true none <| .r0 [0, 3, 4] <| .r0 [0, 3, 4] <| .bk 0 [.i i, .i (IntKind.i64.wrap (i + (1 : Int)))]) (.exb fun r02 => .exl fun r12 => .exb fun r03 => .exl fun r13 => .ex fun r2 => .drw 0 [(1, (Or.call (vD (dI r)) [] [], 0, 0), []), (3, (Or.bool true, 0, 0), []), (6, (Or.bool false, 0, 0), []), (10, (Or.call (vA [sD (dB r02), sD (dL r12)]) [] [], 0, 0), []), (11, (Or.call (vA [sD (dB r03), sD (dL r13)]) [] [], 0, 0), []), (12, (Or.call (vD (dI r2)) [] [], 0, 0), [])] [0, 3, 4, 38] [] [.old 2, .old 1, .old 0] <| .c2 (.r0 [0, 3, 4] <| .r0 [0, 3, 4] <| .bk 0 [.i i, .i (IntKind.i64.wrap (i + (1 : Int)))]) (.r0 [0, 3, 4] <| .bk 0 [.i best, .i (IntKind.i64.wrap (i + (1 : Int)))]))) (.drw 0 [(1, (Or.call (vD (dI r)) [] [], 0, 0), []), (3, (Or.bool false, 0, 0), [])] [0, 3, 4, 38] [] [.old 1, .old 0] <| .ct false none <| .r0 [0, 3, 4] <| .bk 0 [.i best, .i (IntKind.i64.wrap (i + (1 : Int)))])) (.r0 [2] <| .ret []))
    (by kernel_rfl) (by kernel_rfl) (by kernel_rfl) h
def vc64 (p0 p1 : Int) (p2 : List (List D)) (p3 p4 : Int) (p5 : List (List (List D))) (p6 p7 : Int) (p8 : List (List (List D))) (p9 p10 : Int) (p11 : List (List (List D))) (p12 p13 : Int) (p14 : Bool) (R : V → Heap → Prop) : Prop :=
 ∃ (r : Int),
 (FnD prog 93 [vD (D.box [dI p0, dI p1, dL p2, dI p3, dI p4, dL (matD p5), dI p6, dI p7, dL (matD p8), dI p9, dI p10, dL (matD p11), dI p12, dI p13, dB p14])] (vD (dI r)) []) ∧
 ((decide (r ≥ (0 : Int)) = true →
 R (vD (dB false)) [some (Obj.box [sD (dI p0), sD (dI p1), sD (dL p2), sD (dI p3), sD (dI p4), S.ref 1, sD (dI p6), sD (dI p7), S.ref 2, sD (dI p9), sD (dI p10), S.ref 3, sD (dI p12), sD (dI p13), sD (dB p14)]), some (Obj.mat 2 p5), some (Obj.mat 2 p8), some (Obj.mat 2 p11)]) ∧
 (decide (r ≥ (0 : Int)) = false →
 R (vD (dB true)) [some (Obj.box [sD (dI p0), sD (dI p1), sD (dL p2), sD (dI p3), sD (dI p4), S.ref 1, sD (dI p6), sD (dI p7), S.ref 2, sD (dI p9), sD (dI p10), S.ref 3, sD (dI p12), sD (dI (IntKind.i64.wrap (p13 + (1 : Int)))), sD (dB p14)]), some (Obj.mat 2 p5), some (Obj.mat 2 p8), some (Obj.mat 2 p11)]))
theorem vc64_ok (p0 p1 : Int) (p2 : List (List D)) (p3 p4 : Int) (p5 : List (List (List D))) (p6 p7 : Int) (p8 : List (List (List D))) (p9 p10 : Int) (p11 : List (List (List D))) (p12 p13 : Int) (p14 : Bool) {R : V → Heap → Prop} (h : vc64 p0 p1 p2 p3 p4 p5 p6 p7 p8 p9 p10 p11 p12 p13 p14 R) : FnG prog 64 [V.e (E.sc (S.ptr 0 0))] [some (Obj.box [sD (dI p0), sD (dI p1), sD (dL p2), sD (dI p3), sD (dI p4), S.ref 1, sD (dI p6), sD (dI p7), S.ref 2, sD (dI p9), sD (dI p10), S.ref 3, sD (dI p12), sD (dI p13), sD (dB p14)]), some (Obj.mat 2 p5), some (Obj.mat 2 p8), some (Obj.mat 2 p11)] R :=
  FnG.vcg hT func64 ntmps64 (.r1 [0] [0, 1, 2, 3] <| .ex fun r => .reg 0 [(1, Or.callB [1, 2, 3] [0] (vD (dI r)), 0, 0)] [0, 5] [0, 1, 2, 3] [] <| .c2 (.r1 [2] [0, 1, 2, 3] <| .ret [0, 1, 2, 3]) (.r1 [] [0, 1, 2, 3] <| .r1 [2] [0, 1, 2, 3] <| .ret [0, 1, 2, 3]))
    (by kernel_rfl) (by kernel_rfl) (by kernel_rfl) h
def vc65 (p0 p1 : Int) (p2 : List (List D)) (p3 p4 : Int) (p5 : List (List (List D))) (p6 p7 : Int) (p8 : List (List (List D))) (p9 p10 : Int) (p11 : List (List (List D))) (p12 p13 : Int) (p14 : Bool) (R : V → Heap → Prop) : Prop :=
 ∃ (r : Int),
 (FnD prog 93 [vD (D.box [dI p0, dI p1, dL p2, dI p3, dI p4, dL (matD p5), dI p6, dI p7, dL (matD p8), dI p9, dI p10, dL (matD p11), dI p12, dI p13, dB p14])] (vD (dI r)) []) ∧
 (((r == p12) = true →
 R (vD (dB false)) [some (Obj.box [sD (dI p0), sD (dI p1), sD (dL p2), sD (dI p3), sD (dI p4), S.ref 4, sD (dI p6), sD (dI p7), S.ref 5, sD (dI p9), sD (dI p10), S.ref 3, sD (dI p12), sD (dI p13), sD (dB p14)]), some (Obj.fwd (S.ref 4)), some (Obj.fwd (S.ref 5)), some (Obj.mat 2 p11), some (Obj.mat 2 p5), some (Obj.mat 2 p8)]) ∧
 ((r == p12) = false →
 (0 ≤ p12 ∧ p12 < (p5.length : Int)) ∧
 (0 ≤ r ∧ r < (p5.length : Int)) ∧
 ((p12).toNat = (p12).toNat) ∧
 ((r).toNat = (r).toNat) ∧
 ((0 ≤ p12 ∧ p12 < (p8.length : Int)) ∧
 (0 ≤ r ∧ r < (p8.length : Int)) ∧
 (∃ (J0 : (List (List (List D))) → Int → Prop) (μ0 : (List (List (List D))) → Int → Nat),
 J0 p11 (0 : Int) ∧ ∀ (o3 : List (List (List D))) (t82 : Int), J0 o3 t82 →
 (decide (t82 < (p11.length : Int)) = true →
 (0 ≤ t82 ∧ t82 < (o3.length : Int)) ∧
 (∃ (x0 : Bool) (x1 : List (List D)) (x01 : Bool) (x11 : List (List D)),
 (∃ l, o3[(t82).toNat]? = some l ∧ 0 ≤ p12 ∧ p12 < (l.length : Int)) ∧
 (at2 o3 (t82).toNat (p12).toNat = some [dB x0, dL x1]) ∧
 (∃ l, o3[(t82).toNat]? = some l ∧ 0 ≤ r ∧ r < (l.length : Int)) ∧
 (at2 o3 (t82).toNat (r).toNat = some [dB x01, dL x11]) ∧
 (∃ l, (o3.modify (t82).toNat (fun qz => qz.set (r).toNat [dB x0, dL x1]))[(t82).toNat]? = some l ∧ 0 ≤ p12 ∧ p12 < (l.length : Int)) ∧
 (J0 ((o3.modify (t82).toNat (fun qz => qz.set (r).toNat [dB x0, dL x1])).modify (t82).toNat (fun qz => qz.set (p12).toNat [dB x01, dL x11])) (IntKind.i64.wrap (t82 + (1 : Int))) ∧ μ0 ((o3.modify (t82).toNat (fun qz => qz.set (r).toNat [dB x0, dL x1])).modify (t82).toNat (fun qz => qz.set (p12).toNat [dB x01, dL x11])) (IntKind.i64.wrap (t82 + (1 : Int))) < μ0 o3 t82))) ∧
 (decide (t82 < (p11.length : Int)) = false →
 R (vD (dB true)) [some (Obj.box [sD (dI p0), sD (dI p1), sD (dL p2), sD (dI p3), sD (dI p4), S.ref 4, sD (dI p6), sD (dI p7), S.ref 5, sD (dI p9), sD (dI p10), S.ref 3, sD (dI p12), sD (dI p13), sD (dB p14)]), some (Obj.fwd (S.ref 4)), some (Obj.fwd (S.ref 5)), some (Obj.mat 2 o3), some (Obj.mat 2 (swapR p5 ((r).toNat) ((p12).toNat))), some (Obj.mat 2 (swapR p8 ((r).toNat) ((p12).toNat)))])))))
theorem vc65_ok (p0 p1 : Int) (p2 : List (List D)) (p3 p4 : Int) (p5 : List (List (List D))) (p6 p7 : Int) (p8 : List (List (List D))) (p9 p10 : Int) (p11 : List (List (List D))) (p12 p13 : Int) (p14 : Bool) {R : V → Heap → Prop} (h : vc65 p0 p1 p2 p3 p4 p5 p6 p7 p8 p9 p10 p11 p12 p13 p14 R) : FnG prog 65 [V.e (E.sc (S.ptr 0 0))] [some (Obj.box [sD (dI p0), sD (dI p1), sD (dL p2), sD (dI p3), sD (dI p4), S.ref 1, sD (dI p6), sD (dI p7), S.ref 2, sD (dI p9), sD (dI p10), S.ref 3, sD (dI p12), sD (dI p13), sD (dB p14)]), some (Obj.mat 2 p5), some (Obj.mat 2 p8), some (Obj.mat 2 p11)] R :=
  FnG.vcg hT func65 ntmps65 (.r1 [0] [0, 1, 2, 3] <| .ex fun r => .drw 0 [(1, (Or.callB [1, 2, 3] [0] (vD (dI r)), 0, 0), [])] [0, 3, 4] [0, 1, 2, 3] [] <| .r1 [0, 3, 4, 15] [0, 1, 2, 3] <| .c2 (.r1 [2] [0, 1, 2, 3] <| .mv 1 <| .mv 2 <| .fwd [] [0] <| .ret [0, 1, 2, 3, 4, 5]) (.drw 1 [(29, (Or.none, 0, 0), [1]), (31, (Or.none, 4, 1), [1, 4])] [0, 3, 4] [0, 1, 2, 3, 4] [.new, .new, .old 0, .old 1] <| .fwd [] [0] <| .drw 1 [(29, (Or.none, 0, 0), [2]), (31, (Or.none, 5, 1), [2, 5])] [0, 3, 4] [0, 1, 2, 3, 4, 5] [.new, .new, .old 0, .old 1, .old 3, .old 2] <| .fwd [] [0] <| .r1 [3, 4, 80, 81, 82] [0, 1, 2, 3, 4, 5] <| .fwd [] [] <| .lp [.m, .i] (fun o3 t82 => ⟨[(3, vD (dI r)), (4, vD (dI p12)), (80, vR 3), (81, vD (dI (p11.length : Int))), (82, vD (dI t82))], [some (Obj.box [sD (dI p0), sD (dI p1), sD (dL p2), sD (dI p3), sD (dI p4), S.ref 4, sD (dI p6), sD (dI p7), S.ref 5, sD (dI p9), sD (dI p10), S.ref 3, sD (dI p12), sD (dI p13), sD (dB p14)]), some (Obj.fwd (S.ref 4)), some (Obj.fwd (S.ref 5)), some (Obj.mat 2 o3), some (Obj.mat 2 (swapR p5 ((r).toNat) ((p12).toNat))), some (Obj.mat 2 (swapR p8 ((r).toNat) ((p12).toNat)))], 101⟩) [.m p11, .i (0 : Int)] <| .fm fun o3 => .fi fun t82 => .beg <| .r1 [3, 4, 80, 81, 82, 83] [0, 1, 2, 3, 4, 5] <| .fwd [] [] <| .c2 (.r1 [3, 4, 6, 80, 81, 82] [0, 1, 2, 3, 4, 5] <| .fwd [] [] <| .exb fun x0 => .exl fun x1 => .exb fun x01 => .exl fun x11 => .drw 0 [(7, (Or.cells [dB x0, dL x1], 0, 0), []), (11, (Or.cells [dB x01, dL x11], 0, 0), []), (13, (Or.none, 0, 0), [3]), (15, (Or.none, 0, 0), [3])] [3, 4, 80, 81, 82] [0, 1, 2, 3, 4, 5] [.new, .new, .new, .new, .old 1] <| .fwd [] [] <| .r1 [3, 4, 80, 81, 82] [0, 1, 2, 3, 4, 5] <| .fwd [] [] <| .bk 0 [.m ((o3.modify (t82).toNat (fun qz => qz.set (r).toNat [dB x0, dL x1])).modify (t82).toNat (fun qz => qz.set (p12).toNat [dB x01, dL x11])), .i (IntKind.i64.wrap (t82 + (1 : Int)))]) (.r1 [2] [0, 1, 2, 3, 4, 5] <| .fwd [] [] <| .ret [0, 1, 2, 3, 4, 5])))
    (by kernel_rfl) (by kernel_rfl) (by kernel_rfl) h
def vc66 (p0 p1 : Int) (p2 : List (List D)) (p3 p4 : Int) (p5 : List (List (List D))) (p6 p7 : Int) (p8 : List (List (List D))) (p9 p10 : Int) (p11 : List (List (List D))) (p12 p13 : Int) (p14 : Bool) (R : V → Heap → Prop) : Prop :=
 ∃ (r : Bool) (r1 : List (List D)) (b b1 : Int) (b2 : List (List D)) (b3 b4 : Int) (b5 b6 : Int) (b7 b8 : Int) (b9 b10 : Int) (b11 : Bool) (m m1 m2 : List (List (List D))) (r2 : Int),
 (FnO prog 94 [V.e (E.sc (S.ptr 0 0)), vD (dI p12)] [some (Obj.box [sD (dI p0), sD (dI p1), sD (dL p2), sD (dI p3), sD (dI p4), S.ref 1, sD (dI p6), sD (dI p7), S.ref 2, sD (dI p9), sD (dI p10), S.ref 3, sD (dI p12), sD (dI p13), sD (dB p14)]), some (Obj.mat 2 p5), some (Obj.mat 2 p8), some (Obj.mat 2 p11)] (vA [sD (dB r), sD (dL r1)]) [some (Obj.box [sD (dI b), sD (dI b1), sD (dL b2), sD (dI b3), sD (dI b4), S.ref 1, sD (dI b5), sD (dI b6), S.ref 2, sD (dI b7), sD (dI b8), S.ref 3, sD (dI b9), sD (dI b10), sD (dB b11)]), some (Obj.mat 2 m), some (Obj.mat 2 m1), some (Obj.mat 2 m2)]) ∧
 (FnD prog 83 [vA [sD (dB r), sD (dL r1)]] (vD (dI r2)) []) ∧
 ((decide (r2 > (0 : Int)) = true →
 R (vD (dB false)) [some (Obj.box [sD (dI b), sD (dI b1), sD (dL b2), sD (dI b3), sD (dI b4), S.ref 1, sD (dI b5), sD (dI b6), S.ref 2, sD (dI b7), sD (dI b8), S.ref 3, sD (dI b9), sD (dI b10), sD (dB b11)]), some (Obj.mat 2 m), some (Obj.mat 2 m1), some (Obj.mat 2 m2)]) ∧
 (decide (r2 > (0 : Int)) = false →
 (0 ≤ (0 : Int) ∧ (0 : Int) < ((2 : Nat) : Int)) ∧
 ((0 ≤ b9 ∧ b9 < (m.length : Int)) ∧
 (∃ (J0 : (List (List (List D))) → Int → Prop) (μ0 : (List (List (List D))) → Int → Nat),
 J0 m (0 : Int) ∧ ∀ (o1 : List (List (List D))) (t40 : Int), J0 o1 t40 →
 ((decide (t40 < ((m.getD (b9).toNat ([] : List (List D))).length : Int))) = true →
 ∃ (x0 : Bool) (x1 : List (List D)),
 (∃ l, o1[(b9).toNat]? = some l ∧ 0 ≤ t40 ∧ t40 < (l.length : Int)) ∧
 (at2 o1 (b9).toNat (t40).toNat = some [dB x0, dL x1]) ∧
 (∃ (r0 : Bool) (r11 : List (List D)),
 (0 ≤ b9 ∧ b9 < (o1.length : Int)) ∧
 (FnD prog 95 [vA [sD (dB x0), sD (dL x1)]] (vA [sD (dB r0), sD (dL r11)]) []) ∧
 (J0 (o1.modify (b9).toNat (fun qz => qz.set (t40).toNat [dB r0, dL r11])) (IntKind.i64.wrap (t40 + (1 : Int))) ∧ μ0 (o1.modify (b9).toNat (fun qz => qz.set (t40).toNat [dB r0, dL r11])) (IntKind.i64.wrap (t40 + (1 : Int))) < μ0 o1 t40))) ∧
 ((decide (t40 < ((m.getD (b9).toNat ([] : List (List D))).length : Int))) = false →
 (0 ≤ (1 : Int) ∧ (1 : Int) < ((2 : Nat) : Int)) ∧
 ((0 ≤ b9 ∧ b9 < (m1.length : Int)) ∧
 (∃ (J1 : (List (List (List D))) → Int → Prop) (μ1 : (List (List (List D))) → Int → Nat),
 J1 m1 (0 : Int) ∧ ∀ (o2 : List (List (List D))) (t401 : Int), J1 o2 t401 →
 ((decide (t401 < ((m1.getD (b9).toNat ([] : List (List D))).length : Int))) = true →
 ∃ (x01 : Bool) (x11 : List (List D)),
 (∃ l, o2[(b9).toNat]? = some l ∧ 0 ≤ t401 ∧ t401 < (l.length : Int)) ∧
 (at2 o2 (b9).toNat (t401).toNat = some [dB x01, dL x11]) ∧
 (∃ (r01 : Bool) (r12 : List (List D)),
 (0 ≤ b9 ∧ b9 < (o2.length : Int)) ∧
 (FnD prog 95 [vA [sD (dB x01), sD (dL x11)]] (vA [sD (dB r01), sD (dL r12)]) []) ∧
 (J1 (o2.modify (b9).toNat (fun qz => qz.set (t401).toNat [dB r01, dL r12])) (IntKind.i64.wrap (t401 + (1 : Int))) ∧ μ1 (o2.modify (b9).toNat (fun qz => qz.set (t401).toNat [dB r01, dL r12])) (IntKind.i64.wrap (t401 + (1 : Int))) < μ1 o2 t401))) ∧
 ((decide (t401 < ((m1.getD (b9).toNat ([] : List (List D))).length : Int))) = false →
 ∃ (J2 : (List (List (List D))) → Int → Prop) (μ2 : (List (List (List D))) → Int → Nat),
 J2 m2 (0 : Int) ∧ ∀ (o3 : List (List (List D))) (t65 : Int), J2 o3 t65 →
 (decide (t65 < (m2.length : Int)) = true →
 (0 ≤ t65 ∧ t65 < (o3.length : Int)) ∧
 (∃ (x02 : Bool) (x12 : List (List D)) (r02 : Bool) (r13 : List (List D)),
 (∃ l, o3[(t65).toNat]? = some l ∧ 0 ≤ b9 ∧ b9 < (l.length : Int)) ∧
 (at2 o3 (t65).toNat (b9).toNat = some [dB x02, dL x12]) ∧
 (FnD prog 95 [vA [sD (dB x02), sD (dL x12)]] (vA [sD (dB r02), sD (dL r13)]) []) ∧
 (J2 (o3.modify (t65).toNat (fun qz => qz.set (b9).toNat [dB r02, dL r13])) (IntKind.i64.wrap (t65 + (1 : Int))) ∧ μ2 (o3.modify (t65).toNat (fun qz => qz.set (b9).toNat [dB r02, dL r13])) (IntKind.i64.wrap (t65 + (1 : Int))) < μ2 o3 t65))) ∧
 (decide (t65 < (m2.length : Int)) = false →
 R (vD (dB true)) [some (Obj.box [sD (dI b), sD (dI b1), sD (dL b2), sD (dI b3), sD (dI b4), S.ref 1, sD (dI b5), sD (dI b6), S.ref 2, sD (dI b7), sD (dI b8), S.ref 3, sD (dI b9), sD (dI b10), sD (dB b11)]), some (Obj.mat 2 o1), some (Obj.mat 2 o2), some (Obj.mat 2 o3)])))))))))
theorem vc66_ok (p0 p1 : Int) (p2 : List (List D)) (p3 p4 : Int) (p5 : List (List (List D))) (p6 p7 : Int) (p8 : List (List (List D))) (p9 p10 : Int) (p11 : List (List (List D))) (p12 p13 : Int) (p14 : Bool) {R : V → Heap → Prop} (h : vc66 p0 p1 p2 p3 p4 p5 p6 p7 p8 p9 p10 p11 p12 p13 p14 R) : FnG prog 66 [V.e (E.sc (S.ptr 0 0))] [some (Obj.box [sD (dI p0), sD (dI p1), sD (dL p2), sD (dI p3), sD (dI p4), S.ref 1, sD (dI p6), sD (dI p7), S.ref 2, sD (dI p9), sD (dI p10), S.ref 3, sD (dI p12), sD (dI p13), sD (dB p14)]), some (Obj.mat 2 p5), some (Obj.mat 2 p8), some (Obj.mat 2 p11)] R :=
  FnG.vcg hT func66 ntmps66 (.r1 [0] [0, 1, 2, 3] <| .exb fun r => .exl fun r1 => .ex fun b => .ex fun b1 => .exl fun b2 => .ex fun b3 => .ex fun b4 => .ex fun b5 => .ex fun b6 => .ex fun b7 => .ex fun b8 => .ex fun b9 => .ex fun b10 => .exb fun b11 => .exm fun m => .exm fun m1 => .exm fun m2 => .ex fun r2 => .reg 0 [(5, Or.callO [0, 1, 2, 3] (vA [sD (dB r), sD (dL r1)]) [some (Obj.box [sD (dI b), sD (dI b1), sD (dL b2), sD (dI b3), sD (dI b4), S.ref 1, sD (dI b5), sD (dI b6), S.ref 2, sD (dI b7), sD (dI b8), S.ref 3, sD (dI b9), sD (dI b10), sD (dB b11)]), some (Obj.mat 2 m), some (Obj.mat 2 m1), some (Obj.mat 2 m2)], 0, 0), (6, Or.call (vD (dI r2)) [] [], 0, 0)] [0, 16] [0, 1, 2, 3] [] <| .c2 (.r1 [2] [0, 1, 2, 3] <| .ret [0, 1, 2, 3]) (.drw 1 [(8, (Or.none, 4, 1), [4])] [0, 25, 26, 27] [0, 1, 2, 3, 4] [] <| .lp1 <| .r1 [0, 25, 26, 27, 28] [0, 1, 2, 3, 4] <| .ct true none <| .reg 1 [(2, Or.none, 5, 1)] [0, 4, 25, 26, 27] [0, 1, 2, 3, 5, 4] [] <| .drw 0 [] [0, 4, 25, 26, 27, 38, 39, 40] [0, 1, 2, 3, 4, 5] [] <| .lp [.m, .i] (fun o1 t40 => ⟨[(0, vP 0 0), (4, vP 4 0), (25, V.e (E.sc (S.refb 5 2))), (26, vD (dI (2 : Int))), (27, vD (dI (0 : Int))), (38, V.e (E.sc (S.row 1 (b9).toNat))), (39, vD (dI ((m.getD (b9).toNat ([] : List (List D))).length : Int))), (40, vD (dI t40))], [some (Obj.box [sD (dI b), sD (dI b1), sD (dL b2), sD (dI b3), sD (dI b4), S.ref 1, sD (dI b5), sD (dI b6), S.ref 2, sD (dI b7), sD (dI b8), S.ref 3, sD (dI b9), sD (dI b10), sD (dB b11)]), some (Obj.mat 2 o1), some (Obj.mat 2 m1), some (Obj.mat 2 m2), some (Obj.box [sD (dI b3), sD (dI b4), S.ref 1]), some (Obj.box [sD (dI b3), sD (dI b4), S.ref 1, sD (dI b5), sD (dI b6), S.ref 2])], 84⟩) [.m m, .i (0 : Int)] <| .fm fun o1 => .fi fun t40 => .beg <| .r1 [0, 4, 25, 26, 27, 38, 39, 40, 41] [0, 1, 2, 3, 4, 5] <| .c2 (.exb fun x0 => .exl fun x1 => .reg 1 [(2, Or.cells [dB x0, dL x1], 0, 0), (3, Or.none, 6, 1)] [0, 4, 5, 6, 25, 26, 27, 38, 39, 40] [0, 1, 2, 3, 4, 6, 5] [] <| .exb fun r0 => .exl fun r11 => .drw 0 [(10, (Or.call (vA [sD (dB r0), sD (dL r11)]) [] [], 0, 0), []), (12, (Or.none, 0, 0), [1])] [0, 4, 25, 26, 27, 38, 39, 40] [0, 1, 2, 3, 4, 6] [.new, .new, .old 3] <| .r1 [0, 4, 25, 26, 27, 38, 39, 40] [0, 1, 2, 3, 4, 5] <| .bk 0 [.m (o1.modify (b9).toNat (fun qz => qz.set (t40).toNat [dB r0, dL r11])), .i (IntKind.i64.wrap (t40 + (1 : Int)))]) (.r1 [0, 25, 26, 27] [0, 1, 2, 3, 5] <| .lp1 <| .r1 [0, 25, 26, 27, 28] [0, 1, 2, 3, 4] <| .ct true none <| .reg 1 [(2, Or.none, 5, 1)] [0, 4, 25, 26, 27] [0, 1, 2, 3, 5, 4] [] <| .drw 0 [] [0, 4, 25, 26, 27, 38, 39, 40] [0, 1, 2, 3, 4, 5] [] <| .lp [.m, .i] (fun o2 t401 => ⟨[(0, vP 0 0), (4, vP 4 0), (25, V.e (E.sc (S.refb 5 2))), (26, vD (dI (2 : Int))), (27, vD (dI (1 : Int))), (38, V.e (E.sc (S.row 2 (b9).toNat))), (39, vD (dI ((m1.getD (b9).toNat ([] : List (List D))).length : Int))), (40, vD (dI t401))], [some (Obj.box [sD (dI b), sD (dI b1), sD (dL b2), sD (dI b3), sD (dI b4), S.ref 1, sD (dI b5), sD (dI b6), S.ref 2, sD (dI b7), sD (dI b8), S.ref 3, sD (dI b9), sD (dI b10), sD (dB b11)]), some (Obj.mat 2 o1), some (Obj.mat 2 o2), some (Obj.mat 2 m2), some (Obj.box [sD (dI b5), sD (dI b6), S.ref 2]), some (Obj.box [sD (dI b3), sD (dI b4), S.ref 1, sD (dI b5), sD (dI b6), S.ref 2])], 84⟩) [.m m1, .i (0 : Int)] <| .fm fun o2 => .fi fun t401 => .beg <| .r1 [0, 4, 25, 26, 27, 38, 39, 40, 41] [0, 1, 2, 3, 4, 5] <| .c2 (.exb fun x01 => .exl fun x11 => .reg 1 [(2, Or.cells [dB x01, dL x11], 0, 0), (3, Or.none, 6, 1)] [0, 4, 5, 6, 25, 26, 27, 38, 39, 40] [0, 1, 2, 3, 4, 6, 5] [] <| .exb fun r01 => .exl fun r12 => .drw 0 [(10, (Or.call (vA [sD (dB r01), sD (dL r12)]) [] [], 0, 0), []), (12, (Or.none, 0, 0), [2])] [0, 4, 25, 26, 27, 38, 39, 40] [0, 1, 2, 3, 4, 6] [.new, .new, .old 3] <| .r1 [0, 4, 25, 26, 27, 38, 39, 40] [0, 1, 2, 3, 4, 5] <| .bk 0 [.m (o2.modify (b9).toNat (fun qz => qz.set (t401).toNat [dB r01, dL r12])), .i (IntKind.i64.wrap (t401 + (1 : Int)))]) (.r1 [0, 25, 26, 27] [0, 1, 2, 3, 5] <| .lp1 <| .r1 [0, 25, 26, 27, 28] [0, 1, 2, 3, 4] <| .ct false none <| .r1 [0, 63, 64, 65] [0, 1, 2, 3] <| .lp [.m, .i] (fun o3 t65 => ⟨[(0, vP 0 0), (63, vR 3), (64, vD (dI (m2.length : Int))), (65, vD (dI t65))], [some (Obj.box [sD (dI b), sD (dI b1), sD (dL b2), sD (dI b3), sD (dI b4), S.ref 1, sD (dI b5), sD (dI b6), S.ref 2, sD (dI b7), sD (dI b8), S.ref 3, sD (dI b9), sD (dI b10), sD (dB b11)]), some (Obj.mat 2 o1), some (Obj.mat 2 o2), some (Obj.mat 2 o3)], 84⟩) [.m m2, .i (0 : Int)] <| .fm fun o3 => .fi fun t65 => .beg <| .r1 [0, 63, 64, 65, 66] [0, 1, 2, 3] <| .c2 (.r1 [0, 8, 63, 64, 65] [0, 1, 2, 3] <| .exb fun x02 => .exl fun x12 => .exb fun r02 => .exl fun r13 => .drw 0 [(11, (Or.cells [dB x02, dL x12], 0, 0), []), (12, (Or.call (vA [sD (dB r02), sD (dL r13)]) [] [], 0, 0), []), (14, (Or.none, 0, 0), [3])] [0, 63, 64, 65] [0, 1, 2, 3] [.new, .new, .new, .old 2] <| .r1 [0, 63, 64, 65] [0, 1, 2, 3] <| .bk 0 [.m (o3.modify (t65).toNat (fun qz => qz.set (b9).toNat [dB r02, dL r13])), .i (IntKind.i64.wrap (t65 + (1 : Int)))]) (.r1 [2] [0, 1, 2, 3] <| .ret [0, 1, 2, 3])))))
    (by kernel_rfl) (by kernel_rfl) (by kernel_rfl) h
def vc67 (p0 p1 : Int) (p2 : List (List D)) (p3 p4 : Int) (p5 : List (List (List D))) (p6 p7 : Int) (p8 : List (List (List D))) (p9 p10 : Int) (p11 : List (List (List D))) (p12 p13 : Int) (p14 : Bool) (R : V → Heap → Prop) : Prop :=
 ∃ (J0 : Int → Int → Int → Int → Int → Bool → (List (List D)) → Int → Int → Int → Int → Int → (List (List (List D))) → (List (List (List D))) → (List (List (List D))) → Int → Prop) (μ0 : Int → Int → Int → Int → Int → Bool → (List (List D)) → Int → Int → Int → Int → Int → (List (List (List D))) → (List (List (List D))) → (List (List (List D))) → Int → Nat),
 J0 p0 p1 p10 p12 p13 p14 p2 p3 p4 p6 p7 p9 p5 p8 p11 (0 : Int) ∧ ∀ (p01 p15 : Int) (p101 p121 p131 : Int) (p141 : Bool) (p21 : List (List D)) (p31 p41 : Int) (p61 p71 p91 : Int) (o1 o2 o3 : List (List (List D))) (t23 : Int), J0 p01 p15 p101 p121 p131 p141 p21 p31 p41 p61 p71 p91 o1 o2 o3 t23 →
 (decide (t23 < p3) = true →
 ∃ (r : Bool) (r1 : List (List D)) (b b1 : Int) (b2 : List (List D)) (b3 b4 : Int) (b5 b6 : Int) (b7 b8 : Int) (b9 b10 : Int) (b11 : Bool) (m m1 m2 : List (List (List D))) (r2 : Bool) (r3 : List (List D)) (b12 b13 : Int) (b14 : List (List D)) (b15 b16 : Int) (b17 b18 : Int) (b19 b20 : Int) (b21 b22 : Int) (b23 : Bool) (m3 m4 m5 : List (List (List D))) (r0 : Bool) (r11 : List (List D)) (r01 : Bool) (r12 : List (List D)) (r4 : Int),
 (FnO prog 94 [V.e (E.sc (S.ptr 0 0)), vD (dI t23)] [some (Obj.box [sD (dI p01), sD (dI p15), sD (dL p21), sD (dI p31), sD (dI p41), S.ref 1, sD (dI p61), sD (dI p71), S.ref 2, sD (dI p91), sD (dI p101), S.ref 3, sD (dI p121), sD (dI p131), sD (dB p141)]), some (Obj.mat 2 o1), some (Obj.mat 2 o2), some (Obj.mat 2 o3)] (vA [sD (dB r), sD (dL r1)]) [some (Obj.box [sD (dI b), sD (dI b1), sD (dL b2), sD (dI b3), sD (dI b4), S.ref 1, sD (dI b5), sD (dI b6), S.ref 2, sD (dI b7), sD (dI b8), S.ref 3, sD (dI b9), sD (dI b10), sD (dB b11)]), some (Obj.mat 2 m), some (Obj.mat 2 m1), some (Obj.mat 2 m2)]) ∧
 (FnO prog 94 [V.e (E.sc (S.ptr 0 0)), vD (dI p12)] [some (Obj.box [sD (dI b), sD (dI b1), sD (dL b2), sD (dI b3), sD (dI b4), S.ref 1, sD (dI b5), sD (dI b6), S.ref 2, sD (dI b7), sD (dI b8), S.ref 3, sD (dI b9), sD (dI b10), sD (dB b11)]), some (Obj.mat 2 m), some (Obj.mat 2 m1), some (Obj.mat 2 m2)] (vA [sD (dB r2), sD (dL r3)]) [some (Obj.box [sD (dI b12), sD (dI b13), sD (dL b14), sD (dI b15), sD (dI b16), S.ref 1, sD (dI b17), sD (dI b18), S.ref 2, sD (dI b19), sD (dI b20), S.ref 3, sD (dI b21), sD (dI b22), sD (dB b23)]), some (Obj.mat 2 m3), some (Obj.mat 2 m4), some (Obj.mat 2 m5)]) ∧
 (FnD prog 96 [vA [sD (dB r), sD (dL r1)], vA [sD (dB r2), sD (dL r3)]] (V.tup [E.agg [sD (dB r0), sD (dL r11)], E.agg [sD (dB r01), sD (dL r12)], eD (dI r4)]) []) ∧
 (((t23 == p12) = true →
 J0 b12 b13 b20 b21 b22 b23 b14 b15 b16 b17 b18 b19 m3 m4 m5 (IntKind.i64.wrap (t23 + (1 : Int))) ∧ μ0 b12 b13 b20 b21 b22 b23 b14 b15 b16 b17 b18 b19 m3 m4 m5 (IntKind.i64.wrap (t23 + (1 : Int))) < μ0 p01 p15 p101 p121 p131 p141 p21 p31 p41 p61 p71 p91 o1 o2 o3 t23) ∧
 ((t23 == p12) = false →
 ∃ (r5 : Int),
 (FnD prog 83 [vA [sD (dB r0), sD (dL r11)]] (vD (dI r5)) []) ∧
 (((r5 == (0 : Int)) = true →
 J0 b12 b13 b20 b21 b22 b23 b14 b15 b16 b17 b18 b19 m3 m4 m5 (IntKind.i64.wrap (t23 + (1 : Int))) ∧ μ0 b12 b13 b20 b21 b22 b23 b14 b15 b16 b17 b18 b19 m3 m4 m5 (IntKind.i64.wrap (t23 + (1 : Int))) < μ0 p01 p15 p101 p121 p131 p141 p21 p31 p41 p61 p71 p91 o1 o2 o3 t23) ∧
 ((r5 == (0 : Int)) = false →
 (0 ≤ (0 : Int) ∧ (0 : Int) < ((2 : Nat) : Int)) ∧
 ((0 ≤ p12 ∧ p12 < (m3.length : Int)) ∧
 (∃ (J1 : (List (List (List D))) → Int → Prop) (μ1 : (List (List (List D))) → Int → Nat),
 J1 m3 (0 : Int) ∧ ∀ (o11 : List (List (List D))) (t65 : Int), J1 o11 t65 →
 ((decide (t65 < ((m3.getD (p12).toNat ([] : List (List D))).length : Int))) = true →
 ∃ (x0 : Bool) (x1 : List (List D)),
 (∃ l, o11[(p12).toNat]? = some l ∧ 0 ≤ t65 ∧ t65 < (l.length : Int)) ∧
 (at2 o11 (p12).toNat (t65).toNat = some [dB x0, dL x1]) ∧
 (∃ (x01 : Bool) (x11 : List (List D)) (r02 : Bool) (r13 : List (List D)) (r03 : Bool) (r14 : List (List D)),
 (0 ≤ t23 ∧ t23 < (o11.length : Int)) ∧
 (∃ l, o11[(t23).toNat]? = some l ∧ 0 ≤ t65 ∧ t65 < (l.length : Int)) ∧
 (at2 o11 (t23).toNat (t65).toNat = some [dB x01, dL x11]) ∧
 (FnD prog 98 [vA [sD (dB r0), sD (dL r11)], vA [sD (dB x0), sD (dL x1)]] (vA [sD (dB r02), sD (dL r13)]) []) ∧
 (FnD prog 97 [vA [sD (dB x01), sD (dL x11)], vA [sD (dB r02), sD (dL r13)]] (vA [sD (dB r03), sD (dL r14)]) []) ∧
 (J1 (o11.modify (t23).toNat (fun qz => qz.set (t65).toNat [dB r03, dL r14])) (IntKind.i64.wrap (t65 + (1 : Int))) ∧ μ1 (o11.modify (t23).toNat (fun qz => qz.set (t65).toNat [dB r03, dL r14])) (IntKind.i64.wrap (t65 + (1 : Int))) < μ1 o11 t65))) ∧
 ((decide (t65 < ((m3.getD (p12).toNat ([] : List (List D))).length : Int))) = false →
 (0 ≤ (1 : Int) ∧ (1 : Int) < ((2 : Nat) : Int)) ∧
 ((0 ≤ p12 ∧ p12 < (m4.length : Int)) ∧
 (∃ (J2 : (List (List (List D))) → Int → Prop) (μ2 : (List (List (List D))) → Int → Nat),
 J2 m4 (0 : Int) ∧ ∀ (o21 : List (List (List D))) (t651 : Int), J2 o21 t651 →
 ((decide (t651 < ((m4.getD (p12).toNat ([] : List (List D))).length : Int))) = true →
 ∃ (x02 : Bool) (x12 : List (List D)),
 (∃ l, o21[(p12).toNat]? = some l ∧ 0 ≤ t651 ∧ t651 < (l.length : Int)) ∧
 (at2 o21 (p12).toNat (t651).toNat = some [dB x02, dL x12]) ∧
 (∃ (x03 : Bool) (x13 : List (List D)) (r04 : Bool) (r15 : List (List D)) (r05 : Bool) (r16 : List (List D)),
 (0 ≤ t23 ∧ t23 < (o21.length : Int)) ∧
 (∃ l, o21[(t23).toNat]? = some l ∧ 0 ≤ t651 ∧ t651 < (l.length : Int)) ∧
 (at2 o21 (t23).toNat (t651).toNat = some [dB x03, dL x13]) ∧
 (FnD prog 98 [vA [sD (dB r0), sD (dL r11)], vA [sD (dB x02), sD (dL x12)]] (vA [sD (dB r04), sD (dL r15)]) []) ∧
 (FnD prog 97 [vA [sD (dB x03), sD (dL x13)], vA [sD (dB r04), sD (dL r15)]] (vA [sD (dB r05), sD (dL r16)]) []) ∧
 (J2 (o21.modify (t23).toNat (fun qz => qz.set (t651).toNat [dB r05, dL r16])) (IntKind.i64.wrap (t651 + (1 : Int))) ∧ μ2 (o21.modify (t23).toNat (fun qz => qz.set (t651).toNat [dB r05, dL r16])) (IntKind.i64.wrap (t651 + (1 : Int))) < μ2 o21 t651))) ∧
 ((decide (t651 < ((m4.getD (p12).toNat ([] : List (List D))).length : Int))) = false →
 ∃ (J3 : (List (List (List D))) → Int → Prop) (μ3 : (List (List (List D))) → Int → Nat),
 J3 m5 (0 : Int) ∧ ∀ (o31 : List (List (List D))) (t97 : Int), J3 o31 t97 →
 (decide (t97 < (m5.length : Int)) = true →
 (0 ≤ t97 ∧ t97 < (o31.length : Int)) ∧
 (∃ (x04 : Bool) (x14 : List (List D)) (x05 : Bool) (x15 : List (List D)) (r06 : Bool) (r17 : List (List D)) (r07 : Bool) (r18 : List (List D)),
 (∃ l, o31[(t97).toNat]? = some l ∧ 0 ≤ p12 ∧ p12 < (l.length : Int)) ∧
 (at2 o31 (t97).toNat (p12).toNat = some [dB x04, dL x14]) ∧
 (∃ l, o31[(t97).toNat]? = some l ∧ 0 ≤ t23 ∧ t23 < (l.length : Int)) ∧
 (at2 o31 (t97).toNat (t23).toNat = some [dB x05, dL x15]) ∧
 (FnD prog 98 [vA [sD (dB r0), sD (dL r11)], vA [sD (dB x05), sD (dL x15)]] (vA [sD (dB r06), sD (dL r17)]) []) ∧
 (FnD prog 99 [vA [sD (dB x04), sD (dL x14)], vA [sD (dB r06), sD (dL r17)]] (vA [sD (dB r07), sD (dL r18)]) []) ∧
 (J3 (o31.modify (t97).toNat (fun qz => qz.set (p12).toNat [dB r07, dL r18])) (IntKind.i64.wrap (t97 + (1 : Int))) ∧ μ3 (o31.modify (t97).toNat (fun qz => qz.set (p12).toNat [dB r07, dL r18])) (IntKind.i64.wrap (t97 + (1 : Int))) < μ3 o31 t97))) ∧
 (decide (t97 < (m5.length : Int)) = false →
 R (vD (dB true)) [some (Obj.box [sD (dI b12), sD (dI b13), sD (dL b14), sD (dI b15), sD (dI b16), S.ref 1, sD (dI b17), sD (dI b18), S.ref 2, sD (dI b19), sD (dI b20), S.ref 3, sD (dI b21), sD (dI b22), sD (dB b23)]), some (Obj.mat 2 o11), some (Obj.mat 2 o21), some (Obj.mat 2 o31)])))))))))))) ∧
 (decide (t23 < p3) = false →
 R (vD (dB false)) [some (Obj.box [sD (dI p01), sD (dI p15), sD (dL p21), sD (dI p31), sD (dI p41), S.ref 1, sD (dI p61), sD (dI p71), S.ref 2, sD (dI p91), sD (dI p101), S.ref 3, sD (dI p121), sD (dI p131), sD (dB p141)]), some (Obj.mat 2 o1), some (Obj.mat 2 o2), some (Obj.mat 2 o3)])
theorem vc67_ok (p0 p1 : Int) (p2 : List (List D)) (p3 p4 : Int) (p5 : List (List (List D))) (p6 p7 : Int) (p8 : List (List (List D))) (p9 p10 : Int) (p11 : List (List (List D))) (p12 p13 : Int) (p14 : Bool) {R : V → Heap → Prop} (h : vc67 p0 p1 p2 p3 p4 p5 p6 p7 p8 p9 p10 p11 p12 p13 p14 R) : FnG prog 67 [V.e (E.sc (S.ptr 0 0))] [some (Obj.box [sD (dI p0), sD (dI p1), sD (dL p2), sD (dI p3), sD (dI p4), S.ref 1, sD (dI p6), sD (dI p7), S.ref 2, sD (dI p9), sD (dI p10), S.ref 3, sD (dI p12), sD (dI p13), sD (dB p14)]), some (Obj.mat 2 p5), some (Obj.mat 2 p8), some (Obj.mat 2 p11)] R :=
  FnG.vcg hT func67 ntmps67 (.r1 [0] [0, 1, 2, 3] <| .r1 [0, 3] [0, 1, 2, 3] <| .r1 [0, 3, 22, 23] [0, 1, 2, 3] <| .lp [.i, .i, .i, .i, .i, .b, .l, .i, .i, .i, .i, .i, .m, .m, .m, .i] (fun p01 p15 p101 p121 p131 p141 p21 p31 p41 p61 p71 p91 o1 o2 o3 t23 => ⟨[(0, vP 0 0), (3, vD (dI p12)), (22, vD (dI p3)), (23, vD (dI t23))], [some (Obj.box [sD (dI p01), sD (dI p15), sD (dL p21), sD (dI p31), sD (dI p41), S.ref 1, sD (dI p61), sD (dI p71), S.ref 2, sD (dI p91), sD (dI p101), S.ref 3, sD (dI p121), sD (dI p131), sD (dB p141)]), some (Obj.mat 2 o1), some (Obj.mat 2 o2), some (Obj.mat 2 o3)], 117⟩) [.i p0, .i p1, .i p10, .i p12, .i p13, .b p14, .l p2, .i p3, .i p4, .i p6, .i p7, .i p9, .m p5, .m p8, .m p11, .i (0 : Int)] <| .fi fun p01 => .fi fun p15 => .fi fun p101 => .fi fun p121 => .fi fun p131 => .fb fun p141 => .fl fun p21 => .fi fun p31 => .fi fun p41 => .fi fun p61 => .fi fun p71 => .fi fun p91 => .fm fun o1 => .fm fun o2 => .fm fun o3 => .fi fun t23 => .beg <| .r1 [0, 3, 22, 23, 24] [0, 1, 2, 3] <| .c2 (.r1 [0, 3, 4, 22, 23] [0, 1, 2, 3] <| .exb fun r => .exl fun r1 => .ex fun b => .ex fun b1 => .exl fun b2 => .ex fun b3 => .ex fun b4 => .ex fun b5 => .ex fun b6 => .ex fun b7 => .ex fun b8 => .ex fun b9 => .ex fun b10 => .exb fun b11 => .exm fun m => .exm fun m1 => .exm fun m2 => .exb fun r2 => .exl fun r3 => .ex fun b12 => .ex fun b13 => .exl fun b14 => .ex fun b15 => .ex fun b16 => .ex fun b17 => .ex fun b18 => .ex fun b19 => .ex fun b20 => .ex fun b21 => .ex fun b22 => .exb fun b23 => .exm fun m3 => .exm fun m4 => .exm fun m5 => .exb fun r0 => .exl fun r11 => .exb fun r01 => .exl fun r12 => .ex fun r4 => .reg 2 [(2, Or.callO [0, 1, 2, 3] (vA [sD (dB r), sD (dL r1)]) [some (Obj.box [sD (dI b), sD (dI b1), sD (dL b2), sD (dI b3), sD (dI b4), S.ref 1, sD (dI b5), sD (dI b6), S.ref 2, sD (dI b7), sD (dI b8), S.ref 3, sD (dI b9), sD (dI b10), sD (dB b11)]), some (Obj.mat 2 m), some (Obj.mat 2 m1), some (Obj.mat 2 m2)], 0, 0), (5, Or.callO [0, 1, 2, 3] (vA [sD (dB r2), sD (dL r3)]) [some (Obj.box [sD (dI b12), sD (dI b13), sD (dL b14), sD (dI b15), sD (dI b16), S.ref 1, sD (dI b17), sD (dI b18), S.ref 2, sD (dI b19), sD (dI b20), S.ref 3, sD (dI b21), sD (dI b22), sD (dB b23)]), some (Obj.mat 2 m3), some (Obj.mat 2 m4), some (Obj.mat 2 m5)], 0, 0), (6, Or.call (V.tup [E.agg [sD (dB r0), sD (dL r11)], E.agg [sD (dB r01), sD (dL r12)], eD (dI r4)]) [] [], 0, 0), (11, Or.none, 4, 1), (12, Or.none, 5, 1)] [0, 3, 4, 5, 22, 23] [0, 1, 2, 3, 4] [] <| .spl ((t23 == p12)) (.reg 0 [(3, Or.bool true, 0, 0)] [0, 3, 4, 5, 22, 23, 44] [0, 1, 2, 3, 4] [.old 0] <| .ct true none <| .r1 [0, 3, 22, 23] [0, 1, 2, 3] <| .bk 0 [.i b12, .i b13, .i b20, .i b21, .i b22, .b b23, .l b14, .i b15, .i b16, .i b17, .i b18, .i b19, .m m3, .m m4, .m m5, .i (IntKind.i64.wrap (t23 + (1 : Int)))]) (.ex fun r5 => .reg 0 [(3, Or.bool false, 0, 0), (5, Or.call (vD (dI r5)) [] [], 0, 0)] [0, 3, 4, 5, 22, 23, 44] [0, 1, 2, 3, 4] [.old 0] <| .c2 (.r1 [0, 3, 22, 23] [0, 1, 2, 3] <| .bk 0 [.i b12, .i b13, .i b20, .i b21, .i b22, .b b23, .l b14, .i b15, .i b16, .i b17, .i b18, .i b19, .m m3, .m m4, .m m5, .i (IntKind.i64.wrap (t23 + (1 : Int)))]) (.drw 1 [(8, (Or.none, 5, 1), [5])] [0, 3, 4, 5, 53, 54, 55] [0, 1, 2, 3, 4, 5] [] <| .lp1 <| .r1 [0, 3, 4, 5, 53, 54, 55, 56] [0, 1, 2, 3, 4, 5] <| .ct true none <| .reg 1 [(2, Or.none, 6, 1)] [0, 3, 4, 5, 9, 53, 54, 55] [0, 1, 2, 3, 4, 6, 5] [] <| .r1 [0, 3, 4, 5, 9, 53, 54, 55, 63, 64, 65] [0, 1, 2, 3, 4, 5, 6] <| .lp [.m, .i] (fun o11 t65 => ⟨[(0, vP 0 0), (3, vD (dI p12)), (4, vD (dI t23)), (5, vP 4 0), (9, vP 5 0), (53, V.e (E.sc (S.refb 6 2))), (54, vD (dI (2 : Int))), (55, vD (dI (0 : Int))), (63, V.e (E.sc (S.row 1 (p12).toNat))), (64, vD (dI ((m3.getD (p12).toNat ([] : List (List D))).length : Int))), (65, vD (dI t65))], [some (Obj.box [sD (dI b12), sD (dI b13), sD (dL b14), sD (dI b15), sD (dI b16), S.ref 1, sD (dI b17), sD (dI b18), S.ref 2, sD (dI b19), sD (dI b20), S.ref 3, sD (dI b21), sD (dI b22), sD (dB b23)]), some (Obj.mat 2 o11), some (Obj.mat 2 m4), some (Obj.mat 2 m5), some (Obj.box [sD (dB r0), sD (dL r11)]), some (Obj.box [sD (dI b15), sD (dI b16), S.ref 1]), some (Obj.box [sD (dI b15), sD (dI b16), S.ref 1, sD (dI b17), sD (dI b18), S.ref 2])], 117⟩) [.m m3, .i (0 : Int)] <| .fm fun o11 => .fi fun t65 => .beg <| .r1 [0, 3, 4, 5, 9, 53, 54, 55, 63, 64, 65, 66] [0, 1, 2, 3, 4, 5, 6] <| .c2 (.exb fun x0 => .exl fun x1 => .reg 1 [(2, Or.cells [dB x0, dL x1], 0, 0), (3, Or.none, 7, 1)] [0, 3, 4, 5, 9, 10, 11, 53, 54, 55, 63, 64, 65] [0, 1, 2, 3, 4, 5, 7, 6] [] <| .exb fun x01 => .exl fun x11 => .exb fun r02 => .exl fun r13 => .exb fun r03 => .exl fun r14 => .drw 0 [(13, (Or.cells [dB x01, dL x11], 0, 0), []), (16, (Or.call (vA [sD (dB r02), sD (dL r13)]) [] [], 0, 0), []), (17, (Or.call (vA [sD (dB r03), sD (dL r14)]) [] [], 0, 0), []), (19, (Or.none, 0, 0), [1])] [0, 3, 4, 5, 9, 53, 54, 55, 63, 64, 65] [0, 1, 2, 3, 4, 5, 7] [.new, .old 0, .new, .new, .new, .new, .old 3] <| .r1 [0, 3, 4, 5, 9, 53, 54, 55, 63, 64, 65] [0, 1, 2, 3, 4, 5, 6] <| .bk 0 [.m (o11.modify (t23).toNat (fun qz => qz.set (t65).toNat [dB r03, dL r14])), .i (IntKind.i64.wrap (t65 + (1 : Int)))]) (.r1 [0, 3, 4, 5, 53, 54, 55] [0, 1, 2, 3, 4, 6] <| .lp1 <| .r1 [0, 3, 4, 5, 53, 54, 55, 56] [0, 1, 2, 3, 4, 5] <| .ct true none <| .reg 1 [(2, Or.none, 6, 1)] [0, 3, 4, 5, 9, 53, 54, 55] [0, 1, 2, 3, 4, 6, 5] [] <| .r1 [0, 3, 4, 5, 9, 53, 54, 55, 63, 64, 65] [0, 1, 2, 3, 4, 5, 6] <| .lp [.m, .i] (fun o21 t651 => ⟨[(0, vP 0 0), (3, vD (dI p12)), (4, vD (dI t23)), (5, vP 4 0), (9, vP 5 0), (53, V.e (E.sc (S.refb 6 2))), (54, vD (dI (2 : Int))), (55, vD (dI (1 : Int))), (63, V.e (E.sc (S.row 2 (p12).toNat))), (64, vD (dI ((m4.getD (p12).toNat ([] : List (List D))).length : Int))), (65, vD (dI t651))], [some (Obj.box [sD (dI b12), sD (dI b13), sD (dL b14), sD (dI b15), sD (dI b16), S.ref 1, sD (dI b17), sD (dI b18), S.ref 2, sD (dI b19), sD (dI b20), S.ref 3, sD (dI b21), sD (dI b22), sD (dB b23)]), some (Obj.mat 2 o11), some (Obj.mat 2 o21), some (Obj.mat 2 m5), some (Obj.box [sD (dB r0), sD (dL r11)]), some (Obj.box [sD (dI b17), sD (dI b18), S.ref 2]), some (Obj.box [sD (dI b15), sD (dI b16), S.ref 1, sD (dI b17), sD (dI b18), S.ref 2])], 117⟩) [.m m4, .i (0 : Int)] <| .fm fun o21 => .fi fun t651 => .beg <| .r1 [0, 3, 4, 5, 9, 53, 54, 55, 63, 64, 65, 66] [0, 1, 2, 3, 4, 5, 6] <| .c2 (.exb fun x02 => .exl fun x12 => .reg 1 [(2, Or.cells [dB x02, dL x12], 0, 0), (3, Or.none, 7, 1)] [0, 3, 4, 5, 9, 10, 11, 53, 54, 55, 63, 64, 65] [0, 1, 2, 3, 4, 5, 7, 6] [] <| .exb fun x03 => .exl fun x13 => .exb fun r04 => .exl fun r15 => .exb fun r05 => .exl fun r16 => .drw 0 [(13, (Or.cells [dB x03, dL x13], 0, 0), []), (16, (Or.call (vA [sD (dB r04), sD (dL r15)]) [] [], 0, 0), []), (17, (Or.call (vA [sD (dB r05), sD (dL r16)]) [] [], 0, 0), []), (19, (Or.none, 0, 0), [2])] [0, 3, 4, 5, 9, 53, 54, 55, 63, 64, 65] [0, 1, 2, 3, 4, 5, 7] [.new, .old 0, .new, .new, .new, .new, .old 3] <| .r1 [0, 3, 4, 5, 9, 53, 54, 55, 63, 64, 65] [0, 1, 2, 3, 4, 5, 6] <| .bk 0 [.m (o21.modify (t23).toNat (fun qz => qz.set (t651).toNat [dB r05, dL r16])), .i (IntKind.i64.wrap (t651 + (1 : Int)))]) (.r1 [0, 3, 4, 5, 53, 54, 55] [0, 1, 2, 3, 4, 6] <| .lp1 <| .r1 [0, 3, 4, 5, 53, 54, 55, 56] [0, 1, 2, 3, 4, 5] <| .ct false none <| .r1 [3, 4, 5, 95, 96, 97] [0, 1, 2, 3, 4] <| .lp [.m, .i] (fun o31 t97 => ⟨[(3, vD (dI p12)), (4, vD (dI t23)), (5, vP 4 0), (95, vR 3), (96, vD (dI (m5.length : Int))), (97, vD (dI t97))], [some (Obj.box [sD (dI b12), sD (dI b13), sD (dL b14), sD (dI b15), sD (dI b16), S.ref 1, sD (dI b17), sD (dI b18), S.ref 2, sD (dI b19), sD (dI b20), S.ref 3, sD (dI b21), sD (dI b22), sD (dB b23)]), some (Obj.mat 2 o11), some (Obj.mat 2 o21), some (Obj.mat 2 o31), some (Obj.box [sD (dB r0), sD (dL r11)])], 117⟩) [.m m5, .i (0 : Int)] <| .fm fun o31 => .fi fun t97 => .beg <| .r1 [3, 4, 5, 95, 96, 97, 98] [0, 1, 2, 3, 4] <| .c2 (.r1 [3, 4, 5, 13, 95, 96, 97] [0, 1, 2, 3, 4] <| .exb fun x04 => .exl fun x14 => .exb fun x05 => .exl fun x15 => .exb fun r06 => .exl fun r17 => .exb fun r07 => .exl fun r18 => .drw 0 [(5, (Or.cells [dB x04, dL x14], 0, 0), []), (10, (Or.cells [dB x05, dL x15], 0, 0), []), (11, (Or.call (vA [sD (dB r06), sD (dL r17)]) [] [], 0, 0), []), (12, (Or.call (vA [sD (dB r07), sD (dL r18)]) [] [], 0, 0), []), (14, (Or.none, 0, 0), [3])] [3, 4, 5, 95, 96, 97] [0, 1, 2, 3, 4] [.new, .new, .new, .new, .new, .new, .old 5] <| .r1 [3, 4, 5, 95, 96, 97] [0, 1, 2, 3, 4] <| .bk 0 [.m (o31.modify (t97).toNat (fun qz => qz.set (p12).toNat [dB r07, dL r18])), .i (IntKind.i64.wrap (t97 + (1 : Int)))]) (.r1 [2] [0, 1, 2, 3] <| .ret [0, 1, 2, 3])))))) (.r1 [2] [0, 1, 2, 3] <| .ret [0, 1, 2, 3]))
    (by kernel_rfl) (by kernel_rfl) (by kernel_rfl) h
def vc68 (p0 p1 : Int) (p2 : List (List D)) (p3 p4 : Int) (p5 : List (List (List D))) (p6 p7 : Int) (p8 : List (List (List D))) (p9 p10 : Int) (p11 : List (List (List D))) (p12 p13 : Int) (p14 : Bool) (R : V → Heap → Prop) : Prop :=
 R (vD (dB true)) [some (Obj.box [sD (dI p0), sD (dI p1), sD (dL p2), sD (dI p3), sD (dI p4), S.ref 1, sD (dI p6), sD (dI p7), S.ref 2, sD (dI p9), sD (dI p10), S.ref 3, sD (dI (IntKind.i64.wrap (p12 + (1 : Int)))), sD (dI (IntKind.i64.wrap (p13 + (1 : Int)))), sD (dB p14)]), some (Obj.mat 2 p5), some (Obj.mat 2 p8), some (Obj.mat 2 p11)]
theorem vc68_ok (p0 p1 : Int) (p2 : List (List D)) (p3 p4 : Int) (p5 : List (List (List D))) (p6 p7 : Int) (p8 : List (List (List D))) (p9 p10 : Int) (p11 : List (List (List D))) (p12 p13 : Int) (p14 : Bool) {R : V → Heap → Prop} (h : vc68 p0 p1 p2 p3 p4 p5 p6 p7 p8 p9 p10 p11 p12 p13 p14 R) : FnG prog 68 [V.e (E.sc (S.ptr 0 0))] [some (Obj.box [sD (dI p0), sD (dI p1), sD (dL p2), sD (dI p3), sD (dI p4), S.ref 1, sD (dI p6), sD (dI p7), S.ref 2, sD (dI p9), sD (dI p10), S.ref 3, sD (dI p12), sD (dI p13), sD (dB p14)]), some (Obj.mat 2 p5), some (Obj.mat 2 p8), some (Obj.mat 2 p11)] R :=
  FnG.vcg hT func68 ntmps68 (.r1 [0] [0, 1, 2, 3] <| .r1 [0] [0, 1, 2, 3] <| .r1 [] [0, 1, 2, 3] <| .r1 [2] [0, 1, 2, 3] <| .ret [0, 1, 2, 3])
    (by kernel_rfl) (by kernel_rfl) (by kernel_rfl) h
def vc33  (R : V → Heap → Prop) : Prop :=
 R (vA [sD (D.fn (.func 64) ([] : List D)), sD (D.fn (.func 65) ([] : List D)), sD (D.fn (.func 66) ([] : List D)), sD (D.fn (.func 67) ([] : List D)), sD (D.fn (.func 68) ([] : List D))]) []
theorem vc33_ok  {R : V → Heap → Prop} (h : vc33  R) : FnG prog 33 [] [] R :=
  FnG.vcg hT func33 ntmps33 (.reg 1 [(0, Or.none, 0, 1)] [0] [0] [] <| .r1 [0] [0] <| .ret [])
    (by kernel_rfl) (by kernel_rfl) (by kernel_rfl) h
def vc32 (a0 a1 : Int) (a2 : List (List D)) (R : V → Heap → Prop) : Prop :=
 (0 ≤ (a2.length : Int) ∧ (a2.length : Int) ≤ (a2.length : Int) ∧ (a2.length : Int) * (24 : Nat) ≤ 281474976710656) ∧
 (∃ (J0 : (List (List (List D))) → Int → Prop) (μ0 : (List (List (List D))) → Int → Nat),
 J0 (List.replicate ((a2.length : Int)).toNat ([] : List (List D))) (0 : Int) ∧ ∀ (rows : List (List (List D))) (t13 : Int), J0 rows t13 →
 (decide (t13 < (a2.length : Int)) = true →
 ∃ (vx : List (List D)),
 (0 ≤ t13 ∧ t13 < (a2.length : Int)) ∧
 (a2[(t13).toNat]? = some [dL vx]) ∧
 ((0 ≤ (vx.length : Int) ∧ (vx.length : Int) ≤ (vx.length : Int) ∧ (vx.length : Int) * (32 : Nat) ≤ 281474976710656) ∧
 (0 ≤ t13 ∧ t13 < (rows.length : Int)) ∧
 ((0 ≤ t13 ∧ t13 < ((rows.set (t13).toNat (List.replicate ((vx.length : Int)).toNat [dB false, dL ([] : List (List D))])).length : Int)) ∧
 (∀ y ∈ vx, y.length = 2) ∧
 (J0 ((rows.set (t13).toNat (List.replicate ((vx.length : Int)).toNat [dB false, dL ([] : List (List D))])).set (t13).toNat (vx.take ((rows.set (t13).toNat (List.replicate ((vx.length : Int)).toNat [dB false, dL ([] : List (List D))])).getD (t13).toNat ([] : List (List D))).length ++ ((rows.set (t13).toNat (List.replicate ((vx.length : Int)).toNat [dB false, dL ([] : List (List D))])).getD (t13).toNat ([] : List (List D))).drop vx.length)) (IntKind.i64.wrap (t13 + (1 : Int))) ∧ μ0 ((rows.set (t13).toNat (List.replicate ((vx.length : Int)).toNat [dB false, dL ([] : List (List D))])).set (t13).toNat (vx.take ((rows.set (t13).toNat (List.replicate ((vx.length : Int)).toNat [dB false, dL ([] : List (List D))])).getD (t13).toNat ([] : List (List D))).length ++ ((rows.set (t13).toNat (List.replicate ((vx.length : Int)).toNat [dB false, dL ([] : List (List D))])).getD (t13).toNat ([] : List (List D))).drop vx.length)) (IntKind.i64.wrap (t13 + (1 : Int))) < μ0 rows t13)))) ∧
 (decide (t13 < (a2.length : Int)) = false →
 R (vA [sD (dI a0), sD (dI a1), S.ref 0]) [some (Obj.mat 2 rows)]))
theorem vc32_ok (a0 a1 : Int) (a2 : List (List D)) {R : V → Heap → Prop} (h : vc32 a0 a1 a2 R) : FnG prog 32 [vA [sD (dI a0), sD (dI a1), sD (dL a2)]] [] R :=
  FnG.vcg hT func32 ntmps32 (.reg 2 [(0, Or.none, 0, 1), (1, Or.none, 1, 1)] [1, 2] [0, 1] [] <| .reg 1 [(3, Or.none, 2, 1)] [1, 2, 3] [0, 1, 2] [] <| .r1 [1, 2, 3, 11, 12, 13] [0, 1, 2] <| .lp [.m, .i] (fun rows t13 => ⟨[(1, vP 0 0), (2, vP 1 0), (3, vR 2), (11, vD (dL a2)), (12, vD (dI (a2.length : Int))), (13, vD (dI t13))], [some (Obj.box [sD (dI a0), sD (dI a1), sD (dL a2)]), some (Obj.box [sD (dI (0 : Int)), sD (dI (0 : Int)), sD (D.raw (.slice none 0 0))]), some (Obj.mat 2 rows)], 34⟩) [.m (List.replicate ((a2.length : Int)).toNat ([] : List (List D))), .i (0 : Int)] <| .fm fun rows => .fi fun t13 => .beg <| .r1 [1, 2, 3, 11, 12, 13, 14] [0, 1, 2] <| .c2 (.exl fun vx => .reg 0 [(2, Or.cells [dL vx], 0, 0)] [1, 2, 3, 4, 5, 11, 12, 13] [0, 1, 2] [] <| .reg 2 [(4, Or.none, 3, 1), (6, Or.none, 4, 1)] [1, 2, 3, 4, 5, 11, 12, 13] [0, 1, 2, 4] [] <| .fwd [3] [] <| .viw [1, 2, 3, 4, 5, 11, 12, 13] [0, 1, 3] <| .r1 [1, 2, 3, 11, 12, 13] [0, 1, 2] <| .r1 [1, 2, 3, 11, 12, 13] [0, 1, 2] <| .bk 0 [.m ((rows.set (t13).toNat (List.replicate ((vx.length : Int)).toNat [dB false, dL ([] : List (List D))])).set (t13).toNat (vx.take ((rows.set (t13).toNat (List.replicate ((vx.length : Int)).toNat [dB false, dL ([] : List (List D))])).getD (t13).toNat ([] : List (List D))).length ++ ((rows.set (t13).toNat (List.replicate ((vx.length : Int)).toNat [dB false, dL ([] : List (List D))])).getD (t13).toNat ([] : List (List D))).drop vx.length)), .i (IntKind.i64.wrap (t13 + (1 : Int)))]) (.r1 [1, 2] [0, 1, 2] <| .r1 [2] [1, 2] <| .ret [1]))
    (by kernel_rfl) (by kernel_rfl) (by kernel_rfl) h
end Go.AM
/- Package step: element, least. -/
namespace Go.AM
open Go.Proofs.Tryz
def pD (r c : Nat) (A m u v : List (List Int)) (t k : Nat) (b : Bool) : List D :=
  [dI r, dI c, dL (rows A), dI r, dI c, dL (rows m), dI r, dI r, dL (rows u), dI r, dI r, dL (rows v), dI t, dI k, dB b]
theorem element_ok {r c : Nat} {A m u v : List (List Int)} {t k i : Nat} {b : Bool} (hm : Mx r c m) (hi : i < r) (hk : k < c) :
    FnD prog 94 [vD (D.box (pD r c A m u v t k b)), vi i] (eI (el m i k)) [] := by
  refine vc94_ok _ _ _ _ _ _ _ _ _ _ _ _ _ _ _ _ (R := Out _) ?_
  unfold vc94
  obtain ⟨e1, e2, e3, e4⟩ := read_el hm hi hk
  have hlen : ((rows m).length : Int) = (r : Int) := by rw [rows_length, hm.1]
  exact ⟨_, _, _, ⟨by omega, by rw [hlen]; omega⟩, e1, ⟨by omega, e3⟩, e2, rfl, rfl⟩
theorem pleast_ok {r c : Nat} {A m u v : List (List Int)} {t k : Nat} {b : Bool} (hm : Mx r c m) (hs : ∀ i j, i < r → j < c → Sz (el m i j)) (hk : k < c) (ht : t ≤ r) (hr : r ≤ 4294967296) :
    FnD prog 93 [vD (D.box (pD r c A m u v t k b))] (vi (lsF m k t (r - t))) [] := by
  refine vc93_ok _ _ _ _ _ _ _ _ _ _ _ _ _ _ _ (R := Out _) ?_
  unfold vc93
  refine ⟨fun best i => ∃ n : Nat, i = ((t + n : Nat) : Int) ∧ t + n ≤ r ∧ best = lsF m k t n, fun _ i => ((r : Int) - i).toNat, ⟨0, rfl, ht, rfl⟩, ?_⟩
  rintro _ _ ⟨n, rfl, hn, rfl⟩
  refine ⟨fun h => ?_, fun h => outi ?_⟩
  · have hnr : t + n < r := by have := of_decide_eq_true h; omega
    have hnext : ∀ b, b = lsS m k (lsF m k t n) (t + n) → (∃ n' : Nat, IntKind.i64.wrap (((t + n : Nat) : Int) + 1) = ((t + n' : Nat) : Int) ∧ t + n' ≤ r ∧ b = lsF m k t n') ∧ ((r : Int) - IntKind.i64.wrap (((t + n : Nat) : Int) + 1)).toNat < ((r : Int) - ((t + n : Nat) : Int)).toNat :=
      fun b hb => by
        rw [inc64 (by omega)]
        exact ⟨⟨n + 1, rfl, by omega, hb⟩, by omega⟩
    have szn : ∀ {z : Int}, Sz z → Sz ((z.natAbs : Nat) : Int) := fun h => by unfold Sz at *; rwa [Int.natAbs_natCast]
    have hsign := sign_ok (((el m (t + n) k).natAbs : Nat) : Int)
    have s1 := hs _ _ hnr hk
    refine ⟨_, _, _, _, element_ok hm hnr hk, abs_ok _, _, hsign, fun h0 => ?_, fun h0 => hnext _ ?_⟩
    · have hne : el m (t + n) k ≠ 0 := fun hc => by rw [hc] at h0; simp at h0
      refine ⟨fun hb => hnext _ ?_, fun hb => ?_⟩
      · have hb' := of_decide_eq_true hb
        unfold lsS; rw [if_pos ⟨hne, .inl hb'⟩]
      · have hb' := of_decide_eq_false hb
        rcases lsF_ok (m := m) (c := k) (top := t) n with ⟨g1, _⟩ | ⟨p, g1, g2, g3, g4, _⟩
        · rw [g1] at hb'; exact absurd (by decide) hb'
        · have hpr : p < r := by omega
          have s2 := hs _ _ hpr hk
          have hcmp := cmp_ok (szn s1) (szn s2)
          have cm : decide (cmpI (((el m (t + n) k).natAbs : Nat) : Int) (((el m p k).natAbs : Nat) : Int) < 0) = decide ((el m (t + n) k).natAbs < (el m p k).natAbs) := by
            unfold cmpI
            by_cases hlt : (el m (t + n) k).natAbs < (el m p k).natAbs
            · have : (((el m (t + n) k).natAbs : Nat) : Int) < (((el m p k).natAbs : Nat) : Int) := by omega
              simp [hlt, this]
            · have : ¬ (((el m (t + n) k).natAbs : Nat) : Int) < (((el m p k).natAbs : Nat) : Int) := by omega
              rw [decide_eq_false hlt]
              simp only [this, if_false]
              split <;> decide
          have hst : lsS m k (p : Int) (t + n) = if (el m (t + n) k).natAbs < (el m p k).natAbs then ((t + n : Nat) : Int) else (p : Int) := by
            unfold lsS
            rw [Int.toNat_natCast]
            by_cases hlt : (el m (t + n) k).natAbs < (el m p k).natAbs
            · rw [if_pos ⟨hne, .inr hlt⟩, if_pos hlt]
            · rw [if_neg (fun ⟨_, b⟩ => b.elim (fun b => absurd b (by omega)) hlt), if_neg hlt]
          rw [g1] at hnext ⊢
          rw [hst] at hnext
          refine ⟨_, _, _, _, _, element_ok hm hpr hk, abs_ok _, hcmp, ?_⟩
          rw [cm]
          refine ⟨fun hl => hnext _ ?_, fun hl => hnext _ ?_⟩
          · rw [if_pos (by simpa using hl)]
          · rw [if_neg (by simpa using hl)]
    · have hne : el m (t + n) k = 0 := by
        apply Classical.byContradiction
        intro hc
        have hpos : 0 < (((el m (t + n) k).natAbs : Nat) : Int) := by omega
        rw [if_neg (by omega), if_neg (by omega)] at h0
        simp at h0
      unfold lsS; rw [if_neg (by simp [hne])]
  · have hnr : r ≤ t + n := by have := of_decide_eq_false h; omega
    rw [show r - t = n by omega]
end Go.AM
/- torsionref12.Form: what it answers. -/
namespace Go.AM
open Go.Proofs.Tryz
def unlim : List (List D) → Nat
  | [.int _ n] :: l => n.toNat + 4294967296 * unlim l
  | _ => 0
def msr (o : List (List (List D))) (i j : Nat) : Nat :=
  match at2 o i j with
  | some [_, .sl l] => unlim l
  | _ => 0
theorem at2_el {r c : Nat} {m : List (List Int)} (hm : Mx r c m) {i j : Nat} (hi : i < r) (hj : j < c) : at2 (om m) i j = some (cI (el m i j)) := by
  conv => lhs; rw [mx_table hm]
  exact at2_om hi hj
theorem at2_elN {r c : Nat} {m : List (List Int)} (hm : Mx r c m) {i j : Nat} (hi : i < r) (hj : j < c) : at2 (om m) (i : Int).toNat (j : Int).toNat = some (cI (el m i j)) := by
  rw [Int.toNat_natCast, Int.toNat_natCast]; exact at2_el hm hi hj
theorem omx_in {r c : Nat} {m : List (List Int)} (hm : Mx r c m) {i j : Nat} (hi : i < r) (hj : j < c) : ∃ l, (om m)[(i : Int).toNat]? = some l ∧ 0 ≤ (j : Int) ∧ (j : Int) < (l.length : Int) := by
  conv => rw [mx_table hm]
  exact om_in hi hj
theorem omx_len {r c : Nat} {m : List (List Int)} (hm : Mx r c m) : (om m).length = r := by rw [om_length]; exact hm.1
structure FCx (r cc K L : Nat) (a : List (List Int)) (FL : List Opz) : Prop where
  hm : Mx r cc a
  bd : ∀ d e, d ++ e = FL → BdM K (apL r cc d a) ∧ BdM K (apL r r d (table r r delta)) ∧ BdM K (apCL r d (table r r delta))
  nx : ∀ d o e, d ++ o :: e = FL → vO r o = true ∧ o.z.natAbs ≤ K
  big : K * K * 4294967296 < 4294967296 ^ L
  hL : L ≤ 1073741824
  hr : r ≤ 4294967296
  hc : cc ≤ 4294967296
def eHer (r c : Int) (h u v : List (List Int)) : V := .e (.agg [.dat (.int .i64 r), .dat (.int .i64 c), .dat (.sl (rows h)), .dat (.int .i64 r), .dat (.int .i64 r), .dat (.sl (rows u)), .dat (.int .i64 r), .dat (.int .i64 r), .dat (.sl (rows v))])
end Go.AM
/- Package step: the five steps on a state of one's own. -/
namespace Go.AM
open Go.Proofs.Tryz
def pH (r c : Nat) (A m u v : List (List Int)) (t k : Nat) (b : Bool) : Heap :=
  [some (.box [sD (dI r), sD (dI c), sD (dL (rows A)), sD (dI r), sD (dI c), .ref 1, sD (dI r), sD (dI r), .ref 2, sD (dI r), sD (dI r), .ref 3, sD (dI t), sD (dI k), sD (dB b)]), some (.mat 2 (om m)), some (.mat 2 (om u)), some (.mat 2 (om v))]
def pHs (r c : Nat) (A m u v : List (List Int)) (t k : Nat) (b : Bool) : Heap :=
  [some (.box [sD (dI r), sD (dI c), sD (dL (rows A)), sD (dI r), sD (dI c), .ref 4, sD (dI r), sD (dI r), .ref 5, sD (dI r), sD (dI r), .ref 3, sD (dI t), sD (dI k), sD (dB b)]), some (.fwd (.ref 4)), some (.fwd (.ref 5)), some (.mat 2 (om v)), some (.mat 2 (om m)), some (.mat 2 (om u))]
structure PCx (r c K L : Nat) (m u v : List (List Int)) (t k : Nat) : Prop where
  hm : Mx r c m
  hu : Mx r r u
  hv : Mx r r v
  km : BdM K m
  ku : BdM K u
  kv : BdM K v
  ht : t < r
  hk : k < c
  big : K * K * 4294967296 < 4294967296 ^ L
  hL : L ≤ 1073741824
  hr : r ≤ 4294967296
  hc : c ≤ 4294967296
theorem kk_le (K : Nat) : K ≤ K * K := by
  rcases Nat.eq_zero_or_pos K with h | h
  · omega
  · have := Nat.mul_le_mul_left K h; omega
section
variable {r c K L : Nat} {A m u v : List (List Int)} {t k : Nat} (C : PCx r c K L m u v t k) {b : Bool}
include C
theorem PCx.sz2 {y : Int} (h : y.natAbs ≤ K * K) : Sz y := by
  refine Sz.of_lt L C.hL (Nat.lt_of_le_of_lt (Nat.le_trans h (Nat.le_mul_of_pos_right _ (by decide))) C.big)
theorem PCx.sz {y : Int} (h : y.natAbs ≤ K) : Sz y := C.sz2 (Nat.le_trans h (kk_le K))
theorem PCx.lt {y : Int} (h : y.natAbs ≤ K) : y.natAbs * 4294967296 < 4294967296 ^ L := by
  exact Nat.lt_of_le_of_lt (Nat.mul_le_mul_right _ (Nat.le_trans h (kk_le K))) C.big
theorem pelemO {i : Nat} (hi : i < r) : FnO prog 94 [vP 0 0, vi i] (pH r c A m u v t k b) (eI (el m i k)) (pH r c A m u v t k b) := by
  refine vc94o_ok _ _ _ _ _ _ _ _ _ _ _ _ _ _ _ _ (R := fun x y => x = eI (el m i k) ∧ y = pH r c A m u v t k b) ?_
  unfold vc94o
  exact ⟨_, _, ⟨by omega, by rw [omx_len C.hm]; omega⟩, omx_in C.hm hi C.hk, at2_elN C.hm hi C.hk, rfl, rfl⟩
theorem pls : FnD prog 93 [vD (D.box [dI r, dI c, dL (rows A), dI r, dI c, dL (matD (om m)), dI r, dI r, dL (matD (om u)), dI r, dI r, dL (matD (om v)), dI t, dI k, dB b])] (vi (lsF m k t (r - t))) [] := by
  rw [matD_om, matD_om, matD_om]
  exact pleast_ok C.hm (fun _ _ hi hj => C.sz (el_bd C.hm C.km hi hj)) C.hk (Nat.le_of_lt C.ht) C.hr
theorem skip_ok : FnO prog 64 [vP 0 0] (pH r c A m u v t k b) (vD (dB (decide (lsF m k t (r - t) < 0)))) (pH r c A m u v t (if lsF m k t (r - t) < 0 then k + 1 else k) b) := by
  refine vc64_ok _ _ _ _ _ _ _ _ _ _ _ _ _ _ _ (R := fun x y => x = vD (dB (decide (lsF m k t (r - t) < 0))) ∧ y = pH r c A m u v t (if lsF m k t (r - t) < 0 then k + 1 else k) b) ?_
  unfold vc64
  have hk := C.hk; have hc := C.hc
  refine ⟨_, pls C, fun h => ?_, fun h => ?_⟩
  · have : ¬ lsF m k t (r - t) < 0 := by have := of_decide_eq_true h; omega
    exact ⟨by rw [decide_eq_false this], by rw [if_neg this]; rfl⟩
  · have : lsF m k t (r - t) < 0 := by have := of_decide_eq_false h; omega
    rw [inc64 (by omega)]
    exact ⟨by rw [decide_eq_true this], by rw [if_pos this]; rfl⟩
theorem advance_ok : FnO prog 68 [vP 0 0] (pH r c A m u v t k b) (vD (dB true)) (pH r c A m u v (t + 1) (k + 1) b) := by
  refine vc68_ok _ _ _ _ _ _ _ _ _ _ _ _ _ _ _ (R := fun x y => x = vD (dB true) ∧ y = pH r c A m u v (t + 1) (k + 1) b) ?_
  unfold vc68
  have hk := C.hk; have hc := C.hc; have ht := C.ht; have hr := C.hr
  rw [inc64 (by omega), inc64 (by omega)]
  exact ⟨rfl, rfl⟩
theorem exch_no (h0 : lsF m k t (r - t) = (t : Int)) : FnO prog 65 [vP 0 0] (pH r c A m u v t k b) (vD (dB false)) (pHs r c A m u v t k b) := by
  refine vc65_ok _ _ _ _ _ _ _ _ _ _ _ _ _ _ _ (R := fun x y => x = vD (dB false) ∧ y = pHs r c A m u v t k b) ?_
  unfold vc65
  refine ⟨_, pls C, fun h => ⟨rfl, rfl⟩, fun h => ?_⟩
  rw [h0] at h; simp at h
theorem exch_yes {i : Nat} (h0 : lsF m k t (r - t) = (i : Int)) (hi : i < r) (hne : i ≠ t) :
    FnO prog 65 [vP 0 0] (pH r c A m u v t k b) (vD (dB true)) (pHs r c A (apO r c (swapO i t) m) (apO r r (swapO i t) u) (apC r (swapO i t) v) t k b) := by
  refine vc65_ok _ _ _ _ _ _ _ _ _ _ _ _ _ _ _ (R := fun x y => x = vD (dB true) ∧ y = pHs r c A (apO r c (swapO i t) m) (apO r r (swapO i t) u) (apC r (swapO i t) v) t k b) ?_
  unfold vc65
  have ht := C.ht; have hr := C.hr; have hv := C.hv
  have hvO := vO_swap hi ht hne
  refine ⟨_, pls C, fun h => ?_, fun h => ?_⟩
  · exfalso; have := eq_of_beq h; omega
  rw [h0]
  have lm : (om m).length = r := omx_len C.hm
  have lu : (om u).length = r := omx_len C.hu
  have lv : (om v).length = r := omx_len C.hv
  refine ⟨⟨by omega, by omega⟩, ⟨by omega, by omega⟩, rfl, rfl, ⟨by omega, by omega⟩, ⟨by omega, by omega⟩, ?_⟩
  refine ⟨fun a t' => ∃ n : Nat, t' = (n : Int) ∧ n ≤ r ∧ a = om (table r r (cP (swapO i t) (el v) n)), fun _ t' => ((r : Int) - t').toNat, ⟨0, rfl, by omega, cP_zero hv⟩, ?_⟩
  rintro _ _ ⟨n, rfl, hn, rfl⟩
  refine ⟨fun h2 => ?_, fun h2 => ?_⟩
  · have hnr : n < r := by rw [lv] at h2; simpa using h2
    have e1 : (om (table r r (cP (swapO i t) (el v) n))).modify (n : Int).toNat (fun q => q.set (i : Int).toNat (cI (el v n t))) = om (table r r fun a b => if a = n ∧ b = i then el v n t else cP (swapO i t) (el v) n a b) := by
      rw [Int.toNat_natCast, Int.toNat_natCast]; exact om_set hnr hi
    have e2 : cP (swapO i t) (el v) n (n : Int).toNat (i : Int).toNat = el v n i := by rw [Int.toNat_natCast, Int.toNat_natCast]; exact cP_at
    have e3 : cP (swapO i t) (el v) n (n : Int).toNat (t : Int).toNat = el v n t := by rw [Int.toNat_natCast, Int.toNat_natCast]; exact cP_at
    have a1 := at2_om (r := r) (c := r) (g := cP (swapO i t) (el v) n) (i := (n : Int).toNat) (j := (i : Int).toNat) (by omega) (by omega)
    have a2 := at2_om (r := r) (c := r) (g := cP (swapO i t) (el v) n) (i := (n : Int).toNat) (j := (t : Int).toNat) (by omega) (by omega)
    rw [e2] at a1
    rw [e3] at a2
    refine ⟨⟨by omega, by rw [om_len]; omega⟩, _, _, _, _, om_in hnr ht, a2, om_in hnr hi, a1, ?_⟩
    have e1' : (om (table r r (cP (swapO i t) (el v) n))).modify (n : Int).toNat (fun q => q.set (i : Int).toNat [dB (decide (el v n t < 0)), dL (lim (digs (el v n t).natAbs))]) = om (table r r fun a b => if a = n ∧ b = i then el v n t else cP (swapO i t) (el v) n a b) := e1
    rw [e1', inc64 (by omega)]
    refine ⟨om_in hnr ht, ⟨n + 1, rfl, by omega, ?_⟩, by show ((r : Int) - ((n + 1 : Nat) : Int)).toNat < ((r : Int) - (n : Int)).toNat; omega⟩
    rw [Int.toNat_natCast, Int.toNat_natCast]
    refine Eq.trans (om_set hnr ht) ?_
    congr 1
    refine table_congr fun a b _ _ => ?_
    unfold cP colF
    simp only [if_true]
    by_cases ha : a = n
    · subst ha
      by_cases hb : b = t
      · subst hb
        simp [Ne.symm hne]
      · by_cases hb' : b = i
        · subst hb'; simp [hne]
        · simp [hb, hb']
    · by_cases ha' : a < n
      · simp [ha, ha', show a < n + 1 by omega]
      · simp [ha, ha', show ¬ a < n + 1 by omega]
  · have hnr : n = r := by rw [lv] at h2; have : r ≤ n := by simpa using h2
                           omega
    subst hnr
    have s1 := swapR_om hvO rfl C.hm
    have s2 := swapR_om hvO rfl C.hu
    rw [Int.toNat_natCast, Int.toNat_natCast]
    dsimp only at s1 s2
    rw [s1, s2, cP_all]
    exact ⟨rfl, rfl⟩
theorem neg_no (h0 : 0 < el m t k) : FnO prog 66 [vP 0 0] (pH r c A m u v t k b) (vD (dB false)) (pH r c A m u v t k b) := by
  refine vc66_ok _ _ _ _ _ _ _ _ _ _ _ _ _ _ _ (R := fun x y => x = vD (dB false) ∧ y = pH r c A m u v t k b) ?_
  unfold vc66
  refine ⟨_, _, _, _, _, _, _, _, _, _, _, _, _, _, _, _, _, _, pelemO C C.ht, sign_ok _, fun h => ⟨rfl, rfl⟩, fun h => ?_⟩
  rw [if_neg (by omega), if_neg (by omega)] at h
  simp at h
theorem neg_yes (h0 : el m t k < 0) : FnO prog 66 [vP 0 0] (pH r c A m u v t k b) (vD (dB true)) (pH r c A (apO r c (negO t) m) (apO r r (negO t) u) (apC r (negO t) v) t k b) := by
  refine vc66_ok _ _ _ _ _ _ _ _ _ _ _ _ _ _ _ (R := fun x y => x = vD (dB true) ∧ y = pH r c A (apO r c (negO t) m) (apO r r (negO t) u) (apC r (negO t) v) t k b) ?_
  unfold vc66
  have ht := C.ht; have hr := C.hr; have hc := C.hc
  have lm : (om m).length = r := omx_len C.hm
  have lu : (om u).length = r := omx_len C.hu
  have lv : (om v).length = r := omx_len C.hv
  have rl : ∀ {c' : Nat} {x : List (List Int)}, Mx r c' x → (((om x).getD (t : Int).toNat ([] : List (List D))).length : Int) = (c' : Int) := fun {c' x} hx => by
    rw [Int.toNat_natCast]
    conv => lhs; rw [mx_table hx]
    simp [om, table, ht, row, tableR]
  refine ⟨_, _, _, _, _, _, _, _, _, _, _, _, _, _, _, _, _, _, pelemO C C.ht, sign_ok _, fun h => ?_, fun h => ?_⟩
  · rw [if_neg (by omega), if_pos h0] at h
    simp at h
  refine ⟨⟨by decide, by decide⟩, ⟨by omega, by omega⟩, ?_⟩
  refine ⟨fun a t' => ∃ n : Nat, t' = (n : Int) ∧ n ≤ c ∧ a = om (table r c (rF (negO t) (el m) n)), fun _ t' => ((c : Int) - t').toNat, ⟨0, rfl, by omega, rF_zero C.hm⟩, ?_⟩
  rintro _ _ ⟨n, rfl, hn, rfl⟩
  refine ⟨fun h2 => ?_, fun h2 => ?_⟩
  · have hnc : n < c := by rw [rl C.hm] at h2; simpa using h2
    have e : rF (negO t) (el m) n t n = el m t n := by unfold rF; rw [if_neg (by simp)]
    have e2 : opF (negO t) (el m) t n = - el m t n := by simp [opF]
    have a1 := rowM_in (r := r) (c := c) (g := rF (negO t) (el m) n) ht hnc
    rw [e] at a1
    have f1 := neg_ok (el m t n)
    rw [← e2] at f1
    refine ⟨_, _, om_in ht hnc, a1, _, _, ⟨by omega, by rw [om_len]; omega⟩, f1, ?_⟩
    rw [inc64 (by omega)]
    refine ⟨⟨n + 1, rfl, by omega, ?_⟩, by show ((c : Int) - ((n + 1 : Nat) : Int)).toNat < ((c : Int) - (n : Int)).toNat; omega⟩
    rw [Int.toNat_natCast, Int.toNat_natCast]
    exact rF_step (o := negO t) ht hnc
  have hnc : n = c := by rw [rl C.hm] at h2; have : c ≤ n := by simpa using h2
                         omega
  subst hnc
  refine ⟨⟨by decide, by decide⟩, ⟨by omega, by omega⟩, ?_⟩
  refine ⟨fun a t' => ∃ n : Nat, t' = (n : Int) ∧ n ≤ r ∧ a = om (table r r (rF (negO t) (el u) n)), fun _ t' => ((r : Int) - t').toNat, ⟨0, rfl, by omega, rF_zero C.hu⟩, ?_⟩
  rintro _ _ ⟨p, rfl, hp, rfl⟩
  refine ⟨fun h2 => ?_, fun h2 => ?_⟩
  · have hnc : p < r := by rw [rl C.hu] at h2; simpa using h2
    have e : rF (negO t) (el u) p t p = el u t p := by unfold rF; rw [if_neg (by simp)]
    have e2 : opF (negO t) (el u) t p = - el u t p := by simp [opF]
    have a1 := rowM_in (r := r) (c := r) (g := rF (negO t) (el u) p) ht hnc
    rw [e] at a1
    have f1 := neg_ok (el u t p)
    rw [← e2] at f1
    refine ⟨_, _, om_in ht hnc, a1, _, _, ⟨by omega, by rw [om_len]; omega⟩, f1, ?_⟩
    rw [inc64 (by omega)]
    refine ⟨⟨p + 1, rfl, by omega, ?_⟩, by show ((r : Int) - ((p + 1 : Nat) : Int)).toNat < ((r : Int) - (p : Int)).toNat; omega⟩
    rw [Int.toNat_natCast, Int.toNat_natCast]
    exact rF_step (o := negO t) ht hnc
  have hpr : p = r := by rw [rl C.hu] at h2; have : r ≤ p := by simpa using h2
                         omega
  subst hpr
  refine ⟨fun a t' => ∃ q : Nat, t' = (q : Int) ∧ q ≤ p ∧ a = om (table p p (cP (negO t) (el v) q)), fun _ t' => ((p : Int) - t').toNat, ⟨0, rfl, by omega, cP_zero C.hv⟩, ?_⟩
  rintro _ _ ⟨q, rfl, hq, rfl⟩
  refine ⟨fun h2 => ?_, fun h2 => ?_⟩
  · have hqr : q < p := by rw [lv] at h2; simpa using h2
    have a1 := rowM_in (r := p) (c := p) (g := cP (negO t) (el v) q) hqr ht
    rw [cP_at] at a1
    refine ⟨⟨by omega, by rw [om_len]; omega⟩, _, _, _, _, om_in hqr ht, a1, neg_ok (el v q t), ?_⟩
    rw [inc64 (by omega)]
    refine ⟨⟨q + 1, rfl, by omega, ?_⟩, by show ((p : Int) - ((q + 1 : Nat) : Int)).toNat < ((p : Int) - (q : Int)).toNat; omega⟩
    rw [Int.toNat_natCast, Int.toNat_natCast]
    exact cP_one hqr ht (by simp [colF]) fun b _ hb => by simp [colF, hb]
  · have hqr : q = p := by rw [lv] at h2; have : p ≤ q := by simpa using h2
                           omega
    subst hqr
    rw [rF_all (o := negO t) (by simp), rF_all (o := negO t) (by simp), cP_all]
    exact ⟨rfl, rfl⟩
end
end Go.AM
/- Package step: reduce; copied. -/
namespace Go.AM
open Go.Proofs.Tryz
section
variable {r c K L : Nat} {A m u v : List (List Int)} {t k : Nat} (C : PCx r c K L m u v t k) {b : Bool}
def Rd0 (r c : Nat) (A m u v : List (List Int)) (t k : Nat) (b : Bool) (N : Nat) (p0 p1 p10 p12 p13 : Int) (p14 : Bool) (p2 : List (List D)) (p3 p4 p6 p7 p9 : Int) (o1 o2 o3 : List (List (List D))) (z : Int) : Prop :=
  (p0 = r ∧ p1 = c ∧ p10 = r ∧ p12 = t ∧ p13 = k ∧ b = p14 ∧ p2 = rows A ∧ p3 = r ∧ p4 = c ∧ p6 = r ∧ p7 = r ∧ p9 = r ∧ o1 = om m ∧ o2 = om u ∧ o3 = om v) ∧ ∃ n : Nat, z = (n : Int) ∧ n ≤ N
abbrev rdm (r : Nat) (_ _ _ _ _ : Int) (_ : Bool) (_ : List (List D)) (_ _ _ _ _ : Int) (_ _ _ : List (List (List D))) (z : Int) : Nat := ((r : Int) - z).toNat
theorem rsg {q : Int} : ((if q = 0 then (0 : Int) else if q < 0 then -1 else 1) == 0) = decide (q = 0) := by
  by_cases h : q = 0
  · simp [h]
  · rw [if_neg h, decide_eq_false h]
    split <;> decide
include C
theorem PCx.dm {i : Nat} (hi : i < r) (hy : el m t k ≠ 0) : FnD prog 96 [eI (el m i k), eI (el m t k)] (.tup [ei (el m i k / el m t k), ei (el m i k % el m t k), eD (dI 0)]) [] :=
  idivmod_ok hy (C.lt (el_bd C.hm C.km hi C.hk)) (C.lt (el_bd C.hm C.km C.ht C.hk)) C.hL
theorem red_no (h0 : el m t k ≠ 0) (hz : ∀ i, i < r → i ≠ t → el m i k / el m t k = 0) : FnO prog 67 [vP 0 0] (pH r c A m u v t k b) (vD (dB false)) (pH r c A m u v t k b) := by
  refine vc67_ok _ _ _ _ _ _ _ _ _ _ _ _ _ _ _ (R := fun x y => x = vD (dB false) ∧ y = pH r c A m u v t k b) ?_
  unfold vc67
  have hr := C.hr
  refine ⟨Rd0 r c A m u v t k b r, rdm r, ⟨⟨rfl, rfl, rfl, rfl, rfl, rfl, rfl, rfl, rfl, rfl, rfl, rfl, rfl, rfl, rfl⟩, 0, rfl, by omega⟩, ?_⟩
  rintro _ _ _ _ _ _ _ _ _ _ _ _ _ _ _ _ ⟨⟨rfl, rfl, rfl, rfl, rfl, rfl, rfl, rfl, rfl, rfl, rfl, rfl, rfl, rfl, rfl⟩, n, rfl, hn⟩
  refine ⟨fun h => ?_, fun h => ⟨rfl, rfl⟩⟩
  have hnr : n < r := by simpa using h
  have nx : Rd0 r c A m u v t k b r r c r t k b (rows A) r c r r r (om m) (om u) (om v) (IntKind.i64.wrap ((n : Int) + 1)) ∧ rdm r r c r t k b (rows A) r c r r r (om m) (om u) (om v) (IntKind.i64.wrap ((n : Int) + 1)) < rdm r r c r t k b (rows A) r c r r r (om m) (om u) (om v) (n : Int) := by
    rw [inc64 (by omega)]
    exact ⟨⟨⟨rfl, rfl, rfl, rfl, rfl, rfl, rfl, rfl, rfl, rfl, rfl, rfl, rfl, rfl, rfl⟩, n + 1, rfl, by omega⟩, by show ((r : Int) - ((n + 1 : Nat) : Int)).toNat < ((r : Int) - (n : Int)).toNat; omega⟩
  refine ⟨_, _, _, _, _, _, _, _, _, _, _, _, _, _, _, _, _, _, _, _, _, _, _, _, _, _, _, _, _, _, _, _, _, _, _, _, _, _, _, pelemO C hnr, pelemO C C.ht, C.dm hnr h0, fun _ => nx, fun h2 => ?_⟩
  have hne : n ≠ t := by intro hc; subst hc; simp at h2
  refine ⟨_, sign_ok _, fun _ => nx, fun h3 => ?_⟩
  rw [rsg, decide_eq_true (hz n hnr hne)] at h3
  exact absurd h3 (by decide)
theorem red_yes (h0 : el m t k ≠ 0) {i : Nat} (hi : i < r) (hne : i ≠ t) (hq : el m i k / el m t k ≠ 0) (hz : ∀ j, j < i → j ≠ t → el m j k / el m t k = 0) :
    FnO prog 67 [vP 0 0] (pH r c A m u v t k b) (vD (dB true)) (pH r c A (apO r c (addO i t (-(el m i k / el m t k))) m) (apO r r (addO i t (-(el m i k / el m t k))) u) (apC r (addO i t (-(el m i k / el m t k))) v) t k b) := by
  generalize ho : addO i t (-(el m i k / el m t k)) = o
  have oi : o.i = i := by rw [← ho]
  have oj : o.j = t := by rw [← ho]
  have ok : o.k = 3 := by rw [← ho]
  have oz : el m i k / el m t k = - o.z := by rw [← ho]; simp
  refine vc67_ok _ _ _ _ _ _ _ _ _ _ _ _ _ _ _ (R := fun x y => x = vD (dB true) ∧ y = pH r c A (apO r c o m) (apO r r o u) (apC r o v) t k b) ?_
  unfold vc67
  have hr := C.hr; have ht := C.ht; have hc := C.hc
  have lm : (om m).length = r := omx_len C.hm
  have lu : (om u).length = r := omx_len C.hu
  have lv : (om v).length = r := omx_len C.hv
  have hqK : (el m i k / el m t k).natAbs ≤ K := by
    have h1 := Int.natAbs_ediv_le_natAbs (el m i k) (el m t k)
    have h2 := el_bd C.hm C.km hi C.hk
    omega
  have szq : Sz (el m i k / el m t k) := C.sz hqK
  have szm : ∀ {y : Int}, y.natAbs ≤ K → Sz y ∧ Sz (el m i k / el m t k * y) := fun {y} hy => ⟨C.sz hy, C.sz2 (by rw [Int.natAbs_mul]; exact Nat.mul_le_mul hqK hy)⟩
  have rl : ∀ {c' : Nat} {x : List (List Int)}, Mx r c' x → (((om x).getD (t : Int).toNat ([] : List (List D))).length : Int) = (c' : Int) := fun {c' x} hx => by
    rw [Int.toNat_natCast]
    conv => lhs; rw [mx_table hx]
    simp [om, table, ht, row, tableR]
  refine ⟨Rd0 r c A m u v t k b i, rdm r, ⟨⟨rfl, rfl, rfl, rfl, rfl, rfl, rfl, rfl, rfl, rfl, rfl, rfl, rfl, rfl, rfl⟩, 0, rfl, by omega⟩, ?_⟩
  rintro _ _ _ _ _ _ _ _ _ _ _ _ _ _ _ _ ⟨⟨rfl, rfl, rfl, rfl, rfl, rfl, rfl, rfl, rfl, rfl, rfl, rfl, rfl, rfl, rfl⟩, n, rfl, hn⟩
  refine ⟨fun h => ?_, fun h => by exfalso; have : r ≤ n := by simpa using h
                                   omega⟩
  have hnr : n < r := by omega
  have nx : n < i → Rd0 r c A m u v t k b i r c r t k b (rows A) r c r r r (om m) (om u) (om v) (IntKind.i64.wrap ((n : Int) + 1)) ∧ rdm r r c r t k b (rows A) r c r r r (om m) (om u) (om v) (IntKind.i64.wrap ((n : Int) + 1)) < rdm r r c r t k b (rows A) r c r r r (om m) (om u) (om v) (n : Int) := fun hni => by
    rw [inc64 (by omega)]
    exact ⟨⟨⟨rfl, rfl, rfl, rfl, rfl, rfl, rfl, rfl, rfl, rfl, rfl, rfl, rfl, rfl, rfl⟩, n + 1, rfl, by omega⟩, by show ((r : Int) - ((n + 1 : Nat) : Int)).toNat < ((r : Int) - (n : Int)).toNat; omega⟩
  refine ⟨_, _, _, _, _, _, _, _, _, _, _, _, _, _, _, _, _, _, _, _, _, _, _, _, _, _, _, _, _, _, _, _, _, _, _, _, _, _, _, pelemO C hnr, pelemO C C.ht, C.dm hnr h0, fun h2 => ?_, fun h2 => ?_⟩
  · have hnt : n = t := by have := eq_of_beq h2; omega
    exact nx (by omega)
  have hnt : n ≠ t := by intro hc; subst hc; simp at h2
  refine ⟨_, sign_ok _, fun h3 => ?_, fun h3 => ?_⟩
  · rw [rsg] at h3
    have h4 := of_decide_eq_true h3
    refine nx ?_
    rcases Nat.lt_or_ge n i with h5 | h5
    · exact h5
    · exact absurd (by rw [show i = n by omega]; exact h4) hq
  have hni : n = i := by
    rcases Nat.lt_or_ge n i with h5 | h5
    · rw [rsg, decide_eq_true (hz n h5 hnt)] at h3; exact absurd h3 (by decide)
    · omega
  subst hni
  clear h h2 h3 nx hn
  refine ⟨⟨by decide, by decide⟩, ⟨by omega, by omega⟩, ?_⟩
  refine ⟨fun a t' => ∃ n : Nat, t' = (n : Int) ∧ n ≤ c ∧ a = om (table r c (rF o (el m) n)), fun _ t' => ((c : Int) - t').toNat, ⟨0, rfl, by omega, rF_zero C.hm⟩, ?_⟩
  rintro _ _ ⟨p, rfl, hp, rfl⟩
  refine ⟨fun h2 => ?_, fun h2 => ?_⟩
  · have hpc : p < c := by rw [rl C.hm] at h2; simpa using h2
    have e : rF o (el m) p n p = el m n p := by unfold rF; rw [if_neg (by simp)]
    have e' : rF o (el m) p t p = el m t p := by unfold rF; rw [if_neg (by simp)]
    have e2 : opF o (el m) n p = el m n p - el m n k / el m t k * el m t p := by
      rw [oz]; simp only [opF, ok, oi, oj, if_neg (show ¬ (3 : Nat) = 1 by decide), if_neg (show ¬ (3 : Nat) = 2 by decide), if_true]
      rw [Int.neg_mul, Int.sub_neg]
    have a1 := rowM_in (r := r) (c := c) (g := rF o (el m) p) hi hpc
    have a2 := rowM_in (r := r) (c := c) (g := rF o (el m) p) ht hpc
    rw [e] at a1
    rw [e'] at a2
    have s1 := szm (el_bd C.hm C.km ht hpc)
    have f1 := mul_ok szq s1.1
    have f2 := sub_ok (szm (el_bd C.hm C.km hi hpc)).1 s1.2
    rw [← e2] at f2
    refine ⟨_, _, om_in ht hpc, a2, _, _, _, _, _, _, ⟨by omega, by rw [om_len]; omega⟩, om_in hi hpc, a1, f1, f2, ?_⟩
    rw [inc64 (by omega)]
    refine ⟨⟨p + 1, rfl, by omega, ?_⟩, by show ((c : Int) - ((p + 1 : Nat) : Int)).toNat < ((c : Int) - (p : Int)).toNat; omega⟩
    have := rF_step (r := r) (c := c) (o := o) (f := el m) (t := p) (by omega) hpc
    rw [oi] at this
    rw [Int.toNat_natCast, Int.toNat_natCast]
    exact this
  have hpc : p = c := by rw [rl C.hm] at h2; have : c ≤ p := by simpa using h2
                         omega
  subst hpc
  refine ⟨⟨by decide, by decide⟩, ⟨by omega, by omega⟩, ?_⟩
  refine ⟨fun a t' => ∃ n : Nat, t' = (n : Int) ∧ n ≤ r ∧ a = om (table r r (rF o (el u) n)), fun _ t' => ((r : Int) - t').toNat, ⟨0, rfl, by omega, rF_zero C.hu⟩, ?_⟩
  rintro _ _ ⟨x, rfl, hx, rfl⟩
  refine ⟨fun h2 => ?_, fun h2 => ?_⟩
  · have hxc : x < r := by rw [rl C.hu] at h2; simpa using h2
    have e : rF o (el u) x n x = el u n x := by unfold rF; rw [if_neg (by simp)]
    have e' : rF o (el u) x t x = el u t x := by unfold rF; rw [if_neg (by simp)]
    have e2 : opF o (el u) n x = el u n x - el m n k / el m t k * el u t x := by
      rw [oz]; simp only [opF, ok, oi, oj, if_neg (show ¬ (3 : Nat) = 1 by decide), if_neg (show ¬ (3 : Nat) = 2 by decide), if_true]
      rw [Int.neg_mul, Int.sub_neg]
    have a1 := rowM_in (r := r) (c := r) (g := rF o (el u) x) hi hxc
    have a2 := rowM_in (r := r) (c := r) (g := rF o (el u) x) ht hxc
    rw [e] at a1
    rw [e'] at a2
    have s1 := szm (el_bd C.hu C.ku ht hxc)
    have f1 := mul_ok szq s1.1
    have f2 := sub_ok (szm (el_bd C.hu C.ku hi hxc)).1 s1.2
    rw [← e2] at f2
    refine ⟨_, _, om_in ht hxc, a2, _, _, _, _, _, _, ⟨by omega, by rw [om_len]; omega⟩, om_in hi hxc, a1, f1, f2, ?_⟩
    rw [inc64 (by omega)]
    refine ⟨⟨x + 1, rfl, by omega, ?_⟩, by show ((r : Int) - ((x + 1 : Nat) : Int)).toNat < ((r : Int) - (x : Int)).toNat; omega⟩
    have := rF_step (r := r) (c := r) (o := o) (f := el u) (t := x) (by omega) hxc
    rw [oi] at this
    rw [Int.toNat_natCast, Int.toNat_natCast]
    exact this
  have hxr : x = r := by rw [rl C.hu] at h2; have : r ≤ x := by simpa using h2
                         omega
  subst hxr
  refine ⟨fun a t' => ∃ q : Nat, t' = (q : Int) ∧ q ≤ x ∧ a = om (table x x (cP o (el v) q)), fun _ t' => ((x : Int) - t').toNat, ⟨0, rfl, by omega, cP_zero C.hv⟩, ?_⟩
  rintro _ _ ⟨q, rfl, hq', rfl⟩
  refine ⟨fun h2 => ?_, fun h2 => ?_⟩
  · have hqr : q < x := by rw [lv] at h2; simpa using h2
    have a1 := rowM_in (r := x) (c := x) (g := cP o (el v) q) hqr ht
    have a2 := rowM_in (r := x) (c := x) (g := cP o (el v) q) hqr hi
    rw [cP_at] at a1 a2
    have s1 := szm (el_bd C.hv C.kv hqr hi)
    have f1 := mul_ok szq s1.1
    have f2 := add_ok (szm (el_bd C.hv C.kv hqr ht)).1 s1.2
    refine ⟨⟨by omega, by rw [om_len]; omega⟩, _, _, _, _, _, _, _, _, om_in hqr ht, a1, om_in hqr hi, a2, f1, f2, ?_⟩
    rw [inc64 (by omega)]
    refine ⟨⟨q + 1, rfl, by omega, ?_⟩, by show ((x : Int) - ((q + 1 : Nat) : Int)).toNat < ((x : Int) - (q : Int)).toNat; omega⟩
    rw [Int.toNat_natCast, Int.toNat_natCast]
    refine cP_one hqr ht ?_ fun b _ hb => ?_
    · rw [oz]; simp only [colF, ok, oi, oj, if_neg (show ¬ (3 : Nat) = 1 by decide), if_neg (show ¬ (3 : Nat) = 2 by decide), if_true]
      rw [Int.neg_mul, Int.sub_eq_add_neg]
    · simp only [colF, ok, oj, if_neg (show ¬ (3 : Nat) = 1 by decide), if_neg (show ¬ (3 : Nat) = 2 by decide), if_neg hb]
  · have hqr : q = x := by rw [lv] at h2; have : x ≤ q := by simpa using h2
                           omega
    subst hqr
    rw [rF_all (by rw [ok]; decide), rF_all (by rw [ok]; decide), cP_all]
    exact ⟨rfl, rfl⟩
end
theorem pcopied_ok {r c : Nat} {m : List (List Int)} (hm : Mx r c m) (hr : r ≤ 4294967296) (hc : c ≤ 4294967296) : FnD prog 32 [eM r c m] (vA [sD (dI r), sD (dI c), .ref 0]) [some (.mat 2 (om m))] := by
  refine vc32_ok _ _ _ (R := fun x y => x = vA [sD (dI r), sD (dI c), .ref 0] ∧ y = [some (.mat 2 (om m))]) ?_
  unfold vc32
  have hlen : ((rows m).length : Int) = (r : Int) := by rw [rows_length, hm.1]
  rw [hlen]
  refine ⟨⟨by omega, by omega, by omega⟩, ?_⟩
  refine ⟨fun x t => ∃ n : Nat, t = (n : Int) ∧ n ≤ r ∧ x = (om m).take n ++ List.replicate (r - n) [], fun _ t => ((r : Int) - t).toNat, ⟨0, rfl, by omega, by simp⟩, ?_⟩
  rintro _ _ ⟨n, rfl, hn, rfl⟩
  refine ⟨fun h => ?_, fun h => ?_⟩
  · have hnr : n < r := by simpa using h
    have hnm : n < m.length := by rw [hm.1]; exact hnr
    have hnl : (m[n]).length = c := hm.2 _ (List.getElem_mem _)
    have hl : (List.take n (om m)).length = n := by rw [List.length_take, om_length, hm.1]; omega
    have hg : ∀ x : List (List D), ((om m).take n ++ List.replicate (r - n) []).set n x = (om m).take n ++ x :: List.replicate (r - (n + 1)) [] := fun x => by
      rw [List.set_append_right _ _ (by omega), hl, Nat.sub_self, show r - n = (r - (n + 1)) + 1 by omega, List.replicate_succ, List.set_cons_zero]
    refine ⟨row m[n], ⟨by omega, by omega⟩, ?_, ⟨by omega, by omega, by rw [row_length]; omega⟩, ⟨by omega, ?_⟩, ⟨by omega, ?_⟩, ?_, ?_⟩
    · rw [Int.toNat_natCast]; simp [rows, hnm]
    · rw [List.length_append, hl, List.length_replicate]; omega
    · rw [List.length_set, List.length_append, hl, List.length_replicate]; omega
    · intro y hy; simp only [row, List.mem_map] at hy; obtain ⟨z, _, rfl⟩ := hy; rfl
    · rw [inc64 (by omega), Int.toNat_natCast, Int.toNat_natCast, hg]
      refine ⟨⟨n + 1, rfl, by omega, ?_⟩, by show ((r : Int) - ((n + 1 : Nat) : Int)).toNat < ((r : Int) - (n : Int)).toNat; omega⟩
      have h1 : (List.take n (om m) ++ List.replicate (row m[n]).length [dB false, dL ([] : List (List D))] :: List.replicate (r - (n + 1)) []).getD n ([] : List (List D)) = List.replicate (row m[n]).length [dB false, dL ([] : List (List D))] := by
        rw [List.getD_eq_getElem?_getD, List.getElem?_append_right (by omega), hl, Nat.sub_self]; rfl
      rw [h1, List.length_replicate, List.take_length, List.drop_of_length_le (by rw [List.length_replicate]; exact Nat.le_refl _), List.append_nil, List.set_append_right _ _ (by omega), hl, Nat.sub_self, List.set_cons_zero]
      rw [List.take_add_one, List.append_assoc]
      simp [om, hnm]
  · have hnr : n = r := by have : r ≤ n := by simpa using h
                           omega
    subst hnr
    rw [Nat.sub_self, List.replicate_zero, List.append_nil, List.take_of_length_le (by rw [om_length, hm.1]; exact Nat.le_refl _)]
    exact ⟨rfl, rfl⟩
end Go.AM
/- torsionref12.Form: what it answers. -/
namespace Go.AM
open Go.Proofs.Tryz
section
variable {r cc K L : Nat} {a : List (List Int)} {FL : List Opz}
def m0 (cc : Nat) (_ _ _ _ _ _ : Int) (_ _ _ : List (List (List D))) (_ c : Int) : Nat := ((cc : Int) - c).toNat
def m1 (r : Nat) (_ _ _ _ _ _ : Int) (_ _ _ : List (List (List D))) (i : Int) : Nat := ((r : Int) - i).toNat
def m2 (ii k : Nat) (_ _ _ _ _ _ : Int) (o3 _ _ : List (List (List D))) : Nat := msr o3 ii k
theorem sgn_ne {z : Int} : ((if z = 0 then (0 : Int) else if z < 0 then -1 else 1) != 0) = true ↔ z ≠ 0 := by
  split
  · rename_i h; simp [h]
  · rename_i h; split <;> simp [h]
theorem sgn_lt {z : Int} : decide ((if z = 0 then (0 : Int) else if z < 0 then -1 else 1) < 0) = true ↔ z < 0 := by
  split
  · rename_i h; simp [h]
  · split
    · rename_i h; simp [h]
    · rename_i h; simp [h]
variable (C : FCx r cc K L a FL)
include C
end
end Go.AM
/- What functions of the program come to: group Sc. Printed by vc.py. -/
set_option maxRecDepth 100000
set_option linter.unusedVariables false
namespace Go.AM
open Go.Proofs.Tryz
def vc11 (p0 p1 : Int) (p2 : List (List D)) (p3 p4 : Int) (p5 : List (List D)) (p6 p7 : Int) (p8 : List (List D)) (p9 p10 : Int) (p11 : List (List D)) (p12 p13 : Int) (p14 : Bool) (q0 q1 : Int) (q2 : List (List D)) (q3 q4 : Int) (q5 : List (List D)) (q6 q7 : Int) (q8 : List (List D)) (q9 q10 : Int) (q11 : List (List D)) (q12 q13 : Int) (q14 : Bool) (R : V → Heap → Prop) : Prop :=
 ∃ (r : Bool),
 (FnD prog 22 [vA [sD (dI p0), sD (dI p1), sD (dL p2)], vA [sD (dI q0), sD (dI q1), sD (dL q2)]] (vD (dB r)) []) ∧
 ((r = true →
 ∃ (r1 : Bool),
 (FnD prog 22 [vA [sD (dI p3), sD (dI p4), sD (dL p5)], vA [sD (dI q3), sD (dI q4), sD (dL q5)]] (vD (dB r1)) []) ∧
 ((r1 = true →
 ∃ (r2 : Bool),
 (FnD prog 22 [vA [sD (dI p6), sD (dI p7), sD (dL p8)], vA [sD (dI q6), sD (dI q7), sD (dL q8)]] (vD (dB r2)) []) ∧
 ((r2 = true →
 ∃ (r3 : Bool),
 (FnD prog 22 [vA [sD (dI p9), sD (dI p10), sD (dL p11)], vA [sD (dI q9), sD (dI q10), sD (dL q11)]] (vD (dB r3)) []) ∧
 ((r3 = true →
 ((p12 == q12) = true →
 ((p13 == q13) = true →
 R (vD (dB (p14 == q14))) []) ∧
 ((p13 == q13) = false →
 R (vD (dB false)) [])) ∧
 ((p12 == q12) = false →
 R (vD (dB false)) [])) ∧
 (r3 = false →
 R (vD (dB false)) []))) ∧
 (r2 = false →
 R (vD (dB false)) []))) ∧
 (r1 = false →
 R (vD (dB false)) []))) ∧
 (r = false →
 R (vD (dB false)) []))
theorem vc11_ok (p0 p1 : Int) (p2 : List (List D)) (p3 p4 : Int) (p5 : List (List D)) (p6 p7 : Int) (p8 : List (List D)) (p9 p10 : Int) (p11 : List (List D)) (p12 p13 : Int) (p14 : Bool) (q0 q1 : Int) (q2 : List (List D)) (q3 q4 : Int) (q5 : List (List D)) (q6 q7 : Int) (q8 : List (List D)) (q9 q10 : Int) (q11 : List (List D)) (q12 q13 : Int) (q14 : Bool) {R : V → Heap → Prop} (h : vc11 p0 p1 p2 p3 p4 p5 p6 p7 p8 p9 p10 p11 p12 p13 p14 q0 q1 q2 q3 q4 q5 q6 q7 q8 q9 q10 q11 q12 q13 q14 R) : FnG prog 11 [vA [sD (dI p0), sD (dI p1), sD (dL p2), sD (dI p3), sD (dI p4), sD (dL p5), sD (dI p6), sD (dI p7), sD (dL p8), sD (dI p9), sD (dI p10), sD (dL p11), sD (dI p12), sD (dI p13), sD (dB p14)], vA [sD (dI q0), sD (dI q1), sD (dL q2), sD (dI q3), sD (dI q4), sD (dL q5), sD (dI q6), sD (dI q7), sD (dL q8), sD (dI q9), sD (dI q10), sD (dL q11), sD (dI q12), sD (dI q13), sD (dB q14)]] [] R :=
  FnG.vcg hT func11 ntmps11 (.reg 2 [(0, Or.none, 0, 1), (1, Or.none, 1, 1)] [2, 3] [0, 1] [] <| .exb fun r => .ob (FnD prog 22 [vA [sD (dI p0), sD (dI p1), sD (dL p2)], vA [sD (dI q0), sD (dI q1), sD (dL q2)]] (vD (dB r)) []) <| .spl r (.exb fun r1 => .ob (FnD prog 22 [vA [sD (dI p3), sD (dI p4), sD (dL p5)], vA [sD (dI q3), sD (dI q4), sD (dL q5)]] (vD (dB r1)) []) <| .spl r1 (.exb fun r2 => .ob (FnD prog 22 [vA [sD (dI p6), sD (dI p7), sD (dL p8)], vA [sD (dI q6), sD (dI q7), sD (dL q8)]] (vD (dB r2)) []) <| .spl r2 (.exb fun r3 => .ob (FnD prog 22 [vA [sD (dI p9), sD (dI p10), sD (dL p11)], vA [sD (dI q9), sD (dI q10), sD (dL q11)]] (vD (dB r3)) []) <| .spl r3 (.spl ((p12 == q12)) (.spl ((p13 == q13)) (.reg 0 [(4, Or.call (vD (dB r)) [] [], 0, 0), (5, Or.bool true, 0, 0), (10, Or.call (vD (dB r1)) [] [], 0, 0), (12, Or.bool true, 0, 0), (17, Or.call (vD (dB r2)) [] [], 0, 0), (19, Or.bool true, 0, 0), (24, Or.call (vD (dB r3)) [] [], 0, 0), (26, Or.bool true, 0, 0), (33, Or.bool true, 0, 0), (40, Or.bool true, 0, 0)] [4] [] [.old 9, .old 8, .old 7, .old 6, .old 5, .old 4, .old 3, .old 2, .old 1, .old 0] <| .ret []) (.reg 0 [(4, Or.call (vD (dB r)) [] [], 0, 0), (5, Or.bool true, 0, 0), (10, Or.call (vD (dB r1)) [] [], 0, 0), (12, Or.bool true, 0, 0), (17, Or.call (vD (dB r2)) [] [], 0, 0), (19, Or.bool true, 0, 0), (24, Or.call (vD (dB r3)) [] [], 0, 0), (26, Or.bool true, 0, 0), (33, Or.bool true, 0, 0), (40, Or.bool false, 0, 0)] [4] [] [.old 9, .old 8, .old 7, .old 6, .old 5, .old 4, .old 3, .old 2, .old 1, .old 0] <| .ret [])) (.reg 0 [(4, Or.call (vD (dB r)) [] [], 0, 0), (5, Or.bool true, 0, 0), (10, Or.call (vD (dB r1)) [] [], 0, 0), (12, Or.bool true, 0, 0), (17, Or.call (vD (dB r2)) [] [], 0, 0), (19, Or.bool true, 0, 0), (24, Or.call (vD (dB r3)) [] [], 0, 0), (26, Or.bool true, 0, 0), (33, Or.bool false, 0, 0)] [4] [] [.old 8, .old 7, .old 6, .old 5, .old 4, .old 3, .old 2, .old 1, .old 0] <| .ret [])) (.reg 0 [(4, Or.call (vD (dB r)) [] [], 0, 0), (5, Or.bool true, 0, 0), (10, Or.call (vD (dB r1)) [] [], 0, 0), (12, Or.bool true, 0, 0), (17, Or.call (vD (dB r2)) [] [], 0, 0), (19, Or.bool true, 0, 0), (24, Or.call (vD (dB r3)) [] [], 0, 0), (26, Or.bool false, 0, 0)] [4] [] [.old 7, .old 6, .old 5, .old 4, .old 3, .old 2, .old 1, .old 0] <| .ret [])) (.reg 0 [(4, Or.call (vD (dB r)) [] [], 0, 0), (5, Or.bool true, 0, 0), (10, Or.call (vD (dB r1)) [] [], 0, 0), (12, Or.bool true, 0, 0), (17, Or.call (vD (dB r2)) [] [], 0, 0), (19, Or.bool false, 0, 0)] [4] [] [.old 5, .old 4, .old 3, .old 2, .old 1, .old 0] <| .ret [])) (.reg 0 [(4, Or.call (vD (dB r)) [] [], 0, 0), (5, Or.bool true, 0, 0), (10, Or.call (vD (dB r1)) [] [], 0, 0), (12, Or.bool false, 0, 0)] [4] [] [.old 3, .old 2, .old 1, .old 0] <| .ret [])) (.reg 0 [(4, Or.call (vD (dB r)) [] [], 0, 0), (5, Or.bool false, 0, 0)] [4] [] [.old 1, .old 0] <| .ret []))
    (by kernel_rfl) (by kernel_rfl) (by kernel_rfl) h
def vc18 (p0 p1 : Int) (p2 : List (List D)) (p3 p4 : Int) (p5 : List (List D)) (p6 p7 : Int) (p8 : List (List D)) (p9 p10 : Int) (p11 : List (List D)) (p12 p13 : Int) (p14 : Bool) (R : V → Heap → Prop) : Prop :=
 ∃ (r0 r1 : Int) (rrows : List (List (List D))) (r01 r11 : Int) (rrows1 : List (List (List D))) (r02 r12 : Int) (rrows2 : List (List (List D))) (r03 r13 : Int) (rrows3 : List (List (List D))),
 (FnD prog 42 [vA [sD (dI p0), sD (dI p1), sD (dL p2)]] (vA [sD (dI r0), sD (dI r1), S.ref 0]) [some (Obj.mat 2 rrows)]) ∧
 (FnD prog 42 [vA [sD (dI p3), sD (dI p4), sD (dL p5)]] (vA [sD (dI r01), sD (dI r11), S.ref 0]) [some (Obj.mat 2 rrows1)]) ∧
 (FnD prog 42 [vA [sD (dI p6), sD (dI p7), sD (dL p8)]] (vA [sD (dI r02), sD (dI r12), S.ref 0]) [some (Obj.mat 2 rrows2)]) ∧
 (FnD prog 42 [vA [sD (dI p9), sD (dI p10), sD (dL p11)]] (vA [sD (dI r03), sD (dI r13), S.ref 0]) [some (Obj.mat 2 rrows3)]) ∧
 (R (vA [sD (dI r0), sD (dI r1), sD (dL (matD rrows)), sD (dI r01), sD (dI r11), sD (dL (matD rrows1)), sD (dI r02), sD (dI r12), sD (dL (matD rrows2)), sD (dI r03), sD (dI r13), sD (dL (matD rrows3)), sD (dI p12), sD (dI p13), sD (dB p14)]) [])
theorem vc18_ok (p0 p1 : Int) (p2 : List (List D)) (p3 p4 : Int) (p5 : List (List D)) (p6 p7 : Int) (p8 : List (List D)) (p9 p10 : Int) (p11 : List (List D)) (p12 p13 : Int) (p14 : Bool) {R : V → Heap → Prop} (h : vc18 p0 p1 p2 p3 p4 p5 p6 p7 p8 p9 p10 p11 p12 p13 p14 R) : FnG prog 18 [vA [sD (dI p0), sD (dI p1), sD (dL p2), sD (dI p3), sD (dI p4), sD (dL p5), sD (dI p6), sD (dI p7), sD (dL p8), sD (dI p9), sD (dI p10), sD (dL p11), sD (dI p12), sD (dI p13), sD (dB p14)]] [] R :=
  FnG.vcg hT func18 ntmps18 (.reg 2 [(0, Or.none, 0, 1), (1, Or.none, 1, 1)] [1, 2] [0, 1] [] <| .ex fun r0 => .ex fun r1 => .exm fun rrows => .ex fun r01 => .ex fun r11 => .exm fun rrows1 => .ex fun r02 => .ex fun r12 => .exm fun rrows2 => .ex fun r03 => .ex fun r13 => .exm fun rrows3 => .drw 4 [(2, (Or.call (vA [sD (dI r0), sD (dI r1), S.ref 0]) [some (Obj.mat 2 rrows)] [], 2, 1), [2]), (5, (Or.call (vA [sD (dI r01), sD (dI r11), S.ref 0]) [some (Obj.mat 2 rrows1)] [], 3, 1), [3]), (8, (Or.call (vA [sD (dI r02), sD (dI r12), S.ref 0]) [some (Obj.mat 2 rrows2)] [], 4, 1), [4]), (11, (Or.call (vA [sD (dI r03), sD (dI r13), S.ref 0]) [some (Obj.mat 2 rrows3)] [], 5, 1), [5]), (19, (Or.none, 0, 0), [1])] [2] [1, 2, 3, 4, 5] [] <| .frz [1, 2, 3, 4] <| .ret [])
    (by kernel_rfl) (by kernel_rfl) (by kernel_rfl) h
def vc15 (a0 a1 : Int) (a2 : List (List D)) (R : V → Heap → Prop) : Prop :=
 ∃ (r0 r1 : Int) (r2 : List (List D)) (r3 r4 : Int) (r5 : List (List D)) (r6 r7 : Int) (r8 : List (List D)) (r9 r10 : Int) (r11 : List (List D)) (r12 r13 : Int) (r14 : Bool),
 (FnD prog 10 [vA [sD (dI a0), sD (dI a1), sD (dL a2)]] (vA [sD (dI r0), sD (dI r1), sD (dL r2), sD (dI r3), sD (dI r4), sD (dL r5), sD (dI r6), sD (dI r7), sD (dL r8), sD (dI r9), sD (dI r10), sD (dL r11), sD (dI r12), sD (dI r13), sD (dB r14)]) []) ∧
 (∃ (J0 : Int → Int → Int → (List (List D)) → Int → Int → Bool → (List (List D)) → Int → Int → (List (List D)) → Int → Int → (List (List D)) → Int → Int → Prop) (μ0 : Int → Int → Int → (List (List D)) → Int → Int → Bool → (List (List D)) → Int → Int → (List (List D)) → Int → Int → (List (List D)) → Int → Int → Nat),
 J0 r0 r1 r10 r11 r12 r13 r14 r2 r3 r4 r5 r6 r7 r8 r9 (0 : Int) ∧ ∀ (p0 p1 p10 : Int) (p11 : List (List D)) (p12 p13 : Int) (p14 : Bool) (p2 : List (List D)) (p3 p4 : Int) (p5 : List (List D)) (p6 p7 : Int) (p8 : List (List D)) (p9 n : Int), J0 p0 p1 p10 p11 p12 p13 p14 p2 p3 p4 p5 p6 p7 p8 p9 n →
 ((!p14) = true →
 ∃ (r01 r15 : Int) (r21 : List (List D)) (r31 r41 : Int) (r51 : List (List D)) (r61 r71 : Int) (r81 : List (List D)) (r91 r101 : Int) (r111 : List (List D)) (r121 r131 : Int) (r141 : Bool),
 (FnD prog 13 [vA [sD (dI p0), sD (dI p1), sD (dL p2), sD (dI p3), sD (dI p4), sD (dL p5), sD (dI p6), sD (dI p7), sD (dL p8), sD (dI p9), sD (dI p10), sD (dL p11), sD (dI p12), sD (dI p13), sD (dB p14)], vD (dI (1 : Int))] (vA [sD (dI r01), sD (dI r15), sD (dL r21), sD (dI r31), sD (dI r41), sD (dL r51), sD (dI r61), sD (dI r71), sD (dL r81), sD (dI r91), sD (dI r101), sD (dL r111), sD (dI r121), sD (dI r131), sD (dB r141)]) []) ∧
 (J0 r01 r15 r101 r111 r121 r131 r141 r21 r31 r41 r51 r61 r71 r81 r91 (IntKind.i64.wrap (n + (1 : Int))) ∧ μ0 r01 r15 r101 r111 r121 r131 r141 r21 r31 r41 r51 r61 r71 r81 r91 (IntKind.i64.wrap (n + (1 : Int))) < μ0 p0 p1 p10 p11 p12 p13 p14 p2 p3 p4 p5 p6 p7 p8 p9 n)) ∧
 ((!p14) = false →
 R (vD (dI n)) []))
theorem vc15_ok (a0 a1 : Int) (a2 : List (List D)) {R : V → Heap → Prop} (h : vc15 a0 a1 a2 R) : FnG prog 15 [vA [sD (dI a0), sD (dI a1), sD (dL a2)]] [] R :=
  FnG.vcg hT func15 ntmps15 (.reg 1 [(0, Or.none, 0, 1)] [1] [0] [] <| .r1 [1, 3] [0] <| .ex fun r0 => .ex fun r1 => .exl fun r2 => .ex fun r3 => .ex fun r4 => .exl fun r5 => .ex fun r6 => .ex fun r7 => .exl fun r8 => .ex fun r9 => .ex fun r10 => .exl fun r11 => .ex fun r12 => .ex fun r13 => .exb fun r14 => .reg 1 [(1, Or.call (vA [sD (dI r0), sD (dI r1), sD (dL r2), sD (dI r3), sD (dI r4), sD (dL r5), sD (dI r6), sD (dI r7), sD (dL r8), sD (dI r9), sD (dI r10), sD (dL r11), sD (dI r12), sD (dI r13), sD (dB r14)]) [] [], 0, 0), (2, Or.none, 1, 1)] [3, 4] [1] [] <| .lp [.i, .i, .i, .l, .i, .i, .b, .l, .i, .i, .l, .i, .i, .l, .i, .i] (fun p0 p1 p10 p11 p12 p13 p14 p2 p3 p4 p5 p6 p7 p8 p9 n => ⟨[(3, vD (dI n)), (4, vP 0 0)], [some (Obj.box [sD (dI p0), sD (dI p1), sD (dL p2), sD (dI p3), sD (dI p4), sD (dL p5), sD (dI p6), sD (dI p7), sD (dL p8), sD (dI p9), sD (dI p10), sD (dL p11), sD (dI p12), sD (dI p13), sD (dB p14)])], 16⟩) [.i r0, .i r1, .i r10, .l r11, .i r12, .i r13, .b r14, .l r2, .i r3, .i r4, .l r5, .i r6, .i r7, .l r8, .i r9, .i (0 : Int)] <| .fi fun p0 => .fi fun p1 => .fi fun p10 => .fl fun p11 => .fi fun p12 => .fi fun p13 => .fb fun p14 => .fl fun p2 => .fi fun p3 => .fi fun p4 => .fl fun p5 => .fi fun p6 => .fi fun p7 => .fl fun p8 => .fi fun p9 => .fi fun n => .beg <| .r1 [3, 4, 9] [0] <| .c2 (.ex fun r01 => .ex fun r15 => .exl fun r21 => .ex fun r31 => .ex fun r41 => .exl fun r51 => .ex fun r61 => .ex fun r71 => .exl fun r81 => .ex fun r91 => .ex fun r101 => .exl fun r111 => .ex fun r121 => .ex fun r131 => .exb fun r141 => .reg 0 [(1, Or.call (vA [sD (dI r01), sD (dI r15), sD (dL r21), sD (dI r31), sD (dI r41), sD (dL r51), sD (dI r61), sD (dI r71), sD (dL r81), sD (dI r91), sD (dI r101), sD (dL r111), sD (dI r121), sD (dI r131), sD (dB r141)]) [] [], 0, 0)] [3, 4] [0] [] <| .r0 [3, 14] <| .reg 1 [(0, Or.none, 0, 1)] [3, 4] [0] [] <| .r1 [3, 4] [0] <| .bk 0 [.i r01, .i r15, .i r101, .l r111, .i r121, .i r131, .b r141, .l r21, .i r31, .i r41, .l r51, .i r61, .i r71, .l r81, .i r91, .i (IntKind.i64.wrap (n + (1 : Int)))]) (.r0 [2] <| .ret []))
    (by kernel_rfl) (by kernel_rfl) (by kernel_rfl) h
def vc20 (p0 p1 : Int) (p2 : List (List D)) (p3 p4 : Int) (p5 : List (List D)) (p6 p7 : Int) (p8 : List (List D)) (p9 p10 : Int) (p11 : List (List D)) (p12 p13 : Int) (p14 : Bool) (R : V → Heap → Prop) : Prop :=
 ∃ (r : Bool),
 (FnD prog 29 [vA [sD (dI p0), sD (dI p1), sD (dL p2), sD (dI p3), sD (dI p4), sD (dL p5), sD (dI p6), sD (dI p7), sD (dL p8), sD (dI p9), sD (dI p10), sD (dL p11), sD (dI p12), sD (dI p13), sD (dB p14)]] (vD (dB r)) []) ∧
 (((!r) = true →
 R (V.tup [E.agg [sD (dI (0 : Int)), sD (dI (0 : Int)), sD (dL ([] : List (List D))), sD (dI (0 : Int)), sD (dI (0 : Int)), sD (dL ([] : List (List D))), sD (dI (0 : Int)), sD (dI (0 : Int)), sD (dL ([] : List (List D)))], eD (dI (210 : Int))]) []) ∧
 ((!r) = false →
 R (V.tup [E.agg [sD (dI p3), sD (dI p4), sD (dL p5), sD (dI p6), sD (dI p7), sD (dL p8), sD (dI p9), sD (dI p10), sD (dL p11)], eD (dI (0 : Int))]) []))
theorem vc20_ok (p0 p1 : Int) (p2 : List (List D)) (p3 p4 : Int) (p5 : List (List D)) (p6 p7 : Int) (p8 : List (List D)) (p9 p10 : Int) (p11 : List (List D)) (p12 p13 : Int) (p14 : Bool) {R : V → Heap → Prop} (h : vc20 p0 p1 p2 p3 p4 p5 p6 p7 p8 p9 p10 p11 p12 p13 p14 R) : FnG prog 20 [vA [sD (dI p0), sD (dI p1), sD (dL p2), sD (dI p3), sD (dI p4), sD (dL p5), sD (dI p6), sD (dI p7), sD (dL p8), sD (dI p9), sD (dI p10), sD (dL p11), sD (dI p12), sD (dI p13), sD (dB p14)]] [] R :=
  FnG.vcg hT func20 ntmps20 (.reg 2 [(0, Or.none, 0, 1), (1, Or.none, 1, 1)] [1, 2] [0, 1] [] <| .exb fun r => .reg 0 [(1, Or.call (vD (dB r)) [] [], 0, 0)] [1, 2, 6] [0, 1] [] <| .c2 (.r1 [2, 3] [1] <| .nrm [2, 3] [0] <| .ret []) (.r1 [2, 3] [1] <| .ret []))
    (by kernel_rfl) (by kernel_rfl) (by kernel_rfl) h
end Go.AM
/- What functions of the program come to: group Sd. Printed by vc.py. -/
set_option maxRecDepth 100000
set_option linter.unusedVariables false
namespace Go.AM
open Go.Proofs.Tryz
def vc38 (a0 a1 : Int) (a2 : List (List D)) (rows cols : Int) (R : V → Heap → Prop) : Prop :=
 ∃ (J0 : (List (List D)) → Int → Prop) (μ0 : (List (List D)) → Int → Nat),
 J0 ([] : List (List D)) (0 : Int) ∧ ∀ (o3 : List (List D)) (i : Int), J0 o3 i →
 (decide (i < rows) = true →
 ∃ (vx : List (List D)),
 (0 ≤ i ∧ i < (a2.length : Int)) ∧
 (a2[(i).toNat]? = some [dL vx]) ∧
 (0 ≤ cols ∧ cols ≤ (vx.length : Int)) ∧
 ((o3.length + ([[dL (vx.take (cols).toNat)]] : List (List D)).length) * 24 ≤ 140737488355328) ∧
 (J0 (o3 ++ [[dL (vx.take (cols).toNat)]]) (IntKind.i64.wrap (i + (1 : Int))) ∧ μ0 (o3 ++ [[dL (vx.take (cols).toNat)]]) (IntKind.i64.wrap (i + (1 : Int))) < μ0 o3 i)) ∧
 (decide (i < rows) = false →
 R (vA [sD (dI rows), sD (dI cols), sD (dL o3)]) [])
theorem vc38_ok (a0 a1 : Int) (a2 : List (List D)) (rows cols : Int) {R : V → Heap → Prop} (h : vc38 a0 a1 a2 rows cols R) : FnG prog 38 [vA [sD (dI a0), sD (dI a1), sD (dL a2)], vD (dI rows), vD (dI cols)] [] R :=
  FnG.vcg hT func38 ntmps38 (.reg 2 [(0, Or.none, 0, 1), (1, Or.none, 1, 1)] [1, 2, 3, 6] [0, 1] [] <| .reg 1 [(3, Or.none, 2, 1)] [1, 2, 3, 6, 7] [0, 1, 2] [] <| .r1 [1, 2, 3, 6, 7, 8] [0, 1, 2] <| .ado [] [2] 1 <| .lp [.l, .i] (fun o3 i => ⟨[(1, vD (dI rows)), (2, vD (dI cols)), (3, vP 0 0), (6, vP 1 0), (7, vP 2 0), (8, vD (dI i))], [some (Obj.box [sD (dI a0), sD (dI a1), sD (dL a2)]), some (Obj.box [sD (dI (0 : Int)), sD (dI (0 : Int)), sD (D.raw (.slice none 0 0))]), some (Obj.box [sD (dI rows), sD (dI cols), S.ref 3]), some (Obj.arr 1 o3)], 30⟩) [.l ([] : List (List D)), .i (0 : Int)] <| .fl fun o3 => .fi fun i => .beg <| .r1 [1, 2, 3, 6, 7, 8, 14] [0, 1, 2, 3] <| .c2 (.exl fun vx => .drw 2 [(6, (Or.cells [dL vx], 0, 0), []), (9, (Or.none, 4, 1), [4]), (10, (Or.none, 5, 1), [3, 5]), (12, (Or.none, 0, 0), [2])] [1, 2, 3, 6, 7, 8] [0, 1, 2, 5] [] <| .r1 [1, 2, 3, 6, 7, 8] [0, 1, 2, 3] <| .bk 0 [.l (o3 ++ [[dL (vx.take (cols).toNat)]]), .i (IntKind.i64.wrap (i + (1 : Int)))]) (.r1 [6] [1, 3] <| .frz [1] <| .ret []))
    (by kernel_rfl) (by kernel_rfl) (by kernel_rfl) h
def vc39 (h0 h1 : Int) (h2 : List (List D)) (R : V → Heap → Prop) : Prop :=
 ∃ (r : Bool),
 (FnD prog 35 [vA [sD (dI h0), sD (dI h1), sD (dL h2)]] (vD (dB r)) []) ∧
 (((!r) = true →
 R (vD (dB false)) []) ∧
 ((!r) = false →
 ∃ (J0 : Int → Int → Prop) (μ0 : Int → Int → Nat),
 J0 (-1 : Int) (0 : Int) ∧ ∀ (last i : Int), J0 last i →
 (decide (i < h0) = true →
 ∃ (vx : List (List D)) (r1 : Int),
 (0 ≤ i ∧ i < (h2.length : Int)) ∧
 (h2[(i).toNat]? = some [dL vx]) ∧
 (FnD prog 73 [vD (dL vx)] (vD (dI r1)) []) ∧
 ((decide (r1 < (0 : Int)) = true →
 J0 h1 (IntKind.i64.wrap (i + (1 : Int))) ∧ μ0 h1 (IntKind.i64.wrap (i + (1 : Int))) < μ0 last i) ∧
 (decide (r1 < (0 : Int)) = false →
 (decide (r1 ≤ last) = true →
 R (vD (dB false)) []) ∧
 (decide (r1 ≤ last) = false →
 ∃ (x0 : Bool) (x1 : List (List D)) (r2 : Int),
 (0 ≤ r1 ∧ r1 < (vx.length : Int)) ∧
 (vx[(r1).toNat]? = some [dB x0, dL x1]) ∧
 (FnD prog 41 [vA [sD (dB x0), sD (dL x1)]] (vD (dI r2)) []) ∧
 ((decide (r2 ≤ (0 : Int)) = true →
 R (vD (dB false)) []) ∧
 (decide (r2 ≤ (0 : Int)) = false →
 ∃ (J1 : Int → Prop) (μ1 : Int → Nat),
 J1 (0 : Int) ∧ ∀ (k : Int), J1 k →
 (decide (k < i) = true →
 ∃ (vx1 : List (List D)) (x01 : Bool) (x11 : List (List D)) (r3 : Int),
 (0 ≤ k ∧ k < (h2.length : Int)) ∧
 (h2[(k).toNat]? = some [dL vx1]) ∧
 (0 ≤ r1 ∧ r1 < (vx1.length : Int)) ∧
 (vx1[(r1).toNat]? = some [dB x01, dL x11]) ∧
 (FnD prog 41 [vA [sD (dB x01), sD (dL x11)]] (vD (dI r3)) []) ∧
 ((decide (r3 < (0 : Int)) = true →
 R (vD (dB false)) []) ∧
 (decide (r3 < (0 : Int)) = false →
 ∃ (r4 : Int),
 (FnD prog 74 [vA [sD (dB x01), sD (dL x11)], vA [sD (dB x0), sD (dL x1)]] (vD (dI r4)) []) ∧
 ((decide (r4 ≥ (0 : Int)) = true →
 R (vD (dB false)) []) ∧
 (decide (r4 ≥ (0 : Int)) = false →
 J1 (IntKind.i64.wrap (k + (1 : Int))) ∧ μ1 (IntKind.i64.wrap (k + (1 : Int))) < μ1 k))))) ∧
 (decide (k < i) = false →
 J0 r1 (IntKind.i64.wrap (i + (1 : Int))) ∧ μ0 r1 (IntKind.i64.wrap (i + (1 : Int))) < μ0 last i))))))) ∧
 (decide (i < h0) = false →
 R (vD (dB true)) [])))
theorem vc39_ok (h0 h1 : Int) (h2 : List (List D)) {R : V → Heap → Prop} (h : vc39 h0 h1 h2 R) : FnG prog 39 [vA [sD (dI h0), sD (dI h1), sD (dL h2)]] [] R :=
  FnG.vcg hT func39 ntmps39 (.reg 1 [(0, Or.none, 0, 1)] [1] [0] [] <| .exb fun r => .reg 0 [(1, Or.call (vD (dB r)) [] [], 0, 0)] [1, 3] [0] [] <| .r1 [1, 11] [0] <| .c2 (.r0 [2] <| .ret []) (.r1 [1, 4] [0] <| .r1 [1, 4, 5] [0] <| .lp [.i, .i] (fun last i => ⟨[(1, vP 0 0), (4, vD (dI last)), (5, vD (dI i))], [some (Obj.box [sD (dI h0), sD (dI h1), sD (dL h2)])], 79⟩) [.i (-1 : Int), .i (0 : Int)] <| .fi fun last => .fi fun i => .beg <| .r1 [1, 4, 5, 15] [0] <| .c2 (.exl fun vx => .ex fun r1 => .reg 0 [(4, Or.cells [dL vx], 0, 0), (5, Or.call (vD (dI r1)) [] [], 0, 0)] [1, 4, 5, 6] [0] [] <| .r1 [1, 4, 5, 6, 25] [0] <| .c2 (.r1 [1, 4, 5] [0] <| .r1 [1, 4, 5] [0] <| .bk 0 [.i h1, .i (IntKind.i64.wrap (i + (1 : Int)))]) (.spl ((decide (r1 ≤ last))) (.reg 0 [(3, Or.bool true, 0, 0)] [1, 5, 6, 42] [0] [.old 0] <| .ct true none <| .r0 [2] <| .ret []) (.exb fun x0 => .exl fun x1 => .ex fun r2 => .reg 0 [(3, Or.bool false, 0, 0), (8, Or.cells [dL vx], 0, 0), (11, Or.cells [dB x0, dL x1], 0, 0), (12, Or.call (vD (dI r2)) [] [], 0, 0)] [1, 5, 6, 42] [0] [.old 0, .old 4, .old 3] <| .c2 (.r0 [2] <| .ret []) (.r1 [1, 5, 6, 7] [0] <| .lp [.i] (fun k => ⟨[(1, vP 0 0), (5, vD (dI i)), (6, vD (dI r1)), (7, vD (dI k))], [some (Obj.box [sD (dI h0), sD (dI h1), sD (dL h2)])], 79⟩) [.i (0 : Int)] <| .fi fun k => .beg <| .r1 [1, 5, 6, 7, 45] [0] <| .c2 (.exl fun vx1 => .exb fun x01 => .exl fun x11 => .ex fun r3 => .ob (0 ≤ k ∧ k < (h2.length : Int)) <| .ob (h2[(k).toNat]? = some [dL vx1]) <| .ob (0 ≤ r1 ∧ r1 < (vx1.length : Int)) <| .ob (vx1[(r1).toNat]? = some [dB x01, dL x11]) <| .ob (FnD prog 41 [vA [sD (dB x01), sD (dL x11)]] (vD (dI r3)) []) <| .spl ((decide (r3 < (0 : Int)))) (.drw 0 [(4, (Or.cells [dL vx1], 0, 0), []), (7, (Or.cells [dB x01, dL x11], 0, 0), []), (8, (Or.call (vD (dI r3)) [] [], 0, 0), []), (10, (Or.bool true, 0, 0), [])] [1, 5, 6, 7, 77] [0] [.old 5, .old 4, .old 3, .old 2, .old 1, .old 0] <| .ct true none <| .r0 [2] <| .ret []) (.ex fun r4 => .drw 0 [(4, (Or.cells [dL vx1], 0, 0), []), (7, (Or.cells [dB x01, dL x11], 0, 0), []), (8, (Or.call (vD (dI r3)) [] [], 0, 0), []), (10, (Or.bool false, 0, 0), []), (15, (Or.cells [dL vx1], 0, 0), []), (18, (Or.cells [dB x01, dL x11], 0, 0), []), (23, (Or.cells [dL vx], 0, 0), []), (26, (Or.cells [dB x0, dL x1], 0, 0), []), (27, (Or.call (vD (dI r4)) [] [], 0, 0), [])] [1, 5, 6, 7, 77] [0] [.old 5, .old 4, .old 3, .old 2, .old 1, .old 0, .old 5, .old 4, .old 3, .old 2, .old 15, .old 14, .old 10, .old 9] <| .c2 (.r0 [2] <| .ret []) (.r1 [1, 5, 6, 7] [0] <| .bk 0 [.i (IntKind.i64.wrap (k + (1 : Int)))]))) (.r1 [1, 4, 5] [0] <| .r1 [1, 4, 5] [0] <| .bk 1 [.i r1, .i (IntKind.i64.wrap (i + (1 : Int)))]))))) (.r0 [2] <| .ret [])))
    (by kernel_rfl) (by kernel_rfl) (by kernel_rfl) h
def vc73 (v : List (List D)) (R : V → Heap → Prop) : Prop :=
 ∃ (J0 : Int → Prop) (μ0 : Int → Nat),
 J0 (0 : Int) ∧ ∀ (c : Int), J0 c →
 (decide (c < (v.length : Int)) = true →
 ∃ (x0 : Bool) (x1 : List (List D)) (r : Int),
 (0 ≤ c ∧ c < (v.length : Int)) ∧
 (v[(c).toNat]? = some [dB x0, dL x1]) ∧
 (FnD prog 41 [vA [sD (dB x0), sD (dL x1)]] (vD (dI r)) []) ∧
 (((r != (0 : Int)) = true →
 R (vD (dI c)) []) ∧
 ((r != (0 : Int)) = false →
 J0 (IntKind.i64.wrap (c + (1 : Int))) ∧ μ0 (IntKind.i64.wrap (c + (1 : Int))) < μ0 c))) ∧
 (decide (c < (v.length : Int)) = false →
 R (vD (dI (-1 : Int))) [])
theorem vc73_ok (v : List (List D)) {R : V → Heap → Prop} (h : vc73 v R) : FnG prog 73 [vD (dL v)] [] R :=
  FnG.vcg hT func73 ntmps73 (.r0 [0] <| .r0 [0, 3] <| .lp [.i] (fun c => ⟨[(0, vD (dL v)), (3, vD (dI c))], [], 17⟩) [.i (0 : Int)] <| .fi fun c => .beg <| .r0 [0, 3, 7] <| .c2 (.exb fun x0 => .exl fun x1 => .ex fun r => .reg 0 [(3, Or.cells [dB x0, dL x1], 0, 0), (4, Or.call (vD (dI r)) [] [], 0, 0)] [0, 3, 15] [] [] <| .c2 (.r0 [2] <| .ret []) (.r0 [0, 3] <| .bk 0 [.i (IntKind.i64.wrap (c + (1 : Int)))])) (.r0 [2] <| .ret []))
    (by kernel_rfl) (by kernel_rfl) (by kernel_rfl) h
def vc74 (a0 : Bool) (a1 : List (List D)) (b0 : Bool) (b1 : List (List D)) (R : V → Heap → Prop) : Prop :=
 ∃ (r0 : Bool) (r1 : List (List D)) (r : Int),
 (FnD prog 90 [vA [sD (dB a0), sD (dL a1)], vA [sD (dB b0), sD (dL b1)]] (vA [sD (dB r0), sD (dL r1)]) []) ∧
 (FnD prog 41 [vA [sD (dB r0), sD (dL r1)]] (vD (dI r)) []) ∧
 (R (vD (dI r)) [])
theorem vc74_ok (a0 : Bool) (a1 : List (List D)) (b0 : Bool) (b1 : List (List D)) {R : V → Heap → Prop} (h : vc74 a0 a1 b0 b1 R) : FnG prog 74 [vA [sD (dB a0), sD (dL a1)], vA [sD (dB b0), sD (dL b1)]] [] R :=
  FnG.vcg hT func74 ntmps74 (.reg 2 [(0, Or.none, 0, 1), (1, Or.none, 1, 1)] [2, 3] [0, 1] [] <| .exb fun r0 => .exl fun r1 => .ex fun r => .reg 0 [(2, Or.call (vA [sD (dB r0), sD (dL r1)]) [] [], 0, 0), (3, Or.call (vD (dI r)) [] [], 0, 0)] [4] [] [] <| .ret [])
    (by kernel_rfl) (by kernel_rfl) (by kernel_rfl) h
def vc40 (h0 h1 : Int) (h2 : List (List D)) (R : V → Heap → Prop) : Prop :=
 ∃ (J0 : Int → Int → Prop) (μ0 : Int → Int → Nat),
 J0 (0 : Int) (0 : Int) ∧ ∀ (n i : Int), J0 n i →
 (decide (i < h0) = true →
 ∃ (vx : List (List D)) (r : Int),
 (0 ≤ i ∧ i < (h2.length : Int)) ∧
 (h2[(i).toNat]? = some [dL vx]) ∧
 (FnD prog 73 [vD (dL vx)] (vD (dI r)) []) ∧
 ((decide (r ≥ (0 : Int)) = true →
 J0 (IntKind.i64.wrap (n + (1 : Int))) (IntKind.i64.wrap (i + (1 : Int))) ∧ μ0 (IntKind.i64.wrap (n + (1 : Int))) (IntKind.i64.wrap (i + (1 : Int))) < μ0 n i) ∧
 (decide (r ≥ (0 : Int)) = false →
 J0 n (IntKind.i64.wrap (i + (1 : Int))) ∧ μ0 n (IntKind.i64.wrap (i + (1 : Int))) < μ0 n i))) ∧
 (decide (i < h0) = false →
 R (vD (dI n)) [])
theorem vc40_ok (h0 h1 : Int) (h2 : List (List D)) {R : V → Heap → Prop} (h : vc40 h0 h1 h2 R) : FnG prog 40 [vA [sD (dI h0), sD (dI h1), sD (dL h2)]] [] R :=
  FnG.vcg hT func40 ntmps40 (.reg 1 [(0, Or.none, 0, 1)] [1] [0] [] <| .r1 [1, 3] [0] <| .r1 [1, 3, 4] [0] <| .lp [.i, .i] (fun n i => ⟨[(1, vP 0 0), (3, vD (dI n)), (4, vD (dI i))], [some (Obj.box [sD (dI h0), sD (dI h1), sD (dL h2)])], 21⟩) [.i (0 : Int), .i (0 : Int)] <| .fi fun n => .fi fun i => .beg <| .r1 [1, 3, 4, 8] [0] <| .c2 (.exl fun vx => .ex fun r => .reg 0 [(4, Or.cells [dL vx], 0, 0), (5, Or.call (vD (dI r)) [] [], 0, 0)] [1, 3, 4, 17] [0] [] <| .c2 (.r1 [1, 3, 4] [0] <| .r1 [1, 3, 4] [0] <| .bk 0 [.i (IntKind.i64.wrap (n + (1 : Int))), .i (IntKind.i64.wrap (i + (1 : Int)))]) (.r1 [1, 3, 4] [0] <| .bk 0 [.i n, .i (IntKind.i64.wrap (i + (1 : Int)))])) (.r0 [2] <| .ret []))
    (by kernel_rfl) (by kernel_rfl) (by kernel_rfl) h
def vc17 (p0 p1 : Int) (p2 : List (List D)) (p3 p4 : Int) (p5 : List (List D)) (p6 p7 : Int) (p8 : List (List D)) (p9 p10 : Int) (p11 : List (List D)) (p12 p13 : Int) (p14 : Bool) (R : V → Heap → Prop) : Prop :=
 ∃ (r : Bool),
 (FnD prog 35 [vA [sD (dI p0), sD (dI p1), sD (dL p2)]] (vD (dB r)) []) ∧
 (((!r) = true →
 R (vD (dB false)) []) ∧
 ((!r) = false →
 ∃ (r1 : Bool),
 (FnD prog 36 [vA [sD (dI p3), sD (dI p4), sD (dL p5)], vD (dI p0), vD (dI p1)] (vD (dB r1)) []) ∧
 (∃ (r2 : Bool),
 (FnD prog 36 [vA [sD (dI p6), sD (dI p7), sD (dL p8)], vD (dI p0), vD (dI p0)] (vD (dB r2)) []) ∧
 (∃ (r3 : Bool),
 (FnD prog 36 [vA [sD (dI p9), sD (dI p10), sD (dL p11)], vD (dI p0), vD (dI p0)] (vD (dB r3)) []) ∧
 (((!r1) = true →
 R (vD (dB false)) []) ∧
 ((!r1) = false →
 ((!r2) = true →
 R (vD (dB false)) []) ∧
 ((!r2) = false →
 ((!r3) = true →
 R (vD (dB false)) []) ∧
 ((!r3) = false →
 (decide (p12 < (0 : Int)) = true →
 R (vD (dB false)) []) ∧
 (decide (p12 < (0 : Int)) = false →
 (decide (p12 > p0) = true →
 R (vD (dB false)) []) ∧
 (decide (p12 > p0) = false →
 (decide (p13 < p12) = true →
 R (vD (dB false)) []) ∧
 (decide (p13 < p12) = false →
 (decide (p13 > p1) = true →
 R (vD (dB false)) []) ∧
 (decide (p13 > p1) = false →
 ∃ (r4 : Bool),
 (FnD prog 31 [vA [sD (dI p0), sD (dI p1), sD (dL p2), sD (dI p3), sD (dI p4), sD (dL p5), sD (dI p6), sD (dI p7), sD (dL p8), sD (dI p9), sD (dI p10), sD (dL p11), sD (dI p12), sD (dI p13), sD (dB p14)]] (vD (dB r4)) []) ∧
 (((!(p14 == r4)) = true →
 R (vD (dB false)) []) ∧
 ((!(p14 == r4)) = false →
 ∃ (r0 r11 : Int) (r21 : List (List D)) (r5 : Bool),
 (FnD prog 37 [vA [sD (dI p6), sD (dI p7), sD (dL p8)], vA [sD (dI p0), sD (dI p1), sD (dL p2)]] (vA [sD (dI r0), sD (dI r11), sD (dL r21)]) []) ∧
 (FnD prog 22 [vA [sD (dI r0), sD (dI r11), sD (dL r21)], vA [sD (dI p3), sD (dI p4), sD (dL p5)]] (vD (dB r5)) []) ∧
 (((!r5) = true →
 R (vD (dB false)) []) ∧
 ((!r5) = false →
 ∃ (r01 r12 : Int) (r22 : List (List D)) (r02 r13 : Int) (r23 : List (List D)) (r6 : Bool),
 (FnD prog 37 [vA [sD (dI p6), sD (dI p7), sD (dL p8)], vA [sD (dI p9), sD (dI p10), sD (dL p11)]] (vA [sD (dI r01), sD (dI r12), sD (dL r22)]) []) ∧
 (FnD prog 30 [vD (dI p0)] (vA [sD (dI r02), sD (dI r13), sD (dL r23)]) []) ∧
 (FnD prog 22 [vA [sD (dI r01), sD (dI r12), sD (dL r22)], vA [sD (dI r02), sD (dI r13), sD (dL r23)]] (vD (dB r6)) []) ∧
 (((!r6) = true →
 R (vD (dB false)) []) ∧
 ((!r6) = false →
 ∃ (r03 r14 : Int) (r24 : List (List D)),
 (FnD prog 38 [vA [sD (dI p3), sD (dI p4), sD (dL p5)], vD (dI p12), vD (dI p13)] (vA [sD (dI r03), sD (dI r14), sD (dL r24)]) []) ∧
 (∃ (r7 : Bool),
 (FnD prog 39 [vA [sD (dI r03), sD (dI r14), sD (dL r24)]] (vD (dB r7)) []) ∧
 (((!r7) = true →
 R (vD (dB false)) []) ∧
 ((!r7) = false →
 ∃ (r8 : Int),
 (FnD prog 40 [vA [sD (dI r03), sD (dI r14), sD (dL r24)]] (vD (dI r8)) []) ∧
 (((r8 != p12) = true →
 R (vD (dB false)) []) ∧
 ((r8 != p12) = false →
 ∃ (J0 : Int → Prop) (μ0 : Int → Nat),
 J0 p12 ∧ ∀ (i : Int), J0 i →
 (decide (i < p0) = true →
 ∃ (J1 : Int → Prop) (μ1 : Int → Nat),
 J1 (0 : Int) ∧ ∀ (c : Int), J1 c →
 (decide (c < p13) = true →
 ∃ (vx : List (List D)) (x0 : Bool) (x1 : List (List D)) (r9 : Int),
 (0 ≤ i ∧ i < (p5.length : Int)) ∧
 (p5[(i).toNat]? = some [dL vx]) ∧
 (0 ≤ c ∧ c < (vx.length : Int)) ∧
 (vx[(c).toNat]? = some [dB x0, dL x1]) ∧
 (FnD prog 41 [vA [sD (dB x0), sD (dL x1)]] (vD (dI r9)) []) ∧
 (((r9 != (0 : Int)) = true →
 R (vD (dB false)) []) ∧
 ((r9 != (0 : Int)) = false →
 J1 (IntKind.i64.wrap (c + (1 : Int))) ∧ μ1 (IntKind.i64.wrap (c + (1 : Int))) < μ1 c))) ∧
 (decide (c < p13) = false →
 J0 (IntKind.i64.wrap (i + (1 : Int))) ∧ μ0 (IntKind.i64.wrap (i + (1 : Int))) < μ0 i)) ∧
 (decide (i < p0) = false →
 R (vD (dB true)) []))))))))))))))))))))))))
theorem vc17_ok (p0 p1 : Int) (p2 : List (List D)) (p3 p4 : Int) (p5 : List (List D)) (p6 p7 : Int) (p8 : List (List D)) (p9 p10 : Int) (p11 : List (List D)) (p12 p13 : Int) (p14 : Bool) {R : V → Heap → Prop} (h : vc17 p0 p1 p2 p3 p4 p5 p6 p7 p8 p9 p10 p11 p12 p13 p14 R) : FnG prog 17 [vA [sD (dI p0), sD (dI p1), sD (dL p2), sD (dI p3), sD (dI p4), sD (dL p5), sD (dI p6), sD (dI p7), sD (dL p8), sD (dI p9), sD (dI p10), sD (dL p11), sD (dI p12), sD (dI p13), sD (dB p14)]] [] R :=
  FnG.vcg hT func17 ntmps17 (.reg 1 [(0, Or.none, 0, 1)] [1] [0] [] <| .exb fun r => .reg 0 [(2, Or.call (vD (dB r)) [] [], 0, 0)] [1, 3] [0] [] <| .r1 [1, 16] [0] <| .c2 (.r0 [2] <| .ret []) (.r1 [1, 4] [0] <| .exb fun r1 => .reg 0 [(6, Or.call (vD (dB r1)) [] [], 0, 0)] [1, 4, 5] [0] [] <| .exb fun r2 => .reg 0 [(4, Or.call (vD (dB r2)) [] [], 0, 0)] [1, 4, 5, 6] [0] [] <| .exb fun r3 => .reg 0 [(4, Or.call (vD (dB r3)) [] [], 0, 0)] [1, 4, 5, 6, 7] [0] [] <| .spl ((!r1)) (.drw 0 [(2, (Or.bool true, 0, 0), [])] [1, 4, 79] [0] [.old 0] <| .ct true none <| .r0 [2] <| .ret []) (.spl ((!r2)) (.drw 0 [(2, (Or.bool false, 0, 0), []), (6, (Or.bool true, 0, 0), [])] [1, 4, 79] [0] [.old 1, .old 0] <| .ct true none <| .r0 [2] <| .ret []) (.spl ((!r3)) (.drw 0 [(2, (Or.bool false, 0, 0), []), (6, (Or.bool false, 0, 0), []), (10, (Or.bool true, 0, 0), [])] [1, 4, 79] [0] [.old 2, .old 1, .old 0] <| .ct true none <| .r0 [2] <| .ret []) (.spl ((decide (p12 < (0 : Int)))) (.drw 0 [(2, (Or.bool false, 0, 0), []), (6, (Or.bool false, 0, 0), []), (10, (Or.bool false, 0, 0), []), (15, (Or.bool true, 0, 0), [])] [1, 4, 79] [0] [.old 3, .old 2, .old 1, .old 0] <| .ct true none <| .r0 [2] <| .ret []) (.spl ((decide (p12 > p0))) (.drw 0 [(2, (Or.bool false, 0, 0), []), (6, (Or.bool false, 0, 0), []), (10, (Or.bool false, 0, 0), []), (15, (Or.bool false, 0, 0), []), (21, (Or.bool true, 0, 0), [])] [1, 4, 79] [0] [.old 4, .old 3, .old 2, .old 1, .old 0] <| .ct true none <| .r0 [2] <| .ret []) (.spl ((decide (p13 < p12))) (.drw 0 [(2, (Or.bool false, 0, 0), []), (6, (Or.bool false, 0, 0), []), (10, (Or.bool false, 0, 0), []), (15, (Or.bool false, 0, 0), []), (21, (Or.bool false, 0, 0), []), (28, (Or.bool true, 0, 0), [])] [1, 4, 79] [0] [.old 5, .old 4, .old 3, .old 2, .old 1, .old 0] <| .ct true none <| .r0 [2] <| .ret []) (.spl ((decide (p13 > p1))) (.drw 0 [(2, (Or.bool false, 0, 0), []), (6, (Or.bool false, 0, 0), []), (10, (Or.bool false, 0, 0), []), (15, (Or.bool false, 0, 0), []), (21, (Or.bool false, 0, 0), []), (28, (Or.bool false, 0, 0), []), (36, (Or.bool true, 0, 0), [])] [1, 4, 79] [0] [.old 6, .old 5, .old 4, .old 3, .old 2, .old 1, .old 0] <| .ct true none <| .r0 [2] <| .ret []) (.exb fun r4 => .drw 0 [(2, (Or.bool false, 0, 0), []), (6, (Or.bool false, 0, 0), []), (10, (Or.bool false, 0, 0), []), (15, (Or.bool false, 0, 0), []), (21, (Or.bool false, 0, 0), []), (28, (Or.bool false, 0, 0), []), (36, (Or.bool false, 0, 0), []), (40, (Or.call (vD (dB r4)) [] [], 0, 0), [])] [1, 4, 79] [0] [.old 6, .old 5, .old 4, .old 3, .old 2, .old 1, .old 0] <| .c2 (.r0 [2] <| .ret []) (.ex fun r0 => .ex fun r11 => .exl fun r21 => .exb fun r5 => .ob (FnD prog 37 [vA [sD (dI p6), sD (dI p7), sD (dL p8)], vA [sD (dI p0), sD (dI p1), sD (dL p2)]] (vA [sD (dI r0), sD (dI r11), sD (dL r21)]) []) <| .ob (FnD prog 22 [vA [sD (dI r0), sD (dI r11), sD (dL r21)], vA [sD (dI p3), sD (dI p4), sD (dL p5)]] (vD (dB r5)) []) <| .spl ((!r5)) (.drw 0 [(4, (Or.call (vA [sD (dI r0), sD (dI r11), sD (dL r21)]) [] [], 0, 0), []), (7, (Or.call (vD (dB r5)) [] [], 0, 0), []), (9, (Or.bool true, 0, 0), [])] [1, 4, 99] [0] [.old 2, .old 1, .old 0] <| .ct true none <| .r0 [2] <| .ret []) (.ex fun r01 => .ex fun r12 => .exl fun r22 => .ex fun r02 => .ex fun r13 => .exl fun r23 => .exb fun r6 => .drw 0 [(4, (Or.call (vA [sD (dI r0), sD (dI r11), sD (dL r21)]) [] [], 0, 0), []), (7, (Or.call (vD (dB r5)) [] [], 0, 0), []), (9, (Or.bool false, 0, 0), []), (14, (Or.call (vA [sD (dI r01), sD (dI r12), sD (dL r22)]) [] [], 0, 0), []), (16, (Or.call (vA [sD (dI r02), sD (dI r13), sD (dL r23)]) [] [], 0, 0), []), (17, (Or.call (vD (dB r6)) [] [], 0, 0), [])] [1, 4, 99] [0] [.old 2, .old 1, .old 0] <| .c2 (.r0 [2] <| .ret []) (.ex fun r03 => .ex fun r14 => .exl fun r24 => .reg 1 [(6, Or.call (vA [sD (dI r03), sD (dI r14), sD (dL r24)]) [] [], 0, 0), (7, Or.none, 1, 1)] [1, 4, 8] [0, 1] [] <| .exb fun r7 => .reg 0 [(1, Or.call (vD (dB r7)) [] [], 0, 0)] [1, 4, 8, 9] [0, 1] [] <| .spl ((!r7)) (.drw 0 [(2, (Or.bool true, 0, 0), [])] [1, 4, 117] [0] [.old 0] <| .ct true none <| .r0 [2] <| .ret []) (.ex fun r8 => .drw 0 [(2, (Or.bool false, 0, 0), []), (4, (Or.call (vD (dI r8)) [] [], 0, 0), [])] [1, 4, 117] [0] [.old 0] <| .c2 (.r0 [2] <| .ret []) (.r1 [1, 4, 10] [0] <| .lp [.i] (fun i => ⟨[(1, vP 0 0), (4, vD (dI p0)), (10, vD (dI i))], [some (Obj.box [sD (dI p0), sD (dI p1), sD (dL p2), sD (dI p3), sD (dI p4), sD (dL p5), sD (dI p6), sD (dI p7), sD (dL p8), sD (dI p9), sD (dI p10), sD (dL p11), sD (dI p12), sD (dI p13), sD (dB p14)])], 142⟩) [.i p12] <| .fi fun i => .beg <| .r1 [1, 4, 10, 122] [0] <| .c2 (.r1 [1, 4, 10, 11] [0] <| .lp [.i] (fun c => ⟨[(1, vP 0 0), (4, vD (dI p0)), (10, vD (dI i)), (11, vD (dI c))], [some (Obj.box [sD (dI p0), sD (dI p1), sD (dL p2), sD (dI p3), sD (dI p4), sD (dL p5), sD (dI p6), sD (dI p7), sD (dL p8), sD (dI p9), sD (dI p10), sD (dL p11), sD (dI p12), sD (dI p13), sD (dB p14)])], 142⟩) [.i (0 : Int)] <| .fi fun c => .beg <| .r1 [1, 4, 10, 11, 128] [0] <| .c2 (.exl fun vx => .exb fun x0 => .exl fun x1 => .ex fun r9 => .reg 0 [(5, Or.cells [dL vx], 0, 0), (8, Or.cells [dB x0, dL x1], 0, 0), (9, Or.call (vD (dI r9)) [] [], 0, 0)] [1, 4, 10, 11, 141] [0] [] <| .c2 (.r0 [2] <| .ret []) (.r1 [1, 4, 10, 11] [0] <| .bk 0 [.i (IntKind.i64.wrap (c + (1 : Int)))])) (.r1 [1, 4, 10] [0] <| .bk 1 [.i (IntKind.i64.wrap (i + (1 : Int)))])) (.r0 [2] <| .ret [])))))))))))))))
    (by kernel_rfl) (by kernel_rfl) (by kernel_rfl) h
def vc21 (a0 a1 : Int) (a2 : List (List D)) (f0 f1 : Int) (f2 : List (List D)) (f3 f4 : Int) (f5 : List (List D)) (f6 f7 : Int) (f8 : List (List D)) (R : V → Heap → Prop) : Prop :=
 ∃ (r : Bool),
 (FnD prog 35 [vA [sD (dI a0), sD (dI a1), sD (dL a2)]] (vD (dB r)) []) ∧
 (∃ (r1 : Bool),
 (FnD prog 39 [vA [sD (dI f0), sD (dI f1), sD (dL f2)]] (vD (dB r1)) []) ∧
 (((!r) = true →
 R (vD (dB false)) []) ∧
 ((!r) = false →
 ((!r1) = true →
 R (vD (dB false)) []) ∧
 ((!r1) = false →
 ((f0 != a0) = true →
 R (vD (dB false)) []) ∧
 ((f0 != a0) = false →
 ((f1 != a1) = true →
 R (vD (dB false)) []) ∧
 ((f1 != a1) = false →
 ∃ (r2 : Bool),
 (FnD prog 36 [vA [sD (dI f3), sD (dI f4), sD (dL f5)], vD (dI a0), vD (dI a0)] (vD (dB r2)) []) ∧
 (∃ (r3 : Bool),
 (FnD prog 36 [vA [sD (dI f6), sD (dI f7), sD (dL f8)], vD (dI a0), vD (dI a0)] (vD (dB r3)) []) ∧
 ((r2 = true →
 (r3 = true →
 ∃ (r0 r11 : Int) (r21 : List (List D)) (r4 : Bool),
 (FnD prog 37 [vA [sD (dI f3), sD (dI f4), sD (dL f5)], vA [sD (dI a0), sD (dI a1), sD (dL a2)]] (vA [sD (dI r0), sD (dI r11), sD (dL r21)]) []) ∧
 (FnD prog 22 [vA [sD (dI r0), sD (dI r11), sD (dL r21)], vA [sD (dI f0), sD (dI f1), sD (dL f2)]] (vD (dB r4)) []) ∧
 ((r4 = true →
 ∃ (r01 r12 : Int) (r22 : List (List D)) (r02 r13 : Int) (r23 : List (List D)) (r5 : Bool),
 (FnD prog 37 [vA [sD (dI f3), sD (dI f4), sD (dL f5)], vA [sD (dI f6), sD (dI f7), sD (dL f8)]] (vA [sD (dI r01), sD (dI r12), sD (dL r22)]) []) ∧
 (FnD prog 30 [vD (dI a0)] (vA [sD (dI r02), sD (dI r13), sD (dL r23)]) []) ∧
 (FnD prog 22 [vA [sD (dI r01), sD (dI r12), sD (dL r22)], vA [sD (dI r02), sD (dI r13), sD (dL r23)]] (vD (dB r5)) []) ∧
 (R (vD (dB r5)) [])) ∧
 (r4 = false →
 R (vD (dB false)) []))) ∧
 (r3 = false →
 R (vD (dB false)) [])) ∧
 (r2 = false →
 R (vD (dB false)) [])))))))))
theorem vc21_ok (a0 a1 : Int) (a2 : List (List D)) (f0 f1 : Int) (f2 : List (List D)) (f3 f4 : Int) (f5 : List (List D)) (f6 f7 : Int) (f8 : List (List D)) {R : V → Heap → Prop} (h : vc21 a0 a1 a2 f0 f1 f2 f3 f4 f5 f6 f7 f8 R) : FnG prog 21 [vA [sD (dI a0), sD (dI a1), sD (dL a2)], vA [sD (dI f0), sD (dI f1), sD (dL f2), sD (dI f3), sD (dI f4), sD (dL f5), sD (dI f6), sD (dI f7), sD (dL f8)]] [] R :=
  FnG.vcg hT func21 ntmps21 (.reg 2 [(0, Or.none, 0, 1), (1, Or.none, 1, 1)] [2, 3] [0, 1] [] <| .exb fun r => .reg 0 [(1, Or.call (vD (dB r)) [] [], 0, 0)] [2, 3, 5] [0, 1] [] <| .exb fun r1 => .reg 0 [(2, Or.call (vD (dB r1)) [] [], 0, 0)] [2, 3, 5, 6] [0, 1] [] <| .spl ((!r)) (.reg 0 [(2, Or.bool true, 0, 0)] [2, 3, 35] [0, 1] [.old 0] <| .ct true none <| .r0 [4] <| .ret []) (.spl ((!r1)) (.reg 0 [(2, Or.bool false, 0, 0), (6, Or.bool true, 0, 0)] [2, 3, 35] [0, 1] [.old 1, .old 0] <| .ct true none <| .r0 [4] <| .ret []) (.spl ((f0 != a0)) (.reg 0 [(2, Or.bool false, 0, 0), (6, Or.bool false, 0, 0), (14, Or.bool true, 0, 0)] [2, 3, 35] [0, 1] [.old 2, .old 1, .old 0] <| .ct true none <| .r0 [4] <| .ret []) (.reg 0 [(2, Or.bool false, 0, 0), (6, Or.bool false, 0, 0), (14, Or.bool false, 0, 0)] [2, 3, 35] [0, 1] [.old 2, .old 1, .old 0] <| .c2 (.r0 [4] <| .ret []) (.exb fun r2 => .reg 0 [(6, Or.call (vD (dB r2)) [] [], 0, 0)] [2, 3, 7] [0, 1] [] <| .exb fun r3 => .reg 0 [(6, Or.call (vD (dB r3)) [] [], 0, 0)] [2, 3, 7, 8] [0, 1] [] <| .spl r2 (.spl r3 (.ex fun r0 => .ex fun r11 => .exl fun r21 => .exb fun r4 => .ob (FnD prog 37 [vA [sD (dI f3), sD (dI f4), sD (dL f5)], vA [sD (dI a0), sD (dI a1), sD (dL a2)]] (vA [sD (dI r0), sD (dI r11), sD (dL r21)]) []) <| .ob (FnD prog 22 [vA [sD (dI r0), sD (dI r11), sD (dL r21)], vA [sD (dI f0), sD (dI f1), sD (dL f2)]] (vD (dB r4)) []) <| .spl r4 (.ex fun r01 => .ex fun r12 => .exl fun r22 => .ex fun r02 => .ex fun r13 => .exl fun r23 => .exb fun r5 => .drw 0 [(1, (Or.bool true, 0, 0), []), (4, (Or.bool true, 0, 0), []), (8, (Or.call (vA [sD (dI r0), sD (dI r11), sD (dL r21)]) [] [], 0, 0), []), (11, (Or.call (vD (dB r4)) [] [], 0, 0), []), (13, (Or.bool true, 0, 0), []), (18, (Or.call (vA [sD (dI r01), sD (dI r12), sD (dL r22)]) [] [], 0, 0), []), (21, (Or.call (vA [sD (dI r02), sD (dI r13), sD (dL r23)]) [] [], 0, 0), []), (22, (Or.call (vD (dB r5)) [] [], 0, 0), [])] [4] [] [.old 4, .old 3, .old 2, .old 1, .old 0] <| .ret []) (.drw 0 [(1, (Or.bool true, 0, 0), []), (4, (Or.bool true, 0, 0), []), (8, (Or.call (vA [sD (dI r0), sD (dI r11), sD (dL r21)]) [] [], 0, 0), []), (11, (Or.call (vD (dB r4)) [] [], 0, 0), []), (13, (Or.bool false, 0, 0), [])] [4] [] [.old 4, .old 3, .old 2, .old 1, .old 0] <| .ret [])) (.drw 0 [(1, (Or.bool true, 0, 0), []), (4, (Or.bool false, 0, 0), [])] [4] [] [.old 1, .old 0] <| .ret [])) (.drw 0 [(1, (Or.bool false, 0, 0), [])] [4] [] [.old 0] <| .ret []))))))
    (by kernel_rfl) (by kernel_rfl) (by kernel_rfl) h
end Go.AM
/- torsionref21: the least row, the first open row; copies; numbers. -/
namespace Go.AM
open Go.Proofs.Tryz
theorem rcmp_ok {x y : Int} (hx : Sz x) (hy : Sz y) : FnD prog 74 [eI x, eI y] (vi (if x - y = 0 then 0 else if x - y < 0 then -1 else 1)) [] := by
  refine vc74_ok _ _ _ _ (R := Out _) ?_
  unfold vc74
  exact ⟨_, _, _, rsub_ok hx hy, rsign_ok _, rfl, rfl⟩
theorem rcopied_ok {r c : Nat} {a : List (List Int)} (ha : Mx r c a) (hs : ∀ i j, i < r → j < c → Sz (el a i j)) (hr : r ≤ 4294967296) (hc : c ≤ 4294967296) :
    FnD prog 42 [eM r c a] (eMo r c) (oM a) := by
  have scale : FnD prog 75 [eM r c a, eI 1] (eMo r c) (oM (table r c fun i j => el a i j * 1)) := by
    refine vc75_ok _ _ _ _ _ (R := OutM r c _) ?_
    unfold vc75
    obtain ⟨f, hf⟩ : ∃ f : Nat → Nat → Int, f = fun i j => el a i j * 1 := ⟨_, rfl⟩
    refine ⟨_, _, _, rnew_ok hr hc, fun o t => ∃ i : Nat, t = (i : Int) ∧ i ≤ r ∧ o = om (table r c (gF f i 0)), fun _ t => ((r : Int) - t).toNat, ⟨0, rfl, by omega, gF_zero f⟩, ?_⟩
    rintro _ _ ⟨i, rfl, hi, rfl⟩
    refine ⟨fun h => ?_, fun h => outM ?_⟩
    · have hir : i < r := by simpa using h
      refine ⟨fun o t => ∃ j : Nat, t = (j : Int) ∧ j ≤ c ∧ o = om (table r c (gF f i j)), fun _ t => ((c : Int) - t).toNat, ⟨0, rfl, by omega, rfl⟩, ?_⟩
      rintro _ _ ⟨j, rfl, hj, rfl⟩
      refine ⟨fun h2 => ?_, fun h2 => ?_⟩
      · have hjc : j < c := by simpa using h2
        obtain ⟨e1, e2, e3, e4⟩ := read_el ha hir hjc
        refine ⟨_, _, _, decide (f i j < 0), lim (dz (f i j)), ⟨by omega, by rw [om_len]; omega⟩, ⟨by omega, e4⟩, e1, ⟨by omega, e3⟩, e2, ?_, om_in hir hjc, ?_⟩
        · subst hf; exact rmul_ok (hs i j hir hjc) (sz_le (K := 1) (by decide) (by decide))
        rw [inc64 (by omega)]
        refine ⟨⟨j + 1, rfl, by omega, ?_⟩, by show ((c : Int) - ((j + 1 : Nat) : Int)).toNat < ((c : Int) - (j : Int)).toNat; omega⟩
        rw [Int.toNat_natCast, Int.toNat_natCast]
        exact gF_step hir hjc
      · have hjc : c ≤ j := by simpa using h2
        rw [inc64 (by omega)]
        exact ⟨⟨i + 1, rfl, by omega, gF_next fun b h1 h2 => by omega⟩, by show ((r : Int) - ((i + 1 : Nat) : Int)).toNat < ((r : Int) - (i : Int)).toNat; omega⟩
    · have hir : i = r := by have : r ≤ i := by simpa using h
                             omega
      subst hir
      subst hf
      exact gF_all
  refine vc42_ok _ _ _ (R := OutM r c _) ?_
  unfold vc42
  refine ⟨_, _, _, _, _, rof_ok 1 (by decide) (by decide), scale, outM ?_⟩
  congr 1
  refine Eq.trans (table_congr fun i j _ _ => ?_) (mx_table ha).symm
  rw [Int.mul_one]
def eP (r c : Nat) (A m u v : List (List Int)) (t k : Nat) (b : Bool) : V :=
  vA [sD (dI r), sD (dI c), sD (dL (rows A)), sD (dI r), sD (dI c), sD (dL (rows m)), sD (dI r), sD (dI r), sD (dL (rows u)), sD (dI r), sD (dI r), sD (dL (rows v)), sD (dI t), sD (dI k), sD (dB b)]
def finB (r c t k : Nat) : Bool := decide (r ≤ t) || decide (c ≤ k)
theorem fin_ok {r c : Nat} {A m u v : List (List Int)} {t k : Nat} {b : Bool} : FnD prog 29 [eP r c A m u v t k b] (vb (finB r c t k)) [] := by
  refine vc29_ok _ _ _ _ _ _ _ _ _ _ _ _ _ _ _ (R := Out _) ?_
  unfold vc29
  refine ⟨fun h => outb ?_, fun h => outb ?_⟩
  · have : r ≤ t := by simpa using h
    simp [finB, this]
  · have : ¬ r ≤ t := by simpa using h
    simp [finB, this]
theorem rfin_ok {r c : Nat} {A m u v : List (List Int)} {t k : Nat} {b : Bool} : FnD prog 31 [eP r c A m u v t k b] (vb (finB r c t k)) [] := by
  refine vc31_ok _ _ _ _ _ _ _ _ _ _ _ _ _ _ _ (R := Out _) ?_
  unfold vc31
  refine ⟨fun h => outb ?_, fun h => outb ?_⟩
  · have : r ≤ t := by simpa using h
    simp [finB, this]
  · have : ¬ r ≤ t := by simpa using h
    simp [finB, this]
section
variable {r c K L : Nat} {A m u v : List (List Int)} {t k : Nat} (C : PCx r c K L m u v t k) {b : Bool}
include C
omit C in
theorem opnL_inv {i : Nat} (h : opnL k t m (List.range r) = some i) : i < r ∧ i ≠ t ∧ el m i k / el m t k ≠ 0 ∧ ∀ j, j < i → j ≠ t → el m j k / el m t k = 0 := by
  unfold opnL at h
  obtain ⟨h1, h2, h3⟩ := List.find?_range_eq_some.1 h
  simp only [Bool.and_eq_true, decide_eq_true_eq] at h1
  refine ⟨List.mem_range.1 h2, h1.1, h1.2, fun j hj hjt => ?_⟩
  have := h3 j hj
  simp [hjt] at this
  exact this
end
end Go.AM
/- What functions of the program come to: group Sb. Printed by vc.py. -/
set_option maxRecDepth 100000
set_option linter.unusedVariables false
namespace Go.AM
open Go.Proofs.Tryz
def vc13 (p0 p1 : Int) (p2 : List (List D)) (p3 p4 : Int) (p5 : List (List D)) (p6 p7 : Int) (p8 : List (List D)) (p9 p10 : Int) (p11 : List (List D)) (p12 p13 : Int) (p14 : Bool) (budget : Int) (R : V → Heap → Prop) : Prop :=
 (decide (budget ≤ (0 : Int)) = true →
 R (vA [sD (dI p0), sD (dI p1), sD (dL p2), sD (dI p3), sD (dI p4), sD (dL p5), sD (dI p6), sD (dI p7), sD (dL p8), sD (dI p9), sD (dI p10), sD (dL p11), sD (dI p12), sD (dI p13), sD (dB p14)]) []) ∧
 (decide (budget ≤ (0 : Int)) = false →
 (p14 = true →
 R (vA [sD (dI p0), sD (dI p1), sD (dL p2), sD (dI p3), sD (dI p4), sD (dL p5), sD (dI p6), sD (dI p7), sD (dL p8), sD (dI p9), sD (dI p10), sD (dL p11), sD (dI p12), sD (dI p13), sD (dB p14)]) []) ∧
 (p14 = false →
 ∃ (r0 r1 : Int) (rrows : List (List (List D))) (r01 r11 : Int) (rrows1 : List (List (List D))) (r02 r12 : Int) (rrows2 : List (List (List D))),
 (FnD prog 32 [vA [sD (dI p3), sD (dI p4), sD (dL p5)]] (vA [sD (dI r0), sD (dI r1), S.ref 0]) [some (Obj.mat 2 rrows)]) ∧
 (FnD prog 32 [vA [sD (dI p6), sD (dI p7), sD (dL p8)]] (vA [sD (dI r01), sD (dI r11), S.ref 0]) [some (Obj.mat 2 rrows1)]) ∧
 (FnD prog 32 [vA [sD (dI p9), sD (dI p10), sD (dL p11)]] (vA [sD (dI r02), sD (dI r12), S.ref 0]) [some (Obj.mat 2 rrows2)]) ∧
 ((FnD prog 33 [] (vA [sD (D.fn (.func 64) ([] : List D)), sD (D.fn (.func 65) ([] : List D)), sD (D.fn (.func 66) ([] : List D)), sD (D.fn (.func 67) ([] : List D)), sD (D.fn (.func 68) ([] : List D))]) []) ∧
 (∃ (J0 : Int → Int → Int → Int → Int → Bool → (List (List D)) → Int → Int → Int → Int → Int → (List (List (List D))) → (List (List (List D))) → (List (List (List D))) → Int → Prop) (μ0 : Int → Int → Int → Int → Int → Bool → (List (List D)) → Int → Int → Int → Int → Int → (List (List (List D))) → (List (List (List D))) → (List (List (List D))) → Int → Nat),
 J0 p0 p1 r12 p12 p13 p14 p2 r0 r1 r01 r11 r02 rrows rrows1 rrows2 budget ∧ ∀ (p01 p15 : Int) (p101 p121 p131 : Int) (p141 : Bool) (p21 : List (List D)) (p31 p41 : Int) (p61 p71 p91 : Int) (o3 o4 o5 : List (List (List D))) (budget1 : Int), J0 p01 p15 p101 p121 p131 p141 p21 p31 p41 p61 p71 p91 o3 o4 o5 budget1 →
 (decide (budget1 > (0 : Int)) = true →
 ((!p141) = true →
 (0 ≤ (0 : Int) ∧ (0 : Int) < ((5 : Nat) : Int)) ∧
 (∃ (r : Bool) (b b1 : Int) (b2 : List (List D)) (b3 b4 : Int) (b5 b6 : Int) (b7 b8 : Int) (b9 b10 : Int) (b11 : Bool) (m m1 m2 : List (List (List D))),
 (FnO prog 64 [V.e (E.sc (S.ptr 0 0))] [some (Obj.box [sD (dI p01), sD (dI p15), sD (dL p21), sD (dI p31), sD (dI p41), S.ref 1, sD (dI p61), sD (dI p71), S.ref 2, sD (dI p91), sD (dI p101), S.ref 3, sD (dI p121), sD (dI p131), sD (dB p141)]), some (Obj.mat 2 o3), some (Obj.mat 2 o4), some (Obj.mat 2 o5)] (vD (dB r)) [some (Obj.box [sD (dI b), sD (dI b1), sD (dL b2), sD (dI b3), sD (dI b4), S.ref 1, sD (dI b5), sD (dI b6), S.ref 2, sD (dI b7), sD (dI b8), S.ref 3, sD (dI b9), sD (dI b10), sD (dB b11)]), some (Obj.mat 2 m), some (Obj.mat 2 m1), some (Obj.mat 2 m2)]) ∧
 ((r = true →
 ∃ (r2 : Bool),
 (FnD prog 29 [vA [sD (dI b), sD (dI b1), sD (dL b2), sD (dI b3), sD (dI b4), sD (dL (matD m)), sD (dI b5), sD (dI b6), sD (dL (matD m1)), sD (dI b7), sD (dI b8), sD (dL (matD m2)), sD (dI b9), sD (dI b10), sD (dB b11)]] (vD (dB r2)) []) ∧
 (J0 b b1 b8 b9 b10 r2 b2 b3 b4 b5 b6 b7 m m1 m2 (IntKind.i64.wrap (budget1 - (1 : Int))) ∧ μ0 b b1 b8 b9 b10 r2 b2 b3 b4 b5 b6 b7 m m1 m2 (IntKind.i64.wrap (budget1 - (1 : Int))) < μ0 p01 p15 p101 p121 p131 p141 p21 p31 p41 p61 p71 p91 o3 o4 o5 budget1)) ∧
 (r = false →
 (0 ≤ (1 : Int) ∧ (1 : Int) < ((5 : Nat) : Int)) ∧
 (∃ (r3 : Bool) (b12 b13 : Int) (b14 : List (List D)) (b15 b16 : Int) (b17 b18 : Int) (b19 b20 : Int) (b21 b22 : Int) (b23 : Bool) (m3 m4 m5 : List (List (List D))),
 (FnO prog 65 [V.e (E.sc (S.ptr 0 0))] [some (Obj.box [sD (dI b), sD (dI b1), sD (dL b2), sD (dI b3), sD (dI b4), S.ref 1, sD (dI b5), sD (dI b6), S.ref 2, sD (dI b7), sD (dI b8), S.ref 3, sD (dI b9), sD (dI b10), sD (dB b11)]), some (Obj.mat 2 m), some (Obj.mat 2 m1), some (Obj.mat 2 m2)] (vD (dB r3)) [some (Obj.box [sD (dI b12), sD (dI b13), sD (dL b14), sD (dI b15), sD (dI b16), S.ref 4, sD (dI b17), sD (dI b18), S.ref 5, sD (dI b19), sD (dI b20), S.ref 3, sD (dI b21), sD (dI b22), sD (dB b23)]), some (Obj.fwd (S.ref 4)), some (Obj.fwd (S.ref 5)), some (Obj.mat 2 m3), some (Obj.mat 2 m4), some (Obj.mat 2 m5)]) ∧
 ((r3 = true →
 ∃ (r4 : Bool),
 (FnD prog 29 [vA [sD (dI b12), sD (dI b13), sD (dL b14), sD (dI b15), sD (dI b16), sD (dL (matD m4)), sD (dI b17), sD (dI b18), sD (dL (matD m5)), sD (dI b19), sD (dI b20), sD (dL (matD m3)), sD (dI b21), sD (dI b22), sD (dB b23)]] (vD (dB r4)) []) ∧
 (J0 b12 b13 b20 b21 b22 r4 b14 b15 b16 b17 b18 b19 m4 m5 m3 (IntKind.i64.wrap (budget1 - (1 : Int))) ∧ μ0 b12 b13 b20 b21 b22 r4 b14 b15 b16 b17 b18 b19 m4 m5 m3 (IntKind.i64.wrap (budget1 - (1 : Int))) < μ0 p01 p15 p101 p121 p131 p141 p21 p31 p41 p61 p71 p91 o3 o4 o5 budget1)) ∧
 (r3 = false →
 (0 ≤ (2 : Int) ∧ (2 : Int) < ((5 : Nat) : Int)) ∧
 (∃ (r5 : Bool) (b24 b25 : Int) (b26 : List (List D)) (b27 b28 : Int) (b29 b30 : Int) (b31 b32 : Int) (b33 b34 : Int) (b35 : Bool) (m6 m7 m8 : List (List (List D))),
 (FnO prog 66 [V.e (E.sc (S.ptr 0 0))] [some (Obj.box [sD (dI b12), sD (dI b13), sD (dL b14), sD (dI b15), sD (dI b16), S.ref 1, sD (dI b17), sD (dI b18), S.ref 2, sD (dI b19), sD (dI b20), S.ref 3, sD (dI b21), sD (dI b22), sD (dB b23)]), some (Obj.mat 2 m4), some (Obj.mat 2 m5), some (Obj.mat 2 m3)] (vD (dB r5)) [some (Obj.box [sD (dI b24), sD (dI b25), sD (dL b26), sD (dI b27), sD (dI b28), S.ref 1, sD (dI b29), sD (dI b30), S.ref 2, sD (dI b31), sD (dI b32), S.ref 3, sD (dI b33), sD (dI b34), sD (dB b35)]), some (Obj.mat 2 m6), some (Obj.mat 2 m7), some (Obj.mat 2 m8)]) ∧
 ((r5 = true →
 ∃ (r6 : Bool),
 (FnD prog 29 [vA [sD (dI b24), sD (dI b25), sD (dL b26), sD (dI b27), sD (dI b28), sD (dL (matD m6)), sD (dI b29), sD (dI b30), sD (dL (matD m7)), sD (dI b31), sD (dI b32), sD (dL (matD m8)), sD (dI b33), sD (dI b34), sD (dB b35)]] (vD (dB r6)) []) ∧
 (J0 b24 b25 b32 b33 b34 r6 b26 b27 b28 b29 b30 b31 m6 m7 m8 (IntKind.i64.wrap (budget1 - (1 : Int))) ∧ μ0 b24 b25 b32 b33 b34 r6 b26 b27 b28 b29 b30 b31 m6 m7 m8 (IntKind.i64.wrap (budget1 - (1 : Int))) < μ0 p01 p15 p101 p121 p131 p141 p21 p31 p41 p61 p71 p91 o3 o4 o5 budget1)) ∧
 (r5 = false →
 (0 ≤ (3 : Int) ∧ (3 : Int) < ((5 : Nat) : Int)) ∧
 (∃ (r7 : Bool) (b36 b37 : Int) (b38 : List (List D)) (b39 b40 : Int) (b41 b42 : Int) (b43 b44 : Int) (b45 b46 : Int) (b47 : Bool) (m9 m10 m11 : List (List (List D))),
 (FnO prog 67 [V.e (E.sc (S.ptr 0 0))] [some (Obj.box [sD (dI b24), sD (dI b25), sD (dL b26), sD (dI b27), sD (dI b28), S.ref 1, sD (dI b29), sD (dI b30), S.ref 2, sD (dI b31), sD (dI b32), S.ref 3, sD (dI b33), sD (dI b34), sD (dB b35)]), some (Obj.mat 2 m6), some (Obj.mat 2 m7), some (Obj.mat 2 m8)] (vD (dB r7)) [some (Obj.box [sD (dI b36), sD (dI b37), sD (dL b38), sD (dI b39), sD (dI b40), S.ref 1, sD (dI b41), sD (dI b42), S.ref 2, sD (dI b43), sD (dI b44), S.ref 3, sD (dI b45), sD (dI b46), sD (dB b47)]), some (Obj.mat 2 m9), some (Obj.mat 2 m10), some (Obj.mat 2 m11)]) ∧
 ((r7 = true →
 ∃ (r8 : Bool),
 (FnD prog 29 [vA [sD (dI b36), sD (dI b37), sD (dL b38), sD (dI b39), sD (dI b40), sD (dL (matD m9)), sD (dI b41), sD (dI b42), sD (dL (matD m10)), sD (dI b43), sD (dI b44), sD (dL (matD m11)), sD (dI b45), sD (dI b46), sD (dB b47)]] (vD (dB r8)) []) ∧
 (J0 b36 b37 b44 b45 b46 r8 b38 b39 b40 b41 b42 b43 m9 m10 m11 (IntKind.i64.wrap (budget1 - (1 : Int))) ∧ μ0 b36 b37 b44 b45 b46 r8 b38 b39 b40 b41 b42 b43 m9 m10 m11 (IntKind.i64.wrap (budget1 - (1 : Int))) < μ0 p01 p15 p101 p121 p131 p141 p21 p31 p41 p61 p71 p91 o3 o4 o5 budget1)) ∧
 (r7 = false →
 (0 ≤ (4 : Int) ∧ (4 : Int) < ((5 : Nat) : Int)) ∧
 (∃ (r9 : Bool) (b48 b49 : Int) (b50 : List (List D)) (b51 b52 : Int) (b53 b54 : Int) (b55 b56 : Int) (b57 b58 : Int) (b59 : Bool) (m12 m13 m14 : List (List (List D))),
 (FnO prog 68 [V.e (E.sc (S.ptr 0 0))] [some (Obj.box [sD (dI b36), sD (dI b37), sD (dL b38), sD (dI b39), sD (dI b40), S.ref 1, sD (dI b41), sD (dI b42), S.ref 2, sD (dI b43), sD (dI b44), S.ref 3, sD (dI b45), sD (dI b46), sD (dB b47)]), some (Obj.mat 2 m9), some (Obj.mat 2 m10), some (Obj.mat 2 m11)] (vD (dB r9)) [some (Obj.box [sD (dI b48), sD (dI b49), sD (dL b50), sD (dI b51), sD (dI b52), S.ref 1, sD (dI b53), sD (dI b54), S.ref 2, sD (dI b55), sD (dI b56), S.ref 3, sD (dI b57), sD (dI b58), sD (dB b59)]), some (Obj.mat 2 m12), some (Obj.mat 2 m13), some (Obj.mat 2 m14)]) ∧
 ((r9 = true →
 ∃ (r10 : Bool),
 (FnD prog 29 [vA [sD (dI b48), sD (dI b49), sD (dL b50), sD (dI b51), sD (dI b52), sD (dL (matD m12)), sD (dI b53), sD (dI b54), sD (dL (matD m13)), sD (dI b55), sD (dI b56), sD (dL (matD m14)), sD (dI b57), sD (dI b58), sD (dB b59)]] (vD (dB r10)) []) ∧
 (J0 b48 b49 b56 b57 b58 r10 b50 b51 b52 b53 b54 b55 m12 m13 m14 (IntKind.i64.wrap (budget1 - (1 : Int))) ∧ μ0 b48 b49 b56 b57 b58 r10 b50 b51 b52 b53 b54 b55 m12 m13 m14 (IntKind.i64.wrap (budget1 - (1 : Int))) < μ0 p01 p15 p101 p121 p131 p141 p21 p31 p41 p61 p71 p91 o3 o4 o5 budget1)) ∧
 (r9 = false →
 ∃ (r13 : Bool),
 (FnD prog 29 [vA [sD (dI b48), sD (dI b49), sD (dL b50), sD (dI b51), sD (dI b52), sD (dL (matD m12)), sD (dI b53), sD (dI b54), sD (dL (matD m13)), sD (dI b55), sD (dI b56), sD (dL (matD m14)), sD (dI b57), sD (dI b58), sD (dB b59)]] (vD (dB r13)) []) ∧
 (J0 b48 b49 b56 b57 b58 r13 b50 b51 b52 b53 b54 b55 m12 m13 m14 (IntKind.i64.wrap (budget1 - (1 : Int))) ∧ μ0 b48 b49 b56 b57 b58 r13 b50 b51 b52 b53 b54 b55 m12 m13 m14 (IntKind.i64.wrap (budget1 - (1 : Int))) < μ0 p01 p15 p101 p121 p131 p141 p21 p31 p41 p61 p71 p91 o3 o4 o5 budget1))))))))))))))))) ∧
 ((!p141) = false →
 R (vA [sD (dI p01), sD (dI p15), sD (dL p21), sD (dI p31), sD (dI p41), sD (dL (matD o3)), sD (dI p61), sD (dI p71), sD (dL (matD o4)), sD (dI p91), sD (dI p101), sD (dL (matD o5)), sD (dI p121), sD (dI p131), sD (dB p141)]) [])) ∧
 (decide (budget1 > (0 : Int)) = false →
 R (vA [sD (dI p01), sD (dI p15), sD (dL p21), sD (dI p31), sD (dI p41), sD (dL (matD o3)), sD (dI p61), sD (dI p71), sD (dL (matD o4)), sD (dI p91), sD (dI p101), sD (dL (matD o5)), sD (dI p121), sD (dI p131), sD (dB p141)]) [])))))
theorem vc13_ok (p0 p1 : Int) (p2 : List (List D)) (p3 p4 : Int) (p5 : List (List D)) (p6 p7 : Int) (p8 : List (List D)) (p9 p10 : Int) (p11 : List (List D)) (p12 p13 : Int) (p14 : Bool) (budget : Int) {R : V → Heap → Prop} (h : vc13 p0 p1 p2 p3 p4 p5 p6 p7 p8 p9 p10 p11 p12 p13 p14 budget R) : FnG prog 13 [vA [sD (dI p0), sD (dI p1), sD (dL p2), sD (dI p3), sD (dI p4), sD (dL p5), sD (dI p6), sD (dI p7), sD (dL p8), sD (dI p9), sD (dI p10), sD (dL p11), sD (dI p12), sD (dI p13), sD (dB p14)], vD (dI budget)] [] R :=
  FnG.vcg hT func13 ntmps13 (.reg 2 [(0, Or.none, 0, 1), (1, Or.none, 1, 1)] [1, 2, 4] [0, 1] [] <| .spl ((decide (budget ≤ (0 : Int)))) (.reg 0 [(2, Or.bool true, 0, 0)] [1, 2, 4, 13] [0, 1] [.old 0] <| .ct true none <| .r1 [4] [1] <| .ret []) (.reg 0 [(2, Or.bool false, 0, 0)] [1, 2, 4, 13] [0, 1] [.old 0] <| .c2 (.r1 [4] [1] <| .ret []) (.ex fun r0 => .ex fun r1 => .exm fun rrows => .ex fun r01 => .ex fun r11 => .exm fun rrows1 => .ex fun r02 => .ex fun r12 => .exm fun rrows2 => .drw 3 [(2, (Or.call (vA [sD (dI r0), sD (dI r1), S.ref 0]) [some (Obj.mat 2 rrows)] [], 2, 1), [2]), (5, (Or.call (vA [sD (dI r01), sD (dI r11), S.ref 0]) [some (Obj.mat 2 rrows1)] [], 3, 1), [3]), (8, (Or.call (vA [sD (dI r02), sD (dI r12), S.ref 0]) [some (Obj.mat 2 rrows2)] [], 4, 1), [4]), (10, (Or.none, 0, 0), [0]), (12, (Or.none, 0, 0), [0]), (14, (Or.none, 0, 0), [0])] [1, 2, 4] [0, 1, 2, 3, 4] [] <| .reg 1 [(0, Or.call (vA [sD (D.fn (.func 64) ([] : List D)), sD (D.fn (.func 65) ([] : List D)), sD (D.fn (.func 66) ([] : List D)), sD (D.fn (.func 67) ([] : List D)), sD (D.fn (.func 68) ([] : List D))]) [] [], 0, 0), (1, Or.none, 5, 1)] [1, 2, 4, 5] [0, 1, 5, 2, 3, 4] [] <| .lp [.i, .i, .i, .i, .i, .b, .l, .i, .i, .i, .i, .i, .m, .m, .m, .i] (fun p01 p15 p101 p121 p131 p141 p21 p31 p41 p61 p71 p91 o3 o4 o5 budget1 => ⟨[(1, vD (dI budget1)), (2, vP 0 0), (4, vP 1 0), (5, vP 2 0)], [some (Obj.box [sD (dI p01), sD (dI p15), sD (dL p21), sD (dI p31), sD (dI p41), S.ref 3, sD (dI p61), sD (dI p71), S.ref 4, sD (dI p91), sD (dI p101), S.ref 5, sD (dI p121), sD (dI p131), sD (dB p141)]), some (Obj.box [sD (dI (0 : Int)), sD (dI (0 : Int)), sD (D.raw (.slice none 0 0)), sD (dI (0 : Int)), sD (dI (0 : Int)), sD (D.raw (.slice none 0 0)), sD (dI (0 : Int)), sD (dI (0 : Int)), sD (D.raw (.slice none 0 0)), sD (dI (0 : Int)), sD (dI (0 : Int)), sD (D.raw (.slice none 0 0)), sD (dI (0 : Int)), sD (dI (0 : Int)), sD (dB false)]), some (Obj.box [sD (D.fn (.func 64) ([] : List D)), sD (D.fn (.func 65) ([] : List D)), sD (D.fn (.func 66) ([] : List D)), sD (D.fn (.func 67) ([] : List D)), sD (D.fn (.func 68) ([] : List D))]), some (Obj.mat 2 o3), some (Obj.mat 2 o4), some (Obj.mat 2 o5)], 48⟩) [.i p0, .i p1, .i r12, .i p12, .i p13, .b p14, .l p2, .i r0, .i r1, .i r01, .i r11, .i r02, .m rrows, .m rrows1, .m rrows2, .i budget] <| .fi fun p01 => .fi fun p15 => .fi fun p101 => .fi fun p121 => .fi fun p131 => .fb fun p141 => .fl fun p21 => .fi fun p31 => .fi fun p41 => .fi fun p61 => .fi fun p71 => .fi fun p91 => .fm fun o3 => .fm fun o4 => .fm fun o5 => .fi fun budget1 => .beg <| .spl ((decide (budget1 > (0 : Int)))) (.reg 0 [(2, Or.bool true, 0, 0)] [1, 2, 4, 5, 34] [0, 1, 2, 3, 4, 5] [.old 0] <| .c2 (.r1 [1, 2, 4, 5, 37, 38] [0, 1, 2, 3, 4, 5] <| .lp1 <| .r1 [1, 2, 4, 5, 37, 38, 39] [0, 1, 2, 3, 4, 5] <| .ct true none <| .r1 [1, 2, 4, 5, 7, 37, 38] [0, 1, 2, 3, 4, 5] <| .exb fun r => .ex fun b => .ex fun b1 => .exl fun b2 => .ex fun b3 => .ex fun b4 => .ex fun b5 => .ex fun b6 => .ex fun b7 => .ex fun b8 => .ex fun b9 => .ex fun b10 => .exb fun b11 => .exm fun m => .exm fun m1 => .exm fun m2 => .reg 0 [(1, Or.callO [0, 3, 4, 5] (vD (dB r)) [some (Obj.box [sD (dI b), sD (dI b1), sD (dL b2), sD (dI b3), sD (dI b4), S.ref 1, sD (dI b5), sD (dI b6), S.ref 2, sD (dI b7), sD (dI b8), S.ref 3, sD (dI b9), sD (dI b10), sD (dB b11)]), some (Obj.mat 2 m), some (Obj.mat 2 m1), some (Obj.mat 2 m2)], 0, 0)] [1, 2, 4, 5, 37, 38, 42] [0, 1, 2, 3, 4, 5] [] <| .c2 (.exb fun r2 => .reg 0 [(1, Or.callB [3, 4, 5] [] (vD (dB r2)), 0, 0)] [1, 2, 4, 5] [0, 1, 2, 3, 4, 5] [] <| .r1 [1, 2, 4, 5] [0, 1, 2, 3, 4, 5] <| .bk 0 [.i b, .i b1, .i b8, .i b9, .i b10, .b r2, .l b2, .i b3, .i b4, .i b5, .i b6, .i b7, .m m, .m m1, .m m2, .i (IntKind.i64.wrap (budget1 - (1 : Int)))]) (.r1 [1, 2, 4, 5, 37, 38] [0, 1, 2, 3, 4, 5] <| .lp1 <| .r1 [1, 2, 4, 5, 37, 38, 39] [0, 1, 2, 3, 4, 5] <| .ct true none <| .r1 [1, 2, 4, 5, 7, 37, 38] [0, 1, 2, 3, 4, 5] <| .exb fun r3 => .ex fun b12 => .ex fun b13 => .exl fun b14 => .ex fun b15 => .ex fun b16 => .ex fun b17 => .ex fun b18 => .ex fun b19 => .ex fun b20 => .ex fun b21 => .ex fun b22 => .exb fun b23 => .exm fun m3 => .exm fun m4 => .exm fun m5 => .reg 2 [(1, Or.callO [0, 3, 4, 5] (vD (dB r3)) [some (Obj.box [sD (dI b12), sD (dI b13), sD (dL b14), sD (dI b15), sD (dI b16), S.ref 4, sD (dI b17), sD (dI b18), S.ref 5, sD (dI b19), sD (dI b20), S.ref 3, sD (dI b21), sD (dI b22), sD (dB b23)]), some (Obj.fwd (S.ref 4)), some (Obj.fwd (S.ref 5)), some (Obj.mat 2 m3), some (Obj.mat 2 m4), some (Obj.mat 2 m5)], 6, 2)] [1, 2, 4, 5, 37, 38, 42] [0, 1, 2, 6, 7, 5] [] <| .c2 (.exb fun r4 => .reg 0 [(1, Or.callB [3, 4, 5] [] (vD (dB r4)), 0, 0)] [1, 2, 4, 5] [0, 1, 2, 3, 4, 5] [] <| .r1 [1, 2, 4, 5] [0, 1, 2, 3, 4, 5] <| .bk 0 [.i b12, .i b13, .i b20, .i b21, .i b22, .b r4, .l b14, .i b15, .i b16, .i b17, .i b18, .i b19, .m m4, .m m5, .m m3, .i (IntKind.i64.wrap (budget1 - (1 : Int)))]) (.r1 [1, 2, 4, 5, 37, 38] [0, 1, 2, 3, 4, 5] <| .lp1 <| .r1 [1, 2, 4, 5, 37, 38, 39] [0, 1, 2, 3, 4, 5] <| .ct true none <| .r1 [1, 2, 4, 5, 7, 37, 38] [0, 1, 2, 3, 4, 5] <| .exb fun r5 => .ex fun b24 => .ex fun b25 => .exl fun b26 => .ex fun b27 => .ex fun b28 => .ex fun b29 => .ex fun b30 => .ex fun b31 => .ex fun b32 => .ex fun b33 => .ex fun b34 => .exb fun b35 => .exm fun m6 => .exm fun m7 => .exm fun m8 => .reg 0 [(1, Or.callO [0, 3, 4, 5] (vD (dB r5)) [some (Obj.box [sD (dI b24), sD (dI b25), sD (dL b26), sD (dI b27), sD (dI b28), S.ref 1, sD (dI b29), sD (dI b30), S.ref 2, sD (dI b31), sD (dI b32), S.ref 3, sD (dI b33), sD (dI b34), sD (dB b35)]), some (Obj.mat 2 m6), some (Obj.mat 2 m7), some (Obj.mat 2 m8)], 0, 0)] [1, 2, 4, 5, 37, 38, 42] [0, 1, 2, 3, 4, 5] [] <| .c2 (.exb fun r6 => .reg 0 [(1, Or.callB [3, 4, 5] [] (vD (dB r6)), 0, 0)] [1, 2, 4, 5] [0, 1, 2, 3, 4, 5] [] <| .r1 [1, 2, 4, 5] [0, 1, 2, 3, 4, 5] <| .bk 0 [.i b24, .i b25, .i b32, .i b33, .i b34, .b r6, .l b26, .i b27, .i b28, .i b29, .i b30, .i b31, .m m6, .m m7, .m m8, .i (IntKind.i64.wrap (budget1 - (1 : Int)))]) (.r1 [1, 2, 4, 5, 37, 38] [0, 1, 2, 3, 4, 5] <| .lp1 <| .r1 [1, 2, 4, 5, 37, 38, 39] [0, 1, 2, 3, 4, 5] <| .ct true none <| .r1 [1, 2, 4, 5, 7, 37, 38] [0, 1, 2, 3, 4, 5] <| .exb fun r7 => .ex fun b36 => .ex fun b37 => .exl fun b38 => .ex fun b39 => .ex fun b40 => .ex fun b41 => .ex fun b42 => .ex fun b43 => .ex fun b44 => .ex fun b45 => .ex fun b46 => .exb fun b47 => .exm fun m9 => .exm fun m10 => .exm fun m11 => .reg 0 [(1, Or.callO [0, 3, 4, 5] (vD (dB r7)) [some (Obj.box [sD (dI b36), sD (dI b37), sD (dL b38), sD (dI b39), sD (dI b40), S.ref 1, sD (dI b41), sD (dI b42), S.ref 2, sD (dI b43), sD (dI b44), S.ref 3, sD (dI b45), sD (dI b46), sD (dB b47)]), some (Obj.mat 2 m9), some (Obj.mat 2 m10), some (Obj.mat 2 m11)], 0, 0)] [1, 2, 4, 5, 37, 38, 42] [0, 1, 2, 3, 4, 5] [] <| .c2 (.exb fun r8 => .reg 0 [(1, Or.callB [3, 4, 5] [] (vD (dB r8)), 0, 0)] [1, 2, 4, 5] [0, 1, 2, 3, 4, 5] [] <| .r1 [1, 2, 4, 5] [0, 1, 2, 3, 4, 5] <| .bk 0 [.i b36, .i b37, .i b44, .i b45, .i b46, .b r8, .l b38, .i b39, .i b40, .i b41, .i b42, .i b43, .m m9, .m m10, .m m11, .i (IntKind.i64.wrap (budget1 - (1 : Int)))]) (.r1 [1, 2, 4, 5, 37, 38] [0, 1, 2, 3, 4, 5] <| .lp1 <| .r1 [1, 2, 4, 5, 37, 38, 39] [0, 1, 2, 3, 4, 5] <| .ct true none <| .r1 [1, 2, 4, 5, 7, 37, 38] [0, 1, 2, 3, 4, 5] <| .exb fun r9 => .ex fun b48 => .ex fun b49 => .exl fun b50 => .ex fun b51 => .ex fun b52 => .ex fun b53 => .ex fun b54 => .ex fun b55 => .ex fun b56 => .ex fun b57 => .ex fun b58 => .exb fun b59 => .exm fun m12 => .exm fun m13 => .exm fun m14 => .reg 0 [(1, Or.callO [0, 3, 4, 5] (vD (dB r9)) [some (Obj.box [sD (dI b48), sD (dI b49), sD (dL b50), sD (dI b51), sD (dI b52), S.ref 1, sD (dI b53), sD (dI b54), S.ref 2, sD (dI b55), sD (dI b56), S.ref 3, sD (dI b57), sD (dI b58), sD (dB b59)]), some (Obj.mat 2 m12), some (Obj.mat 2 m13), some (Obj.mat 2 m14)], 0, 0)] [1, 2, 4, 5, 37, 38, 42] [0, 1, 2, 3, 4, 5] [] <| .c2 (.exb fun r10 => .reg 0 [(1, Or.callB [3, 4, 5] [] (vD (dB r10)), 0, 0)] [1, 2, 4, 5] [0, 1, 2, 3, 4, 5] [] <| .r1 [1, 2, 4, 5] [0, 1, 2, 3, 4, 5] <| .bk 0 [.i b48, .i b49, .i b56, .i b57, .i b58, .b r10, .l b50, .i b51, .i b52, .i b53, .i b54, .i b55, .m m12, .m m13, .m m14, .i (IntKind.i64.wrap (budget1 - (1 : Int)))]) (.r1 [1, 2, 4, 5, 37, 38] [0, 1, 2, 3, 4, 5] <| .lp1 <| .r1 [1, 2, 4, 5, 37, 38, 39] [0, 1, 2, 3, 4, 5] <| .ct false none <| .exb fun r13 => .reg 0 [(1, Or.callB [3, 4, 5] [] (vD (dB r13)), 0, 0)] [1, 2, 4, 5] [0, 1, 2, 3, 4, 5] [] <| .r1 [1, 2, 4, 5] [0, 1, 2, 3, 4, 5] <| .bk 0 [.i b48, .i b49, .i b56, .i b57, .i b58, .b r13, .l b50, .i b51, .i b52, .i b53, .i b54, .i b55, .m m12, .m m13, .m m14, .i (IntKind.i64.wrap (budget1 - (1 : Int)))])))))) (.r1 [4] [1, 3, 4, 5] <| .frz [1, 2, 3] <| .ret [])) (.reg 0 [(2, Or.bool false, 0, 0)] [1, 2, 4, 5, 34] [0, 1, 2, 3, 4, 5] [.old 0] <| .ct false none <| .r1 [4] [1, 3, 4, 5] <| .frz [1, 2, 3] <| .ret []))))
    (by kernel_rfl) (by kernel_rfl) (by kernel_rfl) h
end Go.AM
/- Package step: Start, Step. -/
namespace Go.AM
open Go.Proofs.Tryz
abbrev idM (r : Nat) : List (List Int) := table r r delta
def eS (r c : Nat) (A : List (List Int)) (s : PS) : V := eP r c A (apL r c s.d A) (apL r r s.d (idM r)) (apCL r s.d (idM r)) s.t s.k (s.fin r c)
structure PSx (r c N L : Nat) (A : List (List Int)) : Prop where
  hm : Mx r c A
  km : BdM N A
  N1 : 1 ≤ N
  big : (N * qB r N c) * (N * qB r N c) * 4294967296 < 4294967296 ^ L
  hL : L ≤ 1073741824
  hr : r ≤ 4294967296
  hc : c ≤ 4294967296
theorem idM_bd (r : Nat) : BdM 1 (idM r) := table_bd fun i j _ _ => by unfold delta; split <;> decide
theorem finB_eq (r c : Nat) (s : PS) : s.fin r c = finB r c s.t s.k := rfl
theorem apCL_snoc {n : Nat} (d : List Opz) (o : Opz) (m : List (List Int)) : apCL n (d ++ [o]) m = apC n o (apCL n d m) := by rw [apCL_append]; rfl
section
variable {r c N L : Nat} {A : List (List Int)} (X : PSx r c N L A)
include X
theorem PSx.sz {y : Int} (h : y.natAbs ≤ N * qB r N c) : Sz y := by
  refine Sz.of_lt L X.hL (Nat.lt_of_le_of_lt (Nat.le_trans (Nat.le_trans h (kk_le _)) (Nat.le_mul_of_pos_right _ (by decide))) X.big)
theorem PSx.bds {s : PS} (h : PInv r c N A s) : BdM (N * qB r N c) (apL r c s.d A) ∧ BdM (N * qB r N c) (apL r r s.d (idM r)) ∧ BdM (N * qB r N c) (apCL r s.d (idM r)) := by
  have h1 : gL s.d * 1 ≤ N * qB r N c := by
    have := Nat.mul_le_mul X.N1 h.ge
    rw [Nat.mul_one]; rwa [Nat.one_mul] at this
  refine ⟨(apL_g h.va X.hm X.km).mono ?_, (apL_g h.va (table_mx _ _ _) (idM_bd r)).mono h1, (apCL_g h.va (table_mx _ _ _) (idM_bd r)).mono h1⟩
  rw [Nat.mul_comm]; exact Nat.mul_le_mul_left _ h.ge
theorem PSx.px {s : PS} (h : PInv r c N A s) (ht : s.t < r) (hk : s.k < c) : PCx r c (N * qB r N c) L (apL r c s.d A) (apL r r s.d (idM r)) (apCL r s.d (idM r)) s.t s.k := by
  obtain ⟨h1, h2, h3⟩ := X.bds h
  exact ⟨apL_mx _ X.hm, apL_mx _ (table_mx _ _ _), apCL_mx _ (table_mx _ _ _), h1, h2, h3, ht, hk, X.big, X.hL, X.hr, X.hc⟩
theorem pstart_ok : FnD prog 10 [eM r c A] (eS r c A ⟨[], 0, 0⟩) [] := by
  refine vc10_ok _ _ _ (R := Out _) ?_
  unfold vc10
  exact ⟨_, _, _, _, _, _, mident_ok X.hr, mident_ok X.hr, _, fin_ok (t := 0) (k := 0), rfl, rfl⟩
theorem rstart_ok : FnD prog 12 [eM r c A] (eS r c A ⟨[], 0, 0⟩) [] := by
  refine vc12_ok _ _ _ (R := Out _) ?_
  unfold vc12
  refine ⟨_, _, _, _, _, _, rident_ok X.hr, rident_ok X.hr, ?_⟩
  rw [matD_om]
  exact ⟨_, rfin_ok (t := 0) (k := 0), rfl, rfl⟩
omit X in
def Sp0 (r c N : Nat) (A : List (List Int)) (S : PS) (p0 p1 p10 p12 p13 : Int) (p14 : Bool) (p2 : List (List D)) (p3 p4 p6 p7 p9 : Int) (o3 o4 o5 : List (List (List D))) (z : Int) : Prop :=
  ∃ (s : PS) (n : Nat), (p0 = r ∧ p1 = c ∧ p10 = r ∧ p12 = s.t ∧ p13 = s.k ∧ p14 = finB r c s.t s.k ∧ p2 = rows A ∧ p3 = r ∧ p4 = c ∧ p6 = r ∧ p7 = r ∧ p9 = r ∧ o3 = om (apL r c s.d A) ∧ o4 = om (apL r r s.d (idM r)) ∧ o5 = om (apCL r s.d (idM r)) ∧ z = (n : Int)) ∧
    n ≤ 4611686018427387904 ∧ PInv r c N A s ∧ s.run r c A n = S
omit X in
abbrev Spm (_ _ _ _ _ : Int) (_ : Bool) (_ : List (List D)) (_ _ _ _ _ : Int) (_ _ _ : List (List (List D))) (z : Int) : Nat := z.toNat
set_option maxRecDepth 100000 in
theorem pstep_ok {s0 : PS} (h0 : PInv r c N A s0) {n0 : Int} (hn0 : n0 ≤ 4611686018427387904) : FnD prog 13 [eS r c A s0, vi n0] (eS r c A (s0.run r c A n0.toNat)) [] := by
  refine vc13_ok _ _ _ _ _ _ _ _ _ _ _ _ _ _ _ _ (R := Out _) ?_
  unfold vc13
  refine ⟨fun h => ?_, fun h => ⟨fun hf => ?_, fun hf => ?_⟩⟩
  · have h1 : n0 ≤ 0 := by simpa using h
    rw [show n0.toNat = 0 by omega]
    exact ⟨rfl, rfl⟩
  · rw [PS.run_fin hf]
    exact ⟨rfl, rfl⟩
  have hn : 0 < n0 := by have := of_decide_eq_false h; omega
  clear h
  have hr := X.hr; have hc := X.hc
  refine ⟨_, _, _, _, _, _, _, _, _, pcopied_ok (apL_mx _ X.hm) hr hc, pcopied_ok (apL_mx _ (table_mx _ _ _)) hr hr, pcopied_ok (apCL_mx _ (table_mx _ _ _)) hr hr, vc33_ok (R := Out _) (by unfold vc33; exact ⟨rfl, rfl⟩), ?_⟩
  refine ⟨Sp0 r c N A (s0.run r c A n0.toNat), Spm, ⟨s0, n0.toNat, ⟨rfl, rfl, rfl, rfl, rfl, rfl, rfl, rfl, rfl, rfl, rfl, rfl, rfl, rfl, rfl, by omega⟩, by omega, h0, rfl⟩, ?_⟩
  generalize s0.run r c A n0.toNat = S
  clear hf h0 hn hn0
  rintro _ _ _ _ _ _ _ _ _ _ _ _ _ _ _ _ ⟨s, n, ⟨rfl, rfl, rfl, rfl, rfl, rfl, rfl, rfl, rfl, rfl, rfl, rfl, rfl, rfl, rfl, rfl⟩, hn, hi, hS⟩
  have done : s.run r c A n = s → (fun x y => Out (eS r c A S) x y) (vA [(sD (dI r)), (sD (dI c)), (sD (dL (rows A))), (sD (dI r)), (sD (dI c)), (sD (dL (matD (om (apL r c s.d A))))), (sD (dI r)), (sD (dI r)), (sD (dL (matD (om (apL r r s.d (idM r)))))), (sD (dI r)), (sD (dI r)), (sD (dL (matD (om (apCL r s.d (idM r)))))), (sD (dI s.t)), (sD (dI s.k)), (sD (dB (finB r c s.t s.k)))]) [] := fun h => by
    rw [← hS, h, matD_om, matD_om, matD_om]
    exact ⟨rfl, rfl⟩
  refine ⟨fun h => ⟨fun h2 => ?_, fun h2 => ?_⟩, fun h => ?_⟩
  rotate_left
  · have hf : s.fin r c = true := by rw [finB_eq]; simpa using h2
    exact done (PS.run_fin hf n)
  · have : n = 0 := by have := of_decide_eq_false h; omega
    subst this
    exact done rfl
  have hf : s.fin r c = false := by rw [finB_eq]; simpa using h2
  obtain ⟨n, rfl⟩ : ∃ n', n = n' + 1 := ⟨n - 1, by have := of_decide_eq_true h; omega⟩
  have htk : s.t < r ∧ s.k < c := by
    have hf' := hf
    simp only [PS.fin, Bool.or_eq_false_iff, decide_eq_false_iff_not] at hf'
    omega
  obtain ⟨ht, hk⟩ := htk
  have hrun : (s.next r c A).run r c A n = S := by
    rw [← hS]; simp only [PS.run, hf]; rfl
  have hinv := hi.next X.hm X.km ht hk
  have P := X.px hi ht hk
  have hw : IntKind.i64.wrap (((n + 1 : Nat) : Int) - 1) = (n : Int) := by rw [w64 (by omega) (by omega)]; omega
  have hnx := nx_ok (cc := c) (a := A) ht
  clear h h2 hf done hS
  rw [hw]
  have nx : ∀ s', PInv r c N A s' → s'.run r c A n = S → Sp0 r c N A S r c r s'.t s'.k (finB r c s'.t s'.k) (rows A) r c r r r (om (apL r c s'.d A)) (om (apL r r s'.d (idM r))) (om (apCL r s'.d (idM r))) (n : Int) ∧ (n : Int).toNat < ((n + 1 : Nat) : Int).toNat :=
    fun s' g1 g2 => ⟨⟨s', n, ⟨rfl, rfl, rfl, rfl, rfl, rfl, rfl, rfl, rfl, rfl, rfl, rfl, rfl, rfl, rfl, rfl⟩, by omega, g1, g2⟩, by omega⟩
  have fin' : ∀ {m u v : List (List Int)} {t k : Nat} {b : Bool}, FnD prog 29 [vA [(sD (dI r)), (sD (dI c)), (sD (dL (rows A))), (sD (dI r)), (sD (dI c)), (sD (dL (matD (om m)))), (sD (dI r)), (sD (dI r)), (sD (dL (matD (om u)))), (sD (dI r)), (sD (dI r)), (sD (dL (matD (om v)))), (sD (dI t)), (sD (dI k)), (sD (dB b))]] (vb (finB r c t k)) [] := fun {m u v t k b} => by
    rw [matD_om, matD_om, matD_om]; exact fin_ok
  generalize hs' : s.next r c A = s' at hnx hrun hinv
  clear hs'
  refine ⟨⟨by decide, by decide⟩, ?_⟩
  have hskip := skip_ok P (A := A) (b := finB r c s.t s.k)
  cases hnx with
  | skip g1 g2 =>
    rw [decide_eq_true g1, if_pos g1] at hskip
    exact ⟨_, _, _, _, _, _, _, _, _, _, _, _, _, _, _, _, hskip, fun _ => ⟨_, fin', nx _ hinv hrun⟩, fun h => absurd h (by decide)⟩
  | swap p g0 g1 g2 g3 g4 =>
    have gn : ¬ lsF (apL r c s.d A) s.k s.t (r - s.t) < 0 := by rw [g0]; omega
    rw [decide_eq_false gn, if_neg gn] at hskip
    have h2 := exch_yes P (A := A) (b := finB r c s.t s.k) g0 g2 (by omega)
    rw [← apL_snoc, ← apL_snoc, ← apCL_snoc] at h2
    refine ⟨_, _, _, _, _, _, _, _, _, _, _, _, _, _, _, _, hskip, fun h => absurd h (by decide), fun _ => ⟨⟨by decide, by decide⟩, ?_⟩⟩
    exact ⟨_, _, _, _, _, _, _, _, _, _, _, _, _, _, _, _, h2, fun _ => ⟨_, fin', nx _ hinv hrun⟩, fun h => absurd h (by decide)⟩
  | neg g0 g1 g4 =>
    have gn : ¬ lsF (apL r c s.d A) s.k s.t (r - s.t) < 0 := by rw [g0]; omega
    rw [decide_eq_false gn, if_neg gn] at hskip
    have h2 := exch_no P (A := A) (b := finB r c s.t s.k) g0
    have h3 := neg_yes P (A := A) (b := finB r c s.t s.k) g1
    rw [← apL_snoc, ← apL_snoc, ← apCL_snoc] at h3
    refine ⟨_, _, _, _, _, _, _, _, _, _, _, _, _, _, _, _, hskip, fun h => absurd h (by decide), fun _ => ⟨⟨by decide, by decide⟩, ?_⟩⟩
    refine ⟨_, _, _, _, _, _, _, _, _, _, _, _, _, _, _, _, h2, fun h => absurd h (by decide), fun _ => ⟨⟨by decide, by decide⟩, ?_⟩⟩
    exact ⟨_, _, _, _, _, _, _, _, _, _, _, _, _, _, _, _, h3, fun _ => ⟨_, fin', nx _ hinv hrun⟩, fun h => absurd h (by decide)⟩
  | add i g0 g1 g4 ho hir hne hq =>
    have gn : ¬ lsF (apL r c s.d A) s.k s.t (r - s.t) < 0 := by rw [g0]; omega
    rw [decide_eq_false gn, if_neg gn] at hskip
    have h2 := exch_no P (A := A) (b := finB r c s.t s.k) g0
    have h3 := neg_no P (A := A) (b := finB r c s.t s.k) g1
    have h4 := red_yes P (A := A) (b := finB r c s.t s.k) (by omega) hir hne hq (opnL_inv ho).2.2.2
    rw [← apL_snoc, ← apL_snoc, ← apCL_snoc] at h4
    refine ⟨_, _, _, _, _, _, _, _, _, _, _, _, _, _, _, _, hskip, fun h => absurd h (by decide), fun _ => ⟨⟨by decide, by decide⟩, ?_⟩⟩
    refine ⟨_, _, _, _, _, _, _, _, _, _, _, _, _, _, _, _, h2, fun h => absurd h (by decide), fun _ => ⟨⟨by decide, by decide⟩, ?_⟩⟩
    refine ⟨_, _, _, _, _, _, _, _, _, _, _, _, _, _, _, _, h3, fun h => absurd h (by decide), fun _ => ⟨⟨by decide, by decide⟩, ?_⟩⟩
    exact ⟨_, _, _, _, _, _, _, _, _, _, _, _, _, _, _, _, h4, fun _ => ⟨_, fin', nx _ hinv hrun⟩, fun h => absurd h (by decide)⟩
  | adv g0 g1 ho hz =>
    have gn : ¬ lsF (apL r c s.d A) s.k s.t (r - s.t) < 0 := by rw [g0]; omega
    rw [decide_eq_false gn, if_neg gn] at hskip
    have h2 := exch_no P (A := A) (b := finB r c s.t s.k) g0
    have h3 := neg_no P (A := A) (b := finB r c s.t s.k) g1
    have h4 := red_no P (A := A) (b := finB r c s.t s.k) (by omega) hz
    have h5 := advance_ok P (A := A) (b := finB r c s.t s.k)
    refine ⟨_, _, _, _, _, _, _, _, _, _, _, _, _, _, _, _, hskip, fun h => absurd h (by decide), fun _ => ⟨⟨by decide, by decide⟩, ?_⟩⟩
    refine ⟨_, _, _, _, _, _, _, _, _, _, _, _, _, _, _, _, h2, fun h => absurd h (by decide), fun _ => ⟨⟨by decide, by decide⟩, ?_⟩⟩
    refine ⟨_, _, _, _, _, _, _, _, _, _, _, _, _, _, _, _, h3, fun h => absurd h (by decide), fun _ => ⟨⟨by decide, by decide⟩, ?_⟩⟩
    refine ⟨_, _, _, _, _, _, _, _, _, _, _, _, _, _, _, _, h4, fun h => absurd h (by decide), fun _ => ⟨⟨by decide, by decide⟩, ?_⟩⟩
    exact ⟨_, _, _, _, _, _, _, _, _, _, _, _, _, _, _, _, h5, fun _ => ⟨_, fin', nx _ hinv hrun⟩, fun h => absurd h (by decide)⟩
end
end Go.AM
/- torsionref21: next, Step, Cost, Same; package step: Cost. -/
namespace Go.AM
open Go.Proofs.Tryz
section
variable {r c N L : Nat} {A : List (List Int)} (X : PSx r c N L A)
include X
omit X in
def St0 (r c N : Nat) (A : List (List Int)) (p0 p1 p10 : Int) (p11 : List (List D)) (p12 p13 : Int) (p14 : Bool) (p2 : List (List D)) (p3 p4 : Int) (p5 : List (List D)) (p6 p7 : Int) (p8 : List (List D)) (p9 : Int) (s : PS) : Prop :=
  (p0 = r ∧ p1 = c ∧ p10 = r ∧ p11 = rows (apCL r s.d (idM r)) ∧ p12 = s.t ∧ p13 = s.k ∧ p14 = s.fin r c ∧ p2 = rows A ∧ p3 = r ∧ p4 = c ∧ p5 = rows (apL r c s.d A) ∧ p6 = r ∧ p7 = r ∧ p8 = rows (apL r r s.d (idM r)) ∧ p9 = r) ∧ PInv r c N A s
def IsCost (r c : Nat) (A : List (List Int)) (n : Nat) : Prop := (PS.run r c A n ⟨[], 0, 0⟩).fin r c = true ∧ ∀ k, k < n → (PS.run r c A k ⟨[], 0, 0⟩).fin r c = false
omit X in
theorem least_nat {p : Nat → Bool} : ∀ n, p n = true → ∃ k, k ≤ n ∧ p k = true ∧ ∀ j, j < k → p j = false
  | n, h => by
    by_cases he : ∃ j, j < n ∧ p j = true
    · obtain ⟨j, hj, hp⟩ := he
      obtain ⟨k, hk, h1, h2⟩ := least_nat j hp
      exact ⟨k, by omega, h1, h2⟩
    · refine ⟨n, Nat.le_refl _, h, fun j hj => ?_⟩
      cases hp : p j with
      | false => rfl
      | true => exact absurd ⟨j, hj, hp⟩ he
termination_by n => n
theorem pcost_ok {T : Nat} (hT : IsCost r c A T) (hTs : T ≤ 4611686018427387904) : FnD prog 15 [eM r c A] (vi T) [] := by
  refine vc15_ok _ _ _ (R := Out _) ?_
  unfold vc15
  refine ⟨_, _, _, _, _, _, _, _, _, _, _, _, _, _, _, pstart_ok X, ?_⟩
  refine ⟨fun p0 p1 p10 p11 p12 p13 p14 p2 p3 p4 p5 p6 p7 p8 p9 z => ∃ n : Nat, St0 r c N A p0 p1 p10 p11 p12 p13 p14 p2 p3 p4 p5 p6 p7 p8 p9 (PS.run r c A n ⟨[], 0, 0⟩) ∧ z = (n : Int) ∧ n ≤ T,
    fun _ _ _ _ _ _ _ _ _ _ _ _ _ _ _ z => ((T : Int) - z).toNat, ⟨0, ⟨⟨rfl, rfl, rfl, rfl, rfl, rfl, rfl, rfl, rfl, rfl, rfl, rfl, rfl, rfl, rfl⟩, PInv.start X.hm X.km⟩, rfl, by omega⟩, ?_⟩
  rintro _ _ _ _ _ _ _ _ _ _ _ _ _ _ _ _ ⟨n, ⟨⟨rfl, rfl, rfl, rfl, rfl, rfl, rfl, rfl, rfl, rfl, rfl, rfl, rfl, rfl, rfl⟩, hi⟩, rfl, hn⟩
  refine ⟨fun h => ?_, fun h => outi ?_⟩
  · have hf : (PS.run r c A n ⟨[], 0, 0⟩).fin r c = false := by simpa using h
    have hlt : n < T := by
      rcases Nat.lt_or_ge n T with h1 | h1
      · exact h1
      · rw [show n = T by omega, hT.1] at hf; exact absurd hf (by decide)
    have h1 := pstep_ok X hi (n0 := 1) (by decide)
    rw [show (1 : Int).toNat = 1 from rfl, ← PS.run_add] at h1
    refine ⟨_, _, _, _, _, _, _, _, _, _, _, _, _, _, _, h1, ?_⟩
    rw [inc64 (by omega)]
    exact ⟨⟨n + 1, ⟨⟨rfl, rfl, rfl, rfl, rfl, rfl, rfl, rfl, rfl, rfl, rfl, rfl, rfl, rfl, rfl⟩, PInv.run X.hm X.km _ (PInv.start X.hm X.km)⟩, rfl, by omega⟩, by show ((T : Int) - ((n + 1 : Nat) : Int)).toNat < ((T : Int) - (n : Int)).toNat; omega⟩
  · have hf : (PS.run r c A n ⟨[], 0, 0⟩).fin r c = true := by simpa using h
    have : n = T := by
      rcases Nat.lt_or_ge n T with h1 | h1
      · rw [hT.2 n h1] at hf; exact absurd hf (by decide)
      · omega
    rw [this]
end
theorem psame_ok {r c : Nat} {A m u v : List (List Int)} {t k : Nat} {b : Bool} (hA : Mx r c A) (hm : Mx r c m) (hu : Mx r r u) (hv : Mx r r v) (sA : SzM A) (sm : SzM m) (su : SzM u) (sv : SzM v) (hr : r ≤ 4294967296) (hc : c ≤ 4294967296) :
    FnD prog 11 [eP r c A m u v t k b, eP r c A m u v t k b] (vb true) [] := by
  refine vc11_ok _ _ _ _ _ _ _ _ _ _ _ _ _ _ _ _ _ _ _ _ _ _ _ _ _ _ _ _ _ _ (R := Out _) ?_
  unfold vc11
  have same : ∀ {c' : Nat} {x : List (List Int)}, Mx r c' x → SzM x → c' ≤ 4294967296 → FnD prog 22 [eM r c' x, eM r c' x] (vb true) [] := fun {c' x} hx sx hc' => by
    have := same_ok (r := r) (c := c') (r' := r) (c' := c') sx sx (by rw [hx.1]; exact hr) fun y hy => by rw [hx.2 y hy]; exact hc'
    rw [show decide ((r : Int) = r ∧ (c' : Int) = c' ∧ x = x) = true from decide_eq_true ⟨rfl, rfl, rfl⟩] at this
    exact this
  refine ⟨_, same hA sA hc, fun _ => ⟨_, same hm sm hc, fun _ => ⟨_, same hu su hr, fun _ => ⟨_, same hv sv hr, fun _ => ⟨fun _ => ⟨fun _ => outb ?_, fun h => ?_⟩, fun h => ?_⟩, fun h => absurd h (by decide)⟩, fun h => absurd h (by decide)⟩, fun h => absurd h (by decide)⟩, fun h => absurd h (by decide)⟩
  · simp
  · simp at h
  · simp at h
end Go.AM
/- What functions of the program come to: group Se. Printed by vc.py. -/
set_option maxRecDepth 100000
set_option linter.unusedVariables false
namespace Go.AM
open Go.Proofs.Tryz
def vc44 (a0 a1 : Int) (a2 : List (List D)) (rows cols : Int) (R : V → Heap → Prop) : Prop :=
 ∃ (r : Bool),
 (FnD prog 43 [vA [sD (dI a0), sD (dI a1), sD (dL a2)]] (vD (dB r)) []) ∧
 ((r = true →
 ((a0 == rows) = true →
 R (vD (dB (a1 == cols))) []) ∧
 ((a0 == rows) = false →
 R (vD (dB false)) [])) ∧
 (r = false →
 R (vD (dB false)) []))
theorem vc44_ok (a0 a1 : Int) (a2 : List (List D)) (rows cols : Int) {R : V → Heap → Prop} (h : vc44 a0 a1 a2 rows cols R) : FnG prog 44 [vA [sD (dI a0), sD (dI a1), sD (dL a2)], vD (dI rows), vD (dI cols)] [] R :=
  FnG.vcg hT func44 ntmps44 (.reg 1 [(0, Or.none, 0, 1)] [1, 2, 3] [0] [] <| .exb fun r => .ob (FnD prog 43 [vA [sD (dI a0), sD (dI a1), sD (dL a2)]] (vD (dB r)) []) <| .spl r (.spl ((a0 == rows)) (.reg 0 [(1, Or.call (vD (dB r)) [] [], 0, 0), (2, Or.bool true, 0, 0), (8, Or.bool true, 0, 0)] [6] [] [.old 2, .old 1, .old 0] <| .ret []) (.reg 0 [(1, Or.call (vD (dB r)) [] [], 0, 0), (2, Or.bool true, 0, 0), (8, Or.bool false, 0, 0)] [6] [] [.old 2, .old 1, .old 0] <| .ret [])) (.reg 0 [(1, Or.call (vD (dB r)) [] [], 0, 0), (2, Or.bool false, 0, 0)] [6] [] [.old 1, .old 0] <| .ret []))
    (by kernel_rfl) (by kernel_rfl) (by kernel_rfl) h
def vc45 (a0 a1 : Int) (a2 : List (List D)) (b0 b1 : Int) (b2 : List (List D)) (c0 c1 : Int) (c2 : List (List D)) (R : V → Heap → Prop) : Prop :=
 ∃ (r0 r1 : Int) (r2 : List (List D)) (r : Int),
 (FnD prog 79 [vA [sD (dI a0), sD (dI a1), sD (dL a2)], vA [sD (dI b0), sD (dI b1), sD (dL b2)]] (V.tup [E.agg [sD (dI r0), sD (dI r1), sD (dL r2)], eD (dI r)]) []) ∧
 (((r == (0 : Int)) = true →
 ∃ (r3 : Bool),
 (FnD prog 80 [vA [sD (dI r0), sD (dI r1), sD (dL r2)], vA [sD (dI c0), sD (dI c1), sD (dL c2)]] (vD (dB r3)) []) ∧
 (R (vD (dB r3)) [])) ∧
 ((r == (0 : Int)) = false →
 R (vD (dB false)) []))
theorem vc45_ok (a0 a1 : Int) (a2 : List (List D)) (b0 b1 : Int) (b2 : List (List D)) (c0 c1 : Int) (c2 : List (List D)) {R : V → Heap → Prop} (h : vc45 a0 a1 a2 b0 b1 b2 c0 c1 c2 R) : FnG prog 45 [vA [sD (dI a0), sD (dI a1), sD (dL a2)], vA [sD (dI b0), sD (dI b1), sD (dL b2)], vA [sD (dI c0), sD (dI c1), sD (dL c2)]] [] R :=
  FnG.vcg hT func45 ntmps45 (.reg 3 [(0, Or.none, 0, 1), (1, Or.none, 1, 1), (2, Or.none, 2, 1)] [3, 4, 5] [0, 1, 2] [] <| .ex fun r0 => .ex fun r1 => .exl fun r2 => .ex fun r => .reg 1 [(2, Or.call (V.tup [E.agg [sD (dI r0), sD (dI r1), sD (dL r2)], eD (dI r)]) [] [], 0, 0), (6, Or.none, 3, 1)] [5, 7, 8] [2, 3] [] <| .spl ((r == (0 : Int))) (.exb fun r3 => .reg 0 [(2, Or.bool true, 0, 0), (5, Or.call (vD (dB r3)) [] [], 0, 0)] [6] [] [.old 0] <| .ret []) (.reg 0 [(2, Or.bool false, 0, 0)] [6] [] [.old 0] <| .ret []))
    (by kernel_rfl) (by kernel_rfl) (by kernel_rfl) h
def vc47 (h0 h1 : Int) (h2 : List (List D)) (R : V → Heap → Prop) : Prop :=
 ∃ (r : Bool),
 (FnD prog 43 [vA [sD (dI h0), sD (dI h1), sD (dL h2)]] (vD (dB r)) []) ∧
 (((!r) = true →
 R (vD (dB false)) []) ∧
 ((!r) = false →
 ∃ (J0 : Int → Int → Prop) (μ0 : Int → Int → Nat),
 J0 (0 : Int) (-1 : Int) ∧ ∀ (t14 last : Int), J0 t14 last →
 (decide (t14 < (h2.length : Int)) = true →
 ∃ (vx : List (List D)),
 (0 ≤ t14 ∧ t14 < (h2.length : Int)) ∧
 (h2[(t14).toNat]? = some [dL vx]) ∧
 (∃ (r1 : Int),
 (FnD prog 84 [vD (dL vx)] (vD (dI r1)) []) ∧
 ((decide (r1 < (0 : Int)) = true →
 J0 (IntKind.i64.wrap (t14 + (1 : Int))) h1 ∧ μ0 (IntKind.i64.wrap (t14 + (1 : Int))) h1 < μ0 t14 last) ∧
 (decide (r1 < (0 : Int)) = false →
 (decide (r1 ≤ last) = true →
 R (vD (dB false)) []) ∧
 (decide (r1 ≤ last) = false →
 ∃ (x0 : Bool) (x1 : List (List D)) (r2 : Int),
 (0 ≤ r1 ∧ r1 < (vx.length : Int)) ∧
 (vx[(r1).toNat]? = some [dB x0, dL x1]) ∧
 (FnD prog 83 [vA [sD (dB x0), sD (dL x1)]] (vD (dI r2)) []) ∧
 ((decide (r2 < (0 : Int)) = true →
 R (vD (dB false)) []) ∧
 (decide (r2 < (0 : Int)) = false →
 ∃ (r3 : Bool),
 (0 ≤ t14 ∧ t14 ≤ (h2.length : Int)) ∧
 (FnD prog 87 [vD (dL (h2.take (t14).toNat)), vD (D.fn (.func 85) [D.box [dI r1], D.box [dL vx]])] (vD (dB r3)) []) ∧
 ((r3 = true →
 R (vD (dB false)) []) ∧
 (r3 = false →
 J0 (IntKind.i64.wrap (t14 + (1 : Int))) r1 ∧ μ0 (IntKind.i64.wrap (t14 + (1 : Int))) r1 < μ0 t14 last))))))))) ∧
 (decide (t14 < (h2.length : Int)) = false →
 R (vD (dB true)) [])))
theorem vc47_ok (h0 h1 : Int) (h2 : List (List D)) {R : V → Heap → Prop} (h : vc47 h0 h1 h2 R) : FnG prog 47 [vA [sD (dI h0), sD (dI h1), sD (dL h2)]] [] R :=
  FnG.vcg hT func47 ntmps47 (.reg 1 [(0, Or.none, 0, 1)] [1] [0] [] <| .exb fun r => .reg 0 [(1, Or.call (vD (dB r)) [] [], 0, 0)] [1, 10] [0] [] <| .c2 (.r0 [2] <| .ret []) (.r1 [1, 3] [0] <| .r1 [1, 3, 12, 13, 14] [0] <| .lp [.i, .i] (fun t14 last => ⟨[(1, vP 0 0), (3, vD (dI last)), (12, vD (dL h2)), (13, vD (dI (h2.length : Int))), (14, vD (dI t14))], [some (Obj.box [sD (dI h0), sD (dI h1), sD (dL h2)])], 45⟩) [.i (0 : Int), .i (-1 : Int)] <| .fi fun t14 => .fi fun last => .beg <| .r1 [1, 3, 12, 13, 14, 15] [0] <| .c2 (.exl fun vx => .reg 1 [(2, Or.cells [dL vx], 0, 0), (3, Or.none, 1, 1)] [1, 3, 4, 5, 12, 13, 14] [0, 1] [] <| .ex fun r1 => .reg 1 [(1, Or.call (vD (dI r1)) [] [], 0, 0), (2, Or.none, 2, 1)] [1, 3, 4, 5, 6, 12, 13, 14] [0, 1, 2] [] <| .r1 [1, 3, 4, 5, 6, 12, 13, 14, 22] [0, 1, 2] <| .c2 (.r1 [1, 3, 12, 13, 14] [0] <| .r1 [1, 3, 12, 13, 14] [0] <| .bk 0 [.i (IntKind.i64.wrap (t14 + (1 : Int))), .i h1]) (.spl ((decide (r1 ≤ last))) (.reg 0 [(3, Or.bool true, 0, 0)] [1, 4, 5, 6, 12, 13, 14, 35] [0, 1, 2] [.old 0] <| .ct true none <| .r0 [2] <| .ret []) (.exb fun x0 => .exl fun x1 => .ex fun r2 => .reg 0 [(3, Or.bool false, 0, 0), (7, Or.cells [dB x0, dL x1], 0, 0), (8, Or.call (vD (dI r2)) [] [], 0, 0)] [1, 4, 5, 6, 12, 13, 14, 35] [0, 1, 2] [.old 0] <| .c2 (.r0 [2] <| .ret []) (.r1 [1, 4, 6, 7, 12, 13, 14] [0, 2, 1] <| .frz [1, 2] <| .exb fun r3 => .reg 0 [(5, Or.call (vD (dB r3)) [] [], 0, 0)] [1, 6, 12, 13, 14, 42] [0] [] <| .c2 (.r0 [2] <| .ret []) (.r1 [1, 3, 12, 13, 14] [0] <| .r1 [1, 3, 12, 13, 14] [0] <| .bk 0 [.i (IntKind.i64.wrap (t14 + (1 : Int))), .i r1]))))) (.r0 [2] <| .ret [])))
    (by kernel_rfl) (by kernel_rfl) (by kernel_rfl) h
def vc84 (v : List (List D)) (R : V → Heap → Prop) : Prop :=
 ∃ (r : Int),
 (FnD prog 111 [vD (dL v), vD (D.fn (.func 112) ([] : List D))] (vD (dI r)) []) ∧
 (R (vD (dI r)) [])
theorem vc84_ok (v : List (List D)) {R : V → Heap → Prop} (h : vc84 v R) : FnG prog 84 [vD (dL v)] [] R :=
  FnG.vcg hT func84 ntmps84 (.r0 [0] <| .ex fun r => .reg 0 [(1, Or.call (vD (dI r)) [] [], 0, 0)] [2] [] [] <| .ret [])
    (by kernel_rfl) (by kernel_rfl) (by kernel_rfl) h
def vc85 (u : List (List D)) (c0 : Int) (c1 : List (List D)) (R : V → Heap → Prop) : Prop :=
 ∃ (x0 : Bool) (x1 : List (List D)) (r : Int),
 (0 ≤ c0 ∧ c0 < (u.length : Int)) ∧
 (u[(c0).toNat]? = some [dB x0, dL x1]) ∧
 (FnD prog 83 [vA [sD (dB x0), sD (dL x1)]] (vD (dI r)) []) ∧
 ((decide (r < (0 : Int)) = true →
 R (vD (dB true)) []) ∧
 (decide (r < (0 : Int)) = false →
 ∃ (x01 : Bool) (x11 : List (List D)) (r1 : Int),
 (0 ≤ c0 ∧ c0 < (c1.length : Int)) ∧
 (c1[(c0).toNat]? = some [dB x01, dL x11]) ∧
 (FnD prog 86 [vA [sD (dB x0), sD (dL x1)], vA [sD (dB x01), sD (dL x11)]] (vD (dI r1)) []) ∧
 (R (vD (dB (decide (r1 ≥ (0 : Int))))) [])))
theorem vc85_ok (u : List (List D)) (c0 : Int) (c1 : List (List D)) {R : V → Heap → Prop} (h : vc85 u c0 c1 R) : FnG prog 85 [vD (dL u), vD (D.box [dI c0]), vD (D.box [dL c1])] [] R :=
  FnG.vcg hT func85 ntmps85 (.r0 [0, 1, 2] <| .exb fun x0 => .exl fun x1 => .ex fun r => .ob (0 ≤ c0 ∧ c0 < (u.length : Int)) <| .ob (u[(c0).toNat]? = some [dB x0, dL x1]) <| .ob (FnD prog 83 [vA [sD (dB x0), sD (dL x1)]] (vD (dI r)) []) <| .spl ((decide (r < (0 : Int)))) (.drw 0 [(3, (Or.cells [dB x0, dL x1], 0, 0), []), (4, (Or.call (vD (dI r)) [] [], 0, 0), []), (6, (Or.bool true, 0, 0), [])] [4] [] [.old 3, .old 2, .old 1, .old 0] <| .ret []) (.exb fun x01 => .exl fun x11 => .ex fun r1 => .drw 0 [(3, (Or.cells [dB x0, dL x1], 0, 0), []), (4, (Or.call (vD (dI r)) [] [], 0, 0), []), (6, (Or.bool false, 0, 0), []), (10, (Or.cells [dB x0, dL x1], 0, 0), []), (14, (Or.cells [dB x01, dL x11], 0, 0), []), (15, (Or.call (vD (dI r1)) [] [], 0, 0), [])] [4] [] [.old 3, .old 2, .old 1, .old 0, .old 3, .old 2] <| .ret []))
    (by kernel_rfl) (by kernel_rfl) (by kernel_rfl) h
def vc87 (s : List (List D)) (f : FuncId) (fc : List D) (R : V → Heap → Prop) : Prop :=
 ∃ (r : Int),
 (FnD prog 114 [vD (dL s), vD (D.fn (.func f) fc)] (vD (dI r)) []) ∧
 (R (vD (dB (decide (r ≥ (0 : Int))))) [])
theorem vc87_ok (s : List (List D)) (f : FuncId) (fc : List D) {R : V → Heap → Prop} (h : vc87 s f fc R) : FnG prog 87 [vD (dL s), vD (D.fn (.func f) fc)] [] R :=
  FnG.vcg hT func87 ntmps87 (.r0 [0, 1] <| .ex fun r => .reg 0 [(2, Or.call (vD (dI r)) [] [], 0, 0)] [4] [] [] <| .ret [])
    (by kernel_rfl) (by kernel_rfl) (by kernel_rfl) h
def vc112 (x0 : Bool) (x1 : List (List D)) (R : V → Heap → Prop) : Prop :=
 ∃ (r : Int),
 (FnD prog 83 [vA [sD (dB x0), sD (dL x1)]] (vD (dI r)) []) ∧
 (R (vD (dB (r != (0 : Int)))) [])
theorem vc112_ok (x0 : Bool) (x1 : List (List D)) {R : V → Heap → Prop} (h : vc112 x0 x1 R) : FnG prog 112 [vA [sD (dB x0), sD (dL x1)]] [] R :=
  FnG.vcg hT func112 ntmps112 (.reg 1 [(0, Or.none, 0, 1)] [1] [0] [] <| .ex fun r => .reg 0 [(1, Or.call (vD (dI r)) [] [], 0, 0)] [2] [] [] <| .ret [])
    (by kernel_rfl) (by kernel_rfl) (by kernel_rfl) h
def vc114 (s : List (List D)) (f : FuncId) (fc : List D) (R : V → Heap → Prop) : Prop :=
 ∃ (J0 : Int → Prop) (μ0 : Int → Nat),
 J0 (0 : Int) ∧ ∀ (t8 : Int), J0 t8 →
 (decide (t8 < (s.length : Int)) = true →
 ∃ (vx : List (List D)) (r : Bool),
 (0 ≤ t8 ∧ t8 < (s.length : Int)) ∧
 (s[(t8).toNat]? = some [dL vx]) ∧
 (FnD prog f ([vD (dL vx)] ++ fc.map dV) (vD (dB r)) []) ∧
 ((r = true →
 R (vD (dI t8)) []) ∧
 (r = false →
 J0 (IntKind.i64.wrap (t8 + (1 : Int))) ∧ μ0 (IntKind.i64.wrap (t8 + (1 : Int))) < μ0 t8))) ∧
 (decide (t8 < (s.length : Int)) = false →
 R (vD (dI (-1 : Int))) [])
theorem vc114_ok (s : List (List D)) (f : FuncId) (fc : List D) {R : V → Heap → Prop} (h : vc114 s f fc R) : FnG prog 114 [vD (dL s), vD (D.fn (.func f) fc)] [] R :=
  FnG.vcg hT func114 ntmps114 (.r0 [0, 1] <| .r0 [0, 1, 7, 8] <| .lp [.i] (fun t8 => ⟨[(0, vD (dL s)), (1, vD (D.fn (.func f) fc)), (7, vD (dI (s.length : Int))), (8, vD (dI t8))], [], 19⟩) [.i (0 : Int)] <| .fi fun t8 => .beg <| .r0 [0, 1, 7, 8, 9] <| .c2 (.r0 [0, 1, 5, 7, 8] <| .exl fun vx => .exb fun r => .reg 0 [(4, Or.cells [dL vx], 0, 0), (5, Or.call (vD (dB r)) [] [], 0, 0)] [0, 1, 5, 7, 8, 16] [] [] <| .c2 (.r0 [4] <| .ret []) (.r0 [0, 1, 7, 8] <| .bk 0 [.i (IntKind.i64.wrap (t8 + (1 : Int)))])) (.r0 [4] <| .ret []))
    (by kernel_rfl) (by kernel_rfl) (by kernel_rfl) h
def vc19 (p0 p1 : Int) (p2 : List (List D)) (p3 p4 : Int) (p5 : List (List D)) (p6 p7 : Int) (p8 : List (List D)) (p9 p10 : Int) (p11 : List (List D)) (p12 p13 : Int) (p14 : Bool) (R : V → Heap → Prop) : Prop :=
 ∃ (r : Bool),
 (FnD prog 43 [vA [sD (dI p0), sD (dI p1), sD (dL p2)]] (vD (dB r)) []) ∧
 (((!r) = true →
 R (vD (dB false)) []) ∧
 ((!r) = false →
 ∃ (r1 : Bool),
 (FnD prog 44 [vA [sD (dI p3), sD (dI p4), sD (dL p5)], vD (dI p0), vD (dI p1)] (vD (dB r1)) []) ∧
 (((!r1) = true →
 R (vD (dB false)) []) ∧
 ((!r1) = false →
 ∃ (r2 : Bool),
 (FnD prog 44 [vA [sD (dI p6), sD (dI p7), sD (dL p8)], vD (dI p0), vD (dI p0)] (vD (dB r2)) []) ∧
 (((!r2) = true →
 R (vD (dB false)) []) ∧
 ((!r2) = false →
 ∃ (r3 : Bool),
 (FnD prog 44 [vA [sD (dI p9), sD (dI p10), sD (dL p11)], vD (dI p0), vD (dI p0)] (vD (dB r3)) []) ∧
 (((!r3) = true →
 R (vD (dB false)) []) ∧
 ((!r3) = false →
 (decide (p12 < (0 : Int)) = true →
 R (vD (dB false)) []) ∧
 (decide (p12 < (0 : Int)) = false →
 (decide (p12 > p0) = true →
 R (vD (dB false)) []) ∧
 (decide (p12 > p0) = false →
 (decide (p13 < p12) = true →
 R (vD (dB false)) []) ∧
 (decide (p13 < p12) = false →
 (decide (p13 > p1) = true →
 R (vD (dB false)) []) ∧
 (decide (p13 > p1) = false →
 ∃ (r4 : Bool),
 (FnD prog 29 [vA [sD (dI p0), sD (dI p1), sD (dL p2), sD (dI p3), sD (dI p4), sD (dL p5), sD (dI p6), sD (dI p7), sD (dL p8), sD (dI p9), sD (dI p10), sD (dL p11), sD (dI p12), sD (dI p13), sD (dB p14)]] (vD (dB r4)) []) ∧
 (((!(p14 == r4)) = true →
 R (vD (dB false)) []) ∧
 ((!(p14 == r4)) = false →
 ∃ (r5 : Bool),
 (FnD prog 45 [vA [sD (dI p6), sD (dI p7), sD (dL p8)], vA [sD (dI p0), sD (dI p1), sD (dL p2)], vA [sD (dI p3), sD (dI p4), sD (dL p5)]] (vD (dB r5)) []) ∧
 (((!r5) = true →
 R (vD (dB false)) []) ∧
 ((!r5) = false →
 ∃ (r0 r11 : Int) (r21 : List (List D)) (r6 : Bool),
 (FnD prog 28 [vD (dI p0)] (vA [sD (dI r0), sD (dI r11), sD (dL r21)]) []) ∧
 (FnD prog 45 [vA [sD (dI p6), sD (dI p7), sD (dL p8)], vA [sD (dI p9), sD (dI p10), sD (dL p11)], vA [sD (dI r0), sD (dI r11), sD (dL r21)]] (vD (dB r6)) []) ∧
 (((!r6) = true →
 R (vD (dB false)) []) ∧
 ((!r6) = false →
 ∃ (J0 : (List (List D)) → Int → Prop) (μ0 : (List (List D)) → Int → Nat),
 J0 ([] : List (List D)) (0 : Int) ∧ ∀ (o2 : List (List D)) (t101 : Int), J0 o2 t101 →
 (decide (t101 < (p5.length : Int)) = true →
 ∃ (vx : List (List D)),
 (0 ≤ t101 ∧ t101 < (p5.length : Int)) ∧
 (p5[(t101).toNat]? = some [dL vx]) ∧
 (∃ (r7 : Bool),
 (0 ≤ p13 ∧ p13 ≤ (vx.length : Int)) ∧
 (FnD prog 46 [vD (dL (vx.take (p13).toNat))] (vD (dB r7)) []) ∧
 (((!(r7 == (decide (t101 ≥ p12)))) = true →
 R (vD (dB false)) []) ∧
 ((!(r7 == (decide (t101 ≥ p12)))) = false →
 (decide (t101 < p12) = true →
 ((o2.length + ([[dL (vx.take (p13).toNat)]] : List (List D)).length) * 24 ≤ 140737488355328) ∧
 (J0 (o2 ++ [[dL (vx.take (p13).toNat)]]) (IntKind.i64.wrap (t101 + (1 : Int))) ∧ μ0 (o2 ++ [[dL (vx.take (p13).toNat)]]) (IntKind.i64.wrap (t101 + (1 : Int))) < μ0 o2 t101)) ∧
 (decide (t101 < p12) = false →
 J0 o2 (IntKind.i64.wrap (t101 + (1 : Int))) ∧ μ0 o2 (IntKind.i64.wrap (t101 + (1 : Int))) < μ0 o2 t101))))) ∧
 (decide (t101 < (p5.length : Int)) = false →
 ∃ (r8 : Bool),
 (FnD prog 47 [vA [sD (dI p12), sD (dI p13), sD (dL o2)]] (vD (dB r8)) []) ∧
 (R (vD (dB r8)) []))))))))))))))))))))
theorem vc19_ok (p0 p1 : Int) (p2 : List (List D)) (p3 p4 : Int) (p5 : List (List D)) (p6 p7 : Int) (p8 : List (List D)) (p9 p10 : Int) (p11 : List (List D)) (p12 p13 : Int) (p14 : Bool) {R : V → Heap → Prop} (h : vc19 p0 p1 p2 p3 p4 p5 p6 p7 p8 p9 p10 p11 p12 p13 p14 R) : FnG prog 19 [vA [sD (dI p0), sD (dI p1), sD (dL p2), sD (dI p3), sD (dI p4), sD (dL p5), sD (dI p6), sD (dI p7), sD (dL p8), sD (dI p9), sD (dI p10), sD (dL p11), sD (dI p12), sD (dI p13), sD (dB p14)]] [] R :=
  FnG.vcg hT func19 ntmps19 (.reg 1 [(0, Or.none, 0, 1)] [1] [0] [] <| .r1 [1, 3] [0] <| .exb fun r => .ob (FnD prog 43 [vA [sD (dI p0), sD (dI p1), sD (dL p2)]] (vD (dB r)) []) <| .spl ((!r)) (.drw 0 [(2, (Or.call (vD (dB r)) [] [], 0, 0), []), (4, (Or.bool true, 0, 0), [])] [1, 3, 73] [0] [.old 1, .old 0] <| .ct true none <| .r0 [2] <| .ret []) (.exb fun r1 => .ob (FnD prog 44 [vA [sD (dI p3), sD (dI p4), sD (dL p5)], vD (dI p0), vD (dI p1)] (vD (dB r1)) []) <| .spl ((!r1)) (.drw 0 [(2, (Or.call (vD (dB r)) [] [], 0, 0), []), (4, (Or.bool false, 0, 0), []), (11, (Or.call (vD (dB r1)) [] [], 0, 0), []), (14, (Or.bool true, 0, 0), [])] [1, 3, 73] [0] [.old 3, .old 2, .old 1, .old 0] <| .ct true none <| .r0 [2] <| .ret []) (.exb fun r2 => .ob (FnD prog 44 [vA [sD (dI p6), sD (dI p7), sD (dL p8)], vD (dI p0), vD (dI p0)] (vD (dB r2)) []) <| .spl ((!r2)) (.drw 0 [(2, (Or.call (vD (dB r)) [] [], 0, 0), []), (4, (Or.bool false, 0, 0), []), (11, (Or.call (vD (dB r1)) [] [], 0, 0), []), (14, (Or.bool false, 0, 0), []), (19, (Or.call (vD (dB r2)) [] [], 0, 0), []), (22, (Or.bool true, 0, 0), [])] [1, 3, 73] [0] [.old 5, .old 4, .old 3, .old 2, .old 1, .old 0] <| .ct true none <| .r0 [2] <| .ret []) (.exb fun r3 => .ob (FnD prog 44 [vA [sD (dI p9), sD (dI p10), sD (dL p11)], vD (dI p0), vD (dI p0)] (vD (dB r3)) []) <| .spl ((!r3)) (.drw 0 [(2, (Or.call (vD (dB r)) [] [], 0, 0), []), (4, (Or.bool false, 0, 0), []), (11, (Or.call (vD (dB r1)) [] [], 0, 0), []), (14, (Or.bool false, 0, 0), []), (19, (Or.call (vD (dB r2)) [] [], 0, 0), []), (22, (Or.bool false, 0, 0), []), (27, (Or.call (vD (dB r3)) [] [], 0, 0), []), (30, (Or.bool true, 0, 0), [])] [1, 3, 73] [0] [.old 7, .old 6, .old 5, .old 4, .old 3, .old 2, .old 1, .old 0] <| .ct true none <| .r0 [2] <| .ret []) (.spl ((decide (p12 < (0 : Int)))) (.drw 0 [(2, (Or.call (vD (dB r)) [] [], 0, 0), []), (4, (Or.bool false, 0, 0), []), (11, (Or.call (vD (dB r1)) [] [], 0, 0), []), (14, (Or.bool false, 0, 0), []), (19, (Or.call (vD (dB r2)) [] [], 0, 0), []), (22, (Or.bool false, 0, 0), []), (27, (Or.call (vD (dB r3)) [] [], 0, 0), []), (30, (Or.bool false, 0, 0), []), (35, (Or.bool true, 0, 0), [])] [1, 3, 73] [0] [.old 8, .old 7, .old 6, .old 5, .old 4, .old 3, .old 2, .old 1, .old 0] <| .ct true none <| .r0 [2] <| .ret []) (.spl ((decide (p12 > p0))) (.drw 0 [(2, (Or.call (vD (dB r)) [] [], 0, 0), []), (4, (Or.bool false, 0, 0), []), (11, (Or.call (vD (dB r1)) [] [], 0, 0), []), (14, (Or.bool false, 0, 0), []), (19, (Or.call (vD (dB r2)) [] [], 0, 0), []), (22, (Or.bool false, 0, 0), []), (27, (Or.call (vD (dB r3)) [] [], 0, 0), []), (30, (Or.bool false, 0, 0), []), (35, (Or.bool false, 0, 0), []), (41, (Or.bool true, 0, 0), [])] [1, 3, 73] [0] [.old 9, .old 8, .old 7, .old 6, .old 5, .old 4, .old 3, .old 2, .old 1, .old 0] <| .ct true none <| .r0 [2] <| .ret []) (.spl ((decide (p13 < p12))) (.drw 0 [(2, (Or.call (vD (dB r)) [] [], 0, 0), []), (4, (Or.bool false, 0, 0), []), (11, (Or.call (vD (dB r1)) [] [], 0, 0), []), (14, (Or.bool false, 0, 0), []), (19, (Or.call (vD (dB r2)) [] [], 0, 0), []), (22, (Or.bool false, 0, 0), []), (27, (Or.call (vD (dB r3)) [] [], 0, 0), []), (30, (Or.bool false, 0, 0), []), (35, (Or.bool false, 0, 0), []), (41, (Or.bool false, 0, 0), []), (48, (Or.bool true, 0, 0), [])] [1, 3, 73] [0] [.old 10, .old 9, .old 8, .old 7, .old 6, .old 5, .old 4, .old 3, .old 2, .old 1, .old 0] <| .ct true none <| .r0 [2] <| .ret []) (.spl ((decide (p13 > p1))) (.drw 0 [(2, (Or.call (vD (dB r)) [] [], 0, 0), []), (4, (Or.bool false, 0, 0), []), (11, (Or.call (vD (dB r1)) [] [], 0, 0), []), (14, (Or.bool false, 0, 0), []), (19, (Or.call (vD (dB r2)) [] [], 0, 0), []), (22, (Or.bool false, 0, 0), []), (27, (Or.call (vD (dB r3)) [] [], 0, 0), []), (30, (Or.bool false, 0, 0), []), (35, (Or.bool false, 0, 0), []), (41, (Or.bool false, 0, 0), []), (48, (Or.bool false, 0, 0), []), (56, (Or.bool true, 0, 0), [])] [1, 3, 73] [0] [.old 11, .old 10, .old 9, .old 8, .old 7, .old 6, .old 5, .old 4, .old 3, .old 2, .old 1, .old 0] <| .ct true none <| .r0 [2] <| .ret []) (.exb fun r4 => .drw 0 [(2, (Or.call (vD (dB r)) [] [], 0, 0), []), (4, (Or.bool false, 0, 0), []), (11, (Or.call (vD (dB r1)) [] [], 0, 0), []), (14, (Or.bool false, 0, 0), []), (19, (Or.call (vD (dB r2)) [] [], 0, 0), []), (22, (Or.bool false, 0, 0), []), (27, (Or.call (vD (dB r3)) [] [], 0, 0), []), (30, (Or.bool false, 0, 0), []), (35, (Or.bool false, 0, 0), []), (41, (Or.bool false, 0, 0), []), (48, (Or.bool false, 0, 0), []), (56, (Or.bool false, 0, 0), []), (60, (Or.call (vD (dB r4)) [] [], 0, 0), [])] [1, 3, 73] [0] [.old 11, .old 10, .old 9, .old 8, .old 7, .old 6, .old 5, .old 4, .old 3, .old 2, .old 1, .old 0] <| .c2 (.r0 [2] <| .ret []) (.exb fun r5 => .ob (FnD prog 45 [vA [sD (dI p6), sD (dI p7), sD (dL p8)], vA [sD (dI p0), sD (dI p1), sD (dL p2)], vA [sD (dI p3), sD (dI p4), sD (dL p5)]] (vD (dB r5)) []) <| .spl ((!r5)) (.drw 0 [(6, (Or.call (vD (dB r5)) [] [], 0, 0), []), (8, (Or.bool true, 0, 0), [])] [1, 91] [0] [.old 1, .old 0] <| .ct true none <| .r0 [2] <| .ret []) (.ex fun r0 => .ex fun r11 => .exl fun r21 => .exb fun r6 => .drw 0 [(6, (Or.call (vD (dB r5)) [] [], 0, 0), []), (8, (Or.bool false, 0, 0), []), (14, (Or.call (vA [sD (dI r0), sD (dI r11), sD (dL r21)]) [] [], 0, 0), []), (15, (Or.call (vD (dB r6)) [] [], 0, 0), [])] [1, 91] [0] [.old 1, .old 0] <| .c2 (.r0 [2] <| .ret []) (.reg 1 [(5, Or.none, 1, 1)] [1, 4] [0, 1] [] <| .r1 [1, 4, 99, 100, 101] [0, 1] <| .ado [] [1] 1 <| .lp [.l, .i] (fun o2 t101 => ⟨[(1, vP 0 0), (4, vP 1 0), (99, vD (dL p5)), (100, vD (dI (p5.length : Int))), (101, vD (dI t101))], [some (Obj.box [sD (dI p0), sD (dI p1), sD (dL p2), sD (dI p3), sD (dI p4), sD (dL p5), sD (dI p6), sD (dI p7), sD (dL p8), sD (dI p9), sD (dI p10), sD (dL p11), sD (dI p12), sD (dI p13), sD (dB p14)]), some (Obj.box [sD (dI p12), sD (dI p13), S.ref 2]), some (Obj.arr 1 o2)], 135⟩) [.l ([] : List (List D)), .i (0 : Int)] <| .fl fun o2 => .fi fun t101 => .beg <| .r1 [1, 4, 99, 100, 101, 102] [0, 1, 2] <| .c2 (.exl fun vx => .reg 0 [(2, Or.cells [dL vx], 0, 0)] [1, 4, 5, 6, 99, 100, 101] [0, 1, 2] [] <| .exb fun r7 => .reg 0 [(4, Or.call (vD (dB r7)) [] [], 0, 0)] [1, 4, 5, 6, 7, 99, 100, 101] [0, 1, 2] [] <| .r1 [1, 4, 5, 6, 99, 100, 101, 111] [0, 1, 2] <| .c2 (.r0 [2] <| .ret []) (.r1 [1, 4, 6, 99, 100, 101, 118] [0, 1, 2] <| .c2 (.drw 2 [(6, (Or.none, 3, 1), [3]), (7, (Or.none, 4, 1), [2, 4]), (9, (Or.none, 0, 0), [1])] [1, 4, 99, 100, 101] [0, 1, 4] [.old 3] <| .r1 [1, 4, 99, 100, 101] [0, 1, 2] <| .bk 0 [.l (o2 ++ [[dL (vx.take (p13).toNat)]]), .i (IntKind.i64.wrap (t101 + (1 : Int)))]) (.r1 [1, 4, 99, 100, 101] [0, 1, 2] <| .bk 0 [.l o2, .i (IntKind.i64.wrap (t101 + (1 : Int)))]))) (.frz [2] <| .exb fun r8 => .reg 0 [(1, Or.call (vD (dB r8)) [] [], 0, 0)] [2] [] [] <| .ret [])))))))))))))
    (by kernel_rfl) (by kernel_rfl) (by kernel_rfl) h
end Go.AM
/- Hermite normal forms: what the tests answer; products of great numbers. -/
namespace Go.AM
open Go.Proofs.Tryz
section
variable {K : Nat} (hS : ∀ y : Int, y.natAbs ≤ 4294967296 * (K * K) → Sz y)
include hS
theorem bigK {y : Int} (h : y.natAbs ≤ K) : Sz y := hS y (Nat.le_trans (Nat.le_trans h (kk_le K)) (Nat.le_mul_of_pos_left _ (by decide)))
theorem bigKK {y : Int} (h : y.natAbs ≤ K * K) : Sz y := hS y (Nat.le_trans h (Nat.le_mul_of_pos_left _ (by decide)))
theorem foldB {a b : List Int} (hab : a.length = b.length) (ha : BdR K a) (hb : BdR K b) (hl : a.length ≤ 4294967296) :
    FnD prog 122 [vs (row a), vs (row b), eI 0, .e (.sc (.dat (.fn (.func 123) ([] : List D))))] (eI (dsum (elr a) (elr b) a.length)) [] := by
  have hnK : ∀ n, n ≤ a.length → n * (K * K) ≤ 4294967296 * (K * K) := fun n hn => Nat.mul_le_mul_right _ (by omega)
  refine vc122_ok _ _ _ _ _ _ (R := Out _) ?_
  unfold vc122
  simp only [row_length]
  refine ⟨fun o0 o1 t => ∃ i : Nat, t = (i : Int) ∧ i ≤ a.length ∧ o0 = decide (dsum (elr a) (elr b) i < 0) ∧ o1 = lim (dz (dsum (elr a) (elr b) i)), fun _ _ t => ((a.length : Int) - t).toNat, ⟨0, rfl, by omega, rfl, rfl⟩, ?_⟩
  rintro _ _ _ ⟨i, rfl, hi, rfl, rfl⟩
  refine ⟨fun h => ?_, fun h => ?_⟩
  · have hia : i < a.length := by simpa using h
    have hib : i < b.length := by omega
    have hs : Sz (dsum (elr a) (elr b) i) := hS _ (Nat.le_trans (dsum_le (K := K) (L := K) i (fun k hk => ha _ (elr_mem (by omega))) fun k hk => hb _ (elr_mem (by omega))) (hnK i hi))
    have hx := ha _ (elr_mem hia)
    have hy := hb _ (elr_mem hib)
    refine ⟨_, _, _, _, decide (dsum (elr a) (elr b) (i + 1) < 0), lim (dz (dsum (elr a) (elr b) (i + 1))), ⟨by omega, by omega⟩, row_getN hia, ⟨by omega, by omega⟩, row_getN hib, dstep_ok hs (bigK hS hx) (bigK hS hy) (bigKK hS (mul_natAbs_le hx hy)), ?_⟩
    rw [inc64 (by omega)]
    exact ⟨⟨i + 1, rfl, by omega, rfl, rfl⟩, by show ((a.length : Int) - ((i + 1 : Nat) : Int)).toNat < ((a.length : Int) - (i : Int)).toNat; omega⟩
  · have hia : i = a.length := by have : a.length ≤ i := by simpa using h
                                  omega
    subst hia
    exact ⟨rfl, rfl⟩
theorem dotB {a b : List Int} (hab : a.length = b.length) (ha : BdR K a) (hb : BdR K b) (hl : a.length ≤ 4294967296) :
    FnD prog 105 [vs (row a), vs (row b)] (eI (dsum (elr a) (elr b) a.length)) [] := by
  refine vc105_ok _ _ (R := Out _) ?_
  unfold vc105
  exact ⟨_, _, foldB hS hab ha hb hl, rfl, rfl⟩
theorem mmulB {r n c : Nat} {a b : List (List Int)} (ha : Mx r n a) (hb : Mx n c b) (ka : BdM K a) (kb : BdM K b) (hr : r ≤ 4294967296) (hn : n ≤ 4294967296) (hc : c ≤ 4294967296) :
    FnD prog 79 [eM r n a, eM n c b] (eME r c (mmul r n c a b) 0) [] := by
  refine vc79_ok _ _ _ _ _ _ (R := Out _) ?_
  unfold vc79
  refine ⟨fun h => by simp at h, fun _ => ⟨_, _, _, transpose_ok hb hn hc, _, _, _, build_ok hr hc (g := fun i j => dsum (fun k => el a i k) (fun k => el b k j) n) fun i j hi hj => ?_, rfl, rfl⟩⟩
  refine vc104_ok _ _ _ _ _ _ _ _ (R := Out _) ?_
  unfold vc104
  have h1 : i < a.length := by rw [ha.1]; exact hi
  have h2 : j < (table c n fun i j => el b j i).length := by simp [table, hj]
  have hla : (a.getD i []).length = n := ha.2 _ (getD_mem h1)
  have hlb : ((table c n fun i j => el b j i).getD j []).length = n := by rw [getD_table hj]; simp [tableR]
  have hba : BdR K (a.getD i []) := ka _ (getD_mem h1)
  have hbb : BdR K ((table c n fun i j => el b j i).getD j []) := table_bd (fun i j hi hj => el_bd hb kb hj hi) _ (getD_mem h2)
  refine ⟨_, _, decide (dsum (fun k => el a i k) (fun k => el b k j) n < 0), lim (dz (dsum (fun k => el a i k) (fun k => el b k j) n)), ⟨by omega, by rw [rows_length]; omega⟩, rows_getN h1, ⟨by omega, by rw [rows_length]; omega⟩, rows_getN h2, ?_, rfl, rfl⟩
  have := dotB hS (hla.trans hlb.symm) hba hbb (by omega)
  have e : dsum (elr (a.getD i [])) (elr ((table c n fun i j => el b j i).getD j [])) (a.getD i []).length = dsum (fun k => el a i k) (fun k => el b k j) n := by
    rw [hla]
    refine dsum_congr n (fun k hk => rfl) fun k hk => ?_
    rw [getD_table hj, elr_tableR hk]
  rw [e] at this
  exact this
theorem m5mulB {r n c : Nat} {a b : List (List Int)} (ha : Mx r n a) (hb : Mx n c b) (ka : BdM K a) (kb : BdM K b) (hr : r ≤ 4294967296) (hn : n ≤ 4294967296) (hc : c ≤ 4294967296) :
    FnD prog 72 [eM r n a, eM n c b] (eME r c (mmul r n c a b) 0) [] := by
  refine vc72_ok _ _ _ _ _ _ (R := Out _) ?_
  unfold vc72
  obtain ⟨p, hp⟩ : ∃ p : Nat → Nat → Nat → Int, p = fun i j k => dsum (fun k => el a i k) (fun k => el b k j) k := ⟨_, rfl⟩
  obtain ⟨f, hf⟩ : ∃ f : Nat → Nat → Int, f = fun i j => p i j n := ⟨_, rfl⟩
  refine ⟨fun h => by simp at h, fun _ => ?_⟩
  refine ⟨_, _, _, rnew_ok hr hc, fun o t => ∃ i : Nat, t = (i : Int) ∧ i ≤ r ∧ o = om (table r c (gF f i 0)), fun _ t => ((r : Int) - t).toNat, ⟨0, rfl, by omega, gF_zero f⟩, ?_⟩
  rintro _ _ ⟨i, rfl, hi, rfl⟩
  refine ⟨fun h => ?_, fun h => outME ?_⟩
  · have hir : i < r := by simpa using h
    refine ⟨fun o t => ∃ j : Nat, t = (j : Int) ∧ j ≤ c ∧ o = om (table r c (gF f i j)), fun _ t => ((c : Int) - t).toNat, ⟨0, rfl, by omega, rfl⟩, ?_⟩
    rintro _ _ ⟨j, rfl, hj, rfl⟩
    refine ⟨fun h2 => ?_, fun h2 => ?_⟩
    · have hjc : j < c := by simpa using h2
      refine ⟨fun o t => ∃ k : Nat, t = (k : Int) ∧ k ≤ n ∧ o = om (table r c (gM f f i j (p i j k))), fun _ t => ((n : Int) - t).toNat, ⟨0, rfl, by omega, ?_⟩, ?_⟩
      · rw [gM_start]; subst hp; rfl
      rintro _ _ ⟨k, rfl, hk, rfl⟩
      refine ⟨fun h3 => ?_, fun h3 => ?_⟩
      · have hkn : k < n := by simpa using h3
        obtain ⟨e1, e2, e3, e4⟩ := read_el ha hir hkn
        obtain ⟨f1, f2, f3, f4⟩ := read_el hb hkn hjc
        have hx := el_bd ha ka hir hkn
        have hy := el_bd hb kb hkn hjc
        have hxy := mul_natAbs_le hx hy
        have hs : (p i j k).natAbs ≤ 4294967296 * (K * K) := by
          subst hp
          exact Nat.le_trans (dsum_le (K := K) (L := K) k (fun l hl => el_bd ha ka hir (by omega)) fun l hl => el_bd hb kb (by omega) hjc) (Nat.mul_le_mul_right _ (by omega))
        refine ⟨decide (p i j k < 0), lim (dz (p i j k)), _, _, _, _, _, _, _, _, decide (p i j (k + 1) < 0), lim (dz (p i j (k + 1))), ⟨by omega, by rw [om_len]; omega⟩, om_in hir hjc, ?_, ⟨by omega, e4⟩, e1, ⟨by omega, e3⟩, e2, ⟨by omega, f4⟩, f1, ⟨by omega, f3⟩, f2, rmul_ok (bigK hS hx) (bigK hS hy), ?_, ?_⟩
        · rw [Int.toNat_natCast, Int.toNat_natCast, at2_om hir hjc]
          unfold gM; rw [if_pos ⟨rfl, rfl⟩]; rfl
        · have := radd_ok (x := p i j k) (y := el a i k * el b k j) (hS _ hs) (bigKK hS hxy)
          have e : p i j (k + 1) = p i j k + el a i k * el b k j := by subst hp; rfl
          rw [e]; exact this
        · rw [inc64 (by omega)]
          refine ⟨⟨k + 1, rfl, by omega, ?_⟩, by show ((n : Int) - ((k + 1 : Nat) : Int)).toNat < ((n : Int) - (k : Int)).toNat; omega⟩
          rw [Int.toNat_natCast, Int.toNat_natCast]
          exact gM_step hir hjc
      · have hkn : k = n := by have : n ≤ k := by simpa using h3
                               omega
        subst hkn
        rw [inc64 (by omega)]
        refine ⟨⟨j + 1, rfl, by omega, ?_⟩, by show ((c : Int) - ((j + 1 : Nat) : Int)).toNat < ((c : Int) - (j : Int)).toNat; omega⟩
        have e : p i j k = f i j := by subst hf; rfl
        rw [e]; exact gM_end
    · have hjc : c ≤ j := by simpa using h2
      rw [inc64 (by omega)]
      exact ⟨⟨i + 1, rfl, by omega, gF_next fun b h1 h2 => by omega⟩, by show ((r : Int) - ((i + 1 : Nat) : Int)).toNat < ((r : Int) - (i : Int)).toNat; omega⟩
  · have hir : i = r := by have : r ≤ i := by simpa using h
                           omega
    subst hir
    rw [gF_all, matD_om]
    subst hf; subst hp; rfl
theorem m5prodB {r n c : Nat} {a b : List (List Int)} (ha : Mx r n a) (hb : Mx n c b) (ka : BdM K a) (kb : BdM K b) (hr : r ≤ 4294967296) (hn : n ≤ 4294967296) (hc : c ≤ 4294967296) :
    FnD prog 37 [eM r n a, eM n c b] (eM r c (mmul r n c a b)) [] := by
  refine vc37_ok _ _ _ _ _ _ (R := Out _) ?_
  unfold vc37
  exact ⟨_, _, _, _, m5mulB hS ha hb ka kb hr hn hc, rfl, rfl⟩
end
def piv (v : List Int) : Int := firstI (fun z => decide (z ≠ 0)) v
theorem piv_cases (v : List Int) : (piv v = -1 ∧ ∀ k, k < v.length → elr v k = 0) ∨ ∃ p : Nat, piv v = (p : Int) ∧ p < v.length ∧ elr v p ≠ 0 ∧ ∀ k, k < p → elr v k = 0 := by
  have key : ∀ n, n ≤ v.length → (∀ k, k < n → elr v k = 0) ∨ ∃ p, p < n ∧ elr v p ≠ 0 ∧ ∀ k, k < p → elr v k = 0 := fun n => by
    induction n with
    | zero => exact fun _ => .inl fun k hk => by omega
    | succ n ih =>
      intro hn
      rcases ih (by omega) with h | ⟨p, h1, h2, h3⟩
      · by_cases h0 : elr v n = 0
        · refine .inl fun k hk => ?_
          by_cases hkn : k = n
          · rw [hkn]; exact h0
          · exact h k (by omega)
        · exact .inr ⟨n, by omega, h0, h⟩
      · exact .inr ⟨p, by omega, h2, h3⟩
  rcases key v.length (Nat.le_refl _) with h | ⟨p, h1, h2, h3⟩
  · exact .inl ⟨firstI_none fun k hk => by simp [h k hk], h⟩
  · exact .inr ⟨p, firstI_at h1 (by simp [h2]) fun k hk => by simp [h3 k hk], h1, h2, h3⟩
theorem rpiv_ok {v : List Int} (hl : v.length ≤ 4294967296) : FnD prog 73 [vs (row v)] (vi (piv v)) [] := by
  refine vc73_ok _ (R := Out _) ?_
  unfold vc73
  simp only [row_length]
  refine ⟨fun t => ∃ i : Nat, t = (i : Int) ∧ i ≤ v.length ∧ ∀ k, k < i → elr v k = 0, fun t => ((v.length : Int) - t).toNat, ⟨0, rfl, by omega, fun k hk => by omega⟩, ?_⟩
  rintro _ ⟨i, rfl, hi, hinv⟩
  refine ⟨fun h => ?_, fun h => outi ?_⟩
  · have hir : i < v.length := by simpa using h
    refine ⟨_, _, _, ⟨by omega, by omega⟩, row_getN hir, rsign_ok _, fun h2 => outi ?_, fun h2 => ?_⟩
    · exact (firstI_at hir (by simpa using sgn_ne.1 h2) fun k hk => by simp [hinv k hk]).symm
    · rw [inc64 (by omega)]
      refine ⟨⟨i + 1, rfl, by omega, fun k hk => ?_⟩, by show ((v.length : Int) - ((i + 1 : Nat) : Int)).toNat < ((v.length : Int) - (i : Int)).toNat; omega⟩
      by_cases hki : k = i
      · subst hki
        apply Classical.byContradiction
        intro hc
        rw [sgn_ne.2 hc] at h2; simp at h2
      · exact hinv k (by omega)
  · have hir : i = v.length := by have : v.length ≤ i := by simpa using h
                                  omega
    exact (firstI_none fun k hk => by simp [hinv k (by omega)]).symm
theorem sgn_bne {z : Int} : ((if z = 0 then (0 : Int) else if z < 0 then -1 else 1) != 0) = decide (z ≠ 0) := by
  by_cases h : z = 0
  · simp [h]
  · by_cases h2 : z < 0
    · simp [h, h2]
    · simp [h, h2]
theorem ppiv_ok {v : List Int} (hl : v.length ≤ 4294967296) : FnD prog 84 [vs (row v)] (vi (piv v)) [] := by
  refine vc84_ok _ (R := Out _) ?_
  unfold vc84
  refine ⟨_, index134_ok (r := v) (f := 112) (fc := []) (p := fun z => decide (z ≠ 0)) hl fun k hk => ?_, rfl, rfl⟩
  refine vc112_ok _ _ (R := Out _) ?_
  unfold vc112
  exact ⟨_, sign_ok _, outb sgn_bne⟩
def lastP (c : Nat) (m : List (List Int)) : Nat → Int
  | 0 => -1
  | i + 1 => if piv (m.getD i []) < 0 then (c : Int) else piv (m.getD i [])
def rowIs (c : Nat) (m : List (List Int)) (i : Nat) : Bool :=
  decide (piv (m.getD i []) < 0) || (decide (lastP c m i < piv (m.getD i [])) && decide (0 < el m i (piv (m.getD i [])).toNat) &&
    (List.range i).all fun k => decide (0 ≤ el m k (piv (m.getD i [])).toNat) && decide (el m k (piv (m.getD i [])).toNat < el m i (piv (m.getD i [])).toNat))
def isHB (r c : Nat) (m : List (List Int)) : Bool := (List.range r).all (rowIs c m)
theorem lastP_succ (c : Nat) (m : List (List Int)) (i : Nat) : lastP c m (i + 1) = if piv (m.getD i []) < 0 then (c : Int) else piv (m.getD i []) := rfl
theorem isHB_false {r c n : Nat} {m : List (List Int)} (hn : n < r) (h : rowIs c m n = false) : isHB r c m = false := by
  unfold isHB
  rw [List.all_eq_false]
  exact ⟨n, List.mem_range.2 hn, by simp [h]⟩
theorem isHB_true {r c : Nat} {m : List (List Int)} (h : ∀ n, n < r → rowIs c m n = true) : isHB r c m = true := by
  unfold isHB
  rw [List.all_eq_true]
  exact fun n hn => h n (List.mem_range.1 hn)
theorem rowIs_neg {c i : Nat} {m : List (List Int)} (h : piv (m.getD i []) < 0) : rowIs c m i = true := by unfold rowIs; rw [decide_eq_true h]; rfl
theorem rowIs_iff {c i p : Nat} {m : List (List Int)} (h : piv (m.getD i []) = (p : Int)) : rowIs c m i = true ↔ lastP c m i < p ∧ 0 < el m i p ∧ ∀ k, k < i → 0 ≤ el m k p ∧ el m k p < el m i p := by
  unfold rowIs
  rw [h, Int.toNat_natCast]
  simp only [Bool.or_eq_true, Bool.and_eq_true, decide_eq_true_eq, List.all_eq_true, List.mem_range]
  constructor
  · rintro (h1 | ⟨⟨h1, h2⟩, h3⟩)
    · omega
    · exact ⟨h1, h2, h3⟩
  · rintro ⟨h1, h2, h3⟩
    exact .inr ⟨⟨h1, h2⟩, h3⟩
theorem rowIs_false {c i p : Nat} {m : List (List Int)} (h : piv (m.getD i []) = (p : Int)) (hn : ¬ (lastP c m i < p ∧ 0 < el m i p ∧ ∀ k, k < i → 0 ≤ el m k p ∧ el m k p < el m i p)) : rowIs c m i = false := by
  cases hb : rowIs c m i with
  | false => rfl
  | true => exact absurd ((rowIs_iff h).1 hb) hn
theorem sgn_le {z : Int} : decide ((if z = 0 then (0 : Int) else if z < 0 then -1 else 1) ≤ 0) = decide (z ≤ 0) := by
  by_cases h : z = 0
  · simp [h]
  · by_cases h2 : z < 0
    · simp [h, h2]; omega
    · simp [h, h2]; omega
theorem sgn_ge {z : Int} : decide ((if z = 0 then (0 : Int) else if z < 0 then -1 else 1) ≥ 0) = decide (z ≥ 0) := by
  by_cases h : z = 0
  · simp [h]
  · by_cases h2 : z < 0
    · simp [h, h2]
    · simp [h, h2]; omega
theorem sgn_ltd {z : Int} : decide ((if z = 0 then (0 : Int) else if z < 0 then -1 else 1) < 0) = decide (z < 0) := by
  by_cases h : z < 0
  · rw [sgn_lt.2 h, decide_eq_true h]
  · rw [decide_eq_false h, decide_eq_false]
    exact fun hc => h (sgn_lt.1 (decide_eq_true hc))
theorem mx_row {r c : Nat} {m : List (List Int)} (hm : Mx r c m) {i : Nat} (hi : i < r) : i < m.length ∧ (m.getD i []).length = c := by
  have h1 : i < m.length := by rw [hm.1]; exact hi
  exact ⟨h1, hm.2 _ (getD_mem h1)⟩
theorem elr_el {m : List (List Int)} {i j : Nat} : elr (m.getD i []) j = el m i j := rfl
theorem szM_el {r c : Nat} {m : List (List Int)} (hm : Mx r c m) (hs : SzM m) {i j : Nat} (hi : i < r) (hj : j < c) : Sz (el m i j) := by
  obtain ⟨h1, h2⟩ := el_mem hm hi hj
  exact hs _ h2 _ (getD_mem (by omega))
theorem rIs_ok {r c : Nat} {m : List (List Int)} (hm : Mx r c m) (hs : SzM m) (hr : r ≤ 4294967296) (hc : c ≤ 4294967296) : FnD prog 39 [eM r c m] (vb (isHB r c m)) [] := by
  refine vc39_ok _ _ _ (R := Out _) ?_
  unfold vc39
  refine ⟨_, rvalidM_ok hm hs hr hc, fun h => absurd h (by decide), fun _ => ?_⟩
  refine ⟨fun last i => ∃ n : Nat, i = (n : Int) ∧ n ≤ r ∧ last = lastP c m n ∧ ∀ j, j < n → rowIs c m j = true, fun _ i => ((r : Int) - i).toNat, ⟨0, rfl, by omega, rfl, fun j hj => by omega⟩, ?_⟩
  rintro _ _ ⟨n, rfl, hn, rfl, hb⟩
  refine ⟨fun h => ?_, fun h => outb ?_⟩
  · have hnr : n < r := by simpa using h
    obtain ⟨hnm, hnl⟩ := mx_row hm hnr
    have bad : rowIs c m n = false → Out (vb (isHB r c m)) (vD (dB false)) [] := fun g => outb (isHB_false hnr g).symm
    have nx : ∀ last, rowIs c m n = true → last = lastP c m (n + 1) → (∃ n' : Nat, IntKind.i64.wrap ((n : Int) + 1) = (n' : Int) ∧ n' ≤ r ∧ last = lastP c m n' ∧ ∀ j, j < n' → rowIs c m j = true) ∧ ((r : Int) - IntKind.i64.wrap ((n : Int) + 1)).toNat < ((r : Int) - (n : Int)).toNat := fun last g g2 => by
      rw [inc64 (by omega)]
      refine ⟨⟨n + 1, rfl, by omega, g2, fun j hj => ?_⟩, by omega⟩
      by_cases hjn : j = n
      · rw [hjn]; exact g
      · exact hb j (by omega)
    refine ⟨_, _, ⟨by omega, by rw [rows_length]; omega⟩, rows_getN hnm, rpiv_ok (by omega), fun h2 => ?_, fun h2 => ?_⟩
    · have h3 := of_decide_eq_true h2
      exact nx _ (rowIs_neg h3) (by rw [lastP_succ, if_pos h3])
    rcases piv_cases (m.getD n []) with ⟨hp, _⟩ | ⟨p, hp, hpc, hpn, _⟩
    · exfalso; have := of_decide_eq_false h2; omega
    rw [hnl] at hpc
    have hlp : lastP c m (n + 1) = (p : Int) := by rw [lastP_succ, if_neg (by omega)]; exact hp
    rw [hp]
    refine ⟨fun h3 => bad (rowIs_false hp fun ⟨g, _⟩ => ?_), fun h3 => ⟨_, _, _, ⟨by omega, by rw [row_length]; omega⟩, row_getN (by omega), rsign_ok _, fun h4 => bad (rowIs_false hp fun ⟨_, g, _⟩ => ?_), fun h4 => ?_⟩⟩
    · have := of_decide_eq_true h3; omega
    · rw [sgn_le] at h4; have := of_decide_eq_true h4; rw [elr_el] at this; omega
    rw [sgn_le, elr_el] at h4
    have g4 := of_decide_eq_false h4
    have g3 := of_decide_eq_false h3
    refine ⟨fun k => ∃ q : Nat, k = (q : Int) ∧ q ≤ n ∧ ∀ j, j < q → 0 ≤ el m j p ∧ el m j p < el m n p, fun k => ((n : Int) - k).toNat, ⟨0, rfl, by omega, fun j hj => by omega⟩, ?_⟩
    rintro _ ⟨q, rfl, hq, hqb⟩
    refine ⟨fun h5 => ?_, fun h5 => nx _ ((rowIs_iff hp).2 ⟨by omega, by omega, fun k hk => hqb k (by have := of_decide_eq_false h5; omega)⟩) hlp.symm⟩
    have hqn : q < n := by simpa using h5
    obtain ⟨hqm, hql⟩ := mx_row hm (show q < r by omega)
    refine ⟨_, _, _, _, ⟨by omega, by rw [rows_length]; omega⟩, rows_getN hqm, ⟨by omega, by rw [row_length]; omega⟩, row_getN (by omega), rsign_ok _, fun h6 => bad (rowIs_false hp fun ⟨_, _, g⟩ => ?_), fun h6 => ⟨_, rcmp_ok (szM_el hm hs (show q < r by omega) hpc) (szM_el hm hs hnr hpc), fun h7 => bad (rowIs_false hp fun ⟨_, _, g⟩ => ?_), fun h7 => ?_⟩⟩
    · rw [sgn_ltd, elr_el] at h6; have := of_decide_eq_true h6; have := (g q hqn).1; omega
    · rw [sgn_ge] at h7; simp only [elr_el] at h7; have := of_decide_eq_true h7; have := (g q hqn).2; omega
    · rw [sgn_ltd, elr_el] at h6
      rw [sgn_ge] at h7
      simp only [elr_el] at h7
      have k6 := of_decide_eq_false h6
      have k7 := of_decide_eq_false h7
      rw [inc64 (by omega)]
      refine ⟨⟨q + 1, rfl, by omega, fun j hj => ?_⟩, by show ((n : Int) - ((q + 1 : Nat) : Int)).toNat < ((n : Int) - (q : Int)).toNat; omega⟩
      by_cases hjq : j = q
      · rw [hjq]; omega
      · exact hqb j (by omega)
  · have hnr : n = r := by have : r ≤ n := by simpa using h
                           omega
    subst hnr
    exact (isHB_true hb).symm
end Go.AM
/- Hermite normal forms: the tests of package hermite; corners; ranks. -/
namespace Go.AM
open Go.Proofs.Tryz
theorem rows_takeN (m : List (List Int)) (n : Nat) : (rows m).take n = rows (m.take n) := by simp [rows, List.map_take]
theorem row_takeN (v : List Int) (n : Nat) : (row v).take n = row (v.take n) := by simp [row, List.map_take]
theorem containsR_ok {m : List (List Int)} {f : FuncId} {fc : List D} {p : Nat → Bool} (hl : m.length ≤ 4294967296) (hf : ∀ k, k < m.length → FnD prog f ([vs (row (m.getD k []))] ++ fc.map dV) (vb (p k)) []) :
    FnD prog 87 [vs (rows m), .e (.sc (.dat (.fn (.func f) fc)))] (vb ((List.range m.length).any p)) [] := by
  refine vc87_ok _ _ _ (R := Out _) ?_
  unfold vc87
  have key : ∃ r : Int, FnD prog 114 [vs (rows m), .e (.sc (.dat (.fn (.func f) fc)))] (vi r) [] ∧ decide (r ≥ 0) = (List.range m.length).any p := by
    by_cases he : ∃ i, i < m.length ∧ p i = true
    · obtain ⟨i0, h1, h2⟩ := he
      obtain ⟨i, hi, hp, hbef⟩ := least_nat (p := p) i0 h2
      refine ⟨(i : Int), ?_, ?_⟩
      · refine vc114_ok _ _ _ (R := Out _) ?_
        unfold vc114
        simp only [rows_length]
        refine ⟨fun t => ∃ n : Nat, t = (n : Int) ∧ n ≤ i, fun t => ((m.length : Int) - t).toNat, ⟨0, rfl, by omega⟩, ?_⟩
        rintro _ ⟨n, rfl, hn⟩
        have hnm : n < m.length := by omega
        refine ⟨fun _ => ⟨_, p n, ⟨by omega, by omega⟩, rows_getN hnm, hf n hnm, fun h2 => outi ?_, fun h2 => ?_⟩, fun h => ?_⟩
        · rcases Nat.lt_or_ge n i with h3 | h3
          · rw [hbef n h3] at h2; exact absurd h2 (by decide)
          · omega
        · have : n < i := by
            rcases Nat.lt_or_ge n i with h3 | h3
            · exact h3
            · rw [show n = i by omega, hp] at h2; exact absurd h2 (by decide)
          rw [inc64 (by omega)]
          exact ⟨⟨n + 1, rfl, by omega⟩, by show ((m.length : Int) - ((n + 1 : Nat) : Int)).toNat < ((m.length : Int) - (n : Int)).toNat; omega⟩
        · exfalso; have : m.length ≤ n := by simpa using h
          omega
      · rw [decide_eq_true (by omega), List.any_eq_true.2 ⟨i0, List.mem_range.2 h1, h2⟩]
    · have hno : ∀ i, i < m.length → p i = false := fun i hi => by
        cases hp : p i with
        | false => rfl
        | true => exact absurd ⟨i, hi, hp⟩ he
      refine ⟨-1, ?_, ?_⟩
      · refine vc114_ok _ _ _ (R := Out _) ?_
        unfold vc114
        simp only [rows_length]
        refine ⟨fun t => ∃ n : Nat, t = (n : Int) ∧ n ≤ m.length, fun t => ((m.length : Int) - t).toNat, ⟨0, rfl, by omega⟩, ?_⟩
        rintro _ ⟨n, rfl, hn⟩
        refine ⟨fun h => ?_, fun _ => outi rfl⟩
        have hnm : n < m.length := by simpa using h
        refine ⟨_, p n, ⟨by omega, by omega⟩, rows_getN hnm, hf n hnm, fun h2 => ?_, fun _ => ?_⟩
        · rw [hno n hnm] at h2; exact absurd h2 (by decide)
        · rw [inc64 (by omega)]
          exact ⟨⟨n + 1, rfl, by omega⟩, by show ((m.length : Int) - ((n + 1 : Nat) : Int)).toNat < ((m.length : Int) - (n : Int)).toNat; omega⟩
      · have : (List.range m.length).any p = false := by
          rw [List.any_eq_false]
          intro i hi
          simp [hno i (List.mem_range.1 hi)]
        rw [this]; rfl
  obtain ⟨r, h1, h2⟩ := key
  exact ⟨r, h1, outb h2⟩
theorem cmpI_ge {x y : Int} (h : ¬ x < 0) : decide (cmpI x y ≥ 0) = (decide (x < 0) || decide (x ≥ y)) := by
  rw [decide_eq_false h, Bool.false_or]
  unfold cmpI
  by_cases h7 : x < y
  · simp [h7]
  · by_cases h9 : y < x
    · simp [h7, h9]; omega
    · simp [h7, h9]; omega
theorem pIs_ok {r c : Nat} {m : List (List Int)} (hm : Mx r c m) (hs : SzM m) (hr : r ≤ 4294967296) (hc : c ≤ 4294967296) : FnD prog 47 [eM r c m] (vb (isHB r c m)) [] := by
  refine vc47_ok _ _ _ (R := Out _) ?_
  unfold vc47
  have hlen : ((rows m).length : Int) = (r : Int) := by rw [rows_length, hm.1]
  rw [hlen]
  refine ⟨_, mvalid_ok hm hs hr hc, fun h => absurd h (by decide), fun _ => ?_⟩
  refine ⟨fun i last => ∃ n : Nat, i = (n : Int) ∧ n ≤ r ∧ last = lastP c m n ∧ ∀ j, j < n → rowIs c m j = true, fun i _ => ((r : Int) - i).toNat, ⟨0, rfl, by omega, rfl, fun j hj => by omega⟩, ?_⟩
  rintro _ _ ⟨n, rfl, hn, rfl, hb⟩
  refine ⟨fun h => ?_, fun h => outb ?_⟩
  · have hnr : n < r := by simpa using h
    obtain ⟨hnm, hnl⟩ := mx_row hm hnr
    have bad : rowIs c m n = false → Out (vb (isHB r c m)) (vD (dB false)) [] := fun g => outb (isHB_false hnr g).symm
    have nx : ∀ last, rowIs c m n = true → last = lastP c m (n + 1) → (∃ n' : Nat, IntKind.i64.wrap ((n : Int) + 1) = (n' : Int) ∧ n' ≤ r ∧ last = lastP c m n' ∧ ∀ j, j < n' → rowIs c m j = true) ∧ ((r : Int) - IntKind.i64.wrap ((n : Int) + 1)).toNat < ((r : Int) - (n : Int)).toNat := fun last g g2 => by
      rw [inc64 (by omega)]
      refine ⟨⟨n + 1, rfl, by omega, g2, fun j hj => ?_⟩, by omega⟩
      by_cases hjn : j = n
      · rw [hjn]; exact g
      · exact hb j (by omega)
    refine ⟨_, ⟨by omega, by omega⟩, rows_getN hnm, _, ppiv_ok (by omega), fun h2 => ?_, fun h2 => ?_⟩
    · have h3 := of_decide_eq_true h2
      exact nx _ (rowIs_neg h3) (by rw [lastP_succ, if_pos h3])
    rcases piv_cases (m.getD n []) with ⟨hp, _⟩ | ⟨p, hp, hpc, hpn, _⟩
    · exfalso; have := of_decide_eq_false h2; omega
    rw [hnl] at hpc
    have hlp : lastP c m (n + 1) = (p : Int) := by rw [lastP_succ, if_neg (by omega)]; exact hp
    rw [hp]
    refine ⟨fun h3 => bad (rowIs_false hp fun ⟨g, _⟩ => ?_), fun h3 => ⟨_, _, _, ⟨by omega, by rw [row_length]; omega⟩, row_getN (by omega), sign_ok _, fun h4 => bad (rowIs_false hp fun ⟨_, g, _⟩ => ?_), fun h4 => ?_⟩⟩
    · have := of_decide_eq_true h3; omega
    · rw [sgn_ltd] at h4; have := of_decide_eq_true h4; rw [elr_el] at this; omega
    rw [sgn_ltd] at h4
    have g4 := of_decide_eq_false h4
    have g3 := of_decide_eq_false h3
    have hpos : 0 < el m n p := by rw [elr_el] at g4 hpn; omega
    have hct := containsR_ok (m := m.take n) (f := 85) (fc := [D.box [dI (p : Int)], D.box [D.sl (row (m.getD n []))]]) (p := fun k => decide (el m k p < 0) || decide (el m k p ≥ el m n p)) (by rw [List.length_take]; omega) fun k hk => ?_
    · refine ⟨_, ⟨by omega, by omega⟩, by rw [Int.toNat_natCast, rows_takeN]; exact hct, fun h5 => ?_, fun h5 => ?_⟩
      · refine bad (rowIs_false hp fun ⟨_, _, g⟩ => ?_)
        rw [List.any_eq_true] at h5
        obtain ⟨k, hk, hk2⟩ := h5
        have hkn : k < n := by have := List.mem_range.1 hk; rw [List.length_take] at this; omega
        have := g k hkn
        simp only [Bool.or_eq_true, decide_eq_true_eq] at hk2
        omega
      · refine nx _ ((rowIs_iff hp).2 ⟨by omega, hpos, fun k hk => ?_⟩) hlp.symm
        rw [List.any_eq_false] at h5
        have := h5 k (List.mem_range.2 (by rw [List.length_take]; omega))
        simp only [Bool.or_eq_true, decide_eq_true_eq, not_or] at this
        omega
    · rw [List.length_take] at hk
      have hkr : k < r := by omega
      obtain ⟨hkm, hkl⟩ := mx_row hm hkr
      have e : (m.take n).getD k [] = m.getD k [] := by
        rw [List.getD_eq_getElem?_getD, List.getElem?_take_of_lt (by omega), ← List.getD_eq_getElem?_getD]
      rw [e]
      refine vc85_ok _ _ _ (R := Out _) ?_
      unfold vc85
      refine ⟨_, _, _, ⟨by omega, by rw [row_length]; omega⟩, row_getN (by omega), sign_ok _, fun h6 => outb ?_, fun h6 => ⟨_, _, _, ⟨by omega, by rw [row_length]; omega⟩, row_getN (by omega), cmp_ok (szM_el hm hs hkr hpc) (szM_el hm hs hnr hpc), outb ?_⟩⟩
      · rw [sgn_ltd] at h6
        simp only [elr_el] at h6
        have h8 := of_decide_eq_true h6
        simp [h8]
      · rw [sgn_ltd] at h6
        simp only [elr_el] at h6
        have h8 := of_decide_eq_false h6
        exact cmpI_ge h8
  · have hnr : n = r := by have : r ≤ n := by simpa using h
                           omega
    subst hnr
    exact (isHB_true hb).symm
def cor (t k : Nat) (m : List (List Int)) : List (List Int) := (m.take t).map (List.take k)
theorem cor_mx {r c t k : Nat} {m : List (List Int)} (hm : Mx r c m) (ht : t ≤ r) (hk : k ≤ c) : Mx t k (cor t k m) := by
  refine ⟨by simp [cor, hm.1, ht], fun x hx => ?_⟩
  simp only [cor, List.mem_map] at hx
  obtain ⟨y, hy, rfl⟩ := hx
  have := hm.2 y (List.mem_of_mem_take hy)
  rw [List.length_take]; omega
theorem cor_sz {t k : Nat} {m : List (List Int)} (hs : SzM m) : SzM (cor t k m) := fun x hx => by
  simp only [cor, List.mem_map] at hx
  obtain ⟨y, hy, rfl⟩ := hx
  exact fun z hz => hs y (List.mem_of_mem_take hy) z (List.mem_of_mem_take hz)
theorem cor_row {t k i : Nat} {m : List (List Int)} (hi : i < t) (hm : t ≤ m.length) : (cor t k m).getD i [] = (m.getD i []).take k := by
  have h1 : i < m.length := by omega
  simp [cor, hi, h1]
theorem cor_succ {t k : Nat} {m : List (List Int)} (ht : t < m.length) : cor (t + 1) k m = cor t k m ++ [(m.getD t []).take k] := by
  unfold cor
  rw [List.take_add_one, List.map_append]
  simp [ht]
theorem corner_ok {r c t k : Nat} {a0 a1 : Int} {m : List (List Int)} (hm : Mx r c m) (ht : t ≤ r) (hk : k ≤ c) (hr : r ≤ 4294967296) : FnD prog 38 [eM a0 a1 m, vi t, vi k] (eM t k (cor t k m)) [] := by
  refine vc38_ok _ _ _ _ _ (R := Out _) ?_
  unfold vc38
  refine ⟨fun o i => ∃ n : Nat, i = (n : Int) ∧ n ≤ t ∧ o = rows (cor n k m), fun _ i => ((t : Int) - i).toNat, ⟨0, rfl, by omega, rfl⟩, ?_⟩
  rintro _ _ ⟨n, rfl, hn, rfl⟩
  refine ⟨fun h => ?_, fun h => ?_⟩
  · have hnt : n < t := by simpa using h
    obtain ⟨hnm, hnl⟩ := mx_row hm (show n < r by omega)
    have hcl : (cor n k m).length = n := (cor_mx hm (by omega) hk).1
    refine ⟨_, ⟨by omega, by rw [rows_length]; omega⟩, rows_getN hnm, ⟨by omega, by rw [row_length]; omega⟩, ?_, ?_⟩
    · rw [rows_length, hcl]; simp only [List.length_cons, List.length_nil]; omega
    · rw [inc64 (by omega), Int.toNat_natCast]
      refine ⟨⟨n + 1, rfl, by omega, ?_⟩, by show ((t : Int) - ((n + 1 : Nat) : Int)).toNat < ((t : Int) - (n : Int)).toNat; omega⟩
      rw [cor_succ hnm, row_takeN]
      simp [rows]
  · have hnt : n = t := by have : t ≤ n := by simpa using h
                           omega
    subst hnt
    exact ⟨rfl, rfl⟩
def rankF : Nat → List (List Int) → Nat
  | 0, _ => 0
  | n + 1, m => if 0 ≤ piv (m.getD n []) then rankF n m + 1 else rankF n m
theorem rankF_le : ∀ n m, rankF n m ≤ n
  | 0, _ => Nat.le_refl _
  | n + 1, m => by have := rankF_le n m; unfold rankF; split <;> omega
theorem rankF_succ (n : Nat) (m : List (List Int)) : rankF (n + 1) m = if 0 ≤ piv (m.getD n []) then rankF n m + 1 else rankF n m := rfl
theorem rankF_full : ∀ n m, rankF n m = n ↔ ∀ i, i < n → 0 ≤ piv (m.getD i [])
  | 0, _ => by simp [rankF]
  | n + 1, m => by
    have h1 := rankF_full n m
    have h2 := rankF_le n m
    have h3 : rankF (n + 1) m = if 0 ≤ piv (m.getD n []) then rankF n m + 1 else rankF n m := rfl
    rw [h3]
    constructor
    · intro h i hi
      split at h
      · rename_i hp
        by_cases hin : i = n
        · rw [hin]; exact hp
        · exact h1.1 (by omega) i (by omega)
      · omega
    · intro h
      rw [if_pos (h n (by omega)), h1.2 fun i hi => h i (by omega)]
theorem rank_ok {r c : Nat} {m : List (List Int)} (hm : Mx r c m) (hr : r ≤ 4294967296) (hc : c ≤ 4294967296) : FnD prog 40 [eM r c m] (vi (rankF r m)) [] := by
  refine vc40_ok _ _ _ (R := Out _) ?_
  unfold vc40
  refine ⟨fun q i => ∃ n : Nat, i = (n : Int) ∧ n ≤ r ∧ q = (rankF n m : Int), fun _ i => ((r : Int) - i).toNat, ⟨0, rfl, by omega, rfl⟩, ?_⟩
  rintro _ _ ⟨n, rfl, hn, rfl⟩
  refine ⟨fun h => ?_, fun h => outi ?_⟩
  · have hnr : n < r := by simpa using h
    obtain ⟨hnm, hnl⟩ := mx_row hm hnr
    have hle := rankF_le n m
    refine ⟨_, _, ⟨by omega, by rw [rows_length]; omega⟩, rows_getN hnm, rpiv_ok (by omega), fun h2 => ?_, fun h2 => ?_⟩
    · rw [inc64 (by omega), inc64 (by omega)]
      have h3 := of_decide_eq_true h2
      exact ⟨⟨n + 1, rfl, by omega, by rw [rankF_succ, if_pos h3]⟩, by show ((r : Int) - ((n + 1 : Nat) : Int)).toNat < ((r : Int) - (n : Int)).toNat; omega⟩
    · rw [inc64 (by omega)]
      have h3 := of_decide_eq_false h2
      exact ⟨⟨n + 1, rfl, by omega, by rw [rankF_succ, if_neg h3]⟩, by show ((r : Int) - ((n + 1 : Nat) : Int)).toNat < ((r : Int) - (n : Int)).toNat; omega⟩
  · have hnr : n = r := by have : r ≤ n := by simpa using h
                           omega
    rw [hnr]
end Go.AM
/- Package step and its reference: Valid; torsionref12.Check. -/
namespace Go.AM
open Go.Proofs.Tryz
def ePi (r c : Nat) (A m u v : List (List Int)) (t k : Int) (b : Bool) : V :=
  vA [sD (dI r), sD (dI c), sD (dL (rows A)), sD (dI r), sD (dI c), sD (dL (rows m)), sD (dI r), sD (dI r), sD (dL (rows u)), sD (dI r), sD (dI r), sD (dL (rows v)), sD (dI t), sD (dI k), sD (dB b)]
def finI (r c : Nat) (t k : Int) : Bool := decide (t ≥ (r : Int)) || decide (k ≥ (c : Int))
theorem finI_ok {r c : Nat} {A m u v : List (List Int)} {t k : Int} {b : Bool} : FnD prog 29 [ePi r c A m u v t k b] (vb (finI r c t k)) [] := by
  refine vc29_ok _ _ _ _ _ _ _ _ _ _ _ _ _ _ _ (R := Out _) ?_
  unfold vc29
  refine ⟨fun h => outb ?_, fun h => outb ?_⟩
  · simp only [finI, h, Bool.true_or]
  · simp only [finI, h, Bool.false_or]
theorem rfinI_ok {r c : Nat} {A m u v : List (List Int)} {t k : Int} {b : Bool} : FnD prog 31 [ePi r c A m u v t k b] (vb (finI r c t k)) [] := by
  refine vc31_ok _ _ _ _ _ _ _ _ _ _ _ _ _ _ _ (R := Out _) ?_
  unfold vc31
  refine ⟨fun h => outb ?_, fun h => outb ?_⟩
  · simp only [finI, h, Bool.true_or]
  · simp only [finI, h, Bool.false_or]
def zP (k : Nat) (m : List (List Int)) (i : Nat) : Bool := !((m.getD i []).take k).any fun z => decide (z ≠ 0)
def zeroB (r t k : Nat) (m : List (List Int)) : Bool := (List.range r).all fun i => decide (i < t) || zP k m i
theorem zP_iff {k i : Nat} {m : List (List Int)} (hk : k ≤ (m.getD i []).length) : zP k m i = true ↔ ∀ j, j < k → el m i j = 0 := by
  unfold zP
  rw [Bool.not_eq_true', List.any_eq_false]
  constructor
  · intro h j hj
    have h1 : ((m.getD i []).take k)[j]? = some (el m i j) := by
      rw [List.getElem?_take_of_lt hj, List.getElem?_eq_getElem (by omega)]
      rw [← elr_el, elr_get (by omega)]
    have := h _ (List.mem_of_getElem? h1)
    simpa using this
  · intro h z hz
    obtain ⟨j, hj⟩ := List.getElem?_of_mem hz
    have hjk : j < k := by
      have := (List.getElem?_eq_some_iff.1 hj).1
      rw [List.length_take] at this; omega
    rw [List.getElem?_take_of_lt hjk, List.getElem?_eq_getElem (by omega)] at hj
    have h2 := h j hjk
    rw [← elr_el, elr_get (by omega)] at h2
    have h3 := Option.some.inj hj
    rw [h2] at h3
    simp [← h3]
def validR (r t k : Nat) (m : List (List Int)) : Bool := isHB t k (cor t k m) && decide (rankF t (cor t k m) = t) && zeroB r t k m
def validI (r c : Nat) (A m u v : List (List Int)) (t k : Int) (b : Bool) : Bool :=
  decide (0 ≤ t) && decide (t ≤ r) && decide (t ≤ k) && decide (k ≤ c) && (b == finI r c t k) && decide (mmul r r c u A = m) && decide (mmul r r r u v = idM r) && validR r t.toNat k.toNat m
theorem validR_iff {r t k : Nat} {m : List (List Int)} : validR r t k m = true ↔ isHB t k (cor t k m) = true ∧ rankF t (cor t k m) = t ∧ zeroB r t k m = true := by
  unfold validR; simp [and_assoc]
theorem bool_eq {b : Bool} {p : Prop} (h : b = true ↔ p) : (p → b = true) ∧ (¬ p → b = false) := ⟨h.2, fun hn => by
  cases b with
  | false => rfl
  | true => exact absurd (h.1 rfl) hn⟩
structure VX (r c K : Nat) (A m u v : List (List Int)) : Prop where
  hA : Mx r c A
  hm : Mx r c m
  hu : Mx r r u
  hv : Mx r r v
  kA : BdM K A
  km : BdM K m
  ku : BdM K u
  kv : BdM K v
  hS : ∀ y : Int, y.natAbs ≤ 4294967296 * (K * K) → Sz y
  hr : r ≤ 4294967296
  hc : c ≤ 4294967296
theorem BdM.szm {K : Nat} {m : List (List Int)} (h : BdM K m) (hS : ∀ y : Int, y.natAbs ≤ 4294967296 * (K * K) → Sz y) : SzM m := fun x hx z hz => bigK hS (h x hx z hz)
section
variable {r c K : Nat} {A m u v : List (List Int)} (C : VX r c K A m u v)
include C
theorem VX.mmul_sz {n c' : Nat} {a b : List (List Int)} (hn : n ≤ 4294967296) (ha : Mx r n a) (hb : Mx n c' b) (ka : BdM K a) (kb : BdM K b) : SzM (mmul r n c' a b) := by
  have := table_bd (r := r) (c := c') (K := 4294967296 * (K * K)) (g := fun i j => dsum (fun k => el a i k) (fun k => el b k j) n) fun i j hi hj =>
    Nat.le_trans (dsum_le (K := K) (L := K) n (fun l hl => el_bd ha ka hi hl) fun l hl => el_bd hb kb hl hj) (Nat.mul_le_mul_right _ hn)
  exact fun x hx z hz => C.hS z (this x hx z hz)
omit C in
theorem VX.same {n c' : Nat} {a b : List (List Int)} (ha : Mx n c' a) (sa : SzM a) (sb : SzM b) (hn : n ≤ 4294967296) (hc' : c' ≤ 4294967296) : FnD prog 22 [eM n c' a, eM n c' b] (vb (decide (a = b))) [] := by
  have := same_ok (r := n) (c := c') (r' := n) (c' := c') sa sb (by rw [ha.1]; exact hn) fun y hy => by rw [ha.2 y hy]; exact hc'
  rwa [show decide ((n : Int) = n ∧ (c' : Int) = c' ∧ a = b) = decide (a = b) by simp] at this
omit C in
theorem VX.equal {n c' : Nat} {a b : List (List Int)} (ha : Mx n c' a) (sa : SzM a) (sb : SzM b) (hn : n ≤ 4294967296) (hc' : c' ≤ 4294967296) : FnD prog 80 [eM n c' a, eM n c' b] (vb (decide (a = b))) [] := by
  have := equal_ok (r := n) (c := c') (r' := n) (c' := c') sa sb (by rw [ha.1]; exact hn) fun y hy => by rw [ha.2 y hy]; exact hc'
  rwa [show decide ((n : Int) = n ∧ (c' : Int) = c' ∧ a = b) = decide (a = b) by simp] at this
theorem rvalidP_ok (t k : Int) (b : Bool) : FnD prog 17 [ePi r c A m u v t k b] (vb (validI r c A m u v t k b)) [] := by
  refine vc17_ok _ _ _ _ _ _ _ _ _ _ _ _ _ _ _ (R := Out _) ?_
  unfold vc17
  have hr := C.hr; have hc := C.hc
  have sA := C.kA.szm C.hS; have sm := C.km.szm C.hS; have su := C.ku.szm C.hS; have sv := C.kv.szm C.hS
  have e1 := sized_ok C.hm sm hr hc r c
  have e2 := sized_ok C.hu su hr hr r r
  have e3 := sized_ok C.hv sv hr hr r r
  rw [decide_eq_true ⟨rfl, rfl⟩] at e1 e2 e3
  refine ⟨_, rvalidM_ok C.hA sA hr hc, fun h => absurd h (by decide), fun _ => ⟨_, e1, _, e2, _, e3, fun h => absurd h (by decide), fun _ => ⟨fun h => absurd h (by decide), fun _ => ⟨fun h => absurd h (by decide), fun _ => ?_⟩⟩⟩⟩
  refine ⟨fun h => outb ?_, fun h1 => ⟨fun h => outb ?_, fun h2 => ⟨fun h => outb ?_, fun h3 => ⟨fun h => outb ?_, fun h4 => ?_⟩⟩⟩⟩
  · have := of_decide_eq_true h; simp [validI, show ¬ 0 ≤ t by omega]
  · have := of_decide_eq_true h; simp [validI, show ¬ t ≤ r by omega]
  · have := of_decide_eq_true h; simp [validI, show ¬ t ≤ k by omega]
  · have := of_decide_eq_true h; simp [validI, show ¬ k ≤ c by omega]
  have g1 : 0 ≤ t := by have := of_decide_eq_false h1; omega
  have g2 : t ≤ r := by have := of_decide_eq_false h2; omega
  have g3 : t ≤ k := by have := of_decide_eq_false h3; omega
  have g4 : k ≤ c := by have := of_decide_eq_false h4; omega
  clear h1 h2 h3 h4
  have p1 := m5prodB C.hS C.hu C.hA C.ku C.kA hr hr hc
  have p2 := m5prodB C.hS C.hu C.hv C.ku C.kv hr hr hr
  have q1 := VX.same (mmul_mx r r c u A) (C.mmul_sz hr C.hu C.hA C.ku C.kA) sm hr hc
  have q2 := VX.same (mmul_mx r r r u v) (C.mmul_sz hr C.hu C.hv C.ku C.kv) (b := idM r) ((idM_bd r).sz (by decide)) hr hr
  refine ⟨_, rfinI_ok, fun h => outb ?_, fun h5 => ⟨_, _, _, _, p1, q1, fun h => outb ?_, fun h6 => ⟨_, _, _, _, _, _, _, p2, FnD.frz (rident_ok hr), q2, fun h => outb ?_, fun h7 => ?_⟩⟩⟩
  · have : (b == finI r c t k) = false := by simpa using h
    simp [validI, this]
  · have : ¬ mmul r r c u A = m := by simpa using h
    simp [validI, this]
  · have : ¬ mmul r r r u v = idM r := by simpa using h
    simp [validI, this]
  have g5 : (b == finI r c t k) = true := by simpa using h5
  have g6 : mmul r r c u A = m := by simpa using h6
  have g7 : mmul r r r u v = idM r := by simpa using h7
  have hv : validI r c A m u v t k b = validR r t.toNat k.toNat m := by simp [validI, g1, g2, g3, g4, g5, g6, g7]
  rw [hv]
  clear hv h5 h6 h7 g5 g6 g7 p1 p2 q1 q2 e1 e2 e3
  obtain ⟨t, rfl⟩ : ∃ n : Nat, t = (n : Int) := ⟨t.toNat, by omega⟩
  obtain ⟨k, rfl⟩ : ∃ n : Nat, k = (n : Int) := ⟨k.toNat, by omega⟩
  rw [Int.toNat_natCast, Int.toNat_natCast]
  have ht : t ≤ r := by omega
  have hk : k ≤ c := by omega
  have cm := cor_mx C.hm ht hk
  refine ⟨_, _, _, corner_ok C.hm ht hk hr, _, rIs_ok cm (cor_sz sm) (by omega) (by omega), fun h => outb ?_, fun h8 => ⟨_, rank_ok cm (by omega) (by omega), fun h => outb ?_, fun h9 => ?_⟩⟩
  · have : isHB t k (cor t k m) = false := by simpa using h
    simp [validR, this]
  · have : ¬ (rankF t (cor t k m) : Int) = t := by simpa using h
    have : ¬ rankF t (cor t k m) = t := by omega
    simp [validR, this]
  have g8 : isHB t k (cor t k m) = true := by simpa using h8
  have g9 : (rankF t (cor t k m) : Int) = t := by simpa using h9
  have g9 : rankF t (cor t k m) = t := by omega
  have hv : validR r t k m = zeroB r t k m := by simp [validR, g8, g9]
  rw [hv]
  have zf : ∀ {i : Nat}, i < r → t ≤ i → zP k m i = false → zeroB r t k m = false := fun {i} hi hti hz => by
    unfold zeroB
    rw [List.all_eq_false]
    exact ⟨i, List.mem_range.2 hi, by simp [hz, hti]⟩
  refine ⟨fun i => ∃ n : Nat, i = (n : Int) ∧ t ≤ n ∧ n ≤ r ∧ ∀ j, t ≤ j → j < n → zP k m j = true, fun i => ((r : Int) - i).toNat, ⟨t, rfl, Nat.le_refl _, ht, fun j hj => by omega⟩, ?_⟩
  rintro _ ⟨n, rfl, htn, hn, hz⟩
  refine ⟨fun h => ?_, fun h => outb ?_⟩
  · have hnr : n < r := by simpa using h
    obtain ⟨hnm, hnl⟩ := mx_row C.hm hnr
    refine ⟨fun j => ∃ q : Nat, j = (q : Int) ∧ q ≤ k ∧ ∀ x, x < q → el m n x = 0, fun j => ((k : Int) - j).toNat, ⟨0, rfl, by omega, fun x hx => by omega⟩, ?_⟩
    rintro _ ⟨q, rfl, hq, hqz⟩
    refine ⟨fun h2 => ?_, fun h2 => ?_⟩
    · have hqk : q < k := by simpa using h2
      refine ⟨_, _, _, _, ⟨by omega, by rw [rows_length]; omega⟩, rows_getN hnm, ⟨by omega, by rw [row_length]; omega⟩, row_getN (by omega), rsign_ok _, fun h3 => outb ?_, fun h3 => ?_⟩
      · have h4 := sgn_ne.1 h3
        symm
        refine zf hnr htn ((bool_eq (zP_iff (by omega))).2 fun hall => h4 (hall q hqk))
      · rw [inc64 (by omega)]
        refine ⟨⟨q + 1, rfl, by omega, fun x hx => ?_⟩, by show ((k : Int) - ((q + 1 : Nat) : Int)).toNat < ((k : Int) - (q : Int)).toNat; omega⟩
        by_cases hxq : x = q
        · apply Classical.byContradiction
          intro hne
          rw [hxq] at hne
          rw [sgn_ne.2 (show elr (m.getD n []) q ≠ 0 from hne)] at h3; simp at h3
        · exact hqz x (by omega)
    · have hqk : q = k := by have : k ≤ q := by simpa using h2
                             omega
      subst hqk
      rw [inc64 (by omega)]
      refine ⟨⟨n + 1, rfl, by omega, by omega, fun j hj hjn => ?_⟩, by show ((r : Int) - ((n + 1 : Nat) : Int)).toNat < ((r : Int) - (n : Int)).toNat; omega⟩
      by_cases h3 : j = n
      · rw [h3]; exact (zP_iff (by omega)).2 hqz
      · exact hz j hj (by omega)
  · have hnr : n = r := by have : r ≤ n := by simpa using h
                           omega
    subst hnr
    symm
    unfold zeroB
    rw [List.all_eq_true]
    intro i hi
    have := List.mem_range.1 hi
    by_cases hit : i < t
    · simp [hit]
    · simp [hz i (by omega) this]
omit C in
theorem psized_ok {n c' : Nat} {a : List (List Int)} (ha : Mx n c' a) (sa : SzM a) (hn : n ≤ 4294967296) (hc' : c' ≤ 4294967296) : FnD prog 44 [eM n c' a, vi n, vi c'] (vb true) [] := by
  refine vc44_ok _ _ _ _ _ (R := Out _) ?_
  unfold vc44
  refine ⟨_, mvalid_ok ha sa hn hc', fun _ => ⟨fun _ => outb (by simp), fun h => by simp at h⟩, fun h => absurd h (by decide)⟩
theorem pproduct_ok {c' : Nat} {a b d : List (List Int)} (ha : Mx r r a) (hb : Mx r c' b) (ka : BdM K a) (kb : BdM K b) (sd : SzM d) (hc' : c' ≤ 4294967296) : FnD prog 45 [eM r r a, eM r c' b, eM r c' d] (vb (decide (mmul r r c' a b = d))) [] := by
  refine vc45_ok _ _ _ _ _ _ _ _ _ (R := Out _) ?_
  unfold vc45
  refine ⟨_, _, _, _, mmulB C.hS ha hb ka kb C.hr C.hr hc', fun _ => ⟨_, VX.equal (mmul_mx r r c' a b) (C.mmul_sz C.hr ha hb ka kb) sd C.hr hc', outb rfl⟩, fun h => by simp at h⟩
omit C in
theorem piv_take {w : List Int} {k : Nat} : 0 ≤ piv (w.take k) ↔ (!(w.take k).any fun z => decide (z ≠ 0)) = false := by
  have := firstI_any (fun z => decide (z ≠ 0)) (w.take k)
  show 0 ≤ firstI _ _ ↔ _
  rw [Bool.not_eq_false', ← this, decide_eq_true_eq]
theorem VX.validR_eq {t k : Nat} (ht : t ≤ r) : validR r t k m = ((List.range r).all (fun i => zP k m i == decide (t ≤ i)) && isHB t k (cor t k m)) := by
  have hl := C.hm.1
  rw [Bool.eq_iff_iff, validR_iff, rankF_full, Bool.and_eq_true, List.all_eq_true]
  unfold zeroB
  rw [List.all_eq_true]
  constructor
  · rintro ⟨h1, h2, h3⟩
    refine ⟨fun i hi => ?_, h1⟩
    by_cases hit : i < t
    · have := h2 i hit
      rw [cor_row hit (by omega), piv_take] at this
      unfold zP
      rw [this, decide_eq_false (by omega)]; rfl
    · have := h3 i hi
      simp only [hit, decide_false, Bool.false_or] at this
      rw [this, decide_eq_true (by omega)]; rfl
  · rintro ⟨h1, h2⟩
    refine ⟨h2, fun i hit => ?_, fun i hi => ?_⟩
    · have := h1 i (List.mem_range.2 (by omega))
      rw [cor_row hit (by omega), piv_take]
      rw [decide_eq_false (by omega), beq_iff_eq] at this
      exact this
    · have := h1 i hi
      by_cases hit : i < t
      · simp [hit]
      · rw [decide_eq_true (by omega), beq_iff_eq] at this
        simp [this]
theorem pvalid_ok (t k : Int) (b : Bool) : FnD prog 19 [ePi r c A m u v t k b] (vb (validI r c A m u v t k b)) [] := by
  refine vc19_ok _ _ _ _ _ _ _ _ _ _ _ _ _ _ _ (R := Out _) ?_
  unfold vc19
  have hr := C.hr; have hc := C.hc
  have sA := C.kA.szm C.hS; have sm := C.km.szm C.hS; have su := C.ku.szm C.hS; have sv := C.kv.szm C.hS
  refine ⟨_, mvalid_ok C.hA sA hr hc, fun h => absurd h (by decide), fun _ => ⟨_, psized_ok C.hm sm hr hc, fun h => absurd h (by decide), fun _ => ⟨_, psized_ok C.hu su hr hr, fun h => absurd h (by decide), fun _ => ⟨_, psized_ok C.hv sv hr hr, fun h => absurd h (by decide), fun _ => ?_⟩⟩⟩⟩
  refine ⟨fun h => outb ?_, fun h1 => ⟨fun h => outb ?_, fun h2 => ⟨fun h => outb ?_, fun h3 => ⟨fun h => outb ?_, fun h4 => ?_⟩⟩⟩⟩
  · have := of_decide_eq_true h; simp [validI, show ¬ 0 ≤ t by omega]
  · have := of_decide_eq_true h; simp [validI, show ¬ t ≤ r by omega]
  · have := of_decide_eq_true h; simp [validI, show ¬ t ≤ k by omega]
  · have := of_decide_eq_true h; simp [validI, show ¬ k ≤ c by omega]
  have g1 : 0 ≤ t := by have := of_decide_eq_false h1; omega
  have g2 : t ≤ r := by have := of_decide_eq_false h2; omega
  have g3 : t ≤ k := by have := of_decide_eq_false h3; omega
  have g4 : k ≤ c := by have := of_decide_eq_false h4; omega
  clear h1 h2 h3 h4
  refine ⟨_, finI_ok, fun h => outb ?_, fun h5 => ⟨_, pproduct_ok C C.hu C.hA C.ku C.kA sm hc, fun h => outb ?_, fun h6 => ⟨_, _, _, _, mident_ok hr, pproduct_ok C C.hu C.hv C.ku C.kv (d := idM r) ((idM_bd r).sz (by decide)) hr, fun h => outb ?_, fun h7 => ?_⟩⟩⟩
  · have : (b == finI r c t k) = false := by simpa using h
    simp [validI, this]
  · have : ¬ mmul r r c u A = m := by simpa using h
    simp [validI, this]
  · have : ¬ mmul r r r u v = idM r := by simpa using h
    simp [validI, this]
  have g5 : (b == finI r c t k) = true := by simpa using h5
  have g6 : mmul r r c u A = m := by simpa using h6
  have g7 : mmul r r r u v = idM r := by simpa using h7
  have hv : validI r c A m u v t k b = validR r t.toNat k.toNat m := by simp [validI, g1, g2, g3, g4, g5, g6, g7]
  rw [hv]
  clear hv h5 h6 h7 g5 g6 g7
  obtain ⟨t, rfl⟩ : ∃ n : Nat, t = (n : Int) := ⟨t.toNat, by omega⟩
  obtain ⟨k, rfl⟩ : ∃ n : Nat, k = (n : Int) := ⟨k.toNat, by omega⟩
  rw [Int.toNat_natCast, Int.toNat_natCast]
  have ht : t ≤ r := by omega
  have hk : k ≤ c := by omega
  rw [C.validR_eq ht]
  have hlen : ((rows m).length : Int) = (r : Int) := by rw [rows_length, C.hm.1]
  rw [hlen]
  have bad : ∀ {n : Nat}, n < r → (zP k m n == decide (t ≤ n)) = false → ((List.range r).all (fun i => zP k m i == decide (t ≤ i)) && isHB t k (cor t k m)) = false := fun {n} hn h => by
    have : (List.range r).all (fun i => zP k m i == decide (t ≤ i)) = false := by
      rw [List.all_eq_false]
      exact ⟨n, List.mem_range.2 hn, by rw [h]; decide⟩
    rw [this]; rfl
  refine ⟨fun o i => ∃ n : Nat, i = (n : Int) ∧ n ≤ r ∧ o = rows (cor (min n t) k m) ∧ ∀ j, j < n → (zP k m j == decide (t ≤ j)) = true, fun _ i => ((r : Int) - i).toNat, ⟨0, rfl, by omega, by rw [Nat.zero_min]; rfl, fun j hj => by omega⟩, ?_⟩
  rintro _ _ ⟨n, rfl, hn, rfl, hz⟩
  refine ⟨fun h => ?_, fun h => ?_⟩
  · have hnr : n < r := by simpa using h
    obtain ⟨hnm, hnl⟩ := mx_row C.hm hnr
    have hzo := mzero_ok (r := (m.getD n []).take k) (by rw [List.length_take]; omega)
    have hdt : decide ((n : Int) ≥ (t : Int)) = decide (t ≤ n) := by
      by_cases h : t ≤ n
      · rw [decide_eq_true h, decide_eq_true (by omega)]
      · rw [decide_eq_false h, decide_eq_false (by omega)]
    refine ⟨_, ⟨by omega, by omega⟩, rows_getN hnm, zP k m n, ⟨by omega, by rw [row_length]; omega⟩, by rw [row_takeN]; exact hzo, fun h2 => outb ?_, fun h2 => ?_⟩
    · rw [hdt] at h2
      exact (bad hnr (by simpa using h2)).symm
    rw [hdt] at h2
    have h3 : (zP k m n == decide (t ≤ n)) = true := by simpa using h2
    have hz' : ∀ j, j < n + 1 → (zP k m j == decide (t ≤ j)) = true := fun j hj => by
      by_cases hjn : j = n
      · rw [hjn]; exact h3
      · exact hz j (by omega)
    rw [inc64 (by omega)]
    refine ⟨fun h4 => ?_, fun h4 => ?_⟩
    · have hnt : n < t := by have := of_decide_eq_true h4; omega
      have hcl : (cor (min n t) k m).length = n := by rw [Nat.min_eq_left (by omega)]; exact (cor_mx C.hm (by omega) hk).1
      refine ⟨?_, ⟨n + 1, rfl, by omega, ?_, hz'⟩, by show ((r : Int) - ((n + 1 : Nat) : Int)).toNat < ((r : Int) - (n : Int)).toNat; omega⟩
      · rw [rows_length, hcl]; simp only [List.length_cons, List.length_nil]; omega
      · rw [Nat.min_eq_left (by omega), Nat.min_eq_left (by omega), cor_succ hnm, row_takeN]
        simp [rows]
    · have hnt : t ≤ n := by have := of_decide_eq_false h4; omega
      refine ⟨⟨n + 1, rfl, by omega, ?_, hz'⟩, by show ((r : Int) - ((n + 1 : Nat) : Int)).toNat < ((r : Int) - (n : Int)).toNat; omega⟩
      rw [Nat.min_eq_right (by omega), Nat.min_eq_right (by omega)]
  · have hnr : n = r := by have : r ≤ n := by simpa using h
                           omega
    subst hnr
    rw [Nat.min_eq_right ht]
    refine ⟨_, pIs_ok (cor_mx C.hm ht hk) (cor_sz sm) (by omega) (by omega), outb ?_⟩
    have : (List.range n).all (fun i => zP k m i == decide (t ≤ i)) = true := by
      rw [List.all_eq_true]
      exact fun i hi => hz i (List.mem_range.1 hi)
    rw [this, Bool.true_and]
end
theorem rcheck_ok {r c K : Nat} {A m u v : List (List Int)} (C : VX r c K A m u v) : FnD prog 21 [eM r c A, eHer r c m u v] (vb (isHB r c m && (decide (mmul r r c u A = m) && decide (mmul r r r u v = idM r)))) [] := by
  refine vc21_ok _ _ _ _ _ _ _ _ _ _ _ _ (R := Out _) ?_
  unfold vc21
  have hr := C.hr; have hc := C.hc
  have sA := C.kA.szm C.hS; have sm := C.km.szm C.hS; have su := C.ku.szm C.hS; have sv := C.kv.szm C.hS
  have e2 := sized_ok C.hu su hr hr r r
  have e3 := sized_ok C.hv sv hr hr r r
  rw [decide_eq_true ⟨rfl, rfl⟩] at e2 e3
  have p1 := m5prodB C.hS C.hu C.hA C.ku C.kA hr hr hc
  have p2 := m5prodB C.hS C.hu C.hv C.ku C.kv hr hr hr
  have q1 := VX.same (mmul_mx r r c u A) (C.mmul_sz hr C.hu C.hA C.ku C.kA) sm hr hc
  have q2 := VX.same (mmul_mx r r r u v) (C.mmul_sz hr C.hu C.hv C.ku C.kv) (b := idM r) ((idM_bd r).sz (by decide)) hr hr
  refine ⟨_, rvalidM_ok C.hA sA hr hc, _, rIs_ok C.hm sm hr hc, fun h => absurd h (by decide), fun _ => ⟨fun h => outb ?_, fun h1 => ⟨fun h => by simp at h, fun _ => ⟨fun h => by simp at h, fun _ => ⟨_, e2, _, e3, fun _ => ⟨fun _ => ⟨_, _, _, _, p1, q1, fun h2 => ⟨_, _, _, _, _, _, _, p2, FnD.frz (rident_ok hr), q2, outb ?_⟩, fun h2 => outb ?_⟩, fun h => absurd h (by decide)⟩, fun h => absurd h (by decide)⟩⟩⟩⟩⟩
  · have : isHB r c m = false := by simpa using h
    rw [this]; rfl
  · have g1 : isHB r c m = true := by simpa using h1
    rw [g1, h2]; rfl
  · rw [h2, Bool.false_and, Bool.and_false]
end Go.AM
/- The fixed examples of the law of steps, with the answers put in. Printed by gen8.py. -/
set_option maxRecDepth 100000
set_option linter.unusedVariables false
namespace Go.AM
open Go.Proofs.Tryz
def vc8 (R : V → Heap → Prop) : Prop :=
 (FnD prog 26 [vD (dI (2 : Int)), vD (dI (1 : Int)), vD (dL [[dI (4 : Int)], [dI (6 : Int)]])] (vA [sD (dI (2 : Int)), sD (dI (1 : Int)), S.ref 0]) [some (Obj.mat 2 (om [[4], [6]]))]) ∧
 (FnD prog 10 [vA [sD (dI (2 : Int)), sD (dI (1 : Int)), sD (dL (matD (om [[4], [6]])))]] (vA [sD (dI (2 : Int)), sD (dI (1 : Int)), sD (dL (rows [[4], [6]])), sD (dI (2 : Int)), sD (dI (1 : Int)), sD (dL (rows [[4], [6]])), sD (dI (2 : Int)), sD (dI (2 : Int)), sD (dL (rows [[1, 0], [0, 1]])), sD (dI (2 : Int)), sD (dI (2 : Int)), sD (dL (rows [[1, 0], [0, 1]])), sD (dI (0 : Int)), sD (dI (0 : Int)), sD (dB false)]) []) ∧
 (FnD prog 13 [vA [sD (dI (2 : Int)), sD (dI (1 : Int)), sD (dL (rows [[4], [6]])), sD (dI (2 : Int)), sD (dI (1 : Int)), sD (dL (rows [[4], [6]])), sD (dI (2 : Int)), sD (dI (2 : Int)), sD (dL (rows [[1, 0], [0, 1]])), sD (dI (2 : Int)), sD (dI (2 : Int)), sD (dL (rows [[1, 0], [0, 1]])), sD (dI (0 : Int)), sD (dI (0 : Int)), sD (dB false)], vD (dI (1 : Int))] (vA [sD (dI (2 : Int)), sD (dI (1 : Int)), sD (dL (rows [[4], [6]])), sD (dI (2 : Int)), sD (dI (1 : Int)), sD (dL (rows [[4], [2]])), sD (dI (2 : Int)), sD (dI (2 : Int)), sD (dL (rows [[1, 0], [-1, 1]])), sD (dI (2 : Int)), sD (dI (2 : Int)), sD (dL (rows [[1, 0], [1, 1]])), sD (dI (0 : Int)), sD (dI (0 : Int)), sD (dB false)]) []) ∧
 (FnD prog 13 [vA [sD (dI (2 : Int)), sD (dI (1 : Int)), sD (dL (rows [[4], [6]])), sD (dI (2 : Int)), sD (dI (1 : Int)), sD (dL (rows [[4], [2]])), sD (dI (2 : Int)), sD (dI (2 : Int)), sD (dL (rows [[1, 0], [-1, 1]])), sD (dI (2 : Int)), sD (dI (2 : Int)), sD (dL (rows [[1, 0], [1, 1]])), sD (dI (0 : Int)), sD (dI (0 : Int)), sD (dB false)], vD (dI (1 : Int))] (vA [sD (dI (2 : Int)), sD (dI (1 : Int)), sD (dL (rows [[4], [6]])), sD (dI (2 : Int)), sD (dI (1 : Int)), sD (dL (rows [[2], [4]])), sD (dI (2 : Int)), sD (dI (2 : Int)), sD (dL (rows [[-1, 1], [1, 0]])), sD (dI (2 : Int)), sD (dI (2 : Int)), sD (dL (rows [[0, 1], [1, 1]])), sD (dI (0 : Int)), sD (dI (0 : Int)), sD (dB false)]) []) ∧
 (FnD prog 13 [vA [sD (dI (2 : Int)), sD (dI (1 : Int)), sD (dL (rows [[4], [6]])), sD (dI (2 : Int)), sD (dI (1 : Int)), sD (dL (rows [[2], [4]])), sD (dI (2 : Int)), sD (dI (2 : Int)), sD (dL (rows [[-1, 1], [1, 0]])), sD (dI (2 : Int)), sD (dI (2 : Int)), sD (dL (rows [[0, 1], [1, 1]])), sD (dI (0 : Int)), sD (dI (0 : Int)), sD (dB false)], vD (dI (100 : Int))] (vA [sD (dI (2 : Int)), sD (dI (1 : Int)), sD (dL (rows [[4], [6]])), sD (dI (2 : Int)), sD (dI (1 : Int)), sD (dL (rows [[2], [0]])), sD (dI (2 : Int)), sD (dI (2 : Int)), sD (dL (rows [[-1, 1], [3, -2]])), sD (dI (2 : Int)), sD (dI (2 : Int)), sD (dL (rows [[2, 1], [3, 1]])), sD (dI (1 : Int)), sD (dI (1 : Int)), sD (dB true)]) []) ∧
 (FnD prog 20 [vA [sD (dI (2 : Int)), sD (dI (1 : Int)), sD (dL (rows [[4], [6]])), sD (dI (2 : Int)), sD (dI (1 : Int)), sD (dL (rows [[2], [4]])), sD (dI (2 : Int)), sD (dI (2 : Int)), sD (dL (rows [[-1, 1], [1, 0]])), sD (dI (2 : Int)), sD (dI (2 : Int)), sD (dL (rows [[0, 1], [1, 1]])), sD (dI (0 : Int)), sD (dI (0 : Int)), sD (dB false)]] (V.tup [E.agg [sD (dI (0 : Int)), sD (dI (0 : Int)), sD (dL ([] : List (List D))), sD (dI (0 : Int)), sD (dI (0 : Int)), sD (dL ([] : List (List D))), sD (dI (0 : Int)), sD (dI (0 : Int)), sD (dL ([] : List (List D)))], eD (dI (210 : Int))]) []) ∧
 (FnD prog 20 [vA [sD (dI (2 : Int)), sD (dI (1 : Int)), sD (dL (rows [[4], [6]])), sD (dI (2 : Int)), sD (dI (1 : Int)), sD (dL (rows [[2], [0]])), sD (dI (2 : Int)), sD (dI (2 : Int)), sD (dL (rows [[-1, 1], [3, -2]])), sD (dI (2 : Int)), sD (dI (2 : Int)), sD (dL (rows [[2, 1], [3, 1]])), sD (dI (1 : Int)), sD (dI (1 : Int)), sD (dB true)]] (V.tup [E.agg [sD (dI (2 : Int)), sD (dI (1 : Int)), sD (dL (rows [[2], [0]])), sD (dI (2 : Int)), sD (dI (2 : Int)), sD (dL (rows [[-1, 1], [3, -2]])), sD (dI (2 : Int)), sD (dI (2 : Int)), sD (dL (rows [[2, 1], [3, 1]]))], eD (dI (0 : Int))]) []) ∧
 (FnD prog 10 [vA [sD (dI (0 : Int)), sD (dI (3 : Int)), sD (dL ([] : List (List D)))]] (vA [sD (dI (0 : Int)), sD (dI (3 : Int)), sD (dL ([] : List (List D))), sD (dI (0 : Int)), sD (dI (3 : Int)), sD (dL ([] : List (List D))), sD (dI (0 : Int)), sD (dI (0 : Int)), sD (dL ([] : List (List D))), sD (dI (0 : Int)), sD (dI (0 : Int)), sD (dL ([] : List (List D))), sD (dI (0 : Int)), sD (dI (0 : Int)), sD (dB true)]) []) ∧
 (FnD prog 12 [vA [sD (dI (2 : Int)), sD (dI (1 : Int)), sD (dL (matD (om [[4], [6]])))]] (vA [sD (dI (2 : Int)), sD (dI (1 : Int)), sD (dL (rows [[4], [6]])), sD (dI (2 : Int)), sD (dI (1 : Int)), sD (dL (rows [[4], [6]])), sD (dI (2 : Int)), sD (dI (2 : Int)), sD (dL (rows [[1, 0], [0, 1]])), sD (dI (2 : Int)), sD (dI (2 : Int)), sD (dL (rows [[1, 0], [0, 1]])), sD (dI (0 : Int)), sD (dI (0 : Int)), sD (dB false)]) []) ∧
 (FnD prog 11 [vA [sD (dI (2 : Int)), sD (dI (1 : Int)), sD (dL (rows [[4], [6]])), sD (dI (2 : Int)), sD (dI (1 : Int)), sD (dL (rows [[4], [6]])), sD (dI (2 : Int)), sD (dI (2 : Int)), sD (dL (rows [[1, 0], [0, 1]])), sD (dI (2 : Int)), sD (dI (2 : Int)), sD (dL (rows [[1, 0], [0, 1]])), sD (dI (0 : Int)), sD (dI (0 : Int)), sD (dB false)], vA [sD (dI (2 : Int)), sD (dI (1 : Int)), sD (dL (rows [[4], [6]])), sD (dI (2 : Int)), sD (dI (1 : Int)), sD (dL (rows [[4], [6]])), sD (dI (2 : Int)), sD (dI (2 : Int)), sD (dL (rows [[1, 0], [0, 1]])), sD (dI (2 : Int)), sD (dI (2 : Int)), sD (dL (rows [[1, 0], [0, 1]])), sD (dI (0 : Int)), sD (dI (0 : Int)), sD (dB false)]] (vD (dB true)) []) ∧
 (FnD prog 26 [vD (dI (2 : Int)), vD (dI (1 : Int)), vD (dL [[dI (4 : Int)], [dI (2 : Int)]])] (vA [sD (dI (2 : Int)), sD (dI (1 : Int)), sD (dL (rows [[4], [2]]))]) []) ∧
 (FnD prog 22 [vA [sD (dI (2 : Int)), sD (dI (1 : Int)), sD (dL (rows [[4], [2]]))], vA [sD (dI (2 : Int)), sD (dI (1 : Int)), sD (dL (rows [[4], [2]]))]] (vD (dB true)) []) ∧
 (FnD prog 26 [vD (dI (2 : Int)), vD (dI (1 : Int)), vD (dL [[dI (2 : Int)], [dI (4 : Int)]])] (vA [sD (dI (2 : Int)), sD (dI (1 : Int)), sD (dL (rows [[2], [4]]))]) []) ∧
 (FnD prog 22 [vA [sD (dI (2 : Int)), sD (dI (1 : Int)), sD (dL (rows [[2], [4]]))], vA [sD (dI (2 : Int)), sD (dI (1 : Int)), sD (dL (rows [[2], [4]]))]] (vD (dB true)) []) ∧
 (FnD prog 26 [vD (dI (2 : Int)), vD (dI (1 : Int)), vD (dL [[dI (2 : Int)], [dI (0 : Int)]])] (vA [sD (dI (2 : Int)), sD (dI (1 : Int)), sD (dL (rows [[2], [0]]))]) []) ∧
 (FnD prog 22 [vA [sD (dI (2 : Int)), sD (dI (1 : Int)), sD (dL (rows [[2], [0]]))], vA [sD (dI (2 : Int)), sD (dI (1 : Int)), sD (dL (rows [[2], [0]]))]] (vD (dB true)) []) ∧
 (FnD prog 21 [vA [sD (dI (2 : Int)), sD (dI (1 : Int)), sD (dL (matD (om [[4], [6]])))], vA [sD (dI (2 : Int)), sD (dI (1 : Int)), sD (dL (rows [[2], [0]])), sD (dI (2 : Int)), sD (dI (2 : Int)), sD (dL (rows [[-1, 1], [3, -2]])), sD (dI (2 : Int)), sD (dI (2 : Int)), sD (dL (rows [[2, 1], [3, 1]]))]] (vD (dB true)) []) ∧
 (FnD prog 15 [vA [sD (dI (2 : Int)), sD (dI (1 : Int)), sD (dL (matD (om [[4], [6]])))]] (vD (dI (4 : Int))) []) ∧
 (FnD prog 15 [vA [sD (dI (1 : Int)), sD (dI (0 : Int)), sD (dL [[dL ([] : List (List D))]])]] (vD (dI (0 : Int))) []) ∧
 (FnD prog 19 [vA [sD (dI (2 : Int)), sD (dI (1 : Int)), sD (dL (rows [[4], [6]])), sD (dI (2 : Int)), sD (dI (1 : Int)), sD (dL (rows [[2], [4]])), sD (dI (2 : Int)), sD (dI (2 : Int)), sD (dL (rows [[-1, 1], [1, 0]])), sD (dI (2 : Int)), sD (dI (2 : Int)), sD (dL (rows [[0, 1], [1, 1]])), sD (dI (0 : Int)), sD (dI (0 : Int)), sD (dB false)]] (vD (dB true)) []) ∧
 (FnD prog 19 [vA [sD (dI (0 : Int)), sD (dI (0 : Int)), sD (dL ([] : List (List D))), sD (dI (0 : Int)), sD (dI (0 : Int)), sD (dL ([] : List (List D))), sD (dI (0 : Int)), sD (dI (0 : Int)), sD (dL ([] : List (List D))), sD (dI (0 : Int)), sD (dI (0 : Int)), sD (dL ([] : List (List D))), sD (dI (1 : Int)), sD (dI (0 : Int)), sD (dB false)]] (vD (dB false)) []) ∧
 (FnD prog 19 [vA [sD (dI (0 : Int)), sD (dI (0 : Int)), sD (dL ([] : List (List D))), sD (dI (0 : Int)), sD (dI (0 : Int)), sD (dL ([] : List (List D))), sD (dI (0 : Int)), sD (dI (0 : Int)), sD (dL ([] : List (List D))), sD (dI (0 : Int)), sD (dI (0 : Int)), sD (dL ([] : List (List D))), sD (dI (0 : Int)), sD (dI (0 : Int)), sD (dB false)]] (vD (dB false)) []) ∧
 R (vD (dB (!false))) []
theorem vc8_ok {R : V → Heap → Prop} (h : vc8 R) : FnG prog 8 [] [] R :=
  FnG.vcg hT func8 ntmps8 (.r0 [] <| .reg 3 [(0, Or.frz, 0, 1), (1, Or.call (vA [sD (dI (2 : Int)), sD (dI (1 : Int)), S.ref 0]) [some (Obj.mat 2 (om [[4], [6]]))] [], 1, 1), (2, Or.none, 2, 1)] [1] [2, 1] [] <| .frz [1] <| .reg 1 [(1, Or.call (vA [sD (dI (2 : Int)), sD (dI (1 : Int)), sD (dL (rows [[4], [6]])), sD (dI (2 : Int)), sD (dI (1 : Int)), sD (dL (rows [[4], [6]])), sD (dI (2 : Int)), sD (dI (2 : Int)), sD (dL (rows [[1, 0], [0, 1]])), sD (dI (2 : Int)), sD (dI (2 : Int)), sD (dL (rows [[1, 0], [0, 1]])), sD (dI (0 : Int)), sD (dI (0 : Int)), sD (dB false)]) [] [], 0, 0), (2, Or.none, 2, 1)] [1, 2] [0, 2] [] <| .reg 1 [(1, Or.call (vA [sD (dI (2 : Int)), sD (dI (1 : Int)), sD (dL (rows [[4], [6]])), sD (dI (2 : Int)), sD (dI (1 : Int)), sD (dL (rows [[4], [2]])), sD (dI (2 : Int)), sD (dI (2 : Int)), sD (dL (rows [[1, 0], [-1, 1]])), sD (dI (2 : Int)), sD (dI (2 : Int)), sD (dL (rows [[1, 0], [1, 1]])), sD (dI (0 : Int)), sD (dI (0 : Int)), sD (dB false)]) [] [], 0, 0), (2, Or.none, 2, 1)] [1, 2, 3] [0, 1, 2] [] <| .reg 1 [(1, Or.call (vA [sD (dI (2 : Int)), sD (dI (1 : Int)), sD (dL (rows [[4], [6]])), sD (dI (2 : Int)), sD (dI (1 : Int)), sD (dL (rows [[2], [4]])), sD (dI (2 : Int)), sD (dI (2 : Int)), sD (dL (rows [[-1, 1], [1, 0]])), sD (dI (2 : Int)), sD (dI (2 : Int)), sD (dL (rows [[0, 1], [1, 1]])), sD (dI (0 : Int)), sD (dI (0 : Int)), sD (dB false)]) [] [], 0, 0), (2, Or.none, 3, 1)] [1, 2, 3, 4] [0, 1, 2, 3] [] <| .reg 1 [(1, Or.call (vA [sD (dI (2 : Int)), sD (dI (1 : Int)), sD (dL (rows [[4], [6]])), sD (dI (2 : Int)), sD (dI (1 : Int)), sD (dL (rows [[2], [0]])), sD (dI (2 : Int)), sD (dI (2 : Int)), sD (dL (rows [[-1, 1], [3, -2]])), sD (dI (2 : Int)), sD (dI (2 : Int)), sD (dL (rows [[2, 1], [3, 1]])), sD (dI (1 : Int)), sD (dI (1 : Int)), sD (dB true)]) [] [], 0, 0), (2, Or.none, 4, 1)] [1, 2, 3, 4, 5] [0, 1, 2, 3, 4] [] <| .reg 1 [(1, Or.call (V.tup [E.agg [sD (dI (0 : Int)), sD (dI (0 : Int)), sD (dL ([] : List (List D))), sD (dI (0 : Int)), sD (dI (0 : Int)), sD (dL ([] : List (List D))), sD (dI (0 : Int)), sD (dI (0 : Int)), sD (dL ([] : List (List D)))], eD (dI (210 : Int))]) [] [], 0, 0), (5, Or.none, 5, 1)] [1, 2, 3, 4, 5, 7] [0, 1, 2, 3, 4] [] <| .reg 1 [(1, Or.call (V.tup [E.agg [sD (dI (2 : Int)), sD (dI (1 : Int)), sD (dL (rows [[2], [0]])), sD (dI (2 : Int)), sD (dI (2 : Int)), sD (dL (rows [[-1, 1], [3, -2]])), sD (dI (2 : Int)), sD (dI (2 : Int)), sD (dL (rows [[2, 1], [3, 1]]))], eD (dI (0 : Int))]) [] [], 0, 0), (5, Or.none, 5, 1)] [1, 2, 3, 4, 5, 7, 8, 9] [0, 1, 2, 3, 4, 5] [] <| .reg 1 [(1, Or.call (vA [sD (dI (0 : Int)), sD (dI (3 : Int)), sD (dL ([] : List (List D))), sD (dI (0 : Int)), sD (dI (3 : Int)), sD (dL ([] : List (List D))), sD (dI (0 : Int)), sD (dI (0 : Int)), sD (dL ([] : List (List D))), sD (dI (0 : Int)), sD (dI (0 : Int)), sD (dL ([] : List (List D))), sD (dI (0 : Int)), sD (dI (0 : Int)), sD (dB true)]) [] [], 0, 0), (2, Or.none, 6, 1)] [1, 2, 3, 4, 5, 7, 8, 9, 10] [0, 1, 2, 3, 4, 5, 6] [] <| .drw 5 [(2, (Or.call (vA [sD (dI (2 : Int)), sD (dI (1 : Int)), sD (dL (rows [[4], [6]])), sD (dI (2 : Int)), sD (dI (1 : Int)), sD (dL (rows [[4], [6]])), sD (dI (2 : Int)), sD (dI (2 : Int)), sD (dL (rows [[1, 0], [0, 1]])), sD (dI (2 : Int)), sD (dI (2 : Int)), sD (dL (rows [[1, 0], [0, 1]])), sD (dI (0 : Int)), sD (dI (0 : Int)), sD (dB false)]) [] [], 0, 0), []), (3, (Or.call (vD (dB true)) [] [], 0, 0), []), (12, (Or.frz, 7, 1), []), (13, (Or.call (vA [sD (dI (2 : Int)), sD (dI (1 : Int)), sD (dL (rows [[4], [2]]))]) [] [], 0, 0), []), (14, (Or.call (vD (dB true)) [] [], 0, 0), []), (19, (Or.frz, 8, 1), []), (20, (Or.call (vA [sD (dI (2 : Int)), sD (dI (1 : Int)), sD (dL (rows [[2], [4]]))]) [] [], 0, 0), []), (21, (Or.call (vD (dB true)) [] [], 0, 0), []), (26, (Or.frz, 9, 1), []), (27, (Or.call (vA [sD (dI (2 : Int)), sD (dI (1 : Int)), sD (dL (rows [[2], [0]]))]) [] [], 0, 0), []), (28, (Or.call (vD (dB true)) [] [], 0, 0), []), (45, (Or.call (vD (dB true)) [] [], 0, 0), []), (53, (Or.call (vD (dI (4 : Int))) [] [], 0, 0), []), (57, (Or.frz, 10, 1), []), (58, (Or.frz, 11, 1), []), (60, (Or.call (vD (dI (0 : Int))) [] [], 0, 0), []), (65, (Or.call (vD (dB true)) [] [], 0, 0), []), (69, (Or.call (vD (dB false)) [] [], 0, 0), []), (74, (Or.call (vD (dB false)) [] [], 0, 0), [])] [0] [] [] <| .ret [])
    (by kernel_rfl) (by kernel_rfl) (by kernel_rfl) h
end Go.AM
/- The law of steps against the reference; the fixed examples. -/
namespace Go.AM
open Go.Proofs.Tryz
theorem pxs {r c L : Nat} {A : List (List Int)} (hm : Mx r c A) (km : BdM 9 A) (big : (9 * qB r 9 c) * (9 * qB r 9 c) * 4294967296 < 4294967296 ^ L) (hL : L ≤ 1073741824) (hr : r ≤ 4) (hc : c ≤ 4) : PSx r c 9 L A :=
  ⟨hm, km, by decide, big, hL, by omega, by omega⟩
theorem pxs_small {r c : Nat} {A : List (List Int)} (hm : Mx r c A) (km : BdM 9 A) (hr : r ≤ 4) (hc : c ≤ 4) : PSx r c 9 1000 A := by
  refine pxs hm km ?_ (by decide) hr hc
  have h : ∀ r, r ≤ 4 → ∀ c, c ≤ 4 → (9 * qB r 9 c) * (9 * qB r 9 c) * 4294967296 < 4294967296 ^ 1000 := by decide +kernel
  exact h r hr c hc
theorem eS_eq {r c : Nat} {A : List (List Int)} {s : PS} {m u v : List (List Int)} {t k : Nat} {b : Bool}
    (h : apL r c s.d A = m ∧ apL r r s.d (idM r) = u ∧ apCL r s.d (idM r) = v ∧ s.t = t ∧ s.k = k ∧ s.fin r c = b) : eS r c A s = eP r c A m u v t k b := by
  obtain ⟨rfl, rfl, rfl, rfl, rfl, rfl⟩ := h
  rfl
theorem vx_of {r c K : Nat} {A m u v : List (List Int)} (h : (decide (A.length = r) && A.all (fun x => decide (x.length = c)) && (decide (m.length = r) && m.all (fun x => decide (x.length = c))) && (decide (u.length = r) && u.all (fun x => decide (x.length = r))) && (decide (v.length = r) && v.all (fun x => decide (x.length = r))) &&
    (A.all fun x => x.all fun z => decide (z.natAbs ≤ K)) && (m.all fun x => x.all fun z => decide (z.natAbs ≤ K)) && (u.all fun x => x.all fun z => decide (z.natAbs ≤ K)) && (v.all fun x => x.all fun z => decide (z.natAbs ≤ K))) = true) (hK : K ≤ 9) (hr : r ≤ 4) (hc : c ≤ 4) : VX r c K A m u v := by
  simp only [Bool.and_eq_true, decide_eq_true_eq, List.all_eq_true] at h
  obtain ⟨⟨⟨⟨⟨⟨⟨⟨a1, a2⟩, b1, b2⟩, c1, c2⟩, d1, d2⟩, e1⟩, e2⟩, e3⟩, e4⟩ := h
  refine ⟨⟨a1, a2⟩, ⟨b1, b2⟩, ⟨c1, c2⟩, ⟨d1, d2⟩, e1, e2, e3, e4, fun y hy => sz_of (Nat.le_trans hy ?_), by omega, by omega⟩
  exact Nat.le_trans (Nat.mul_le_mul_left _ (Nat.mul_le_mul hK hK)) (by decide)
theorem presult_no {r c : Nat} {A m u v : List (List Int)} {t k : Nat} {b : Bool} (h : finB r c t k = false) :
    FnD prog 20 [eP r c A m u v t k b] (V.tup [(E.agg [(sD (dI (0 : Int))), (sD (dI (0 : Int))), (sD (dL ([] : List (List D)))), (sD (dI (0 : Int))), (sD (dI (0 : Int))), (sD (dL ([] : List (List D)))), (sD (dI (0 : Int))), (sD (dI (0 : Int))), (sD (dL ([] : List (List D))))]), (eD (dI (210 : Int)))]) [] := by
  refine vc20_ok _ _ _ _ _ _ _ _ _ _ _ _ _ _ _ (R := Out _) ?_
  unfold vc20
  have := fin_ok (r := r) (c := c) (A := A) (m := m) (u := u) (v := v) (t := t) (k := k) (b := b)
  rw [h] at this
  exact ⟨_, this, fun _ => ⟨rfl, rfl⟩, fun h => absurd h (by decide)⟩
theorem presult_yes {r c : Nat} {A m u v : List (List Int)} {t k : Nat} {b : Bool} (h : finB r c t k = true) :
    FnD prog 20 [eP r c A m u v t k b] (V.tup [(E.agg [(sD (dI r)), (sD (dI c)), (sD (dL (rows m))), (sD (dI r)), (sD (dI r)), (sD (dL (rows u))), (sD (dI r)), (sD (dI r)), (sD (dL (rows v)))]), (eD (dI (0 : Int)))]) [] := by
  refine vc20_ok _ _ _ _ _ _ _ _ _ _ _ _ _ _ _ (R := Out _) ?_
  unfold vc20
  have := fin_ok (r := r) (c := c) (A := A) (m := m) (u := u) (v := v) (t := t) (k := k) (b := b)
  rw [h] at this
  exact ⟨_, this, fun h => absurd h (by decide), fun _ => ⟨rfl, rfl⟩⟩
def A46 : List (List Int) := [[4], [6]]
theorem sanity21_ok : FnD prog 8 [] (vb true) [] := by
  refine vc8_ok (R := Out _) ?_
  unfold vc8
  have hA : Mx 2 1 A46 := ⟨by decide, by decide⟩
  have kA : BdM 9 A46 := by unfold BdM BdR; decide
  have X : PSx 2 1 9 1000 A46 := pxs_small hA kA (by decide) (by decide)
  have i0 := PInv.start hA kA
  have e0 : eS 2 1 A46 ⟨[], 0, 0⟩ = eP 2 1 [[4], [6]] [[4], [6]] [[1, 0], [0, 1]] [[1, 0], [0, 1]] 0 0 false := eS_eq (by decide +kernel)
  have e1 : eS 2 1 A46 (PS.run 2 1 A46 1 ⟨[], 0, 0⟩) = eP 2 1 [[4], [6]] [[4], [2]] [[1, 0], [-1, 1]] [[1, 0], [1, 1]] 0 0 false := eS_eq (by decide +kernel)
  have e2 : eS 2 1 A46 (PS.run 2 1 A46 1 (PS.run 2 1 A46 1 ⟨[], 0, 0⟩)) = eP 2 1 [[4], [6]] [[2], [4]] [[-1, 1], [1, 0]] [[0, 1], [1, 1]] 0 0 false := eS_eq (by decide +kernel)
  have e3 : eS 2 1 A46 (PS.run 2 1 A46 100 (PS.run 2 1 A46 1 (PS.run 2 1 A46 1 ⟨[], 0, 0⟩))) = eP 2 1 [[4], [6]] [[2], [0]] [[-1, 1], [3, -2]] [[2, 1], [3, 1]] 1 1 true := eS_eq (by decide +kernel)
  have i1 := PInv.run hA kA 1 i0
  have i2 := PInv.run hA kA 1 i1
  have s1 := pstep_ok X i0 (n0 := 1) (by decide)
  have s2 := pstep_ok X i1 (n0 := 1) (by decide)
  have s3 := pstep_ok X i2 (n0 := 100) (by decide)
  rw [show (1 : Int).toNat = 1 from rfl, e0, e1] at s1
  rw [show (1 : Int).toNat = 1 from rfl, e1, e2] at s2
  rw [show (100 : Int).toNat = 100 from rfl, e2, e3] at s3
  have p0 := pstart_ok X
  have q0 := rstart_ok X
  rw [e0] at p0 q0
  have hZ : Mx 0 3 [] := ⟨rfl, fun _ h => by simp at h⟩
  have kZ : BdM 9 [] := fun _ h => by simp at h
  have z0 := pstart_ok (pxs_small hZ kZ (by decide) (by decide))
  have eZ : eS 0 3 [] ⟨[], 0, 0⟩ = eP 0 3 [] [] [] [] 0 0 true := eS_eq (by decide +kernel)
  rw [eZ] at z0
  have V0 : VX 2 1 9 [[4], [6]] [[4], [6]] [[1, 0], [0, 1]] [[1, 0], [0, 1]] := vx_of (by decide +kernel) (by decide) (by decide) (by decide)
  have V2 : VX 2 1 9 [[4], [6]] [[2], [4]] [[-1, 1], [1, 0]] [[0, 1], [1, 1]] := vx_of (by decide +kernel) (by decide) (by decide) (by decide)
  have V3 : VX 2 1 9 [[4], [6]] [[2], [0]] [[-1, 1], [3, -2]] [[2, 1], [3, 1]] := vx_of (by decide +kernel) (by decide) (by decide) (by decide)
  have VZ : VX 0 0 9 [] [] [] [] := vx_of (by decide +kernel) (by decide) (by decide) (by decide)
  have sz : ∀ {m : List (List Int)}, BdM 9 m → SzM m := fun h => h.sz (by decide)
  have d0 := psame_ok (t := 0) (k := 0) (b := false) V0.hA V0.hm V0.hu V0.hv (sz V0.kA) (sz V0.km) (sz V0.ku) (sz V0.kv) (by decide) (by decide)
  have ints : ∀ {v : List Int} {m : List (List Int)}, table 2 1 (fillF 1 v) = m → (∀ z ∈ v, -9223372036854775808 ≤ z ∧ z ≤ 9223372036854775807) → FnD prog 26 [vi 2, vi 1, vs (ints v)] (eM 2 1 m) [] := fun h hv => FnD.frz (h ▸ rints_ok (r := 2) (c := 1) (by decide) (by decide) hv)
  have intso : FnD prog 26 [vi 2, vi 1, vs (Go.AM.ints [4, 6])] (eMo 2 1) (oM [[4], [6]]) := (show table 2 1 (fillF 1 [4, 6]) = [[4], [6]] by decide +kernel) ▸ rints_ok (r := 2) (c := 1) (by decide) (by decide) (by decide)
  have same : ∀ {m : List (List Int)}, Mx 2 1 m → BdM 9 m → FnD prog 22 [eM 2 1 m, eM 2 1 m] (vb true) [] := fun h k => same_yes h k k rfl (by decide) (by decide) (by decide)
  have ck := rcheck_ok V3
  rw [show (isHB 2 1 [[2], [0]] && (decide (mmul 2 2 1 [[-1, 1], [3, -2]] [[4], [6]] = [[2], [0]]) && decide (mmul 2 2 2 [[-1, 1], [3, -2]] [[2, 1], [3, 1]] = idM 2))) = true by decide +kernel] at ck
  have cost : FnD prog 15 [eM 2 1 A46] (vi (4 : Nat)) [] := pcost_ok X (T := 4) ⟨by decide +kernel, by decide +kernel⟩ (by decide)
  have hO : Mx 1 0 [[]] := ⟨by decide, by decide⟩
  have kO : BdM 9 [[]] := by unfold BdM BdR; decide
  have cost0 : FnD prog 15 [eM 1 0 [[]]] (vi (0 : Nat)) [] := pcost_ok (pxs_small hO kO (by decide) (by decide)) (T := 0) ⟨by decide +kernel, by decide +kernel⟩ (by decide)
  have w2 := pvalid_ok V2 0 0 false
  rw [show validI 2 1 [[4], [6]] [[2], [4]] [[-1, 1], [1, 0]] [[0, 1], [1, 1]] 0 0 false = true by decide +kernel] at w2
  have wa := pvalid_ok VZ 1 0 false
  rw [show validI 0 0 [] [] [] [] 1 0 false = false by decide +kernel] at wa
  have wb := pvalid_ok VZ 0 0 false
  rw [show validI 0 0 [] [] [] [] 0 0 false = false by decide +kernel] at wb
  have n1 : FnD prog 26 [vi 2, vi 1, vs (Go.AM.ints [4, 2])] (eM 2 1 [[4], [2]]) [] := ints (by decide +kernel) (by decide)
  have n2 : FnD prog 26 [vi 2, vi 1, vs (Go.AM.ints [2, 4])] (eM 2 1 [[2], [4]]) [] := ints (by decide +kernel) (by decide)
  have n3 : FnD prog 26 [vi 2, vi 1, vs (Go.AM.ints [2, 0])] (eM 2 1 [[2], [0]]) [] := ints (by decide +kernel) (by decide)
  exact ⟨intso, p0, s1, s2, s3, presult_no (by decide), presult_yes (by decide), z0, q0, d0, n1, same ⟨by decide, by decide⟩ (by unfold BdM BdR; decide),
    n2, same ⟨by decide, by decide⟩ (by unfold BdM BdR; decide), n3, same ⟨by decide, by decide⟩ (by unfold BdM BdR; decide), ck, cost, cost0, w2, wa, wb, rfl, rfl⟩
end Go.AM
/- Hermite normal forms in small steps, in plain Lean: what holds of the matrices at every step. -/
namespace Go.AM
theorem opF_delta {n : Nat} {o : Opz} (h : vO n o = true) {b : Nat} (hb : b < n) : ∃ (b' : Nat) (s w : Int), b' < n ∧ (∀ k, opF (inO o) delta k b = s * delta k b' + w * delta k o.i) ∧ ∀ (f : Nat → Nat → Int) a, colF o f a b = s * f a b' + w * f a o.i := by
  obtain ⟨hi, hcase⟩ := vO_ok h
  unfold opF colF inO delta
  rcases hcase with ⟨hk, _, _⟩ | ⟨hk, hj, hne, _⟩ | ⟨hk, hj, hne⟩
  · refine ⟨b, if b = o.i then -1 else 1, 0, hb, fun k => ?_, fun f a => ?_⟩
    · simp only [hk]
      by_cases h1 : k = o.i <;> by_cases h2 : b = o.i <;> by_cases h3 : k = b <;> simp [h1, h2, h3] <;> omega
    · simp only [hk]
      by_cases h2 : b = o.i <;> simp [h2]
  · refine ⟨if b = o.i then o.j else if b = o.j then o.i else b, 1, 0, by split <;> (try split) <;> omega, fun k => ?_, fun f a => ?_⟩
    · simp only [hk, if_true]
      repeat' split
      all_goals omega
    · simp only [hk, if_true]
      by_cases h3 : b = o.i
      · simp [h3]
      · by_cases h4 : b = o.j
        · simp [h4, Ne.symm hne]
        · simp [h3, h4]
  · refine ⟨b, 1, if b = o.j then -o.z else 0, hb, fun k => ?_, fun f a => ?_⟩
    · simp only [hk]
      by_cases h1 : k = o.i <;> by_cases h2 : b = o.j <;> simp [h1, h2, Ne.symm] 
      all_goals (try (by_cases h3 : o.j = b <;> simp [h3] <;> omega))
    · simp only [hk]
      by_cases h2 : b = o.j <;> simp [h2, Int.neg_mul, Int.sub_eq_add_neg]
theorem apC_mmul {n : Nat} {o : Opz} {m : List (List Int)} (h : vO n o = true) : apC n o m = mmul n n n m (apO n n (inO o) (table n n delta)) := by
  refine mx_ext (apC_mx _ _ _) (mmul_mx _ _ _ _ _) fun a b ha hb => ?_
  obtain ⟨b', s, w, hb', e1, e2⟩ := opF_delta h hb
  obtain ⟨hi, _⟩ := vO_ok h
  rw [show apC n o m = table n n (colF o (el m)) from rfl, el_table ha hb, e2, el_mmul ha hb]
  rw [sm_congr (g := fun k => s * (el m a k * delta k b') + w * (el m a k * delta k o.i)) n fun k hk => by
    rw [el_apO hk hb, opF_congr (g := delta) (by rw [vO_inO]; exact h) hk fun a' ha' => el_table ha' hb, e1, Int.mul_add]
    rw [Int.mul_left_comm, Int.mul_left_comm (el m a k) w]]
  rw [sm_add, sm_mul, sm_mul, ← dsum_sm, ← dsum_sm, dsum_delta_right _ hb', dsum_delta_right _ hi]
theorem uv_one {n : Nat} {o : Opz} {u v : List (List Int)} (h : vO n o = true) (e : mmul n n n u v = table n n delta) : mmul n n n (apO n n o u) (apC n o v) = table n n delta := by
  rw [← apO_mmul h, apC_mmul h, ← mmul_assoc, e, ident_mmul (apO_mx _ _ _ _)]
  have := apO_inv (o := inO o) (m := table n n delta) (by rw [vO_inO]; exact h) (table_mx n n delta)
  rwa [inO_inO] at this
theorem uv_all {n : Nat} : ∀ (d : List Opz) {u v : List (List Int)}, (∀ o ∈ d, vO n o = true) → mmul n n n u v = table n n delta → mmul n n n (apL n n d u) (apCL n d v) = table n n delta
  | [], _, _, _, e => e
  | o :: d, _, _, h, e => uv_all d (fun o' ho' => h o' (by simp [ho'])) (uv_one (h o (by simp)) e)
theorem uv_id {n : Nat} {d : List Opz} (h : ∀ o ∈ d, vO n o = true) : mmul n n n (apL n n d (table n n delta)) (apCL n d (table n n delta)) = table n n delta :=
  uv_all d h (ident_mmul (table_mx _ _ _))
structure HI (r t k : Nat) (m : List (List Int)) : Prop where
  ze : ∀ i, t ≤ i → i < r → ∀ j, j < k → el m i j = 0
  pv : ∃ p : Nat → Nat, ∀ i, i < t → p i < k ∧ (∀ j, j < p i → el m i j = 0) ∧ 0 < el m i (p i) ∧ ∀ l, l < i → p l < p i ∧ 0 ≤ el m l (p i) ∧ el m l (p i) < el m i (p i)
theorem HI.zero {r : Nat} {m : List (List Int)} : HI r 0 0 m := ⟨fun _ _ _ _ h => by omega, fun _ => 0, fun _ h => by omega⟩
theorem HI.same {r t k : Nat} {m m' : List (List Int)} (h : HI r t k m) (hz : ∀ i, t ≤ i → i < r → ∀ j, j < k → el m' i j = 0) (ht : t ≤ r) (he : ∀ i, i < t → ∀ j, j < k → el m' i j = el m i j) : HI r t k m' := by
  obtain ⟨p, hp⟩ := h.pv
  refine ⟨hz, p, fun i hi => ?_⟩
  obtain ⟨h1, h2, h3, h4⟩ := hp i hi
  refine ⟨h1, fun j hj => by rw [he i hi j (by omega)]; exact h2 j hj, by rw [he i hi _ h1]; exact h3, fun l hl => ?_⟩
  rw [he i hi _ h1, he l (by omega) _ h1]
  exact h4 l hl
theorem HI.next {r cc : Nat} {a : List (List Int)} {s : PS} (h : HI r s.t s.k (apL r cc s.d a)) (ht : s.t < r) (hk : s.k < cc) : HI r (s.next r cc a).t (s.next r cc a).k (apL r cc (s.next r cc a).d a) := by
  have hn := nx_ok (cc := cc) (a := a) ht
  obtain ⟨m, em⟩ : ∃ m, m = apL r cc s.d a := ⟨_, rfl⟩
  generalize s.next r cc a = s' at hn ⊢
  cases hn with
  | skip h1 hz =>
    simp only at *
    rw [← em] at h hz ⊢
    obtain ⟨p, hp⟩ := h.pv
    refine ⟨fun i h2 h3 j hj => ?_, p, fun i hi => ?_⟩
    · by_cases hjk : j = s.k
      · rw [hjk]; exact hz i h2 h3
      · exact h.ze i h2 h3 j (by omega)
    · obtain ⟨g1, g2⟩ := hp i hi
      exact ⟨by omega, g2⟩
  | swap q h0 h1 h2 h3 h4 =>
    simp only at *
    rw [apL_snoc, ← em]
    rw [← em] at h
    have e : ∀ i, i < r → ∀ j, j < s.k → el (apO r cc (swapO q s.t) m) i j = if i = q then el m s.t j else if i = s.t then el m q j else el m i j := fun i hi j hj => el_swap hi (by omega)
    refine h.same (fun i g1 g2 j hj => ?_) (by omega) fun i hi j hj => ?_
    · rw [e i g2 j hj]
      split
      · exact h.ze _ (Nat.le_refl _) ht j hj
      · split
        · exact h.ze q (by omega) h2 j hj
        · exact h.ze i g1 g2 j hj
    · rw [e i (by omega) j hj, if_neg (by omega), if_neg (by omega)]
  | neg h0 h1 h4 =>
    simp only at *
    rw [apL_snoc, ← em]
    rw [← em] at h
    have e : ∀ i, i < r → ∀ j, j < s.k → el (apO r cc (negO s.t) m) i j = if i = s.t then - el m i j else el m i j := fun i hi j hj => by rw [el_apO hi (by omega)]; simp [opF]
    refine h.same (fun i g1 g2 j hj => ?_) (by omega) fun i hi j hj => ?_
    · rw [e i g2 j hj, h.ze i g1 g2 j hj]; split <;> rfl
    · rw [e i (by omega) j hj, if_neg (by omega)]
  | add i0 h0 hp h4 ho hi0 hne hq =>
    simp only at *
    rw [apL_snoc, ← em]
    rw [← em] at h
    have e : ∀ z : Int, ∀ i, i < r → ∀ j, j < s.k → el (apO r cc (addO i0 s.t z) m) i j = el m i j := fun z i hi j hj => by
      rw [el_add hi (by omega), h.ze s.t (Nat.le_refl _) ht j hj, Int.mul_zero, Int.add_zero]
      split <;> rfl
    exact h.same (fun i g1 g2 j hj => by rw [e _ i g2 j hj]; exact h.ze i g1 g2 j hj) (by omega) fun i hi j hj => e _ i (by omega) j hj
  | adv h0 hp ho hz =>
    simp only at *
    have hl : ∀ i, s.t ≤ i → i < r → el (apL r cc s.d a) i s.k ≠ 0 → (el (apL r cc s.d a) s.t s.k).natAbs ≤ (el (apL r cc s.d a) i s.k).natAbs := by
      rcases lsF_ok (m := apL r cc s.d a) (c := s.k) (top := s.t) (r - s.t) with ⟨h1, h2⟩ | ⟨p, h1, h2, h3, h4, h5⟩
      · rw [h1] at h0; omega
      · have : p = s.t := by rw [h1] at h0; omega
        subst this
        exact fun i g1 g2 g3 => h5 i g1 (by omega) g3
    rw [← em] at h hp hz hl ⊢
    have hd : ∀ i, i < r → i ≠ s.t → 0 ≤ el m i s.k ∧ el m i s.k < el m s.t s.k := fun i h1 h2 => by
      have h3 := hz i h1 h2
      have h4 := Int.emod_add_mul_ediv (el m i s.k) (el m s.t s.k)
      rw [h3, Int.mul_zero] at h4
      have h5 := Int.emod_nonneg (el m i s.k) (show el m s.t s.k ≠ 0 by omega)
      have h6 := Int.emod_lt_of_pos (el m i s.k) hp
      omega
    obtain ⟨p, hpv⟩ := h.pv
    refine ⟨fun i h2 h3 j hj => ?_, fun i => if i = s.t then s.k else p i, fun i hi => ?_⟩
    · by_cases hjk : j = s.k
      · rw [hjk]
        apply Classical.byContradiction
        intro hne
        have g1 := hl i (by omega) h3 hne
        have g2 := hd i h3 (by omega)
        omega
      · exact h.ze i (by omega) h3 j (by omega)
    · by_cases hit : i = s.t
      · subst hit
        simp only [if_true]
        refine ⟨by omega, fun j hj => h.ze _ (Nat.le_refl _) ht j hj, hp, fun l hl2 => ?_⟩
        rw [if_neg (by omega)]
        exact ⟨(hpv l hl2).1, hd l (by omega) (by omega)⟩
      · simp only [if_neg hit]
        obtain ⟨g1, g2, g3, g4⟩ := hpv i (by omega)
        refine ⟨by omega, g2, g3, fun l hl2 => ?_⟩
        rw [if_neg (by omega)]
        exact g4 l hl2
theorem HI.run {r cc : Nat} {a : List (List Int)} : ∀ (n : Nat) {s : PS}, HI r s.t s.k (apL r cc s.d a) → HI r (s.run r cc a n).t (s.run r cc a n).k (apL r cc (s.run r cc a n).d a)
  | 0, _, h => h
  | n + 1, s, h => by
    simp only [PS.run]
    split
    · exact h
    · rename_i hf
      simp only [PS.fin, Bool.or_eq_true, decide_eq_true_eq, not_or] at hf
      exact HI.run n (h.next (by omega) (by omega))
end Go.AM
