/- What functions of the program come to: group Se. Printed by vc.py. -/
import Derived.Test.YtipnbapgfbghgaaGreatL4
set_option maxRecDepth 100000
set_option linter.unusedVariables false
namespace Go.AM
open Go.Proofs.Tryz
def vc44 (a0 a1 : Int) (a2 : DL) (rows cols : Int) (R : V → Heap → Prop) : Prop :=
 ∃ (r : Bool),
 (FnD prog 43 [vA [sD (dI a0), sD (dI a1), sD (dL a2)]] (vD (dB r)) []) ∧
 ((r = true →
 ((a0 == rows) = true →
 R (vD (dB (a1 == cols))) []) ∧
 ((a0 == rows) = false →
 R (vD (dB false)) [])) ∧
 (r = false →
 R (vD (dB false)) []))
theorem vc44_ok (a0 a1 : Int) (a2 : DL) (rows cols : Int) {R : V → Heap → Prop} (h : vc44 a0 a1 a2 rows cols R) : FnG prog 44 [vA [sD (dI a0), sD (dI a1), sD (dL a2)], vD (dI rows), vD (dI cols)] [] R :=
  FnG.vcg hT func44 ntmps44 (.reg 1 [(0, Or.none, 0, 1)] [1, 2, 3] [0] [] <| .exb fun r => .ob (FnD prog 43 [vA [sD (dI a0), sD (dI a1), sD (dL a2)]] (vD (dB r)) []) <| .spl r (.spl ((a0 == rows)) (.reg 0 [(1, Or.call (vD (dB r)) [] [], 0, 0), (2, Or.bool true, 0, 0), (8, Or.bool true, 0, 0)] [6] [] [.old 2, .old 1, .old 0] <| .ret []) (.reg 0 [(1, Or.call (vD (dB r)) [] [], 0, 0), (2, Or.bool true, 0, 0), (8, Or.bool false, 0, 0)] [6] [] [.old 2, .old 1, .old 0] <| .ret [])) (.reg 0 [(1, Or.call (vD (dB r)) [] [], 0, 0), (2, Or.bool false, 0, 0)] [6] [] [.old 1, .old 0] <| .ret []))
    (by kernel_rfl) (by kernel_rfl) (by kernel_rfl) h
def vc45 (a0 a1 : Int) (a2 : DL) (b0 b1 : Int) (b2 : DL) (c0 c1 : Int) (c2 : DL) (R : V → Heap → Prop) : Prop :=
 ∃ (r0 r1 : Int) (r2 : DL) (r : Int),
 (FnD prog 79 [vA [sD (dI a0), sD (dI a1), sD (dL a2)], vA [sD (dI b0), sD (dI b1), sD (dL b2)]] (V.tup [E.agg [sD (dI r0), sD (dI r1), sD (dL r2)], eD (dI r)]) []) ∧
 (((r == (0 : Int)) = true →
 ∃ (r3 : Bool),
 (FnD prog 80 [vA [sD (dI r0), sD (dI r1), sD (dL r2)], vA [sD (dI c0), sD (dI c1), sD (dL c2)]] (vD (dB r3)) []) ∧
 (R (vD (dB r3)) [])) ∧
 ((r == (0 : Int)) = false →
 R (vD (dB false)) []))
theorem vc45_ok (a0 a1 : Int) (a2 : DL) (b0 b1 : Int) (b2 : DL) (c0 c1 : Int) (c2 : DL) {R : V → Heap → Prop} (h : vc45 a0 a1 a2 b0 b1 b2 c0 c1 c2 R) : FnG prog 45 [vA [sD (dI a0), sD (dI a1), sD (dL a2)], vA [sD (dI b0), sD (dI b1), sD (dL b2)], vA [sD (dI c0), sD (dI c1), sD (dL c2)]] [] R :=
  FnG.vcg hT func45 ntmps45 (.reg 3 [(0, Or.none, 0, 1), (1, Or.none, 1, 1), (2, Or.none, 2, 1)] [3, 4, 5] [0, 1, 2] [] <| .ex fun r0 => .ex fun r1 => .exl fun r2 => .ex fun r => .reg 1 [(2, Or.call (V.tup [E.agg [sD (dI r0), sD (dI r1), sD (dL r2)], eD (dI r)]) [] [], 0, 0), (6, Or.none, 3, 1)] [5, 7, 8] [2, 3] [] <| .spl ((r == (0 : Int))) (.exb fun r3 => .reg 0 [(2, Or.bool true, 0, 0), (5, Or.call (vD (dB r3)) [] [], 0, 0)] [6] [] [.old 0] <| .ret []) (.reg 0 [(2, Or.bool false, 0, 0)] [6] [] [.old 0] <| .ret []))
    (by kernel_rfl) (by kernel_rfl) (by kernel_rfl) h
def vc47 (h0 h1 : Int) (h2 : DL) (R : V → Heap → Prop) : Prop :=
 ∃ (r : Bool),
 (FnD prog 43 [vA [sD (dI h0), sD (dI h1), sD (dL h2)]] (vD (dB r)) []) ∧
 (((!r) = true →
 R (vD (dB false)) []) ∧
 ((!r) = false →
 ∃ (J0 : Int → Int → Prop) (μ0 : Int → Int → Nat),
 J0 (0 : Int) (-1 : Int) ∧ ∀ (t14 last : Int), J0 t14 last →
 (decide (t14 < (h2.length : Int)) = true →
 ∃ (vx : DL),
 (0 ≤ t14 ∧ t14 < (h2.length : Int)) ∧
 (h2[(t14).toNat]? = some [dL vx]) ∧
 (∃ (r1 : Int),
 (FnD prog 84 [vD (dL vx)] (vD (dI r1)) []) ∧
 ((decide (r1 < (0 : Int)) = true →
 J0 (IntKind.i64.wrap (t14 + (1 : Int))) h1 ∧ μ0 (IntKind.i64.wrap (t14 + (1 : Int))) h1 < μ0 t14 last) ∧
 (decide (r1 < (0 : Int)) = false →
 (decide (r1 ≤ last) = true →
 R (vD (dB false)) []) ∧
 (decide (r1 ≤ last) = false →
 ∃ (x0 : Bool) (x1 : DL) (r2 : Int),
 (0 ≤ r1 ∧ r1 < (vx.length : Int)) ∧
 (vx[(r1).toNat]? = some [dB x0, dL x1]) ∧
 (FnD prog 83 [vA [sD (dB x0), sD (dL x1)]] (vD (dI r2)) []) ∧
 ((decide (r2 < (0 : Int)) = true →
 R (vD (dB false)) []) ∧
 (decide (r2 < (0 : Int)) = false →
 ∃ (r3 : Bool),
 (0 ≤ t14 ∧ t14 ≤ (h2.length : Int)) ∧
 (FnD prog 87 [vD (dL (h2.take (t14).toNat)), vD (D.fn (.func 85) [D.box [dI r1], D.box [dL vx]])] (vD (dB r3)) []) ∧
 ((r3 = true →
 R (vD (dB false)) []) ∧
 (r3 = false →
 J0 (IntKind.i64.wrap (t14 + (1 : Int))) r1 ∧ μ0 (IntKind.i64.wrap (t14 + (1 : Int))) r1 < μ0 t14 last))))))))) ∧
 (decide (t14 < (h2.length : Int)) = false →
 R (vD (dB true)) [])))
theorem vc47_ok (h0 h1 : Int) (h2 : DL) {R : V → Heap → Prop} (h : vc47 h0 h1 h2 R) : FnG prog 47 [vA [sD (dI h0), sD (dI h1), sD (dL h2)]] [] R :=
  FnG.vcg hT func47 ntmps47 (.reg 1 [(0, Or.none, 0, 1)] [1] [0] [] <| .exb fun r => .reg 0 [(1, Or.call (vD (dB r)) [] [], 0, 0)] [1, 10] [0] [] <| .c2 (.r0 [2] <| .ret []) (.r1 [1, 3] [0] <| .r1 [1, 3, 12, 13, 14] [0] <| .lp [.i, .i] (fun t14 last => ⟨[(1, vP 0 0), (3, vD (dI last)), (12, vD (dL h2)), (13, vD (dI (h2.length : Int))), (14, vD (dI t14))], [some (Obj.box [sD (dI h0), sD (dI h1), sD (dL h2)])], 45⟩) [.i (0 : Int), .i (-1 : Int)] <| .fi fun t14 => .fi fun last => .beg <| .r1 [1, 3, 12, 13, 14, 15] [0] <| .c2 (.exl fun vx => .reg 1 [(2, Or.cells [dL vx], 0, 0), (3, Or.none, 1, 1)] [1, 3, 4, 5, 12, 13, 14] [0, 1] [] <| .ex fun r1 => .reg 1 [(1, Or.call (vD (dI r1)) [] [], 0, 0), (2, Or.none, 2, 1)] [1, 3, 4, 5, 6, 12, 13, 14] [0, 1, 2] [] <| .r1 [1, 3, 4, 5, 6, 12, 13, 14, 22] [0, 1, 2] <| .c2 (.r1 [1, 3, 12, 13, 14] [0] <| .r1 [1, 3, 12, 13, 14] [0] <| .bk 0 [.i (IntKind.i64.wrap (t14 + (1 : Int))), .i h1]) (.spl ((decide (r1 ≤ last))) (.reg 0 [(3, Or.bool true, 0, 0)] [1, 4, 5, 6, 12, 13, 14, 35] [0, 1, 2] [.old 0] <| .ct true none <| .r0 [2] <| .ret []) (.exb fun x0 => .exl fun x1 => .ex fun r2 => .reg 0 [(3, Or.bool false, 0, 0), (7, Or.cells [dB x0, dL x1], 0, 0), (8, Or.call (vD (dI r2)) [] [], 0, 0)] [1, 4, 5, 6, 12, 13, 14, 35] [0, 1, 2] [.old 0] <| .c2 (.r0 [2] <| .ret []) (.r1 [1, 4, 6, 7, 12, 13, 14] [0, 2, 1] <| .frz [1, 2] <| .exb fun r3 => .reg 0 [(5, Or.call (vD (dB r3)) [] [], 0, 0)] [1, 6, 12, 13, 14, 42] [0] [] <| .c2 (.r0 [2] <| .ret []) (.r1 [1, 3, 12, 13, 14] [0] <| .r1 [1, 3, 12, 13, 14] [0] <| .bk 0 [.i (IntKind.i64.wrap (t14 + (1 : Int))), .i r1]))))) (.r0 [2] <| .ret [])))
    (by kernel_rfl) (by kernel_rfl) (by kernel_rfl) h
def vc84 (v : DL) (R : V → Heap → Prop) : Prop :=
 ∃ (r : Int),
 (FnD prog 111 [vD (dL v), vD (D.fn (.func 112) ([] : List D))] (vD (dI r)) []) ∧
 (R (vD (dI r)) [])
theorem vc84_ok (v : DL) {R : V → Heap → Prop} (h : vc84 v R) : FnG prog 84 [vD (dL v)] [] R :=
  FnG.vcg hT func84 ntmps84 (.r0 [0] <| .ex fun r => .reg 0 [(1, Or.call (vD (dI r)) [] [], 0, 0)] [2] [] [] <| .ret [])
    (by kernel_rfl) (by kernel_rfl) (by kernel_rfl) h
def vc85 (u : DL) (c0 : Int) (c1 : DL) (R : V → Heap → Prop) : Prop :=
 ∃ (x0 : Bool) (x1 : DL) (r : Int),
 (0 ≤ c0 ∧ c0 < (u.length : Int)) ∧
 (u[(c0).toNat]? = some [dB x0, dL x1]) ∧
 (FnD prog 83 [vA [sD (dB x0), sD (dL x1)]] (vD (dI r)) []) ∧
 ((decide (r < (0 : Int)) = true →
 R (vD (dB true)) []) ∧
 (decide (r < (0 : Int)) = false →
 ∃ (x01 : Bool) (x11 : DL) (r1 : Int),
 (0 ≤ c0 ∧ c0 < (c1.length : Int)) ∧
 (c1[(c0).toNat]? = some [dB x01, dL x11]) ∧
 (FnD prog 86 [vA [sD (dB x0), sD (dL x1)], vA [sD (dB x01), sD (dL x11)]] (vD (dI r1)) []) ∧
 (R (vD (dB (decide (r1 ≥ (0 : Int))))) [])))
theorem vc85_ok (u : DL) (c0 : Int) (c1 : DL) {R : V → Heap → Prop} (h : vc85 u c0 c1 R) : FnG prog 85 [vD (dL u), vD (D.box [dI c0]), vD (D.box [dL c1])] [] R :=
  FnG.vcg hT func85 ntmps85 (.r0 [0, 1, 2] <| .exb fun x0 => .exl fun x1 => .ex fun r => .ob (0 ≤ c0 ∧ c0 < (u.length : Int)) <| .ob (u[(c0).toNat]? = some [dB x0, dL x1]) <| .ob (FnD prog 83 [vA [sD (dB x0), sD (dL x1)]] (vD (dI r)) []) <| .spl ((decide (r < (0 : Int)))) (.drw 0 [(3, (Or.cells [dB x0, dL x1], 0, 0), []), (4, (Or.call (vD (dI r)) [] [], 0, 0), []), (6, (Or.bool true, 0, 0), [])] [4] [] [.old 3, .old 2, .old 1, .old 0] <| .ret []) (.exb fun x01 => .exl fun x11 => .ex fun r1 => .drw 0 [(3, (Or.cells [dB x0, dL x1], 0, 0), []), (4, (Or.call (vD (dI r)) [] [], 0, 0), []), (6, (Or.bool false, 0, 0), []), (10, (Or.cells [dB x0, dL x1], 0, 0), []), (14, (Or.cells [dB x01, dL x11], 0, 0), []), (15, (Or.call (vD (dI r1)) [] [], 0, 0), [])] [4] [] [.old 3, .old 2, .old 1, .old 0, .old 3, .old 2] <| .ret []))
    (by kernel_rfl) (by kernel_rfl) (by kernel_rfl) h
def vc87 (s : DL) (f : FuncId) (fc : List D) (R : V → Heap → Prop) : Prop :=
 ∃ (r : Int),
 (FnD prog 114 [vD (dL s), vD (D.fn (.func f) fc)] (vD (dI r)) []) ∧
 (R (vD (dB (decide (r ≥ (0 : Int))))) [])
theorem vc87_ok (s : DL) (f : FuncId) (fc : List D) {R : V → Heap → Prop} (h : vc87 s f fc R) : FnG prog 87 [vD (dL s), vD (D.fn (.func f) fc)] [] R :=
  FnG.vcg hT func87 ntmps87 (.r0 [0, 1] <| .ex fun r => .reg 0 [(2, Or.call (vD (dI r)) [] [], 0, 0)] [4] [] [] <| .ret [])
    (by kernel_rfl) (by kernel_rfl) (by kernel_rfl) h
def vc112 (x0 : Bool) (x1 : DL) (R : V → Heap → Prop) : Prop :=
 ∃ (r : Int),
 (FnD prog 83 [vA [sD (dB x0), sD (dL x1)]] (vD (dI r)) []) ∧
 (R (vD (dB (r != (0 : Int)))) [])
theorem vc112_ok (x0 : Bool) (x1 : DL) {R : V → Heap → Prop} (h : vc112 x0 x1 R) : FnG prog 112 [vA [sD (dB x0), sD (dL x1)]] [] R :=
  FnG.vcg hT func112 ntmps112 (.reg 1 [(0, Or.none, 0, 1)] [1] [0] [] <| .ex fun r => .reg 0 [(1, Or.call (vD (dI r)) [] [], 0, 0)] [2] [] [] <| .ret [])
    (by kernel_rfl) (by kernel_rfl) (by kernel_rfl) h
def vc114 (s : DL) (f : FuncId) (fc : List D) (R : V → Heap → Prop) : Prop :=
 ∃ (J0 : Int → Prop) (μ0 : Int → Nat),
 J0 (0 : Int) ∧ ∀ (t8 : Int), J0 t8 →
 (decide (t8 < (s.length : Int)) = true →
 ∃ (vx : DL) (r : Bool),
 (0 ≤ t8 ∧ t8 < (s.length : Int)) ∧
 (s[(t8).toNat]? = some [dL vx]) ∧
 (FnD prog f ([vD (dL vx)] ++ fc.map dV) (vD (dB r)) []) ∧
 ((r = true →
 R (vD (dI t8)) []) ∧
 (r = false →
 J0 (IntKind.i64.wrap (t8 + (1 : Int))) ∧ μ0 (IntKind.i64.wrap (t8 + (1 : Int))) < μ0 t8))) ∧
 (decide (t8 < (s.length : Int)) = false →
 R (vD (dI (-1 : Int))) [])
theorem vc114_ok (s : DL) (f : FuncId) (fc : List D) {R : V → Heap → Prop} (h : vc114 s f fc R) : FnG prog 114 [vD (dL s), vD (D.fn (.func f) fc)] [] R :=
  FnG.vcg hT func114 ntmps114 (.r0 [0, 1] <| .r0 [0, 1, 7, 8] <| .lp [.i] (fun t8 => ⟨[(0, vD (dL s)), (1, vD (D.fn (.func f) fc)), (7, vD (dI (s.length : Int))), (8, vD (dI t8))], [], 19⟩) [.i (0 : Int)] <| .fi fun t8 => .beg <| .r0 [0, 1, 7, 8, 9] <| .c2 (.r0 [0, 1, 5, 7, 8] <| .exl fun vx => .exb fun r => .reg 0 [(4, Or.cells [dL vx], 0, 0), (5, Or.call (vD (dB r)) [] [], 0, 0)] [0, 1, 5, 7, 8, 16] [] [] <| .c2 (.r0 [4] <| .ret []) (.r0 [0, 1, 7, 8] <| .bk 0 [.i (IntKind.i64.wrap (t8 + (1 : Int)))])) (.r0 [4] <| .ret []))
    (by kernel_rfl) (by kernel_rfl) (by kernel_rfl) h
def vc19 (p0 p1 : Int) (p2 : DL) (p3 p4 : Int) (p5 : DL) (p6 p7 : Int) (p8 : DL) (p9 p10 : Int) (p11 : DL) (p12 p13 : Int) (p14 : Bool) (R : V → Heap → Prop) : Prop :=
 ∃ (r : Bool),
 (FnD prog 43 [vA [sD (dI p0), sD (dI p1), sD (dL p2)]] (vD (dB r)) []) ∧
 (((!r) = true →
 R (vD (dB false)) []) ∧
 ((!r) = false →
 ∃ (r1 : Bool),
 (FnD prog 44 [vA [sD (dI p3), sD (dI p4), sD (dL p5)], vD (dI p0), vD (dI p1)] (vD (dB r1)) []) ∧
 (((!r1) = true →
 R (vD (dB false)) []) ∧
 ((!r1) = false →
 ∃ (r2 : Bool),
 (FnD prog 44 [vA [sD (dI p6), sD (dI p7), sD (dL p8)], vD (dI p0), vD (dI p0)] (vD (dB r2)) []) ∧
 (((!r2) = true →
 R (vD (dB false)) []) ∧
 ((!r2) = false →
 ∃ (r3 : Bool),
 (FnD prog 44 [vA [sD (dI p9), sD (dI p10), sD (dL p11)], vD (dI p0), vD (dI p0)] (vD (dB r3)) []) ∧
 (((!r3) = true →
 R (vD (dB false)) []) ∧
 ((!r3) = false →
 (decide (p12 < (0 : Int)) = true →
 R (vD (dB false)) []) ∧
 (decide (p12 < (0 : Int)) = false →
 (decide (p12 > p0) = true →
 R (vD (dB false)) []) ∧
 (decide (p12 > p0) = false →
 (decide (p13 < p12) = true →
 R (vD (dB false)) []) ∧
 (decide (p13 < p12) = false →
 (decide (p13 > p1) = true →
 R (vD (dB false)) []) ∧
 (decide (p13 > p1) = false →
 ∃ (r4 : Bool),
 (FnD prog 29 [vA [sD (dI p0), sD (dI p1), sD (dL p2), sD (dI p3), sD (dI p4), sD (dL p5), sD (dI p6), sD (dI p7), sD (dL p8), sD (dI p9), sD (dI p10), sD (dL p11), sD (dI p12), sD (dI p13), sD (dB p14)]] (vD (dB r4)) []) ∧
 (((!(p14 == r4)) = true →
 R (vD (dB false)) []) ∧
 ((!(p14 == r4)) = false →
 ∃ (r5 : Bool),
 (FnD prog 45 [vA [sD (dI p6), sD (dI p7), sD (dL p8)], vA [sD (dI p0), sD (dI p1), sD (dL p2)], vA [sD (dI p3), sD (dI p4), sD (dL p5)]] (vD (dB r5)) []) ∧
 (((!r5) = true →
 R (vD (dB false)) []) ∧
 ((!r5) = false →
 ∃ (r0 r11 : Int) (r21 : DL) (r6 : Bool),
 (FnD prog 28 [vD (dI p0)] (vA [sD (dI r0), sD (dI r11), sD (dL r21)]) []) ∧
 (FnD prog 45 [vA [sD (dI p6), sD (dI p7), sD (dL p8)], vA [sD (dI p9), sD (dI p10), sD (dL p11)], vA [sD (dI r0), sD (dI r11), sD (dL r21)]] (vD (dB r6)) []) ∧
 (((!r6) = true →
 R (vD (dB false)) []) ∧
 ((!r6) = false →
 ∃ (J0 : (DL) → Int → Prop) (μ0 : (DL) → Int → Nat),
 J0 ([] : DL) (0 : Int) ∧ ∀ (o2 : DL) (t101 : Int), J0 o2 t101 →
 (decide (t101 < (p5.length : Int)) = true →
 ∃ (vx : DL),
 (0 ≤ t101 ∧ t101 < (p5.length : Int)) ∧
 (p5[(t101).toNat]? = some [dL vx]) ∧
 (∃ (r7 : Bool),
 (0 ≤ p13 ∧ p13 ≤ (vx.length : Int)) ∧
 (FnD prog 46 [vD (dL (vx.take (p13).toNat))] (vD (dB r7)) []) ∧
 (((!(r7 == (decide (t101 ≥ p12)))) = true →
 R (vD (dB false)) []) ∧
 ((!(r7 == (decide (t101 ≥ p12)))) = false →
 (decide (t101 < p12) = true →
 ((o2.length + ([[dL (vx.take (p13).toNat)]] : DL).length) * 24 ≤ 140737488355328) ∧
 (J0 (o2 ++ [[dL (vx.take (p13).toNat)]]) (IntKind.i64.wrap (t101 + (1 : Int))) ∧ μ0 (o2 ++ [[dL (vx.take (p13).toNat)]]) (IntKind.i64.wrap (t101 + (1 : Int))) < μ0 o2 t101)) ∧
 (decide (t101 < p12) = false →
 J0 o2 (IntKind.i64.wrap (t101 + (1 : Int))) ∧ μ0 o2 (IntKind.i64.wrap (t101 + (1 : Int))) < μ0 o2 t101))))) ∧
 (decide (t101 < (p5.length : Int)) = false →
 ∃ (r8 : Bool),
 (FnD prog 47 [vA [sD (dI p12), sD (dI p13), sD (dL o2)]] (vD (dB r8)) []) ∧
 (R (vD (dB r8)) []))))))))))))))))))))
theorem vc19_ok (p0 p1 : Int) (p2 : DL) (p3 p4 : Int) (p5 : DL) (p6 p7 : Int) (p8 : DL) (p9 p10 : Int) (p11 : DL) (p12 p13 : Int) (p14 : Bool) {R : V → Heap → Prop} (h : vc19 p0 p1 p2 p3 p4 p5 p6 p7 p8 p9 p10 p11 p12 p13 p14 R) : FnG prog 19 [vA [sD (dI p0), sD (dI p1), sD (dL p2), sD (dI p3), sD (dI p4), sD (dL p5), sD (dI p6), sD (dI p7), sD (dL p8), sD (dI p9), sD (dI p10), sD (dL p11), sD (dI p12), sD (dI p13), sD (dB p14)]] [] R :=
  FnG.vcg hT func19 ntmps19 (.reg 1 [(0, Or.none, 0, 1)] [1] [0] [] <| .r1 [1, 3] [0] <| .exb fun r => .ob (FnD prog 43 [vA [sD (dI p0), sD (dI p1), sD (dL p2)]] (vD (dB r)) []) <| .spl ((!r)) (.drw 0 [(2, (Or.call (vD (dB r)) [] [], 0, 0), []), (4, (Or.bool true, 0, 0), [])] [1, 3, 73] [0] [.old 1, .old 0] <| .ct true none <| .r0 [2] <| .ret []) (.exb fun r1 => .ob (FnD prog 44 [vA [sD (dI p3), sD (dI p4), sD (dL p5)], vD (dI p0), vD (dI p1)] (vD (dB r1)) []) <| .spl ((!r1)) (.drw 0 [(2, (Or.call (vD (dB r)) [] [], 0, 0), []), (4, (Or.bool false, 0, 0), []), (11, (Or.call (vD (dB r1)) [] [], 0, 0), []), (14, (Or.bool true, 0, 0), [])] [1, 3, 73] [0] [.old 3, .old 2, .old 1, .old 0] <| .ct true none <| .r0 [2] <| .ret []) (.exb fun r2 => .ob (FnD prog 44 [vA [sD (dI p6), sD (dI p7), sD (dL p8)], vD (dI p0), vD (dI p0)] (vD (dB r2)) []) <| .spl ((!r2)) (.drw 0 [(2, (Or.call (vD (dB r)) [] [], 0, 0), []), (4, (Or.bool false, 0, 0), []), (11, (Or.call (vD (dB r1)) [] [], 0, 0), []), (14, (Or.bool false, 0, 0), []), (19, (Or.call (vD (dB r2)) [] [], 0, 0), []), (22, (Or.bool true, 0, 0), [])] [1, 3, 73] [0] [.old 5, .old 4, .old 3, .old 2, .old 1, .old 0] <| .ct true none <| .r0 [2] <| .ret []) (.exb fun r3 => .ob (FnD prog 44 [vA [sD (dI p9), sD (dI p10), sD (dL p11)], vD (dI p0), vD (dI p0)] (vD (dB r3)) []) <| .spl ((!r3)) (.drw 0 [(2, (Or.call (vD (dB r)) [] [], 0, 0), []), (4, (Or.bool false, 0, 0), []), (11, (Or.call (vD (dB r1)) [] [], 0, 0), []), (14, (Or.bool false, 0, 0), []), (19, (Or.call (vD (dB r2)) [] [], 0, 0), []), (22, (Or.bool false, 0, 0), []), (27, (Or.call (vD (dB r3)) [] [], 0, 0), []), (30, (Or.bool true, 0, 0), [])] [1, 3, 73] [0] [.old 7, .old 6, .old 5, .old 4, .old 3, .old 2, .old 1, .old 0] <| .ct true none <| .r0 [2] <| .ret []) (.spl ((decide (p12 < (0 : Int)))) (.drw 0 [(2, (Or.call (vD (dB r)) [] [], 0, 0), []), (4, (Or.bool false, 0, 0), []), (11, (Or.call (vD (dB r1)) [] [], 0, 0), []), (14, (Or.bool false, 0, 0), []), (19, (Or.call (vD (dB r2)) [] [], 0, 0), []), (22, (Or.bool false, 0, 0), []), (27, (Or.call (vD (dB r3)) [] [], 0, 0), []), (30, (Or.bool false, 0, 0), []), (35, (Or.bool true, 0, 0), [])] [1, 3, 73] [0] [.old 8, .old 7, .old 6, .old 5, .old 4, .old 3, .old 2, .old 1, .old 0] <| .ct true none <| .r0 [2] <| .ret []) (.spl ((decide (p12 > p0))) (.drw 0 [(2, (Or.call (vD (dB r)) [] [], 0, 0), []), (4, (Or.bool false, 0, 0), []), (11, (Or.call (vD (dB r1)) [] [], 0, 0), []), (14, (Or.bool false, 0, 0), []), (19, (Or.call (vD (dB r2)) [] [], 0, 0), []), (22, (Or.bool false, 0, 0), []), (27, (Or.call (vD (dB r3)) [] [], 0, 0), []), (30, (Or.bool false, 0, 0), []), (35, (Or.bool false, 0, 0), []), (41, (Or.bool true, 0, 0), [])] [1, 3, 73] [0] [.old 9, .old 8, .old 7, .old 6, .old 5, .old 4, .old 3, .old 2, .old 1, .old 0] <| .ct true none <| .r0 [2] <| .ret []) (.spl ((decide (p13 < p12))) (.drw 0 [(2, (Or.call (vD (dB r)) [] [], 0, 0), []), (4, (Or.bool false, 0, 0), []), (11, (Or.call (vD (dB r1)) [] [], 0, 0), []), (14, (Or.bool false, 0, 0), []), (19, (Or.call (vD (dB r2)) [] [], 0, 0), []), (22, (Or.bool false, 0, 0), []), (27, (Or.call (vD (dB r3)) [] [], 0, 0), []), (30, (Or.bool false, 0, 0), []), (35, (Or.bool false, 0, 0), []), (41, (Or.bool false, 0, 0), []), (48, (Or.bool true, 0, 0), [])] [1, 3, 73] [0] [.old 10, .old 9, .old 8, .old 7, .old 6, .old 5, .old 4, .old 3, .old 2, .old 1, .old 0] <| .ct true none <| .r0 [2] <| .ret []) (.spl ((decide (p13 > p1))) (.drw 0 [(2, (Or.call (vD (dB r)) [] [], 0, 0), []), (4, (Or.bool false, 0, 0), []), (11, (Or.call (vD (dB r1)) [] [], 0, 0), []), (14, (Or.bool false, 0, 0), []), (19, (Or.call (vD (dB r2)) [] [], 0, 0), []), (22, (Or.bool false, 0, 0), []), (27, (Or.call (vD (dB r3)) [] [], 0, 0), []), (30, (Or.bool false, 0, 0), []), (35, (Or.bool false, 0, 0), []), (41, (Or.bool false, 0, 0), []), (48, (Or.bool false, 0, 0), []), (56, (Or.bool true, 0, 0), [])] [1, 3, 73] [0] [.old 11, .old 10, .old 9, .old 8, .old 7, .old 6, .old 5, .old 4, .old 3, .old 2, .old 1, .old 0] <| .ct true none <| .r0 [2] <| .ret []) (.exb fun r4 => .drw 0 [(2, (Or.call (vD (dB r)) [] [], 0, 0), []), (4, (Or.bool false, 0, 0), []), (11, (Or.call (vD (dB r1)) [] [], 0, 0), []), (14, (Or.bool false, 0, 0), []), (19, (Or.call (vD (dB r2)) [] [], 0, 0), []), (22, (Or.bool false, 0, 0), []), (27, (Or.call (vD (dB r3)) [] [], 0, 0), []), (30, (Or.bool false, 0, 0), []), (35, (Or.bool false, 0, 0), []), (41, (Or.bool false, 0, 0), []), (48, (Or.bool false, 0, 0), []), (56, (Or.bool false, 0, 0), []), (60, (Or.call (vD (dB r4)) [] [], 0, 0), [])] [1, 3, 73] [0] [.old 11, .old 10, .old 9, .old 8, .old 7, .old 6, .old 5, .old 4, .old 3, .old 2, .old 1, .old 0] <| .c2 (.r0 [2] <| .ret []) (.exb fun r5 => .ob (FnD prog 45 [vA [sD (dI p6), sD (dI p7), sD (dL p8)], vA [sD (dI p0), sD (dI p1), sD (dL p2)], vA [sD (dI p3), sD (dI p4), sD (dL p5)]] (vD (dB r5)) []) <| .spl ((!r5)) (.drw 0 [(6, (Or.call (vD (dB r5)) [] [], 0, 0), []), (8, (Or.bool true, 0, 0), [])] [1, 91] [0] [.old 1, .old 0] <| .ct true none <| .r0 [2] <| .ret []) (.ex fun r0 => .ex fun r11 => .exl fun r21 => .exb fun r6 => .drw 0 [(6, (Or.call (vD (dB r5)) [] [], 0, 0), []), (8, (Or.bool false, 0, 0), []), (14, (Or.call (vA [sD (dI r0), sD (dI r11), sD (dL r21)]) [] [], 0, 0), []), (15, (Or.call (vD (dB r6)) [] [], 0, 0), [])] [1, 91] [0] [.old 1, .old 0] <| .c2 (.r0 [2] <| .ret []) (.reg 1 [(5, Or.none, 1, 1)] [1, 4] [0, 1] [] <| .r1 [1, 4, 99, 100, 101] [0, 1] <| .ado [] [1] 1 <| .lp [.l, .i] (fun o2 t101 => ⟨[(1, vP 0 0), (4, vP 1 0), (99, vD (dL p5)), (100, vD (dI (p5.length : Int))), (101, vD (dI t101))], [some (Obj.box [sD (dI p0), sD (dI p1), sD (dL p2), sD (dI p3), sD (dI p4), sD (dL p5), sD (dI p6), sD (dI p7), sD (dL p8), sD (dI p9), sD (dI p10), sD (dL p11), sD (dI p12), sD (dI p13), sD (dB p14)]), some (Obj.box [sD (dI p12), sD (dI p13), S.ref 2]), some (Obj.arr 1 o2)], 135⟩) [.l ([] : DL), .i (0 : Int)] <| .fl fun o2 => .fi fun t101 => .beg <| .r1 [1, 4, 99, 100, 101, 102] [0, 1, 2] <| .c2 (.exl fun vx => .reg 0 [(2, Or.cells [dL vx], 0, 0)] [1, 4, 5, 6, 99, 100, 101] [0, 1, 2] [] <| .exb fun r7 => .reg 0 [(4, Or.call (vD (dB r7)) [] [], 0, 0)] [1, 4, 5, 6, 7, 99, 100, 101] [0, 1, 2] [] <| .r1 [1, 4, 5, 6, 99, 100, 101, 111] [0, 1, 2] <| .c2 (.r0 [2] <| .ret []) (.r1 [1, 4, 6, 99, 100, 101, 118] [0, 1, 2] <| .c2 (.drw 2 [(6, (Or.none, 3, 1), [3]), (7, (Or.none, 4, 1), [2, 4]), (9, (Or.none, 0, 0), [1])] [1, 4, 99, 100, 101] [0, 1, 4] [.old 3] <| .r1 [1, 4, 99, 100, 101] [0, 1, 2] <| .bk 0 [.l (o2 ++ [[dL (vx.take (p13).toNat)]]), .i (IntKind.i64.wrap (t101 + (1 : Int)))]) (.r1 [1, 4, 99, 100, 101] [0, 1, 2] <| .bk 0 [.l o2, .i (IntKind.i64.wrap (t101 + (1 : Int)))]))) (.frz [2] <| .exb fun r8 => .reg 0 [(1, Or.call (vD (dB r8)) [] [], 0, 0)] [2] [] [] <| .ret [])))))))))))))
    (by kernel_rfl) (by kernel_rfl) (by kernel_rfl) h
end Go.AM
/- Hermite normal forms: what the tests answer; products of great numbers. -/
namespace Go.AM
open Go.Proofs.Tryz
section
variable {K : Nat} (hS : ∀ y : Int, y.natAbs ≤ 4294967296 * (K * K) → Sz y)
include hS
theorem bigK {y : Int} (h : y.natAbs ≤ K) : Sz y := hS y (Nat.le_trans (Nat.le_trans h (kk_le K)) (Nat.le_mul_of_pos_left _ (by decide)))
theorem bigKK {y : Int} (h : y.natAbs ≤ K * K) : Sz y := hS y (Nat.le_trans h (Nat.le_mul_of_pos_left _ (by decide)))
theorem foldB {a b : List Int} (hab : a.length = b.length) (ha : BdR K a) (hb : BdR K b) (hl : a.length ≤ 4294967296) :
    FnD prog 122 [vs (row a), vs (row b), eI 0, .e (.sc (.dat (.fn (.func 123) ([] : List D))))] (eI (dsum (elr a) (elr b) a.length)) [] := by
  have hnK : ∀ n, n ≤ a.length → n * (K * K) ≤ 4294967296 * (K * K) := fun n hn => Nat.mul_le_mul_right _ (by omega)
  refine vc122_ok _ _ _ _ _ _ (R := Out _) ?_
  unfold vc122
  simp only [row_length]
  refine ⟨fun o0 o1 t => ∃ i : Nat, t = (i : Int) ∧ i ≤ a.length ∧ o0 = decide (dsum (elr a) (elr b) i < 0) ∧ o1 = lim (dz (dsum (elr a) (elr b) i)), fun _ _ t => ((a.length : Int) - t).toNat, ⟨0, rfl, by omega, rfl, rfl⟩, ?_⟩
  rintro _ _ _ ⟨i, rfl, hi, rfl, rfl⟩
  refine ⟨fun h => ?_, fun h => ?_⟩
  · have hia : i < a.length := by simpa using h
    have hib : i < b.length := by omega
    have hs : Sz (dsum (elr a) (elr b) i) := hS _ (Nat.le_trans (dsum_le (K := K) (L := K) i (fun k hk => ha _ (elr_mem (by omega))) fun k hk => hb _ (elr_mem (by omega))) (hnK i hi))
    have hx := ha _ (elr_mem hia)
    have hy := hb _ (elr_mem hib)
    refine ⟨_, _, _, _, decide (dsum (elr a) (elr b) (i + 1) < 0), lim (dz (dsum (elr a) (elr b) (i + 1))), ⟨by omega, by omega⟩, row_getN hia, ⟨by omega, by omega⟩, row_getN hib, dstep_ok hs (bigK hS hx) (bigK hS hy) (bigKK hS (mul_natAbs_le hx hy)), ?_⟩
    rw [inc64 (by omega)]
    exact ⟨⟨i + 1, rfl, by omega, rfl, rfl⟩, by show ((a.length : Int) - ((i + 1 : Nat) : Int)).toNat < ((a.length : Int) - (i : Int)).toNat; omega⟩
  · have hia : i = a.length := by have : a.length ≤ i := by simpa using h
                                  omega
    subst hia
    exact ⟨rfl, rfl⟩
theorem dotB {a b : List Int} (hab : a.length = b.length) (ha : BdR K a) (hb : BdR K b) (hl : a.length ≤ 4294967296) :
    FnD prog 105 [vs (row a), vs (row b)] (eI (dsum (elr a) (elr b) a.length)) [] := by
  refine vc105_ok _ _ (R := Out _) ?_
  unfold vc105
  exact ⟨_, _, foldB hS hab ha hb hl, rfl, rfl⟩
theorem mmulB {r n c : Nat} {a b : List (List Int)} (ha : Mx r n a) (hb : Mx n c b) (ka : BdM K a) (kb : BdM K b) (hr : r ≤ 4294967296) (hn : n ≤ 4294967296) (hc : c ≤ 4294967296) :
    FnD prog 79 [eM r n a, eM n c b] (eME r c (mmul r n c a b) 0) [] := by
  refine vc79_ok _ _ _ _ _ _ (R := Out _) ?_
  unfold vc79
  refine ⟨fun h => by simp at h, fun _ => ⟨_, _, _, transpose_ok hb hn hc, _, _, _, build_ok hr hc (g := fun i j => dsum (fun k => el a i k) (fun k => el b k j) n) fun i j hi hj => ?_, rfl, rfl⟩⟩
  refine vc104_ok _ _ _ _ _ _ _ _ (R := Out _) ?_
  unfold vc104
  have h1 : i < a.length := by rw [ha.1]; exact hi
  have h2 : j < (table c n fun i j => el b j i).length := by simp [table, hj]
  have hla : (a.getD i []).length = n := ha.2 _ (getD_mem h1)
  have hlb : ((table c n fun i j => el b j i).getD j []).length = n := by rw [getD_table hj]; simp [tableR]
  have hba : BdR K (a.getD i []) := ka _ (getD_mem h1)
  have hbb : BdR K ((table c n fun i j => el b j i).getD j []) := table_bd (fun i j hi hj => el_bd hb kb hj hi) _ (getD_mem h2)
  refine ⟨_, _, decide (dsum (fun k => el a i k) (fun k => el b k j) n < 0), lim (dz (dsum (fun k => el a i k) (fun k => el b k j) n)), ⟨by omega, by rw [rows_length]; omega⟩, rows_getN h1, ⟨by omega, by rw [rows_length]; omega⟩, rows_getN h2, ?_, rfl, rfl⟩
  have := dotB hS (hla.trans hlb.symm) hba hbb (by omega)
  have e : dsum (elr (a.getD i [])) (elr ((table c n fun i j => el b j i).getD j [])) (a.getD i []).length = dsum (fun k => el a i k) (fun k => el b k j) n := by
    rw [hla]
    refine dsum_congr n (fun k hk => rfl) fun k hk => ?_
    rw [getD_table hj, elr_tableR hk]
  rw [e] at this
  exact this
theorem m5mulB {r n c : Nat} {a b : List (List Int)} (ha : Mx r n a) (hb : Mx n c b) (ka : BdM K a) (kb : BdM K b) (hr : r ≤ 4294967296) (hn : n ≤ 4294967296) (hc : c ≤ 4294967296) :
    FnD prog 72 [eM r n a, eM n c b] (eME r c (mmul r n c a b) 0) [] := by
  refine vc72_ok _ _ _ _ _ _ (R := Out _) ?_
  unfold vc72
  obtain ⟨p, hp⟩ : ∃ p : Nat → Nat → Nat → Int, p = fun i j k => dsum (fun k => el a i k) (fun k => el b k j) k := ⟨_, rfl⟩
  obtain ⟨f, hf⟩ : ∃ f : Nat → Nat → Int, f = fun i j => p i j n := ⟨_, rfl⟩
  refine ⟨fun h => by simp at h, fun _ => ?_⟩
  refine ⟨_, _, _, rnew_ok hr hc, fun o t => ∃ i : Nat, t = (i : Int) ∧ i ≤ r ∧ o = om (table r c (gF f i 0)), fun _ t => ((r : Int) - t).toNat, ⟨0, rfl, by omega, gF_zero f⟩, ?_⟩
  rintro _ _ ⟨i, rfl, hi, rfl⟩
  refine ⟨fun h => ?_, fun h => outME ?_⟩
  · have hir : i < r := by simpa using h
    refine ⟨fun o t => ∃ j : Nat, t = (j : Int) ∧ j ≤ c ∧ o = om (table r c (gF f i j)), fun _ t => ((c : Int) - t).toNat, ⟨0, rfl, by omega, rfl⟩, ?_⟩
    rintro _ _ ⟨j, rfl, hj, rfl⟩
    refine ⟨fun h2 => ?_, fun h2 => ?_⟩
    · have hjc : j < c := by simpa using h2
      refine ⟨fun o t => ∃ k : Nat, t = (k : Int) ∧ k ≤ n ∧ o = om (table r c (gM f f i j (p i j k))), fun _ t => ((n : Int) - t).toNat, ⟨0, rfl, by omega, ?_⟩, ?_⟩
      · rw [gM_start]; subst hp; rfl
      rintro _ _ ⟨k, rfl, hk, rfl⟩
      refine ⟨fun h3 => ?_, fun h3 => ?_⟩
      · have hkn : k < n := by simpa using h3
        obtain ⟨e1, e2, e3, e4⟩ := read_el ha hir hkn
        obtain ⟨f1, f2, f3, f4⟩ := read_el hb hkn hjc
        have hx := el_bd ha ka hir hkn
        have hy := el_bd hb kb hkn hjc
        have hxy := mul_natAbs_le hx hy
        have hs : (p i j k).natAbs ≤ 4294967296 * (K * K) := by
          subst hp
          exact Nat.le_trans (dsum_le (K := K) (L := K) k (fun l hl => el_bd ha ka hir (by omega)) fun l hl => el_bd hb kb (by omega) hjc) (Nat.mul_le_mul_right _ (by omega))
        refine ⟨decide (p i j k < 0), lim (dz (p i j k)), _, _, _, _, _, _, _, _, decide (p i j (k + 1) < 0), lim (dz (p i j (k + 1))), ⟨by omega, by rw [om_len]; omega⟩, om_in hir hjc, ?_, ⟨by omega, e4⟩, e1, ⟨by omega, e3⟩, e2, ⟨by omega, f4⟩, f1, ⟨by omega, f3⟩, f2, rmul_ok (bigK hS hx) (bigK hS hy), ?_, ?_⟩
        · rw [Int.toNat_natCast, Int.toNat_natCast, at2_om hir hjc]
          unfold gM; rw [if_pos ⟨rfl, rfl⟩]; rfl
        · have := radd_ok (x := p i j k) (y := el a i k * el b k j) (hS _ hs) (bigKK hS hxy)
          have e : p i j (k + 1) = p i j k + el a i k * el b k j := by subst hp; rfl
          rw [e]; exact this
        · rw [inc64 (by omega)]
          refine ⟨⟨k + 1, rfl, by omega, ?_⟩, by show ((n : Int) - ((k + 1 : Nat) : Int)).toNat < ((n : Int) - (k : Int)).toNat; omega⟩
          rw [Int.toNat_natCast, Int.toNat_natCast]
          exact gM_step hir hjc
      · have hkn : k = n := by have : n ≤ k := by simpa using h3
                               omega
        subst hkn
        rw [inc64 (by omega)]
        refine ⟨⟨j + 1, rfl, by omega, ?_⟩, by show ((c : Int) - ((j + 1 : Nat) : Int)).toNat < ((c : Int) - (j : Int)).toNat; omega⟩
        have e : p i j k = f i j := by subst hf; rfl
        rw [e]; exact gM_end
    · have hjc : c ≤ j := by simpa using h2
      rw [inc64 (by omega)]
      exact ⟨⟨i + 1, rfl, by omega, gF_next fun b h1 h2 => by omega⟩, by show ((r : Int) - ((i + 1 : Nat) : Int)).toNat < ((r : Int) - (i : Int)).toNat; omega⟩
  · have hir : i = r := by have : r ≤ i := by simpa using h
                           omega
    subst hir
    rw [gF_all, matD_om]
    subst hf; subst hp; rfl
theorem m5prodB {r n c : Nat} {a b : List (List Int)} (ha : Mx r n a) (hb : Mx n c b) (ka : BdM K a) (kb : BdM K b) (hr : r ≤ 4294967296) (hn : n ≤ 4294967296) (hc : c ≤ 4294967296) :
    FnD prog 37 [eM r n a, eM n c b] (eM r c (mmul r n c a b)) [] := by
  refine vc37_ok _ _ _ _ _ _ (R := Out _) ?_
  unfold vc37
  exact ⟨_, _, _, _, m5mulB hS ha hb ka kb hr hn hc, rfl, rfl⟩
end
def piv (v : List Int) : Int := firstI (fun z => decide (z ≠ 0)) v
theorem piv_cases (v : List Int) : (piv v = -1 ∧ ∀ k, k < v.length → elr v k = 0) ∨ ∃ p : Nat, piv v = (p : Int) ∧ p < v.length ∧ elr v p ≠ 0 ∧ ∀ k, k < p → elr v k = 0 := by
  have key : ∀ n, n ≤ v.length → (∀ k, k < n → elr v k = 0) ∨ ∃ p, p < n ∧ elr v p ≠ 0 ∧ ∀ k, k < p → elr v k = 0 := fun n => by
    induction n with
    | zero => exact fun _ => .inl fun k hk => by omega
    | succ n ih =>
      intro hn
      rcases ih (by omega) with h | ⟨p, h1, h2, h3⟩
      · by_cases h0 : elr v n = 0
        · refine .inl fun k hk => ?_
          by_cases hkn : k = n
          · rw [hkn]; exact h0
          · exact h k (by omega)
        · exact .inr ⟨n, by omega, h0, h⟩
      · exact .inr ⟨p, by omega, h2, h3⟩
  rcases key v.length (Nat.le_refl _) with h | ⟨p, h1, h2, h3⟩
  · exact .inl ⟨firstI_none fun k hk => by simp [h k hk], h⟩
  · exact .inr ⟨p, firstI_at h1 (by simp [h2]) fun k hk => by simp [h3 k hk], h1, h2, h3⟩
theorem rpiv_ok {v : List Int} (hl : v.length ≤ 4294967296) : FnD prog 73 [vs (row v)] (vi (piv v)) [] := by
  refine vc73_ok _ (R := Out _) ?_
  unfold vc73
  simp only [row_length]
  refine ⟨fun t => ∃ i : Nat, t = (i : Int) ∧ i ≤ v.length ∧ ∀ k, k < i → elr v k = 0, fun t => ((v.length : Int) - t).toNat, ⟨0, rfl, by omega, fun k hk => by omega⟩, ?_⟩
  rintro _ ⟨i, rfl, hi, hinv⟩
  refine ⟨fun h => ?_, fun h => outi ?_⟩
  · have hir : i < v.length := by simpa using h
    refine ⟨_, _, _, ⟨by omega, by omega⟩, row_getN hir, rsign_ok _, fun h2 => outi ?_, fun h2 => ?_⟩
    · exact (firstI_at hir (by simpa using sgn_ne.1 h2) fun k hk => by simp [hinv k hk]).symm
    · rw [inc64 (by omega)]
      refine ⟨⟨i + 1, rfl, by omega, fun k hk => ?_⟩, by show ((v.length : Int) - ((i + 1 : Nat) : Int)).toNat < ((v.length : Int) - (i : Int)).toNat; omega⟩
      by_cases hki : k = i
      · subst hki
        apply Classical.byContradiction
        intro hc
        rw [sgn_ne.2 hc] at h2; simp at h2
      · exact hinv k (by omega)
  · have hir : i = v.length := by have : v.length ≤ i := by simpa using h
                                  omega
    exact (firstI_none fun k hk => by simp [hinv k (by omega)]).symm
theorem sgn_bne {z : Int} : ((if z = 0 then (0 : Int) else if z < 0 then -1 else 1) != 0) = decide (z ≠ 0) := by
  by_cases h : z = 0
  · simp [h]
  · by_cases h2 : z < 0
    · simp [h, h2]
    · simp [h, h2]
theorem ppiv_ok {v : List Int} (hl : v.length ≤ 4294967296) : FnD prog 84 [vs (row v)] (vi (piv v)) [] := by
  refine vc84_ok _ (R := Out _) ?_
  unfold vc84
  refine ⟨_, index134_ok (r := v) (f := 112) (fc := []) (p := fun z => decide (z ≠ 0)) hl fun k hk => ?_, rfl, rfl⟩
  refine vc112_ok _ _ (R := Out _) ?_
  unfold vc112
  exact ⟨_, sign_ok _, outb sgn_bne⟩
def lastP (c : Nat) (m : List (List Int)) : Nat → Int
  | 0 => -1
  | i + 1 => if piv (m.getD i []) < 0 then (c : Int) else piv (m.getD i [])
def rowIs (c : Nat) (m : List (List Int)) (i : Nat) : Bool :=
  decide (piv (m.getD i []) < 0) || (decide (lastP c m i < piv (m.getD i [])) && decide (0 < el m i (piv (m.getD i [])).toNat) &&
    (List.range i).all fun k => decide (0 ≤ el m k (piv (m.getD i [])).toNat) && decide (el m k (piv (m.getD i [])).toNat < el m i (piv (m.getD i [])).toNat))
def isHB (r c : Nat) (m : List (List Int)) : Bool := (List.range r).all (rowIs c m)
theorem lastP_succ (c : Nat) (m : List (List Int)) (i : Nat) : lastP c m (i + 1) = if piv (m.getD i []) < 0 then (c : Int) else piv (m.getD i []) := rfl
theorem isHB_false {r c n : Nat} {m : List (List Int)} (hn : n < r) (h : rowIs c m n = false) : isHB r c m = false := by
  unfold isHB
  rw [List.all_eq_false]
  exact ⟨n, List.mem_range.2 hn, by simp [h]⟩
theorem isHB_true {r c : Nat} {m : List (List Int)} (h : ∀ n, n < r → rowIs c m n = true) : isHB r c m = true := by
  unfold isHB
  rw [List.all_eq_true]
  exact fun n hn => h n (List.mem_range.1 hn)
theorem rowIs_neg {c i : Nat} {m : List (List Int)} (h : piv (m.getD i []) < 0) : rowIs c m i = true := by unfold rowIs; rw [decide_eq_true h]; rfl
theorem rowIs_iff {c i p : Nat} {m : List (List Int)} (h : piv (m.getD i []) = (p : Int)) : rowIs c m i = true ↔ lastP c m i < p ∧ 0 < el m i p ∧ ∀ k, k < i → 0 ≤ el m k p ∧ el m k p < el m i p := by
  unfold rowIs
  rw [h, Int.toNat_natCast]
  simp only [Bool.or_eq_true, Bool.and_eq_true, decide_eq_true_eq, List.all_eq_true, List.mem_range]
  constructor
  · rintro (h1 | ⟨⟨h1, h2⟩, h3⟩)
    · omega
    · exact ⟨h1, h2, h3⟩
  · rintro ⟨h1, h2, h3⟩
    exact .inr ⟨⟨h1, h2⟩, h3⟩
theorem rowIs_false {c i p : Nat} {m : List (List Int)} (h : piv (m.getD i []) = (p : Int)) (hn : ¬ (lastP c m i < p ∧ 0 < el m i p ∧ ∀ k, k < i → 0 ≤ el m k p ∧ el m k p < el m i p)) : rowIs c m i = false := by
  cases hb : rowIs c m i with
  | false => rfl
  | true => exact absurd ((rowIs_iff h).1 hb) hn
theorem sgn_le {z : Int} : decide ((if z = 0 then (0 : Int) else if z < 0 then -1 else 1) ≤ 0) = decide (z ≤ 0) := by
  by_cases h : z = 0
  · simp [h]
  · by_cases h2 : z < 0
    · simp [h, h2]; omega
    · simp [h, h2]; omega
theorem sgn_ge {z : Int} : decide ((if z = 0 then (0 : Int) else if z < 0 then -1 else 1) ≥ 0) = decide (z ≥ 0) := by
  by_cases h : z = 0
  · simp [h]
  · by_cases h2 : z < 0
    · simp [h, h2]
    · simp [h, h2]; omega
theorem sgn_ltd {z : Int} : decide ((if z = 0 then (0 : Int) else if z < 0 then -1 else 1) < 0) = decide (z < 0) := by
  by_cases h : z < 0
  · rw [sgn_lt.2 h, decide_eq_true h]
  · rw [decide_eq_false h, decide_eq_false]
    exact fun hc => h (sgn_lt.1 (decide_eq_true hc))
theorem mx_row {r c : Nat} {m : List (List Int)} (hm : Mx r c m) {i : Nat} (hi : i < r) : i < m.length ∧ (m.getD i []).length = c := by
  have h1 : i < m.length := by rw [hm.1]; exact hi
  exact ⟨h1, hm.2 _ (getD_mem h1)⟩
theorem elr_el {m : List (List Int)} {i j : Nat} : elr (m.getD i []) j = el m i j := rfl
theorem szM_el {r c : Nat} {m : List (List Int)} (hm : Mx r c m) (hs : SzM m) {i j : Nat} (hi : i < r) (hj : j < c) : Sz (el m i j) := by
  obtain ⟨h1, h2⟩ := el_mem hm hi hj
  exact hs _ h2 _ (getD_mem (by omega))
theorem rIs_ok {r c : Nat} {m : List (List Int)} (hm : Mx r c m) (hs : SzM m) (hr : r ≤ 4294967296) (hc : c ≤ 4294967296) : FnD prog 39 [eM r c m] (vb (isHB r c m)) [] := by
  refine vc39_ok _ _ _ (R := Out _) ?_
  unfold vc39
  refine ⟨_, rvalidM_ok hm hs hr hc, fun h => absurd h (by decide), fun _ => ?_⟩
  refine ⟨fun last i => ∃ n : Nat, i = (n : Int) ∧ n ≤ r ∧ last = lastP c m n ∧ ∀ j, j < n → rowIs c m j = true, fun _ i => ((r : Int) - i).toNat, ⟨0, rfl, by omega, rfl, fun j hj => by omega⟩, ?_⟩
  rintro _ _ ⟨n, rfl, hn, rfl, hb⟩
  refine ⟨fun h => ?_, fun h => outb ?_⟩
  · have hnr : n < r := by simpa using h
    obtain ⟨hnm, hnl⟩ := mx_row hm hnr
    have bad : rowIs c m n = false → Out (vb (isHB r c m)) (vD (dB false)) [] := fun g => outb (isHB_false hnr g).symm
    have nx : ∀ last, rowIs c m n = true → last = lastP c m (n + 1) → (∃ n' : Nat, IntKind.i64.wrap ((n : Int) + 1) = (n' : Int) ∧ n' ≤ r ∧ last = lastP c m n' ∧ ∀ j, j < n' → rowIs c m j = true) ∧ ((r : Int) - IntKind.i64.wrap ((n : Int) + 1)).toNat < ((r : Int) - (n : Int)).toNat := fun last g g2 => by
      rw [inc64 (by omega)]
      refine ⟨⟨n + 1, rfl, by omega, g2, fun j hj => ?_⟩, by omega⟩
      by_cases hjn : j = n
      · rw [hjn]; exact g
      · exact hb j (by omega)
    refine ⟨_, _, ⟨by omega, by rw [rows_length]; omega⟩, rows_getN hnm, rpiv_ok (by omega), fun h2 => ?_, fun h2 => ?_⟩
    · have h3 := of_decide_eq_true h2
      exact nx _ (rowIs_neg h3) (by rw [lastP_succ, if_pos h3])
    rcases piv_cases (m.getD n []) with ⟨hp, _⟩ | ⟨p, hp, hpc, hpn, _⟩
    · exfalso; have := of_decide_eq_false h2; omega
    rw [hnl] at hpc
    have hlp : lastP c m (n + 1) = (p : Int) := by rw [lastP_succ, if_neg (by omega)]; exact hp
    rw [hp]
    refine ⟨fun h3 => bad (rowIs_false hp fun ⟨g, _⟩ => ?_), fun h3 => ⟨_, _, _, ⟨by omega, by rw [row_length]; omega⟩, row_getN (by omega), rsign_ok _, fun h4 => bad (rowIs_false hp fun ⟨_, g, _⟩ => ?_), fun h4 => ?_⟩⟩
    · have := of_decide_eq_true h3; omega
    · rw [sgn_le] at h4; have := of_decide_eq_true h4; rw [elr_el] at this; omega
    rw [sgn_le, elr_el] at h4
    have g4 := of_decide_eq_false h4
    have g3 := of_decide_eq_false h3
    refine ⟨fun k => ∃ q : Nat, k = (q : Int) ∧ q ≤ n ∧ ∀ j, j < q → 0 ≤ el m j p ∧ el m j p < el m n p, fun k => ((n : Int) - k).toNat, ⟨0, rfl, by omega, fun j hj => by omega⟩, ?_⟩
    rintro _ ⟨q, rfl, hq, hqb⟩
    refine ⟨fun h5 => ?_, fun h5 => nx _ ((rowIs_iff hp).2 ⟨by omega, by omega, fun k hk => hqb k (by have := of_decide_eq_false h5; omega)⟩) hlp.symm⟩
    have hqn : q < n := by simpa using h5
    obtain ⟨hqm, hql⟩ := mx_row hm (show q < r by omega)
    refine ⟨_, _, _, _, ⟨by omega, by rw [rows_length]; omega⟩, rows_getN hqm, ⟨by omega, by rw [row_length]; omega⟩, row_getN (by omega), rsign_ok _, fun h6 => bad (rowIs_false hp fun ⟨_, _, g⟩ => ?_), fun h6 => ⟨_, rcmp_ok (szM_el hm hs (show q < r by omega) hpc) (szM_el hm hs hnr hpc), fun h7 => bad (rowIs_false hp fun ⟨_, _, g⟩ => ?_), fun h7 => ?_⟩⟩
    · rw [sgn_ltd, elr_el] at h6; have := of_decide_eq_true h6; have := (g q hqn).1; omega
    · rw [sgn_ge] at h7; simp only [elr_el] at h7; have := of_decide_eq_true h7; have := (g q hqn).2; omega
    · rw [sgn_ltd, elr_el] at h6
      rw [sgn_ge] at h7
      simp only [elr_el] at h7
      have k6 := of_decide_eq_false h6
      have k7 := of_decide_eq_false h7
      rw [inc64 (by omega)]
      refine ⟨⟨q + 1, rfl, by omega, fun j hj => ?_⟩, by show ((n : Int) - ((q + 1 : Nat) : Int)).toNat < ((n : Int) - (q : Int)).toNat; omega⟩
      by_cases hjq : j = q
      · rw [hjq]; omega
      · exact hqb j (by omega)
  · have hnr : n = r := by have : r ≤ n := by simpa using h
                           omega
    subst hnr
    exact (isHB_true hb).symm
end Go.AM
/- Hermite normal forms: the tests of package hermite; corners; ranks. -/
namespace Go.AM
open Go.Proofs.Tryz
theorem rows_takeN (m : List (List Int)) (n : Nat) : (rows m).take n = rows (m.take n) := by simp [rows, List.map_take]
theorem row_takeN (v : List Int) (n : Nat) : (row v).take n = row (v.take n) := by simp [row, List.map_take]
theorem containsR_ok {m : List (List Int)} {f : FuncId} {fc : List D} {p : Nat → Bool} (hl : m.length ≤ 4294967296) (hf : ∀ k, k < m.length → FnD prog f ([vs (row (m.getD k []))] ++ fc.map dV) (vb (p k)) []) :
    FnD prog 87 [vs (rows m), .e (.sc (.dat (.fn (.func f) fc)))] (vb ((List.range m.length).any p)) [] := by
  refine vc87_ok _ _ _ (R := Out _) ?_
  unfold vc87
  have key : ∃ r : Int, FnD prog 114 [vs (rows m), .e (.sc (.dat (.fn (.func f) fc)))] (vi r) [] ∧ decide (r ≥ 0) = (List.range m.length).any p := by
    by_cases he : ∃ i, i < m.length ∧ p i = true
    · obtain ⟨i0, h1, h2⟩ := he
      obtain ⟨i, hi, hp, hbef⟩ := least_nat (p := p) i0 h2
      refine ⟨(i : Int), ?_, ?_⟩
      · refine vc114_ok _ _ _ (R := Out _) ?_
        unfold vc114
        simp only [rows_length]
        refine ⟨fun t => ∃ n : Nat, t = (n : Int) ∧ n ≤ i, fun t => ((m.length : Int) - t).toNat, ⟨0, rfl, by omega⟩, ?_⟩
        rintro _ ⟨n, rfl, hn⟩
        have hnm : n < m.length := by omega
        refine ⟨fun _ => ⟨_, p n, ⟨by omega, by omega⟩, rows_getN hnm, hf n hnm, fun h2 => outi ?_, fun h2 => ?_⟩, fun h => ?_⟩
        · rcases Nat.lt_or_ge n i with h3 | h3
          · rw [hbef n h3] at h2; exact absurd h2 (by decide)
          · omega
        · have : n < i := by
            rcases Nat.lt_or_ge n i with h3 | h3
            · exact h3
            · rw [show n = i by omega, hp] at h2; exact absurd h2 (by decide)
          rw [inc64 (by omega)]
          exact ⟨⟨n + 1, rfl, by omega⟩, by show ((m.length : Int) - ((n + 1 : Nat) : Int)).toNat < ((m.length : Int) - (n : Int)).toNat; omega⟩
        · exfalso; have : m.length ≤ n := by simpa using h
          omega
      · rw [decide_eq_true (by omega), List.any_eq_true.2 ⟨i0, List.mem_range.2 h1, h2⟩]
    · have hno : ∀ i, i < m.length → p i = false := fun i hi => by
        cases hp : p i with
        | false => rfl
        | true => exact absurd ⟨i, hi, hp⟩ he
      refine ⟨-1, ?_, ?_⟩
      · refine vc114_ok _ _ _ (R := Out _) ?_
        unfold vc114
        simp only [rows_length]
        refine ⟨fun t => ∃ n : Nat, t = (n : Int) ∧ n ≤ m.length, fun t => ((m.length : Int) - t).toNat, ⟨0, rfl, by omega⟩, ?_⟩
        rintro _ ⟨n, rfl, hn⟩
        refine ⟨fun h => ?_, fun _ => outi rfl⟩
        have hnm : n < m.length := by simpa using h
        refine ⟨_, p n, ⟨by omega, by omega⟩, rows_getN hnm, hf n hnm, fun h2 => ?_, fun _ => ?_⟩
        · rw [hno n hnm] at h2; exact absurd h2 (by decide)
        · rw [inc64 (by omega)]
          exact ⟨⟨n + 1, rfl, by omega⟩, by show ((m.length : Int) - ((n + 1 : Nat) : Int)).toNat < ((m.length : Int) - (n : Int)).toNat; omega⟩
      · have : (List.range m.length).any p = false := by
          rw [List.any_eq_false]
          intro i hi
          simp [hno i (List.mem_range.1 hi)]
        rw [this]; rfl
  obtain ⟨r, h1, h2⟩ := key
  exact ⟨r, h1, outb h2⟩
theorem cmpI_ge {x y : Int} (h : ¬ x < 0) : decide (cmpI x y ≥ 0) = (decide (x < 0) || decide (x ≥ y)) := by
  rw [decide_eq_false h, Bool.false_or]
  unfold cmpI
  by_cases h7 : x < y
  · simp [h7]
  · by_cases h9 : y < x
    · simp [h7, h9]; omega
    · simp [h7, h9]; omega
theorem pIs_ok {r c : Nat} {m : List (List Int)} (hm : Mx r c m) (hs : SzM m) (hr : r ≤ 4294967296) (hc : c ≤ 4294967296) : FnD prog 47 [eM r c m] (vb (isHB r c m)) [] := by
  refine vc47_ok _ _ _ (R := Out _) ?_
  unfold vc47
  have hlen : ((rows m).length : Int) = (r : Int) := by rw [rows_length, hm.1]
  rw [hlen]
  refine ⟨_, mvalid_ok hm hs hr hc, fun h => absurd h (by decide), fun _ => ?_⟩
  refine ⟨fun i last => ∃ n : Nat, i = (n : Int) ∧ n ≤ r ∧ last = lastP c m n ∧ ∀ j, j < n → rowIs c m j = true, fun i _ => ((r : Int) - i).toNat, ⟨0, rfl, by omega, rfl, fun j hj => by omega⟩, ?_⟩
  rintro _ _ ⟨n, rfl, hn, rfl, hb⟩
  refine ⟨fun h => ?_, fun h => outb ?_⟩
  · have hnr : n < r := by simpa using h
    obtain ⟨hnm, hnl⟩ := mx_row hm hnr
    have bad : rowIs c m n = false → Out (vb (isHB r c m)) (vD (dB false)) [] := fun g => outb (isHB_false hnr g).symm
    have nx : ∀ last, rowIs c m n = true → last = lastP c m (n + 1) → (∃ n' : Nat, IntKind.i64.wrap ((n : Int) + 1) = (n' : Int) ∧ n' ≤ r ∧ last = lastP c m n' ∧ ∀ j, j < n' → rowIs c m j = true) ∧ ((r : Int) - IntKind.i64.wrap ((n : Int) + 1)).toNat < ((r : Int) - (n : Int)).toNat := fun last g g2 => by
      rw [inc64 (by omega)]
      refine ⟨⟨n + 1, rfl, by omega, g2, fun j hj => ?_⟩, by omega⟩
      by_cases hjn : j = n
      · rw [hjn]; exact g
      · exact hb j (by omega)
    refine ⟨_, ⟨by omega, by omega⟩, rows_getN hnm, _, ppiv_ok (by omega), fun h2 => ?_, fun h2 => ?_⟩
    · have h3 := of_decide_eq_true h2
      exact nx _ (rowIs_neg h3) (by rw [lastP_succ, if_pos h3])
    rcases piv_cases (m.getD n []) with ⟨hp, _⟩ | ⟨p, hp, hpc, hpn, _⟩
    · exfalso; have := of_decide_eq_false h2; omega
    rw [hnl] at hpc
    have hlp : lastP c m (n + 1) = (p : Int) := by rw [lastP_succ, if_neg (by omega)]; exact hp
    rw [hp]
    refine ⟨fun h3 => bad (rowIs_false hp fun ⟨g, _⟩ => ?_), fun h3 => ⟨_, _, _, ⟨by omega, by rw [row_length]; omega⟩, row_getN (by omega), sign_ok _, fun h4 => bad (rowIs_false hp fun ⟨_, g, _⟩ => ?_), fun h4 => ?_⟩⟩
    · have := of_decide_eq_true h3; omega
    · rw [sgn_ltd] at h4; have := of_decide_eq_true h4; rw [elr_el] at this; omega
    rw [sgn_ltd] at h4
    have g4 := of_decide_eq_false h4
    have g3 := of_decide_eq_false h3
    have hpos : 0 < el m n p := by rw [elr_el] at g4 hpn; omega
    have hct := containsR_ok (m := m.take n) (f := 85) (fc := [D.box [dI (p : Int)], D.box [D.sl (row (m.getD n []))]]) (p := fun k => decide (el m k p < 0) || decide (el m k p ≥ el m n p)) (by rw [List.length_take]; omega) fun k hk => ?_
    · refine ⟨_, ⟨by omega, by omega⟩, by rw [Int.toNat_natCast, rows_takeN]; exact hct, fun h5 => ?_, fun h5 => ?_⟩
      · refine bad (rowIs_false hp fun ⟨_, _, g⟩ => ?_)
        rw [List.any_eq_true] at h5
        obtain ⟨k, hk, hk2⟩ := h5
        have hkn : k < n := by have := List.mem_range.1 hk; rw [List.length_take] at this; omega
        have := g k hkn
        simp only [Bool.or_eq_true, decide_eq_true_eq] at hk2
        omega
      · refine nx _ ((rowIs_iff hp).2 ⟨by omega, hpos, fun k hk => ?_⟩) hlp.symm
        rw [List.any_eq_false] at h5
        have := h5 k (List.mem_range.2 (by rw [List.length_take]; omega))
        simp only [Bool.or_eq_true, decide_eq_true_eq, not_or] at this
        omega
    · rw [List.length_take] at hk
      have hkr : k < r := by omega
      obtain ⟨hkm, hkl⟩ := mx_row hm hkr
      have e : (m.take n).getD k [] = m.getD k [] := by
        rw [List.getD_eq_getElem?_getD, List.getElem?_take_of_lt (by omega), ← List.getD_eq_getElem?_getD]
      rw [e]
      refine vc85_ok _ _ _ (R := Out _) ?_
      unfold vc85
      refine ⟨_, _, _, ⟨by omega, by rw [row_length]; omega⟩, row_getN (by omega), sign_ok _, fun h6 => outb ?_, fun h6 => ⟨_, _, _, ⟨by omega, by rw [row_length]; omega⟩, row_getN (by omega), cmp_ok (szM_el hm hs hkr hpc) (szM_el hm hs hnr hpc), outb ?_⟩⟩
      · rw [sgn_ltd] at h6
        simp only [elr_el] at h6
        have h8 := of_decide_eq_true h6
        simp [h8]
      · rw [sgn_ltd] at h6
        simp only [elr_el] at h6
        have h8 := of_decide_eq_false h6
        exact cmpI_ge h8
  · have hnr : n = r := by have : r ≤ n := by simpa using h
                           omega
    subst hnr
    exact (isHB_true hb).symm
def cor (t k : Nat) (m : List (List Int)) : List (List Int) := (m.take t).map (List.take k)
theorem cor_mx {r c t k : Nat} {m : List (List Int)} (hm : Mx r c m) (ht : t ≤ r) (hk : k ≤ c) : Mx t k (cor t k m) := by
  refine ⟨by simp [cor, hm.1, ht], fun x hx => ?_⟩
  simp only [cor, List.mem_map] at hx
  obtain ⟨y, hy, rfl⟩ := hx
  have := hm.2 y (List.mem_of_mem_take hy)
  rw [List.length_take]; omega
theorem cor_sz {t k : Nat} {m : List (List Int)} (hs : SzM m) : SzM (cor t k m) := fun x hx => by
  simp only [cor, List.mem_map] at hx
  obtain ⟨y, hy, rfl⟩ := hx
  exact fun z hz => hs y (List.mem_of_mem_take hy) z (List.mem_of_mem_take hz)
theorem cor_row {t k i : Nat} {m : List (List Int)} (hi : i < t) (hm : t ≤ m.length) : (cor t k m).getD i [] = (m.getD i []).take k := by
  have h1 : i < m.length := by omega
  simp [cor, hi, h1]
theorem cor_succ {t k : Nat} {m : List (List Int)} (ht : t < m.length) : cor (t + 1) k m = cor t k m ++ [(m.getD t []).take k] := by
  unfold cor
  rw [List.take_add_one, List.map_append]
  simp [ht]
def rankF : Nat → List (List Int) → Nat
  | 0, _ => 0
  | n + 1, m => if 0 ≤ piv (m.getD n []) then rankF n m + 1 else rankF n m
theorem rankF_le : ∀ n m, rankF n m ≤ n
  | 0, _ => Nat.le_refl _
  | n + 1, m => by have := rankF_le n m; unfold rankF; split <;> omega
theorem rankF_full : ∀ n m, rankF n m = n ↔ ∀ i, i < n → 0 ≤ piv (m.getD i [])
  | 0, _ => by simp [rankF]
  | n + 1, m => by
    have h1 := rankF_full n m
    have h2 := rankF_le n m
    have h3 : rankF (n + 1) m = if 0 ≤ piv (m.getD n []) then rankF n m + 1 else rankF n m := rfl
    rw [h3]
    constructor
    · intro h i hi
      split at h
      · rename_i hp
        by_cases hin : i = n
        · rw [hin]; exact hp
        · exact h1.1 (by omega) i (by omega)
      · omega
    · intro h
      rw [if_pos (h n (by omega)), h1.2 fun i hi => h i (by omega)]
end Go.AM
/- Package step and its reference: Valid; torsionref12.Check. -/
namespace Go.AM
open Go.Proofs.Tryz
def ePi (r c : Nat) (A m u v : List (List Int)) (t k : Int) (b : Bool) : V :=
  vA [sD (dI r), sD (dI c), sD (dL (rows A)), sD (dI r), sD (dI c), sD (dL (rows m)), sD (dI r), sD (dI r), sD (dL (rows u)), sD (dI r), sD (dI r), sD (dL (rows v)), sD (dI t), sD (dI k), sD (dB b)]
def finI (r c : Nat) (t k : Int) : Bool := decide (t ≥ (r : Int)) || decide (k ≥ (c : Int))
theorem finI_ok {r c : Nat} {A m u v : List (List Int)} {t k : Int} {b : Bool} : FnD prog 29 [ePi r c A m u v t k b] (vb (finI r c t k)) [] := by
  refine vc29_ok _ _ _ _ _ _ _ _ _ _ _ _ _ _ _ (R := Out _) ?_
  unfold vc29
  refine ⟨fun h => outb ?_, fun h => outb ?_⟩
  · simp only [finI, h, Bool.true_or]
  · simp only [finI, h, Bool.false_or]
def zP (k : Nat) (m : List (List Int)) (i : Nat) : Bool := !((m.getD i []).take k).any fun z => decide (z ≠ 0)
def zeroB (r t k : Nat) (m : List (List Int)) : Bool := (List.range r).all fun i => decide (i < t) || zP k m i
def validR (r t k : Nat) (m : List (List Int)) : Bool := isHB t k (cor t k m) && decide (rankF t (cor t k m) = t) && zeroB r t k m
def validI (r c : Nat) (A m u v : List (List Int)) (t k : Int) (b : Bool) : Bool :=
  decide (0 ≤ t) && decide (t ≤ r) && decide (t ≤ k) && decide (k ≤ c) && (b == finI r c t k) && decide (mmul r r c u A = m) && decide (mmul r r r u v = idM r) && validR r t.toNat k.toNat m
theorem validR_iff {r t k : Nat} {m : List (List Int)} : validR r t k m = true ↔ isHB t k (cor t k m) = true ∧ rankF t (cor t k m) = t ∧ zeroB r t k m = true := by
  unfold validR; simp [and_assoc]
structure VX (r c K : Nat) (A m u v : List (List Int)) : Prop where
  hA : Mx r c A
  hm : Mx r c m
  hu : Mx r r u
  hv : Mx r r v
  kA : BdM K A
  km : BdM K m
  ku : BdM K u
  kv : BdM K v
  hS : ∀ y : Int, y.natAbs ≤ 4294967296 * (K * K) → Sz y
  hr : r ≤ 4294967296
  hc : c ≤ 4294967296
theorem BdM.szm {K : Nat} {m : List (List Int)} (h : BdM K m) (hS : ∀ y : Int, y.natAbs ≤ 4294967296 * (K * K) → Sz y) : SzM m := fun x hx z hz => bigK hS (h x hx z hz)
section
variable {r c K : Nat} {A m u v : List (List Int)} (C : VX r c K A m u v)
include C
theorem VX.mmul_sz {n c' : Nat} {a b : List (List Int)} (hn : n ≤ 4294967296) (ha : Mx r n a) (hb : Mx n c' b) (ka : BdM K a) (kb : BdM K b) : SzM (mmul r n c' a b) := by
  have := table_bd (r := r) (c := c') (K := 4294967296 * (K * K)) (g := fun i j => dsum (fun k => el a i k) (fun k => el b k j) n) fun i j hi hj =>
    Nat.le_trans (dsum_le (K := K) (L := K) n (fun l hl => el_bd ha ka hi hl) fun l hl => el_bd hb kb hl hj) (Nat.mul_le_mul_right _ hn)
  exact fun x hx z hz => C.hS z (this x hx z hz)
omit C in
theorem VX.same {n c' : Nat} {a b : List (List Int)} (ha : Mx n c' a) (sa : SzM a) (sb : SzM b) (hn : n ≤ 4294967296) (hc' : c' ≤ 4294967296) : FnD prog 22 [eM n c' a, eM n c' b] (vb (decide (a = b))) [] := by
  have := same_ok (r := n) (c := c') (r' := n) (c' := c') sa sb (by rw [ha.1]; exact hn) fun y hy => by rw [ha.2 y hy]; exact hc'
  rwa [show decide ((n : Int) = n ∧ (c' : Int) = c' ∧ a = b) = decide (a = b) by simp] at this
omit C in
theorem VX.equal {n c' : Nat} {a b : List (List Int)} (ha : Mx n c' a) (sa : SzM a) (sb : SzM b) (hn : n ≤ 4294967296) (hc' : c' ≤ 4294967296) : FnD prog 80 [eM n c' a, eM n c' b] (vb (decide (a = b))) [] := by
  have := equal_ok (r := n) (c := c') (r' := n) (c' := c') sa sb (by rw [ha.1]; exact hn) fun y hy => by rw [ha.2 y hy]; exact hc'
  rwa [show decide ((n : Int) = n ∧ (c' : Int) = c' ∧ a = b) = decide (a = b) by simp] at this
omit C in
theorem psized_ok {n c' : Nat} {a : List (List Int)} (ha : Mx n c' a) (sa : SzM a) (hn : n ≤ 4294967296) (hc' : c' ≤ 4294967296) : FnD prog 44 [eM n c' a, vi n, vi c'] (vb true) [] := by
  refine vc44_ok _ _ _ _ _ (R := Out _) ?_
  unfold vc44
  refine ⟨_, mvalid_ok ha sa hn hc', fun _ => ⟨fun _ => outb (by simp), fun h => by simp at h⟩, fun h => absurd h (by decide)⟩
theorem pproduct_ok {c' : Nat} {a b d : List (List Int)} (ha : Mx r r a) (hb : Mx r c' b) (ka : BdM K a) (kb : BdM K b) (sd : SzM d) (hc' : c' ≤ 4294967296) : FnD prog 45 [eM r r a, eM r c' b, eM r c' d] (vb (decide (mmul r r c' a b = d))) [] := by
  refine vc45_ok _ _ _ _ _ _ _ _ _ (R := Out _) ?_
  unfold vc45
  refine ⟨_, _, _, _, mmulB C.hS ha hb ka kb C.hr C.hr hc', fun _ => ⟨_, VX.equal (mmul_mx r r c' a b) (C.mmul_sz C.hr ha hb ka kb) sd C.hr hc', outb rfl⟩, fun h => by simp at h⟩
omit C in
theorem piv_take {w : List Int} {k : Nat} : 0 ≤ piv (w.take k) ↔ (!(w.take k).any fun z => decide (z ≠ 0)) = false := by
  have := firstI_any (fun z => decide (z ≠ 0)) (w.take k)
  show 0 ≤ firstI _ _ ↔ _
  rw [Bool.not_eq_false', ← this, decide_eq_true_eq]
theorem VX.validR_eq {t k : Nat} (ht : t ≤ r) : validR r t k m = ((List.range r).all (fun i => zP k m i == decide (t ≤ i)) && isHB t k (cor t k m)) := by
  have hl := C.hm.1
  rw [Bool.eq_iff_iff, validR_iff, rankF_full, Bool.and_eq_true, List.all_eq_true]
  unfold zeroB
  rw [List.all_eq_true]
  constructor
  · rintro ⟨h1, h2, h3⟩
    refine ⟨fun i hi => ?_, h1⟩
    by_cases hit : i < t
    · have := h2 i hit
      rw [cor_row hit (by omega), piv_take] at this
      unfold zP
      rw [this, decide_eq_false (by omega)]; rfl
    · have := h3 i hi
      simp only [hit, decide_false, Bool.false_or] at this
      rw [this, decide_eq_true (by omega)]; rfl
  · rintro ⟨h1, h2⟩
    refine ⟨h2, fun i hit => ?_, fun i hi => ?_⟩
    · have := h1 i (List.mem_range.2 (by omega))
      rw [cor_row hit (by omega), piv_take]
      rw [decide_eq_false (by omega), beq_iff_eq] at this
      exact this
    · have := h1 i hi
      by_cases hit : i < t
      · simp [hit]
      · rw [decide_eq_true (by omega), beq_iff_eq] at this
        simp [this]
theorem pvalid_ok (t k : Int) (b : Bool) : FnD prog 19 [ePi r c A m u v t k b] (vb (validI r c A m u v t k b)) [] := by
  refine vc19_ok _ _ _ _ _ _ _ _ _ _ _ _ _ _ _ (R := Out _) ?_
  unfold vc19
  have hr := C.hr; have hc := C.hc
  have sA := C.kA.szm C.hS; have sm := C.km.szm C.hS; have su := C.ku.szm C.hS; have sv := C.kv.szm C.hS
  refine ⟨_, mvalid_ok C.hA sA hr hc, fun h => absurd h (by decide), fun _ => ⟨_, psized_ok C.hm sm hr hc, fun h => absurd h (by decide), fun _ => ⟨_, psized_ok C.hu su hr hr, fun h => absurd h (by decide), fun _ => ⟨_, psized_ok C.hv sv hr hr, fun h => absurd h (by decide), fun _ => ?_⟩⟩⟩⟩
  refine ⟨fun h => outb ?_, fun h1 => ⟨fun h => outb ?_, fun h2 => ⟨fun h => outb ?_, fun h3 => ⟨fun h => outb ?_, fun h4 => ?_⟩⟩⟩⟩
  · have := of_decide_eq_true h; simp [validI, show ¬ 0 ≤ t by omega]
  · have := of_decide_eq_true h; simp [validI, show ¬ t ≤ r by omega]
  · have := of_decide_eq_true h; simp [validI, show ¬ t ≤ k by omega]
  · have := of_decide_eq_true h; simp [validI, show ¬ k ≤ c by omega]
  have g1 : 0 ≤ t := by have := of_decide_eq_false h1; omega
  have g2 : t ≤ r := by have := of_decide_eq_false h2; omega
  have g3 : t ≤ k := by have := of_decide_eq_false h3; omega
  have g4 : k ≤ c := by have := of_decide_eq_false h4; omega
  clear h1 h2 h3 h4
  refine ⟨_, finI_ok, fun h => outb ?_, fun h5 => ⟨_, pproduct_ok C C.hu C.hA C.ku C.kA sm hc, fun h => outb ?_, fun h6 => ⟨_, _, _, _, mident_ok hr, pproduct_ok C C.hu C.hv C.ku C.kv (d := idM r) ((idM_bd r).sz (by decide)) hr, fun h => outb ?_, fun h7 => ?_⟩⟩⟩
  · have : (b == finI r c t k) = false := by simpa using h
    simp [validI, this]
  · have : ¬ mmul r r c u A = m := by simpa using h
    simp [validI, this]
  · have : ¬ mmul r r r u v = idM r := by simpa using h
    simp [validI, this]
  have g5 : (b == finI r c t k) = true := by simpa using h5
  have g6 : mmul r r c u A = m := by simpa using h6
  have g7 : mmul r r r u v = idM r := by simpa using h7
  have hv : validI r c A m u v t k b = validR r t.toNat k.toNat m := by simp [validI, g1, g2, g3, g4, g5, g6, g7]
  rw [hv]
  clear hv h5 h6 h7 g5 g6 g7
  obtain ⟨t, rfl⟩ : ∃ n : Nat, t = (n : Int) := ⟨t.toNat, by omega⟩
  obtain ⟨k, rfl⟩ : ∃ n : Nat, k = (n : Int) := ⟨k.toNat, by omega⟩
  rw [Int.toNat_natCast, Int.toNat_natCast]
  have ht : t ≤ r := by omega
  have hk : k ≤ c := by omega
  rw [C.validR_eq ht]
  have hlen : ((rows m).length : Int) = (r : Int) := by rw [rows_length, C.hm.1]
  rw [hlen]
  have bad : ∀ {n : Nat}, n < r → (zP k m n == decide (t ≤ n)) = false → ((List.range r).all (fun i => zP k m i == decide (t ≤ i)) && isHB t k (cor t k m)) = false := fun {n} hn h => by
    have : (List.range r).all (fun i => zP k m i == decide (t ≤ i)) = false := by
      rw [List.all_eq_false]
      exact ⟨n, List.mem_range.2 hn, by rw [h]; decide⟩
    rw [this]; rfl
  refine ⟨fun o i => ∃ n : Nat, i = (n : Int) ∧ n ≤ r ∧ o = rows (cor (min n t) k m) ∧ ∀ j, j < n → (zP k m j == decide (t ≤ j)) = true, fun _ i => ((r : Int) - i).toNat, ⟨0, rfl, by omega, by rw [Nat.zero_min]; rfl, fun j hj => by omega⟩, ?_⟩
  rintro _ _ ⟨n, rfl, hn, rfl, hz⟩
  refine ⟨fun h => ?_, fun h => ?_⟩
  · have hnr : n < r := by simpa using h
    obtain ⟨hnm, hnl⟩ := mx_row C.hm hnr
    have hzo := mzero_ok (r := (m.getD n []).take k) (by rw [List.length_take]; omega)
    have hdt : decide ((n : Int) ≥ (t : Int)) = decide (t ≤ n) := by
      by_cases h : t ≤ n
      · rw [decide_eq_true h, decide_eq_true (by omega)]
      · rw [decide_eq_false h, decide_eq_false (by omega)]
    refine ⟨_, ⟨by omega, by omega⟩, rows_getN hnm, zP k m n, ⟨by omega, by rw [row_length]; omega⟩, by rw [row_takeN]; exact hzo, fun h2 => outb ?_, fun h2 => ?_⟩
    · rw [hdt] at h2
      exact (bad hnr (by simpa using h2)).symm
    rw [hdt] at h2
    have h3 : (zP k m n == decide (t ≤ n)) = true := by simpa using h2
    have hz' : ∀ j, j < n + 1 → (zP k m j == decide (t ≤ j)) = true := fun j hj => by
      by_cases hjn : j = n
      · rw [hjn]; exact h3
      · exact hz j (by omega)
    rw [inc64 (by omega)]
    refine ⟨fun h4 => ?_, fun h4 => ?_⟩
    · have hnt : n < t := by have := of_decide_eq_true h4; omega
      have hcl : (cor (min n t) k m).length = n := by rw [Nat.min_eq_left (by omega)]; exact (cor_mx C.hm (by omega) hk).1
      refine ⟨?_, ⟨n + 1, rfl, by omega, ?_, hz'⟩, by show ((r : Int) - ((n + 1 : Nat) : Int)).toNat < ((r : Int) - (n : Int)).toNat; omega⟩
      · rw [rows_length, hcl]; simp only [List.length_cons, List.length_nil]; omega
      · rw [Nat.min_eq_left (by omega), Nat.min_eq_left (by omega), cor_succ hnm, row_takeN]
        simp [rows]
    · have hnt : t ≤ n := by have := of_decide_eq_false h4; omega
      refine ⟨⟨n + 1, rfl, by omega, ?_, hz'⟩, by show ((r : Int) - ((n + 1 : Nat) : Int)).toNat < ((r : Int) - (n : Int)).toNat; omega⟩
      rw [Nat.min_eq_right (by omega), Nat.min_eq_right (by omega)]
  · have hnr : n = r := by have : r ≤ n := by simpa using h
                           omega
    subst hnr
    rw [Nat.min_eq_right ht]
    refine ⟨_, pIs_ok (cor_mx C.hm ht hk) (cor_sz sm) (by omega) (by omega), outb ?_⟩
    have : (List.range n).all (fun i => zP k m i == decide (t ≤ i)) = true := by
      rw [List.all_eq_true]
      exact fun i hi => hz i (List.mem_range.1 hi)
    rw [this, Bool.true_and]
end
theorem rcheck_ok {r c K : Nat} {A m u v : List (List Int)} (C : VX r c K A m u v) : FnD prog 21 [eM r c A, eHer r c m u v] (vb (isHB r c m && (decide (mmul r r c u A = m) && decide (mmul r r r u v = idM r)))) [] := by
  refine vc21_ok _ _ _ _ _ _ _ _ _ _ _ _ (R := Out _) ?_
  unfold vc21
  have hr := C.hr; have hc := C.hc
  have sA := C.kA.szm C.hS; have sm := C.km.szm C.hS; have su := C.ku.szm C.hS; have sv := C.kv.szm C.hS
  have e2 := sized_ok C.hu su hr hr r r
  have e3 := sized_ok C.hv sv hr hr r r
  rw [decide_eq_true ⟨rfl, rfl⟩] at e2 e3
  have p1 := m5prodB C.hS C.hu C.hA C.ku C.kA hr hr hc
  have p2 := m5prodB C.hS C.hu C.hv C.ku C.kv hr hr hr
  have q1 := VX.same (mmul_mx r r c u A) (C.mmul_sz hr C.hu C.hA C.ku C.kA) sm hr hc
  have q2 := VX.same (mmul_mx r r r u v) (C.mmul_sz hr C.hu C.hv C.ku C.kv) (b := idM r) ((idM_bd r).sz (by decide)) hr hr
  refine ⟨_, rvalidM_ok C.hA sA hr hc, _, rIs_ok C.hm sm hr hc, fun h => absurd h (by decide), fun _ => ⟨fun h => outb ?_, fun h1 => ⟨fun h => by simp at h, fun _ => ⟨fun h => by simp at h, fun _ => ⟨_, e2, _, e3, fun _ => ⟨fun _ => ⟨_, _, _, _, p1, q1, fun h2 => ⟨_, _, _, _, _, _, _, p2, FnD.frz (rident_ok hr), q2, outb ?_⟩, fun h2 => outb ?_⟩, fun h => absurd h (by decide)⟩, fun h => absurd h (by decide)⟩⟩⟩⟩⟩
  · have : isHB r c m = false := by simpa using h
    rw [this]; rfl
  · have g1 : isHB r c m = true := by simpa using h1
    rw [g1, h2]; rfl
  · rw [h2, Bool.false_and, Bool.and_false]
end Go.AM
/- The fixed examples of the law of steps, with the answers put in. Printed by gen8.py. -/
set_option maxRecDepth 100000
set_option linter.unusedVariables false
namespace Go.AM
open Go.Proofs.Tryz
def vc8 (R : V → Heap → Prop) : Prop :=
 (FnD prog 26 [vD (dI (2 : Int)), vD (dI (1 : Int)), vD (dL [[dI (4 : Int)], [dI (6 : Int)]])] (vA [sD (dI (2 : Int)), sD (dI (1 : Int)), S.ref 0]) [some (Obj.mat 2 (om [[4], [6]]))]) ∧
 (FnD prog 10 [vA [sD (dI (2 : Int)), sD (dI (1 : Int)), sD (dL (matD (om [[4], [6]])))]] (vA [sD (dI (2 : Int)), sD (dI (1 : Int)), sD (dL (rows [[4], [6]])), sD (dI (2 : Int)), sD (dI (1 : Int)), sD (dL (rows [[4], [6]])), sD (dI (2 : Int)), sD (dI (2 : Int)), sD (dL (rows [[1, 0], [0, 1]])), sD (dI (2 : Int)), sD (dI (2 : Int)), sD (dL (rows [[1, 0], [0, 1]])), sD (dI (0 : Int)), sD (dI (0 : Int)), sD (dB false)]) []) ∧
 (FnD prog 13 [vA [sD (dI (2 : Int)), sD (dI (1 : Int)), sD (dL (rows [[4], [6]])), sD (dI (2 : Int)), sD (dI (1 : Int)), sD (dL (rows [[4], [6]])), sD (dI (2 : Int)), sD (dI (2 : Int)), sD (dL (rows [[1, 0], [0, 1]])), sD (dI (2 : Int)), sD (dI (2 : Int)), sD (dL (rows [[1, 0], [0, 1]])), sD (dI (0 : Int)), sD (dI (0 : Int)), sD (dB false)], vD (dI (1 : Int))] (vA [sD (dI (2 : Int)), sD (dI (1 : Int)), sD (dL (rows [[4], [6]])), sD (dI (2 : Int)), sD (dI (1 : Int)), sD (dL (rows [[4], [2]])), sD (dI (2 : Int)), sD (dI (2 : Int)), sD (dL (rows [[1, 0], [-1, 1]])), sD (dI (2 : Int)), sD (dI (2 : Int)), sD (dL (rows [[1, 0], [1, 1]])), sD (dI (0 : Int)), sD (dI (0 : Int)), sD (dB false)]) []) ∧
 (FnD prog 13 [vA [sD (dI (2 : Int)), sD (dI (1 : Int)), sD (dL (rows [[4], [6]])), sD (dI (2 : Int)), sD (dI (1 : Int)), sD (dL (rows [[4], [2]])), sD (dI (2 : Int)), sD (dI (2 : Int)), sD (dL (rows [[1, 0], [-1, 1]])), sD (dI (2 : Int)), sD (dI (2 : Int)), sD (dL (rows [[1, 0], [1, 1]])), sD (dI (0 : Int)), sD (dI (0 : Int)), sD (dB false)], vD (dI (1 : Int))] (vA [sD (dI (2 : Int)), sD (dI (1 : Int)), sD (dL (rows [[4], [6]])), sD (dI (2 : Int)), sD (dI (1 : Int)), sD (dL (rows [[2], [4]])), sD (dI (2 : Int)), sD (dI (2 : Int)), sD (dL (rows [[-1, 1], [1, 0]])), sD (dI (2 : Int)), sD (dI (2 : Int)), sD (dL (rows [[0, 1], [1, 1]])), sD (dI (0 : Int)), sD (dI (0 : Int)), sD (dB false)]) []) ∧
 (FnD prog 13 [vA [sD (dI (2 : Int)), sD (dI (1 : Int)), sD (dL (rows [[4], [6]])), sD (dI (2 : Int)), sD (dI (1 : Int)), sD (dL (rows [[2], [4]])), sD (dI (2 : Int)), sD (dI (2 : Int)), sD (dL (rows [[-1, 1], [1, 0]])), sD (dI (2 : Int)), sD (dI (2 : Int)), sD (dL (rows [[0, 1], [1, 1]])), sD (dI (0 : Int)), sD (dI (0 : Int)), sD (dB false)], vD (dI (100 : Int))] (vA [sD (dI (2 : Int)), sD (dI (1 : Int)), sD (dL (rows [[4], [6]])), sD (dI (2 : Int)), sD (dI (1 : Int)), sD (dL (rows [[2], [0]])), sD (dI (2 : Int)), sD (dI (2 : Int)), sD (dL (rows [[-1, 1], [3, -2]])), sD (dI (2 : Int)), sD (dI (2 : Int)), sD (dL (rows [[2, 1], [3, 1]])), sD (dI (1 : Int)), sD (dI (1 : Int)), sD (dB true)]) []) ∧
 (FnD prog 20 [vA [sD (dI (2 : Int)), sD (dI (1 : Int)), sD (dL (rows [[4], [6]])), sD (dI (2 : Int)), sD (dI (1 : Int)), sD (dL (rows [[2], [4]])), sD (dI (2 : Int)), sD (dI (2 : Int)), sD (dL (rows [[-1, 1], [1, 0]])), sD (dI (2 : Int)), sD (dI (2 : Int)), sD (dL (rows [[0, 1], [1, 1]])), sD (dI (0 : Int)), sD (dI (0 : Int)), sD (dB false)]] (V.tup [E.agg [sD (dI (0 : Int)), sD (dI (0 : Int)), sD (dL ([] : DL)), sD (dI (0 : Int)), sD (dI (0 : Int)), sD (dL ([] : DL)), sD (dI (0 : Int)), sD (dI (0 : Int)), sD (dL ([] : DL))], eD (dI (210 : Int))]) []) ∧
 (FnD prog 20 [vA [sD (dI (2 : Int)), sD (dI (1 : Int)), sD (dL (rows [[4], [6]])), sD (dI (2 : Int)), sD (dI (1 : Int)), sD (dL (rows [[2], [0]])), sD (dI (2 : Int)), sD (dI (2 : Int)), sD (dL (rows [[-1, 1], [3, -2]])), sD (dI (2 : Int)), sD (dI (2 : Int)), sD (dL (rows [[2, 1], [3, 1]])), sD (dI (1 : Int)), sD (dI (1 : Int)), sD (dB true)]] (V.tup [E.agg [sD (dI (2 : Int)), sD (dI (1 : Int)), sD (dL (rows [[2], [0]])), sD (dI (2 : Int)), sD (dI (2 : Int)), sD (dL (rows [[-1, 1], [3, -2]])), sD (dI (2 : Int)), sD (dI (2 : Int)), sD (dL (rows [[2, 1], [3, 1]]))], eD (dI (0 : Int))]) []) ∧
 (FnD prog 10 [vA [sD (dI (0 : Int)), sD (dI (3 : Int)), sD (dL ([] : DL))]] (vA [sD (dI (0 : Int)), sD (dI (3 : Int)), sD (dL ([] : DL)), sD (dI (0 : Int)), sD (dI (3 : Int)), sD (dL ([] : DL)), sD (dI (0 : Int)), sD (dI (0 : Int)), sD (dL ([] : DL)), sD (dI (0 : Int)), sD (dI (0 : Int)), sD (dL ([] : DL)), sD (dI (0 : Int)), sD (dI (0 : Int)), sD (dB true)]) []) ∧
 (FnD prog 12 [vA [sD (dI (2 : Int)), sD (dI (1 : Int)), sD (dL (matD (om [[4], [6]])))]] (vA [sD (dI (2 : Int)), sD (dI (1 : Int)), sD (dL (rows [[4], [6]])), sD (dI (2 : Int)), sD (dI (1 : Int)), sD (dL (rows [[4], [6]])), sD (dI (2 : Int)), sD (dI (2 : Int)), sD (dL (rows [[1, 0], [0, 1]])), sD (dI (2 : Int)), sD (dI (2 : Int)), sD (dL (rows [[1, 0], [0, 1]])), sD (dI (0 : Int)), sD (dI (0 : Int)), sD (dB false)]) []) ∧
 (FnD prog 11 [vA [sD (dI (2 : Int)), sD (dI (1 : Int)), sD (dL (rows [[4], [6]])), sD (dI (2 : Int)), sD (dI (1 : Int)), sD (dL (rows [[4], [6]])), sD (dI (2 : Int)), sD (dI (2 : Int)), sD (dL (rows [[1, 0], [0, 1]])), sD (dI (2 : Int)), sD (dI (2 : Int)), sD (dL (rows [[1, 0], [0, 1]])), sD (dI (0 : Int)), sD (dI (0 : Int)), sD (dB false)], vA [sD (dI (2 : Int)), sD (dI (1 : Int)), sD (dL (rows [[4], [6]])), sD (dI (2 : Int)), sD (dI (1 : Int)), sD (dL (rows [[4], [6]])), sD (dI (2 : Int)), sD (dI (2 : Int)), sD (dL (rows [[1, 0], [0, 1]])), sD (dI (2 : Int)), sD (dI (2 : Int)), sD (dL (rows [[1, 0], [0, 1]])), sD (dI (0 : Int)), sD (dI (0 : Int)), sD (dB false)]] (vD (dB true)) []) ∧
 (FnD prog 26 [vD (dI (2 : Int)), vD (dI (1 : Int)), vD (dL [[dI (4 : Int)], [dI (2 : Int)]])] (vA [sD (dI (2 : Int)), sD (dI (1 : Int)), sD (dL (rows [[4], [2]]))]) []) ∧
 (FnD prog 22 [vA [sD (dI (2 : Int)), sD (dI (1 : Int)), sD (dL (rows [[4], [2]]))], vA [sD (dI (2 : Int)), sD (dI (1 : Int)), sD (dL (rows [[4], [2]]))]] (vD (dB true)) []) ∧
 (FnD prog 26 [vD (dI (2 : Int)), vD (dI (1 : Int)), vD (dL [[dI (2 : Int)], [dI (4 : Int)]])] (vA [sD (dI (2 : Int)), sD (dI (1 : Int)), sD (dL (rows [[2], [4]]))]) []) ∧
 (FnD prog 22 [vA [sD (dI (2 : Int)), sD (dI (1 : Int)), sD (dL (rows [[2], [4]]))], vA [sD (dI (2 : Int)), sD (dI (1 : Int)), sD (dL (rows [[2], [4]]))]] (vD (dB true)) []) ∧
 (FnD prog 26 [vD (dI (2 : Int)), vD (dI (1 : Int)), vD (dL [[dI (2 : Int)], [dI (0 : Int)]])] (vA [sD (dI (2 : Int)), sD (dI (1 : Int)), sD (dL (rows [[2], [0]]))]) []) ∧
 (FnD prog 22 [vA [sD (dI (2 : Int)), sD (dI (1 : Int)), sD (dL (rows [[2], [0]]))], vA [sD (dI (2 : Int)), sD (dI (1 : Int)), sD (dL (rows [[2], [0]]))]] (vD (dB true)) []) ∧
 (FnD prog 21 [vA [sD (dI (2 : Int)), sD (dI (1 : Int)), sD (dL (matD (om [[4], [6]])))], vA [sD (dI (2 : Int)), sD (dI (1 : Int)), sD (dL (rows [[2], [0]])), sD (dI (2 : Int)), sD (dI (2 : Int)), sD (dL (rows [[-1, 1], [3, -2]])), sD (dI (2 : Int)), sD (dI (2 : Int)), sD (dL (rows [[2, 1], [3, 1]]))]] (vD (dB true)) []) ∧
 (FnD prog 15 [vA [sD (dI (2 : Int)), sD (dI (1 : Int)), sD (dL (matD (om [[4], [6]])))]] (vD (dI (4 : Int))) []) ∧
 (FnD prog 15 [vA [sD (dI (1 : Int)), sD (dI (0 : Int)), sD (dL [[dL ([] : DL)]])]] (vD (dI (0 : Int))) []) ∧
 (FnD prog 19 [vA [sD (dI (2 : Int)), sD (dI (1 : Int)), sD (dL (rows [[4], [6]])), sD (dI (2 : Int)), sD (dI (1 : Int)), sD (dL (rows [[2], [4]])), sD (dI (2 : Int)), sD (dI (2 : Int)), sD (dL (rows [[-1, 1], [1, 0]])), sD (dI (2 : Int)), sD (dI (2 : Int)), sD (dL (rows [[0, 1], [1, 1]])), sD (dI (0 : Int)), sD (dI (0 : Int)), sD (dB false)]] (vD (dB true)) []) ∧
 (FnD prog 19 [vA [sD (dI (0 : Int)), sD (dI (0 : Int)), sD (dL ([] : DL)), sD (dI (0 : Int)), sD (dI (0 : Int)), sD (dL ([] : DL)), sD (dI (0 : Int)), sD (dI (0 : Int)), sD (dL ([] : DL)), sD (dI (0 : Int)), sD (dI (0 : Int)), sD (dL ([] : DL)), sD (dI (1 : Int)), sD (dI (0 : Int)), sD (dB false)]] (vD (dB false)) []) ∧
 (FnD prog 19 [vA [sD (dI (0 : Int)), sD (dI (0 : Int)), sD (dL ([] : DL)), sD (dI (0 : Int)), sD (dI (0 : Int)), sD (dL ([] : DL)), sD (dI (0 : Int)), sD (dI (0 : Int)), sD (dL ([] : DL)), sD (dI (0 : Int)), sD (dI (0 : Int)), sD (dL ([] : DL)), sD (dI (0 : Int)), sD (dI (0 : Int)), sD (dB false)]] (vD (dB false)) []) ∧
 R (vD (dB (!false))) []
theorem vc8_ok {R : V → Heap → Prop} (h : vc8 R) : FnG prog 8 [] [] R :=
  FnG.vcg hT func8 ntmps8 (.r0 [] <| .reg 3 [(0, Or.frz, 0, 1), (1, Or.call (vA [sD (dI (2 : Int)), sD (dI (1 : Int)), S.ref 0]) [some (Obj.mat 2 (om [[4], [6]]))] [], 1, 1), (2, Or.none, 2, 1)] [1] [2, 1] [] <| .frz [1] <| .reg 1 [(1, Or.call (vA [sD (dI (2 : Int)), sD (dI (1 : Int)), sD (dL (rows [[4], [6]])), sD (dI (2 : Int)), sD (dI (1 : Int)), sD (dL (rows [[4], [6]])), sD (dI (2 : Int)), sD (dI (2 : Int)), sD (dL (rows [[1, 0], [0, 1]])), sD (dI (2 : Int)), sD (dI (2 : Int)), sD (dL (rows [[1, 0], [0, 1]])), sD (dI (0 : Int)), sD (dI (0 : Int)), sD (dB false)]) [] [], 0, 0), (2, Or.none, 2, 1)] [1, 2] [0, 2] [] <| .reg 1 [(1, Or.call (vA [sD (dI (2 : Int)), sD (dI (1 : Int)), sD (dL (rows [[4], [6]])), sD (dI (2 : Int)), sD (dI (1 : Int)), sD (dL (rows [[4], [2]])), sD (dI (2 : Int)), sD (dI (2 : Int)), sD (dL (rows [[1, 0], [-1, 1]])), sD (dI (2 : Int)), sD (dI (2 : Int)), sD (dL (rows [[1, 0], [1, 1]])), sD (dI (0 : Int)), sD (dI (0 : Int)), sD (dB false)]) [] [], 0, 0), (2, Or.none, 2, 1)] [1, 2, 3] [0, 1, 2] [] <| .reg 1 [(1, Or.call (vA [sD (dI (2 : Int)), sD (dI (1 : Int)), sD (dL (rows [[4], [6]])), sD (dI (2 : Int)), sD (dI (1 : Int)), sD (dL (rows [[2], [4]])), sD (dI (2 : Int)), sD (dI (2 : Int)), sD (dL (rows [[-1, 1], [1, 0]])), sD (dI (2 : Int)), sD (dI (2 : Int)), sD (dL (rows [[0, 1], [1, 1]])), sD (dI (0 : Int)), sD (dI (0 : Int)), sD (dB false)]) [] [], 0, 0), (2, Or.none, 3, 1)] [1, 2, 3, 4] [0, 1, 2, 3] [] <| .reg 1 [(1, Or.call (vA [sD (dI (2 : Int)), sD (dI (1 : Int)), sD (dL (rows [[4], [6]])), sD (dI (2 : Int)), sD (dI (1 : Int)), sD (dL (rows [[2], [0]])), sD (dI (2 : Int)), sD (dI (2 : Int)), sD (dL (rows [[-1, 1], [3, -2]])), sD (dI (2 : Int)), sD (dI (2 : Int)), sD (dL (rows [[2, 1], [3, 1]])), sD (dI (1 : Int)), sD (dI (1 : Int)), sD (dB true)]) [] [], 0, 0), (2, Or.none, 4, 1)] [1, 2, 3, 4, 5] [0, 1, 2, 3, 4] [] <| .reg 1 [(1, Or.call (V.tup [E.agg [sD (dI (0 : Int)), sD (dI (0 : Int)), sD (dL ([] : DL)), sD (dI (0 : Int)), sD (dI (0 : Int)), sD (dL ([] : DL)), sD (dI (0 : Int)), sD (dI (0 : Int)), sD (dL ([] : DL))], eD (dI (210 : Int))]) [] [], 0, 0), (5, Or.none, 5, 1)] [1, 2, 3, 4, 5, 7] [0, 1, 2, 3, 4] [] <| .reg 1 [(1, Or.call (V.tup [E.agg [sD (dI (2 : Int)), sD (dI (1 : Int)), sD (dL (rows [[2], [0]])), sD (dI (2 : Int)), sD (dI (2 : Int)), sD (dL (rows [[-1, 1], [3, -2]])), sD (dI (2 : Int)), sD (dI (2 : Int)), sD (dL (rows [[2, 1], [3, 1]]))], eD (dI (0 : Int))]) [] [], 0, 0), (5, Or.none, 5, 1)] [1, 2, 3, 4, 5, 7, 8, 9] [0, 1, 2, 3, 4, 5] [] <| .reg 1 [(1, Or.call (vA [sD (dI (0 : Int)), sD (dI (3 : Int)), sD (dL ([] : DL)), sD (dI (0 : Int)), sD (dI (3 : Int)), sD (dL ([] : DL)), sD (dI (0 : Int)), sD (dI (0 : Int)), sD (dL ([] : DL)), sD (dI (0 : Int)), sD (dI (0 : Int)), sD (dL ([] : DL)), sD (dI (0 : Int)), sD (dI (0 : Int)), sD (dB true)]) [] [], 0, 0), (2, Or.none, 6, 1)] [1, 2, 3, 4, 5, 7, 8, 9, 10] [0, 1, 2, 3, 4, 5, 6] [] <| .drw 5 [(2, (Or.call (vA [sD (dI (2 : Int)), sD (dI (1 : Int)), sD (dL (rows [[4], [6]])), sD (dI (2 : Int)), sD (dI (1 : Int)), sD (dL (rows [[4], [6]])), sD (dI (2 : Int)), sD (dI (2 : Int)), sD (dL (rows [[1, 0], [0, 1]])), sD (dI (2 : Int)), sD (dI (2 : Int)), sD (dL (rows [[1, 0], [0, 1]])), sD (dI (0 : Int)), sD (dI (0 : Int)), sD (dB false)]) [] [], 0, 0), []), (3, (Or.call (vD (dB true)) [] [], 0, 0), []), (12, (Or.frz, 7, 1), []), (13, (Or.call (vA [sD (dI (2 : Int)), sD (dI (1 : Int)), sD (dL (rows [[4], [2]]))]) [] [], 0, 0), []), (14, (Or.call (vD (dB true)) [] [], 0, 0), []), (19, (Or.frz, 8, 1), []), (20, (Or.call (vA [sD (dI (2 : Int)), sD (dI (1 : Int)), sD (dL (rows [[2], [4]]))]) [] [], 0, 0), []), (21, (Or.call (vD (dB true)) [] [], 0, 0), []), (26, (Or.frz, 9, 1), []), (27, (Or.call (vA [sD (dI (2 : Int)), sD (dI (1 : Int)), sD (dL (rows [[2], [0]]))]) [] [], 0, 0), []), (28, (Or.call (vD (dB true)) [] [], 0, 0), []), (45, (Or.call (vD (dB true)) [] [], 0, 0), []), (53, (Or.call (vD (dI (4 : Int))) [] [], 0, 0), []), (57, (Or.frz, 10, 1), []), (58, (Or.frz, 11, 1), []), (60, (Or.call (vD (dI (0 : Int))) [] [], 0, 0), []), (65, (Or.call (vD (dB true)) [] [], 0, 0), []), (69, (Or.call (vD (dB false)) [] [], 0, 0), []), (74, (Or.call (vD (dB false)) [] [], 0, 0), [])] [0] [] [] <| .ret [])
    (by kernel_rfl) (by kernel_rfl) (by kernel_rfl) h
end Go.AM
/- The law of steps against the reference; the fixed examples. -/
namespace Go.AM
open Go.Proofs.Tryz
theorem pxs {r c L : Nat} {A : List (List Int)} (hm : Mx r c A) (km : BdM 9 A) (big : (9 * qB r 9 c) * (9 * qB r 9 c) * 4294967296 < 4294967296 ^ L) (hL : L ≤ 1073741824) (hr : r ≤ 4) (hc : c ≤ 4) : PSx r c 9 L A :=
  ⟨hm, km, by decide, big, hL, by omega, by omega⟩
theorem pxs_small {r c : Nat} {A : List (List Int)} (hm : Mx r c A) (km : BdM 9 A) (hr : r ≤ 4) (hc : c ≤ 4) : PSx r c 9 1000 A := by
  refine pxs hm km ?_ (by decide) hr hc
  have h : ∀ r, r ≤ 4 → ∀ c, c ≤ 4 → (9 * qB r 9 c) * (9 * qB r 9 c) * 4294967296 < 4294967296 ^ 1000 := by decide +kernel
  exact h r hr c hc
theorem eS_eq {r c : Nat} {A : List (List Int)} {s : PS} {m u v : List (List Int)} {t k : Nat} {b : Bool}
    (h : apL r c s.d A = m ∧ apL r r s.d (idM r) = u ∧ apCL r s.d (idM r) = v ∧ s.t = t ∧ s.k = k ∧ s.fin r c = b) : eS r c A s = eP r c A m u v t k b := by
  obtain ⟨rfl, rfl, rfl, rfl, rfl, rfl⟩ := h
  rfl
theorem vx_of {r c K : Nat} {A m u v : List (List Int)} (h : (decide (A.length = r) && A.all (fun x => decide (x.length = c)) && (decide (m.length = r) && m.all (fun x => decide (x.length = c))) && (decide (u.length = r) && u.all (fun x => decide (x.length = r))) && (decide (v.length = r) && v.all (fun x => decide (x.length = r))) &&
    (A.all fun x => x.all fun z => decide (z.natAbs ≤ K)) && (m.all fun x => x.all fun z => decide (z.natAbs ≤ K)) && (u.all fun x => x.all fun z => decide (z.natAbs ≤ K)) && (v.all fun x => x.all fun z => decide (z.natAbs ≤ K))) = true) (hK : K ≤ 9) (hr : r ≤ 4) (hc : c ≤ 4) : VX r c K A m u v := by
  simp only [Bool.and_eq_true, decide_eq_true_eq, List.all_eq_true] at h
  obtain ⟨⟨⟨⟨⟨⟨⟨⟨a1, a2⟩, b1, b2⟩, c1, c2⟩, d1, d2⟩, e1⟩, e2⟩, e3⟩, e4⟩ := h
  refine ⟨⟨a1, a2⟩, ⟨b1, b2⟩, ⟨c1, c2⟩, ⟨d1, d2⟩, e1, e2, e3, e4, fun y hy => sz_of (Nat.le_trans hy ?_), by omega, by omega⟩
  exact Nat.le_trans (Nat.mul_le_mul_left _ (Nat.mul_le_mul hK hK)) (by decide)
theorem presult_no {r c : Nat} {A m u v : List (List Int)} {t k : Nat} {b : Bool} (h : finB r c t k = false) :
    FnD prog 20 [eP r c A m u v t k b] (V.tup [(E.agg [(sD (dI (0 : Int))), (sD (dI (0 : Int))), (sD (dL ([] : DL))), (sD (dI (0 : Int))), (sD (dI (0 : Int))), (sD (dL ([] : DL))), (sD (dI (0 : Int))), (sD (dI (0 : Int))), (sD (dL ([] : DL)))]), (eD (dI (210 : Int)))]) [] := by
  refine vc20_ok _ _ _ _ _ _ _ _ _ _ _ _ _ _ _ (R := Out _) ?_
  unfold vc20
  have := fin_ok (r := r) (c := c) (A := A) (m := m) (u := u) (v := v) (t := t) (k := k) (b := b)
  rw [h] at this
  exact ⟨_, this, fun _ => ⟨rfl, rfl⟩, fun h => absurd h (by decide)⟩
theorem presult_yes {r c : Nat} {A m u v : List (List Int)} {t k : Nat} {b : Bool} (h : finB r c t k = true) :
    FnD prog 20 [eP r c A m u v t k b] (V.tup [(E.agg [(sD (dI r)), (sD (dI c)), (sD (dL (rows m))), (sD (dI r)), (sD (dI r)), (sD (dL (rows u))), (sD (dI r)), (sD (dI r)), (sD (dL (rows v)))]), (eD (dI (0 : Int)))]) [] := by
  refine vc20_ok _ _ _ _ _ _ _ _ _ _ _ _ _ _ _ (R := Out _) ?_
  unfold vc20
  have := fin_ok (r := r) (c := c) (A := A) (m := m) (u := u) (v := v) (t := t) (k := k) (b := b)
  rw [h] at this
  exact ⟨_, this, fun h => absurd h (by decide), fun _ => ⟨rfl, rfl⟩⟩
def A46 : List (List Int) := [[4], [6]]
theorem sanity21_ok : FnD prog 8 [] (vb true) [] := by
  refine vc8_ok (R := Out _) ?_
  unfold vc8
  have hA : Mx 2 1 A46 := ⟨by decide, by decide⟩
  have kA : BdM 9 A46 := by unfold BdM BdR; decide
  have X : PSx 2 1 9 1000 A46 := pxs_small hA kA (by decide) (by decide)
  have i0 := PInv.start hA kA
  have e0 : eS 2 1 A46 ⟨[], 0, 0⟩ = eP 2 1 [[4], [6]] [[4], [6]] [[1, 0], [0, 1]] [[1, 0], [0, 1]] 0 0 false := eS_eq (by decide +kernel)
  have e1 : eS 2 1 A46 (PS.run 2 1 A46 1 ⟨[], 0, 0⟩) = eP 2 1 [[4], [6]] [[4], [2]] [[1, 0], [-1, 1]] [[1, 0], [1, 1]] 0 0 false := eS_eq (by decide +kernel)
  have e2 : eS 2 1 A46 (PS.run 2 1 A46 1 (PS.run 2 1 A46 1 ⟨[], 0, 0⟩)) = eP 2 1 [[4], [6]] [[2], [4]] [[-1, 1], [1, 0]] [[0, 1], [1, 1]] 0 0 false := eS_eq (by decide +kernel)
  have e3 : eS 2 1 A46 (PS.run 2 1 A46 100 (PS.run 2 1 A46 1 (PS.run 2 1 A46 1 ⟨[], 0, 0⟩))) = eP 2 1 [[4], [6]] [[2], [0]] [[-1, 1], [3, -2]] [[2, 1], [3, 1]] 1 1 true := eS_eq (by decide +kernel)
  have i1 := PInv.run hA kA 1 i0
  have i2 := PInv.run hA kA 1 i1
  have s1 := pstep_ok X i0 (n0 := 1) (by decide)
  have s2 := pstep_ok X i1 (n0 := 1) (by decide)
  have s3 := pstep_ok X i2 (n0 := 100) (by decide)
  rw [show (1 : Int).toNat = 1 from rfl, e0, e1] at s1
  rw [show (1 : Int).toNat = 1 from rfl, e1, e2] at s2
  rw [show (100 : Int).toNat = 100 from rfl, e2, e3] at s3
  have p0 := pstart_ok X
  have q0 := rstart_ok X
  rw [e0] at p0 q0
  have hZ : Mx 0 3 [] := ⟨rfl, fun _ h => by simp at h⟩
  have kZ : BdM 9 [] := fun _ h => by simp at h
  have z0 := pstart_ok (pxs_small hZ kZ (by decide) (by decide))
  have eZ : eS 0 3 [] ⟨[], 0, 0⟩ = eP 0 3 [] [] [] [] 0 0 true := eS_eq (by decide +kernel)
  rw [eZ] at z0
  have V0 : VX 2 1 9 [[4], [6]] [[4], [6]] [[1, 0], [0, 1]] [[1, 0], [0, 1]] := vx_of (by decide +kernel) (by decide) (by decide) (by decide)
  have V2 : VX 2 1 9 [[4], [6]] [[2], [4]] [[-1, 1], [1, 0]] [[0, 1], [1, 1]] := vx_of (by decide +kernel) (by decide) (by decide) (by decide)
  have V3 : VX 2 1 9 [[4], [6]] [[2], [0]] [[-1, 1], [3, -2]] [[2, 1], [3, 1]] := vx_of (by decide +kernel) (by decide) (by decide) (by decide)
  have VZ : VX 0 0 9 [] [] [] [] := vx_of (by decide +kernel) (by decide) (by decide) (by decide)
  have sz : ∀ {m : List (List Int)}, BdM 9 m → SzM m := fun h => h.sz (by decide)
  have d0 := psame_ok (t := 0) (k := 0) (b := false) V0.hA V0.hm V0.hu V0.hv (sz V0.kA) (sz V0.km) (sz V0.ku) (sz V0.kv) (by decide) (by decide)
  have ints : ∀ {v : List Int} {m : List (List Int)}, table 2 1 (fillF 1 v) = m → (∀ z ∈ v, -9223372036854775808 ≤ z ∧ z ≤ 9223372036854775807) → FnD prog 26 [vi 2, vi 1, vs (ints v)] (eM 2 1 m) [] := fun h hv => FnD.frz (h ▸ rints_ok (r := 2) (c := 1) (by decide) (by decide) hv)
  have intso : FnD prog 26 [vi 2, vi 1, vs (Go.AM.ints [4, 6])] (eMo 2 1) (oM [[4], [6]]) := (show table 2 1 (fillF 1 [4, 6]) = [[4], [6]] by decide +kernel) ▸ rints_ok (r := 2) (c := 1) (by decide) (by decide) (by decide)
  have same : ∀ {m : List (List Int)}, Mx 2 1 m → BdM 9 m → FnD prog 22 [eM 2 1 m, eM 2 1 m] (vb true) [] := fun h k => same_yes h k k rfl (by decide) (by decide) (by decide)
  have ck := rcheck_ok V3
  rw [show (isHB 2 1 [[2], [0]] && (decide (mmul 2 2 1 [[-1, 1], [3, -2]] [[4], [6]] = [[2], [0]]) && decide (mmul 2 2 2 [[-1, 1], [3, -2]] [[2, 1], [3, 1]] = idM 2))) = true by decide +kernel] at ck
  have cost : FnD prog 15 [eM 2 1 A46] (vi (4 : Nat)) [] := pcost_ok X (T := 4) ⟨by decide +kernel, by decide +kernel⟩ (by decide)
  have hO : Mx 1 0 [[]] := ⟨by decide, by decide⟩
  have kO : BdM 9 [[]] := by unfold BdM BdR; decide
  have cost0 : FnD prog 15 [eM 1 0 [[]]] (vi (0 : Nat)) [] := pcost_ok (pxs_small hO kO (by decide) (by decide)) (T := 0) ⟨by decide +kernel, by decide +kernel⟩ (by decide)
  have w2 := pvalid_ok V2 0 0 false
  rw [show validI 2 1 [[4], [6]] [[2], [4]] [[-1, 1], [1, 0]] [[0, 1], [1, 1]] 0 0 false = true by decide +kernel] at w2
  have wa := pvalid_ok VZ 1 0 false
  rw [show validI 0 0 [] [] [] [] 1 0 false = false by decide +kernel] at wa
  have wb := pvalid_ok VZ 0 0 false
  rw [show validI 0 0 [] [] [] [] 0 0 false = false by decide +kernel] at wb
  have n1 : FnD prog 26 [vi 2, vi 1, vs (Go.AM.ints [4, 2])] (eM 2 1 [[4], [2]]) [] := ints (by decide +kernel) (by decide)
  have n2 : FnD prog 26 [vi 2, vi 1, vs (Go.AM.ints [2, 4])] (eM 2 1 [[2], [4]]) [] := ints (by decide +kernel) (by decide)
  have n3 : FnD prog 26 [vi 2, vi 1, vs (Go.AM.ints [2, 0])] (eM 2 1 [[2], [0]]) [] := ints (by decide +kernel) (by decide)
  exact ⟨intso, p0, s1, s2, s3, presult_no (by decide), presult_yes (by decide), z0, q0, d0, n1, same ⟨by decide, by decide⟩ (by unfold BdM BdR; decide),
    n2, same ⟨by decide, by decide⟩ (by unfold BdM BdR; decide), n3, same ⟨by decide, by decide⟩ (by unfold BdM BdR; decide), ck, cost, cost0, w2, wa, wb, rfl, rfl⟩
end Go.AM
/- Hermite normal forms in small steps, in plain Lean: what holds of the matrices at every step. -/
namespace Go.AM
theorem opF_delta {n : Nat} {o : Opz} (h : vO n o = true) {b : Nat} (hb : b < n) : ∃ (b' : Nat) (s w : Int), b' < n ∧ (∀ k, opF (inO o) delta k b = s * delta k b' + w * delta k o.i) ∧ ∀ (f : Nat → Nat → Int) a, colF o f a b = s * f a b' + w * f a o.i := by
  obtain ⟨hi, hcase⟩ := vO_ok h
  unfold opF colF inO delta
  rcases hcase with ⟨hk, _, _⟩ | ⟨hk, hj, hne, _⟩ | ⟨hk, hj, hne⟩
  · refine ⟨b, if b = o.i then -1 else 1, 0, hb, fun k => ?_, fun f a => ?_⟩
    · simp only [hk]
      by_cases h1 : k = o.i <;> by_cases h2 : b = o.i <;> by_cases h3 : k = b <;> simp [h1, h2, h3] <;> omega
    · simp only [hk]
      by_cases h2 : b = o.i <;> simp [h2]
  · refine ⟨if b = o.i then o.j else if b = o.j then o.i else b, 1, 0, by split <;> (try split) <;> omega, fun k => ?_, fun f a => ?_⟩
    · simp only [hk, if_true]
      repeat' split
      all_goals omega
    · simp only [hk, if_true]
      by_cases h3 : b = o.i
      · simp [h3]
      · by_cases h4 : b = o.j
        · simp [h4, Ne.symm hne]
        · simp [h3, h4]
  · refine ⟨b, 1, if b = o.j then -o.z else 0, hb, fun k => ?_, fun f a => ?_⟩
    · simp only [hk]
      by_cases h1 : k = o.i <;> by_cases h2 : b = o.j <;> simp [h1, h2, Ne.symm] 
      all_goals (try (by_cases h3 : o.j = b <;> simp [h3] <;> omega))
    · simp only [hk]
      by_cases h2 : b = o.j <;> simp [h2, Int.neg_mul, Int.sub_eq_add_neg]
theorem apC_mmul {n : Nat} {o : Opz} {m : List (List Int)} (h : vO n o = true) : apC n o m = mmul n n n m (apO n n (inO o) (table n n delta)) := by
  refine mx_ext (apC_mx _ _ _) (mmul_mx _ _ _ _ _) fun a b ha hb => ?_
  obtain ⟨b', s, w, hb', e1, e2⟩ := opF_delta h hb
  obtain ⟨hi, _⟩ := vO_ok h
  rw [show apC n o m = table n n (colF o (el m)) from rfl, el_table ha hb, e2, el_mmul ha hb]
  rw [sm_congr (g := fun k => s * (el m a k * delta k b') + w * (el m a k * delta k o.i)) n fun k hk => by
    rw [el_apO hk hb, opF_congr (g := delta) (by rw [vO_inO]; exact h) hk fun a' ha' => el_table ha' hb, e1, Int.mul_add]
    rw [Int.mul_left_comm, Int.mul_left_comm (el m a k) w]]
  rw [sm_add, sm_mul, sm_mul, ← dsum_sm, ← dsum_sm, dsum_delta_right _ hb', dsum_delta_right _ hi]
theorem uv_one {n : Nat} {o : Opz} {u v : List (List Int)} (h : vO n o = true) (e : mmul n n n u v = table n n delta) : mmul n n n (apO n n o u) (apC n o v) = table n n delta := by
  rw [← apO_mmul h, apC_mmul h, ← mmul_assoc, e, ident_mmul (apO_mx _ _ _ _)]
  have := apO_inv (o := inO o) (m := table n n delta) (by rw [vO_inO]; exact h) (table_mx n n delta)
  rwa [inO_inO] at this
theorem uv_all {n : Nat} : ∀ (d : List Opz) {u v : List (List Int)}, (∀ o ∈ d, vO n o = true) → mmul n n n u v = table n n delta → mmul n n n (apL n n d u) (apCL n d v) = table n n delta
  | [], _, _, _, e => e
  | o :: d, _, _, h, e => uv_all d (fun o' ho' => h o' (by simp [ho'])) (uv_one (h o (by simp)) e)
theorem uv_id {n : Nat} {d : List Opz} (h : ∀ o ∈ d, vO n o = true) : mmul n n n (apL n n d (table n n delta)) (apCL n d (table n n delta)) = table n n delta :=
  uv_all d h (ident_mmul (table_mx _ _ _))
structure HI (r t k : Nat) (m : List (List Int)) : Prop where
  ze : ∀ i, t ≤ i → i < r → ∀ j, j < k → el m i j = 0
  pv : ∃ p : Nat → Nat, ∀ i, i < t → p i < k ∧ (∀ j, j < p i → el m i j = 0) ∧ 0 < el m i (p i) ∧ ∀ l, l < i → p l < p i ∧ 0 ≤ el m l (p i) ∧ el m l (p i) < el m i (p i)
theorem HI.zero {r : Nat} {m : List (List Int)} : HI r 0 0 m := ⟨fun _ _ _ _ h => by omega, fun _ => 0, fun _ h => by omega⟩
theorem HI.same {r t k : Nat} {m m' : List (List Int)} (h : HI r t k m) (hz : ∀ i, t ≤ i → i < r → ∀ j, j < k → el m' i j = 0) (ht : t ≤ r) (he : ∀ i, i < t → ∀ j, j < k → el m' i j = el m i j) : HI r t k m' := by
  obtain ⟨p, hp⟩ := h.pv
  refine ⟨hz, p, fun i hi => ?_⟩
  obtain ⟨h1, h2, h3, h4⟩ := hp i hi
  refine ⟨h1, fun j hj => by rw [he i hi j (by omega)]; exact h2 j hj, by rw [he i hi _ h1]; exact h3, fun l hl => ?_⟩
  rw [he i hi _ h1, he l (by omega) _ h1]
  exact h4 l hl
theorem HI.next {r cc : Nat} {a : List (List Int)} {s : PS} (h : HI r s.t s.k (apL r cc s.d a)) (ht : s.t < r) (hk : s.k < cc) : HI r (s.next r cc a).t (s.next r cc a).k (apL r cc (s.next r cc a).d a) := by
  have hn := nx_ok (cc := cc) (a := a) ht
  obtain ⟨m, em⟩ : ∃ m, m = apL r cc s.d a := ⟨_, rfl⟩
  generalize s.next r cc a = s' at hn ⊢
  cases hn with
  | skip h1 hz =>
    simp only at *
    rw [← em] at h hz ⊢
    obtain ⟨p, hp⟩ := h.pv
    refine ⟨fun i h2 h3 j hj => ?_, p, fun i hi => ?_⟩
    · by_cases hjk : j = s.k
      · rw [hjk]; exact hz i h2 h3
      · exact h.ze i h2 h3 j (by omega)
    · obtain ⟨g1, g2⟩ := hp i hi
      exact ⟨by omega, g2⟩
  | swap q h0 h1 h2 h3 h4 =>
    simp only at *
    rw [apL_snoc, ← em]
    rw [← em] at h
    have e : ∀ i, i < r → ∀ j, j < s.k → el (apO r cc (swapO q s.t) m) i j = if i = q then el m s.t j else if i = s.t then el m q j else el m i j := fun i hi j hj => el_swap hi (by omega)
    refine h.same (fun i g1 g2 j hj => ?_) (by omega) fun i hi j hj => ?_
    · rw [e i g2 j hj]
      split
      · exact h.ze _ (Nat.le_refl _) ht j hj
      · split
        · exact h.ze q (by omega) h2 j hj
        · exact h.ze i g1 g2 j hj
    · rw [e i (by omega) j hj, if_neg (by omega), if_neg (by omega)]
  | neg h0 h1 h4 =>
    simp only at *
    rw [apL_snoc, ← em]
    rw [← em] at h
    have e : ∀ i, i < r → ∀ j, j < s.k → el (apO r cc (negO s.t) m) i j = if i = s.t then - el m i j else el m i j := fun i hi j hj => by rw [el_apO hi (by omega)]; simp [opF]
    refine h.same (fun i g1 g2 j hj => ?_) (by omega) fun i hi j hj => ?_
    · rw [e i g2 j hj, h.ze i g1 g2 j hj]; split <;> rfl
    · rw [e i (by omega) j hj, if_neg (by omega)]
  | add i0 h0 hp h4 ho hi0 hne hq =>
    simp only at *
    rw [apL_snoc, ← em]
    rw [← em] at h
    have e : ∀ z : Int, ∀ i, i < r → ∀ j, j < s.k → el (apO r cc (addO i0 s.t z) m) i j = el m i j := fun z i hi j hj => by
      rw [el_add hi (by omega), h.ze s.t (Nat.le_refl _) ht j hj, Int.mul_zero, Int.add_zero]
      split <;> rfl
    exact h.same (fun i g1 g2 j hj => by rw [e _ i g2 j hj]; exact h.ze i g1 g2 j hj) (by omega) fun i hi j hj => e _ i (by omega) j hj
  | adv h0 hp ho hz =>
    simp only at *
    have hl : ∀ i, s.t ≤ i → i < r → el (apL r cc s.d a) i s.k ≠ 0 → (el (apL r cc s.d a) s.t s.k).natAbs ≤ (el (apL r cc s.d a) i s.k).natAbs := by
      rcases lsF_ok (m := apL r cc s.d a) (c := s.k) (top := s.t) (r - s.t) with ⟨h1, h2⟩ | ⟨p, h1, h2, h3, h4, h5⟩
      · rw [h1] at h0; omega
      · have : p = s.t := by rw [h1] at h0; omega
        subst this
        exact fun i g1 g2 g3 => h5 i g1 (by omega) g3
    rw [← em] at h hp hz hl ⊢
    have hd : ∀ i, i < r → i ≠ s.t → 0 ≤ el m i s.k ∧ el m i s.k < el m s.t s.k := fun i h1 h2 => by
      have h3 := hz i h1 h2
      have h4 := Int.emod_add_mul_ediv (el m i s.k) (el m s.t s.k)
      rw [h3, Int.mul_zero] at h4
      have h5 := Int.emod_nonneg (el m i s.k) (show el m s.t s.k ≠ 0 by omega)
      have h6 := Int.emod_lt_of_pos (el m i s.k) hp
      omega
    obtain ⟨p, hpv⟩ := h.pv
    refine ⟨fun i h2 h3 j hj => ?_, fun i => if i = s.t then s.k else p i, fun i hi => ?_⟩
    · by_cases hjk : j = s.k
      · rw [hjk]
        apply Classical.byContradiction
        intro hne
        have g1 := hl i (by omega) h3 hne
        have g2 := hd i h3 (by omega)
        omega
      · exact h.ze i (by omega) h3 j (by omega)
    · by_cases hit : i = s.t
      · subst hit
        simp only [if_true]
        refine ⟨by omega, fun j hj => h.ze _ (Nat.le_refl _) ht j hj, hp, fun l hl2 => ?_⟩
        rw [if_neg (by omega)]
        exact ⟨(hpv l hl2).1, hd l (by omega) (by omega)⟩
      · simp only [if_neg hit]
        obtain ⟨g1, g2, g3, g4⟩ := hpv i (by omega)
        refine ⟨by omega, g2, g3, fun l hl2 => ?_⟩
        rw [if_neg (by omega)]
        exact g4 l hl2
theorem HI.run {r cc : Nat} {a : List (List Int)} : ∀ (n : Nat) {s : PS}, HI r s.t s.k (apL r cc s.d a) → HI r (s.run r cc a n).t (s.run r cc a n).k (apL r cc (s.run r cc a n).d a)
  | 0, _, h => h
  | n + 1, s, h => by
    simp only [PS.run]
    split
    · exact h
    · rename_i hf
      simp only [PS.fin, Bool.or_eq_true, decide_eq_true_eq, not_or] at hf
      exact HI.run n (h.next (by omega) (by omega))
end Go.AM
/- Package step: every state of the run is valid; the laws of validity and of resuming. -/
namespace Go.AM
open Go.Proofs.Tryz
theorem piv_is {w : List Int} {p : Nat} (hp : p < w.length) (hz : ∀ j, j < p → elr w j = 0) (hn : elr w p ≠ 0) : piv w = (p : Int) := by
  rcases piv_cases w with ⟨_, h⟩ | ⟨q, h1, h2, h3, h4⟩
  · exact absurd (h p hp) hn
  · rcases Nat.lt_trichotomy q p with g | g | g
    · exact absurd (hz q g) h3
    · rw [h1, g]
    · exact absurd (h4 p g) hn
section
variable {r c N L : Nat} {A : List (List Int)} (X : PSx r c N L A)
include X
theorem PSx.vx {s : PS} (h : PInv r c N A s) : VX r c (N * qB r N c) A (apL r c s.d A) (apL r r s.d (idM r)) (apCL r s.d (idM r)) := by
  obtain ⟨b1, b2, b3⟩ := X.bds h
  refine ⟨X.hm, apL_mx _ X.hm, apL_mx _ (table_mx _ _ _), apCL_mx _ (table_mx _ _ _), X.km.mono (Nat.le_mul_of_pos_right _ (qB_pos _ _ _)), b1, b2, b3, fun y hy => ?_, X.hr, X.hc⟩
  refine Sz.of_lt L X.hL (Nat.lt_of_le_of_lt hy ?_)
  rw [Nat.mul_comm]; exact X.big
end
theorem hi_run {r c : Nat} {a : List (List Int)} (n : Nat) : HI r (PS.run r c a n ⟨[], 0, 0⟩).t (PS.run r c a n ⟨[], 0, 0⟩).k (apL r c (PS.run r c a n ⟨[], 0, 0⟩).d a) :=
  HI.run n (s := ⟨[], 0, 0⟩) HI.zero
end Go.AM
/- Hermite normal forms, in plain Lean: two of one lattice are equal. -/
namespace Go.AM
structure HF (r t c : Nat) (h : Nat → Nat → Int) (p : Nat → Nat) : Prop where
  tr : t ≤ r
  ze : ∀ i, t ≤ i → i < r → ∀ j, j < c → h i j = 0
  pv : ∀ i, i < t → p i < c ∧ (∀ j, j < p i → h i j = 0) ∧ 0 < h i (p i) ∧ ∀ l, l < i → p l < p i ∧ 0 ≤ h l (p i) ∧ h l (p i) < h i (p i)
section
variable {r t c : Nat} {h : Nat → Nat → Int} {p : Nat → Nat} (F : HF r t c h p)
include F
theorem HF.lt {i l : Nat} (hl : l < i) (hi : i < t) : p l < p i := ((F.pv i hi).2.2.2 l hl).1
theorem HF.le {i l : Nat} (hl : l ≤ i) (hi : i < t) : p l ≤ p i := by
  rcases Nat.lt_or_eq_of_le hl with h1 | h1
  · exact Nat.le_of_lt (F.lt h1 hi)
  · rw [h1]; exact Nat.le_refl _
theorem HF.inj {i l : Nat} (hi : i < t) (hl : l < t) (e : p i = p l) : i = l := by
  rcases Nat.lt_trichotomy i l with h1 | h1 | h1
  · have := F.lt h1 hl; omega
  · exact h1
  · have := F.lt h1 hi; omega
theorem HF.below {i l : Nat} (hi : i < t) (hl : i < l) (hr : l < r) : h l (p i) = 0 := by
  by_cases hlt : l < t
  · exact (F.pv l hlt).2.1 _ (F.lt hl hlt)
  · exact F.ze l (by omega) hr _ (F.pv i hi).1
def comb (x : Nat → Int) (h : Nat → Nat → Int) (r j : Nat) : Int := sm (fun i => x i * h i j) r
omit F in
theorem comb_one {x : Nat → Int} {i j : Nat} (hi : i < r) (hz : ∀ l, l < r → l ≠ i → x l * h l j = 0) : comb x h r j = x i * h i j := by
  unfold comb
  rw [← sm_one (fun l => x l * h l j) i r hi]
  exact sm_congr r fun l hl => by
    by_cases e : l = i
    · rw [if_pos e]
    · rw [if_neg e]; exact hz l hl e
theorem HF.coef {x : Nat → Int} {q : Nat} (hq : ∀ k, k < q → comb x h r k = 0) : ∀ n i, i < n → i < t → p i < q → x i = 0
  | 0, _, hn, _, _ => by omega
  | n + 1, i, hn, hi, hp => by
    have tr := F.tr
    have e := hq (p i) hp
    rw [comb_one (i := i) (by omega) fun l hl hne => by
      by_cases h1 : l < i
      · rw [HF.coef hq n l (by omega) (by omega) (by have := F.lt h1 hi; omega), Int.zero_mul]
      · rw [F.below hi (by omega) hl, Int.mul_zero]] at e
    rcases Int.mul_eq_zero.1 e with h1 | h1
    · exact h1
    · have := (F.pv i hi).2.2.1; omega
theorem HF.first {x : Nat → Int} {q : Nat} (hq : ∀ k, k < q → comb x h r k = 0) (hc : q < c) : (∃ i, i < t ∧ p i = q ∧ comb x h r q = x i * h i q) ∨ ((∀ i, i < t → p i ≠ q) ∧ comb x h r q = 0) := by
  have tr := F.tr
  have hz : ∀ l, l < r → (∀ (_ : l < t), p l ≠ q) → x l * h l q = 0 := fun l hl hne => by
    by_cases hlt : l < t
    · have := hne hlt
      by_cases h1 : p l < q
      · rw [F.coef hq (l + 1) l (by omega) hlt h1, Int.zero_mul]
      · rw [(F.pv l hlt).2.1 q (by omega), Int.mul_zero]
    · rw [F.ze l (by omega) hl q hc, Int.mul_zero]
  by_cases he : ∃ i, i < t ∧ p i = q
  · obtain ⟨i, hi, hp⟩ := he
    exact .inl ⟨i, hi, hp, comb_one (by omega) fun l hl hne => hz l hl fun hlt e => hne (F.inj hlt hi (by omega))⟩
  · refine .inr ⟨fun i hi e => he ⟨i, hi, e⟩, ?_⟩
    unfold comb
    rw [sm_congr (g := fun _ => 0) r fun l hl => hz l hl fun hlt e => he ⟨l, hlt, e⟩, sm_zero]
end
theorem HF.pivot {r t1 t2 c : Nat} {h1 h2 : Nat → Nat → Int} {p1 p2 : Nat → Nat} (F1 : HF r t1 c h1 p1) (F2 : HF r t2 c h2 p2) {W : Nat → Nat → Int} (hW : ∀ i, i < r → ∀ j, j < c → h1 i j = comb (W i) h2 r j)
    {i : Nat} (hi : i < t1) : ∃ j, j < t2 ∧ p2 j = p1 i ∧ h2 j (p2 j) ∣ h1 i (p1 i) := by
  obtain ⟨g1, g2, g3, _⟩ := F1.pv i hi
  have tr := F1.tr
  rcases F2.first (x := W i) (q := p1 i) (fun k hk => by rw [← hW i (by omega) k (by omega)]; exact g2 k hk) g1 with ⟨j, a1, a2, a3⟩ | ⟨_, a3⟩
  · refine ⟨j, a1, a2, ⟨W i j, ?_⟩⟩
    rw [hW i (by omega) _ g1, a3, a2, Int.mul_comm]
  · rw [← hW i (by omega) _ g1] at a3; omega
theorem HF.cols {r t1 t2 c : Nat} {h1 h2 : Nat → Nat → Int} {p1 p2 : Nat → Nat} (F1 : HF r t1 c h1 p1) (F2 : HF r t2 c h2 p2) {W W' : Nat → Nat → Int} (hW : ∀ i, i < r → ∀ j, j < c → h1 i j = comb (W i) h2 r j) (hW' : ∀ i, i < r → ∀ j, j < c → h2 i j = comb (W' i) h1 r j) :
    ∀ n i, i < n → i < t1 → i < t2 ∧ p1 i = p2 i
  | 0, _, hn, _ => by omega
  | n + 1, i, hn, hi => by
    have ih : ∀ l, l < i → l < t2 ∧ p1 l = p2 l := fun l hl => HF.cols F1 F2 hW hW' n l (by omega) (by omega)
    obtain ⟨j, a1, a2, _⟩ := F1.pivot F2 hW hi
    have hij : i ≤ j := by
      apply Classical.byContradiction
      intro hn
      have := (ih j (by omega)).2
      have := F1.lt (show j < i by omega) hi
      omega
    have hi2 : i < t2 := by omega
    obtain ⟨j', b1, b2, _⟩ := F2.pivot F1 hW' hi2
    have hij' : i ≤ j' := by
      apply Classical.byContradiction
      intro hn
      have := (ih j' (by omega)).2
      have := F2.lt (show j' < i by omega) hi2
      omega
    have m1 := F1.le hij' b1
    have m2 := F2.le hij a1
    exact ⟨hi2, by omega⟩
theorem HF.unique {r t1 t2 c : Nat} {h1 h2 : Nat → Nat → Int} {p1 p2 : Nat → Nat} (F1 : HF r t1 c h1 p1) (F2 : HF r t2 c h2 p2) {W W' : Nat → Nat → Int} (hW : ∀ i, i < r → ∀ j, j < c → h1 i j = comb (W i) h2 r j) (hW' : ∀ i, i < r → ∀ j, j < c → h2 i j = comb (W' i) h1 r j) :
    ∀ i, i < r → ∀ j, j < c → h1 i j = h2 i j := by
  have c1 : ∀ i, i < t1 → i < t2 ∧ p1 i = p2 i := fun i hi => HF.cols F1 F2 hW hW' (i + 1) i (by omega) hi
  have c2 : ∀ i, i < t2 → i < t1 ∧ p2 i = p1 i := fun i hi => HF.cols F2 F1 hW' hW (i + 1) i (by omega) hi
  have hd : ∀ i, i < t1 → h1 i (p1 i) = h2 i (p1 i) := fun i hi => by
    obtain ⟨hi2, ep⟩ := c1 i hi
    obtain ⟨j, a1, a2, a3⟩ := F1.pivot F2 hW hi
    obtain ⟨j', b1, b2, b3⟩ := F2.pivot F1 hW' hi2
    have e1 : j = i := F2.inj a1 hi2 (by omega)
    have e2 : j' = i := F1.inj b1 hi (by omega)
    subst e1; subst e2
    have q1 := (F1.pv j' hi).2.2.1
    have q2 := (F2.pv j' hi2).2.2.1
    rw [← ep] at a3 b3 q2
    exact Int.dvd_antisymm (by omega) (by omega) b3 a3
  intro i hi
  by_cases hit : i < t1
  · have tr := F1.tr
    have hx : ∀ j, j < c → comb (fun l => W i l + (if l = i then -1 else 0)) h2 r j = h1 i j - h2 i j := fun j hj => by
      unfold comb
      rw [sm_congr (g := fun l => W i l * h2 l j + (if l = i then -1 * h2 l j else 0)) r fun l hl => by
        rw [Int.add_mul]; split
        · rfl
        · rw [Int.zero_mul]]
      rw [sm_add, sm_one (fun l => -1 * h2 l j) i r hi, hW i hi j hj]
      unfold comb; omega
    have key : ∀ n q, q < n → q < c → h1 i q - h2 i q = 0 := by
      intro n
      induction n with
      | zero => intro q hq; omega
      | succ n ih =>
        intro q hq hc
        have h0 : ∀ k, k < q → comb (fun l => W i l + (if l = i then -1 else 0)) h2 r k = 0 := fun k hk => by rw [hx k (by omega)]; exact ih k (by omega) (by omega)
        rcases F2.first h0 hc with ⟨l, a1, a2, a3⟩ | ⟨_, a3⟩
        · rw [hx q hc] at a3
          obtain ⟨hl1, hp⟩ := c2 l a1
          obtain ⟨hi2, hpi⟩ := c1 i hit
          rcases Nat.lt_trichotomy l i with g | g | g
          · rw [(F1.pv i hit).2.1 q (by have := F1.lt g hit; omega), (F2.pv i hi2).2.1 q (by have := F2.lt g hi2; omega)]; rfl
          · subst g
            have := hd l hit
            rw [show q = p1 l by omega]; omega
          · have b1 := (F1.pv l hl1).2.2.2 i g
            have b2 := (F2.pv l a1).2.2.2 i g
            have b3 := hd l hl1
            have b4 := (F2.pv l a1).2.2.1
            rw [show p1 l = q by omega] at b1 b3
            rw [a2] at b2 b4
            have hlt : (h1 i q - h2 i q).natAbs < (h2 l q).natAbs := by omega
            rw [a3, Int.natAbs_mul] at hlt
            by_cases hz : W i l + (if l = i then -1 else 0) = 0
            · rw [a3, hz, Int.zero_mul]
            · have : 1 ≤ (W i l + (if l = i then -1 else 0)).natAbs := by omega
              have := Nat.mul_le_mul_right (h2 l q).natAbs this
              omega
        · rw [hx q hc] at a3; exact a3
    intro j hj
    have := key (j + 1) j (by omega) hj
    omega
  · intro j hj
    rw [F1.ze i (by omega) hi j hj, F2.ze i (by
      apply Classical.byContradiction
      intro hn
      exact hit (c2 i (by omega)).1) hi j hj]
end Go.AM
/- torsionref12.Form, in plain Lean: what its operations lead to is a normal form. -/
namespace Go.AM
theorem HI.skip {r t k : Nat} {m : List (List Int)} (h : HI r t k m) (hz : ∀ i, t ≤ i → i < r → el m i k = 0) : HI r t (k + 1) m := by
  obtain ⟨p, hp⟩ := h.pv
  refine ⟨fun i h2 h3 j hj => ?_, p, fun i hi => ?_⟩
  · by_cases hjk : j = k
    · rw [hjk]; exact hz i h2 h3
    · exact h.ze i h2 h3 j (by omega)
  · obtain ⟨g1, g2⟩ := hp i hi
    exact ⟨by omega, g2⟩
theorem HI.adv {r t k : Nat} {m : List (List Int)} (h : HI r t k m) (ht : t < r) (hp : 0 < el m t k) (hd : ∀ i, i < t → 0 ≤ el m i k ∧ el m i k < el m t k) (hz : ∀ i, t < i → i < r → el m i k = 0) : HI r (t + 1) (k + 1) m := by
  obtain ⟨p, hpv⟩ := h.pv
  refine ⟨fun i h2 h3 j hj => ?_, fun i => if i = t then k else p i, fun i hi => ?_⟩
  · by_cases hjk : j = k
    · rw [hjk]; exact hz i (by omega) h3
    · exact h.ze i (by omega) h3 j (by omega)
  · by_cases hit : i = t
    · subst hit
      simp only [if_true]
      refine ⟨by omega, fun j hj => h.ze _ (Nat.le_refl _) ht j hj, hp, fun l hl2 => ?_⟩
      rw [if_neg (by omega)]
      exact ⟨(hpv l hl2).1, hd l hl2⟩
    · simp only [if_neg hit]
      obtain ⟨g1, g2, g3, g4⟩ := hpv i (by omega)
      refine ⟨by omega, g2, g3, fun l hl2 => ?_⟩
      rw [if_neg (by omega)]
      exact g4 l hl2
theorem HI.neg {r cc t k : Nat} {m : List (List Int)} (h : HI r t k m) (ht : t < r) (hk : k ≤ cc) : HI r t k (apO r cc (negO t) m) := by
  have e : ∀ i, i < r → ∀ j, j < k → el (apO r cc (negO t) m) i j = if i = t then - el m i j else el m i j := fun i hi j hj => by rw [el_apO hi (by omega)]; simp [opF]
  refine h.same (fun i g1 g2 j hj => ?_) (by omega) fun i hi j hj => ?_
  · rw [e i g2 j hj, h.ze i g1 g2 j hj]; split <;> rfl
  · rw [e i (by omega) j hj, if_neg (by omega)]
theorem colB_some {r c : Nat} {m : List (List Int)} : ∃ A, ColB r c A m := by
  refine ⟨(List.range r).foldl (fun k a => k + (el m a c).natAbs) 0, fun a ha => ?_⟩
  have : ∀ (l2 : List Nat) (k : Nat) (g : Nat → Nat), (∀ x ∈ l2, g x ≤ l2.foldl (fun k a => k + g a) k) ∧ k ≤ l2.foldl (fun k a => k + g a) k := by
    intro l2
    induction l2 with
    | nil => intro k g; simp
    | cons y l2 ih =>
      intro k g
      simp only [List.foldl_cons]
      refine ⟨fun x hx => ?_, by have := (ih (k + g y) g).2; omega⟩
      rcases List.mem_cons.1 hx with rfl | hx
      · have := (ih (k + g x) g).2; omega
      · exact (ih _ g).1 x hx
  exact (this (List.range r) 0 fun a => (el m a c).natAbs).1 a (List.mem_range.2 ha)
theorem formL_hi {r cc : Nat} : ∀ (n c top : Nat) (m : List (List Int)), c + n = cc → top ≤ r → HI r top c m → ∃ t k, HI r t k (apL r cc (formL r cc n c top m) m) ∧ t ≤ r ∧ k ≤ cc ∧ (t = r ∨ k = cc)
  | 0, c, top, m, hc, ht, h => ⟨top, c, h, ht, by omega, .inr (by omega)⟩
  | n + 1, c, top, m, hcc, htr, h => by
    have hc : c < cc := by omega
    simp only [formL]
    split
    case isFalse => exact ⟨top, c, h, htr, by omega, .inl (by omega)⟩
    rename_i ht
    obtain ⟨A, hA⟩ := colB_some (r := r) (c := c) (m := m)
    obtain ⟨v1, g1, A1, z1, k1⟩ := rowsL_ok (cc := cc) ht hc (List.range' (top + 1) (r - (top + 1))) m below hA
    have zz := rowsL_zero ht hc (List.range' (top + 1) (r - (top + 1))) m
    unfold lowL
    rw [apL_append]
    generalize rowsL r cc c top (List.range' (top + 1) (r - (top + 1))) m = l1 at *
    generalize apL r cc l1 m = m1 at *
    have mem : ∀ a, top ≤ a → a < r → a = top ∨ a ∈ List.range' (top + 1) (r - (top + 1)) := fun a h1 h2 => by
      rw [List.mem_range'_1]; omega
    have hI1 : HI r top c m1 := h.same (fun i h1 h2 j hj => zz j below (by omega) (fun a ha h3 => h.ze a (by
      rcases h3 with rfl | h3
      · omega
      · rw [List.mem_range'_1] at h3; omega) ha j hj) i h2 (mem i h1 h2)) (by omega) fun i hi j hj => k1 i j (by omega) (by omega) (by omega) (by rw [List.mem_range'_1]; omega)
    have hz1 : ∀ a, top < a → a < r → el m1 a c = 0 := fun a h1 h2 => z1 a h2 (by omega) (.inl (by rw [List.mem_range'_1]; omega))
    have piv : ∀ m2, HI r top c m2 → ColB r c A m2 → 0 < el m2 top c → (∀ a, top < a → a < r → el m2 a c = 0) →
        ∃ t k, HI r t k (apL r cc (pivL r cc c top (formL r cc n (c + 1) (top + 1)) m2) m2) ∧ t ≤ r ∧ k ≤ cc ∧ (t = r ∨ k = cc) := fun m2 hI2 A2 hp hz2 => by
      obtain ⟨v3, g3, k3, z3, n3⟩ := redL_ok (cc := cc) ht hc (A := A) (List.range top) m2 (fun i hi => by simp only [List.mem_range] at hi; omega) A2 hp
      unfold pivL
      rw [apL_append]
      generalize redL r cc c top (List.range top) m2 = l3 at *
      generalize apL r cc l3 m2 = m3 at *
      have hI3 : HI r top c m3 := hI2.same (fun i h1 h2 j hj => by
        rw [z3 i j h2 (by omega) (hI2.ze top (Nat.le_refl _) ht j hj)]; exact hI2.ze i h1 h2 j hj) (by omega) fun i hi j hj => z3 i j (by omega) (by omega) (hI2.ze top (Nat.le_refl _) ht j hj)
      have etop : el m3 top c = el m2 top c := k3 top c ht hc (.inl rfl)
      refine formL_hi n (c + 1) (top + 1) m3 (by omega) (by omega) (hI3.adv ht (by rw [etop]; exact hp) (fun i hi => ?_) fun i h1 h2 => ?_)
      · rw [etop]; exact n3 i (by omega) (List.mem_range.2 hi)
      · rw [k3 i c h2 hc (.inr (by rw [List.mem_range]; omega))]; exact hz2 i h1 h2
    unfold tailL
    split
    · rename_i h0
      exact formL_hi n (c + 1) top m1 (by omega) (by omega) (hI1.skip fun i h1 h2 => by
        by_cases e : i = top
        · rw [e]; exact h0
        · exact hz1 i (by omega) h2)
    · rename_i h0
      split
      · rename_i hneg
        have e1 : ∀ a, a < r → el (apO r cc (negO top) m1) a c = if a = top then - el m1 a c else el m1 a c := fun a ha => by rw [el_apO ha hc]; simp [opF]
        simp only [apL]
        refine piv _ (hI1.neg ht (by omega)) (fun a ha => ?_) ?_ fun a h1 h2 => ?_
        · rw [e1 a ha]
          split
          · rw [Int.natAbs_neg]; exact A1 a ha
          · exact A1 a ha
        · rw [e1 top ht, if_pos rfl]; omega
        · rw [e1 a h2, if_neg (by omega)]; exact hz1 a h1 h2
      · exact piv m1 hI1 A1 (by omega) hz1
theorem HI.hf {r cc t k : Nat} {m : List (List Int)} (h : HI r t k m) (ht : t ≤ r) (hk : k ≤ cc) (he : t = r ∨ k = cc) : ∃ p, HF r t cc (el m) p := by
  obtain ⟨p, hp⟩ := h.pv
  refine ⟨p, ht, fun i h1 h2 j hj => ?_, fun i hi => ?_⟩
  · rcases he with h3 | h3
    · omega
    · exact h.ze i h1 h2 j (by omega)
  · obtain ⟨g1, g2⟩ := hp i hi
    exact ⟨by omega, g2⟩
theorem hermite_eq {r cc t1 k1 t2 k2 : Nat} {a : List (List Int)} {d e : List Opz} (ha : Mx r cc a) (hd : ∀ o ∈ d, vO r o = true) (he : ∀ o ∈ e, vO r o = true)
    (h1 : HI r t1 k1 (apL r cc d a)) (a1 : t1 ≤ r) (b1 : k1 ≤ cc) (c1 : t1 = r ∨ k1 = cc) (h2 : HI r t2 k2 (apL r cc e a)) (a2 : t2 ≤ r) (b2 : k2 ≤ cc) (c2 : t2 = r ∨ k2 = cc) : apL r cc d a = apL r cc e a := by
  obtain ⟨p1, F1⟩ := h1.hf a1 b1 c1
  obtain ⟨p2, F2⟩ := h2.hf a2 b2 c2
  have ex : ∀ {d e : List Opz}, (∀ o ∈ d, vO r o = true) → (∀ o ∈ e, vO r o = true) → ∃ W : Nat → Nat → Int, ∀ i, i < r → ∀ j, j < cc → el (apL r cc d a) i j = comb (W i) (el (apL r cc e a)) r j := fun {d e} hd he => by
    refine ⟨el (mat r (inL e ++ d)), fun i hi j hj => ?_⟩
    have e1 : apL r cc d a = apL r cc (inL e ++ d) (apL r cc e a) := by rw [apL_append, apL_inv he ha]
    have e2 := apL_mat (l := inL e ++ d) (fun o ho => by
      rcases List.mem_append.1 ho with h | h
      · exact inL_valid he o h
      · exact hd o h) (apL_mx e ha)
    rw [e1, e2, el_mmul hi hj]
    rfl
  obtain ⟨W, hW⟩ := ex hd he
  obtain ⟨W', hW'⟩ := ex he hd
  exact mx_ext (apL_mx _ ha) (apL_mx _ ha) fun i j hi hj => HF.unique F1 F2 hW hW' i hi j hj
end Go.AM
/- What functions of the program come to: group L6. Printed by vc.py. -/
set_option maxRecDepth 100000
set_option linter.unusedVariables false
namespace Go.AM
open Go.Proofs.Tryz
def vc6 (x0 x1 : Int) (x2 : DL) (R : V → Heap → Prop) : Prop :=
 ∃ (r : Bool),
 (FnD prog 8 [] (vD (dB r)) []) ∧
 (∃ (r0 r1 : Int) (rrows : DLL),
 (FnD prog 9 [vA [sD (D.int .u8 x0), sD (D.int .u8 x1), sD (dL x2)]] (vA [sD (dI r0), sD (dI r1), S.ref 0]) [some (Obj.mat 2 rrows)]) ∧
 (∃ (r2 : Int),
 (FnD prog 15 [vA [sD (dI r0), sD (dI r1), sD (dL (matD rrows))]] (vD (dI r2)) []) ∧
 ((decide (r2 < (0 : Int)) = true →
 R (vD (dB false)) []) ∧
 (decide (r2 < (0 : Int)) = false →
 (decide (r2 > (4000 : Int)) = true →
 R (vD (dB false)) []) ∧
 (decide (r2 > (4000 : Int)) = false →
 ∃ (r01 r11 : Int) (r21 : DL) (r3 r4 : Int) (r5 : DL) (r6 r7 : Int) (r8 : DL) (r9 r10 : Int) (r111 : DL) (r12 r13 : Int) (r14 : Bool) (r02 r15 : Int) (r22 : DL) (r31 r41 : Int) (r51 : DL) (r61 r71 : Int) (r81 : DL) (r91 r101 : Int) (r112 : DL) (r121 r131 : Int) (r141 : Bool),
 (FnD prog 10 [vA [sD (dI r0), sD (dI r1), sD (dL (matD rrows))]] (vA [sD (dI r01), sD (dI r11), sD (dL r21), sD (dI r3), sD (dI r4), sD (dL r5), sD (dI r6), sD (dI r7), sD (dL r8), sD (dI r9), sD (dI r10), sD (dL r111), sD (dI r12), sD (dI r13), sD (dB r14)]) []) ∧
 (FnD prog 13 [vA [sD (dI r01), sD (dI r11), sD (dL r21), sD (dI r3), sD (dI r4), sD (dL r5), sD (dI r6), sD (dI r7), sD (dL r8), sD (dI r9), sD (dI r10), sD (dL r111), sD (dI r12), sD (dI r13), sD (dB r14)], vD (dI r2)] (vA [sD (dI r02), sD (dI r15), sD (dL r22), sD (dI r31), sD (dI r41), sD (dL r51), sD (dI r61), sD (dI r71), sD (dL r81), sD (dI r91), sD (dI r101), sD (dL r112), sD (dI r121), sD (dI r131), sD (dB r141)]) []) ∧
 (∃ (r03 r16 : Int) (r23 : DL) (r32 r42 : Int) (r52 : DL) (r62 r72 : Int) (r82 : DL) (r17 : Int),
 (FnD prog 20 [vA [sD (dI r02), sD (dI r15), sD (dL r22), sD (dI r31), sD (dI r41), sD (dL r51), sD (dI r61), sD (dI r71), sD (dL r81), sD (dI r91), sD (dI r101), sD (dL r112), sD (dI r121), sD (dI r131), sD (dB r141)]] (V.tup [E.agg [sD (dI r03), sD (dI r16), sD (dL r23), sD (dI r32), sD (dI r42), sD (dL r52), sD (dI r62), sD (dI r72), sD (dL r82)], eD (dI r17)]) []) ∧
 (((!r141) = true →
 R (vD (dB false)) []) ∧
 ((!r141) = false →
 ((r17 != (0 : Int)) = true →
 R (vD (dB false)) []) ∧
 ((r17 != (0 : Int)) = false →
 ∃ (r18 : Bool),
 (FnD prog 21 [vA [sD (dI r0), sD (dI r1), sD (dL (matD rrows))], vA [sD (dI r03), sD (dI r16), sD (dL r23), sD (dI r32), sD (dI r42), sD (dL r52), sD (dI r62), sD (dI r72), sD (dL r82)]] (vD (dB r18)) []) ∧
 (((!r18) = true →
 R (vD (dB false)) []) ∧
 ((!r18) = false →
 ∃ (r04 r19 : Int) (r24 : DL) (r33 r43 : Int) (r53 : DL) (r63 r73 : Int) (r83 : DL) (r20 : Bool),
 (FnD prog 23 [vA [sD (dI r0), sD (dI r1), sD (dL (matD rrows))]] (vA [sD (dI r04), sD (dI r19), sD (dL r24), sD (dI r33), sD (dI r43), sD (dL r53), sD (dI r63), sD (dI r73), sD (dL r83)]) []) ∧
 (FnD prog 22 [vA [sD (dI r03), sD (dI r16), sD (dL r23)], vA [sD (dI r04), sD (dI r19), sD (dL r24)]] (vD (dB r20)) []) ∧
 (((!r20) = true →
 R (vD (dB false)) []) ∧
 ((!r20) = false →
 ((r2 == (0 : Int)) = true →
 R (vD (dB r)) []) ∧
 ((r2 == (0 : Int)) = false →
 ∃ (r05 r110 : Int) (r25 : DL) (r34 r44 : Int) (r54 : DL) (r64 r74 : Int) (r84 : DL) (r92 r102 : Int) (r113 : DL) (r122 r132 : Int) (r142 : Bool) (r06 r114 : Int) (r26 : DL) (r35 r45 : Int) (r55 : DL) (r65 r75 : Int) (r85 : DL) (r93 r103 : Int) (r115 : DL) (r123 r133 : Int) (r143 : Bool),
 (FnD prog 10 [vA [sD (dI r0), sD (dI r1), sD (dL (matD rrows))]] (vA [sD (dI r05), sD (dI r110), sD (dL r25), sD (dI r34), sD (dI r44), sD (dL r54), sD (dI r64), sD (dI r74), sD (dL r84), sD (dI r92), sD (dI r102), sD (dL r113), sD (dI r122), sD (dI r132), sD (dB r142)]) []) ∧
 (FnD prog 13 [vA [sD (dI r05), sD (dI r110), sD (dL r25), sD (dI r34), sD (dI r44), sD (dL r54), sD (dI r64), sD (dI r74), sD (dL r84), sD (dI r92), sD (dI r102), sD (dL r113), sD (dI r122), sD (dI r132), sD (dB r142)], vD (dI (IntKind.i64.wrap (r2 - (1 : Int))))] (vA [sD (dI r06), sD (dI r114), sD (dL r26), sD (dI r35), sD (dI r45), sD (dL r55), sD (dI r65), sD (dI r75), sD (dL r85), sD (dI r93), sD (dI r103), sD (dL r115), sD (dI r123), sD (dI r133), sD (dB r143)]) []) ∧
 (∃ (r07 r116 : Int) (r27 : DL) (r36 r46 : Int) (r56 : DL) (r66 r76 : Int) (r86 : DL) (r28 : Int),
 (FnD prog 20 [vA [sD (dI r06), sD (dI r114), sD (dL r26), sD (dI r35), sD (dI r45), sD (dL r55), sD (dI r65), sD (dI r75), sD (dL r85), sD (dI r93), sD (dI r103), sD (dL r115), sD (dI r123), sD (dI r133), sD (dB r143)]] (V.tup [E.agg [sD (dI r07), sD (dI r116), sD (dL r27), sD (dI r36), sD (dI r46), sD (dL r56), sD (dI r66), sD (dI r76), sD (dL r86)], eD (dI r28)]) []) ∧
 ((r = true →
 ((!r143) = true →
 R (vD (dB (r28 == (210 : Int)))) []) ∧
 ((!r143) = false →
 R (vD (dB false)) [])) ∧
 (r = false →
 R (vD (dB false)) [])))))))))))))))))
theorem vc6_ok (x0 x1 : Int) (x2 : DL) {R : V → Heap → Prop} (h : vc6 x0 x1 x2 R) : FnG prog 6 [vA [sD (D.int .u8 x0), sD (D.int .u8 x1), sD (dL x2)]] [] R :=
  FnG.vcg hT func6 ntmps6 (.reg 1 [(0, Or.none, 0, 1)] [1] [0] [] <| .exb fun r => .reg 0 [(0, Or.call (vD (dB r)) [] [], 0, 0)] [1, 3] [0] [] <| .ex fun r0 => .ex fun r1 => .exm fun rrows => .reg 2 [(1, Or.call (vA [sD (dI r0), sD (dI r1), S.ref 0]) [some (Obj.mat 2 rrows)] [], 1, 1), (2, Or.none, 2, 1)] [3, 4] [2, 1] [] <| .frz [1] <| .ex fun r2 => .reg 0 [(1, Or.call (vD (dI r2)) [] [], 0, 0)] [3, 4, 5] [0] [] <| .spl ((decide (r2 < (0 : Int)))) (.reg 0 [(2, Or.bool true, 0, 0)] [3, 4, 5, 22] [0] [.old 0] <| .ct true none <| .r0 [2] <| .ret []) (.reg 0 [(2, Or.bool false, 0, 0)] [3, 4, 5, 22] [0] [.old 0] <| .c2 (.r0 [2] <| .ret []) (.ex fun r01 => .ex fun r11 => .exl fun r21 => .ex fun r3 => .ex fun r4 => .exl fun r5 => .ex fun r6 => .ex fun r7 => .exl fun r8 => .ex fun r9 => .ex fun r10 => .exl fun r111 => .ex fun r12 => .ex fun r13 => .exb fun r14 => .ex fun r02 => .ex fun r15 => .exl fun r22 => .ex fun r31 => .ex fun r41 => .exl fun r51 => .ex fun r61 => .ex fun r71 => .exl fun r81 => .ex fun r91 => .ex fun r101 => .exl fun r112 => .ex fun r121 => .ex fun r131 => .exb fun r141 => .reg 1 [(1, Or.call (vA [sD (dI r01), sD (dI r11), sD (dL r21), sD (dI r3), sD (dI r4), sD (dL r5), sD (dI r6), sD (dI r7), sD (dL r8), sD (dI r9), sD (dI r10), sD (dL r111), sD (dI r12), sD (dI r13), sD (dB r14)]) [] [], 0, 0), (3, Or.call (vA [sD (dI r02), sD (dI r15), sD (dL r22), sD (dI r31), sD (dI r41), sD (dL r51), sD (dI r61), sD (dI r71), sD (dL r81), sD (dI r91), sD (dI r101), sD (dL r112), sD (dI r121), sD (dI r131), sD (dB r141)]) [] [], 0, 0), (4, Or.none, 1, 1)] [3, 4, 5, 6] [0, 1] [] <| .ex fun r03 => .ex fun r16 => .exl fun r23 => .ex fun r32 => .ex fun r42 => .exl fun r52 => .ex fun r62 => .ex fun r72 => .exl fun r82 => .ex fun r17 => .reg 1 [(1, Or.call (V.tup [E.agg [sD (dI r03), sD (dI r16), sD (dL r23), sD (dI r32), sD (dI r42), sD (dL r52), sD (dI r62), sD (dI r72), sD (dL r82)], eD (dI r17)]) [] [], 0, 0), (5, Or.none, 2, 1)] [3, 4, 5, 6, 7, 8] [0, 1, 2] [] <| .spl ((!r141)) (.drw 0 [(3, (Or.bool true, 0, 0), [])] [3, 4, 5, 53] [0] [.old 0] <| .ct true none <| .r0 [2] <| .ret []) (.spl ((r17 != (0 : Int))) (.drw 0 [(3, (Or.bool false, 0, 0), []), (7, (Or.bool true, 0, 0), [])] [3, 4, 5, 53] [0] [.old 1, .old 0] <| .ct true none <| .r0 [2] <| .ret []) (.exb fun r18 => .ob (FnD prog 21 [vA [sD (dI r0), sD (dI r1), sD (dL (matD rrows))], vA [sD (dI r03), sD (dI r16), sD (dL r23), sD (dI r32), sD (dI r42), sD (dL r52), sD (dI r62), sD (dI r72), sD (dL r82)]] (vD (dB r18)) []) <| .spl ((!r18)) (.drw 0 [(3, (Or.bool false, 0, 0), []), (7, (Or.bool false, 0, 0), []), (10, (Or.call (vD (dB r18)) [] [], 0, 0), []), (13, (Or.bool true, 0, 0), [])] [3, 4, 5, 53] [0] [.old 3, .old 2, .old 1, .old 0] <| .ct true none <| .r0 [2] <| .ret []) (.ex fun r04 => .ex fun r19 => .exl fun r24 => .ex fun r33 => .ex fun r43 => .exl fun r53 => .ex fun r63 => .ex fun r73 => .exl fun r83 => .exb fun r20 => .drw 0 [(3, (Or.bool false, 0, 0), []), (7, (Or.bool false, 0, 0), []), (10, (Or.call (vD (dB r18)) [] [], 0, 0), []), (13, (Or.bool false, 0, 0), []), (17, (Or.call (vA [sD (dI r04), sD (dI r19), sD (dL r24), sD (dI r33), sD (dI r43), sD (dL r53), sD (dI r63), sD (dI r73), sD (dL r83)]) [] [], 0, 0), []), (19, (Or.call (vD (dB r20)) [] [], 0, 0), [])] [3, 4, 5, 53] [0] [.old 3, .old 2, .old 1, .old 0] <| .c2 (.r0 [2] <| .ret []) (.r1 [3, 4, 5, 55] [0] <| .c2 (.r0 [2] <| .ret []) (.ex fun r05 => .ex fun r110 => .exl fun r25 => .ex fun r34 => .ex fun r44 => .exl fun r54 => .ex fun r64 => .ex fun r74 => .exl fun r84 => .ex fun r92 => .ex fun r102 => .exl fun r113 => .ex fun r122 => .ex fun r132 => .exb fun r142 => .ex fun r06 => .ex fun r114 => .exl fun r26 => .ex fun r35 => .ex fun r45 => .exl fun r55 => .ex fun r65 => .ex fun r75 => .exl fun r85 => .ex fun r93 => .ex fun r103 => .exl fun r115 => .ex fun r123 => .ex fun r133 => .exb fun r143 => .reg 1 [(1, Or.call (vA [sD (dI r05), sD (dI r110), sD (dL r25), sD (dI r34), sD (dI r44), sD (dL r54), sD (dI r64), sD (dI r74), sD (dL r84), sD (dI r92), sD (dI r102), sD (dL r113), sD (dI r122), sD (dI r132), sD (dB r142)]) [] [], 0, 0), (4, Or.call (vA [sD (dI r06), sD (dI r114), sD (dL r26), sD (dI r35), sD (dI r45), sD (dL r55), sD (dI r65), sD (dI r75), sD (dL r85), sD (dI r93), sD (dI r103), sD (dL r115), sD (dI r123), sD (dI r133), sD (dB r143)]) [] [], 0, 0), (5, Or.none, 1, 1)] [3, 9] [1] [] <| .ex fun r07 => .ex fun r116 => .exl fun r27 => .ex fun r36 => .ex fun r46 => .exl fun r56 => .ex fun r66 => .ex fun r76 => .exl fun r86 => .ex fun r28 => .reg 1 [(1, Or.call (V.tup [E.agg [sD (dI r07), sD (dI r116), sD (dL r27), sD (dI r36), sD (dI r46), sD (dL r56), sD (dI r66), sD (dI r76), sD (dL r86)], eD (dI r28)]) [] [], 0, 0), (5, Or.none, 1, 1)] [3, 9, 11] [0] [] <| .spl r (.spl ((!r143)) (.reg 0 [(1, Or.bool true, 0, 0), (6, Or.bool true, 0, 0)] [2] [] [.old 1, .old 0] <| .ret []) (.reg 0 [(1, Or.bool true, 0, 0), (6, Or.bool false, 0, 0)] [2] [] [.old 1, .old 0] <| .ret [])) (.reg 0 [(1, Or.bool false, 0, 0)] [2] [] [.old 0] <| .ret [])))))))))
    (by kernel_rfl) (by kernel_rfl) (by kernel_rfl) h
end Go.AM
/- Package step: in the end there is a normal form, the one of the reference. -/
namespace Go.AM
open Go.Proofs.Tryz
theorem HF.isHB {r t c : Nat} {m : List (List Int)} {p : Nat → Nat} (hm : Mx r c m) (F : HF r t c (el m) p) : isHB r c m = true := by
  have tr := F.tr
  have pv : ∀ i, i < t → piv (m.getD i []) = (p i : Int) := fun i hi => by
    obtain ⟨g1, g2, g3, _⟩ := F.pv i hi
    obtain ⟨_, hl⟩ := mx_row hm (show i < r by omega)
    exact piv_is (by omega) (fun j hj => by rw [elr_el]; exact g2 j hj) (by rw [elr_el]; omega)
  refine isHB_true fun n hn => ?_
  by_cases hnt : n < t
  · rw [rowIs_iff (pv n hnt)]
    obtain ⟨g1, g2, g3, g4⟩ := F.pv n hnt
    refine ⟨?_, g3, fun l hl => (g4 l hl).2⟩
    cases n with
    | zero => show (-1 : Int) < _; omega
    | succ n =>
      rw [lastP_succ, pv n (by omega), if_neg (by omega)]
      have := (g4 n (by omega)).1
      omega
  · refine rowIs_neg ?_
    obtain ⟨_, hl⟩ := mx_row hm hn
    rcases piv_cases (m.getD n []) with ⟨h1, _⟩ | ⟨q, _, h2, h3, _⟩
    · rw [h1]; decide
    · exact absurd (by rw [elr_el]; exact F.ze n (by omega) hn q (by omega)) h3
theorem big_form : ∀ r, r ≤ 4 → ∀ c, c ≤ 4 → (24 * 9) ^ ((2 * r + 2) ^ c) * (24 * 9) ^ ((2 * r + 2) ^ c) * 4294967296 < 4294967296 ^ 10000 := by decide +kernel
theorem form_small {r c : Nat} {a : List (List Int)} (hm : Mx r c a) (km : BdM 9 a) (hr : r ≤ 4) (hc : c ≤ 4) :
    FnD prog 23 [eM r c a] (eHer r c (apL r c (formL r c c 0 0 a) a) (apL r r (formL r c c 0 0 a) (table r r delta)) (apCL r (formL r c c 0 0 a) (table r r delta))) [] :=
  form_walk (formC hm km (by decide) (by omega) (by omega) (L := 10000) (by decide) (big_form r hr c hc)) rfl km (by decide)
theorem run_form {r c N : Nat} {a : List (List Int)} (hm : Mx r c a) (km : BdM N a) {n : Nat} (hi : PInv r c N a (PS.run r c a n ⟨[], 0, 0⟩)) (hf : (PS.run r c a n ⟨[], 0, 0⟩).fin r c = true) :
    isHB r c (apL r c (PS.run r c a n ⟨[], 0, 0⟩).d a) = true ∧ apL r c (formL r c c 0 0 a) a = apL r c (PS.run r c a n ⟨[], 0, 0⟩).d a := by
  have h1 := hi_run (r := r) (c := c) (a := a) n
  have ht := hi.tr; have hk := hi.kc
  have he : (PS.run r c a n ⟨[], 0, 0⟩).t = r ∨ (PS.run r c a n ⟨[], 0, 0⟩).k = c := by
    simp only [PS.fin, Bool.or_eq_true, decide_eq_true_eq] at hf
    omega
  obtain ⟨p, F⟩ := h1.hf ht hk he
  obtain ⟨t, k, h2, a1, a2, a3⟩ := formL_hi (r := r) (cc := c) c 0 0 a (by omega) (by omega) HI.zero
  exact ⟨F.isHB (apL_mx _ hm), hermite_eq hm (formL_ok c 0 0 a N (by omega) hm km).1 hi.va h2 a1 a2 a3 h1 ht hk he⟩
theorem stepFinishes_ok (x0 : Int) (g0 : IntKind.u8.min ≤ x0 ∧ x0 ≤ IntKind.u8.max) (x1 : Int) (g1 : IntKind.u8.min ≤ x1 ∧ x1 ≤ IntKind.u8.max) (l2 : DL) (g2 : l2.length ≤ 9223372036854775807 ∧ ∀ x ∈ l2, DOKL [.i .i8] x) :
    FnD prog 6 [.e (.agg [.dat (.int .u8 x0), .dat (.int .u8 x1), .dat (.sl l2)])] (vb true) [] := by
  obtain ⟨v, rfl, _⟩ := i8s_of g2
  obtain ⟨r, c, hr, hc, hA⟩ := rawmade_ok v g0.1 g1.1
  obtain ⟨a, ea⟩ : ∃ a, a = table r c (fillG c v) := ⟨_, rfl⟩
  have ma : Mx r c a := ea ▸ table_mx _ _ _
  have ka : BdM 9 a := ea ▸ filled_bd
  rw [← ea] at hA
  clear ea
  have X := pxs_small ma ka hr hc
  have hI : ∀ n, PInv r c 9 a (PS.run r c a n ⟨[], 0, 0⟩) := fun n => PInv.run ma ka n (PInv.start ma ka)
  obtain ⟨T0, hT0, hfin⟩ := ends_small ma (ka.mono (by decide)) hr hc
  obtain ⟨T, hT, t1, t2⟩ := least_nat (p := fun n => (PS.run r c a n ⟨[], 0, 0⟩).fin r c) T0 hfin
  have hcost : IsCost r c a T := ⟨t1, t2⟩
  have t1 : (PS.run r c a T ⟨[], 0, 0⟩).fin r c = true := t1
  obtain ⟨hH, hE⟩ := run_form ma ka (hI T) t1
  have V := X.vx (hI T)
  have hsz : SzM (apL r c (PS.run r c a T ⟨[], 0, 0⟩).d a) := V.km.szm V.hS
  refine vc6_ok _ _ _ (R := Out _) ?_
  unfold vc6
  have p0 : FnD prog 10 [vA [sD (dI r), sD (dI c), sD (dL (matD (om a)))]] (eS r c a ⟨[], 0, 0⟩) [] := by rw [matD_om]; exact pstart_ok X
  have pc : FnD prog 15 [vA [sD (dI r), sD (dI c), sD (dL (matD (om a)))]] (vi T) [] := by rw [matD_om]; exact pcost_ok X hcost (by omega)
  have ps : FnD prog 13 [eS r c a ⟨[], 0, 0⟩, vi T] (eS r c a (PS.run r c a T ⟨[], 0, 0⟩)) [] := pstep_ok X (hI 0) (n0 := (T : Int)) (by omega)
  have pr := presult_yes (A := a) (m := apL r c (PS.run r c a T ⟨[], 0, 0⟩).d a) (u := apL r r (PS.run r c a T ⟨[], 0, 0⟩).d (idM r)) (v := apCL r (PS.run r c a T ⟨[], 0, 0⟩).d (idM r)) (b := (PS.run r c a T ⟨[], 0, 0⟩).fin r c)
    (show finB r c (PS.run r c a T ⟨[], 0, 0⟩).t (PS.run r c a T ⟨[], 0, 0⟩).k = true from t1)
  have ck := rcheck_ok V
  rw [hH, show mmul r r c (apL r r (PS.run r c a T ⟨[], 0, 0⟩).d (idM r)) a = apL r c (PS.run r c a T ⟨[], 0, 0⟩).d a from (apL_mat (hI T).va ma).symm,
    show mmul r r r (apL r r (PS.run r c a T ⟨[], 0, 0⟩).d (idM r)) (apCL r (PS.run r c a T ⟨[], 0, 0⟩).d (idM r)) = idM r from uv_id (hI T).va, decide_eq_true rfl, decide_eq_true rfl] at ck
  have fm := form_small ma ka hr hc
  rw [hE] at fm
  have sm : FnD prog 22 [eM r c (apL r c (PS.run r c a T ⟨[], 0, 0⟩).d a), eM r c (apL r c (PS.run r c a T ⟨[], 0, 0⟩).d a)] (vb true) [] := by
    have := VX.same V.hm hsz hsz (by omega) (by omega)
    rwa [decide_eq_true rfl] at this
  have ck' : FnD prog 21 [vA [sD (dI r), sD (dI c), sD (dL (matD (om a)))], eHer r c (apL r c (PS.run r c a T ⟨[], 0, 0⟩).d a) (apL r r (PS.run r c a T ⟨[], 0, 0⟩).d (idM r)) (apCL r (PS.run r c a T ⟨[], 0, 0⟩).d (idM r))] (vb true) [] := by rw [matD_om]; exact ck
  have fm' : FnD prog 23 [vA [sD (dI r), sD (dI c), sD (dL (matD (om a)))]] (eHer r c (apL r c (PS.run r c a T ⟨[], 0, 0⟩).d a) (apL r r (formL r c c 0 0 a) (table r r delta)) (apCL r (formL r c c 0 0 a) (table r r delta))) [] := by rw [matD_om]; exact fm
  refine ⟨_, sanity21_ok, _, _, _, hA, _, pc, fun h => ?_, fun _ => ⟨fun h => ?_, fun _ => ?_⟩⟩
  · have := of_decide_eq_true h; omega
  · have := of_decide_eq_true h; omega
  refine ⟨_, _, _, _, _, _, _, _, _, _, _, _, _, _, _, _, _, _, _, _, _, _, _, _, _, _, _, _, _, _, p0, ps, _, _, _, _, _, _, _, _, _, _, pr, fun h => ?_, fun _ => ⟨fun h => absurd h (by decide), fun _ => ⟨_, ck', fun h => absurd h (by decide), fun _ => ?_⟩⟩⟩
  · rw [t1] at h; exact absurd h (by decide)
  refine ⟨_, _, _, _, _, _, _, _, _, _, fm', sm, fun h => absurd h (by decide), fun _ => ⟨fun _ => outb rfl, fun h0 => ?_⟩⟩
  obtain ⟨S, rfl⟩ : ∃ S, T = S + 1 := ⟨T - 1, by
    have : T ≠ 0 := fun e => by rw [e] at h0; exact absurd h0 (by decide)
    omega⟩
  rw [show IntKind.i64.wrap (((S + 1 : Nat) : Int) - 1) = (S : Int) by rw [w64 (by omega) (by omega)]; omega]
  have f2 : (PS.run r c a S ⟨[], 0, 0⟩).fin r c = false := t2 S (by omega)
  have ps2 : FnD prog 13 [eS r c a ⟨[], 0, 0⟩, vi S] (eS r c a (PS.run r c a S ⟨[], 0, 0⟩)) [] := pstep_ok X (hI 0) (n0 := (S : Int)) (by omega)
  have pr2 := presult_no (A := a) (m := apL r c (PS.run r c a S ⟨[], 0, 0⟩).d a) (u := apL r r (PS.run r c a S ⟨[], 0, 0⟩).d (idM r)) (v := apCL r (PS.run r c a S ⟨[], 0, 0⟩).d (idM r)) (b := (PS.run r c a S ⟨[], 0, 0⟩).fin r c)
    (show finB r c (PS.run r c a S ⟨[], 0, 0⟩).t (PS.run r c a S ⟨[], 0, 0⟩).k = false from f2)
  refine ⟨_, _, _, _, _, _, _, _, _, _, _, _, _, _, _, _, _, _, _, _, _, _, _, _, _, _, _, _, _, _, p0, ps2, _, _, _, _, _, _, _, _, _, _, pr2, fun _ => ⟨fun _ => outb rfl, fun h => ?_⟩, fun h => absurd h (by decide)⟩
  rw [f2] at h; exact absurd h (by decide)
end Go.AM
