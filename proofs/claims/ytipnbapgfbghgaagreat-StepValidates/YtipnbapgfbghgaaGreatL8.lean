/- What functions of the program come to: group Se. Printed by vc.py. -/
import Derived.Test.YtipnbapgfbghgaaGreatL7
set_option maxRecDepth 100000
set_option linter.unusedVariables false
namespace Go.AM
open Go.Proofs.Tryz
def vc44 (a0 a1 : Int) (a2 : DL) (rows cols : Int) (R : V → Heap → Prop) : Prop :=
 ∃ (r : Bool),
 (FnD prog 43 [vA [sD (dI a0), sD (dI a1), sD (dL a2)]] (vD (dB r)) []) ∧
 ((r = true →
 ((a0 == rows) = true →
 R (vD (dB (a1 == cols))) []) ∧
 ((a0 == rows) = false →
 R (vD (dB false)) [])) ∧
 (r = false →
 R (vD (dB false)) []))
theorem vc44_ok (a0 a1 : Int) (a2 : DL) (rows cols : Int) {R : V → Heap → Prop} (h : vc44 a0 a1 a2 rows cols R) : FnG prog 44 [vA [sD (dI a0), sD (dI a1), sD (dL a2)], vD (dI rows), vD (dI cols)] [] R :=
  FnG.vcg hT func44 ntmps44 (.reg 1 [(0, Or.none, 0, 1)] [1, 2, 3] [0] [] <| .exb fun r => .ob (FnD prog 43 [vA [sD (dI a0), sD (dI a1), sD (dL a2)]] (vD (dB r)) []) <| .spl r (.spl ((a0 == rows)) (.reg 0 [(1, Or.call (vD (dB r)) [] [], 0, 0), (2, Or.bool true, 0, 0), (8, Or.bool true, 0, 0)] [6] [] [.old 2, .old 1, .old 0] <| .ret []) (.reg 0 [(1, Or.call (vD (dB r)) [] [], 0, 0), (2, Or.bool true, 0, 0), (8, Or.bool false, 0, 0)] [6] [] [.old 2, .old 1, .old 0] <| .ret [])) (.reg 0 [(1, Or.call (vD (dB r)) [] [], 0, 0), (2, Or.bool false, 0, 0)] [6] [] [.old 1, .old 0] <| .ret []))
    (by kernel_rfl) (by kernel_rfl) (by kernel_rfl) h
def vc45 (a0 a1 : Int) (a2 : DL) (b0 b1 : Int) (b2 : DL) (c0 c1 : Int) (c2 : DL) (R : V → Heap → Prop) : Prop :=
 ∃ (r0 r1 : Int) (r2 : DL) (r : Int),
 (FnD prog 79 [vA [sD (dI a0), sD (dI a1), sD (dL a2)], vA [sD (dI b0), sD (dI b1), sD (dL b2)]] (V.tup [E.agg [sD (dI r0), sD (dI r1), sD (dL r2)], eD (dI r)]) []) ∧
 (((r == (0 : Int)) = true →
 ∃ (r3 : Bool),
 (FnD prog 80 [vA [sD (dI r0), sD (dI r1), sD (dL r2)], vA [sD (dI c0), sD (dI c1), sD (dL c2)]] (vD (dB r3)) []) ∧
 (R (vD (dB r3)) [])) ∧
 ((r == (0 : Int)) = false →
 R (vD (dB false)) []))
theorem vc45_ok (a0 a1 : Int) (a2 : DL) (b0 b1 : Int) (b2 : DL) (c0 c1 : Int) (c2 : DL) {R : V → Heap → Prop} (h : vc45 a0 a1 a2 b0 b1 b2 c0 c1 c2 R) : FnG prog 45 [vA [sD (dI a0), sD (dI a1), sD (dL a2)], vA [sD (dI b0), sD (dI b1), sD (dL b2)], vA [sD (dI c0), sD (dI c1), sD (dL c2)]] [] R :=
  FnG.vcg hT func45 ntmps45 (.reg 3 [(0, Or.none, 0, 1), (1, Or.none, 1, 1), (2, Or.none, 2, 1)] [3, 4, 5] [0, 1, 2] [] <| .ex fun r0 => .ex fun r1 => .exl fun r2 => .ex fun r => .reg 1 [(2, Or.call (V.tup [E.agg [sD (dI r0), sD (dI r1), sD (dL r2)], eD (dI r)]) [] [], 0, 0), (6, Or.none, 3, 1)] [5, 7, 8] [2, 3] [] <| .spl ((r == (0 : Int))) (.exb fun r3 => .reg 0 [(2, Or.bool true, 0, 0), (5, Or.call (vD (dB r3)) [] [], 0, 0)] [6] [] [.old 0] <| .ret []) (.reg 0 [(2, Or.bool false, 0, 0)] [6] [] [.old 0] <| .ret []))
    (by kernel_rfl) (by kernel_rfl) (by kernel_rfl) h
def vc47 (h0 h1 : Int) (h2 : DL) (R : V → Heap → Prop) : Prop :=
 ∃ (r : Bool),
 (FnD prog 43 [vA [sD (dI h0), sD (dI h1), sD (dL h2)]] (vD (dB r)) []) ∧
 (((!r) = true →
 R (vD (dB false)) []) ∧
 ((!r) = false →
 ∃ (J0 : Int → Int → Prop) (μ0 : Int → Int → Nat),
 J0 (0 : Int) (-1 : Int) ∧ ∀ (t14 last : Int), J0 t14 last →
 (decide (t14 < (h2.length : Int)) = true →
 ∃ (vx : DL),
 (0 ≤ t14 ∧ t14 < (h2.length : Int)) ∧
 (h2[(t14).toNat]? = some [dL vx]) ∧
 (∃ (r1 : Int),
 (FnD prog 84 [vD (dL vx)] (vD (dI r1)) []) ∧
 ((decide (r1 < (0 : Int)) = true →
 J0 (IntKind.i64.wrap (t14 + (1 : Int))) h1 ∧ μ0 (IntKind.i64.wrap (t14 + (1 : Int))) h1 < μ0 t14 last) ∧
 (decide (r1 < (0 : Int)) = false →
 (decide (r1 ≤ last) = true →
 R (vD (dB false)) []) ∧
 (decide (r1 ≤ last) = false →
 ∃ (x0 : Bool) (x1 : DL) (r2 : Int),
 (0 ≤ r1 ∧ r1 < (vx.length : Int)) ∧
 (vx[(r1).toNat]? = some [dB x0, dL x1]) ∧
 (FnD prog 83 [vA [sD (dB x0), sD (dL x1)]] (vD (dI r2)) []) ∧
 ((decide (r2 < (0 : Int)) = true →
 R (vD (dB false)) []) ∧
 (decide (r2 < (0 : Int)) = false →
 ∃ (r3 : Bool),
 (0 ≤ t14 ∧ t14 ≤ (h2.length : Int)) ∧
 (FnD prog 87 [vD (dL (h2.take (t14).toNat)), vD (D.fn (.func 85) [D.box [dI r1], D.box [dL vx]])] (vD (dB r3)) []) ∧
 ((r3 = true →
 R (vD (dB false)) []) ∧
 (r3 = false →
 J0 (IntKind.i64.wrap (t14 + (1 : Int))) r1 ∧ μ0 (IntKind.i64.wrap (t14 + (1 : Int))) r1 < μ0 t14 last))))))))) ∧
 (decide (t14 < (h2.length : Int)) = false →
 R (vD (dB true)) [])))
theorem vc47_ok (h0 h1 : Int) (h2 : DL) {R : V → Heap → Prop} (h : vc47 h0 h1 h2 R) : FnG prog 47 [vA [sD (dI h0), sD (dI h1), sD (dL h2)]] [] R :=
  FnG.vcg hT func47 ntmps47 (.reg 1 [(0, Or.none, 0, 1)] [1] [0] [] <| .exb fun r => .reg 0 [(1, Or.call (vD (dB r)) [] [], 0, 0)] [1, 10] [0] [] <| .c2 (.r0 [2] <| .ret []) (.r1 [1, 3] [0] <| .r1 [1, 3, 12, 13, 14] [0] <| .lp [.i, .i] (fun t14 last => ⟨[(1, vP 0 0), (3, vD (dI last)), (12, vD (dL h2)), (13, vD (dI (h2.length : Int))), (14, vD (dI t14))], [some (Obj.box [sD (dI h0), sD (dI h1), sD (dL h2)])], 45⟩) [.i (0 : Int), .i (-1 : Int)] <| .fi fun t14 => .fi fun last => .beg <| .r1 [1, 3, 12, 13, 14, 15] [0] <| .c2 (.exl fun vx => .reg 1 [(2, Or.cells [dL vx], 0, 0), (3, Or.none, 1, 1)] [1, 3, 4, 5, 12, 13, 14] [0, 1] [] <| .ex fun r1 => .reg 1 [(1, Or.call (vD (dI r1)) [] [], 0, 0), (2, Or.none, 2, 1)] [1, 3, 4, 5, 6, 12, 13, 14] [0, 1, 2] [] <| .r1 [1, 3, 4, 5, 6, 12, 13, 14, 22] [0, 1, 2] <| .c2 (.r1 [1, 3, 12, 13, 14] [0] <| .r1 [1, 3, 12, 13, 14] [0] <| .bk 0 [.i (IntKind.i64.wrap (t14 + (1 : Int))), .i h1]) (.spl ((decide (r1 ≤ last))) (.reg 0 [(3, Or.bool true, 0, 0)] [1, 4, 5, 6, 12, 13, 14, 35] [0, 1, 2] [.old 0] <| .ct true none <| .r0 [2] <| .ret []) (.exb fun x0 => .exl fun x1 => .ex fun r2 => .reg 0 [(3, Or.bool false, 0, 0), (7, Or.cells [dB x0, dL x1], 0, 0), (8, Or.call (vD (dI r2)) [] [], 0, 0)] [1, 4, 5, 6, 12, 13, 14, 35] [0, 1, 2] [.old 0] <| .c2 (.r0 [2] <| .ret []) (.r1 [1, 4, 6, 7, 12, 13, 14] [0, 2, 1] <| .frz [1, 2] <| .exb fun r3 => .reg 0 [(5, Or.call (vD (dB r3)) [] [], 0, 0)] [1, 6, 12, 13, 14, 42] [0] [] <| .c2 (.r0 [2] <| .ret []) (.r1 [1, 3, 12, 13, 14] [0] <| .r1 [1, 3, 12, 13, 14] [0] <| .bk 0 [.i (IntKind.i64.wrap (t14 + (1 : Int))), .i r1]))))) (.r0 [2] <| .ret [])))
    (by kernel_rfl) (by kernel_rfl) (by kernel_rfl) h
def vc84 (v : DL) (R : V → Heap → Prop) : Prop :=
 ∃ (r : Int),
 (FnD prog 111 [vD (dL v), vD (D.fn (.func 112) ([] : List D))] (vD (dI r)) []) ∧
 (R (vD (dI r)) [])
theorem vc84_ok (v : DL) {R : V → Heap → Prop} (h : vc84 v R) : FnG prog 84 [vD (dL v)] [] R :=
  FnG.vcg hT func84 ntmps84 (.r0 [0] <| .ex fun r => .reg 0 [(1, Or.call (vD (dI r)) [] [], 0, 0)] [2] [] [] <| .ret [])
    (by kernel_rfl) (by kernel_rfl) (by kernel_rfl) h
def vc85 (u : DL) (c0 : Int) (c1 : DL) (R : V → Heap → Prop) : Prop :=
 ∃ (x0 : Bool) (x1 : DL) (r : Int),
 (0 ≤ c0 ∧ c0 < (u.length : Int)) ∧
 (u[(c0).toNat]? = some [dB x0, dL x1]) ∧
 (FnD prog 83 [vA [sD (dB x0), sD (dL x1)]] (vD (dI r)) []) ∧
 ((decide (r < (0 : Int)) = true →
 R (vD (dB true)) []) ∧
 (decide (r < (0 : Int)) = false →
 ∃ (x01 : Bool) (x11 : DL) (r1 : Int),
 (0 ≤ c0 ∧ c0 < (c1.length : Int)) ∧
 (c1[(c0).toNat]? = some [dB x01, dL x11]) ∧
 (FnD prog 86 [vA [sD (dB x0), sD (dL x1)], vA [sD (dB x01), sD (dL x11)]] (vD (dI r1)) []) ∧
 (R (vD (dB (decide (r1 ≥ (0 : Int))))) [])))
theorem vc85_ok (u : DL) (c0 : Int) (c1 : DL) {R : V → Heap → Prop} (h : vc85 u c0 c1 R) : FnG prog 85 [vD (dL u), vD (D.box [dI c0]), vD (D.box [dL c1])] [] R :=
  FnG.vcg hT func85 ntmps85 (.r0 [0, 1, 2] <| .exb fun x0 => .exl fun x1 => .ex fun r => .ob (0 ≤ c0 ∧ c0 < (u.length : Int)) <| .ob (u[(c0).toNat]? = some [dB x0, dL x1]) <| .ob (FnD prog 83 [vA [sD (dB x0), sD (dL x1)]] (vD (dI r)) []) <| .spl ((decide (r < (0 : Int)))) (.drw 0 [(3, (Or.cells [dB x0, dL x1], 0, 0), []), (4, (Or.call (vD (dI r)) [] [], 0, 0), []), (6, (Or.bool true, 0, 0), [])] [4] [] [.old 3, .old 2, .old 1, .old 0] <| .ret []) (.exb fun x01 => .exl fun x11 => .ex fun r1 => .drw 0 [(3, (Or.cells [dB x0, dL x1], 0, 0), []), (4, (Or.call (vD (dI r)) [] [], 0, 0), []), (6, (Or.bool false, 0, 0), []), (10, (Or.cells [dB x0, dL x1], 0, 0), []), (14, (Or.cells [dB x01, dL x11], 0, 0), []), (15, (Or.call (vD (dI r1)) [] [], 0, 0), [])] [4] [] [.old 3, .old 2, .old 1, .old 0, .old 3, .old 2] <| .ret []))
    (by kernel_rfl) (by kernel_rfl) (by kernel_rfl) h
def vc87 (s : DL) (f : FuncId) (fc : List D) (R : V → Heap → Prop) : Prop :=
 ∃ (r : Int),
 (FnD prog 114 [vD (dL s), vD (D.fn (.func f) fc)] (vD (dI r)) []) ∧
 (R (vD (dB (decide (r ≥ (0 : Int))))) [])
theorem vc87_ok (s : DL) (f : FuncId) (fc : List D) {R : V → Heap → Prop} (h : vc87 s f fc R) : FnG prog 87 [vD (dL s), vD (D.fn (.func f) fc)] [] R :=
  FnG.vcg hT func87 ntmps87 (.r0 [0, 1] <| .ex fun r => .reg 0 [(2, Or.call (vD (dI r)) [] [], 0, 0)] [4] [] [] <| .ret [])
    (by kernel_rfl) (by kernel_rfl) (by kernel_rfl) h
def vc112 (x0 : Bool) (x1 : DL) (R : V → Heap → Prop) : Prop :=
 ∃ (r : Int),
 (FnD prog 83 [vA [sD (dB x0), sD (dL x1)]] (vD (dI r)) []) ∧
 (R (vD (dB (r != (0 : Int)))) [])
theorem vc112_ok (x0 : Bool) (x1 : DL) {R : V → Heap → Prop} (h : vc112 x0 x1 R) : FnG prog 112 [vA [sD (dB x0), sD (dL x1)]] [] R :=
  FnG.vcg hT func112 ntmps112 (.reg 1 [(0, Or.none, 0, 1)] [1] [0] [] <| .ex fun r => .reg 0 [(1, Or.call (vD (dI r)) [] [], 0, 0)] [2] [] [] <| .ret [])
    (by kernel_rfl) (by kernel_rfl) (by kernel_rfl) h
def vc114 (s : DL) (f : FuncId) (fc : List D) (R : V → Heap → Prop) : Prop :=
 ∃ (J0 : Int → Prop) (μ0 : Int → Nat),
 J0 (0 : Int) ∧ ∀ (t8 : Int), J0 t8 →
 (decide (t8 < (s.length : Int)) = true →
 ∃ (vx : DL) (r : Bool),
 (0 ≤ t8 ∧ t8 < (s.length : Int)) ∧
 (s[(t8).toNat]? = some [dL vx]) ∧
 (FnD prog f ([vD (dL vx)] ++ fc.map dV) (vD (dB r)) []) ∧
 ((r = true →
 R (vD (dI t8)) []) ∧
 (r = false →
 J0 (IntKind.i64.wrap (t8 + (1 : Int))) ∧ μ0 (IntKind.i64.wrap (t8 + (1 : Int))) < μ0 t8))) ∧
 (decide (t8 < (s.length : Int)) = false →
 R (vD (dI (-1 : Int))) [])
theorem vc114_ok (s : DL) (f : FuncId) (fc : List D) {R : V → Heap → Prop} (h : vc114 s f fc R) : FnG prog 114 [vD (dL s), vD (D.fn (.func f) fc)] [] R :=
  FnG.vcg hT func114 ntmps114 (.r0 [0, 1] <| .r0 [0, 1, 7, 8] <| .lp [.i] (fun t8 => ⟨[(0, vD (dL s)), (1, vD (D.fn (.func f) fc)), (7, vD (dI (s.length : Int))), (8, vD (dI t8))], [], 19⟩) [.i (0 : Int)] <| .fi fun t8 => .beg <| .r0 [0, 1, 7, 8, 9] <| .c2 (.r0 [0, 1, 5, 7, 8] <| .exl fun vx => .exb fun r => .reg 0 [(4, Or.cells [dL vx], 0, 0), (5, Or.call (vD (dB r)) [] [], 0, 0)] [0, 1, 5, 7, 8, 16] [] [] <| .c2 (.r0 [4] <| .ret []) (.r0 [0, 1, 7, 8] <| .bk 0 [.i (IntKind.i64.wrap (t8 + (1 : Int)))])) (.r0 [4] <| .ret []))
    (by kernel_rfl) (by kernel_rfl) (by kernel_rfl) h
def vc19 (p0 p1 : Int) (p2 : DL) (p3 p4 : Int) (p5 : DL) (p6 p7 : Int) (p8 : DL) (p9 p10 : Int) (p11 : DL) (p12 p13 : Int) (p14 : Bool) (R : V → Heap → Prop) : Prop :=
 ∃ (r : Bool),
 (FnD prog 43 [vA [sD (dI p0), sD (dI p1), sD (dL p2)]] (vD (dB r)) []) ∧
 (((!r) = true →
 R (vD (dB false)) []) ∧
 ((!r) = false →
 ∃ (r1 : Bool),
 (FnD prog 44 [vA [sD (dI p3), sD (dI p4), sD (dL p5)], vD (dI p0), vD (dI p1)] (vD (dB r1)) []) ∧
 (((!r1) = true →
 R (vD (dB false)) []) ∧
 ((!r1) = false →
 ∃ (r2 : Bool),
 (FnD prog 44 [vA [sD (dI p6), sD (dI p7), sD (dL p8)], vD (dI p0), vD (dI p0)] (vD (dB r2)) []) ∧
 (((!r2) = true →
 R (vD (dB false)) []) ∧
 ((!r2) = false →
 ∃ (r3 : Bool),
 (FnD prog 44 [vA [sD (dI p9), sD (dI p10), sD (dL p11)], vD (dI p0), vD (dI p0)] (vD (dB r3)) []) ∧
 (((!r3) = true →
 R (vD (dB false)) []) ∧
 ((!r3) = false →
 (decide (p12 < (0 : Int)) = true →
 R (vD (dB false)) []) ∧
 (decide (p12 < (0 : Int)) = false →
 (decide (p12 > p0) = true →
 R (vD (dB false)) []) ∧
 (decide (p12 > p0) = false →
 (decide (p13 < p12) = true →
 R (vD (dB false)) []) ∧
 (decide (p13 < p12) = false →
 (decide (p13 > p1) = true →
 R (vD (dB false)) []) ∧
 (decide (p13 > p1) = false →
 ∃ (r4 : Bool),
 (FnD prog 29 [vA [sD (dI p0), sD (dI p1), sD (dL p2), sD (dI p3), sD (dI p4), sD (dL p5), sD (dI p6), sD (dI p7), sD (dL p8), sD (dI p9), sD (dI p10), sD (dL p11), sD (dI p12), sD (dI p13), sD (dB p14)]] (vD (dB r4)) []) ∧
 (((!(p14 == r4)) = true →
 R (vD (dB false)) []) ∧
 ((!(p14 == r4)) = false →
 ∃ (r5 : Bool),
 (FnD prog 45 [vA [sD (dI p6), sD (dI p7), sD (dL p8)], vA [sD (dI p0), sD (dI p1), sD (dL p2)], vA [sD (dI p3), sD (dI p4), sD (dL p5)]] (vD (dB r5)) []) ∧
 (((!r5) = true →
 R (vD (dB false)) []) ∧
 ((!r5) = false →
 ∃ (r0 r11 : Int) (r21 : DL) (r6 : Bool),
 (FnD prog 28 [vD (dI p0)] (vA [sD (dI r0), sD (dI r11), sD (dL r21)]) []) ∧
 (FnD prog 45 [vA [sD (dI p6), sD (dI p7), sD (dL p8)], vA [sD (dI p9), sD (dI p10), sD (dL p11)], vA [sD (dI r0), sD (dI r11), sD (dL r21)]] (vD (dB r6)) []) ∧
 (((!r6) = true →
 R (vD (dB false)) []) ∧
 ((!r6) = false →
 ∃ (J0 : (DL) → Int → Prop) (μ0 : (DL) → Int → Nat),
 J0 ([] : DL) (0 : Int) ∧ ∀ (o2 : DL) (t101 : Int), J0 o2 t101 →
 (decide (t101 < (p5.length : Int)) = true →
 ∃ (vx : DL),
 (0 ≤ t101 ∧ t101 < (p5.length : Int)) ∧
 (p5[(t101).toNat]? = some [dL vx]) ∧
 (∃ (r7 : Bool),
 (0 ≤ p13 ∧ p13 ≤ (vx.length : Int)) ∧
 (FnD prog 46 [vD (dL (vx.take (p13).toNat))] (vD (dB r7)) []) ∧
 (((!(r7 == (decide (t101 ≥ p12)))) = true →
 R (vD (dB false)) []) ∧
 ((!(r7 == (decide (t101 ≥ p12)))) = false →
 (decide (t101 < p12) = true →
 ((o2.length + ([[dL (vx.take (p13).toNat)]] : DL).length) * 24 ≤ 140737488355328) ∧
 (J0 (o2 ++ [[dL (vx.take (p13).toNat)]]) (IntKind.i64.wrap (t101 + (1 : Int))) ∧ μ0 (o2 ++ [[dL (vx.take (p13).toNat)]]) (IntKind.i64.wrap (t101 + (1 : Int))) < μ0 o2 t101)) ∧
 (decide (t101 < p12) = false →
 J0 o2 (IntKind.i64.wrap (t101 + (1 : Int))) ∧ μ0 o2 (IntKind.i64.wrap (t101 + (1 : Int))) < μ0 o2 t101))))) ∧
 (decide (t101 < (p5.length : Int)) = false →
 ∃ (r8 : Bool),
 (FnD prog 47 [vA [sD (dI p12), sD (dI p13), sD (dL o2)]] (vD (dB r8)) []) ∧
 (R (vD (dB r8)) []))))))))))))))))))))
theorem vc19_ok (p0 p1 : Int) (p2 : DL) (p3 p4 : Int) (p5 : DL) (p6 p7 : Int) (p8 : DL) (p9 p10 : Int) (p11 : DL) (p12 p13 : Int) (p14 : Bool) {R : V → Heap → Prop} (h : vc19 p0 p1 p2 p3 p4 p5 p6 p7 p8 p9 p10 p11 p12 p13 p14 R) : FnG prog 19 [vA [sD (dI p0), sD (dI p1), sD (dL p2), sD (dI p3), sD (dI p4), sD (dL p5), sD (dI p6), sD (dI p7), sD (dL p8), sD (dI p9), sD (dI p10), sD (dL p11), sD (dI p12), sD (dI p13), sD (dB p14)]] [] R :=
  FnG.vcg hT func19 ntmps19 (.reg 1 [(0, Or.none, 0, 1)] [1] [0] [] <| .r1 [1, 3] [0] <| .exb fun r => .ob (FnD prog 43 [vA [sD (dI p0), sD (dI p1), sD (dL p2)]] (vD (dB r)) []) <| .spl ((!r)) (.drw 0 [(2, (Or.call (vD (dB r)) [] [], 0, 0), []), (4, (Or.bool true, 0, 0), [])] [1, 3, 73] [0] [.old 1, .old 0] <| .ct true none <| .r0 [2] <| .ret []) (.exb fun r1 => .ob (FnD prog 44 [vA [sD (dI p3), sD (dI p4), sD (dL p5)], vD (dI p0), vD (dI p1)] (vD (dB r1)) []) <| .spl ((!r1)) (.drw 0 [(2, (Or.call (vD (dB r)) [] [], 0, 0), []), (4, (Or.bool false, 0, 0), []), (11, (Or.call (vD (dB r1)) [] [], 0, 0), []), (14, (Or.bool true, 0, 0), [])] [1, 3, 73] [0] [.old 3, .old 2, .old 1, .old 0] <| .ct true none <| .r0 [2] <| .ret []) (.exb fun r2 => .ob (FnD prog 44 [vA [sD (dI p6), sD (dI p7), sD (dL p8)], vD (dI p0), vD (dI p0)] (vD (dB r2)) []) <| .spl ((!r2)) (.drw 0 [(2, (Or.call (vD (dB r)) [] [], 0, 0), []), (4, (Or.bool false, 0, 0), []), (11, (Or.call (vD (dB r1)) [] [], 0, 0), []), (14, (Or.bool false, 0, 0), []), (19, (Or.call (vD (dB r2)) [] [], 0, 0), []), (22, (Or.bool true, 0, 0), [])] [1, 3, 73] [0] [.old 5, .old 4, .old 3, .old 2, .old 1, .old 0] <| .ct true none <| .r0 [2] <| .ret []) (.exb fun r3 => .ob (FnD prog 44 [vA [sD (dI p9), sD (dI p10), sD (dL p11)], vD (dI p0), vD (dI p0)] (vD (dB r3)) []) <| .spl ((!r3)) (.drw 0 [(2, (Or.call (vD (dB r)) [] [], 0, 0), []), (4, (Or.bool false, 0, 0), []), (11, (Or.call (vD (dB r1)) [] [], 0, 0), []), (14, (Or.bool false, 0, 0), []), (19, (Or.call (vD (dB r2)) [] [], 0, 0), []), (22, (Or.bool false, 0, 0), []), (27, (Or.call (vD (dB r3)) [] [], 0, 0), []), (30, (Or.bool true, 0, 0), [])] [1, 3, 73] [0] [.old 7, .old 6, .old 5, .old 4, .old 3, .old 2, .old 1, .old 0] <| .ct true none <| .r0 [2] <| .ret []) (.spl ((decide (p12 < (0 : Int)))) (.drw 0 [(2, (Or.call (vD (dB r)) [] [], 0, 0), []), (4, (Or.bool false, 0, 0), []), (11, (Or.call (vD (dB r1)) [] [], 0, 0), []), (14, (Or.bool false, 0, 0), []), (19, (Or.call (vD (dB r2)) [] [], 0, 0), []), (22, (Or.bool false, 0, 0), []), (27, (Or.call (vD (dB r3)) [] [], 0, 0), []), (30, (Or.bool false, 0, 0), []), (35, (Or.bool true, 0, 0), [])] [1, 3, 73] [0] [.old 8, .old 7, .old 6, .old 5, .old 4, .old 3, .old 2, .old 1, .old 0] <| .ct true none <| .r0 [2] <| .ret []) (.spl ((decide (p12 > p0))) (.drw 0 [(2, (Or.call (vD (dB r)) [] [], 0, 0), []), (4, (Or.bool false, 0, 0), []), (11, (Or.call (vD (dB r1)) [] [], 0, 0), []), (14, (Or.bool false, 0, 0), []), (19, (Or.call (vD (dB r2)) [] [], 0, 0), []), (22, (Or.bool false, 0, 0), []), (27, (Or.call (vD (dB r3)) [] [], 0, 0), []), (30, (Or.bool false, 0, 0), []), (35, (Or.bool false, 0, 0), []), (41, (Or.bool true, 0, 0), [])] [1, 3, 73] [0] [.old 9, .old 8, .old 7, .old 6, .old 5, .old 4, .old 3, .old 2, .old 1, .old 0] <| .ct true none <| .r0 [2] <| .ret []) (.spl ((decide (p13 < p12))) (.drw 0 [(2, (Or.call (vD (dB r)) [] [], 0, 0), []), (4, (Or.bool false, 0, 0), []), (11, (Or.call (vD (dB r1)) [] [], 0, 0), []), (14, (Or.bool false, 0, 0), []), (19, (Or.call (vD (dB r2)) [] [], 0, 0), []), (22, (Or.bool false, 0, 0), []), (27, (Or.call (vD (dB r3)) [] [], 0, 0), []), (30, (Or.bool false, 0, 0), []), (35, (Or.bool false, 0, 0), []), (41, (Or.bool false, 0, 0), []), (48, (Or.bool true, 0, 0), [])] [1, 3, 73] [0] [.old 10, .old 9, .old 8, .old 7, .old 6, .old 5, .old 4, .old 3, .old 2, .old 1, .old 0] <| .ct true none <| .r0 [2] <| .ret []) (.spl ((decide (p13 > p1))) (.drw 0 [(2, (Or.call (vD (dB r)) [] [], 0, 0), []), (4, (Or.bool false, 0, 0), []), (11, (Or.call (vD (dB r1)) [] [], 0, 0), []), (14, (Or.bool false, 0, 0), []), (19, (Or.call (vD (dB r2)) [] [], 0, 0), []), (22, (Or.bool false, 0, 0), []), (27, (Or.call (vD (dB r3)) [] [], 0, 0), []), (30, (Or.bool false, 0, 0), []), (35, (Or.bool false, 0, 0), []), (41, (Or.bool false, 0, 0), []), (48, (Or.bool false, 0, 0), []), (56, (Or.bool true, 0, 0), [])] [1, 3, 73] [0] [.old 11, .old 10, .old 9, .old 8, .old 7, .old 6, .old 5, .old 4, .old 3, .old 2, .old 1, .old 0] <| .ct true none <| .r0 [2] <| .ret []) (.exb fun r4 => .drw 0 [(2, (Or.call (vD (dB r)) [] [], 0, 0), []), (4, (Or.bool false, 0, 0), []), (11, (Or.call (vD (dB r1)) [] [], 0, 0), []), (14, (Or.bool false, 0, 0), []), (19, (Or.call (vD (dB r2)) [] [], 0, 0), []), (22, (Or.bool false, 0, 0), []), (27, (Or.call (vD (dB r3)) [] [], 0, 0), []), (30, (Or.bool false, 0, 0), []), (35, (Or.bool false, 0, 0), []), (41, (Or.bool false, 0, 0), []), (48, (Or.bool false, 0, 0), []), (56, (Or.bool false, 0, 0), []), (60, (Or.call (vD (dB r4)) [] [], 0, 0), [])] [1, 3, 73] [0] [.old 11, .old 10, .old 9, .old 8, .old 7, .old 6, .old 5, .old 4, .old 3, .old 2, .old 1, .old 0] <| .c2 (.r0 [2] <| .ret []) (.exb fun r5 => .ob (FnD prog 45 [vA [sD (dI p6), sD (dI p7), sD (dL p8)], vA [sD (dI p0), sD (dI p1), sD (dL p2)], vA [sD (dI p3), sD (dI p4), sD (dL p5)]] (vD (dB r5)) []) <| .spl ((!r5)) (.drw 0 [(6, (Or.call (vD (dB r5)) [] [], 0, 0), []), (8, (Or.bool true, 0, 0), [])] [1, 91] [0] [.old 1, .old 0] <| .ct true none <| .r0 [2] <| .ret []) (.ex fun r0 => .ex fun r11 => .exl fun r21 => .exb fun r6 => .drw 0 [(6, (Or.call (vD (dB r5)) [] [], 0, 0), []), (8, (Or.bool false, 0, 0), []), (14, (Or.call (vA [sD (dI r0), sD (dI r11), sD (dL r21)]) [] [], 0, 0), []), (15, (Or.call (vD (dB r6)) [] [], 0, 0), [])] [1, 91] [0] [.old 1, .old 0] <| .c2 (.r0 [2] <| .ret []) (.reg 1 [(5, Or.none, 1, 1)] [1, 4] [0, 1] [] <| .r1 [1, 4, 99, 100, 101] [0, 1] <| .ado [] [1] 1 <| .lp [.l, .i] (fun o2 t101 => ⟨[(1, vP 0 0), (4, vP 1 0), (99, vD (dL p5)), (100, vD (dI (p5.length : Int))), (101, vD (dI t101))], [some (Obj.box [sD (dI p0), sD (dI p1), sD (dL p2), sD (dI p3), sD (dI p4), sD (dL p5), sD (dI p6), sD (dI p7), sD (dL p8), sD (dI p9), sD (dI p10), sD (dL p11), sD (dI p12), sD (dI p13), sD (dB p14)]), some (Obj.box [sD (dI p12), sD (dI p13), S.ref 2]), some (Obj.arr 1 o2)], 135⟩) [.l ([] : DL), .i (0 : Int)] <| .fl fun o2 => .fi fun t101 => .beg <| .r1 [1, 4, 99, 100, 101, 102] [0, 1, 2] <| .c2 (.exl fun vx => .reg 0 [(2, Or.cells [dL vx], 0, 0)] [1, 4, 5, 6, 99, 100, 101] [0, 1, 2] [] <| .exb fun r7 => .reg 0 [(4, Or.call (vD (dB r7)) [] [], 0, 0)] [1, 4, 5, 6, 7, 99, 100, 101] [0, 1, 2] [] <| .r1 [1, 4, 5, 6, 99, 100, 101, 111] [0, 1, 2] <| .c2 (.r0 [2] <| .ret []) (.r1 [1, 4, 6, 99, 100, 101, 118] [0, 1, 2] <| .c2 (.drw 2 [(6, (Or.none, 3, 1), [3]), (7, (Or.none, 4, 1), [2, 4]), (9, (Or.none, 0, 0), [1])] [1, 4, 99, 100, 101] [0, 1, 4] [.old 3] <| .r1 [1, 4, 99, 100, 101] [0, 1, 2] <| .bk 0 [.l (o2 ++ [[dL (vx.take (p13).toNat)]]), .i (IntKind.i64.wrap (t101 + (1 : Int)))]) (.r1 [1, 4, 99, 100, 101] [0, 1, 2] <| .bk 0 [.l o2, .i (IntKind.i64.wrap (t101 + (1 : Int)))]))) (.frz [2] <| .exb fun r8 => .reg 0 [(1, Or.call (vD (dB r8)) [] [], 0, 0)] [2] [] [] <| .ret [])))))))))))))
    (by kernel_rfl) (by kernel_rfl) (by kernel_rfl) h
end Go.AM
/- Hermite normal forms: what the tests answer; products of great numbers. -/
namespace Go.AM
open Go.Proofs.Tryz
section
variable {K : Nat} (hS : ∀ y : Int, y.natAbs ≤ 4294967296 * (K * K) → Sz y)
include hS
theorem bigK {y : Int} (h : y.natAbs ≤ K) : Sz y := hS y (Nat.le_trans (Nat.le_trans h (kk_le K)) (Nat.le_mul_of_pos_left _ (by decide)))
theorem bigKK {y : Int} (h : y.natAbs ≤ K * K) : Sz y := hS y (Nat.le_trans h (Nat.le_mul_of_pos_left _ (by decide)))
theorem foldB {a b : List Int} (hab : a.length = b.length) (ha : BdR K a) (hb : BdR K b) (hl : a.length ≤ 4294967296) :
    FnD prog 122 [vs (row a), vs (row b), eI 0, .e (.sc (.dat (.fn (.func 123) ([] : List D))))] (eI (dsum (elr a) (elr b) a.length)) [] := by
  have hnK : ∀ n, n ≤ a.length → n * (K * K) ≤ 4294967296 * (K * K) := fun n hn => Nat.mul_le_mul_right _ (by omega)
  refine vc122_ok _ _ _ _ _ _ (R := Out _) ?_
  unfold vc122
  simp only [row_length]
  refine ⟨fun o0 o1 t => ∃ i : Nat, t = (i : Int) ∧ i ≤ a.length ∧ o0 = decide (dsum (elr a) (elr b) i < 0) ∧ o1 = lim (dz (dsum (elr a) (elr b) i)), fun _ _ t => ((a.length : Int) - t).toNat, ⟨0, rfl, by omega, rfl, rfl⟩, ?_⟩
  rintro _ _ _ ⟨i, rfl, hi, rfl, rfl⟩
  refine ⟨fun h => ?_, fun h => ?_⟩
  · have hia : i < a.length := by simpa using h
    have hib : i < b.length := by omega
    have hs : Sz (dsum (elr a) (elr b) i) := hS _ (Nat.le_trans (dsum_le (K := K) (L := K) i (fun k hk => ha _ (elr_mem (by omega))) fun k hk => hb _ (elr_mem (by omega))) (hnK i hi))
    have hx := ha _ (elr_mem hia)
    have hy := hb _ (elr_mem hib)
    refine ⟨_, _, _, _, decide (dsum (elr a) (elr b) (i + 1) < 0), lim (dz (dsum (elr a) (elr b) (i + 1))), ⟨by omega, by omega⟩, row_getN hia, ⟨by omega, by omega⟩, row_getN hib, dstep_ok hs (bigK hS hx) (bigK hS hy) (bigKK hS (mul_natAbs_le hx hy)), ?_⟩
    rw [inc64 (by omega)]
    exact ⟨⟨i + 1, rfl, by omega, rfl, rfl⟩, by show ((a.length : Int) - ((i + 1 : Nat) : Int)).toNat < ((a.length : Int) - (i : Int)).toNat; omega⟩
  · have hia : i = a.length := by have : a.length ≤ i := by simpa using h
                                  omega
    subst hia
    exact ⟨rfl, rfl⟩
theorem dotB {a b : List Int} (hab : a.length = b.length) (ha : BdR K a) (hb : BdR K b) (hl : a.length ≤ 4294967296) :
    FnD prog 105 [vs (row a), vs (row b)] (eI (dsum (elr a) (elr b) a.length)) [] := by
  refine vc105_ok _ _ (R := Out _) ?_
  unfold vc105
  exact ⟨_, _, foldB hS hab ha hb hl, rfl, rfl⟩
theorem mmulB {r n c : Nat} {a b : List (List Int)} (ha : Mx r n a) (hb : Mx n c b) (ka : BdM K a) (kb : BdM K b) (hr : r ≤ 4294967296) (hn : n ≤ 4294967296) (hc : c ≤ 4294967296) :
    FnD prog 79 [eM r n a, eM n c b] (eME r c (mmul r n c a b) 0) [] := by
  refine vc79_ok _ _ _ _ _ _ (R := Out _) ?_
  unfold vc79
  refine ⟨fun h => by simp at h, fun _ => ⟨_, _, _, transpose_ok hb hn hc, _, _, _, build_ok hr hc (g := fun i j => dsum (fun k => el a i k) (fun k => el b k j) n) fun i j hi hj => ?_, rfl, rfl⟩⟩
  refine vc104_ok _ _ _ _ _ _ _ _ (R := Out _) ?_
  unfold vc104
  have h1 : i < a.length := by rw [ha.1]; exact hi
  have h2 : j < (table c n fun i j => el b j i).length := by simp [table, hj]
  have hla : (a.getD i []).length = n := ha.2 _ (getD_mem h1)
  have hlb : ((table c n fun i j => el b j i).getD j []).length = n := by rw [getD_table hj]; simp [tableR]
  have hba : BdR K (a.getD i []) := ka _ (getD_mem h1)
  have hbb : BdR K ((table c n fun i j => el b j i).getD j []) := table_bd (fun i j hi hj => el_bd hb kb hj hi) _ (getD_mem h2)
  refine ⟨_, _, decide (dsum (fun k => el a i k) (fun k => el b k j) n < 0), lim (dz (dsum (fun k => el a i k) (fun k => el b k j) n)), ⟨by omega, by rw [rows_length]; omega⟩, rows_getN h1, ⟨by omega, by rw [rows_length]; omega⟩, rows_getN h2, ?_, rfl, rfl⟩
  have := dotB hS (hla.trans hlb.symm) hba hbb (by omega)
  have e : dsum (elr (a.getD i [])) (elr ((table c n fun i j => el b j i).getD j [])) (a.getD i []).length = dsum (fun k => el a i k) (fun k => el b k j) n := by
    rw [hla]
    refine dsum_congr n (fun k hk => rfl) fun k hk => ?_
    rw [getD_table hj, elr_tableR hk]
  rw [e] at this
  exact this
theorem m5mulB {r n c : Nat} {a b : List (List Int)} (ha : Mx r n a) (hb : Mx n c b) (ka : BdM K a) (kb : BdM K b) (hr : r ≤ 4294967296) (hn : n ≤ 4294967296) (hc : c ≤ 4294967296) :
    FnD prog 72 [eM r n a, eM n c b] (eME r c (mmul r n c a b) 0) [] := by
  refine vc72_ok _ _ _ _ _ _ (R := Out _) ?_
  unfold vc72
  obtain ⟨p, hp⟩ : ∃ p : Nat → Nat → Nat → Int, p = fun i j k => dsum (fun k => el a i k) (fun k => el b k j) k := ⟨_, rfl⟩
  obtain ⟨f, hf⟩ : ∃ f : Nat → Nat → Int, f = fun i j => p i j n := ⟨_, rfl⟩
  refine ⟨fun h => by simp at h, fun _ => ?_⟩
  refine ⟨_, _, _, rnew_ok hr hc, fun o t => ∃ i : Nat, t = (i : Int) ∧ i ≤ r ∧ o = om (table r c (gF f i 0)), fun _ t => ((r : Int) - t).toNat, ⟨0, rfl, by omega, gF_zero f⟩, ?_⟩
  rintro _ _ ⟨i, rfl, hi, rfl⟩
  refine ⟨fun h => ?_, fun h => outME ?_⟩
  · have hir : i < r := by simpa using h
    refine ⟨fun o t => ∃ j : Nat, t = (j : Int) ∧ j ≤ c ∧ o = om (table r c (gF f i j)), fun _ t => ((c : Int) - t).toNat, ⟨0, rfl, by omega, rfl⟩, ?_⟩
    rintro _ _ ⟨j, rfl, hj, rfl⟩
    refine ⟨fun h2 => ?_, fun h2 => ?_⟩
    · have hjc : j < c := by simpa using h2
      refine ⟨fun o t => ∃ k : Nat, t = (k : Int) ∧ k ≤ n ∧ o = om (table r c (gM f f i j (p i j k))), fun _ t => ((n : Int) - t).toNat, ⟨0, rfl, by omega, ?_⟩, ?_⟩
      · rw [gM_start]; subst hp; rfl
      rintro _ _ ⟨k, rfl, hk, rfl⟩
      refine ⟨fun h3 => ?_, fun h3 => ?_⟩
      · have hkn : k < n := by simpa using h3
        obtain ⟨e1, e2, e3, e4⟩ := read_el ha hir hkn
        obtain ⟨f1, f2, f3, f4⟩ := read_el hb hkn hjc
        have hx := el_bd ha ka hir hkn
        have hy := el_bd hb kb hkn hjc
        have hxy := mul_natAbs_le hx hy
        have hs : (p i j k).natAbs ≤ 4294967296 * (K * K) := by
          subst hp
          exact Nat.le_trans (dsum_le (K := K) (L := K) k (fun l hl => el_bd ha ka hir (by omega)) fun l hl => el_bd hb kb (by omega) hjc) (Nat.mul_le_mul_right _ (by omega))
        refine ⟨decide (p i j k < 0), lim (dz (p i j k)), _, _, _, _, _, _, _, _, decide (p i j (k + 1) < 0), lim (dz (p i j (k + 1))), ⟨by omega, by rw [om_len]; omega⟩, om_in hir hjc, ?_, ⟨by omega, e4⟩, e1, ⟨by omega, e3⟩, e2, ⟨by omega, f4⟩, f1, ⟨by omega, f3⟩, f2, rmul_ok (bigK hS hx) (bigK hS hy), ?_, ?_⟩
        · rw [Int.toNat_natCast, Int.toNat_natCast, at2_om hir hjc]
          unfold gM; rw [if_pos ⟨rfl, rfl⟩]; rfl
        · have := radd_ok (x := p i j k) (y := el a i k * el b k j) (hS _ hs) (bigKK hS hxy)
          have e : p i j (k + 1) = p i j k + el a i k * el b k j := by subst hp; rfl
          rw [e]; exact this
        · rw [inc64 (by omega)]
          refine ⟨⟨k + 1, rfl, by omega, ?_⟩, by show ((n : Int) - ((k + 1 : Nat) : Int)).toNat < ((n : Int) - (k : Int)).toNat; omega⟩
          rw [Int.toNat_natCast, Int.toNat_natCast]
          exact gM_step hir hjc
      · have hkn : k = n := by have : n ≤ k := by simpa using h3
                               omega
        subst hkn
        rw [inc64 (by omega)]
        refine ⟨⟨j + 1, rfl, by omega, ?_⟩, by show ((c : Int) - ((j + 1 : Nat) : Int)).toNat < ((c : Int) - (j : Int)).toNat; omega⟩
        have e : p i j k = f i j := by subst hf; rfl
        rw [e]; exact gM_end
    · have hjc : c ≤ j := by simpa using h2
      rw [inc64 (by omega)]
      exact ⟨⟨i + 1, rfl, by omega, gF_next fun b h1 h2 => by omega⟩, by show ((r : Int) - ((i + 1 : Nat) : Int)).toNat < ((r : Int) - (i : Int)).toNat; omega⟩
  · have hir : i = r := by have : r ≤ i := by simpa using h
                           omega
    subst hir
    rw [gF_all, matD_om]
    subst hf; subst hp; rfl
theorem m5prodB {r n c : Nat} {a b : List (List Int)} (ha : Mx r n a) (hb : Mx n c b) (ka : BdM K a) (kb : BdM K b) (hr : r ≤ 4294967296) (hn : n ≤ 4294967296) (hc : c ≤ 4294967296) :
    FnD prog 37 [eM r n a, eM n c b] (eM r c (mmul r n c a b)) [] := by
  refine vc37_ok _ _ _ _ _ _ (R := Out _) ?_
  unfold vc37
  exact ⟨_, _, _, _, m5mulB hS ha hb ka kb hr hn hc, rfl, rfl⟩
end
def piv (v : List Int) : Int := firstI (fun z => decide (z ≠ 0)) v
theorem piv_cases (v : List Int) : (piv v = -1 ∧ ∀ k, k < v.length → elr v k = 0) ∨ ∃ p : Nat, piv v = (p : Int) ∧ p < v.length ∧ elr v p ≠ 0 ∧ ∀ k, k < p → elr v k = 0 := by
  have key : ∀ n, n ≤ v.length → (∀ k, k < n → elr v k = 0) ∨ ∃ p, p < n ∧ elr v p ≠ 0 ∧ ∀ k, k < p → elr v k = 0 := fun n => by
    induction n with
    | zero => exact fun _ => .inl fun k hk => by omega
    | succ n ih =>
      intro hn
      rcases ih (by omega) with h | ⟨p, h1, h2, h3⟩
      · by_cases h0 : elr v n = 0
        · refine .inl fun k hk => ?_
          by_cases hkn : k = n
          · rw [hkn]; exact h0
          · exact h k (by omega)
        · exact .inr ⟨n, by omega, h0, h⟩
      · exact .inr ⟨p, by omega, h2, h3⟩
  rcases key v.length (Nat.le_refl _) with h | ⟨p, h1, h2, h3⟩
  · exact .inl ⟨firstI_none fun k hk => by simp [h k hk], h⟩
  · exact .inr ⟨p, firstI_at h1 (by simp [h2]) fun k hk => by simp [h3 k hk], h1, h2, h3⟩
theorem rpiv_ok {v : List Int} (hl : v.length ≤ 4294967296) : FnD prog 73 [vs (row v)] (vi (piv v)) [] := by
  refine vc73_ok _ (R := Out _) ?_
  unfold vc73
  simp only [row_length]
  refine ⟨fun t => ∃ i : Nat, t = (i : Int) ∧ i ≤ v.length ∧ ∀ k, k < i → elr v k = 0, fun t => ((v.length : Int) - t).toNat, ⟨0, rfl, by omega, fun k hk => by omega⟩, ?_⟩
  rintro _ ⟨i, rfl, hi, hinv⟩
  refine ⟨fun h => ?_, fun h => outi ?_⟩
  · have hir : i < v.length := by simpa using h
    refine ⟨_, _, _, ⟨by omega, by omega⟩, row_getN hir, rsign_ok _, fun h2 => outi ?_, fun h2 => ?_⟩
    · exact (firstI_at hir (by simpa using sgn_ne.1 h2) fun k hk => by simp [hinv k hk]).symm
    · rw [inc64 (by omega)]
      refine ⟨⟨i + 1, rfl, by omega, fun k hk => ?_⟩, by show ((v.length : Int) - ((i + 1 : Nat) : Int)).toNat < ((v.length : Int) - (i : Int)).toNat; omega⟩
      by_cases hki : k = i
      · subst hki
        apply Classical.byContradiction
        intro hc
        rw [sgn_ne.2 hc] at h2; simp at h2
      · exact hinv k (by omega)
  · have hir : i = v.length := by have : v.length ≤ i := by simpa using h
                                  omega
    exact (firstI_none fun k hk => by simp [hinv k (by omega)]).symm
theorem sgn_bne {z : Int} : ((if z = 0 then (0 : Int) else if z < 0 then -1 else 1) != 0) = decide (z ≠ 0) := by
  by_cases h : z = 0
  · simp [h]
  · by_cases h2 : z < 0
    · simp [h, h2]
    · simp [h, h2]
theorem ppiv_ok {v : List Int} (hl : v.length ≤ 4294967296) : FnD prog 84 [vs (row v)] (vi (piv v)) [] := by
  refine vc84_ok _ (R := Out _) ?_
  unfold vc84
  refine ⟨_, index134_ok (r := v) (f := 112) (fc := []) (p := fun z => decide (z ≠ 0)) hl fun k hk => ?_, rfl, rfl⟩
  refine vc112_ok _ _ (R := Out _) ?_
  unfold vc112
  exact ⟨_, sign_ok _, outb sgn_bne⟩
def lastP (c : Nat) (m : List (List Int)) : Nat → Int
  | 0 => -1
  | i + 1 => if piv (m.getD i []) < 0 then (c : Int) else piv (m.getD i [])
def rowIs (c : Nat) (m : List (List Int)) (i : Nat) : Bool :=
  decide (piv (m.getD i []) < 0) || (decide (lastP c m i < piv (m.getD i [])) && decide (0 < el m i (piv (m.getD i [])).toNat) &&
    (List.range i).all fun k => decide (0 ≤ el m k (piv (m.getD i [])).toNat) && decide (el m k (piv (m.getD i [])).toNat < el m i (piv (m.getD i [])).toNat))
def isHB (r c : Nat) (m : List (List Int)) : Bool := (List.range r).all (rowIs c m)
theorem lastP_succ (c : Nat) (m : List (List Int)) (i : Nat) : lastP c m (i + 1) = if piv (m.getD i []) < 0 then (c : Int) else piv (m.getD i []) := rfl
theorem isHB_false {r c n : Nat} {m : List (List Int)} (hn : n < r) (h : rowIs c m n = false) : isHB r c m = false := by
  unfold isHB
  rw [List.all_eq_false]
  exact ⟨n, List.mem_range.2 hn, by simp [h]⟩
theorem isHB_true {r c : Nat} {m : List (List Int)} (h : ∀ n, n < r → rowIs c m n = true) : isHB r c m = true := by
  unfold isHB
  rw [List.all_eq_true]
  exact fun n hn => h n (List.mem_range.1 hn)
theorem rowIs_neg {c i : Nat} {m : List (List Int)} (h : piv (m.getD i []) < 0) : rowIs c m i = true := by unfold rowIs; rw [decide_eq_true h]; rfl
theorem rowIs_iff {c i p : Nat} {m : List (List Int)} (h : piv (m.getD i []) = (p : Int)) : rowIs c m i = true ↔ lastP c m i < p ∧ 0 < el m i p ∧ ∀ k, k < i → 0 ≤ el m k p ∧ el m k p < el m i p := by
  unfold rowIs
  rw [h, Int.toNat_natCast]
  simp only [Bool.or_eq_true, Bool.and_eq_true, decide_eq_true_eq, List.all_eq_true, List.mem_range]
  constructor
  · rintro (h1 | ⟨⟨h1, h2⟩, h3⟩)
    · omega
    · exact ⟨h1, h2, h3⟩
  · rintro ⟨h1, h2, h3⟩
    exact .inr ⟨⟨h1, h2⟩, h3⟩
theorem rowIs_false {c i p : Nat} {m : List (List Int)} (h : piv (m.getD i []) = (p : Int)) (hn : ¬ (lastP c m i < p ∧ 0 < el m i p ∧ ∀ k, k < i → 0 ≤ el m k p ∧ el m k p < el m i p)) : rowIs c m i = false := by
  cases hb : rowIs c m i with
  | false => rfl
  | true => exact absurd ((rowIs_iff h).1 hb) hn
theorem sgn_le {z : Int} : decide ((if z = 0 then (0 : Int) else if z < 0 then -1 else 1) ≤ 0) = decide (z ≤ 0) := by
  by_cases h : z = 0
  · simp [h]
  · by_cases h2 : z < 0
    · simp [h, h2]; omega
    · simp [h, h2]; omega
theorem sgn_ge {z : Int} : decide ((if z = 0 then (0 : Int) else if z < 0 then -1 else 1) ≥ 0) = decide (z ≥ 0) := by
  by_cases h : z = 0
  · simp [h]
  · by_cases h2 : z < 0
    · simp [h, h2]
    · simp [h, h2]; omega
theorem sgn_ltd {z : Int} : decide ((if z = 0 then (0 : Int) else if z < 0 then -1 else 1) < 0) = decide (z < 0) := by
  by_cases h : z < 0
  · rw [sgn_lt.2 h, decide_eq_true h]
  · rw [decide_eq_false h, decide_eq_false]
    exact fun hc => h (sgn_lt.1 (decide_eq_true hc))
theorem mx_row {r c : Nat} {m : List (List Int)} (hm : Mx r c m) {i : Nat} (hi : i < r) : i < m.length ∧ (m.getD i []).length = c := by
  have h1 : i < m.length := by rw [hm.1]; exact hi
  exact ⟨h1, hm.2 _ (getD_mem h1)⟩
theorem elr_el {m : List (List Int)} {i j : Nat} : elr (m.getD i []) j = el m i j := rfl
theorem szM_el {r c : Nat} {m : List (List Int)} (hm : Mx r c m) (hs : SzM m) {i j : Nat} (hi : i < r) (hj : j < c) : Sz (el m i j) := by
  obtain ⟨h1, h2⟩ := el_mem hm hi hj
  exact hs _ h2 _ (getD_mem (by omega))
theorem rIs_ok {r c : Nat} {m : List (List Int)} (hm : Mx r c m) (hs : SzM m) (hr : r ≤ 4294967296) (hc : c ≤ 4294967296) : FnD prog 39 [eM r c m] (vb (isHB r c m)) [] := by
  refine vc39_ok _ _ _ (R := Out _) ?_
  unfold vc39
  refine ⟨_, rvalidM_ok hm hs hr hc, fun h => absurd h (by decide), fun _ => ?_⟩
  refine ⟨fun last i => ∃ n : Nat, i = (n : Int) ∧ n ≤ r ∧ last = lastP c m n ∧ ∀ j, j < n → rowIs c m j = true, fun _ i => ((r : Int) - i).toNat, ⟨0, rfl, by omega, rfl, fun j hj => by omega⟩, ?_⟩
  rintro _ _ ⟨n, rfl, hn, rfl, hb⟩
  refine ⟨fun h => ?_, fun h => outb ?_⟩
  · have hnr : n < r := by simpa using h
    obtain ⟨hnm, hnl⟩ := mx_row hm hnr
    have bad : rowIs c m n = false → Out (vb (isHB r c m)) (vD (dB false)) [] := fun g => outb (isHB_false hnr g).symm
    have nx : ∀ last, rowIs c m n = true → last = lastP c m (n + 1) → (∃ n' : Nat, IntKind.i64.wrap ((n : Int) + 1) = (n' : Int) ∧ n' ≤ r ∧ last = lastP c m n' ∧ ∀ j, j < n' → rowIs c m j = true) ∧ ((r : Int) - IntKind.i64.wrap ((n : Int) + 1)).toNat < ((r : Int) - (n : Int)).toNat := fun last g g2 => by
      rw [inc64 (by omega)]
      refine ⟨⟨n + 1, rfl, by omega, g2, fun j hj => ?_⟩, by omega⟩
      by_cases hjn : j = n
      · rw [hjn]; exact g
      · exact hb j (by omega)
    refine ⟨_, _, ⟨by omega, by rw [rows_length]; omega⟩, rows_getN hnm, rpiv_ok (by omega), fun h2 => ?_, fun h2 => ?_⟩
    · have h3 := of_decide_eq_true h2
      exact nx _ (rowIs_neg h3) (by rw [lastP_succ, if_pos h3])
    rcases piv_cases (m.getD n []) with ⟨hp, _⟩ | ⟨p, hp, hpc, hpn, _⟩
    · exfalso; have := of_decide_eq_false h2; omega
    rw [hnl] at hpc
    have hlp : lastP c m (n + 1) = (p : Int) := by rw [lastP_succ, if_neg (by omega)]; exact hp
    rw [hp]
    refine ⟨fun h3 => bad (rowIs_false hp fun ⟨g, _⟩ => ?_), fun h3 => ⟨_, _, _, ⟨by omega, by rw [row_length]; omega⟩, row_getN (by omega), rsign_ok _, fun h4 => bad (rowIs_false hp fun ⟨_, g, _⟩ => ?_), fun h4 => ?_⟩⟩
    · have := of_decide_eq_true h3; omega
    · rw [sgn_le] at h4; have := of_decide_eq_true h4; rw [elr_el] at this; omega
    rw [sgn_le, elr_el] at h4
    have g4 := of_decide_eq_false h4
    have g3 := of_decide_eq_false h3
    refine ⟨fun k => ∃ q : Nat, k = (q : Int) ∧ q ≤ n ∧ ∀ j, j < q → 0 ≤ el m j p ∧ el m j p < el m n p, fun k => ((n : Int) - k).toNat, ⟨0, rfl, by omega, fun j hj => by omega⟩, ?_⟩
    rintro _ ⟨q, rfl, hq, hqb⟩
    refine ⟨fun h5 => ?_, fun h5 => nx _ ((rowIs_iff hp).2 ⟨by omega, by omega, fun k hk => hqb k (by have := of_decide_eq_false h5; omega)⟩) hlp.symm⟩
    have hqn : q < n := by simpa using h5
    obtain ⟨hqm, hql⟩ := mx_row hm (show q < r by omega)
    refine ⟨_, _, _, _, ⟨by omega, by rw [rows_length]; omega⟩, rows_getN hqm, ⟨by omega, by rw [row_length]; omega⟩, row_getN (by omega), rsign_ok _, fun h6 => bad (rowIs_false hp fun ⟨_, _, g⟩ => ?_), fun h6 => ⟨_, rcmp_ok (szM_el hm hs (show q < r by omega) hpc) (szM_el hm hs hnr hpc), fun h7 => bad (rowIs_false hp fun ⟨_, _, g⟩ => ?_), fun h7 => ?_⟩⟩
    · rw [sgn_ltd, elr_el] at h6; have := of_decide_eq_true h6; have := (g q hqn).1; omega
    · rw [sgn_ge] at h7; simp only [elr_el] at h7; have := of_decide_eq_true h7; have := (g q hqn).2; omega
    · rw [sgn_ltd, elr_el] at h6
      rw [sgn_ge] at h7
      simp only [elr_el] at h7
      have k6 := of_decide_eq_false h6
      have k7 := of_decide_eq_false h7
      rw [inc64 (by omega)]
      refine ⟨⟨q + 1, rfl, by omega, fun j hj => ?_⟩, by show ((n : Int) - ((q + 1 : Nat) : Int)).toNat < ((n : Int) - (q : Int)).toNat; omega⟩
      by_cases hjq : j = q
      · rw [hjq]; omega
      · exact hqb j (by omega)
  · have hnr : n = r := by have : r ≤ n := by simpa using h
                           omega
    subst hnr
    exact (isHB_true hb).symm
end Go.AM
/- Hermite normal forms: the tests of package hermite; corners; ranks. -/
namespace Go.AM
open Go.Proofs.Tryz
theorem rows_takeN (m : List (List Int)) (n : Nat) : (rows m).take n = rows (m.take n) := by simp [rows, List.map_take]
theorem row_takeN (v : List Int) (n : Nat) : (row v).take n = row (v.take n) := by simp [row, List.map_take]
theorem containsR_ok {m : List (List Int)} {f : FuncId} {fc : List D} {p : Nat → Bool} (hl : m.length ≤ 4294967296) (hf : ∀ k, k < m.length → FnD prog f ([vs (row (m.getD k []))] ++ fc.map dV) (vb (p k)) []) :
    FnD prog 87 [vs (rows m), .e (.sc (.dat (.fn (.func f) fc)))] (vb ((List.range m.length).any p)) [] := by
  refine vc87_ok _ _ _ (R := Out _) ?_
  unfold vc87
  have key : ∃ r : Int, FnD prog 114 [vs (rows m), .e (.sc (.dat (.fn (.func f) fc)))] (vi r) [] ∧ decide (r ≥ 0) = (List.range m.length).any p := by
    by_cases he : ∃ i, i < m.length ∧ p i = true
    · obtain ⟨i0, h1, h2⟩ := he
      obtain ⟨i, hi, hp, hbef⟩ := least_nat (p := p) i0 h2
      refine ⟨(i : Int), ?_, ?_⟩
      · refine vc114_ok _ _ _ (R := Out _) ?_
        unfold vc114
        simp only [rows_length]
        refine ⟨fun t => ∃ n : Nat, t = (n : Int) ∧ n ≤ i, fun t => ((m.length : Int) - t).toNat, ⟨0, rfl, by omega⟩, ?_⟩
        rintro _ ⟨n, rfl, hn⟩
        have hnm : n < m.length := by omega
        refine ⟨fun _ => ⟨_, p n, ⟨by omega, by omega⟩, rows_getN hnm, hf n hnm, fun h2 => outi ?_, fun h2 => ?_⟩, fun h => ?_⟩
        · rcases Nat.lt_or_ge n i with h3 | h3
          · rw [hbef n h3] at h2; exact absurd h2 (by decide)
          · omega
        · have : n < i := by
            rcases Nat.lt_or_ge n i with h3 | h3
            · exact h3
            · rw [show n = i by omega, hp] at h2; exact absurd h2 (by decide)
          rw [inc64 (by omega)]
          exact ⟨⟨n + 1, rfl, by omega⟩, by show ((m.length : Int) - ((n + 1 : Nat) : Int)).toNat < ((m.length : Int) - (n : Int)).toNat; omega⟩
        · exfalso; have : m.length ≤ n := by simpa using h
          omega
      · rw [decide_eq_true (by omega), List.any_eq_true.2 ⟨i0, List.mem_range.2 h1, h2⟩]
    · have hno : ∀ i, i < m.length → p i = false := fun i hi => by
        cases hp : p i with
        | false => rfl
        | true => exact absurd ⟨i, hi, hp⟩ he
      refine ⟨-1, ?_, ?_⟩
      · refine vc114_ok _ _ _ (R := Out _) ?_
        unfold vc114
        simp only [rows_length]
        refine ⟨fun t => ∃ n : Nat, t = (n : Int) ∧ n ≤ m.length, fun t => ((m.length : Int) - t).toNat, ⟨0, rfl, by omega⟩, ?_⟩
        rintro _ ⟨n, rfl, hn⟩
        refine ⟨fun h => ?_, fun _ => outi rfl⟩
        have hnm : n < m.length := by simpa using h
        refine ⟨_, p n, ⟨by omega, by omega⟩, rows_getN hnm, hf n hnm, fun h2 => ?_, fun _ => ?_⟩
        · rw [hno n hnm] at h2; exact absurd h2 (by decide)
        · rw [inc64 (by omega)]
          exact ⟨⟨n + 1, rfl, by omega⟩, by show ((m.length : Int) - ((n + 1 : Nat) : Int)).toNat < ((m.length : Int) - (n : Int)).toNat; omega⟩
      · have : (List.range m.length).any p = false := by
          rw [List.any_eq_false]
          intro i hi
          simp [hno i (List.mem_range.1 hi)]
        rw [this]; rfl
  obtain ⟨r, h1, h2⟩ := key
  exact ⟨r, h1, outb h2⟩
theorem cmpI_ge {x y : Int} (h : ¬ x < 0) : decide (cmpI x y ≥ 0) = (decide (x < 0) || decide (x ≥ y)) := by
  rw [decide_eq_false h, Bool.false_or]
  unfold cmpI
  by_cases h7 : x < y
  · simp [h7]
  · by_cases h9 : y < x
    · simp [h7, h9]; omega
    · simp [h7, h9]; omega
theorem pIs_ok {r c : Nat} {m : List (List Int)} (hm : Mx r c m) (hs : SzM m) (hr : r ≤ 4294967296) (hc : c ≤ 4294967296) : FnD prog 47 [eM r c m] (vb (isHB r c m)) [] := by
  refine vc47_ok _ _ _ (R := Out _) ?_
  unfold vc47
  have hlen : ((rows m).length : Int) = (r : Int) := by rw [rows_length, hm.1]
  rw [hlen]
  refine ⟨_, mvalid_ok hm hs hr hc, fun h => absurd h (by decide), fun _ => ?_⟩
  refine ⟨fun i last => ∃ n : Nat, i = (n : Int) ∧ n ≤ r ∧ last = lastP c m n ∧ ∀ j, j < n → rowIs c m j = true, fun i _ => ((r : Int) - i).toNat, ⟨0, rfl, by omega, rfl, fun j hj => by omega⟩, ?_⟩
  rintro _ _ ⟨n, rfl, hn, rfl, hb⟩
  refine ⟨fun h => ?_, fun h => outb ?_⟩
  · have hnr : n < r := by simpa using h
    obtain ⟨hnm, hnl⟩ := mx_row hm hnr
    have bad : rowIs c m n = false → Out (vb (isHB r c m)) (vD (dB false)) [] := fun g => outb (isHB_false hnr g).symm
    have nx : ∀ last, rowIs c m n = true → last = lastP c m (n + 1) → (∃ n' : Nat, IntKind.i64.wrap ((n : Int) + 1) = (n' : Int) ∧ n' ≤ r ∧ last = lastP c m n' ∧ ∀ j, j < n' → rowIs c m j = true) ∧ ((r : Int) - IntKind.i64.wrap ((n : Int) + 1)).toNat < ((r : Int) - (n : Int)).toNat := fun last g g2 => by
      rw [inc64 (by omega)]
      refine ⟨⟨n + 1, rfl, by omega, g2, fun j hj => ?_⟩, by omega⟩
      by_cases hjn : j = n
      · rw [hjn]; exact g
      · exact hb j (by omega)
    refine ⟨_, ⟨by omega, by omega⟩, rows_getN hnm, _, ppiv_ok (by omega), fun h2 => ?_, fun h2 => ?_⟩
    · have h3 := of_decide_eq_true h2
      exact nx _ (rowIs_neg h3) (by rw [lastP_succ, if_pos h3])
    rcases piv_cases (m.getD n []) with ⟨hp, _⟩ | ⟨p, hp, hpc, hpn, _⟩
    · exfalso; have := of_decide_eq_false h2; omega
    rw [hnl] at hpc
    have hlp : lastP c m (n + 1) = (p : Int) := by rw [lastP_succ, if_neg (by omega)]; exact hp
    rw [hp]
    refine ⟨fun h3 => bad (rowIs_false hp fun ⟨g, _⟩ => ?_), fun h3 => ⟨_, _, _, ⟨by omega, by rw [row_length]; omega⟩, row_getN (by omega), sign_ok _, fun h4 => bad (rowIs_false hp fun ⟨_, g, _⟩ => ?_), fun h4 => ?_⟩⟩
    · have := of_decide_eq_true h3; omega
    · rw [sgn_ltd] at h4; have := of_decide_eq_true h4; rw [elr_el] at this; omega
    rw [sgn_ltd] at h4
    have g4 := of_decide_eq_false h4
    have g3 := of_decide_eq_false h3
    have hpos : 0 < el m n p := by rw [elr_el] at g4 hpn; omega
    have hct := containsR_ok (m := m.take n) (f := 85) (fc := [D.box [dI (p : Int)], D.box [D.sl (row (m.getD n []))]]) (p := fun k => decide (el m k p < 0) || decide (el m k p ≥ el m n p)) (by rw [List.length_take]; omega) fun k hk => ?_
    · refine ⟨_, ⟨by omega, by omega⟩, by rw [Int.toNat_natCast, rows_takeN]; exact hct, fun h5 => ?_, fun h5 => ?_⟩
      · refine bad (rowIs_false hp fun ⟨_, _, g⟩ => ?_)
        rw [List.any_eq_true] at h5
        obtain ⟨k, hk, hk2⟩ := h5
        have hkn : k < n := by have := List.mem_range.1 hk; rw [List.length_take] at this; omega
        have := g k hkn
        simp only [Bool.or_eq_true, decide_eq_true_eq] at hk2
        omega
      · refine nx _ ((rowIs_iff hp).2 ⟨by omega, hpos, fun k hk => ?_⟩) hlp.symm
        rw [List.any_eq_false] at h5
        have := h5 k (List.mem_range.2 (by rw [List.length_take]; omega))
        simp only [Bool.or_eq_true, decide_eq_true_eq, not_or] at this
        omega
    · rw [List.length_take] at hk
      have hkr : k < r := by omega
      obtain ⟨hkm, hkl⟩ := mx_row hm hkr
      have e : (m.take n).getD k [] = m.getD k [] := by
        rw [List.getD_eq_getElem?_getD, List.getElem?_take_of_lt (by omega), ← List.getD_eq_getElem?_getD]
      rw [e]
      refine vc85_ok _ _ _ (R := Out _) ?_
      unfold vc85
      refine ⟨_, _, _, ⟨by omega, by rw [row_length]; omega⟩, row_getN (by omega), sign_ok _, fun h6 => outb ?_, fun h6 => ⟨_, _, _, ⟨by omega, by rw [row_length]; omega⟩, row_getN (by omega), cmp_ok (szM_el hm hs hkr hpc) (szM_el hm hs hnr hpc), outb ?_⟩⟩
      · rw [sgn_ltd] at h6
        simp only [elr_el] at h6
        have h8 := of_decide_eq_true h6
        simp [h8]
      · rw [sgn_ltd] at h6
        simp only [elr_el] at h6
        have h8 := of_decide_eq_false h6
        exact cmpI_ge h8
  · have hnr : n = r := by have : r ≤ n := by simpa using h
                           omega
    subst hnr
    exact (isHB_true hb).symm
def cor (t k : Nat) (m : List (List Int)) : List (List Int) := (m.take t).map (List.take k)
theorem cor_mx {r c t k : Nat} {m : List (List Int)} (hm : Mx r c m) (ht : t ≤ r) (hk : k ≤ c) : Mx t k (cor t k m) := by
  refine ⟨by simp [cor, hm.1, ht], fun x hx => ?_⟩
  simp only [cor, List.mem_map] at hx
  obtain ⟨y, hy, rfl⟩ := hx
  have := hm.2 y (List.mem_of_mem_take hy)
  rw [List.length_take]; omega
theorem cor_sz {t k : Nat} {m : List (List Int)} (hs : SzM m) : SzM (cor t k m) := fun x hx => by
  simp only [cor, List.mem_map] at hx
  obtain ⟨y, hy, rfl⟩ := hx
  exact fun z hz => hs y (List.mem_of_mem_take hy) z (List.mem_of_mem_take hz)
theorem cor_row {t k i : Nat} {m : List (List Int)} (hi : i < t) (hm : t ≤ m.length) : (cor t k m).getD i [] = (m.getD i []).take k := by
  have h1 : i < m.length := by omega
  simp [cor, hi, h1]
theorem cor_succ {t k : Nat} {m : List (List Int)} (ht : t < m.length) : cor (t + 1) k m = cor t k m ++ [(m.getD t []).take k] := by
  unfold cor
  rw [List.take_add_one, List.map_append]
  simp [ht]
theorem corner_ok {r c t k : Nat} {a0 a1 : Int} {m : List (List Int)} (hm : Mx r c m) (ht : t ≤ r) (hk : k ≤ c) (hr : r ≤ 4294967296) : FnD prog 38 [eM a0 a1 m, vi t, vi k] (eM t k (cor t k m)) [] := by
  refine vc38_ok _ _ _ _ _ (R := Out _) ?_
  unfold vc38
  refine ⟨fun o i => ∃ n : Nat, i = (n : Int) ∧ n ≤ t ∧ o = rows (cor n k m), fun _ i => ((t : Int) - i).toNat, ⟨0, rfl, by omega, rfl⟩, ?_⟩
  rintro _ _ ⟨n, rfl, hn, rfl⟩
  refine ⟨fun h => ?_, fun h => ?_⟩
  · have hnt : n < t := by simpa using h
    obtain ⟨hnm, hnl⟩ := mx_row hm (show n < r by omega)
    have hcl : (cor n k m).length = n := (cor_mx hm (by omega) hk).1
    refine ⟨_, ⟨by omega, by rw [rows_length]; omega⟩, rows_getN hnm, ⟨by omega, by rw [row_length]; omega⟩, ?_, ?_⟩
    · rw [rows_length, hcl]; simp only [List.length_cons, List.length_nil]; omega
    · rw [inc64 (by omega), Int.toNat_natCast]
      refine ⟨⟨n + 1, rfl, by omega, ?_⟩, by show ((t : Int) - ((n + 1 : Nat) : Int)).toNat < ((t : Int) - (n : Int)).toNat; omega⟩
      rw [cor_succ hnm, row_takeN]
      simp [rows]
  · have hnt : n = t := by have : t ≤ n := by simpa using h
                           omega
    subst hnt
    exact ⟨rfl, rfl⟩
def rankF : Nat → List (List Int) → Nat
  | 0, _ => 0
  | n + 1, m => if 0 ≤ piv (m.getD n []) then rankF n m + 1 else rankF n m
theorem rankF_le : ∀ n m, rankF n m ≤ n
  | 0, _ => Nat.le_refl _
  | n + 1, m => by have := rankF_le n m; unfold rankF; split <;> omega
theorem rankF_succ (n : Nat) (m : List (List Int)) : rankF (n + 1) m = if 0 ≤ piv (m.getD n []) then rankF n m + 1 else rankF n m := rfl
theorem rankF_full : ∀ n m, rankF n m = n ↔ ∀ i, i < n → 0 ≤ piv (m.getD i [])
  | 0, _ => by simp [rankF]
  | n + 1, m => by
    have h1 := rankF_full n m
    have h2 := rankF_le n m
    have h3 : rankF (n + 1) m = if 0 ≤ piv (m.getD n []) then rankF n m + 1 else rankF n m := rfl
    rw [h3]
    constructor
    · intro h i hi
      split at h
      · rename_i hp
        by_cases hin : i = n
        · rw [hin]; exact hp
        · exact h1.1 (by omega) i (by omega)
      · omega
    · intro h
      rw [if_pos (h n (by omega)), h1.2 fun i hi => h i (by omega)]
theorem rank_ok {r c : Nat} {m : List (List Int)} (hm : Mx r c m) (hr : r ≤ 4294967296) (hc : c ≤ 4294967296) : FnD prog 40 [eM r c m] (vi (rankF r m)) [] := by
  refine vc40_ok _ _ _ (R := Out _) ?_
  unfold vc40
  refine ⟨fun q i => ∃ n : Nat, i = (n : Int) ∧ n ≤ r ∧ q = (rankF n m : Int), fun _ i => ((r : Int) - i).toNat, ⟨0, rfl, by omega, rfl⟩, ?_⟩
  rintro _ _ ⟨n, rfl, hn, rfl⟩
  refine ⟨fun h => ?_, fun h => outi ?_⟩
  · have hnr : n < r := by simpa using h
    obtain ⟨hnm, hnl⟩ := mx_row hm hnr
    have hle := rankF_le n m
    refine ⟨_, _, ⟨by omega, by rw [rows_length]; omega⟩, rows_getN hnm, rpiv_ok (by omega), fun h2 => ?_, fun h2 => ?_⟩
    · rw [inc64 (by omega), inc64 (by omega)]
      have h3 := of_decide_eq_true h2
      exact ⟨⟨n + 1, rfl, by omega, by rw [rankF_succ, if_pos h3]⟩, by show ((r : Int) - ((n + 1 : Nat) : Int)).toNat < ((r : Int) - (n : Int)).toNat; omega⟩
    · rw [inc64 (by omega)]
      have h3 := of_decide_eq_false h2
      exact ⟨⟨n + 1, rfl, by omega, by rw [rankF_succ, if_neg h3]⟩, by show ((r : Int) - ((n + 1 : Nat) : Int)).toNat < ((r : Int) - (n : Int)).toNat; omega⟩
  · have hnr : n = r := by have : r ≤ n := by simpa using h
                           omega
    rw [hnr]
end Go.AM
/- Package step and its reference: Valid; torsionref12.Check. -/
namespace Go.AM
open Go.Proofs.Tryz
def ePi (r c : Nat) (A m u v : List (List Int)) (t k : Int) (b : Bool) : V :=
  vA [sD (dI r), sD (dI c), sD (dL (rows A)), sD (dI r), sD (dI c), sD (dL (rows m)), sD (dI r), sD (dI r), sD (dL (rows u)), sD (dI r), sD (dI r), sD (dL (rows v)), sD (dI t), sD (dI k), sD (dB b)]
def finI (r c : Nat) (t k : Int) : Bool := decide (t ≥ (r : Int)) || decide (k ≥ (c : Int))
theorem finI_ok {r c : Nat} {A m u v : List (List Int)} {t k : Int} {b : Bool} : FnD prog 29 [ePi r c A m u v t k b] (vb (finI r c t k)) [] := by
  refine vc29_ok _ _ _ _ _ _ _ _ _ _ _ _ _ _ _ (R := Out _) ?_
  unfold vc29
  refine ⟨fun h => outb ?_, fun h => outb ?_⟩
  · simp only [finI, h, Bool.true_or]
  · simp only [finI, h, Bool.false_or]
theorem rfinI_ok {r c : Nat} {A m u v : List (List Int)} {t k : Int} {b : Bool} : FnD prog 31 [ePi r c A m u v t k b] (vb (finI r c t k)) [] := by
  refine vc31_ok _ _ _ _ _ _ _ _ _ _ _ _ _ _ _ (R := Out _) ?_
  unfold vc31
  refine ⟨fun h => outb ?_, fun h => outb ?_⟩
  · simp only [finI, h, Bool.true_or]
  · simp only [finI, h, Bool.false_or]
def zP (k : Nat) (m : List (List Int)) (i : Nat) : Bool := !((m.getD i []).take k).any fun z => decide (z ≠ 0)
def zeroB (r t k : Nat) (m : List (List Int)) : Bool := (List.range r).all fun i => decide (i < t) || zP k m i
theorem zP_iff {k i : Nat} {m : List (List Int)} (hk : k ≤ (m.getD i []).length) : zP k m i = true ↔ ∀ j, j < k → el m i j = 0 := by
  unfold zP
  rw [Bool.not_eq_true', List.any_eq_false]
  constructor
  · intro h j hj
    have h1 : ((m.getD i []).take k)[j]? = some (el m i j) := by
      rw [List.getElem?_take_of_lt hj, List.getElem?_eq_getElem (by omega)]
      rw [← elr_el, elr_get (by omega)]
    have := h _ (List.mem_of_getElem? h1)
    simpa using this
  · intro h z hz
    obtain ⟨j, hj⟩ := List.getElem?_of_mem hz
    have hjk : j < k := by
      have := (List.getElem?_eq_some_iff.1 hj).1
      rw [List.length_take] at this; omega
    rw [List.getElem?_take_of_lt hjk, List.getElem?_eq_getElem (by omega)] at hj
    have h2 := h j hjk
    rw [← elr_el, elr_get (by omega)] at h2
    have h3 := Option.some.inj hj
    rw [h2] at h3
    simp [← h3]
def validR (r t k : Nat) (m : List (List Int)) : Bool := isHB t k (cor t k m) && decide (rankF t (cor t k m) = t) && zeroB r t k m
def validI (r c : Nat) (A m u v : List (List Int)) (t k : Int) (b : Bool) : Bool :=
  decide (0 ≤ t) && decide (t ≤ r) && decide (t ≤ k) && decide (k ≤ c) && (b == finI r c t k) && decide (mmul r r c u A = m) && decide (mmul r r r u v = idM r) && validR r t.toNat k.toNat m
theorem validR_iff {r t k : Nat} {m : List (List Int)} : validR r t k m = true ↔ isHB t k (cor t k m) = true ∧ rankF t (cor t k m) = t ∧ zeroB r t k m = true := by
  unfold validR; simp [and_assoc]
theorem bool_eq {b : Bool} {p : Prop} (h : b = true ↔ p) : (p → b = true) ∧ (¬ p → b = false) := ⟨h.2, fun hn => by
  cases b with
  | false => rfl
  | true => exact absurd (h.1 rfl) hn⟩
structure VX (r c K : Nat) (A m u v : List (List Int)) : Prop where
  hA : Mx r c A
  hm : Mx r c m
  hu : Mx r r u
  hv : Mx r r v
  kA : BdM K A
  km : BdM K m
  ku : BdM K u
  kv : BdM K v
  hS : ∀ y : Int, y.natAbs ≤ 4294967296 * (K * K) → Sz y
  hr : r ≤ 4294967296
  hc : c ≤ 4294967296
theorem BdM.szm {K : Nat} {m : List (List Int)} (h : BdM K m) (hS : ∀ y : Int, y.natAbs ≤ 4294967296 * (K * K) → Sz y) : SzM m := fun x hx z hz => bigK hS (h x hx z hz)
section
variable {r c K : Nat} {A m u v : List (List Int)} (C : VX r c K A m u v)
include C
theorem VX.mmul_sz {n c' : Nat} {a b : List (List Int)} (hn : n ≤ 4294967296) (ha : Mx r n a) (hb : Mx n c' b) (ka : BdM K a) (kb : BdM K b) : SzM (mmul r n c' a b) := by
  have := table_bd (r := r) (c := c') (K := 4294967296 * (K * K)) (g := fun i j => dsum (fun k => el a i k) (fun k => el b k j) n) fun i j hi hj =>
    Nat.le_trans (dsum_le (K := K) (L := K) n (fun l hl => el_bd ha ka hi hl) fun l hl => el_bd hb kb hl hj) (Nat.mul_le_mul_right _ hn)
  exact fun x hx z hz => C.hS z (this x hx z hz)
omit C in
theorem VX.same {n c' : Nat} {a b : List (List Int)} (ha : Mx n c' a) (sa : SzM a) (sb : SzM b) (hn : n ≤ 4294967296) (hc' : c' ≤ 4294967296) : FnD prog 22 [eM n c' a, eM n c' b] (vb (decide (a = b))) [] := by
  have := same_ok (r := n) (c := c') (r' := n) (c' := c') sa sb (by rw [ha.1]; exact hn) fun y hy => by rw [ha.2 y hy]; exact hc'
  rwa [show decide ((n : Int) = n ∧ (c' : Int) = c' ∧ a = b) = decide (a = b) by simp] at this
omit C in
theorem VX.equal {n c' : Nat} {a b : List (List Int)} (ha : Mx n c' a) (sa : SzM a) (sb : SzM b) (hn : n ≤ 4294967296) (hc' : c' ≤ 4294967296) : FnD prog 80 [eM n c' a, eM n c' b] (vb (decide (a = b))) [] := by
  have := equal_ok (r := n) (c := c') (r' := n) (c' := c') sa sb (by rw [ha.1]; exact hn) fun y hy => by rw [ha.2 y hy]; exact hc'
  rwa [show decide ((n : Int) = n ∧ (c' : Int) = c' ∧ a = b) = decide (a = b) by simp] at this
theorem rvalidP_ok (t k : Int) (b : Bool) : FnD prog 17 [ePi r c A m u v t k b] (vb (validI r c A m u v t k b)) [] := by
  refine vc17_ok _ _ _ _ _ _ _ _ _ _ _ _ _ _ _ (R := Out _) ?_
  unfold vc17
  have hr := C.hr; have hc := C.hc
  have sA := C.kA.szm C.hS; have sm := C.km.szm C.hS; have su := C.ku.szm C.hS; have sv := C.kv.szm C.hS
  have e1 := sized_ok C.hm sm hr hc r c
  have e2 := sized_ok C.hu su hr hr r r
  have e3 := sized_ok C.hv sv hr hr r r
  rw [decide_eq_true ⟨rfl, rfl⟩] at e1 e2 e3
  refine ⟨_, rvalidM_ok C.hA sA hr hc, fun h => absurd h (by decide), fun _ => ⟨_, e1, _, e2, _, e3, fun h => absurd h (by decide), fun _ => ⟨fun h => absurd h (by decide), fun _ => ⟨fun h => absurd h (by decide), fun _ => ?_⟩⟩⟩⟩
  refine ⟨fun h => outb ?_, fun h1 => ⟨fun h => outb ?_, fun h2 => ⟨fun h => outb ?_, fun h3 => ⟨fun h => outb ?_, fun h4 => ?_⟩⟩⟩⟩
  · have := of_decide_eq_true h; simp [validI, show ¬ 0 ≤ t by omega]
  · have := of_decide_eq_true h; simp [validI, show ¬ t ≤ r by omega]
  · have := of_decide_eq_true h; simp [validI, show ¬ t ≤ k by omega]
  · have := of_decide_eq_true h; simp [validI, show ¬ k ≤ c by omega]
  have g1 : 0 ≤ t := by have := of_decide_eq_false h1; omega
  have g2 : t ≤ r := by have := of_decide_eq_false h2; omega
  have g3 : t ≤ k := by have := of_decide_eq_false h3; omega
  have g4 : k ≤ c := by have := of_decide_eq_false h4; omega
  clear h1 h2 h3 h4
  have p1 := m5prodB C.hS C.hu C.hA C.ku C.kA hr hr hc
  have p2 := m5prodB C.hS C.hu C.hv C.ku C.kv hr hr hr
  have q1 := VX.same (mmul_mx r r c u A) (C.mmul_sz hr C.hu C.hA C.ku C.kA) sm hr hc
  have q2 := VX.same (mmul_mx r r r u v) (C.mmul_sz hr C.hu C.hv C.ku C.kv) (b := idM r) ((idM_bd r).sz (by decide)) hr hr
  refine ⟨_, rfinI_ok, fun h => outb ?_, fun h5 => ⟨_, _, _, _, p1, q1, fun h => outb ?_, fun h6 => ⟨_, _, _, _, _, _, _, p2, FnD.frz (rident_ok hr), q2, fun h => outb ?_, fun h7 => ?_⟩⟩⟩
  · have : (b == finI r c t k) = false := by simpa using h
    simp [validI, this]
  · have : ¬ mmul r r c u A = m := by simpa using h
    simp [validI, this]
  · have : ¬ mmul r r r u v = idM r := by simpa using h
    simp [validI, this]
  have g5 : (b == finI r c t k) = true := by simpa using h5
  have g6 : mmul r r c u A = m := by simpa using h6
  have g7 : mmul r r r u v = idM r := by simpa using h7
  have hv : validI r c A m u v t k b = validR r t.toNat k.toNat m := by simp [validI, g1, g2, g3, g4, g5, g6, g7]
  rw [hv]
  clear hv h5 h6 h7 g5 g6 g7 p1 p2 q1 q2 e1 e2 e3
  obtain ⟨t, rfl⟩ : ∃ n : Nat, t = (n : Int) := ⟨t.toNat, by omega⟩
  obtain ⟨k, rfl⟩ : ∃ n : Nat, k = (n : Int) := ⟨k.toNat, by omega⟩
  rw [Int.toNat_natCast, Int.toNat_natCast]
  have ht : t ≤ r := by omega
  have hk : k ≤ c := by omega
  have cm := cor_mx C.hm ht hk
  refine ⟨_, _, _, corner_ok C.hm ht hk hr, _, rIs_ok cm (cor_sz sm) (by omega) (by omega), fun h => outb ?_, fun h8 => ⟨_, rank_ok cm (by omega) (by omega), fun h => outb ?_, fun h9 => ?_⟩⟩
  · have : isHB t k (cor t k m) = false := by simpa using h
    simp [validR, this]
  · have : ¬ (rankF t (cor t k m) : Int) = t := by simpa using h
    have : ¬ rankF t (cor t k m) = t := by omega
    simp [validR, this]
  have g8 : isHB t k (cor t k m) = true := by simpa using h8
  have g9 : (rankF t (cor t k m) : Int) = t := by simpa using h9
  have g9 : rankF t (cor t k m) = t := by omega
  have hv : validR r t k m = zeroB r t k m := by simp [validR, g8, g9]
  rw [hv]
  have zf : ∀ {i : Nat}, i < r → t ≤ i → zP k m i = false → zeroB r t k m = false := fun {i} hi hti hz => by
    unfold zeroB
    rw [List.all_eq_false]
    exact ⟨i, List.mem_range.2 hi, by simp [hz, hti]⟩
  refine ⟨fun i => ∃ n : Nat, i = (n : Int) ∧ t ≤ n ∧ n ≤ r ∧ ∀ j, t ≤ j → j < n → zP k m j = true, fun i => ((r : Int) - i).toNat, ⟨t, rfl, Nat.le_refl _, ht, fun j hj => by omega⟩, ?_⟩
  rintro _ ⟨n, rfl, htn, hn, hz⟩
  refine ⟨fun h => ?_, fun h => outb ?_⟩
  · have hnr : n < r := by simpa using h
    obtain ⟨hnm, hnl⟩ := mx_row C.hm hnr
    refine ⟨fun j => ∃ q : Nat, j = (q : Int) ∧ q ≤ k ∧ ∀ x, x < q → el m n x = 0, fun j => ((k : Int) - j).toNat, ⟨0, rfl, by omega, fun x hx => by omega⟩, ?_⟩
    rintro _ ⟨q, rfl, hq, hqz⟩
    refine ⟨fun h2 => ?_, fun h2 => ?_⟩
    · have hqk : q < k := by simpa using h2
      refine ⟨_, _, _, _, ⟨by omega, by rw [rows_length]; omega⟩, rows_getN hnm, ⟨by omega, by rw [row_length]; omega⟩, row_getN (by omega), rsign_ok _, fun h3 => outb ?_, fun h3 => ?_⟩
      · have h4 := sgn_ne.1 h3
        symm
        refine zf hnr htn ((bool_eq (zP_iff (by omega))).2 fun hall => h4 (hall q hqk))
      · rw [inc64 (by omega)]
        refine ⟨⟨q + 1, rfl, by omega, fun x hx => ?_⟩, by show ((k : Int) - ((q + 1 : Nat) : Int)).toNat < ((k : Int) - (q : Int)).toNat; omega⟩
        by_cases hxq : x = q
        · apply Classical.byContradiction
          intro hne
          rw [hxq] at hne
          rw [sgn_ne.2 (show elr (m.getD n []) q ≠ 0 from hne)] at h3; simp at h3
        · exact hqz x (by omega)
    · have hqk : q = k := by have : k ≤ q := by simpa using h2
                             omega
      subst hqk
      rw [inc64 (by omega)]
      refine ⟨⟨n + 1, rfl, by omega, by omega, fun j hj hjn => ?_⟩, by show ((r : Int) - ((n + 1 : Nat) : Int)).toNat < ((r : Int) - (n : Int)).toNat; omega⟩
      by_cases h3 : j = n
      · rw [h3]; exact (zP_iff (by omega)).2 hqz
      · exact hz j hj (by omega)
  · have hnr : n = r := by have : r ≤ n := by simpa using h
                           omega
    subst hnr
    symm
    unfold zeroB
    rw [List.all_eq_true]
    intro i hi
    have := List.mem_range.1 hi
    by_cases hit : i < t
    · simp [hit]
    · simp [hz i (by omega) this]
omit C in
theorem psized_ok {n c' : Nat} {a : List (List Int)} (ha : Mx n c' a) (sa : SzM a) (hn : n ≤ 4294967296) (hc' : c' ≤ 4294967296) : FnD prog 44 [eM n c' a, vi n, vi c'] (vb true) [] := by
  refine vc44_ok _ _ _ _ _ (R := Out _) ?_
  unfold vc44
  refine ⟨_, mvalid_ok ha sa hn hc', fun _ => ⟨fun _ => outb (by simp), fun h => by simp at h⟩, fun h => absurd h (by decide)⟩
theorem pproduct_ok {c' : Nat} {a b d : List (List Int)} (ha : Mx r r a) (hb : Mx r c' b) (ka : BdM K a) (kb : BdM K b) (sd : SzM d) (hc' : c' ≤ 4294967296) : FnD prog 45 [eM r r a, eM r c' b, eM r c' d] (vb (decide (mmul r r c' a b = d))) [] := by
  refine vc45_ok _ _ _ _ _ _ _ _ _ (R := Out _) ?_
  unfold vc45
  refine ⟨_, _, _, _, mmulB C.hS ha hb ka kb C.hr C.hr hc', fun _ => ⟨_, VX.equal (mmul_mx r r c' a b) (C.mmul_sz C.hr ha hb ka kb) sd C.hr hc', outb rfl⟩, fun h => by simp at h⟩
omit C in
theorem piv_take {w : List Int} {k : Nat} : 0 ≤ piv (w.take k) ↔ (!(w.take k).any fun z => decide (z ≠ 0)) = false := by
  have := firstI_any (fun z => decide (z ≠ 0)) (w.take k)
  show 0 ≤ firstI _ _ ↔ _
  rw [Bool.not_eq_false', ← this, decide_eq_true_eq]
theorem VX.validR_eq {t k : Nat} (ht : t ≤ r) : validR r t k m = ((List.range r).all (fun i => zP k m i == decide (t ≤ i)) && isHB t k (cor t k m)) := by
  have hl := C.hm.1
  rw [Bool.eq_iff_iff, validR_iff, rankF_full, Bool.and_eq_true, List.all_eq_true]
  unfold zeroB
  rw [List.all_eq_true]
  constructor
  · rintro ⟨h1, h2, h3⟩
    refine ⟨fun i hi => ?_, h1⟩
    by_cases hit : i < t
    · have := h2 i hit
      rw [cor_row hit (by omega), piv_take] at this
      unfold zP
      rw [this, decide_eq_false (by omega)]; rfl
    · have := h3 i hi
      simp only [hit, decide_false, Bool.false_or] at this
      rw [this, decide_eq_true (by omega)]; rfl
  · rintro ⟨h1, h2⟩
    refine ⟨h2, fun i hit => ?_, fun i hi => ?_⟩
    · have := h1 i (List.mem_range.2 (by omega))
      rw [cor_row hit (by omega), piv_take]
      rw [decide_eq_false (by omega), beq_iff_eq] at this
      exact this
    · have := h1 i hi
      by_cases hit : i < t
      · simp [hit]
      · rw [decide_eq_true (by omega), beq_iff_eq] at this
        simp [this]
theorem pvalid_ok (t k : Int) (b : Bool) : FnD prog 19 [ePi r c A m u v t k b] (vb (validI r c A m u v t k b)) [] := by
  refine vc19_ok _ _ _ _ _ _ _ _ _ _ _ _ _ _ _ (R := Out _) ?_
  unfold vc19
  have hr := C.hr; have hc := C.hc
  have sA := C.kA.szm C.hS; have sm := C.km.szm C.hS; have su := C.ku.szm C.hS; have sv := C.kv.szm C.hS
  refine ⟨_, mvalid_ok C.hA sA hr hc, fun h => absurd h (by decide), fun _ => ⟨_, psized_ok C.hm sm hr hc, fun h => absurd h (by decide), fun _ => ⟨_, psized_ok C.hu su hr hr, fun h => absurd h (by decide), fun _ => ⟨_, psized_ok C.hv sv hr hr, fun h => absurd h (by decide), fun _ => ?_⟩⟩⟩⟩
  refine ⟨fun h => outb ?_, fun h1 => ⟨fun h => outb ?_, fun h2 => ⟨fun h => outb ?_, fun h3 => ⟨fun h => outb ?_, fun h4 => ?_⟩⟩⟩⟩
  · have := of_decide_eq_true h; simp [validI, show ¬ 0 ≤ t by omega]
  · have := of_decide_eq_true h; simp [validI, show ¬ t ≤ r by omega]
  · have := of_decide_eq_true h; simp [validI, show ¬ t ≤ k by omega]
  · have := of_decide_eq_true h; simp [validI, show ¬ k ≤ c by omega]
  have g1 : 0 ≤ t := by have := of_decide_eq_false h1; omega
  have g2 : t ≤ r := by have := of_decide_eq_false h2; omega
  have g3 : t ≤ k := by have := of_decide_eq_false h3; omega
  have g4 : k ≤ c := by have := of_decide_eq_false h4; omega
  clear h1 h2 h3 h4
  refine ⟨_, finI_ok, fun h => outb ?_, fun h5 => ⟨_, pproduct_ok C C.hu C.hA C.ku C.kA sm hc, fun h => outb ?_, fun h6 => ⟨_, _, _, _, mident_ok hr, pproduct_ok C C.hu C.hv C.ku C.kv (d := idM r) ((idM_bd r).sz (by decide)) hr, fun h => outb ?_, fun h7 => ?_⟩⟩⟩
  · have : (b == finI r c t k) = false := by simpa using h
    simp [validI, this]
  · have : ¬ mmul r r c u A = m := by simpa using h
    simp [validI, this]
  · have : ¬ mmul r r r u v = idM r := by simpa using h
    simp [validI, this]
  have g5 : (b == finI r c t k) = true := by simpa using h5
  have g6 : mmul r r c u A = m := by simpa using h6
  have g7 : mmul r r r u v = idM r := by simpa using h7
  have hv : validI r c A m u v t k b = validR r t.toNat k.toNat m := by simp [validI, g1, g2, g3, g4, g5, g6, g7]
  rw [hv]
  clear hv h5 h6 h7 g5 g6 g7
  obtain ⟨t, rfl⟩ : ∃ n : Nat, t = (n : Int) := ⟨t.toNat, by omega⟩
  obtain ⟨k, rfl⟩ : ∃ n : Nat, k = (n : Int) := ⟨k.toNat, by omega⟩
  rw [Int.toNat_natCast, Int.toNat_natCast]
  have ht : t ≤ r := by omega
  have hk : k ≤ c := by omega
  rw [C.validR_eq ht]
  have hlen : ((rows m).length : Int) = (r : Int) := by rw [rows_length, C.hm.1]
  rw [hlen]
  have bad : ∀ {n : Nat}, n < r → (zP k m n == decide (t ≤ n)) = false → ((List.range r).all (fun i => zP k m i == decide (t ≤ i)) && isHB t k (cor t k m)) = false := fun {n} hn h => by
    have : (List.range r).all (fun i => zP k m i == decide (t ≤ i)) = false := by
      rw [List.all_eq_false]
      exact ⟨n, List.mem_range.2 hn, by rw [h]; decide⟩
    rw [this]; rfl
  refine ⟨fun o i => ∃ n : Nat, i = (n : Int) ∧ n ≤ r ∧ o = rows (cor (min n t) k m) ∧ ∀ j, j < n → (zP k m j == decide (t ≤ j)) = true, fun _ i => ((r : Int) - i).toNat, ⟨0, rfl, by omega, by rw [Nat.zero_min]; rfl, fun j hj => by omega⟩, ?_⟩
  rintro _ _ ⟨n, rfl, hn, rfl, hz⟩
  refine ⟨fun h => ?_, fun h => ?_⟩
  · have hnr : n < r := by simpa using h
    obtain ⟨hnm, hnl⟩ := mx_row C.hm hnr
    have hzo := mzero_ok (r := (m.getD n []).take k) (by rw [List.length_take]; omega)
    have hdt : decide ((n : Int) ≥ (t : Int)) = decide (t ≤ n) := by
      by_cases h : t ≤ n
      · rw [decide_eq_true h, decide_eq_true (by omega)]
      · rw [decide_eq_false h, decide_eq_false (by omega)]
    refine ⟨_, ⟨by omega, by omega⟩, rows_getN hnm, zP k m n, ⟨by omega, by rw [row_length]; omega⟩, by rw [row_takeN]; exact hzo, fun h2 => outb ?_, fun h2 => ?_⟩
    · rw [hdt] at h2
      exact (bad hnr (by simpa using h2)).symm
    rw [hdt] at h2
    have h3 : (zP k m n == decide (t ≤ n)) = true := by simpa using h2
    have hz' : ∀ j, j < n + 1 → (zP k m j == decide (t ≤ j)) = true := fun j hj => by
      by_cases hjn : j = n
      · rw [hjn]; exact h3
      · exact hz j (by omega)
    rw [inc64 (by omega)]
    refine ⟨fun h4 => ?_, fun h4 => ?_⟩
    · have hnt : n < t := by have := of_decide_eq_true h4; omega
      have hcl : (cor (min n t) k m).length = n := by rw [Nat.min_eq_left (by omega)]; exact (cor_mx C.hm (by omega) hk).1
      refine ⟨?_, ⟨n + 1, rfl, by omega, ?_, hz'⟩, by show ((r : Int) - ((n + 1 : Nat) : Int)).toNat < ((r : Int) - (n : Int)).toNat; omega⟩
      · rw [rows_length, hcl]; simp only [List.length_cons, List.length_nil]; omega
      · rw [Nat.min_eq_left (by omega), Nat.min_eq_left (by omega), cor_succ hnm, row_takeN]
        simp [rows]
    · have hnt : t ≤ n := by have := of_decide_eq_false h4; omega
      refine ⟨⟨n + 1, rfl, by omega, ?_, hz'⟩, by show ((r : Int) - ((n + 1 : Nat) : Int)).toNat < ((r : Int) - (n : Int)).toNat; omega⟩
      rw [Nat.min_eq_right (by omega), Nat.min_eq_right (by omega)]
  · have hnr : n = r := by have : r ≤ n := by simpa using h
                           omega
    subst hnr
    rw [Nat.min_eq_right ht]
    refine ⟨_, pIs_ok (cor_mx C.hm ht hk) (cor_sz sm) (by omega) (by omega), outb ?_⟩
    have : (List.range n).all (fun i => zP k m i == decide (t ≤ i)) = true := by
      rw [List.all_eq_true]
      exact fun i hi => hz i (List.mem_range.1 hi)
    rw [this, Bool.true_and]
end
theorem rcheck_ok {r c K : Nat} {A m u v : List (List Int)} (C : VX r c K A m u v) : FnD prog 21 [eM r c A, eHer r c m u v] (vb (isHB r c m && (decide (mmul r r c u A = m) && decide (mmul r r r u v = idM r)))) [] := by
  refine vc21_ok _ _ _ _ _ _ _ _ _ _ _ _ (R := Out _) ?_
  unfold vc21
  have hr := C.hr; have hc := C.hc
  have sA := C.kA.szm C.hS; have sm := C.km.szm C.hS; have su := C.ku.szm C.hS; have sv := C.kv.szm C.hS
  have e2 := sized_ok C.hu su hr hr r r
  have e3 := sized_ok C.hv sv hr hr r r
  rw [decide_eq_true ⟨rfl, rfl⟩] at e2 e3
  have p1 := m5prodB C.hS C.hu C.hA C.ku C.kA hr hr hc
  have p2 := m5prodB C.hS C.hu C.hv C.ku C.kv hr hr hr
  have q1 := VX.same (mmul_mx r r c u A) (C.mmul_sz hr C.hu C.hA C.ku C.kA) sm hr hc
  have q2 := VX.same (mmul_mx r r r u v) (C.mmul_sz hr C.hu C.hv C.ku C.kv) (b := idM r) ((idM_bd r).sz (by decide)) hr hr
  refine ⟨_, rvalidM_ok C.hA sA hr hc, _, rIs_ok C.hm sm hr hc, fun h => absurd h (by decide), fun _ => ⟨fun h => outb ?_, fun h1 => ⟨fun h => by simp at h, fun _ => ⟨fun h => by simp at h, fun _ => ⟨_, e2, _, e3, fun _ => ⟨fun _ => ⟨_, _, _, _, p1, q1, fun h2 => ⟨_, _, _, _, _, _, _, p2, FnD.frz (rident_ok hr), q2, outb ?_⟩, fun h2 => outb ?_⟩, fun h => absurd h (by decide)⟩, fun h => absurd h (by decide)⟩⟩⟩⟩⟩
  · have : isHB r c m = false := by simpa using h
    rw [this]; rfl
  · have g1 : isHB r c m = true := by simpa using h1
    rw [g1, h2]; rfl
  · rw [h2, Bool.false_and, Bool.and_false]
end Go.AM
/- The fixed examples of the law of steps, with the answers put in. Printed by gen8.py. -/
set_option maxRecDepth 100000
set_option linter.unusedVariables false
namespace Go.AM
open Go.Proofs.Tryz
def vc8 (R : V → Heap → Prop) : Prop :=
 (FnD prog 26 [vD (dI (2 : Int)), vD (dI (1 : Int)), vD (dL [[dI (4 : Int)], [dI (6 : Int)]])] (vA [sD (dI (2 : Int)), sD (dI (1 : Int)), S.ref 0]) [some (Obj.mat 2 (om [[4], [6]]))]) ∧
 (FnD prog 10 [vA [sD (dI (2 : Int)), sD (dI (1 : Int)), sD (dL (matD (om [[4], [6]])))]] (vA [sD (dI (2 : Int)), sD (dI (1 : Int)), sD (dL (rows [[4], [6]])), sD (dI (2 : Int)), sD (dI (1 : Int)), sD (dL (rows [[4], [6]])), sD (dI (2 : Int)), sD (dI (2 : Int)), sD (dL (rows [[1, 0], [0, 1]])), sD (dI (2 : Int)), sD (dI (2 : Int)), sD (dL (rows [[1, 0], [0, 1]])), sD (dI (0 : Int)), sD (dI (0 : Int)), sD (dB false)]) []) ∧
 (FnD prog 13 [vA [sD (dI (2 : Int)), sD (dI (1 : Int)), sD (dL (rows [[4], [6]])), sD (dI (2 : Int)), sD (dI (1 : Int)), sD (dL (rows [[4], [6]])), sD (dI (2 : Int)), sD (dI (2 : Int)), sD (dL (rows [[1, 0], [0, 1]])), sD (dI (2 : Int)), sD (dI (2 : Int)), sD (dL (rows [[1, 0], [0, 1]])), sD (dI (0 : Int)), sD (dI (0 : Int)), sD (dB false)], vD (dI (1 : Int))] (vA [sD (dI (2 : Int)), sD (dI (1 : Int)), sD (dL (rows [[4], [6]])), sD (dI (2 : Int)), sD (dI (1 : Int)), sD (dL (rows [[4], [2]])), sD (dI (2 : Int)), sD (dI (2 : Int)), sD (dL (rows [[1, 0], [-1, 1]])), sD (dI (2 : Int)), sD (dI (2 : Int)), sD (dL (rows [[1, 0], [1, 1]])), sD (dI (0 : Int)), sD (dI (0 : Int)), sD (dB false)]) []) ∧
 (FnD prog 13 [vA [sD (dI (2 : Int)), sD (dI (1 : Int)), sD (dL (rows [[4], [6]])), sD (dI (2 : Int)), sD (dI (1 : Int)), sD (dL (rows [[4], [2]])), sD (dI (2 : Int)), sD (dI (2 : Int)), sD (dL (rows [[1, 0], [-1, 1]])), sD (dI (2 : Int)), sD (dI (2 : Int)), sD (dL (rows [[1, 0], [1, 1]])), sD (dI (0 : Int)), sD (dI (0 : Int)), sD (dB false)], vD (dI (1 : Int))] (vA [sD (dI (2 : Int)), sD (dI (1 : Int)), sD (dL (rows [[4], [6]])), sD (dI (2 : Int)), sD (dI (1 : Int)), sD (dL (rows [[2], [4]])), sD (dI (2 : Int)), sD (dI (2 : Int)), sD (dL (rows [[-1, 1], [1, 0]])), sD (dI (2 : Int)), sD (dI (2 : Int)), sD (dL (rows [[0, 1], [1, 1]])), sD (dI (0 : Int)), sD (dI (0 : Int)), sD (dB false)]) []) ∧
 (FnD prog 13 [vA [sD (dI (2 : Int)), sD (dI (1 : Int)), sD (dL (rows [[4], [6]])), sD (dI (2 : Int)), sD (dI (1 : Int)), sD (dL (rows [[2], [4]])), sD (dI (2 : Int)), sD (dI (2 : Int)), sD (dL (rows [[-1, 1], [1, 0]])), sD (dI (2 : Int)), sD (dI (2 : Int)), sD (dL (rows [[0, 1], [1, 1]])), sD (dI (0 : Int)), sD (dI (0 : Int)), sD (dB false)], vD (dI (100 : Int))] (vA [sD (dI (2 : Int)), sD (dI (1 : Int)), sD (dL (rows [[4], [6]])), sD (dI (2 : Int)), sD (dI (1 : Int)), sD (dL (rows [[2], [0]])), sD (dI (2 : Int)), sD (dI (2 : Int)), sD (dL (rows [[-1, 1], [3, -2]])), sD (dI (2 : Int)), sD (dI (2 : Int)), sD (dL (rows [[2, 1], [3, 1]])), sD (dI (1 : Int)), sD (dI (1 : Int)), sD (dB true)]) []) ∧
 (FnD prog 20 [vA [sD (dI (2 : Int)), sD (dI (1 : Int)), sD (dL (rows [[4], [6]])), sD (dI (2 : Int)), sD (dI (1 : Int)), sD (dL (rows [[2], [4]])), sD (dI (2 : Int)), sD (dI (2 : Int)), sD (dL (rows [[-1, 1], [1, 0]])), sD (dI (2 : Int)), sD (dI (2 : Int)), sD (dL (rows [[0, 1], [1, 1]])), sD (dI (0 : Int)), sD (dI (0 : Int)), sD (dB false)]] (V.tup [E.agg [sD (dI (0 : Int)), sD (dI (0 : Int)), sD (dL ([] : DL)), sD (dI (0 : Int)), sD (dI (0 : Int)), sD (dL ([] : DL)), sD (dI (0 : Int)), sD (dI (0 : Int)), sD (dL ([] : DL))], eD (dI (210 : Int))]) []) ∧
 (FnD prog 20 [vA [sD (dI (2 : Int)), sD (dI (1 : Int)), sD (dL (rows [[4], [6]])), sD (dI (2 : Int)), sD (dI (1 : Int)), sD (dL (rows [[2], [0]])), sD (dI (2 : Int)), sD (dI (2 : Int)), sD (dL (rows [[-1, 1], [3, -2]])), sD (dI (2 : Int)), sD (dI (2 : Int)), sD (dL (rows [[2, 1], [3, 1]])), sD (dI (1 : Int)), sD (dI (1 : Int)), sD (dB true)]] (V.tup [E.agg [sD (dI (2 : Int)), sD (dI (1 : Int)), sD (dL (rows [[2], [0]])), sD (dI (2 : Int)), sD (dI (2 : Int)), sD (dL (rows [[-1, 1], [3, -2]])), sD (dI (2 : Int)), sD (dI (2 : Int)), sD (dL (rows [[2, 1], [3, 1]]))], eD (dI (0 : Int))]) []) ∧
 (FnD prog 10 [vA [sD (dI (0 : Int)), sD (dI (3 : Int)), sD (dL ([] : DL))]] (vA [sD (dI (0 : Int)), sD (dI (3 : Int)), sD (dL ([] : DL)), sD (dI (0 : Int)), sD (dI (3 : Int)), sD (dL ([] : DL)), sD (dI (0 : Int)), sD (dI (0 : Int)), sD (dL ([] : DL)), sD (dI (0 : Int)), sD (dI (0 : Int)), sD (dL ([] : DL)), sD (dI (0 : Int)), sD (dI (0 : Int)), sD (dB true)]) []) ∧
 (FnD prog 12 [vA [sD (dI (2 : Int)), sD (dI (1 : Int)), sD (dL (matD (om [[4], [6]])))]] (vA [sD (dI (2 : Int)), sD (dI (1 : Int)), sD (dL (rows [[4], [6]])), sD (dI (2 : Int)), sD (dI (1 : Int)), sD (dL (rows [[4], [6]])), sD (dI (2 : Int)), sD (dI (2 : Int)), sD (dL (rows [[1, 0], [0, 1]])), sD (dI (2 : Int)), sD (dI (2 : Int)), sD (dL (rows [[1, 0], [0, 1]])), sD (dI (0 : Int)), sD (dI (0 : Int)), sD (dB false)]) []) ∧
 (FnD prog 11 [vA [sD (dI (2 : Int)), sD (dI (1 : Int)), sD (dL (rows [[4], [6]])), sD (dI (2 : Int)), sD (dI (1 : Int)), sD (dL (rows [[4], [6]])), sD (dI (2 : Int)), sD (dI (2 : Int)), sD (dL (rows [[1, 0], [0, 1]])), sD (dI (2 : Int)), sD (dI (2 : Int)), sD (dL (rows [[1, 0], [0, 1]])), sD (dI (0 : Int)), sD (dI (0 : Int)), sD (dB false)], vA [sD (dI (2 : Int)), sD (dI (1 : Int)), sD (dL (rows [[4], [6]])), sD (dI (2 : Int)), sD (dI (1 : Int)), sD (dL (rows [[4], [6]])), sD (dI (2 : Int)), sD (dI (2 : Int)), sD (dL (rows [[1, 0], [0, 1]])), sD (dI (2 : Int)), sD (dI (2 : Int)), sD (dL (rows [[1, 0], [0, 1]])), sD (dI (0 : Int)), sD (dI (0 : Int)), sD (dB false)]] (vD (dB true)) []) ∧
 (FnD prog 26 [vD (dI (2 : Int)), vD (dI (1 : Int)), vD (dL [[dI (4 : Int)], [dI (2 : Int)]])] (vA [sD (dI (2 : Int)), sD (dI (1 : Int)), sD (dL (rows [[4], [2]]))]) []) ∧
 (FnD prog 22 [vA [sD (dI (2 : Int)), sD (dI (1 : Int)), sD (dL (rows [[4], [2]]))], vA [sD (dI (2 : Int)), sD (dI (1 : Int)), sD (dL (rows [[4], [2]]))]] (vD (dB true)) []) ∧
 (FnD prog 26 [vD (dI (2 : Int)), vD (dI (1 : Int)), vD (dL [[dI (2 : Int)], [dI (4 : Int)]])] (vA [sD (dI (2 : Int)), sD (dI (1 : Int)), sD (dL (rows [[2], [4]]))]) []) ∧
 (FnD prog 22 [vA [sD (dI (2 : Int)), sD (dI (1 : Int)), sD (dL (rows [[2], [4]]))], vA [sD (dI (2 : Int)), sD (dI (1 : Int)), sD (dL (rows [[2], [4]]))]] (vD (dB true)) []) ∧
 (FnD prog 26 [vD (dI (2 : Int)), vD (dI (1 : Int)), vD (dL [[dI (2 : Int)], [dI (0 : Int)]])] (vA [sD (dI (2 : Int)), sD (dI (1 : Int)), sD (dL (rows [[2], [0]]))]) []) ∧
 (FnD prog 22 [vA [sD (dI (2 : Int)), sD (dI (1 : Int)), sD (dL (rows [[2], [0]]))], vA [sD (dI (2 : Int)), sD (dI (1 : Int)), sD (dL (rows [[2], [0]]))]] (vD (dB true)) []) ∧
 (FnD prog 21 [vA [sD (dI (2 : Int)), sD (dI (1 : Int)), sD (dL (matD (om [[4], [6]])))], vA [sD (dI (2 : Int)), sD (dI (1 : Int)), sD (dL (rows [[2], [0]])), sD (dI (2 : Int)), sD (dI (2 : Int)), sD (dL (rows [[-1, 1], [3, -2]])), sD (dI (2 : Int)), sD (dI (2 : Int)), sD (dL (rows [[2, 1], [3, 1]]))]] (vD (dB true)) []) ∧
 (FnD prog 15 [vA [sD (dI (2 : Int)), sD (dI (1 : Int)), sD (dL (matD (om [[4], [6]])))]] (vD (dI (4 : Int))) []) ∧
 (FnD prog 15 [vA [sD (dI (1 : Int)), sD (dI (0 : Int)), sD (dL [[dL ([] : DL)]])]] (vD (dI (0 : Int))) []) ∧
 (FnD prog 19 [vA [sD (dI (2 : Int)), sD (dI (1 : Int)), sD (dL (rows [[4], [6]])), sD (dI (2 : Int)), sD (dI (1 : Int)), sD (dL (rows [[2], [4]])), sD (dI (2 : Int)), sD (dI (2 : Int)), sD (dL (rows [[-1, 1], [1, 0]])), sD (dI (2 : Int)), sD (dI (2 : Int)), sD (dL (rows [[0, 1], [1, 1]])), sD (dI (0 : Int)), sD (dI (0 : Int)), sD (dB false)]] (vD (dB true)) []) ∧
 (FnD prog 19 [vA [sD (dI (0 : Int)), sD (dI (0 : Int)), sD (dL ([] : DL)), sD (dI (0 : Int)), sD (dI (0 : Int)), sD (dL ([] : DL)), sD (dI (0 : Int)), sD (dI (0 : Int)), sD (dL ([] : DL)), sD (dI (0 : Int)), sD (dI (0 : Int)), sD (dL ([] : DL)), sD (dI (1 : Int)), sD (dI (0 : Int)), sD (dB false)]] (vD (dB false)) []) ∧
 (FnD prog 19 [vA [sD (dI (0 : Int)), sD (dI (0 : Int)), sD (dL ([] : DL)), sD (dI (0 : Int)), sD (dI (0 : Int)), sD (dL ([] : DL)), sD (dI (0 : Int)), sD (dI (0 : Int)), sD (dL ([] : DL)), sD (dI (0 : Int)), sD (dI (0 : Int)), sD (dL ([] : DL)), sD (dI (0 : Int)), sD (dI (0 : Int)), sD (dB false)]] (vD (dB false)) []) ∧
 R (vD (dB (!false))) []
theorem vc8_ok {R : V → Heap → Prop} (h : vc8 R) : FnG prog 8 [] [] R :=
  FnG.vcg hT func8 ntmps8 (.r0 [] <| .reg 3 [(0, Or.frz, 0, 1), (1, Or.call (vA [sD (dI (2 : Int)), sD (dI (1 : Int)), S.ref 0]) [some (Obj.mat 2 (om [[4], [6]]))] [], 1, 1), (2, Or.none, 2, 1)] [1] [2, 1] [] <| .frz [1] <| .reg 1 [(1, Or.call (vA [sD (dI (2 : Int)), sD (dI (1 : Int)), sD (dL (rows [[4], [6]])), sD (dI (2 : Int)), sD (dI (1 : Int)), sD (dL (rows [[4], [6]])), sD (dI (2 : Int)), sD (dI (2 : Int)), sD (dL (rows [[1, 0], [0, 1]])), sD (dI (2 : Int)), sD (dI (2 : Int)), sD (dL (rows [[1, 0], [0, 1]])), sD (dI (0 : Int)), sD (dI (0 : Int)), sD (dB false)]) [] [], 0, 0), (2, Or.none, 2, 1)] [1, 2] [0, 2] [] <| .reg 1 [(1, Or.call (vA [sD (dI (2 : Int)), sD (dI (1 : Int)), sD (dL (rows [[4], [6]])), sD (dI (2 : Int)), sD (dI (1 : Int)), sD (dL (rows [[4], [2]])), sD (dI (2 : Int)), sD (dI (2 : Int)), sD (dL (rows [[1, 0], [-1, 1]])), sD (dI (2 : Int)), sD (dI (2 : Int)), sD (dL (rows [[1, 0], [1, 1]])), sD (dI (0 : Int)), sD (dI (0 : Int)), sD (dB false)]) [] [], 0, 0), (2, Or.none, 2, 1)] [1, 2, 3] [0, 1, 2] [] <| .reg 1 [(1, Or.call (vA [sD (dI (2 : Int)), sD (dI (1 : Int)), sD (dL (rows [[4], [6]])), sD (dI (2 : Int)), sD (dI (1 : Int)), sD (dL (rows [[2], [4]])), sD (dI (2 : Int)), sD (dI (2 : Int)), sD (dL (rows [[-1, 1], [1, 0]])), sD (dI (2 : Int)), sD (dI (2 : Int)), sD (dL (rows [[0, 1], [1, 1]])), sD (dI (0 : Int)), sD (dI (0 : Int)), sD (dB false)]) [] [], 0, 0), (2, Or.none, 3, 1)] [1, 2, 3, 4] [0, 1, 2, 3] [] <| .reg 1 [(1, Or.call (vA [sD (dI (2 : Int)), sD (dI (1 : Int)), sD (dL (rows [[4], [6]])), sD (dI (2 : Int)), sD (dI (1 : Int)), sD (dL (rows [[2], [0]])), sD (dI (2 : Int)), sD (dI (2 : Int)), sD (dL (rows [[-1, 1], [3, -2]])), sD (dI (2 : Int)), sD (dI (2 : Int)), sD (dL (rows [[2, 1], [3, 1]])), sD (dI (1 : Int)), sD (dI (1 : Int)), sD (dB true)]) [] [], 0, 0), (2, Or.none, 4, 1)] [1, 2, 3, 4, 5] [0, 1, 2, 3, 4] [] <| .reg 1 [(1, Or.call (V.tup [E.agg [sD (dI (0 : Int)), sD (dI (0 : Int)), sD (dL ([] : DL)), sD (dI (0 : Int)), sD (dI (0 : Int)), sD (dL ([] : DL)), sD (dI (0 : Int)), sD (dI (0 : Int)), sD (dL ([] : DL))], eD (dI (210 : Int))]) [] [], 0, 0), (5, Or.none, 5, 1)] [1, 2, 3, 4, 5, 7] [0, 1, 2, 3, 4] [] <| .reg 1 [(1, Or.call (V.tup [E.agg [sD (dI (2 : Int)), sD (dI (1 : Int)), sD (dL (rows [[2], [0]])), sD (dI (2 : Int)), sD (dI (2 : Int)), sD (dL (rows [[-1, 1], [3, -2]])), sD (dI (2 : Int)), sD (dI (2 : Int)), sD (dL (rows [[2, 1], [3, 1]]))], eD (dI (0 : Int))]) [] [], 0, 0), (5, Or.none, 5, 1)] [1, 2, 3, 4, 5, 7, 8, 9] [0, 1, 2, 3, 4, 5] [] <| .reg 1 [(1, Or.call (vA [sD (dI (0 : Int)), sD (dI (3 : Int)), sD (dL ([] : DL)), sD (dI (0 : Int)), sD (dI (3 : Int)), sD (dL ([] : DL)), sD (dI (0 : Int)), sD (dI (0 : Int)), sD (dL ([] : DL)), sD (dI (0 : Int)), sD (dI (0 : Int)), sD (dL ([] : DL)), sD (dI (0 : Int)), sD (dI (0 : Int)), sD (dB true)]) [] [], 0, 0), (2, Or.none, 6, 1)] [1, 2, 3, 4, 5, 7, 8, 9, 10] [0, 1, 2, 3, 4, 5, 6] [] <| .drw 5 [(2, (Or.call (vA [sD (dI (2 : Int)), sD (dI (1 : Int)), sD (dL (rows [[4], [6]])), sD (dI (2 : Int)), sD (dI (1 : Int)), sD (dL (rows [[4], [6]])), sD (dI (2 : Int)), sD (dI (2 : Int)), sD (dL (rows [[1, 0], [0, 1]])), sD (dI (2 : Int)), sD (dI (2 : Int)), sD (dL (rows [[1, 0], [0, 1]])), sD (dI (0 : Int)), sD (dI (0 : Int)), sD (dB false)]) [] [], 0, 0), []), (3, (Or.call (vD (dB true)) [] [], 0, 0), []), (12, (Or.frz, 7, 1), []), (13, (Or.call (vA [sD (dI (2 : Int)), sD (dI (1 : Int)), sD (dL (rows [[4], [2]]))]) [] [], 0, 0), []), (14, (Or.call (vD (dB true)) [] [], 0, 0), []), (19, (Or.frz, 8, 1), []), (20, (Or.call (vA [sD (dI (2 : Int)), sD (dI (1 : Int)), sD (dL (rows [[2], [4]]))]) [] [], 0, 0), []), (21, (Or.call (vD (dB true)) [] [], 0, 0), []), (26, (Or.frz, 9, 1), []), (27, (Or.call (vA [sD (dI (2 : Int)), sD (dI (1 : Int)), sD (dL (rows [[2], [0]]))]) [] [], 0, 0), []), (28, (Or.call (vD (dB true)) [] [], 0, 0), []), (45, (Or.call (vD (dB true)) [] [], 0, 0), []), (53, (Or.call (vD (dI (4 : Int))) [] [], 0, 0), []), (57, (Or.frz, 10, 1), []), (58, (Or.frz, 11, 1), []), (60, (Or.call (vD (dI (0 : Int))) [] [], 0, 0), []), (65, (Or.call (vD (dB true)) [] [], 0, 0), []), (69, (Or.call (vD (dB false)) [] [], 0, 0), []), (74, (Or.call (vD (dB false)) [] [], 0, 0), [])] [0] [] [] <| .ret [])
    (by kernel_rfl) (by kernel_rfl) (by kernel_rfl) h
end Go.AM
/- The law of steps against the reference; the fixed examples. -/
namespace Go.AM
open Go.Proofs.Tryz
theorem pxs {r c L : Nat} {A : List (List Int)} (hm : Mx r c A) (km : BdM 9 A) (big : (9 * qB r 9 c) * (9 * qB r 9 c) * 4294967296 < 4294967296 ^ L) (hL : L ≤ 1073741824) (hr : r ≤ 4) (hc : c ≤ 4) : PSx r c 9 L A :=
  ⟨hm, km, by decide, big, hL, by omega, by omega⟩
theorem pxs_small {r c : Nat} {A : List (List Int)} (hm : Mx r c A) (km : BdM 9 A) (hr : r ≤ 4) (hc : c ≤ 4) : PSx r c 9 1000 A := by
  refine pxs hm km ?_ (by decide) hr hc
  have h : ∀ r, r ≤ 4 → ∀ c, c ≤ 4 → (9 * qB r 9 c) * (9 * qB r 9 c) * 4294967296 < 4294967296 ^ 1000 := by decide +kernel
  exact h r hr c hc
theorem eS_eq {r c : Nat} {A : List (List Int)} {s : PS} {m u v : List (List Int)} {t k : Nat} {b : Bool}
    (h : apL r c s.d A = m ∧ apL r r s.d (idM r) = u ∧ apCL r s.d (idM r) = v ∧ s.t = t ∧ s.k = k ∧ s.fin r c = b) : eS r c A s = eP r c A m u v t k b := by
  obtain ⟨rfl, rfl, rfl, rfl, rfl, rfl⟩ := h
  rfl
theorem vx_of {r c K : Nat} {A m u v : List (List Int)} (h : (decide (A.length = r) && A.all (fun x => decide (x.length = c)) && (decide (m.length = r) && m.all (fun x => decide (x.length = c))) && (decide (u.length = r) && u.all (fun x => decide (x.length = r))) && (decide (v.length = r) && v.all (fun x => decide (x.length = r))) &&
    (A.all fun x => x.all fun z => decide (z.natAbs ≤ K)) && (m.all fun x => x.all fun z => decide (z.natAbs ≤ K)) && (u.all fun x => x.all fun z => decide (z.natAbs ≤ K)) && (v.all fun x => x.all fun z => decide (z.natAbs ≤ K))) = true) (hK : K ≤ 9) (hr : r ≤ 4) (hc : c ≤ 4) : VX r c K A m u v := by
  simp only [Bool.and_eq_true, decide_eq_true_eq, List.all_eq_true] at h
  obtain ⟨⟨⟨⟨⟨⟨⟨⟨a1, a2⟩, b1, b2⟩, c1, c2⟩, d1, d2⟩, e1⟩, e2⟩, e3⟩, e4⟩ := h
  refine ⟨⟨a1, a2⟩, ⟨b1, b2⟩, ⟨c1, c2⟩, ⟨d1, d2⟩, e1, e2, e3, e4, fun y hy => sz_of (Nat.le_trans hy ?_), by omega, by omega⟩
  exact Nat.le_trans (Nat.mul_le_mul_left _ (Nat.mul_le_mul hK hK)) (by decide)
theorem presult_no {r c : Nat} {A m u v : List (List Int)} {t k : Nat} {b : Bool} (h : finB r c t k = false) :
    FnD prog 20 [eP r c A m u v t k b] (V.tup [(E.agg [(sD (dI (0 : Int))), (sD (dI (0 : Int))), (sD (dL ([] : DL))), (sD (dI (0 : Int))), (sD (dI (0 : Int))), (sD (dL ([] : DL))), (sD (dI (0 : Int))), (sD (dI (0 : Int))), (sD (dL ([] : DL)))]), (eD (dI (210 : Int)))]) [] := by
  refine vc20_ok _ _ _ _ _ _ _ _ _ _ _ _ _ _ _ (R := Out _) ?_
  unfold vc20
  have := fin_ok (r := r) (c := c) (A := A) (m := m) (u := u) (v := v) (t := t) (k := k) (b := b)
  rw [h] at this
  exact ⟨_, this, fun _ => ⟨rfl, rfl⟩, fun h => absurd h (by decide)⟩
theorem presult_yes {r c : Nat} {A m u v : List (List Int)} {t k : Nat} {b : Bool} (h : finB r c t k = true) :
    FnD prog 20 [eP r c A m u v t k b] (V.tup [(E.agg [(sD (dI r)), (sD (dI c)), (sD (dL (rows m))), (sD (dI r)), (sD (dI r)), (sD (dL (rows u))), (sD (dI r)), (sD (dI r)), (sD (dL (rows v)))]), (eD (dI (0 : Int)))]) [] := by
  refine vc20_ok _ _ _ _ _ _ _ _ _ _ _ _ _ _ _ (R := Out _) ?_
  unfold vc20
  have := fin_ok (r := r) (c := c) (A := A) (m := m) (u := u) (v := v) (t := t) (k := k) (b := b)
  rw [h] at this
  exact ⟨_, this, fun h => absurd h (by decide), fun _ => ⟨rfl, rfl⟩⟩
def A46 : List (List Int) := [[4], [6]]
theorem sanity21_ok : FnD prog 8 [] (vb true) [] := by
  refine vc8_ok (R := Out _) ?_
  unfold vc8
  have hA : Mx 2 1 A46 := ⟨by decide, by decide⟩
  have kA : BdM 9 A46 := by unfold BdM BdR; decide
  have X : PSx 2 1 9 1000 A46 := pxs_small hA kA (by decide) (by decide)
  have i0 := PInv.start hA kA
  have e0 : eS 2 1 A46 ⟨[], 0, 0⟩ = eP 2 1 [[4], [6]] [[4], [6]] [[1, 0], [0, 1]] [[1, 0], [0, 1]] 0 0 false := eS_eq (by decide +kernel)
  have e1 : eS 2 1 A46 (PS.run 2 1 A46 1 ⟨[], 0, 0⟩) = eP 2 1 [[4], [6]] [[4], [2]] [[1, 0], [-1, 1]] [[1, 0], [1, 1]] 0 0 false := eS_eq (by decide +kernel)
  have e2 : eS 2 1 A46 (PS.run 2 1 A46 1 (PS.run 2 1 A46 1 ⟨[], 0, 0⟩)) = eP 2 1 [[4], [6]] [[2], [4]] [[-1, 1], [1, 0]] [[0, 1], [1, 1]] 0 0 false := eS_eq (by decide +kernel)
  have e3 : eS 2 1 A46 (PS.run 2 1 A46 100 (PS.run 2 1 A46 1 (PS.run 2 1 A46 1 ⟨[], 0, 0⟩))) = eP 2 1 [[4], [6]] [[2], [0]] [[-1, 1], [3, -2]] [[2, 1], [3, 1]] 1 1 true := eS_eq (by decide +kernel)
  have i1 := PInv.run hA kA 1 i0
  have i2 := PInv.run hA kA 1 i1
  have s1 := pstep_ok X i0 (n0 := 1) (by decide)
  have s2 := pstep_ok X i1 (n0 := 1) (by decide)
  have s3 := pstep_ok X i2 (n0 := 100) (by decide)
  rw [show (1 : Int).toNat = 1 from rfl, e0, e1] at s1
  rw [show (1 : Int).toNat = 1 from rfl, e1, e2] at s2
  rw [show (100 : Int).toNat = 100 from rfl, e2, e3] at s3
  have p0 := pstart_ok X
  have q0 := rstart_ok X
  rw [e0] at p0 q0
  have hZ : Mx 0 3 [] := ⟨rfl, fun _ h => by simp at h⟩
  have kZ : BdM 9 [] := fun _ h => by simp at h
  have z0 := pstart_ok (pxs_small hZ kZ (by decide) (by decide))
  have eZ : eS 0 3 [] ⟨[], 0, 0⟩ = eP 0 3 [] [] [] [] 0 0 true := eS_eq (by decide +kernel)
  rw [eZ] at z0
  have V0 : VX 2 1 9 [[4], [6]] [[4], [6]] [[1, 0], [0, 1]] [[1, 0], [0, 1]] := vx_of (by decide +kernel) (by decide) (by decide) (by decide)
  have V2 : VX 2 1 9 [[4], [6]] [[2], [4]] [[-1, 1], [1, 0]] [[0, 1], [1, 1]] := vx_of (by decide +kernel) (by decide) (by decide) (by decide)
  have V3 : VX 2 1 9 [[4], [6]] [[2], [0]] [[-1, 1], [3, -2]] [[2, 1], [3, 1]] := vx_of (by decide +kernel) (by decide) (by decide) (by decide)
  have VZ : VX 0 0 9 [] [] [] [] := vx_of (by decide +kernel) (by decide) (by decide) (by decide)
  have sz : ∀ {m : List (List Int)}, BdM 9 m → SzM m := fun h => h.sz (by decide)
  have d0 := psame_ok (t := 0) (k := 0) (b := false) V0.hA V0.hm V0.hu V0.hv (sz V0.kA) (sz V0.km) (sz V0.ku) (sz V0.kv) (by decide) (by decide)
  have ints : ∀ {v : List Int} {m : List (List Int)}, table 2 1 (fillF 1 v) = m → (∀ z ∈ v, -9223372036854775808 ≤ z ∧ z ≤ 9223372036854775807) → FnD prog 26 [vi 2, vi 1, vs (ints v)] (eM 2 1 m) [] := fun h hv => FnD.frz (h ▸ rints_ok (r := 2) (c := 1) (by decide) (by decide) hv)
  have intso : FnD prog 26 [vi 2, vi 1, vs (Go.AM.ints [4, 6])] (eMo 2 1) (oM [[4], [6]]) := (show table 2 1 (fillF 1 [4, 6]) = [[4], [6]] by decide +kernel) ▸ rints_ok (r := 2) (c := 1) (by decide) (by decide) (by decide)
  have same : ∀ {m : List (List Int)}, Mx 2 1 m → BdM 9 m → FnD prog 22 [eM 2 1 m, eM 2 1 m] (vb true) [] := fun h k => same_yes h k k rfl (by decide) (by decide) (by decide)
  have ck := rcheck_ok V3
  rw [show (isHB 2 1 [[2], [0]] && (decide (mmul 2 2 1 [[-1, 1], [3, -2]] [[4], [6]] = [[2], [0]]) && decide (mmul 2 2 2 [[-1, 1], [3, -2]] [[2, 1], [3, 1]] = idM 2))) = true by decide +kernel] at ck
  have cost : FnD prog 15 [eM 2 1 A46] (vi (4 : Nat)) [] := pcost_ok X (T := 4) ⟨by decide +kernel, by decide +kernel⟩ (by decide)
  have hO : Mx 1 0 [[]] := ⟨by decide, by decide⟩
  have kO : BdM 9 [[]] := by unfold BdM BdR; decide
  have cost0 : FnD prog 15 [eM 1 0 [[]]] (vi (0 : Nat)) [] := pcost_ok (pxs_small hO kO (by decide) (by decide)) (T := 0) ⟨by decide +kernel, by decide +kernel⟩ (by decide)
  have w2 := pvalid_ok V2 0 0 false
  rw [show validI 2 1 [[4], [6]] [[2], [4]] [[-1, 1], [1, 0]] [[0, 1], [1, 1]] 0 0 false = true by decide +kernel] at w2
  have wa := pvalid_ok VZ 1 0 false
  rw [show validI 0 0 [] [] [] [] 1 0 false = false by decide +kernel] at wa
  have wb := pvalid_ok VZ 0 0 false
  rw [show validI 0 0 [] [] [] [] 0 0 false = false by decide +kernel] at wb
  have n1 : FnD prog 26 [vi 2, vi 1, vs (Go.AM.ints [4, 2])] (eM 2 1 [[4], [2]]) [] := ints (by decide +kernel) (by decide)
  have n2 : FnD prog 26 [vi 2, vi 1, vs (Go.AM.ints [2, 4])] (eM 2 1 [[2], [4]]) [] := ints (by decide +kernel) (by decide)
  have n3 : FnD prog 26 [vi 2, vi 1, vs (Go.AM.ints [2, 0])] (eM 2 1 [[2], [0]]) [] := ints (by decide +kernel) (by decide)
  exact ⟨intso, p0, s1, s2, s3, presult_no (by decide), presult_yes (by decide), z0, q0, d0, n1, same ⟨by decide, by decide⟩ (by unfold BdM BdR; decide),
    n2, same ⟨by decide, by decide⟩ (by unfold BdM BdR; decide), n3, same ⟨by decide, by decide⟩ (by unfold BdM BdR; decide), ck, cost, cost0, w2, wa, wb, rfl, rfl⟩
end Go.AM
/- Package step: every state of the run is valid; the laws of validity and of resuming. -/
namespace Go.AM
open Go.Proofs.Tryz
section
variable {r c N L : Nat} {A : List (List Int)} (X : PSx r c N L A)
include X
theorem PSx.vx {s : PS} (h : PInv r c N A s) : VX r c (N * qB r N c) A (apL r c s.d A) (apL r r s.d (idM r)) (apCL r s.d (idM r)) := by
  obtain ⟨b1, b2, b3⟩ := X.bds h
  refine ⟨X.hm, apL_mx _ X.hm, apL_mx _ (table_mx _ _ _), apCL_mx _ (table_mx _ _ _), X.km.mono (Nat.le_mul_of_pos_right _ (qB_pos _ _ _)), b1, b2, b3, fun y hy => ?_, X.hr, X.hc⟩
  refine Sz.of_lt L X.hL (Nat.lt_of_le_of_lt hy ?_)
  rw [Nat.mul_comm]; exact X.big
end
end Go.AM
/- What functions of the program come to: group L7. Printed by vc.py. -/
set_option maxRecDepth 100000
set_option linter.unusedVariables false
namespace Go.AM
open Go.Proofs.Tryz
def vc18o (p0 p1 : Int) (p2 : DL) (p3 p4 : Int) (p5 : DL) (p6 p7 : Int) (p8 : DL) (p9 p10 : Int) (p11 : DL) (p12 p13 : Int) (p14 : Bool) (R : V → Heap → Prop) : Prop :=
 ∃ (r0 r1 : Int) (rrows : DLL) (r01 r11 : Int) (rrows1 : DLL) (r02 r12 : Int) (rrows2 : DLL) (r03 r13 : Int) (rrows3 : DLL),
 (FnD prog 42 [vA [sD (dI p0), sD (dI p1), sD (dL p2)]] (vA [sD (dI r0), sD (dI r1), S.ref 0]) [some (Obj.mat 2 rrows)]) ∧
 (FnD prog 42 [vA [sD (dI p3), sD (dI p4), sD (dL p5)]] (vA [sD (dI r01), sD (dI r11), S.ref 0]) [some (Obj.mat 2 rrows1)]) ∧
 (FnD prog 42 [vA [sD (dI p6), sD (dI p7), sD (dL p8)]] (vA [sD (dI r02), sD (dI r12), S.ref 0]) [some (Obj.mat 2 rrows2)]) ∧
 (FnD prog 42 [vA [sD (dI p9), sD (dI p10), sD (dL p11)]] (vA [sD (dI r03), sD (dI r13), S.ref 0]) [some (Obj.mat 2 rrows3)]) ∧
 (R (vA [sD (dI r0), sD (dI r1), S.ref 0, sD (dI r01), sD (dI r11), S.ref 1, sD (dI r02), sD (dI r12), S.ref 2, sD (dI r03), sD (dI r13), S.ref 3, sD (dI p12), sD (dI p13), sD (dB p14)]) [some (Obj.mat 2 rrows), some (Obj.mat 2 rrows1), some (Obj.mat 2 rrows2), some (Obj.mat 2 rrows3)])
theorem vc18o_ok (p0 p1 : Int) (p2 : DL) (p3 p4 : Int) (p5 : DL) (p6 p7 : Int) (p8 : DL) (p9 p10 : Int) (p11 : DL) (p12 p13 : Int) (p14 : Bool) {R : V → Heap → Prop} (h : vc18o p0 p1 p2 p3 p4 p5 p6 p7 p8 p9 p10 p11 p12 p13 p14 R) : FnG prog 18 [vA [sD (dI p0), sD (dI p1), sD (dL p2), sD (dI p3), sD (dI p4), sD (dL p5), sD (dI p6), sD (dI p7), sD (dL p8), sD (dI p9), sD (dI p10), sD (dL p11), sD (dI p12), sD (dI p13), sD (dB p14)]] [] R :=
  FnG.vcg hT func18 ntmps18 (.reg 2 [(0, Or.none, 0, 1), (1, Or.none, 1, 1)] [1, 2] [0, 1] [] <| .ex fun r0 => .ex fun r1 => .exm fun rrows => .ex fun r01 => .ex fun r11 => .exm fun rrows1 => .ex fun r02 => .ex fun r12 => .exm fun rrows2 => .ex fun r03 => .ex fun r13 => .exm fun rrows3 => .drw 4 [(2, (Or.call (vA [sD (dI r0), sD (dI r1), S.ref 0]) [some (Obj.mat 2 rrows)] [], 2, 1), [2]), (5, (Or.call (vA [sD (dI r01), sD (dI r11), S.ref 0]) [some (Obj.mat 2 rrows1)] [], 3, 1), [3]), (8, (Or.call (vA [sD (dI r02), sD (dI r12), S.ref 0]) [some (Obj.mat 2 rrows2)] [], 4, 1), [4]), (11, (Or.call (vA [sD (dI r03), sD (dI r13), S.ref 0]) [some (Obj.mat 2 rrows3)] [], 5, 1), [5]), (19, (Or.none, 0, 0), [1])] [2] [1, 2, 3, 4, 5] [] <| .ret [1, 2, 3, 4])
    (by kernel_rfl) (by kernel_rfl) (by kernel_rfl) h
def vc7 (x0 x1 : Int) (x2 : DL) (n c0 : Int) (c1 c2 c3 : Int) (R : V → Heap → Prop) : Prop :=
 ∃ (r : Bool),
 (FnD prog 8 [] (vD (dB r)) []) ∧
 (∃ (r0 r1 : Int) (rrows : DLL),
 (FnD prog 9 [vA [sD (D.int .u8 x0), sD (D.int .u8 x1), sD (dL x2)]] (vA [sD (dI r0), sD (dI r1), S.ref 0]) [some (Obj.mat 2 rrows)]) ∧
 (∃ (r01 r11 : Int) (r2 : DL) (r3 r4 : Int) (r5 : DL) (r6 r7 : Int) (r8 : DL) (r9 r10 : Int) (r111 : DL) (r12 r13 : Int) (r14 : Bool) (r02 r15 : Int) (r21 : DL) (r31 r41 : Int) (r51 : DL) (r61 r71 : Int) (r81 : DL) (r91 r101 : Int) (r112 : DL) (r121 r131 : Int) (r141 : Bool) (r03 r16 : Int) (rrows1 : DLL) (r32 r42 : Int) (rrows2 : DLL) (r62 r72 : Int) (rrows3 : DLL) (r92 r102 : Int) (rrows4 : DLL) (r122 r132 : Int) (r142 : Bool),
 (FnD prog 12 [vA [sD (dI r0), sD (dI r1), sD (dL (matD rrows))]] (vA [sD (dI r01), sD (dI r11), sD (dL r2), sD (dI r3), sD (dI r4), sD (dL r5), sD (dI r6), sD (dI r7), sD (dL r8), sD (dI r9), sD (dI r10), sD (dL r111), sD (dI r12), sD (dI r13), sD (dB r14)]) []) ∧
 ((31 : Int) ≠ 0) ∧
 (FnD prog 14 [vA [sD (dI r01), sD (dI r11), sD (dL r2), sD (dI r3), sD (dI r4), sD (dL r5), sD (dI r6), sD (dI r7), sD (dL r8), sD (dI r9), sD (dI r10), sD (dL r111), sD (dI r12), sD (dI r13), sD (dB r14)], vD (dI (IntKind.i64.wrap (n.tmod (31 : Int))))] (vA [sD (dI r02), sD (dI r15), sD (dL r21), sD (dI r31), sD (dI r41), sD (dL r51), sD (dI r61), sD (dI r71), sD (dL r81), sD (dI r91), sD (dI r101), sD (dL r112), sD (dI r121), sD (dI r131), sD (dB r141)]) []) ∧
 (FnD prog 18 [vA [sD (dI r02), sD (dI r15), sD (dL r21), sD (dI r31), sD (dI r41), sD (dL r51), sD (dI r61), sD (dI r71), sD (dL r81), sD (dI r91), sD (dI r101), sD (dL r112), sD (dI r121), sD (dI r131), sD (dB r141)]] (vA [sD (dI r03), sD (dI r16), S.ref 0, sD (dI r32), sD (dI r42), S.ref 1, sD (dI r62), sD (dI r72), S.ref 2, sD (dI r92), sD (dI r102), S.ref 3, sD (dI r122), sD (dI r132), sD (dB r142)]) [some (Obj.mat 2 rrows1), some (Obj.mat 2 rrows2), some (Obj.mat 2 rrows3), some (Obj.mat 2 rrows4)]) ∧
 (((8 : Int) ≠ 0) ∧
 ((((c0.tmod (8 : Int)) == (4 : Int)) = true →
 (r = true →
 ∃ (r17 r18 : Bool),
 (FnD prog 19 [vA [sD (dI r03), sD (dI r16), sD (dL (matD rrows1)), sD (dI r32), sD (dI r42), sD (dL (matD rrows2)), sD (dI r62), sD (dI r72), sD (dL (matD rrows3)), sD (dI r92), sD (dI r102), sD (dL (matD rrows4)), sD (dI (IntKind.i64.wrap (r122 + (IntKind.i64.wrap c3)))), sD (dI r132), sD (dB r142)]] (vD (dB r17)) []) ∧
 (FnD prog 17 [vA [sD (dI r03), sD (dI r16), sD (dL (matD rrows1)), sD (dI r32), sD (dI r42), sD (dL (matD rrows2)), sD (dI r62), sD (dI r72), sD (dL (matD rrows3)), sD (dI r92), sD (dI r102), sD (dL (matD rrows4)), sD (dI (IntKind.i64.wrap (r122 + (IntKind.i64.wrap c3)))), sD (dI r132), sD (dB r142)]] (vD (dB r18)) []) ∧
 (R (vD (dB (r17 == r18))) [])) ∧
 (r = false →
 R (vD (dB false)) [])) ∧
 (((c0.tmod (8 : Int)) == (4 : Int)) = false →
 (((c0.tmod (8 : Int)) == (5 : Int)) = true →
 (r = true →
 ∃ (r19 r20 : Bool),
 (FnD prog 19 [vA [sD (dI r03), sD (dI r16), sD (dL (matD rrows1)), sD (dI r32), sD (dI r42), sD (dL (matD rrows2)), sD (dI r62), sD (dI r72), sD (dL (matD rrows3)), sD (dI r92), sD (dI r102), sD (dL (matD rrows4)), sD (dI r122), sD (dI (IntKind.i64.wrap (r132 + (IntKind.i64.wrap c3)))), sD (dB r142)]] (vD (dB r19)) []) ∧
 (FnD prog 17 [vA [sD (dI r03), sD (dI r16), sD (dL (matD rrows1)), sD (dI r32), sD (dI r42), sD (dL (matD rrows2)), sD (dI r62), sD (dI r72), sD (dL (matD rrows3)), sD (dI r92), sD (dI r102), sD (dL (matD rrows4)), sD (dI r122), sD (dI (IntKind.i64.wrap (r132 + (IntKind.i64.wrap c3)))), sD (dB r142)]] (vD (dB r20)) []) ∧
 (R (vD (dB (r19 == r20))) [])) ∧
 (r = false →
 R (vD (dB false)) [])) ∧
 (((c0.tmod (8 : Int)) == (5 : Int)) = false →
 (((c0.tmod (8 : Int)) == (6 : Int)) = true →
 (r = true →
 ∃ (r22 r23 : Bool),
 (FnD prog 19 [vA [sD (dI r03), sD (dI r16), sD (dL (matD rrows1)), sD (dI r32), sD (dI r42), sD (dL (matD rrows2)), sD (dI r62), sD (dI r72), sD (dL (matD rrows3)), sD (dI r92), sD (dI r102), sD (dL (matD rrows4)), sD (dI r122), sD (dI r132), sD (dB (!r142))]] (vD (dB r22)) []) ∧
 (FnD prog 17 [vA [sD (dI r03), sD (dI r16), sD (dL (matD rrows1)), sD (dI r32), sD (dI r42), sD (dL (matD rrows2)), sD (dI r62), sD (dI r72), sD (dL (matD rrows3)), sD (dI r92), sD (dI r102), sD (dL (matD rrows4)), sD (dI r122), sD (dI r132), sD (dB (!r142))]] (vD (dB r23)) []) ∧
 (R (vD (dB (r22 == r23))) [])) ∧
 (r = false →
 R (vD (dB false)) [])) ∧
 (((c0.tmod (8 : Int)) == (6 : Int)) = false →
 (((c0.tmod (8 : Int)) == (7 : Int)) = true →
 (r = true →
 ∃ (r24 r25 : Bool),
 (FnD prog 19 [vA [sD (dI r03), sD (dI r16), sD (dL (matD rrows1)), sD (dI r32), sD (dI r42), sD (dL (matD rrows2)), sD (dI (0 : Int)), sD (dI (0 : Int)), sD (dL ([] : DL)), sD (dI r92), sD (dI r102), sD (dL (matD rrows4)), sD (dI r122), sD (dI r132), sD (dB r142)]] (vD (dB r24)) []) ∧
 (FnD prog 17 [vA [sD (dI r03), sD (dI r16), sD (dL (matD rrows1)), sD (dI r32), sD (dI r42), sD (dL (matD rrows2)), sD (dI (0 : Int)), sD (dI (0 : Int)), sD (dL ([] : DL)), sD (dI r92), sD (dI r102), sD (dL (matD rrows4)), sD (dI r122), sD (dI r132), sD (dB r142)]] (vD (dB r25)) []) ∧
 (R (vD (dB (r24 == r25))) [])) ∧
 (r = false →
 R (vD (dB false)) [])) ∧
 (((c0.tmod (8 : Int)) == (7 : Int)) = false →
 ((decide ((c0.tmod (8 : Int)) = (0 : Int))) = true →
 (0 ≤ (0 : Int) ∧ (0 : Int) < ((4 : Nat) : Int)) ∧
 ((decide (r03 > (0 : Int)) = true →
 (decide (r16 > (0 : Int)) = true →
 (r03 ≠ 0) ∧
 ((r16 ≠ 0) ∧
 (∃ (x01 : Bool) (x11 : DL) (r04 : Bool) (r110 : DL) (r05 : Bool) (r113 : DL),
 (0 ≤ ((IntKind.i64.wrap c1).tmod r03) ∧ ((IntKind.i64.wrap c1).tmod r03) < (rrows1.length : Int)) ∧
 (∃ l, rrows1[(((IntKind.i64.wrap c1).tmod r03)).toNat]? = some l ∧ 0 ≤ ((IntKind.i64.wrap c2).tmod r16) ∧ ((IntKind.i64.wrap c2).tmod r16) < (l.length : Int)) ∧
 (at2 rrows1 (((IntKind.i64.wrap c1).tmod r03)).toNat (((IntKind.i64.wrap c2).tmod r16)).toNat = some [dB x01, dL x11]) ∧
 (FnD prog 25 [vD (dI (IntKind.i64.wrap c3))] (vA [sD (dB r04), sD (dL r110)]) []) ∧
 (FnD prog 24 [vA [sD (dB x01), sD (dL x11)], vA [sD (dB r04), sD (dL r110)]] (vA [sD (dB r05), sD (dL r113)]) []) ∧
 ((r = true →
 ∃ (r26 r27 : Bool),
 (FnD prog 19 [(vA [sD (dI r03), sD (dI r16), (sD (dL (matD (rrows1.modify (((IntKind.i64.wrap c1).tmod r03)).toNat (fun qz => qz.set (((IntKind.i64.wrap c2).tmod r16)).toNat [dB r05, dL r113]))))), sD (dI r32), sD (dI r42), sD (dL (matD rrows2)), sD (dI r62), sD (dI r72), sD (dL (matD rrows3)), sD (dI r92), sD (dI r102), sD (dL (matD rrows4)), sD (dI r122), sD (dI r132), sD (dB r142)])] (vD (dB r26)) []) ∧
 (FnD prog 17 [(vA [sD (dI r03), sD (dI r16), (sD (dL (matD (rrows1.modify (((IntKind.i64.wrap c1).tmod r03)).toNat (fun qz => qz.set (((IntKind.i64.wrap c2).tmod r16)).toNat [dB r05, dL r113]))))), sD (dI r32), sD (dI r42), sD (dL (matD rrows2)), sD (dI r62), sD (dI r72), sD (dL (matD rrows3)), sD (dI r92), sD (dI r102), sD (dL (matD rrows4)), sD (dI r122), sD (dI r132), sD (dB r142)])] (vD (dB r27)) []) ∧
 (R (vD (dB (r26 == r27))) [])) ∧
 (r = false →
 R (vD (dB false)) []))))) ∧
 (decide (r16 > (0 : Int)) = false →
 (r = true →
 ∃ (r28 r29 : Bool),
 (FnD prog 19 [vA [sD (dI r03), sD (dI r16), sD (dL (matD rrows1)), sD (dI r32), sD (dI r42), sD (dL (matD rrows2)), sD (dI r62), sD (dI r72), sD (dL (matD rrows3)), sD (dI r92), sD (dI r102), sD (dL (matD rrows4)), sD (dI r122), sD (dI r132), sD (dB r142)]] (vD (dB r28)) []) ∧
 (FnD prog 17 [vA [sD (dI r03), sD (dI r16), sD (dL (matD rrows1)), sD (dI r32), sD (dI r42), sD (dL (matD rrows2)), sD (dI r62), sD (dI r72), sD (dL (matD rrows3)), sD (dI r92), sD (dI r102), sD (dL (matD rrows4)), sD (dI r122), sD (dI r132), sD (dB r142)]] (vD (dB r29)) []) ∧
 (R (vD (dB (r28 == r29))) [])) ∧
 (r = false →
 R (vD (dB false)) []))) ∧
 (decide (r03 > (0 : Int)) = false →
 (r = true →
 ∃ (r30 r33 : Bool),
 (FnD prog 19 [vA [sD (dI r03), sD (dI r16), sD (dL (matD rrows1)), sD (dI r32), sD (dI r42), sD (dL (matD rrows2)), sD (dI r62), sD (dI r72), sD (dL (matD rrows3)), sD (dI r92), sD (dI r102), sD (dL (matD rrows4)), sD (dI r122), sD (dI r132), sD (dB r142)]] (vD (dB r30)) []) ∧
 (FnD prog 17 [vA [sD (dI r03), sD (dI r16), sD (dL (matD rrows1)), sD (dI r32), sD (dI r42), sD (dL (matD rrows2)), sD (dI r62), sD (dI r72), sD (dL (matD rrows3)), sD (dI r92), sD (dI r102), sD (dL (matD rrows4)), sD (dI r122), sD (dI r132), sD (dB r142)]] (vD (dB r33)) []) ∧
 (R (vD (dB (r30 == r33))) [])) ∧
 (r = false →
 R (vD (dB false)) [])))) ∧
 ((decide ((c0.tmod (8 : Int)) = (0 : Int))) = false →
 ((decide ((c0.tmod (8 : Int)) = (1 : Int))) = true →
 (0 ≤ (1 : Int) ∧ (1 : Int) < ((4 : Nat) : Int)) ∧
 ((decide (r32 > (0 : Int)) = true →
 (decide (r42 > (0 : Int)) = true →
 (r32 ≠ 0) ∧
 ((r42 ≠ 0) ∧
 (∃ (x02 : Bool) (x12 : DL) (r06 : Bool) (r114 : DL) (r07 : Bool) (r115 : DL),
 (0 ≤ ((IntKind.i64.wrap c1).tmod r32) ∧ ((IntKind.i64.wrap c1).tmod r32) < (rrows2.length : Int)) ∧
 (∃ l, rrows2[(((IntKind.i64.wrap c1).tmod r32)).toNat]? = some l ∧ 0 ≤ ((IntKind.i64.wrap c2).tmod r42) ∧ ((IntKind.i64.wrap c2).tmod r42) < (l.length : Int)) ∧
 (at2 rrows2 (((IntKind.i64.wrap c1).tmod r32)).toNat (((IntKind.i64.wrap c2).tmod r42)).toNat = some [dB x02, dL x12]) ∧
 (FnD prog 25 [vD (dI (IntKind.i64.wrap c3))] (vA [sD (dB r06), sD (dL r114)]) []) ∧
 (FnD prog 24 [vA [sD (dB x02), sD (dL x12)], vA [sD (dB r06), sD (dL r114)]] (vA [sD (dB r07), sD (dL r115)]) []) ∧
 ((r = true →
 ∃ (r34 r35 : Bool),
 (FnD prog 19 [(vA [sD (dI r03), sD (dI r16), sD (dL (matD rrows1)), sD (dI r32), sD (dI r42), (sD (dL (matD (rrows2.modify (((IntKind.i64.wrap c1).tmod r32)).toNat (fun qz => qz.set (((IntKind.i64.wrap c2).tmod r42)).toNat [dB r07, dL r115]))))), sD (dI r62), sD (dI r72), sD (dL (matD rrows3)), sD (dI r92), sD (dI r102), sD (dL (matD rrows4)), sD (dI r122), sD (dI r132), sD (dB r142)])] (vD (dB r34)) []) ∧
 (FnD prog 17 [(vA [sD (dI r03), sD (dI r16), sD (dL (matD rrows1)), sD (dI r32), sD (dI r42), (sD (dL (matD (rrows2.modify (((IntKind.i64.wrap c1).tmod r32)).toNat (fun qz => qz.set (((IntKind.i64.wrap c2).tmod r42)).toNat [dB r07, dL r115]))))), sD (dI r62), sD (dI r72), sD (dL (matD rrows3)), sD (dI r92), sD (dI r102), sD (dL (matD rrows4)), sD (dI r122), sD (dI r132), sD (dB r142)])] (vD (dB r35)) []) ∧
 (R (vD (dB (r34 == r35))) [])) ∧
 (r = false →
 R (vD (dB false)) []))))) ∧
 (decide (r42 > (0 : Int)) = false →
 (r = true →
 ∃ (r36 r37 : Bool),
 (FnD prog 19 [vA [sD (dI r03), sD (dI r16), sD (dL (matD rrows1)), sD (dI r32), sD (dI r42), sD (dL (matD rrows2)), sD (dI r62), sD (dI r72), sD (dL (matD rrows3)), sD (dI r92), sD (dI r102), sD (dL (matD rrows4)), sD (dI r122), sD (dI r132), sD (dB r142)]] (vD (dB r36)) []) ∧
 (FnD prog 17 [vA [sD (dI r03), sD (dI r16), sD (dL (matD rrows1)), sD (dI r32), sD (dI r42), sD (dL (matD rrows2)), sD (dI r62), sD (dI r72), sD (dL (matD rrows3)), sD (dI r92), sD (dI r102), sD (dL (matD rrows4)), sD (dI r122), sD (dI r132), sD (dB r142)]] (vD (dB r37)) []) ∧
 (R (vD (dB (r36 == r37))) [])) ∧
 (r = false →
 R (vD (dB false)) []))) ∧
 (decide (r32 > (0 : Int)) = false →
 (r = true →
 ∃ (r38 r39 : Bool),
 (FnD prog 19 [vA [sD (dI r03), sD (dI r16), sD (dL (matD rrows1)), sD (dI r32), sD (dI r42), sD (dL (matD rrows2)), sD (dI r62), sD (dI r72), sD (dL (matD rrows3)), sD (dI r92), sD (dI r102), sD (dL (matD rrows4)), sD (dI r122), sD (dI r132), sD (dB r142)]] (vD (dB r38)) []) ∧
 (FnD prog 17 [vA [sD (dI r03), sD (dI r16), sD (dL (matD rrows1)), sD (dI r32), sD (dI r42), sD (dL (matD rrows2)), sD (dI r62), sD (dI r72), sD (dL (matD rrows3)), sD (dI r92), sD (dI r102), sD (dL (matD rrows4)), sD (dI r122), sD (dI r132), sD (dB r142)]] (vD (dB r39)) []) ∧
 (R (vD (dB (r38 == r39))) [])) ∧
 (r = false →
 R (vD (dB false)) [])))) ∧
 ((decide ((c0.tmod (8 : Int)) = (1 : Int))) = false →
 ((decide ((c0.tmod (8 : Int)) = (2 : Int))) = true →
 (0 ≤ (2 : Int) ∧ (2 : Int) < ((4 : Nat) : Int)) ∧
 ((decide (r62 > (0 : Int)) = true →
 (decide (r72 > (0 : Int)) = true →
 (r62 ≠ 0) ∧
 ((r72 ≠ 0) ∧
 (∃ (x03 : Bool) (x13 : DL) (r08 : Bool) (r116 : DL) (r09 : Bool) (r117 : DL),
 (0 ≤ ((IntKind.i64.wrap c1).tmod r62) ∧ ((IntKind.i64.wrap c1).tmod r62) < (rrows3.length : Int)) ∧
 (∃ l, rrows3[(((IntKind.i64.wrap c1).tmod r62)).toNat]? = some l ∧ 0 ≤ ((IntKind.i64.wrap c2).tmod r72) ∧ ((IntKind.i64.wrap c2).tmod r72) < (l.length : Int)) ∧
 (at2 rrows3 (((IntKind.i64.wrap c1).tmod r62)).toNat (((IntKind.i64.wrap c2).tmod r72)).toNat = some [dB x03, dL x13]) ∧
 (FnD prog 25 [vD (dI (IntKind.i64.wrap c3))] (vA [sD (dB r08), sD (dL r116)]) []) ∧
 (FnD prog 24 [vA [sD (dB x03), sD (dL x13)], vA [sD (dB r08), sD (dL r116)]] (vA [sD (dB r09), sD (dL r117)]) []) ∧
 ((r = true →
 ∃ (r40 r43 : Bool),
 (FnD prog 19 [(vA [sD (dI r03), sD (dI r16), sD (dL (matD rrows1)), sD (dI r32), sD (dI r42), sD (dL (matD rrows2)), sD (dI r62), sD (dI r72), (sD (dL (matD (rrows3.modify (((IntKind.i64.wrap c1).tmod r62)).toNat (fun qz => qz.set (((IntKind.i64.wrap c2).tmod r72)).toNat [dB r09, dL r117]))))), sD (dI r92), sD (dI r102), sD (dL (matD rrows4)), sD (dI r122), sD (dI r132), sD (dB r142)])] (vD (dB r40)) []) ∧
 (FnD prog 17 [(vA [sD (dI r03), sD (dI r16), sD (dL (matD rrows1)), sD (dI r32), sD (dI r42), sD (dL (matD rrows2)), sD (dI r62), sD (dI r72), (sD (dL (matD (rrows3.modify (((IntKind.i64.wrap c1).tmod r62)).toNat (fun qz => qz.set (((IntKind.i64.wrap c2).tmod r72)).toNat [dB r09, dL r117]))))), sD (dI r92), sD (dI r102), sD (dL (matD rrows4)), sD (dI r122), sD (dI r132), sD (dB r142)])] (vD (dB r43)) []) ∧
 (R (vD (dB (r40 == r43))) [])) ∧
 (r = false →
 R (vD (dB false)) []))))) ∧
 (decide (r72 > (0 : Int)) = false →
 (r = true →
 ∃ (r44 r45 : Bool),
 (FnD prog 19 [vA [sD (dI r03), sD (dI r16), sD (dL (matD rrows1)), sD (dI r32), sD (dI r42), sD (dL (matD rrows2)), sD (dI r62), sD (dI r72), sD (dL (matD rrows3)), sD (dI r92), sD (dI r102), sD (dL (matD rrows4)), sD (dI r122), sD (dI r132), sD (dB r142)]] (vD (dB r44)) []) ∧
 (FnD prog 17 [vA [sD (dI r03), sD (dI r16), sD (dL (matD rrows1)), sD (dI r32), sD (dI r42), sD (dL (matD rrows2)), sD (dI r62), sD (dI r72), sD (dL (matD rrows3)), sD (dI r92), sD (dI r102), sD (dL (matD rrows4)), sD (dI r122), sD (dI r132), sD (dB r142)]] (vD (dB r45)) []) ∧
 (R (vD (dB (r44 == r45))) [])) ∧
 (r = false →
 R (vD (dB false)) []))) ∧
 (decide (r62 > (0 : Int)) = false →
 (r = true →
 ∃ (r46 r47 : Bool),
 (FnD prog 19 [vA [sD (dI r03), sD (dI r16), sD (dL (matD rrows1)), sD (dI r32), sD (dI r42), sD (dL (matD rrows2)), sD (dI r62), sD (dI r72), sD (dL (matD rrows3)), sD (dI r92), sD (dI r102), sD (dL (matD rrows4)), sD (dI r122), sD (dI r132), sD (dB r142)]] (vD (dB r46)) []) ∧
 (FnD prog 17 [vA [sD (dI r03), sD (dI r16), sD (dL (matD rrows1)), sD (dI r32), sD (dI r42), sD (dL (matD rrows2)), sD (dI r62), sD (dI r72), sD (dL (matD rrows3)), sD (dI r92), sD (dI r102), sD (dL (matD rrows4)), sD (dI r122), sD (dI r132), sD (dB r142)]] (vD (dB r47)) []) ∧
 (R (vD (dB (r46 == r47))) [])) ∧
 (r = false →
 R (vD (dB false)) [])))) ∧
 ((decide ((c0.tmod (8 : Int)) = (2 : Int))) = false →
 ((decide ((c0.tmod (8 : Int)) = (3 : Int))) = true) ∧
 (0 ≤ (3 : Int) ∧ (3 : Int) < ((4 : Nat) : Int)) ∧
 ((decide (r92 > (0 : Int)) = true →
 (decide (r102 > (0 : Int)) = true →
 (r92 ≠ 0) ∧
 ((r102 ≠ 0) ∧
 (∃ (x04 : Bool) (x14 : DL) (r010 : Bool) (r118 : DL) (r011 : Bool) (r119 : DL),
 (0 ≤ ((IntKind.i64.wrap c1).tmod r92) ∧ ((IntKind.i64.wrap c1).tmod r92) < (rrows4.length : Int)) ∧
 (∃ l, rrows4[(((IntKind.i64.wrap c1).tmod r92)).toNat]? = some l ∧ 0 ≤ ((IntKind.i64.wrap c2).tmod r102) ∧ ((IntKind.i64.wrap c2).tmod r102) < (l.length : Int)) ∧
 (at2 rrows4 (((IntKind.i64.wrap c1).tmod r92)).toNat (((IntKind.i64.wrap c2).tmod r102)).toNat = some [dB x04, dL x14]) ∧
 (FnD prog 25 [vD (dI (IntKind.i64.wrap c3))] (vA [sD (dB r010), sD (dL r118)]) []) ∧
 (FnD prog 24 [vA [sD (dB x04), sD (dL x14)], vA [sD (dB r010), sD (dL r118)]] (vA [sD (dB r011), sD (dL r119)]) []) ∧
 ((r = true →
 ∃ (r48 r49 : Bool),
 (FnD prog 19 [(vA [sD (dI r03), sD (dI r16), sD (dL (matD rrows1)), sD (dI r32), sD (dI r42), sD (dL (matD rrows2)), sD (dI r62), sD (dI r72), sD (dL (matD rrows3)), sD (dI r92), sD (dI r102), (sD (dL (matD (rrows4.modify (((IntKind.i64.wrap c1).tmod r92)).toNat (fun qz => qz.set (((IntKind.i64.wrap c2).tmod r102)).toNat [dB r011, dL r119]))))), sD (dI r122), sD (dI r132), sD (dB r142)])] (vD (dB r48)) []) ∧
 (FnD prog 17 [(vA [sD (dI r03), sD (dI r16), sD (dL (matD rrows1)), sD (dI r32), sD (dI r42), sD (dL (matD rrows2)), sD (dI r62), sD (dI r72), sD (dL (matD rrows3)), sD (dI r92), sD (dI r102), (sD (dL (matD (rrows4.modify (((IntKind.i64.wrap c1).tmod r92)).toNat (fun qz => qz.set (((IntKind.i64.wrap c2).tmod r102)).toNat [dB r011, dL r119]))))), sD (dI r122), sD (dI r132), sD (dB r142)])] (vD (dB r49)) []) ∧
 (R (vD (dB (r48 == r49))) [])) ∧
 (r = false →
 R (vD (dB false)) []))))) ∧
 (decide (r102 > (0 : Int)) = false →
 (r = true →
 ∃ (r50 r52 : Bool),
 (FnD prog 19 [vA [sD (dI r03), sD (dI r16), sD (dL (matD rrows1)), sD (dI r32), sD (dI r42), sD (dL (matD rrows2)), sD (dI r62), sD (dI r72), sD (dL (matD rrows3)), sD (dI r92), sD (dI r102), sD (dL (matD rrows4)), sD (dI r122), sD (dI r132), sD (dB r142)]] (vD (dB r50)) []) ∧
 (FnD prog 17 [vA [sD (dI r03), sD (dI r16), sD (dL (matD rrows1)), sD (dI r32), sD (dI r42), sD (dL (matD rrows2)), sD (dI r62), sD (dI r72), sD (dL (matD rrows3)), sD (dI r92), sD (dI r102), sD (dL (matD rrows4)), sD (dI r122), sD (dI r132), sD (dB r142)]] (vD (dB r52)) []) ∧
 (R (vD (dB (r50 == r52))) [])) ∧
 (r = false →
 R (vD (dB false)) []))) ∧
 (decide (r92 > (0 : Int)) = false →
 (r = true →
 ∃ (r53 r54 : Bool),
 (FnD prog 19 [vA [sD (dI r03), sD (dI r16), sD (dL (matD rrows1)), sD (dI r32), sD (dI r42), sD (dL (matD rrows2)), sD (dI r62), sD (dI r72), sD (dL (matD rrows3)), sD (dI r92), sD (dI r102), sD (dL (matD rrows4)), sD (dI r122), sD (dI r132), sD (dB r142)]] (vD (dB r53)) []) ∧
 (FnD prog 17 [vA [sD (dI r03), sD (dI r16), sD (dL (matD rrows1)), sD (dI r32), sD (dI r42), sD (dL (matD rrows2)), sD (dI r62), sD (dI r72), sD (dL (matD rrows3)), sD (dI r92), sD (dI r102), sD (dL (matD rrows4)), sD (dI r122), sD (dI r132), sD (dB r142)]] (vD (dB r54)) []) ∧
 (R (vD (dB (r53 == r54))) [])) ∧
 (r = false →
 R (vD (dB false)) []))))))))))))))
theorem vc7_ok (x0 x1 : Int) (x2 : DL) (n c0 : Int) (c1 c2 c3 : Int) {R : V → Heap → Prop} (h : vc7 x0 x1 x2 n c0 c1 c2 c3 R) : FnG prog 7 [vA [sD (D.int .u8 x0), sD (D.int .u8 x1), sD (dL x2)], vD (D.int .u8 n), vA [sD (D.int .u8 c0), sD (D.int .u8 c1), sD (D.int .u8 c2), sD (D.int .i8 c3)]] [] R :=
  FnG.vcg hT func7 ntmps7 (.reg 2 [(0, Or.none, 0, 1), (1, Or.none, 1, 1)] [1, 3, 5] [0, 1] [] <| .exb fun r => .reg 0 [(0, Or.call (vD (dB r)) [] [], 0, 0)] [1, 3, 5, 7] [0, 1] [] <| .ex fun r0 => .ex fun r1 => .exm fun rrows => .reg 2 [(1, Or.call (vA [sD (dI r0), sD (dI r1), S.ref 0]) [some (Obj.mat 2 rrows)] [], 2, 1), (2, Or.none, 3, 1)] [1, 5, 7, 8] [1, 3, 2] [] <| .frz [2] <| .ex fun r01 => .ex fun r11 => .exl fun r2 => .ex fun r3 => .ex fun r4 => .exl fun r5 => .ex fun r6 => .ex fun r7 => .exl fun r8 => .ex fun r9 => .ex fun r10 => .exl fun r111 => .ex fun r12 => .ex fun r13 => .exb fun r14 => .ex fun r02 => .ex fun r15 => .exl fun r21 => .ex fun r31 => .ex fun r41 => .exl fun r51 => .ex fun r61 => .ex fun r71 => .exl fun r81 => .ex fun r91 => .ex fun r101 => .exl fun r112 => .ex fun r121 => .ex fun r131 => .exb fun r141 => .ex fun r03 => .ex fun r16 => .exm fun rrows1 => .ex fun r32 => .ex fun r42 => .exm fun rrows2 => .ex fun r62 => .ex fun r72 => .exm fun rrows3 => .ex fun r92 => .ex fun r102 => .exm fun rrows4 => .ex fun r122 => .ex fun r132 => .exb fun r142 => .reg 5 [(1, Or.call (vA [sD (dI r01), sD (dI r11), sD (dL r2), sD (dI r3), sD (dI r4), sD (dL r5), sD (dI r6), sD (dI r7), sD (dL r8), sD (dI r9), sD (dI r10), sD (dL r111), sD (dI r12), sD (dI r13), sD (dB r14)]) [] [], 0, 0), (5, Or.call (vA [sD (dI r02), sD (dI r15), sD (dL r21), sD (dI r31), sD (dI r41), sD (dL r51), sD (dI r61), sD (dI r71), sD (dL r81), sD (dI r91), sD (dI r101), sD (dL r112), sD (dI r121), sD (dI r131), sD (dB r141)]) [] [], 0, 0), (6, Or.call (vA [sD (dI r03), sD (dI r16), S.ref 0, sD (dI r32), sD (dI r42), S.ref 1, sD (dI r62), sD (dI r72), S.ref 2, sD (dI r92), sD (dI r102), S.ref 3, sD (dI r122), sD (dI r132), sD (dB r142)]) [some (Obj.mat 2 rrows1), some (Obj.mat 2 rrows2), some (Obj.mat 2 rrows3), some (Obj.mat 2 rrows4)] [], 3, 4), (7, Or.none, 7, 1)] [5, 7, 9] [0, 7, 3, 4, 5, 6] [] <| .reg 1 [(8, Or.none, 6, 1)] [5, 7, 9, 10] [0, 1, 6, 2, 3, 4, 5] [] <| .r1 [5, 7, 9, 10, 35] [0, 1, 2, 3, 4, 5, 6] <| .r1 [5, 7, 9, 10, 35, 82] [0, 1, 2, 3, 4, 5, 6] <| .c2 (.r1 [7, 9] [1, 3, 4, 5, 6] <| .frz [1] <| .frz [2] <| .frz [3] <| .frz [4] <| .spl r (.exb fun r17 => .exb fun r18 => .drw 0 [(1, (Or.bool true, 0, 0), []), (3, (Or.call (vD (dB r17)) [] [], 0, 0), []), (5, (Or.call (vD (dB r18)) [] [], 0, 0), [])] [6] [] [.old 0] <| .ret []) (.drw 0 [(1, (Or.bool false, 0, 0), [])] [6] [] [.old 0] <| .ret [])) (.r1 [5, 7, 9, 10, 35, 91] [0, 1, 2, 3, 4, 5, 6] <| .c2 (.r1 [7, 9] [1, 3, 4, 5, 6] <| .frz [1] <| .frz [2] <| .frz [3] <| .frz [4] <| .spl r (.exb fun r19 => .exb fun r20 => .drw 0 [(1, (Or.bool true, 0, 0), []), (3, (Or.call (vD (dB r19)) [] [], 0, 0), []), (5, (Or.call (vD (dB r20)) [] [], 0, 0), [])] [6] [] [.old 0] <| .ret []) (.drw 0 [(1, (Or.bool false, 0, 0), [])] [6] [] [.old 0] <| .ret [])) (.r1 [5, 7, 9, 10, 35, 100] [0, 1, 2, 3, 4, 5, 6] <| .c2 (.r1 [7, 9] [1, 3, 4, 5, 6] <| .frz [1] <| .frz [2] <| .frz [3] <| .frz [4] <| .spl r (.exb fun r22 => .exb fun r23 => .drw 0 [(1, (Or.bool true, 0, 0), []), (3, (Or.call (vD (dB r22)) [] [], 0, 0), []), (5, (Or.call (vD (dB r23)) [] [], 0, 0), [])] [6] [] [.old 0] <| .ret []) (.drw 0 [(1, (Or.bool false, 0, 0), [])] [6] [] [.old 0] <| .ret [])) (.r1 [5, 7, 9, 10, 106] [0, 1, 2, 3, 4, 5, 6] <| .c2 (.r1 [7, 9] [1, 3, 4, 6] <| .frz [1] <| .frz [2] <| .frz [3] <| .spl r (.exb fun r24 => .exb fun r25 => .drw 0 [(1, (Or.bool true, 0, 0), []), (3, (Or.call (vD (dB r24)) [] [], 0, 0), []), (5, (Or.call (vD (dB r25)) [] [], 0, 0), [])] [6] [] [.old 0] <| .ret []) (.drw 0 [(1, (Or.bool false, 0, 0), [])] [6] [] [.old 0] <| .ret [])) (.spl ((decide ((c0.tmod (8 : Int)) = (0 : Int)))) (.reg 1 [(3, Or.int (0 : Int), 0, 0), (6, Or.none, 7, 1)] [5, 7, 9, 11] [0, 1, 7, 3, 4, 5, 6] [.old 5, .old 0] <| .spl ((decide (r03 > (0 : Int)))) (.reg 0 [(3, Or.bool true, 0, 0)] [5, 7, 9, 11, 49] [0, 1, 2, 3, 4, 5, 6] [.old 0] <| .c2 (.r1 [5, 7, 9, 11, 12] [0, 1, 2, 3, 4, 5, 6] <| .r1 [5, 7, 9, 11, 12, 13] [0, 1, 2, 3, 4, 5, 6] <| .exb fun x01 => .exl fun x11 => .exb fun r04 => .exl fun r110 => .exb fun r05 => .exl fun r113 => .drw 0 [(13, (Or.cells [dB x01, dL x11], 0, 0), []), (17, (Or.call (vA [sD (dB r04), sD (dL r110)]) [] [], 0, 0), []), (18, (Or.call (vA [sD (dB r05), sD (dL r113)]) [] [], 0, 0), []), (20, (Or.none, 0, 0), [3])] [7, 9] [1, 3, 4, 5, 6] [.new, .old 0, .new, .new, .new, .new, .old 3] <| .frz [1] <| .frz [2] <| .frz [3] <| .frz [4] <| .spl r (.exb fun r26 => .exb fun r27 => .drw 0 [(1, (Or.bool true, 0, 0), []), (3, (Or.call (vD (dB r26)) [] [], 0, 0), []), (5, (Or.call (vD (dB r27)) [] [], 0, 0), [])] [6] [] [.old 0] <| .ret []) (.drw 0 [(1, (Or.bool false, 0, 0), [])] [6] [] [.old 0] <| .ret [])) (.frz [3] <| .frz [4] <| .frz [5] <| .frz [6] <| .spl r (.exb fun r28 => .exb fun r29 => .drw 0 [(1, (Or.bool true, 0, 0), []), (3, (Or.call (vD (dB r28)) [] [], 0, 0), []), (5, (Or.call (vD (dB r29)) [] [], 0, 0), [])] [6] [] [.old 0] <| .ret []) (.drw 0 [(1, (Or.bool false, 0, 0), [])] [6] [] [.old 0] <| .ret []))) (.reg 0 [(3, Or.bool false, 0, 0)] [5, 7, 9, 11, 49] [0, 1, 2, 3, 4, 5, 6] [.old 0] <| .ct false none <| .frz [3] <| .frz [4] <| .frz [5] <| .frz [6] <| .spl r (.exb fun r30 => .exb fun r33 => .drw 0 [(1, (Or.bool true, 0, 0), []), (3, (Or.call (vD (dB r30)) [] [], 0, 0), []), (5, (Or.call (vD (dB r33)) [] [], 0, 0), [])] [6] [] [.old 0] <| .ret []) (.drw 0 [(1, (Or.bool false, 0, 0), [])] [6] [] [.old 0] <| .ret []))) (.spl ((decide ((c0.tmod (8 : Int)) = (1 : Int)))) (.reg 1 [(3, Or.int (1 : Int), 0, 0), (6, Or.none, 7, 1)] [5, 7, 9, 11] [0, 1, 7, 3, 4, 5, 6] [.old 6, .old 0] <| .spl ((decide (r32 > (0 : Int)))) (.reg 0 [(3, Or.bool true, 0, 0)] [5, 7, 9, 11, 49] [0, 1, 2, 3, 4, 5, 6] [.old 0] <| .c2 (.r1 [5, 7, 9, 11, 12] [0, 1, 2, 3, 4, 5, 6] <| .r1 [5, 7, 9, 11, 12, 13] [0, 1, 2, 3, 4, 5, 6] <| .exb fun x02 => .exl fun x12 => .exb fun r06 => .exl fun r114 => .exb fun r07 => .exl fun r115 => .drw 0 [(13, (Or.cells [dB x02, dL x12], 0, 0), []), (17, (Or.call (vA [sD (dB r06), sD (dL r114)]) [] [], 0, 0), []), (18, (Or.call (vA [sD (dB r07), sD (dL r115)]) [] [], 0, 0), []), (20, (Or.none, 0, 0), [4])] [7, 9] [1, 3, 4, 5, 6] [.new, .old 0, .new, .new, .new, .new, .old 3] <| .frz [1] <| .frz [2] <| .frz [3] <| .frz [4] <| .spl r (.exb fun r34 => .exb fun r35 => .drw 0 [(1, (Or.bool true, 0, 0), []), (3, (Or.call (vD (dB r34)) [] [], 0, 0), []), (5, (Or.call (vD (dB r35)) [] [], 0, 0), [])] [6] [] [.old 0] <| .ret []) (.drw 0 [(1, (Or.bool false, 0, 0), [])] [6] [] [.old 0] <| .ret [])) (.frz [3] <| .frz [4] <| .frz [5] <| .frz [6] <| .spl r (.exb fun r36 => .exb fun r37 => .drw 0 [(1, (Or.bool true, 0, 0), []), (3, (Or.call (vD (dB r36)) [] [], 0, 0), []), (5, (Or.call (vD (dB r37)) [] [], 0, 0), [])] [6] [] [.old 0] <| .ret []) (.drw 0 [(1, (Or.bool false, 0, 0), [])] [6] [] [.old 0] <| .ret []))) (.reg 0 [(3, Or.bool false, 0, 0)] [5, 7, 9, 11, 49] [0, 1, 2, 3, 4, 5, 6] [.old 0] <| .ct false none <| .frz [3] <| .frz [4] <| .frz [5] <| .frz [6] <| .spl r (.exb fun r38 => .exb fun r39 => .drw 0 [(1, (Or.bool true, 0, 0), []), (3, (Or.call (vD (dB r38)) [] [], 0, 0), []), (5, (Or.call (vD (dB r39)) [] [], 0, 0), [])] [6] [] [.old 0] <| .ret []) (.drw 0 [(1, (Or.bool false, 0, 0), [])] [6] [] [.old 0] <| .ret []))) (.spl ((decide ((c0.tmod (8 : Int)) = (2 : Int)))) (.reg 1 [(3, Or.int (2 : Int), 0, 0), (6, Or.none, 7, 1)] [5, 7, 9, 11] [0, 1, 7, 3, 4, 5, 6] [.old 7, .old 0] <| .spl ((decide (r62 > (0 : Int)))) (.reg 0 [(3, Or.bool true, 0, 0)] [5, 7, 9, 11, 49] [0, 1, 2, 3, 4, 5, 6] [.old 0] <| .c2 (.r1 [5, 7, 9, 11, 12] [0, 1, 2, 3, 4, 5, 6] <| .r1 [5, 7, 9, 11, 12, 13] [0, 1, 2, 3, 4, 5, 6] <| .exb fun x03 => .exl fun x13 => .exb fun r08 => .exl fun r116 => .exb fun r09 => .exl fun r117 => .drw 0 [(13, (Or.cells [dB x03, dL x13], 0, 0), []), (17, (Or.call (vA [sD (dB r08), sD (dL r116)]) [] [], 0, 0), []), (18, (Or.call (vA [sD (dB r09), sD (dL r117)]) [] [], 0, 0), []), (20, (Or.none, 0, 0), [5])] [7, 9] [1, 3, 4, 5, 6] [.new, .old 0, .new, .new, .new, .new, .old 3] <| .frz [1] <| .frz [2] <| .frz [3] <| .frz [4] <| .spl r (.exb fun r40 => .exb fun r43 => .drw 0 [(1, (Or.bool true, 0, 0), []), (3, (Or.call (vD (dB r40)) [] [], 0, 0), []), (5, (Or.call (vD (dB r43)) [] [], 0, 0), [])] [6] [] [.old 0] <| .ret []) (.drw 0 [(1, (Or.bool false, 0, 0), [])] [6] [] [.old 0] <| .ret [])) (.frz [3] <| .frz [4] <| .frz [5] <| .frz [6] <| .spl r (.exb fun r44 => .exb fun r45 => .drw 0 [(1, (Or.bool true, 0, 0), []), (3, (Or.call (vD (dB r44)) [] [], 0, 0), []), (5, (Or.call (vD (dB r45)) [] [], 0, 0), [])] [6] [] [.old 0] <| .ret []) (.drw 0 [(1, (Or.bool false, 0, 0), [])] [6] [] [.old 0] <| .ret []))) (.reg 0 [(3, Or.bool false, 0, 0)] [5, 7, 9, 11, 49] [0, 1, 2, 3, 4, 5, 6] [.old 0] <| .ct false none <| .frz [3] <| .frz [4] <| .frz [5] <| .frz [6] <| .spl r (.exb fun r46 => .exb fun r47 => .drw 0 [(1, (Or.bool true, 0, 0), []), (3, (Or.call (vD (dB r46)) [] [], 0, 0), []), (5, (Or.call (vD (dB r47)) [] [], 0, 0), [])] [6] [] [.old 0] <| .ret []) (.drw 0 [(1, (Or.bool false, 0, 0), [])] [6] [] [.old 0] <| .ret []))) (.reg 1 [(3, Or.int (3 : Int), 0, 0), (6, Or.none, 7, 1)] [5, 7, 9, 11] [0, 1, 7, 3, 4, 5, 6] [.old 7] <| .spl ((decide (r92 > (0 : Int)))) (.reg 0 [(3, Or.bool true, 0, 0)] [5, 7, 9, 11, 49] [0, 1, 2, 3, 4, 5, 6] [.old 0] <| .c2 (.r1 [5, 7, 9, 11, 12] [0, 1, 2, 3, 4, 5, 6] <| .r1 [5, 7, 9, 11, 12, 13] [0, 1, 2, 3, 4, 5, 6] <| .exb fun x04 => .exl fun x14 => .exb fun r010 => .exl fun r118 => .exb fun r011 => .exl fun r119 => .drw 0 [(13, (Or.cells [dB x04, dL x14], 0, 0), []), (17, (Or.call (vA [sD (dB r010), sD (dL r118)]) [] [], 0, 0), []), (18, (Or.call (vA [sD (dB r011), sD (dL r119)]) [] [], 0, 0), []), (20, (Or.none, 0, 0), [6])] [7, 9] [1, 3, 4, 5, 6] [.new, .old 0, .new, .new, .new, .new, .old 3] <| .frz [1] <| .frz [2] <| .frz [3] <| .frz [4] <| .spl r (.exb fun r48 => .exb fun r49 => .drw 0 [(1, (Or.bool true, 0, 0), []), (3, (Or.call (vD (dB r48)) [] [], 0, 0), []), (5, (Or.call (vD (dB r49)) [] [], 0, 0), [])] [6] [] [.old 0] <| .ret []) (.drw 0 [(1, (Or.bool false, 0, 0), [])] [6] [] [.old 0] <| .ret [])) (.frz [3] <| .frz [4] <| .frz [5] <| .frz [6] <| .spl r (.exb fun r50 => .exb fun r52 => .drw 0 [(1, (Or.bool true, 0, 0), []), (3, (Or.call (vD (dB r50)) [] [], 0, 0), []), (5, (Or.call (vD (dB r52)) [] [], 0, 0), [])] [6] [] [.old 0] <| .ret []) (.drw 0 [(1, (Or.bool false, 0, 0), [])] [6] [] [.old 0] <| .ret []))) (.reg 0 [(3, Or.bool false, 0, 0)] [5, 7, 9, 11, 49] [0, 1, 2, 3, 4, 5, 6] [.old 0] <| .ct false none <| .frz [3] <| .frz [4] <| .frz [5] <| .frz [6] <| .spl r (.exb fun r53 => .exb fun r54 => .drw 0 [(1, (Or.bool true, 0, 0), []), (3, (Or.call (vD (dB r53)) [] [], 0, 0), []), (5, (Or.call (vD (dB r54)) [] [], 0, 0), [])] [6] [] [.old 0] <| .ret []) (.drw 0 [(1, (Or.bool false, 0, 0), [])] [6] [] [.old 0] <| .ret []))))))))))
    (by kernel_rfl) (by kernel_rfl) (by kernel_rfl) h
end Go.AM
