/- What functions of the program come to: group Int. Printed by vc.py. -/
import Derived.Test.YtipnbapgfbghgaaGreatA1
set_option maxRecDepth 100000
set_option linter.unusedVariables false
namespace Go.AM
open Go.Proofs.Tryz
def vc131 (vx : Int) (R : V → Heap → Prop) : Prop :=
 R (vD (dB (vx != vx))) []
theorem vc131_ok (vx : Int) {R : V → Heap → Prop} (h : vc131 vx R) : FnG prog 131 [vD (dI vx)] [] R :=
  FnG.vcg hT func131 ntmps131 (.r0 [0] <| .r0 [2] <| .ret [])
    (by kernel_rfl) (by kernel_rfl) (by kernel_rfl) h
def vc132 (vx : Int) (R : V → Heap → Prop) : Prop :=
 R (vD (dB (vx != vx))) []
theorem vc132_ok (vx : Int) {R : V → Heap → Prop} (h : vc132 vx R) : FnG prog 132 [vD (dU vx)] [] R :=
  FnG.vcg hT func132 ntmps132 (.r0 [0] <| .r0 [2] <| .ret [])
    (by kernel_rfl) (by kernel_rfl) (by kernel_rfl) h
def vc124 (vx y : Int) (R : V → Heap → Prop) : Prop :=
 ∃ (r : Bool),
 (FnD prog 131 [vD (dI vx)] (vD (dB r)) []) ∧
 (∃ (r1 : Bool),
 (FnD prog 131 [vD (dI y)] (vD (dB r1)) []) ∧
 ((r = true →
 (r1 = true →
 R (vD (dI (0 : Int))) []) ∧
 (r1 = false →
 R (vD (dI (-1 : Int))) [])) ∧
 (r = false →
 (r1 = true →
 R (vD (dI (1 : Int))) []) ∧
 (r1 = false →
 (decide (vx < y) = true →
 R (vD (dI (-1 : Int))) []) ∧
 (decide (vx < y) = false →
 (decide (vx > y) = true →
 R (vD (dI (1 : Int))) []) ∧
 (decide (vx > y) = false →
 R (vD (dI (0 : Int))) []))))))
theorem vc124_ok (vx y : Int) {R : V → Heap → Prop} (h : vc124 vx y R) : FnG prog 124 [vD (dI vx), vD (dI y)] [] R :=
  FnG.vcg hT func124 ntmps124 (.r0 [0, 1] <| .exb fun r => .reg 0 [(1, Or.call (vD (dB r)) [] [], 0, 0)] [0, 1, 5] [] [] <| .exb fun r1 => .reg 0 [(1, Or.call (vD (dB r1)) [] [], 0, 0)] [0, 1, 5, 6] [] [] <| .r0 [0, 1, 6, 11] <| .c2 (.r0 [12] <| .c2 (.r0 [4] <| .ret []) (.r0 [4] <| .ret [])) (.r0 [0, 1, 13] <| .c2 (.r0 [4] <| .ret []) (.r0 [0, 1, 16] <| .c2 (.r0 [4] <| .ret []) (.r0 [19] <| .c2 (.r0 [4] <| .ret []) (.r0 [4] <| .ret [])))))
    (by kernel_rfl) (by kernel_rfl) (by kernel_rfl) h
def vc125 (vx y : Int) (R : V → Heap → Prop) : Prop :=
 ∃ (r : Bool),
 (FnD prog 132 [vD (dU vx)] (vD (dB r)) []) ∧
 (∃ (r1 : Bool),
 (FnD prog 132 [vD (dU y)] (vD (dB r1)) []) ∧
 ((r = true →
 (r1 = true →
 R (vD (dI (0 : Int))) []) ∧
 (r1 = false →
 R (vD (dI (-1 : Int))) [])) ∧
 (r = false →
 (r1 = true →
 R (vD (dI (1 : Int))) []) ∧
 (r1 = false →
 (decide (vx < y) = true →
 R (vD (dI (-1 : Int))) []) ∧
 (decide (vx < y) = false →
 (decide (vx > y) = true →
 R (vD (dI (1 : Int))) []) ∧
 (decide (vx > y) = false →
 R (vD (dI (0 : Int))) []))))))
theorem vc125_ok (vx y : Int) {R : V → Heap → Prop} (h : vc125 vx y R) : FnG prog 125 [vD (dU vx), vD (dU y)] [] R :=
  FnG.vcg hT func125 ntmps125 (.r0 [0, 1] <| .exb fun r => .reg 0 [(1, Or.call (vD (dB r)) [] [], 0, 0)] [0, 1, 5] [] [] <| .exb fun r1 => .reg 0 [(1, Or.call (vD (dB r1)) [] [], 0, 0)] [0, 1, 5, 6] [] [] <| .r0 [0, 1, 6, 11] <| .c2 (.r0 [12] <| .c2 (.r0 [4] <| .ret []) (.r0 [4] <| .ret [])) (.r0 [0, 1, 13] <| .c2 (.r0 [4] <| .ret []) (.r0 [0, 1, 16] <| .c2 (.r0 [4] <| .ret []) (.r0 [19] <| .c2 (.r0 [4] <| .ret []) (.r0 [4] <| .ret [])))))
    (by kernel_rfl) (by kernel_rfl) (by kernel_rfl) h
def vc130 (vx y carry : Int) (R : V → Heap → Prop) : Prop :=
 (0 ≤ (32 : Int)) ∧
 (R (V.tup [eD (dU (IntKind.u32.wrap (IntKind.u64.wrap ((IntKind.u64.wrap ((IntKind.u64.wrap vx) + (IntKind.u64.wrap y))) + (IntKind.u64.wrap carry))))), eD (dU (IntKind.u32.wrap ((IntKind.u64.wrap ((IntKind.u64.wrap ((IntKind.u64.wrap vx) + (IntKind.u64.wrap y))) + (IntKind.u64.wrap carry))).fdiv (2 ^ (min (32 : Int).toNat IntKind.u64.bits)))))]) [])
theorem vc130_ok (vx y carry : Int) {R : V → Heap → Prop} (h : vc130 vx y carry R) : FnG prog 130 [vD (dU vx), vD (dU y), vD (dU carry)] [] R :=
  FnG.vcg hT func130 ntmps130 (.r0 [0, 1, 2] <| .r0 [8] <| .r0 [6, 8] <| .r0 [6, 7] <| .ret [])
    (by kernel_rfl) (by kernel_rfl) (by kernel_rfl) h
def vc129 (vx y borrow : Int) (R : V → Heap → Prop) : Prop :=
 (0 ≤ (31 : Int)) ∧
 (R (V.tup [eD (dU (IntKind.u32.wrap ((IntKind.u32.wrap (vx - y)) - borrow))), eD (dU ((bitsI .u32 (· ||| ·) (bitsI .u32 (· &&& ·) (bitsI .u32 (· ^^^ ·) (if IntKind.u32.signed then -1 else IntKind.u32.max) vx) y) (bitsI .u32 (· &&& ·) (bitsI .u32 (· ^^^ ·) (if IntKind.u32.signed then -1 else IntKind.u32.max) (bitsI .u32 (· ^^^ ·) vx y)) (IntKind.u32.wrap ((IntKind.u32.wrap (vx - y)) - borrow)))).fdiv (2 ^ (min (31 : Int).toNat IntKind.u32.bits))))]) [])
theorem vc129_ok (vx y borrow : Int) {R : V → Heap → Prop} (h : vc129 vx y borrow R) : FnG prog 129 [vD (dU vx), vD (dU y), vD (dU borrow)] [] R :=
  FnG.vcg hT func129 ntmps129 (.r0 [0, 1, 2] <| .r0 [0, 1, 6] <| .r0 [6, 7] <| .ret [])
    (by kernel_rfl) (by kernel_rfl) (by kernel_rfl) h
def vc92 (mag : DL) (neg : Bool) (R : V → Heap → Prop) : Prop :=
 ∃ (J0 : Int → Prop) (μ0 : Int → Nat),
 J0 (mag.length : Int) ∧ ∀ (n : Int), J0 n →
 (decide (n > (0 : Int)) = true →
 ∃ (vx : Int),
 (0 ≤ (IntKind.i64.wrap (n - (1 : Int))) ∧ (IntKind.i64.wrap (n - (1 : Int))) < (mag.length : Int)) ∧
 (mag[((IntKind.i64.wrap (n - (1 : Int)))).toNat]? = some [dU vx]) ∧
 (((vx != (0 : Int)) = true →
 (neg = true →
 (0 ≤ n ∧ n ≤ n ∧ n ≤ (mag.length : Int)) ∧
 (R (vA [sD (dB (decide (n > (0 : Int)))), sD (dL (mag.take (n).toNat))]) [])) ∧
 (neg = false →
 (0 ≤ n ∧ n ≤ n ∧ n ≤ (mag.length : Int)) ∧
 (R (vA [sD (dB false), sD (dL (mag.take (n).toNat))]) []))) ∧
 ((vx != (0 : Int)) = false →
 J0 (IntKind.i64.wrap (n - (1 : Int))) ∧ μ0 (IntKind.i64.wrap (n - (1 : Int))) < μ0 n))) ∧
 (decide (n > (0 : Int)) = false →
 (neg = true →
 (0 ≤ n ∧ n ≤ n ∧ n ≤ (mag.length : Int)) ∧
 (R (vA [sD (dB (decide (n > (0 : Int)))), sD (dL (mag.take (n).toNat))]) [])) ∧
 (neg = false →
 (0 ≤ n ∧ n ≤ n ∧ n ≤ (mag.length : Int)) ∧
 (R (vA [sD (dB false), sD (dL (mag.take (n).toNat))]) [])))
theorem vc92_ok (mag : DL) (neg : Bool) {R : V → Heap → Prop} (h : vc92 mag neg R) : FnG prog 92 [vD (dL mag), vD (dB neg)] [] R :=
  FnG.vcg hT func92 ntmps92 (.reg 1 [(0, Or.none, 0, 1)] [0, 1, 4] [0] [] <| .r1 [0, 1, 4, 5] [0] <| .lp [.i] (fun n => ⟨[(0, vD (dL mag)), (1, vD (dB neg)), (4, vP 0 0), (5, vD (dI n))], [some (Obj.box [sD (dB false), sD (D.raw (.slice none 0 0))])], 28⟩) [.i (mag.length : Int)] <| .fi fun n => .beg <| .r1 [0, 1, 4, 5, 9] [0] <| .c2 (.ex fun vx => .reg 0 [(4, Or.cells [dU vx], 0, 0)] [0, 1, 4, 5, 15] [0] [] <| .c2 (.spl neg (.reg 0 [(1, Or.bool true, 0, 0)] [4] [0] [.old 0] <| .ret []) (.reg 0 [(1, Or.bool false, 0, 0)] [4] [0] [.old 0] <| .ret [])) (.r1 [0, 1, 4, 5] [0] <| .bk 0 [.i (IntKind.i64.wrap (n - (1 : Int)))])) (.spl neg (.reg 0 [(1, Or.bool true, 0, 0)] [4] [0] [.old 0] <| .ret []) (.reg 0 [(1, Or.bool false, 0, 0)] [4] [0] [.old 0] <| .ret [])))
    (by kernel_rfl) (by kernel_rfl) (by kernel_rfl) h
def vc120 (a b : DL) (R : V → Heap → Prop) : Prop :=
 (decide ((a.length : Int) < (b.length : Int)) = true →
 (0 ≤ (IntKind.i64.wrap ((b.length : Int) + (1 : Int))) ∧ (IntKind.i64.wrap ((b.length : Int) + (1 : Int))) ≤ (IntKind.i64.wrap ((b.length : Int) + (1 : Int))) ∧ (IntKind.i64.wrap ((b.length : Int) + (1 : Int))) * (4 : Nat) ≤ 281474976710656) ∧
 ((∀ y ∈ b, y.length = 1) ∧
 (∃ (J0 : (DL) → Int → Int → Prop) (μ0 : (DL) → Int → Int → Nat),
 J0 (b.take (List.replicate ((IntKind.i64.wrap ((b.length : Int) + (1 : Int)))).toNat [dU (0 : Int)]).length ++ (List.replicate ((IntKind.i64.wrap ((b.length : Int) + (1 : Int)))).toNat [dU (0 : Int)]).drop b.length) (0 : Int) (0 : Int) ∧ ∀ (out : DL) (t25 carry : Int), J0 out t25 carry →
 (decide (t25 < (b.length : Int)) = true →
 (decide (t25 < (a.length : Int)) = true →
 ∃ (vx : Int),
 (0 ≤ t25 ∧ t25 < (a.length : Int)) ∧
 (a[(t25).toNat]? = some [dU vx]) ∧
 (∃ (vx1 r r1 : Int),
 (0 ≤ t25 ∧ t25 < (b.length : Int)) ∧
 (b[(t25).toNat]? = some [dU vx1]) ∧
 (FnD prog 130 [vD (dU vx1), vD (dU vx), vD (dU carry)] (V.tup [eD (dU r), eD (dU r1)]) []) ∧
 (0 ≤ t25 ∧ t25 < (out.length : Int)) ∧
 (J0 (out.set (t25).toNat [dU r]) (IntKind.i64.wrap (t25 + (1 : Int))) r1 ∧ μ0 (out.set (t25).toNat [dU r]) (IntKind.i64.wrap (t25 + (1 : Int))) r1 < μ0 out t25 carry))) ∧
 (decide (t25 < (a.length : Int)) = false →
 ∃ (vx2 r2 r3 : Int),
 (0 ≤ t25 ∧ t25 < (b.length : Int)) ∧
 (b[(t25).toNat]? = some [dU vx2]) ∧
 (FnD prog 130 [vD (dU vx2), vD (dU (0 : Int)), vD (dU carry)] (V.tup [eD (dU r2), eD (dU r3)]) []) ∧
 (0 ≤ t25 ∧ t25 < (out.length : Int)) ∧
 (J0 (out.set (t25).toNat [dU r2]) (IntKind.i64.wrap (t25 + (1 : Int))) r3 ∧ μ0 (out.set (t25).toNat [dU r2]) (IntKind.i64.wrap (t25 + (1 : Int))) r3 < μ0 out t25 carry))) ∧
 (decide (t25 < (b.length : Int)) = false →
 (0 ≤ (b.length : Int) ∧ (b.length : Int) < (out.length : Int)) ∧
 (R (vD (dL (out.set ((b.length : Int)).toNat [dU carry]))) []))))) ∧
 (decide ((a.length : Int) < (b.length : Int)) = false →
 (0 ≤ (IntKind.i64.wrap ((a.length : Int) + (1 : Int))) ∧ (IntKind.i64.wrap ((a.length : Int) + (1 : Int))) ≤ (IntKind.i64.wrap ((a.length : Int) + (1 : Int))) ∧ (IntKind.i64.wrap ((a.length : Int) + (1 : Int))) * (4 : Nat) ≤ 281474976710656) ∧
 ((∀ y ∈ a, y.length = 1) ∧
 (∃ (J1 : (DL) → Int → Int → Prop) (μ1 : (DL) → Int → Int → Nat),
 J1 (a.take (List.replicate ((IntKind.i64.wrap ((a.length : Int) + (1 : Int)))).toNat [dU (0 : Int)]).length ++ (List.replicate ((IntKind.i64.wrap ((a.length : Int) + (1 : Int)))).toNat [dU (0 : Int)]).drop a.length) (0 : Int) (0 : Int) ∧ ∀ (out1 : DL) (t251 carry1 : Int), J1 out1 t251 carry1 →
 (decide (t251 < (a.length : Int)) = true →
 (decide (t251 < (b.length : Int)) = true →
 ∃ (vx3 : Int),
 (0 ≤ t251 ∧ t251 < (b.length : Int)) ∧
 (b[(t251).toNat]? = some [dU vx3]) ∧
 (∃ (vx4 r4 r5 : Int),
 (0 ≤ t251 ∧ t251 < (a.length : Int)) ∧
 (a[(t251).toNat]? = some [dU vx4]) ∧
 (FnD prog 130 [vD (dU vx4), vD (dU vx3), vD (dU carry1)] (V.tup [eD (dU r4), eD (dU r5)]) []) ∧
 (0 ≤ t251 ∧ t251 < (out1.length : Int)) ∧
 (J1 (out1.set (t251).toNat [dU r4]) (IntKind.i64.wrap (t251 + (1 : Int))) r5 ∧ μ1 (out1.set (t251).toNat [dU r4]) (IntKind.i64.wrap (t251 + (1 : Int))) r5 < μ1 out1 t251 carry1))) ∧
 (decide (t251 < (b.length : Int)) = false →
 ∃ (vx5 r6 r7 : Int),
 (0 ≤ t251 ∧ t251 < (a.length : Int)) ∧
 (a[(t251).toNat]? = some [dU vx5]) ∧
 (FnD prog 130 [vD (dU vx5), vD (dU (0 : Int)), vD (dU carry1)] (V.tup [eD (dU r6), eD (dU r7)]) []) ∧
 (0 ≤ t251 ∧ t251 < (out1.length : Int)) ∧
 (J1 (out1.set (t251).toNat [dU r6]) (IntKind.i64.wrap (t251 + (1 : Int))) r7 ∧ μ1 (out1.set (t251).toNat [dU r6]) (IntKind.i64.wrap (t251 + (1 : Int))) r7 < μ1 out1 t251 carry1))) ∧
 (decide (t251 < (a.length : Int)) = false →
 (0 ≤ (a.length : Int) ∧ (a.length : Int) < (out1.length : Int)) ∧
 (R (vD (dL (out1.set ((a.length : Int)).toNat [dU carry1]))) [])))))
theorem vc120_ok (a b : DL) {R : V → Heap → Prop} (h : vc120 a b R) : FnG prog 120 [vD (dL a), vD (dL b)] [] R :=
  FnG.vcg hT func120 ntmps120 (.r0 [0, 1] <| .r0 [0, 1, 13] <| .c2 (.r0 [0, 1] <| .reg 1 [(3, Or.none, 0, 1)] [0, 1, 5] [0] [] <| .r1 [0, 1, 5] [0] <| .r1 [0, 1, 5, 6] [0] <| .r1 [0, 1, 5, 6, 24, 25] [0] <| .lp [.l, .i, .i] (fun out t25 carry => ⟨[(0, vD (dL b)), (1, vD (dL a)), (5, vR 0), (6, vD (dU carry)), (24, vD (dI (b.length : Int))), (25, vD (dI t25))], [some (Obj.arr 1 out)], 56⟩) [.l (b.take (List.replicate ((IntKind.i64.wrap ((b.length : Int) + (1 : Int)))).toNat [dU (0 : Int)]).length ++ (List.replicate ((IntKind.i64.wrap ((b.length : Int) + (1 : Int)))).toNat [dU (0 : Int)]).drop b.length), .i (0 : Int), .i (0 : Int)] <| .fl fun out => .fi fun t25 => .fi fun carry => .beg <| .r1 [0, 1, 5, 6, 24, 25, 26] [0] <| .c2 (.r1 [0, 1, 5, 6, 7, 24, 25] [0] <| .r1 [0, 1, 5, 6, 7, 8, 24, 25] [0] <| .r1 [0, 1, 5, 6, 7, 8, 24, 25, 31] [0] <| .c2 (.ex fun vx => .reg 0 [(3, Or.cells [dU vx], 0, 0)] [0, 1, 5, 6, 7, 8, 24, 25] [0] [] <| .ex fun vx1 => .ex fun r => .ex fun r1 => .reg 0 [(5, Or.cells [dU vx1], 0, 0), (8, Or.call (V.tup [eD (dU r), eD (dU r1)]) [] [], 0, 0)] [0, 1, 5, 6, 24, 25] [0] [] <| .r1 [0, 1, 5, 6, 24, 25] [0] <| .bk 0 [.l (out.set (t25).toNat [dU r]), .i (IntKind.i64.wrap (t25 + (1 : Int))), .i r1]) (.ex fun vx2 => .ex fun r2 => .ex fun r3 => .reg 0 [(5, Or.cells [dU vx2], 0, 0), (8, Or.call (V.tup [eD (dU r2), eD (dU r3)]) [] [], 0, 0)] [0, 1, 5, 6, 24, 25] [0] [] <| .r1 [0, 1, 5, 6, 24, 25] [0] <| .bk 0 [.l (out.set (t25).toNat [dU r2]), .i (IntKind.i64.wrap (t25 + (1 : Int))), .i r3])) (.r1 [5] [0] <| .r1 [4] [0] <| .frz [0] <| .ret [])) (.reg 1 [(3, Or.none, 0, 1)] [0, 1, 5] [0] [] <| .r1 [0, 1, 5] [0] <| .r1 [0, 1, 5, 6] [0] <| .r1 [0, 1, 5, 6, 24, 25] [0] <| .lp [.l, .i, .i] (fun out1 t251 carry1 => ⟨[(0, vD (dL a)), (1, vD (dL b)), (5, vR 0), (6, vD (dU carry1)), (24, vD (dI (a.length : Int))), (25, vD (dI t251))], [some (Obj.arr 1 out1)], 56⟩) [.l (a.take (List.replicate ((IntKind.i64.wrap ((a.length : Int) + (1 : Int)))).toNat [dU (0 : Int)]).length ++ (List.replicate ((IntKind.i64.wrap ((a.length : Int) + (1 : Int)))).toNat [dU (0 : Int)]).drop a.length), .i (0 : Int), .i (0 : Int)] <| .fl fun out1 => .fi fun t251 => .fi fun carry1 => .beg <| .r1 [0, 1, 5, 6, 24, 25, 26] [0] <| .c2 (.r1 [0, 1, 5, 6, 7, 24, 25] [0] <| .r1 [0, 1, 5, 6, 7, 8, 24, 25] [0] <| .r1 [0, 1, 5, 6, 7, 8, 24, 25, 31] [0] <| .c2 (.ex fun vx3 => .reg 0 [(3, Or.cells [dU vx3], 0, 0)] [0, 1, 5, 6, 7, 8, 24, 25] [0] [] <| .ex fun vx4 => .ex fun r4 => .ex fun r5 => .reg 0 [(5, Or.cells [dU vx4], 0, 0), (8, Or.call (V.tup [eD (dU r4), eD (dU r5)]) [] [], 0, 0)] [0, 1, 5, 6, 24, 25] [0] [] <| .r1 [0, 1, 5, 6, 24, 25] [0] <| .bk 0 [.l (out1.set (t251).toNat [dU r4]), .i (IntKind.i64.wrap (t251 + (1 : Int))), .i r5]) (.ex fun vx5 => .ex fun r6 => .ex fun r7 => .reg 0 [(5, Or.cells [dU vx5], 0, 0), (8, Or.call (V.tup [eD (dU r6), eD (dU r7)]) [] [], 0, 0)] [0, 1, 5, 6, 24, 25] [0] [] <| .r1 [0, 1, 5, 6, 24, 25] [0] <| .bk 0 [.l (out1.set (t251).toNat [dU r6]), .i (IntKind.i64.wrap (t251 + (1 : Int))), .i r7])) (.r1 [5] [0] <| .r1 [4] [0] <| .frz [0] <| .ret [])))
    (by kernel_rfl) (by kernel_rfl) (by kernel_rfl) h
def vc113 (a b : DL) (R : V → Heap → Prop) : Prop :=
 ∃ (r : Int),
 (FnD prog 124 [vD (dI (a.length : Int)), vD (dI (b.length : Int))] (vD (dI r)) []) ∧
 (((r != (0 : Int)) = true →
 R (vD (dI r)) []) ∧
 ((r != (0 : Int)) = false →
 ∃ (J0 : Int → Prop) (μ0 : Int → Nat),
 J0 (IntKind.i64.wrap ((a.length : Int) - (1 : Int))) ∧ ∀ (i : Int), J0 i →
 (decide (i ≥ (0 : Int)) = true →
 ∃ (vx vx1 r1 : Int),
 (0 ≤ i ∧ i < (a.length : Int)) ∧
 (a[(i).toNat]? = some [dU vx]) ∧
 (0 ≤ i ∧ i < (b.length : Int)) ∧
 (b[(i).toNat]? = some [dU vx1]) ∧
 (FnD prog 125 [vD (dU vx), vD (dU vx1)] (vD (dI r1)) []) ∧
 (((r1 != (0 : Int)) = true →
 R (vD (dI r1)) []) ∧
 ((r1 != (0 : Int)) = false →
 J0 (IntKind.i64.wrap (i - (1 : Int))) ∧ μ0 (IntKind.i64.wrap (i - (1 : Int))) < μ0 i))) ∧
 (decide (i ≥ (0 : Int)) = false →
 R (vD (dI (0 : Int))) [])))
theorem vc113_ok (a b : DL) {R : V → Heap → Prop} (h : vc113 a b R) : FnG prog 113 [vD (dL a), vD (dL b)] [] R :=
  FnG.vcg hT func113 ntmps113 (.r0 [0, 1] <| .ex fun r => .reg 0 [(4, Or.call (vD (dI r)) [] [], 0, 0)] [0, 1, 5] [] [] <| .r0 [0, 1, 5, 14] <| .c2 (.r0 [4] <| .ret []) (.r0 [0, 1, 6] <| .lp [.i] (fun i => ⟨[(0, vD (dL a)), (1, vD (dL b)), (6, vD (dI i))], [], 35⟩) [.i (IntKind.i64.wrap ((a.length : Int) - (1 : Int)))] <| .fi fun i => .beg <| .r0 [0, 1, 6, 20] <| .c2 (.ex fun vx => .ex fun vx1 => .ex fun r1 => .drw 0 [(3, (Or.cells [dU vx], 0, 0), []), (7, (Or.cells [dU vx1], 0, 0), []), (8, (Or.call (vD (dI r1)) [] [], 0, 0), [])] [0, 1, 6, 7] [] [] <| .r0 [0, 1, 6, 7, 33] <| .c2 (.r0 [4] <| .ret []) (.r0 [0, 1, 6] <| .bk 0 [.i (IntKind.i64.wrap (i - (1 : Int)))])) (.r0 [4] <| .ret [])))
    (by kernel_rfl) (by kernel_rfl) (by kernel_rfl) h
def vc119 (a b : DL) (R : V → Heap → Prop) : Prop :=
 (0 ≤ (a.length : Int) ∧ (a.length : Int) ≤ (a.length : Int) ∧ (a.length : Int) * (4 : Nat) ≤ 281474976710656) ∧
 (∃ (J0 : (DL) → Int → Int → Prop) (μ0 : (DL) → Int → Int → Nat),
 J0 (List.replicate ((a.length : Int)).toNat [dU (0 : Int)]) (0 : Int) (0 : Int) ∧ ∀ (out : DL) (t14 borrow : Int), J0 out t14 borrow →
 (decide (t14 < (a.length : Int)) = true →
 (decide (t14 < (b.length : Int)) = true →
 ∃ (vx : Int),
 (0 ≤ t14 ∧ t14 < (b.length : Int)) ∧
 (b[(t14).toNat]? = some [dU vx]) ∧
 (∃ (vx1 r r1 : Int),
 (0 ≤ t14 ∧ t14 < (a.length : Int)) ∧
 (a[(t14).toNat]? = some [dU vx1]) ∧
 (FnD prog 129 [vD (dU vx1), vD (dU vx), vD (dU borrow)] (V.tup [eD (dU r), eD (dU r1)]) []) ∧
 (0 ≤ t14 ∧ t14 < (out.length : Int)) ∧
 (J0 (out.set (t14).toNat [dU r]) (IntKind.i64.wrap (t14 + (1 : Int))) r1 ∧ μ0 (out.set (t14).toNat [dU r]) (IntKind.i64.wrap (t14 + (1 : Int))) r1 < μ0 out t14 borrow))) ∧
 (decide (t14 < (b.length : Int)) = false →
 ∃ (vx2 r2 r3 : Int),
 (0 ≤ t14 ∧ t14 < (a.length : Int)) ∧
 (a[(t14).toNat]? = some [dU vx2]) ∧
 (FnD prog 129 [vD (dU vx2), vD (dU (0 : Int)), vD (dU borrow)] (V.tup [eD (dU r2), eD (dU r3)]) []) ∧
 (0 ≤ t14 ∧ t14 < (out.length : Int)) ∧
 (J0 (out.set (t14).toNat [dU r2]) (IntKind.i64.wrap (t14 + (1 : Int))) r3 ∧ μ0 (out.set (t14).toNat [dU r2]) (IntKind.i64.wrap (t14 + (1 : Int))) r3 < μ0 out t14 borrow))) ∧
 (decide (t14 < (a.length : Int)) = false →
 R (vD (dL out)) []))
theorem vc119_ok (a b : DL) {R : V → Heap → Prop} (h : vc119 a b R) : FnG prog 119 [vD (dL a), vD (dL b)] [] R :=
  FnG.vcg hT func119 ntmps119 (.r0 [0, 1] <| .reg 1 [(2, Or.none, 0, 1)] [0, 1, 5] [0] [] <| .r1 [0, 1, 5, 6] [0] <| .r1 [0, 1, 5, 6, 13, 14] [0] <| .lp [.l, .i, .i] (fun out t14 borrow => ⟨[(0, vD (dL a)), (1, vD (dL b)), (5, vR 0), (6, vD (dU borrow)), (13, vD (dI (a.length : Int))), (14, vD (dI t14))], [some (Obj.arr 1 out)], 40⟩) [.l (List.replicate ((a.length : Int)).toNat [dU (0 : Int)]), .i (0 : Int), .i (0 : Int)] <| .fl fun out => .fi fun t14 => .fi fun borrow => .beg <| .r1 [0, 1, 5, 6, 13, 14, 15] [0] <| .c2 (.r1 [0, 1, 5, 6, 7, 13, 14] [0] <| .r1 [0, 1, 5, 6, 7, 8, 13, 14] [0] <| .r1 [0, 1, 5, 6, 7, 8, 13, 14, 20] [0] <| .c2 (.ex fun vx => .reg 0 [(3, Or.cells [dU vx], 0, 0)] [0, 1, 5, 6, 7, 8, 13, 14] [0] [] <| .ex fun vx1 => .ex fun r => .ex fun r1 => .reg 0 [(5, Or.cells [dU vx1], 0, 0), (8, Or.call (V.tup [eD (dU r), eD (dU r1)]) [] [], 0, 0)] [0, 1, 5, 6, 13, 14] [0] [] <| .r1 [0, 1, 5, 6, 13, 14] [0] <| .bk 0 [.l (out.set (t14).toNat [dU r]), .i (IntKind.i64.wrap (t14 + (1 : Int))), .i r1]) (.ex fun vx2 => .ex fun r2 => .ex fun r3 => .reg 0 [(5, Or.cells [dU vx2], 0, 0), (8, Or.call (V.tup [eD (dU r2), eD (dU r3)]) [] [], 0, 0)] [0, 1, 5, 6, 13, 14] [0] [] <| .r1 [0, 1, 5, 6, 13, 14] [0] <| .bk 0 [.l (out.set (t14).toNat [dU r2]), .i (IntKind.i64.wrap (t14 + (1 : Int))), .i r3])) (.r1 [4] [0] <| .frz [0] <| .ret []))
    (by kernel_rfl) (by kernel_rfl) (by kernel_rfl) h
def vc86 (a0 : Bool) (a1 : DL) (b0 : Bool) (b1 : DL) (R : V → Heap → Prop) : Prop :=
 (a0 = true →
 ((!b0) = true →
 R (vD (dI (-1 : Int))) []) ∧
 ((!b0) = false →
 (b0 = true →
 ((!a0) = true →
 R (vD (dI (1 : Int))) []) ∧
 ((!a0) = false →
 ∃ (r : Int),
 (FnD prog 113 [vD (dL b1), vD (dL a1)] (vD (dI r)) []) ∧
 (R (vD (dI r)) []))) ∧
 (b0 = false →
 ∃ (r1 : Int),
 (FnD prog 113 [vD (dL b1), vD (dL a1)] (vD (dI r1)) []) ∧
 (R (vD (dI r1)) [])))) ∧
 (a0 = false →
 (b0 = true →
 ((!a0) = true →
 R (vD (dI (1 : Int))) []) ∧
 ((!a0) = false →
 ∃ (r2 : Int),
 (FnD prog 113 [vD (dL a1), vD (dL b1)] (vD (dI r2)) []) ∧
 (R (vD (dI r2)) []))) ∧
 (b0 = false →
 ∃ (r3 : Int),
 (FnD prog 113 [vD (dL a1), vD (dL b1)] (vD (dI r3)) []) ∧
 (R (vD (dI r3)) [])))
theorem vc86_ok (a0 : Bool) (a1 : DL) (b0 : Bool) (b1 : DL) {R : V → Heap → Prop} (h : vc86 a0 a1 b0 b1 R) : FnG prog 86 [vA [sD (dB a0), sD (dL a1)], vA [sD (dB b0), sD (dL b1)]] [] R :=
  FnG.vcg hT func86 ntmps86 (.reg 2 [(0, Or.none, 0, 1), (1, Or.none, 1, 1)] [2, 3] [0, 1] [] <| .spl a0 (.reg 0 [(2, Or.bool true, 0, 0)] [2, 3, 5] [0, 1] [.old 0] <| .c2 (.r0 [4] <| .ret []) (.spl b0 (.reg 0 [(2, Or.bool true, 0, 0)] [2, 3, 13] [0, 1] [.old 0] <| .c2 (.r0 [4] <| .ret []) (.r1 [2, 3, 21] [0, 1] <| .ct true (some 3) <| .ex fun r => .reg 0 [(4, Or.call (vD (dI r)) [] [], 0, 0)] [4] [] [] <| .ret [])) (.reg 0 [(2, Or.bool false, 0, 0)] [2, 3, 13] [0, 1] [.old 0] <| .ct false none <| .r1 [2, 3, 21] [0, 1] <| .ct true (some 2) <| .ex fun r1 => .reg 0 [(4, Or.call (vD (dI r1)) [] [], 0, 0)] [4] [] [] <| .ret []))) (.reg 0 [(2, Or.bool false, 0, 0)] [2, 3, 5] [0, 1] [.old 0] <| .ct false none <| .spl b0 (.reg 0 [(2, Or.bool true, 0, 0)] [2, 3, 13] [0, 1] [.old 0] <| .c2 (.r0 [4] <| .ret []) (.r1 [2, 3, 21] [0, 1] <| .ct false (some 2) <| .ex fun r2 => .reg 0 [(4, Or.call (vD (dI r2)) [] [], 0, 0)] [4] [] [] <| .ret [])) (.reg 0 [(2, Or.bool false, 0, 0)] [2, 3, 13] [0, 1] [.old 0] <| .ct false none <| .r1 [2, 3, 21] [0, 1] <| .ct false (some 1) <| .ex fun r3 => .reg 0 [(4, Or.call (vD (dI r3)) [] [], 0, 0)] [4] [] [] <| .ret [])))
    (by kernel_rfl) (by kernel_rfl) (by kernel_rfl) h
def vc83 (a0 : Bool) (a1 : DL) (R : V → Heap → Prop) : Prop :=
 (((a1.length : Int) == (0 : Int)) = true →
 R (vD (dI (0 : Int))) []) ∧
 (((a1.length : Int) == (0 : Int)) = false →
 (a0 = true →
 R (vD (dI (-1 : Int))) []) ∧
 (a0 = false →
 R (vD (dI (1 : Int))) []))
theorem vc83_ok (a0 : Bool) (a1 : DL) {R : V → Heap → Prop} (h : vc83 a0 a1 R) : FnG prog 83 [vA [sD (dB a0), sD (dL a1)]] [] R :=
  FnG.vcg hT func83 ntmps83 (.reg 1 [(0, Or.none, 0, 1)] [1] [0] [] <| .r1 [1, 3] [0] <| .c2 (.r0 [2] <| .ret []) (.r0 [8] <| .c2 (.r0 [2] <| .ret []) (.r0 [2] <| .ret [])))
    (by kernel_rfl) (by kernel_rfl) (by kernel_rfl) h
def vc95 (a0 : Bool) (a1 : DL) (R : V → Heap → Prop) : Prop :=
 ((!a0) = true →
 R (vA [sD (dB (decide ((a1.length : Int) > (0 : Int)))), sD (dL a1)]) []) ∧
 ((!a0) = false →
 R (vA [sD (dB false), sD (dL a1)]) [])
theorem vc95_ok (a0 : Bool) (a1 : DL) {R : V → Heap → Prop} (h : vc95 a0 a1 R) : FnG prog 95 [vA [sD (dB a0), sD (dL a1)]] [] R :=
  FnG.vcg hT func95 ntmps95 (.reg 2 [(0, Or.none, 0, 1), (1, Or.none, 1, 1)] [1, 2] [0, 1] [] <| .spl ((!a0)) (.reg 0 [(3, Or.bool true, 0, 0)] [2] [1] [.old 0] <| .ret []) (.reg 0 [(3, Or.bool false, 0, 0)] [2] [1] [.old 0] <| .ret []))
    (by kernel_rfl) (by kernel_rfl) (by kernel_rfl) h
def vc99 (a0 : Bool) (a1 : DL) (b0 : Bool) (b1 : DL) (R : V → Heap → Prop) : Prop :=
 ((a0 == b0) = true →
 ∃ (r : DL) (r0 : Bool) (r1 : DL),
 (FnD prog 120 [vD (dL a1), vD (dL b1)] (vD (dL r)) []) ∧
 (FnD prog 92 [vD (dL r), vD (dB a0)] (vA [sD (dB r0), sD (dL r1)]) []) ∧
 (R (vA [sD (dB r0), sD (dL r1)]) [])) ∧
 ((a0 == b0) = false →
 ∃ (r2 : Int),
 (FnD prog 113 [vD (dL a1), vD (dL b1)] (vD (dI r2)) []) ∧
 ((decide (r2 < (0 : Int)) = true →
 ∃ (r3 : DL) (r01 : Bool) (r11 : DL),
 (FnD prog 119 [vD (dL b1), vD (dL a1)] (vD (dL r3)) []) ∧
 (FnD prog 92 [vD (dL r3), vD (dB b0)] (vA [sD (dB r01), sD (dL r11)]) []) ∧
 (R (vA [sD (dB r01), sD (dL r11)]) [])) ∧
 (decide (r2 < (0 : Int)) = false →
 ∃ (r4 : DL) (r02 : Bool) (r12 : DL),
 (FnD prog 119 [vD (dL a1), vD (dL b1)] (vD (dL r4)) []) ∧
 (FnD prog 92 [vD (dL r4), vD (dB a0)] (vA [sD (dB r02), sD (dL r12)]) []) ∧
 (R (vA [sD (dB r02), sD (dL r12)]) []))))
theorem vc99_ok (a0 : Bool) (a1 : DL) (b0 : Bool) (b1 : DL) {R : V → Heap → Prop} (h : vc99 a0 a1 b0 b1 R) : FnG prog 99 [vA [sD (dB a0), sD (dL a1)], vA [sD (dB b0), sD (dL b1)]] [] R :=
  FnG.vcg hT func99 ntmps99 (.reg 3 [(0, Or.none, 0, 1), (1, Or.none, 1, 1), (2, Or.none, 2, 1)] [2, 3, 4] [0, 1, 2] [] <| .r1 [2, 3, 4, 5] [0, 1, 2] <| .c2 (.exl fun r => .exb fun r0 => .exl fun r1 => .drw 0 [(4, (Or.call (vD (dL r)) [] [], 0, 0), []), (7, (Or.call (vA [sD (dB r0), sD (dL r1)]) [] [], 0, 0), []), (8, (Or.none, 0, 0), [2])] [4] [2] [] <| .ret []) (.ex fun r2 => .reg 0 [(4, Or.call (vD (dI r2)) [] [], 0, 0)] [2, 3, 4, 19] [0, 1, 2] [] <| .c2 (.exl fun r3 => .exb fun r01 => .exl fun r11 => .drw 0 [(4, (Or.call (vD (dL r3)) [] [], 0, 0), []), (7, (Or.call (vA [sD (dB r01), sD (dL r11)]) [] [], 0, 0), []), (8, (Or.none, 0, 0), [2])] [4] [2] [] <| .ret []) (.exl fun r4 => .exb fun r02 => .exl fun r12 => .drw 0 [(4, (Or.call (vD (dL r4)) [] [], 0, 0), []), (7, (Or.call (vA [sD (dB r02), sD (dL r12)]) [] [], 0, 0), []), (8, (Or.none, 0, 0), [2])] [4] [2] [] <| .ret [])))
    (by kernel_rfl) (by kernel_rfl) (by kernel_rfl) h
def vc63 (n : Int) (R : V → Heap → Prop) : Prop :=
 (decide (n < (0 : Int)) = true →
 ∃ (r0 : Bool) (r1 : DL),
 (0 ≤ (32 : Int)) ∧
 (FnD prog 92 [vD (dL [[dU (IntKind.u32.wrap (IntKind.u64.wrap (0 - (IntKind.u64.wrap n))))], [dU (IntKind.u32.wrap ((IntKind.u64.wrap (0 - (IntKind.u64.wrap n))).fdiv (2 ^ (min (32 : Int).toNat IntKind.u64.bits))))]]), vD (dB (decide (n < (0 : Int))))] (vA [sD (dB r0), sD (dL r1)]) []) ∧
 (R (vA [sD (dB r0), sD (dL r1)]) [])) ∧
 (decide (n < (0 : Int)) = false →
 ∃ (r01 : Bool) (r11 : DL),
 (0 ≤ (32 : Int)) ∧
 (FnD prog 92 [vD (dL [[dU (IntKind.u32.wrap (IntKind.u64.wrap n))], [dU (IntKind.u32.wrap ((IntKind.u64.wrap n).fdiv (2 ^ (min (32 : Int).toNat IntKind.u64.bits))))]]), vD (dB (decide (n < (0 : Int))))] (vA [sD (dB r01), sD (dL r11)]) []) ∧
 (R (vA [sD (dB r01), sD (dL r11)]) []))
theorem vc63_ok (n : Int) {R : V → Heap → Prop} (h : vc63 n R) : FnG prog 63 [vD (dI n)] [] R :=
  FnG.vcg hT func63 ntmps63 (.reg 1 [(0, Or.none, 0, 1)] [0, 2] [0] [] <| .r1 [0, 2, 3] [0] <| .r1 [0, 2, 3, 7] [0] <| .c2 (.r1 [0, 2, 3] [0] <| .exb fun r0 => .exl fun r1 => .reg 1 [(5, Or.frz, 1, 1), (8, Or.call (vA [sD (dB r0), sD (dL r1)]) [] [], 0, 0)] [2] [0] [] <| .ret []) (.exb fun r01 => .exl fun r11 => .reg 1 [(5, Or.frz, 1, 1), (8, Or.call (vA [sD (dB r01), sD (dL r11)]) [] [], 0, 0)] [2] [0] [] <| .ret []))
    (by kernel_rfl) (by kernel_rfl) (by kernel_rfl) h
def vc97 (a0 : Bool) (a1 : DL) (b0 : Bool) (b1 : DL) (R : V → Heap → Prop) : Prop :=
 ∃ (r0 : Bool) (r1 : DL) (r01 : Bool) (r11 : DL),
 (FnD prog 95 [vA [sD (dB b0), sD (dL b1)]] (vA [sD (dB r0), sD (dL r1)]) []) ∧
 (FnD prog 99 [vA [sD (dB a0), sD (dL a1)], vA [sD (dB r0), sD (dL r1)]] (vA [sD (dB r01), sD (dL r11)]) []) ∧
 (R (vA [sD (dB r01), sD (dL r11)]) [])
theorem vc97_ok (a0 : Bool) (a1 : DL) (b0 : Bool) (b1 : DL) {R : V → Heap → Prop} (h : vc97 a0 a1 b0 b1 R) : FnG prog 97 [vA [sD (dB a0), sD (dL a1)], vA [sD (dB b0), sD (dL b1)]] [] R :=
  FnG.vcg hT func97 ntmps97 (.reg 3 [(0, Or.none, 0, 1), (1, Or.none, 1, 1), (2, Or.none, 2, 1)] [2, 3, 4] [0, 1, 2] [] <| .exb fun r0 => .exl fun r1 => .exb fun r01 => .exl fun r11 => .drw 0 [(2, (Or.call (vA [sD (dB r0), sD (dL r1)]) [] [], 0, 0), []), (3, (Or.call (vA [sD (dB r01), sD (dL r11)]) [] [], 0, 0), []), (4, (Or.none, 0, 0), [2])] [4] [2] [] <| .ret [])
    (by kernel_rfl) (by kernel_rfl) (by kernel_rfl) h
def vc98 (a0 : Bool) (a1 : DL) (b0 : Bool) (b1 : DL) (R : V → Heap → Prop) : Prop :=
 (0 ≤ (IntKind.i64.wrap ((a1.length : Int) + (b1.length : Int))) ∧ (IntKind.i64.wrap ((a1.length : Int) + (b1.length : Int))) ≤ (IntKind.i64.wrap ((a1.length : Int) + (b1.length : Int))) ∧ (IntKind.i64.wrap ((a1.length : Int) + (b1.length : Int))) * (4 : Nat) ≤ 281474976710656) ∧
 (∃ (J0 : (DL) → Int → Prop) (μ0 : (DL) → Int → Nat),
 J0 (List.replicate ((IntKind.i64.wrap ((a1.length : Int) + (b1.length : Int)))).toNat [dU (0 : Int)]) (0 : Int) ∧ ∀ (out : DL) (t22 : Int), J0 out t22 →
 (decide (t22 < (a1.length : Int)) = true →
 ∃ (vx : Int),
 (0 ≤ t22 ∧ t22 < (a1.length : Int)) ∧
 (a1[(t22).toNat]? = some [dU vx]) ∧
 (∃ (J1 : (DL) → Int → Int → Prop) (μ1 : (DL) → Int → Int → Nat),
 J1 out (0 : Int) (0 : Int) ∧ ∀ (out1 : DL) (t30 carry : Int), J1 out1 t30 carry →
 (decide (t30 < (b1.length : Int)) = true →
 ∃ (vx1 : Int),
 (0 ≤ t30 ∧ t30 < (b1.length : Int)) ∧
 (b1[(t30).toNat]? = some [dU vx1]) ∧
 (∃ (vx2 : Int),
 (0 ≤ (IntKind.i64.wrap (t22 + t30)) ∧ (IntKind.i64.wrap (t22 + t30)) < (out1.length : Int)) ∧
 (out1[((IntKind.i64.wrap (t22 + t30))).toNat]? = some [dU vx2]) ∧
 ((0 ≤ (32 : Int)) ∧
 (J1 (out1.set ((IntKind.i64.wrap (t22 + t30))).toNat [dU (IntKind.u32.wrap (IntKind.u64.wrap (carry + (IntKind.u64.wrap ((IntKind.u64.wrap ((IntKind.u64.wrap vx) * (IntKind.u64.wrap vx1))) + (IntKind.u64.wrap vx2))))))]) (IntKind.i64.wrap (t30 + (1 : Int))) ((IntKind.u64.wrap (carry + (IntKind.u64.wrap ((IntKind.u64.wrap ((IntKind.u64.wrap vx) * (IntKind.u64.wrap vx1))) + (IntKind.u64.wrap vx2))))).fdiv (2 ^ (min (32 : Int).toNat IntKind.u64.bits))) ∧ μ1 (out1.set ((IntKind.i64.wrap (t22 + t30))).toNat [dU (IntKind.u32.wrap (IntKind.u64.wrap (carry + (IntKind.u64.wrap ((IntKind.u64.wrap ((IntKind.u64.wrap vx) * (IntKind.u64.wrap vx1))) + (IntKind.u64.wrap vx2))))))]) (IntKind.i64.wrap (t30 + (1 : Int))) ((IntKind.u64.wrap (carry + (IntKind.u64.wrap ((IntKind.u64.wrap ((IntKind.u64.wrap vx) * (IntKind.u64.wrap vx1))) + (IntKind.u64.wrap vx2))))).fdiv (2 ^ (min (32 : Int).toNat IntKind.u64.bits))) < μ1 out1 t30 carry)))) ∧
 (decide (t30 < (b1.length : Int)) = false →
 (0 ≤ (IntKind.i64.wrap (t22 + (b1.length : Int))) ∧ (IntKind.i64.wrap (t22 + (b1.length : Int))) < (out1.length : Int)) ∧
 (J0 (out1.set ((IntKind.i64.wrap (t22 + (b1.length : Int)))).toNat [dU (IntKind.u32.wrap carry)]) (IntKind.i64.wrap (t22 + (1 : Int))) ∧ μ0 (out1.set ((IntKind.i64.wrap (t22 + (b1.length : Int)))).toNat [dU (IntKind.u32.wrap carry)]) (IntKind.i64.wrap (t22 + (1 : Int))) < μ0 out t22)))) ∧
 (decide (t22 < (a1.length : Int)) = false →
 ∃ (r0 : Bool) (r1 : DL),
 (FnD prog 92 [vD (dL out), vD (dB (!(a0 == b0)))] (vA [sD (dB r0), sD (dL r1)]) []) ∧
 (R (vA [sD (dB r0), sD (dL r1)]) [])))
theorem vc98_ok (a0 : Bool) (a1 : DL) (b0 : Bool) (b1 : DL) {R : V → Heap → Prop} (h : vc98 a0 a1 b0 b1 R) : FnG prog 98 [vA [sD (dB a0), sD (dL a1)], vA [sD (dB b0), sD (dL b1)]] [] R :=
  FnG.vcg hT func98 ntmps98 (.reg 3 [(0, Or.none, 0, 1), (1, Or.none, 1, 1), (2, Or.none, 2, 1)] [2, 3, 4] [0, 1, 2] [] <| .reg 1 [(7, Or.none, 3, 1)] [2, 3, 4, 5] [0, 1, 2, 3] [] <| .r1 [2, 3, 4, 5, 20, 21, 22] [0, 1, 2, 3] <| .lp [.l, .i] (fun out t22 => ⟨[(2, vP 0 0), (3, vP 1 0), (4, vP 2 0), (5, vR 3), (20, vD (dL a1)), (21, vD (dI (a1.length : Int))), (22, vD (dI t22))], [some (Obj.box [sD (dB a0), sD (dL a1)]), some (Obj.box [sD (dB b0), sD (dL b1)]), some (Obj.box [sD (dB false), sD (D.raw (.slice none 0 0))]), some (Obj.arr 1 out)], 77⟩) [.l (List.replicate ((IntKind.i64.wrap ((a1.length : Int) + (b1.length : Int)))).toNat [dU (0 : Int)]), .i (0 : Int)] <| .fl fun out => .fi fun t22 => .beg <| .r1 [2, 3, 4, 5, 20, 21, 22, 23] [0, 1, 2, 3] <| .c2 (.ex fun vx => .reg 0 [(2, Or.cells [dU vx], 0, 0)] [2, 3, 4, 5, 6, 7, 20, 21, 22] [0, 1, 2, 3] [] <| .r1 [2, 3, 4, 5, 6, 7, 8, 20, 21, 22] [0, 1, 2, 3] <| .r1 [2, 3, 4, 5, 6, 7, 8, 20, 21, 22, 28, 29, 30] [0, 1, 2, 3] <| .lp [.l, .i, .i] (fun out1 t30 carry => ⟨[(2, vP 0 0), (3, vP 1 0), (4, vP 2 0), (5, vR 3), (6, vD (dI t22)), (7, vD (dU vx)), (8, vD (D.int .u64 carry)), (20, vD (dL a1)), (21, vD (dI (a1.length : Int))), (22, vD (dI t22)), (28, vD (dL b1)), (29, vD (dI (b1.length : Int))), (30, vD (dI t30))], [some (Obj.box [sD (dB a0), sD (dL a1)]), some (Obj.box [sD (dB b0), sD (dL b1)]), some (Obj.box [sD (dB false), sD (D.raw (.slice none 0 0))]), some (Obj.arr 1 out1)], 77⟩) [.l out, .i (0 : Int), .i (0 : Int)] <| .fl fun out1 => .fi fun t30 => .fi fun carry => .beg <| .r1 [2, 3, 4, 5, 6, 7, 8, 20, 21, 22, 28, 29, 30, 31] [0, 1, 2, 3] <| .c2 (.ex fun vx1 => .reg 0 [(2, Or.cells [dU vx1], 0, 0)] [2, 3, 4, 5, 6, 7, 8, 9, 10, 20, 21, 22, 28, 29, 30] [0, 1, 2, 3] [] <| .ex fun vx2 => .reg 0 [(11, Or.cells [dU vx2], 0, 0)] [2, 3, 4, 5, 6, 7, 8, 9, 20, 21, 22, 28, 29, 30] [0, 1, 2, 3] [] <| .reg 0 [] [2, 3, 4, 5, 6, 7, 8, 20, 21, 22, 28, 29, 30] [0, 1, 2, 3] [.old 1] <| .r1 [2, 3, 4, 5, 6, 7, 8, 20, 21, 22, 28, 29, 30] [0, 1, 2, 3] <| .r1 [2, 3, 4, 5, 6, 7, 8, 20, 21, 22, 28, 29, 30] [0, 1, 2, 3] <| .bk 0 [.l (out1.set ((IntKind.i64.wrap (t22 + t30))).toNat [dU (IntKind.u32.wrap (IntKind.u64.wrap (carry + (IntKind.u64.wrap ((IntKind.u64.wrap ((IntKind.u64.wrap vx) * (IntKind.u64.wrap vx1))) + (IntKind.u64.wrap vx2))))))]), .i (IntKind.i64.wrap (t30 + (1 : Int))), .i ((IntKind.u64.wrap (carry + (IntKind.u64.wrap ((IntKind.u64.wrap ((IntKind.u64.wrap vx) * (IntKind.u64.wrap vx1))) + (IntKind.u64.wrap vx2))))).fdiv (2 ^ (min (32 : Int).toNat IntKind.u64.bits)))]) (.r1 [2, 3, 4, 5, 20, 21, 22] [0, 1, 2, 3] <| .r1 [2, 3, 4, 5, 20, 21, 22] [0, 1, 2, 3] <| .bk 1 [.l (out1.set ((IntKind.i64.wrap (t22 + (b1.length : Int)))).toNat [dU (IntKind.u32.wrap carry)]), .i (IntKind.i64.wrap (t22 + (1 : Int)))])) (.frz [3] <| .exb fun r0 => .exl fun r1 => .reg 0 [(6, Or.call (vA [sD (dB r0), sD (dL r1)]) [] [], 0, 0)] [4] [2] [] <| .ret []))
    (by kernel_rfl) (by kernel_rfl) (by kernel_rfl) h
end Go.AM
/- What functions of the program come to: group Ref. Printed by vc.py. -/
set_option maxRecDepth 100000
set_option linter.unusedVariables false
namespace Go.AM
open Go.Proofs.Tryz
def vc56 (raw : DL) (neg : Bool) (R : V → Heap → Prop) : Prop :=
 ∃ (J0 : Int → Prop) (μ0 : Int → Nat),
 J0 (raw.length : Int) ∧ ∀ (n : Int), J0 n →
 (decide (n > (0 : Int)) = true →
 ∃ (vx : Int),
 (0 ≤ (IntKind.i64.wrap (n - (1 : Int))) ∧ (IntKind.i64.wrap (n - (1 : Int))) < (raw.length : Int)) ∧
 (raw[((IntKind.i64.wrap (n - (1 : Int)))).toNat]? = some [dU vx]) ∧
 (((vx == (0 : Int)) = true →
 J0 (IntKind.i64.wrap (n - (1 : Int))) ∧ μ0 (IntKind.i64.wrap (n - (1 : Int))) < μ0 n) ∧
 ((vx == (0 : Int)) = false →
 (neg = true →
 (0 ≤ n ∧ n ≤ (raw.length : Int)) ∧
 (∀ y ∈ (raw.take (n).toNat), y.length = 1) ∧
 ((([] : DL).length + ((raw.take (n).toNat) : DL).length) * 4 ≤ 140737488355328) ∧
 (R (vA [sD (dB (decide (n > (0 : Int)))), sD (dL (([] : DL) ++ (raw.take (n).toNat)))]) [])) ∧
 (neg = false →
 (0 ≤ n ∧ n ≤ (raw.length : Int)) ∧
 (∀ y ∈ (raw.take (n).toNat), y.length = 1) ∧
 ((([] : DL).length + ((raw.take (n).toNat) : DL).length) * 4 ≤ 140737488355328) ∧
 (R (vA [sD (dB false), sD (dL (([] : DL) ++ (raw.take (n).toNat)))]) []))))) ∧
 (decide (n > (0 : Int)) = false →
 (neg = true →
 (0 ≤ n ∧ n ≤ (raw.length : Int)) ∧
 (∀ y ∈ (raw.take (n).toNat), y.length = 1) ∧
 ((([] : DL).length + ((raw.take (n).toNat) : DL).length) * 4 ≤ 140737488355328) ∧
 (R (vA [sD (dB (decide (n > (0 : Int)))), sD (dL (([] : DL) ++ (raw.take (n).toNat)))]) [])) ∧
 (neg = false →
 (0 ≤ n ∧ n ≤ (raw.length : Int)) ∧
 (∀ y ∈ (raw.take (n).toNat), y.length = 1) ∧
 ((([] : DL).length + ((raw.take (n).toNat) : DL).length) * 4 ≤ 140737488355328) ∧
 (R (vA [sD (dB false), sD (dL (([] : DL) ++ (raw.take (n).toNat)))]) [])))
theorem vc56_ok (raw : DL) (neg : Bool) {R : V → Heap → Prop} (h : vc56 raw neg R) : FnG prog 56 [vD (dL raw), vD (dB neg)] [] R :=
  FnG.vcg hT func56 ntmps56 (.reg 1 [(0, Or.none, 0, 1)] [0, 1, 4] [0] [] <| .r1 [0, 1, 4, 5] [0] <| .lp [.i] (fun n => ⟨[(0, vD (dL raw)), (1, vD (dB neg)), (4, vP 0 0), (5, vD (dI n))], [some (Obj.box [sD (dB false), sD (D.raw (.slice none 0 0))])], 31⟩) [.i (raw.length : Int)] <| .fi fun n => .beg <| .spl ((decide (n > (0 : Int)))) (.ex fun vx => .reg 0 [(2, Or.bool true, 0, 0), (7, Or.cells [dU vx], 0, 0)] [0, 1, 4, 5, 17] [0] [.old 0] <| .c2 (.r1 [0, 1, 4, 5] [0] <| .bk 0 [.i (IntKind.i64.wrap (n - (1 : Int)))]) (.spl neg (.reg 2 [(1, Or.bool true, 0, 0), (5, Or.none, 1, 1), (9, Or.none, 2, 1)] [4] [0, 2] [.old 0] <| .frz [1] <| .ret []) (.reg 2 [(1, Or.bool false, 0, 0), (5, Or.none, 1, 1), (9, Or.none, 2, 1)] [4] [0, 2] [.old 0] <| .frz [1] <| .ret []))) (.reg 0 [(2, Or.bool false, 0, 0)] [0, 1, 4, 5, 17] [0] [.old 0] <| .ct false none <| .spl neg (.reg 2 [(1, Or.bool true, 0, 0), (5, Or.none, 1, 1), (9, Or.none, 2, 1)] [4] [0, 2] [.old 0] <| .frz [1] <| .ret []) (.reg 2 [(1, Or.bool false, 0, 0), (5, Or.none, 1, 1), (9, Or.none, 2, 1)] [4] [0, 2] [.old 0] <| .frz [1] <| .ret [])))
    (by kernel_rfl) (by kernel_rfl) (by kernel_rfl) h
def vc25 (n : Int) (R : V → Heap → Prop) : Prop :=
 (decide (n < (0 : Int)) = true →
 ∃ (r0 : Bool) (r1 : DL),
 (0 ≤ (32 : Int)) ∧
 (FnD prog 56 [vD (dL [[dU (IntKind.u32.wrap (IntKind.u64.wrap (0 - (IntKind.u64.wrap n))))], [dU (IntKind.u32.wrap ((IntKind.u64.wrap (0 - (IntKind.u64.wrap n))).fdiv (2 ^ (min (32 : Int).toNat IntKind.u64.bits))))]]), vD (dB (decide (n < (0 : Int))))] (vA [sD (dB r0), sD (dL r1)]) []) ∧
 (R (vA [sD (dB r0), sD (dL r1)]) [])) ∧
 (decide (n < (0 : Int)) = false →
 ∃ (r01 : Bool) (r11 : DL),
 (0 ≤ (32 : Int)) ∧
 (FnD prog 56 [vD (dL [[dU (IntKind.u32.wrap (IntKind.u64.wrap n))], [dU (IntKind.u32.wrap ((IntKind.u64.wrap n).fdiv (2 ^ (min (32 : Int).toNat IntKind.u64.bits))))]]), vD (dB (decide (n < (0 : Int))))] (vA [sD (dB r01), sD (dL r11)]) []) ∧
 (R (vA [sD (dB r01), sD (dL r11)]) []))
theorem vc25_ok (n : Int) {R : V → Heap → Prop} (h : vc25 n R) : FnG prog 25 [vD (dI n)] [] R :=
  FnG.vcg hT func25 ntmps25 (.reg 1 [(0, Or.none, 0, 1)] [0, 2] [0] [] <| .r1 [0, 2, 3] [0] <| .r1 [0, 2, 3, 7] [0] <| .c2 (.r1 [0, 2, 3] [0] <| .exb fun r0 => .exl fun r1 => .reg 1 [(5, Or.frz, 1, 1), (8, Or.call (vA [sD (dB r0), sD (dL r1)]) [] [], 0, 0)] [2] [0] [] <| .ret []) (.exb fun r01 => .exl fun r11 => .reg 1 [(5, Or.frz, 1, 1), (8, Or.call (vA [sD (dB r01), sD (dL r11)]) [] [], 0, 0)] [2] [0] [] <| .ret []))
    (by kernel_rfl) (by kernel_rfl) (by kernel_rfl) h
def vc58 (a b : DL) (R : V → Heap → Prop) : Prop :=
 (((a.length : Int) != (b.length : Int)) = true →
 R (vD (dB (decide ((a.length : Int) < (b.length : Int))))) []) ∧
 (((a.length : Int) != (b.length : Int)) = false →
 ∃ (J0 : Int → Prop) (μ0 : Int → Nat),
 J0 (IntKind.i64.wrap ((a.length : Int) - (1 : Int))) ∧ ∀ (i : Int), J0 i →
 (decide (i ≥ (0 : Int)) = true →
 ∃ (vx vx1 : Int),
 (0 ≤ i ∧ i < (a.length : Int)) ∧
 (a[(i).toNat]? = some [dU vx]) ∧
 (0 ≤ i ∧ i < (b.length : Int)) ∧
 (b[(i).toNat]? = some [dU vx1]) ∧
 (((vx != vx1) = true →
 R (vD (dB (decide (vx < vx1)))) []) ∧
 ((vx != vx1) = false →
 J0 (IntKind.i64.wrap (i - (1 : Int))) ∧ μ0 (IntKind.i64.wrap (i - (1 : Int))) < μ0 i))) ∧
 (decide (i ≥ (0 : Int)) = false →
 R (vD (dB false)) []))
theorem vc58_ok (a b : DL) {R : V → Heap → Prop} (h : vc58 a b R) : FnG prog 58 [vD (dL a), vD (dL b)] [] R :=
  FnG.vcg hT func58 ntmps58 (.r0 [0, 1] <| .r0 [0, 1, 10] <| .c2 (.r0 [4] <| .ret []) (.r0 [0, 1, 5] <| .lp [.i] (fun i => ⟨[(0, vD (dL a)), (1, vD (dL b)), (5, vD (dI i))], [], 41⟩) [.i (IntKind.i64.wrap ((a.length : Int) - (1 : Int)))] <| .fi fun i => .beg <| .r0 [0, 1, 5, 20] <| .c2 (.ex fun vx => .ex fun vx1 => .drw 0 [(3, (Or.cells [dU vx], 0, 0), []), (7, (Or.cells [dU vx1], 0, 0), [])] [0, 1, 5, 31] [] [] <| .c2 (.drw 0 [(3, (Or.cells [dU vx], 0, 0), []), (7, (Or.cells [dU vx1], 0, 0), [])] [4] [] [.old 4, .old 3, .old 2, .old 1] <| .ret []) (.r0 [0, 1, 5] <| .bk 0 [.i (IntKind.i64.wrap (i - (1 : Int)))])) (.r0 [4] <| .ret [])))
    (by kernel_rfl) (by kernel_rfl) (by kernel_rfl) h
def vc88 (a0 : Bool) (a1 : DL) (b0 : Bool) (b1 : DL) (R : V → Heap → Prop) : Prop :=
 ((a0 == b0) = true →
 ∃ (r : Bool),
 (FnD prog 58 [vD (dL a1), vD (dL b1)] (vD (dB r)) []) ∧
 (((!r) = true →
 ∃ (r1 : Bool),
 (FnD prog 58 [vD (dL b1), vD (dL a1)] (vD (dB r1)) []) ∧
 (R (vD (dB (!r1))) [])) ∧
 ((!r) = false →
 R (vD (dB false)) []))) ∧
 ((a0 == b0) = false →
 R (vD (dB false)) [])
theorem vc88_ok (a0 : Bool) (a1 : DL) (b0 : Bool) (b1 : DL) {R : V → Heap → Prop} (h : vc88 a0 a1 b0 b1 R) : FnG prog 88 [vA [sD (dB a0), sD (dL a1)], vA [sD (dB b0), sD (dL b1)]] [] R :=
  FnG.vcg hT func88 ntmps88 (.reg 2 [(0, Or.none, 0, 1), (1, Or.none, 1, 1)] [2, 3] [0, 1] [] <| .spl ((a0 == b0)) (.exb fun r => .ob (FnD prog 58 [vD (dL a1), vD (dL b1)] (vD (dB r)) []) <| .spl ((!r)) (.exb fun r1 => .reg 0 [(5, Or.bool true, 0, 0), (10, Or.call (vD (dB r)) [] [], 0, 0), (13, Or.bool true, 0, 0), (18, Or.call (vD (dB r1)) [] [], 0, 0)] [4] [] [.old 2, .old 1, .old 0] <| .ret []) (.reg 0 [(5, Or.bool true, 0, 0), (10, Or.call (vD (dB r)) [] [], 0, 0), (13, Or.bool false, 0, 0)] [4] [] [.old 2, .old 1, .old 0] <| .ret [])) (.reg 0 [(5, Or.bool false, 0, 0)] [4] [] [.old 0] <| .ret []))
    (by kernel_rfl) (by kernel_rfl) (by kernel_rfl) h
def vc101 (a0 : Bool) (a1 : DL) (R : V → Heap → Prop) : Prop :=
 (((a1.length : Int) == (0 : Int)) = true →
 R (vD (dB (!a0))) []) ∧
 (((a1.length : Int) == (0 : Int)) = false →
 ∃ (vx : Int),
 (0 ≤ (IntKind.i64.wrap ((a1.length : Int) - (1 : Int))) ∧ (IntKind.i64.wrap ((a1.length : Int) - (1 : Int))) < (a1.length : Int)) ∧
 (a1[((IntKind.i64.wrap ((a1.length : Int) - (1 : Int)))).toNat]? = some [dU vx]) ∧
 (R (vD (dB (vx != (0 : Int)))) []))
theorem vc101_ok (a0 : Bool) (a1 : DL) {R : V → Heap → Prop} (h : vc101 a0 a1 R) : FnG prog 101 [vA [sD (dB a0), sD (dL a1)]] [] R :=
  FnG.vcg hT func101 ntmps101 (.reg 1 [(0, Or.none, 0, 1)] [1] [0] [] <| .r1 [1, 6] [0] <| .c2 (.r0 [2] <| .ret []) (.ex fun vx => .reg 0 [(7, Or.cells [dU vx], 0, 0)] [2] [] [] <| .ret []))
    (by kernel_rfl) (by kernel_rfl) (by kernel_rfl) h
def vc41 (a0 : Bool) (a1 : DL) (R : V → Heap → Prop) : Prop :=
 (((a1.length : Int) == (0 : Int)) = true →
 R (vD (dI (0 : Int))) []) ∧
 (((a1.length : Int) == (0 : Int)) = false →
 (a0 = true →
 R (vD (dI (-1 : Int))) []) ∧
 (a0 = false →
 R (vD (dI (1 : Int))) []))
theorem vc41_ok (a0 : Bool) (a1 : DL) {R : V → Heap → Prop} (h : vc41 a0 a1 R) : FnG prog 41 [vA [sD (dB a0), sD (dL a1)]] [] R :=
  FnG.vcg hT func41 ntmps41 (.reg 1 [(0, Or.none, 0, 1)] [1] [0] [] <| .r1 [1, 6] [0] <| .c2 (.r0 [2] <| .ret []) (.r0 [8] <| .c2 (.r0 [2] <| .ret []) (.r0 [2] <| .ret [])))
    (by kernel_rfl) (by kernel_rfl) (by kernel_rfl) h
def vc52 (a0 : Bool) (a1 : DL) (R : V → Heap → Prop) : Prop :=
 ∃ (r0 : Bool) (r1 : DL),
 (FnD prog 56 [vD (dL a1), vD (dB (!a0))] (vA [sD (dB r0), sD (dL r1)]) []) ∧
 (R (vA [sD (dB r0), sD (dL r1)]) [])
theorem vc52_ok (a0 : Bool) (a1 : DL) {R : V → Heap → Prop} (h : vc52 a0 a1 R) : FnG prog 52 [vA [sD (dB a0), sD (dL a1)]] [] R :=
  FnG.vcg hT func52 ntmps52 (.reg 2 [(0, Or.none, 0, 1), (1, Or.none, 1, 1)] [1, 2] [0, 1] [] <| .exb fun r0 => .exl fun r1 => .reg 0 [(5, Or.call (vA [sD (dB r0), sD (dL r1)]) [] [], 0, 0)] [2] [1] [] <| .ret [])
    (by kernel_rfl) (by kernel_rfl) (by kernel_rfl) h
def vc57 (a b : DL) (R : V → Heap → Prop) : Prop :=
 ∃ (J0 : (DL) → Int → Int → Prop) (μ0 : (DL) → Int → Int → Nat),
 J0 ([] : DL) (0 : Int) (0 : Int) ∧ ∀ (out : DL) (carry i : Int), J0 out carry i →
 (decide (i < (a.length : Int)) = true →
 ∃ (vx : Int),
 (0 ≤ i ∧ i < (a.length : Int)) ∧
 (a[(i).toNat]? = some [dU vx]) ∧
 ((decide (i < (b.length : Int)) = true →
 ∃ (vx1 : Int),
 (0 ≤ i ∧ i < (b.length : Int)) ∧
 (b[(i).toNat]? = some [dU vx1]) ∧
 (((out.length + ([[dU (IntKind.u32.wrap (IntKind.u64.wrap ((IntKind.u64.wrap (carry + (IntKind.u64.wrap vx))) + (IntKind.u64.wrap vx1))))]] : DL).length) * 4 ≤ 140737488355328) ∧
 (((4294967296 : Int) ≠ 0) ∧
 (J0 (out ++ [[dU (IntKind.u32.wrap (IntKind.u64.wrap ((IntKind.u64.wrap (carry + (IntKind.u64.wrap vx))) + (IntKind.u64.wrap vx1))))]]) (IntKind.u64.wrap ((IntKind.u64.wrap ((IntKind.u64.wrap (carry + (IntKind.u64.wrap vx))) + (IntKind.u64.wrap vx1))).tdiv (4294967296 : Int))) (IntKind.i64.wrap (i + (1 : Int))) ∧ μ0 (out ++ [[dU (IntKind.u32.wrap (IntKind.u64.wrap ((IntKind.u64.wrap (carry + (IntKind.u64.wrap vx))) + (IntKind.u64.wrap vx1))))]]) (IntKind.u64.wrap ((IntKind.u64.wrap ((IntKind.u64.wrap (carry + (IntKind.u64.wrap vx))) + (IntKind.u64.wrap vx1))).tdiv (4294967296 : Int))) (IntKind.i64.wrap (i + (1 : Int))) < μ0 out carry i)))) ∧
 (decide (i < (b.length : Int)) = false →
 ((out.length + ([[dU (IntKind.u32.wrap (IntKind.u64.wrap (carry + (IntKind.u64.wrap vx))))]] : DL).length) * 4 ≤ 140737488355328) ∧
 (((4294967296 : Int) ≠ 0) ∧
 (J0 (out ++ [[dU (IntKind.u32.wrap (IntKind.u64.wrap (carry + (IntKind.u64.wrap vx))))]]) (IntKind.u64.wrap ((IntKind.u64.wrap (carry + (IntKind.u64.wrap vx))).tdiv (4294967296 : Int))) (IntKind.i64.wrap (i + (1 : Int))) ∧ μ0 (out ++ [[dU (IntKind.u32.wrap (IntKind.u64.wrap (carry + (IntKind.u64.wrap vx))))]]) (IntKind.u64.wrap ((IntKind.u64.wrap (carry + (IntKind.u64.wrap vx))).tdiv (4294967296 : Int))) (IntKind.i64.wrap (i + (1 : Int))) < μ0 out carry i))))) ∧
 (decide (i < (a.length : Int)) = false →
 (decide (i < (b.length : Int)) = true →
 ∃ (vx2 : Int),
 (0 ≤ i ∧ i < (b.length : Int)) ∧
 (b[(i).toNat]? = some [dU vx2]) ∧
 (((out.length + ([[dU (IntKind.u32.wrap (IntKind.u64.wrap (carry + (IntKind.u64.wrap vx2))))]] : DL).length) * 4 ≤ 140737488355328) ∧
 (((4294967296 : Int) ≠ 0) ∧
 (J0 (out ++ [[dU (IntKind.u32.wrap (IntKind.u64.wrap (carry + (IntKind.u64.wrap vx2))))]]) (IntKind.u64.wrap ((IntKind.u64.wrap (carry + (IntKind.u64.wrap vx2))).tdiv (4294967296 : Int))) (IntKind.i64.wrap (i + (1 : Int))) ∧ μ0 (out ++ [[dU (IntKind.u32.wrap (IntKind.u64.wrap (carry + (IntKind.u64.wrap vx2))))]]) (IntKind.u64.wrap ((IntKind.u64.wrap (carry + (IntKind.u64.wrap vx2))).tdiv (4294967296 : Int))) (IntKind.i64.wrap (i + (1 : Int))) < μ0 out carry i)))) ∧
 (decide (i < (b.length : Int)) = false →
 (decide (carry > (0 : Int)) = true →
 ((out.length + ([[dU (IntKind.u32.wrap carry)]] : DL).length) * 4 ≤ 140737488355328) ∧
 (((4294967296 : Int) ≠ 0) ∧
 (J0 (out ++ [[dU (IntKind.u32.wrap carry)]]) (IntKind.u64.wrap (carry.tdiv (4294967296 : Int))) (IntKind.i64.wrap (i + (1 : Int))) ∧ μ0 (out ++ [[dU (IntKind.u32.wrap carry)]]) (IntKind.u64.wrap (carry.tdiv (4294967296 : Int))) (IntKind.i64.wrap (i + (1 : Int))) < μ0 out carry i))) ∧
 (decide (carry > (0 : Int)) = false →
 R (vD (dL out)) [])))
theorem vc57_ok (a b : DL) {R : V → Heap → Prop} (h : vc57 a b R) : FnG prog 57 [vD (dL a), vD (dL b)] [] R :=
  FnG.vcg hT func57 ntmps57 (.r0 [0, 1] <| .reg 1 [(0, Or.none, 0, 1)] [0, 1, 5, 6] [0] [] <| .r1 [0, 1, 5, 6, 7] [0] <| .lp [.l, .i, .i] (fun out carry i => ⟨[(0, vD (dL a)), (1, vD (dL b)), (5, vR 0), (6, vD (D.int .u64 carry)), (7, vD (dI i))], [some (Obj.arr 1 out)], 55⟩) [.l ([] : DL), .i (0 : Int), .i (0 : Int)] <| .fl fun out => .fi fun carry => .fi fun i => .beg <| .spl ((decide (i < (a.length : Int)))) (.reg 0 [(4, Or.bool true, 0, 0)] [0, 1, 5, 6, 7, 22] [0] [.old 0] <| .ct true none <| .r1 [0, 1, 5, 6, 7, 28] [0] <| .ct true (some 0) <| .ex fun vx => .reg 0 [(4, Or.cells [dU vx], 0, 0)] [0, 1, 5, 6, 7] [0] [] <| .r1 [0, 1, 5, 6, 7, 39] [0] <| .c2 (.ex fun vx1 => .reg 0 [(4, Or.cells [dU vx1], 0, 0)] [0, 1, 5, 6, 7] [0] [] <| .reg 2 [(3, Or.none, 1, 1), (4, Or.none, 2, 1)] [0, 1, 5, 6, 7] [2] [] <| .r1 [0, 1, 5, 6, 7] [0] <| .r1 [0, 1, 5, 6, 7] [0] <| .bk 0 [.l (out ++ [[dU (IntKind.u32.wrap (IntKind.u64.wrap ((IntKind.u64.wrap (carry + (IntKind.u64.wrap vx))) + (IntKind.u64.wrap vx1))))]]), .i (IntKind.u64.wrap ((IntKind.u64.wrap ((IntKind.u64.wrap (carry + (IntKind.u64.wrap vx))) + (IntKind.u64.wrap vx1))).tdiv (4294967296 : Int))), .i (IntKind.i64.wrap (i + (1 : Int)))]) (.reg 2 [(3, Or.none, 1, 1), (4, Or.none, 2, 1)] [0, 1, 5, 6, 7] [2] [] <| .r1 [0, 1, 5, 6, 7] [0] <| .r1 [0, 1, 5, 6, 7] [0] <| .bk 0 [.l (out ++ [[dU (IntKind.u32.wrap (IntKind.u64.wrap (carry + (IntKind.u64.wrap vx))))]]), .i (IntKind.u64.wrap ((IntKind.u64.wrap (carry + (IntKind.u64.wrap vx))).tdiv (4294967296 : Int))), .i (IntKind.i64.wrap (i + (1 : Int)))])) (.spl ((decide (i < (b.length : Int)))) (.reg 0 [(4, Or.bool false, 0, 0), (10, Or.bool true, 0, 0)] [0, 1, 5, 6, 7, 22] [0] [.old 1, .old 0] <| .ct true none <| .r1 [0, 1, 5, 6, 7, 28] [0] <| .ct false (some 1) <| .r1 [0, 1, 5, 6, 7, 39] [0] <| .ct true (some 0) <| .ex fun vx2 => .reg 0 [(4, Or.cells [dU vx2], 0, 0)] [0, 1, 5, 6, 7] [0] [] <| .reg 2 [(3, Or.none, 1, 1), (4, Or.none, 2, 1)] [0, 1, 5, 6, 7] [2] [] <| .r1 [0, 1, 5, 6, 7] [0] <| .r1 [0, 1, 5, 6, 7] [0] <| .bk 0 [.l (out ++ [[dU (IntKind.u32.wrap (IntKind.u64.wrap (carry + (IntKind.u64.wrap vx2))))]]), .i (IntKind.u64.wrap ((IntKind.u64.wrap (carry + (IntKind.u64.wrap vx2))).tdiv (4294967296 : Int))), .i (IntKind.i64.wrap (i + (1 : Int)))]) (.reg 0 [(4, Or.bool false, 0, 0), (10, Or.bool false, 0, 0)] [0, 1, 5, 6, 7, 22] [0] [.old 1, .old 0] <| .c2 (.r1 [0, 1, 5, 6, 7, 28] [0] <| .ct false (some 2) <| .r1 [0, 1, 5, 6, 7, 39] [0] <| .ct false (some 1) <| .reg 2 [(3, Or.none, 1, 1), (4, Or.none, 2, 1)] [0, 1, 5, 6, 7] [2] [] <| .r1 [0, 1, 5, 6, 7] [0] <| .r1 [0, 1, 5, 6, 7] [0] <| .bk 0 [.l (out ++ [[dU (IntKind.u32.wrap carry)]]), .i (IntKind.u64.wrap (carry.tdiv (4294967296 : Int))), .i (IntKind.i64.wrap (i + (1 : Int)))]) (.r1 [4] [0] <| .frz [0] <| .ret []))))
    (by kernel_rfl) (by kernel_rfl) (by kernel_rfl) h
def vc59 (a b : DL) (R : V → Heap → Prop) : Prop :=
 ∃ (J0 : (DL) → Int → Int → Prop) (μ0 : (DL) → Int → Int → Nat),
 J0 ([] : DL) (0 : Int) (0 : Int) ∧ ∀ (out : DL) (borrow i : Int), J0 out borrow i →
 (decide (i < (a.length : Int)) = true →
 ∃ (vx : Int),
 (0 ≤ i ∧ i < (a.length : Int)) ∧
 (a[(i).toNat]? = some [dU vx]) ∧
 ((decide (i < (b.length : Int)) = true →
 ∃ (vx1 : Int),
 (0 ≤ i ∧ i < (b.length : Int)) ∧
 (b[(i).toNat]? = some [dU vx1]) ∧
 (((decide ((IntKind.i64.wrap ((IntKind.i64.wrap ((IntKind.i64.wrap vx) - borrow)) - (IntKind.i64.wrap vx1))) < (0 : Int))) = true →
 ((out.length + ([[dU (IntKind.u32.wrap (IntKind.i64.wrap ((IntKind.i64.wrap ((IntKind.i64.wrap ((IntKind.i64.wrap vx) - borrow)) - (IntKind.i64.wrap vx1))) + (4294967296 : Int))))]] : DL).length) * 4 ≤ 140737488355328) ∧
 (J0 (out ++ [[dU (IntKind.u32.wrap (IntKind.i64.wrap ((IntKind.i64.wrap ((IntKind.i64.wrap ((IntKind.i64.wrap vx) - borrow)) - (IntKind.i64.wrap vx1))) + (4294967296 : Int))))]]) (1 : Int) (IntKind.i64.wrap (i + (1 : Int))) ∧ μ0 (out ++ [[dU (IntKind.u32.wrap (IntKind.i64.wrap ((IntKind.i64.wrap ((IntKind.i64.wrap ((IntKind.i64.wrap vx) - borrow)) - (IntKind.i64.wrap vx1))) + (4294967296 : Int))))]]) (1 : Int) (IntKind.i64.wrap (i + (1 : Int))) < μ0 out borrow i)) ∧
 ((decide ((IntKind.i64.wrap ((IntKind.i64.wrap ((IntKind.i64.wrap vx) - borrow)) - (IntKind.i64.wrap vx1))) < (0 : Int))) = false →
 ((out.length + ([[dU (IntKind.u32.wrap (IntKind.i64.wrap ((IntKind.i64.wrap ((IntKind.i64.wrap vx) - borrow)) - (IntKind.i64.wrap vx1))))]] : DL).length) * 4 ≤ 140737488355328) ∧
 (J0 (out ++ [[dU (IntKind.u32.wrap (IntKind.i64.wrap ((IntKind.i64.wrap ((IntKind.i64.wrap vx) - borrow)) - (IntKind.i64.wrap vx1))))]]) (0 : Int) (IntKind.i64.wrap (i + (1 : Int))) ∧ μ0 (out ++ [[dU (IntKind.u32.wrap (IntKind.i64.wrap ((IntKind.i64.wrap ((IntKind.i64.wrap vx) - borrow)) - (IntKind.i64.wrap vx1))))]]) (0 : Int) (IntKind.i64.wrap (i + (1 : Int))) < μ0 out borrow i)))) ∧
 (decide (i < (b.length : Int)) = false →
 ((decide ((IntKind.i64.wrap ((IntKind.i64.wrap vx) - borrow)) < (0 : Int))) = true →
 ((out.length + ([[dU (IntKind.u32.wrap (IntKind.i64.wrap ((IntKind.i64.wrap ((IntKind.i64.wrap vx) - borrow)) + (4294967296 : Int))))]] : DL).length) * 4 ≤ 140737488355328) ∧
 (J0 (out ++ [[dU (IntKind.u32.wrap (IntKind.i64.wrap ((IntKind.i64.wrap ((IntKind.i64.wrap vx) - borrow)) + (4294967296 : Int))))]]) (1 : Int) (IntKind.i64.wrap (i + (1 : Int))) ∧ μ0 (out ++ [[dU (IntKind.u32.wrap (IntKind.i64.wrap ((IntKind.i64.wrap ((IntKind.i64.wrap vx) - borrow)) + (4294967296 : Int))))]]) (1 : Int) (IntKind.i64.wrap (i + (1 : Int))) < μ0 out borrow i)) ∧
 ((decide ((IntKind.i64.wrap ((IntKind.i64.wrap vx) - borrow)) < (0 : Int))) = false →
 ((out.length + ([[dU (IntKind.u32.wrap (IntKind.i64.wrap ((IntKind.i64.wrap vx) - borrow)))]] : DL).length) * 4 ≤ 140737488355328) ∧
 (J0 (out ++ [[dU (IntKind.u32.wrap (IntKind.i64.wrap ((IntKind.i64.wrap vx) - borrow)))]]) (0 : Int) (IntKind.i64.wrap (i + (1 : Int))) ∧ μ0 (out ++ [[dU (IntKind.u32.wrap (IntKind.i64.wrap ((IntKind.i64.wrap vx) - borrow)))]]) (0 : Int) (IntKind.i64.wrap (i + (1 : Int))) < μ0 out borrow i))))) ∧
 (decide (i < (a.length : Int)) = false →
 R (vD (dL out)) [])
theorem vc59_ok (a b : DL) {R : V → Heap → Prop} (h : vc59 a b R) : FnG prog 59 [vD (dL a), vD (dL b)] [] R :=
  FnG.vcg hT func59 ntmps59 (.r0 [0, 1] <| .reg 1 [(0, Or.none, 0, 1)] [0, 1, 5, 6] [0] [] <| .r1 [0, 1, 5, 6, 7] [0] <| .lp [.l, .i, .i] (fun out borrow i => ⟨[(0, vD (dL a)), (1, vD (dL b)), (5, vR 0), (6, vD (dI borrow)), (7, vD (dI i))], [some (Obj.arr 1 out)], 44⟩) [.l ([] : DL), .i (0 : Int), .i (0 : Int)] <| .fl fun out => .fi fun borrow => .fi fun i => .beg <| .r1 [0, 1, 5, 6, 7, 13] [0] <| .c2 (.ex fun vx => .reg 0 [(3, Or.cells [dU vx], 0, 0)] [0, 1, 5, 7, 8] [0] [] <| .r1 [0, 1, 5, 7, 8, 26] [0] <| .c2 (.ex fun vx1 => .reg 0 [(4, Or.cells [dU vx1], 0, 0)] [0, 1, 5, 7, 8] [0] [] <| .r1 [0, 1, 5, 6, 7, 8] [0] <| .r1 [0, 1, 5, 6, 7, 8, 35] [0] <| .c2 (.r1 [0, 1, 5, 7, 8] [0] <| .r1 [0, 1, 5, 6, 7, 8] [0] <| .reg 2 [(3, Or.none, 1, 1), (4, Or.none, 2, 1)] [0, 1, 5, 6, 7] [2] [] <| .r1 [0, 1, 5, 6, 7] [0] <| .bk 0 [.l (out ++ [[dU (IntKind.u32.wrap (IntKind.i64.wrap ((IntKind.i64.wrap ((IntKind.i64.wrap ((IntKind.i64.wrap vx) - borrow)) - (IntKind.i64.wrap vx1))) + (4294967296 : Int))))]]), .i (1 : Int), .i (IntKind.i64.wrap (i + (1 : Int)))]) (.reg 2 [(3, Or.none, 1, 1), (4, Or.none, 2, 1)] [0, 1, 5, 6, 7] [2] [] <| .r1 [0, 1, 5, 6, 7] [0] <| .bk 0 [.l (out ++ [[dU (IntKind.u32.wrap (IntKind.i64.wrap ((IntKind.i64.wrap ((IntKind.i64.wrap vx) - borrow)) - (IntKind.i64.wrap vx1))))]]), .i (0 : Int), .i (IntKind.i64.wrap (i + (1 : Int)))])) (.r1 [0, 1, 5, 6, 7, 8] [0] <| .r1 [0, 1, 5, 6, 7, 8, 35] [0] <| .c2 (.r1 [0, 1, 5, 7, 8] [0] <| .r1 [0, 1, 5, 6, 7, 8] [0] <| .reg 2 [(3, Or.none, 1, 1), (4, Or.none, 2, 1)] [0, 1, 5, 6, 7] [2] [] <| .r1 [0, 1, 5, 6, 7] [0] <| .bk 0 [.l (out ++ [[dU (IntKind.u32.wrap (IntKind.i64.wrap ((IntKind.i64.wrap ((IntKind.i64.wrap vx) - borrow)) + (4294967296 : Int))))]]), .i (1 : Int), .i (IntKind.i64.wrap (i + (1 : Int)))]) (.reg 2 [(3, Or.none, 1, 1), (4, Or.none, 2, 1)] [0, 1, 5, 6, 7] [2] [] <| .r1 [0, 1, 5, 6, 7] [0] <| .bk 0 [.l (out ++ [[dU (IntKind.u32.wrap (IntKind.i64.wrap ((IntKind.i64.wrap vx) - borrow)))]]), .i (0 : Int), .i (IntKind.i64.wrap (i + (1 : Int)))]))) (.r1 [4] [0] <| .frz [0] <| .ret []))
    (by kernel_rfl) (by kernel_rfl) (by kernel_rfl) h
def vc24 (a0 : Bool) (a1 : DL) (b0 : Bool) (b1 : DL) (R : V → Heap → Prop) : Prop :=
 ((a0 == b0) = true →
 ∃ (r : DL) (r0 : Bool) (r1 : DL),
 (FnD prog 57 [vD (dL a1), vD (dL b1)] (vD (dL r)) []) ∧
 (FnD prog 56 [vD (dL r), vD (dB a0)] (vA [sD (dB r0), sD (dL r1)]) []) ∧
 (R (vA [sD (dB r0), sD (dL r1)]) [])) ∧
 ((a0 == b0) = false →
 ∃ (r2 : Bool),
 (FnD prog 58 [vD (dL a1), vD (dL b1)] (vD (dB r2)) []) ∧
 ((r2 = true →
 ∃ (r3 : DL) (r01 : Bool) (r11 : DL),
 (FnD prog 59 [vD (dL b1), vD (dL a1)] (vD (dL r3)) []) ∧
 (FnD prog 56 [vD (dL r3), vD (dB b0)] (vA [sD (dB r01), sD (dL r11)]) []) ∧
 (R (vA [sD (dB r01), sD (dL r11)]) [])) ∧
 (r2 = false →
 ∃ (r4 : DL) (r02 : Bool) (r12 : DL),
 (FnD prog 59 [vD (dL a1), vD (dL b1)] (vD (dL r4)) []) ∧
 (FnD prog 56 [vD (dL r4), vD (dB a0)] (vA [sD (dB r02), sD (dL r12)]) []) ∧
 (R (vA [sD (dB r02), sD (dL r12)]) []))))
theorem vc24_ok (a0 : Bool) (a1 : DL) (b0 : Bool) (b1 : DL) {R : V → Heap → Prop} (h : vc24 a0 a1 b0 b1 R) : FnG prog 24 [vA [sD (dB a0), sD (dL a1)], vA [sD (dB b0), sD (dL b1)]] [] R :=
  FnG.vcg hT func24 ntmps24 (.reg 3 [(0, Or.none, 0, 1), (1, Or.none, 1, 1), (2, Or.none, 2, 1)] [2, 3, 4] [0, 1, 2] [] <| .r1 [2, 3, 4, 9] [0, 1, 2] <| .c2 (.exl fun r => .exb fun r0 => .exl fun r1 => .drw 0 [(4, (Or.call (vD (dL r)) [] [], 0, 0), []), (7, (Or.call (vA [sD (dB r0), sD (dL r1)]) [] [], 0, 0), []), (8, (Or.none, 0, 0), [2])] [4] [2] [] <| .ret []) (.exb fun r2 => .reg 0 [(4, Or.call (vD (dB r2)) [] [], 0, 0)] [2, 3, 4, 22] [0, 1, 2] [] <| .c2 (.exl fun r3 => .exb fun r01 => .exl fun r11 => .drw 0 [(4, (Or.call (vD (dL r3)) [] [], 0, 0), []), (7, (Or.call (vA [sD (dB r01), sD (dL r11)]) [] [], 0, 0), []), (8, (Or.none, 0, 0), [2])] [4] [2] [] <| .ret []) (.exl fun r4 => .exb fun r02 => .exl fun r12 => .drw 0 [(4, (Or.call (vD (dL r4)) [] [], 0, 0), []), (7, (Or.call (vA [sD (dB r02), sD (dL r12)]) [] [], 0, 0), []), (8, (Or.none, 0, 0), [2])] [4] [2] [] <| .ret [])))
    (by kernel_rfl) (by kernel_rfl) (by kernel_rfl) h
def vc91 (a0 : Bool) (a1 : DL) (b0 : Bool) (b1 : DL) (R : V → Heap → Prop) : Prop :=
 (0 ≤ (IntKind.i64.wrap ((IntKind.i64.wrap ((a1.length : Int) + (b1.length : Int))) + (1 : Int))) ∧ (IntKind.i64.wrap ((IntKind.i64.wrap ((a1.length : Int) + (b1.length : Int))) + (1 : Int))) ≤ (IntKind.i64.wrap ((IntKind.i64.wrap ((a1.length : Int) + (b1.length : Int))) + (1 : Int))) ∧ (IntKind.i64.wrap ((IntKind.i64.wrap ((a1.length : Int) + (b1.length : Int))) + (1 : Int))) * (4 : Nat) ≤ 281474976710656) ∧
 (∃ (J0 : (DL) → Int → Prop) (μ0 : (DL) → Int → Nat),
 J0 (List.replicate ((IntKind.i64.wrap ((IntKind.i64.wrap ((a1.length : Int) + (b1.length : Int))) + (1 : Int)))).toNat [dU (0 : Int)]) (0 : Int) ∧ ∀ (out : DL) (i : Int), J0 out i →
 (decide (i < (a1.length : Int)) = true →
 ∃ (J1 : (DL) → Int → Int → Prop) (μ1 : (DL) → Int → Int → Nat),
 J1 out (0 : Int) (0 : Int) ∧ ∀ (out1 : DL) (carry k : Int), J1 out1 carry k →
 (decide (k < (b1.length : Int)) = true →
 ∃ (vx : Int),
 (0 ≤ (IntKind.i64.wrap (i + k)) ∧ (IntKind.i64.wrap (i + k)) < (out1.length : Int)) ∧
 (out1[((IntKind.i64.wrap (i + k))).toNat]? = some [dU vx]) ∧
 (∃ (vx1 vx2 : Int),
 (0 ≤ i ∧ i < (a1.length : Int)) ∧
 (a1[(i).toNat]? = some [dU vx1]) ∧
 (0 ≤ k ∧ k < (b1.length : Int)) ∧
 (b1[(k).toNat]? = some [dU vx2]) ∧
 (((4294967296 : Int) ≠ 0) ∧
 (J1 (out1.set ((IntKind.i64.wrap (i + k))).toNat [dU (IntKind.u32.wrap (IntKind.u64.wrap ((IntKind.u64.wrap (carry + (IntKind.u64.wrap vx))) + (IntKind.u64.wrap ((IntKind.u64.wrap vx1) * (IntKind.u64.wrap vx2))))))]) (IntKind.u64.wrap ((IntKind.u64.wrap ((IntKind.u64.wrap (carry + (IntKind.u64.wrap vx))) + (IntKind.u64.wrap ((IntKind.u64.wrap vx1) * (IntKind.u64.wrap vx2))))).tdiv (4294967296 : Int))) (IntKind.i64.wrap (k + (1 : Int))) ∧ μ1 (out1.set ((IntKind.i64.wrap (i + k))).toNat [dU (IntKind.u32.wrap (IntKind.u64.wrap ((IntKind.u64.wrap (carry + (IntKind.u64.wrap vx))) + (IntKind.u64.wrap ((IntKind.u64.wrap vx1) * (IntKind.u64.wrap vx2))))))]) (IntKind.u64.wrap ((IntKind.u64.wrap ((IntKind.u64.wrap (carry + (IntKind.u64.wrap vx))) + (IntKind.u64.wrap ((IntKind.u64.wrap vx1) * (IntKind.u64.wrap vx2))))).tdiv (4294967296 : Int))) (IntKind.i64.wrap (k + (1 : Int))) < μ1 out1 carry k)))) ∧
 (decide (k < (b1.length : Int)) = false →
 (decide (carry > (0 : Int)) = true →
 ∃ (vx3 : Int),
 (0 ≤ (IntKind.i64.wrap (i + k)) ∧ (IntKind.i64.wrap (i + k)) < (out1.length : Int)) ∧
 (out1[((IntKind.i64.wrap (i + k))).toNat]? = some [dU vx3]) ∧
 (((4294967296 : Int) ≠ 0) ∧
 (J1 (out1.set ((IntKind.i64.wrap (i + k))).toNat [dU (IntKind.u32.wrap (IntKind.u64.wrap (carry + (IntKind.u64.wrap vx3))))]) (IntKind.u64.wrap ((IntKind.u64.wrap (carry + (IntKind.u64.wrap vx3))).tdiv (4294967296 : Int))) (IntKind.i64.wrap (k + (1 : Int))) ∧ μ1 (out1.set ((IntKind.i64.wrap (i + k))).toNat [dU (IntKind.u32.wrap (IntKind.u64.wrap (carry + (IntKind.u64.wrap vx3))))]) (IntKind.u64.wrap ((IntKind.u64.wrap (carry + (IntKind.u64.wrap vx3))).tdiv (4294967296 : Int))) (IntKind.i64.wrap (k + (1 : Int))) < μ1 out1 carry k))) ∧
 (decide (carry > (0 : Int)) = false →
 J0 out1 (IntKind.i64.wrap (i + (1 : Int))) ∧ μ0 out1 (IntKind.i64.wrap (i + (1 : Int))) < μ0 out i))) ∧
 (decide (i < (a1.length : Int)) = false →
 ∃ (r0 : Bool) (r1 : DL),
 (FnD prog 56 [vD (dL out), vD (dB (!(a0 == b0)))] (vA [sD (dB r0), sD (dL r1)]) []) ∧
 (R (vA [sD (dB r0), sD (dL r1)]) [])))
theorem vc91_ok (a0 : Bool) (a1 : DL) (b0 : Bool) (b1 : DL) {R : V → Heap → Prop} (h : vc91 a0 a1 b0 b1 R) : FnG prog 91 [vA [sD (dB a0), sD (dL a1)], vA [sD (dB b0), sD (dL b1)]] [] R :=
  FnG.vcg hT func91 ntmps91 (.reg 3 [(0, Or.none, 0, 1), (1, Or.none, 1, 1), (2, Or.none, 2, 1)] [2, 3, 4] [0, 1, 2] [] <| .reg 1 [(8, Or.none, 3, 1)] [2, 3, 4, 5] [0, 1, 2, 3] [] <| .r1 [2, 3, 4, 5, 6] [0, 1, 2, 3] <| .lp [.l, .i] (fun out i => ⟨[(2, vP 0 0), (3, vP 1 0), (4, vP 2 0), (5, vR 3), (6, vD (dI i))], [some (Obj.box [sD (dB a0), sD (dL a1)]), some (Obj.box [sD (dB b0), sD (dL b1)]), some (Obj.box [sD (dB false), sD (D.raw (.slice none 0 0))]), some (Obj.arr 1 out)], 81⟩) [.l (List.replicate ((IntKind.i64.wrap ((IntKind.i64.wrap ((a1.length : Int) + (b1.length : Int))) + (1 : Int)))).toNat [dU (0 : Int)]), .i (0 : Int)] <| .fl fun out => .fi fun i => .beg <| .r1 [2, 3, 4, 5, 6, 22] [0, 1, 2, 3] <| .c2 (.r1 [2, 3, 4, 5, 6, 7] [0, 1, 2, 3] <| .r1 [2, 3, 4, 5, 6, 7, 8] [0, 1, 2, 3] <| .lp [.l, .i, .i] (fun out1 carry k => ⟨[(2, vP 0 0), (3, vP 1 0), (4, vP 2 0), (5, vR 3), (6, vD (dI i)), (7, vD (D.int .u64 carry)), (8, vD (dI k))], [some (Obj.box [sD (dB a0), sD (dL a1)]), some (Obj.box [sD (dB b0), sD (dL b1)]), some (Obj.box [sD (dB false), sD (D.raw (.slice none 0 0))]), some (Obj.arr 1 out1)], 81⟩) [.l out, .i (0 : Int), .i (0 : Int)] <| .fl fun out1 => .fi fun carry => .fi fun k => .beg <| .spl ((decide (k < (b1.length : Int)))) (.reg 0 [(5, Or.bool true, 0, 0)] [2, 3, 4, 5, 6, 7, 8, 33] [0, 1, 2, 3] [.old 0] <| .ct true none <| .ex fun vx => .reg 0 [(6, Or.cells [dU vx], 0, 0)] [2, 3, 4, 5, 6, 7, 8] [0, 1, 2, 3] [] <| .r1 [2, 3, 4, 5, 6, 7, 8, 49] [0, 1, 2, 3] <| .ct true (some 2) <| .ex fun vx1 => .ex fun vx2 => .drw 0 [(5, (Or.cells [dU vx1], 0, 0), []), (11, (Or.cells [dU vx2], 0, 0), [])] [2, 3, 4, 5, 6, 7, 8] [0, 1, 2, 3] [] <| .reg 0 [] [2, 3, 4, 5, 6, 7, 8] [0, 1, 2, 3] [.old 5] <| .r1 [2, 3, 4, 5, 6, 7, 8] [0, 1, 2, 3] <| .r1 [2, 3, 4, 5, 6, 7, 8] [0, 1, 2, 3] <| .bk 0 [.l (out1.set ((IntKind.i64.wrap (i + k))).toNat [dU (IntKind.u32.wrap (IntKind.u64.wrap ((IntKind.u64.wrap (carry + (IntKind.u64.wrap vx))) + (IntKind.u64.wrap ((IntKind.u64.wrap vx1) * (IntKind.u64.wrap vx2))))))]), .i (IntKind.u64.wrap ((IntKind.u64.wrap ((IntKind.u64.wrap (carry + (IntKind.u64.wrap vx))) + (IntKind.u64.wrap ((IntKind.u64.wrap vx1) * (IntKind.u64.wrap vx2))))).tdiv (4294967296 : Int))), .i (IntKind.i64.wrap (k + (1 : Int)))]) (.reg 0 [(5, Or.bool false, 0, 0)] [2, 3, 4, 5, 6, 7, 8, 33] [0, 1, 2, 3] [.old 0] <| .c2 (.ex fun vx3 => .reg 0 [(6, Or.cells [dU vx3], 0, 0)] [2, 3, 4, 5, 6, 7, 8] [0, 1, 2, 3] [] <| .r1 [2, 3, 4, 5, 6, 7, 8, 49] [0, 1, 2, 3] <| .ct false (some 3) <| .reg 0 [] [2, 3, 4, 5, 6, 7, 8] [0, 1, 2, 3] [.old 1] <| .r1 [2, 3, 4, 5, 6, 7, 8] [0, 1, 2, 3] <| .r1 [2, 3, 4, 5, 6, 7, 8] [0, 1, 2, 3] <| .bk 0 [.l (out1.set ((IntKind.i64.wrap (i + k))).toNat [dU (IntKind.u32.wrap (IntKind.u64.wrap (carry + (IntKind.u64.wrap vx3))))]), .i (IntKind.u64.wrap ((IntKind.u64.wrap (carry + (IntKind.u64.wrap vx3))).tdiv (4294967296 : Int))), .i (IntKind.i64.wrap (k + (1 : Int)))]) (.r1 [2, 3, 4, 5, 6] [0, 1, 2, 3] <| .bk 1 [.l out1, .i (IntKind.i64.wrap (i + (1 : Int)))]))) (.frz [3] <| .exb fun r0 => .exl fun r1 => .reg 0 [(6, Or.call (vA [sD (dB r0), sD (dL r1)]) [] [], 0, 0)] [4] [2] [] <| .ret []))
    (by kernel_rfl) (by kernel_rfl) (by kernel_rfl) h
end Go.AM
/- What the functions of package integer, and of its reference, answer: digits without zeros at the end, Of. -/
namespace Go.AM
open Go.Proofs.Tryz
theorem getLast_take_int {l : List Nat} {n : Int} (h0 : 0 < n) (h1 : n ≤ (l.length : Int)) : (l.take n.toNat).getLast? = some (l[(n - 1).toNat]'(by omega)) := by
  have hlt : (n - 1).toNat < l.length := by omega
  have := getLast_take hlt
  rwa [show (n - 1).toNat + 1 = n.toNat by omega] at this
theorem take_zero_int {l : List Nat} {n : Int} (h : n = 0) : l.take n.toNat = [] := by subst h; rfl
theorem stop_digs {l : List Nat} (hB : ∀ x ∈ l, x < 4294967296) {n : Int} (h0 : 0 ≤ n) (h1 : n ≤ (l.length : Int)) (hv : val (l.take n.toNat) = val l) (hx : ∀ (h : 0 < n), l[(n - 1).toNat]'(by omega) ≠ 0) :
    l.take n.toNat = digs (val l) ∧ decide (n > 0) = decide (0 < val l) := by
  have h2 : l.take n.toNat = digs (val l) := take_digs hB hv fun x hl => by
    by_cases hn : 0 < n
    · rw [getLast_take_int hn h1, Option.some.injEq] at hl; subst hl; exact hx hn
    · rw [take_zero_int (by omega)] at hl; simp at hl
  refine ⟨h2, ?_⟩
  rw [decide_eq_decide]
  constructor
  · intro hn
    apply Nat.pos_of_ne_zero
    intro hz
    rw [hz, digs_zero] at h2
    have : (l.take n.toNat).length = 0 := by rw [h2]; rfl
    rw [List.length_take] at this; omega
  · intro hp
    apply Classical.byContradiction
    intro hn
    rw [take_zero_int (by omega)] at hv
    simp only [val] at hv; omega
theorem pred_take {l : List Nat} {n : Int} (h0 : 0 < n) (h1 : n ≤ (l.length : Int)) (hz : l[(n - 1).toNat]'(by omega) = 0) (hv : val (l.take n.toNat) = val l) : val (l.take (n - 1).toNat) = val l := by
  have hlt : (n - 1).toNat < l.length := by omega
  rw [← hv, show n.toNat = (n - 1).toNat + 1 by omega, val_take_pred hlt hz]
theorem norm_ok (l : List Nat) (neg : Bool) (hB : ∀ x ∈ l, x < 4294967296) (hl : l.length ≤ 1099511627776) :
    FnD prog 92 [vs (lim l), vb neg] (V.e (E.agg [S.dat (D.bool (neg && decide (0 < val l))), S.dat (D.sl (lim (digs (val l))))])) [] := by
  refine vc92_ok (lim l) neg (R := Out _) ?_
  unfold vc92
  refine ⟨fun n => 0 ≤ n ∧ n ≤ (l.length : Int) ∧ val (l.take n.toNat) = val l, fun n => n.toNat, ⟨by omega, by simp [lim_length], by simp [lim_length]⟩, fun n ⟨h0, h1, h2⟩ => ⟨fun hc => ?_, fun hc => ?_⟩⟩
  · simp only [gt_iff_lt, decide_eq_true_eq] at hc
    have hw : IntKind.i64.wrap (n - 1) = n - 1 := w64 (by omega) (by omega)
    have hlt : (n - 1).toNat < l.length := by omega
    rw [hw]
    refine ⟨(l[(n - 1).toNat] : Nat), ⟨by omega, by rw [lim_length]; omega⟩, lim_get hlt, fun hx => ?_, fun hx => ?_⟩
    · have hx' : l[(n - 1).toNat] ≠ 0 := by simpa using hx
      obtain ⟨g1, g2⟩ := stop_digs hB h0 h1 h2 fun _ => hx'
      refine ⟨fun hn => ⟨⟨h0, Int.le_refl _, by rw [lim_length]; exact h1⟩, ?_⟩, fun hn => ⟨⟨h0, Int.le_refl _, by rw [lim_length]; exact h1⟩, ?_⟩⟩
      · subst hn; exact out2 (by simpa using g2) (by rw [lim_take, g1])
      · subst hn; exact out2 rfl (by rw [lim_take, g1])
    · have hx' : l[(n - 1).toNat] = 0 := by simpa using hx
      exact ⟨⟨by omega, by omega, pred_take hc h1 hx' h2⟩, by show (n - 1).toNat < n.toNat; omega⟩
  · simp only [gt_iff_lt, decide_eq_false_iff_not] at hc
    obtain ⟨g1, g2⟩ := stop_digs hB h0 h1 h2 fun h => absurd h hc
    refine ⟨fun hn => ⟨⟨h0, Int.le_refl _, by rw [lim_length]; exact h1⟩, ?_⟩, fun hn => ⟨⟨h0, Int.le_refl _, by rw [lim_length]; exact h1⟩, ?_⟩⟩
    · subst hn; exact out2 (by simpa using g2) (by rw [lim_take, g1])
    · subst hn; exact out2 rfl (by rw [lim_take, g1])
theorem made_ok (l : List Nat) (neg : Bool) (hB : ∀ x ∈ l, x < 4294967296) (hl : l.length ≤ 1099511627776) :
    FnD prog 56 [vs (lim l), vb neg] (V.e (E.agg [S.dat (D.bool (neg && decide (0 < val l))), S.dat (D.sl (lim (digs (val l))))])) [] := by
  refine vc56_ok (lim l) neg (R := Out _) ?_
  unfold vc56
  refine ⟨fun n => 0 ≤ n ∧ n ≤ (l.length : Int) ∧ val (l.take n.toNat) = val l, fun n => n.toNat, ⟨by omega, by simp [lim_length], by simp [lim_length]⟩, fun n ⟨h0, h1, h2⟩ => ?_⟩
  have hone : ∀ y ∈ (lim l).take n.toNat, y.length = 1 := fun y hy => lim_one l y (List.mem_of_mem_take hy)
  have hsz : (([] : DL).length + ((lim l).take n.toNat).length) * 4 ≤ 140737488355328 := by
    simp only [List.length_nil, List.length_take, lim_length]; omega
  have h1' : n ≤ ((lim l).length : Int) := by rw [lim_length]; exact h1
  refine ⟨fun hc => ?_, fun hc => ?_⟩
  · simp only [gt_iff_lt, decide_eq_true_eq] at hc
    have hw : IntKind.i64.wrap (n - 1) = n - 1 := w64 (by omega) (by omega)
    have hlt : (n - 1).toNat < l.length := by omega
    rw [hw]
    refine ⟨(l[(n - 1).toNat] : Nat), ⟨by omega, by rw [lim_length]; omega⟩, lim_get hlt, fun hx => ?_, fun hx => ?_⟩
    · have hx' : l[(n - 1).toNat] = 0 := by simpa using hx
      exact ⟨⟨by omega, by omega, pred_take hc h1 hx' h2⟩, by show (n - 1).toNat < n.toNat; omega⟩
    · have hx' : l[(n - 1).toNat] ≠ 0 := by simpa using hx
      obtain ⟨g1, g2⟩ := stop_digs hB h0 h1 h2 fun _ => hx'
      refine ⟨fun hn => ⟨⟨h0, h1'⟩, hone, hsz, ?_⟩, fun hn => ⟨⟨h0, h1'⟩, hone, hsz, ?_⟩⟩
      · subst hn; exact out2 (by simpa using g2) (by rw [List.nil_append, lim_take, g1])
      · subst hn; exact out2 rfl (by rw [List.nil_append, lim_take, g1])
  · simp only [gt_iff_lt, decide_eq_false_iff_not] at hc
    obtain ⟨g1, g2⟩ := stop_digs hB h0 h1 h2 fun h => absurd h hc
    refine ⟨fun hn => ⟨⟨h0, h1'⟩, hone, hsz, ?_⟩, fun hn => ⟨⟨h0, h1'⟩, hone, hsz, ?_⟩⟩
    · subst hn; exact out2 (by simpa using g2) (by rw [List.nil_append, lim_take, g1])
    · subst hn; exact out2 rfl (by rw [List.nil_append, lim_take, g1])
theorem sgn_eI (m : Nat) (neg : Bool) : V.e (E.agg [S.dat (D.bool (neg && decide (0 < m))), S.dat (D.sl (lim (digs m)))]) = eI (if neg then -(m : Int) else m) := by
  unfold eI
  cases neg with
  | true => simp
  | false => simp
theorem norm_eI (l : List Nat) (neg : Bool) (hB : ∀ x ∈ l, x < 4294967296) (hl : l.length ≤ 1099511627776) : FnD prog 92 [vs (lim l), vb neg] (eI (if neg then -(val l : Int) else val l)) [] :=
  sgn_eI (val l) neg ▸ norm_ok l neg hB hl
theorem made_eI (l : List Nat) (neg : Bool) (hB : ∀ x ∈ l, x < 4294967296) (hl : l.length ≤ 1099511627776) : FnD prog 56 [vs (lim l), vb neg] (eI (if neg then -(val l : Int) else val l)) [] :=
  sgn_eI (val l) neg ▸ made_ok l neg hB hl
end Go.AM
/- What the functions of package integer, and of its reference, answer: sums and differences of absolute values. -/
namespace Go.AM
open Go.Proofs.Tryz
theorem wu32 (n : Int) : IntKind.u32.wrap n = n % 4294967296 := rfl
theorem wu64 {n : Int} (h : 0 ≤ n) (h' : n < 18446744073709551616) : IntKind.u64.wrap n = n := by
  show n % 18446744073709551616 = n
  omega
theorem wu64' (n : Int) : IntKind.u64.wrap n = n % 18446744073709551616 := rfl
theorem sh32 {n : Int} : n.fdiv (2 ^ (min (32 : Int).toNat IntKind.u64.bits)) = n / 4294967296 := by
  have : (2 : Int) ^ (min (32 : Int).toNat IntKind.u64.bits) = 4294967296 := by decide
  rw [this, Int.fdiv_eq_ediv_of_nonneg _ (by decide)]
def vu (n : Int) : V := .e (.sc (.dat (.int .u32 n)))
def vu2 (a b : Int) : V := .tup [.sc (.dat (.int .u32 a)), .sc (.dat (.int .u32 b))]
theorem outu2 {a a' b b' : Int} (h1 : a = a') (h2 : b = b') : Out (vu2 a' b') (V.tup [E.sc (S.dat (D.int .u32 a)), E.sc (S.dat (D.int .u32 b))]) [] := by subst h1; subst h2; exact ⟨rfl, rfl⟩
theorem add32_ok (x y c : Nat) (hx : x < 4294967296) (hy : y < 4294967296) (hc : c ≤ 1) :
    FnD prog 130 [vu x, vu y, vu c] (vu2 (((x + y + c) % 4294967296 : Nat) : Int) (((x + y + c) / 4294967296 : Nat) : Int)) [] := by
  refine vc130_ok x y c (R := Out _) ?_
  unfold vc130
  have e1 : IntKind.u64.wrap (x : Int) = x := wu64 (by omega) (by omega)
  have e2 : IntKind.u64.wrap (y : Int) = y := wu64 (by omega) (by omega)
  have e3 : IntKind.u64.wrap (c : Int) = c := wu64 (by omega) (by omega)
  have e4 : IntKind.u64.wrap ((x : Int) + y) = x + y := wu64 (by omega) (by omega)
  have e5 : IntKind.u64.wrap ((x : Int) + y + c) = x + y + c := wu64 (by omega) (by omega)
  rw [e1, e2, e3, e4, e5, sh32, wu32, wu32]
  exact ⟨by decide, outu2 (by omega) (by omega)⟩
theorem bits_top (w : BitVec 32) : ((IntKind.u32.wrap (w.toNat : Int)).fdiv (2 ^ (min (31 : Int).toNat IntKind.u32.bits))) = if w.msb then 1 else 0 := by
  have h1 : (2 : Int) ^ (min (31 : Int).toNat IntKind.u32.bits) = 2147483648 := by decide
  rw [h1, Int.fdiv_eq_ediv_of_nonneg _ (by decide), wu32, BitVec.msb_eq_decide]
  have := w.isLt
  simp only [decide_eq_true_eq]
  split <;> omega
theorem ofInt_nat (x : Nat) : BitVec.ofInt 32 (x : Int) = BitVec.ofNat 32 x := by
  apply BitVec.eq_of_toNat_eq
  simp [BitVec.toNat_ofNat]
theorem msb_nat {x : Nat} (h : x < 4294967296) : (BitVec.ofNat 32 x).msb = decide (2147483648 ≤ x) := by
  rw [BitVec.msb_eq_decide, BitVec.toNat_ofNat, Nat.mod_eq_of_lt h]
theorem bits_of (f : BitVec 32 → BitVec 32 → BitVec 32) (x y : Int) : BitVec.ofInt 32 (bitsI .u32 f x y) = f (BitVec.ofInt 32 x) (BitVec.ofInt 32 y) := by
  have h : bitsI .u32 f x y = ((f (BitVec.ofInt 32 x) (BitVec.ofInt 32 y)).toNat : Int) := by
    have hlt := (f (BitVec.ofInt 32 x) (BitVec.ofInt 32 y)).isLt
    show IntKind.u32.wrap (((f (BitVec.ofInt 32 x) (BitVec.ofInt 32 y)).toNat : Nat) : Int) = _
    rw [wu32]
    have hlt' : (f (BitVec.ofInt 32 x) (BitVec.ofInt 32 y)).toNat < 4294967296 := hlt
    generalize (f (BitVec.ofInt 32 x) (BitVec.ofInt 32 y)).toNat = q at hlt'
    show (q : Int) % 4294967296 = q
    omega
  rw [h, ofInt_nat]
  simp
theorem sub32_ok (x y c : Nat) (hx : x < 4294967296) (hy : y < 4294967296) (hc : c ≤ 1) :
    FnD prog 129 [vu x, vu y, vu c] (vu2 (((x : Int) - y - c) % 4294967296) (if x < y + c then 1 else 0)) [] := by
  refine vc129_ok x y c (R := Out _) ?_
  unfold vc129
  have hd : IntKind.u32.wrap (IntKind.u32.wrap ((x : Int) - y) - c) = ((x : Int) - y - c) % 4294967296 := by
    rw [wu32, wu32]; omega
  rw [hd]
  obtain ⟨d, hdd⟩ : ∃ d : Nat, ((x : Int) - y - c) % 4294967296 = (d : Int) := ⟨(((x : Int) - y - c) % 4294967296).toNat, by omega⟩
  have hdl : d < 4294967296 := by omega
  refine ⟨by decide, outu2 rfl ?_⟩
  rw [hdd]
  have hm : (if IntKind.u32.signed then (-1 : Int) else IntKind.u32.max) = 4294967295 := by decide
  rw [hm]
  have hnot : ∀ w : BitVec 32, (BitVec.ofInt 32 4294967295 ^^^ w) = ~~~ w := fun w => by
    have : BitVec.ofInt 32 4294967295 = BitVec.allOnes 32 := by decide
    rw [this, BitVec.allOnes_xor]
  let an : BitVec 32 → BitVec 32 → BitVec 32 := fun a b => a &&& b
  let xo : BitVec 32 → BitVec 32 → BitVec 32 := fun a b => a ^^^ b
  show ((IntKind.u32.wrap ((((BitVec.ofInt 32 (bitsI .u32 an (bitsI .u32 xo 4294967295 x) y)) ||| (BitVec.ofInt 32 (bitsI .u32 an (bitsI .u32 xo 4294967295 (bitsI .u32 xo x y)) d)) : BitVec 32).toNat : Nat) : Int)).fdiv (2 ^ (min (31 : Int).toNat IntKind.u32.bits))) = _
  rw [bits_top]
  rw [bits_of an, bits_of xo, bits_of an, bits_of xo, bits_of xo]
  simp only [an, xo, hnot, BitVec.msb_or, BitVec.msb_and, BitVec.msb_xor, BitVec.msb_not, ofInt_nat, msb_nat hx, msb_nat hy, msb_nat hdl]
  by_cases a1 : 2147483648 ≤ x <;> by_cases a2 : 2147483648 ≤ y <;> by_cases a3 : 2147483648 ≤ d <;> simp [a1, a2, a3] <;> omega
end Go.AM
/- What the functions of package integer, and of its reference, answer: sums of absolute values. -/
namespace Go.AM
open Go.Proofs.Tryz
def padD : Nat → Nat → List Nat
  | 0, _ => []
  | k + 1, v => v % 4294967296 :: padD k (v / 4294967296)
theorem padD_length : ∀ k v, (padD k v).length = k
  | 0, _ => rfl
  | k + 1, v => by simp [padD, padD_length k]
theorem padD_lt : ∀ k v, ∀ x ∈ padD k v, x < 4294967296
  | 0, _, x, h => by simp [padD] at h
  | k + 1, v, x, h => by
    simp only [padD, List.mem_cons] at h
    rcases h with rfl | h
    · exact Nat.mod_lt _ (by decide)
    · exact padD_lt k _ x h
theorem padD_val : ∀ (l : List Nat), (∀ x ∈ l, x < 4294967296) → l = padD l.length (val l)
  | [], _ => rfl
  | x :: l, h => by
    have hx := h x (by simp)
    have h1 : (x + 4294967296 * val l) % 4294967296 = x := by omega
    have h2 : (x + 4294967296 * val l) / 4294967296 = val l := by omega
    simp only [List.length_cons, padD, val]
    rw [h1, h2, ← padD_val l fun y hy => h y (by simp [hy])]
theorem val_padD : ∀ k v, v < 4294967296 ^ k → val (padD k v) = v
  | 0, v, h => by simp at h; subst h; rfl
  | k + 1, v, h => by
    simp only [padD, val]
    rw [val_padD k (v / 4294967296) ?_]
    · omega
    · rw [Nat.pow_succ, Nat.mul_comm] at h
      exact Nat.div_lt_of_lt_mul h
def dg (l : List Nat) (i : Nat) : Nat := l.getD i 0
theorem dg_lt {l : List Nat} (h : ∀ x ∈ l, x < 4294967296) (i : Nat) : dg l i < 4294967296 := by
  unfold dg
  rcases Nat.lt_or_ge i l.length with hi | hi
  · rw [List.getD_eq_getElem?_getD, List.getElem?_eq_getElem hi]; exact h _ (List.getElem_mem hi)
  · rw [List.getD_eq_getElem?_getD, List.getElem?_eq_none hi]; decide
theorem dg_get {l : List Nat} {i : Nat} (h : i < l.length) : l[i] = dg l i := by
  unfold dg; rw [List.getD_eq_getElem?_getD, List.getElem?_eq_getElem h]; rfl
theorem dg_out {l : List Nat} {i : Nat} (h : l.length ≤ i) : dg l i = 0 := by
  unfold dg; rw [List.getD_eq_getElem?_getD, List.getElem?_eq_none h]; rfl
def low (l : List Nat) (i : Nat) : Nat := val (l.take i)
theorem low_zero (l : List Nat) : low l 0 = 0 := rfl
theorem low_succ (l : List Nat) (i : Nat) : low l (i + 1) = low l i + 4294967296 ^ i * dg l i := by
  unfold low
  rcases Nat.lt_or_ge i l.length with h | h
  · rw [List.take_add_one, List.getElem?_eq_getElem h, Option.toList_some, val_append, dg_get h, List.length_take, Nat.min_eq_left (by omega)]
    simp [val]
  · rw [List.take_of_length_le (by omega), List.take_of_length_le h, dg_out h]; simp
theorem low_all {l : List Nat} {i : Nat} (h : l.length ≤ i) : low l i = val l := by unfold low; rw [List.take_of_length_le h]
theorem low_set (l : List Nat) (i x : Nat) (j : Nat) (h : j ≤ i) : low (l.set i x) j = low l j := by
  unfold low; rw [List.take_set_of_le h]
theorem dg_set {l : List Nat} {i x : Nat} (h : i < l.length) : dg (l.set i x) i = x := by
  unfold dg; rw [List.getD_eq_getElem?_getD]; simp [h]
theorem low_set_succ {l : List Nat} {i x : Nat} (h : i < l.length) : low (l.set i x) (i + 1) = low l i + 4294967296 ^ i * x := by
  rw [low_succ, low_set l i x i (Nat.le_refl _), dg_set h]
theorem set_lt {l : List Nat} {i x : Nat} (h : ∀ y ∈ l, y < 4294967296) (hx : x < 4294967296) : ∀ y ∈ l.set i x, y < 4294967296 := fun y hy => by
  rcases List.mem_or_eq_of_mem_set hy with h1 | rfl
  · exact h y h1
  · exact hx
theorem lim_getI {l : List Nat} {i : Int} (h0 : 0 ≤ i) (h : i < (l.length : Int)) : (lim l)[i.toNat]? = some [D.int .u32 ((dg l i.toNat : Nat) : Int)] := by
  have hi : i.toNat < l.length := by omega
  rw [lim_get hi, dg_get hi]
theorem carry_step (p l s c : Nat) (a b q : Nat) (h : l + p * c = q) (hs : s = a + b + c) : l + p * (s % 4294967296) + p * 4294967296 * (s / 4294967296) = q + p * a + p * b := by
  have h1 : p * (s % 4294967296) + p * 4294967296 * (s / 4294967296) = p * s := by
    rw [Nat.mul_assoc, ← Nat.mul_add, Nat.mod_add_div]
  subst hs
  rw [Nat.add_assoc, h1, ← h]
  simp only [Nat.mul_add]; omega
def plusVC (a b : DL) (R : V → Heap → Prop) : Prop :=
    (0 ≤ (IntKind.i64.wrap ((a.length : Int) + (1 : Int))) ∧ (IntKind.i64.wrap ((a.length : Int) + (1 : Int))) ≤ (IntKind.i64.wrap ((a.length : Int) + (1 : Int))) ∧ (IntKind.i64.wrap ((a.length : Int) + (1 : Int))) * (4 : Nat) ≤ 281474976710656) ∧
    ((∀ y ∈ a, y.length = 1) ∧
    (∃ (J1 : (DL) → Int → Int → Prop) (μ1 : (DL) → Int → Int → Nat),
    J1 (a.take (List.replicate ((IntKind.i64.wrap ((a.length : Int) + (1 : Int)))).toNat [(D.int .u32 (0 : Int))]).length ++ (List.replicate ((IntKind.i64.wrap ((a.length : Int) + (1 : Int)))).toNat [(D.int .u32 (0 : Int))]).drop a.length) (0 : Int) (0 : Int) ∧ ∀ (out1 : DL) (t251 : Int) (carry1 : Int), J1 out1 t251 carry1 →
      ((decide (t251 < (a.length : Int))) = true →
        ((decide (t251 < (b.length : Int))) = true →
          ∃ (vx3 : Int),
          (0 ≤ t251 ∧ t251 < (b.length : Int)) ∧
          (b[(t251).toNat]? = some [(D.int .u32 vx3)]) ∧
          (∃ (vx4 : Int) (r4 : Int) (r5 : Int),
          (0 ≤ t251 ∧ t251 < (a.length : Int)) ∧
          (a[(t251).toNat]? = some [(D.int .u32 vx4)]) ∧
          (FnD prog 130 [(V.e (E.sc (S.dat (D.int .u32 vx4)))), (V.e (E.sc (S.dat (D.int .u32 vx3)))), (V.e (E.sc (S.dat (D.int .u32 carry1))))] (V.tup [(E.sc (S.dat (D.int .u32 r4))), (E.sc (S.dat (D.int .u32 r5)))]) []) ∧
          (0 ≤ t251 ∧ t251 < (out1.length : Int)) ∧
          (J1 (out1.set (t251).toNat [(D.int .u32 r4)]) (IntKind.i64.wrap (t251 + (1 : Int))) r5 ∧ μ1 (out1.set (t251).toNat [(D.int .u32 r4)]) (IntKind.i64.wrap (t251 + (1 : Int))) r5 < μ1 out1 t251 carry1))) ∧
        ((decide (t251 < (b.length : Int))) = false →
          ∃ (vx5 : Int) (r6 : Int) (r7 : Int),
          (0 ≤ t251 ∧ t251 < (a.length : Int)) ∧
          (a[(t251).toNat]? = some [(D.int .u32 vx5)]) ∧
          (FnD prog 130 [(V.e (E.sc (S.dat (D.int .u32 vx5)))), (V.e (E.sc (S.dat (D.int .u32 (0 : Int))))), (V.e (E.sc (S.dat (D.int .u32 carry1))))] (V.tup [(E.sc (S.dat (D.int .u32 r6))), (E.sc (S.dat (D.int .u32 r7)))]) []) ∧
          (0 ≤ t251 ∧ t251 < (out1.length : Int)) ∧
          (J1 (out1.set (t251).toNat [(D.int .u32 r6)]) (IntKind.i64.wrap (t251 + (1 : Int))) r7 ∧ μ1 (out1.set (t251).toNat [(D.int .u32 r6)]) (IntKind.i64.wrap (t251 + (1 : Int))) r7 < μ1 out1 t251 carry1))) ∧
      ((decide (t251 < (a.length : Int))) = false →
        (0 ≤ (a.length : Int) ∧ (a.length : Int) < (out1.length : Int)) ∧
        (R (V.e (E.sc (S.dat (D.sl (out1.set ((a.length : Int)).toNat [(D.int .u32 carry1)]))))) []))))
theorem plusVC_ok {a b : List Nat} (ha : ∀ x ∈ a, x < 4294967296) (hb : ∀ x ∈ b, x < 4294967296) (hl : a.length ≤ 1099511627776) (hab : b.length ≤ a.length) : plusVC (lim a) (lim b) (Out (vs (lim (padD (a.length + 1) (val a + val b))))) := by
  unfold plusVC
  simp only [lim_length]
  have hw : IntKind.i64.wrap ((a.length : Int) + 1) = ((a.length + 1 : Nat) : Int) := by rw [w64 (by omega) (by omega)]; simp
  rw [hw]
  refine ⟨⟨by omega, by omega, by omega⟩, lim_one a, fun out t c => ∃ (o : List Nat) (i k : Nat), out = lim o ∧ t = (i : Int) ∧ c = (k : Int) ∧ o.length = a.length + 1 ∧ (∀ x ∈ o, x < 4294967296) ∧ i ≤ a.length ∧ k ≤ 1 ∧ low o i + 4294967296 ^ i * k = low a i + low b i,
    fun _ t _ => ((a.length : Int) - t).toNat, ⟨a ++ [0], 0, 0, ?_, rfl, rfl, by simp, ?_, by omega, by omega, by simp [low_zero]⟩, ?_⟩
  · simp only [Int.toNat_natCast, List.length_replicate]
    rw [List.take_of_length_le (by rw [lim_length]; omega), List.drop_replicate, Nat.add_sub_cancel_left, lim_append]; rfl
  · intro x hx
    rcases List.mem_append.1 hx with h | h
    · exact ha x h
    · simp at h; omega
  · rintro _ _ _ ⟨o, i, k, rfl, rfl, rfl, hol, hod, hia, hk, hinv⟩
    have step : i < a.length → ∀ (x y : Nat), x = dg a i → y = dg b i →
        FnD prog 130 [vu x, vu y, vu k] (vu2 (((x + y + k) % 4294967296 : Nat) : Int) (((x + y + k) / 4294967296 : Nat) : Int)) [] ∧ (0 ≤ (i : Int) ∧ (i : Int) < ((lim o).length : Int)) ∧
        ((∃ (o' : List Nat) (i' k' : Nat), (lim o).set (i : Int).toNat [D.int .u32 (((x + y + k) % 4294967296 : Nat) : Int)] = lim o' ∧ IntKind.i64.wrap ((i : Int) + 1) = (i' : Int) ∧ (((x + y + k) / 4294967296 : Nat) : Int) = (k' : Int) ∧ o'.length = a.length + 1 ∧ (∀ x ∈ o', x < 4294967296) ∧ i' ≤ a.length ∧ k' ≤ 1 ∧
          low o' i' + 4294967296 ^ i' * k' = low a i' + low b i') ∧ ((a.length : Int) - IntKind.i64.wrap ((i : Int) + 1)).toNat < ((a.length : Int) - (i : Int)).toNat) := fun hi x y hx hy => by
      have hxl : x < 4294967296 := hx ▸ dg_lt ha i
      have hyl : y < 4294967296 := hy ▸ dg_lt hb i
      have hwi : IntKind.i64.wrap ((i : Int) + 1) = ((i + 1 : Nat) : Int) := by rw [w64 (by omega) (by omega)]; simp
      refine ⟨add32_ok x y k hxl hyl hk, ⟨by omega, by rw [lim_length]; omega⟩, ⟨o.set i ((x + y + k) % 4294967296), i + 1, (x + y + k) / 4294967296, by rw [Int.toNat_natCast, lim_set], hwi, rfl, by simp [hol], set_lt hod (Nat.mod_lt _ (by decide)), by omega, by omega, ?_⟩, by rw [hwi]; omega⟩
      rw [low_set_succ (by omega), low_succ a, low_succ b, Nat.pow_succ, ← hx, ← hy]
      have := carry_step (4294967296 ^ i) (low o i) (x + y + k) k x y _ hinv rfl
      omega
    refine ⟨fun hc => ⟨fun hd => ?_, fun hd => ?_⟩, fun hc => ?_⟩
    · have hi : i < a.length := by simpa using hc
      have hib : i < b.length := by simpa using hd
      obtain ⟨s1, s2, s3⟩ := step hi _ _ rfl rfl
      exact ⟨(dg b i : Nat), ⟨by omega, by omega⟩, by simpa using lim_getI (l := b) (i := (i : Int)) (by omega) (by omega), (dg a i : Nat), _, _, ⟨by omega, by omega⟩, by simpa using lim_getI (l := a) (i := (i : Int)) (by omega) (by omega), s1, s2, s3⟩
    · have hi : i < a.length := by simpa using hc
      have hib : b.length ≤ i := by simpa using hd
      obtain ⟨s1, s2, s3⟩ := step hi _ 0 rfl (dg_out hib).symm
      exact ⟨(dg a i : Nat), _, _, ⟨by omega, by omega⟩, by simpa using lim_getI (l := a) (i := (i : Int)) (by omega) (by omega), s1, s2, s3⟩
    · have hi : i = a.length := by have : a.length ≤ i := by simpa using hc
                                   omega
      subst hi
      refine ⟨⟨by omega, by rw [lim_length]; omega⟩, outs ?_⟩
      rw [Int.toNat_natCast, lim_set]
      congr 1
      have hv : val (o.set a.length k) = val a + val b := by
        rw [← low_all (l := o.set a.length k) (i := a.length + 1) (by simp [hol]), low_set_succ (by omega), hinv, low_all (Nat.le_refl _), low_all hab]
      have := padD_val (o.set a.length k) (set_lt hod (by omega))
      rw [hv, List.length_set, hol] at this
      exact this
theorem plus_ok {a b : List Nat} (ha : ∀ x ∈ a, x < 4294967296) (hb : ∀ x ∈ b, x < 4294967296) (hla : a.length ≤ 1099511627776) (hlb : b.length ≤ 1099511627776) :
    FnD prog 120 [vs (lim a), vs (lim b)] (vs (lim (padD (max a.length b.length + 1) (val a + val b)))) [] := by
  refine vc120_ok (lim a) (lim b) (R := Out _) ?_
  unfold vc120
  refine ⟨fun hc => ?_, fun hc => ?_⟩
  · have h : a.length < b.length := by simpa [lim_length] using hc
    have := plusVC_ok hb ha hlb (by omega)
    rw [Nat.max_eq_right (by omega), Nat.add_comm (val a)]
    exact this
  · have h : b.length ≤ a.length := by simpa [lim_length] using hc
    rw [Nat.max_eq_left h]
    exact plusVC_ok ha hb hla h
end Go.AM
/- What the functions of package integer, and of its reference, answer: differences of absolute values, comparing. -/
namespace Go.AM
open Go.Proofs.Tryz
theorem borrow_step (p la lo lb k k' x y d : Nat) (h : la + p * k = lo + lb) (hs : x + 4294967296 * k' = d + y + k) : la + p * x + p * 4294967296 * k' = lo + p * d + (lb + p * y) := by
  have h1 : p * x + p * 4294967296 * k' = p * d + p * y + p * k := by
    rw [Nat.mul_assoc, ← Nat.mul_add, hs]; simp only [Nat.mul_add]
  omega
theorem borrow_end {n la lo lb k : Nat} (hk : k ≤ 1) (h : la + n * k = lo + lb) (hlo : lo < n) (hle : lb ≤ la) : lo = la - lb := by
  have : k = 0 ∨ k = 1 := by omega
  rcases this with rfl | rfl
  · omega
  · exfalso; omega
theorem minus_ok {a b : List Nat} (ha : ∀ x ∈ a, x < 4294967296) (hb : ∀ x ∈ b, x < 4294967296) (hl : a.length ≤ 1099511627776) (hab : b.length ≤ a.length) (hle : val b ≤ val a) :
    FnD prog 119 [vs (lim a), vs (lim b)] (vs (lim (padD a.length (val a - val b)))) [] := by
  refine vc119_ok (lim a) (lim b) (R := Out _) ?_
  unfold vc119
  simp only [lim_length]
  refine ⟨⟨by omega, by omega, by omega⟩, fun out t c => ∃ (o : List Nat) (i k : Nat), out = lim o ∧ t = (i : Int) ∧ c = (k : Int) ∧ o.length = a.length ∧ (∀ x ∈ o, x < 4294967296) ∧ i ≤ a.length ∧ k ≤ 1 ∧ low a i + 4294967296 ^ i * k = low o i + low b i,
    fun _ t _ => ((a.length : Int) - t).toNat, ⟨List.replicate a.length 0, 0, 0, by rw [Int.toNat_natCast, lim_rep], rfl, rfl, by simp, fun x hx => by rw [List.eq_of_mem_replicate hx]; decide, by omega, by omega, by simp [low_zero]⟩, ?_⟩
  rintro _ _ _ ⟨o, i, k, rfl, rfl, rfl, hol, hod, hia, hk, hinv⟩
  have step : i < a.length → ∀ (x y : Nat), x = dg a i → y = dg b i →
      FnD prog 129 [vu x, vu y, vu k] (vu2 (((x : Int) - y - k) % 4294967296) (if x < y + k then 1 else 0)) [] ∧ (0 ≤ (i : Int) ∧ (i : Int) < ((lim o).length : Int)) ∧
      ((∃ (o' : List Nat) (i' k' : Nat), (lim o).set (i : Int).toNat [D.int .u32 (((x : Int) - y - k) % 4294967296)] = lim o' ∧ IntKind.i64.wrap ((i : Int) + 1) = (i' : Int) ∧ (if x < y + k then (1 : Int) else 0) = (k' : Int) ∧ o'.length = a.length ∧ (∀ x ∈ o', x < 4294967296) ∧ i' ≤ a.length ∧ k' ≤ 1 ∧
        low a i' + 4294967296 ^ i' * k' = low o' i' + low b i') ∧ ((a.length : Int) - IntKind.i64.wrap ((i : Int) + 1)).toNat < ((a.length : Int) - (i : Int)).toNat) := fun hi x y hx hy => by
    have hxl : x < 4294967296 := hx ▸ dg_lt ha i
    have hyl : y < 4294967296 := hy ▸ dg_lt hb i
    have hwi : IntKind.i64.wrap ((i : Int) + 1) = ((i + 1 : Nat) : Int) := by rw [w64 (by omega) (by omega)]; simp
    obtain ⟨d, hd⟩ : ∃ d : Nat, ((x : Int) - y - k) % 4294967296 = (d : Int) := ⟨(((x : Int) - y - k) % 4294967296).toNat, by omega⟩
    have hdl : d < 4294967296 := by omega
    refine ⟨sub32_ok x y k hxl hyl hk, ⟨by omega, by rw [lim_length]; omega⟩, ⟨o.set i d, i + 1, if x < y + k then 1 else 0, by rw [hd, Int.toNat_natCast, lim_set], hwi, by split <;> rfl, by simp [hol], set_lt hod hdl, by omega, by split <;> omega, ?_⟩, by rw [hwi]; omega⟩
    rw [low_set_succ (by omega), low_succ a, low_succ b, Nat.pow_succ, ← hx, ← hy]
    exact borrow_step (4294967296 ^ i) _ _ _ k _ x y d hinv (by split <;> omega)
  refine ⟨fun hc => ⟨fun hd => ?_, fun hd => ?_⟩, fun hc => ?_⟩
  · have hi : i < a.length := by simpa using hc
    have hib : i < b.length := by simpa using hd
    obtain ⟨s1, s2, s3⟩ := step hi _ _ rfl rfl
    exact ⟨(dg b i : Nat), ⟨by omega, by omega⟩, by simpa using lim_getI (l := b) (i := (i : Int)) (by omega) (by omega), (dg a i : Nat), _, _, ⟨by omega, by omega⟩, by simpa using lim_getI (l := a) (i := (i : Int)) (by omega) (by omega), s1, s2, s3⟩
  · have hi : i < a.length := by simpa using hc
    have hib : b.length ≤ i := by simpa using hd
    obtain ⟨s1, s2, s3⟩ := step hi _ 0 rfl (dg_out hib).symm
    exact ⟨(dg a i : Nat), _, _, ⟨by omega, by omega⟩, by simpa using lim_getI (l := a) (i := (i : Int)) (by omega) (by omega), s1, s2, s3⟩
  · have hi : i = a.length := by have : a.length ≤ i := by simpa using hc
                                 omega
    subst hi
    refine outs ?_
    congr 1
    have hv : val o = val a - val b := by
      rw [low_all (Nat.le_refl _), low_all hab, low_all (by omega)] at hinv
      exact borrow_end hk hinv (by rw [← hol]; exact val_lt hod) hle
    have := padD_val o hod
    rw [hv, hol] at this
    exact this
theorem isNaN_int (x : Int) : FnD prog 131 [vi x] (vb false) [] := by
  refine vc131_ok x (R := Out _) ?_
  unfold vc131
  exact outb (by simp)
theorem isNaN_u32 (x : Int) : FnD prog 132 [vu x] (vb false) [] := by
  refine vc132_ok x (R := Out _) ?_
  unfold vc132
  exact outb (by simp)
def cmpI (x y : Int) : Int := if x < y then -1 else if x > y then 1 else 0
theorem compareInt_ok (x y : Int) : FnD prog 124 [vi x, vi y] (vi (cmpI x y)) [] := by
  refine vc124_ok x y (R := Out _) ?_
  unfold vc124
  refine ⟨false, isNaN_int x, false, isNaN_int y, by simp, fun _ => ⟨by simp, fun _ => ⟨fun h => ?_, fun h => ⟨fun h2 => ?_, fun h2 => ?_⟩⟩⟩⟩
  · exact outi (by simp only [decide_eq_true_eq] at h; simp [cmpI, h])
  · exact outi (by simp only [decide_eq_true_eq, decide_eq_false_iff_not] at h h2; simp [cmpI, h, h2])
  · exact outi (by simp only [decide_eq_false_iff_not] at h h2; simp [cmpI, h, h2])
theorem compareU32_ok (x y : Int) : FnD prog 125 [vu x, vu y] (vi (cmpI x y)) [] := by
  refine vc125_ok x y (R := Out _) ?_
  unfold vc125
  refine ⟨false, isNaN_u32 x, false, isNaN_u32 y, by simp, fun _ => ⟨by simp, fun _ => ⟨fun h => ?_, fun h => ⟨fun h2 => ?_, fun h2 => ?_⟩⟩⟩⟩
  · exact outi (by simp only [decide_eq_true_eq] at h; simp [cmpI, h])
  · exact outi (by simp only [decide_eq_true_eq, decide_eq_false_iff_not] at h h2; simp [cmpI, h, h2])
  · exact outi (by simp only [decide_eq_false_iff_not] at h h2; simp [cmpI, h, h2])
theorem val_lt_of_len {a b : List Nat} (ha : ∀ x ∈ a, x < 4294967296) (hb : canon b) (h : a.length < b.length) : val a < val b := by
  have h1 := val_lt ha
  obtain ⟨q, hq⟩ : ∃ q, b.length = q + 1 := ⟨b.length - 1, by omega⟩
  have hsplit : b = b.take q ++ b.drop q := (List.take_append_drop _ _).symm
  have hdl : (b.drop q).length = 1 := by simp [hq]
  obtain ⟨x, hx⟩ := List.length_eq_one_iff.1 hdl
  have hx0 : x ≠ 0 := hb x (by rw [hsplit, hx]; simp)
  have hv : val b = val (b.take q) + 4294967296 ^ q * x := by
    conv => lhs; rw [hsplit, val_append, hx]
    simp [val, hq]
  have h2 : 4294967296 ^ a.length ≤ 4294967296 ^ q := Nat.pow_le_pow_right (by decide) (by omega)
  have h3 : 4294967296 ^ q * 1 ≤ 4294967296 ^ q * x := Nat.mul_le_mul_left _ (by omega)
  omega
theorem val_lt_of_dg {a b : List Nat} (ha : ∀ x ∈ a, x < 4294967296) {i : Nat} (hl : a.length = b.length) (hi : i < a.length) (hd : dg a i < dg b i) (hs : ∀ j, i < j → dg a j = dg b j) : val a < val b := by
  have key : ∀ n, low a (i + 1 + n) < low b (i + 1 + n) := by
    intro n
    induction n with
    | zero =>
      rw [Nat.add_zero, low_succ, low_succ]
      have h1 : low a i < 4294967296 ^ i := by
        have := val_lt (l := a.take i) fun x hx => ha x (List.mem_of_mem_take hx)
        rw [List.length_take, Nat.min_eq_left (by omega)] at this
        exact this
      have h2 : 4294967296 ^ i * (dg a i + 1) ≤ 4294967296 ^ i * dg b i := Nat.mul_le_mul_left _ hd
      rw [Nat.mul_add, Nat.mul_one] at h2
      omega
    | succ n ih =>
      rw [← Nat.add_assoc, low_succ, low_succ, hs _ (by omega)]
      omega
  have := key a.length
  rwa [low_all (by omega), low_all (by omega)] at this
theorem val_eq_of_dg {a b : List Nat} (hl : a.length = b.length) (hs : ∀ j, dg a j = dg b j) : val a = val b := by
  have key : ∀ n, low a n = low b n := by
    intro n
    induction n with
    | zero => rfl
    | succ n ih => rw [low_succ, low_succ, ih, hs]
  have := key a.length
  rwa [low_all (Nat.le_refl _), low_all (by omega)] at this
theorem compare_ok {a b : List Nat} (ha : ∀ x ∈ a, x < 4294967296) (hb : ∀ x ∈ b, x < 4294967296) (ca : canon a) (cb : canon b) (hla : a.length ≤ 1099511627776) :
    FnD prog 113 [vs (lim a), vs (lim b)] (vi (cmpI (val a) (val b))) [] := by
  refine vc113_ok (lim a) (lim b) (R := Out _) ?_
  unfold vc113
  simp only [lim_length]
  refine ⟨_, compareInt_ok _ _, fun hc => ?_, fun hc => ?_⟩
  · refine outi ?_
    have hc : cmpI (a.length : Int) (b.length : Int) ≠ 0 := by simpa using hc
    unfold cmpI at hc ⊢
    by_cases h1 : a.length < b.length
    · have := val_lt_of_len ha cb h1
      rw [if_pos (by omega), if_pos (by omega)]
    · by_cases h2 : b.length < a.length
      · have := val_lt_of_len hb ca h2
        rw [if_neg (by omega), if_pos (by omega), if_neg (by omega), if_pos (by omega)]
      · rw [if_neg (by omega), if_neg (by omega)] at hc; exact absurd rfl hc
  · have hlen : a.length = b.length := by
      have hc : cmpI (a.length : Int) (b.length : Int) = 0 := by simpa using hc
      unfold cmpI at hc
      split at hc
      · simp at hc
      · split at hc
        · simp at hc
        · omega
    refine ⟨fun i => -1 ≤ i ∧ i < (a.length : Int) ∧ ∀ j : Nat, i < (j : Int) → dg a j = dg b j, fun i => (i + 1).toNat, ?_, fun i ⟨h0, h1, h2⟩ => ⟨fun hi => ?_, fun hi => ?_⟩⟩
    · rw [w64 (by omega) (by omega)]
      exact ⟨by omega, by omega, fun j hj => by rw [dg_out (by omega), dg_out (by omega)]⟩
    · have hi : 0 ≤ i := by simpa using hi
      have hw : IntKind.i64.wrap (i - 1) = i - 1 := w64 (by omega) (by omega)
      refine ⟨(dg a i.toNat : Nat), (dg b i.toNat : Nat), _, ⟨hi, by omega⟩, lim_getI hi h1, ⟨hi, by omega⟩, lim_getI hi (by omega), compareU32_ok _ _, fun hc => ?_, fun hc => ?_⟩
      · refine outi ?_
        have hc : cmpI (dg a i.toNat : Nat) (dg b i.toNat : Nat) ≠ 0 := by simpa using hc
        have hs : ∀ j, i.toNat < j → dg a j = dg b j := fun j hj => h2 j (by omega)
        unfold cmpI at hc ⊢
        by_cases g1 : dg a i.toNat < dg b i.toNat
        · have := val_lt_of_dg ha hlen (by omega) g1 hs
          rw [if_pos (by omega), if_pos (by omega)]
        · by_cases g2 : dg b i.toNat < dg a i.toNat
          · have := val_lt_of_dg hb hlen.symm (by omega) g2 fun j hj => (hs j hj).symm
            rw [if_neg (by omega), if_pos (by omega), if_neg (by omega), if_pos (by omega)]
          · rw [if_neg (by omega), if_neg (by omega)] at hc; exact absurd rfl hc
      · have hc : cmpI (dg a i.toNat : Nat) (dg b i.toNat : Nat) = 0 := by simpa using hc
        have heq : dg a i.toNat = dg b i.toNat := by
          unfold cmpI at hc
          split at hc
          · simp at hc
          · split at hc
            · simp at hc
            · omega
        rw [hw]
        refine ⟨⟨by omega, by omega, fun j hj => ?_⟩, by show (i - 1 + 1).toNat < (i + 1).toNat; omega⟩
        by_cases hji : j = i.toNat
        · subst hji; exact heq
        · exact h2 j (by omega)
    · have hi : i < 0 := by simpa using hi
      have hv := val_eq_of_dg hlen fun j => h2 j (by omega)
      exact outi (by simp [cmpI, hv])
theorem less_ok {a b : List Nat} (ha : ∀ x ∈ a, x < 4294967296) (hb : ∀ x ∈ b, x < 4294967296) (ca : canon a) (cb : canon b) (hla : a.length ≤ 1099511627776) :
    FnD prog 58 [vs (lim a), vs (lim b)] (vb (decide (val a < val b))) [] := by
  refine vc58_ok (lim a) (lim b) (R := Out _) ?_
  unfold vc58
  simp only [lim_length]
  refine ⟨fun hc => ?_, fun hc => ?_⟩
  · refine outb ?_
    have hc : a.length ≠ b.length := by
      have : ¬ ((a.length : Int) = (b.length : Int)) := by simpa using hc
      omega
    rw [decide_eq_decide]
    rcases Nat.lt_or_gt_of_ne hc with h | h
    · have := val_lt_of_len ha cb h; omega
    · have := val_lt_of_len hb ca h; omega
  · have hlen : a.length = b.length := by
      have : (a.length : Int) = (b.length : Int) := by simpa using hc
      omega
    refine ⟨fun i => -1 ≤ i ∧ i < (a.length : Int) ∧ ∀ j : Nat, i < (j : Int) → dg a j = dg b j, fun i => (i + 1).toNat, ?_, fun i ⟨h0, h1, h2⟩ => ⟨fun hi => ?_, fun hi => ?_⟩⟩
    · rw [w64 (by omega) (by omega)]
      exact ⟨by omega, by omega, fun j hj => by rw [dg_out (by omega), dg_out (by omega)]⟩
    · have hi : 0 ≤ i := by simpa using hi
      have hw : IntKind.i64.wrap (i - 1) = i - 1 := w64 (by omega) (by omega)
      refine ⟨(dg a i.toNat : Nat), (dg b i.toNat : Nat), ⟨hi, by omega⟩, lim_getI hi h1, ⟨hi, by omega⟩, lim_getI hi (by omega), fun hc => ?_, fun hc => ?_⟩
      · refine outb ?_
        have hc : dg a i.toNat ≠ dg b i.toNat := by
          intro h
          rw [h] at hc; simp at hc
        have hs : ∀ j, i.toNat < j → dg a j = dg b j := fun j hj => h2 j (by omega)
        rw [decide_eq_decide]
        rcases Nat.lt_or_gt_of_ne hc with g | g
        · have := val_lt_of_dg ha hlen (by omega) g hs; omega
        · have := val_lt_of_dg hb hlen.symm (by omega) g fun j hj => (hs j hj).symm; omega
      · have heq : dg a i.toNat = dg b i.toNat := by
          have : ((dg a i.toNat : Nat) : Int) = (dg b i.toNat : Nat) := by simpa using hc
          omega
        rw [hw]
        refine ⟨⟨by omega, by omega, fun j hj => ?_⟩, by show (i - 1 + 1).toNat < (i + 1).toNat; omega⟩
        by_cases hji : j = i.toNat
        · subst hji; exact heq
        · exact h2 j (by omega)
    · have hi : i < 0 := by simpa using hi
      have hv := val_eq_of_dg hlen fun j => h2 j (by omega)
      exact outb (by simp [hv])
end Go.AM
/- What the functions of package integer, and of its reference, answer: over the integers. -/
namespace Go.AM
open Go.Proofs.Tryz
def Sz (z : Int) : Prop := (digs z.natAbs).length ≤ 1073741824
theorem Sz.of_lt {z : Int} (k : Nat) (hk : k ≤ 1073741824) (h : z.natAbs < 4294967296 ^ k) : Sz z := Nat.le_trans (digs_len h) hk
abbrev dz (z : Int) : List Nat := digs z.natAbs
theorem oute {z z' : Int} (h : z = z') : Out (eI z') (V.e (E.agg [S.dat (D.bool (decide (z < 0))), S.dat (D.sl (lim (digs z.natAbs)))])) [] := by subst h; exact ⟨rfl, rfl⟩
theorem sum_fits {a b : List Nat} (ha : ∀ x ∈ a, x < 4294967296) (hb : ∀ x ∈ b, x < 4294967296) : val a + val b < 4294967296 ^ (max a.length b.length + 1) := by
  have h1 := val_lt ha
  have h2 := val_lt hb
  have h3 : 4294967296 ^ a.length ≤ 4294967296 ^ max a.length b.length := Nat.pow_le_pow_right (by decide) (Nat.le_max_left _ _)
  have h4 : 4294967296 ^ b.length ≤ 4294967296 ^ max a.length b.length := Nat.pow_le_pow_right (by decide) (Nat.le_max_right _ _)
  rw [Nat.pow_succ]
  generalize 4294967296 ^ max a.length b.length = q at *
  omega
theorem diff_fits {a : List Nat} (ha : ∀ x ∈ a, x < 4294967296) (v : Nat) : val a - v < 4294967296 ^ a.length := Nat.lt_of_le_of_lt (Nat.sub_le _ _) (val_lt ha)
theorem len_le_of_val {a b : List Nat} (ha : ∀ x ∈ a, x < 4294967296) (cb : canon b) (h : val b ≤ val a) : b.length ≤ a.length := by
  apply Classical.byContradiction
  intro hn
  have := val_lt_of_len ha cb (by omega)
  omega
theorem sign_ok (z : Int) : FnD prog 83 [eI z] (vi (if z = 0 then 0 else if z < 0 then -1 else 1)) [] := by
  refine vc83_ok _ _ (R := Out _) ?_
  unfold vc83
  simp only [lim_length]
  have hnil : (dz z).length = 0 ↔ z = 0 := by rw [List.length_eq_zero_iff, digs_nil]; omega
  refine ⟨fun h => outi ?_, fun h => ⟨fun h2 => outi ?_, fun h2 => outi ?_⟩⟩
  · have : (dz z).length = 0 := by have h : ((dz z).length : Int) = 0 := by simpa using h
                                   omega
    rw [if_pos (hnil.1 this)]
  all_goals
    have : ¬ z = 0 := fun hz => by
      have h : ¬ ((dz z).length : Int) = 0 := by simpa using h
      exact h (by rw [hnil.2 hz]; rfl)
    rw [if_neg this]
  · rw [if_pos (by simpa using h2)]
  · rw [if_neg (by simpa using h2)]
theorem rsign_ok (z : Int) : FnD prog 41 [eI z] (vi (if z = 0 then 0 else if z < 0 then -1 else 1)) [] := by
  refine vc41_ok _ _ (R := Out _) ?_
  unfold vc41
  simp only [lim_length]
  have hnil : (dz z).length = 0 ↔ z = 0 := by rw [List.length_eq_zero_iff, digs_nil]; omega
  refine ⟨fun h => outi ?_, fun h => ⟨fun h2 => outi ?_, fun h2 => outi ?_⟩⟩
  · have : (dz z).length = 0 := by have h : ((dz z).length : Int) = 0 := by simpa using h
                                   omega
    rw [if_pos (hnil.1 this)]
  all_goals
    have : ¬ z = 0 := fun hz => by
      have h : ¬ ((dz z).length : Int) = 0 := by simpa using h
      exact h (by rw [hnil.2 hz]; rfl)
    rw [if_neg this]
  · rw [if_pos (by simpa using h2)]
  · rw [if_neg (by simpa using h2)]
theorem neg_ok (z : Int) : FnD prog 95 [eI z] (eI (-z)) [] := by
  refine vc95_ok _ _ (R := Out _) ?_
  unfold vc95
  simp only [lim_length]
  have hnil : (dz z).length = 0 ↔ z = 0 := by rw [List.length_eq_zero_iff, digs_nil]; omega
  have hab : (-z).natAbs = z.natAbs := by omega
  refine ⟨fun h => ?_, fun h => ?_⟩
  · have h : 0 ≤ z := by simpa using h
    have := out2 (b := decide (((dz z).length : Int) > 0)) (b' := decide (-z < 0)) (l := lim (dz z)) (l' := lim (dz (-z))) (by
      rw [decide_eq_decide]
      constructor
      · intro h1; have : ¬ z = 0 := fun hz => by have := hnil.2 hz; omega
        omega
      · intro h1; have : ¬ (dz z).length = 0 := fun hl => by have := hnil.1 hl; omega
        omega) (by show lim (digs z.natAbs) = lim (digs (-z).natAbs); rw [hab])
    exact this
  · have h : z < 0 := by simpa using h
    exact out2 (b := false) (b' := decide (-z < 0)) (l := lim (dz z)) (l' := lim (dz (-z))) (by
      rw [eq_comm, decide_eq_false_iff_not]; omega) (by show lim (digs z.natAbs) = lim (digs (-z).natAbs); rw [hab])
theorem norm_z {l : List Nat} {neg : Bool} {z : Int} (hB : ∀ x ∈ l, x < 4294967296) (hl : l.length ≤ 1099511627776) (hz : (if neg then -(val l : Int) else val l) = z) :
    FnD prog 92 [vs (lim l), vb neg] (eI z) [] := hz ▸ norm_eI l neg hB hl
theorem made_z {l : List Nat} {neg : Bool} {z : Int} (hB : ∀ x ∈ l, x < 4294967296) (hl : l.length ≤ 1099511627776) (hz : (if neg then -(val l : Int) else val l) = z) :
    FnD prog 56 [vs (lim l), vb neg] (eI z) [] := hz ▸ made_eI l neg hB hl
theorem add_ok {x y : Int} (hx : Sz x) (hy : Sz y) : FnD prog 99 [eI x, eI y] (eI (x + y)) [] := by
  refine vc99_ok _ _ _ _ (R := Out _) ?_
  unfold vc99
  have ax := digs_lt x.natAbs
  have ay := digs_lt y.natAbs
  have cx := digs_canon x.natAbs
  have cy := digs_canon y.natAbs
  have vx := val_digs x.natAbs
  have vy := val_digs y.natAbs
  unfold Sz at hx hy
  refine ⟨fun h => ?_, fun h => ?_⟩
  · have h : (x < 0 ↔ y < 0) := by simpa using h
    refine ⟨_, decide (x + y < 0), lim (dz (x + y)), plus_ok ax ay (by omega) (by omega), norm_z (padD_lt _ _) (by rw [padD_length]; omega) ?_, oute rfl⟩
    rw [val_padD _ _ (sum_fits ax ay), vx, vy]
    by_cases h1 : x < 0
    · rw [if_pos (by simpa using h1)]; omega
    · rw [if_neg (by simpa using h1)]; omega
  · have h : ¬ (x < 0 ↔ y < 0) := by simpa using h
    refine ⟨_, compare_ok ax ay cx cy (by omega), fun hc => ?_, fun hc => ?_⟩
    · have hlt : x.natAbs < y.natAbs := by
        rw [vx, vy] at hc
        unfold cmpI at hc
        simp only [decide_eq_true_eq] at hc
        split at hc
        · omega
        · split at hc <;> omega
      have hle : val (dz x) ≤ val (dz y) := by rw [vx, vy]; omega
      refine ⟨_, decide (x + y < 0), lim (dz (x + y)), minus_ok ay ax (by omega) (len_le_of_val ay cx hle) hle, norm_z (padD_lt _ _) (by rw [padD_length]; omega) ?_, oute rfl⟩
      rw [val_padD _ _ (diff_fits ay _), vx, vy]
      by_cases h1 : y < 0
      · rw [if_pos (by simpa using h1)]; omega
      · rw [if_neg (by simpa using h1)]; omega
    · have hge : y.natAbs ≤ x.natAbs := by
        rw [vx, vy] at hc
        unfold cmpI at hc
        simp only [decide_eq_false_iff_not] at hc
        split at hc
        · omega
        · split at hc <;> omega
      have hle : val (dz y) ≤ val (dz x) := by rw [vx, vy]; omega
      refine ⟨_, decide (x + y < 0), lim (dz (x + y)), minus_ok ax ay (by omega) (len_le_of_val ax cy hle) hle, norm_z (padD_lt _ _) (by rw [padD_length]; omega) ?_, oute rfl⟩
      rw [val_padD _ _ (diff_fits ax _), vx, vy]
      by_cases h1 : x < 0
      · rw [if_pos (by simpa using h1)]; omega
      · rw [if_neg (by simpa using h1)]; omega
theorem Sz.neg {z : Int} (h : Sz z) : Sz (-z) := by unfold Sz at *; rwa [Int.natAbs_neg]
theorem sub_ok {x y : Int} (hx : Sz x) (hy : Sz y) : FnD prog 97 [eI x, eI y] (eI (x - y)) [] := by
  refine vc97_ok _ _ _ _ (R := Out _) ?_
  unfold vc97
  exact ⟨_, _, _, _, neg_ok y, add_ok hx hy.neg, oute (by omega)⟩
theorem cmp_ok {x y : Int} (hx : Sz x) (hy : Sz y) : FnD prog 86 [eI x, eI y] (vi (cmpI x y)) [] := by
  refine vc86_ok _ _ _ _ (R := Out _) ?_
  unfold vc86
  have ax := digs_lt x.natAbs
  have ay := digs_lt y.natAbs
  have cx := digs_canon x.natAbs
  have cy := digs_canon y.natAbs
  have vx := val_digs x.natAbs
  have vy := val_digs y.natAbs
  unfold Sz at hx hy
  have c1 := compare_ok ax ay cx cy (by omega)
  have c2 := compare_ok ay ax cy cx (by omega)
  refine ⟨fun h1 => ⟨fun h2 => outi ?_, fun h2 => ⟨fun h3 => ⟨fun h4 => ?_, fun h4 => ⟨_, c2, outi ?_⟩⟩, fun h3 => ?_⟩⟩, fun h1 => ⟨fun h2 => ⟨fun h3 => outi ?_, fun h3 => ?_⟩, fun h2 => ⟨_, c1, outi ?_⟩⟩⟩
  · have a1 : x < 0 := by simpa using h1
    have a2 : 0 ≤ y := by simpa using h2
    unfold cmpI; rw [if_pos (by omega)]
  · rw [h1] at h4; simp at h4
  · have a1 : x < 0 := by simpa using h1
    have a2 : y < 0 := by simpa using h3
    rw [vx, vy]; unfold cmpI
    repeat' split
    all_goals omega
  · rw [h3] at h2; simp at h2
  · have a1 : 0 ≤ x := by simpa using h1
    have a2 : y < 0 := by simpa using h2
    unfold cmpI; rw [if_neg (by omega), if_pos (by omega)]
  · rw [h1] at h3; simp at h3
  · have a1 : 0 ≤ x := by simpa using h1
    have a2 : 0 ≤ y := by simpa using h2
    rw [vx, vy]; unfold cmpI
    repeat' split
    all_goals omega
theorem of_digits (n : Int) (h0 : -9223372036854775808 ≤ n) (h1 : n ≤ 9223372036854775807) :
    (IntKind.u64.wrap n).fdiv (2 ^ (min (32 : Int).toNat IntKind.u64.bits)) = (IntKind.u64.wrap n) / 4294967296 ∧ (0 ≤ n → IntKind.u64.wrap n = n) ∧ (n < 0 → IntKind.u64.wrap (0 - IntKind.u64.wrap n) = -n) := by
  refine ⟨sh32, fun h => wu64 h (by omega), fun h => ?_⟩
  rw [wu64', wu64']; omega
theorem val2 (a b : Nat) : val [a, b] = a + 4294967296 * b := by simp [val]
theorem of_ok (n : Int) (h0 : -9223372036854775808 ≤ n) (h1 : n ≤ 9223372036854775807) : FnD prog 63 [.e (.sc (.dat (.int .i64 n)))] (eI n) [] := by
  refine vc63_ok n (R := Out _) ?_
  unfold vc63
  obtain ⟨_, p2, p3⟩ := of_digits n h0 h1
  have key : ∀ (m : Nat) (neg : Bool), m < 18446744073709551616 → ∀ z : Int, (if neg then -(m : Int) else m) = z →
      FnD prog 92 [vs [[D.int .u32 (IntKind.u32.wrap (m : Int))], [D.int .u32 (IntKind.u32.wrap ((m : Int) / 4294967296))]], vb neg] (eI z) [] := fun m neg hm z hz => by
    have e1 : IntKind.u32.wrap (m : Int) = ((m % 4294967296 : Nat) : Int) := by rw [wu32]; omega
    have e2 : IntKind.u32.wrap ((m : Int) / 4294967296) = ((m / 4294967296 : Nat) : Int) := by rw [wu32]; omega
    rw [e1, e2]
    exact norm_z (l := [m % 4294967296, m / 4294967296]) (fun x hx => by
      simp only [List.mem_cons, List.not_mem_nil, or_false] at hx
      rcases hx with rfl | rfl <;> omega) (by simp) (by rw [val2, Nat.mod_add_div]; exact hz)
  refine ⟨fun h => ?_, fun h => ?_⟩
  · have hn : n < 0 := by simpa using h
    refine ⟨decide (n < 0), lim (dz n), by decide, ?_, oute rfl⟩
    rw [p3 hn, sh32]
    have := key (-n).toNat (decide (n < 0)) (by omega) n (by rw [if_pos h]; omega)
    rw [Int.toNat_of_nonneg (by omega)] at this
    exact this
  · have hn : 0 ≤ n := by simpa using h
    refine ⟨decide (n < 0), lim (dz n), by decide, ?_, oute rfl⟩
    rw [p2 hn, sh32]
    have := key n.toNat (decide (n < 0)) (by omega) n (by rw [if_neg (by simp [h])]; omega)
    rw [Int.toNat_of_nonneg (by omega)] at this
    exact this
theorem rof_ok (n : Int) (h0 : -9223372036854775808 ≤ n) (h1 : n ≤ 9223372036854775807) : FnD prog 25 [.e (.sc (.dat (.int .i64 n)))] (eI n) [] := by
  refine vc25_ok n (R := Out _) ?_
  unfold vc25
  obtain ⟨_, p2, p3⟩ := of_digits n h0 h1
  have key : ∀ (m : Nat) (neg : Bool), m < 18446744073709551616 → ∀ z : Int, (if neg then -(m : Int) else m) = z →
      FnD prog 56 [vs [[D.int .u32 (IntKind.u32.wrap (m : Int))], [D.int .u32 (IntKind.u32.wrap ((m : Int) / 4294967296))]], vb neg] (eI z) [] := fun m neg hm z hz => by
    have e1 : IntKind.u32.wrap (m : Int) = ((m % 4294967296 : Nat) : Int) := by rw [wu32]; omega
    have e2 : IntKind.u32.wrap ((m : Int) / 4294967296) = ((m / 4294967296 : Nat) : Int) := by rw [wu32]; omega
    rw [e1, e2]
    exact made_z (l := [m % 4294967296, m / 4294967296]) (fun x hx => by
      simp only [List.mem_cons, List.not_mem_nil, or_false] at hx
      rcases hx with rfl | rfl <;> omega) (by simp) (by rw [val2, Nat.mod_add_div]; exact hz)
  refine ⟨fun h => ?_, fun h => ?_⟩
  · have hn : n < 0 := by simpa using h
    refine ⟨decide (n < 0), lim (dz n), by decide, ?_, oute rfl⟩
    rw [p3 hn, sh32]
    have := key (-n).toNat (decide (n < 0)) (by omega) n (by rw [if_pos h]; omega)
    rw [Int.toNat_of_nonneg (by omega)] at this
    exact this
  · have hn : 0 ≤ n := by simpa using h
    refine ⟨decide (n < 0), lim (dz n), by decide, ?_, oute rfl⟩
    rw [p2 hn, sh32]
    have := key n.toNat (decide (n < 0)) (by omega) n (by rw [if_neg (by simp [h])]; omega)
    rw [Int.toNat_of_nonneg (by omega)] at this
    exact this
theorem rneg_ok {z : Int} (hz : Sz z) : FnD prog 52 [eI z] (eI (-z)) [] := by
  refine vc52_ok _ _ (R := Out _) ?_
  unfold vc52
  unfold Sz at hz
  refine ⟨decide (-z < 0), lim (dz (-z)), made_z (l := dz z) (digs_lt _) (by show (digs z.natAbs).length ≤ _; omega) ?_, oute rfl⟩
  rw [val_digs]
  by_cases h : z < 0
  · rw [if_neg (by simp; exact h)]; omega
  · rw [if_pos (by simp; omega)]; omega
theorem rsame_ok {x y : Int} (hx : Sz x) (hy : Sz y) : FnD prog 88 [eI x, eI y] (vb (decide (x = y))) [] := by
  refine vc88_ok _ _ _ _ (R := Out _) ?_
  unfold vc88
  have ax := digs_lt x.natAbs
  have ay := digs_lt y.natAbs
  have cx := digs_canon x.natAbs
  have cy := digs_canon y.natAbs
  have vx := val_digs x.natAbs
  have vy := val_digs y.natAbs
  unfold Sz at hx hy
  have c1 := less_ok ax ay cx cy (by omega)
  have c2 := less_ok ay ax cy cx (by omega)
  rw [vx, vy] at c1 c2
  refine ⟨fun h => ⟨_, c1, fun h1 => ⟨_, c2, outb ?_⟩, fun h1 => outb ?_⟩, fun h => outb ?_⟩
  · have h : (x < 0 ↔ y < 0) := by simpa using h
    have h1 : ¬ x.natAbs < y.natAbs := by simpa using h1
    by_cases e : x = y
    · subst e; simp
    · have : y.natAbs < x.natAbs := by omega
      simp [e, this]
  · have h1 : x.natAbs < y.natAbs := by simpa using h1
    rw [eq_comm, decide_eq_false_iff_not]; omega
  · have h : ¬ (x < 0 ↔ y < 0) := by simpa using h
    rw [eq_comm, decide_eq_false_iff_not]; omega
end Go.AM
/- What the functions of package integer, and of its reference, answer: the reference's sums, products. -/
namespace Go.AM
open Go.Proofs.Tryz
theorem td32 {n : Int} (h : 0 ≤ n) : n.tdiv 4294967296 = n / 4294967296 := Int.tdiv_eq_ediv_of_nonneg h
theorem lim_snoc (o : List Nat) (x : Nat) : lim o ++ [[D.int .u32 (x : Int)]] = lim (o ++ [x]) := by simp [lim]
theorem snoc_lt {o : List Nat} {x : Nat} (h : ∀ y ∈ o, y < 4294967296) (hx : x < 4294967296) : ∀ y ∈ o ++ [x], y < 4294967296 := fun y hy => by
  rcases List.mem_append.1 hy with h1 | h1
  · exact h y h1
  · simp only [List.mem_singleton] at h1; subst h1; exact hx
theorem val_snoc (o : List Nat) (x : Nat) : val (o ++ [x]) = val o + 4294967296 ^ o.length * x := by rw [val_append]; simp [val]
def sumLen (a b : List Nat) : Nat := if val a + val b < 4294967296 ^ max a.length b.length then max a.length b.length else max a.length b.length + 1
theorem rplus_ok {a b : List Nat} (ha : ∀ x ∈ a, x < 4294967296) (hb : ∀ x ∈ b, x < 4294967296) (hla : a.length ≤ 1099511627776) (hlb : b.length ≤ 1099511627776) :
    FnD prog 57 [vs (lim a), vs (lim b)] (vs (lim (padD (sumLen a b) (val a + val b)))) [] := by
  refine vc57_ok (lim a) (lim b) (R := Out _) ?_
  unfold vc57
  simp only [lim_length]
  refine ⟨fun out c t => ∃ (o : List Nat) (i k : Nat), out = lim o ∧ t = (i : Int) ∧ c = (k : Int) ∧ o.length = i ∧ (∀ x ∈ o, x < 4294967296) ∧ i ≤ max a.length b.length + 1 ∧ k ≤ 1 ∧ (i = max a.length b.length + 1 → k = 0 ∧ 4294967296 ^ max a.length b.length ≤ val a + val b) ∧ val o + 4294967296 ^ i * k = low a i + low b i,
    fun _ _ t => ((max a.length b.length : Nat) + 2 - t).toNat, ⟨[], 0, 0, rfl, rfl, rfl, rfl, fun x hx => by simp at hx, by omega, by omega, fun h => by omega, by simp [val, low_zero]⟩, ?_⟩
  rintro _ _ _ ⟨o, i, k, rfl, rfl, rfl, hol, hod, hia, hk, hlast, hinv⟩
  have hwi : IntKind.i64.wrap ((i : Int) + 1) = ((i + 1 : Nat) : Int) := by rw [w64 (by omega) (by omega)]; simp
  have step : (i < max a.length b.length ∨ 0 < k) → ∀ (x y s : Nat), x = dg a i → y = dg b i → s = k + x + y →
      (((lim o).length + ([[D.int .u32 (IntKind.u32.wrap (s : Int))]] : DL).length) * 4 ≤ 140737488355328) ∧ ((4294967296 : Int) ≠ 0) ∧
      ((∃ (o' : List Nat) (i' k' : Nat), lim o ++ [[D.int .u32 (IntKind.u32.wrap (s : Int))]] = lim o' ∧ IntKind.i64.wrap ((i : Int) + 1) = (i' : Int) ∧ IntKind.u64.wrap ((s : Int).tdiv 4294967296) = (k' : Int) ∧ o'.length = i' ∧ (∀ x ∈ o', x < 4294967296) ∧ i' ≤ max a.length b.length + 1 ∧ k' ≤ 1 ∧
        (i' = max a.length b.length + 1 → k' = 0 ∧ 4294967296 ^ max a.length b.length ≤ val a + val b) ∧ val o' + 4294967296 ^ i' * k' = low a i' + low b i') ∧
        (((max a.length b.length : Nat) : Int) + 2 - IntKind.i64.wrap ((i : Int) + 1)).toNat < (((max a.length b.length : Nat) : Int) + 2 - (i : Int)).toNat) := fun hgo x y s hx hy hs => by
    have hxl : x < 4294967296 := hx ▸ dg_lt ha i
    have hyl : y < 4294967296 := hy ▸ dg_lt hb i
    have hiM : i ≤ max a.length b.length := by
      rcases Nat.lt_or_ge i (max a.length b.length + 1) with h | h
      · omega
      · have := (hlast (by omega)).1; omega
    have e1 : IntKind.u32.wrap (s : Int) = ((s % 4294967296 : Nat) : Int) := by rw [wu32]; omega
    have e2 : IntKind.u64.wrap ((s : Int).tdiv 4294967296) = ((s / 4294967296 : Nat) : Int) := by rw [td32 (by omega), wu64 (by omega) (by omega)]; omega
    rw [e1, e2, hwi, lim_snoc]
    refine ⟨by simp only [lim_length, List.length_singleton]; omega, by decide, ⟨_, i + 1, _, rfl, rfl, rfl, by simp [hol], snoc_lt hod (Nat.mod_lt _ (by decide)), by omega, by omega, fun hl => ?_, ?_⟩, by omega⟩
    · have hi : i = max a.length b.length := by omega
      have ha0 : dg a i = 0 := dg_out (by omega)
      have hb0 : dg b i = 0 := dg_out (by omega)
      have hk0 : 0 < k := by rcases hgo with h | h <;> omega
      rw [low_all (by omega), low_all (by omega), hi] at hinv
      have h1 : 4294967296 ^ max a.length b.length * 1 ≤ 4294967296 ^ max a.length b.length * k := Nat.mul_le_mul_left _ hk0
      exact ⟨by omega, by omega⟩
    · rw [val_snoc, hol, low_succ a, low_succ b, Nat.pow_succ, ← hx, ← hy]
      have := carry_step (4294967296 ^ i) (val o) s k x y _ hinv (by omega)
      omega
  refine ⟨fun hc => ?_, fun hc => ?_⟩
  · have hi : i < a.length := by simpa using hc
    refine ⟨(dg a i : Nat), ⟨by omega, by omega⟩, by simpa using lim_getI (l := a) (i := (i : Int)) (by omega) (by omega), fun hd => ?_, fun hd => ?_⟩
    · have hib : i < b.length := by simpa using hd
      have hxl := dg_lt ha i
      have hyl := dg_lt hb i
      have e : IntKind.u64.wrap (IntKind.u64.wrap ((k : Int) + IntKind.u64.wrap ((dg a i : Nat) : Int)) + IntKind.u64.wrap ((dg b i : Nat) : Int)) = ((k + dg a i + dg b i : Nat) : Int) := by
        rw [wu64 (n := ((dg a i : Nat) : Int)) (by omega) (by omega), wu64 (n := ((dg b i : Nat) : Int)) (by omega) (by omega), wu64 (n := (k : Int) + _) (by omega) (by omega), wu64 (by omega) (by omega)]; omega
      refine ⟨(dg b i : Nat), ⟨by omega, by omega⟩, by simpa using lim_getI (l := b) (i := (i : Int)) (by omega) (by omega), ?_⟩
      rw [e]
      exact step (.inl (by omega)) _ _ _ rfl rfl rfl
    · have hib : b.length ≤ i := by simpa using hd
      have hxl := dg_lt ha i
      have e : IntKind.u64.wrap ((k : Int) + IntKind.u64.wrap ((dg a i : Nat) : Int)) = ((k + dg a i + 0 : Nat) : Int) := by
        rw [wu64 (n := ((dg a i : Nat) : Int)) (by omega) (by omega), wu64 (by omega) (by omega)]; omega
      rw [e]
      exact step (.inl (by omega)) _ 0 _ rfl (dg_out hib).symm rfl
  · have hi : a.length ≤ i := by simpa using hc
    refine ⟨fun hd => ?_, fun hd => ⟨fun he => ?_, fun he => ?_⟩⟩
    · have hib : i < b.length := by simpa using hd
      have hyl := dg_lt hb i
      have e : IntKind.u64.wrap ((k : Int) + IntKind.u64.wrap ((dg b i : Nat) : Int)) = ((k + 0 + dg b i : Nat) : Int) := by
        rw [wu64 (n := ((dg b i : Nat) : Int)) (by omega) (by omega), wu64 (by omega) (by omega)]; omega
      refine ⟨(dg b i : Nat), ⟨by omega, by omega⟩, by simpa using lim_getI (l := b) (i := (i : Int)) (by omega) (by omega), ?_⟩
      rw [e]
      exact step (.inl (by omega)) 0 _ _ (dg_out hi).symm rfl rfl
    · have hib : b.length ≤ i := by simpa using hd
      have hk0 : 0 < k := by simpa using he
      exact step (.inr hk0) 0 0 k (dg_out hi).symm (dg_out hib).symm rfl
    · have hib : b.length ≤ i := by simpa using hd
      have hk0 : k = 0 := by have : ¬ (k : Int) > 0 := by simpa using he
                             omega
      subst hk0
      refine outs ?_
      rw [low_all hi, low_all hib] at hinv
      have hv : val o = val a + val b := by omega
      congr 1
      have hlen : o.length = sumLen a b := by
        unfold sumLen
        split
        · rename_i h
          have : i ≠ max a.length b.length + 1 := fun h2 => by have := (hlast h2).2; omega
          omega
        · rename_i h
          have : i ≠ max a.length b.length := fun h2 => by
            have h3 := val_lt hod
            rw [hol, h2] at h3; omega
          omega
      have := padD_val o hod
      rw [hv, hlen] at this
      exact this
theorem sumLen_le (a b : List Nat) : sumLen a b ≤ max a.length b.length + 1 := by unfold sumLen; split <;> omega
theorem sumLen_fits {a b : List Nat} (ha : ∀ x ∈ a, x < 4294967296) (hb : ∀ x ∈ b, x < 4294967296) : val a + val b < 4294967296 ^ sumLen a b := by
  unfold sumLen
  split
  · assumption
  · exact sum_fits ha hb
theorem wi64 {n : Int} (h0 : -9000000000000000000 ≤ n) (h1 : n ≤ 9000000000000000000) : IntKind.i64.wrap n = n := w64 (by omega) (by omega)
theorem rminus_ok {a b : List Nat} (ha : ∀ x ∈ a, x < 4294967296) (hb : ∀ x ∈ b, x < 4294967296) (hl : a.length ≤ 1099511627776) (hab : b.length ≤ a.length) (hle : val b ≤ val a) :
    FnD prog 59 [vs (lim a), vs (lim b)] (vs (lim (padD a.length (val a - val b)))) [] := by
  refine vc59_ok (lim a) (lim b) (R := Out _) ?_
  unfold vc59
  simp only [lim_length]
  refine ⟨fun out c t => ∃ (o : List Nat) (i k : Nat), out = lim o ∧ t = (i : Int) ∧ c = (k : Int) ∧ o.length = i ∧ (∀ x ∈ o, x < 4294967296) ∧ i ≤ a.length ∧ k ≤ 1 ∧ low a i + 4294967296 ^ i * k = val o + low b i,
    fun _ _ t => ((a.length : Int) - t).toNat, ⟨[], 0, 0, rfl, rfl, rfl, rfl, fun x hx => by simp at hx, by omega, by omega, by simp [val, low_zero]⟩, ?_⟩
  rintro _ _ _ ⟨o, i, k, rfl, rfl, rfl, hol, hod, hia, hk, hinv⟩
  have step : i < a.length → ∀ (x y d k' : Nat), x = dg a i → y = dg b i → x + 4294967296 * k' = d + y + k → d < 4294967296 → k' ≤ 1 →
      (((lim o).length + ([[D.int .u32 (d : Int)]] : DL).length) * 4 ≤ 140737488355328) ∧
      ((∃ (o' : List Nat) (i' k'' : Nat), lim o ++ [[D.int .u32 (d : Int)]] = lim o' ∧ IntKind.i64.wrap ((i : Int) + 1) = (i' : Int) ∧ (k' : Int) = (k'' : Int) ∧ o'.length = i' ∧ (∀ x ∈ o', x < 4294967296) ∧ i' ≤ a.length ∧ k'' ≤ 1 ∧ low a i' + 4294967296 ^ i' * k'' = val o' + low b i') ∧
        ((a.length : Int) - IntKind.i64.wrap ((i : Int) + 1)).toNat < ((a.length : Int) - (i : Int)).toNat) := fun hi x y d k' hx hy hs hd hk' => by
    have hwi : IntKind.i64.wrap ((i : Int) + 1) = ((i + 1 : Nat) : Int) := by rw [w64 (by omega) (by omega)]; simp
    rw [hwi, lim_snoc]
    refine ⟨by simp only [lim_length, List.length_singleton]; omega, ⟨_, i + 1, k', rfl, rfl, rfl, by simp [hol], snoc_lt hod hd, by omega, hk', ?_⟩, by omega⟩
    rw [val_snoc, hol, low_succ a, low_succ b, Nat.pow_succ, ← hx, ← hy]
    exact borrow_step (4294967296 ^ i) _ _ _ k _ x y d hinv hs
  refine ⟨fun hc => ?_, fun hc => ?_⟩
  · have hi : i < a.length := by simpa using hc
    have hxl := dg_lt ha i
    have hyl := dg_lt hb i
    have e1 : IntKind.i64.wrap ((dg a i : Nat) : Int) = (dg a i : Nat) := wi64 (by omega) (by omega)
    have e2 : IntKind.i64.wrap (((dg a i : Nat) : Int) - k) = ((dg a i : Nat) : Int) - k := wi64 (by omega) (by omega)
    refine ⟨(dg a i : Nat), ⟨by omega, by omega⟩, by simpa using lim_getI (l := a) (i := (i : Int)) (by omega) (by omega), fun hd => ?_, fun hd => ?_⟩
    · have e3 : IntKind.i64.wrap ((dg b i : Nat) : Int) = (dg b i : Nat) := wi64 (by omega) (by omega)
      have e4 : IntKind.i64.wrap (((dg a i : Nat) : Int) - k - (dg b i : Nat)) = ((dg a i : Nat) : Int) - k - (dg b i : Nat) := wi64 (by omega) (by omega)
      have e5 : IntKind.i64.wrap (((dg a i : Nat) : Int) - k - (dg b i : Nat) + 4294967296) = ((dg a i : Nat) : Int) - k - (dg b i : Nat) + 4294967296 := wi64 (by omega) (by omega)
      rw [e1, e2]
      have hib : i < b.length := by simpa using hd
      refine ⟨(dg b i : Nat), ⟨by omega, by omega⟩, by simpa using lim_getI (l := b) (i := (i : Int)) (by omega) (by omega), ?_⟩
      rw [e3, e4, e5]
      refine ⟨fun hn => ?_, fun hn => ?_⟩
      · have hn : ((dg a i : Nat) : Int) - k - (dg b i : Nat) < 0 := by simpa using hn
        have e6 : IntKind.u32.wrap (((dg a i : Nat) : Int) - k - (dg b i : Nat) + 4294967296) = ((dg a i + 4294967296 - k - dg b i : Nat) : Int) := by rw [wu32]; omega
        rw [e6]
        exact step hi _ _ _ 1 rfl rfl (by omega) (by omega) (by omega)
      · have hn : ¬ ((dg a i : Nat) : Int) - k - (dg b i : Nat) < 0 := by simpa using hn
        have e6 : IntKind.u32.wrap (((dg a i : Nat) : Int) - k - (dg b i : Nat)) = ((dg a i - k - dg b i : Nat) : Int) := by rw [wu32]; omega
        rw [e6]
        exact step hi _ _ _ 0 rfl rfl (by omega) (by omega) (by omega)
    · have hib : b.length ≤ i := by simpa using hd
      have e5 : IntKind.i64.wrap (((dg a i : Nat) : Int) - k + 4294967296) = ((dg a i : Nat) : Int) - k + 4294967296 := wi64 (by omega) (by omega)
      rw [e1, e2, e5]
      refine ⟨fun hn => ?_, fun hn => ?_⟩
      · have hn : ((dg a i : Nat) : Int) - k < 0 := by simpa using hn
        have e6 : IntKind.u32.wrap (((dg a i : Nat) : Int) - k + 4294967296) = ((dg a i + 4294967296 - k : Nat) : Int) := by rw [wu32]; omega
        rw [e6]
        exact step hi _ 0 _ 1 rfl (dg_out hib).symm (by omega) (by omega) (by omega)
      · have hn : ¬ ((dg a i : Nat) : Int) - k < 0 := by simpa using hn
        have e6 : IntKind.u32.wrap (((dg a i : Nat) : Int) - k) = ((dg a i - k : Nat) : Int) := by rw [wu32]; omega
        rw [e6]
        exact step hi _ 0 _ 0 rfl (dg_out hib).symm (by omega) (by omega) (by omega)
  · have hi : i = a.length := by have : a.length ≤ i := by simpa using hc
                                 omega
    subst hi
    refine outs ?_
    congr 1
    have hv : val o = val a - val b := by
      rw [low_all (Nat.le_refl _), low_all hab] at hinv
      exact borrow_end hk hinv (by rw [← hol]; exact val_lt hod) hle
    have := padD_val o hod
    rw [hv, hol] at this
    exact this
theorem radd_ok {x y : Int} (hx : Sz x) (hy : Sz y) : FnD prog 24 [eI x, eI y] (eI (x + y)) [] := by
  refine vc24_ok _ _ _ _ (R := Out _) ?_
  unfold vc24
  have ax := digs_lt x.natAbs
  have ay := digs_lt y.natAbs
  have cx := digs_canon x.natAbs
  have cy := digs_canon y.natAbs
  have vx := val_digs x.natAbs
  have vy := val_digs y.natAbs
  unfold Sz at hx hy
  refine ⟨fun h => ?_, fun h => ?_⟩
  · have h : (x < 0 ↔ y < 0) := by simpa using h
    have hsl := sumLen_le (dz x) (dz y)
    refine ⟨_, decide (x + y < 0), lim (dz (x + y)), rplus_ok ax ay (by omega) (by omega), made_z (padD_lt _ _) (by rw [padD_length]; simp only [dz] at hsl; omega) ?_, oute rfl⟩
    rw [val_padD _ _ (sumLen_fits ax ay), vx, vy]
    by_cases h1 : x < 0
    · rw [if_pos (by simpa using h1)]; omega
    · rw [if_neg (by simpa using h1)]; omega
  · have h : ¬ (x < 0 ↔ y < 0) := by simpa using h
    refine ⟨_, less_ok ax ay cx cy (by omega), fun hc => ?_, fun hc => ?_⟩
    · have hlt : x.natAbs < y.natAbs := by rw [vx, vy] at hc; simpa using hc
      have hle : val (dz x) ≤ val (dz y) := by rw [vx, vy]; omega
      refine ⟨_, decide (x + y < 0), lim (dz (x + y)), rminus_ok ay ax (by omega) (len_le_of_val ay cx hle) hle, made_z (padD_lt _ _) (by rw [padD_length]; omega) ?_, oute rfl⟩
      rw [val_padD _ _ (diff_fits ay _), vx, vy]
      by_cases h1 : y < 0
      · rw [if_pos (by simpa using h1)]; omega
      · rw [if_neg (by simpa using h1)]; omega
    · have hge : y.natAbs ≤ x.natAbs := by
        rw [vx, vy] at hc
        simpa using hc
      have hle : val (dz y) ≤ val (dz x) := by rw [vx, vy]; omega
      refine ⟨_, decide (x + y < 0), lim (dz (x + y)), rminus_ok ax ay (by omega) (len_le_of_val ax cy hle) hle, made_z (padD_lt _ _) (by rw [padD_length]; omega) ?_, oute rfl⟩
      rw [val_padD _ _ (diff_fits ax _), vx, vy]
      by_cases h1 : x < 0
      · rw [if_pos (by simpa using h1)]; omega
      · rw [if_neg (by simpa using h1)]; omega
end Go.AM
/- What the functions of package integer, and of its reference, answer: products. -/
namespace Go.AM
open Go.Proofs.Tryz
theorem val_set : ∀ {o : List Nat} {j : Nat} (x : Nat), j < o.length → val (o.set j x) + 4294967296 ^ j * dg o j = val o + 4294967296 ^ j * x
  | [], j, x, h => by simp at h
  | y :: o, 0, x, _ => by simp [val, dg]; omega
  | y :: o, j + 1, x, h => by
    have ih := val_set (o := o) (j := j) x (by simpa using h)
    have hd : dg (y :: o) (j + 1) = dg o j := by simp [dg]
    rw [List.set_cons_succ, hd]
    simp only [val, Nat.pow_succ]
    have e1 : 4294967296 ^ j * 4294967296 * dg o j = 4294967296 * (4294967296 ^ j * dg o j) := by rw [Nat.mul_comm (4294967296 ^ j), Nat.mul_assoc]
    have e2 : 4294967296 ^ j * 4294967296 * x = 4294967296 * (4294967296 ^ j * x) := by rw [Nat.mul_comm (4294967296 ^ j), Nat.mul_assoc]
    rw [e1, e2]; omega
theorem dg_set_ne {o : List Nat} {i j x : Nat} (h : i ≠ j) : dg (o.set i x) j = dg o j := by
  simp [dg, List.getElem?_set_ne h]
theorem val_rep0 : ∀ n, val (List.replicate n 0) = 0
  | 0 => rfl
  | n + 1 => by simp [List.replicate_succ, val, val_rep0 n]
theorem dg_rep0 (n j : Nat) : dg (List.replicate n 0) j = 0 := by
  unfold dg
  rw [List.getD_eq_getElem?_getD, List.getElem?_replicate]
  split <;> rfl
theorem dig_bound {x y d c : Nat} (hx : x < 4294967296) (hy : y < 4294967296) (hd : d < 4294967296) (hc : c < 4294967296) : x * y ≤ 18446744065119617025 ∧ (c + x * y + d) / 4294967296 < 4294967296 ∧ c + x * y + d < 18446744073709551616 := by
  have h : x * y ≤ 4294967295 * 4294967295 := Nat.mul_le_mul (by omega) (by omega)
  refine ⟨by omega, by omega, by omega⟩
theorem mul_step {p v v' c d s L X bl t x y : Nat} (hset : v' + p * d = v + p * (s % 4294967296)) (hs : s = c + x * y + d) (hinv : v + p * c = L + X * bl) (hp : p * (x * y) = X * t) :
    v' + p * 4294967296 * (s / 4294967296) = L + X * (bl + t) := by
  have h1 : p * (s % 4294967296) + p * 4294967296 * (s / 4294967296) = p * s := by rw [Nat.mul_assoc, ← Nat.mul_add, Nat.mod_add_div]
  have h2 : p * s = p * c + p * (x * y) + p * d := by subst hs; simp only [Nat.mul_add]
  rw [Nat.mul_add]
  omega
theorem mul_ok {x y : Int} (hx : Sz x) (hy : Sz y) : FnD prog 98 [eI x, eI y] (eI (x * y)) [] := by
  refine vc98_ok _ _ _ _ (R := Out _) ?_
  unfold vc98
  obtain ⟨a, hae⟩ : ∃ a, a = digs x.natAbs := ⟨_, rfl⟩
  obtain ⟨b, hbe⟩ : ∃ b, b = digs y.natAbs := ⟨_, rfl⟩
  have ha : ∀ z ∈ a, z < 4294967296 := hae ▸ digs_lt x.natAbs
  have hb : ∀ z ∈ b, z < 4294967296 := hbe ▸ digs_lt y.natAbs
  have va : val a = x.natAbs := hae ▸ val_digs _
  have vb' : val b = y.natAbs := hbe ▸ val_digs _
  have hla : a.length ≤ 1073741824 := hae ▸ hx
  have hlb : b.length ≤ 1073741824 := hbe ▸ hy
  rw [← hae, ← hbe]
  simp only [lim_length]
  have hw : IntKind.i64.wrap ((a.length : Int) + (b.length : Int)) = ((a.length + b.length : Nat) : Int) := by rw [w64 (by omega) (by omega)]; simp
  rw [hw]
  refine ⟨⟨by omega, by omega, by omega⟩, fun out t => ∃ (o : List Nat) (i : Nat), out = lim o ∧ t = (i : Int) ∧ o.length = a.length + b.length ∧ (∀ z ∈ o, z < 4294967296) ∧ i ≤ a.length ∧ (∀ j, i + b.length ≤ j → dg o j = 0) ∧ val o = low a i * val b,
    fun _ t => ((a.length : Int) - t).toNat, ⟨List.replicate (a.length + b.length) 0, 0, by rw [Int.toNat_natCast, lim_rep], rfl, by simp, fun z hz => by rw [List.eq_of_mem_replicate hz]; decide, by omega, fun j _ => dg_rep0 _ j, by simp [low_zero, val_rep0]⟩, ?_⟩
  rintro _ _ ⟨o, i, rfl, rfl, hol, hod, hia, hzero, hinv⟩
  refine ⟨fun hc => ?_, fun hc => ?_⟩
  · have hi : i < a.length := by simpa using hc
    have hxl := dg_lt ha i
    refine ⟨(dg a i : Nat), ⟨by omega, by omega⟩, by simpa using lim_getI (l := a) (i := (i : Int)) (by omega) (by omega),
      fun out t c => ∃ (o1 : List Nat) (k cc : Nat), out = lim o1 ∧ t = (k : Int) ∧ c = (cc : Int) ∧ o1.length = a.length + b.length ∧ (∀ z ∈ o1, z < 4294967296) ∧ k ≤ b.length ∧ cc < 4294967296 ∧ (∀ j, i + b.length ≤ j → dg o1 j = 0) ∧
        val o1 + 4294967296 ^ (i + k) * cc = low a i * val b + 4294967296 ^ i * dg a i * low b k,
      fun _ t _ => ((b.length : Int) - t).toNat, ⟨o, 0, 0, rfl, rfl, rfl, hol, hod, by omega, by omega, hzero, by simp [low_zero, hinv]⟩, ?_⟩
    rintro _ _ _ ⟨o1, k, cc, rfl, rfl, rfl, hol1, hod1, hkb, hcc, hz1, hinv1⟩
    have hik : IntKind.i64.wrap ((i : Int) + (k : Int)) = ((i + k : Nat) : Int) := by rw [w64 (by omega) (by omega)]; simp
    refine ⟨fun hd => ?_, fun hd => ?_⟩
    · have hk : k < b.length := by simpa using hd
      have hyl := dg_lt hb k
      have hdl := dg_lt hod1 (i + k)
      obtain ⟨g1, g2, g3⟩ := dig_bound hxl hyl hdl hcc
      refine ⟨(dg b k : Nat), ⟨by omega, by omega⟩, by simpa using lim_getI (l := b) (i := (k : Int)) (by omega) (by omega), (dg o1 (i + k) : Nat), ?_, ?_, by decide, ?_⟩
      · rw [hik, lim_length]; omega
      · have := lim_getI (l := o1) (i := ((i + k : Nat) : Int)) (by omega) (by omega)
        rw [hik]; rw [Int.toNat_natCast] at *; exact this
      · have e0 : ((dg a i : Nat) : Int) * ((dg b k : Nat) : Int) = ((dg a i * dg b k : Nat) : Int) := by simp
        have e : IntKind.u64.wrap ((cc : Int) + IntKind.u64.wrap (IntKind.u64.wrap (IntKind.u64.wrap ((dg a i : Nat) : Int) * IntKind.u64.wrap ((dg b k : Nat) : Int)) + IntKind.u64.wrap ((dg o1 (i + k) : Nat) : Int))) = ((cc + dg a i * dg b k + dg o1 (i + k) : Nat) : Int) := by
          rw [wu64 (n := ((dg a i : Nat) : Int)) (by omega) (by omega), wu64 (n := ((dg b k : Nat) : Int)) (by omega) (by omega), wu64 (n := ((dg o1 (i + k) : Nat) : Int)) (by omega) (by omega), e0]
          generalize dg a i * dg b k = q at *
          rw [wu64 (n := (q : Int)) (by omega) (by omega), wu64 (n := (q : Int) + _) (by omega) (by omega), wu64 (by omega) (by omega)]; omega
        have hk1 : IntKind.i64.wrap ((k : Int) + 1) = ((k + 1 : Nat) : Int) := by rw [w64 (by omega) (by omega)]; simp
        rw [e, hik, sh32, wu32, hk1]
        refine ⟨⟨o1.set (i + k) ((cc + dg a i * dg b k + dg o1 (i + k)) % 4294967296), k + 1, (cc + dg a i * dg b k + dg o1 (i + k)) / 4294967296, ?_, rfl, by omega, by simp [hol1], set_lt hod1 (Nat.mod_lt _ (by decide)), by omega, g2, fun j hj => ?_, ?_⟩, by show ((b.length : Int) - ((k + 1 : Nat) : Int)).toNat < ((b.length : Int) - (k : Int)).toNat; omega⟩
        · rw [Int.toNat_natCast, ← lim_set]; congr 2
        · rw [dg_set_ne (by omega)]; exact hz1 j hj
        · have hset := val_set (o := o1) (j := i + k) ((cc + dg a i * dg b k + dg o1 (i + k)) % 4294967296) (by omega)
          rw [show i + (k + 1) = i + k + 1 by omega, Nat.pow_succ (m := i + k), low_succ b]
          have hp : 4294967296 ^ (i + k) * (dg a i * dg b k) = 4294967296 ^ i * dg a i * (4294967296 ^ k * dg b k) := by
            rw [Nat.pow_add]; simp only [Nat.mul_assoc, Nat.mul_left_comm]
          exact mul_step hset rfl hinv1 hp
    · have hk : k = b.length := by have : b.length ≤ k := by simpa using hd
                                   omega
      subst hk
      have hi1 : IntKind.i64.wrap ((i : Int) + 1) = ((i + 1 : Nat) : Int) := by rw [w64 (by omega) (by omega)]; simp
      rw [hik, hi1]
      have hcc' : IntKind.u32.wrap (cc : Int) = (cc : Int) := by rw [wu32]; omega
      rw [hcc']
      refine ⟨by rw [lim_length]; omega, ⟨o1.set (i + b.length) cc, i + 1, by rw [Int.toNat_natCast, lim_set], rfl, by simp [hol1], set_lt hod1 hcc, by omega, fun j hj => by rw [dg_set_ne (by omega)]; exact hz1 j (by omega), ?_⟩, by show ((a.length : Int) - ((i + 1 : Nat) : Int)).toNat < ((a.length : Int) - (i : Int)).toNat; omega⟩
      have hset := val_set (o := o1) (j := i + b.length) cc (by omega)
      rw [hz1 (i + b.length) (Nat.le_refl _), Nat.mul_zero, Nat.add_zero] at hset
      rw [hset, hinv1, low_succ, low_all (Nat.le_refl _), Nat.add_mul]
  · have hi : i = a.length := by have : a.length ≤ i := by simpa using hc
                                 omega
    subst hi
    rw [low_all (Nat.le_refl _)] at hinv
    refine ⟨decide (x * y < 0), lim (dz (x * y)), norm_z hod (by omega) ?_, oute rfl⟩
    rw [hinv, va, vb', Int.natCast_mul]
    by_cases h1 : x < 0 <;> by_cases h2 : y < 0
    · rw [if_neg (by simp [h1, h2]), show ((x.natAbs : Nat) : Int) = -x by omega, show ((y.natAbs : Nat) : Int) = -y by omega, Int.neg_mul_neg]
    · rw [if_pos (by simp [h1, h2]), show ((x.natAbs : Nat) : Int) = -x by omega, show ((y.natAbs : Nat) : Int) = y by omega, Int.neg_mul, Int.neg_neg]
    · rw [if_pos (by simp [h1, h2]), show ((x.natAbs : Nat) : Int) = x by omega, show ((y.natAbs : Nat) : Int) = -y by omega, Int.mul_neg, Int.neg_neg]
    · rw [if_neg (by simp [h1, h2]), show ((x.natAbs : Nat) : Int) = x by omega, show ((y.natAbs : Nat) : Int) = y by omega]
end Go.AM
/- What the functions of package integer, and of its reference, answer: the reference's products, differences. -/
namespace Go.AM
open Go.Proofs.Tryz
theorem rmul_ok {x y : Int} (hx : Sz x) (hy : Sz y) : FnD prog 91 [eI x, eI y] (eI (x * y)) [] := by
  refine vc91_ok _ _ _ _ (R := Out _) ?_
  unfold vc91
  obtain ⟨a, hae⟩ : ∃ a, a = digs x.natAbs := ⟨_, rfl⟩
  obtain ⟨b, hbe⟩ : ∃ b, b = digs y.natAbs := ⟨_, rfl⟩
  have ha : ∀ z ∈ a, z < 4294967296 := hae ▸ digs_lt x.natAbs
  have hb : ∀ z ∈ b, z < 4294967296 := hbe ▸ digs_lt y.natAbs
  have va : val a = x.natAbs := hae ▸ val_digs _
  have vb' : val b = y.natAbs := hbe ▸ val_digs _
  have hla : a.length ≤ 1073741824 := hae ▸ hx
  have hlb : b.length ≤ 1073741824 := hbe ▸ hy
  rw [← hae, ← hbe]
  simp only [lim_length]
  have hw0 : IntKind.i64.wrap ((a.length : Int) + (b.length : Int)) = ((a.length + b.length : Nat) : Int) := by rw [w64 (by omega) (by omega)]; simp
  have hw : IntKind.i64.wrap (((a.length + b.length : Nat) : Int) + 1) = ((a.length + b.length + 1 : Nat) : Int) := by rw [w64 (by omega) (by omega)]; simp
  rw [hw0, hw]
  refine ⟨⟨by omega, by omega, by omega⟩, fun out t => ∃ (o : List Nat) (i : Nat), out = lim o ∧ t = (i : Int) ∧ o.length = a.length + b.length + 1 ∧ (∀ z ∈ o, z < 4294967296) ∧ i ≤ a.length ∧ (∀ j, i + b.length ≤ j → dg o j = 0) ∧ val o = low a i * val b,
    fun _ t => ((a.length : Int) - t).toNat, ⟨List.replicate (a.length + b.length + 1) 0, 0, by rw [Int.toNat_natCast, lim_rep], rfl, by simp, fun z hz => by rw [List.eq_of_mem_replicate hz]; decide, by omega, fun j _ => dg_rep0 _ j, by simp [low_zero, val_rep0]⟩, ?_⟩
  rintro _ _ ⟨o, i, rfl, rfl, hol, hod, hia, hzero, hinv⟩
  refine ⟨fun hc => ?_, fun hc => ?_⟩
  · have hi : i < a.length := by simpa using hc
    have hxl := dg_lt ha i
    refine ⟨fun out c t => ∃ (o1 : List Nat) (k cc : Nat), out = lim o1 ∧ t = (k : Int) ∧ c = (cc : Int) ∧ o1.length = a.length + b.length + 1 ∧ (∀ z ∈ o1, z < 4294967296) ∧ k ≤ b.length + 1 ∧ cc < 4294967296 ∧ (k = b.length + 1 → cc = 0) ∧ (∀ j, i + b.length + 1 ≤ j → dg o1 j = 0) ∧ (k ≤ b.length → dg o1 (i + b.length) = 0) ∧
        val o1 + 4294967296 ^ (i + k) * cc = low a i * val b + 4294967296 ^ i * dg a i * low b k,
      fun _ _ t => ((b.length : Int) + 2 - t).toNat, ⟨o, 0, 0, rfl, rfl, rfl, hol, hod, by omega, by omega, fun h => by omega, fun j hj => hzero j (by omega), fun _ => hzero _ (by omega), by simp [low_zero, hinv]⟩, ?_⟩
    rintro _ _ _ ⟨o1, k, cc, rfl, rfl, rfl, hol1, hod1, hkb, hcc, hlast, hz1, hz2, hinv1⟩
    have hik : IntKind.i64.wrap ((i : Int) + (k : Int)) = ((i + k : Nat) : Int) := by rw [w64 (by omega) (by omega)]; simp
    have hk1 : IntKind.i64.wrap ((k : Int) + 1) = ((k + 1 : Nat) : Int) := by rw [w64 (by omega) (by omega)]; simp
    have hi1 : IntKind.i64.wrap ((i : Int) + 1) = ((i + 1 : Nat) : Int) := by rw [w64 (by omega) (by omega)]; simp
    rw [hik, hk1, hi1]
    have step : k ≤ b.length → ∀ s : Nat, s = cc + dg a i * dg b k + dg o1 (i + k) → s / 4294967296 < 4294967296 → (k = b.length → s / 4294967296 = 0) →
        (∃ (o2 : List Nat) (k2 c2 : Nat), (lim o1).set ((i + k : Nat) : Int).toNat [D.int .u32 ((s % 4294967296 : Nat) : Int)] = lim o2 ∧ ((k + 1 : Nat) : Int) = (k2 : Int) ∧ ((s / 4294967296 : Nat) : Int) = (c2 : Int) ∧ o2.length = a.length + b.length + 1 ∧ (∀ z ∈ o2, z < 4294967296) ∧ k2 ≤ b.length + 1 ∧ c2 < 4294967296 ∧ (k2 = b.length + 1 → c2 = 0) ∧
          (∀ j, i + b.length + 1 ≤ j → dg o2 j = 0) ∧ (k2 ≤ b.length → dg o2 (i + b.length) = 0) ∧ val o2 + 4294967296 ^ (i + k2) * c2 = low a i * val b + 4294967296 ^ i * dg a i * low b k2) ∧
        ((b.length : Int) + 2 - ((k + 1 : Nat) : Int)).toNat < ((b.length : Int) + 2 - (k : Int)).toNat := fun hkl s hs hsb hsl => by
      refine ⟨⟨o1.set (i + k) (s % 4294967296), k + 1, s / 4294967296, by rw [Int.toNat_natCast, lim_set], rfl, rfl, by simp [hol1], set_lt hod1 (Nat.mod_lt _ (by decide)), by omega, hsb, fun h => hsl (by omega), fun j hj => by rw [dg_set_ne (by omega)]; exact hz1 j hj, fun h => by rw [dg_set_ne (by omega)]; exact hz2 hkl, ?_⟩, by omega⟩
      have hset := val_set (o := o1) (j := i + k) (s % 4294967296) (by omega)
      rw [show i + (k + 1) = i + k + 1 by omega, Nat.pow_succ (m := i + k), low_succ b]
      have hp : 4294967296 ^ (i + k) * (dg a i * dg b k) = 4294967296 ^ i * dg a i * (4294967296 ^ k * dg b k) := by
        rw [Nat.pow_add]; simp only [Nat.mul_assoc, Nat.mul_left_comm]
      exact mul_step hset hs hinv1 hp
    refine ⟨fun hd => ?_, fun hd => ⟨fun he => ?_, fun he => ?_⟩⟩
    · have hk : k < b.length := by simpa using hd
      have hyl := dg_lt hb k
      have hdl := dg_lt hod1 (i + k)
      obtain ⟨g1, g2, g3⟩ := dig_bound hxl hyl hdl hcc
      refine ⟨(dg o1 (i + k) : Nat), ?_, ?_, (dg a i : Nat), (dg b k : Nat), ⟨by omega, by omega⟩, by simpa using lim_getI (l := a) (i := (i : Int)) (by omega) (by omega), ⟨by omega, by omega⟩, by simpa using lim_getI (l := b) (i := (k : Int)) (by omega) (by omega), by decide, ?_⟩
      · rw [lim_length]; omega
      · have := lim_getI (l := o1) (i := ((i + k : Nat) : Int)) (by omega) (by omega)
        rw [Int.toNat_natCast] at *; exact this
      · have e0 : ((dg a i : Nat) : Int) * ((dg b k : Nat) : Int) = ((dg a i * dg b k : Nat) : Int) := by simp
        obtain ⟨s, hs⟩ : ∃ s, s = cc + dg a i * dg b k + dg o1 (i + k) := ⟨_, rfl⟩
        rw [← hs] at g2 g3
        have e : IntKind.u64.wrap (IntKind.u64.wrap ((cc : Int) + IntKind.u64.wrap ((dg o1 (i + k) : Nat) : Int)) + IntKind.u64.wrap (IntKind.u64.wrap ((dg a i : Nat) : Int) * IntKind.u64.wrap ((dg b k : Nat) : Int))) = (s : Int) := by
          rw [wu64 (n := ((dg a i : Nat) : Int)) (by omega) (by omega), wu64 (n := ((dg b k : Nat) : Int)) (by omega) (by omega), wu64 (n := ((dg o1 (i + k) : Nat) : Int)) (by omega) (by omega), e0]
          generalize dg a i * dg b k = q at *
          rw [wu64 (n := (cc : Int) + _) (by omega) (by omega), wu64 (n := (q : Int)) (by omega) (by omega), wu64 (by omega) (by omega)]; omega
        have e2 : IntKind.u64.wrap ((s : Int).tdiv 4294967296) = ((s / 4294967296 : Nat) : Int) := by rw [td32 (by omega), wu64 (by omega) (by omega)]; omega
        have e3 : IntKind.u32.wrap (s : Int) = ((s % 4294967296 : Nat) : Int) := by rw [wu32]; omega
        rw [e, e2, e3]
        exact step (by omega) s hs g2 (fun h => by omega)
    · have hk : b.length ≤ k := by simpa using hd
      have hc0 : 0 < cc := by simpa using he
      have hkeq : k = b.length := by
        rcases Nat.lt_or_ge b.length k with h | h
        · have := hlast (by omega); omega
        · omega
      have hd0 : dg o1 (i + k) = 0 := by rw [hkeq]; exact hz2 (by omega)
      refine ⟨0, ?_, ?_, by decide, ?_⟩
      · rw [lim_length]; omega
      · have := lim_getI (l := o1) (i := ((i + k : Nat) : Int)) (by omega) (by omega)
        rw [Int.toNat_natCast] at *; rw [hd0] at this; exact this
      · have e : IntKind.u64.wrap ((cc : Int) + IntKind.u64.wrap 0) = (cc : Int) := by
          rw [wu64 (n := 0) (by omega) (by omega), wu64 (by omega) (by omega)]; omega
        have e2 : IntKind.u64.wrap ((cc : Int).tdiv 4294967296) = ((cc / 4294967296 : Nat) : Int) := by rw [td32 (by omega), wu64 (by omega) (by omega)]; omega
        have e3 : IntKind.u32.wrap (cc : Int) = ((cc % 4294967296 : Nat) : Int) := by rw [wu32]; omega
        rw [e, e2, e3]
        exact step (by omega) cc (by rw [hd0, dg_out hk]; simp) (by omega) (fun _ => by omega)
    · have hk : b.length ≤ k := by simpa using hd
      have hc0 : cc = 0 := by have : ¬ (cc : Int) > 0 := by simpa using he
                              omega
      subst hc0
      refine ⟨⟨o1, i + 1, rfl, rfl, hol1, hod1, by omega, fun j hj => hz1 j (by omega), ?_⟩, by show ((a.length : Int) - ((i + 1 : Nat) : Int)).toNat < ((a.length : Int) - (i : Int)).toNat; omega⟩
      rw [Nat.mul_zero, Nat.add_zero, low_all hk] at hinv1
      rw [hinv1, low_succ, Nat.add_mul]
  · have hi : i = a.length := by have : a.length ≤ i := by simpa using hc
                                 omega
    subst hi
    rw [low_all (Nat.le_refl _)] at hinv
    refine ⟨decide (x * y < 0), lim (dz (x * y)), made_z hod (by omega) ?_, oute rfl⟩
    rw [hinv, va, vb', Int.natCast_mul]
    by_cases h1 : x < 0 <;> by_cases h2 : y < 0
    · rw [if_neg (by simp [h1, h2]), show ((x.natAbs : Nat) : Int) = -x by omega, show ((y.natAbs : Nat) : Int) = -y by omega, Int.neg_mul_neg]
    · rw [if_pos (by simp [h1, h2]), show ((x.natAbs : Nat) : Int) = -x by omega, show ((y.natAbs : Nat) : Int) = y by omega, Int.neg_mul, Int.neg_neg]
    · rw [if_pos (by simp [h1, h2]), show ((x.natAbs : Nat) : Int) = x by omega, show ((y.natAbs : Nat) : Int) = -y by omega, Int.mul_neg, Int.neg_neg]
    · rw [if_neg (by simp [h1, h2]), show ((x.natAbs : Nat) : Int) = x by omega, show ((y.natAbs : Nat) : Int) = y by omega]
theorem rvalid_ok (z : Int) (hz : Sz z) : FnD prog 101 [eI z] (vb true) [] := by
  refine vc101_ok _ _ (R := Out _) ?_
  unfold vc101
  simp only [lim_length]
  unfold Sz at hz
  refine ⟨fun h => outb ?_, fun h => ?_⟩
  · have h0 : (dz z).length = 0 := by have : ((dz z).length : Int) = 0 := by simpa using h
                                      omega
    have : z = 0 := by have := digs_nil.1 (List.length_eq_zero_iff.1 h0); omega
    subst this; rfl
  · have h0 : 0 < (dz z).length := by
      have : ¬ ((dz z).length : Int) = 0 := by simpa using h
      omega
    have hw : IntKind.i64.wrap (((dz z).length : Int) - 1) = (((dz z).length - 1 : Nat) : Int) := by
      simp only [dz] at *
      rw [w64 (by omega) (by omega)]; omega
    rw [hw]
    refine ⟨(dg (dz z) ((dz z).length - 1) : Nat), ⟨by omega, by simp only [dz] at h0 ⊢; omega⟩, ?_, outb ?_⟩
    · have := lim_getI (l := dz z) (i := (((dz z).length - 1 : Nat) : Int)) (by omega) (by simp only [dz] at h0 ⊢; omega)
      rw [Int.toNat_natCast] at *; exact this
    · have hc := digs_canon z.natAbs (dg (dz z) ((dz z).length - 1)) (by
        rw [List.getLast?_eq_getElem?, List.getElem?_eq_getElem (by simp only [dz] at h0; omega), dg_get (by simp only [dz] at h0; omega)])
      simp; exact hc
end Go.AM
/- What functions of the program come to: group Mat. Printed by vc.py. -/
set_option maxRecDepth 100000
set_option linter.unusedVariables false
namespace Go.AM
open Go.Proofs.Tryz
def vc106 (a0 a1 : Int) (a2 : DL) (R : V → Heap → Prop) : Prop :=
 R (vA [sD (dI a0), sD (dI a1)]) []
theorem vc106_ok (a0 a1 : Int) (a2 : DL) {R : V → Heap → Prop} (h : vc106 a0 a1 a2 R) : FnG prog 106 [vA [sD (dI a0), sD (dI a1), sD (dL a2)]] [] R :=
  FnG.vcg hT func106 ntmps106 (.reg 2 [(0, Or.none, 0, 1), (1, Or.none, 1, 1)] [1, 2] [0, 1] [] <| .r1 [2] [1] <| .ret [])
    (by kernel_rfl) (by kernel_rfl) (by kernel_rfl) h
def vc61 (rows cols : Int) (f : FuncId) (fc : List D) (R : V → Heap → Prop) : Prop :=
 (0 ≤ rows ∧ rows ≤ rows ∧ rows * (24 : Nat) ≤ 281474976710656) ∧
 (∃ (J0 : (DLL) → Int → Prop) (μ0 : (DLL) → Int → Nat),
 J0 (List.replicate (rows).toNat ([] : DL)) (0 : Int) ∧ ∀ (o2 : DLL) (t16 : Int), J0 o2 t16 →
 (decide (t16 < rows) = true →
 (0 ≤ cols ∧ cols ≤ cols ∧ cols * (32 : Nat) ≤ 281474976710656) ∧
 (0 ≤ t16 ∧ t16 < (o2.length : Int)) ∧
 (∃ (J1 : (DLL) → Int → Prop) (μ1 : (DLL) → Int → Nat),
 J1 (o2.set (t16).toNat (List.replicate (cols).toNat [dB false, dL ([] : DL)])) (0 : Int) ∧ ∀ (o21 : DLL) (t26 : Int), J1 o21 t26 →
 (decide (t26 < cols) = true →
 ∃ (r0 : Bool) (r1 : DL),
 (0 ≤ t16 ∧ t16 < (o21.length : Int)) ∧
 (FnD prog f ([vD (dI t16), vD (dI t26)] ++ fc.map dV) (vA [sD (dB r0), sD (dL r1)]) []) ∧
 (∃ l, o21[(t16).toNat]? = some l ∧ 0 ≤ t26 ∧ t26 < (l.length : Int)) ∧
 (J1 (o21.modify (t16).toNat (fun qz => qz.set (t26).toNat [dB r0, dL r1])) (IntKind.i64.wrap (t26 + (1 : Int))) ∧ μ1 (o21.modify (t16).toNat (fun qz => qz.set (t26).toNat [dB r0, dL r1])) (IntKind.i64.wrap (t26 + (1 : Int))) < μ1 o21 t26)) ∧
 (decide (t26 < cols) = false →
 J0 o21 (IntKind.i64.wrap (t16 + (1 : Int))) ∧ μ0 o21 (IntKind.i64.wrap (t16 + (1 : Int))) < μ0 o2 t16))) ∧
 (decide (t16 < rows) = false →
 R (vA [sD (dI rows), sD (dI cols), sD (dL (matD o2))]) []))
theorem vc61_ok (rows cols : Int) (f : FuncId) (fc : List D) {R : V → Heap → Prop} (h : vc61 rows cols f fc R) : FnG prog 61 [vD (dI rows), vD (dI cols), vD (D.fn (.func f) fc)] [] R :=
  FnG.vcg hT func61 ntmps61 (.reg 1 [(0, Or.none, 0, 1)] [0, 1, 2, 6] [0] [] <| .reg 2 [(3, Or.none, 1, 1), (5, Or.none, 2, 1)] [0, 1, 2, 6, 7] [0, 2, 1] [] <| .r1 [1, 2, 6, 7, 15, 16] [0, 1, 2] <| .lp [.m, .i] (fun o2 t16 => ⟨[(1, vD (dI cols)), (2, vD (D.fn (.func f) fc)), (6, vP 0 0), (7, vP 1 0), (15, vD (dI rows)), (16, vD (dI t16))], [some (Obj.box [sD (dI (0 : Int)), sD (dI (0 : Int)), sD (D.raw (.slice none 0 0))]), some (Obj.box [sD (dI rows), sD (dI cols), S.ref 2]), some (Obj.mat 2 o2)], 43⟩) [.m (List.replicate (rows).toNat ([] : DL)), .i (0 : Int)] <| .fm fun o2 => .fi fun t16 => .beg <| .r1 [1, 2, 6, 7, 15, 16, 17] [0, 1, 2] <| .c2 (.r1 [1, 2, 6, 7, 8, 15, 16] [0, 1, 2] <| .drw 2 [(4, (Or.none, 3, 1), [3]), (6, (Or.none, 4, 1), [2, 3, 4])] [1, 2, 6, 7, 8, 15, 16] [0, 1, 2, 4] [] <| .fwd [] [1] <| .viw [1, 2, 6, 7, 8, 15, 16] [0, 1, 3] <| .r1 [1, 2, 6, 7, 8, 15, 16, 25, 26] [0, 1, 2] <| .lp [.m, .i] (fun o21 t26 => ⟨[(1, vD (dI cols)), (2, vD (D.fn (.func f) fc)), (6, vP 0 0), (7, vP 1 0), (8, vD (dI t16)), (15, vD (dI rows)), (16, vD (dI t16)), (25, vD (dI cols)), (26, vD (dI t26))], [some (Obj.box [sD (dI (0 : Int)), sD (dI (0 : Int)), sD (D.raw (.slice none 0 0))]), some (Obj.box [sD (dI rows), sD (dI cols), S.ref 2]), some (Obj.mat 2 o21)], 43⟩) [.m (o2.set (t16).toNat (List.replicate (cols).toNat [dB false, dL ([] : DL)])), .i (0 : Int)] <| .fm fun o21 => .fi fun t26 => .beg <| .r1 [1, 2, 6, 7, 8, 15, 16, 25, 26, 27] [0, 1, 2] <| .c2 (.r1 [1, 2, 6, 7, 8, 9, 15, 16, 25, 26] [0, 1, 2] <| .exb fun r0 => .exl fun r1 => .drw 0 [(9, (Or.call (vA [sD (dB r0), sD (dL r1)]) [] [], 0, 0), []), (11, (Or.none, 0, 0), [2])] [1, 2, 6, 7, 8, 15, 16, 25, 26] [0, 1, 2] [] <| .r1 [1, 2, 6, 7, 8, 15, 16, 25, 26] [0, 1, 2] <| .bk 0 [.m (o21.modify (t16).toNat (fun qz => qz.set (t26).toNat [dB r0, dL r1])), .i (IntKind.i64.wrap (t26 + (1 : Int)))]) (.r1 [1, 2, 6, 7, 15, 16] [0, 1, 2] <| .bk 1 [.m o21, .i (IntKind.i64.wrap (t16 + (1 : Int)))])) (.r1 [6] [0, 2] <| .frz [1] <| .ret []))
    (by kernel_rfl) (by kernel_rfl) (by kernel_rfl) h
def vc122 (a b : DL) (out0 : Bool) (out1 : DL) (f : FuncId) (fc : List D) (R : V → Heap → Prop) : Prop :=
 ∃ (J0 : Bool → (DL) → Int → Prop) (μ0 : Bool → (DL) → Int → Nat),
 J0 out0 out1 (0 : Int) ∧ ∀ (out01 : Bool) (out11 : DL) (t12 : Int), J0 out01 out11 t12 →
 (decide (t12 < (a.length : Int)) = true →
 ∃ (x0 : Bool) (x1 : DL) (x01 : Bool) (x11 : DL) (r0 : Bool) (r1 : DL),
 (0 ≤ t12 ∧ t12 < (a.length : Int)) ∧
 (a[(t12).toNat]? = some [dB x0, dL x1]) ∧
 (0 ≤ t12 ∧ t12 < (b.length : Int)) ∧
 (b[(t12).toNat]? = some [dB x01, dL x11]) ∧
 (FnD prog f ([vA [sD (dB out01), sD (dL out11)], vA [sD (dB x0), sD (dL x1)], vA [sD (dB x01), sD (dL x11)]] ++ fc.map dV) (vA [sD (dB r0), sD (dL r1)]) []) ∧
 (J0 r0 r1 (IntKind.i64.wrap (t12 + (1 : Int))) ∧ μ0 r0 r1 (IntKind.i64.wrap (t12 + (1 : Int))) < μ0 out01 out11 t12)) ∧
 (decide (t12 < (a.length : Int)) = false →
 R (vA [sD (dB out01), sD (dL out11)]) [])
theorem vc122_ok (a b : DL) (out0 : Bool) (out1 : DL) (f : FuncId) (fc : List D) {R : V → Heap → Prop} (h : vc122 a b out0 out1 f fc R) : FnG prog 122 [vD (dL a), vD (dL b), vA [sD (dB out0), sD (dL out1)], vD (D.fn (.func f) fc)] [] R :=
  FnG.vcg hT func122 ntmps122 (.reg 2 [(0, Or.none, 0, 1), (1, Or.none, 1, 1)] [0, 1, 3, 6, 8] [0, 1] [] <| .r1 [0, 1, 3, 6, 8, 11, 12] [0, 1] <| .lp [.b, .l, .i] (fun out01 out11 t12 => ⟨[(0, vD (dL a)), (1, vD (dL b)), (3, vD (D.fn (.func f) fc)), (6, vP 0 0), (8, vP 1 0), (11, vD (dI (a.length : Int))), (12, vD (dI t12))], [some (Obj.box [sD (dB out01), sD (dL out11)]), some (Obj.box [sD (dB false), sD (D.raw (.slice none 0 0))])], 28⟩) [.b out0, .l out1, .i (0 : Int)] <| .fb fun out01 => .fl fun out11 => .fi fun t12 => .beg <| .r1 [0, 1, 3, 6, 8, 11, 12, 13] [0, 1] <| .c2 (.r1 [0, 1, 3, 6, 8, 9, 11, 12] [0, 1] <| .exb fun x0 => .exl fun x1 => .exb fun x01 => .exl fun x11 => .exb fun r0 => .exl fun r1 => .drw 0 [(5, (Or.cells [dB x0, dL x1], 0, 0), []), (9, (Or.cells [dB x01, dL x11], 0, 0), []), (10, (Or.call (vA [sD (dB r0), sD (dL r1)]) [] [], 0, 0), []), (11, (Or.none, 0, 0), [0])] [0, 1, 3, 6, 8, 11, 12] [0, 1] [] <| .r1 [0, 1, 3, 6, 8, 11, 12] [0, 1] <| .bk 0 [.b r0, .l r1, .i (IntKind.i64.wrap (t12 + (1 : Int)))]) (.r1 [8] [1] <| .ret []))
    (by kernel_rfl) (by kernel_rfl) (by kernel_rfl) h
def vc123 (sum0 : Bool) (sum1 : DL) (x0 : Bool) (x1 : DL) (y0 : Bool) (y1 : DL) (R : V → Heap → Prop) : Prop :=
 ∃ (r : Int),
 (FnD prog 83 [vA [sD (dB x0), sD (dL x1)]] (vD (dI r)) []) ∧
 (((r == (0 : Int)) = true →
 R (vA [sD (dB sum0), sD (dL sum1)]) []) ∧
 ((r == (0 : Int)) = false →
 ∃ (r1 : Int),
 (FnD prog 83 [vA [sD (dB y0), sD (dL y1)]] (vD (dI r1)) []) ∧
 (((r1 == (0 : Int)) = true →
 R (vA [sD (dB sum0), sD (dL sum1)]) []) ∧
 ((r1 == (0 : Int)) = false →
 ∃ (r0 : Bool) (r11 : DL) (r01 : Bool) (r12 : DL),
 (FnD prog 98 [vA [sD (dB x0), sD (dL x1)], vA [sD (dB y0), sD (dL y1)]] (vA [sD (dB r0), sD (dL r11)]) []) ∧
 (FnD prog 99 [vA [sD (dB sum0), sD (dL sum1)], vA [sD (dB r0), sD (dL r11)]] (vA [sD (dB r01), sD (dL r12)]) []) ∧
 (R (vA [sD (dB r01), sD (dL r12)]) [])))))
theorem vc123_ok (sum0 : Bool) (sum1 : DL) (x0 : Bool) (x1 : DL) (y0 : Bool) (y1 : DL) {R : V → Heap → Prop} (h : vc123 sum0 sum1 x0 x1 y0 y1 R) : FnG prog 123 [vA [sD (dB sum0), sD (dL sum1)], vA [sD (dB x0), sD (dL x1)], vA [sD (dB y0), sD (dL y1)]] [] R :=
  FnG.vcg hT func123 ntmps123 (.reg 4 [(0, Or.none, 0, 1), (1, Or.none, 1, 1), (2, Or.none, 2, 1), (3, Or.none, 3, 1)] [3, 4, 5, 6] [0, 1, 2, 3] [] <| .ex fun r => .ob (FnD prog 83 [vA [sD (dB x0), sD (dL x1)]] (vD (dI r)) []) <| .spl ((r == (0 : Int))) (.reg 0 [(1, Or.call (vD (dI r)) [] [], 0, 0), (3, Or.bool true, 0, 0)] [3, 4, 5, 6, 14] [0, 1, 2, 3] [.old 1, .old 0] <| .ct true none <| .r1 [6] [3] <| .ret []) (.ex fun r1 => .reg 0 [(1, Or.call (vD (dI r)) [] [], 0, 0), (3, Or.bool false, 0, 0), (5, Or.call (vD (dI r1)) [] [], 0, 0)] [3, 4, 5, 6, 14] [0, 1, 2, 3] [.old 1, .old 0] <| .c2 (.r1 [6] [3] <| .ret []) (.exb fun r0 => .exl fun r11 => .exb fun r01 => .exl fun r12 => .drw 0 [(3, (Or.call (vA [sD (dB r0), sD (dL r11)]) [] [], 0, 0), []), (4, (Or.call (vA [sD (dB r01), sD (dL r12)]) [] [], 0, 0), []), (5, (Or.none, 0, 0), [3])] [6] [3] [] <| .ret [])))
    (by kernel_rfl) (by kernel_rfl) (by kernel_rfl) h
def vc105 (a b : DL) (R : V → Heap → Prop) : Prop :=
 ∃ (r0 : Bool) (r1 : DL),
 (FnD prog 122 [vD (dL a), vD (dL b), vA [sD (dB false), sD (dL ([] : DL))], vD (D.fn (.func 123) ([] : List D))] (vA [sD (dB r0), sD (dL r1)]) []) ∧
 (R (vA [sD (dB r0), sD (dL r1)]) [])
theorem vc105_ok (a b : DL) {R : V → Heap → Prop} (h : vc105 a b R) : FnG prog 105 [vD (dL a), vD (dL b)] [] R :=
  FnG.vcg hT func105 ntmps105 (.reg 1 [(0, Or.none, 0, 1)] [0, 1, 4] [0] [] <| .exb fun r0 => .exl fun r1 => .reg 0 [(3, Or.call (vA [sD (dB r0), sD (dL r1)]) [] [], 0, 0)] [4] [0] [] <| .ret [])
    (by kernel_rfl) (by kernel_rfl) (by kernel_rfl) h
def vc104 (i j : Int) (c00 c01 : Int) (c02 : DL) (c10 c11 : Int) (c12 : DL) (R : V → Heap → Prop) : Prop :=
 ∃ (vx vx1 : DL) (r0 : Bool) (r1 : DL),
 (0 ≤ i ∧ i < (c02.length : Int)) ∧
 (c02[(i).toNat]? = some [dL vx]) ∧
 (0 ≤ j ∧ j < (c12.length : Int)) ∧
 (c12[(j).toNat]? = some [dL vx1]) ∧
 (FnD prog 105 [vD (dL vx), vD (dL vx1)] (vA [sD (dB r0), sD (dL r1)]) []) ∧
 (R (vA [sD (dB r0), sD (dL r1)]) [])
theorem vc104_ok (i j : Int) (c00 c01 : Int) (c02 : DL) (c10 c11 : Int) (c12 : DL) {R : V → Heap → Prop} (h : vc104 i j c00 c01 c02 c10 c11 c12 R) : FnG prog 104 [vD (dI i), vD (dI j), vD (D.box [dI c00, dI c01, dL c02]), vD (D.box [dI c10, dI c11, dL c12])] [] R :=
  FnG.vcg hT func104 ntmps104 (.reg 1 [(0, Or.none, 0, 1)] [0, 1, 2, 3, 6] [0] [] <| .exl fun vx => .exl fun vx1 => .exb fun r0 => .exl fun r1 => .drw 0 [(4, (Or.cells [dL vx], 0, 0), []), (9, (Or.cells [dL vx1], 0, 0), []), (10, (Or.call (vA [sD (dB r0), sD (dL r1)]) [] [], 0, 0), []), (11, (Or.none, 0, 0), [0])] [6] [0] [] <| .ret [])
    (by kernel_rfl) (by kernel_rfl) (by kernel_rfl) h
def vc79 (a0 a1 : Int) (a2 : DL) (b0 b1 : Int) (b2 : DL) (R : V → Heap → Prop) : Prop :=
 ((a1 != b0) = true →
 R (V.tup [E.agg [sD (dI (0 : Int)), sD (dI (0 : Int)), sD (dL ([] : DL))], eD (dI (50 : Int))]) []) ∧
 ((a1 != b0) = false →
 ∃ (r0 r1 : Int) (r2 : DL),
 (FnD prog 103 [vA [sD (dI b0), sD (dI b1), sD (dL b2)]] (vA [sD (dI r0), sD (dI r1), sD (dL r2)]) []) ∧
 (∃ (r01 r11 : Int) (r21 : DL),
 (FnD prog 61 [vD (dI a0), vD (dI b1), vD (D.fn (.func 104) [D.box [dI a0, dI a1, dL a2], D.box [dI r0, dI r1, dL r2]])] (vA [sD (dI r01), sD (dI r11), sD (dL r21)]) []) ∧
 (R (V.tup [E.agg [sD (dI r01), sD (dI r11), sD (dL r21)], eD (dI (0 : Int))]) [])))
theorem vc79_ok (a0 a1 : Int) (a2 : DL) (b0 b1 : Int) (b2 : DL) {R : V → Heap → Prop} (h : vc79 a0 a1 a2 b0 b1 b2 R) : FnG prog 79 [vA [sD (dI a0), sD (dI a1), sD (dL a2)], vA [sD (dI b0), sD (dI b1), sD (dL b2)]] [] R :=
  FnG.vcg hT func79 ntmps79 (.reg 3 [(0, Or.none, 0, 1), (1, Or.none, 1, 1), (2, Or.none, 2, 1)] [2, 3, 4] [0, 1, 2] [] <| .r1 [2, 3, 4, 11] [0, 1, 2] <| .c2 (.r1 [4, 5] [2] <| .nrm [4, 5] [0] <| .ret []) (.ex fun r0 => .ex fun r1 => .exl fun r2 => .reg 1 [(1, Or.call (vA [sD (dI r0), sD (dI r1), sD (dL r2)]) [] [], 0, 0), (2, Or.none, 3, 1)] [2, 3, 4, 6] [0, 1, 2, 3] [] <| .frz [0, 3] <| .ex fun r01 => .ex fun r11 => .exl fun r21 => .reg 0 [(5, Or.call (vA [sD (dI r01), sD (dI r11), sD (dL r21)]) [] [], 0, 0)] [4, 5] [2] [] <| .ret []))
    (by kernel_rfl) (by kernel_rfl) (by kernel_rfl) h
def vc121 (i j : Int) (c00 c01 : Int) (c02 : DL) (R : V → Heap → Prop) : Prop :=
 ∃ (vx : DL) (x0 : Bool) (x1 : DL),
 (0 ≤ j ∧ j < (c02.length : Int)) ∧
 (c02[(j).toNat]? = some [dL vx]) ∧
 (0 ≤ i ∧ i < (vx.length : Int)) ∧
 (vx[(i).toNat]? = some [dB x0, dL x1]) ∧
 (R (vA [sD (dB x0), sD (dL x1)]) [])
theorem vc121_ok (i j : Int) (c00 c01 : Int) (c02 : DL) {R : V → Heap → Prop} (h : vc121 i j c00 c01 c02 R) : FnG prog 121 [vD (dI i), vD (dI j), vD (D.box [dI c00, dI c01, dL c02])] [] R :=
  FnG.vcg hT func121 ntmps121 (.reg 1 [(0, Or.none, 0, 1)] [0, 1, 2, 5] [0] [] <| .exl fun vx => .exb fun x0 => .exl fun x1 => .reg 0 [(4, Or.cells [dL vx], 0, 0), (7, Or.cells [dB x0, dL x1], 0, 0)] [5] [0] [] <| .ret [])
    (by kernel_rfl) (by kernel_rfl) (by kernel_rfl) h
def vc103 (a0 a1 : Int) (a2 : DL) (R : V → Heap → Prop) : Prop :=
 ∃ (r0 r1 : Int) (r2 : DL),
 (FnD prog 61 [vD (dI a1), vD (dI a0), vD (D.fn (.func 121) [D.box [dI a0, dI a1, dL a2]])] (vA [sD (dI r0), sD (dI r1), sD (dL r2)]) []) ∧
 (R (vA [sD (dI r0), sD (dI r1), sD (dL r2)]) [])
theorem vc103_ok (a0 a1 : Int) (a2 : DL) {R : V → Heap → Prop} (h : vc103 a0 a1 a2 R) : FnG prog 103 [vA [sD (dI a0), sD (dI a1), sD (dL a2)]] [] R :=
  FnG.vcg hT func103 ntmps103 (.reg 2 [(0, Or.none, 0, 1), (1, Or.none, 1, 1)] [1, 2] [0, 1] [] <| .frz [0] <| .ex fun r0 => .ex fun r1 => .exl fun r2 => .reg 0 [(5, Or.call (vA [sD (dI r0), sD (dI r1), sD (dL r2)]) [] [], 0, 0)] [2] [1] [] <| .ret [])
    (by kernel_rfl) (by kernel_rfl) (by kernel_rfl) h
def vc62 (i j : Int) (R : V → Heap → Prop) : Prop :=
 ((i == j) = true →
 ∃ (r0 : Bool) (r1 : DL),
 (FnD prog 63 [vD (dI (1 : Int))] (vA [sD (dB r0), sD (dL r1)]) []) ∧
 (R (vA [sD (dB r0), sD (dL r1)]) [])) ∧
 ((i == j) = false →
 R (vA [sD (dB false), sD (dL ([] : DL))]) [])
theorem vc62_ok (i j : Int) {R : V → Heap → Prop} (h : vc62 i j R) : FnG prog 62 [vD (dI i), vD (dI j)] [] R :=
  FnG.vcg hT func62 ntmps62 (.reg 1 [(0, Or.none, 0, 1)] [0, 1, 4] [0] [] <| .r1 [4, 7] [0] <| .c2 (.exb fun r0 => .exl fun r1 => .reg 0 [(0, Or.call (vA [sD (dB r0), sD (dL r1)]) [] [], 0, 0)] [4] [0] [] <| .ret []) (.r1 [4] [0] <| .nrm [4] [0] <| .ret []))
    (by kernel_rfl) (by kernel_rfl) (by kernel_rfl) h
def vc28 (n : Int) (R : V → Heap → Prop) : Prop :=
 ∃ (r0 r1 : Int) (r2 : DL),
 (FnD prog 61 [vD (dI n), vD (dI n), vD (D.fn (.func 62) ([] : List D))] (vA [sD (dI r0), sD (dI r1), sD (dL r2)]) []) ∧
 (R (vA [sD (dI r0), sD (dI r1), sD (dL r2)]) [])
theorem vc28_ok (n : Int) {R : V → Heap → Prop} (h : vc28 n R) : FnG prog 28 [vD (dI n)] [] R :=
  FnG.vcg hT func28 ntmps28 (.reg 1 [(0, Or.none, 0, 1)] [0, 2] [0] [] <| .ex fun r0 => .ex fun r1 => .exl fun r2 => .reg 0 [(2, Or.call (vA [sD (dI r0), sD (dI r1), sD (dL r2)]) [] [], 0, 0)] [2] [0] [] <| .ret [])
    (by kernel_rfl) (by kernel_rfl) (by kernel_rfl) h
def vc76 (s : DL) (f : FuncId) (fc : List D) (R : V → Heap → Prop) : Prop :=
 ∃ (r : Int),
 (FnD prog 102 [vD (dL s), vD (D.fn (.func f) fc)] (vD (dI r)) []) ∧
 (R (vD (dB (decide (r ≥ (0 : Int))))) [])
theorem vc76_ok (s : DL) (f : FuncId) (fc : List D) {R : V → Heap → Prop} (h : vc76 s f fc R) : FnG prog 76 [vD (dL s), vD (D.fn (.func f) fc)] [] R :=
  FnG.vcg hT func76 ntmps76 (.r0 [0, 1] <| .ex fun r => .reg 0 [(2, Or.call (vD (dI r)) [] [], 0, 0)] [4] [] [] <| .ret [])
    (by kernel_rfl) (by kernel_rfl) (by kernel_rfl) h
def vc102 (s : DL) (f : FuncId) (fc : List D) (R : V → Heap → Prop) : Prop :=
 ∃ (J0 : Int → Prop) (μ0 : Int → Nat),
 J0 (0 : Int) ∧ ∀ (t8 : Int), J0 t8 →
 (decide (t8 < (s.length : Int)) = true →
 ∃ (x0 : Bool) (x1 : DL) (r : Bool),
 (0 ≤ t8 ∧ t8 < (s.length : Int)) ∧
 (s[(t8).toNat]? = some [dB x0, dL x1]) ∧
 (FnD prog f ([vA [sD (dB x0), sD (dL x1)]] ++ fc.map dV) (vD (dB r)) []) ∧
 ((r = true →
 R (vD (dI t8)) []) ∧
 (r = false →
 J0 (IntKind.i64.wrap (t8 + (1 : Int))) ∧ μ0 (IntKind.i64.wrap (t8 + (1 : Int))) < μ0 t8))) ∧
 (decide (t8 < (s.length : Int)) = false →
 R (vD (dI (-1 : Int))) [])
theorem vc102_ok (s : DL) (f : FuncId) (fc : List D) {R : V → Heap → Prop} (h : vc102 s f fc R) : FnG prog 102 [vD (dL s), vD (D.fn (.func f) fc)] [] R :=
  FnG.vcg hT func102 ntmps102 (.r0 [0, 1] <| .r0 [0, 1, 7, 8] <| .lp [.i] (fun t8 => ⟨[(0, vD (dL s)), (1, vD (D.fn (.func f) fc)), (7, vD (dI (s.length : Int))), (8, vD (dI t8))], [], 19⟩) [.i (0 : Int)] <| .fi fun t8 => .beg <| .r0 [0, 1, 7, 8, 9] <| .c2 (.r0 [0, 1, 5, 7, 8] <| .exb fun x0 => .exl fun x1 => .exb fun r => .reg 0 [(4, Or.cells [dB x0, dL x1], 0, 0), (5, Or.call (vD (dB r)) [] [], 0, 0)] [0, 1, 5, 7, 8, 16] [] [] <| .c2 (.r0 [4] <| .ret []) (.r0 [0, 1, 7, 8] <| .bk 0 [.i (IntKind.i64.wrap (t8 + (1 : Int)))])) (.r0 [4] <| .ret []))
    (by kernel_rfl) (by kernel_rfl) (by kernel_rfl) h
def vc77 (x0 : Bool) (x1 : DL) (R : V → Heap → Prop) : Prop :=
 ∃ (r : Bool),
 (FnD prog 78 [vA [sD (dB x0), sD (dL x1)]] (vD (dB r)) []) ∧
 (R (vD (dB (!r))) [])
theorem vc77_ok (x0 : Bool) (x1 : DL) {R : V → Heap → Prop} (h : vc77 x0 x1 R) : FnG prog 77 [vA [sD (dB x0), sD (dL x1)]] [] R :=
  FnG.vcg hT func77 ntmps77 (.reg 1 [(0, Or.none, 0, 1)] [1] [0] [] <| .exb fun r => .reg 0 [(1, Or.call (vD (dB r)) [] [], 0, 0)] [2] [] [] <| .ret [])
    (by kernel_rfl) (by kernel_rfl) (by kernel_rfl) h
def vc78 (a0 : Bool) (a1 : DL) (R : V → Heap → Prop) : Prop :=
 (((a1.length : Int) == (0 : Int)) = true →
 ((!a0) = true →
 R (vD (dB true)) []) ∧
 ((!a0) = false →
 (decide ((a1.length : Int) > (0 : Int)) = true →
 ∃ (vx : Int),
 (0 ≤ (IntKind.i64.wrap ((a1.length : Int) - (1 : Int))) ∧ (IntKind.i64.wrap ((a1.length : Int) - (1 : Int))) < (a1.length : Int)) ∧
 (a1[((IntKind.i64.wrap ((a1.length : Int) - (1 : Int)))).toNat]? = some [dU vx]) ∧
 (R (vD (dB (vx != (0 : Int)))) [])) ∧
 (decide ((a1.length : Int) > (0 : Int)) = false →
 R (vD (dB false)) []))) ∧
 (((a1.length : Int) == (0 : Int)) = false →
 (decide ((a1.length : Int) > (0 : Int)) = true →
 ∃ (vx1 : Int),
 (0 ≤ (IntKind.i64.wrap ((a1.length : Int) - (1 : Int))) ∧ (IntKind.i64.wrap ((a1.length : Int) - (1 : Int))) < (a1.length : Int)) ∧
 (a1[((IntKind.i64.wrap ((a1.length : Int) - (1 : Int)))).toNat]? = some [dU vx1]) ∧
 (R (vD (dB (vx1 != (0 : Int)))) [])) ∧
 (decide ((a1.length : Int) > (0 : Int)) = false →
 R (vD (dB false)) []))
theorem vc78_ok (a0 : Bool) (a1 : DL) {R : V → Heap → Prop} (h : vc78 a0 a1 R) : FnG prog 78 [vA [sD (dB a0), sD (dL a1)]] [] R :=
  FnG.vcg hT func78 ntmps78 (.reg 1 [(0, Or.none, 0, 1)] [1] [0] [] <| .r1 [1, 3] [0] <| .spl (((a1.length : Int) == (0 : Int))) (.spl ((!a0)) (.reg 0 [(2, Or.bool true, 0, 0), (7, Or.bool true, 0, 0)] [2] [] [.old 1, .old 0] <| .ret []) (.spl ((decide ((a1.length : Int) > (0 : Int)))) (.ex fun vx => .reg 0 [(2, Or.bool true, 0, 0), (7, Or.bool false, 0, 0), (10, Or.bool true, 0, 0), (16, Or.cells [dU vx], 0, 0)] [2] [] [.old 2, .old 1, .old 0] <| .ret []) (.reg 0 [(2, Or.bool true, 0, 0), (7, Or.bool false, 0, 0), (10, Or.bool false, 0, 0)] [2] [] [.old 2, .old 1, .old 0] <| .ret []))) (.spl ((decide ((a1.length : Int) > (0 : Int)))) (.ex fun vx1 => .reg 0 [(2, Or.bool false, 0, 0), (10, Or.bool true, 0, 0), (16, Or.cells [dU vx1], 0, 0)] [2] [] [.old 1, .old 0] <| .ret []) (.reg 0 [(2, Or.bool false, 0, 0), (10, Or.bool false, 0, 0)] [2] [] [.old 1, .old 0] <| .ret [])))
    (by kernel_rfl) (by kernel_rfl) (by kernel_rfl) h
def vc43 (a0 a1 : Int) (a2 : DL) (R : V → Heap → Prop) : Prop :=
 (decide (a0 < (0 : Int)) = true →
 R (vD (dB false)) []) ∧
 (decide (a0 < (0 : Int)) = false →
 (decide (a1 < (0 : Int)) = true →
 R (vD (dB false)) []) ∧
 (decide (a1 < (0 : Int)) = false →
 (((a2.length : Int) != a0) = true →
 R (vD (dB false)) []) ∧
 (((a2.length : Int) != a0) = false →
 ∃ (J0 : Int → Prop) (μ0 : Int → Nat),
 J0 (0 : Int) ∧ ∀ (t24 : Int), J0 t24 →
 (decide (t24 < (a2.length : Int)) = true →
 ∃ (vx : DL),
 (0 ≤ t24 ∧ t24 < (a2.length : Int)) ∧
 (a2[(t24).toNat]? = some [dL vx]) ∧
 ((((vx.length : Int) != a1) = true →
 R (vD (dB false)) []) ∧
 (((vx.length : Int) != a1) = false →
 ∃ (r : Bool),
 (FnD prog 76 [vD (dL vx), vD (D.fn (.func 77) ([] : List D))] (vD (dB r)) []) ∧
 ((r = true →
 R (vD (dB false)) []) ∧
 (r = false →
 J0 (IntKind.i64.wrap (t24 + (1 : Int))) ∧ μ0 (IntKind.i64.wrap (t24 + (1 : Int))) < μ0 t24))))) ∧
 (decide (t24 < (a2.length : Int)) = false →
 R (vD (dB true)) []))))
theorem vc43_ok (a0 a1 : Int) (a2 : DL) {R : V → Heap → Prop} (h : vc43 a0 a1 a2 R) : FnG prog 43 [vA [sD (dI a0), sD (dI a1), sD (dL a2)]] [] R :=
  FnG.vcg hT func43 ntmps43 (.reg 1 [(0, Or.none, 0, 1)] [1] [0] [] <| .spl ((decide (a0 < (0 : Int)))) (.reg 0 [(3, Or.bool true, 0, 0)] [1, 20] [0] [.old 0] <| .ct true none <| .r0 [2] <| .ret []) (.spl ((decide (a1 < (0 : Int)))) (.reg 0 [(3, Or.bool false, 0, 0), (8, Or.bool true, 0, 0)] [1, 20] [0] [.old 1, .old 0] <| .ct true none <| .r0 [2] <| .ret []) (.reg 0 [(3, Or.bool false, 0, 0), (8, Or.bool false, 0, 0)] [1, 20] [0] [.old 1, .old 0] <| .c2 (.r0 [2] <| .ret []) (.r1 [1, 22, 23, 24] [0] <| .lp [.i] (fun t24 => ⟨[(1, vP 0 0), (22, vD (dL a2)), (23, vD (dI (a2.length : Int))), (24, vD (dI t24))], [some (Obj.box [sD (dI a0), sD (dI a1), sD (dL a2)])], 38⟩) [.i (0 : Int)] <| .fi fun t24 => .beg <| .r1 [1, 22, 23, 24, 25] [0] <| .c2 (.exl fun vx => .reg 0 [(1, Or.cells [dL vx], 0, 0)] [1, 4, 22, 23, 24] [0] [] <| .spl (((vx.length : Int) != a1)) (.reg 0 [(5, Or.bool true, 0, 0)] [1, 22, 23, 24, 36] [0] [.old 0] <| .ct true none <| .r0 [2] <| .ret []) (.exb fun r => .reg 0 [(5, Or.bool false, 0, 0), (7, Or.call (vD (dB r)) [] [], 0, 0)] [1, 22, 23, 24, 36] [0] [.old 0] <| .c2 (.r0 [2] <| .ret []) (.r1 [1, 22, 23, 24] [0] <| .bk 0 [.i (IntKind.i64.wrap (t24 + (1 : Int)))]))) (.r0 [2] <| .ret [])))))
    (by kernel_rfl) (by kernel_rfl) (by kernel_rfl) h
def vc81 (s : DL) (f : FuncId) (fc : List D) (R : V → Heap → Prop) : Prop :=
 ∃ (r : Int),
 (FnD prog 111 [vD (dL s), vD (D.fn (.func f) fc)] (vD (dI r)) []) ∧
 (R (vD (dB (decide (r ≥ (0 : Int))))) [])
theorem vc81_ok (s : DL) (f : FuncId) (fc : List D) {R : V → Heap → Prop} (h : vc81 s f fc R) : FnG prog 81 [vD (dL s), vD (D.fn (.func f) fc)] [] R :=
  FnG.vcg hT func81 ntmps81 (.r0 [0, 1] <| .ex fun r => .reg 0 [(2, Or.call (vD (dI r)) [] [], 0, 0)] [4] [] [] <| .ret [])
    (by kernel_rfl) (by kernel_rfl) (by kernel_rfl) h
def vc111 (s : DL) (f : FuncId) (fc : List D) (R : V → Heap → Prop) : Prop :=
 ∃ (J0 : Int → Prop) (μ0 : Int → Nat),
 J0 (0 : Int) ∧ ∀ (t8 : Int), J0 t8 →
 (decide (t8 < (s.length : Int)) = true →
 ∃ (x0 : Bool) (x1 : DL) (r : Bool),
 (0 ≤ t8 ∧ t8 < (s.length : Int)) ∧
 (s[(t8).toNat]? = some [dB x0, dL x1]) ∧
 (FnD prog f ([vA [sD (dB x0), sD (dL x1)]] ++ fc.map dV) (vD (dB r)) []) ∧
 ((r = true →
 R (vD (dI t8)) []) ∧
 (r = false →
 J0 (IntKind.i64.wrap (t8 + (1 : Int))) ∧ μ0 (IntKind.i64.wrap (t8 + (1 : Int))) < μ0 t8))) ∧
 (decide (t8 < (s.length : Int)) = false →
 R (vD (dI (-1 : Int))) [])
theorem vc111_ok (s : DL) (f : FuncId) (fc : List D) {R : V → Heap → Prop} (h : vc111 s f fc R) : FnG prog 111 [vD (dL s), vD (D.fn (.func f) fc)] [] R :=
  FnG.vcg hT func111 ntmps111 (.r0 [0, 1] <| .r0 [0, 1, 7, 8] <| .lp [.i] (fun t8 => ⟨[(0, vD (dL s)), (1, vD (D.fn (.func f) fc)), (7, vD (dI (s.length : Int))), (8, vD (dI t8))], [], 19⟩) [.i (0 : Int)] <| .fi fun t8 => .beg <| .r0 [0, 1, 7, 8, 9] <| .c2 (.r0 [0, 1, 5, 7, 8] <| .exb fun x0 => .exl fun x1 => .exb fun r => .reg 0 [(4, Or.cells [dB x0, dL x1], 0, 0), (5, Or.call (vD (dB r)) [] [], 0, 0)] [0, 1, 5, 7, 8, 16] [] [] <| .c2 (.r0 [4] <| .ret []) (.r0 [0, 1, 7, 8] <| .bk 0 [.i (IntKind.i64.wrap (t8 + (1 : Int)))])) (.r0 [4] <| .ret []))
    (by kernel_rfl) (by kernel_rfl) (by kernel_rfl) h
def vc82 (x0 : Bool) (x1 : DL) (R : V → Heap → Prop) : Prop :=
 ∃ (r : Int),
 (FnD prog 83 [vA [sD (dB x0), sD (dL x1)]] (vD (dI r)) []) ∧
 (R (vD (dB (r != (0 : Int)))) [])
theorem vc82_ok (x0 : Bool) (x1 : DL) {R : V → Heap → Prop} (h : vc82 x0 x1 R) : FnG prog 82 [vA [sD (dB x0), sD (dL x1)]] [] R :=
  FnG.vcg hT func82 ntmps82 (.reg 1 [(0, Or.none, 0, 1)] [1] [0] [] <| .ex fun r => .reg 0 [(1, Or.call (vD (dI r)) [] [], 0, 0)] [2] [] [] <| .ret [])
    (by kernel_rfl) (by kernel_rfl) (by kernel_rfl) h
def vc46 (v : DL) (R : V → Heap → Prop) : Prop :=
 ∃ (r : Bool),
 (FnD prog 81 [vD (dL v), vD (D.fn (.func 82) ([] : List D))] (vD (dB r)) []) ∧
 (R (vD (dB (!r))) [])
theorem vc46_ok (v : DL) {R : V → Heap → Prop} (h : vc46 v R) : FnG prog 46 [vD (dL v)] [] R :=
  FnG.vcg hT func46 ntmps46 (.r0 [0] <| .exb fun r => .reg 0 [(1, Or.call (vD (dB r)) [] [], 0, 0)] [2] [] [] <| .ret [])
    (by kernel_rfl) (by kernel_rfl) (by kernel_rfl) h
def vc110 (a0 : Bool) (a1 : DL) (b0 : Bool) (b1 : DL) (R : V → Heap → Prop) : Prop :=
 ∃ (r : Int),
 (FnD prog 86 [vA [sD (dB a0), sD (dL a1)], vA [sD (dB b0), sD (dL b1)]] (vD (dI r)) []) ∧
 (R (vD (dB (r == (0 : Int)))) [])
theorem vc110_ok (a0 : Bool) (a1 : DL) (b0 : Bool) (b1 : DL) {R : V → Heap → Prop} (h : vc110 a0 a1 b0 b1 R) : FnG prog 110 [vA [sD (dB a0), sD (dL a1)], vA [sD (dB b0), sD (dL b1)]] [] R :=
  FnG.vcg hT func110 ntmps110 (.reg 2 [(0, Or.none, 0, 1), (1, Or.none, 1, 1)] [2, 3] [0, 1] [] <| .ex fun r => .reg 0 [(2, Or.call (vD (dI r)) [] [], 0, 0)] [4] [] [] <| .ret [])
    (by kernel_rfl) (by kernel_rfl) (by kernel_rfl) h
def vc108 (r s : DL) (R : V → Heap → Prop) : Prop :=
 ∃ (r1 : Bool),
 (FnD prog 109 [vD (dL r), vD (dL s), vD (D.fn (.func 110) ([] : List D))] (vD (dB r1)) []) ∧
 (R (vD (dB r1)) [])
theorem vc108_ok (r s : DL) {R : V → Heap → Prop} (h : vc108 r s R) : FnG prog 108 [vD (dL r), vD (dL s)] [] R :=
  FnG.vcg hT func108 ntmps108 (.r0 [0, 1] <| .exb fun r1 => .reg 0 [(2, Or.call (vD (dB r1)) [] [], 0, 0)] [4] [] [] <| .ret [])
    (by kernel_rfl) (by kernel_rfl) (by kernel_rfl) h
def vc107 (s1 s2 : DL) (eq : FuncId) (eqc : List D) (R : V → Heap → Prop) : Prop :=
 (((s1.length : Int) != (s2.length : Int)) = true →
 R (vD (dB false)) []) ∧
 (((s1.length : Int) != (s2.length : Int)) = false →
 ∃ (J0 : Int → Prop) (μ0 : Int → Nat),
 J0 (0 : Int) ∧ ∀ (t17 : Int), J0 t17 →
 (decide (t17 < (s1.length : Int)) = true →
 ∃ (vx : DL),
 (0 ≤ t17 ∧ t17 < (s1.length : Int)) ∧
 (s1[(t17).toNat]? = some [dL vx]) ∧
 (∃ (vx1 : DL),
 (0 ≤ t17 ∧ t17 < (s2.length : Int)) ∧
 (s2[(t17).toNat]? = some [dL vx1]) ∧
 (∃ (r : Bool),
 (FnD prog eq ([vD (dL vx), vD (dL vx1)] ++ eqc.map dV) (vD (dB r)) []) ∧
 (((!r) = true →
 R (vD (dB false)) []) ∧
 ((!r) = false →
 J0 (IntKind.i64.wrap (t17 + (1 : Int))) ∧ μ0 (IntKind.i64.wrap (t17 + (1 : Int))) < μ0 t17))))) ∧
 (decide (t17 < (s1.length : Int)) = false →
 R (vD (dB true)) []))
theorem vc107_ok (s1 s2 : DL) (eq : FuncId) (eqc : List D) {R : V → Heap → Prop} (h : vc107 s1 s2 eq eqc R) : FnG prog 107 [vD (dL s1), vD (dL s2), vD (D.fn (.func eq) eqc)] [] R :=
  FnG.vcg hT func107 ntmps107 (.r0 [0, 1, 2] <| .r0 [0, 1, 2, 14] <| .c2 (.r0 [6] <| .ret []) (.r0 [1, 2, 15, 16, 17] <| .lp [.i] (fun t17 => ⟨[(1, vD (dL s2)), (2, vD (D.fn (.func eq) eqc)), (15, vD (dL s1)), (16, vD (dI (s1.length : Int))), (17, vD (dI t17))], [], 32⟩) [.i (0 : Int)] <| .fi fun t17 => .beg <| .r0 [1, 2, 15, 16, 17, 18] <| .c2 (.exl fun vx => .reg 0 [(2, Or.cells [dL vx], 0, 0)] [1, 2, 7, 8, 15, 16, 17] [] [] <| .exl fun vx1 => .reg 0 [(3, Or.cells [dL vx1], 0, 0)] [1, 2, 8, 9, 15, 16, 17] [] [] <| .exb fun r => .reg 0 [(3, Or.call (vD (dB r)) [] [], 0, 0)] [1, 2, 15, 16, 17, 30] [] [] <| .c2 (.r0 [6] <| .ret []) (.r0 [1, 2, 15, 16, 17] <| .bk 0 [.i (IntKind.i64.wrap (t17 + (1 : Int)))])) (.r0 [6] <| .ret [])))
    (by kernel_rfl) (by kernel_rfl) (by kernel_rfl) h
def vc109 (s1 s2 : DL) (eq : FuncId) (eqc : List D) (R : V → Heap → Prop) : Prop :=
 (((s1.length : Int) != (s2.length : Int)) = true →
 R (vD (dB false)) []) ∧
 (((s1.length : Int) != (s2.length : Int)) = false →
 ∃ (J0 : Int → Prop) (μ0 : Int → Nat),
 J0 (0 : Int) ∧ ∀ (t17 : Int), J0 t17 →
 (decide (t17 < (s1.length : Int)) = true →
 ∃ (x0 : Bool) (x1 : DL),
 (0 ≤ t17 ∧ t17 < (s1.length : Int)) ∧
 (s1[(t17).toNat]? = some [dB x0, dL x1]) ∧
 (∃ (x01 : Bool) (x11 : DL),
 (0 ≤ t17 ∧ t17 < (s2.length : Int)) ∧
 (s2[(t17).toNat]? = some [dB x01, dL x11]) ∧
 (∃ (r : Bool),
 (FnD prog eq ([vA [sD (dB x0), sD (dL x1)], vA [sD (dB x01), sD (dL x11)]] ++ eqc.map dV) (vD (dB r)) []) ∧
 (((!r) = true →
 R (vD (dB false)) []) ∧
 ((!r) = false →
 J0 (IntKind.i64.wrap (t17 + (1 : Int))) ∧ μ0 (IntKind.i64.wrap (t17 + (1 : Int))) < μ0 t17))))) ∧
 (decide (t17 < (s1.length : Int)) = false →
 R (vD (dB true)) []))
theorem vc109_ok (s1 s2 : DL) (eq : FuncId) (eqc : List D) {R : V → Heap → Prop} (h : vc109 s1 s2 eq eqc R) : FnG prog 109 [vD (dL s1), vD (dL s2), vD (D.fn (.func eq) eqc)] [] R :=
  FnG.vcg hT func109 ntmps109 (.r0 [0, 1, 2] <| .r0 [0, 1, 2, 14] <| .c2 (.r0 [6] <| .ret []) (.r0 [1, 2, 15, 16, 17] <| .lp [.i] (fun t17 => ⟨[(1, vD (dL s2)), (2, vD (D.fn (.func eq) eqc)), (15, vD (dL s1)), (16, vD (dI (s1.length : Int))), (17, vD (dI t17))], [], 32⟩) [.i (0 : Int)] <| .fi fun t17 => .beg <| .r0 [1, 2, 15, 16, 17, 18] <| .c2 (.exb fun x0 => .exl fun x1 => .reg 1 [(2, Or.cells [dB x0, dL x1], 0, 0), (3, Or.none, 0, 1)] [1, 2, 7, 8, 15, 16, 17] [0] [] <| .exb fun x01 => .exl fun x11 => .reg 1 [(3, Or.cells [dB x01, dL x11], 0, 0), (4, Or.none, 1, 1)] [1, 2, 8, 9, 15, 16, 17] [0, 1] [] <| .exb fun r => .reg 0 [(3, Or.call (vD (dB r)) [] [], 0, 0)] [1, 2, 15, 16, 17, 30] [] [] <| .c2 (.r0 [6] <| .ret []) (.r0 [1, 2, 15, 16, 17] <| .bk 0 [.i (IntKind.i64.wrap (t17 + (1 : Int)))])) (.r0 [6] <| .ret [])))
    (by kernel_rfl) (by kernel_rfl) (by kernel_rfl) h
def vc80 (a0 a1 : Int) (a2 : DL) (b0 b1 : Int) (b2 : DL) (R : V → Heap → Prop) : Prop :=
 ∃ (r0 r1 : Int) (r01 r11 : Int),
 (FnD prog 106 [vA [sD (dI a0), sD (dI a1), sD (dL a2)]] (vA [sD (dI r0), sD (dI r1)]) []) ∧
 (FnD prog 106 [vA [sD (dI b0), sD (dI b1), sD (dL b2)]] (vA [sD (dI r01), sD (dI r11)]) []) ∧
 (((r0 == r01 && r1 == r11) = true →
 ∃ (r : Bool),
 (FnD prog 107 [vD (dL a2), vD (dL b2), vD (D.fn (.func 108) ([] : List D))] (vD (dB r)) []) ∧
 (R (vD (dB r)) [])) ∧
 ((r0 == r01 && r1 == r11) = false →
 R (vD (dB false)) []))
theorem vc80_ok (a0 a1 : Int) (a2 : DL) (b0 b1 : Int) (b2 : DL) {R : V → Heap → Prop} (h : vc80 a0 a1 a2 b0 b1 b2 R) : FnG prog 80 [vA [sD (dI a0), sD (dI a1), sD (dL a2)], vA [sD (dI b0), sD (dI b1), sD (dL b2)]] [] R :=
  FnG.vcg hT func80 ntmps80 (.reg 2 [(0, Or.none, 0, 1), (1, Or.none, 1, 1)] [2, 3] [0, 1] [] <| .ex fun r0 => .ex fun r1 => .ex fun r01 => .ex fun r11 => .ob (FnD prog 106 [vA [sD (dI a0), sD (dI a1), sD (dL a2)]] (vA [sD (dI r0), sD (dI r1)]) []) <| .ob (FnD prog 106 [vA [sD (dI b0), sD (dI b1), sD (dL b2)]] (vA [sD (dI r01), sD (dI r11)]) []) <| .spl ((r0 == r01 && r1 == r11)) (.exb fun r => .drw 0 [(1, (Or.call (vA [sD (dI r0), sD (dI r1)]) [] [], 0, 0), []), (3, (Or.call (vA [sD (dI r01), sD (dI r11)]) [] [], 0, 0), []), (5, (Or.bool true, 0, 0), []), (10, (Or.call (vD (dB r)) [] [], 0, 0), [])] [4] [] [.old 2, .old 1, .old 0] <| .ret []) (.drw 0 [(1, (Or.call (vA [sD (dI r0), sD (dI r1)]) [] [], 0, 0), []), (3, (Or.call (vA [sD (dI r01), sD (dI r11)]) [] [], 0, 0), []), (5, (Or.bool false, 0, 0), [])] [4] [] [.old 2, .old 1, .old 0] <| .ret []))
    (by kernel_rfl) (by kernel_rfl) (by kernel_rfl) h
end Go.AM
/- What functions of the program come to: group R5. Printed by vc.py. -/
set_option maxRecDepth 100000
set_option linter.unusedVariables false
namespace Go.AM
open Go.Proofs.Tryz
def vc60 (rows cols : Int) (R : V → Heap → Prop) : Prop :=
 ∃ (J0 : (DLL) → Int → Prop) (μ0 : (DLL) → Int → Nat),
 J0 ([] : DLL) (0 : Int) ∧ ∀ (a : DLL) (i : Int), J0 a i →
 (decide (i < rows) = true →
 (0 ≤ cols ∧ cols ≤ cols ∧ cols * (32 : Nat) ≤ 281474976710656) ∧
 ((a.length + ([List.replicate (cols).toNat [dB false, dL ([] : DL)]] : DLL).length) * 24 ≤ 140737488355328) ∧
 (J0 (a ++ [List.replicate (cols).toNat [dB false, dL ([] : DL)]]) (IntKind.i64.wrap (i + (1 : Int))) ∧ μ0 (a ++ [List.replicate (cols).toNat [dB false, dL ([] : DL)]]) (IntKind.i64.wrap (i + (1 : Int))) < μ0 a i)) ∧
 (decide (i < rows) = false →
 R (vA [sD (dI rows), sD (dI cols), S.ref 0]) [some (Obj.mat 2 a)])
theorem vc60_ok (rows cols : Int) {R : V → Heap → Prop} (h : vc60 rows cols R) : FnG prog 60 [vD (dI rows), vD (dI cols)] [] R :=
  FnG.vcg hT func60 ntmps60 (.reg 1 [(0, Or.none, 0, 1)] [0, 1, 4] [0] [] <| .reg 1 [(0, Or.bool true, 1, 1)] [0, 1, 4, 5] [0, 1] [] <| .r1 [0, 1, 4, 5, 6] [0, 1] <| .lp [.m, .i] (fun a i => ⟨[(0, vD (dI rows)), (1, vD (dI cols)), (4, vP 0 0), (5, vR 1), (6, vD (dI i))], [some (Obj.box [sD (dI (0 : Int)), sD (dI (0 : Int)), sD (D.raw (.slice none 0 0))]), some (Obj.mat 2 a)], 22⟩) [.m ([] : DLL), .i (0 : Int)] <| .fm fun a => .fi fun i => .beg <| .r1 [0, 1, 4, 5, 6, 10] [0, 1] <| .c2 (.reg 3 [(2, Or.none, 2, 1), (3, Or.bool true, 3, 1), (4, Or.none, 4, 1)] [0, 1, 4, 5, 6] [0, 4] [] <| .r1 [0, 1, 4, 5, 6] [0, 1] <| .bk 0 [.m (a ++ [List.replicate (cols).toNat [dB false, dL ([] : DL)]]), .i (IntKind.i64.wrap (i + (1 : Int)))]) (.r1 [4] [0, 1] <| .ret [1]))
    (by kernel_rfl) (by kernel_rfl) (by kernel_rfl) h
def vc30 (n : Int) (R : V → Heap → Prop) : Prop :=
 ∃ (r0 r1 : Int) (rrows : DLL),
 (FnD prog 60 [vD (dI n), vD (dI n)] (vA [sD (dI r0), sD (dI r1), S.ref 0]) [some (Obj.mat 2 rrows)]) ∧
 (∃ (J0 : (DLL) → Int → Prop) (μ0 : (DLL) → Int → Nat),
 J0 rrows (0 : Int) ∧ ∀ (o2 : DLL) (i : Int), J0 o2 i →
 (decide (i < n) = true →
 ∃ (r01 : Bool) (r11 : DL),
 (0 ≤ i ∧ i < (o2.length : Int)) ∧
 (FnD prog 25 [vD (dI (1 : Int))] (vA [sD (dB r01), sD (dL r11)]) []) ∧
 (∃ l, o2[(i).toNat]? = some l ∧ 0 ≤ i ∧ i < (l.length : Int)) ∧
 (J0 (o2.modify (i).toNat (fun qz => qz.set (i).toNat [dB r01, dL r11])) (IntKind.i64.wrap (i + (1 : Int))) ∧ μ0 (o2.modify (i).toNat (fun qz => qz.set (i).toNat [dB r01, dL r11])) (IntKind.i64.wrap (i + (1 : Int))) < μ0 o2 i)) ∧
 (decide (i < n) = false →
 R (vA [sD (dI r0), sD (dI r1), S.ref 0]) [some (Obj.mat 2 o2)]))
theorem vc30_ok (n : Int) {R : V → Heap → Prop} (h : vc30 n R) : FnG prog 30 [vD (dI n)] [] R :=
  FnG.vcg hT func30 ntmps30 (.reg 1 [(0, Or.none, 0, 1)] [0, 2] [0] [] <| .ex fun r0 => .ex fun r1 => .exm fun rrows => .reg 2 [(2, Or.call (vA [sD (dI r0), sD (dI r1), S.ref 0]) [some (Obj.mat 2 rrows)] [], 1, 1), (3, Or.none, 2, 1)] [0, 2, 3] [0, 2, 1] [] <| .r1 [0, 2, 3, 4] [0, 1, 2] <| .lp [.m, .i] (fun o2 i => ⟨[(0, vD (dI n)), (2, vP 0 0), (3, vP 1 0), (4, vD (dI i))], [some (Obj.box [sD (dI (0 : Int)), sD (dI (0 : Int)), sD (D.raw (.slice none 0 0))]), some (Obj.box [sD (dI r0), sD (dI r1), S.ref 2]), some (Obj.mat 2 o2)], 22⟩) [.m rrows, .i (0 : Int)] <| .fm fun o2 => .fi fun i => .beg <| .r1 [0, 2, 3, 4, 10] [0, 1, 2] <| .c2 (.exb fun r01 => .exl fun r11 => .drw 0 [(6, (Or.call (vA [sD (dB r01), sD (dL r11)]) [] [], 0, 0), []), (8, (Or.none, 0, 0), [2])] [0, 2, 3, 4] [0, 1, 2] [] <| .r1 [0, 2, 3, 4] [0, 1, 2] <| .bk 0 [.m (o2.modify (i).toNat (fun qz => qz.set (i).toNat [dB r01, dL r11])), .i (IntKind.i64.wrap (i + (1 : Int)))]) (.r1 [2] [0, 2] <| .ret [1]))
    (by kernel_rfl) (by kernel_rfl) (by kernel_rfl) h
def vc71 (v : DL) (R : V → Heap → Prop) : Prop :=
 ∃ (J0 : Int → Prop) (μ0 : Int → Nat),
 J0 (0 : Int) ∧ ∀ (i : Int), J0 i →
 (decide (i < (v.length : Int)) = true →
 ∃ (x0 : Bool) (x1 : DL) (r : Bool),
 (0 ≤ i ∧ i < (v.length : Int)) ∧
 (v[(i).toNat]? = some [dB x0, dL x1]) ∧
 (FnD prog 101 [vA [sD (dB x0), sD (dL x1)]] (vD (dB r)) []) ∧
 (((!r) = true →
 R (vD (dB false)) []) ∧
 ((!r) = false →
 J0 (IntKind.i64.wrap (i + (1 : Int))) ∧ μ0 (IntKind.i64.wrap (i + (1 : Int))) < μ0 i))) ∧
 (decide (i < (v.length : Int)) = false →
 R (vD (dB true)) [])
theorem vc71_ok (v : DL) {R : V → Heap → Prop} (h : vc71 v R) : FnG prog 71 [vD (dL v)] [] R :=
  FnG.vcg hT func71 ntmps71 (.r0 [0] <| .r0 [0, 3] <| .lp [.i] (fun i => ⟨[(0, vD (dL v)), (3, vD (dI i))], [], 16⟩) [.i (0 : Int)] <| .fi fun i => .beg <| .r0 [0, 3, 7] <| .c2 (.exb fun x0 => .exl fun x1 => .exb fun r => .reg 0 [(3, Or.cells [dB x0, dL x1], 0, 0), (4, Or.call (vD (dB r)) [] [], 0, 0)] [0, 3, 15] [] [] <| .c2 (.r0 [2] <| .ret []) (.r0 [0, 3] <| .bk 0 [.i (IntKind.i64.wrap (i + (1 : Int)))])) (.r0 [2] <| .ret []))
    (by kernel_rfl) (by kernel_rfl) (by kernel_rfl) h
def vc35 (a0 a1 : Int) (a2 : DL) (R : V → Heap → Prop) : Prop :=
 (decide (a0 < (0 : Int)) = true →
 R (vD (dB false)) []) ∧
 (decide (a0 < (0 : Int)) = false →
 (decide (a1 < (0 : Int)) = true →
 R (vD (dB false)) []) ∧
 (decide (a1 < (0 : Int)) = false →
 (((a2.length : Int) != a0) = true →
 R (vD (dB false)) []) ∧
 (((a2.length : Int) != a0) = false →
 ∃ (J0 : Int → Prop) (μ0 : Int → Nat),
 J0 (0 : Int) ∧ ∀ (i : Int), J0 i →
 (decide (i < (a2.length : Int)) = true →
 ∃ (vx : DL),
 (0 ≤ i ∧ i < (a2.length : Int)) ∧
 (a2[(i).toNat]? = some [dL vx]) ∧
 ((((vx.length : Int) != a1) = true →
 R (vD (dB false)) []) ∧
 (((vx.length : Int) != a1) = false →
 ∃ (r : Bool),
 (FnD prog 71 [vD (dL vx)] (vD (dB r)) []) ∧
 (((!r) = true →
 R (vD (dB false)) []) ∧
 ((!r) = false →
 J0 (IntKind.i64.wrap (i + (1 : Int))) ∧ μ0 (IntKind.i64.wrap (i + (1 : Int))) < μ0 i))))) ∧
 (decide (i < (a2.length : Int)) = false →
 R (vD (dB true)) []))))
theorem vc35_ok (a0 a1 : Int) (a2 : DL) {R : V → Heap → Prop} (h : vc35 a0 a1 a2 R) : FnG prog 35 [vA [sD (dI a0), sD (dI a1), sD (dL a2)]] [] R :=
  FnG.vcg hT func35 ntmps35 (.reg 1 [(0, Or.none, 0, 1)] [1] [0] [] <| .spl ((decide (a0 < (0 : Int)))) (.reg 0 [(3, Or.bool true, 0, 0)] [1, 19] [0] [.old 0] <| .ct true none <| .r0 [2] <| .ret []) (.spl ((decide (a1 < (0 : Int)))) (.reg 0 [(3, Or.bool false, 0, 0), (8, Or.bool true, 0, 0)] [1, 19] [0] [.old 1, .old 0] <| .ct true none <| .r0 [2] <| .ret []) (.reg 0 [(3, Or.bool false, 0, 0), (8, Or.bool false, 0, 0)] [1, 19] [0] [.old 1, .old 0] <| .c2 (.r0 [2] <| .ret []) (.r1 [1, 3] [0] <| .lp [.i] (fun i => ⟨[(1, vP 0 0), (3, vD (dI i))], [some (Obj.box [sD (dI a0), sD (dI a1), sD (dL a2)])], 45⟩) [.i (0 : Int)] <| .fi fun i => .beg <| .r1 [1, 3, 24] [0] <| .c2 (.exl fun vx => .ob (0 ≤ i ∧ i < (a2.length : Int)) <| .ob (a2[(i).toNat]? = some [dL vx]) <| .spl (((vx.length : Int) != a1)) (.drw 0 [(4, (Or.cells [dL vx], 0, 0), []), (9, (Or.bool true, 0, 0), [])] [1, 3, 44] [0] [.old 2, .old 1, .old 0] <| .ct true none <| .r0 [2] <| .ret []) (.exb fun r => .drw 0 [(4, (Or.cells [dL vx], 0, 0), []), (9, (Or.bool false, 0, 0), []), (14, (Or.cells [dL vx], 0, 0), []), (15, (Or.call (vD (dB r)) [] [], 0, 0), [])] [1, 3, 44] [0] [.old 2, .old 1, .old 0, .old 2, .old 1] <| .c2 (.r0 [2] <| .ret []) (.r1 [1, 3] [0] <| .bk 0 [.i (IntKind.i64.wrap (i + (1 : Int)))]))) (.r0 [2] <| .ret [])))))
    (by kernel_rfl) (by kernel_rfl) (by kernel_rfl) h
def vc36 (a0 a1 : Int) (a2 : DL) (rows cols : Int) (R : V → Heap → Prop) : Prop :=
 ((a0 == rows) = true →
 ((a1 == cols) = true →
 ∃ (r : Bool),
 (FnD prog 35 [vA [sD (dI a0), sD (dI a1), sD (dL a2)]] (vD (dB r)) []) ∧
 (R (vD (dB r)) [])) ∧
 ((a1 == cols) = false →
 R (vD (dB false)) [])) ∧
 ((a0 == rows) = false →
 R (vD (dB false)) [])
theorem vc36_ok (a0 a1 : Int) (a2 : DL) (rows cols : Int) {R : V → Heap → Prop} (h : vc36 a0 a1 a2 rows cols R) : FnG prog 36 [vA [sD (dI a0), sD (dI a1), sD (dL a2)], vD (dI rows), vD (dI cols)] [] R :=
  FnG.vcg hT func36 ntmps36 (.reg 1 [(0, Or.none, 0, 1)] [1, 2, 3] [0] [] <| .spl ((a0 == rows)) (.spl ((a1 == cols)) (.exb fun r => .reg 0 [(4, Or.bool true, 0, 0), (10, Or.bool true, 0, 0), (12, Or.call (vD (dB r)) [] [], 0, 0)] [6] [] [.old 1, .old 0] <| .ret []) (.reg 0 [(4, Or.bool true, 0, 0), (10, Or.bool false, 0, 0)] [6] [] [.old 1, .old 0] <| .ret [])) (.reg 0 [(4, Or.bool false, 0, 0)] [6] [] [.old 0] <| .ret []))
    (by kernel_rfl) (by kernel_rfl) (by kernel_rfl) h
def vc48 (a b : DL) (R : V → Heap → Prop) : Prop :=
 (((a.length : Int) != (b.length : Int)) = true →
 R (vD (dB false)) []) ∧
 (((a.length : Int) != (b.length : Int)) = false →
 ∃ (J0 : Int → Prop) (μ0 : Int → Nat),
 J0 (0 : Int) ∧ ∀ (i : Int), J0 i →
 (decide (i < (a.length : Int)) = true →
 ∃ (x0 : Bool) (x1 : DL) (x01 : Bool) (x11 : DL) (r : Bool),
 (0 ≤ i ∧ i < (a.length : Int)) ∧
 (a[(i).toNat]? = some [dB x0, dL x1]) ∧
 (0 ≤ i ∧ i < (b.length : Int)) ∧
 (b[(i).toNat]? = some [dB x01, dL x11]) ∧
 (FnD prog 88 [vA [sD (dB x0), sD (dL x1)], vA [sD (dB x01), sD (dL x11)]] (vD (dB r)) []) ∧
 (((!r) = true →
 R (vD (dB false)) []) ∧
 ((!r) = false →
 J0 (IntKind.i64.wrap (i + (1 : Int))) ∧ μ0 (IntKind.i64.wrap (i + (1 : Int))) < μ0 i))) ∧
 (decide (i < (a.length : Int)) = false →
 R (vD (dB true)) []))
theorem vc48_ok (a b : DL) {R : V → Heap → Prop} (h : vc48 a b R) : FnG prog 48 [vD (dL a), vD (dL b)] [] R :=
  FnG.vcg hT func48 ntmps48 (.r0 [0, 1] <| .r0 [0, 1, 10] <| .c2 (.r0 [4] <| .ret []) (.r0 [0, 1, 5] <| .lp [.i] (fun i => ⟨[(0, vD (dL a)), (1, vD (dL b)), (5, vD (dI i))], [], 27⟩) [.i (0 : Int)] <| .fi fun i => .beg <| .r0 [0, 1, 5, 14] <| .c2 (.exb fun x0 => .exl fun x1 => .exb fun x01 => .exl fun x11 => .exb fun r => .drw 0 [(3, (Or.cells [dB x0, dL x1], 0, 0), []), (7, (Or.cells [dB x01, dL x11], 0, 0), []), (8, (Or.call (vD (dB r)) [] [], 0, 0), [])] [0, 1, 5, 26] [] [] <| .c2 (.r0 [4] <| .ret []) (.r0 [0, 1, 5] <| .bk 0 [.i (IntKind.i64.wrap (i + (1 : Int)))])) (.r0 [4] <| .ret [])))
    (by kernel_rfl) (by kernel_rfl) (by kernel_rfl) h
def vc22 (a0 a1 : Int) (a2 : DL) (b0 b1 : Int) (b2 : DL) (R : V → Heap → Prop) : Prop :=
 ((a0 != b0) = true →
 R (vD (dB false)) []) ∧
 ((a0 != b0) = false →
 ((a1 != b1) = true →
 R (vD (dB false)) []) ∧
 ((a1 != b1) = false →
 (((a2.length : Int) != (b2.length : Int)) = true →
 R (vD (dB false)) []) ∧
 (((a2.length : Int) != (b2.length : Int)) = false →
 ∃ (J0 : Int → Prop) (μ0 : Int → Nat),
 J0 (0 : Int) ∧ ∀ (i : Int), J0 i →
 (decide (i < (a2.length : Int)) = true →
 ∃ (vx vx1 : DL) (r : Bool),
 (0 ≤ i ∧ i < (a2.length : Int)) ∧
 (a2[(i).toNat]? = some [dL vx]) ∧
 (0 ≤ i ∧ i < (b2.length : Int)) ∧
 (b2[(i).toNat]? = some [dL vx1]) ∧
 (FnD prog 48 [vD (dL vx), vD (dL vx1)] (vD (dB r)) []) ∧
 (((!r) = true →
 R (vD (dB false)) []) ∧
 ((!r) = false →
 J0 (IntKind.i64.wrap (i + (1 : Int))) ∧ μ0 (IntKind.i64.wrap (i + (1 : Int))) < μ0 i))) ∧
 (decide (i < (a2.length : Int)) = false →
 R (vD (dB true)) []))))
theorem vc22_ok (a0 a1 : Int) (a2 : DL) (b0 b1 : Int) (b2 : DL) {R : V → Heap → Prop} (h : vc22 a0 a1 a2 b0 b1 b2 R) : FnG prog 22 [vA [sD (dI a0), sD (dI a1), sD (dL a2)], vA [sD (dI b0), sD (dI b1), sD (dL b2)]] [] R :=
  FnG.vcg hT func22 ntmps22 (.reg 2 [(0, Or.none, 0, 1), (1, Or.none, 1, 1)] [2, 3] [0, 1] [] <| .spl ((a0 != b0)) (.reg 0 [(5, Or.bool true, 0, 0)] [2, 3, 26] [0, 1] [.old 0] <| .ct true none <| .r0 [4] <| .ret []) (.spl ((a1 != b1)) (.reg 0 [(5, Or.bool false, 0, 0), (12, Or.bool true, 0, 0)] [2, 3, 26] [0, 1] [.old 1, .old 0] <| .ct true none <| .r0 [4] <| .ret []) (.reg 0 [(5, Or.bool false, 0, 0), (12, Or.bool false, 0, 0)] [2, 3, 26] [0, 1] [.old 1, .old 0] <| .c2 (.r0 [4] <| .ret []) (.r1 [2, 3, 5] [0, 1] <| .lp [.i] (fun i => ⟨[(2, vP 0 0), (3, vP 1 0), (5, vD (dI i))], [some (Obj.box [sD (dI a0), sD (dI a1), sD (dL a2)]), some (Obj.box [sD (dI b0), sD (dI b1), sD (dL b2)])], 46⟩) [.i (0 : Int)] <| .fi fun i => .beg <| .r1 [2, 3, 5, 31] [0, 1] <| .c2 (.exl fun vx => .exl fun vx1 => .exb fun r => .drw 0 [(4, (Or.cells [dL vx], 0, 0), []), (9, (Or.cells [dL vx1], 0, 0), []), (10, (Or.call (vD (dB r)) [] [], 0, 0), [])] [2, 3, 5, 45] [0, 1] [] <| .c2 (.r0 [4] <| .ret []) (.r1 [2, 3, 5] [0, 1] <| .bk 0 [.i (IntKind.i64.wrap (i + (1 : Int)))])) (.r0 [4] <| .ret [])))))
    (by kernel_rfl) (by kernel_rfl) (by kernel_rfl) h
def vc75 (a0 a1 : Int) (a2 : DL) (k0 : Bool) (k1 : DL) (R : V → Heap → Prop) : Prop :=
 ∃ (r0 r1 : Int) (rrows : DLL),
 (FnD prog 60 [vD (dI a0), vD (dI a1)] (vA [sD (dI r0), sD (dI r1), S.ref 0]) [some (Obj.mat 2 rrows)]) ∧
 (∃ (J0 : (DLL) → Int → Prop) (μ0 : (DLL) → Int → Nat),
 J0 rrows (0 : Int) ∧ ∀ (o4 : DLL) (i : Int), J0 o4 i →
 (decide (i < a0) = true →
 ∃ (J1 : (DLL) → Int → Prop) (μ1 : (DLL) → Int → Nat),
 J1 o4 (0 : Int) ∧ ∀ (o41 : DLL) (j : Int), J1 o41 j →
 (decide (j < a1) = true →
 ∃ (vx : DL) (x0 : Bool) (x1 : DL) (r01 : Bool) (r11 : DL),
 (0 ≤ i ∧ i < (o41.length : Int)) ∧
 (0 ≤ i ∧ i < (a2.length : Int)) ∧
 (a2[(i).toNat]? = some [dL vx]) ∧
 (0 ≤ j ∧ j < (vx.length : Int)) ∧
 (vx[(j).toNat]? = some [dB x0, dL x1]) ∧
 (FnD prog 91 [vA [sD (dB x0), sD (dL x1)], vA [sD (dB k0), sD (dL k1)]] (vA [sD (dB r01), sD (dL r11)]) []) ∧
 (∃ l, o41[(i).toNat]? = some l ∧ 0 ≤ j ∧ j < (l.length : Int)) ∧
 (J1 (o41.modify (i).toNat (fun qz => qz.set (j).toNat [dB r01, dL r11])) (IntKind.i64.wrap (j + (1 : Int))) ∧ μ1 (o41.modify (i).toNat (fun qz => qz.set (j).toNat [dB r01, dL r11])) (IntKind.i64.wrap (j + (1 : Int))) < μ1 o41 j)) ∧
 (decide (j < a1) = false →
 J0 o41 (IntKind.i64.wrap (i + (1 : Int))) ∧ μ0 o41 (IntKind.i64.wrap (i + (1 : Int))) < μ0 o4 i)) ∧
 (decide (i < a0) = false →
 R (vA [sD (dI r0), sD (dI r1), S.ref 0]) [some (Obj.mat 2 o4)]))
theorem vc75_ok (a0 a1 : Int) (a2 : DL) (k0 : Bool) (k1 : DL) {R : V → Heap → Prop} (h : vc75 a0 a1 a2 k0 k1 R) : FnG prog 75 [vA [sD (dI a0), sD (dI a1), sD (dL a2)], vA [sD (dB k0), sD (dL k1)]] [] R :=
  FnG.vcg hT func75 ntmps75 (.reg 3 [(0, Or.none, 0, 1), (1, Or.none, 1, 1), (2, Or.none, 2, 1)] [2, 3, 4] [0, 1, 2] [] <| .ex fun r0 => .ex fun r1 => .exm fun rrows => .reg 2 [(4, Or.call (vA [sD (dI r0), sD (dI r1), S.ref 0]) [some (Obj.mat 2 rrows)] [], 3, 1), (5, Or.none, 4, 1)] [2, 3, 4, 5] [0, 1, 2, 4, 3] [] <| .r1 [2, 3, 4, 5, 6] [0, 1, 2, 3, 4] <| .lp [.m, .i] (fun o4 i => ⟨[(2, vP 0 0), (3, vP 1 0), (4, vP 2 0), (5, vP 3 0), (6, vD (dI i))], [some (Obj.box [sD (dI a0), sD (dI a1), sD (dL a2)]), some (Obj.box [sD (dB k0), sD (dL k1)]), some (Obj.box [sD (dI (0 : Int)), sD (dI (0 : Int)), sD (D.raw (.slice none 0 0))]), some (Obj.box [sD (dI r0), sD (dI r1), S.ref 4]), some (Obj.mat 2 o4)], 43⟩) [.m rrows, .i (0 : Int)] <| .fm fun o4 => .fi fun i => .beg <| .r1 [2, 3, 4, 5, 6, 16] [0, 1, 2, 3, 4] <| .c2 (.r1 [2, 3, 4, 5, 6, 7] [0, 1, 2, 3, 4] <| .lp [.m, .i] (fun o41 j => ⟨[(2, vP 0 0), (3, vP 1 0), (4, vP 2 0), (5, vP 3 0), (6, vD (dI i)), (7, vD (dI j))], [some (Obj.box [sD (dI a0), sD (dI a1), sD (dL a2)]), some (Obj.box [sD (dB k0), sD (dL k1)]), some (Obj.box [sD (dI (0 : Int)), sD (dI (0 : Int)), sD (D.raw (.slice none 0 0))]), some (Obj.box [sD (dI r0), sD (dI r1), S.ref 4]), some (Obj.mat 2 o41)], 43⟩) [.m o4, .i (0 : Int)] <| .fm fun o41 => .fi fun j => .beg <| .r1 [2, 3, 4, 5, 6, 7, 22] [0, 1, 2, 3, 4] <| .c2 (.exl fun vx => .exb fun x0 => .exl fun x1 => .exb fun r01 => .exl fun r11 => .drw 0 [(10, (Or.cells [dL vx], 0, 0), []), (13, (Or.cells [dB x0, dL x1], 0, 0), []), (15, (Or.call (vA [sD (dB r01), sD (dL r11)]) [] [], 0, 0), []), (17, (Or.none, 0, 0), [4])] [2, 3, 4, 5, 6, 7] [0, 1, 2, 3, 4] [] <| .r1 [2, 3, 4, 5, 6, 7] [0, 1, 2, 3, 4] <| .bk 0 [.m (o41.modify (i).toNat (fun qz => qz.set (j).toNat [dB r01, dL r11])), .i (IntKind.i64.wrap (j + (1 : Int)))]) (.r1 [2, 3, 4, 5, 6] [0, 1, 2, 3, 4] <| .bk 1 [.m o41, .i (IntKind.i64.wrap (i + (1 : Int)))])) (.r1 [4] [2, 4] <| .ret [1]))
    (by kernel_rfl) (by kernel_rfl) (by kernel_rfl) h
def vc72 (a0 a1 : Int) (a2 : DL) (b0 b1 : Int) (b2 : DL) (R : V → Heap → Prop) : Prop :=
 ((a1 != b0) = true →
 R (V.tup [E.agg [sD (dI (0 : Int)), sD (dI (0 : Int)), sD (dL ([] : DL))], eD (dI (50 : Int))]) []) ∧
 ((a1 != b0) = false →
 ∃ (r0 r1 : Int) (rrows : DLL),
 (FnD prog 60 [vD (dI a0), vD (dI b1)] (vA [sD (dI r0), sD (dI r1), S.ref 0]) [some (Obj.mat 2 rrows)]) ∧
 (∃ (J0 : (DLL) → Int → Prop) (μ0 : (DLL) → Int → Nat),
 J0 rrows (0 : Int) ∧ ∀ (o4 : DLL) (i : Int), J0 o4 i →
 (decide (i < a0) = true →
 ∃ (J1 : (DLL) → Int → Prop) (μ1 : (DLL) → Int → Nat),
 J1 o4 (0 : Int) ∧ ∀ (o41 : DLL) (j : Int), J1 o41 j →
 (decide (j < b1) = true →
 ∃ (J2 : (DLL) → Int → Prop) (μ2 : (DLL) → Int → Nat),
 J2 o41 (0 : Int) ∧ ∀ (o42 : DLL) (k : Int), J2 o42 k →
 (decide (k < a1) = true →
 ∃ (x0 : Bool) (x1 vx : DL) (x01 : Bool) (x11 vx1 : DL) (x02 : Bool) (x12 : DL) (r01 : Bool) (r11 : DL) (r02 : Bool) (r12 : DL),
 (0 ≤ i ∧ i < (o42.length : Int)) ∧
 (∃ l, o42[(i).toNat]? = some l ∧ 0 ≤ j ∧ j < (l.length : Int)) ∧
 (at2 o42 (i).toNat (j).toNat = some [dB x0, dL x1]) ∧
 (0 ≤ i ∧ i < (a2.length : Int)) ∧
 (a2[(i).toNat]? = some [dL vx]) ∧
 (0 ≤ k ∧ k < (vx.length : Int)) ∧
 (vx[(k).toNat]? = some [dB x01, dL x11]) ∧
 (0 ≤ k ∧ k < (b2.length : Int)) ∧
 (b2[(k).toNat]? = some [dL vx1]) ∧
 (0 ≤ j ∧ j < (vx1.length : Int)) ∧
 (vx1[(j).toNat]? = some [dB x02, dL x12]) ∧
 (FnD prog 91 [vA [sD (dB x01), sD (dL x11)], vA [sD (dB x02), sD (dL x12)]] (vA [sD (dB r01), sD (dL r11)]) []) ∧
 (FnD prog 24 [vA [sD (dB x0), sD (dL x1)], vA [sD (dB r01), sD (dL r11)]] (vA [sD (dB r02), sD (dL r12)]) []) ∧
 (J2 (o42.modify (i).toNat (fun qz => qz.set (j).toNat [dB r02, dL r12])) (IntKind.i64.wrap (k + (1 : Int))) ∧ μ2 (o42.modify (i).toNat (fun qz => qz.set (j).toNat [dB r02, dL r12])) (IntKind.i64.wrap (k + (1 : Int))) < μ2 o42 k)) ∧
 (decide (k < a1) = false →
 J1 o42 (IntKind.i64.wrap (j + (1 : Int))) ∧ μ1 o42 (IntKind.i64.wrap (j + (1 : Int))) < μ1 o41 j)) ∧
 (decide (j < b1) = false →
 J0 o41 (IntKind.i64.wrap (i + (1 : Int))) ∧ μ0 o41 (IntKind.i64.wrap (i + (1 : Int))) < μ0 o4 i)) ∧
 (decide (i < a0) = false →
 R (V.tup [E.agg [sD (dI r0), sD (dI r1), sD (dL (matD o4))], eD (dI (0 : Int))]) [])))
theorem vc72_ok (a0 a1 : Int) (a2 : DL) (b0 b1 : Int) (b2 : DL) {R : V → Heap → Prop} (h : vc72 a0 a1 a2 b0 b1 b2 R) : FnG prog 72 [vA [sD (dI a0), sD (dI a1), sD (dL a2)], vA [sD (dI b0), sD (dI b1), sD (dL b2)]] [] R :=
  FnG.vcg hT func72 ntmps72 (.reg 3 [(0, Or.none, 0, 1), (1, Or.none, 1, 1), (2, Or.none, 2, 1)] [2, 3, 4] [0, 1, 2] [] <| .r1 [2, 3, 4, 14] [0, 1, 2] <| .c2 (.r1 [4, 5] [2] <| .nrm [4, 5] [0] <| .ret []) (.ex fun r0 => .ex fun r1 => .exm fun rrows => .reg 2 [(4, Or.call (vA [sD (dI r0), sD (dI r1), S.ref 0]) [some (Obj.mat 2 rrows)] [], 3, 1), (5, Or.none, 4, 1)] [2, 3, 4, 6] [0, 1, 2, 4, 3] [] <| .r1 [2, 3, 4, 6, 7] [0, 1, 2, 3, 4] <| .lp [.m, .i] (fun o4 i => ⟨[(2, vP 0 0), (3, vP 1 0), (4, vP 2 0), (6, vP 3 0), (7, vD (dI i))], [some (Obj.box [sD (dI a0), sD (dI a1), sD (dL a2)]), some (Obj.box [sD (dI b0), sD (dI b1), sD (dL b2)]), some (Obj.box [sD (dI (0 : Int)), sD (dI (0 : Int)), sD (D.raw (.slice none 0 0))]), some (Obj.box [sD (dI r0), sD (dI r1), S.ref 4]), some (Obj.mat 2 o4)], 73⟩) [.m rrows, .i (0 : Int)] <| .fm fun o4 => .fi fun i => .beg <| .r1 [2, 3, 4, 6, 7, 24] [0, 1, 2, 3, 4] <| .c2 (.r1 [2, 3, 4, 6, 7, 8] [0, 1, 2, 3, 4] <| .lp [.m, .i] (fun o41 j => ⟨[(2, vP 0 0), (3, vP 1 0), (4, vP 2 0), (6, vP 3 0), (7, vD (dI i)), (8, vD (dI j))], [some (Obj.box [sD (dI a0), sD (dI a1), sD (dL a2)]), some (Obj.box [sD (dI b0), sD (dI b1), sD (dL b2)]), some (Obj.box [sD (dI (0 : Int)), sD (dI (0 : Int)), sD (D.raw (.slice none 0 0))]), some (Obj.box [sD (dI r0), sD (dI r1), S.ref 4]), some (Obj.mat 2 o41)], 73⟩) [.m o4, .i (0 : Int)] <| .fm fun o41 => .fi fun j => .beg <| .r1 [2, 3, 4, 6, 7, 8, 30] [0, 1, 2, 3, 4] <| .c2 (.r1 [2, 3, 4, 6, 7, 8, 9] [0, 1, 2, 3, 4] <| .lp [.m, .i] (fun o42 k => ⟨[(2, vP 0 0), (3, vP 1 0), (4, vP 2 0), (6, vP 3 0), (7, vD (dI i)), (8, vD (dI j)), (9, vD (dI k))], [some (Obj.box [sD (dI a0), sD (dI a1), sD (dL a2)]), some (Obj.box [sD (dI b0), sD (dI b1), sD (dL b2)]), some (Obj.box [sD (dI (0 : Int)), sD (dI (0 : Int)), sD (D.raw (.slice none 0 0))]), some (Obj.box [sD (dI r0), sD (dI r1), S.ref 4]), some (Obj.mat 2 o42)], 73⟩) [.m o41, .i (0 : Int)] <| .fm fun o42 => .fi fun k => .beg <| .r1 [2, 3, 4, 6, 7, 8, 9, 36] [0, 1, 2, 3, 4] <| .c2 (.exb fun x0 => .exl fun x1 => .exl fun vx => .exb fun x01 => .exl fun x11 => .exl fun vx1 => .exb fun x02 => .exl fun x12 => .exb fun r01 => .exl fun r11 => .exb fun r02 => .exl fun r12 => .drw 0 [(13, (Or.cells [dB x0, dL x1], 0, 0), []), (18, (Or.cells [dL vx], 0, 0), []), (21, (Or.cells [dB x01, dL x11], 0, 0), []), (26, (Or.cells [dL vx1], 0, 0), []), (29, (Or.cells [dB x02, dL x12], 0, 0), []), (30, (Or.call (vA [sD (dB r01), sD (dL r11)]) [] [], 0, 0), []), (31, (Or.call (vA [sD (dB r02), sD (dL r12)]) [] [], 0, 0), []), (33, (Or.none, 0, 0), [4])] [2, 3, 4, 6, 7, 8, 9] [0, 1, 2, 3, 4] [.new, .old 0, .new, .new, .new, .new, .new, .new, .new, .new, .new, .new, .new, .new, .old 11] <| .r1 [2, 3, 4, 6, 7, 8, 9] [0, 1, 2, 3, 4] <| .bk 0 [.m (o42.modify (i).toNat (fun qz => qz.set (j).toNat [dB r02, dL r12])), .i (IntKind.i64.wrap (k + (1 : Int)))]) (.r1 [2, 3, 4, 6, 7, 8] [0, 1, 2, 3, 4] <| .bk 1 [.m o42, .i (IntKind.i64.wrap (j + (1 : Int)))])) (.r1 [2, 3, 4, 6, 7] [0, 1, 2, 3, 4] <| .bk 1 [.m o41, .i (IntKind.i64.wrap (i + (1 : Int)))])) (.r1 [4, 5] [2, 4] <| .frz [1] <| .ret [])))
    (by kernel_rfl) (by kernel_rfl) (by kernel_rfl) h
def vc37 (a0 a1 : Int) (a2 : DL) (b0 b1 : Int) (b2 : DL) (R : V → Heap → Prop) : Prop :=
 ∃ (r0 r1 : Int) (r2 : DL) (r : Int),
 (FnD prog 72 [vA [sD (dI a0), sD (dI a1), sD (dL a2)], vA [sD (dI b0), sD (dI b1), sD (dL b2)]] (V.tup [E.agg [sD (dI r0), sD (dI r1), sD (dL r2)], eD (dI r)]) []) ∧
 (R (vA [sD (dI r0), sD (dI r1), sD (dL r2)]) [])
theorem vc37_ok (a0 a1 : Int) (a2 : DL) (b0 b1 : Int) (b2 : DL) {R : V → Heap → Prop} (h : vc37 a0 a1 a2 b0 b1 b2 R) : FnG prog 37 [vA [sD (dI a0), sD (dI a1), sD (dL a2)], vA [sD (dI b0), sD (dI b1), sD (dL b2)]] [] R :=
  FnG.vcg hT func37 ntmps37 (.reg 3 [(0, Or.none, 0, 1), (1, Or.none, 1, 1), (2, Or.none, 2, 1)] [2, 3, 4] [0, 1, 2] [] <| .ex fun r0 => .ex fun r1 => .exl fun r2 => .ex fun r => .reg 1 [(2, Or.call (V.tup [E.agg [sD (dI r0), sD (dI r1), sD (dL r2)], eD (dI r)]) [] [], 0, 0), (6, Or.none, 3, 1)] [4, 5] [2, 3] [] <| .r1 [4] [0] <| .ret [])
    (by kernel_rfl) (by kernel_rfl) (by kernel_rfl) h
def vc42 (a0 a1 : Int) (a2 : DL) (R : V → Heap → Prop) : Prop :=
 ∃ (r0 : Bool) (r1 : DL) (r01 r11 : Int) (rrows : DLL),
 (FnD prog 25 [vD (dI (1 : Int))] (vA [sD (dB r0), sD (dL r1)]) []) ∧
 (FnD prog 75 [vA [sD (dI a0), sD (dI a1), sD (dL a2)], vA [sD (dB r0), sD (dL r1)]] (vA [sD (dI r01), sD (dI r11), S.ref 0]) [some (Obj.mat 2 rrows)]) ∧
 (R (vA [sD (dI r01), sD (dI r11), S.ref 0]) [some (Obj.mat 2 rrows)])
theorem vc42_ok (a0 a1 : Int) (a2 : DL) {R : V → Heap → Prop} (h : vc42 a0 a1 a2 R) : FnG prog 42 [vA [sD (dI a0), sD (dI a1), sD (dL a2)]] [] R :=
  FnG.vcg hT func42 ntmps42 (.reg 2 [(0, Or.none, 0, 1), (1, Or.none, 1, 1)] [1, 2] [0, 1] [] <| .exb fun r0 => .exl fun r1 => .ex fun r01 => .ex fun r11 => .exm fun rrows => .drw 1 [(1, (Or.call (vA [sD (dB r0), sD (dL r1)]) [] [], 0, 0), []), (2, (Or.call (vA [sD (dI r01), sD (dI r11), S.ref 0]) [some (Obj.mat 2 rrows)] [], 2, 1), [2]), (3, (Or.none, 0, 0), [1])] [2] [1, 2] [] <| .ret [1])
    (by kernel_rfl) (by kernel_rfl) (by kernel_rfl) h
def vc27 (rows cols : Int) (v : DL) (R : V → Heap → Prop) : Prop :=
 ∃ (r0 r1 : Int) (rrows : DLL),
 (FnD prog 60 [vD (dI (if (16 : Int) < (if (0 : Int) > rows then (0 : Int) else rows) then (16 : Int) else (if (0 : Int) > rows then (0 : Int) else rows))), vD (dI (if (16 : Int) < (if (0 : Int) > cols then (0 : Int) else cols) then (16 : Int) else (if (0 : Int) > cols then (0 : Int) else cols)))] (vA [sD (dI r0), sD (dI r1), S.ref 0]) [some (Obj.mat 2 rrows)]) ∧
 (∃ (J0 : (DLL) → Int → Prop) (μ0 : (DLL) → Int → Nat),
 J0 rrows (0 : Int) ∧ ∀ (o2 : DLL) (i : Int), J0 o2 i →
 (decide (i < r0) = true →
 ∃ (J1 : (DLL) → Int → Prop) (μ1 : (DLL) → Int → Nat),
 J1 o2 (0 : Int) ∧ ∀ (o21 : DLL) (j : Int), J1 o21 j →
 (decide (j < r1) = true →
 ((decide ((IntKind.i64.wrap ((IntKind.i64.wrap (i * r1)) + j)) < (v.length : Int))) = true →
 ∃ (vx : Int) (r01 : Bool) (r11 : DL),
 (0 ≤ i ∧ i < (o21.length : Int)) ∧
 (0 ≤ (IntKind.i64.wrap ((IntKind.i64.wrap (i * r1)) + j)) ∧ (IntKind.i64.wrap ((IntKind.i64.wrap (i * r1)) + j)) < (v.length : Int)) ∧
 (v[((IntKind.i64.wrap ((IntKind.i64.wrap (i * r1)) + j))).toNat]? = some [D.int .i8 vx]) ∧
 ((10 : Int) ≠ 0) ∧
 (FnD prog 25 [vD (dI (IntKind.i64.wrap (vx.tmod (10 : Int))))] (vA [sD (dB r01), sD (dL r11)]) []) ∧
 (∃ l, o21[(i).toNat]? = some l ∧ 0 ≤ j ∧ j < (l.length : Int)) ∧
 (J1 (o21.modify (i).toNat (fun qz => qz.set (j).toNat [dB r01, dL r11])) (IntKind.i64.wrap (j + (1 : Int))) ∧ μ1 (o21.modify (i).toNat (fun qz => qz.set (j).toNat [dB r01, dL r11])) (IntKind.i64.wrap (j + (1 : Int))) < μ1 o21 j)) ∧
 ((decide ((IntKind.i64.wrap ((IntKind.i64.wrap (i * r1)) + j)) < (v.length : Int))) = false →
 J0 o21 (IntKind.i64.wrap (i + (1 : Int))) ∧ μ0 o21 (IntKind.i64.wrap (i + (1 : Int))) < μ0 o2 i)) ∧
 (decide (j < r1) = false →
 J0 o21 (IntKind.i64.wrap (i + (1 : Int))) ∧ μ0 o21 (IntKind.i64.wrap (i + (1 : Int))) < μ0 o2 i)) ∧
 (decide (i < r0) = false →
 R (vA [sD (dI r0), sD (dI r1), S.ref 0]) [some (Obj.mat 2 o2)]))
theorem vc27_ok (rows cols : Int) (v : DL) {R : V → Heap → Prop} (h : vc27 rows cols v R) : FnG prog 27 [vD (dI rows), vD (dI cols), vD (dL v)] [] R :=
  FnG.vcg hT func27 ntmps27 (.reg 1 [(0, Or.none, 0, 1)] [0, 1, 2, 6] [0] [] <| .ex fun r0 => .ex fun r1 => .exm fun rrows => .reg 2 [(6, Or.call (vA [sD (dI r0), sD (dI r1), S.ref 0]) [some (Obj.mat 2 rrows)] [], 1, 1), (7, Or.none, 2, 1)] [2, 6, 7] [0, 2, 1] [] <| .r1 [2, 6, 7, 8] [0, 1, 2] <| .lp [.m, .i] (fun o2 i => ⟨[(2, vD (dL v)), (6, vP 0 0), (7, vP 1 0), (8, vD (dI i))], [some (Obj.box [sD (dI (0 : Int)), sD (dI (0 : Int)), sD (D.raw (.slice none 0 0))]), some (Obj.box [sD (dI r0), sD (dI r1), S.ref 2]), some (Obj.mat 2 o2)], 60⟩) [.m rrows, .i (0 : Int)] <| .fm fun o2 => .fi fun i => .beg <| .r1 [2, 6, 7, 8, 20] [0, 1, 2] <| .c2 (.r1 [2, 6, 7, 8, 9] [0, 1, 2] <| .lp [.m, .i] (fun o21 j => ⟨[(2, vD (dL v)), (6, vP 0 0), (7, vP 1 0), (8, vD (dI i)), (9, vD (dI j))], [some (Obj.box [sD (dI (0 : Int)), sD (dI (0 : Int)), sD (D.raw (.slice none 0 0))]), some (Obj.box [sD (dI r0), sD (dI r1), S.ref 2]), some (Obj.mat 2 o21)], 60⟩) [.m o2, .i (0 : Int)] <| .fm fun o21 => .fi fun j => .beg <| .spl ((decide (j < r1))) (.reg 0 [(4, Or.bool true, 0, 0)] [2, 6, 7, 8, 9, 37] [0, 1, 2] [.old 0] <| .c2 (.ex fun vx => .exb fun r01 => .exl fun r11 => .drw 0 [(14, (Or.cells [D.int .i8 vx], 0, 0), []), (17, (Or.call (vA [sD (dB r01), sD (dL r11)]) [] [], 0, 0), []), (19, (Or.none, 0, 0), [2])] [2, 6, 7, 8, 9] [0, 1, 2] [] <| .r1 [2, 6, 7, 8, 9] [0, 1, 2] <| .bk 0 [.m (o21.modify (i).toNat (fun qz => qz.set (j).toNat [dB r01, dL r11])), .i (IntKind.i64.wrap (j + (1 : Int)))]) (.r1 [2, 6, 7, 8] [0, 1, 2] <| .bk 1 [.m o21, .i (IntKind.i64.wrap (i + (1 : Int)))])) (.reg 0 [(4, Or.bool false, 0, 0)] [2, 6, 7, 8, 9, 37] [0, 1, 2] [.old 0] <| .ct false none <| .r1 [2, 6, 7, 8] [0, 1, 2] <| .bk 1 [.m o21, .i (IntKind.i64.wrap (i + (1 : Int)))])) (.r1 [6] [0, 2] <| .ret [1]))
    (by kernel_rfl) (by kernel_rfl) (by kernel_rfl) h
def vc9 (x0 x1 : Int) (x2 : DL) (R : V → Heap → Prop) : Prop :=
 ∃ (r0 r1 : Int) (rrows : DLL),
 ((5 : Int) ≠ 0) ∧
 (FnD prog 27 [vD (dI (IntKind.i64.wrap (x0.tmod (5 : Int)))), vD (dI (IntKind.i64.wrap (x1.tmod (5 : Int)))), vD (dL x2)] (vA [sD (dI r0), sD (dI r1), S.ref 0]) [some (Obj.mat 2 rrows)]) ∧
 (R (vA [sD (dI r0), sD (dI r1), S.ref 0]) [some (Obj.mat 2 rrows)])
theorem vc9_ok (x0 x1 : Int) (x2 : DL) {R : V → Heap → Prop} (h : vc9 x0 x1 x2 R) : FnG prog 9 [vA [sD (D.int .u8 x0), sD (D.int .u8 x1), sD (dL x2)]] [] R :=
  FnG.vcg hT func9 ntmps9 (.reg 2 [(0, Or.none, 0, 1), (1, Or.none, 1, 1)] [1, 2] [0, 1] [] <| .ex fun r0 => .ex fun r1 => .exm fun rrows => .reg 1 [(10, Or.call (vA [sD (dI r0), sD (dI r1), S.ref 0]) [some (Obj.mat 2 rrows)] [], 2, 1)] [2] [1, 2] [.new, .old 0] <| .ret [1])
    (by kernel_rfl) (by kernel_rfl) (by kernel_rfl) h
def vc26 (rows cols : Int) (l : DL) (R : V → Heap → Prop) : Prop :=
 ∃ (r0 r1 : Int) (rrows : DLL),
 (FnD prog 60 [vD (dI rows), vD (dI cols)] (vA [sD (dI r0), sD (dI r1), S.ref 0]) [some (Obj.mat 2 rrows)]) ∧
 (∃ (J0 : (DLL) → Int → Prop) (μ0 : (DLL) → Int → Nat),
 J0 rrows (0 : Int) ∧ ∀ (o2 : DLL) (i : Int), J0 o2 i →
 (decide (i < rows) = true →
 ∃ (J1 : (DLL) → Int → Prop) (μ1 : (DLL) → Int → Nat),
 J1 o2 (0 : Int) ∧ ∀ (o21 : DLL) (j : Int), J1 o21 j →
 (decide (j < cols) = true →
 ((decide ((IntKind.i64.wrap ((IntKind.i64.wrap (i * cols)) + j)) < (l.length : Int))) = true →
 ∃ (vx : Int) (r01 : Bool) (r11 : DL),
 (0 ≤ i ∧ i < (o21.length : Int)) ∧
 (0 ≤ (IntKind.i64.wrap ((IntKind.i64.wrap (i * cols)) + j)) ∧ (IntKind.i64.wrap ((IntKind.i64.wrap (i * cols)) + j)) < (l.length : Int)) ∧
 (l[((IntKind.i64.wrap ((IntKind.i64.wrap (i * cols)) + j))).toNat]? = some [dI vx]) ∧
 (FnD prog 25 [vD (dI vx)] (vA [sD (dB r01), sD (dL r11)]) []) ∧
 (∃ l, o21[(i).toNat]? = some l ∧ 0 ≤ j ∧ j < (l.length : Int)) ∧
 (J1 (o21.modify (i).toNat (fun qz => qz.set (j).toNat [dB r01, dL r11])) (IntKind.i64.wrap (j + (1 : Int))) ∧ μ1 (o21.modify (i).toNat (fun qz => qz.set (j).toNat [dB r01, dL r11])) (IntKind.i64.wrap (j + (1 : Int))) < μ1 o21 j)) ∧
 ((decide ((IntKind.i64.wrap ((IntKind.i64.wrap (i * cols)) + j)) < (l.length : Int))) = false →
 J0 o21 (IntKind.i64.wrap (i + (1 : Int))) ∧ μ0 o21 (IntKind.i64.wrap (i + (1 : Int))) < μ0 o2 i)) ∧
 (decide (j < cols) = false →
 J0 o21 (IntKind.i64.wrap (i + (1 : Int))) ∧ μ0 o21 (IntKind.i64.wrap (i + (1 : Int))) < μ0 o2 i)) ∧
 (decide (i < rows) = false →
 R (vA [sD (dI r0), sD (dI r1), S.ref 0]) [some (Obj.mat 2 o2)]))
theorem vc26_ok (rows cols : Int) (l : DL) {R : V → Heap → Prop} (h : vc26 rows cols l R) : FnG prog 26 [vD (dI rows), vD (dI cols), vD (dL l)] [] R :=
  FnG.vcg hT func26 ntmps26 (.reg 1 [(0, Or.none, 0, 1)] [0, 1, 2, 6] [0] [] <| .ex fun r0 => .ex fun r1 => .exm fun rrows => .reg 2 [(2, Or.call (vA [sD (dI r0), sD (dI r1), S.ref 0]) [some (Obj.mat 2 rrows)] [], 1, 1), (3, Or.none, 2, 1)] [0, 1, 2, 6, 7] [0, 2, 1] [] <| .r1 [0, 1, 2, 6, 7, 8] [0, 1, 2] <| .lp [.m, .i] (fun o2 i => ⟨[(0, vD (dI rows)), (1, vD (dI cols)), (2, vD (dL l)), (6, vP 0 0), (7, vP 1 0), (8, vD (dI i))], [some (Obj.box [sD (dI (0 : Int)), sD (dI (0 : Int)), sD (D.raw (.slice none 0 0))]), some (Obj.box [sD (dI r0), sD (dI r1), S.ref 2]), some (Obj.mat 2 o2)], 50⟩) [.m rrows, .i (0 : Int)] <| .fm fun o2 => .fi fun i => .beg <| .r1 [0, 1, 2, 6, 7, 8, 15] [0, 1, 2] <| .c2 (.r1 [0, 1, 2, 6, 7, 8, 9] [0, 1, 2] <| .lp [.m, .i] (fun o21 j => ⟨[(0, vD (dI rows)), (1, vD (dI cols)), (2, vD (dL l)), (6, vP 0 0), (7, vP 1 0), (8, vD (dI i)), (9, vD (dI j))], [some (Obj.box [sD (dI (0 : Int)), sD (dI (0 : Int)), sD (D.raw (.slice none 0 0))]), some (Obj.box [sD (dI r0), sD (dI r1), S.ref 2]), some (Obj.mat 2 o21)], 50⟩) [.m o2, .i (0 : Int)] <| .fm fun o21 => .fi fun j => .beg <| .spl ((decide (j < cols))) (.reg 0 [(3, Or.bool true, 0, 0)] [0, 1, 2, 6, 7, 8, 9, 30] [0, 1, 2] [.old 0] <| .c2 (.ex fun vx => .exb fun r01 => .exl fun r11 => .drw 0 [(13, (Or.cells [dI vx], 0, 0), []), (14, (Or.call (vA [sD (dB r01), sD (dL r11)]) [] [], 0, 0), []), (16, (Or.none, 0, 0), [2])] [0, 1, 2, 6, 7, 8, 9] [0, 1, 2] [] <| .r1 [0, 1, 2, 6, 7, 8, 9] [0, 1, 2] <| .bk 0 [.m (o21.modify (i).toNat (fun qz => qz.set (j).toNat [dB r01, dL r11])), .i (IntKind.i64.wrap (j + (1 : Int)))]) (.r1 [0, 1, 2, 6, 7, 8] [0, 1, 2] <| .bk 1 [.m o21, .i (IntKind.i64.wrap (i + (1 : Int)))])) (.reg 0 [(3, Or.bool false, 0, 0)] [0, 1, 2, 6, 7, 8, 9, 30] [0, 1, 2] [.old 0] <| .ct false none <| .r1 [0, 1, 2, 6, 7, 8] [0, 1, 2] <| .bk 1 [.m o21, .i (IntKind.i64.wrap (i + (1 : Int)))])) (.r1 [6] [0, 2] <| .ret [1]))
    (by kernel_rfl) (by kernel_rfl) (by kernel_rfl) h
end Go.AM
/- What the functions of package matrix, and of its reference, answer: tables, validity, comparing. -/
namespace Go.AM
open Go.Proofs.Tryz
def Mx (r c : Nat) (m : List (List Int)) : Prop := m.length = r ∧ ∀ x ∈ m, x.length = c
def SzR (r : List Int) : Prop := ∀ z ∈ r, Sz z
def SzM (m : List (List Int)) : Prop := ∀ r ∈ m, SzR r
def tableR (c : Nat) (g : Nat → Int) : List Int := (List.range c).map g
def table (r c : Nat) (g : Nat → Nat → Int) : List (List Int) := (List.range r).map fun i => tableR c (g i)
theorem table_mx (r c : Nat) (g : Nat → Nat → Int) : Mx r c (table r c g) := ⟨by simp [table], fun x hx => by
  simp only [table, List.mem_map] at hx
  obtain ⟨i, _, rfl⟩ := hx; simp [tableR]⟩
def el (m : List (List Int)) (i j : Nat) : Int := (m.getD i []).getD j 0
def elr (r : List Int) (j : Nat) : Int := r.getD j 0
theorem row_getI {r : List Int} {i : Int} (h0 : 0 ≤ i) (h : i < (r.length : Int)) : (row r)[i.toNat]? = some (cI (elr r i.toNat)) := by
  have hi : i.toNat < r.length := by omega
  rw [row_get hi]; simp [elr, List.getElem?_eq_getElem hi]
theorem rows_getI {m : List (List Int)} {i : Int} (h0 : 0 ≤ i) (h : i < (m.length : Int)) : (rows m)[i.toNat]? = some [D.sl (row (m.getD i.toNat []))] := by
  have hi : i.toNat < m.length := by omega
  rw [rows_get hi]; simp [List.getElem?_eq_getElem hi]
theorem row_getN {r : List Int} {i : Nat} (h : i < r.length) : (row r)[(i : Int).toNat]? = some (cI (elr r i)) := by
  have := row_getI (r := r) (i := (i : Int)) (by omega) (by omega)
  rwa [Int.toNat_natCast] at this ⊢
theorem rows_getN {m : List (List Int)} {i : Nat} (h : i < m.length) : (rows m)[(i : Int).toNat]? = some [D.sl (row (m.getD i []))] := by
  have := rows_getI (m := m) (i := (i : Int)) (by omega) (by omega)
  rwa [Int.toNat_natCast] at this ⊢
theorem inc64 {i : Nat} (h : i ≤ 4611686018427387904) : IntKind.i64.wrap ((i : Int) + 1) = ((i + 1 : Nat) : Int) := by rw [w64 (by omega) (by omega)]; simp
def part (r c : Nat) (g : Nat → Nat → Int) (i : Nat) : DLL := (List.range r).map fun k => if k < i then row (tableR c (g k)) else []
theorem part_all (r c : Nat) (g : Nat → Nat → Int) : matD (part r c g r) = rows (table r c g) := by
  unfold matD part rows table
  rw [List.map_map, List.map_map]
  apply List.map_congr_left
  intro k hk
  simp [List.mem_range.1 hk]
theorem cI_zero : cI 0 = [D.bool false, D.sl ([] : DL)] := rfl
theorem part_set (r c : Nat) (g : Nat → Nat → Int) (i : Nat) (hi : i < r) : (part r c g i).set i (row (tableR c (g i))) = part r c g (i + 1) := by
  apply List.ext_getElem?
  intro k
  unfold part
  by_cases hk : k = i
  · subst hk; simp [hi]
  · rw [List.getElem?_set_ne (Ne.symm hk)]
    simp only [List.getElem?_map]
    by_cases hkr : k < r
    · simp only [List.getElem?_range hkr, Option.map_some]
      congr 1
      by_cases h1 : k < i
      · rw [if_pos h1, if_pos (by omega)]
      · rw [if_neg h1, if_neg (by omega)]
    · rw [List.getElem?_eq_none (by simpa using hkr)]; rfl
def partR (c : Nat) (g : Nat → Int) (j : Nat) : List Int := (List.range c).map fun k => if k < j then g k else 0
theorem partR_all (c : Nat) (g : Nat → Int) : partR c g c = tableR c g := by
  unfold partR tableR
  apply List.map_congr_left
  intro k hk
  simp [List.mem_range.1 hk]
theorem partR_zero (c : Nat) (g : Nat → Int) : row (partR c g 0) = List.replicate c [D.bool false, D.sl ([] : DL)] := by
  unfold partR row
  rw [List.map_map]
  have : (cI ∘ fun k => if k < 0 then g k else (0 : Int)) = fun _ => [D.bool false, D.sl ([] : DL)] := by funext k; simp [cI_zero]
  rw [this, List.map_const']; simp
theorem partR_set (c : Nat) (g : Nat → Int) (j : Nat) (hj : j < c) : (row (partR c g j)).set j (cI (g j)) = row (partR c g (j + 1)) := by
  apply List.ext_getElem?
  intro k
  unfold partR row
  by_cases hk : k = j
  · subst hk; simp [hj]
  · rw [List.getElem?_set_ne (Ne.symm hk)]
    simp only [List.getElem?_map]
    by_cases hkr : k < c
    · simp only [List.getElem?_range hkr, Option.map_some]
      congr 1
      by_cases h1 : k < j
      · rw [if_pos h1, if_pos (by omega)]
      · rw [if_neg h1, if_neg (by omega)]
    · rw [List.getElem?_eq_none (by simpa using hkr)]; rfl
theorem build_ok {r c : Nat} (hr : r ≤ 4294967296) (hc : c ≤ 4294967296) {f : FuncId} {fc : List D} {g : Nat → Nat → Int}
    (hf : ∀ i j : Nat, i < r → j < c → FnD prog f ([vi i, vi j] ++ fc.map dV) (eI (g i j)) []) :
    FnD prog 61 [vi r, vi c, .e (.sc (.dat (.fn (.func f) fc)))] (eM r c (table r c g)) [] := by
  refine vc61_ok r c f fc (R := Out _) ?_
  unfold vc61
  refine ⟨⟨by omega, by omega, by omega⟩, fun o t => ∃ i : Nat, t = (i : Int) ∧ i ≤ r ∧ o = part r c g i, fun _ t => ((r : Int) - t).toNat, ⟨0, rfl, by omega, ?_⟩, ?_⟩
  · unfold part
    rw [Int.toNat_natCast]
    have : (fun k => if k < 0 then row (tableR c (g k)) else ([] : DL)) = fun _ => [] := by funext k; simp
    rw [this, List.map_const']; simp
  rintro _ _ ⟨i, rfl, hi, rfl⟩
  have hlen : ∀ i, (part r c g i).length = r := fun i => by simp [part]
  refine ⟨fun h => ?_, fun h => ?_⟩
  · have hir : i < r := by simpa using h
    refine ⟨⟨by omega, by omega, by omega⟩, ⟨by omega, by rw [hlen]; omega⟩, fun o t => ∃ j : Nat, t = (j : Int) ∧ j ≤ c ∧ o = (part r c g i).set i (row (partR c (g i) j)), fun _ t => ((c : Int) - t).toNat, ⟨0, rfl, by omega, ?_⟩, ?_⟩
    · rw [Int.toNat_natCast, Int.toNat_natCast, partR_zero]
    rintro _ _ ⟨j, rfl, hj, rfl⟩
    refine ⟨fun h2 => ?_, fun h2 => ?_⟩
    · have hjc : j < c := by simpa using h2
      refine ⟨decide (g i j < 0), lim (dz (g i j)), ⟨by omega, by simp [hlen]; omega⟩, hf i j hir hjc, ⟨row (partR c (g i) j), by rw [Int.toNat_natCast]; simp [hlen, hir], by omega, by simp [row_length, partR]; omega⟩, ?_⟩
      rw [inc64 (by omega)]
      refine ⟨⟨j + 1, rfl, by omega, ?_⟩, by show ((c : Int) - ((j + 1 : Nat) : Int)).toNat < ((c : Int) - (j : Int)).toNat; omega⟩
      rw [Int.toNat_natCast, Int.toNat_natCast]
      have e1 : ((part r c g i).set i (row (partR c (g i) j))).modify i (fun q => q.set j [D.bool (decide (g i j < 0)), D.sl (lim (dz (g i j)))]) = (part r c g i).set i ((row (partR c (g i) j)).set j (cI (g i j))) := by
        apply List.ext_getElem?
        intro k
        rw [List.getElem?_modify]
        by_cases hk : i = k
        · subst hk; simp [hlen, hir]; rfl
        · simp [hk, List.getElem?_set_ne hk]
      rw [e1, partR_set c (g i) j hjc]
    · have hjc : j = c := by have : c ≤ j := by simpa using h2
                             omega
      subst hjc
      rw [inc64 (by omega)]
      refine ⟨⟨i + 1, rfl, by omega, ?_⟩, by show ((r : Int) - ((i + 1 : Nat) : Int)).toNat < ((r : Int) - (i : Int)).toNat; omega⟩
      rw [partR_all, part_set r j g i hir]
  · have hir : i = r := by have : r ≤ i := by simpa using h
                           omega
    subst hir
    rw [part_all]
    exact ⟨rfl, rfl⟩
theorem validVec_ok {r : List Int} (hr : SzR r) (hl : r.length ≤ 4294967296) : FnD prog 71 [vs (row r)] (vb true) [] := by
  refine vc71_ok (row r) (R := Out _) ?_
  unfold vc71
  simp only [row_length]
  refine ⟨fun t => ∃ i : Nat, t = (i : Int) ∧ i ≤ r.length, fun t => ((r.length : Int) - t).toNat, ⟨0, rfl, by omega⟩, ?_⟩
  rintro _ ⟨i, rfl, hi⟩
  refine ⟨fun h => ?_, fun h => outb rfl⟩
  have hir : i < r.length := by simpa using h
  refine ⟨decide (elr r i < 0), lim (dz (elr r i)), true, ⟨by omega, by omega⟩, row_getN hir, rvalid_ok _ (hr _ ?_), fun h2 => by simp at h2, fun _ => ?_⟩
  · simp [elr, List.getElem?_eq_getElem hir]
  · rw [inc64 (by omega)]
    exact ⟨⟨i + 1, rfl, by omega⟩, by show ((r.length : Int) - ((i + 1 : Nat) : Int)).toNat < ((r.length : Int) - (i : Int)).toNat; omega⟩
theorem getD_mem {α : Type} {l : List α} {i : Nat} {d : α} (h : i < l.length) : l.getD i d ∈ l := by
  rw [List.getD_eq_getElem?_getD, List.getElem?_eq_getElem h]; exact List.getElem_mem h
theorem rvalidM_ok {r c : Nat} {m : List (List Int)} (hm : Mx r c m) (hs : SzM m) (hr : r ≤ 4294967296) (hc : c ≤ 4294967296) : FnD prog 35 [eM r c m] (vb true) [] := by
  obtain ⟨h1, h2⟩ := hm
  refine vc35_ok _ _ _ (R := Out _) ?_
  unfold vc35
  simp only [rows_length]
  refine ⟨fun h => ?_, fun _ => ⟨fun h => ?_, fun _ => ⟨fun h => ?_, fun _ => ⟨fun t => ∃ i : Nat, t = (i : Int) ∧ i ≤ m.length, fun t => ((m.length : Int) - t).toNat, ⟨0, rfl, by omega⟩, ?_⟩⟩⟩⟩
  · simp at h; omega
  · simp at h; omega
  · simp [h1] at h
  rintro _ ⟨i, rfl, hi⟩
  refine ⟨fun h => ?_, fun h => outb rfl⟩
  have hir : i < m.length := by simpa using h
  have hin : m.getD i [] ∈ m := getD_mem hir
  have hlen := h2 _ hin
  refine ⟨row (m.getD i []), ⟨by omega, by omega⟩, by simpa using rows_getI (m := m) (i := (i : Int)) (by omega) (by omega), fun h3 => ?_, fun _ => ⟨true, validVec_ok (hs _ hin) (by omega), fun h4 => by simp at h4, fun _ => ?_⟩⟩
  · rw [row_length, hlen] at h3; simp at h3
  · rw [inc64 (by omega)]
    exact ⟨⟨i + 1, rfl, by omega⟩, by show ((m.length : Int) - ((i + 1 : Nat) : Int)).toNat < ((m.length : Int) - (i : Int)).toNat; omega⟩
end Go.AM
/- What the functions of package matrix, and of its reference, answer: comparing, transposing, multiplying. -/
namespace Go.AM
open Go.Proofs.Tryz
theorem elr_mem {r : List Int} {i : Nat} (h : i < r.length) : elr r i ∈ r := getD_mem h
theorem list_ext {a b : List Int} (hl : a.length = b.length) (h : ∀ k, k < a.length → elr a k = elr b k) : a = b := by
  apply List.ext_getElem hl
  intro i h1 h2
  have := h i h1
  simpa [elr, List.getElem?_eq_getElem h1, List.getElem?_eq_getElem h2] using this
theorem lists_ext {a b : List (List Int)} (hl : a.length = b.length) (h : ∀ k, k < a.length → a.getD k [] = b.getD k []) : a = b := by
  apply List.ext_getElem hl
  intro i h1 h2
  have := h i h1
  simpa [List.getElem?_eq_getElem h1, List.getElem?_eq_getElem h2] using this
theorem sameVec_ok {a b : List Int} (ha : SzR a) (hb : SzR b) (hl : a.length ≤ 4294967296) : FnD prog 48 [vs (row a), vs (row b)] (vb (decide (a = b))) [] := by
  refine vc48_ok _ _ (R := Out _) ?_
  unfold vc48
  simp only [row_length]
  refine ⟨fun h => outb ?_, fun h => ?_⟩
  · have h : ¬ ((a.length : Int) = (b.length : Int)) := by simpa using h
    rw [eq_comm, decide_eq_false_iff_not]
    intro e; subst e; exact h rfl
  · have hlen : a.length = b.length := by
      have : (a.length : Int) = (b.length : Int) := by simpa using h
      omega
    refine ⟨fun t => ∃ i : Nat, t = (i : Int) ∧ i ≤ a.length ∧ ∀ k, k < i → elr a k = elr b k, fun t => ((a.length : Int) - t).toNat, ⟨0, rfl, by omega, fun k hk => by omega⟩, ?_⟩
    rintro _ ⟨i, rfl, hi, hinv⟩
    refine ⟨fun h2 => ?_, fun h2 => outb ?_⟩
    · have hia : i < a.length := by simpa using h2
      have hib : i < b.length := by omega
      refine ⟨_, _, _, _, decide (elr a i = elr b i), ⟨by omega, by omega⟩, row_getN hia, ⟨by omega, by omega⟩, row_getN hib, rsame_ok (ha _ (elr_mem hia)) (hb _ (elr_mem hib)), fun h3 => outb ?_, fun h3 => ?_⟩
      · rw [eq_comm, decide_eq_false_iff_not]
        intro e; subst e; simp at h3
      · have he : elr a i = elr b i := by simpa using h3
        rw [inc64 (by omega)]
        refine ⟨⟨i + 1, rfl, by omega, fun k hk => ?_⟩, by show ((a.length : Int) - ((i + 1 : Nat) : Int)).toNat < ((a.length : Int) - (i : Int)).toNat; omega⟩
        by_cases hki : k = i
        · subst hki; exact he
        · exact hinv k (by omega)
    · have hia : i = a.length := by have : a.length ≤ i := by simpa using h2
                                    omega
      have : a = b := list_ext hlen fun k hk => hinv k (by omega)
      simp [this]
theorem same_ok {r c r' c' : Int} {a b : List (List Int)} (ha : SzM a) (hb : SzM b) (hl : a.length ≤ 4294967296) (hc : ∀ x ∈ a, x.length ≤ 4294967296) :
    FnD prog 22 [eM r c a, eM r' c' b] (vb (decide (r = r' ∧ c = c' ∧ a = b))) [] := by
  refine vc22_ok _ _ _ _ _ _ (R := Out _) ?_
  unfold vc22
  simp only [rows_length]
  refine ⟨fun h => outb ?_, fun h => ⟨fun h2 => outb ?_, fun h2 => ⟨fun h3 => outb ?_, fun h3 => ?_⟩⟩⟩
  · have h : ¬ r = r' := by simpa using h
    simp [h]
  · have h2 : ¬ c = c' := by simpa using h2
    simp [h2]
  · have h3 : ¬ ((a.length : Int) = (b.length : Int)) := by simpa using h3
    rw [eq_comm, decide_eq_false_iff_not]
    rintro ⟨_, _, e⟩; subst e; exact h3 rfl
  · have h : r = r' := by simpa using h
    have h2 : c = c' := by simpa using h2
    have hlen : a.length = b.length := by
      have : (a.length : Int) = (b.length : Int) := by simpa using h3
      omega
    refine ⟨fun t => ∃ i : Nat, t = (i : Int) ∧ i ≤ a.length ∧ ∀ k, k < i → a.getD k [] = b.getD k [], fun t => ((a.length : Int) - t).toNat, ⟨0, rfl, by omega, fun k hk => by omega⟩, ?_⟩
    rintro _ ⟨i, rfl, hi, hinv⟩
    refine ⟨fun h4 => ?_, fun h4 => outb ?_⟩
    · have hia : i < a.length := by simpa using h4
      have hib : i < b.length := by omega
      refine ⟨_, _, decide (a.getD i [] = b.getD i []), ⟨by omega, by omega⟩, rows_getN hia, ⟨by omega, by omega⟩, rows_getN hib, sameVec_ok (ha _ (getD_mem hia)) (hb _ (getD_mem hib)) (hc _ (getD_mem hia)), fun h5 => outb ?_, fun h5 => ?_⟩
      · rw [eq_comm, decide_eq_false_iff_not]
        rintro ⟨_, _, e⟩; subst e; simp at h5
      · have he : a.getD i [] = b.getD i [] := by simpa using h5
        rw [inc64 (by omega)]
        refine ⟨⟨i + 1, rfl, by omega, fun k hk => ?_⟩, by show ((a.length : Int) - ((i + 1 : Nat) : Int)).toNat < ((a.length : Int) - (i : Int)).toNat; omega⟩
        by_cases hki : k = i
        · subst hki; exact he
        · exact hinv k (by omega)
    · have hia : i = a.length := by have : a.length ≤ i := by simpa using h4
                                    omega
      have : a = b := lists_ext hlen fun k hk => hinv k (by omega)
      simp [this, h, h2]
theorem sized_ok {r c : Nat} {m : List (List Int)} (hm : Mx r c m) (hs : SzM m) (hr : r ≤ 4294967296) (hc : c ≤ 4294967296) (r' c' : Int) :
    FnD prog 36 [eM r c m, vi r', vi c'] (vb (decide ((r : Int) = r' ∧ (c : Int) = c'))) [] := by
  refine vc36_ok _ _ _ _ _ (R := Out _) ?_
  unfold vc36
  refine ⟨fun h => ⟨fun h2 => ⟨true, rvalidM_ok hm hs hr hc, outb ?_⟩, fun h2 => outb ?_⟩, fun h => outb ?_⟩
  · have h : (r : Int) = r' := by simpa using h
    have h2 : (c : Int) = c' := by simpa using h2
    simp [h, h2]
  · have h2 : ¬ (c : Int) = c' := by simpa using h2
    simp [h2]
  · have h : ¬ (r : Int) = r' := by simpa using h
    simp [h]
theorem el_mem {r c : Nat} {m : List (List Int)} (hm : Mx r c m) {i j : Nat} (hi : i < r) (_hj : j < c) : (m.getD i []).length = c ∧ m.getD i [] ∈ m := by
  have h1 : i < m.length := by rw [hm.1]; exact hi
  exact ⟨hm.2 _ (getD_mem h1), getD_mem h1⟩
theorem read_el {r c : Nat} {m : List (List Int)} (hm : Mx r c m) {i j : Nat} (hi : i < r) (hj : j < c) :
    (rows m)[(i : Int).toNat]? = some [D.sl (row (m.getD i []))] ∧ (row (m.getD i []))[(j : Int).toNat]? = some (cI (el m i j)) ∧ ((j : Int) < ((row (m.getD i [])).length : Int)) ∧ ((i : Int) < ((rows m).length : Int)) := by
  have h1 : i < m.length := by rw [hm.1]; exact hi
  have h2 := (el_mem hm hi hj).1
  refine ⟨rows_getN h1, row_getN (by omega), by rw [row_length]; omega, by rw [rows_length]; omega⟩
theorem transpose_ok {r c : Nat} {m : List (List Int)} (hm : Mx r c m) (hr : r ≤ 4294967296) (hc : c ≤ 4294967296) : FnD prog 103 [eM r c m] (eM c r (table c r fun i j => el m j i)) [] := by
  refine vc103_ok _ _ _ (R := Out _) ?_
  unfold vc103
  refine ⟨_, _, _, build_ok hc hr (g := fun i j => el m j i) fun i j hi hj => ?_, rfl, rfl⟩
  refine vc121_ok _ _ _ _ _ (R := Out _) ?_
  unfold vc121
  obtain ⟨e1, e2, e3, e4⟩ := read_el hm hj hi
  exact ⟨_, _, _, ⟨by omega, e4⟩, e1, ⟨by omega, e3⟩, e2, rfl, rfl⟩
def dsum (f g : Nat → Int) : Nat → Int
  | 0 => 0
  | n + 1 => dsum f g n + f n * g n
def BdR (K : Nat) (r : List Int) : Prop := ∀ z ∈ r, z.natAbs ≤ K
def BdM (K : Nat) (m : List (List Int)) : Prop := ∀ r ∈ m, BdR K r
theorem sz_of {z : Int} (h : z.natAbs ≤ 497323236409786642155382248146820840100456150797347717440463976893159497012533375533056) : Sz z :=
  Sz.of_lt 10 (by decide) (Nat.lt_of_le_of_lt h (by decide))
theorem BdR.sz {K : Nat} {r : List Int} (h : BdR K r) (hK : K ≤ 497323236409786642155382248146820840100456150797347717440463976893159497012533375533056) : SzR r := fun z hz => sz_of (Nat.le_trans (h z hz) hK)
theorem BdM.sz {K : Nat} {m : List (List Int)} (h : BdM K m) (hK : K ≤ 497323236409786642155382248146820840100456150797347717440463976893159497012533375533056) : SzM m := fun r hr => (h r hr).sz hK
theorem mul_natAbs_le {x y : Int} {K L : Nat} (hx : x.natAbs ≤ K) (hy : y.natAbs ≤ L) : (x * y).natAbs ≤ K * L := by rw [Int.natAbs_mul]; exact Nat.mul_le_mul hx hy
theorem dsum_le {f g : Nat → Int} {K L : Nat} : ∀ n, (∀ k, k < n → (f k).natAbs ≤ K) → (∀ k, k < n → (g k).natAbs ≤ L) → (dsum f g n).natAbs ≤ n * (K * L)
  | 0, _, _ => by simp [dsum]
  | n + 1, hf, hg => by
    have h1 := dsum_le n (fun k hk => hf k (by omega)) fun k hk => hg k (by omega)
    have h2 := mul_natAbs_le (hf n (by omega)) (hg n (by omega))
    have h3 := Int.natAbs_add_le (dsum f g n) (f n * g n)
    simp only [dsum]
    rw [Nat.add_mul]; omega
theorem dstep_ok {s x y : Int} (hs : Sz s) (hx : Sz x) (hy : Sz y) (hp : Sz (x * y)) : FnD prog 123 [eI s, eI x, eI y] (eI (s + x * y)) [] := by
  refine vc123_ok _ _ _ _ _ _ (R := Out _) ?_
  unfold vc123
  refine ⟨_, sign_ok x, fun h => oute ?_, fun h => ⟨_, sign_ok y, fun h2 => oute ?_, fun h2 => ⟨_, _, _, _, mul_ok hx hy, add_ok hs hp, oute rfl⟩⟩⟩
  · have hx0 : x = 0 := by
      apply Classical.byContradiction
      intro hn
      rw [if_neg hn] at h
      by_cases h1 : x < 0
      · rw [if_pos h1] at h; simp at h
      · rw [if_neg h1] at h; simp at h
    subst hx0; simp
  · have hy0 : y = 0 := by
      apply Classical.byContradiction
      intro hn
      rw [if_neg hn] at h2
      by_cases h1 : y < 0
      · rw [if_pos h1] at h2; simp at h2
      · rw [if_neg h1] at h2; simp at h2
    subst hy0; simp
end Go.AM
/- What the functions of package matrix answer: products, sums, new matrices. -/
namespace Go.AM
open Go.Proofs.Tryz
def eME (r c : Int) (m : List (List Int)) (e : Int) : V := .tup [.agg [.dat (.int .i64 r), .dat (.int .i64 c), .dat (.sl (rows m))], .sc (.dat (.int .i64 e))]
theorem table_congr {r c : Nat} {f g : Nat → Nat → Int} (h : ∀ i j, i < r → j < c → f i j = g i j) : table r c f = table r c g := by
  unfold table tableR
  apply List.map_congr_left
  intro i hi
  apply List.map_congr_left
  intro j hj
  exact h i j (List.mem_range.1 hi) (List.mem_range.1 hj)
theorem getD_table {r c : Nat} {g : Nat → Nat → Int} {i : Nat} (hi : i < r) : (table r c g).getD i [] = tableR c (g i) := by simp [table, hi]
theorem elr_tableR {c : Nat} {g : Nat → Int} {j : Nat} (hj : j < c) : elr (tableR c g) j = g j := by simp [elr, tableR, hj]
theorem el_table {r c : Nat} {g : Nat → Nat → Int} {i j : Nat} (hi : i < r) (hj : j < c) : el (table r c g) i j = g i j := by
  unfold el
  rw [getD_table hi]
  exact elr_tableR hj
theorem table_bd {r c K : Nat} {g : Nat → Nat → Int} (h : ∀ i j, i < r → j < c → (g i j).natAbs ≤ K) : BdM K (table r c g) := fun x hx z hz => by
  simp only [table, List.mem_map, List.mem_range] at hx
  obtain ⟨i, hi, rfl⟩ := hx
  simp only [tableR, List.mem_map, List.mem_range] at hz
  obtain ⟨j, hj, rfl⟩ := hz
  exact h i j hi hj
theorem el_bd {r c K : Nat} {m : List (List Int)} (hm : Mx r c m) (hb : BdM K m) {i j : Nat} (hi : i < r) (hj : j < c) : (el m i j).natAbs ≤ K := by
  obtain ⟨h1, h2⟩ := el_mem hm hi hj
  exact hb _ h2 _ (getD_mem (by omega))
theorem mx_table {r c : Nat} {m : List (List Int)} (hm : Mx r c m) : m = table r c (el m) := by
  refine lists_ext (by rw [hm.1]; simp [table]) fun k hk => ?_
  rw [hm.1] at hk
  rw [getD_table hk]
  by_cases hc : c = 0
  · subst hc
    have h1 : k < m.length := by rw [hm.1]; exact hk
    have := hm.2 _ (getD_mem (d := []) h1)
    rw [List.length_eq_zero_iff] at this
    rw [this]; rfl
  · refine list_ext (by rw [(el_mem hm hk (j := 0) (by omega)).1]; simp [tableR]) fun j hj => ?_
    rw [(el_mem hm hk (j := 0) (by omega)).1] at hj
    rw [elr_tableR hj]; rfl
theorem dsum_congr {f f' g g' : Nat → Int} : ∀ n, (∀ k, k < n → f k = f' k) → (∀ k, k < n → g k = g' k) → dsum f g n = dsum f' g' n
  | 0, _, _ => rfl
  | n + 1, h1, h2 => by
    simp only [dsum]
    rw [dsum_congr n (fun k hk => h1 k (by omega)) fun k hk => h2 k (by omega), h1 n (by omega), h2 n (by omega)]
def mmul (r n c : Nat) (a b : List (List Int)) : List (List Int) := table r c fun i j => dsum (fun k => el a i k) (fun k => el b k j) n
def delta (i j : Nat) : Int := if i = j then 1 else 0
theorem mident_ok {n : Nat} (hn : n ≤ 4294967296) : FnD prog 28 [vi n] (eM n n (table n n delta)) [] := by
  refine vc28_ok _ (R := Out _) ?_
  unfold vc28
  refine ⟨_, _, _, build_ok hn hn (g := delta) fun i j hi hj => ?_, rfl, rfl⟩
  refine vc62_ok _ _ (R := Out _) ?_
  unfold vc62
  refine ⟨fun h => ?_, fun h => ?_⟩
  · have : i = j := by have : (i : Int) = (j : Int) := by simpa using h
                       omega
    subst this
    refine ⟨_, _, of_ok 1 (by omega) (by omega), ?_⟩
    simp only [delta, if_true]; exact ⟨rfl, rfl⟩
  · have : i ≠ j := by have : ¬ (i : Int) = (j : Int) := by simpa using h
                       omega
    simp only [delta, if_neg this]; exact ⟨rfl, rfl⟩
end Go.AM
/- What the functions of package matrix answer: searching, validity, picking, blocks. -/
namespace Go.AM
open Go.Proofs.Tryz
def ints (r : List Int) : DL := r.map fun n => [D.int .i64 n]
theorem ints_length (r : List Int) : (ints r).length = r.length := by simp [ints]
theorem ints_getN {r : List Int} {i : Nat} (h : i < r.length) : (ints r)[(i : Int).toNat]? = some [D.int .i64 (elr r i)] := by
  rw [Int.toNat_natCast]; simp [ints, elr, h]
def firstI (p : Int → Bool) (r : List Int) : Int := if r.any p then (r.findIdx p : Nat) else -1
theorem elr_get {r : List Int} {i : Nat} (h : i < r.length) : elr r i = r[i] := by simp [elr, h]
theorem firstI_at {p : Int → Bool} {r : List Int} {i : Nat} (h : i < r.length) (hp : p (elr r i) = true) (hn : ∀ k, k < i → p (elr r k) = false) : firstI p r = (i : Int) := by
  have h1 : r.any p = true := List.any_eq_true.2 ⟨elr r i, elr_mem h, hp⟩
  have h2 : r.findIdx p = i := by
    rw [List.findIdx_eq h]
    refine ⟨by rw [← elr_get h]; exact hp, fun j hj => ?_⟩
    have := hn j hj
    rw [elr_get (by omega)] at this
    exact this
  unfold firstI
  rw [h1, h2]; rfl
theorem firstI_none {p : Int → Bool} {r : List Int} (hn : ∀ k, k < r.length → p (elr r k) = false) : firstI p r = -1 := by
  unfold firstI
  rw [if_neg]
  intro h
  obtain ⟨z, hz, hp⟩ := List.any_eq_true.1 h
  obtain ⟨k, hk, rfl⟩ := List.getElem_of_mem hz
  have := hn k hk
  rw [elr_get hk, hp] at this
  simp at this
theorem firstI_any (p : Int → Bool) (r : List Int) : decide (firstI p r ≥ 0) = r.any p := by
  unfold firstI
  cases h : r.any p <;> simp
theorem index126_ok {r : List Int} {f : FuncId} {fc : List D} {p : Int → Bool} (hl : r.length ≤ 4294967296) (hf : ∀ k, k < r.length → FnD prog f ([eI (elr r k)] ++ fc.map dV) (vb (p (elr r k))) []) :
    FnD prog 102 [vs (row r), .e (.sc (.dat (.fn (.func f) fc)))] (vi (firstI p r)) [] := by
  refine vc102_ok _ _ _ (R := Out _) ?_
  unfold vc102
  simp only [row_length]
  refine ⟨fun t => ∃ i : Nat, t = (i : Int) ∧ i ≤ r.length ∧ ∀ k, k < i → p (elr r k) = false, fun t => ((r.length : Int) - t).toNat, ⟨0, rfl, by omega, fun k hk => by omega⟩, ?_⟩
  rintro _ ⟨i, rfl, hi, hinv⟩
  refine ⟨fun h => ?_, fun h => outi ?_⟩
  · have hir : i < r.length := by simpa using h
    refine ⟨_, _, p (elr r i), ⟨by omega, by omega⟩, row_getN hir, hf i hir, fun h2 => outi ?_, fun h2 => ?_⟩
    · exact (firstI_at hir h2 hinv).symm
    · rw [inc64 (by omega)]
      refine ⟨⟨i + 1, rfl, by omega, fun k hk => ?_⟩, by show ((r.length : Int) - ((i + 1 : Nat) : Int)).toNat < ((r.length : Int) - (i : Int)).toNat; omega⟩
      by_cases hki : k = i
      · subst hki; exact h2
      · exact hinv k (by omega)
  · have hir : i = r.length := by have : r.length ≤ i := by simpa using h
                                  omega
    exact (firstI_none fun k hk => hinv k (by omega)).symm
theorem contains72_ok {r : List Int} {f : FuncId} {fc : List D} {p : Int → Bool} (hl : r.length ≤ 4294967296) (hf : ∀ k, k < r.length → FnD prog f ([eI (elr r k)] ++ fc.map dV) (vb (p (elr r k))) []) :
    FnD prog 76 [vs (row r), .e (.sc (.dat (.fn (.func f) fc)))] (vb (r.any p)) [] := by
  refine vc76_ok _ _ _ (R := Out _) ?_
  unfold vc76
  exact ⟨_, index126_ok hl hf, outb (firstI_any p r)⟩
theorem index134_ok {r : List Int} {f : FuncId} {fc : List D} {p : Int → Bool} (hl : r.length ≤ 4294967296) (hf : ∀ k, k < r.length → FnD prog f ([eI (elr r k)] ++ fc.map dV) (vb (p (elr r k))) []) :
    FnD prog 111 [vs (row r), .e (.sc (.dat (.fn (.func f) fc)))] (vi (firstI p r)) [] := by
  refine vc111_ok _ _ _ (R := Out _) ?_
  unfold vc111
  simp only [row_length]
  refine ⟨fun t => ∃ i : Nat, t = (i : Int) ∧ i ≤ r.length ∧ ∀ k, k < i → p (elr r k) = false, fun t => ((r.length : Int) - t).toNat, ⟨0, rfl, by omega, fun k hk => by omega⟩, ?_⟩
  rintro _ ⟨i, rfl, hi, hinv⟩
  refine ⟨fun h => ?_, fun h => outi ?_⟩
  · have hir : i < r.length := by simpa using h
    refine ⟨_, _, p (elr r i), ⟨by omega, by omega⟩, row_getN hir, hf i hir, fun h2 => outi ?_, fun h2 => ?_⟩
    · exact (firstI_at hir h2 hinv).symm
    · rw [inc64 (by omega)]
      refine ⟨⟨i + 1, rfl, by omega, fun k hk => ?_⟩, by show ((r.length : Int) - ((i + 1 : Nat) : Int)).toNat < ((r.length : Int) - (i : Int)).toNat; omega⟩
      by_cases hki : k = i
      · subst hki; exact h2
      · exact hinv k (by omega)
  · have hir : i = r.length := by have : r.length ≤ i := by simpa using h
                                  omega
    exact (firstI_none fun k hk => hinv k (by omega)).symm
theorem contains89_ok {r : List Int} {f : FuncId} {fc : List D} {p : Int → Bool} (hl : r.length ≤ 4294967296) (hf : ∀ k, k < r.length → FnD prog f ([eI (elr r k)] ++ fc.map dV) (vb (p (elr r k))) []) :
    FnD prog 81 [vs (row r), .e (.sc (.dat (.fn (.func f) fc)))] (vb (r.any p)) [] := by
  refine vc81_ok _ _ _ (R := Out _) ?_
  unfold vc81
  exact ⟨_, index134_ok hl hf, outb (firstI_any p r)⟩
theorem ivalid_ok {z : Int} (hz : Sz z) : FnD prog 78 [eI z] (vb true) [] := by
  refine vc78_ok _ _ (R := Out _) ?_
  unfold vc78
  obtain ⟨a, hae⟩ : ∃ a, a = digs z.natAbs := ⟨_, rfl⟩
  have hl : a.length ≤ 1073741824 := hae ▸ hz
  have hcan : canon a := hae ▸ digs_canon z.natAbs
  have hnil : a = [] ↔ z = 0 := by rw [hae, digs_nil]; omega
  rw [← hae]
  simp only [lim_length]
  refine ⟨fun h => ⟨fun _ => outb rfl, fun h2 => ?_⟩, fun h => ⟨fun h2 => ?_, fun h2 => ?_⟩⟩
  · exfalso
    have h0 : a.length = 0 := by have : (a.length : Int) = 0 := by simpa using h
                                 omega
    have hz0 := hnil.1 (List.length_eq_zero_iff.1 h0)
    subst hz0; simp at h2
  · have h0 : 0 < a.length := by have : (a.length : Int) > 0 := by simpa using h2
                                 omega
    have hw : IntKind.i64.wrap ((a.length : Int) - 1) = ((a.length - 1 : Nat) : Int) := by rw [w64 (by omega) (by omega)]; omega
    rw [hw]
    refine ⟨(dg a (a.length - 1) : Nat), ⟨by omega, by omega⟩, ?_, outb ?_⟩
    · have := lim_getI (l := a) (i := ((a.length - 1 : Nat) : Int)) (by omega) (by omega)
      rw [Int.toNat_natCast] at *; exact this
    · have hc := hcan (dg a (a.length - 1)) (by rw [List.getLast?_eq_getElem?, List.getElem?_eq_getElem (by omega), dg_get (by omega)])
      simp; exact hc
  · exfalso
    have h1 : ¬ (a.length : Int) > 0 := by simpa using h2
    have h3 : ¬ (a.length : Int) = 0 := by simpa using h
    omega
theorem mvalid_ok {r c : Nat} {m : List (List Int)} (hm : Mx r c m) (hs : SzM m) (hr : r ≤ 4294967296) (hc : c ≤ 4294967296) : FnD prog 43 [eM r c m] (vb true) [] := by
  obtain ⟨h1, h2⟩ := hm
  refine vc43_ok _ _ _ (R := Out _) ?_
  unfold vc43
  simp only [rows_length]
  refine ⟨fun h => ?_, fun _ => ⟨fun h => ?_, fun _ => ⟨fun h => ?_, fun _ => ⟨fun t => ∃ i : Nat, t = (i : Int) ∧ i ≤ m.length, fun t => ((m.length : Int) - t).toNat, ⟨0, rfl, by omega⟩, ?_⟩⟩⟩⟩
  · simp at h; omega
  · simp at h; omega
  · simp [h1] at h
  rintro _ ⟨i, rfl, hi⟩
  refine ⟨fun h => ?_, fun h => outb rfl⟩
  have hir : i < m.length := by simpa using h
  have hin : m.getD i [] ∈ m := getD_mem hir
  have hlen := h2 _ hin
  refine ⟨_, ⟨by omega, by omega⟩, rows_getN hir, fun h3 => ?_, fun _ => ⟨false, ?_, fun h4 => by simp at h4, fun _ => ?_⟩⟩
  · rw [row_length, hlen] at h3; simp at h3
  · have := contains72_ok (r := m.getD i []) (f := 77) (fc := []) (p := fun _ => false) (by omega) fun k hk => by
      refine vc77_ok _ _ (R := Out _) ?_
      unfold vc77
      exact ⟨true, ivalid_ok (hs _ hin _ (elr_mem hk)), outb rfl⟩
    have e : (m.getD i []).any (fun _ => false) = false := by simp
    rw [e] at this
    exact this
  · rw [inc64 (by omega)]
    exact ⟨⟨i + 1, rfl, by omega⟩, by show ((m.length : Int) - ((i + 1 : Nat) : Int)).toNat < ((m.length : Int) - (i : Int)).toNat; omega⟩
theorem mzero_ok {r : List Int} (hl : r.length ≤ 4294967296) : FnD prog 46 [vs (row r)] (vb (!r.any fun z => decide (z ≠ 0))) [] := by
  refine vc46_ok _ (R := Out _) ?_
  unfold vc46
  refine ⟨_, contains89_ok (r := r) (f := 82) (fc := []) (p := fun z => decide (z ≠ 0)) hl fun k hk => ?_, outb rfl⟩
  refine vc82_ok _ _ (R := Out _) ?_
  unfold vc82
  refine ⟨_, sign_ok _, outb ?_⟩
  by_cases h : elr r k = 0
  · simp [h]
  · by_cases h2 : elr r k < 0
    · simp [h, h2]
    · simp [h, h2]
end Go.AM
/- What the functions of package matrix answer: sums, differences, multiples. -/
namespace Go.AM
open Go.Proofs.Tryz
theorem size_ok (r c : Int) (m : List (List Int)) : FnD prog 106 [eM r c m] (V.e (E.agg [S.dat (D.int .i64 r), S.dat (D.int .i64 c)])) [] := by
  refine vc106_ok _ _ _ (R := Out _) ?_
  exact ⟨rfl, rfl⟩
end Go.AM
/- What the functions of package matrix' reference answer: matrices that are made. -/
namespace Go.AM
open Go.Proofs.Tryz
theorem FnD.wk {P : Program} {k : FuncId} {args : List V} {r r2 : V} {objs objs2 : Heap} (hf : FnD P k args r objs) (hw : Wk 0 ⟨[(0, r)], objs, 1⟩ ⟨[(0, r2)], objs2, 1⟩) : FnD P k args r2 objs2 := by
  refine ⟨hf.1, fun I M w vs s hr => (hf.2 I M w vs s hr).mono ?_⟩
  rintro e w' ⟨v, r', h', I', M', he, ⟨rfl, rfl⟩, hrel, sim, hext, hfp, hmono⟩
  have tm0 : ∀ i u, (i, u) ∈ [(0, r')] → RelV w' I' M' ((#[v] : Array Value).getD i undef) u := fun i u hu => by
    simp only [List.mem_singleton, Prod.mk.injEq] at hu
    obtain ⟨rfl, rfl⟩ := hu
    exact hrel
  have s0 : Sim I' M' ⟨[(0, r')], h', 1⟩ { tmps := #[v], defers := [] } w' := { toSimH := sim, tm := tm0, size := rfl, defers := rfl }
  obtain ⟨I2, M2, s2, g1, g2, g3, _⟩ := hw I' M' _ w' s0
  refine ⟨v, r2, objs2, I2, M2, he, ⟨rfl, rfl⟩, s2.tm 0 r2 (by simp), s2.toSimH, ⟨hext.os, hext.tape, hext.output, hext.size, hext.heap, fun b hb => g1 b (hext.imm b hb), fun b hb => ?_⟩, fun b hb => hfp b (g3 b hb), fun o e ho => by simp at ho⟩
  rcases g2 b hb with h1 | h1
  · exact hext.immNew b h1
  · rcases hfp b h1 with ⟨o, h2⟩ | h2
    · simp [fpAt] at h2
    · exact .inr (.inl h2)
def om (m : List (List Int)) : DLL := m.map row
def eMo (r c : Int) : V := .e (.agg [.dat (.int .i64 r), .dat (.int .i64 c), .ref 0])
def oM (m : List (List Int)) : Heap := [some (.mat 2 (om m))]
theorem matD_om (m : List (List Int)) : matD (om m) = rows m := by simp [matD, om, rows]
theorem FnD.frz {P : Program} {k : FuncId} {args : List V} {r c : Int} {m : List (List Int)} (hf : FnD P k args (eMo r c) (oM m)) : FnD P k args (eM r c m) [] := by
  have h1 : Wk 0 ⟨[(0, eMo r c)], oM m, 1⟩ ⟨[(0, eM r c m)], [none], 1⟩ := xfreeze_ok (ids := [0]) (by
    unfold eM; rw [← matD_om]; rfl)
  have h2 : Wk 0 ⟨[(0, eM r c m)], [none], 1⟩ ⟨[(0, eM r c m)], [], 1⟩ := xview_ok (live := [0]) (ids := []) rfl rfl rfl
  exact (hf.wk h1).wk h2
abbrev OutM (r c : Int) (m : List (List Int)) : V → Heap → Prop := fun r' h' => r' = eMo r c ∧ h' = oM m
theorem outM {r c : Int} {m : List (List Int)} {o : DLL} (h : o = om m) : OutM r c m (V.e (E.agg [S.dat (D.int .i64 r), S.dat (D.int .i64 c), S.ref 0])) [some (Obj.mat 2 o)] := by subst h; exact ⟨rfl, rfl⟩
theorem om_length (m : List (List Int)) : (om m).length = m.length := by simp [om]
theorem row_rep (c : Nat) : row (tableR c fun _ => 0) = List.replicate c [D.bool false, D.sl ([] : DL)] := by
  unfold tableR row
  rw [List.map_map]
  have : (cI ∘ fun _ : Nat => (0 : Int)) = fun _ => [D.bool false, D.sl ([] : DL)] := by funext k; rfl
  rw [this, List.map_const']; simp
theorem rnew_ok {r c : Nat} (hr : r ≤ 4294967296) (hc : c ≤ 4294967296) : FnD prog 60 [vi r, vi c] (eMo r c) (oM (table r c fun _ _ => 0)) := by
  refine vc60_ok _ _ (R := OutM r c _) ?_
  unfold vc60
  refine ⟨fun o t => ∃ i : Nat, t = (i : Int) ∧ i ≤ r ∧ o = om (table i c fun _ _ => 0), fun _ t => ((r : Int) - t).toNat, ⟨0, rfl, by omega, rfl⟩, ?_⟩
  rintro _ _ ⟨i, rfl, hi, rfl⟩
  refine ⟨fun h => ?_, fun h => outM ?_⟩
  · have hir : i < r := by simpa using h
    refine ⟨⟨by omega, by omega, by omega⟩, by simp only [om_length, table, List.length_map, List.length_range, List.length_singleton]; omega, ?_⟩
    rw [inc64 (by omega)]
    refine ⟨⟨i + 1, rfl, by omega, ?_⟩, by show ((r : Int) - ((i + 1 : Nat) : Int)).toNat < ((r : Int) - (i : Int)).toNat; omega⟩
    rw [Int.toNat_natCast, ← row_rep]
    simp [om, table, List.range_succ]
  · have hir : i = r := by have : r ≤ i := by simpa using h
                           omega
    subst hir; rfl
theorem om_set {r c : Nat} {g : Nat → Nat → Int} {i j : Nat} {z : Int} (_hi : i < r) (hj : j < c) :
    (om (table r c g)).modify i (fun q => q.set j (cI z)) = om (table r c fun i' j' => if i' = i ∧ j' = j then z else g i' j') := by
  apply List.ext_getElem?
  intro k
  rw [List.getElem?_modify]
  simp only [om, table, List.getElem?_map]
  by_cases hk : k < r
  · simp only [List.getElem?_range hk, Option.map_some, Option.map_eq_map]
    by_cases hik : i = k
    · subst hik
      simp only [if_true]
      congr 1
      apply List.ext_getElem?
      intro l
      unfold row tableR
      by_cases hl : l = j
      · subst hl; simp [hj]
      · rw [List.getElem?_set_ne (Ne.symm hl)]
        by_cases hlc : l < c
        · simp [hlc, hl]
        · simp [hlc]
    · have hki : ¬ k = i := fun h => hik h.symm
      simp [hik, hki, tableR]
  · rw [List.getElem?_eq_none (by simpa using hk)]; simp
theorem om_in {r c : Nat} {g : Nat → Nat → Int} {i j : Nat} (hi : i < r) (hj : j < c) : ∃ l, (om (table r c g))[(i : Int).toNat]? = some l ∧ 0 ≤ (j : Int) ∧ (j : Int) < (l.length : Int) :=
  ⟨row (tableR c (g i)), by rw [Int.toNat_natCast]; simp [om, table, hi], by omega, by simp [row_length, tableR]; omega⟩
theorem rident_ok {n : Nat} (hn : n ≤ 4294967296) : FnD prog 30 [vi n] (eMo n n) (oM (table n n delta)) := by
  refine vc30_ok _ (R := OutM n n _) ?_
  unfold vc30
  refine ⟨_, _, _, rnew_ok hn hn, fun o t => ∃ i : Nat, t = (i : Int) ∧ i ≤ n ∧ o = om (table n n fun a b => if a = b ∧ a < i then 1 else 0), fun _ t => ((n : Int) - t).toNat, ⟨0, rfl, by omega, ?_⟩, ?_⟩
  · congr 1; exact table_congr fun a b _ _ => by simp
  rintro _ _ ⟨i, rfl, hi, rfl⟩
  refine ⟨fun h => ?_, fun h => outM ?_⟩
  · have hir : i < n := by simpa using h
    refine ⟨_, _, ⟨by omega, by simp [om_length, table]; omega⟩, rof_ok 1 (by omega) (by omega), om_in hir hir, ?_⟩
    rw [inc64 (by omega)]
    refine ⟨⟨i + 1, rfl, by omega, ?_⟩, by show ((n : Int) - ((i + 1 : Nat) : Int)).toNat < ((n : Int) - (i : Int)).toNat; omega⟩
    rw [Int.toNat_natCast]
    refine Eq.trans (om_set (z := 1) hir hir) ?_
    congr 1
    refine table_congr fun a b _ _ => ?_
    by_cases h1 : a = i ∧ b = i
    · rw [if_pos h1, if_pos ⟨by omega, by omega⟩]
    · rw [if_neg h1]
      by_cases h2 : a = b ∧ a < i
      · rw [if_pos h2, if_pos ⟨h2.1, by omega⟩]
      · rw [if_neg h2, if_neg (by omega)]
  · have hir : i = n := by have : n ≤ i := by simpa using h
                           omega
    subst hir
    congr 1
    exact table_congr fun a b ha _ => by unfold delta; by_cases h : a = b <;> simp [h]; omega
def gF (f : Nat → Nat → Int) (i j : Nat) : Nat → Nat → Int := fun a b => if a < i ∨ (a = i ∧ b < j) then f a b else 0
theorem gF_zero {r c : Nat} (f : Nat → Nat → Int) : om (table r c fun _ _ => 0) = om (table r c (gF f 0 0)) := by
  congr 1; exact table_congr fun a b _ _ => by simp [gF]
theorem gF_step {r c : Nat} {f : Nat → Nat → Int} {i j : Nat} (hi : i < r) (hj : j < c) : (om (table r c (gF f i j))).modify i (fun q => q.set j (cI (f i j))) = om (table r c (gF f i (j + 1))) := by
  refine Eq.trans (om_set hi hj) ?_
  congr 1
  refine table_congr fun a b _ _ => ?_
  unfold gF
  by_cases h1 : a = i ∧ b = j
  · rw [if_pos h1, if_pos (by omega), h1.1, h1.2]
  · rw [if_neg h1]
    by_cases h2 : a < i ∨ (a = i ∧ b < j)
    · rw [if_pos h2, if_pos (by omega)]
    · rw [if_neg h2, if_neg (by omega)]
theorem gF_next {r c : Nat} {f : Nat → Nat → Int} {i j : Nat} (h0 : ∀ b, j ≤ b → b < c → f i b = 0) : om (table r c (gF f i j)) = om (table r c (gF f (i + 1) 0)) := by
  congr 1
  refine table_congr fun a b _ hb => ?_
  unfold gF
  by_cases h2 : a < i ∨ (a = i ∧ b < j)
  · rw [if_pos h2, if_pos (by omega)]
  · rw [if_neg h2]
    by_cases h3 : a = i
    · subst h3
      rw [if_pos (by omega), h0 b (by omega) hb]
    · rw [if_neg (by omega)]
theorem gF_all {r c : Nat} {f : Nat → Nat → Int} : om (table r c (gF f r 0)) = om (table r c f) := by
  congr 1
  exact table_congr fun a b ha _ => by unfold gF; rw [if_pos (.inl ha)]
def fillF (c : Nat) (v : List Int) (i j : Nat) : Int := elr v (i * c + j)
theorem elr_out {v : List Int} {k : Nat} (h : v.length ≤ k) : elr v k = 0 := by
  unfold elr; rw [List.getD_eq_getElem?_getD, List.getElem?_eq_none h]; rfl
theorem rints_ok {r c : Nat} {v : List Int} (hr : r ≤ 1048576) (hc : c ≤ 1048576) (hv : ∀ z ∈ v, -9223372036854775808 ≤ z ∧ z ≤ 9223372036854775807) :
    FnD prog 26 [vi r, vi c, vs (ints v)] (eMo r c) (oM (table r c (fillF c v))) := by
  refine vc26_ok _ _ _ (R := OutM r c _) ?_
  unfold vc26
  simp only [ints_length]
  refine ⟨_, _, _, rnew_ok (by omega) (by omega), fun o t => ∃ i : Nat, t = (i : Int) ∧ i ≤ r ∧ o = om (table r c (gF (fillF c v) i 0)), fun _ t => ((r : Int) - t).toNat, ⟨0, rfl, by omega, gF_zero _⟩, ?_⟩
  rintro _ _ ⟨i, rfl, hi, rfl⟩
  refine ⟨fun h => ?_, fun h => outM ?_⟩
  · have hir : i < r := by simpa using h
    refine ⟨fun o t => ∃ j : Nat, t = (j : Int) ∧ j ≤ c ∧ o = om (table r c (gF (fillF c v) i j)), fun _ t => ((c : Int) - t).toNat, ⟨0, rfl, by omega, rfl⟩, ?_⟩
    rintro _ _ ⟨j, rfl, hj, rfl⟩
    have hprod : i * c ≤ 1048576 * 1048576 := Nat.mul_le_mul (by omega) hc
    have hw1 : IntKind.i64.wrap ((i : Int) * (c : Int)) = ((i * c : Nat) : Int) := by
      rw [← Int.natCast_mul]; exact w64 (by omega) (by omega)
    have hw2 : IntKind.i64.wrap (((i * c : Nat) : Int) + (j : Int)) = ((i * c + j : Nat) : Int) := by
      rw [← Int.natCast_add]; exact w64 (by omega) (by omega)
    have next : (∀ b, j ≤ b → b < c → fillF c v i b = 0) →
        (∃ i' : Nat, IntKind.i64.wrap ((i : Int) + 1) = (i' : Int) ∧ i' ≤ r ∧ om (table r c (gF (fillF c v) i j)) = om (table r c (gF (fillF c v) i' 0))) ∧ ((r : Int) - IntKind.i64.wrap ((i : Int) + 1)).toNat < ((r : Int) - (i : Int)).toNat := fun h0 => by
      rw [inc64 (by omega)]
      exact ⟨⟨i + 1, rfl, by omega, gF_next h0⟩, by omega⟩
    rw [hw1, hw2]
    refine ⟨fun h2 => ⟨fun h3 => ?_, fun h3 => next fun b hb _ => ?_⟩, fun h2 => next fun b hb hbc => ?_⟩
    · have hjc : j < c := by simpa using h2
      have hlt : i * c + j < v.length := by
        have h3 := of_decide_eq_true h3
        omega
      obtain ⟨v1, v2⟩ := hv _ (elr_mem hlt)
      refine ⟨elr v (i * c + j), _, _, ⟨by omega, by simp [om_length, table]; omega⟩, ⟨by omega, by omega⟩, ints_getN hlt, rof_ok _ v1 v2, om_in hir hjc, ?_⟩
      rw [inc64 (by omega)]
      refine ⟨⟨j + 1, rfl, by omega, ?_⟩, by show ((c : Int) - ((j + 1 : Nat) : Int)).toNat < ((c : Int) - (j : Int)).toNat; omega⟩
      rw [Int.toNat_natCast, Int.toNat_natCast]
      exact gF_step hir hjc
    · have hlt : v.length ≤ i * c + j := by
        have h3 := of_decide_eq_false h3
        omega
      exact elr_out (by omega)
    · have hjc : c ≤ j := by simpa using h2
      omega
  · have hir : i = r := by have : r ≤ i := by simpa using h
                           omega
    subst hir
    exact gF_all
end Go.AM
/- What the functions of package matrix' reference, and of its law, answer: matrices out of bytes. -/
namespace Go.AM
open Go.Proofs.Tryz
def i8s (r : List Int) : DL := r.map fun n => [D.int .i8 n]
theorem i8s_length (r : List Int) : (i8s r).length = r.length := by simp [i8s]
theorem i8s_getN {r : List Int} {i : Nat} (h : i < r.length) : (i8s r)[(i : Int).toNat]? = some [D.int .i8 (elr r i)] := by
  rw [Int.toNat_natCast]; simp [i8s, elr, h]
def fillG (c : Nat) (v : List Int) (i j : Nat) : Int := (elr v (i * c + j)).tmod 10
theorem tmod10 (n : Int) : (n.tmod 10).natAbs ≤ 9 := by
  rw [Int.natAbs_tmod]
  have : (10 : Int).natAbs = 10 := rfl
  rw [this]; omega
theorem clamp16 {n : Nat} (h : n ≤ 16) : (if (16 : Int) < (if (0 : Int) > (n : Int) then (0 : Int) else (n : Int)) then (16 : Int) else (if (0 : Int) > (n : Int) then (0 : Int) else (n : Int))) = (n : Int) := by
  rw [if_neg (show ¬ (0 : Int) > (n : Int) by omega), if_neg (by omega)]
theorem filled_ok {r c : Nat} {v : List Int} (hr : r ≤ 16) (hc : c ≤ 16) : FnD prog 27 [vi r, vi c, vs (i8s v)] (eMo r c) (oM (table r c (fillG c v))) := by
  refine vc27_ok _ _ _ (R := OutM r c _) ?_
  unfold vc27
  simp only [i8s_length]
  rw [clamp16 hr, clamp16 hc]
  refine ⟨_, _, _, rnew_ok (by omega) (by omega), fun o t => ∃ i : Nat, t = (i : Int) ∧ i ≤ r ∧ o = om (table r c (gF (fillG c v) i 0)), fun _ t => ((r : Int) - t).toNat, ⟨0, rfl, by omega, gF_zero _⟩, ?_⟩
  rintro _ _ ⟨i, rfl, hi, rfl⟩
  refine ⟨fun h => ?_, fun h => outM ?_⟩
  · have hir : i < r := by simpa using h
    refine ⟨fun o t => ∃ j : Nat, t = (j : Int) ∧ j ≤ c ∧ o = om (table r c (gF (fillG c v) i j)), fun _ t => ((c : Int) - t).toNat, ⟨0, rfl, by omega, rfl⟩, ?_⟩
    rintro _ _ ⟨j, rfl, hj, rfl⟩
    have hprod : i * c ≤ 16 * 16 := Nat.mul_le_mul (by omega) hc
    have hw1 : IntKind.i64.wrap ((i : Int) * (c : Int)) = ((i * c : Nat) : Int) := by
      rw [← Int.natCast_mul]; exact w64 (by omega) (by omega)
    have hw2 : IntKind.i64.wrap (((i * c : Nat) : Int) + (j : Int)) = ((i * c + j : Nat) : Int) := by
      rw [← Int.natCast_add]; exact w64 (by omega) (by omega)
    have next : (∀ b, j ≤ b → b < c → fillG c v i b = 0) →
        (∃ i' : Nat, IntKind.i64.wrap ((i : Int) + 1) = (i' : Int) ∧ i' ≤ r ∧ om (table r c (gF (fillG c v) i j)) = om (table r c (gF (fillG c v) i' 0))) ∧ ((r : Int) - IntKind.i64.wrap ((i : Int) + 1)).toNat < ((r : Int) - (i : Int)).toNat := fun h0 => by
      rw [inc64 (by omega)]
      exact ⟨⟨i + 1, rfl, by omega, gF_next h0⟩, by omega⟩
    rw [hw1, hw2]
    refine ⟨fun h2 => ⟨fun h3 => ?_, fun h3 => next fun b hb _ => ?_⟩, fun h2 => next fun b hb hbc => ?_⟩
    · have hjc : j < c := by simpa using h2
      have hlt : i * c + j < v.length := by
        have h3 := of_decide_eq_true h3
        omega
      have hm := tmod10 (elr v (i * c + j))
      have hw3 : IntKind.i64.wrap ((elr v (i * c + j)).tmod 10) = (elr v (i * c + j)).tmod 10 := w64 (by omega) (by omega)
      refine ⟨elr v (i * c + j), decide (fillG c v i j < 0), lim (dz (fillG c v i j)), ⟨by omega, by simp [om_length, table]; omega⟩, ⟨by omega, by omega⟩, i8s_getN hlt, by decide, ?_, om_in hir hjc, ?_⟩
      · rw [hw3]; exact rof_ok _ (by omega) (by omega)
      rw [inc64 (by omega)]
      refine ⟨⟨j + 1, rfl, by omega, ?_⟩, by show ((c : Int) - ((j + 1 : Nat) : Int)).toNat < ((c : Int) - (j : Int)).toNat; omega⟩
      rw [Int.toNat_natCast, Int.toNat_natCast]
      exact gF_step hir hjc
    · have hlt : v.length ≤ i * c + j := by
        have h3 := of_decide_eq_false h3
        omega
      unfold fillG
      rw [elr_out (by omega)]; rfl
    · have hjc : c ≤ j := by simpa using h2
      omega
  · have hir : i = r := by have : r ≤ i := by simpa using h
                           omega
    subst hir
    exact gF_all
theorem filled_bd {r c : Nat} {v : List Int} : BdM 9 (table r c (fillG c v)) := table_bd fun _ _ _ _ => tmod10 _
theorem mod5 {x : Int} (h0 : 0 ≤ x) : ∃ n : Nat, IntKind.i64.wrap (x.tmod 5) = (n : Int) ∧ n ≤ 4 := by
  refine ⟨(x % 5).toNat, ?_, by omega⟩
  rw [Int.tmod_eq_emod_of_nonneg h0, w64 (by omega) (by omega)]; omega
end Go.AM
/- The law of transposes, but for the fixed examples. -/
namespace Go.AM
open Go.Proofs.Tryz
theorem mmul_mx (r n c : Nat) (a b : List (List Int)) : Mx r c (mmul r n c a b) := table_mx _ _ _
theorem BdM.mono {K L : Nat} {m : List (List Int)} (h : BdM K m) (hl : K ≤ L) : BdM L m := fun r hr z hz => Nat.le_trans (h r hr z hz) hl
theorem Mx.cols {r c : Nat} {m : List (List Int)} (h : Mx r c m) (hc : c ≤ 4294967296) : ∀ x ∈ m, x.length ≤ 4294967296 := fun x hx => by rw [h.2 x hx]; exact hc
theorem same_yes {r c K : Nat} {a b : List (List Int)} (ha : Mx r c a) (ka : BdM K a) (kb : BdM K b) (h : a = b) (hr : r ≤ 4294967296) (hc : c ≤ 4294967296) (hK : K ≤ 1329227995784915872903807060280344576) : FnD prog 22 [eM r c a, eM r c b] (vb true) [] := by
  have := same_ok (r := (r : Int)) (c := (c : Int)) (r' := (r : Int)) (c' := (c : Int)) (ka.sz (Nat.le_trans hK (by decide))) (kb.sz (Nat.le_trans hK (by decide))) (by rw [ha.1]; exact hr) (ha.cols hc)
  rw [show decide ((r : Int) = r ∧ (c : Int) = c ∧ a = b) = true by simp [h]] at this
  exact this
end Go.AM
/- Sums of products, and matrices: the laws of the ring. -/
namespace Go.AM
open Go.Proofs.Tryz
def sm (h : Nat → Int) : Nat → Int
  | 0 => 0
  | n + 1 => sm h n + h n
theorem dsum_sm (f g : Nat → Int) : ∀ n, dsum f g n = sm (fun k => f k * g k) n
  | 0 => rfl
  | n + 1 => by simp only [dsum, sm, dsum_sm f g n]
theorem sm_congr {f g : Nat → Int} : ∀ n, (∀ k, k < n → f k = g k) → sm f n = sm g n
  | 0, _ => rfl
  | n + 1, h => by simp only [sm]; rw [sm_congr n fun k hk => h k (by omega), h n (by omega)]
theorem sm_add (f g : Nat → Int) : ∀ n, sm (fun k => f k + g k) n = sm f n + sm g n
  | 0 => rfl
  | n + 1 => by simp only [sm, sm_add f g n]; omega
theorem sm_mul (c : Int) (f : Nat → Int) : ∀ n, sm (fun k => c * f k) n = c * sm f n
  | 0 => by simp [sm]
  | n + 1 => by simp only [sm, sm_mul c f n, Int.mul_add]
theorem sm_mul_right (c : Int) (f : Nat → Int) (n : Nat) : sm (fun k => f k * c) n = sm f n * c := by
  rw [Int.mul_comm, ← sm_mul]
  exact sm_congr n fun k _ => Int.mul_comm _ _
theorem sm_zero : ∀ n, sm (fun _ => 0) n = 0
  | 0 => rfl
  | n + 1 => by simp only [sm, sm_zero n]; rfl
theorem sm_swap (f : Nat → Nat → Int) (m : Nat) : ∀ n, sm (fun k => sm (fun l => f k l) m) n = sm (fun l => sm (fun k => f k l) n) m
  | 0 => by simp only [sm]; exact (sm_zero m).symm
  | n + 1 => by simp only [sm, sm_swap f m n]; rw [← sm_add]
theorem sm_one (f : Nat → Int) (j : Nat) : ∀ n, j < n → sm (fun k => if k = j then f k else 0) n = f j
  | n + 1, h => by
    simp only [sm]
    by_cases hj : j = n
    · subst hj
      rw [if_pos rfl, sm_congr (g := fun _ => 0) j (fun k hk => if_neg (by omega)), sm_zero]; omega
    · rw [if_neg (fun h => hj h.symm), sm_one f j n (by omega)]; omega
theorem dsum_delta_right (f : Nat → Int) {j n : Nat} (h : j < n) : dsum f (fun k => delta k j) n = f j := by
  rw [dsum_sm, ← sm_one f j n h]
  refine sm_congr n fun k _ => ?_
  unfold delta
  by_cases hk : k = j <;> simp [hk]
theorem dsum_delta_left (f : Nat → Int) {i n : Nat} (h : i < n) : dsum (fun k => delta i k) f n = f i := by
  rw [dsum_sm, ← sm_one f i n h]
  refine sm_congr n fun k _ => ?_
  unfold delta
  by_cases hk : i = k
  · subst hk; simp
  · rw [if_neg hk, if_neg (fun h => hk h.symm)]; simp
theorem mmul_assoc {p q r s : Nat} (a b c : List (List Int)) : mmul p r s (mmul p q r a b) c = mmul p q s a (mmul q r s b c) := by
  unfold mmul
  refine table_congr fun i j hi hj => ?_
  have e1 : dsum (fun k => el (table p r fun i j => dsum (fun k => el a i k) (fun k => el b k j) q) i k) (fun k => el c k j) r =
      sm (fun k => sm (fun l => el a i l * el b l k * el c k j) q) r := by
    rw [dsum_sm]
    refine sm_congr r fun k hk => ?_
    rw [el_table hi hk, dsum_sm, ← sm_mul_right]
  have e2 : dsum (fun k => el a i k) (fun k => el (table q s fun i j => dsum (fun k => el b i k) (fun k => el c k j) r) k j) q =
      sm (fun l => sm (fun k => el a i l * el b l k * el c k j) r) q := by
    rw [dsum_sm]
    refine sm_congr q fun l hl => ?_
    rw [el_table hl hj, dsum_sm, ← sm_mul]
    exact sm_congr r fun k _ => by rw [Int.mul_assoc]
  rw [e1, e2, sm_swap]
theorem el_mmul {r n c : Nat} {a b : List (List Int)} {i j : Nat} (hi : i < r) (hj : j < c) : el (mmul r n c a b) i j = sm (fun k => el a i k * el b k j) n := by
  unfold mmul
  rw [el_table hi hj, dsum_sm]
theorem mx_ext {r c : Nat} {a b : List (List Int)} (ha : Mx r c a) (hb : Mx r c b) (h : ∀ i j, i < r → j < c → el a i j = el b i j) : a = b := by
  rw [mx_table ha, mx_table hb]; exact table_congr h
theorem ident_mmul {r n : Nat} {a : List (List Int)} (ha : Mx r n a) : mmul r r n (table r r delta) a = a := by
  refine mx_ext (mmul_mx _ _ _ _ _) ha fun i j hi hj => ?_
  rw [el_mmul hi hj, ← dsum_delta_left (fun k => el a k j) hi, dsum_sm]
  exact sm_congr r fun k hk => by rw [el_table hi hk]
end Go.AM
/- Row operations on matrices of integers, in plain Lean: products, inverses, bounds; how a list of them lies in memory. -/
namespace Go.AM
open Go.Proofs.Tryz
structure Opz where
  k : Nat
  i : Nat
  j : Nat
  z : Int
  deriving DecidableEq
def vO (n : Nat) (o : Opz) : Bool :=
  decide (o.i < n) && (if o.k = 2 then decide (o.j = 0) && decide (o.z = 0)
    else if o.k = 1 then decide (o.j < n) && decide (o.i ≠ o.j) && decide (o.z = 0)
    else decide (o.k = 3) && decide (o.j < n) && decide (o.i ≠ o.j))
def opF (o : Opz) (f : Nat → Nat → Int) (a b : Nat) : Int :=
  if o.k = 1 then (if a = o.i then f o.j b else if a = o.j then f o.i b else f a b)
  else if o.k = 2 then (if a = o.i then - f a b else f a b)
  else if a = o.i then f a b + o.z * f o.j b else f a b
def apO (r c : Nat) (o : Opz) (m : List (List Int)) : List (List Int) := table r c (opF o (el m))
def apL (r c : Nat) : List Opz → List (List Int) → List (List Int)
  | [], m => m
  | o :: l, m => apL r c l (apO r c o m)
theorem apL_append {r c : Nat} : ∀ (l l' : List Opz) (m : List (List Int)), apL r c (l ++ l') m = apL r c l' (apL r c l m)
  | [], _, _ => rfl
  | o :: l, l', m => by simp only [List.cons_append, apL]; exact apL_append l l' _
theorem apO_mx (r c : Nat) (o : Opz) (m : List (List Int)) : Mx r c (apO r c o m) := table_mx _ _ _
theorem apL_mx {r c : Nat} : ∀ (l : List Opz) {m : List (List Int)}, Mx r c m → Mx r c (apL r c l m)
  | [], _, h => h
  | _ :: l, _, _ => apL_mx l (apO_mx _ _ _ _)
theorem el_apO {r c : Nat} {o : Opz} {m : List (List Int)} {a b : Nat} (ha : a < r) (hb : b < c) : el (apO r c o m) a b = opF o (el m) a b := el_table ha hb
theorem vO_ok {n : Nat} {o : Opz} (h : vO n o = true) : o.i < n ∧ ((o.k = 2 ∧ o.j = 0 ∧ o.z = 0) ∨ (o.k = 1 ∧ o.j < n ∧ o.i ≠ o.j ∧ o.z = 0) ∨ (o.k = 3 ∧ o.j < n ∧ o.i ≠ o.j)) := by
  unfold vO at h
  simp only [Bool.and_eq_true, decide_eq_true_eq] at h
  refine ⟨h.1, ?_⟩
  have h2 := h.2
  split at h2
  · rename_i hk
    simp only [Bool.and_eq_true, decide_eq_true_eq] at h2
    exact .inl ⟨hk, h2⟩
  · split at h2
    · rename_i hk
      simp only [Bool.and_eq_true, decide_eq_true_eq] at h2
      exact .inr (.inl ⟨hk, h2.1.1, h2.1.2, h2.2⟩)
    · simp only [Bool.and_eq_true, decide_eq_true_eq] at h2
      exact .inr (.inr ⟨h2.1.1, h2.1.2, h2.2⟩)
theorem vO_j {n : Nat} {o : Opz} (h : vO n o = true) (h2 : o.k ≠ 2) : o.j < n := by
  rcases (vO_ok h).2 with h | h | h
  · exact absurd h.1 h2
  · exact h.2.1
  · exact h.2.1
theorem opF_sm {o : Opz} {n : Nat} (f : Nat → Nat → Int) (g : Nat → Nat → Int) (a b : Nat) :
    opF o (fun a b => sm (fun k => f a k * g k b) n) a b = sm (fun k => opF o f a k * g k b) n := by
  unfold opF
  by_cases h1 : o.k = 1
  · simp only [h1, if_true]
    by_cases ha : a = o.i
    · simp [ha]
    · by_cases hb : a = o.j
      · simp only [if_neg ha, if_pos hb]
      · simp only [if_neg ha, if_neg hb]
  · simp only [h1, if_false]
    by_cases h2 : o.k = 2
    · simp only [h2, if_true]
      by_cases ha : a = o.i
      · simp only [ha, if_true, Int.neg_mul]
        have := sm_mul (-1) (fun k => f o.i k * g k b) n
        simp only [Int.neg_mul, Int.one_mul] at this
        exact this.symm
      · simp [ha]
    · simp only [h2, if_false]
      by_cases ha : a = o.i
      · simp only [ha, if_true, Int.add_mul, sm_add]
        congr 1
        rw [← sm_mul]
        exact sm_congr n fun k _ => by rw [Int.mul_assoc]
      · simp [ha]
theorem opF_congr {n : Nat} {o : Opz} (h : vO n o = true) {f g : Nat → Nat → Int} {a b : Nat} (ha : a < n) (hfg : ∀ a, a < n → f a b = g a b) : opF o f a b = opF o g a b := by
  obtain ⟨hi, _⟩ := vO_ok h
  have hj := vO_j h
  unfold opF
  by_cases h1 : o.k = 1
  · have := hj (by omega)
    simp only [h1, if_true]
    rw [hfg _ this, hfg _ hi, hfg _ ha]
  · simp only [h1, if_false]
    by_cases h2 : o.k = 2
    · simp only [h2, if_true]; rw [hfg _ ha]
    · simp only [h2, if_false]; rw [hfg _ ha, hfg _ (hj h2)]
theorem apO_mmul {r n c : Nat} {o : Opz} (h : vO r o = true) (a b : List (List Int)) : apO r c o (mmul r n c a b) = mmul r n c (apO r n o a) b := by
  refine mx_ext (apO_mx _ _ _ _) (mmul_mx _ _ _ _ _) fun i j hi hj => ?_
  rw [el_apO hi hj, el_mmul hi hj]
  rw [opF_congr h hi (g := fun a' b' => sm (fun k => el a a' k * el b k b') n) fun a' ha' => el_mmul ha' hj, opF_sm]
  exact sm_congr n fun k hk => by rw [el_apO hi hk]
theorem apL_mmul {r n c : Nat} (b : List (List Int)) : ∀ (l : List Opz) (a : List (List Int)), (∀ o ∈ l, vO r o = true) → apL r c l (mmul r n c a b) = mmul r n c (apL r n l a) b
  | [], _, _ => rfl
  | o :: l, a, h => by
    simp only [apL]
    rw [apO_mmul (h o (by simp))]
    exact apL_mmul b l _ fun o' ho' => h o' (by simp [ho'])
def mat (n : Nat) (l : List Opz) : List (List Int) := apL n n l (table n n delta)
theorem apL_mat {r c : Nat} {l : List Opz} {a : List (List Int)} (h : ∀ o ∈ l, vO r o = true) (ha : Mx r c a) : apL r c l a = mmul r r c (mat r l) a := by
  have := apL_mmul (n := r) a l (table r r delta) h (c := c)
  rw [ident_mmul ha] at this
  exact this
def inO (o : Opz) : Opz := { o with z := -o.z }
def inL (l : List Opz) : List Opz := l.reverse.map inO
theorem vO_inO {n : Nat} {o : Opz} : vO n (inO o) = vO n o := by
  have h : decide ((inO o).z = 0) = decide (o.z = 0) := by simp [inO]
  show (decide (o.i < n) && (if o.k = 2 then decide (o.j = 0) && decide ((inO o).z = 0)
    else if o.k = 1 then decide (o.j < n) && decide (o.i ≠ o.j) && decide ((inO o).z = 0)
    else decide (o.k = 3) && decide (o.j < n) && decide (o.i ≠ o.j))) = _
  rw [h]; rfl
theorem inO_inO (o : Opz) : inO (inO o) = o := by simp [inO]
theorem inL_valid {n : Nat} {l : List Opz} (h : ∀ o ∈ l, vO n o = true) : ∀ o ∈ inL l, vO n o = true := fun o ho => by
  simp only [inL, List.mem_map, List.mem_reverse] at ho
  obtain ⟨o', ho', rfl⟩ := ho
  rw [vO_inO]; exact h o' ho'
theorem apO_inv {r c : Nat} {o : Opz} {m : List (List Int)} (h : vO r o = true) (hm : Mx r c m) : apO r c (inO o) (apO r c o m) = m := by
  refine mx_ext (apO_mx _ _ _ _) hm fun a b ha hb => ?_
  rw [el_apO ha hb, opF_congr (by rw [vO_inO]; exact h) ha fun a' ha' => el_apO ha' hb]
  obtain ⟨hi, hc⟩ := vO_ok h
  simp only [opF, inO]
  rcases hc with ⟨hk, _, _⟩ | ⟨hk, _, hne, _⟩ | ⟨hk, _, hne⟩
  · simp only [hk]
    by_cases he : a = o.i <;> simp [he]
  · simp only [hk, if_true]
    by_cases he : a = o.i
    · simp [he, Ne.symm hne]
    · by_cases hf : a = o.j
      · simp [hf, Ne.symm hne]
      · simp [he, hf]
  · simp only [hk]
    by_cases he : a = o.i
    · simp [he, Ne.symm hne, Int.neg_mul]; omega
    · simp [he]
theorem apL_inv {r c : Nat} : ∀ {l : List Opz} {m : List (List Int)}, (∀ o ∈ l, vO r o = true) → Mx r c m → apL r c (inL l) (apL r c l m) = m
  | [], _, _, _ => rfl
  | o :: l, m, h, hm => by
    have e : inL (o :: l) = inL l ++ [inO o] := by simp [inL]
    rw [e, apL_append]
    simp only [apL]
    rw [apL_inv (fun o' ho' => h o' (by simp [ho'])) (apO_mx _ _ _ _), apO_inv (h o (by simp)) hm]
end Go.AM
