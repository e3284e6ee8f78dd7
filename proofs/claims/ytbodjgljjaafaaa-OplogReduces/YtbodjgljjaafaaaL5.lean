/- What functions of the program come to: group Od. Printed by vc.py. -/
import Derived.Test.YtbodjgljjaafaaaL4
import Derived.Shelf.Abstract
set_option maxRecDepth 100000
set_option linter.unusedVariables false
namespace Go.AM
open Go.Proofs.Try
def vc93 (i j k:Int) (R:V → Heap → Prop) : Prop :=
 ∃ (r0:Bool) (r1 : DL),
 (FnD prog 16 [vD (dI k)] (vA [sD (dB r0),sD (dL r1)]) []) ∧
 (R (vA [sD (dI (3:Int)),sD (dI i),sD (dI j),sD (dB r0),sD (dL r1)]) [])
theorem vc93_ok (i j k:Int) {R:V → Heap → Prop} (h : vc93 i j k R) : FnG prog 93 [vD (dI i),vD (dI j),vD (dI k)] [] R :=
 FnG.vcg hT func93 ntmps93 (.reg 1 [(0,Or.none,0,1)] [0,1,2,6] [0] [] <| .exb fun r0 => .exl fun r1 => .reg 0 [(3,Or.call (vA [sD (dB r0),sD (dL r1)]) [] [],0,0)] [6] [0] [] <| .ret [])
   (by kernel_rfl) (by kernel_rfl) (by kernel_rfl) h
def vc94 (i j:Int) (R:V → Heap → Prop) : Prop :=
 R (vA [sD (dI (1:Int)),sD (dI i),sD (dI j),sD (dB false),sD (dL ([] : DL))]) []
theorem vc94_ok (i j:Int) {R:V → Heap → Prop} (h : vc94 i j R) : FnG prog 94 [vD (dI i),vD (dI j)] [] R :=
 FnG.vcg hT func94 ntmps94 (.reg 1 [(0,Or.none,0,1)] [0,1,4] [0] [] <| .r1 [4] [0] <| .nrm [4] [0] <| .ret [])
   (by kernel_rfl) (by kernel_rfl) (by kernel_rfl) h
def vc95 (i:Int) (R:V → Heap → Prop) : Prop :=
 R (vA [sD (dI (2:Int)),sD (dI i),sD (dI (0:Int)),sD (dB false),sD (dL ([] : DL))]) []
theorem vc95_ok (i:Int) {R:V → Heap → Prop} (h : vc95 i R) : FnG prog 95 [vD (dI i)] [] R :=
 FnG.vcg hT func95 ntmps95 (.reg 1 [(0,Or.none,0,1)] [0,2] [0] [] <| .r1 [2] [0] <| .nrm [2] [0] <| .ret [])
   (by kernel_rfl) (by kernel_rfl) (by kernel_rfl) h
def vc96 (l : DL) (n:Int) (R:V → Heap → Prop) : Prop :=
 ∃ (r:Bool),
 (FnD prog 135 [vD (dL l),vD (D.fn (.func 136) [D.box [dI n]])] (vD (dB r)) []) ∧
 (R (vD (dB (!r))) [])
theorem vc96_ok (l : DL) (n:Int) {R:V → Heap → Prop} (h : vc96 l n R) : FnG prog 96 [vD (dL l),vD (dI n)] [] R :=
 FnG.vcg hT func96 ntmps96 (.reg 1 [(0,Or.none,0,1)] [0,3] [0] [] <| .frz [0] <| .exb fun r => .reg 0 [(2,Or.call (vD (dB r)) [] [],0,0)] [4] [] [] <| .ret [])
   (by kernel_rfl) (by kernel_rfl) (by kernel_rfl) h
def vc101 (x0 x1 x2:Int) (x3:Bool) (x4 : DL) (R:V → Heap → Prop) : Prop :=
 ((x0 == (3:Int)) = true →
 ∃ (r:Int),
 (FnD prog 91 [vA [sD (dB x3),sD (dL x4)]] (vD (dI r)) []) ∧
 (R (vD (dB (r == (0:Int)))) [])) ∧
 ((x0 == (3:Int)) = false →
 R (vD (dB false)) [])
theorem vc101_ok (x0 x1 x2:Int) (x3:Bool) (x4 : DL) {R:V → Heap → Prop} (h : vc101 x0 x1 x2 x3 x4 R) : FnG prog 101 [vA [sD (dI x0),sD (dI x1),sD (dI x2),sD (dB x3),sD (dL x4)]] [] R :=
 FnG.vcg hT func101 ntmps101 (.reg 1 [(0,Or.none,0,1)] [1] [0] [] <| .spl ((x0 == (3:Int))) (.ex fun r => .reg 0 [(3,Or.bool true,0,0),(6,Or.call (vD (dI r)) [] [],0,0)] [2] [] [.old 0] <| .ret []) (.reg 0 [(3,Or.bool false,0,0)] [2] [] [.old 0] <| .ret []))
   (by kernel_rfl) (by kernel_rfl) (by kernel_rfl) h
def vc102 (a0 a1 a2:Int) (a3:Bool) (a4 : DL) (b0 b1 b2:Int) (b3:Bool) (b4 : DL) (R:V → Heap → Prop) : Prop :=
 ((a0 != b0) = true →
 R (V.tup [E.agg [sD (dI (0:Int)),sD (dI (0:Int)),sD (dI (0:Int)),sD (dB false),sD (dL ([] : DL))],eD (dB false)]) []) ∧
 ((a0 != b0) = false →
 ((a0 == (1:Int)) = true →
 ((a1 == b1) = true →
 ((a2 == b2) = true →
 R (V.tup [E.agg [sD (dI (3:Int)),sD (dI (0:Int)),sD (dI (0:Int)),sD (dB false),sD (dL ([] : DL))],eD (dB true)]) []) ∧
 ((a2 == b2) = false →
 ((a1 == b2) = true →
 R (V.tup [E.agg [sD (dI (3:Int)),sD (dI (0:Int)),sD (dI (0:Int)),sD (dB false),sD (dL ([] : DL))],eD (dB (a2 == b1))]) []) ∧
 ((a1 == b2) = false →
 R (V.tup [E.agg [sD (dI (3:Int)),sD (dI (0:Int)),sD (dI (0:Int)),sD (dB false),sD (dL ([] : DL))],eD (dB false)]) []))) ∧
 ((a1 == b1) = false →
 ((a1 == b2) = true →
 R (V.tup [E.agg [sD (dI (3:Int)),sD (dI (0:Int)),sD (dI (0:Int)),sD (dB false),sD (dL ([] : DL))],eD (dB (a2 == b1))]) []) ∧
 ((a1 == b2) = false →
 R (V.tup [E.agg [sD (dI (3:Int)),sD (dI (0:Int)),sD (dI (0:Int)),sD (dB false),sD (dL ([] : DL))],eD (dB false)]) []))) ∧
 ((a0 == (1:Int)) = false →
 ((a0 == (2:Int)) = true →
 R (V.tup [E.agg [sD (dI (3:Int)),sD (dI (0:Int)),sD (dI (0:Int)),sD (dB false),sD (dL ([] : DL))],eD (dB (a1 == b1))]) []) ∧
 ((a0 == (2:Int)) = false →
 ∃ (r0:Bool) (r1 : DL),
 (FnD prog 106 [vA [sD (dB a3),sD (dL a4)],vA [sD (dB b3),sD (dL b4)]] (vA [sD (dB r0),sD (dL r1)]) []) ∧
 (((a1 == b1) = true →
 R (V.tup [E.agg [sD (dI a0),sD (dI a1),sD (dI a2),sD (dB r0),sD (dL r1)],eD (dB (a2 == b2))]) []) ∧
 ((a1 == b1) = false →
 R (V.tup [E.agg [sD (dI a0),sD (dI a1),sD (dI a2),sD (dB r0),sD (dL r1)],eD (dB false)]) [])))))
theorem vc102_ok (a0 a1 a2:Int) (a3:Bool) (a4 : DL) (b0 b1 b2:Int) (b3:Bool) (b4 : DL) {R:V → Heap → Prop} (h : vc102 a0 a1 a2 a3 a4 b0 b1 b2 b3 b4 R) : FnG prog 102 [vA [sD (dI a0),sD (dI a1),sD (dI a2),sD (dB a3),sD (dL a4)],vA [sD (dI b0),sD (dI b1),sD (dI b2),sD (dB b3),sD (dL b4)]] [] R :=
 FnG.vcg hT func102 ntmps102 (.reg 3 [(0,Or.none,0,1),(1,Or.none,1,1),(2,Or.none,2,1)] [2,3,4] [0,1,2] [] <| .reg 1 [(1,Or.none,3,1)] [2,3,4,6] [0,1,2,3] [] <| .r1 [2,3,4,6,8] [0,1,2,3] <| .c2 (.r1 [4,5] [2] <| .nrm [4,5] [0] <| .ret []) (.r1 [2,3,4,6,15] [0,1,2,3] <| .c2 (.spl ((a1 == b1)) (.spl ((a2 == b2)) (.drw 0 [(6,(Or.bool true,0,0),[]),(13,(Or.bool true,0,0),[]),(27,(Or.none,0,0),[2])] [4,5] [2] [.old 1,.old 0] <| .nrm [4,5] [0] <| .ret []) (.spl ((a1 == b2)) (.drw 0 [(6,(Or.bool true,0,0),[]),(13,(Or.bool false,0,0),[]),(19,(Or.bool true,0,0),[]),(27,(Or.none,0,0),[2])] [4,5] [2] [.old 2,.old 1,.old 0] <| .nrm [4,5] [0] <| .ret []) (.drw 0 [(6,(Or.bool true,0,0),[]),(13,(Or.bool false,0,0),[]),(19,(Or.bool false,0,0),[]),(27,(Or.none,0,0),[2])] [4,5] [2] [.old 2,.old 1,.old 0] <| .nrm [4,5] [0] <| .ret []))) (.spl ((a1 == b2)) (.drw 0 [(6,(Or.bool false,0,0),[]),(19,(Or.bool true,0,0),[]),(27,(Or.none,0,0),[2])] [4,5] [2] [.old 1,.old 0] <| .nrm [4,5] [0] <| .ret []) (.drw 0 [(6,(Or.bool false,0,0),[]),(19,(Or.bool false,0,0),[]),(27,(Or.none,0,0),[2])] [4,5] [2] [.old 1,.old 0] <| .nrm [4,5] [0] <| .ret []))) (.r1 [2,3,4,6,46] [0,1,2,3] <| .c2 (.drw 0 [(6,(Or.none,0,0),[2])] [4,5] [2] [] <| .nrm [4,5] [0] <| .ret []) (.exb fun r0 => .exl fun r1 => .reg 0 [(4,Or.call (vA [sD (dB r0),sD (dL r1)]) [] [],0,0)] [2,3,4] [0,1,2] [] <| .spl ((a1 == b1)) (.drw 0 [(6,(Or.bool true,0,0),[]),(13,(Or.none,0,0),[2])] [4,5] [2] [.old 0] <| .ret []) (.drw 0 [(6,(Or.bool false,0,0),[]),(13,(Or.none,0,0),[2])] [4,5] [2] [.old 0] <| .ret [])))))
   (by kernel_rfl) (by kernel_rfl) (by kernel_rfl) h
def vc103 (x0 x1 x2:Int) (x3:Bool) (x4 : DL) (n:Int) (R:V → Heap → Prop) : Prop :=
 ∃ (r:Bool),
 (FnD prog 127 [vA [sD (dB x3),sD (dL x4)]] (vD (dB r)) []) ∧
 (((x0 == (1:Int)) = true →
 ∃ (r1:Bool),
 (FnD prog 142 [vD (dI x1),vD (dI n)] (vD (dB r1)) []) ∧
 ((r1 = true →
 ∃ (r2:Bool),
 (FnD prog 142 [vD (dI x2),vD (dI n)] (vD (dB r2)) []) ∧
 ((r2 = true →
 ((x1 != x2) = true →
 (((x4.length:Int) == (0:Int)) = true →
 R (vD (dB r)) []) ∧
 (((x4.length:Int) == (0:Int)) = false →
 R (vD (dB false)) [])) ∧
 ((x1 != x2) = false →
 R (vD (dB false)) [])) ∧
 (r2 = false →
 R (vD (dB false)) []))) ∧
 (r1 = false →
 R (vD (dB false)) []))) ∧
 ((x0 == (1:Int)) = false →
 ((x0 == (2:Int)) = true →
 ∃ (r3:Bool),
 (FnD prog 142 [vD (dI x1),vD (dI n)] (vD (dB r3)) []) ∧
 ((r3 = true →
 ((x2 == (0:Int)) = true →
 (((x4.length:Int) == (0:Int)) = true →
 R (vD (dB r)) []) ∧
 (((x4.length:Int) == (0:Int)) = false →
 R (vD (dB false)) [])) ∧
 ((x2 == (0:Int)) = false →
 R (vD (dB false)) [])) ∧
 (r3 = false →
 R (vD (dB false)) []))) ∧
 ((x0 == (2:Int)) = false →
 ((x0 == (3:Int)) = true →
 ∃ (r4:Bool),
 (FnD prog 142 [vD (dI x1),vD (dI n)] (vD (dB r4)) []) ∧
 ((r4 = true →
 ∃ (r5:Bool),
 (FnD prog 142 [vD (dI x2),vD (dI n)] (vD (dB r5)) []) ∧
 ((r5 = true →
 ((x1 != x2) = true →
 R (vD (dB r)) []) ∧
 ((x1 != x2) = false →
 R (vD (dB false)) [])) ∧
 (r5 = false →
 R (vD (dB false)) []))) ∧
 (r4 = false →
 R (vD (dB false)) []))) ∧
 ((x0 == (3:Int)) = false →
 R (vD (dB false)) []))))
theorem vc103_ok (x0 x1 x2:Int) (x3:Bool) (x4 : DL) (n:Int) {R:V → Heap → Prop} (h : vc103 x0 x1 x2 x3 x4 n R) : FnG prog 103 [vA [sD (dI x0),sD (dI x1),sD (dI x2),sD (dB x3),sD (dL x4)],vD (dI n)] [] R :=
 FnG.vcg hT func103 ntmps103 (.reg 1 [(0,Or.none,0,1)] [1,2] [0] [] <| .exb fun r => .reg 0 [(2,Or.call (vD (dB r)) [] [],0,0)] [1,2,5] [0] [] <| .r1 [1,2,5,10] [0] <| .r1 [1,2,5,10,11] [0] <| .c2 (.exb fun r1 => .ob (FnD prog 142 [vD (dI x1),vD (dI n)] (vD (dB r1)) []) <| .spl r1 (.exb fun r2 => .ob (FnD prog 142 [vD (dI x2),vD (dI n)] (vD (dB r2)) []) <| .spl r2 (.spl ((x1 != x2)) (.spl (((x4.length:Int) == (0:Int))) (.reg 0 [(3,Or.call (vD (dB r1)) [] [],0,0),(4,Or.bool true,0,0),(8,Or.call (vD (dB r2)) [] [],0,0),(10,Or.bool true,0,0),(17,Or.bool true,0,0),(24,Or.bool true,0,0)] [4] [] [.old 5,.old 4,.old 3,.old 2,.old 1,.old 0] <| .ret []) (.reg 0 [(3,Or.call (vD (dB r1)) [] [],0,0),(4,Or.bool true,0,0),(8,Or.call (vD (dB r2)) [] [],0,0),(10,Or.bool true,0,0),(17,Or.bool true,0,0),(24,Or.bool false,0,0)] [4] [] [.old 5,.old 4,.old 3,.old 2,.old 1,.old 0] <| .ret [])) (.reg 0 [(3,Or.call (vD (dB r1)) [] [],0,0),(4,Or.bool true,0,0),(8,Or.call (vD (dB r2)) [] [],0,0),(10,Or.bool true,0,0),(17,Or.bool false,0,0)] [4] [] [.old 4,.old 3,.old 2,.old 1,.old 0] <| .ret [])) (.reg 0 [(3,Or.call (vD (dB r1)) [] [],0,0),(4,Or.bool true,0,0),(8,Or.call (vD (dB r2)) [] [],0,0),(10,Or.bool false,0,0)] [4] [] [.old 3,.old 2,.old 1,.old 0] <| .ret [])) (.reg 0 [(3,Or.call (vD (dB r1)) [] [],0,0),(4,Or.bool false,0,0)] [4] [] [.old 1,.old 0] <| .ret [])) (.r1 [1,2,5,10,40] [0] <| .c2 (.exb fun r3 => .ob (FnD prog 142 [vD (dI x1),vD (dI n)] (vD (dB r3)) []) <| .spl r3 (.spl ((x2 == (0:Int))) (.spl (((x4.length:Int) == (0:Int))) (.reg 0 [(3,Or.call (vD (dB r3)) [] [],0,0),(4,Or.bool true,0,0),(9,Or.bool true,0,0),(16,Or.bool true,0,0)] [4] [] [.old 3,.old 2,.old 1,.old 0] <| .ret []) (.reg 0 [(3,Or.call (vD (dB r3)) [] [],0,0),(4,Or.bool true,0,0),(9,Or.bool true,0,0),(16,Or.bool false,0,0)] [4] [] [.old 3,.old 2,.old 1,.old 0] <| .ret [])) (.reg 0 [(3,Or.call (vD (dB r3)) [] [],0,0),(4,Or.bool true,0,0),(9,Or.bool false,0,0)] [4] [] [.old 2,.old 1,.old 0] <| .ret [])) (.reg 0 [(3,Or.call (vD (dB r3)) [] [],0,0),(4,Or.bool false,0,0)] [4] [] [.old 1,.old 0] <| .ret [])) (.r1 [1,2,5,61] [0] <| .c2 (.exb fun r4 => .ob (FnD prog 142 [vD (dI x1),vD (dI n)] (vD (dB r4)) []) <| .spl r4 (.exb fun r5 => .ob (FnD prog 142 [vD (dI x2),vD (dI n)] (vD (dB r5)) []) <| .spl r5 (.spl ((x1 != x2)) (.reg 0 [(3,Or.call (vD (dB r4)) [] [],0,0),(4,Or.bool true,0,0),(8,Or.call (vD (dB r5)) [] [],0,0),(10,Or.bool true,0,0),(17,Or.bool true,0,0)] [4] [] [.old 4,.old 3,.old 2,.old 1,.old 0] <| .ret []) (.reg 0 [(3,Or.call (vD (dB r4)) [] [],0,0),(4,Or.bool true,0,0),(8,Or.call (vD (dB r5)) [] [],0,0),(10,Or.bool true,0,0),(17,Or.bool false,0,0)] [4] [] [.old 4,.old 3,.old 2,.old 1,.old 0] <| .ret [])) (.reg 0 [(3,Or.call (vD (dB r4)) [] [],0,0),(4,Or.bool true,0,0),(8,Or.call (vD (dB r5)) [] [],0,0),(10,Or.bool false,0,0)] [4] [] [.old 3,.old 2,.old 1,.old 0] <| .ret [])) (.reg 0 [(3,Or.call (vD (dB r4)) [] [],0,0),(4,Or.bool false,0,0)] [4] [] [.old 1,.old 0] <| .ret [])) (.r0 [4] <| .ret []))))
   (by kernel_rfl) (by kernel_rfl) (by kernel_rfl) h
def vc135 (s : DL) (f:FuncId) (fc : List D) (R:V → Heap → Prop) : Prop :=
 ∃ (r:Int),
 (FnD prog 153 [vD (dL s),vD (D.fn (.func f) fc)] (vD (dI r)) []) ∧
 (R (vD (dB (decide (r ≥ (0:Int))))) [])
theorem vc135_ok (s : DL) (f:FuncId) (fc : List D) {R:V → Heap → Prop} (h : vc135 s f fc R) : FnG prog 135 [vD (dL s),vD (D.fn (.func f) fc)] [] R :=
 FnG.vcg hT func135 ntmps135 (.r0 [0,1] <| .ex fun r => .reg 0 [(2,Or.call (vD (dI r)) [] [],0,0)] [4] [] [] <| .ret [])
   (by kernel_rfl) (by kernel_rfl) (by kernel_rfl) h
def vc136 (x0 x1 x2:Int) (x3:Bool) (x4 : DL) (c0:Int) (R:V → Heap → Prop) : Prop :=
 ∃ (r:Bool),
 (FnD prog 137 [vA [sD (dI x0),sD (dI x1),sD (dI x2),sD (dB x3),sD (dL x4)],vD (dI c0)] (vD (dB r)) []) ∧
 (R (vD (dB (!r))) [])
theorem vc136_ok (x0 x1 x2:Int) (x3:Bool) (x4 : DL) (c0:Int) {R:V → Heap → Prop} (h : vc136 x0 x1 x2 x3 x4 c0 R) : FnG prog 136 [vA [sD (dI x0),sD (dI x1),sD (dI x2),sD (dB x3),sD (dL x4)],vD (D.box [dI c0])] [] R :=
 FnG.vcg hT func136 ntmps136 (.reg 1 [(0,Or.none,0,1)] [1,2] [0] [] <| .exb fun r => .reg 0 [(2,Or.call (vD (dB r)) [] [],0,0)] [3] [] [] <| .ret [])
   (by kernel_rfl) (by kernel_rfl) (by kernel_rfl) h
def vc137 (x0 x1 x2:Int) (x3:Bool) (x4 : DL) (n:Int) (R:V → Heap → Prop) : Prop :=
 ∃ (r:Bool),
 (FnD prog 74 [vA [sD (dB x3),sD (dL x4)]] (vD (dB r)) []) ∧
 (((!r) = true →
 R (vD (dB false)) []) ∧
 ((!r) = false →
 ∃ (r1:Bool),
 (FnD prog 154 [vD (dI x1),dV (D.box [dI n])] (vD (dB r1)) []) ∧
 (((!r1) = true →
 R (vD (dB false)) []) ∧
 ((!r1) = false →
 ((x0 == (2:Int)) = true →
 ((x2 == (0:Int)) = true →
 R (vD (dB ((x4.length:Int) == (0:Int)))) []) ∧
 ((x2 == (0:Int)) = false →
 R (vD (dB false)) [])) ∧
 ((x0 == (2:Int)) = false →
 ((x0 == (1:Int)) = true →
 ∃ (r2:Bool),
 (FnD prog 154 [vD (dI x2),dV (D.box [dI n])] (vD (dB r2)) []) ∧
 ((r2 = true →
 ((x1 != x2) = true →
 R (vD (dB ((x4.length:Int) == (0:Int)))) []) ∧
 ((x1 != x2) = false →
 R (vD (dB false)) [])) ∧
 (r2 = false →
 R (vD (dB false)) []))) ∧
 ((x0 == (1:Int)) = false →
 ((x0 == (3:Int)) = true →
 ∃ (r3:Bool),
 (FnD prog 154 [vD (dI x2),dV (D.box [dI n])] (vD (dB r3)) []) ∧
 ((r3 = true →
 R (vD (dB (x1 != x2))) []) ∧
 (r3 = false →
 R (vD (dB false)) []))) ∧
 ((x0 == (3:Int)) = false →
 R (vD (dB false)) [])))))))
theorem vc137_ok (x0 x1 x2:Int) (x3:Bool) (x4 : DL) (n:Int) {R:V → Heap → Prop} (h : vc137 x0 x1 x2 x3 x4 n R) : FnG prog 137 [vA [sD (dI x0),sD (dI x1),sD (dI x2),sD (dB x3),sD (dL x4)],vD (dI n)] [] R :=
 FnG.vcg hT func137 ntmps137 (.reg 2 [(0,Or.none,0,1),(1,Or.none,1,1)] [2,3] [0,1] [] <| .r1 [2,5] [0,1] <| .r1 [2,5,6] [0,1] <| .frz [1] <| .exb fun r => .ob (FnD prog 74 [vA [sD (dB x3),sD (dL x4)]] (vD (dB r)) []) <| .spl ((!r)) (.reg 0 [(2,Or.call (vD (dB r)) [] [],0,0),(4,Or.bool true,0,0)] [2,5,6,13] [0] [.old 1,.old 0] <| .ct true none <| .r0 [4] <| .ret []) (.exb fun r1 => .reg 0 [(2,Or.call (vD (dB r)) [] [],0,0),(4,Or.bool false,0,0),(8,Or.call (vD (dB r1)) [] [],0,0)] [2,5,6,13] [0] [.old 1,.old 0] <| .c2 (.r0 [4] <| .ret []) (.r1 [2,5,6,25] [0] <| .c2 (.spl ((x2 == (0:Int))) (.reg 0 [(3,Or.bool true,0,0)] [4] [] [.old 0] <| .ret []) (.reg 0 [(3,Or.bool false,0,0)] [4] [] [.old 0] <| .ret [])) (.r1 [2,5,6,35] [0] <| .c2 (.exb fun r2 => .ob (FnD prog 154 [vD (dI x2),dV (D.box [dI n])] (vD (dB r2)) []) <| .spl r2 (.spl ((x1 != x2)) (.reg 0 [(3,Or.call (vD (dB r2)) [] [],0,0),(4,Or.bool true,0,0),(11,Or.bool true,0,0)] [4] [] [.old 2,.old 1,.old 0] <| .ret []) (.reg 0 [(3,Or.call (vD (dB r2)) [] [],0,0),(4,Or.bool true,0,0),(11,Or.bool false,0,0)] [4] [] [.old 2,.old 1,.old 0] <| .ret [])) (.reg 0 [(3,Or.call (vD (dB r2)) [] [],0,0),(4,Or.bool false,0,0)] [4] [] [.old 1,.old 0] <| .ret [])) (.spl ((x0 == (3:Int))) (.exb fun r3 => .ob (FnD prog 154 [vD (dI x2),dV (D.box [dI n])] (vD (dB r3)) []) <| .spl r3 (.reg 0 [(3,Or.bool true,0,0),(7,Or.call (vD (dB r3)) [] [],0,0),(9,Or.bool true,0,0)] [4] [] [.old 2,.old 1,.old 0] <| .ret []) (.reg 0 [(3,Or.bool true,0,0),(7,Or.call (vD (dB r3)) [] [],0,0),(9,Or.bool false,0,0)] [4] [] [.old 2,.old 1,.old 0] <| .ret [])) (.reg 0 [(3,Or.bool false,0,0)] [4] [] [.old 0] <| .ret []))))))
   (by kernel_rfl) (by kernel_rfl) (by kernel_rfl) h
def vc142 (i n:Int) (R:V → Heap → Prop) : Prop :=
 (decide (i ≥ (0:Int)) = true →
 R (vD (dB (decide (i < n)))) []) ∧
 (decide (i ≥ (0:Int)) = false →
 R (vD (dB false)) [])
theorem vc142_ok (i n:Int) {R:V → Heap → Prop} (h : vc142 i n R) : FnG prog 142 [vD (dI i),vD (dI n)] [] R :=
 FnG.vcg hT func142 ntmps142 (.r0 [0,1] <| .spl ((decide (i ≥ (0:Int)))) (.reg 0 [(2,Or.bool true,0,0)] [4] [] [.old 0] <| .ret []) (.reg 0 [(2,Or.bool false,0,0)] [4] [] [.old 0] <| .ret []))
   (by kernel_rfl) (by kernel_rfl) (by kernel_rfl) h
def vc153 (s : DL) (f:FuncId) (fc : List D) (R:V → Heap → Prop) : Prop :=
 ∃ (J0:Int → Prop) (μ0:Int → Nat),
 J0 (0:Int) ∧ ∀ (t8:Int),J0 t8 →
 (decide (t8 < (s.length:Int)) = true →
 ∃ (x0 x1 x2:Int) (x3:Bool) (x4 : DL) (r:Bool),
 (0 ≤ t8 ∧ t8 < (s.length:Int)) ∧
 (s[(t8).toNat]? = some [dI x0,dI x1,dI x2,dB x3,dL x4]) ∧
 (FnD prog f ([vA [sD (dI x0),sD (dI x1),sD (dI x2),sD (dB x3),sD (dL x4)]] ++ fc.map dV) (vD (dB r)) []) ∧
 ((r = true →
 R (vD (dI t8)) []) ∧
 (r = false →
 J0 (IntKind.i64.wrap (t8 + (1:Int))) ∧ μ0 (IntKind.i64.wrap (t8 + (1:Int))) < μ0 t8))) ∧
 (decide (t8 < (s.length:Int)) = false →
 R (vD (dI (-1:Int))) [])
theorem vc153_ok (s : DL) (f:FuncId) (fc : List D) {R:V → Heap → Prop} (h : vc153 s f fc R) : FnG prog 153 [vD (dL s),vD (D.fn (.func f) fc)] [] R :=
 FnG.vcg hT func153 ntmps153 (.r0 [0,1] <| .r0 [0,1,7,8] <| .lp [.i] (fun t8 => ⟨[(0,vD (dL s)),(1,vD (D.fn (.func f) fc)),(7,vD (dI (s.length:Int))),(8,vD (dI t8))],[],19⟩) [.i (0:Int)] <| .fi fun t8 => .beg <| .r0 [0,1,7,8,9] <| .c2 (.r0 [0,1,5,7,8] <| .ex fun x0 => .ex fun x1 => .ex fun x2 => .exb fun x3 => .exl fun x4 => .exb fun r => .reg 0 [(4,Or.cells [dI x0,dI x1,dI x2,dB x3,dL x4],0,0),(5,Or.call (vD (dB r)) [] [],0,0)] [0,1,5,7,8,16] [] [] <| .c2 (.r0 [4] <| .ret []) (.r0 [0,1,7,8] <| .bk 0 [.i (IntKind.i64.wrap (t8 + (1:Int)))])) (.r0 [4] <| .ret []))
   (by kernel_rfl) (by kernel_rfl) (by kernel_rfl) h
def vc154 (i c0:Int) (R:V → Heap → Prop) : Prop :=
 (decide ((0:Int) ≤ i) = true →
 R (vD (dB (decide (i < c0)))) []) ∧
 (decide ((0:Int) ≤ i) = false →
 R (vD (dB false)) [])
theorem vc154_ok (i c0:Int) {R:V → Heap → Prop} (h : vc154 i c0 R) : FnG prog 154 [vD (dI i),vD (D.box [dI c0])] [] R :=
 FnG.vcg hT func154 ntmps154 (.r0 [0,1] <| .spl ((decide ((0:Int) ≤ i))) (.reg 0 [(2,Or.bool true,0,0)] [3] [] [.old 0] <| .ret []) (.reg 0 [(2,Or.bool false,0,0)] [3] [] [.old 0] <| .ret []))
   (by kernel_rfl) (by kernel_rfl) (by kernel_rfl) h
def vc51 (l : DL) (n:Int) (R:V → Heap → Prop) : Prop :=
 ∃ (J0:Int → Prop) (μ0:Int → Nat),
 J0 (0:Int) ∧ ∀ (i:Int),J0 i →
 (decide (i < (l.length:Int)) = true →
 ∃ (x0 x1 x2:Int) (x3:Bool) (x4 : DL) (r:Bool),
 (0 ≤ i ∧ i < (l.length:Int)) ∧
 (l[(i).toNat]? = some [dI x0,dI x1,dI x2,dB x3,dL x4]) ∧
 (FnD prog 103 [vA [sD (dI x0),sD (dI x1),sD (dI x2),sD (dB x3),sD (dL x4)],vD (dI n)] (vD (dB r)) []) ∧
 (((!r) = true →
 R (vD (dB false)) []) ∧
 ((!r) = false →
 J0 (IntKind.i64.wrap (i + (1:Int))) ∧ μ0 (IntKind.i64.wrap (i + (1:Int))) < μ0 i))) ∧
 (decide (i < (l.length:Int)) = false →
 R (vD (dB true)) [])
theorem vc51_ok (l : DL) (n:Int) {R:V → Heap → Prop} (h : vc51 l n R) : FnG prog 51 [vD (dL l),vD (dI n)] [] R :=
 FnG.vcg hT func51 ntmps51 (.r0 [0,1] <| .r0 [0,1,5] <| .lp [.i] (fun i => ⟨[(0,vD (dL l)),(1,vD (dI n)),(5,vD (dI i))],[],19⟩) [.i (0:Int)] <| .fi fun i => .beg <| .r0 [0,1,5,9] <| .c2 (.ex fun x0 => .ex fun x1 => .ex fun x2 => .exb fun x3 => .exl fun x4 => .exb fun r => .reg 0 [(3,Or.cells [dI x0,dI x1,dI x2,dB x3,dL x4],0,0),(5,Or.call (vD (dB r)) [] [],0,0)] [0,1,5,18] [] [] <| .c2 (.r0 [4] <| .ret []) (.r0 [0,1,5] <| .bk 0 [.i (IntKind.i64.wrap (i + (1:Int)))])) (.r0 [4] <| .ret []))
   (by kernel_rfl) (by kernel_rfl) (by kernel_rfl) h
def vc54 (a b : DL) (R:V → Heap → Prop) : Prop :=
 (((a.length:Int) != (b.length:Int)) = true →
 R (vD (dB false)) []) ∧
 (((a.length:Int) != (b.length:Int)) = false →
 ∃ (J0:Int → Prop) (μ0:Int → Nat),
 J0 (0:Int) ∧ ∀ (i:Int),J0 i →
 (decide (i < (a.length:Int)) = true →
 ∃ (x0 x1 x2:Int) (x3:Bool) (x4 : DL) (x01 x11 x21:Int) (x31:Bool) (x41 : DL),
 (0 ≤ i ∧ i < (a.length:Int)) ∧
 (a[(i).toNat]? = some [dI x0,dI x1,dI x2,dB x3,dL x4]) ∧
 (0 ≤ i ∧ i < (b.length:Int)) ∧
 (b[(i).toNat]? = some [dI x01,dI x11,dI x21,dB x31,dL x41]) ∧
 (((x0 != x01) = true →
 R (vD (dB false)) []) ∧
 ((x0 != x01) = false →
 ((x1 != x11) = true →
 R (vD (dB false)) []) ∧
 ((x1 != x11) = false →
 ((x2 != x21) = true →
 R (vD (dB false)) []) ∧
 ((x2 != x21) = false →
 ∃ (r:Bool),
 (FnD prog 40 [vA [sD (dB x3),sD (dL x4)],vA [sD (dB x31),sD (dL x41)]] (vD (dB r)) []) ∧
 (((!r) = true →
 R (vD (dB false)) []) ∧
 ((!r) = false →
 J0 (IntKind.i64.wrap (i + (1:Int))) ∧ μ0 (IntKind.i64.wrap (i + (1:Int))) < μ0 i))))))) ∧
 (decide (i < (a.length:Int)) = false →
 R (vD (dB true)) []))
theorem vc54_ok (a b : DL) {R:V → Heap → Prop} (h : vc54 a b R) : FnG prog 54 [vD (dL a),vD (dL b)] [] R :=
 FnG.vcg hT func54 ntmps54 (.r0 [0,1] <| .r0 [0,1,10] <| .c2 (.r0 [4] <| .ret []) (.r0 [0,1,5] <| .lp [.i] (fun i => ⟨[(0,vD (dL a)),(1,vD (dL b)),(5,vD (dI i))],[],68⟩) [.i (0:Int)] <| .fi fun i => .beg <| .r0 [0,1,5,14] <| .c2 (.ex fun x0 => .ex fun x1 => .ex fun x2 => .exb fun x3 => .exl fun x4 => .ex fun x01 => .ex fun x11 => .ex fun x21 => .exb fun x31 => .exl fun x41 => .ob (0 ≤ i ∧ i < (a.length:Int)) <| .ob (a[(i).toNat]? = some [dI x0,dI x1,dI x2,dB x3,dL x4]) <| .ob (0 ≤ i ∧ i < (b.length:Int)) <| .ob (b[(i).toNat]? = some [dI x01,dI x11,dI x21,dB x31,dL x41]) <| .spl ((x0 != x01)) (.drw 0 [(4,(Or.cells [dI x0,dI x1,dI x2,dB x3,dL x4],0,0),[]),(9,(Or.cells [dI x01,dI x11,dI x21,dB x31,dL x41],0,0),[]),(11,(Or.bool true,0,0),[])] [0,1,5,67] [] [.old 4,.old 3,.old 2,.old 1,.old 0] <| .ct true none <| .r0 [4] <| .ret []) (.spl ((x1 != x11)) (.drw 0 [(4,(Or.cells [dI x0,dI x1,dI x2,dB x3,dL x4],0,0),[]),(9,(Or.cells [dI x01,dI x11,dI x21,dB x31,dL x41],0,0),[]),(11,(Or.bool false,0,0),[]),(16,(Or.cells [dI x0,dI x1,dI x2,dB x3,dL x4],0,0),[]),(21,(Or.cells [dI x01,dI x11,dI x21,dB x31,dL x41],0,0),[]),(24,(Or.bool true,0,0),[])] [0,1,5,67] [] [.old 5,.old 4,.old 3,.old 2,.old 1,.old 5,.old 4,.old 3,.old 2,.old 0] <| .ct true none <| .r0 [4] <| .ret []) (.spl ((x2 != x21)) (.drw 0 [(4,(Or.cells [dI x0,dI x1,dI x2,dB x3,dL x4],0,0),[]),(9,(Or.cells [dI x01,dI x11,dI x21,dB x31,dL x41],0,0),[]),(11,(Or.bool false,0,0),[]),(16,(Or.cells [dI x0,dI x1,dI x2,dB x3,dL x4],0,0),[]),(21,(Or.cells [dI x01,dI x11,dI x21,dB x31,dL x41],0,0),[]),(24,(Or.bool false,0,0),[]),(29,(Or.cells [dI x0,dI x1,dI x2,dB x3,dL x4],0,0),[]),(34,(Or.cells [dI x01,dI x11,dI x21,dB x31,dL x41],0,0),[]),(37,(Or.bool true,0,0),[])] [0,1,5,67] [] [.old 6,.old 5,.old 4,.old 3,.old 2,.old 6,.old 5,.old 4,.old 3,.old 1,.old 6,.old 5,.old 4,.old 3,.old 0] <| .ct true none <| .r0 [4] <| .ret []) (.exb fun r => .drw 0 [(4,(Or.cells [dI x0,dI x1,dI x2,dB x3,dL x4],0,0),[]),(9,(Or.cells [dI x01,dI x11,dI x21,dB x31,dL x41],0,0),[]),(11,(Or.bool false,0,0),[]),(16,(Or.cells [dI x0,dI x1,dI x2,dB x3,dL x4],0,0),[]),(21,(Or.cells [dI x01,dI x11,dI x21,dB x31,dL x41],0,0),[]),(24,(Or.bool false,0,0),[]),(29,(Or.cells [dI x0,dI x1,dI x2,dB x3,dL x4],0,0),[]),(34,(Or.cells [dI x01,dI x11,dI x21,dB x31,dL x41],0,0),[]),(37,(Or.bool false,0,0),[]),(42,(Or.cells [dI x0,dI x1,dI x2,dB x3,dL x4],0,0),[]),(47,(Or.cells [dI x01,dI x11,dI x21,dB x31,dL x41],0,0),[]),(48,(Or.call (vD (dB r)) [] [],0,0),[])] [0,1,5,67] [] [.old 6,.old 5,.old 4,.old 3,.old 2,.old 6,.old 5,.old 4,.old 3,.old 1,.old 6,.old 5,.old 4,.old 3,.old 0,.old 6,.old 5,.old 4,.old 3] <| .c2 (.r0 [4] <| .ret []) (.r0 [0,1,5] <| .bk 0 [.i (IntKind.i64.wrap (i + (1:Int)))]))))) (.r0 [4] <| .ret [])))
   (by kernel_rfl) (by kernel_rfl) (by kernel_rfl) h
def vc50 (l : DL) (R:V → Heap → Prop) : Prop :=
 ∃ (J0 : (DL) → Int → Prop) (μ0 : (DL) → Int → Nat),
 J0 ([] : DL) (0:Int) ∧ ∀ (out : DL) (t11:Int),J0 out t11 →
 (decide (t11 < (l.length:Int)) = true →
 ∃ (x0 x1 x2:Int) (x3:Bool) (x4 : DL),
 (0 ≤ t11 ∧ t11 < (l.length:Int)) ∧
 (l[(t11).toNat]? = some [dI x0,dI x1,dI x2,dB x3,dL x4]) ∧
 (∃ (r:Bool),
 (FnD prog 101 [vA [sD (dI x0),sD (dI x1),sD (dI x2),sD (dB x3),sD (dL x4)]] (vD (dB r)) []) ∧
 ((r = true →
 J0 out (IntKind.i64.wrap (t11 + (1:Int))) ∧ μ0 out (IntKind.i64.wrap (t11 + (1:Int))) < μ0 out t11) ∧
 (r = false →
 (decide ((out.length:Int) > (0:Int)) = true →
 ∃ (x01 x11 x21:Int) (x31:Bool) (x41 : DL) (r0 r1 r2:Int) (r3:Bool) (r4 : DL) (r5:Bool),
 (0 ≤ (IntKind.i64.wrap ((out.length:Int) - (1:Int))) ∧ (IntKind.i64.wrap ((out.length:Int) - (1:Int))) < (out.length:Int)) ∧
 (out[((IntKind.i64.wrap ((out.length:Int) - (1:Int)))).toNat]? = some [dI x01,dI x11,dI x21,dB x31,dL x41]) ∧
 (FnD prog 102 [vA [sD (dI x01),sD (dI x11),sD (dI x21),sD (dB x31),sD (dL x41)],vA [sD (dI x0),sD (dI x1),sD (dI x2),sD (dB x3),sD (dL x4)]] (V.tup [E.agg [sD (dI r0),sD (dI r1),sD (dI r2),sD (dB r3),sD (dL r4)],eD (dB r5)]) []) ∧
 ((r5 = true →
 (0 ≤ (IntKind.i64.wrap ((out.length:Int) - (1:Int))) ∧ (IntKind.i64.wrap ((out.length:Int) - (1:Int))) ≤ (out.length:Int)) ∧
 (∃ (r6:Bool),
 (FnD prog 101 [vA [sD (dI r0),sD (dI r1),sD (dI r2),sD (dB r3),sD (dL r4)]] (vD (dB r6)) []) ∧
 (((!r6) = true →
 (((out.take ((IntKind.i64.wrap ((out.length:Int) - (1:Int)))).toNat).length + ([[dI r0,dI r1,dI r2,dB r3,dL r4]] : DL).length) * 56 ≤ 140737488355328) ∧
 (J0 ((out.take ((IntKind.i64.wrap ((out.length:Int) - (1:Int)))).toNat) ++ [[dI r0,dI r1,dI r2,dB r3,dL r4]]) (IntKind.i64.wrap (t11 + (1:Int))) ∧ μ0 ((out.take ((IntKind.i64.wrap ((out.length:Int) - (1:Int)))).toNat) ++ [[dI r0,dI r1,dI r2,dB r3,dL r4]]) (IntKind.i64.wrap (t11 + (1:Int))) < μ0 out t11)) ∧
 ((!r6) = false →
 J0 (out.take ((IntKind.i64.wrap ((out.length:Int) - (1:Int)))).toNat) (IntKind.i64.wrap (t11 + (1:Int))) ∧ μ0 (out.take ((IntKind.i64.wrap ((out.length:Int) - (1:Int)))).toNat) (IntKind.i64.wrap (t11 + (1:Int))) < μ0 out t11)))) ∧
 (r5 = false →
 ∃ (r7:Bool),
 (FnD prog 101 [vA [sD (dI x0),sD (dI x1),sD (dI x2),sD (dB x3),sD (dL x4)]] (vD (dB r7)) []) ∧
 (((!r7) = true →
 ((out.length + ([[dI x0,dI x1,dI x2,dB x3,dL x4]] : DL).length) * 56 ≤ 140737488355328) ∧
 (J0 (out ++ [[dI x0,dI x1,dI x2,dB x3,dL x4]]) (IntKind.i64.wrap (t11 + (1:Int))) ∧ μ0 (out ++ [[dI x0,dI x1,dI x2,dB x3,dL x4]]) (IntKind.i64.wrap (t11 + (1:Int))) < μ0 out t11)) ∧
 ((!r7) = false →
 J0 out (IntKind.i64.wrap (t11 + (1:Int))) ∧ μ0 out (IntKind.i64.wrap (t11 + (1:Int))) < μ0 out t11))))) ∧
 (decide ((out.length:Int) > (0:Int)) = false →
 ∃ (r8:Bool),
 (FnD prog 101 [vA [sD (dI x0),sD (dI x1),sD (dI x2),sD (dB x3),sD (dL x4)]] (vD (dB r8)) []) ∧
 (((!r8) = true →
 ((out.length + ([[dI x0,dI x1,dI x2,dB x3,dL x4]] : DL).length) * 56 ≤ 140737488355328) ∧
 (J0 (out ++ [[dI x0,dI x1,dI x2,dB x3,dL x4]]) (IntKind.i64.wrap (t11 + (1:Int))) ∧ μ0 (out ++ [[dI x0,dI x1,dI x2,dB x3,dL x4]]) (IntKind.i64.wrap (t11 + (1:Int))) < μ0 out t11)) ∧
 ((!r8) = false →
 J0 out (IntKind.i64.wrap (t11 + (1:Int))) ∧ μ0 out (IntKind.i64.wrap (t11 + (1:Int))) < μ0 out t11))))))) ∧
 (decide (t11 < (l.length:Int)) = false →
 R (vD (dL out)) [])
theorem vc50_ok (l : DL) {R:V → Heap → Prop} (h : vc50 l R) : FnG prog 50 [vD (dL l)] [] R :=
 FnG.vcg hT func50 ntmps50 (.r0 [0] <| .r0 [0,3] <| .r0 [3,9,10,11] <| .ado [3] [] 5 <| .lp [.l,.i] (fun out t11 => ⟨[(3,vR 0),(9,vD (dL l)),(10,vD (dI (l.length:Int))),(11,vD (dI t11))],[some (Obj.arr 5 out)],46⟩) [.l ([] : DL),.i (0:Int)] <| .fl fun out => .fi fun t11 => .beg <| .r1 [3,9,10,11,12] [0] <| .c2 (.ex fun x0 => .ex fun x1 => .ex fun x2 => .exb fun x3 => .exl fun x4 => .reg 1 [(1,Or.cells [dI x0,dI x1,dI x2,dB x3,dL x4],0,0),(2,Or.none,1,1)] [3,5,9,10,11] [0,1] [] <| .exb fun r => .reg 0 [(1,Or.call (vD (dB r)) [] [],0,0)] [3,5,9,10,11,16] [0,1] [] <| .c2 (.r1 [3,9,10,11] [0] <| .bk 0 [.l out,.i (IntKind.i64.wrap (t11 + (1:Int)))]) (.r1 [3,5,6,9,10,11] [0,1] <| .r1 [3,5,6,9,10,11,20] [0,1] <| .c2 (.ex fun x01 => .ex fun x11 => .ex fun x21 => .exb fun x31 => .exl fun x41 => .ex fun r0 => .ex fun r1 => .ex fun r2 => .exb fun r3 => .exl fun r4 => .exb fun r5 => .drw 1 [(4,(Or.cells [dI x01,dI x11,dI x21,dB x31,dL x41],0,0),[]),(6,(Or.call (V.tup [E.agg [sD (dI r0),sD (dI r1),sD (dI r2),sD (dB r3),sD (dL r4)],eD (dB r5)]) [] [],0,0),[]),(10,(Or.none,2,1),[2]),(11,(Or.none,0,0),[2])] [3,5,6,7,8,9,10,11] [0,1,2] [] <| .r1 [3,5,6,7,9,10,11,31] [0,1,2] <| .c2 (.drw 1 [(3,(Or.none,3,1),[0,3]),(6,(Or.none,0,0),[1])] [3,5,9,10,11] [3,1] [] <| .exb fun r6 => .reg 0 [(1,Or.call (vD (dB r6)) [] [],0,0)] [3,5,9,10,11,39] [0,1] [] <| .c2 (.reg 2 [(2,Or.none,2,1),(3,Or.none,3,1)] [3,9,10,11] [3] [] <| .r1 [3,9,10,11] [0] <| .bk 0 [.l ((out.take ((IntKind.i64.wrap ((out.length:Int) - (1:Int)))).toNat) ++ [[dI r0,dI r1,dI r2,dB r3,dL r4]]),.i (IntKind.i64.wrap (t11 + (1:Int)))]) (.r1 [3,9,10,11] [0] <| .bk 0 [.l (out.take ((IntKind.i64.wrap ((out.length:Int) - (1:Int)))).toNat),.i (IntKind.i64.wrap (t11 + (1:Int)))])) (.exb fun r7 => .reg 0 [(1,Or.call (vD (dB r7)) [] [],0,0)] [3,5,9,10,11,39] [0,1] [] <| .c2 (.reg 2 [(2,Or.none,2,1),(3,Or.none,3,1)] [3,9,10,11] [3] [] <| .r1 [3,9,10,11] [0] <| .bk 0 [.l (out ++ [[dI x0,dI x1,dI x2,dB x3,dL x4]]),.i (IntKind.i64.wrap (t11 + (1:Int)))]) (.r1 [3,9,10,11] [0] <| .bk 0 [.l out,.i (IntKind.i64.wrap (t11 + (1:Int)))]))) (.exb fun r8 => .reg 0 [(1,Or.call (vD (dB r8)) [] [],0,0)] [3,5,9,10,11,39] [0,1] [] <| .c2 (.reg 2 [(2,Or.none,2,1),(3,Or.none,3,1)] [3,9,10,11] [3] [] <| .r1 [3,9,10,11] [0] <| .bk 0 [.l (out ++ [[dI x0,dI x1,dI x2,dB x3,dL x4]]),.i (IntKind.i64.wrap (t11 + (1:Int)))]) (.r1 [3,9,10,11] [0] <| .bk 0 [.l out,.i (IntKind.i64.wrap (t11 + (1:Int)))])))) (.r1 [2] [0] <| .frz [0] <| .ret []))
   (by kernel_rfl) (by kernel_rfl) (by kernel_rfl) h
def vc46 (l : DL) (a0 a1:Int) (a2 : DL) (R:V → Heap → Prop) : Prop :=
 ∃ (r:Bool),
 (FnD prog 96 [vD (dL l),vD (dI a0)] (vD (dB r)) []) ∧
 (((!r) = true →
 R (V.tup [E.agg [sD (dI (0:Int)),sD (dI (0:Int)),sD (dL ([] : DL))],eD (dI (180:Int))]) []) ∧
 ((!r) = false →
 ∃ (r1 : DL) (r0 r11:Int) (r2 : DL) (r3:Int),
 (FnD prog 48 [vD (dL l)] (vD (dL r1)) []) ∧
 (FnD prog 45 [vD (dL r1),vA [sD (dI a0),sD (dI a1),sD (dL a2)]] (V.tup [E.agg [sD (dI r0),sD (dI r11),sD (dL r2)],eD (dI r3)]) []) ∧
 (R (V.tup [E.agg [sD (dI r0),sD (dI r11),sD (dL r2)],eD (dI r3)]) [])))
theorem vc46_ok (l : DL) (a0 a1:Int) (a2 : DL) {R:V → Heap → Prop} (h : vc46 l a0 a1 a2 R) : FnG prog 46 [vD (dL l),vA [sD (dI a0),sD (dI a1),sD (dL a2)]] [] R :=
 FnG.vcg hT func46 ntmps46 (.reg 2 [(0,Or.none,0,1),(1,Or.none,1,1)] [0,3,4] [0,1] [] <| .exb fun r => .reg 0 [(3,Or.call (vD (dB r)) [] [],0,0)] [0,3,4,10] [0,1] [] <| .c2 (.r1 [4,5] [1] <| .nrm [4,5] [0] <| .ret []) (.exl fun r1 => .ex fun r0 => .ex fun r11 => .exl fun r2 => .ex fun r3 => .drw 0 [(1,(Or.call (vD (dL r1)) [] [],0,0),[]),(3,(Or.call (V.tup [E.agg [sD (dI r0),sD (dI r11),sD (dL r2)],eD (dI r3)]) [] [],0,0),[]),(6,(Or.none,0,0),[1])] [4,5] [1] [] <| .ret []))
   (by kernel_rfl) (by kernel_rfl) (by kernel_rfl) h
def vc47 (l : DL) (n:Int) (R:V → Heap → Prop) : Prop :=
 (decide (n < (0:Int)) = true →
 R (V.tup [E.agg [sD (dI (0:Int)),sD (dI (0:Int)),sD (dL ([] : DL))],eD (dI (1:Int))]) []) ∧
 (decide (n < (0:Int)) = false →
 (decide (n > (64:Int)) = true →
 R (V.tup [E.agg [sD (dI (0:Int)),sD (dI (0:Int)),sD (dL ([] : DL))],eD (dI (1:Int))]) []) ∧
 (decide (n > (64:Int)) = false →
 ∃ (r0 r1:Int) (r2 : DL) (r01 r11:Int) (r21 : DL) (r:Int),
 (FnD prog 56 [vD (dI n)] (vA [sD (dI r0),sD (dI r1),sD (dL r2)]) []) ∧
 (FnD prog 45 [vD (dL l),vA [sD (dI r0),sD (dI r1),sD (dL r2)]] (V.tup [E.agg [sD (dI r01),sD (dI r11),sD (dL r21)],eD (dI r)]) []) ∧
 (R (V.tup [E.agg [sD (dI r01),sD (dI r11),sD (dL r21)],eD (dI r)]) [])))
theorem vc47_ok (l : DL) (n:Int) {R:V → Heap → Prop} (h : vc47 l n R) : FnG prog 47 [vD (dL l),vD (dI n)] [] R :=
 FnG.vcg hT func47 ntmps47 (.reg 1 [(0,Or.none,0,1)] [0,1,4] [0] [] <| .spl ((decide (n < (0:Int)))) (.reg 0 [(2,Or.bool true,0,0)] [0,1,4,11] [0] [.old 0] <| .ct true none <| .r1 [4,5] [0] <| .nrm [4,5] [0] <| .ret []) (.reg 0 [(2,Or.bool false,0,0)] [0,1,4,11] [0] [.old 0] <| .c2 (.r1 [4,5] [0] <| .nrm [4,5] [0] <| .ret []) (.ex fun r0 => .ex fun r1 => .exl fun r2 => .ex fun r01 => .ex fun r11 => .exl fun r21 => .ex fun r => .reg 0 [(2,Or.call (vA [sD (dI r0),sD (dI r1),sD (dL r2)]) [] [],0,0),(3,Or.call (V.tup [E.agg [sD (dI r01),sD (dI r11),sD (dL r21)],eD (dI r)]) [] [],0,0)] [4,5] [0] [] <| .ret [])))
   (by kernel_rfl) (by kernel_rfl) (by kernel_rfl) h
end Go.AM
/- slices.Backward's iterator (f141): it calls yield with the elements from the last to the first. -/
set_option maxRecDepth 100000
set_option linter.unusedVariables false
namespace Go.AM
open Go.Proofs.Try
abbrev bkT (l:Nat) (L : DL) (i:Int) : List (Nat × V) := [(0, vD (.fn (.yield l) [])), (1, vD (.box [.sl L])), (3, vD (dI i))]
def iOf : Value → Int
 | .int _ n => n
 | _ => 0
def bkX (L : DL) (k:Nat) : V := .e (.agg ((L[L.length - 1 - k]?.getD []).map .dat))
theorem iOf_ok {w : World} {I:Nat → Prop} {v : Value} {k : IntKind} {n : Int} (h : Reads w I v (.int k n)) : iOf v = n := by
 cases h; rfl
theorem rel_dats {w : World} {I:Nat → Prop} {M M' : Mem} {v : Value} {ds : List D} (h : RelV w I M v (.e (.agg (ds.map .dat)))) : RelV w I M' v (.e (.agg (ds.map .dat))) := by
 obtain ⟨cs, rfl, h1, h2⟩ := h
 refine ⟨cs, rfl, h1, fun i v s hv hs => ?_⟩
 have h3 := h2 i v s hv hs
 simp only [List.getElem?_map, Option.map_eq_some_iff] at hs
 obtain ⟨d, _, rfl⟩ := hs
 exact h3
set_option maxHeartbeats 1000000 in
theorem back_stops (L : DL) (hl : L.length ≤ 9223372036854775807) (hL : ∀ x ∈ L, ∃ d0 d1 d2 d3 d4, x = [d0, d1, d2, d3, d4]) :
   Stops prog 141 [vD (.box [.sl L])] L.length (fun k => vD (dI ((L.length:Int) - 1 - k))) (bkX L) := by
 intro l J hJs hJe hY I0 M0 W0 lb hJ0 hlb n
 obtain ⟨h, hS⟩ := hJs _ _ _ _ hJ0
 have hargs : (#[Value.func (.yield l) #[] #[]] ++ lb.toArray) = (Value.func (.yield l) #[] #[] :: lb).toArray := by simp
 rw [hargs]
 refine callsIn_of_wp func141 rfl trivial ?_
 have hs0 := Sim.start (fn := f141) ntmps141 (args := [vD (.fn (.yield l) []), vD (.box [.sl L])]) (by simp) hS.data (vs := Value.func (.yield l) #[] #[] :: lb)
   ⟨by simpa using hlb.1, fun i v x hv hx => by
     cases i with
     | zero =>
       simp only [List.getElem?_cons_zero, Option.some.injEq] at hv hx
       subst hv; subst hx
       exact Reads.fn (.yield l) [] [] rfl (fun i v d h => by simp at h)
     | succ i => exact hlb.2 i v x (by simpa using hv) (by simpa using hx)⟩
 have noE : ∀ {M : Mem} {h : Heap} {I I':Nat → Prop} {w w' : World} {M' : Mem} {h' : Heap}, (∀ b, ¬ fpAll M h b) → Nw0 0 M h I w M' h' I' w' → Ext (fun _ => False) I w I' w' := fun hf n => n.ext.mono fun b hb => hf b hb
 have no0 : ∀ b, ¬ fpAll [] [] b := fun b ⟨o, ho⟩ => by simp [fpAt] at ho
 refine wpIn_seq (wpIn_mono (Does.regV hT (n0 := 0) [0, 1, 3] [] (σ' := ⟨bkT l L (IntKind.i64.wrap ((L.length:Int) - 1)), [], 19⟩) (cnt := 0) (ins := [o0, o0, o0, o0]) (obs := []) (by kernel_rfl) rfl rfl (by kernel_rfl) trivial none n I0 [] _ W0 hs0) ?_)
 rintro e a1 W1 ⟨rfl, I1, M1, s1, n1⟩
 rw [w64 (by omega) (by omega)] at s1
 have hJ1 : J 0 I1 M0 W1 := hJe _ _ _ _ _ _ hJ0 (noE no0 n1) fun b hb => (s1.imm b hb).1
 refine wpIn_block ?_
 refine wpIn_loop (fun a W => ∃ k I M M', k ≤ L.length ∧ J k I M W ∧ Sim I M' ⟨bkT l L ((L.length:Int) - 1 - k), [], 19⟩ a W) (fun a _ => (iOf (a.tmps.getD 3 undef) + 1).toNat) ⟨0, I1, M0, M1, Nat.zero_le _, hJ1, by simpa using s1⟩ ?_
 rintro a2 W2 ⟨k, I2, M2, M2', hk, hJ2, s2⟩
 have s2' : Sim I2 [] ⟨bkT l L ((L.length:Int) - 1 - k), [], 19⟩ a2 W2 := by
   obtain ⟨h, hS⟩ := hJs _ _ _ _ hJ2
   refine { toSimH := hS.data, tm := fun i v hv => ?_, size := s2.size, defers := s2.defers }
   have := s2.tm i v hv
   simp only [bkT, List.mem_cons, Prod.mk.injEq, List.not_mem_nil, or_false] at hv
   rcases hv with ⟨rfl, rfl⟩ | ⟨rfl, rfl⟩ | ⟨rfl, rfl⟩ <;> exact this
 have hm2 : iOf (a2.tmps.getD 3 undef) = (L.length:Int) - 1 - k := iOf_ok (s2.tm 3 (vD (dI ((L.length:Int) - 1 - k))) (by simp))
 refine wpIn_seq (wpIn_seq (wpIn_mono (Does.regV hT (n0 := 0) [0, 1, 3, 8] [] (σ' := ⟨[(0, vD (.fn (.yield l) [])), (1, vD (.box [.sl L])), (3, vD (dI ((L.length:Int) - 1 - k))), (8, vD (dB (decide ((L.length:Int) - 1 - k ≥ 0))))], [], 19⟩) (cnt := 0) (ins := [o0, o0]) (obs := []) (by kernel_rfl) rfl rfl (by kernel_rfl) trivial none n I2 [] _ W2 s2') ?_))
 rintro e a3 W3 ⟨rfl, I3, M3, s3, n3⟩
 have hJ3 : J k I3 M2 W3 := hJe _ _ _ _ _ _ hJ2 (noE no0 n3) fun b hb => (s3.imm b hb).1
 refine wpIn_cond_split (t := decide ((L.length:Int) - 1 - k ≥ 0)) ?_ ?_ ?_
 · have h8 : Reads W3 I3 (a3.tmps.getD 8 undef) (.bool (decide ((L.length:Int) - 1 - k ≥ 0))) := s3.tm 8 (vD (dB (decide ((L.length:Int) - 1 - k ≥ 0)))) (by simp)
   show a3.tmps.getD 8 undef = _
   generalize a3.tmps.getD 8 undef = z at h8
   cases h8; rfl
 · intro hc
   simp only [decide_eq_true_eq] at hc
   refine wpIn_skip ?_
   have hkl : L.length - 1 - k < L.length := by omega
   obtain ⟨d0, d1, d2, d3, d4, hd⟩ := hL _ (List.getElem_mem hkl)
   have hd' : L[((L.length:Int) - 1 - k).toNat]? = some [d0, d1, d2, d3, d4] := by
     rw [show ((L.length:Int) - 1 - k).toNat = L.length - 1 - k by omega, List.getElem?_eq_getElem hkl, hd]
   have hx : bkX L k = vA [sD d0, sD d1, sD d2, sD d3, sD d4] := by
     simp only [bkX, List.getElem?_eq_getElem hkl, Option.getD_some, hd]; rfl
   refine wpIn_seq (wpIn_block (wpIn_seq ?_))
   refine wpIn_region (xpart_ok (k := 0) (c := 6) (rest := [6, 7]) hT (ins := [o0, o0, o0, o0, o0, (Or.cells [d0, d1, d2, d3, d4], 0, 0)]) (live := [0, 1, 3, 11, 12, 16])
     (σ' := ⟨[(0, vD (.fn (.yield l) [])), (1, vD (.box [.sl L])), (3, vD (dI ((L.length:Int) - 1 - k))), (11, vD (.fn (.yield l) [])), (12, vD (dI ((L.length:Int) - 1 - k))), (16, vA [sD d0, sD d1, sD d2, sD d3, sD d4])], [], 19⟩)
     (obs := [0 ≤ (L.length:Int) - 1 - k ∧ (L.length:Int) - 1 - k < (L.length:Int), L[((L.length:Int) - 1 - k).toNat]? = some [d0, d1, d2, d3, d4]]) (by kernel_rfl) ⟨⟨by omega, by omega⟩, hd', trivial⟩ s3 ?_)
   intro a4 W4 I4 M4 s4 n4
   have hJ4 : J k I4 M2 W4 := hJe _ _ _ _ _ _ hJ3 (noE (fun b ⟨o, ho⟩ => by simp [fpAt] at ho) n4) fun b hb => (s4.imm b hb).1
   have h11 : a4.eval (.tmp 11) = .func (.yield l) #[] #[] := by
     have h : Reads W4 I4 (a4.tmps.getD 11 undef) (.fn (.yield l) []) := s4.tm 11 (vD (.fn (.yield l) [])) (by simp)
     show a4.tmps.getD 11 undef = _
     generalize a4.tmps.getD 11 undef = z at h
     cases h with
     | fn _ cs _ hl _ =>
       have : cs = [] := List.length_eq_zero_iff.1 (by simpa using hl)
       subst this; rfl
   have r12 : RelV W4 I4 M4 (a4.tmps.getD 12 undef) (vD (dI ((L.length:Int) - 1 - k))) := s4.tm 12 _ (by simp)
   have r16 : RelV W4 I4 M4 (a4.tmps.getD 16 undef) (vA [sD d0, sD d1, sD d2, sD d3, sD d4]) := s4.tm 16 _ (by simp)
   refine wpOpsIn_one rfl rfl (wpIn_yield (args := #[a4.tmps.getD 12 undef, a4.tmps.getD 16 undef]) rfl rfl h11 (by simp [Act.eval]) (hY k I4 M2 W4 _ _ (by omega) hJ4 (toData_ok r12 rfl) (by rw [hx]; exact rel_dats (ds := [d0, d1, d2, d3, d4]) r16)) ?_)
   rintro e W5 ⟨rfl, I5, M5, hJ5, hk5⟩
   refine ⟨rfl, ?_⟩
   obtain ⟨h5, hS5⟩ := hJs _ _ _ _ hJ5
   have s5 : Sim I5 [] ⟨[(0, vD (.fn (.yield l) [])), (1, vD (.box [.sl L])), (3, vD (dI ((L.length:Int) - 1 - k))), (17, vD (dB true))], [], 19⟩ (a4.put (some 17) (.bool true)) W5 := by
     have hsz : a4.tmps.size = 19 := s4.size
     refine { toSimH := hS5.data, tm := fun i v hv => ?_, size := by simp [Act.put, hsz], defers := s4.defers }
     have old : ∀ i v d, (i, vD d) ∈ [(0, vD (.fn (.yield l) [])), (1, vD (.box [.sl L])), (3, vD (dI ((L.length:Int) - 1 - k)))] → v = vD d → RelV W5 I5 [] (a4.tmps.getD i undef) v := fun i v d hm hv => by
       subst hv
       have h : Reads W4 I4 (a4.tmps.getD i undef) d := s4.tm i (vD d) (by
         simp only [List.mem_cons, Prod.mk.injEq, List.not_mem_nil, or_false] at hm ⊢
         rcases hm with h | h | h <;> simp [h])
       exact Reads.mono h (fun b hb => (hk5 b hb).2) (fun b hb => (hk5 b hb).1)
     simp only [List.mem_cons, Prod.mk.injEq, List.not_mem_nil, or_false] at hv
     have hne : ∀ i, i ≠ 17 → (a4.put (some 17) (.bool true)).tmps.getD i undef = a4.tmps.getD i undef := fun i hi => by
       simp [Act.put, Array.getD_eq_getD_getElem?, Ne.symm hi]
     rcases hv with ⟨rfl, rfl⟩ | ⟨rfl, rfl⟩ | ⟨rfl, rfl⟩ | ⟨rfl, rfl⟩
     · rw [hne 0 (by simp)]; exact old 0 _ _ (by simp) rfl
     · rw [hne 1 (by simp)]; exact old 1 _ _ (by simp) rfl
     · rw [hne 3 (by simp)]; exact old 3 _ _ (by simp) rfl
     · have : (a4.put (some 17) (.bool true)).tmps.getD 17 undef = .bool true := by
         simp [Act.put, Array.getD_eq_getD_getElem?, hsz]
       rw [this]; exact Reads.bool true
   refine xpart_ok (k := 7) (c := 1) (rest := []) hT (ins := [o0]) (live := [0, 1, 3, 18]) (σ' := ⟨[(0, vD (.fn (.yield l) [])), (1, vD (.box [.sl L])), (3, vD (dI ((L.length:Int) - 1 - k))), (18, vD (dB (!true)))], [], 19⟩)
     (obs := []) (by kernel_rfl) trivial s5 ?_
   intro a6 W6 I6 M6 s6 n6
   have hJ6 : J (k + 1) I6 M5 W6 := hJe _ _ _ _ _ _ hJ5 (noE no0 n6) fun b hb => (s6.imm b hb).1
   show Code.wpIn _ _ _ _ _ _ _
   refine wpIn_cond_false ?_ (wpIn_skip ?_)
   · have h8 : Reads W6 I6 (a6.tmps.getD 18 undef) (.bool false) := s6.tm 18 (vD (dB (!true))) (by simp)
     show a6.tmps.getD 18 undef = _
     generalize a6.tmps.getD 18 undef = z at h8
     cases h8; rfl
   refine wpIn_mono (Does.regV hT (n0 := 0) [0, 1, 3] [] (σ' := ⟨bkT l L (IntKind.i64.wrap ((L.length:Int) - 1 - k - 1)), [], 19⟩) (cnt := 0) (ins := [o0, o0, o0]) (obs := []) (by kernel_rfl) rfl rfl (by kernel_rfl) trivial none n I6 _ _ W6 s6) ?_
   rintro e a7 W7 ⟨rfl, I7, M7, s7, n7⟩
   rw [w64 (by omega) (by omega)] at s7
   have hJ7 : J (k + 1) I7 M5 W7 := hJe _ _ _ _ _ _ hJ6 (noE (fun b ⟨o, ho⟩ => by simp [fpAt] at ho) n7) fun b hb => (s7.imm b hb).1
   refine ⟨⟨k + 1, I7, M5, M7, by omega, hJ7, by rw [show (L.length:Int) - 1 - ((k + 1:Nat) : Int) = (L.length:Int) - 1 - k - 1 by omega]; exact s7⟩, ?_⟩
   have hm7 : iOf (a7.tmps.getD 3 undef) = (L.length:Int) - 1 - k - 1 := iOf_ok (s7.tm 3 (vD (dI ((L.length:Int) - 1 - k - 1))) (by simp))
   rw [hm7, hm2]; omega
 · intro hc
   simp only [decide_eq_false_iff_not] at hc
   obtain rfl : k = L.length := by omega
   refine wpIn_exit ?_
   exact ⟨s3.defers, .tuple #[], results_none rfl _ _ _, ⟨_, rfl⟩, I3, M2, hJ3⟩
end Go.AM
/- oplog.Invert (f48): the list, from its end, each with its coefficient negated. -/
set_option maxRecDepth 100000
set_option linter.unusedVariables false
namespace Go.AM
open Go.Proofs.Try
def vc99 (s : DL) (R:V → Heap → Prop) : Prop :=
 R (vD (D.fn (.func 141) [D.box [dL s]])) []
theorem vc99_ok (s : DL) {R:V → Heap → Prop} (h : vc99 s R) : FnG prog 99 [vD (dL s)] [] R :=
 FnG.vcg hT func99 ntmps99 (.reg 1 [(0,Or.none,0,1)] [1] [0] [] <| .r1 [2] [0] <| .frz [0] <| .ret [])
   (by kernel_rfl) (by kernel_rfl) (by kernel_rfl) h
theorem back_ok (s : DL) : FnD prog 99 [vD (dL s)] (vD (D.fn (.func 141) [D.box [dL s]])) [] := vc99_ok s ⟨rfl, rfl⟩
def invK (neg : List D → List D) (L : DL) (k:Nat) : DL := (L.reverse.take k).map neg
theorem invK_succ (neg : List D → List D) {L : DL} {k : Nat} (hk : k < L.length) {x : List D} (hx : L[L.length - 1 - k]? = some x) : invK neg L (k + 1) = invK neg L k ++ [neg x] := by
 have h1 : L.reverse[k]? = some x := by rw [List.getElem?_reverse hk]; exact hx
 rw [invK, List.take_add_one, h1]
 simp [invK]
def NegOK (neg : List D → List D) (x : List D) : Prop :=
 ∃ (i0 i1 i2:Int) (s:Bool) (m : DL) (s':Bool) (m' : DL), x = [dI i0, dI i1, dI i2, dB s, dL m] ∧ neg x = [dI i0, dI i1, dI i2, dB s', dL m'] ∧
   FnD prog 100 [vA [sD (dB s), sD (dL m)]] (vA [sD (dB s'), sD (dL m')]) []
abbrev ivT : List (Nat × V) := [(3, vP 0 0)]
abbrev ivH (l : DL) : Heap := [some (.box [.ref 1]), some (.arr 5 l)]
set_option maxHeartbeats 1000000 in
theorem invert_ok (L : DL) (hl : L.length * 56 ≤ 140737488355328) (neg : List D → List D) (hL : ∀ x ∈ L, NegOK neg x) : FnD prog 48 [vD (dL L)] (vD (dL (L.reverse.map neg))) [] := by
 refine ⟨⟨f48, func48, rfl, by kernel_rfl⟩, fun I M w vs s hr => ?_⟩
 refine (callsIn_wide (n := 0)).1 (callsIn_of_wp_marks func48 rfl trivial ?_)
 have s0 := Sim.start (fn := f48) ntmps48 (args := [vD (dL L)]) (by simp) s hr
 refine wpIn_seq (wpIn_mono (Does.regV hT (n0 := 0) [0] [] (σ' := ⟨[(0, vD (dL L))], [], 19⟩) (cnt := 0) (ins := [o0]) (obs := []) (by kernel_rfl) rfl rfl (by kernel_rfl) trivial none 0 I M _ w s0) ?_)
 rintro e a1 w1 ⟨rfl, I1, M1, s1, n1⟩
 refine wpIn_seq (wpIn_mono ((Does.regV hT (n0 := 0) [0, 3] [0] (σ' := ⟨[(0, vD (dL L)), (3, vP 0 0)], [some (.box [sD (.raw nilS)])], 19⟩) (cnt := 1) (ins := [(Or.none, 0, 1)]) (obs := []) (by kernel_rfl) rfl rfl (by kernel_rfl) trivial).wk
   (σ2 := ⟨[(0, vD (dL L)), (3, vP 0 0)], ivH [], 19⟩) (xadopt_ok (sl := []) (bx := [0]) (z := 5) (by kernel_rfl)) none 0 I1 M1 a1 w1 s1) ?_)
 rintro e a2 w2 ⟨rfl, I2, M2, s2, n2⟩
 refine wpIn_seq (wpIn_seq (wpIn_mono (Does.regV hT (n0 := 0) [3, 7] [0, 1] (σ' := ⟨[(3, vP 0 0), (7, vD (D.fn (.func 141) [D.box [dL L]]))], ivH [], 19⟩) (cnt := 0) (ins := [o0, (Or.call (vD (D.fn (.func 141) [D.box [dL L]])) [] [], 0, 0)])
   (obs := [FnD prog 99 [vD (dL L)] (vD (D.fn (.func 141) [D.box [dL L]])) []]) (by kernel_rfl) rfl rfl (by kernel_rfl) ⟨back_ok L, trivial⟩ none 0 I2 M2 a2 w2 s2) ?_))
 rintro e a3 w3 ⟨rfl, I3, M3, s3, n3⟩
 refine wpIn_block ?_
 refine wpIn_rf s3 (kb := 141) (cds := [D.box [dL L]]) rfl (Go.Proofs.enters_of func141 rfl rfl) (back_stops L (by omega) fun x hx => ?_) (n1 := 1) (t := ivT) ?_ ⟨by simp, by simp, by simp⟩ (fun k => ivH (invK neg L k)) rfl
   (fun k => ⟨[(3, vP 0 0), (5, vP 2 0)], ivH (invK neg L k) ++ [some (.box ((L[L.length - 1 - k]?.getD []).map .dat))], 19⟩) ?_ ?_ ?_
 · obtain ⟨d0, d1, d2, s, m, _, _, rfl, _⟩ := hL x hx
   exact ⟨_, _, _, _, _, rfl⟩
 · intro p hp
   simp only [ivT, List.mem_cons, List.not_mem_nil, or_false] at hp
   subst hp
   exact ⟨by simp, rfl, by simp, by simp⟩
 · -- the round's variable
   intro k hk
   have hkl : L.length - 1 - k < L.length := by omega
   obtain ⟨d0, d1, d2, s, m, s', m', hd, hn, hc⟩ := hL _ (List.getElem_mem hkl)
   have hx : bkX L k = vA [sD (dI d0), sD (dI d1), sD (dI d2), sD (dB s), sD (dL m)] := by
     simp only [bkX, List.getElem?_eq_getElem hkl, Option.getD_some, hd]; rfl
   simp only [List.getElem?_eq_getElem hkl, Option.getD_some, hd, hx]
   exact Does.regV hT [3, 5] [0, 1, 2] (cnt := 1) (ins := [(Or.none, 2, 1), o0]) (obs := []) (by kernel_rfl) rfl rfl (by kernel_rfl) trivial
 · -- the round
   intro k hk
   have hkl : L.length - 1 - k < L.length := by omega
   obtain ⟨d0, d1, d2, s, m, s', m', hd, hn, hc⟩ := hL _ (List.getElem_mem hkl)
   have hk1 : invK neg L (k + 1) = invK neg L k ++ [[dI d0, dI d1, dI d2, dB s', dL m']] := by
     rw [invK_succ neg hk (List.getElem?_eq_getElem hkl), hd, ← hn, hd]
   have hlen : ((invK neg L k).length + ([[dI d0, dI d1, dI d2, dB s', dL m']] : DL).length) * 56 ≤ 140737488355328 := by
     simp only [invK, List.length_map, List.length_take, List.length_reverse, List.length_cons, List.length_nil]; omega
   simp only [List.getElem?_eq_getElem hkl, Option.getD_some, hd, hk1]
   refine ⟨ivT, Does.block (Does.seq (σ1 := ⟨[(3, vP 0 0), (5, vP 2 0)], ivH (invK neg L k) ++ [some (.box [sD (dI d0), sD (dI d1), sD (dI d2), sD (dB s'), sD (dL m')])], 19⟩)
     (Does.regV hT [3, 5] [0, 1, 2] (cnt := 0) (ins := [o0, o0, (Or.call (vA [sD (dB s'), sD (dL m')]) [] [], 0, 0), o0, o0]) (obs := [FnD prog 100 [vA [sD (dB s), sD (dL m)]] (vA [sD (dB s'), sD (dL m')]) []]) (by kernel_rfl) rfl rfl (by kernel_rfl) ⟨hc, trivial⟩)
     (Does.regV hT [3] [0, 4] (cnt := 2) (ins := [o0, o0, (Or.none, 3, 1), (Or.none, 4, 1), o0]) (obs := [((invK neg L k).length + ([[dI d0, dI d1, dI d2, dB s', dL m']] : DL).length) * 56 ≤ 140737488355328]) (by kernel_rfl) rfl rfl (by kernel_rfl) ⟨hlen, trivial⟩))⟩
 · -- behind the loop
   intro D W I' M' sW hD hiD hfD hsz nW
   have hfin : ivH (invK neg L L.length) = ivH (L.reverse.map neg) := by simp [invK, List.take_of_length_le]
   simp only [hfin] at sW hfD nW
   have hDlt : D < W.heap.size := (Array.getElem?_eq_some_iff.1 hD).1
   have e : ({ a3 with defers := { target := .collected D, args := #[] } :: a3.defers } : Act) = { a3 with defers := [{ target := .collected D, args := #[] }] } := by rw [s3.defers]
   rw [e]
   refine wpIn_seq (region_mark hT (live := [2]) (ids := [1]) (σ' := ⟨[(2, vR 0)], [some (.arr 5 (L.reverse.map neg))], 19⟩) (cnt := 0) (ins := [o0, o0]) (obs := []) (by kernel_rfl) rfl (by kernel_rfl) trivial sW [{ target := .collected D, args := #[] }] ?_)
   intro a6 W6 I6 M6 s6 n6
   obtain ⟨I7, M7, s7, g1, g2, g3, _⟩ := xfreeze_ok (n0 := 0) (ids := [0]) (σ := ⟨[(2, vR 0)], [some (.arr 5 (L.reverse.map neg))], 19⟩) (σ' := ⟨[(2, vD (dL (L.reverse.map neg)))], [none], 19⟩) (by kernel_rfl) I6 M6 a6 W6 s6
   obtain ⟨I8, M8, s8, k1, k2, k3, _⟩ := xview_ok (n0 := 0) (live := [2]) (ids := []) (σ := ⟨[(2, vD (dL (L.reverse.map neg)))], [none], 19⟩) (σ' := ⟨[(2, vD (dL (L.reverse.map neg)))], [], 19⟩) (by kernel_rfl) rfl rfl I7 M7 a6 W6 s7
   have hD6 : W6.heap[D]? = some (.deferred (some [])) := (n6.ext.heap D hDlt hfD).trans hD
   have hfp6 : ¬ fpAll M6 [some (.arr 5 (L.reverse.map neg))] D := fun h => by
     rcases n6.fp D h with h1 | h1
     · exact hfD h1
     · omega
   have hi6 : ¬ I6 D := fun h => by
     rcases n6.ext.immNew D h with h1 | h1 | h1
     · exact hiD h1
     · omega
     · exact hfD h1
   have no7 : ∀ b, ¬ fpAll M7 [none] b := fun b ⟨o, ho⟩ => by
     cases o <;> simp [fpAt] at ho
   have hi8 : ¬ I8 D := fun h => by
     rcases k2 D h with h1 | h1
     · rcases g2 D h1 with h2 | h2
       · exact hi6 h2
       · exact hfp6 h2
     · exact no7 D h1
   have no8 : ∀ b, ¬ fpAll M8 [] b := fun b ⟨o, ho⟩ => by simp [fpAt] at ho
   refine ret_mark hT (fn := f48) (by kernel_rfl) s8 hD6 hi8 (no8 D) fun u hu hS => ⟨u, _, [], I8, M8, rfl, ⟨rfl, rfl⟩, hu, hS, ?_, fun b hb => absurd hb (no8 b), fun o e ho => by simp at ho⟩
   have hsz0 : w.heap.size ≤ D := by have := n1.ext.size; have := n2.ext.size; have := n3.ext.size; omega
   have nA := ((n1.trans n2).trans n3).trans ⟨nW.ext, nW.fp, fun o e ho => by omega⟩ |>.trans n6
   have eA : Ext (fpAll M []) I w I8 W6 := ⟨nA.ext.os, nA.ext.tape, nA.ext.output, nA.ext.size, nA.ext.heap, fun b hb => k1 b (g1 b (nA.ext.imm b hb)), fun b hb => by
     rcases k2 b hb with h1 | h1
     · rcases g2 b h1 with h2 | h2
       · exact nA.ext.immNew b h2
       · rcases nA.fp b h2 with h3 | h3
         · exact .inr (.inr h3)
         · exact .inr (.inl h3)
     · exact absurd h1 (no7 b)⟩
   exact eA.put _ hsz0
end Go.AM
/- oplog.Valid, Apply, Undo, Matrix, Invert. -/
namespace Go.AM
open Go.Proofs.Try
def firstG {α : Type} (p : α → Bool) (r : List α) : Int := if r.any p then (r.findIdx p:Nat) else -1
theorem firstG_at {α : Type} {p : α → Bool} {r : List α} {i : Nat} (h : i < r.length) (hp : p r[i] = true) (hn : ∀ k, (hk : k < i) → p (r[k]'(by omega)) = false) : firstG p r = (i:Int) := by
 have h1 : r.any p = true := List.any_eq_true.2 ⟨r[i], List.getElem_mem h, hp⟩
 have h2 : r.findIdx p = i := by
   rw [List.findIdx_eq h]
   exact ⟨hp, fun j hj => hn j hj⟩
 unfold firstG
 rw [h1, h2]; rfl
theorem firstG_none {α : Type} {p : α → Bool} {r : List α} (hn : ∀ k, (hk : k < r.length) → p r[k] = false) : firstG p r = -1 := by
 unfold firstG
 rw [if_neg]
 intro h
 obtain ⟨z, hz, hp⟩ := List.any_eq_true.1 h
 obtain ⟨k, hk, rfl⟩ := List.getElem_of_mem hz
 have := hn k hk
 rw [hp] at this
 simp at this
theorem firstG_any {α : Type} (p : α → Bool) (r : List α) : decide (firstG p r ≥ 0) = r.any p := by
 unfold firstG
 cases h : r.any p <;> simp
theorem inside154_ok (i n:Nat) : FnD prog 154 [vi i, .e (.sc (.dat (D.box [dI n])))] (vb (decide (i < n))) [] := by
 refine vc154_ok _ _ (R := Out _) ?_
 unfold vc154
 exact ⟨fun _ => outb (by simp), fun h => absurd h (by simp)⟩
theorem lim_zero (z:Int) : (((lim (digs z.natAbs)).length:Int) == (0:Int)) = decide (z = 0) := by
 rw [lim_length]
 by_cases h : z = 0
 · subst h; rfl
 · have h1 : digs z.natAbs ≠ [] := fun e => h (by have := digs_nil.1 e; omega)
   have : (digs z.natAbs).length ≠ 0 := fun e => h1 (List.length_eq_zero_iff.1 e)
   rw [decide_eq_false h]
   simp [this]
theorem natEq (a b:Nat) : ((a:Int) == (b:Int)) = decide (a = b) := by
 by_cases h : a = b
 · simp [h]
 · have h1 : (a:Int) ≠ b := by omega
   simp [h, h1]
theorem natNe (a b:Nat) : ((a:Int) != (b:Int)) = decide (a ≠ b) := by
 by_cases h : a = b
 · simp [h]
 · have h1 : (a:Int) ≠ b := by omega
   simp [h, h1]
theorem validOp_ok {o : Opz} {n : Nat} (hz : Sz o.z) : FnD prog 137 [oE o, vi n] (vb (vO n o)) [] := by
 refine vc137_ok _ _ _ _ _ _ (R := Out _) ?_
 unfold vc137
 refine ⟨_, ivalid_ok hz, fun h => absurd h (by simp), fun _ => ⟨_, inside154_ok _ _, fun h => outb ?_, fun h => ?_⟩⟩
 · have h2 : ¬ o.i < n := by simpa using h
   simp [vO, h2]
 · have h2 : o.i < n := by simpa using h
   refine ⟨fun hk => ?_, fun hk => ⟨fun hk1 => ?_, fun hk1 => ⟨fun hk3 => ?_, fun hk3 => outb ?_⟩⟩⟩
   · have hk' : o.k = 2 := by simpa using (natEq o.k 2).symm.trans hk
     refine ⟨fun hj => outb ?_, fun hj => outb ?_⟩
     · have hj' : o.j = 0 := by simpa using (natEq o.j 0).symm.trans hj
       rw [lim_zero]; simp [vO, h2, hk', hj']
     · have hj' : o.j ≠ 0 := by simpa using (natEq o.j 0).symm.trans hj
       simp [vO, h2, hk', hj']
   · have hk' : o.k = 1 := by simpa using (natEq o.k 1).symm.trans hk1
     refine ⟨_, inside154_ok _ _, fun hj => ⟨fun hn => outb ?_, fun hn => outb ?_⟩, fun hj => outb ?_⟩
     · have hj' : o.j < n := by simpa using hj
       have hn' : o.i ≠ o.j := by simpa using (natNe o.i o.j).symm.trans hn
       rw [lim_zero]; simp [vO, h2, hk', hj', hn']
     · have hn' : o.i = o.j := by simpa using (natNe o.i o.j).symm.trans hn
       simp [vO, hk', hn']
     · have hj' : ¬ o.j < n := by simpa using hj
       simp [vO, hk', hj']
   · have hk' : o.k = 3 := by simpa using (natEq o.k 3).symm.trans hk3
     refine ⟨_, inside154_ok _ _, fun hj => outb ?_, fun hj => outb ?_⟩
     · have hj' : o.j < n := by simpa using hj
       rw [natNe]; simp [vO, h2, hk', hj']
     · have hj' : ¬ o.j < n := by simpa using hj
       simp [vO, hk', hj']
   · have e2 : o.k ≠ 2 := by simpa using (natEq o.k 2).symm.trans hk
     have e1 : o.k ≠ 1 := by simpa using (natEq o.k 1).symm.trans hk1
     have e3 : o.k ≠ 3 := by simpa using (natEq o.k 3).symm.trans hk3
     simp [vO, e1, e2, e3]
theorem index153_ok {l : List Opz} {f : FuncId} {fc : List D} {p:Opz → Bool} (hl : l.length ≤ 4294967296) (hf : ∀ o ∈ l, FnD prog f ([oE o] ++ fc.map dV) (vb (p o)) []) :
   FnD prog 153 [vs (oL l), .e (.sc (.dat (.fn (.func f) fc)))] (vi (firstG p l)) [] := by
 refine vc153_ok _ _ _ (R := Out _) ?_
 unfold vc153
 simp only [oL_length]
 refine ⟨fun t => ∃ i : Nat, t = (i:Int) ∧ i ≤ l.length ∧ ∀ k, (hk : k < l.length) → k < i → p l[k] = false, fun t => ((l.length:Int) - t).toNat, ⟨0, rfl, by omega, fun k _ hk => by omega⟩, ?_⟩
 rintro _ ⟨i, rfl, hi, hinv⟩
 refine ⟨fun h => ?_, fun h => outi ?_⟩
 · have hir : i < l.length := by simpa using h
   refine ⟨_, _, _, _, _, p l[i], ⟨by omega, by omega⟩, oL_get hir, hf _ (List.getElem_mem hir), fun h2 => outi ?_, fun h2 => ?_⟩
   · exact (firstG_at hir h2 fun k hk => hinv k (by omega) hk).symm
   · rw [inc64 (by omega)]
     refine ⟨⟨i + 1, rfl, by omega, fun k hkl hk => ?_⟩, by show ((l.length:Int) - ((i + 1:Nat) : Int)).toNat < ((l.length:Int) - (i:Int)).toNat; omega⟩
     by_cases hki : k = i
     · subst hki; exact h2
     · exact hinv k hkl (by omega)
 · have hir : i = l.length := by have : l.length ≤ i := by simpa using h
                                 omega
   exact (firstG_none fun k hk => hinv k hk (by omega)).symm
def SzO (l : List Opz) : Prop := ∀ o ∈ l, Sz o.z
theorem valid_ok {l : List Opz} {n : Nat} (hl : l.length ≤ 4294967296) (hz : SzO l) : FnD prog 96 [vs (oL l), vi n] (vb (l.all (vO n))) [] := by
 refine vc96_ok _ _ (R := Out _) ?_
 unfold vc96
 have h136 : ∀ o ∈ l, FnD prog 136 ([oE o] ++ [D.box [dI n]].map dV) (vb (!vO n o)) [] := fun o ho => by
   refine vc136_ok _ _ _ _ _ _ (R := Out _) ?_
   unfold vc136
   exact ⟨_, validOp_ok (hz o ho), outb rfl⟩
 have h135 : FnD prog 135 [vs (oL l), .e (.sc (.dat (.fn (.func 136) [D.box [dI n]])))] (vb (l.any fun o => !vO n o)) [] := by
   refine vc135_ok _ _ _ (R := Out _) ?_
   unfold vc135
   exact ⟨_, index153_ok hl h136, outb (firstG_any _ _)⟩
 exact ⟨_, h135, outb (by rw [List.all_eq_not_any_not])⟩
def VO (n:Nat) (l : List Opz) : Prop := ∀ o ∈ l, vO n o = true ∧ o.z.natAbs ≤ 128
theorem VO.valid {n : Nat} {l : List Opz} (h : VO n l) : ∀ o ∈ l, vO n o = true := fun o ho => (h o ho).1
theorem VO.sz {n : Nat} {l : List Opz} (h : VO n l) : SzO l := fun o ho => sz_of (Nat.le_trans (h o ho).2 (by decide))
theorem VO.all {n : Nat} {l : List Opz} (h : VO n l) : l.all (vO n) = true := List.all_eq_true.2 h.valid
theorem apL_take {r c : Nat} {l : List Opz} {m : List (List Int)} {i : Nat} (hi : i < l.length) : apL r c (l.take (i + 1)) m = apO r c l[i] (apL r c (l.take i) m) := by
 rw [List.take_add_one, apL_append, List.getElem?_eq_getElem hi]; rfl
theorem effects_ok : FnD prog 98 [] (vA [(sD (D.raw (.nilFunc))), (sD (D.fn (.func 138) ([] : List D))), (sD (D.fn (.func 139) ([] : List D))), (sD (D.fn (.func 140) ([] : List D)))]) [] := by
 refine vc98_ok (R := Out _) ?_
 unfold vc98
 exact ⟨rfl, rfl⟩
theorem pow_le {n K : Nat} {B : Nat} (h : 129 ^ n * K ≤ B) {m : Nat} (hm : m ≤ n) : 129 ^ m * K ≤ B :=
 Nat.le_trans (Nat.mul_le_mul_right K (Nat.pow_le_pow_right (by decide) hm)) h
theorem apply_ok {r c K : Nat} {l : List Opz} {m : List (List Int)} (hv : VO r l) (hl : l.length ≤ 4294967295) (hm : Mx r c m) (km : BdM K m) (hr : r ≤ 4294967296) (hc : c ≤ 4294967296) (hK : K ≤ 1329227995784915872903807060280344576)
   (hB : 129 ^ l.length * K ≤ 497323236409786642155382248146820840100456150797347717440463976893159497012533375533056) : FnD prog 45 [vs (oL l), eM r c m] (eME r c (apL r c l m) 0) [] := by
 refine vc45_ok _ _ _ _ (R := Out _) ?_
 unfold vc45
 have hval := valid_ok (l := l) (n := r) (by omega) hv.sz
 rw [hv.all] at hval
 refine ⟨_, hval, fun h => absurd h (by simp), fun _ => ⟨_, _, _, copied_own hm km hr hc hK, effects_ok, ?_⟩⟩
 simp only [oL_length]
 refine ⟨fun o t => ∃ i : Nat, t = (i:Int) ∧ i ≤ l.length ∧ o = om (apL r c (l.take i) m), fun _ t => ((l.length:Int) - t).toNat, ⟨0, rfl, by omega, by simp [apL]⟩, ?_⟩
 rintro _ _ ⟨i, rfl, hi, rfl⟩
 refine ⟨fun h => ?_, fun h => ?_⟩
 · have hir : i < l.length := by simpa using h
   have ho := hv _ (List.getElem_mem hir)
   have hpre : VO r (l.take i) := fun o ho => hv o (List.mem_of_mem_take ho)
   have hmx := apL_mx (l.take i) hm
   have hbd := apL_bd hpre hm km
   have hlt : (l.take i).length = i := by simp; omega
   rw [hlt] at hbd
   have hB2 : 129 * (129 ^ i * K) ≤ 497323236409786642155382248146820840100456150797347717440463976893159497012533375533056 := by
     rw [← Nat.mul_assoc, Nat.mul_comm 129, ← Nat.pow_succ]; exact pow_le hB (by omega)
   have hrest : om (apO r c l[i] (apL r c (l.take i) m)) = om (apL r c (l.take (i + 1)) m) := by rw [apL_take hir]
   have hnext : (fun (o : DLL) (t:Int) => ∃ i : Nat, t = (i:Int) ∧ i ≤ l.length ∧ o = om (apL r c (l.take i) m)) (om (apO r c l[i] (apL r c (l.take i) m))) (IntKind.i64.wrap ((i:Int) + 1)) ∧
       ((l.length:Int) - (IntKind.i64.wrap ((i:Int) + 1))).toNat < ((l.length:Int) - (i:Int)).toNat := by
     rw [inc64 (by omega)]
     exact ⟨⟨i + 1, rfl, by omega, hrest⟩, by omega⟩
   refine ⟨_, _, _, _, _, ⟨by omega, by omega⟩, oL_get hir, ?_⟩
   rcases (vO_ok ho.1).2 with ⟨hk, _, _⟩ | ⟨hk, _, _, _⟩ | ⟨hk, _, _⟩
   · refine ⟨139, [], om (apO r c l[i] (apL r c (l.take i) m)), by rw [hk]; decide, by rw [hk]; rfl, ?_, hnext⟩
     exact neg138_ok ho.1 hk hmx hc
   · refine ⟨138, [], om (apO r c l[i] (apL r c (l.take i) m)), by rw [hk]; decide, by rw [hk]; rfl, ?_, hnext⟩
     exact swap_ok ho.1 hk hmx
   · refine ⟨140, [], om (apO r c l[i] (apL r c (l.take i) m)), by rw [hk]; decide, by rw [hk]; rfl, ?_, hnext⟩
     exact add138_ok ho.1 hk hmx hbd ho.2 hB2 hc
 · have hir : i = l.length := by have : l.length ≤ i := by simpa using h
                                 omega
   subst hir
   rw [List.take_length]
   exact outME (matD_om _)
theorem apply_bad {r : Nat} {c : Int} {l : List Opz} {m : List (List Int)} (hz : SzO l) (hl : l.length ≤ 4294967295) (hv : l.all (vO r) = false) : FnD prog 45 [vs (oL l), eM r c m] (eME 0 0 [] 180) [] := by
 refine vc45_ok _ _ _ _ (R := Out _) ?_
 unfold vc45
 have hval := valid_ok (l := l) (n := r) (by omega) hz
 rw [hv] at hval
 exact ⟨_, hval, fun _ => ⟨rfl, rfl⟩, fun h => absurd h (by simp)⟩
theorem invert_oL {l : List Opz} (hl : l.length ≤ 4294967296) : FnD prog 48 [vs (oL l)] (vs (oL (inL l))) [] := by
 have key : ∀ o ∈ l, ∀ o' ∈ l, oD o = oD o' → oD (inO o) = oD (inO o') := fun o _ o' _ h => by
   simp only [oD, List.cons.injEq, D.int.injEq, D.bool.injEq, D.sl.injEq, true_and, and_true] at h
   obtain ⟨h1, h2, h3, h4, h5⟩ := h
   have e : digs o.z.natAbs = digs o'.z.natAbs := by
     have h6 : (lim (digs o.z.natAbs)).length = (lim (digs o'.z.natAbs)).length := by rw [h5]
     apply List.ext_getElem
     · simpa [lim_length] using h6
     · intro i hi hi'
       have g1 := lim_get hi
       have g2 := lim_get hi'
       rw [h5, g2] at g1
       simp only [Option.some.injEq, List.cons.injEq, D.int.injEq, and_true, true_and] at g1
       omega
   have e2 : o.z.natAbs = o'.z.natAbs := by rw [← val_digs o.z.natAbs, e, val_digs]
   have e3 : o.z = o'.z := by
     have h4' : (o.z < 0) = (o'.z < 0) := by simpa using h4
     have : (o.z < 0) ↔ (o'.z < 0) := by rw [h4']
     omega
   have e4 : o.k = o'.k := by omega
   have e5 : o.i = o'.i := by omega
   have e6 : o.j = o'.j := by omega
   have e7 : o = o' := by
     cases o; cases o'
     simp only at e3 e4 e5 e6
     subst e3; subst e4; subst e5; subst e6; rfl
   rw [e7]
 classical
 obtain ⟨neg, hneg⟩ : ∃ neg : List D → List D, ∀ o ∈ l, neg (oD o) = oD (inO o) :=
   ⟨fun x => if h : ∃ o, o ∈ l ∧ oD o = x then oD (inO (Classical.choose h)) else [], fun o ho => by
     have h : ∃ o', o' ∈ l ∧ oD o' = oD o := ⟨o, ho, rfl⟩
     refine (dif_pos h).trans ?_
     exact key _ (Classical.choose_spec h).1 _ ho (Classical.choose_spec h).2⟩
 have := invert_ok (oL l) (by rw [oL_length]; omega) neg fun x hx => by
   simp only [oL, List.mem_map] at hx
   obtain ⟨o, ho, rfl⟩ := hx
   exact ⟨_, _, _, _, _, _, _, rfl, hneg o ho, neg_ok o.z⟩
 have e : (oL l).reverse.map neg = oL (inL l) := by
   simp only [oL, inL, ← List.map_reverse, List.map_map]
   exact List.map_congr_left fun o ho => hneg o (List.mem_reverse.1 ho)
 rw [e] at this
 exact this
theorem undo_bad {r : Nat} {c : Int} {l : List Opz} {m : List (List Int)} (hz : SzO l) (hl : l.length ≤ 4294967295) (hv : l.all (vO r) = false) : FnD prog 46 [vs (oL l), eM r c m] (eME 0 0 [] 180) [] := by
 refine vc46_ok _ _ _ _ (R := Out _) ?_
 unfold vc46
 have hval := valid_ok (l := l) (n := r) (by omega) hz
 rw [hv] at hval
 exact ⟨_, hval, fun _ => ⟨rfl, rfl⟩, fun h => absurd h (by simp)⟩
theorem matrix_ok {n : Nat} {l : List Opz} (hv : VO n l) (hl : l.length ≤ 4294967295) (hn : n ≤ 64) (hB : 129 ^ l.length ≤ 497323236409786642155382248146820840100456150797347717440463976893159497012533375533056) :
   FnD prog 47 [vs (oL l), vi n] (eME n n (mat n l) 0) [] := by
 refine vc47_ok _ _ (R := Out _) ?_
 unfold vc47
 refine ⟨fun h => absurd h (by simp), fun _ => ⟨fun h => absurd h (by simp; omega), fun _ => ⟨_, _, _, _, _, _, _, mident_ok (by omega), ?_, rfl, rfl⟩⟩⟩
 exact apply_ok hv hl (table_mx _ _ _) (ident_bd n) (by omega) (by omega) (by decide) (by rw [Nat.mul_one]; exact hB)
theorem matrix_bad {n : Nat} {l : List Opz} (hz : SzO l) (hl : l.length ≤ 4294967295) (hn : n ≤ 64) (hv : l.all (vO n) = false) : FnD prog 47 [vs (oL l), vi n] (eME 0 0 [] 180) [] := by
 refine vc47_ok _ _ (R := Out _) ?_
 unfold vc47
 exact ⟨fun h => absurd h (by simp), fun _ => ⟨fun h => absurd h (by simp; omega), fun _ => ⟨_, _, _, _, _, _, _, mident_ok (by omega), apply_bad hz hl hv, rfl, rfl⟩⟩⟩
theorem matrix_big {n : Nat} (l : DL) (hn : 64 < n) : FnD prog 47 [vs l, vi n] (eME 0 0 [] 1) [] := by
 refine vc47_ok _ _ (R := Out _) ?_
 unfold vc47
 exact ⟨fun h => absurd h (by simp), fun _ => ⟨fun _ => ⟨rfl, rfl⟩, fun h => absurd h (by simp; omega)⟩⟩
end Go.AM
/- torsionref18.Made: a list of operations out of a description. -/
namespace Go.AM
open Go.Proofs.Try
def mvZ (n:Nat) (x0 x1 x2 x3:Int) : Opz :=
 { k := 1 + (x0 % 3).toNat, i := (x1 % n).toNat, j := if (x0 % 3).toNat = 1 then 0 else (x2 % n).toNat, z := if (x0 % 3).toNat = 2 then x3 else 0 }
def mvOf (n:Nat) : List D → Option Opz
 | [.int _ x0, .int _ x1, .int _ x2, .int _ x3] => if (mvZ n x0 x1 x2 x3).k = 2 ∨ (mvZ n x0 x1 x2 x3).i ≠ (mvZ n x0 x1 x2 x3).j then some (mvZ n x0 x1 x2 x3) else none
 | _ => none
def madeT (n:Nat) (l : DL) (t:Nat) : List Opz := (l.take t).filterMap (mvOf n)
def made (n:Nat) (l : DL) (m:Nat) : List Opz := if n = 0 then [] else madeT n l (min l.length m)
end Go.AM
/- What functions of the program come to: group Oc. Printed by vc.py. -/
set_option maxRecDepth 100000
set_option linter.unusedVariables false
namespace Go.AM
open Go.Proofs.Try
def vc68 (l : DL) (a0 a1:Int) (a2 : DL) (R:V → Heap → Prop) : Prop :=
 ∃ (r:Bool),
 (FnD prog 51 [vD (dL l),vD (dI a0)] (vD (dB r)) []) ∧
 (((!r) = true →
 R (V.tup [E.agg [sD (dI (0:Int)),sD (dI (0:Int)),sD (dL ([] : DL))],eD (dI (180:Int))]) []) ∧
 ((!r) = false →
 ∃ (b b1:Int) (b2 b3:Int) (b4 b5:Int) (m m1 m2 : DLL),
 (FnO prog 120 [vA [sD (dI a0),sD (dI a1),sD (dL a2)]] [] (V.e (E.sc (S.ptr 0 0))) [some (Obj.box [sD (dI b),sD (dI b1),S.ref 1,sD (dI b2),sD (dI b3),S.ref 2,sD (dI b4),sD (dI b5),S.ref 3]),some (Obj.mat 2 m),some (Obj.mat 2 m1),some (Obj.mat 2 m2)]) ∧
 (∃ (J0:Int → Int → Int → Int → Int → Int → (DLL) → (DLL) → (DLL) → Int → Prop) (μ0:Int → Int → Int → Int → Int → Int → (DLL) → (DLL) → (DLL) → Int → Nat),
 J0 b b1 b2 b3 b4 b5 m m1 m2 (0:Int) ∧ ∀ (w0 w1:Int) (w3 w4:Int) (w6 w7:Int) (o2 o3 o4 : DLL) (i:Int),J0 w0 w1 w3 w4 w6 w7 o2 o3 o4 i →
 (decide (i < (l.length:Int)) = true →
 ∃ (x0 x1 x2:Int) (x3:Bool) (x4 : DL),
 (0 ≤ i ∧ i < (l.length:Int)) ∧
 (l[(i).toNat]? = some [dI x0,dI x1,dI x2,dB x3,dL x4]) ∧
 (((x0 == (1:Int)) = true →
 ∃ (b6 b7:Int) (b8 b9:Int) (b10 b11:Int) (m3 m4 m5 : DLL),
 (FnO prog 121 [V.e (E.sc (S.ptr 0 0)),vD (dI x1),vD (dI x2)] [some (Obj.box [sD (dI w0),sD (dI w1),S.ref 1,sD (dI w3),sD (dI w4),S.ref 2,sD (dI w6),sD (dI w7),S.ref 3]),some (Obj.mat 2 o2),some (Obj.mat 2 o3),some (Obj.mat 2 o4)] (V.tup []) [some (Obj.box [sD (dI b6),sD (dI b7),S.ref 4,sD (dI b8),sD (dI b9),S.ref 5,sD (dI b10),sD (dI b11),S.ref 3]),some (Obj.fwd (S.ref 4)),some (Obj.fwd (S.ref 5)),some (Obj.mat 2 m3),some (Obj.mat 2 m4),some (Obj.mat 2 m5)]) ∧
 (J0 b6 b7 b8 b9 b10 b11 m4 m5 m3 (IntKind.i64.wrap (i + (1:Int))) ∧ μ0 b6 b7 b8 b9 b10 b11 m4 m5 m3 (IntKind.i64.wrap (i + (1:Int))) < μ0 w0 w1 w3 w4 w6 w7 o2 o3 o4 i)) ∧
 ((x0 == (1:Int)) = false →
 ((x0 == (2:Int)) = true →
 ∃ (b12 b13:Int) (b14 b15:Int) (b16 b17:Int) (m6 m7 m8 : DLL),
 (FnO prog 122 [V.e (E.sc (S.ptr 0 0)),vD (dI x1)] [some (Obj.box [sD (dI w0),sD (dI w1),S.ref 1,sD (dI w3),sD (dI w4),S.ref 2,sD (dI w6),sD (dI w7),S.ref 3]),some (Obj.mat 2 o2),some (Obj.mat 2 o3),some (Obj.mat 2 o4)] (V.tup []) [some (Obj.box [sD (dI b12),sD (dI b13),S.ref 1,sD (dI b14),sD (dI b15),S.ref 2,sD (dI b16),sD (dI b17),S.ref 3]),some (Obj.mat 2 m6),some (Obj.mat 2 m7),some (Obj.mat 2 m8)]) ∧
 (J0 b12 b13 b14 b15 b16 b17 m6 m7 m8 (IntKind.i64.wrap (i + (1:Int))) ∧ μ0 b12 b13 b14 b15 b16 b17 m6 m7 m8 (IntKind.i64.wrap (i + (1:Int))) < μ0 w0 w1 w3 w4 w6 w7 o2 o3 o4 i)) ∧
 ((x0 == (2:Int)) = false →
 ∃ (b18 b19:Int) (b20 b21:Int) (b22 b23:Int) (m9 m10 m11 : DLL),
 (FnO prog 123 [V.e (E.sc (S.ptr 0 0)),vD (dI x1),vD (dI x2),vA [sD (dB x3),sD (dL x4)]] [some (Obj.box [sD (dI w0),sD (dI w1),S.ref 1,sD (dI w3),sD (dI w4),S.ref 2,sD (dI w6),sD (dI w7),S.ref 3]),some (Obj.mat 2 o2),some (Obj.mat 2 o3),some (Obj.mat 2 o4)] (V.tup []) [some (Obj.box [sD (dI b18),sD (dI b19),S.ref 1,sD (dI b20),sD (dI b21),S.ref 2,sD (dI b22),sD (dI b23),S.ref 3]),some (Obj.mat 2 m9),some (Obj.mat 2 m10),some (Obj.mat 2 m11)]) ∧
 (J0 b18 b19 b20 b21 b22 b23 m9 m10 m11 (IntKind.i64.wrap (i + (1:Int))) ∧ μ0 b18 b19 b20 b21 b22 b23 m9 m10 m11 (IntKind.i64.wrap (i + (1:Int))) < μ0 w0 w1 w3 w4 w6 w7 o2 o3 o4 i))))) ∧
 (decide (i < (l.length:Int)) = false →
 R (V.tup [E.agg [sD (dI w0),sD (dI w1),sD (dL (matD o2))],eD (dI (0:Int))]) []))))
theorem vc68_ok (l : DL) (a0 a1:Int) (a2 : DL) {R:V → Heap → Prop} (h : vc68 l a0 a1 a2 R) : FnG prog 68 [vD (dL l),vA [sD (dI a0),sD (dI a1),sD (dL a2)]] [] R :=
 FnG.vcg hT func68 ntmps68 (.reg 2 [(0,Or.none,0,1),(1,Or.none,1,1)] [0,3,4] [0,1] [] <| .exb fun r => .reg 0 [(3,Or.call (vD (dB r)) [] [],0,0)] [0,3,4,6] [0,1] [] <| .r1 [0,3,4,14] [0,1] <| .c2 (.r1 [4,5] [1] <| .nrm [4,5] [0] <| .ret []) (.ex fun b => .ex fun b1 => .ex fun b2 => .ex fun b3 => .ex fun b4 => .ex fun b5 => .exm fun m => .exm fun m1 => .exm fun m2 => .reg 4 [(1,Or.callO [] (V.e (E.sc (S.ptr 0 0))) [some (Obj.box [sD (dI b),sD (dI b1),S.ref 1,sD (dI b2),sD (dI b3),S.ref 2,sD (dI b4),sD (dI b5),S.ref 3]),some (Obj.mat 2 m),some (Obj.mat 2 m1),some (Obj.mat 2 m2)],2,4)] [0,4,7] [1,2,3,4,5] [] <| .r1 [0,4,7,8] [0,1,2,3,4] <| .lp [.i,.i,.i,.i,.i,.i,.m,.m,.m,.i] (fun w0 w1 w3 w4 w6 w7 o2 o3 o4 i => ⟨[(0,vD (dL l)),(4,vP 0 0),(7,vP 1 0),(8,vD (dI i))],[some (Obj.box [sD (dI (0:Int)),sD (dI (0:Int)),sD (D.raw (.slice none 0 0))]),some (Obj.box [sD (dI w0),sD (dI w1),S.ref 2,sD (dI w3),sD (dI w4),S.ref 3,sD (dI w6),sD (dI w7),S.ref 4]),some (Obj.mat 2 o2),some (Obj.mat 2 o3),some (Obj.mat 2 o4)],73⟩) [.i b,.i b1,.i b2,.i b3,.i b4,.i b5,.m m,.m m1,.m m2,.i (0:Int)] <| .fi fun w0 => .fi fun w1 => .fi fun w3 => .fi fun w4 => .fi fun w6 => .fi fun w7 => .fm fun o2 => .fm fun o3 => .fm fun o4 => .fi fun i => .beg <| .r1 [0,4,7,8,21] [0,1,2,3,4] <| .c2 (.ex fun x0 => .ex fun x1 => .ex fun x2 => .exb fun x3 => .exl fun x4 => .reg 0 [(4,Or.cells [dI x0,dI x1,dI x2,dB x3,dL x4],0,0)] [0,4,7,8,28] [0,1,2,3,4] [] <| .r1 [0,4,7,8,28,46] [0,1,2,3,4] <| .c2 (.ex fun b6 => .ex fun b7 => .ex fun b8 => .ex fun b9 => .ex fun b10 => .ex fun b11 => .exm fun m3 => .exm fun m4 => .exm fun m5 => .drw 2 [(5,(Or.cells [dI x0,dI x1,dI x2,dB x3,dL x4],0,0),[]),(10,(Or.cells [dI x0,dI x1,dI x2,dB x3,dL x4],0,0),[]),(11,(Or.callO [1,2,3,4] (V.tup []) [some (Obj.box [sD (dI b6),sD (dI b7),S.ref 4,sD (dI b8),sD (dI b9),S.ref 5,sD (dI b10),sD (dI b11),S.ref 3]),some (Obj.fwd (S.ref 4)),some (Obj.fwd (S.ref 5)),some (Obj.mat 2 m3),some (Obj.mat 2 m4),some (Obj.mat 2 m5)],5,2),[1,2,3,4,5,6])] [0,4,7,8] [0,1,5,6,4] [.old 2,.old 1,.old 2,.old 1] <| .r1 [0,4,7,8] [0,1,2,3,4] <| .bk 0 [.i b6,.i b7,.i b8,.i b9,.i b10,.i b11,.m m4,.m m5,.m m3,.i (IntKind.i64.wrap (i + (1:Int)))]) (.r1 [0,4,7,8,60] [0,1,2,3,4] <| .c2 (.ex fun b12 => .ex fun b13 => .ex fun b14 => .ex fun b15 => .ex fun b16 => .ex fun b17 => .exm fun m6 => .exm fun m7 => .exm fun m8 => .reg 0 [(5,Or.cells [dI x0,dI x1,dI x2,dB x3,dL x4],0,0),(6,Or.callO [1,2,3,4] (V.tup []) [some (Obj.box [sD (dI b12),sD (dI b13),S.ref 1,sD (dI b14),sD (dI b15),S.ref 2,sD (dI b16),sD (dI b17),S.ref 3]),some (Obj.mat 2 m6),some (Obj.mat 2 m7),some (Obj.mat 2 m8)],0,0)] [0,4,7,8] [0,1,2,3,4] [.old 3,.old 2] <| .r1 [0,4,7,8] [0,1,2,3,4] <| .bk 0 [.i b12,.i b13,.i b14,.i b15,.i b16,.i b17,.m m6,.m m7,.m m8,.i (IntKind.i64.wrap (i + (1:Int)))]) (.ex fun b18 => .ex fun b19 => .ex fun b20 => .ex fun b21 => .ex fun b22 => .ex fun b23 => .exm fun m9 => .exm fun m10 => .exm fun m11 => .drw 0 [(5,(Or.cells [dI x0,dI x1,dI x2,dB x3,dL x4],0,0),[]),(10,(Or.cells [dI x0,dI x1,dI x2,dB x3,dL x4],0,0),[]),(15,(Or.cells [dI x0,dI x1,dI x2,dB x3,dL x4],0,0),[]),(16,(Or.callO [1,2,3,4] (V.tup []) [some (Obj.box [sD (dI b18),sD (dI b19),S.ref 1,sD (dI b20),sD (dI b21),S.ref 2,sD (dI b22),sD (dI b23),S.ref 3]),some (Obj.mat 2 m9),some (Obj.mat 2 m10),some (Obj.mat 2 m11)],0,0),[1,2,3,4])] [0,4,7,8] [0,1,2,3,4] [.old 3,.old 2,.old 3,.old 2,.old 3,.old 2] <| .r1 [0,4,7,8] [0,1,2,3,4] <| .bk 0 [.i b18,.i b19,.i b20,.i b21,.i b22,.i b23,.m m9,.m m10,.m m11,.i (IntKind.i64.wrap (i + (1:Int)))]))) (.r1 [4,5] [0,2] <| .frz [1] <| .ret [])))
   (by kernel_rfl) (by kernel_rfl) (by kernel_rfl) h
end Go.AM
/- oplog.Compact, torsionref18.Same, and the law's own operations. -/
namespace Go.AM
open Go.Proofs.Try
def emptyO (o:Opz) : Bool := decide (o.k = 3) && decide (o.z = 0)
def joinO (a b:Opz) : Opz × Bool :=
 if a.k ≠ b.k then (⟨0, 0, 0, 0⟩, false)
 else if a.k = 1 then (⟨3, 0, 0, 0⟩, decide ((a.i = b.i ∧ a.j = b.j) ∨ (a.i = b.j ∧ a.j = b.i)))
 else if a.k = 2 then (⟨3, 0, 0, 0⟩, decide (a.i = b.i))
 else ({ a with z := a.z + b.z }, decide (a.i = b.i ∧ a.j = b.j))
def stepC (st : List Opz) (x:Opz) : List Opz :=
 if emptyO x then st
 else match st with
   | y :: st' => if (joinO y x).2 then (if emptyO (joinO y x).1 then st' else (joinO y x).1 :: st') else x :: y :: st'
   | [] => [x]
def compR (l : List Opz) : List Opz := l.foldl stepC []
def comp (l : List Opz) : List Opz := (compR l).reverse
theorem empty_ok (o:Opz) : FnD prog 101 [oE o] (vb (emptyO o)) [] := by
 refine vc101_ok _ _ _ _ _ (R := Out _) ?_
 unfold vc101
 refine ⟨fun h => ⟨_, sign_ok o.z, outb ?_⟩, fun h => outb ?_⟩
 · have hk : o.k = 3 := by simpa using (natEq o.k 3).symm.trans h
   simp only [emptyO, hk]
   by_cases hz : o.z = 0
   · simp [hz]
   · simp only [hz, if_false]
     split <;> simp
 · have hk : o.k ≠ 3 := by simpa using (natEq o.k 3).symm.trans h
   simp [emptyO, hk]
def oEB (o:Opz) (b:Bool) : V := .tup [.agg [sD (dI o.k), sD (dI o.i), sD (dI o.j), sD (dB (decide (o.z < 0))), sD (dL (lim (digs o.z.natAbs)))], eD (dB b)]
theorem outOB {o : Opz} {b c : Bool} (h : b = c) : Out (oEB o c) (.tup [.agg [sD (dI o.k), sD (dI o.i), sD (dI o.j), sD (dB (decide (o.z < 0))), sD (dL (lim (digs o.z.natAbs)))], eD (dB b)]) [] := by
 subst h; exact ⟨rfl, rfl⟩
theorem join_ok {a b : Opz} (ha : Sz a.z) (hb : Sz b.z) : FnD prog 102 [oE a, oE b] (oEB (joinO a b).1 (joinO a b).2) [] := by
 refine vc102_ok _ _ _ _ _ _ _ _ _ _ (R := Out _) ?_
 unfold vc102
 have ne : ∀ {x y : Nat}, ((x:Int) == (y:Int)) = true → x = y := fun h => by simpa using (natEq _ _).symm.trans h
 have nf : ∀ {x y : Nat}, ((x:Int) == (y:Int)) = false → x ≠ y := fun h => by simpa using (natEq _ _).symm.trans h
 refine ⟨fun h => ?_, fun h => ?_⟩
 · have hk : a.k ≠ b.k := by simpa using (natNe _ _).symm.trans h
   have e : joinO a b = (⟨0, 0, 0, 0⟩, false) := by simp [joinO, hk]
   rw [e]
   exact ⟨rfl, rfl⟩
 · have hk : a.k = b.k := by simpa using (natNe _ _).symm.trans h
   refine ⟨fun h1 => ?_, fun h1 => ⟨fun h2 => ?_, fun h2 => ?_⟩⟩
   · have hk1 : a.k = 1 := by simpa using (natEq a.k 1).symm.trans h1
     have e : joinO a b = (⟨3, 0, 0, 0⟩, decide ((a.i = b.i ∧ a.j = b.j) ∨ (a.i = b.j ∧ a.j = b.i))) := by
       have hb1 : b.k = 1 := by omega
       simp [joinO, hk1, hb1]
     rw [e]
     refine ⟨fun g1 => ⟨fun g2 => ?_, fun g2 => ⟨fun g3 => ?_, fun g3 => ?_⟩⟩, fun g1 => ⟨fun g3 => ?_, fun g3 => ?_⟩⟩
     · exact outOB (o := ⟨3, 0, 0, 0⟩) (by simp [ne g1, ne g2])
     · exact outOB (o := ⟨3, 0, 0, 0⟩) (by rw [natEq, decide_eq_decide]; have h1 := nf g2; have h2 := ne g1; have h3 := ne g3; constructor <;> intro h <;> omega)
     · exact outOB (o := ⟨3, 0, 0, 0⟩) (by have h1 := nf g2; have h2 := ne g1; have h3 := nf g3; exact (decide_eq_false (by omega)).symm)
     · exact outOB (o := ⟨3, 0, 0, 0⟩) (by rw [natEq, decide_eq_decide]; have h1 := nf g1; have h3 := ne g3; constructor <;> intro h <;> omega)
     · exact outOB (o := ⟨3, 0, 0, 0⟩) (by have h1 := nf g1; have h3 := nf g3; exact (decide_eq_false (by omega)).symm)
   · have hk2 : a.k = 2 := by simpa using (natEq a.k 2).symm.trans h2
     have e : joinO a b = (⟨3, 0, 0, 0⟩, decide (a.i = b.i)) := by
       have hb1 : b.k = 2 := by omega
       simp [joinO, hk2, hb1]
     rw [e]
     exact outOB (o := ⟨3, 0, 0, 0⟩) (natEq _ _)
   · have e1 : a.k ≠ 1 := by simpa using (natEq a.k 1).symm.trans h1
     have e2 : a.k ≠ 2 := by simpa using (natEq a.k 2).symm.trans h2
     have e : joinO a b = ({ a with z := a.z + b.z }, decide (a.i = b.i ∧ a.j = b.j)) := by
       unfold joinO
       rw [if_neg (by simpa using hk), if_neg e1, if_neg e2]
     rw [e]
     refine ⟨_, _, add_ok ha hb, fun g => ?_, fun g => ?_⟩
     · exact outOB (o := { a with z := a.z + b.z }) (by rw [natEq]; have := ne g; simp [this])
     · exact outOB (o := { a with z := a.z + b.z }) (by have := nf g; simp [this])
theorem stepC_z {K L : Nat} {st : List Opz} {x : Opz} (h : ∀ y ∈ st, y.z.natAbs ≤ K) (hx : x.z.natAbs ≤ L) : ∀ y ∈ stepC st x, y.z.natAbs ≤ K + L := by
 have h' : ∀ y ∈ st, y.z.natAbs ≤ K + L := fun y hy => Nat.le_trans (h y hy) (by omega)
 unfold stepC
 split
 · exact h'
 · cases st with
   | nil => intro y hy; simp at hy; subst hy; omega
   | cons y st' =>
     simp only
     split
     · have hj : (joinO y x).1.z.natAbs ≤ K + L := by
         have := h y (by simp)
         unfold joinO
         repeat' split
         all_goals simp
         omega
       split
       · intro y' hy'; exact h' y' (by simp [hy'])
       · intro y' hy'
         rcases List.mem_cons.1 hy' with rfl | h1
         · exact hj
         · exact h' y' (by simp [h1])
     · intro y' hy'
       rcases List.mem_cons.1 hy' with rfl | h1
       · omega
       · exact h' y' h1
theorem stepC_length (st : List Opz) (x:Opz) : (stepC st x).length ≤ st.length + 1 := by
 unfold stepC
 split
 · omega
 · cases st with
   | nil => simp
   | cons y st' =>
     simp only
     split
     · split
       · simp; omega
       · simp
     · simp
theorem compR_snoc {l : List Opz} {i : Nat} (hi : i < l.length) : compR (l.take (i + 1)) = stepC (compR (l.take i)) l[i] := by
 unfold compR
 rw [List.take_add_one, List.getElem?_eq_getElem hi, List.foldl_append]; rfl
theorem compR_z {l : List Opz} (hl : ∀ o ∈ l, o.z.natAbs ≤ 1280) : ∀ i, i ≤ l.length → (∀ y ∈ compR (l.take i), y.z.natAbs ≤ 1280 * i) ∧ (compR (l.take i)).length ≤ i
 | 0, _ => by simp [compR]
 | i + 1, h => by
   obtain ⟨h1, h2⟩ := compR_z hl i (by omega)
   have hi : i < l.length := by omega
   rw [compR_snoc hi]
   refine ⟨fun y hy => ?_, Nat.le_trans (stepC_length _ _) (by omega)⟩
   have := stepC_z h1 (hl _ (List.getElem_mem hi)) y hy
   omega
theorem compact_ok {l : List Opz} (hl : ∀ o ∈ l, o.z.natAbs ≤ 1280) (hn : l.length ≤ 1000) : FnD prog 50 [vs (oL l)] (vs (oL (comp l))) [] := by
 refine vc50_ok _ (R := Out _) ?_
 unfold vc50
 simp only [oL_length]
 refine ⟨fun out t => ∃ i : Nat, t = (i:Int) ∧ i ≤ l.length ∧ out = oL (compR (l.take i)).reverse, fun _ t => ((l.length:Int) - t).toNat, ⟨0, rfl, by omega, by simp [compR, oL]⟩, ?_⟩
 rintro _ _ ⟨i, rfl, hi, rfl⟩
 refine ⟨fun h => ?_, fun h => outs ?_⟩
 · have hir : i < l.length := by simpa using h
   obtain ⟨hz, hlen⟩ := compR_z hl i hi
   have hstep := compR_snoc hir
   have hx := hl _ (List.getElem_mem hir)
   have szx : Sz l[i].z := sz_of (Nat.le_trans hx (by decide))
   generalize hst : compR (l.take i) = st at hz hlen hstep
   rw [inc64 (by omega)]
   have hback : ∀ out, out = oL (stepC st l[i]).reverse → (∃ j : Nat, ((i + 1:Nat) : Int) = (j:Int) ∧ j ≤ l.length ∧ out = oL (compR (l.take j)).reverse) ∧ ((l.length:Int) - ((i + 1:Nat) : Int)).toNat < ((l.length:Int) - (i:Int)).toNat :=
     fun out ho => ⟨⟨i + 1, rfl, by omega, by rw [hstep]; exact ho⟩, by omega⟩
   refine ⟨_, _, _, _, _, ⟨by omega, by omega⟩, oL_get hir, _, empty_ok l[i], fun he => hback _ ?_, fun he => ⟨fun ho => ?_, fun ho => ?_⟩⟩
   · simp [stepC, he]
   · -- there is a last one
     cases st with
     | nil => simp [oL] at ho
     | cons y st' =>
       have hlast : IntKind.i64.wrap (((oL (y :: st').reverse).length:Int) - 1) = ((st'.length:Nat) : Int) := by
         rw [oL_length, List.length_reverse, List.length_cons]
         simp only [List.length_cons] at hlen
         rw [w64 (by omega) (by omega)]; omega
       have hlen' : ((oL (y :: st').reverse).length:Int) = ((st'.length + 1:Nat) : Int) := by rw [oL_length]; simp
       have hget : (oL (y :: st').reverse)[((st'.length:Nat) : Int).toNat]? = some (oD y) := by
         rw [Int.toNat_natCast]; simp [oL]
       have htake : (oL (y :: st').reverse).take ((st'.length:Nat) : Int).toNat = oL st'.reverse := by
         rw [Int.toNat_natCast]; simp only [oL, List.reverse_cons, List.map_append]
         rw [List.take_append_of_le_length (by simp)]
         exact List.take_of_length_le (by simp)
       have szy : Sz y.z := sz_of (Nat.le_trans (hz y (by simp)) (by omega))
       rw [hlast, htake]
       simp only [List.length_cons] at hlen
       have e0 : (joinO y l[i]).1.z.natAbs ≤ 1280 * i + 1280 := by
         have := hz y (by simp)
         unfold joinO
         repeat' split
         all_goals simp
         omega
       refine ⟨_, _, _, _, _, _, _, _, _, _, _, ⟨by omega, by rw [hlen']; omega⟩, hget, join_ok szy szx, fun hj => ⟨⟨by omega, by rw [hlen']; omega⟩, _, empty_ok _, fun hne => ⟨?_, hback _ ?_⟩, fun hne => hback _ ?_⟩, fun hj => ⟨_, empty_ok l[i], fun hne => ⟨?_, hback _ ?_⟩, fun hne => ?_⟩⟩
       · rw [oL_length]; simp only [List.length_reverse, List.length_cons, List.length_nil]; omega
       · have hne' : emptyO (joinO y l[i]).1 = false := by simpa using hne
         simp [stepC, he, hj, hne', oL]; rfl
       · have hne' : emptyO (joinO y l[i]).1 = true := by simpa using hne
         simp [stepC, he, hj, hne', oL]
       · rw [oL_length]; simp only [List.length_reverse, List.length_cons, List.length_nil]; omega
       · simp [stepC, he, hj, oL]; rfl
       · rw [he] at hne; simp at hne
   · have hnil : st = [] := by
       cases st with
       | nil => rfl
       | cons y st' => rw [oL_length] at ho; simp at ho
     subst hnil
     refine ⟨_, empty_ok l[i], fun hne => ⟨by simp [oL], hback _ ?_⟩, fun hne => ?_⟩
     · simp [stepC, he, oL]; rfl
     · rw [he] at hne; simp at hne
 · have hir : i = l.length := by have : l.length ≤ i := by simpa using h
                                 omega
   subst hir
   rw [List.take_length]; rfl
theorem sameOps_ok {a b : List Opz} (ha : SzO a) (hb : SzO b) (hn : a.length ≤ 4294967296) : FnD prog 54 [vs (oL a), vs (oL b)] (vb (decide (a = b))) [] := by
 refine vc54_ok _ _ (R := Out _) ?_
 unfold vc54
 simp only [oL_length]
 refine ⟨fun h => outb ?_, fun h => ?_⟩
 · have hne : a.length ≠ b.length := by simpa using (natNe _ _).symm.trans h
   simp only [false_eq_decide_iff]
   exact fun e => hne (by rw [e])
 · have hlen : a.length = b.length := by simpa using (natNe _ _).symm.trans h
   refine ⟨fun t => ∃ i : Nat, t = (i:Int) ∧ i ≤ a.length ∧ ∀ k, (hk : k < a.length) → k < i → a[k] = b[k]'(by omega), fun t => ((a.length:Int) - t).toNat, ⟨0, rfl, by omega, fun k _ hk => by omega⟩, ?_⟩
   rintro _ ⟨i, rfl, hi, hinv⟩
   refine ⟨fun h2 => ?_, fun h2 => outb ?_⟩
   · have hia : i < a.length := by simpa using h2
     have hib : i < b.length := by omega
     have no : ∀ {p : Prop}, a[i] ≠ b[i] → Out (vb (decide (a = b))) (vD (dB false)) [] := fun hne => outb (by
       simp only [false_eq_decide_iff]
       intro e
       exact hne (by subst e; rfl))
     refine ⟨_, _, _, _, _, _, _, _, _, _, ⟨by omega, by omega⟩, oL_get hia, ⟨by omega, by omega⟩, oL_get hib, fun g => ?_, fun g => ⟨fun g2 => ?_, fun g2 => ⟨fun g3 => ?_, fun g3 => ⟨_, rsame_ok (ha _ (List.getElem_mem hia)) (hb _ (List.getElem_mem hib)), fun g4 => ?_, fun g4 => ?_⟩⟩⟩⟩
     · have : a[i].k ≠ b[i].k := by simpa using (natNe _ _).symm.trans g
       exact no (p := True) fun e => this (by rw [e])
     · have : a[i].i ≠ b[i].i := by simpa using (natNe _ _).symm.trans g2
       exact no (p := True) fun e => this (by rw [e])
     · have : a[i].j ≠ b[i].j := by simpa using (natNe _ _).symm.trans g3
       exact no (p := True) fun e => this (by rw [e])
     · have : a[i].z ≠ b[i].z := by simpa using g4
       exact no (p := True) fun e => this (by rw [e])
     · rw [inc64 (by omega)]
       refine ⟨⟨i + 1, rfl, by omega, fun k hka hk => ?_⟩, by show ((a.length:Int) - ((i + 1:Nat) : Int)).toNat < ((a.length:Int) - (i:Int)).toNat; omega⟩
       by_cases hki : k = i
       · subst hki
         have e1 : a[k].k = b[k].k := by simpa using (natNe _ _).symm.trans g
         have e2 : a[k].i = b[k].i := by simpa using (natNe _ _).symm.trans g2
         have e3 : a[k].j = b[k].j := by simpa using (natNe _ _).symm.trans g3
         have e4 : a[k].z = b[k].z := by simpa using g4
         generalize a[k] = x at e1 e2 e3 e4 ⊢
         generalize b[k] = y at e1 e2 e3 e4 ⊢
         cases x; cases y
         simp only at e1 e2 e3 e4
         subst e1; subst e2; subst e3; subst e4; rfl
       · exact hinv k hka (by omega)
   · have hir : i = a.length := by have : a.length ≤ i := by simpa using h2
                                   omega
     simp only [true_eq_decide_iff]
     exact List.ext_getElem hlen fun k hk _ => hinv k hk (by omega)
theorem addOp_ok (i j:Nat) (z:Int) (h0 : -9223372036854775808 ≤ z) (h1 : z ≤ 9223372036854775807) : FnD prog 93 [vi i, vi j, vi z] (oE ⟨3, i, j, z⟩) [] := by
 refine vc93_ok _ _ _ (R := Out _) ?_
 unfold vc93
 exact ⟨_, _, rof_ok z h0 h1, rfl, rfl⟩
theorem swapOp_ok (i j:Nat) : FnD prog 94 [vi i, vi j] (oE ⟨1, i, j, 0⟩) [] := by
 refine vc94_ok _ _ (R := Out _) ?_
 unfold vc94
 exact ⟨rfl, rfl⟩
theorem negOp_ok (i:Nat) : FnD prog 95 [vi i] (oE ⟨2, i, 0, 0⟩) [] := by
 refine vc95_ok _ (R := Out _) ?_
 unfold vc95
 exact ⟨rfl, rfl⟩
end Go.AM
/- The fixed examples of the law of operations, with the answers put in. Printed by gen43.py. -/
set_option maxRecDepth 100000
set_option linter.unusedVariables false
namespace Go.AM
open Go.Proofs.Try
def vc43 (R:V → Heap → Prop) : Prop :=
 (FnD prog 93 [vD (dI (0:Int)),vD (dI (1:Int)),vD (dI (3:Int))] (vA [sD (dI (3:Int)),sD (dI (0:Int)),sD (dI (1:Int)),sD (dB (decide ((3:Int) < 0))),sD (dL (lim (digs (Int.natAbs (3:Int)))))]) []) ∧
 (FnD prog 49 [vD (dI (2:Int))] (vA [sD (dI (2:Int)),sD (dI (2:Int)),sD (dL (rows [[1,0],[0,1]]))]) []) ∧
 (FnD prog 45 [vD (dL [[dI (3:Int),dI (0:Int),dI (1:Int),dB (decide ((3:Int) < 0)),dL (lim (digs (Int.natAbs (3:Int))))]]),vA [sD (dI (2:Int)),sD (dI (2:Int)),sD (dL (rows [[1,0],[0,1]]))]] (V.tup [E.agg [sD (dI (2:Int)),sD (dI (2:Int)),sD (dL (rows [[1,3],[0,1]]))],eD (dI (0:Int))]) []) ∧
 (FnD prog 93 [vD (dI (0:Int)),vD (dI (2:Int)),vD (dI (3:Int))] (vA [sD (dI (3:Int)),sD (dI (0:Int)),sD (dI (2:Int)),sD (dB (decide ((3:Int) < 0))),sD (dL (lim (digs (Int.natAbs (3:Int)))))]) []) ∧
 (FnD prog 49 [vD (dI (2:Int))] (vA [sD (dI (2:Int)),sD (dI (2:Int)),sD (dL (rows [[1,0],[0,1]]))]) []) ∧
 (FnD prog 45 [vD (dL [[dI (3:Int),dI (0:Int),dI (2:Int),dB (decide ((3:Int) < 0)),dL (lim (digs (Int.natAbs (3:Int))))]]),vA [sD (dI (2:Int)),sD (dI (2:Int)),sD (dL (rows [[1,0],[0,1]]))]] (V.tup [E.agg [sD (dI (0:Int)),sD (dI (0:Int)),sD (dL (rows []))],eD (dI (180:Int))]) []) ∧
 (FnD prog 94 [vD (dI (0:Int)),vD (dI (0:Int))] (vA [sD (dI (1:Int)),sD (dI (0:Int)),sD (dI (0:Int)),sD (dB (decide ((0:Int) < 0))),sD (dL (lim (digs (Int.natAbs (0:Int)))))]) []) ∧
 (FnD prog 49 [vD (dI (2:Int))] (vA [sD (dI (2:Int)),sD (dI (2:Int)),sD (dL (rows [[1,0],[0,1]]))]) []) ∧
 (FnD prog 46 [vD (dL [[dI (1:Int),dI (0:Int),dI (0:Int),dB (decide ((0:Int) < 0)),dL (lim (digs (Int.natAbs (0:Int))))]]),vA [sD (dI (2:Int)),sD (dI (2:Int)),sD (dL (rows [[1,0],[0,1]]))]] (V.tup [E.agg [sD (dI (0:Int)),sD (dI (0:Int)),sD (dL (rows []))],eD (dI (180:Int))]) []) ∧
 (FnD prog 94 [vD (dI (0:Int)),vD (dI (1:Int))] (vA [sD (dI (1:Int)),sD (dI (0:Int)),sD (dI (1:Int)),sD (dB (decide ((0:Int) < 0))),sD (dL (lim (digs (Int.natAbs (0:Int)))))]) []) ∧
 (FnD prog 95 [vD (dI (0:Int))] (vA [sD (dI (2:Int)),sD (dI (0:Int)),sD (dI (0:Int)),sD (dB (decide ((0:Int) < 0))),sD (dL (lim (digs (Int.natAbs (0:Int)))))]) []) ∧
 (FnD prog 93 [vD (dI (1:Int)),vD (dI (0:Int)),vD (dI (2:Int))] (vA [sD (dI (3:Int)),sD (dI (1:Int)),sD (dI (0:Int)),sD (dB (decide ((2:Int) < 0))),sD (dL (lim (digs (Int.natAbs (2:Int)))))]) []) ∧
 (FnD prog 47 [vD (dL [[dI (1:Int),dI (0:Int),dI (1:Int),dB (decide ((0:Int) < 0)),dL (lim (digs (Int.natAbs (0:Int))))],[dI (2:Int),dI (0:Int),dI (0:Int),dB (decide ((0:Int) < 0)),dL (lim (digs (Int.natAbs (0:Int))))],[dI (3:Int),dI (1:Int),dI (0:Int),dB (decide ((2:Int) < 0)),dL (lim (digs (Int.natAbs (2:Int))))]]),vD (dI (2:Int))] (V.tup [E.agg [sD (dI (2:Int)),sD (dI (2:Int)),sD (dL (rows [[0,-1],[1,-2]]))],eD (dI (0:Int))]) []) ∧
 (FnD prog 47 [vD (dL ([] : DL)),vD (dI (65:Int))] (V.tup [E.agg [sD (dI (0:Int)),sD (dI (0:Int)),sD (dL (rows []))],eD (dI (1:Int))]) []) ∧
 (FnD prog 95 [vD (dI (0:Int))] (vA [sD (dI (2:Int)),sD (dI (0:Int)),sD (dI (0:Int)),sD (dB (decide ((0:Int) < 0))),sD (dL (lim (digs (Int.natAbs (0:Int)))))]) []) ∧
 (FnD prog 47 [vD (dL [[dI (2:Int),dI (0:Int),dI (0:Int),dB (decide ((0:Int) < 0)),dL (lim (digs (Int.natAbs (0:Int))))]]),vD (dI (0:Int))] (V.tup [E.agg [sD (dI (0:Int)),sD (dI (0:Int)),sD (dL (rows []))],eD (dI (180:Int))]) []) ∧
 (FnD prog 94 [vD (dI (0:Int)),vD (dI (1:Int))] (vA [sD (dI (1:Int)),sD (dI (0:Int)),sD (dI (1:Int)),sD (dB (decide ((0:Int) < 0))),sD (dL (lim (digs (Int.natAbs (0:Int)))))]) []) ∧
 (FnD prog 94 [vD (dI (1:Int)),vD (dI (0:Int))] (vA [sD (dI (1:Int)),sD (dI (1:Int)),sD (dI (0:Int)),sD (dB (decide ((0:Int) < 0))),sD (dL (lim (digs (Int.natAbs (0:Int)))))]) []) ∧
 (FnD prog 95 [vD (dI (0:Int))] (vA [sD (dI (2:Int)),sD (dI (0:Int)),sD (dI (0:Int)),sD (dB (decide ((0:Int) < 0))),sD (dL (lim (digs (Int.natAbs (0:Int)))))]) []) ∧
 (FnD prog 50 [vD (dL [[dI (1:Int),dI (0:Int),dI (1:Int),dB (decide ((0:Int) < 0)),dL (lim (digs (Int.natAbs (0:Int))))],[dI (1:Int),dI (1:Int),dI (0:Int),dB (decide ((0:Int) < 0)),dL (lim (digs (Int.natAbs (0:Int))))],[dI (2:Int),dI (0:Int),dI (0:Int),dB (decide ((0:Int) < 0)),dL (lim (digs (Int.natAbs (0:Int))))]])] (vD (dL (oL [⟨2,0,0,0⟩]))) []) ∧
 (FnD prog 93 [vD (dI (0:Int)),vD (dI (1:Int)),vD (dI (2:Int))] (vA [sD (dI (3:Int)),sD (dI (0:Int)),sD (dI (1:Int)),sD (dB (decide ((2:Int) < 0))),sD (dL (lim (digs (Int.natAbs (2:Int)))))]) []) ∧
 (FnD prog 93 [vD (dI (0:Int)),vD (dI (1:Int)),vD (dI (3:Int))] (vA [sD (dI (3:Int)),sD (dI (0:Int)),sD (dI (1:Int)),sD (dB (decide ((3:Int) < 0))),sD (dL (lim (digs (Int.natAbs (3:Int)))))]) []) ∧
 (FnD prog 93 [vD (dI (1:Int)),vD (dI (0:Int)),vD (dI (0:Int))] (vA [sD (dI (3:Int)),sD (dI (1:Int)),sD (dI (0:Int)),sD (dB (decide ((0:Int) < 0))),sD (dL (lim (digs (Int.natAbs (0:Int)))))]) []) ∧
 (FnD prog 93 [vD (dI (0:Int)),vD (dI (1:Int)),vD (dI (-5:Int))] (vA [sD (dI (3:Int)),sD (dI (0:Int)),sD (dI (1:Int)),sD (dB (decide ((-5:Int) < 0))),sD (dL (lim (digs (Int.natAbs (-5:Int)))))]) []) ∧
 (FnD prog 95 [vD (dI (1:Int))] (vA [sD (dI (2:Int)),sD (dI (1:Int)),sD (dI (0:Int)),sD (dB (decide ((0:Int) < 0))),sD (dL (lim (digs (Int.natAbs (0:Int)))))]) []) ∧
 (FnD prog 50 [vD (dL [[dI (3:Int),dI (0:Int),dI (1:Int),dB (decide ((2:Int) < 0)),dL (lim (digs (Int.natAbs (2:Int))))],[dI (3:Int),dI (0:Int),dI (1:Int),dB (decide ((3:Int) < 0)),dL (lim (digs (Int.natAbs (3:Int))))],[dI (3:Int),dI (1:Int),dI (0:Int),dB (decide ((0:Int) < 0)),dL (lim (digs (Int.natAbs (0:Int))))],[dI (3:Int),dI (0:Int),dI (1:Int),dB (decide ((-5:Int) < 0)),dL (lim (digs (Int.natAbs (-5:Int))))],[dI (2:Int),dI (1:Int),dI (0:Int),dB (decide ((0:Int) < 0)),dL (lim (digs (Int.natAbs (0:Int))))]])] (vD (dL (oL [⟨2,1,0,0⟩]))) []) ∧
 (FnD prog 94 [vD (dI (0:Int)),vD (dI (1:Int))] (vA [sD (dI (1:Int)),sD (dI (0:Int)),sD (dI (1:Int)),sD (dB (decide ((0:Int) < 0))),sD (dL (lim (digs (Int.natAbs (0:Int)))))]) []) ∧
 (FnD prog 93 [vD (dI (0:Int)),vD (dI (1:Int)),vD (dI (3:Int))] (vA [sD (dI (3:Int)),sD (dI (0:Int)),sD (dI (1:Int)),sD (dB (decide ((3:Int) < 0))),sD (dL (lim (digs (Int.natAbs (3:Int)))))]) []) ∧
 (FnD prog 48 [vD (dL [[dI (1:Int),dI (0:Int),dI (1:Int),dB (decide ((0:Int) < 0)),dL (lim (digs (Int.natAbs (0:Int))))],[dI (3:Int),dI (0:Int),dI (1:Int),dB (decide ((3:Int) < 0)),dL (lim (digs (Int.natAbs (3:Int))))]])] (vD (dL (oL [⟨3,0,1,-3⟩,⟨1,0,1,0⟩]))) []) ∧
 (FnD prog 70 [vD (dI (2:Int)),vD (dI (2:Int)),vD (dL [[dI (1:Int)],[dI (3:Int)],[dI (0:Int)],[dI (1:Int)]])] (vA [sD (dI (2:Int)),sD (dI (2:Int)),sD (dL (rows [[1,3],[0,1]]))]) []) ∧
 (FnD prog 23 [vA [sD (dI (2:Int)),sD (dI (2:Int)),sD (dL (rows [[1,3],[0,1]]))],vA [sD (dI (2:Int)),sD (dI (2:Int)),sD (dL (rows [[1,3],[0,1]]))]] (vD (dB true)) []) ∧
 (FnD prog 70 [vD (dI (2:Int)),vD (dI (2:Int)),vD (dL [[dI (0:Int)],[dI (-1:Int)],[dI (1:Int)],[dI (-2:Int)]])] (vA [sD (dI (2:Int)),sD (dI (2:Int)),sD (dL (rows [[0,-1],[1,-2]]))]) []) ∧
 (FnD prog 23 [vA [sD (dI (2:Int)),sD (dI (2:Int)),sD (dL (rows [[0,-1],[1,-2]]))],vA [sD (dI (2:Int)),sD (dI (2:Int)),sD (dL (rows [[0,-1],[1,-2]]))]] (vD (dB true)) []) ∧
 (FnD prog 95 [vD (dI (0:Int))] (vA [sD (dI (2:Int)),sD (dI (0:Int)),sD (dI (0:Int)),sD (dB (decide ((0:Int) < 0))),sD (dL (lim (digs (Int.natAbs (0:Int)))))]) []) ∧
 (FnD prog 54 [vD (dL (oL [⟨2,0,0,0⟩])),vD (dL [[dI (2:Int),dI (0:Int),dI (0:Int),dB (decide ((0:Int) < 0)),dL (lim (digs (Int.natAbs (0:Int))))]])] (vD (dB true)) []) ∧
 (FnD prog 95 [vD (dI (1:Int))] (vA [sD (dI (2:Int)),sD (dI (1:Int)),sD (dI (0:Int)),sD (dB (decide ((0:Int) < 0))),sD (dL (lim (digs (Int.natAbs (0:Int)))))]) []) ∧
 (FnD prog 54 [vD (dL (oL [⟨2,1,0,0⟩])),vD (dL [[dI (2:Int),dI (1:Int),dI (0:Int),dB (decide ((0:Int) < 0)),dL (lim (digs (Int.natAbs (0:Int))))]])] (vD (dB true)) []) ∧
 (FnD prog 93 [vD (dI (0:Int)),vD (dI (1:Int)),vD (dI (-3:Int))] (vA [sD (dI (3:Int)),sD (dI (0:Int)),sD (dI (1:Int)),sD (dB (decide ((-3:Int) < 0))),sD (dL (lim (digs (Int.natAbs (-3:Int)))))]) []) ∧
 (FnD prog 94 [vD (dI (0:Int)),vD (dI (1:Int))] (vA [sD (dI (1:Int)),sD (dI (0:Int)),sD (dI (1:Int)),sD (dB (decide ((0:Int) < 0))),sD (dL (lim (digs (Int.natAbs (0:Int)))))]) []) ∧
 (FnD prog 54 [vD (dL (oL [⟨3,0,1,-3⟩,⟨1,0,1,0⟩])),vD (dL [[dI (3:Int),dI (0:Int),dI (1:Int),dB (decide ((-3:Int) < 0)),dL (lim (digs (Int.natAbs (-3:Int))))],[dI (1:Int),dI (0:Int),dI (1:Int),dB (decide ((0:Int) < 0)),dL (lim (digs (Int.natAbs (0:Int))))]])] (vD (dB true)) []) ∧
 (FnD prog 96 [vD (dL ([] : DL)),vD (dI (0:Int))] (vD (dB true)) []) ∧
 (FnD prog 96 [vD (dL [[dI (2:Int),dI (0:Int),dI (1:Int),dB false,dL ([] : DL)]]),vD (dI (2:Int))] (vD (dB false)) []) ∧
 (FnD prog 96 [vD (dL [[dI (0:Int),dI (0:Int),dI (0:Int),dB false,dL ([] : DL)]]),vD (dI (2:Int))] (vD (dB false)) []) ∧
 R (vD (dB (!false))) []
theorem vc43_ok {R:V → Heap → Prop} (h : vc43 R) : FnG prog 43 [] [] R :=
 FnG.vcg hT func43 ntmps43 (.r0 [] <| .reg 2 [(0,Or.call (vA [sD (dI (3:Int)),sD (dI (0:Int)),sD (dI (1:Int)),sD (dB (decide ((3:Int) < 0))),sD (dL (lim (digs (Int.natAbs (3:Int)))))]) [] [],0,0),(1,Or.frz,0,1),(2,Or.call (vA [sD (dI (2:Int)),sD (dI (2:Int)),sD (dL (rows [[1,0],[0,1]]))]) [] [],0,0),(3,Or.call (V.tup [E.agg [sD (dI (2:Int)),sD (dI (2:Int)),sD (dL (rows [[1,3],[0,1]]))],eD (dI (0:Int))]) [] [],0,0),(7,Or.none,1,1)] [1,2] [1] [] <| .reg 2 [(0,Or.call (vA [sD (dI (3:Int)),sD (dI (0:Int)),sD (dI (2:Int)),sD (dB (decide ((3:Int) < 0))),sD (dL (lim (digs (Int.natAbs (3:Int)))))]) [] [],0,0),(1,Or.frz,1,1),(2,Or.call (vA [sD (dI (2:Int)),sD (dI (2:Int)),sD (dL (rows [[1,0],[0,1]]))]) [] [],0,0),(3,Or.call (V.tup [E.agg [sD (dI (0:Int)),sD (dI (0:Int)),sD (dL (rows []))],eD (dI (180:Int))]) [] [],0,0),(7,Or.none,2,1)] [1,2,4] [0] [] <| .reg 2 [(0,Or.call (vA [sD (dI (1:Int)),sD (dI (0:Int)),sD (dI (0:Int)),sD (dB (decide ((0:Int) < 0))),sD (dL (lim (digs (Int.natAbs (0:Int)))))]) [] [],0,0),(1,Or.frz,1,1),(2,Or.call (vA [sD (dI (2:Int)),sD (dI (2:Int)),sD (dL (rows [[1,0],[0,1]]))]) [] [],0,0),(3,Or.call (V.tup [E.agg [sD (dI (0:Int)),sD (dI (0:Int)),sD (dL (rows []))],eD (dI (180:Int))]) [] [],0,0),(7,Or.none,2,1)] [1,2,4,6] [0] [] <| .reg 2 [(0,Or.call (vA [sD (dI (1:Int)),sD (dI (0:Int)),sD (dI (1:Int)),sD (dB (decide ((0:Int) < 0))),sD (dL (lim (digs (Int.natAbs (0:Int)))))]) [] [],0,0),(1,Or.call (vA [sD (dI (2:Int)),sD (dI (0:Int)),sD (dI (0:Int)),sD (dB (decide ((0:Int) < 0))),sD (dL (lim (digs (Int.natAbs (0:Int)))))]) [] [],0,0),(2,Or.call (vA [sD (dI (3:Int)),sD (dI (1:Int)),sD (dI (0:Int)),sD (dB (decide ((2:Int) < 0))),sD (dL (lim (digs (Int.natAbs (2:Int)))))]) [] [],0,0),(3,Or.frz,1,1),(4,Or.call (V.tup [E.agg [sD (dI (2:Int)),sD (dI (2:Int)),sD (dL (rows [[0,-1],[1,-2]]))],eD (dI (0:Int))]) [] [],0,0),(8,Or.none,2,1)] [1,2,4,6,7,8] [0,2] [] <| .reg 1 [(0,Or.call (V.tup [E.agg [sD (dI (0:Int)),sD (dI (0:Int)),sD (dL (rows []))],eD (dI (1:Int))]) [] [],0,0),(4,Or.none,2,1)] [1,2,4,6,7,8,10] [0,1] [] <| .reg 2 [(0,Or.call (vA [sD (dI (2:Int)),sD (dI (0:Int)),sD (dI (0:Int)),sD (dB (decide ((0:Int) < 0))),sD (dL (lim (digs (Int.natAbs (0:Int)))))]) [] [],0,0),(1,Or.frz,2,1),(2,Or.call (V.tup [E.agg [sD (dI (0:Int)),sD (dI (0:Int)),sD (dL (rows []))],eD (dI (180:Int))]) [] [],0,0),(6,Or.none,3,1)] [1,2,4,6,7,8,10,12] [0,1] [] <| .reg 1 [(0,Or.call (vA [sD (dI (1:Int)),sD (dI (0:Int)),sD (dI (1:Int)),sD (dB (decide ((0:Int) < 0))),sD (dL (lim (digs (Int.natAbs (0:Int)))))]) [] [],0,0),(1,Or.call (vA [sD (dI (1:Int)),sD (dI (1:Int)),sD (dI (0:Int)),sD (dB (decide ((0:Int) < 0))),sD (dL (lim (digs (Int.natAbs (0:Int)))))]) [] [],0,0),(2,Or.call (vA [sD (dI (2:Int)),sD (dI (0:Int)),sD (dI (0:Int)),sD (dB (decide ((0:Int) < 0))),sD (dL (lim (digs (Int.natAbs (0:Int)))))]) [] [],0,0),(3,Or.frz,2,1),(4,Or.call (vD (dL (oL [⟨2,0,0,0⟩]))) [] [],0,0)] [1,2,4,6,7,8,10,12,13] [0,1] [] <| .reg 1 [(0,Or.call (vA [sD (dI (3:Int)),sD (dI (0:Int)),sD (dI (1:Int)),sD (dB (decide ((2:Int) < 0))),sD (dL (lim (digs (Int.natAbs (2:Int)))))]) [] [],0,0),(1,Or.call (vA [sD (dI (3:Int)),sD (dI (0:Int)),sD (dI (1:Int)),sD (dB (decide ((3:Int) < 0))),sD (dL (lim (digs (Int.natAbs (3:Int)))))]) [] [],0,0),(2,Or.call (vA [sD (dI (3:Int)),sD (dI (1:Int)),sD (dI (0:Int)),sD (dB (decide ((0:Int) < 0))),sD (dL (lim (digs (Int.natAbs (0:Int)))))]) [] [],0,0),(3,Or.call (vA [sD (dI (3:Int)),sD (dI (0:Int)),sD (dI (1:Int)),sD (dB (decide ((-5:Int) < 0))),sD (dL (lim (digs (Int.natAbs (-5:Int)))))]) [] [],0,0),(4,Or.call (vA [sD (dI (2:Int)),sD (dI (1:Int)),sD (dI (0:Int)),sD (dB (decide ((0:Int) < 0))),sD (dL (lim (digs (Int.natAbs (0:Int)))))]) [] [],0,0),(5,Or.frz,2,1),(6,Or.call (vD (dL (oL [⟨2,1,0,0⟩]))) [] [],0,0)] [1,2,4,6,7,8,10,12,13,14] [0,1] [] <| .reg 1 [(0,Or.call (vA [sD (dI (1:Int)),sD (dI (0:Int)),sD (dI (1:Int)),sD (dB (decide ((0:Int) < 0))),sD (dL (lim (digs (Int.natAbs (0:Int)))))]) [] [],0,0),(1,Or.call (vA [sD (dI (3:Int)),sD (dI (0:Int)),sD (dI (1:Int)),sD (dB (decide ((3:Int) < 0))),sD (dL (lim (digs (Int.natAbs (3:Int)))))]) [] [],0,0),(2,Or.frz,2,1),(3,Or.call (vD (dL (oL [⟨3,0,1,-3⟩,⟨1,0,1,0⟩]))) [] [],0,0)] [1,2,4,6,7,8,10,12,13,14,15] [0,1] [] <| .drw 7 [(4,(Or.frz,2,1),[]),(5,(Or.call (vA [sD (dI (2:Int)),sD (dI (2:Int)),sD (dL (rows [[1,3],[0,1]]))]) [] [],0,0),[]),(6,(Or.call (vD (dB true)) [] [],0,0),[]),(22,(Or.frz,3,1),[]),(23,(Or.call (vA [sD (dI (2:Int)),sD (dI (2:Int)),sD (dL (rows [[0,-1],[1,-2]]))]) [] [],0,0),[]),(24,(Or.call (vD (dB true)) [] [],0,0),[]),(36,(Or.call (vA [sD (dI (2:Int)),sD (dI (0:Int)),sD (dI (0:Int)),sD (dB (decide ((0:Int) < 0))),sD (dL (lim (digs (Int.natAbs (0:Int)))))]) [] [],0,0),[]),(37,(Or.frz,4,1),[]),(38,(Or.call (vD (dB true)) [] [],0,0),[]),(42,(Or.call (vA [sD (dI (2:Int)),sD (dI (1:Int)),sD (dI (0:Int)),sD (dB (decide ((0:Int) < 0))),sD (dL (lim (digs (Int.natAbs (0:Int)))))]) [] [],0,0),[]),(43,(Or.frz,5,1),[]),(44,(Or.call (vD (dB true)) [] [],0,0),[]),(48,(Or.call (vA [sD (dI (3:Int)),sD (dI (0:Int)),sD (dI (1:Int)),sD (dB (decide ((-3:Int) < 0))),sD (dL (lim (digs (Int.natAbs (-3:Int)))))]) [] [],0,0),[]),(49,(Or.call (vA [sD (dI (1:Int)),sD (dI (0:Int)),sD (dI (1:Int)),sD (dB (decide ((0:Int) < 0))),sD (dL (lim (digs (Int.natAbs (0:Int)))))]) [] [],0,0),[]),(50,(Or.frz,6,1),[]),(51,(Or.call (vD (dB true)) [] [],0,0),[]),(54,(Or.call (vD (dB true)) [] [],0,0),[]),(58,(Or.frz,7,1),[]),(59,(Or.call (vD (dB false)) [] [],0,0),[]),(64,(Or.frz,8,1),[]),(65,(Or.call (vD (dB false)) [] [],0,0),[])] [0] [] [] <| .ret [])
   (by kernel_rfl) (by kernel_rfl) (by kernel_rfl) h
end Go.AM
/- The fixed examples of the law of operations. -/
namespace Go.AM
open Go.Proofs.Try
theorem o_ints {r c : Nat} {v : List Int} {m : List (List Int)} (h : table r c (fillF c v) = m) (hr : r ≤ 1048576) (hc : c ≤ 1048576) (hv : ∀ z ∈ v, -9223372036854775808 ≤ z ∧ z ≤ 9223372036854775807) :
   FnD prog 70 [vi r, vi c, vs (ints v)] (eM r c m) [] := FnD.frz (h ▸ rints_ok hr hc hv)
theorem VO.of {n : Nat} {l : List Opz} (h : (l.all fun o => vO n o && decide (o.z.natAbs ≤ 128)) = true) : VO n l := fun o ho => by
 have := List.all_eq_true.1 h o ho
 simpa using this
theorem SzO.of {l : List Opz} (h : (l.all fun o => decide (o.z.natAbs ≤ 128)) = true) : SzO l := fun o ho => by
 have := List.all_eq_true.1 h o ho
 exact sz_of (Nat.le_trans (by simpa using this) (by decide))
theorem o_apply {r c : Nat} {l : List Opz} {m m' : List (List Int)} (h : apL r c l m = m') (hv : (l.all fun o => vO r o && decide (o.z.natAbs ≤ 128)) = true) (hl : l.length ≤ 10) (hm : Mx r c m) (km : BdM 9 m) (hr : r ≤ 9) (hc : c ≤ 9) :
   FnD prog 45 [vs (oL l), eM r c m] (eME r c m' 0) [] :=
 h ▸ apply_ok (VO.of hv) (by omega) hm km (by omega) (by omega) (by decide) (Nat.le_trans (Nat.mul_le_mul_right 9 (Nat.pow_le_pow_right (by decide) hl)) (by decide))
theorem o_comp {l l' : List Opz} (h : comp l = l') (hz : (l.all fun o => decide (o.z.natAbs ≤ 128)) = true) (hl : l.length ≤ 10) : FnD prog 50 [vs (oL l)] (vs (oL l')) [] :=
 h ▸ compact_ok (fun o ho => Nat.le_trans (by simpa using List.all_eq_true.1 hz o ho) (show 128 ≤ 1280 by decide)) (by omega)
theorem o_same {l : List Opz} (hz : (l.all fun o => decide (o.z.natAbs ≤ 128)) = true) (hl : l.length ≤ 10) : FnD prog 54 [vs (oL l), vs (oL l)] (vb true) [] := by
 have := sameOps_ok (SzO.of hz) (SzO.of hz) (a := l) (b := l) (by omega)
 rwa [decide_eq_true rfl] at this
theorem o_valid {l : List Opz} {n : Nat} {b : Bool} (h : l.all (vO n) = b) (hz : (l.all fun o => decide (o.z.natAbs ≤ 128)) = true) (hl : l.length ≤ 10) : FnD prog 96 [vs (oL l), vi n] (vb b) [] :=
 h ▸ valid_ok (by omega) (SzO.of hz)
theorem sanity18_ok : FnD prog 43 [] (vb true) [] := by
 have a013 : FnD prog 93 [vi 0, vi 1, vi 3] (oE ⟨3, 0, 1, 3⟩) [] := addOp_ok 0 1 3 (by decide) (by decide)
 have a023 : FnD prog 93 [vi 0, vi 2, vi 3] (oE ⟨3, 0, 2, 3⟩) [] := addOp_ok 0 2 3 (by decide) (by decide)
 have a102 : FnD prog 93 [vi 1, vi 0, vi 2] (oE ⟨3, 1, 0, 2⟩) [] := addOp_ok 1 0 2 (by decide) (by decide)
 have a012 : FnD prog 93 [vi 0, vi 1, vi 2] (oE ⟨3, 0, 1, 2⟩) [] := addOp_ok 0 1 2 (by decide) (by decide)
 have a100 : FnD prog 93 [vi 1, vi 0, vi 0] (oE ⟨3, 1, 0, 0⟩) [] := addOp_ok 1 0 0 (by decide) (by decide)
 have a01m5 : FnD prog 93 [vi 0, vi 1, vi (-5)] (oE ⟨3, 0, 1, -5⟩) [] := addOp_ok 0 1 (-5) (by decide) (by decide)
 have a01m3 : FnD prog 93 [vi 0, vi 1, vi (-3)] (oE ⟨3, 0, 1, -3⟩) [] := addOp_ok 0 1 (-3) (by decide) (by decide)
 have s00 : FnD prog 94 [vi 0, vi 0] (oE ⟨1, 0, 0, 0⟩) [] := swapOp_ok 0 0
 have s01 : FnD prog 94 [vi 0, vi 1] (oE ⟨1, 0, 1, 0⟩) [] := swapOp_ok 0 1
 have s10 : FnD prog 94 [vi 1, vi 0] (oE ⟨1, 1, 0, 0⟩) [] := swapOp_ok 1 0
 have n0 : FnD prog 95 [vi 0] (oE ⟨2, 0, 0, 0⟩) [] := negOp_ok 0
 have n1 : FnD prog 95 [vi 1] (oE ⟨2, 1, 0, 0⟩) [] := negOp_ok 1
 have id2 : FnD prog 49 [vi 2] (eM 2 2 [[1, 0], [0, 1]]) [] := FnD.frz (rident_ok (n := 2) (by decide))
 have h1 : FnD prog 45 [vs (oL [⟨3, 0, 1, 3⟩]), eM 2 2 [[1, 0], [0, 1]]] (eME 2 2 [[1, 3], [0, 1]] 0) [] := o_apply (r := 2) (c := 2) (by decide) (by decide) (by decide) ⟨by decide, by decide⟩ (by unfold BdM BdR; decide) (by decide) (by decide)
 have h2 : FnD prog 45 [vs (oL [⟨3, 0, 2, 3⟩]), eM 2 2 [[1, 0], [0, 1]]] (eME 0 0 [] 180) [] := apply_bad (r := 2) (c := 2) (SzO.of (by decide)) (by decide) (by decide)
 have h3 : FnD prog 46 [vs (oL [⟨1, 0, 0, 0⟩]), eM 2 2 [[1, 0], [0, 1]]] (eME 0 0 [] 180) [] := undo_bad (r := 2) (c := 2) (SzO.of (by decide)) (by decide) (by decide)
 have h4 : FnD prog 47 [vs (oL [⟨1, 0, 1, 0⟩, ⟨2, 0, 0, 0⟩, ⟨3, 1, 0, 2⟩]), vi 2] (eME 2 2 [[0, -1], [1, -2]] 0) [] := by
   have := matrix_ok (n := 2) (l := [⟨1, 0, 1, 0⟩, ⟨2, 0, 0, 0⟩, ⟨3, 1, 0, 2⟩]) (VO.of (by decide)) (by decide) (by decide) (by decide)
   rwa [show mat 2 [⟨1, 0, 1, 0⟩, ⟨2, 0, 0, 0⟩, ⟨3, 1, 0, 2⟩] = [[0, -1], [1, -2]] by decide] at this
 have h5 : FnD prog 47 [vs [], vi 65] (eME 0 0 [] 1) [] := matrix_big (n := 65) [] (by decide)
 have h6 : FnD prog 47 [vs (oL [⟨2, 0, 0, 0⟩]), vi 0] (eME 0 0 [] 180) [] := matrix_bad (n := 0) (SzO.of (by decide)) (by decide) (by decide) (by decide)
 have h7 : FnD prog 50 [vs (oL [⟨1, 0, 1, 0⟩, ⟨1, 1, 0, 0⟩, ⟨2, 0, 0, 0⟩])] (vs (oL [⟨2, 0, 0, 0⟩])) [] := o_comp (by decide) (by decide) (by decide)
 have h8 : FnD prog 50 [vs (oL [⟨3, 0, 1, 2⟩, ⟨3, 0, 1, 3⟩, ⟨3, 1, 0, 0⟩, ⟨3, 0, 1, -5⟩, ⟨2, 1, 0, 0⟩])] (vs (oL [⟨2, 1, 0, 0⟩])) [] := o_comp (by decide) (by decide) (by decide)
 have h9 : FnD prog 48 [vs (oL [⟨1, 0, 1, 0⟩, ⟨3, 0, 1, 3⟩])] (vs (oL [⟨3, 0, 1, -3⟩, ⟨1, 0, 1, 0⟩])) [] := by
   have := invert_oL (l := [⟨1, 0, 1, 0⟩, ⟨3, 0, 1, 3⟩]) (by decide)
   rwa [show inL [⟨1, 0, 1, 0⟩, ⟨3, 0, 1, 3⟩] = [⟨3, 0, 1, -3⟩, ⟨1, 0, 1, 0⟩] by decide] at this
 have i1 : FnD prog 70 [vi 2, vi 2, vs (ints [1, 3, 0, 1])] (eM 2 2 [[1, 3], [0, 1]]) [] := o_ints (r := 2) (c := 2) (by decide) (by decide) (by decide) (by decide)
 have i2 : FnD prog 70 [vi 2, vi 2, vs (ints [0, -1, 1, -2])] (eM 2 2 [[0, -1], [1, -2]]) [] := o_ints (r := 2) (c := 2) (by decide) (by decide) (by decide) (by decide)
 have same : ∀ (r c:Nat) (m : List (List Int)), Mx r c m → BdM 9 m → r ≤ 9 → c ≤ 9 → FnD prog 23 [eM r c m, eM r c m] (vb true) [] := fun r c m hm hk hr hc => same_yes hm hk hk rfl (by omega) (by omega) (by decide)
 have e1 : FnD prog 23 [eM 2 2 [[1, 3], [0, 1]], eM 2 2 [[1, 3], [0, 1]]] (vb true) [] := same 2 2 _ ⟨by decide, by decide⟩ (by unfold BdM BdR; decide) (by decide) (by decide)
 have e2 : FnD prog 23 [eM 2 2 [[0, -1], [1, -2]], eM 2 2 [[0, -1], [1, -2]]] (vb true) [] := same 2 2 _ ⟨by decide, by decide⟩ (by unfold BdM BdR; decide) (by decide) (by decide)
 have c1 : FnD prog 54 [vs (oL [⟨2, 0, 0, 0⟩]), vs (oL [⟨2, 0, 0, 0⟩])] (vb true) [] := o_same (by decide) (by decide)
 have c2 : FnD prog 54 [vs (oL [⟨2, 1, 0, 0⟩]), vs (oL [⟨2, 1, 0, 0⟩])] (vb true) [] := o_same (by decide) (by decide)
 have c3 : FnD prog 54 [vs (oL [⟨3, 0, 1, -3⟩, ⟨1, 0, 1, 0⟩]), vs (oL [⟨3, 0, 1, -3⟩, ⟨1, 0, 1, 0⟩])] (vb true) [] := o_same (by decide) (by decide)
 have v1 : FnD prog 96 [vs (oL []), vi 0] (vb true) [] := o_valid (n := 0) (by decide) (by decide) (by decide)
 have v2 : FnD prog 96 [vs (oL [⟨2, 0, 1, 0⟩]), vi 2] (vb false) [] := o_valid (n := 2) (by decide) (by decide) (by decide)
 have v3 : FnD prog 96 [vs (oL [⟨0, 0, 0, 0⟩]), vi 2] (vb false) [] := o_valid (n := 2) (by decide) (by decide) (by decide)
 refine vc43_ok (R := Out _) ?_
 unfold vc43
 exact ⟨a013, id2, h1, a023, id2, h2, s00, id2, h3, s01, n0, a102, h4, h5, n0, h6, s01, s10, n0, h7, a012, a013, a100, a01m5, n1, h8, s01, a013, h9,
   i1, e1, i2, e2, n0, c1, n1, c2, a01m3, s01, c3, v1, v2, v3, rfl, rfl⟩
end Go.AM
/- What functions of the program come to: group Ob. Printed by vc.py. -/
set_option maxRecDepth 100000
set_option linter.unusedVariables false
namespace Go.AM
open Go.Proofs.Try
def vc120 (a0 a1:Int) (a2 : DL) (R:V → Heap → Prop) : Prop :=
 ∃ (r0 r1:Int) (rrows : DLL) (r01 r11:Int) (rrows1 : DLL) (r02 r12:Int) (rrows2 : DLL),
 (FnD prog 66 [vA [sD (dI a0),sD (dI a1),sD (dL a2)]] (vA [sD (dI r0),sD (dI r1),S.ref 0]) [some (Obj.mat 2 rrows)]) ∧
 (FnD prog 49 [vD (dI a0)] (vA [sD (dI r01),sD (dI r11),S.ref 0]) [some (Obj.mat 2 rrows1)]) ∧
 (FnD prog 49 [vD (dI a0)] (vA [sD (dI r02),sD (dI r12),S.ref 0]) [some (Obj.mat 2 rrows2)]) ∧
 (R (V.e (E.sc (S.ptr 0 0))) [some (Obj.box [sD (dI r0),sD (dI r1),S.ref 1,sD (dI r01),sD (dI r11),S.ref 2,sD (dI r02),sD (dI r12),S.ref 3]),some (Obj.mat 2 rrows),some (Obj.mat 2 rrows1),some (Obj.mat 2 rrows2)])
theorem vc120_ok (a0 a1:Int) (a2 : DL) {R:V → Heap → Prop} (h : vc120 a0 a1 a2 R) : FnG prog 120 [vA [sD (dI a0),sD (dI a1),sD (dL a2)]] [] R :=
 FnG.vcg hT func120 ntmps120 (.reg 1 [(0,Or.none,0,1)] [1] [0] [] <| .ex fun r0 => .ex fun r1 => .exm fun rrows => .ex fun r01 => .ex fun r11 => .exm fun rrows1 => .ex fun r02 => .ex fun r12 => .exm fun rrows2 => .drw 4 [(1,(Or.call (vA [sD (dI r0),sD (dI r1),S.ref 0]) [some (Obj.mat 2 rrows)] [],1,1),[1]),(4,(Or.call (vA [sD (dI r01),sD (dI r11),S.ref 0]) [some (Obj.mat 2 rrows1)] [],2,1),[2]),(7,(Or.call (vA [sD (dI r02),sD (dI r12),S.ref 0]) [some (Obj.mat 2 rrows2)] [],3,1),[3]),(9,(Or.none,4,1),[4])] [2] [4,1,2,3] [] <| .ret [0,1,2,3])
   (by kernel_rfl) (by kernel_rfl) (by kernel_rfl) h
def vc121 (w0 w1:Int) (w2 : DLL) (w3 w4:Int) (w5 : DLL) (w6 w7:Int) (w8 : DLL) (i j:Int) (R:V → Heap → Prop) : Prop :=
 (0 ≤ i ∧ i < (w2.length:Int)) ∧
 ((0 ≤ j ∧ j < (w2.length:Int)) ∧
 (((j).toNat = (j).toNat) ∧
 ((i).toNat = (i).toNat) ∧
 ((0 ≤ i ∧ i < (w5.length:Int)) ∧
 ((0 ≤ j ∧ j < (w5.length:Int)) ∧
 (∃ (J0 : (DLL) → Int → Prop) (μ0 : (DLL) → Int → Nat),
 J0 w8 (0:Int) ∧ ∀ (o3 : DLL) (r:Int),J0 o3 r →
 (decide (r < w6) = true →
 ∃ (x0:Bool) (x1 : DL),
 (0 ≤ r ∧ r < (o3.length:Int)) ∧
 (∃ l,o3[(r).toNat]? = some l ∧ 0 ≤ i ∧ i < (l.length:Int)) ∧
 (at2 o3 (r).toNat (i).toNat = some [dB x0,dL x1]) ∧
 (∃ (x01:Bool) (x11 : DL),
 (∃ l,o3[(r).toNat]? = some l ∧ 0 ≤ j ∧ j < (l.length:Int)) ∧
 (at2 o3 (r).toNat (j).toNat = some [dB x01,dL x11]) ∧
 ((0 ≤ r ∧ r < ((o3.modify (r).toNat (fun qz => qz.set (i).toNat [dB x01,dL x11])).length:Int)) ∧
 (∃ l,(o3.modify (r).toNat (fun qz => qz.set (i).toNat [dB x01,dL x11]))[(r).toNat]? = some l ∧ 0 ≤ j ∧ j < (l.length:Int)) ∧
 (J0 ((o3.modify (r).toNat (fun qz => qz.set (i).toNat [dB x01,dL x11])).modify (r).toNat (fun qz => qz.set (j).toNat [dB x0,dL x1])) (IntKind.i64.wrap (r + (1:Int))) ∧ μ0 ((o3.modify (r).toNat (fun qz => qz.set (i).toNat [dB x01,dL x11])).modify (r).toNat (fun qz => qz.set (j).toNat [dB x0,dL x1])) (IntKind.i64.wrap (r + (1:Int))) < μ0 o3 r)))) ∧
 (decide (r < w6) = false →
 R (V.tup []) [some (Obj.box [sD (dI w0),sD (dI w1),S.ref 4,sD (dI w3),sD (dI w4),S.ref 5,sD (dI w6),sD (dI w7),S.ref 3]),some (Obj.fwd (S.ref 4)),some (Obj.fwd (S.ref 5)),some (Obj.mat 2 o3),some (Obj.mat 2 (swapR w2 ((i).toNat) ((j).toNat))),some (Obj.mat 2 (swapR w5 ((i).toNat) ((j).toNat)))]))))))
theorem vc121_ok (w0 w1:Int) (w2 : DLL) (w3 w4:Int) (w5 : DLL) (w6 w7:Int) (w8 : DLL) (i j:Int) {R:V → Heap → Prop} (h : vc121 w0 w1 w2 w3 w4 w5 w6 w7 w8 i j R) : FnG prog 121 [V.e (E.sc (S.ptr 0 0)),vD (dI i),vD (dI j)] [some (Obj.box [sD (dI w0),sD (dI w1),S.ref 1,sD (dI w3),sD (dI w4),S.ref 2,sD (dI w6),sD (dI w7),S.ref 3]),some (Obj.mat 2 w2),some (Obj.mat 2 w5),some (Obj.mat 2 w8)] R :=
 FnG.vcg hT func121 ntmps121 (.r1 [0,1,2,6] [0,1,2,3] <| .drw 0 [(15,(Or.none,0,0),[1])] [0,1,2,6] [0,1,2,3] [.new,.old 1] <| .reg 1 [(8,Or.none,4,1)] [0,1,2] [0,1,2,3,4] [.old 0] <| .fwd [] [0] <| .r1 [0,1,2,6] [0,1,2,3,4] <| .fwd [] [] <| .drw 0 [(15,(Or.none,0,0),[2])] [0,1,2,6] [0,1,2,3,4] [.new,.old 1] <| .fwd [] [] <| .reg 1 [(8,Or.none,5,1)] [0,1,2] [0,1,2,3,4,5] [.old 0,.old 3,.old 2] <| .fwd [] [0] <| .r1 [0,1,2,7] [0,1,2,3,4,5] <| .fwd [] [] <| .lp [.m,.i] (fun o3 r => ⟨[(0,vP 0 0),(1,vD (dI i)),(2,vD (dI j)),(7,vD (dI r))],[some (Obj.box [sD (dI w0),sD (dI w1),S.ref 4,sD (dI w3),sD (dI w4),S.ref 5,sD (dI w6),sD (dI w7),S.ref 3]),some (Obj.fwd (S.ref 4)),some (Obj.fwd (S.ref 5)),some (Obj.mat 2 o3),some (Obj.mat 2 (swapR w2 ((i).toNat) ((j).toNat))),some (Obj.mat 2 (swapR w5 ((i).toNat) ((j).toNat)))],123⟩) [.m w8,.i (0:Int)] <| .fm fun o3 => .fi fun r => .beg <| .r1 [0,1,2,7,77] [0,1,2,3,4,5] <| .fwd [] [] <| .c2 (.exb fun x0 => .exl fun x1 => .reg 1 [(10,Or.cells [dB x0,dL x1],0,0),(11,Or.none,6,1)] [0,1,2,7,8] [0,1,2,3,6,4,5] [] <| .fwd [] [] <| .exb fun x01 => .exl fun x11 => .drw 0 [(19,(Or.cells [dB x01,dL x11],0,0),[]),(21,(Or.none,0,0),[3])] [0,1,2,7,8] [0,1,2,3,4,5,6] [.old 2,.old 2,.new,.new,.old 3] <| .fwd [] [] <| .drw 0 [(11,(Or.none,0,0),[3])] [0,1,2,7] [0,1,2,3,5,6] [] <| .fwd [] [] <| .r1 [0,1,2,7] [0,1,2,3,4,5] <| .fwd [] [] <| .bk 0 [.m ((o3.modify (r).toNat (fun qz => qz.set (i).toNat [dB x01,dL x11])).modify (r).toNat (fun qz => qz.set (j).toNat [dB x0,dL x1])),.i (IntKind.i64.wrap (r + (1:Int)))]) (.ret [0,1,2,3,4,5]))
   (by kernel_rfl) (by kernel_rfl) (by kernel_rfl) h
def vc122 (w0 w1:Int) (w2 : DLL) (w3 w4:Int) (w5 : DLL) (w6 w7:Int) (w8 : DLL) (i:Int) (R:V → Heap → Prop) : Prop :=
 ∃ (J0 : (DLL) → Int → Prop) (μ0 : (DLL) → Int → Nat),
 J0 w2 (0:Int) ∧ ∀ (o1 : DLL) (c:Int),J0 o1 c →
 (decide (c < w1) = true →
 ∃ (x0:Bool) (x1 : DL) (r0:Bool) (r1 : DL),
 (0 ≤ i ∧ i < (o1.length:Int)) ∧
 (∃ l,o1[(i).toNat]? = some l ∧ 0 ≤ c ∧ c < (l.length:Int)) ∧
 (at2 o1 (i).toNat (c).toNat = some [dB x0,dL x1]) ∧
 (FnD prog 104 [vA [sD (dB x0),sD (dL x1)]] (vA [sD (dB r0),sD (dL r1)]) []) ∧
 (J0 (o1.modify (i).toNat (fun qz => qz.set (c).toNat [dB r0,dL r1])) (IntKind.i64.wrap (c + (1:Int))) ∧ μ0 (o1.modify (i).toNat (fun qz => qz.set (c).toNat [dB r0,dL r1])) (IntKind.i64.wrap (c + (1:Int))) < μ0 o1 c)) ∧
 (decide (c < w1) = false →
 ∃ (J1 : (DLL) → Int → Prop) (μ1 : (DLL) → Int → Nat),
 J1 w5 (0:Int) ∧ ∀ (o2 : DLL) (c1:Int),J1 o2 c1 →
 (decide (c1 < w4) = true →
 ∃ (x01:Bool) (x11 : DL) (r01:Bool) (r11 : DL),
 (0 ≤ i ∧ i < (o2.length:Int)) ∧
 (∃ l,o2[(i).toNat]? = some l ∧ 0 ≤ c1 ∧ c1 < (l.length:Int)) ∧
 (at2 o2 (i).toNat (c1).toNat = some [dB x01,dL x11]) ∧
 (FnD prog 104 [vA [sD (dB x01),sD (dL x11)]] (vA [sD (dB r01),sD (dL r11)]) []) ∧
 (J1 (o2.modify (i).toNat (fun qz => qz.set (c1).toNat [dB r01,dL r11])) (IntKind.i64.wrap (c1 + (1:Int))) ∧ μ1 (o2.modify (i).toNat (fun qz => qz.set (c1).toNat [dB r01,dL r11])) (IntKind.i64.wrap (c1 + (1:Int))) < μ1 o2 c1)) ∧
 (decide (c1 < w4) = false →
 ∃ (J2 : (DLL) → Int → Prop) (μ2 : (DLL) → Int → Nat),
 J2 w8 (0:Int) ∧ ∀ (o3 : DLL) (r:Int),J2 o3 r →
 (decide (r < w6) = true →
 ∃ (x02:Bool) (x12 : DL) (r02:Bool) (r12 : DL),
 (0 ≤ r ∧ r < (o3.length:Int)) ∧
 (∃ l,o3[(r).toNat]? = some l ∧ 0 ≤ i ∧ i < (l.length:Int)) ∧
 (at2 o3 (r).toNat (i).toNat = some [dB x02,dL x12]) ∧
 (FnD prog 104 [vA [sD (dB x02),sD (dL x12)]] (vA [sD (dB r02),sD (dL r12)]) []) ∧
 (J2 (o3.modify (r).toNat (fun qz => qz.set (i).toNat [dB r02,dL r12])) (IntKind.i64.wrap (r + (1:Int))) ∧ μ2 (o3.modify (r).toNat (fun qz => qz.set (i).toNat [dB r02,dL r12])) (IntKind.i64.wrap (r + (1:Int))) < μ2 o3 r)) ∧
 (decide (r < w6) = false →
 R (V.tup []) [some (Obj.box [sD (dI w0),sD (dI w1),S.ref 1,sD (dI w3),sD (dI w4),S.ref 2,sD (dI w6),sD (dI w7),S.ref 3]),some (Obj.mat 2 o1),some (Obj.mat 2 o2),some (Obj.mat 2 o3)])))
theorem vc122_ok (w0 w1:Int) (w2 : DLL) (w3 w4:Int) (w5 : DLL) (w6 w7:Int) (w8 : DLL) (i:Int) {R:V → Heap → Prop} (h : vc122 w0 w1 w2 w3 w4 w5 w6 w7 w8 i R) : FnG prog 122 [V.e (E.sc (S.ptr 0 0)),vD (dI i)] [some (Obj.box [sD (dI w0),sD (dI w1),S.ref 1,sD (dI w3),sD (dI w4),S.ref 2,sD (dI w6),sD (dI w7),S.ref 3]),some (Obj.mat 2 w2),some (Obj.mat 2 w5),some (Obj.mat 2 w8)] R :=
 FnG.vcg hT func122 ntmps122 (.r1 [0,1,4] [0,1,2,3] <| .lp [.m,.i] (fun o1 c => ⟨[(0,vP 0 0),(1,vD (dI i)),(4,vD (dI c))],[some (Obj.box [sD (dI w0),sD (dI w1),S.ref 1,sD (dI w3),sD (dI w4),S.ref 2,sD (dI w6),sD (dI w7),S.ref 3]),some (Obj.mat 2 o1),some (Obj.mat 2 w5),some (Obj.mat 2 w8)],100⟩) [.m w2,.i (0:Int)] <| .fm fun o1 => .fi fun c => .beg <| .r1 [0,1,4,13] [0,1,2,3] <| .c2 (.exb fun x0 => .exl fun x1 => .exb fun r0 => .exl fun r1 => .drw 0 [(19,(Or.cells [dB x0,dL x1],0,0),[]),(20,(Or.call (vA [sD (dB r0),sD (dL r1)]) [] [],0,0),[]),(22,(Or.none,0,0),[1])] [0,1,4] [0,1,2,3] [.new,.old 0,.new,.new,.new,.old 2] <| .r1 [0,1,4] [0,1,2,3] <| .bk 0 [.m (o1.modify (i).toNat (fun qz => qz.set (c).toNat [dB r0,dL r1])),.i (IntKind.i64.wrap (c + (1:Int)))]) (.r1 [0,1,5] [0,1,2,3] <| .lp [.m,.i] (fun o2 c1 => ⟨[(0,vP 0 0),(1,vD (dI i)),(5,vD (dI c1))],[some (Obj.box [sD (dI w0),sD (dI w1),S.ref 1,sD (dI w3),sD (dI w4),S.ref 2,sD (dI w6),sD (dI w7),S.ref 3]),some (Obj.mat 2 o1),some (Obj.mat 2 o2),some (Obj.mat 2 w8)],100⟩) [.m w5,.i (0:Int)] <| .fm fun o2 => .fi fun c1 => .beg <| .r1 [0,1,5,44] [0,1,2,3] <| .c2 (.exb fun x01 => .exl fun x11 => .exb fun r01 => .exl fun r11 => .drw 0 [(19,(Or.cells [dB x01,dL x11],0,0),[]),(20,(Or.call (vA [sD (dB r01),sD (dL r11)]) [] [],0,0),[]),(22,(Or.none,0,0),[2])] [0,1,5] [0,1,2,3] [.new,.old 0,.new,.new,.new,.old 2] <| .r1 [0,1,5] [0,1,2,3] <| .bk 0 [.m (o2.modify (i).toNat (fun qz => qz.set (c1).toNat [dB r01,dL r11])),.i (IntKind.i64.wrap (c1 + (1:Int)))]) (.r1 [0,1,6] [0,1,2,3] <| .lp [.m,.i] (fun o3 r => ⟨[(0,vP 0 0),(1,vD (dI i)),(6,vD (dI r))],[some (Obj.box [sD (dI w0),sD (dI w1),S.ref 1,sD (dI w3),sD (dI w4),S.ref 2,sD (dI w6),sD (dI w7),S.ref 3]),some (Obj.mat 2 o1),some (Obj.mat 2 o2),some (Obj.mat 2 o3)],100⟩) [.m w8,.i (0:Int)] <| .fm fun o3 => .fi fun r => .beg <| .r1 [0,1,6,75] [0,1,2,3] <| .c2 (.exb fun x02 => .exl fun x12 => .exb fun r02 => .exl fun r12 => .drw 0 [(19,(Or.cells [dB x02,dL x12],0,0),[]),(20,(Or.call (vA [sD (dB r02),sD (dL r12)]) [] [],0,0),[]),(22,(Or.none,0,0),[3])] [0,1,6] [0,1,2,3] [.new,.old 0,.new,.new,.new,.old 2] <| .r1 [0,1,6] [0,1,2,3] <| .bk 0 [.m (o3.modify (r).toNat (fun qz => qz.set (i).toNat [dB r02,dL r12])),.i (IntKind.i64.wrap (r + (1:Int)))]) (.ret [0,1,2,3]))))
   (by kernel_rfl) (by kernel_rfl) (by kernel_rfl) h
def vc123 (w0 w1:Int) (w2 : DLL) (w3 w4:Int) (w5 : DLL) (w6 w7:Int) (w8 : DLL) (i j:Int) (k0:Bool) (k1 : DL) (R:V → Heap → Prop) : Prop :=
 ∃ (J0 : (DLL) → Int → Prop) (μ0 : (DLL) → Int → Nat),
 J0 w2 (0:Int) ∧ ∀ (o1 : DLL) (c:Int),J0 o1 c →
 (decide (c < w1) = true →
 ∃ (x0:Bool) (x1 : DL) (x01:Bool) (x11 : DL) (r0:Bool) (r1 : DL) (r01:Bool) (r11 : DL),
 (0 ≤ i ∧ i < (o1.length:Int)) ∧
 (∃ l,o1[(i).toNat]? = some l ∧ 0 ≤ c ∧ c < (l.length:Int)) ∧
 (at2 o1 (i).toNat (c).toNat = some [dB x0,dL x1]) ∧
 (0 ≤ j ∧ j < (o1.length:Int)) ∧
 (∃ l,o1[(j).toNat]? = some l ∧ 0 ≤ c ∧ c < (l.length:Int)) ∧
 (at2 o1 (j).toNat (c).toNat = some [dB x01,dL x11]) ∧
 (FnD prog 110 [vA [sD (dB k0),sD (dL k1)],vA [sD (dB x01),sD (dL x11)]] (vA [sD (dB r0),sD (dL r1)]) []) ∧
 (FnD prog 82 [vA [sD (dB x0),sD (dL x1)],vA [sD (dB r0),sD (dL r1)]] (vA [sD (dB r01),sD (dL r11)]) []) ∧
 (J0 (o1.modify (i).toNat (fun qz => qz.set (c).toNat [dB r01,dL r11])) (IntKind.i64.wrap (c + (1:Int))) ∧ μ0 (o1.modify (i).toNat (fun qz => qz.set (c).toNat [dB r01,dL r11])) (IntKind.i64.wrap (c + (1:Int))) < μ0 o1 c)) ∧
 (decide (c < w1) = false →
 ∃ (J1 : (DLL) → Int → Prop) (μ1 : (DLL) → Int → Nat),
 J1 w5 (0:Int) ∧ ∀ (o2 : DLL) (c1:Int),J1 o2 c1 →
 (decide (c1 < w4) = true →
 ∃ (x02:Bool) (x12 : DL) (x03:Bool) (x13 : DL) (r02:Bool) (r12 : DL) (r03:Bool) (r13 : DL),
 (0 ≤ i ∧ i < (o2.length:Int)) ∧
 (∃ l,o2[(i).toNat]? = some l ∧ 0 ≤ c1 ∧ c1 < (l.length:Int)) ∧
 (at2 o2 (i).toNat (c1).toNat = some [dB x02,dL x12]) ∧
 (0 ≤ j ∧ j < (o2.length:Int)) ∧
 (∃ l,o2[(j).toNat]? = some l ∧ 0 ≤ c1 ∧ c1 < (l.length:Int)) ∧
 (at2 o2 (j).toNat (c1).toNat = some [dB x03,dL x13]) ∧
 (FnD prog 110 [vA [sD (dB k0),sD (dL k1)],vA [sD (dB x03),sD (dL x13)]] (vA [sD (dB r02),sD (dL r12)]) []) ∧
 (FnD prog 82 [vA [sD (dB x02),sD (dL x12)],vA [sD (dB r02),sD (dL r12)]] (vA [sD (dB r03),sD (dL r13)]) []) ∧
 (J1 (o2.modify (i).toNat (fun qz => qz.set (c1).toNat [dB r03,dL r13])) (IntKind.i64.wrap (c1 + (1:Int))) ∧ μ1 (o2.modify (i).toNat (fun qz => qz.set (c1).toNat [dB r03,dL r13])) (IntKind.i64.wrap (c1 + (1:Int))) < μ1 o2 c1)) ∧
 (decide (c1 < w4) = false →
 ∃ (J2 : (DLL) → Int → Prop) (μ2 : (DLL) → Int → Nat),
 J2 w8 (0:Int) ∧ ∀ (o3 : DLL) (r:Int),J2 o3 r →
 (decide (r < w6) = true →
 ∃ (x04:Bool) (x14 : DL) (x05:Bool) (x15 : DL) (r04:Bool) (r14 : DL) (r05:Bool) (r15 : DL),
 (0 ≤ r ∧ r < (o3.length:Int)) ∧
 (∃ l,o3[(r).toNat]? = some l ∧ 0 ≤ j ∧ j < (l.length:Int)) ∧
 (at2 o3 (r).toNat (j).toNat = some [dB x04,dL x14]) ∧
 (∃ l,o3[(r).toNat]? = some l ∧ 0 ≤ i ∧ i < (l.length:Int)) ∧
 (at2 o3 (r).toNat (i).toNat = some [dB x05,dL x15]) ∧
 (FnD prog 110 [vA [sD (dB k0),sD (dL k1)],vA [sD (dB x05),sD (dL x15)]] (vA [sD (dB r04),sD (dL r14)]) []) ∧
 (FnD prog 151 [vA [sD (dB x04),sD (dL x14)],vA [sD (dB r04),sD (dL r14)]] (vA [sD (dB r05),sD (dL r15)]) []) ∧
 (J2 (o3.modify (r).toNat (fun qz => qz.set (j).toNat [dB r05,dL r15])) (IntKind.i64.wrap (r + (1:Int))) ∧ μ2 (o3.modify (r).toNat (fun qz => qz.set (j).toNat [dB r05,dL r15])) (IntKind.i64.wrap (r + (1:Int))) < μ2 o3 r)) ∧
 (decide (r < w6) = false →
 R (V.tup []) [some (Obj.box [sD (dI w0),sD (dI w1),S.ref 1,sD (dI w3),sD (dI w4),S.ref 2,sD (dI w6),sD (dI w7),S.ref 3]),some (Obj.mat 2 o1),some (Obj.mat 2 o2),some (Obj.mat 2 o3)])))
theorem vc123_ok (w0 w1:Int) (w2 : DLL) (w3 w4:Int) (w5 : DLL) (w6 w7:Int) (w8 : DLL) (i j:Int) (k0:Bool) (k1 : DL) {R:V → Heap → Prop} (h : vc123 w0 w1 w2 w3 w4 w5 w6 w7 w8 i j k0 k1 R) : FnG prog 123 [V.e (E.sc (S.ptr 0 0)),vD (dI i),vD (dI j),vA [sD (dB k0),sD (dL k1)]] [some (Obj.box [sD (dI w0),sD (dI w1),S.ref 1,sD (dI w3),sD (dI w4),S.ref 2,sD (dI w6),sD (dI w7),S.ref 3]),some (Obj.mat 2 w2),some (Obj.mat 2 w5),some (Obj.mat 2 w8)] R :=
 FnG.vcg hT func123 ntmps123 (.reg 1 [(0,Or.none,4,1)] [0,1,2,7] [0,1,2,3,4] [] <| .r1 [0,1,2,7,8] [0,1,2,3,4] <| .lp [.m,.i] (fun o1 c => ⟨[(0,vP 0 0),(1,vD (dI i)),(2,vD (dI j)),(7,vP 4 0),(8,vD (dI c))],[some (Obj.box [sD (dI w0),sD (dI w1),S.ref 1,sD (dI w3),sD (dI w4),S.ref 2,sD (dI w6),sD (dI w7),S.ref 3]),some (Obj.mat 2 o1),some (Obj.mat 2 w5),some (Obj.mat 2 w8),some (Obj.box [sD (dB k0),sD (dL k1)])],143⟩) [.m w2,.i (0:Int)] <| .fm fun o1 => .fi fun c => .beg <| .r1 [0,1,2,7,8,17] [0,1,2,3,4] <| .c2 (.exb fun x0 => .exl fun x1 => .exb fun x01 => .exl fun x11 => .exb fun r0 => .exl fun r1 => .exb fun r01 => .exl fun r11 => .drw 0 [(19,(Or.cells [dB x0,dL x1],0,0),[]),(31,(Or.cells [dB x01,dL x11],0,0),[]),(32,(Or.call (vA [sD (dB r0),sD (dL r1)]) [] [],0,0),[]),(33,(Or.call (vA [sD (dB r01),sD (dL r11)]) [] [],0,0),[]),(35,(Or.none,0,0),[1])] [0,1,2,7,8] [0,1,2,3,4] [.new,.old 0,.new,.new,.new,.new,.new,.new,.new,.old 6] <| .r1 [0,1,2,7,8] [0,1,2,3,4] <| .bk 0 [.m (o1.modify (i).toNat (fun qz => qz.set (c).toNat [dB r01,dL r11])),.i (IntKind.i64.wrap (c + (1:Int)))]) (.r1 [0,1,2,7,9] [0,1,2,3,4] <| .lp [.m,.i] (fun o2 c1 => ⟨[(0,vP 0 0),(1,vD (dI i)),(2,vD (dI j)),(7,vP 4 0),(9,vD (dI c1))],[some (Obj.box [sD (dI w0),sD (dI w1),S.ref 1,sD (dI w3),sD (dI w4),S.ref 2,sD (dI w6),sD (dI w7),S.ref 3]),some (Obj.mat 2 o1),some (Obj.mat 2 o2),some (Obj.mat 2 w8),some (Obj.box [sD (dB k0),sD (dL k1)])],143⟩) [.m w5,.i (0:Int)] <| .fm fun o2 => .fi fun c1 => .beg <| .r1 [0,1,2,7,9,61] [0,1,2,3,4] <| .c2 (.exb fun x02 => .exl fun x12 => .exb fun x03 => .exl fun x13 => .exb fun r02 => .exl fun r12 => .exb fun r03 => .exl fun r13 => .drw 0 [(19,(Or.cells [dB x02,dL x12],0,0),[]),(31,(Or.cells [dB x03,dL x13],0,0),[]),(32,(Or.call (vA [sD (dB r02),sD (dL r12)]) [] [],0,0),[]),(33,(Or.call (vA [sD (dB r03),sD (dL r13)]) [] [],0,0),[]),(35,(Or.none,0,0),[2])] [0,1,2,7,9] [0,1,2,3,4] [.new,.old 0,.new,.new,.new,.new,.new,.new,.new,.old 6] <| .r1 [0,1,2,7,9] [0,1,2,3,4] <| .bk 0 [.m (o2.modify (i).toNat (fun qz => qz.set (c1).toNat [dB r03,dL r13])),.i (IntKind.i64.wrap (c1 + (1:Int)))]) (.r1 [0,1,2,7,10] [0,1,2,3,4] <| .lp [.m,.i] (fun o3 r => ⟨[(0,vP 0 0),(1,vD (dI i)),(2,vD (dI j)),(7,vP 4 0),(10,vD (dI r))],[some (Obj.box [sD (dI w0),sD (dI w1),S.ref 1,sD (dI w3),sD (dI w4),S.ref 2,sD (dI w6),sD (dI w7),S.ref 3]),some (Obj.mat 2 o1),some (Obj.mat 2 o2),some (Obj.mat 2 o3),some (Obj.box [sD (dB k0),sD (dL k1)])],143⟩) [.m w8,.i (0:Int)] <| .fm fun o3 => .fi fun r => .beg <| .r1 [0,1,2,7,10,105] [0,1,2,3,4] <| .c2 (.exb fun x04 => .exl fun x14 => .exb fun x05 => .exl fun x15 => .exb fun r04 => .exl fun r14 => .exb fun r05 => .exl fun r15 => .drw 0 [(19,(Or.cells [dB x04,dL x14],0,0),[]),(31,(Or.cells [dB x05,dL x15],0,0),[]),(32,(Or.call (vA [sD (dB r04),sD (dL r14)]) [] [],0,0),[]),(33,(Or.call (vA [sD (dB r05),sD (dL r15)]) [] [],0,0),[]),(35,(Or.none,0,0),[3])] [0,1,2,7,10] [0,1,2,3,4] [.new,.old 0,.new,.new,.old 2,.new,.new,.new,.new,.old 5] <| .r1 [0,1,2,7,10] [0,1,2,3,4] <| .bk 0 [.m (o3.modify (r).toNat (fun qz => qz.set (j).toNat [dB r05,dL r15])),.i (IntKind.i64.wrap (r + (1:Int)))]) (.ret [0,1,2,3]))))
   (by kernel_rfl) (by kernel_rfl) (by kernel_rfl) h
end Go.AM
/- torsionref18.Apply: the operations on a matrix with its transforms. -/
namespace Go.AM
open Go.Proofs.Try
theorem rsub_ok {x y : Int} (hx : Sz x) (hy : Sz y) : FnD prog 151 [eI x, eI y] (eI (x - y)) [] := by
 refine vc151_ok _ _ _ _ (R := Out _) ?_
 unfold vc151
 have hy' : Sz (-y) := by unfold Sz; rw [Int.natAbs_neg]; exact hy
 have h := radd_ok hx hy'
 rw [← Int.sub_eq_add_neg] at h
 exact ⟨_, _, _, _, rneg_ok hy, h, rfl, rfl⟩
def colF (o:Opz) (f:Nat → Nat → Int) (a b:Nat) : Int :=
 if o.k = 1 then (if b = o.i then f a o.j else if b = o.j then f a o.i else f a b)
 else if o.k = 2 then (if b = o.i then - f a b else f a b)
 else if b = o.j then f a b - o.z * f a o.i else f a b
def apC (n:Nat) (o:Opz) (m : List (List Int)) : List (List Int) := table n n (colF o (el m))
def apCL (n:Nat) : List Opz → List (List Int) → List (List Int)
 | [], m => m
 | o :: l, m => apCL n l (apC n o m)
theorem apC_mx (n:Nat) (o:Opz) (m : List (List Int)) : Mx n n (apC n o m) := table_mx _ _ _
theorem apCL_mx {n : Nat} : ∀ (l : List Opz) {m : List (List Int)}, Mx n n m → Mx n n (apCL n l m)
 | [], _, h => h
 | _ :: l, _, _ => apCL_mx l (apC_mx _ _ _)
theorem apCL_append {n : Nat} : ∀ (l l' : List Opz) (m : List (List Int)), apCL n (l ++ l') m = apCL n l' (apCL n l m)
 | [], _, _ => rfl
 | o :: l, l', m => by simp only [List.cons_append, apCL]; exact apCL_append l l' _
theorem apCL_take {n : Nat} {l : List Opz} {m : List (List Int)} {i : Nat} (hi : i < l.length) : apCL n (l.take (i + 1)) m = apC n l[i] (apCL n (l.take i) m) := by
 rw [List.take_add_one, apCL_append, List.getElem?_eq_getElem hi]; rfl
def cP (o:Opz) (f:Nat → Nat → Int) (t:Nat) (a b:Nat) : Int := if a < t then colF o f a b else f a b
theorem cP_zero {n : Nat} {o : Opz} {m : List (List Int)} (hm : Mx n n m) : om m = om (table n n (cP o (el m) 0)) := by
 congr 1
 refine Eq.trans (mx_table hm) (table_congr fun a b _ _ => ?_)
 simp [cP]
theorem cP_all {n : Nat} {o : Opz} {m : List (List Int)} : om (table n n (cP o (el m) n)) = om (apC n o m) := by
 unfold apC
 congr 1
 exact table_congr fun a b ha _ => by unfold cP; rw [if_pos ha]
theorem cP_at {o : Opz} {f:Nat → Nat → Int} {t b : Nat} : cP o f t t b = f t b := by unfold cP; rw [if_neg (by omega)]
theorem cP_one {n : Nat} {o : Opz} {f:Nat → Nat → Int} {t j : Nat} {v : Int} (ht : t < n) (hj : j < n) (hv : colF o f t j = v) (ho : ∀ b, b < n → b ≠ j → colF o f t b = f t b) :
   (om (table n n (cP o f t))).modify t (fun q => q.set j (cI v)) = om (table n n (cP o f (t + 1))) := by
 refine Eq.trans (om_set ht hj) ?_
 congr 1
 refine table_congr fun a b _ hb => ?_
 unfold cP
 by_cases h1 : a = t ∧ b = j
 · rw [if_pos h1, if_pos (by omega), h1.1, h1.2, hv]
 · rw [if_neg h1]
   by_cases h2 : a < t
   · rw [if_pos h2, if_pos (by omega)]
   · rw [if_neg h2]
     by_cases h3 : a = t
     · subst h3
       rw [if_pos (by omega), ho b hb (by omega)]
     · rw [if_neg (by omega)]
def wH (r c:Nat) (m u v : List (List Int)) : Heap :=
 [some (.box [sD (dI r), sD (dI c), .ref 1, sD (dI r), sD (dI r), .ref 2, sD (dI r), sD (dI r), .ref 3]), some (.mat 2 (om m)), some (.mat 2 (om u)), some (.mat 2 (om v))]
theorem start_ok {r c K : Nat} {m : List (List Int)} (hm : Mx r c m) (km : BdM K m) (hr : r ≤ 4294967296) (hc : c ≤ 4294967296) (hK : K ≤ 1329227995784915872903807060280344576) :
   FnO prog 120 [eM r c m] [] (vP 0 0) (wH r c m (table r r delta) (table r r delta)) := by
 refine vc120_ok _ _ _ (R := fun x y => x = vP 0 0 ∧ y = wH r c m (table r r delta) (table r r delta)) ?_
 unfold vc120
 exact ⟨_, _, _, _, _, _, _, _, _, m5copied_ok hm km hr hc hK, rident_ok hr, rident_ok hr, rfl, rfl⟩
theorem swapR_om {r c : Nat} {o : Opz} {m : List (List Int)} (h : vO r o = true) (hk : o.k = 1) (hm : Mx r c m) : swapR (om m) o.i o.j = om (apO r c o m) := by
 obtain ⟨hi, _⟩ := vO_ok h
 have hj := vO_j h (by omega)
 rw [mx_table hm]
 unfold swapR apO
 apply List.ext_getElem?
 intro k
 have hlen : (om (table r c (el m))).length = r := om_len
 have hg : ∀ a, a < r → (om (table r c (el m))).getD a [] = row (tableR c (el m a)) := fun a ha => by
   simp [om, table, ha]
 have hF : ∀ a, a < r → (om (table r c (opF o (el (table r c (el m))))))[a]? = some (row (tableR c (opF o (el (table r c (el m))) a))) := fun a ha => by
   simp [om, table, ha]
 have hE : ∀ a b, a < r → b < c → el (table r c (el m)) a b = el m a b := fun a b ha hb => el_table ha hb
 have hrow : ∀ {f g:Nat → Int}, (∀ b, b < c → f b = g b) → tableR c f = tableR c g := fun hfg => List.map_congr_left fun b hb => hfg b (List.mem_range.1 hb)
 by_cases hkr : k < r
 · rw [hF k hkr, hg _ hi, hg _ hj]
   by_cases e1 : o.j = k
   · subst e1
     rw [List.getElem?_set_self (by simp [hlen]; exact hj)]
     congr 2
     refine hrow fun b hb => ?_
     by_cases e2 : o.j = o.i
     · simp only [opF, hk, if_true, e2]; rw [hE _ _ hi hb]
     · simp only [opF, hk, if_true, if_neg e2]; rw [hE _ _ hi hb]
   · rw [List.getElem?_set_ne e1]
     by_cases e2 : o.i = k
     · subst e2
       rw [List.getElem?_set_self (by rw [hlen]; exact hi)]
       congr 2
       refine hrow fun b hb => ?_
       simp only [opF, hk, if_true]; rw [hE _ _ hj hb]
     · rw [List.getElem?_set_ne e2]
       have : (om (table r c (el m)))[k]? = some (row (tableR c (el m k))) := by simp [om, table, hkr]
       rw [this]
       congr 2
       refine hrow fun b hb => ?_
       simp only [opF, hk, if_true, if_neg (Ne.symm e2), if_neg (Ne.symm e1)]; rw [hE _ _ hkr hb]
 · rw [List.getElem?_eq_none (by simp [hlen]; omega), List.getElem?_eq_none (by rw [om_len]; omega)]
def wHs (r c:Nat) (m u v : List (List Int)) : Heap :=
 [some (.box [sD (dI r), sD (dI c), .ref 4, sD (dI r), sD (dI r), .ref 5, sD (dI r), sD (dI r), .ref 3]), some (.fwd (.ref 4)), some (.fwd (.ref 5)), some (.mat 2 (om v)), some (.mat 2 (om m)), some (.mat 2 (om u))]
theorem wswap_ok {r c : Nat} {o : Opz} {m u v : List (List Int)} (h : vO r o = true) (hk : o.k = 1) (hm : Mx r c m) (hu : Mx r r u) (hv : Mx r r v) (hr : r ≤ 4294967296) :
   FnO prog 121 [vP 0 0, vi o.i, vi o.j] (wH r c m u v) (.tup []) (wHs r c (apO r c o m) (apO r r o u) (apC r o v)) := by
 obtain ⟨hi, hcase⟩ := vO_ok h
 have hj := vO_j h (by omega)
 have hne : o.i ≠ o.j := by
   rcases hcase with h | h | h
   · omega
   · exact h.2.2.1
   · exact h.2.2
 refine vc121_ok _ _ _ _ _ _ _ _ _ _ _ (R := fun x y => x = .tup [] ∧ y = wHs r c (apO r c o m) (apO r r o u) (apC r o v)) ?_
 unfold vc121
 have lm : (om m).length = r := by rw [om_length, hm.1]
 have lu : (om u).length = r := by rw [om_length, hu.1]
 refine ⟨⟨by omega, by omega⟩, ⟨by omega, by omega⟩, rfl, rfl, ⟨by omega, by omega⟩, ⟨by omega, by omega⟩, ?_⟩
 refine ⟨fun a t => ∃ n : Nat, t = (n:Int) ∧ n ≤ r ∧ a = om (table r r (cP o (el v) n)), fun _ t => ((r:Int) - t).toNat, ⟨0, rfl, by omega, cP_zero hv⟩, ?_⟩
 rintro _ _ ⟨n, rfl, hn, rfl⟩
 refine ⟨fun h2 => ?_, fun h2 => ?_⟩
 · have hnr : n < r := by simpa using h2
   have e1 : (om (table r r (cP o (el v) n))).modify (n:Int).toNat (fun q => q.set (o.i:Int).toNat (cI (el v n o.j))) = om (table r r fun a b => if a = n ∧ b = o.i then el v n o.j else cP o (el v) n a b) := by
     rw [Int.toNat_natCast, Int.toNat_natCast]; exact om_set hnr hi
   have e2 : cP o (el v) n (n:Int).toNat (o.i:Int).toNat = el v n o.i := by rw [Int.toNat_natCast, Int.toNat_natCast]; exact cP_at
   have e3 : cP o (el v) n (n:Int).toNat (o.j:Int).toNat = el v n o.j := by rw [Int.toNat_natCast, Int.toNat_natCast]; exact cP_at
   have a1 := at2_om (r := r) (c := r) (g := cP o (el v) n) (i := (n:Int).toNat) (j := (o.i:Int).toNat) (by omega) (by omega)
   have a2 := at2_om (r := r) (c := r) (g := cP o (el v) n) (i := (n:Int).toNat) (j := (o.j:Int).toNat) (by omega) (by omega)
   rw [e2] at a1
   rw [e3] at a2
   refine ⟨_, _, ⟨by omega, by rw [om_len]; omega⟩, om_in hnr hi, a1, _, _, om_in hnr hj, a2, ?_⟩
   have e1' : (om (table r r (cP o (el v) n))).modify (n:Int).toNat (fun q => q.set (o.i:Int).toNat [dB (decide (el v n o.j < 0)), dL (lim (digs (el v n o.j).natAbs))]) = om (table r r fun a b => if a = n ∧ b = o.i then el v n o.j else cP o (el v) n a b) := e1
   rw [e1', inc64 (by omega)]
   refine ⟨⟨by omega, by rw [om_len]; omega⟩, om_in hnr hj, ⟨n + 1, rfl, by omega, ?_⟩, by show ((r:Int) - ((n + 1:Nat) : Int)).toNat < ((r:Int) - (n:Int)).toNat; omega⟩
   rw [Int.toNat_natCast, Int.toNat_natCast]
   refine Eq.trans (om_set hnr hj) ?_
   congr 1
   refine table_congr fun a b _ _ => ?_
   unfold cP colF
   simp only [hk, if_true]
   by_cases ha : a = n
   · subst ha
     by_cases hb : b = o.j
     · subst hb
       simp [Ne.symm hne]
     · by_cases hb' : b = o.i
       · subst hb'; simp [hne]
       · simp [hb, hb']
   · by_cases ha' : a < n
     · simp [ha, ha', show a < n + 1 by omega]
     · simp [ha, ha', show ¬ a < n + 1 by omega]
 · have hnr : n = r := by have : r ≤ n := by simpa using h2
                          omega
   subst hnr
   rw [Int.toNat_natCast, Int.toNat_natCast, swapR_om h hk hm, swapR_om h hk hu, cP_all]
   exact ⟨rfl, rfl⟩
end Go.AM
