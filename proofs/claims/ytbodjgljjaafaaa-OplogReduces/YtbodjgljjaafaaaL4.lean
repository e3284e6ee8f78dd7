/- What functions of the program come to: group R5. Printed by vc.py. -/
import Derived.Test.YtbodjgljjaafaaaL3
import Derived.ChangeSlices
import Derived.OpenShut
import Derived.RowKit
import Derived.WideShapes
set_option maxRecDepth 100000
set_option linter.unusedVariables false
namespace Go.AM
open Go.Proofs.Try
def vc33 (rows cols:Int) (R:V → Heap → Prop) : Prop :=
 ∃ (J0 : (DLL) → Int → Prop) (μ0 : (DLL) → Int → Nat),
 J0 ([] : DLL) (0:Int) ∧ ∀ (a : DLL) (i:Int),J0 a i →
 (decide (i < rows) = true →
 (0 ≤ cols ∧ cols ≤ cols ∧ cols * (32:Nat) ≤ 281474976710656) ∧
 ((a.length + ([List.replicate (cols).toNat [dB false,dL ([] : DL)]] : DLL).length) * 24 ≤ 140737488355328) ∧
 (J0 (a ++ [List.replicate (cols).toNat [dB false,dL ([] : DL)]]) (IntKind.i64.wrap (i + (1:Int))) ∧ μ0 (a ++ [List.replicate (cols).toNat [dB false,dL ([] : DL)]]) (IntKind.i64.wrap (i + (1:Int))) < μ0 a i)) ∧
 (decide (i < rows) = false →
 R (vA [sD (dI rows),sD (dI cols),S.ref 0]) [some (Obj.mat 2 a)])
theorem vc33_ok (rows cols:Int) {R:V → Heap → Prop} (h : vc33 rows cols R) : FnG prog 33 [vD (dI rows),vD (dI cols)] [] R :=
 FnG.vcg hT func33 ntmps33 (.reg 1 [(0,Or.none,0,1)] [0,1,4] [0] [] <| .reg 1 [(0,Or.bool true,1,1)] [0,1,4,5] [0,1] [] <| .r1 [0,1,4,5,6] [0,1] <| .lp [.m,.i] (fun a i => ⟨[(0,vD (dI rows)),(1,vD (dI cols)),(4,vP 0 0),(5,vR 1),(6,vD (dI i))],[some (Obj.box [sD (dI (0:Int)),sD (dI (0:Int)),sD (D.raw (.slice none 0 0))]),some (Obj.mat 2 a)],22⟩) [.m ([] : DLL),.i (0:Int)] <| .fm fun a => .fi fun i => .beg <| .r1 [0,1,4,5,6,10] [0,1] <| .c2 (.reg 3 [(2,Or.none,2,1),(3,Or.bool true,3,1),(4,Or.none,4,1)] [0,1,4,5,6] [0,4] [] <| .r1 [0,1,4,5,6] [0,1] <| .bk 0 [.m (a ++ [List.replicate (cols).toNat [dB false,dL ([] : DL)]]),.i (IntKind.i64.wrap (i + (1:Int)))]) (.r1 [4] [0,1] <| .ret [1]))
   (by kernel_rfl) (by kernel_rfl) (by kernel_rfl) h
def vc49 (n:Int) (R:V → Heap → Prop) : Prop :=
 ∃ (r0 r1:Int) (rrows : DLL),
 (FnD prog 33 [vD (dI n),vD (dI n)] (vA [sD (dI r0),sD (dI r1),S.ref 0]) [some (Obj.mat 2 rrows)]) ∧
 (∃ (J0 : (DLL) → Int → Prop) (μ0 : (DLL) → Int → Nat),
 J0 rrows (0:Int) ∧ ∀ (o2 : DLL) (i:Int),J0 o2 i →
 (decide (i < n) = true →
 ∃ (r01:Bool) (r11 : DL),
 (0 ≤ i ∧ i < (o2.length:Int)) ∧
 (FnD prog 16 [vD (dI (1:Int))] (vA [sD (dB r01),sD (dL r11)]) []) ∧
 (∃ l,o2[(i).toNat]? = some l ∧ 0 ≤ i ∧ i < (l.length:Int)) ∧
 (J0 (o2.modify (i).toNat (fun qz => qz.set (i).toNat [dB r01,dL r11])) (IntKind.i64.wrap (i + (1:Int))) ∧ μ0 (o2.modify (i).toNat (fun qz => qz.set (i).toNat [dB r01,dL r11])) (IntKind.i64.wrap (i + (1:Int))) < μ0 o2 i)) ∧
 (decide (i < n) = false →
 R (vA [sD (dI r0),sD (dI r1),S.ref 0]) [some (Obj.mat 2 o2)]))
theorem vc49_ok (n:Int) {R:V → Heap → Prop} (h : vc49 n R) : FnG prog 49 [vD (dI n)] [] R :=
 FnG.vcg hT func49 ntmps49 (.reg 1 [(0,Or.none,0,1)] [0,2] [0] [] <| .ex fun r0 => .ex fun r1 => .exm fun rrows => .reg 2 [(2,Or.call (vA [sD (dI r0),sD (dI r1),S.ref 0]) [some (Obj.mat 2 rrows)] [],1,1),(3,Or.none,2,1)] [0,2,3] [0,2,1] [] <| .r1 [0,2,3,4] [0,1,2] <| .lp [.m,.i] (fun o2 i => ⟨[(0,vD (dI n)),(2,vP 0 0),(3,vP 1 0),(4,vD (dI i))],[some (Obj.box [sD (dI (0:Int)),sD (dI (0:Int)),sD (D.raw (.slice none 0 0))]),some (Obj.box [sD (dI r0),sD (dI r1),S.ref 2]),some (Obj.mat 2 o2)],22⟩) [.m rrows,.i (0:Int)] <| .fm fun o2 => .fi fun i => .beg <| .r1 [0,2,3,4,10] [0,1,2] <| .c2 (.exb fun r01 => .exl fun r11 => .drw 0 [(6,(Or.call (vA [sD (dB r01),sD (dL r11)]) [] [],0,0),[]),(8,(Or.none,0,0),[2])] [0,2,3,4] [0,1,2] [] <| .r1 [0,2,3,4] [0,1,2] <| .bk 0 [.m (o2.modify (i).toNat (fun qz => qz.set (i).toNat [dB r01,dL r11])),.i (IntKind.i64.wrap (i + (1:Int)))]) (.r1 [2] [0,2] <| .ret [1]))
   (by kernel_rfl) (by kernel_rfl) (by kernel_rfl) h
def vc37 (a b : DL) (R:V → Heap → Prop) : Prop :=
 (((a.length:Int) != (b.length:Int)) = true →
 R (vD (dB false)) []) ∧
 (((a.length:Int) != (b.length:Int)) = false →
 ∃ (J0:Int → Prop) (μ0:Int → Nat),
 J0 (0:Int) ∧ ∀ (i:Int),J0 i →
 (decide (i < (a.length:Int)) = true →
 ∃ (x0:Bool) (x1 : DL) (x01:Bool) (x11 : DL) (r:Bool),
 (0 ≤ i ∧ i < (a.length:Int)) ∧
 (a[(i).toNat]? = some [dB x0,dL x1]) ∧
 (0 ≤ i ∧ i < (b.length:Int)) ∧
 (b[(i).toNat]? = some [dB x01,dL x11]) ∧
 (FnD prog 40 [vA [sD (dB x0),sD (dL x1)],vA [sD (dB x01),sD (dL x11)]] (vD (dB r)) []) ∧
 (((!r) = true →
 R (vD (dB false)) []) ∧
 ((!r) = false →
 J0 (IntKind.i64.wrap (i + (1:Int))) ∧ μ0 (IntKind.i64.wrap (i + (1:Int))) < μ0 i))) ∧
 (decide (i < (a.length:Int)) = false →
 R (vD (dB true)) []))
theorem vc37_ok (a b : DL) {R:V → Heap → Prop} (h : vc37 a b R) : FnG prog 37 [vD (dL a),vD (dL b)] [] R :=
 FnG.vcg hT func37 ntmps37 (.r0 [0,1] <| .r0 [0,1,10] <| .c2 (.r0 [4] <| .ret []) (.r0 [0,1,5] <| .lp [.i] (fun i => ⟨[(0,vD (dL a)),(1,vD (dL b)),(5,vD (dI i))],[],27⟩) [.i (0:Int)] <| .fi fun i => .beg <| .r0 [0,1,5,14] <| .c2 (.exb fun x0 => .exl fun x1 => .exb fun x01 => .exl fun x11 => .exb fun r => .drw 0 [(3,(Or.cells [dB x0,dL x1],0,0),[]),(7,(Or.cells [dB x01,dL x11],0,0),[]),(8,(Or.call (vD (dB r)) [] [],0,0),[])] [0,1,5,26] [] [] <| .c2 (.r0 [4] <| .ret []) (.r0 [0,1,5] <| .bk 0 [.i (IntKind.i64.wrap (i + (1:Int)))])) (.r0 [4] <| .ret [])))
   (by kernel_rfl) (by kernel_rfl) (by kernel_rfl) h
def vc23 (a0 a1:Int) (a2 : DL) (b0 b1:Int) (b2 : DL) (R:V → Heap → Prop) : Prop :=
 ((a0 != b0) = true →
 R (vD (dB false)) []) ∧
 ((a0 != b0) = false →
 ((a1 != b1) = true →
 R (vD (dB false)) []) ∧
 ((a1 != b1) = false →
 (((a2.length:Int) != (b2.length:Int)) = true →
 R (vD (dB false)) []) ∧
 (((a2.length:Int) != (b2.length:Int)) = false →
 ∃ (J0:Int → Prop) (μ0:Int → Nat),
 J0 (0:Int) ∧ ∀ (i:Int),J0 i →
 (decide (i < (a2.length:Int)) = true →
 ∃ (vx vx1 : DL) (r:Bool),
 (0 ≤ i ∧ i < (a2.length:Int)) ∧
 (a2[(i).toNat]? = some [dL vx]) ∧
 (0 ≤ i ∧ i < (b2.length:Int)) ∧
 (b2[(i).toNat]? = some [dL vx1]) ∧
 (FnD prog 37 [vD (dL vx),vD (dL vx1)] (vD (dB r)) []) ∧
 (((!r) = true →
 R (vD (dB false)) []) ∧
 ((!r) = false →
 J0 (IntKind.i64.wrap (i + (1:Int))) ∧ μ0 (IntKind.i64.wrap (i + (1:Int))) < μ0 i))) ∧
 (decide (i < (a2.length:Int)) = false →
 R (vD (dB true)) []))))
theorem vc23_ok (a0 a1:Int) (a2 : DL) (b0 b1:Int) (b2 : DL) {R:V → Heap → Prop} (h : vc23 a0 a1 a2 b0 b1 b2 R) : FnG prog 23 [vA [sD (dI a0),sD (dI a1),sD (dL a2)],vA [sD (dI b0),sD (dI b1),sD (dL b2)]] [] R :=
 FnG.vcg hT func23 ntmps23 (.reg 2 [(0,Or.none,0,1),(1,Or.none,1,1)] [2,3] [0,1] [] <| .spl ((a0 != b0)) (.reg 0 [(5,Or.bool true,0,0)] [2,3,26] [0,1] [.old 0] <| .ct true none <| .r0 [4] <| .ret []) (.spl ((a1 != b1)) (.reg 0 [(5,Or.bool false,0,0),(12,Or.bool true,0,0)] [2,3,26] [0,1] [.old 1,.old 0] <| .ct true none <| .r0 [4] <| .ret []) (.reg 0 [(5,Or.bool false,0,0),(12,Or.bool false,0,0)] [2,3,26] [0,1] [.old 1,.old 0] <| .c2 (.r0 [4] <| .ret []) (.r1 [2,3,5] [0,1] <| .lp [.i] (fun i => ⟨[(2,vP 0 0),(3,vP 1 0),(5,vD (dI i))],[some (Obj.box [sD (dI a0),sD (dI a1),sD (dL a2)]),some (Obj.box [sD (dI b0),sD (dI b1),sD (dL b2)])],46⟩) [.i (0:Int)] <| .fi fun i => .beg <| .r1 [2,3,5,31] [0,1] <| .c2 (.exl fun vx => .exl fun vx1 => .exb fun r => .drw 0 [(4,(Or.cells [dL vx],0,0),[]),(9,(Or.cells [dL vx1],0,0),[]),(10,(Or.call (vD (dB r)) [] [],0,0),[])] [2,3,5,45] [0,1] [] <| .c2 (.r0 [4] <| .ret []) (.r1 [2,3,5] [0,1] <| .bk 0 [.i (IntKind.i64.wrap (i + (1:Int)))])) (.r0 [4] <| .ret [])))))
   (by kernel_rfl) (by kernel_rfl) (by kernel_rfl) h
def vc64 (a0 a1:Int) (a2 : DL) (k0:Bool) (k1 : DL) (R:V → Heap → Prop) : Prop :=
 ∃ (r0 r1:Int) (rrows : DLL),
 (FnD prog 33 [vD (dI a0),vD (dI a1)] (vA [sD (dI r0),sD (dI r1),S.ref 0]) [some (Obj.mat 2 rrows)]) ∧
 (∃ (J0 : (DLL) → Int → Prop) (μ0 : (DLL) → Int → Nat),
 J0 rrows (0:Int) ∧ ∀ (o4 : DLL) (i:Int),J0 o4 i →
 (decide (i < a0) = true →
 ∃ (J1 : (DLL) → Int → Prop) (μ1 : (DLL) → Int → Nat),
 J1 o4 (0:Int) ∧ ∀ (o41 : DLL) (j:Int),J1 o41 j →
 (decide (j < a1) = true →
 ∃ (vx : DL) (x0:Bool) (x1 : DL) (r01:Bool) (r11 : DL),
 (0 ≤ i ∧ i < (o41.length:Int)) ∧
 (0 ≤ i ∧ i < (a2.length:Int)) ∧
 (a2[(i).toNat]? = some [dL vx]) ∧
 (0 ≤ j ∧ j < (vx.length:Int)) ∧
 (vx[(j).toNat]? = some [dB x0,dL x1]) ∧
 (FnD prog 110 [vA [sD (dB x0),sD (dL x1)],vA [sD (dB k0),sD (dL k1)]] (vA [sD (dB r01),sD (dL r11)]) []) ∧
 (∃ l,o41[(i).toNat]? = some l ∧ 0 ≤ j ∧ j < (l.length:Int)) ∧
 (J1 (o41.modify (i).toNat (fun qz => qz.set (j).toNat [dB r01,dL r11])) (IntKind.i64.wrap (j + (1:Int))) ∧ μ1 (o41.modify (i).toNat (fun qz => qz.set (j).toNat [dB r01,dL r11])) (IntKind.i64.wrap (j + (1:Int))) < μ1 o41 j)) ∧
 (decide (j < a1) = false →
 J0 o41 (IntKind.i64.wrap (i + (1:Int))) ∧ μ0 o41 (IntKind.i64.wrap (i + (1:Int))) < μ0 o4 i)) ∧
 (decide (i < a0) = false →
 R (vA [sD (dI r0),sD (dI r1),S.ref 0]) [some (Obj.mat 2 o4)]))
theorem vc64_ok (a0 a1:Int) (a2 : DL) (k0:Bool) (k1 : DL) {R:V → Heap → Prop} (h : vc64 a0 a1 a2 k0 k1 R) : FnG prog 64 [vA [sD (dI a0),sD (dI a1),sD (dL a2)],vA [sD (dB k0),sD (dL k1)]] [] R :=
 FnG.vcg hT func64 ntmps64 (.reg 3 [(0,Or.none,0,1),(1,Or.none,1,1),(2,Or.none,2,1)] [2,3,4] [0,1,2] [] <| .ex fun r0 => .ex fun r1 => .exm fun rrows => .reg 2 [(4,Or.call (vA [sD (dI r0),sD (dI r1),S.ref 0]) [some (Obj.mat 2 rrows)] [],3,1),(5,Or.none,4,1)] [2,3,4,5] [0,1,2,4,3] [] <| .r1 [2,3,4,5,6] [0,1,2,3,4] <| .lp [.m,.i] (fun o4 i => ⟨[(2,vP 0 0),(3,vP 1 0),(4,vP 2 0),(5,vP 3 0),(6,vD (dI i))],[some (Obj.box [sD (dI a0),sD (dI a1),sD (dL a2)]),some (Obj.box [sD (dB k0),sD (dL k1)]),some (Obj.box [sD (dI (0:Int)),sD (dI (0:Int)),sD (D.raw (.slice none 0 0))]),some (Obj.box [sD (dI r0),sD (dI r1),S.ref 4]),some (Obj.mat 2 o4)],43⟩) [.m rrows,.i (0:Int)] <| .fm fun o4 => .fi fun i => .beg <| .r1 [2,3,4,5,6,16] [0,1,2,3,4] <| .c2 (.r1 [2,3,4,5,6,7] [0,1,2,3,4] <| .lp [.m,.i] (fun o41 j => ⟨[(2,vP 0 0),(3,vP 1 0),(4,vP 2 0),(5,vP 3 0),(6,vD (dI i)),(7,vD (dI j))],[some (Obj.box [sD (dI a0),sD (dI a1),sD (dL a2)]),some (Obj.box [sD (dB k0),sD (dL k1)]),some (Obj.box [sD (dI (0:Int)),sD (dI (0:Int)),sD (D.raw (.slice none 0 0))]),some (Obj.box [sD (dI r0),sD (dI r1),S.ref 4]),some (Obj.mat 2 o41)],43⟩) [.m o4,.i (0:Int)] <| .fm fun o41 => .fi fun j => .beg <| .r1 [2,3,4,5,6,7,22] [0,1,2,3,4] <| .c2 (.exl fun vx => .exb fun x0 => .exl fun x1 => .exb fun r01 => .exl fun r11 => .drw 0 [(10,(Or.cells [dL vx],0,0),[]),(13,(Or.cells [dB x0,dL x1],0,0),[]),(15,(Or.call (vA [sD (dB r01),sD (dL r11)]) [] [],0,0),[]),(17,(Or.none,0,0),[4])] [2,3,4,5,6,7] [0,1,2,3,4] [] <| .r1 [2,3,4,5,6,7] [0,1,2,3,4] <| .bk 0 [.m (o41.modify (i).toNat (fun qz => qz.set (j).toNat [dB r01,dL r11])),.i (IntKind.i64.wrap (j + (1:Int)))]) (.r1 [2,3,4,5,6] [0,1,2,3,4] <| .bk 1 [.m o41,.i (IntKind.i64.wrap (i + (1:Int)))])) (.r1 [4] [2,4] <| .ret [1]))
   (by kernel_rfl) (by kernel_rfl) (by kernel_rfl) h
def vc66 (a0 a1:Int) (a2 : DL) (R:V → Heap → Prop) : Prop :=
 ∃ (r0:Bool) (r1 : DL) (r01 r11:Int) (rrows : DLL),
 (FnD prog 16 [vD (dI (1:Int))] (vA [sD (dB r0),sD (dL r1)]) []) ∧
 (FnD prog 64 [vA [sD (dI a0),sD (dI a1),sD (dL a2)],vA [sD (dB r0),sD (dL r1)]] (vA [sD (dI r01),sD (dI r11),S.ref 0]) [some (Obj.mat 2 rrows)]) ∧
 (R (vA [sD (dI r01),sD (dI r11),S.ref 0]) [some (Obj.mat 2 rrows)])
theorem vc66_ok (a0 a1:Int) (a2 : DL) {R:V → Heap → Prop} (h : vc66 a0 a1 a2 R) : FnG prog 66 [vA [sD (dI a0),sD (dI a1),sD (dL a2)]] [] R :=
 FnG.vcg hT func66 ntmps66 (.reg 2 [(0,Or.none,0,1),(1,Or.none,1,1)] [1,2] [0,1] [] <| .exb fun r0 => .exl fun r1 => .ex fun r01 => .ex fun r11 => .exm fun rrows => .drw 1 [(1,(Or.call (vA [sD (dB r0),sD (dL r1)]) [] [],0,0),[]),(2,(Or.call (vA [sD (dI r01),sD (dI r11),S.ref 0]) [some (Obj.mat 2 rrows)] [],2,1),[2]),(3,(Or.none,0,0),[1])] [2] [1,2] [] <| .ret [1])
   (by kernel_rfl) (by kernel_rfl) (by kernel_rfl) h
def vc24 (rows cols:Int) (v : DL) (R:V → Heap → Prop) : Prop :=
 ∃ (r0 r1:Int) (rrows : DLL),
 (FnD prog 33 [vD (dI (if (16:Int) < (if (0:Int) > rows then (0:Int) else rows) then (16:Int) else (if (0:Int) > rows then (0:Int) else rows))),vD (dI (if (16:Int) < (if (0:Int) > cols then (0:Int) else cols) then (16:Int) else (if (0:Int) > cols then (0:Int) else cols)))] (vA [sD (dI r0),sD (dI r1),S.ref 0]) [some (Obj.mat 2 rrows)]) ∧
 (∃ (J0 : (DLL) → Int → Prop) (μ0 : (DLL) → Int → Nat),
 J0 rrows (0:Int) ∧ ∀ (o2 : DLL) (i:Int),J0 o2 i →
 (decide (i < r0) = true →
 ∃ (J1 : (DLL) → Int → Prop) (μ1 : (DLL) → Int → Nat),
 J1 o2 (0:Int) ∧ ∀ (o21 : DLL) (j:Int),J1 o21 j →
 (decide (j < r1) = true →
 ((decide ((IntKind.i64.wrap ((IntKind.i64.wrap (i * r1)) + j)) < (v.length:Int))) = true →
 ∃ (vx:Int) (r01:Bool) (r11 : DL),
 (0 ≤ i ∧ i < (o21.length:Int)) ∧
 (0 ≤ (IntKind.i64.wrap ((IntKind.i64.wrap (i * r1)) + j)) ∧ (IntKind.i64.wrap ((IntKind.i64.wrap (i * r1)) + j)) < (v.length:Int)) ∧
 (v[((IntKind.i64.wrap ((IntKind.i64.wrap (i * r1)) + j))).toNat]? = some [D.int .i8 vx]) ∧
 ((10:Int) ≠ 0) ∧
 (FnD prog 16 [vD (dI (IntKind.i64.wrap (vx.tmod (10:Int))))] (vA [sD (dB r01),sD (dL r11)]) []) ∧
 (∃ l,o21[(i).toNat]? = some l ∧ 0 ≤ j ∧ j < (l.length:Int)) ∧
 (J1 (o21.modify (i).toNat (fun qz => qz.set (j).toNat [dB r01,dL r11])) (IntKind.i64.wrap (j + (1:Int))) ∧ μ1 (o21.modify (i).toNat (fun qz => qz.set (j).toNat [dB r01,dL r11])) (IntKind.i64.wrap (j + (1:Int))) < μ1 o21 j)) ∧
 ((decide ((IntKind.i64.wrap ((IntKind.i64.wrap (i * r1)) + j)) < (v.length:Int))) = false →
 J0 o21 (IntKind.i64.wrap (i + (1:Int))) ∧ μ0 o21 (IntKind.i64.wrap (i + (1:Int))) < μ0 o2 i)) ∧
 (decide (j < r1) = false →
 J0 o21 (IntKind.i64.wrap (i + (1:Int))) ∧ μ0 o21 (IntKind.i64.wrap (i + (1:Int))) < μ0 o2 i)) ∧
 (decide (i < r0) = false →
 R (vA [sD (dI r0),sD (dI r1),S.ref 0]) [some (Obj.mat 2 o2)]))
theorem vc24_ok (rows cols:Int) (v : DL) {R:V → Heap → Prop} (h : vc24 rows cols v R) : FnG prog 24 [vD (dI rows),vD (dI cols),vD (dL v)] [] R :=
 FnG.vcg hT func24 ntmps24 (.reg 1 [(0,Or.none,0,1)] [0,1,2,6] [0] [] <| .ex fun r0 => .ex fun r1 => .exm fun rrows => .reg 2 [(6,Or.call (vA [sD (dI r0),sD (dI r1),S.ref 0]) [some (Obj.mat 2 rrows)] [],1,1),(7,Or.none,2,1)] [2,6,7] [0,2,1] [] <| .r1 [2,6,7,8] [0,1,2] <| .lp [.m,.i] (fun o2 i => ⟨[(2,vD (dL v)),(6,vP 0 0),(7,vP 1 0),(8,vD (dI i))],[some (Obj.box [sD (dI (0:Int)),sD (dI (0:Int)),sD (D.raw (.slice none 0 0))]),some (Obj.box [sD (dI r0),sD (dI r1),S.ref 2]),some (Obj.mat 2 o2)],60⟩) [.m rrows,.i (0:Int)] <| .fm fun o2 => .fi fun i => .beg <| .r1 [2,6,7,8,20] [0,1,2] <| .c2 (.r1 [2,6,7,8,9] [0,1,2] <| .lp [.m,.i] (fun o21 j => ⟨[(2,vD (dL v)),(6,vP 0 0),(7,vP 1 0),(8,vD (dI i)),(9,vD (dI j))],[some (Obj.box [sD (dI (0:Int)),sD (dI (0:Int)),sD (D.raw (.slice none 0 0))]),some (Obj.box [sD (dI r0),sD (dI r1),S.ref 2]),some (Obj.mat 2 o21)],60⟩) [.m o2,.i (0:Int)] <| .fm fun o21 => .fi fun j => .beg <| .spl ((decide (j < r1))) (.reg 0 [(4,Or.bool true,0,0)] [2,6,7,8,9,37] [0,1,2] [.old 0] <| .c2 (.ex fun vx => .exb fun r01 => .exl fun r11 => .drw 0 [(14,(Or.cells [D.int .i8 vx],0,0),[]),(17,(Or.call (vA [sD (dB r01),sD (dL r11)]) [] [],0,0),[]),(19,(Or.none,0,0),[2])] [2,6,7,8,9] [0,1,2] [] <| .r1 [2,6,7,8,9] [0,1,2] <| .bk 0 [.m (o21.modify (i).toNat (fun qz => qz.set (j).toNat [dB r01,dL r11])),.i (IntKind.i64.wrap (j + (1:Int)))]) (.r1 [2,6,7,8] [0,1,2] <| .bk 1 [.m o21,.i (IntKind.i64.wrap (i + (1:Int)))])) (.reg 0 [(4,Or.bool false,0,0)] [2,6,7,8,9,37] [0,1,2] [.old 0] <| .ct false none <| .r1 [2,6,7,8] [0,1,2] <| .bk 1 [.m o21,.i (IntKind.i64.wrap (i + (1:Int)))])) (.r1 [6] [0,2] <| .ret [1]))
   (by kernel_rfl) (by kernel_rfl) (by kernel_rfl) h
def vc15 (x0 x1:Int) (x2 : DL) (R:V → Heap → Prop) : Prop :=
 ∃ (r0 r1:Int) (rrows : DLL),
 ((5:Int) ≠ 0) ∧
 (FnD prog 24 [vD (dI (IntKind.i64.wrap (x0.tmod (5:Int)))),vD (dI (IntKind.i64.wrap (x1.tmod (5:Int)))),vD (dL x2)] (vA [sD (dI r0),sD (dI r1),S.ref 0]) [some (Obj.mat 2 rrows)]) ∧
 (R (vA [sD (dI r0),sD (dI r1),S.ref 0]) [some (Obj.mat 2 rrows)])
theorem vc15_ok (x0 x1:Int) (x2 : DL) {R:V → Heap → Prop} (h : vc15 x0 x1 x2 R) : FnG prog 15 [vA [sD (D.int .u8 x0),sD (D.int .u8 x1),sD (dL x2)]] [] R :=
 FnG.vcg hT func15 ntmps15 (.reg 2 [(0,Or.none,0,1),(1,Or.none,1,1)] [1,2] [0,1] [] <| .ex fun r0 => .ex fun r1 => .exm fun rrows => .reg 1 [(10,Or.call (vA [sD (dI r0),sD (dI r1),S.ref 0]) [some (Obj.mat 2 rrows)] [],2,1)] [2] [1,2] [.new,.old 0] <| .ret [1])
   (by kernel_rfl) (by kernel_rfl) (by kernel_rfl) h
def vc70 (rows cols:Int) (l : DL) (R:V → Heap → Prop) : Prop :=
 ∃ (r0 r1:Int) (rrows : DLL),
 (FnD prog 33 [vD (dI rows),vD (dI cols)] (vA [sD (dI r0),sD (dI r1),S.ref 0]) [some (Obj.mat 2 rrows)]) ∧
 (∃ (J0 : (DLL) → Int → Prop) (μ0 : (DLL) → Int → Nat),
 J0 rrows (0:Int) ∧ ∀ (o2 : DLL) (i:Int),J0 o2 i →
 (decide (i < rows) = true →
 ∃ (J1 : (DLL) → Int → Prop) (μ1 : (DLL) → Int → Nat),
 J1 o2 (0:Int) ∧ ∀ (o21 : DLL) (j:Int),J1 o21 j →
 (decide (j < cols) = true →
 ((decide ((IntKind.i64.wrap ((IntKind.i64.wrap (i * cols)) + j)) < (l.length:Int))) = true →
 ∃ (vx:Int) (r01:Bool) (r11 : DL),
 (0 ≤ i ∧ i < (o21.length:Int)) ∧
 (0 ≤ (IntKind.i64.wrap ((IntKind.i64.wrap (i * cols)) + j)) ∧ (IntKind.i64.wrap ((IntKind.i64.wrap (i * cols)) + j)) < (l.length:Int)) ∧
 (l[((IntKind.i64.wrap ((IntKind.i64.wrap (i * cols)) + j))).toNat]? = some [dI vx]) ∧
 (FnD prog 16 [vD (dI vx)] (vA [sD (dB r01),sD (dL r11)]) []) ∧
 (∃ l,o21[(i).toNat]? = some l ∧ 0 ≤ j ∧ j < (l.length:Int)) ∧
 (J1 (o21.modify (i).toNat (fun qz => qz.set (j).toNat [dB r01,dL r11])) (IntKind.i64.wrap (j + (1:Int))) ∧ μ1 (o21.modify (i).toNat (fun qz => qz.set (j).toNat [dB r01,dL r11])) (IntKind.i64.wrap (j + (1:Int))) < μ1 o21 j)) ∧
 ((decide ((IntKind.i64.wrap ((IntKind.i64.wrap (i * cols)) + j)) < (l.length:Int))) = false →
 J0 o21 (IntKind.i64.wrap (i + (1:Int))) ∧ μ0 o21 (IntKind.i64.wrap (i + (1:Int))) < μ0 o2 i)) ∧
 (decide (j < cols) = false →
 J0 o21 (IntKind.i64.wrap (i + (1:Int))) ∧ μ0 o21 (IntKind.i64.wrap (i + (1:Int))) < μ0 o2 i)) ∧
 (decide (i < rows) = false →
 R (vA [sD (dI r0),sD (dI r1),S.ref 0]) [some (Obj.mat 2 o2)]))
theorem vc70_ok (rows cols:Int) (l : DL) {R:V → Heap → Prop} (h : vc70 rows cols l R) : FnG prog 70 [vD (dI rows),vD (dI cols),vD (dL l)] [] R :=
 FnG.vcg hT func70 ntmps70 (.reg 1 [(0,Or.none,0,1)] [0,1,2,6] [0] [] <| .ex fun r0 => .ex fun r1 => .exm fun rrows => .reg 2 [(2,Or.call (vA [sD (dI r0),sD (dI r1),S.ref 0]) [some (Obj.mat 2 rrows)] [],1,1),(3,Or.none,2,1)] [0,1,2,6,7] [0,2,1] [] <| .r1 [0,1,2,6,7,8] [0,1,2] <| .lp [.m,.i] (fun o2 i => ⟨[(0,vD (dI rows)),(1,vD (dI cols)),(2,vD (dL l)),(6,vP 0 0),(7,vP 1 0),(8,vD (dI i))],[some (Obj.box [sD (dI (0:Int)),sD (dI (0:Int)),sD (D.raw (.slice none 0 0))]),some (Obj.box [sD (dI r0),sD (dI r1),S.ref 2]),some (Obj.mat 2 o2)],50⟩) [.m rrows,.i (0:Int)] <| .fm fun o2 => .fi fun i => .beg <| .r1 [0,1,2,6,7,8,15] [0,1,2] <| .c2 (.r1 [0,1,2,6,7,8,9] [0,1,2] <| .lp [.m,.i] (fun o21 j => ⟨[(0,vD (dI rows)),(1,vD (dI cols)),(2,vD (dL l)),(6,vP 0 0),(7,vP 1 0),(8,vD (dI i)),(9,vD (dI j))],[some (Obj.box [sD (dI (0:Int)),sD (dI (0:Int)),sD (D.raw (.slice none 0 0))]),some (Obj.box [sD (dI r0),sD (dI r1),S.ref 2]),some (Obj.mat 2 o21)],50⟩) [.m o2,.i (0:Int)] <| .fm fun o21 => .fi fun j => .beg <| .spl ((decide (j < cols))) (.reg 0 [(3,Or.bool true,0,0)] [0,1,2,6,7,8,9,30] [0,1,2] [.old 0] <| .c2 (.ex fun vx => .exb fun r01 => .exl fun r11 => .drw 0 [(13,(Or.cells [dI vx],0,0),[]),(14,(Or.call (vA [sD (dB r01),sD (dL r11)]) [] [],0,0),[]),(16,(Or.none,0,0),[2])] [0,1,2,6,7,8,9] [0,1,2] [] <| .r1 [0,1,2,6,7,8,9] [0,1,2] <| .bk 0 [.m (o21.modify (i).toNat (fun qz => qz.set (j).toNat [dB r01,dL r11])),.i (IntKind.i64.wrap (j + (1:Int)))]) (.r1 [0,1,2,6,7,8] [0,1,2] <| .bk 1 [.m o21,.i (IntKind.i64.wrap (i + (1:Int)))])) (.reg 0 [(3,Or.bool false,0,0)] [0,1,2,6,7,8,9,30] [0,1,2] [.old 0] <| .ct false none <| .r1 [0,1,2,6,7,8] [0,1,2] <| .bk 1 [.m o21,.i (IntKind.i64.wrap (i + (1:Int)))])) (.r1 [6] [0,2] <| .ret [1]))
   (by kernel_rfl) (by kernel_rfl) (by kernel_rfl) h
end Go.AM
/- What the functions of package matrix, and of its reference, answer: tables, validity, comparing. -/
namespace Go.AM
open Go.Proofs.Try
def Mx (r c:Nat) (m : List (List Int)) : Prop := m.length = r ∧ ∀ x ∈ m, x.length = c
def SzR (r : List Int) : Prop := ∀ z ∈ r, Sz z
def SzM (m : List (List Int)) : Prop := ∀ r ∈ m, SzR r
def tableR (c:Nat) (g:Nat → Int) : List Int := (List.range c).map g
def table (r c:Nat) (g:Nat → Nat → Int) : List (List Int) := (List.range r).map fun i => tableR c (g i)
theorem table_mx (r c:Nat) (g:Nat → Nat → Int) : Mx r c (table r c g) := ⟨by simp [table], fun x hx => by
 simp only [table, List.mem_map] at hx
 obtain ⟨i, _, rfl⟩ := hx; simp [tableR]⟩
def el (m : List (List Int)) (i j:Nat) : Int := (m.getD i []).getD j 0
def elr (r : List Int) (j:Nat) : Int := r.getD j 0
theorem row_getI {r : List Int} {i : Int} (h0 : 0 ≤ i) (h : i < (r.length:Int)) : (row r)[i.toNat]? = some (cI (elr r i.toNat)) := by
 have hi : i.toNat < r.length := by omega
 rw [row_get hi]; simp [elr, List.getElem?_eq_getElem hi]
theorem rows_getI {m : List (List Int)} {i : Int} (h0 : 0 ≤ i) (h : i < (m.length:Int)) : (rows m)[i.toNat]? = some [D.sl (row (m.getD i.toNat []))] := by
 have hi : i.toNat < m.length := by omega
 rw [rows_get hi]; simp [List.getElem?_eq_getElem hi]
theorem row_getN {r : List Int} {i : Nat} (h : i < r.length) : (row r)[(i:Int).toNat]? = some (cI (elr r i)) := by
 have := row_getI (r := r) (i := (i:Int)) (by omega) (by omega)
 rwa [Int.toNat_natCast] at this ⊢
theorem rows_getN {m : List (List Int)} {i : Nat} (h : i < m.length) : (rows m)[(i:Int).toNat]? = some [D.sl (row (m.getD i []))] := by
 have := rows_getI (m := m) (i := (i:Int)) (by omega) (by omega)
 rwa [Int.toNat_natCast] at this ⊢
theorem inc64 {i : Nat} (h : i ≤ 4611686018427387904) : IntKind.i64.wrap ((i:Int) + 1) = ((i + 1:Nat) : Int) := by rw [w64 (by omega) (by omega)]; simp
def part (r c:Nat) (g:Nat → Nat → Int) (i:Nat) : DLL := (List.range r).map fun k => if k < i then row (tableR c (g k)) else []
theorem part_all (r c:Nat) (g:Nat → Nat → Int) : matD (part r c g r) = rows (table r c g) := by
 unfold matD part rows table
 rw [List.map_map, List.map_map]
 apply List.map_congr_left
 intro k hk
 simp [List.mem_range.1 hk]
theorem cI_zero : cI 0 = [D.bool false, D.sl ([] : DL)] := rfl
theorem part_set (r c:Nat) (g:Nat → Nat → Int) (i:Nat) (hi : i < r) : (part r c g i).set i (row (tableR c (g i))) = part r c g (i + 1) := by
 apply List.ext_getElem?
 intro k
 unfold part
 by_cases hk : k = i
 · subst hk; simp [hi]
 · rw [List.getElem?_set_ne (Ne.symm hk)]
   simp only [List.getElem?_map]
   by_cases hkr : k < r
   · simp only [List.getElem?_range hkr, Option.map_some]
     congr 1
     by_cases h1 : k < i
     · rw [if_pos h1, if_pos (by omega)]
     · rw [if_neg h1, if_neg (by omega)]
   · rw [List.getElem?_eq_none (by simpa using hkr)]; rfl
def partR (c:Nat) (g:Nat → Int) (j:Nat) : List Int := (List.range c).map fun k => if k < j then g k else 0
theorem partR_all (c:Nat) (g:Nat → Int) : partR c g c = tableR c g := by
 unfold partR tableR
 apply List.map_congr_left
 intro k hk
 simp [List.mem_range.1 hk]
theorem partR_zero (c:Nat) (g:Nat → Int) : row (partR c g 0) = List.replicate c [D.bool false, D.sl ([] : DL)] := by
 unfold partR row
 rw [List.map_map]
 have : (cI ∘ fun k => if k < 0 then g k else (0:Int)) = fun _ => [D.bool false, D.sl ([] : DL)] := by funext k; simp [cI_zero]
 rw [this, List.map_const']; simp
theorem partR_set (c:Nat) (g:Nat → Int) (j:Nat) (hj : j < c) : (row (partR c g j)).set j (cI (g j)) = row (partR c g (j + 1)) := by
 apply List.ext_getElem?
 intro k
 unfold partR row
 by_cases hk : k = j
 · subst hk; simp [hj]
 · rw [List.getElem?_set_ne (Ne.symm hk)]
   simp only [List.getElem?_map]
   by_cases hkr : k < c
   · simp only [List.getElem?_range hkr, Option.map_some]
     congr 1
     by_cases h1 : k < j
     · rw [if_pos h1, if_pos (by omega)]
     · rw [if_neg h1, if_neg (by omega)]
   · rw [List.getElem?_eq_none (by simpa using hkr)]; rfl
theorem build_ok {r c : Nat} (hr : r ≤ 4294967296) (hc : c ≤ 4294967296) {f : FuncId} {fc : List D} {g:Nat → Nat → Int}
   (hf : ∀ i j : Nat, i < r → j < c → FnD prog f ([vi i, vi j] ++ fc.map dV) (eI (g i j)) []) :
   FnD prog 76 [vi r, vi c, .e (.sc (.dat (.fn (.func f) fc)))] (eM r c (table r c g)) [] := by
 refine vc76_ok r c f fc (R := Out _) ?_
 unfold vc76
 refine ⟨⟨by omega, by omega, by omega⟩, fun o t => ∃ i : Nat, t = (i:Int) ∧ i ≤ r ∧ o = part r c g i, fun _ t => ((r:Int) - t).toNat, ⟨0, rfl, by omega, ?_⟩, ?_⟩
 · unfold part
   rw [Int.toNat_natCast]
   have : (fun k => if k < 0 then row (tableR c (g k)) else ([] : DL)) = fun _ => [] := by funext k; simp
   rw [this, List.map_const']; simp
 rintro _ _ ⟨i, rfl, hi, rfl⟩
 have hlen : ∀ i, (part r c g i).length = r := fun i => by simp [part]
 refine ⟨fun h => ?_, fun h => ?_⟩
 · have hir : i < r := by simpa using h
   refine ⟨⟨by omega, by omega, by omega⟩, ⟨by omega, by rw [hlen]; omega⟩, fun o t => ∃ j : Nat, t = (j:Int) ∧ j ≤ c ∧ o = (part r c g i).set i (row (partR c (g i) j)), fun _ t => ((c:Int) - t).toNat, ⟨0, rfl, by omega, ?_⟩, ?_⟩
   · rw [Int.toNat_natCast, Int.toNat_natCast, partR_zero]
   rintro _ _ ⟨j, rfl, hj, rfl⟩
   refine ⟨fun h2 => ?_, fun h2 => ?_⟩
   · have hjc : j < c := by simpa using h2
     refine ⟨decide (g i j < 0), lim (dz (g i j)), ⟨by omega, by simp [hlen]; omega⟩, hf i j hir hjc, ⟨row (partR c (g i) j), by rw [Int.toNat_natCast]; simp [hlen, hir], by omega, by simp [row_length, partR]; omega⟩, ?_⟩
     rw [inc64 (by omega)]
     refine ⟨⟨j + 1, rfl, by omega, ?_⟩, by show ((c:Int) - ((j + 1:Nat) : Int)).toNat < ((c:Int) - (j:Int)).toNat; omega⟩
     rw [Int.toNat_natCast, Int.toNat_natCast]
     have e1 : ((part r c g i).set i (row (partR c (g i) j))).modify i (fun q => q.set j [D.bool (decide (g i j < 0)), D.sl (lim (dz (g i j)))]) = (part r c g i).set i ((row (partR c (g i) j)).set j (cI (g i j))) := by
       apply List.ext_getElem?
       intro k
       rw [List.getElem?_modify]
       by_cases hk : i = k
       · subst hk; simp [hlen, hir]; rfl
       · simp [hk, List.getElem?_set_ne hk]
     rw [e1, partR_set c (g i) j hjc]
   · have hjc : j = c := by have : c ≤ j := by simpa using h2
                            omega
     subst hjc
     rw [inc64 (by omega)]
     refine ⟨⟨i + 1, rfl, by omega, ?_⟩, by show ((r:Int) - ((i + 1:Nat) : Int)).toNat < ((r:Int) - (i:Int)).toNat; omega⟩
     rw [partR_all, part_set r j g i hir]
 · have hir : i = r := by have : r ≤ i := by simpa using h
                          omega
   subst hir
   rw [part_all]
   exact ⟨rfl, rfl⟩
theorem getD_mem {α : Type} {l : List α} {i : Nat} {d : α} (h : i < l.length) : l.getD i d ∈ l := by
 rw [List.getD_eq_getElem?_getD, List.getElem?_eq_getElem h]; exact List.getElem_mem h
end Go.AM
/- What the functions of package matrix, and of its reference, answer: comparing, transposing, multiplying. -/
namespace Go.AM
open Go.Proofs.Try
theorem elr_mem {r : List Int} {i : Nat} (h : i < r.length) : elr r i ∈ r := getD_mem h
theorem list_ext {a b : List Int} (hl : a.length = b.length) (h : ∀ k, k < a.length → elr a k = elr b k) : a = b := by
 apply List.ext_getElem hl
 intro i h1 h2
 have := h i h1
 simpa [elr, List.getElem?_eq_getElem h1, List.getElem?_eq_getElem h2] using this
theorem lists_ext {a b : List (List Int)} (hl : a.length = b.length) (h : ∀ k, k < a.length → a.getD k [] = b.getD k []) : a = b := by
 apply List.ext_getElem hl
 intro i h1 h2
 have := h i h1
 simpa [List.getElem?_eq_getElem h1, List.getElem?_eq_getElem h2] using this
theorem sameVec_ok {a b : List Int} (ha : SzR a) (hb : SzR b) (hl : a.length ≤ 4294967296) : FnD prog 37 [vs (row a), vs (row b)] (vb (decide (a = b))) [] := by
 refine vc37_ok _ _ (R := Out _) ?_
 unfold vc37
 simp only [row_length]
 refine ⟨fun h => outb ?_, fun h => ?_⟩
 · have h : ¬ ((a.length:Int) = (b.length:Int)) := by simpa using h
   rw [eq_comm, decide_eq_false_iff_not]
   intro e; subst e; exact h rfl
 · have hlen : a.length = b.length := by
     have : (a.length:Int) = (b.length:Int) := by simpa using h
     omega
   refine ⟨fun t => ∃ i : Nat, t = (i:Int) ∧ i ≤ a.length ∧ ∀ k, k < i → elr a k = elr b k, fun t => ((a.length:Int) - t).toNat, ⟨0, rfl, by omega, fun k hk => by omega⟩, ?_⟩
   rintro _ ⟨i, rfl, hi, hinv⟩
   refine ⟨fun h2 => ?_, fun h2 => outb ?_⟩
   · have hia : i < a.length := by simpa using h2
     have hib : i < b.length := by omega
     refine ⟨_, _, _, _, decide (elr a i = elr b i), ⟨by omega, by omega⟩, row_getN hia, ⟨by omega, by omega⟩, row_getN hib, rsame_ok (ha _ (elr_mem hia)) (hb _ (elr_mem hib)), fun h3 => outb ?_, fun h3 => ?_⟩
     · rw [eq_comm, decide_eq_false_iff_not]
       intro e; subst e; simp at h3
     · have he : elr a i = elr b i := by simpa using h3
       rw [inc64 (by omega)]
       refine ⟨⟨i + 1, rfl, by omega, fun k hk => ?_⟩, by show ((a.length:Int) - ((i + 1:Nat) : Int)).toNat < ((a.length:Int) - (i:Int)).toNat; omega⟩
       by_cases hki : k = i
       · subst hki; exact he
       · exact hinv k (by omega)
   · have hia : i = a.length := by have : a.length ≤ i := by simpa using h2
                                   omega
     have : a = b := list_ext hlen fun k hk => hinv k (by omega)
     simp [this]
theorem same_ok {r c r' c' : Int} {a b : List (List Int)} (ha : SzM a) (hb : SzM b) (hl : a.length ≤ 4294967296) (hc : ∀ x ∈ a, x.length ≤ 4294967296) :
   FnD prog 23 [eM r c a, eM r' c' b] (vb (decide (r = r' ∧ c = c' ∧ a = b))) [] := by
 refine vc23_ok _ _ _ _ _ _ (R := Out _) ?_
 unfold vc23
 simp only [rows_length]
 refine ⟨fun h => outb ?_, fun h => ⟨fun h2 => outb ?_, fun h2 => ⟨fun h3 => outb ?_, fun h3 => ?_⟩⟩⟩
 · have h : ¬ r = r' := by simpa using h
   simp [h]
 · have h2 : ¬ c = c' := by simpa using h2
   simp [h2]
 · have h3 : ¬ ((a.length:Int) = (b.length:Int)) := by simpa using h3
   rw [eq_comm, decide_eq_false_iff_not]
   rintro ⟨_, _, e⟩; subst e; exact h3 rfl
 · have h : r = r' := by simpa using h
   have h2 : c = c' := by simpa using h2
   have hlen : a.length = b.length := by
     have : (a.length:Int) = (b.length:Int) := by simpa using h3
     omega
   refine ⟨fun t => ∃ i : Nat, t = (i:Int) ∧ i ≤ a.length ∧ ∀ k, k < i → a.getD k [] = b.getD k [], fun t => ((a.length:Int) - t).toNat, ⟨0, rfl, by omega, fun k hk => by omega⟩, ?_⟩
   rintro _ ⟨i, rfl, hi, hinv⟩
   refine ⟨fun h4 => ?_, fun h4 => outb ?_⟩
   · have hia : i < a.length := by simpa using h4
     have hib : i < b.length := by omega
     refine ⟨_, _, decide (a.getD i [] = b.getD i []), ⟨by omega, by omega⟩, rows_getN hia, ⟨by omega, by omega⟩, rows_getN hib, sameVec_ok (ha _ (getD_mem hia)) (hb _ (getD_mem hib)) (hc _ (getD_mem hia)), fun h5 => outb ?_, fun h5 => ?_⟩
     · rw [eq_comm, decide_eq_false_iff_not]
       rintro ⟨_, _, e⟩; subst e; simp at h5
     · have he : a.getD i [] = b.getD i [] := by simpa using h5
       rw [inc64 (by omega)]
       refine ⟨⟨i + 1, rfl, by omega, fun k hk => ?_⟩, by show ((a.length:Int) - ((i + 1:Nat) : Int)).toNat < ((a.length:Int) - (i:Int)).toNat; omega⟩
       by_cases hki : k = i
       · subst hki; exact he
       · exact hinv k (by omega)
   · have hia : i = a.length := by have : a.length ≤ i := by simpa using h4
                                   omega
     have : a = b := lists_ext hlen fun k hk => hinv k (by omega)
     simp [this, h, h2]
theorem el_mem {r c : Nat} {m : List (List Int)} (hm : Mx r c m) {i j : Nat} (hi : i < r) (_hj : j < c) : (m.getD i []).length = c ∧ m.getD i [] ∈ m := by
 have h1 : i < m.length := by rw [hm.1]; exact hi
 exact ⟨hm.2 _ (getD_mem h1), getD_mem h1⟩
theorem read_el {r c : Nat} {m : List (List Int)} (hm : Mx r c m) {i j : Nat} (hi : i < r) (hj : j < c) :
   (rows m)[(i:Int).toNat]? = some [D.sl (row (m.getD i []))] ∧ (row (m.getD i []))[(j:Int).toNat]? = some (cI (el m i j)) ∧ ((j:Int) < ((row (m.getD i [])).length:Int)) ∧ ((i:Int) < ((rows m).length:Int)) := by
 have h1 : i < m.length := by rw [hm.1]; exact hi
 have h2 := (el_mem hm hi hj).1
 refine ⟨rows_getN h1, row_getN (by omega), by rw [row_length]; omega, by rw [rows_length]; omega⟩
def dsum (f g:Nat → Int) : Nat → Int
 | 0 => 0
 | n + 1 => dsum f g n + f n * g n
def BdR (K:Nat) (r : List Int) : Prop := ∀ z ∈ r, z.natAbs ≤ K
def BdM (K:Nat) (m : List (List Int)) : Prop := ∀ r ∈ m, BdR K r
theorem sz_of {z : Int} (h : z.natAbs ≤ 497323236409786642155382248146820840100456150797347717440463976893159497012533375533056) : Sz z :=
 Sz.of_lt 10 (by decide) (Nat.lt_of_le_of_lt h (by decide))
theorem BdR.sz {K : Nat} {r : List Int} (h : BdR K r) (hK : K ≤ 497323236409786642155382248146820840100456150797347717440463976893159497012533375533056) : SzR r := fun z hz => sz_of (Nat.le_trans (h z hz) hK)
theorem BdM.sz {K : Nat} {m : List (List Int)} (h : BdM K m) (hK : K ≤ 497323236409786642155382248146820840100456150797347717440463976893159497012533375533056) : SzM m := fun r hr => (h r hr).sz hK
theorem mul_natAbs_le {x y : Int} {K L : Nat} (hx : x.natAbs ≤ K) (hy : y.natAbs ≤ L) : (x * y).natAbs ≤ K * L := by rw [Int.natAbs_mul]; exact Nat.mul_le_mul hx hy
end Go.AM
/- What the functions of package matrix answer: products, sums, new matrices. -/
namespace Go.AM
open Go.Proofs.Try
def eME (r c:Int) (m : List (List Int)) (e:Int) : V := .tup [.agg [.dat (.int .i64 r), .dat (.int .i64 c), .dat (.sl (rows m))], .sc (.dat (.int .i64 e))]
theorem table_congr {r c : Nat} {f g:Nat → Nat → Int} (h : ∀ i j, i < r → j < c → f i j = g i j) : table r c f = table r c g := by
 unfold table tableR
 apply List.map_congr_left
 intro i hi
 apply List.map_congr_left
 intro j hj
 exact h i j (List.mem_range.1 hi) (List.mem_range.1 hj)
theorem getD_table {r c : Nat} {g:Nat → Nat → Int} {i : Nat} (hi : i < r) : (table r c g).getD i [] = tableR c (g i) := by simp [table, hi]
theorem elr_tableR {c : Nat} {g:Nat → Int} {j : Nat} (hj : j < c) : elr (tableR c g) j = g j := by simp [elr, tableR, hj]
theorem el_table {r c : Nat} {g:Nat → Nat → Int} {i j : Nat} (hi : i < r) (hj : j < c) : el (table r c g) i j = g i j := by
 unfold el
 rw [getD_table hi]
 exact elr_tableR hj
theorem table_bd {r c K : Nat} {g:Nat → Nat → Int} (h : ∀ i j, i < r → j < c → (g i j).natAbs ≤ K) : BdM K (table r c g) := fun x hx z hz => by
 simp only [table, List.mem_map, List.mem_range] at hx
 obtain ⟨i, hi, rfl⟩ := hx
 simp only [tableR, List.mem_map, List.mem_range] at hz
 obtain ⟨j, hj, rfl⟩ := hz
 exact h i j hi hj
theorem el_bd {r c K : Nat} {m : List (List Int)} (hm : Mx r c m) (hb : BdM K m) {i j : Nat} (hi : i < r) (hj : j < c) : (el m i j).natAbs ≤ K := by
 obtain ⟨h1, h2⟩ := el_mem hm hi hj
 exact hb _ h2 _ (getD_mem (by omega))
theorem mx_table {r c : Nat} {m : List (List Int)} (hm : Mx r c m) : m = table r c (el m) := by
 refine lists_ext (by rw [hm.1]; simp [table]) fun k hk => ?_
 rw [hm.1] at hk
 rw [getD_table hk]
 by_cases hc : c = 0
 · subst hc
   have h1 : k < m.length := by rw [hm.1]; exact hk
   have := hm.2 _ (getD_mem (d := []) h1)
   rw [List.length_eq_zero_iff] at this
   rw [this]; rfl
 · refine list_ext (by rw [(el_mem hm hk (j := 0) (by omega)).1]; simp [tableR]) fun j hj => ?_
   rw [(el_mem hm hk (j := 0) (by omega)).1] at hj
   rw [elr_tableR hj]; rfl
def mmul (r n c:Nat) (a b : List (List Int)) : List (List Int) := table r c fun i j => dsum (fun k => el a i k) (fun k => el b k j) n
def delta (i j:Nat) : Int := if i = j then 1 else 0
theorem mident_ok {n : Nat} (hn : n ≤ 4294967296) : FnD prog 56 [vi n] (eM n n (table n n delta)) [] := by
 refine vc56_ok _ (R := Out _) ?_
 unfold vc56
 refine ⟨_, _, _, build_ok hn hn (g := delta) fun i j hi hj => ?_, rfl, rfl⟩
 refine vc107_ok _ _ (R := Out _) ?_
 unfold vc107
 refine ⟨fun h => ?_, fun h => ?_⟩
 · have : i = j := by have : (i : Int) = (j : Int) := by simpa using h
                      omega
   subst this
   refine ⟨_, _, of_ok 1 (by omega) (by omega), ?_⟩
   simp only [delta, if_true]; exact ⟨rfl, rfl⟩
 · have : i ≠ j := by have : ¬ (i : Int) = (j : Int) := by simpa using h
                      omega
   simp only [delta, if_neg this]; exact ⟨rfl, rfl⟩
end Go.AM
/- What the functions of package matrix answer: searching, validity, picking, blocks. -/
namespace Go.AM
open Go.Proofs.Try
def ints (r : List Int) : DL := r.map fun n => [D.int .i64 n]
theorem ints_length (r : List Int) : (ints r).length = r.length := by simp [ints]
theorem ints_getN {r : List Int} {i : Nat} (h : i < r.length) : (ints r)[(i:Int).toNat]? = some [D.int .i64 (elr r i)] := by
 rw [Int.toNat_natCast]; simp [ints, elr, h]
theorem ivalid_ok {z : Int} (hz : Sz z) : FnD prog 74 [eI z] (vb true) [] := by
 refine vc74_ok _ _ (R := Out _) ?_
 unfold vc74
 obtain ⟨a, hae⟩ : ∃ a, a = digs z.natAbs := ⟨_, rfl⟩
 have hl : a.length ≤ 1073741824 := hae ▸ hz
 have hcan : canon a := hae ▸ digs_canon z.natAbs
 have hnil : a = [] ↔ z = 0 := by rw [hae, digs_nil]; omega
 rw [← hae]
 simp only [lim_length]
 refine ⟨fun h => ⟨fun _ => outb rfl, fun h2 => ?_⟩, fun h => ⟨fun h2 => ?_, fun h2 => ?_⟩⟩
 · exfalso
   have h0 : a.length = 0 := by have : (a.length : Int) = 0 := by simpa using h
                                omega
   have hz0 := hnil.1 (List.length_eq_zero_iff.1 h0)
   subst hz0; simp at h2
 · have h0 : 0 < a.length := by have : (a.length : Int) > 0 := by simpa using h2
                                omega
   have hw : IntKind.i64.wrap ((a.length:Int) - 1) = ((a.length - 1:Nat) : Int) := by rw [w64 (by omega) (by omega)]; omega
   rw [hw]
   refine ⟨(dg a (a.length - 1) : Nat), ⟨by omega, by omega⟩, ?_, outb ?_⟩
   · have := lim_getI (l := a) (i := ((a.length - 1:Nat) : Int)) (by omega) (by omega)
     rw [Int.toNat_natCast] at *; exact this
   · have hc := hcan (dg a (a.length - 1)) (by rw [List.getLast?_eq_getElem?, List.getElem?_eq_getElem (by omega), dg_get (by omega)])
     simp; exact hc
 · exfalso
   have h1 : ¬ (a.length:Int) > 0 := by simpa using h2
   have h3 : ¬ (a.length:Int) = 0 := by simpa using h
   omega
end Go.AM
/- What the functions of package matrix' reference answer: matrices that are made. -/
namespace Go.AM
open Go.Proofs.Try
theorem FnD.wk {P : Program} {k : FuncId} {args : List V} {r r2 : V} {objs objs2 : Heap} (hf : FnD P k args r objs) (hw : Wk 0 ⟨[(0, r)], objs, 1⟩ ⟨[(0, r2)], objs2, 1⟩) : FnD P k args r2 objs2 := by
 refine ⟨hf.1, fun I M w vs s hr => (hf.2 I M w vs s hr).mono ?_⟩
 rintro e w' ⟨v, r', h', I', M', he, ⟨rfl, rfl⟩, hrel, sim, hext, hfp, hmono⟩
 have tm0 : ∀ i u, (i, u) ∈ [(0, r')] → RelV w' I' M' ((#[v] : Array Value).getD i undef) u := fun i u hu => by
   simp only [List.mem_singleton, Prod.mk.injEq] at hu
   obtain ⟨rfl, rfl⟩ := hu
   exact hrel
 have s0 : Sim I' M' ⟨[(0, r')], h', 1⟩ { tmps := #[v], defers := [] } w' := { toSimH := sim, tm := tm0, size := rfl, defers := rfl }
 obtain ⟨I2, M2, s2, g1, g2, g3, _⟩ := hw I' M' _ w' s0
 refine ⟨v, r2, objs2, I2, M2, he, ⟨rfl, rfl⟩, s2.tm 0 r2 (by simp), s2.toSimH, ⟨hext.os, hext.tape, hext.output, hext.size, hext.heap, fun b hb => g1 b (hext.imm b hb), fun b hb => ?_⟩, fun b hb => hfp b (g3 b hb), fun o e ho => by simp at ho⟩
 rcases g2 b hb with h1 | h1
 · exact hext.immNew b h1
 · rcases hfp b h1 with ⟨o, h2⟩ | h2
   · simp [fpAt] at h2
   · exact .inr (.inl h2)
def om (m : List (List Int)) : DLL := m.map row
def eMo (r c:Int) : V := .e (.agg [.dat (.int .i64 r), .dat (.int .i64 c), .ref 0])
def oM (m : List (List Int)) : Heap := [some (.mat 2 (om m))]
theorem matD_om (m : List (List Int)) : matD (om m) = rows m := by simp [matD, om, rows]
theorem FnD.frz {P : Program} {k : FuncId} {args : List V} {r c : Int} {m : List (List Int)} (hf : FnD P k args (eMo r c) (oM m)) : FnD P k args (eM r c m) [] := by
 have h1 : Wk 0 ⟨[(0, eMo r c)], oM m, 1⟩ ⟨[(0, eM r c m)], [none], 1⟩ := xfreeze_ok (ids := [0]) (by
   unfold eM; rw [← matD_om]; rfl)
 have h2 : Wk 0 ⟨[(0, eM r c m)], [none], 1⟩ ⟨[(0, eM r c m)], [], 1⟩ := xview_ok (live := [0]) (ids := []) rfl rfl rfl
 exact (hf.wk h1).wk h2
abbrev OutM (r c:Int) (m : List (List Int)) : V → Heap → Prop := fun r' h' => r' = eMo r c ∧ h' = oM m
theorem outM {r c : Int} {m : List (List Int)} {o : DLL} (h : o = om m) : OutM r c m (V.e (E.agg [S.dat (D.int .i64 r), S.dat (D.int .i64 c), S.ref 0])) [some (Obj.mat 2 o)] := by subst h; exact ⟨rfl, rfl⟩
theorem om_length (m : List (List Int)) : (om m).length = m.length := by simp [om]
theorem row_rep (c:Nat) : row (tableR c fun _ => 0) = List.replicate c [D.bool false, D.sl ([] : DL)] := by
 unfold tableR row
 rw [List.map_map]
 have : (cI ∘ fun _:Nat => (0:Int)) = fun _ => [D.bool false, D.sl ([] : DL)] := by funext k; rfl
 rw [this, List.map_const']; simp
theorem rnew_ok {r c : Nat} (hr : r ≤ 4294967296) (hc : c ≤ 4294967296) : FnD prog 33 [vi r, vi c] (eMo r c) (oM (table r c fun _ _ => 0)) := by
 refine vc33_ok _ _ (R := OutM r c _) ?_
 unfold vc33
 refine ⟨fun o t => ∃ i : Nat, t = (i:Int) ∧ i ≤ r ∧ o = om (table i c fun _ _ => 0), fun _ t => ((r:Int) - t).toNat, ⟨0, rfl, by omega, rfl⟩, ?_⟩
 rintro _ _ ⟨i, rfl, hi, rfl⟩
 refine ⟨fun h => ?_, fun h => outM ?_⟩
 · have hir : i < r := by simpa using h
   refine ⟨⟨by omega, by omega, by omega⟩, by simp only [om_length, table, List.length_map, List.length_range, List.length_singleton]; omega, ?_⟩
   rw [inc64 (by omega)]
   refine ⟨⟨i + 1, rfl, by omega, ?_⟩, by show ((r:Int) - ((i + 1:Nat) : Int)).toNat < ((r:Int) - (i:Int)).toNat; omega⟩
   rw [Int.toNat_natCast, ← row_rep]
   simp [om, table, List.range_succ]
 · have hir : i = r := by have : r ≤ i := by simpa using h
                          omega
   subst hir; rfl
theorem om_set {r c : Nat} {g:Nat → Nat → Int} {i j : Nat} {z : Int} (_hi : i < r) (hj : j < c) :
   (om (table r c g)).modify i (fun q => q.set j (cI z)) = om (table r c fun i' j' => if i' = i ∧ j' = j then z else g i' j') := by
 apply List.ext_getElem?
 intro k
 rw [List.getElem?_modify]
 simp only [om, table, List.getElem?_map]
 by_cases hk : k < r
 · simp only [List.getElem?_range hk, Option.map_some, Option.map_eq_map]
   by_cases hik : i = k
   · subst hik
     simp only [if_true]
     congr 1
     apply List.ext_getElem?
     intro l
     unfold row tableR
     by_cases hl : l = j
     · subst hl; simp [hj]
     · rw [List.getElem?_set_ne (Ne.symm hl)]
       by_cases hlc : l < c
       · simp [hlc, hl]
       · simp [hlc]
   · have hki : ¬ k = i := fun h => hik h.symm
     simp [hik, hki, tableR]
 · rw [List.getElem?_eq_none (by simpa using hk)]; simp
theorem om_in {r c : Nat} {g:Nat → Nat → Int} {i j : Nat} (hi : i < r) (hj : j < c) : ∃ l, (om (table r c g))[(i:Int).toNat]? = some l ∧ 0 ≤ (j:Int) ∧ (j:Int) < (l.length:Int) :=
 ⟨row (tableR c (g i)), by rw [Int.toNat_natCast]; simp [om, table, hi], by omega, by simp [row_length, tableR]; omega⟩
theorem rident_ok {n : Nat} (hn : n ≤ 4294967296) : FnD prog 49 [vi n] (eMo n n) (oM (table n n delta)) := by
 refine vc49_ok _ (R := OutM n n _) ?_
 unfold vc49
 refine ⟨_, _, _, rnew_ok hn hn, fun o t => ∃ i : Nat, t = (i:Int) ∧ i ≤ n ∧ o = om (table n n fun a b => if a = b ∧ a < i then 1 else 0), fun _ t => ((n:Int) - t).toNat, ⟨0, rfl, by omega, ?_⟩, ?_⟩
 · congr 1; exact table_congr fun a b _ _ => by simp
 rintro _ _ ⟨i, rfl, hi, rfl⟩
 refine ⟨fun h => ?_, fun h => outM ?_⟩
 · have hir : i < n := by simpa using h
   refine ⟨_, _, ⟨by omega, by simp [om_length, table]; omega⟩, rof_ok 1 (by omega) (by omega), om_in hir hir, ?_⟩
   rw [inc64 (by omega)]
   refine ⟨⟨i + 1, rfl, by omega, ?_⟩, by show ((n:Int) - ((i + 1:Nat) : Int)).toNat < ((n:Int) - (i:Int)).toNat; omega⟩
   rw [Int.toNat_natCast]
   refine Eq.trans (om_set (z := 1) hir hir) ?_
   congr 1
   refine table_congr fun a b _ _ => ?_
   by_cases h1 : a = i ∧ b = i
   · rw [if_pos h1, if_pos ⟨by omega, by omega⟩]
   · rw [if_neg h1]
     by_cases h2 : a = b ∧ a < i
     · rw [if_pos h2, if_pos ⟨h2.1, by omega⟩]
     · rw [if_neg h2, if_neg (by omega)]
 · have hir : i = n := by have : n ≤ i := by simpa using h
                          omega
   subst hir
   congr 1
   exact table_congr fun a b ha _ => by unfold delta; by_cases h : a = b <;> simp [h]; omega
def gF (f:Nat → Nat → Int) (i j:Nat) : Nat → Nat → Int := fun a b => if a < i ∨ (a = i ∧ b < j) then f a b else 0
theorem gF_zero {r c : Nat} (f:Nat → Nat → Int) : om (table r c fun _ _ => 0) = om (table r c (gF f 0 0)) := by
 congr 1; exact table_congr fun a b _ _ => by simp [gF]
theorem gF_step {r c : Nat} {f:Nat → Nat → Int} {i j : Nat} (hi : i < r) (hj : j < c) : (om (table r c (gF f i j))).modify i (fun q => q.set j (cI (f i j))) = om (table r c (gF f i (j + 1))) := by
 refine Eq.trans (om_set hi hj) ?_
 congr 1
 refine table_congr fun a b _ _ => ?_
 unfold gF
 by_cases h1 : a = i ∧ b = j
 · rw [if_pos h1, if_pos (by omega), h1.1, h1.2]
 · rw [if_neg h1]
   by_cases h2 : a < i ∨ (a = i ∧ b < j)
   · rw [if_pos h2, if_pos (by omega)]
   · rw [if_neg h2, if_neg (by omega)]
theorem gF_next {r c : Nat} {f:Nat → Nat → Int} {i j : Nat} (h0 : ∀ b, j ≤ b → b < c → f i b = 0) : om (table r c (gF f i j)) = om (table r c (gF f (i + 1) 0)) := by
 congr 1
 refine table_congr fun a b _ hb => ?_
 unfold gF
 by_cases h2 : a < i ∨ (a = i ∧ b < j)
 · rw [if_pos h2, if_pos (by omega)]
 · rw [if_neg h2]
   by_cases h3 : a = i
   · subst h3
     rw [if_pos (by omega), h0 b (by omega) hb]
   · rw [if_neg (by omega)]
theorem gF_all {r c : Nat} {f:Nat → Nat → Int} : om (table r c (gF f r 0)) = om (table r c f) := by
 congr 1
 exact table_congr fun a b ha _ => by unfold gF; rw [if_pos (.inl ha)]
def fillF (c:Nat) (v : List Int) (i j:Nat) : Int := elr v (i * c + j)
theorem elr_out {v : List Int} {k : Nat} (h : v.length ≤ k) : elr v k = 0 := by
 unfold elr; rw [List.getD_eq_getElem?_getD, List.getElem?_eq_none h]; rfl
theorem rints_ok {r c : Nat} {v : List Int} (hr : r ≤ 1048576) (hc : c ≤ 1048576) (hv : ∀ z ∈ v, -9223372036854775808 ≤ z ∧ z ≤ 9223372036854775807) :
   FnD prog 70 [vi r, vi c, vs (ints v)] (eMo r c) (oM (table r c (fillF c v))) := by
 refine vc70_ok _ _ _ (R := OutM r c _) ?_
 unfold vc70
 simp only [ints_length]
 refine ⟨_, _, _, rnew_ok (by omega) (by omega), fun o t => ∃ i : Nat, t = (i:Int) ∧ i ≤ r ∧ o = om (table r c (gF (fillF c v) i 0)), fun _ t => ((r:Int) - t).toNat, ⟨0, rfl, by omega, gF_zero _⟩, ?_⟩
 rintro _ _ ⟨i, rfl, hi, rfl⟩
 refine ⟨fun h => ?_, fun h => outM ?_⟩
 · have hir : i < r := by simpa using h
   refine ⟨fun o t => ∃ j : Nat, t = (j:Int) ∧ j ≤ c ∧ o = om (table r c (gF (fillF c v) i j)), fun _ t => ((c:Int) - t).toNat, ⟨0, rfl, by omega, rfl⟩, ?_⟩
   rintro _ _ ⟨j, rfl, hj, rfl⟩
   have hprod : i * c ≤ 1048576 * 1048576 := Nat.mul_le_mul (by omega) hc
   have hw1 : IntKind.i64.wrap ((i:Int) * (c:Int)) = ((i * c:Nat) : Int) := by
     rw [← Int.natCast_mul]; exact w64 (by omega) (by omega)
   have hw2 : IntKind.i64.wrap (((i * c:Nat) : Int) + (j:Int)) = ((i * c + j:Nat) : Int) := by
     rw [← Int.natCast_add]; exact w64 (by omega) (by omega)
   have next : (∀ b, j ≤ b → b < c → fillF c v i b = 0) →
       (∃ i' : Nat, IntKind.i64.wrap ((i:Int) + 1) = (i':Int) ∧ i' ≤ r ∧ om (table r c (gF (fillF c v) i j)) = om (table r c (gF (fillF c v) i' 0))) ∧ ((r:Int) - IntKind.i64.wrap ((i:Int) + 1)).toNat < ((r:Int) - (i:Int)).toNat := fun h0 => by
     rw [inc64 (by omega)]
     exact ⟨⟨i + 1, rfl, by omega, gF_next h0⟩, by omega⟩
   rw [hw1, hw2]
   refine ⟨fun h2 => ⟨fun h3 => ?_, fun h3 => next fun b hb _ => ?_⟩, fun h2 => next fun b hb hbc => ?_⟩
   · have hjc : j < c := by simpa using h2
     have hlt : i * c + j < v.length := by
       have h3 := of_decide_eq_true h3
       omega
     obtain ⟨v1, v2⟩ := hv _ (elr_mem hlt)
     refine ⟨elr v (i * c + j), _, _, ⟨by omega, by simp [om_length, table]; omega⟩, ⟨by omega, by omega⟩, ints_getN hlt, rof_ok _ v1 v2, om_in hir hjc, ?_⟩
     rw [inc64 (by omega)]
     refine ⟨⟨j + 1, rfl, by omega, ?_⟩, by show ((c:Int) - ((j + 1:Nat) : Int)).toNat < ((c:Int) - (j:Int)).toNat; omega⟩
     rw [Int.toNat_natCast, Int.toNat_natCast]
     exact gF_step hir hjc
   · have hlt : v.length ≤ i * c + j := by
       have h3 := of_decide_eq_false h3
       omega
     exact elr_out (by omega)
   · have hjc : c ≤ j := by simpa using h2
     omega
 · have hir : i = r := by have : r ≤ i := by simpa using h
                          omega
   subst hir
   exact gF_all
end Go.AM
/- What the functions of package matrix' reference, and of its law, answer: matrices out of bytes. -/
namespace Go.AM
open Go.Proofs.Try
def i8s (r : List Int) : DL := r.map fun n => [D.int .i8 n]
theorem i8s_length (r : List Int) : (i8s r).length = r.length := by simp [i8s]
theorem i8s_getN {r : List Int} {i : Nat} (h : i < r.length) : (i8s r)[(i:Int).toNat]? = some [D.int .i8 (elr r i)] := by
 rw [Int.toNat_natCast]; simp [i8s, elr, h]
def fillG (c:Nat) (v : List Int) (i j:Nat) : Int := (elr v (i * c + j)).tmod 10
theorem tmod10 (n:Int) : (n.tmod 10).natAbs ≤ 9 := by
 rw [Int.natAbs_tmod]
 have : (10:Int).natAbs = 10 := rfl
 rw [this]; omega
theorem clamp16 {n : Nat} (h : n ≤ 16) : (if (16:Int) < (if (0:Int) > (n:Int) then (0:Int) else (n:Int)) then (16:Int) else (if (0:Int) > (n:Int) then (0:Int) else (n:Int))) = (n:Int) := by
 rw [if_neg (show ¬ (0:Int) > (n:Int) by omega), if_neg (by omega)]
theorem filled_ok {r c : Nat} {v : List Int} (hr : r ≤ 16) (hc : c ≤ 16) : FnD prog 24 [vi r, vi c, vs (i8s v)] (eMo r c) (oM (table r c (fillG c v))) := by
 refine vc24_ok _ _ _ (R := OutM r c _) ?_
 unfold vc24
 simp only [i8s_length]
 rw [clamp16 hr, clamp16 hc]
 refine ⟨_, _, _, rnew_ok (by omega) (by omega), fun o t => ∃ i : Nat, t = (i:Int) ∧ i ≤ r ∧ o = om (table r c (gF (fillG c v) i 0)), fun _ t => ((r:Int) - t).toNat, ⟨0, rfl, by omega, gF_zero _⟩, ?_⟩
 rintro _ _ ⟨i, rfl, hi, rfl⟩
 refine ⟨fun h => ?_, fun h => outM ?_⟩
 · have hir : i < r := by simpa using h
   refine ⟨fun o t => ∃ j : Nat, t = (j:Int) ∧ j ≤ c ∧ o = om (table r c (gF (fillG c v) i j)), fun _ t => ((c:Int) - t).toNat, ⟨0, rfl, by omega, rfl⟩, ?_⟩
   rintro _ _ ⟨j, rfl, hj, rfl⟩
   have hprod : i * c ≤ 16 * 16 := Nat.mul_le_mul (by omega) hc
   have hw1 : IntKind.i64.wrap ((i:Int) * (c:Int)) = ((i * c:Nat) : Int) := by
     rw [← Int.natCast_mul]; exact w64 (by omega) (by omega)
   have hw2 : IntKind.i64.wrap (((i * c:Nat) : Int) + (j:Int)) = ((i * c + j:Nat) : Int) := by
     rw [← Int.natCast_add]; exact w64 (by omega) (by omega)
   have next : (∀ b, j ≤ b → b < c → fillG c v i b = 0) →
       (∃ i' : Nat, IntKind.i64.wrap ((i:Int) + 1) = (i':Int) ∧ i' ≤ r ∧ om (table r c (gF (fillG c v) i j)) = om (table r c (gF (fillG c v) i' 0))) ∧ ((r:Int) - IntKind.i64.wrap ((i:Int) + 1)).toNat < ((r:Int) - (i:Int)).toNat := fun h0 => by
     rw [inc64 (by omega)]
     exact ⟨⟨i + 1, rfl, by omega, gF_next h0⟩, by omega⟩
   rw [hw1, hw2]
   refine ⟨fun h2 => ⟨fun h3 => ?_, fun h3 => next fun b hb _ => ?_⟩, fun h2 => next fun b hb hbc => ?_⟩
   · have hjc : j < c := by simpa using h2
     have hlt : i * c + j < v.length := by
       have h3 := of_decide_eq_true h3
       omega
     have hm := tmod10 (elr v (i * c + j))
     have hw3 : IntKind.i64.wrap ((elr v (i * c + j)).tmod 10) = (elr v (i * c + j)).tmod 10 := w64 (by omega) (by omega)
     refine ⟨elr v (i * c + j), decide (fillG c v i j < 0), lim (dz (fillG c v i j)), ⟨by omega, by simp [om_length, table]; omega⟩, ⟨by omega, by omega⟩, i8s_getN hlt, by decide, ?_, om_in hir hjc, ?_⟩
     · rw [hw3]; exact rof_ok _ (by omega) (by omega)
     rw [inc64 (by omega)]
     refine ⟨⟨j + 1, rfl, by omega, ?_⟩, by show ((c:Int) - ((j + 1:Nat) : Int)).toNat < ((c:Int) - (j:Int)).toNat; omega⟩
     rw [Int.toNat_natCast, Int.toNat_natCast]
     exact gF_step hir hjc
   · have hlt : v.length ≤ i * c + j := by
       have h3 := of_decide_eq_false h3
       omega
     unfold fillG
     rw [elr_out (by omega)]; rfl
   · have hjc : c ≤ j := by simpa using h2
     omega
 · have hir : i = r := by have : r ≤ i := by simpa using h
                          omega
   subst hir
   exact gF_all
theorem filled_bd {r c : Nat} {v : List Int} : BdM 9 (table r c (fillG c v)) := table_bd fun _ _ _ _ => tmod10 _
theorem mod5 {x : Int} (h0 : 0 ≤ x) : ∃ n : Nat, IntKind.i64.wrap (x.tmod 5) = (n:Int) ∧ n ≤ 4 := by
 refine ⟨(x % 5).toNat, ?_, by omega⟩
 rw [Int.tmod_eq_emod_of_nonneg h0, w64 (by omega) (by omega)]; omega
def d3 (x0 x1 x2 x3:Int) (a b c : List Int) : V := .e (.agg [.dat (.int .u8 x0), .dat (.int .u8 x1), .dat (.int .u8 x2), .dat (.int .u8 x3), .dat (.sl (i8s a)), .dat (.sl (i8s b)), .dat (.sl (i8s c))])
end Go.AM
/- The law of transposes, but for the fixed examples. -/
namespace Go.AM
open Go.Proofs.Try
theorem mmul_mx (r n c:Nat) (a b : List (List Int)) : Mx r c (mmul r n c a b) := table_mx _ _ _
theorem BdM.mono {K L : Nat} {m : List (List Int)} (h : BdM K m) (hl : K ≤ L) : BdM L m := fun r hr z hz => Nat.le_trans (h r hr z hz) hl
theorem Mx.cols {r c : Nat} {m : List (List Int)} (h : Mx r c m) (hc : c ≤ 4294967296) : ∀ x ∈ m, x.length ≤ 4294967296 := fun x hx => by rw [h.2 x hx]; exact hc
theorem same_yes {r c K : Nat} {a b : List (List Int)} (ha : Mx r c a) (ka : BdM K a) (kb : BdM K b) (h : a = b) (hr : r ≤ 4294967296) (hc : c ≤ 4294967296) (hK : K ≤ 1329227995784915872903807060280344576) : FnD prog 23 [eM r c a, eM r c b] (vb true) [] := by
 have := same_ok (r := (r:Int)) (c := (c:Int)) (r' := (r:Int)) (c' := (c:Int)) (ka.sz (Nat.le_trans hK (by decide))) (kb.sz (Nat.le_trans hK (by decide))) (by rw [ha.1]; exact hr) (ha.cols hc)
 rw [show decide ((r:Int) = r ∧ (c:Int) = c ∧ a = b) = true by simp [h]] at this
 exact this
end Go.AM
/- Sums of products, and matrices: the laws of the ring. -/
namespace Go.AM
open Go.Proofs.Try
def sm (h:Nat → Int) : Nat → Int
 | 0 => 0
 | n + 1 => sm h n + h n
theorem dsum_sm (f g:Nat → Int) : ∀ n, dsum f g n = sm (fun k => f k * g k) n
 | 0 => rfl
 | n + 1 => by simp only [dsum, sm, dsum_sm f g n]
theorem sm_congr {f g:Nat → Int} : ∀ n, (∀ k, k < n → f k = g k) → sm f n = sm g n
 | 0, _ => rfl
 | n + 1, h => by simp only [sm]; rw [sm_congr n fun k hk => h k (by omega), h n (by omega)]
theorem sm_add (f g:Nat → Int) : ∀ n, sm (fun k => f k + g k) n = sm f n + sm g n
 | 0 => rfl
 | n + 1 => by simp only [sm, sm_add f g n]; omega
theorem sm_mul (c:Int) (f:Nat → Int) : ∀ n, sm (fun k => c * f k) n = c * sm f n
 | 0 => by simp [sm]
 | n + 1 => by simp only [sm, sm_mul c f n, Int.mul_add]
theorem sm_zero : ∀ n, sm (fun _ => 0) n = 0
 | 0 => rfl
 | n + 1 => by simp only [sm, sm_zero n]; rfl
theorem sm_one (f:Nat → Int) (j:Nat) : ∀ n, j < n → sm (fun k => if k = j then f k else 0) n = f j
 | n + 1, h => by
   simp only [sm]
   by_cases hj : j = n
   · subst hj
     rw [if_pos rfl, sm_congr (g := fun _ => 0) j (fun k hk => if_neg (by omega)), sm_zero]; omega
   · rw [if_neg (fun h => hj h.symm), sm_one f j n (by omega)]; omega
theorem dsum_delta_left (f:Nat → Int) {i n : Nat} (h : i < n) : dsum (fun k => delta i k) f n = f i := by
 rw [dsum_sm, ← sm_one f i n h]
 refine sm_congr n fun k _ => ?_
 unfold delta
 by_cases hk : i = k
 · subst hk; simp
 · rw [if_neg hk, if_neg (fun h => hk h.symm)]; simp
theorem el_mmul {r n c : Nat} {a b : List (List Int)} {i j : Nat} (hi : i < r) (hj : j < c) : el (mmul r n c a b) i j = sm (fun k => el a i k * el b k j) n := by
 unfold mmul
 rw [el_table hi hj, dsum_sm]
theorem mx_ext {r c : Nat} {a b : List (List Int)} (ha : Mx r c a) (hb : Mx r c b) (h : ∀ i j, i < r → j < c → el a i j = el b i j) : a = b := by
 rw [mx_table ha, mx_table hb]; exact table_congr h
theorem ident_mmul {r n : Nat} {a : List (List Int)} (ha : Mx r n a) : mmul r r n (table r r delta) a = a := by
 refine mx_ext (mmul_mx _ _ _ _ _) ha fun i j hi hj => ?_
 rw [el_mmul hi hj, ← dsum_delta_left (fun k => el a k j) hi, dsum_sm]
 exact sm_congr r fun k hk => by rw [el_table hi hk]
theorem ident_bd (n:Nat) : BdM 1 (table n n delta) := table_bd fun i j _ _ => by unfold delta; by_cases h : i = j <;> simp [h]
end Go.AM
/- Row operations on matrices of integers, in plain Lean: products, inverses, bounds; how a list of them lies in memory. -/
namespace Go.AM
open Go.Proofs.Try
structure Opz where
 k : Nat
 i : Nat
 j : Nat
 z : Int
 deriving DecidableEq
def oD (o:Opz) : List D := [dI o.k, dI o.i, dI o.j, dB (decide (o.z < 0)), dL (lim (digs o.z.natAbs))]
def oL (l : List Opz) : DL := l.map oD
theorem oL_length (l : List Opz) : (oL l).length = l.length := by simp [oL]
theorem oL_get {l : List Opz} {i : Nat} (h : i < l.length) : (oL l)[(i:Int).toNat]? = some (oD l[i]) := by simp [oL, h]
def vO (n:Nat) (o:Opz) : Bool :=
 decide (o.i < n) && (if o.k = 2 then decide (o.j = 0) && decide (o.z = 0)
   else if o.k = 1 then decide (o.j < n) && decide (o.i ≠ o.j) && decide (o.z = 0)
   else decide (o.k = 3) && decide (o.j < n) && decide (o.i ≠ o.j))
def opF (o:Opz) (f:Nat → Nat → Int) (a b:Nat) : Int :=
 if o.k = 1 then (if a = o.i then f o.j b else if a = o.j then f o.i b else f a b)
 else if o.k = 2 then (if a = o.i then - f a b else f a b)
 else if a = o.i then f a b + o.z * f o.j b else f a b
def apO (r c:Nat) (o:Opz) (m : List (List Int)) : List (List Int) := table r c (opF o (el m))
def apL (r c:Nat) : List Opz → List (List Int) → List (List Int)
 | [], m => m
 | o :: l, m => apL r c l (apO r c o m)
theorem apL_append {r c : Nat} : ∀ (l l' : List Opz) (m : List (List Int)), apL r c (l ++ l') m = apL r c l' (apL r c l m)
 | [], _, _ => rfl
 | o :: l, l', m => by simp only [List.cons_append, apL]; exact apL_append l l' _
theorem apO_mx (r c:Nat) (o:Opz) (m : List (List Int)) : Mx r c (apO r c o m) := table_mx _ _ _
theorem apL_mx {r c : Nat} : ∀ (l : List Opz) {m : List (List Int)}, Mx r c m → Mx r c (apL r c l m)
 | [], _, h => h
 | _ :: l, _, _ => apL_mx l (apO_mx _ _ _ _)
theorem el_apO {r c : Nat} {o : Opz} {m : List (List Int)} {a b : Nat} (ha : a < r) (hb : b < c) : el (apO r c o m) a b = opF o (el m) a b := el_table ha hb
theorem vO_ok {n : Nat} {o : Opz} (h : vO n o = true) : o.i < n ∧ ((o.k = 2 ∧ o.j = 0 ∧ o.z = 0) ∨ (o.k = 1 ∧ o.j < n ∧ o.i ≠ o.j ∧ o.z = 0) ∨ (o.k = 3 ∧ o.j < n ∧ o.i ≠ o.j)) := by
 unfold vO at h
 simp only [Bool.and_eq_true, decide_eq_true_eq] at h
 refine ⟨h.1, ?_⟩
 have h2 := h.2
 split at h2
 · rename_i hk
   simp only [Bool.and_eq_true, decide_eq_true_eq] at h2
   exact .inl ⟨hk, h2⟩
 · split at h2
   · rename_i hk
     simp only [Bool.and_eq_true, decide_eq_true_eq] at h2
     exact .inr (.inl ⟨hk, h2.1.1, h2.1.2, h2.2⟩)
   · simp only [Bool.and_eq_true, decide_eq_true_eq] at h2
     exact .inr (.inr ⟨h2.1.1, h2.1.2, h2.2⟩)
theorem vO_j {n : Nat} {o : Opz} (h : vO n o = true) (h2 : o.k ≠ 2) : o.j < n := by
 rcases (vO_ok h).2 with h | h | h
 · exact absurd h.1 h2
 · exact h.2.1
 · exact h.2.1
theorem opF_sm {o : Opz} {n : Nat} (f:Nat → Nat → Int) (g:Nat → Nat → Int) (a b:Nat) :
   opF o (fun a b => sm (fun k => f a k * g k b) n) a b = sm (fun k => opF o f a k * g k b) n := by
 unfold opF
 by_cases h1 : o.k = 1
 · simp only [h1, if_true]
   by_cases ha : a = o.i
   · simp [ha]
   · by_cases hb : a = o.j
     · simp only [if_neg ha, if_pos hb]
     · simp only [if_neg ha, if_neg hb]
 · simp only [h1, if_false]
   by_cases h2 : o.k = 2
   · simp only [h2, if_true]
     by_cases ha : a = o.i
     · simp only [ha, if_true, Int.neg_mul]
       have := sm_mul (-1) (fun k => f o.i k * g k b) n
       simp only [Int.neg_mul, Int.one_mul] at this
       exact this.symm
     · simp [ha]
   · simp only [h2, if_false]
     by_cases ha : a = o.i
     · simp only [ha, if_true, Int.add_mul, sm_add]
       congr 1
       rw [← sm_mul]
       exact sm_congr n fun k _ => by rw [Int.mul_assoc]
     · simp [ha]
theorem opF_congr {n : Nat} {o : Opz} (h : vO n o = true) {f g:Nat → Nat → Int} {a b : Nat} (ha : a < n) (hfg : ∀ a, a < n → f a b = g a b) : opF o f a b = opF o g a b := by
 obtain ⟨hi, _⟩ := vO_ok h
 have hj := vO_j h
 unfold opF
 by_cases h1 : o.k = 1
 · have := hj (by omega)
   simp only [h1, if_true]
   rw [hfg _ this, hfg _ hi, hfg _ ha]
 · simp only [h1, if_false]
   by_cases h2 : o.k = 2
   · simp only [h2, if_true]; rw [hfg _ ha]
   · simp only [h2, if_false]; rw [hfg _ ha, hfg _ (hj h2)]
theorem apO_mmul {r n c : Nat} {o : Opz} (h : vO r o = true) (a b : List (List Int)) : apO r c o (mmul r n c a b) = mmul r n c (apO r n o a) b := by
 refine mx_ext (apO_mx _ _ _ _) (mmul_mx _ _ _ _ _) fun i j hi hj => ?_
 rw [el_apO hi hj, el_mmul hi hj]
 rw [opF_congr h hi (g := fun a' b' => sm (fun k => el a a' k * el b k b') n) fun a' ha' => el_mmul ha' hj, opF_sm]
 exact sm_congr n fun k hk => by rw [el_apO hi hk]
theorem apL_mmul {r n c : Nat} (b : List (List Int)) : ∀ (l : List Opz) (a : List (List Int)), (∀ o ∈ l, vO r o = true) → apL r c l (mmul r n c a b) = mmul r n c (apL r n l a) b
 | [], _, _ => rfl
 | o :: l, a, h => by
   simp only [apL]
   rw [apO_mmul (h o (by simp))]
   exact apL_mmul b l _ fun o' ho' => h o' (by simp [ho'])
def mat (n:Nat) (l : List Opz) : List (List Int) := apL n n l (table n n delta)
theorem apL_mat {r c : Nat} {l : List Opz} {a : List (List Int)} (h : ∀ o ∈ l, vO r o = true) (ha : Mx r c a) : apL r c l a = mmul r r c (mat r l) a := by
 have := apL_mmul (n := r) a l (table r r delta) h (c := c)
 rw [ident_mmul ha] at this
 exact this
def inO (o:Opz) : Opz := { o with z := -o.z }
def inL (l : List Opz) : List Opz := l.reverse.map inO
theorem vO_inO {n : Nat} {o : Opz} : vO n (inO o) = vO n o := by
 have h : decide ((inO o).z = 0) = decide (o.z = 0) := by simp [inO]
 show (decide (o.i < n) && (if o.k = 2 then decide (o.j = 0) && decide ((inO o).z = 0)
   else if o.k = 1 then decide (o.j < n) && decide (o.i ≠ o.j) && decide ((inO o).z = 0)
   else decide (o.k = 3) && decide (o.j < n) && decide (o.i ≠ o.j))) = _
 rw [h]; rfl
theorem inL_valid {n : Nat} {l : List Opz} (h : ∀ o ∈ l, vO n o = true) : ∀ o ∈ inL l, vO n o = true := fun o ho => by
 simp only [inL, List.mem_map, List.mem_reverse] at ho
 obtain ⟨o', ho', rfl⟩ := ho
 rw [vO_inO]; exact h o' ho'
theorem inL_length (l : List Opz) : (inL l).length = l.length := by simp [inL]
theorem apO_inv {r c : Nat} {o : Opz} {m : List (List Int)} (h : vO r o = true) (hm : Mx r c m) : apO r c (inO o) (apO r c o m) = m := by
 refine mx_ext (apO_mx _ _ _ _) hm fun a b ha hb => ?_
 rw [el_apO ha hb, opF_congr (by rw [vO_inO]; exact h) ha fun a' ha' => el_apO ha' hb]
 obtain ⟨hi, hc⟩ := vO_ok h
 simp only [opF, inO]
 rcases hc with ⟨hk, _, _⟩ | ⟨hk, _, hne, _⟩ | ⟨hk, _, hne⟩
 · simp only [hk]
   by_cases he : a = o.i <;> simp [he]
 · simp only [hk, if_true]
   by_cases he : a = o.i
   · simp [he, Ne.symm hne]
   · by_cases hf : a = o.j
     · simp [hf, Ne.symm hne]
     · simp [he, hf]
 · simp only [hk]
   by_cases he : a = o.i
   · simp [he, Ne.symm hne, Int.neg_mul]; omega
   · simp [he]
theorem apL_inv {r c : Nat} : ∀ {l : List Opz} {m : List (List Int)}, (∀ o ∈ l, vO r o = true) → Mx r c m → apL r c (inL l) (apL r c l m) = m
 | [], _, _, _ => rfl
 | o :: l, m, h, hm => by
   have e : inL (o :: l) = inL l ++ [inO o] := by simp [inL]
   rw [e, apL_append]
   simp only [apL]
   rw [apL_inv (fun o' ho' => h o' (by simp [ho'])) (apO_mx _ _ _ _), apO_inv (h o (by simp)) hm]
theorem apO_bd {r c K : Nat} {o : Opz} {m : List (List Int)} (h : vO r o = true) (hz : o.z.natAbs ≤ 128) (hm : Mx r c m) (km : BdM K m) : BdM (129 * K) (apO r c o m) := table_bd fun a b ha hb => by
 obtain ⟨hi, _⟩ := vO_ok h
 have hj := vO_j h
 have e1 := el_bd hm km ha hb
 have e2 := el_bd hm km hi hb
 unfold opF
 by_cases h1 : o.k = 1
 · have e3 := el_bd hm km (hj (by omega)) hb
   simp only [h1, if_true]
   repeat' split
   all_goals omega
 · simp only [h1, if_false]
   by_cases h2 : o.k = 2
   · simp only [h2, if_true]
     repeat' split
     all_goals omega
   · have e3 := el_bd hm km (hj h2) hb
     simp only [h2, if_false]
     split
     · have e4 := mul_natAbs_le hz e3
       have := Int.natAbs_add_le (el m a b) (o.z * el m o.j b)
       omega
     · omega
theorem apL_bd {r c : Nat} : ∀ {l : List Opz} {K : Nat} {m : List (List Int)}, (∀ o ∈ l, vO r o = true ∧ o.z.natAbs ≤ 128) → Mx r c m → BdM K m → BdM (129 ^ l.length * K) (apL r c l m)
 | [], K, m, _, _, km => by simpa [apL] using km
 | o :: l, K, m, h, hm, km => by
   have := apL_bd (l := l) (fun o' ho' => h o' (by simp [ho'])) (apO_mx r c o m) (apO_bd (h o (by simp)).1 (h o (by simp)).2 hm km)
   rw [← Nat.mul_assoc, ← Nat.pow_succ] at this
   exact this
end Go.AM
/- From what a row's step is handed to what the machine reads: inputs of any form that is made of bools, integers, slices, structs and arrays. -/
namespace Go.AM
open Go.ChangeShapes Go.WideShapes Go.RowKit
inductive Sp where
 | b
 | i (k : IntKind)
 | sl (e : List Sp)
mutual
def DOK : Sp → D → Prop
 | .b, .bool _ => True
 | .i k, .int k' n => k' = k ∧ k.min ≤ n ∧ n ≤ k.max
 | .sl es, .sl l => l.length ≤ 9223372036854775807 ∧ ∀ x ∈ l, DOKL es x
 | _, _ => False
def DOKL : List Sp → List D → Prop
 | [], [] => True
 | s :: ss, d :: ds => DOK s d ∧ DOKL ss ds
 | _, _ => False
end
def exD : Sp → (D → Prop) → Prop
 | .b, K => ∃ b, K (.bool b)
 | .i k, K => ∃ n, (k.min ≤ n ∧ n ≤ k.max) ∧ K (.int k n)
 | .sl es, K => ∃ l, (l.length ≤ 9223372036854775807 ∧ ∀ x ∈ l, DOKL es x) ∧ K (.sl l)
def exDL : List Sp → (List D → Prop) → Prop
 | [], K => K []
 | s :: ss, K => exD s fun d => exDL ss fun ds => K (d :: ds)
theorem exD_of {s : Sp} {d : D} (h : DOK s d) {K : D → Prop} (hk : K d) : exD s K := by
 cases s <;> cases d <;> simp only [DOK] at h <;> first | exact h.elim | skip
 · exact ⟨_, hk⟩
 · obtain ⟨rfl, h1, h2⟩ := h; exact ⟨_, ⟨h1, h2⟩, hk⟩
 · exact ⟨_, h, hk⟩
theorem exDL_of : ∀ {ss : List Sp} {ds : List D}, DOKL ss ds → ∀ {K : List D → Prop}, K ds → exDL ss K
 | [], [], _, _, hk => hk
 | [], _ :: _, h, _, _ => by simp [DOKL] at h
 | _ :: _, [], h, _, _ => by simp [DOKL] at h
 | s :: ss, d :: ds, h, K, hk => by
   simp only [DOKL] at h
   exact exD_of h.1 (exDL_of h.2 hk)
theorem DOKL_append : ∀ {s1 s2 : List Sp} {d1 d2 : List D}, DOKL s1 d1 → DOKL s2 d2 → DOKL (s1 ++ s2) (d1 ++ d2)
 | [], _, [], _, _, h => h
 | [], _, _ :: _, _, h, _ => by simp [DOKL] at h
 | _ :: _, _, [], _, h, _ => by simp [DOKL] at h
 | s :: ss, _, d :: ds, _, h1, h2 => by
   simp only [DOKL] at h1
   simp only [List.cons_append, DOKL]
   exact ⟨h1.1, DOKL_append h1.2 h2⟩
theorem DOKL_length : ∀ {ss : List Sp} {ds : List D}, DOKL ss ds → ds.length = ss.length
 | [], [], _ => rfl
 | [], _ :: _, h => by simp [DOKL] at h
 | _ :: _, [], h => by simp [DOKL] at h
 | s :: ss, d :: ds, h => by simp only [DOKL] at h; simp [DOKL_length h.2]
theorem ints_of {k : IntKind} : ∀ {l : DL}, (∀ x ∈ l, DOKL [.i k] x) → ∃ zs : List Int, l = zs.map (fun n => [D.int k n]) ∧ ∀ z ∈ zs, k.min ≤ z ∧ z ≤ k.max
 | [], _ => ⟨[], rfl, fun _ h => by simp at h⟩
 | x :: l, h => by
   obtain ⟨zs, rfl, h2⟩ := ints_of (l := l) fun y hy => h y (by simp [hy])
   obtain ⟨n, h3, hx⟩ := exDL_of (h x (by simp)) (K := fun ds => x = ds) rfl
   exact ⟨n :: zs, by rw [hx]; rfl, fun z hz => by
     rcases List.mem_cons.1 hz with rfl | hz
     · exact h3
     · exact h2 z hz⟩
def shapeFs (sh : TypeId → Option (List Sp)) (P:Program) : List Field → Nat → Option (List Sp)
 | [], _ => some []
 | f :: fs, off =>
   match sh f.type with
   | some s => if f.offset == off && P.cellsOf f.type == s.length then (shapeFs sh P fs (off + s.length)).map (s ++ ·) else none
   | none => none
def shapeOf (P:Program) : Nat → TypeId → Option (List Sp)
 | 0, _ => none
 | n + 1, t =>
   match P.underlying t with
   | some .bool => some [.b]
   | some (.int k) => some [.i k]
   | some (.slice e) => match shapeOf P n e with
     | some es => if P.cellsOf e == es.length && !es.isEmpty then some [.sl es] else none
     | none => none
   | some (.struct fs) => match shapeFs (shapeOf P n) P fs.toList 0 with
     | some ss => if P.cellsOf t == ss.length then some ss else none
     | none => none
   | some (.array m e) => match shapeOf P n e with
     | some es => if P.cellsOf e == es.length && P.cellsOf t == m * es.length then some (List.replicate m es).flatten else none
     | none => none
   | _ => none
theorem cell_some' {w : World} {a : Addr} {v : Value} (h : w.cell? a = some v) : a.spot = none ∧ ∃ cs t fr, w.heap[a.block]? = some (.cells cs t fr) ∧ cs[a.off]? = some v := by
 unfold World.cell? at h
 split at h
 · rename_i cs t fr hb
   cases hs : a.spot with
   | none => rw [hs] at h; exact ⟨rfl, cs, t, fr, hb, by simpa using h⟩
   | some x => rw [hs] at h; simp at h
 · simp at h
def oldI (w:World) : Nat → Prop := fun b => b < w.heap.size
def RdL (w:World) (cs : List Value) (ds : List D) : Prop := cs.length = ds.length ∧ ∀ (i:Nat) v d, cs[i]? = some v → ds[i]? = some d → Reads w (oldI w) v d
theorem RdL.append {w : World} {c1 c2 : List Value} {d1 d2 : List D} (h1 : RdL w c1 d1) (h2 : RdL w c2 d2) : RdL w (c1 ++ c2) (d1 ++ d2) := by
 refine ⟨by simp [h1.1, h2.1], fun i v d hv hd => ?_⟩
 by_cases hi : i < c1.length
 · rw [List.getElem?_append_left hi] at hv
   rw [List.getElem?_append_left (h1.1 ▸ hi)] at hd
   exact h1.2 i v d hv hd
 · rw [List.getElem?_append_right (by omega)] at hv
   rw [List.getElem?_append_right (by have := h1.1; omega)] at hd
   exact h2.2 _ v d hv (h1.1 ▸ hd)
section
variable {H : Type} {enc : TypeId × Value → H} {P : Program} {w : World} {spare:Nat → Bool} {held : Bool}
theorem fields_read {sh : TypeId → Option (List Sp)} {n : Nat} (ih : ∀ t ss cs x, sh t = some ss → DataW.trod enc P w 0 spare held n t cs = some x → ∃ ds, DOKL ss ds ∧ RdL w cs ds) {cs : List Value} :
   ∀ (fs : List Field) (xs : List (DataW H × List MemPlace)) (off:Nat) (ss : List Sp), shapeFs sh P fs off = some ss → xs.length = fs.length →
     (∀ (i:Nat) (f : Field), fs[i]? = some f → DataW.trod enc P w 0 spare held n f.type ((cs.drop f.offset).take (P.cellsOf f.type)) = xs[i]?) → off + ss.length ≤ cs.length →
     ∃ ds, DOKL ss ds ∧ RdL w ((cs.drop off).take ss.length) ds
 | [], xs, off, ss, hs, _, _, _ => by
   simp only [shapeFs, Option.some.injEq] at hs; subst hs
   exact ⟨[], trivial, by simp [RdL]⟩
 | f :: fs, xs, off, ss, hs, hl, hx, hle => by
   simp only [shapeFs] at hs
   split at hs
   case h_2 => simp at hs
   rename_i s hsf
   split at hs
   case isFalse => simp at hs
   rename_i hc
   simp only [Bool.and_eq_true, beq_iff_eq] at hc
   simp only [Option.map_eq_some_iff] at hs
   obtain ⟨ss', hs', rfl⟩ := hs
   match xs, hl with
   | x :: xs, hl =>
     have h0 := hx 0 f rfl
     simp only [List.getElem?_cons_zero] at h0
     obtain ⟨d1, g1, g2⟩ := ih _ _ _ _ hsf h0
     rw [List.length_append] at hle
     obtain ⟨d2, g3, g4⟩ := fields_read ih fs xs (off + s.length) ss' hs' (by simpa using hl) (fun i f' hf => by simpa using hx (i + 1) f' (by simpa using hf)) (by omega)
     refine ⟨d1 ++ d2, DOKL_append g1 g3, ?_⟩
     rw [hc.1, hc.2] at g2
     have : (cs.drop off).take (s ++ ss').length = (cs.drop off).take s.length ++ (cs.drop (off + s.length)).take ss'.length := by
       rw [List.length_append, List.take_add, List.drop_drop]
     rw [this]
     exact g2.append g4
theorem array_read {n : Nat} {e : TypeId} {es : List Sp} (ih : ∀ cs x, DataW.trod enc P w 0 spare held n e cs = some x → ∃ ds, DOKL es ds ∧ RdL w cs ds) {cs : List Value} {xs : List (DataW H × List MemPlace)} :
   ∀ (k m:Nat), k + m ≤ xs.length → (∀ i, i < xs.length → DataW.trod enc P w 0 spare held n e ((cs.drop (i * es.length)).take es.length) = xs[i]?) → (k + m) * es.length ≤ cs.length →
     ∃ ds, DOKL (List.replicate k es).flatten ds ∧ RdL w ((cs.drop (m * es.length)).take (k * es.length)) ds
 | 0, m, _, _, _ => ⟨[], by simp [DOKL], by simp [RdL]⟩
 | k + 1, m, hk, hx, hle => by
   have h0 := hx m (by omega)
   rw [List.getElem?_eq_getElem (by omega)] at h0
   obtain ⟨d1, g1, g2⟩ := ih _ _ h0
   obtain ⟨d2, g3, g4⟩ := array_read ih k (m + 1) (by omega) hx (by rw [show k + (m + 1) = k + 1 + m by omega]; exact hle)
   refine ⟨d1 ++ d2, ?_, ?_⟩
   · rw [List.replicate_succ, List.flatten_cons]; exact DOKL_append g1 g3
   · have : (cs.drop (m * es.length)).take ((k + 1) * es.length) = (cs.drop (m * es.length)).take es.length ++ (cs.drop ((m + 1) * es.length)).take (k * es.length) := by
       rw [show (k + 1) * es.length = es.length + k * es.length by rw [Nat.add_mul]; omega, List.take_add, List.drop_drop, show m * es.length + es.length = (m + 1) * es.length by rw [Nat.add_mul]; omega]
     rw [this]
     exact g2.append g4
theorem shape_reads : ∀ (fuel n:Nat) (t : TypeId) (ss : List Sp) (cs : List Value) (x : DataW H × List MemPlace), shapeOf P n t = some ss → DataW.trod enc P w 0 spare held fuel t cs = some x →
   ∃ ds, DOKL ss ds ∧ RdL w cs ds := by
 intro fuel
 induction fuel with
 | zero => intro n t ss cs x _ h; simp [DataW.trod] at h
 | succ fuel ih =>
   intro n t ss cs x hs h
   cases n with
   | zero => simp [shapeOf] at hs
   | succ n =>
     simp only [shapeOf] at hs
     have one : ∀ {v : Value} {d : D} {s : Sp}, DOK s d → Reads w (oldI w) v d → ∃ ds, DOKL [s] ds ∧ RdL w [v] ds := fun {v d s} h1 h2 =>
       ⟨[d], ⟨h1, trivial⟩, rfl, fun i u e hu he => by
         match i, hu, he with
         | 0, hu, he => simp at hu he; subst hu; subst he; exact h2⟩
     split at hs
     · rename_i ht
       simp only [Option.some.injEq] at hs; subst hs
       obtain ⟨b, rfl, _⟩ := DataW.trod_bool ht h
       exact one (d := .bool b) trivial (.bool b)
     · rename_i k ht
       simp only [Option.some.injEq] at hs; subst hs
       obtain ⟨m, rfl, _, hw⟩ := DataW.trod_int ht h
       exact one (d := .int k m) ⟨rfl, by simpa [Lit.wf] using hw⟩ (.int k m)
     · rename_i e ht
       split at hs
       case h_2 => simp at hs
       rename_i es hes
       split at hs
       case isFalse => simp at hs
       rename_i hc
       simp only [Option.some.injEq] at hs; subst hs
       simp only [Bool.and_eq_true, beq_iff_eq, Bool.not_eq_true', List.isEmpty_eq_false_iff] at hc
       obtain ⟨hce, hne⟩ := hc
       have hpos : 0 < es.length := List.length_pos_iff.2 hne
       rcases DataW.trod_slice ht h with ⟨rfl, _⟩ | ⟨a, len, cap, elems, rest, m, hm, rfl, _, _, hl, hcap, hel, heach, _, _⟩
       · exact one (d := .sl []) ⟨by simp, fun _ h => by simp at h⟩ (.slnil none 0)
       simp only [Nat.add_right_cancel_iff] at hm; subst hm
       have each : ∀ i, i < len → ∃ ds, DOKL es ds ∧ ∀ j d, ds[j]? = some d → ∃ v, w.cell? ((a.add (i * es.length)).add j) = some v ∧ Reads w (oldI w) v d := fun i hi => by
         have h1 := heach i hi
         rw [List.getElem?_eq_getElem (by omega), Option.bind_eq_some_iff] at h1
         obtain ⟨cs', hcs, hy⟩ := h1
         obtain ⟨ds, g1, g2, g3⟩ := ih n e es cs' _ hes hy
         obtain ⟨_, k2, k3⟩ := World.cells?_some hcs
         refine ⟨ds, g1, fun j d hd => ?_⟩
         have hj : j < cs'.length := by
           rw [g2]
           rcases Nat.lt_or_ge j ds.length with h | h
           · exact h
           · rw [List.getElem?_eq_none h] at hd; simp at hd
         have := k3 j (by omega)
         rw [List.getElem?_eq_getElem hj, hce] at this
         exact ⟨_, this, g3 j _ d (List.getElem?_eq_getElem hj) hd⟩
       by_cases h0 : len = 0
       · subst h0; exact one (d := .sl []) ⟨by simp, fun _ h => by simp at h⟩ (.slnil _ _)
       have hch : ∃ f:Nat → List D, ∀ i, i < len → DOKL es (f i) ∧ ∀ j d, (f i)[j]? = some d → ∃ v, w.cell? ((a.add (i * es.length)).add j) = some v ∧ Reads w (oldI w) v d :=
         ⟨fun i => if hi : i < len then (each i hi).choose else [], fun i hi => by
           simp only [dif_pos hi]; exact (each i hi).choose_spec⟩
       obtain ⟨f, hf⟩ := hch
       have hcell : ∀ i j d, i < len → (f i)[j]? = some d → ∃ b off cs ty fr, a = ⟨b, off, none⟩ ∧ w.heap[b]? = some (.cells cs ty fr) ∧ ∃ v, cs[off + i * es.length + j]? = some v ∧ Reads w (oldI w) v d := fun i j d hi hd => by
         obtain ⟨v, hv, hr⟩ := (hf i hi).2 j d hd
         have h00 : ∃ v, w.cell? a = some v := by
           have hl0 := DOKL_length (hf 0 (by omega)).1
           obtain ⟨v, hv, _⟩ := (hf 0 (by omega)).2 0 ((f 0)[0]'(by omega)) (List.getElem?_eq_getElem (by omega))
           exact ⟨v, by simpa [Addr.add] using hv⟩
         obtain ⟨v0, hv0⟩ := h00
         obtain ⟨hsp, cs, ty, fr, hb, _⟩ := cell_some' hv0
         obtain ⟨b, off, spot⟩ := a
         simp only at hsp hb
         subst hsp
         refine ⟨b, off, cs, ty, fr, rfl, hb, v, ?_, hr⟩
         rw [show ((Addr.mk b off none).add (i * es.length)).add j = ⟨b, off + i * es.length + j, none⟩ by
           unfold Addr.add; by_cases h1 : i * es.length = 0 <;> by_cases h2 : j = 0 <;> simp [h1, h2]] at hv
         obtain ⟨_, cs', ty', fr', hb', hc'⟩ := cell_some' hv
         simp only at hb' hc'
         rw [hb] at hb'
         simp only [Option.some.injEq, Obj.cells.injEq] at hb'
         rw [hb'.1]; exact hc'
       have h0d := DOKL_length (hf 0 (by omega)).1
       obtain ⟨b, off, cs, ty, fr, ha, hb, _⟩ := hcell 0 0 ((f 0)[0]'(by omega)) (by omega) (List.getElem?_eq_getElem (by omega))
       subst ha
       have hlt : b < w.heap.size := by
         rcases Nat.lt_or_ge b w.heap.size with h | h
         · exact h
         · rw [Array.getElem?_eq_none h] at hb; simp at hb
       have hat : ∀ i j d, at2 ((List.range len).map f) i j = some d → i < len ∧ (f i)[j]? = some d := fun i j d hd => by
         simp only [at2, List.getElem?_map, Option.bind_eq_some_iff, Option.map_eq_some_iff] at hd
         obtain ⟨y, ⟨k, hk, rfl⟩, hd⟩ := hd
         have hkl : k = i ∧ i < len := by
           rcases Nat.lt_or_ge i len with h | h
           · rw [List.getElem?_range h, Option.some.injEq] at hk; exact ⟨hk.symm, h⟩
           · rw [List.getElem?_eq_none (by simpa using h)] at hk; simp at hk
         obtain ⟨rfl, hil⟩ := hkl
         exact ⟨hil, hd⟩
       have hval : ∀ i j d, i < len → (f i)[j]? = some d → ∃ v, cs[off + i * es.length + j]? = some v ∧ Reads w (oldI w) v d := fun i j d hi hd => by
         obtain ⟨b', off', cs', ty', fr', ha', hb', v, hv, hr⟩ := hcell i j d hi hd
         simp only [Addr.mk.injEq] at ha'
         obtain ⟨rfl, rfl, _⟩ := ha'
         rw [hb] at hb'
         simp only [Option.some.injEq, Obj.cells.injEq] at hb'
         exact ⟨v, by rw [hb'.1]; exact hv, hr⟩
       have hlen : ((List.range len).map f).length = len := by simp
       refine one (d := .sl ((List.range len).map f)) ⟨by rw [hlen]; unfold maxLen at hcap; omega, fun y hy => ?_⟩ ?_
       · simp only [List.mem_map, List.mem_range] at hy
         obtain ⟨i, hi, rfl⟩ := hy
         exact (hf i hi).1
       · have := Reads.sl (w := w) (I := oldI w) (b := b) (off := off) (cap := cap) (s := es.length) (cs := cs) (t := ty) (fr := fr) ((List.range len).map f) (fun i j => (cs[off + i * es.length + j]?).getD undef) hlt hb (fun y hy => by
           simp only [List.mem_map, List.mem_range] at hy
           obtain ⟨i, hi, rfl⟩ := hy
           exact DOKL_length (hf i hi).1) (by rw [hlen]; exact hl) (fun i j d hd => by
             obtain ⟨hi, hd'⟩ := hat i j d hd
             obtain ⟨v, hv, _⟩ := hval i j d hi hd'
             rw [hv]; rfl) (fun i j d hd => by
             obtain ⟨hi, hd'⟩ := hat i j d hd
             obtain ⟨v, hv, hr⟩ := hval i j d hi hd'
             rw [hv]; exact hr)
         rw [hlen] at this; exact this
     · rename_i fs ht
       split at hs
       case h_2 => simp at hs
       rename_i ss' hss
       split at hs
       case isFalse => simp at hs
       rename_i hc
       simp only [Option.some.injEq] at hs; subst hs
       simp only [beq_iff_eq] at hc
       obtain ⟨xs, m, hm, _, hl, hxl, hf⟩ := DataW.trod_struct ht h
       simp only [Nat.add_right_cancel_iff] at hm; subst hm
       obtain ⟨ds, g1, g2⟩ := fields_read (fun t ss cs x => ih n t ss cs x) (cs := cs) fs.toList xs 0 ss' hss (by simpa using hxl) (fun i f hi => hf i f (by simpa using hi)) (by omega)
       rw [List.drop_zero, ← hc, ← hl, List.take_length] at g2
       exact ⟨ds, g1, g2⟩
     · rename_i m e ht
       split at hs
       case h_2 => simp at hs
       rename_i es hes
       split at hs
       case isFalse => simp at hs
       rename_i hc
       simp only [Option.some.injEq] at hs; subst hs
       simp only [Bool.and_eq_true, beq_iff_eq] at hc
       obtain ⟨xs, q, hq, _, hl, hxl, hf⟩ := DataW.trod_array ht h
       simp only [Nat.add_right_cancel_iff] at hq; subst hq
       obtain ⟨ds, g1, g2⟩ := array_read (fun cs x => ih n e es cs x hes) (cs := cs) (xs := xs) m 0 (by omega) (fun i hi => by have := hf i (by omega); rwa [hc.1] at this) (by rw [Nat.add_zero, ← hc.2, hl]; exact Nat.le_refl _)
       rw [Nat.zero_mul, List.drop_zero, ← hc.2, ← hl, List.take_length] at g2
       exact ⟨ds, g1, g2⟩
     · simp at hs
def aggT (P:Program) (t : TypeId) : Bool :=
 match P.underlying t with
 | some (.struct _) | some (.array _ _) => true
 | _ => false
def argOf (b:Bool) (ds : List D) : V := bif b then .e (.agg (ds.map .dat)) else .e (.sc (.dat (ds.headD default)))
theorem open_arg {n : Nat} {t : TypeId} {b : Bool} {ss : List Sp} (hs : shapeOf P n t = some ss) (ha : aggT P t = b) (h1 : ss.length = 1 ∨ b = true) {base : Nat} {v : Value} (hok : Value.okWide P w .any base t v) {d : DataW H} {p : List MemPlace} (h : DataW.Trod enc P w 0 spare held t v d p) :
   exDL ss fun ds => RelV w (oldI w) [] v (argOf b ds) := by
 obtain ⟨fuel, hf⟩ := h
 obtain ⟨ds, g1, g2, g3⟩ := shape_reads fuel n t ss _ _ hs hf
 refine exDL_of g1 ?_
 unfold aggT at ha
 have agg : ∀ {cs : Array Value}, v = .agg cs → b = true → RelV w (oldI w) [] v (argOf b ds) := fun {cs} hv hb => by
   subst hv; subst hb
   refine ⟨cs, rfl, by simpa [Value.cells] using g2, fun i u s hu hs => ?_⟩
   simp only [List.getElem?_map, Option.map_eq_some_iff] at hs
   obtain ⟨d, hd, rfl⟩ := hs
   exact g3 i u d (by simpa [Value.cells] using hu) hd
 split at ha
 · rename_i fs ht
   obtain ⟨cs, hv, _⟩ := okWide_struct ht hok
   exact agg hv ha.symm
 · rename_i m e ht
   unfold Value.okWide at hok
   rw [ht] at hok
   obtain ⟨cs, hv, _⟩ := hok
   exact agg hv ha.symm
 · rename_i hn1 hn2
   subst ha
   have hl : ds.length = 1 := by rw [DOKL_length g1]; rcases h1 with h | h; exact h; simp at h
   have hv : v.cells.toList = [v] := by
     cases n with
     | zero => simp [shapeOf] at hs
     | succ n =>
       simp only [shapeOf] at hs
       split at hs
       · rename_i ht; obtain ⟨_, rfl⟩ := okWide_bool ht hok; rfl
       · rename_i ht; obtain ⟨_, rfl⟩ := okWide_int ht hok; rfl
       · rename_i ht; obtain ⟨_, _, _, rfl⟩ := okWide_slice ht hok; rfl
       · rename_i ht; exact (hn1 _ ht).elim
       · rename_i ht; exact (hn2 _ _ ht).elim
       · simp at hs
   match ds, hl with
   | [d], _ => exact g3 0 v d (by rw [hv]; rfl) rfl
end
theorem sim_old (w:World) : SimH (oldI w) [] [] w := SimH.nil fun _ h => h
theorem law_end {P : Program} {k : FuncId} {args : List V} (hf : FnD P k args (.e (.sc (.dat (.bool true)))) []) {w : World} {vs : List Value} (hr : RelVL w (oldI w) [] vs args) :
   Calls P k vs.toArray w fun e w' => e = .returned (.bool true) ∧ Below w.heap.size w w' := by
 refine (hf.2 (oldI w) [] w vs (sim_old w) hr).mono ?_
 rintro e w' ⟨v, r, h', I', M', he, ⟨rfl, rfl⟩, hrel, _, hext, _, _⟩
 have hv := relV_bool hrel
 subst hv
 refine ⟨he, hext.os, hext.tape, hext.output, hext.size, fun k hk => hext.heap k hk ?_⟩
 rintro ⟨o, ho⟩
 simp [fpAt] at ho
theorem relVL_nil (w:World) (I:Nat → Prop) (M:Mem) : RelVL w I M [] [] := ⟨rfl, fun i v x h => by simp at h⟩
theorem relVL_cons {w : World} {I:Nat → Prop} {M : Mem} {v : Value} {x : V} {vs : List Value} {xs : List V} (h : RelV w I M v x) (t : RelVL w I M vs xs) : RelVL w I M (v :: vs) (x :: xs) :=
 ⟨by simp [t.1], fun i u y hu hy => by
   match i, hu, hy with
   | 0, hu, hy => simp at hu hy; subst hu; subst hy; exact h
   | i + 1, hu, hy => exact t.2 i u y (by simpa using hu) (by simpa using hy)⟩
end Go.AM
/- What the functions of package matrix' reference answer: sums, multiples, products, blocks, picking. -/
namespace Go.AM
open Go.Proofs.Try
theorem om_len {r c : Nat} {g:Nat → Nat → Int} : (om (table r c g)).length = r := by simp [om_length, table]
theorem at2_om {r c : Nat} {g:Nat → Nat → Int} {i j : Nat} (hi : i < r) (hj : j < c) : at2 (om (table r c g)) i j = some (cI (g i j)) := by
 simp [at2, om, table, hi, row, tableR, hj]
theorem sz_le {z : Int} {K : Nat} (h : z.natAbs ≤ K) (hK : K ≤ 1329227995784915872903807060280344576) : Sz z := sz_of (Nat.le_trans h (Nat.le_trans hK (by decide)))
theorem m5scale_ok {r c K : Nat} {a : List (List Int)} {k : Int} (ha : Mx r c a) (ka : BdM K a) (hk : k.natAbs ≤ 1329227995784915872903807060280344576) (hr : r ≤ 4294967296) (hc : c ≤ 4294967296) (hK : K ≤ 1329227995784915872903807060280344576) :
   FnD prog 64 [eM r c a, eI k] (eMo r c) (oM (table r c fun i j => el a i j * k)) := by
 refine vc64_ok _ _ _ _ _ (R := OutM r c _) ?_
 unfold vc64
 obtain ⟨f, hf⟩ : ∃ f:Nat → Nat → Int, f = fun i j => el a i j * k := ⟨_, rfl⟩
 refine ⟨_, _, _, rnew_ok hr hc, fun o t => ∃ i : Nat, t = (i:Int) ∧ i ≤ r ∧ o = om (table r c (gF f i 0)), fun _ t => ((r:Int) - t).toNat, ⟨0, rfl, by omega, gF_zero f⟩, ?_⟩
 rintro _ _ ⟨i, rfl, hi, rfl⟩
 refine ⟨fun h => ?_, fun h => outM ?_⟩
 · have hir : i < r := by simpa using h
   refine ⟨fun o t => ∃ j : Nat, t = (j:Int) ∧ j ≤ c ∧ o = om (table r c (gF f i j)), fun _ t => ((c:Int) - t).toNat, ⟨0, rfl, by omega, rfl⟩, ?_⟩
   rintro _ _ ⟨j, rfl, hj, rfl⟩
   refine ⟨fun h2 => ?_, fun h2 => ?_⟩
   · have hjc : j < c := by simpa using h2
     obtain ⟨e1, e2, e3, e4⟩ := read_el ha hir hjc
     have hb := el_bd ha ka hir hjc
     refine ⟨_, _, _, decide (f i j < 0), lim (dz (f i j)), ⟨by omega, by rw [om_len]; omega⟩, ⟨by omega, e4⟩, e1, ⟨by omega, e3⟩, e2, ?_, om_in hir hjc, ?_⟩
     · subst hf; exact rmul_ok (sz_le hb hK) (sz_le hk (Nat.le_refl _))
     rw [inc64 (by omega)]
     refine ⟨⟨j + 1, rfl, by omega, ?_⟩, by show ((c:Int) - ((j + 1:Nat) : Int)).toNat < ((c:Int) - (j:Int)).toNat; omega⟩
     rw [Int.toNat_natCast, Int.toNat_natCast]
     exact gF_step hir hjc
   · have hjc : c ≤ j := by simpa using h2
     rw [inc64 (by omega)]
     exact ⟨⟨i + 1, rfl, by omega, gF_next fun b h1 h2 => by omega⟩, by show ((r:Int) - ((i + 1:Nat) : Int)).toNat < ((r:Int) - (i:Int)).toNat; omega⟩
 · have hir : i = r := by have : r ≤ i := by simpa using h
                          omega
   subst hir
   subst hf
   exact gF_all
theorem m5copied_ok {r c K : Nat} {a : List (List Int)} (ha : Mx r c a) (ka : BdM K a) (hr : r ≤ 4294967296) (hc : c ≤ 4294967296) (hK : K ≤ 1329227995784915872903807060280344576) :
   FnD prog 66 [eM r c a] (eMo r c) (oM a) := by
 refine vc66_ok _ _ _ (R := OutM r c _) ?_
 unfold vc66
 refine ⟨_, _, _, _, _, rof_ok 1 (by decide) (by decide), m5scale_ok ha ka (by decide) hr hc hK, outM ?_⟩
 congr 1
 refine Eq.trans (table_congr fun i j _ _ => ?_) (mx_table ha).symm
 rw [Int.mul_one]
theorem outME {r c e : Int} {m : List (List Int)} {o : DL} (h : o = rows m) : Out (eME r c m e) (V.tup [(E.agg [S.dat (D.int .i64 r), S.dat (D.int .i64 c), S.dat (D.sl o)]), E.sc (S.dat (D.int .i64 e))]) [] := by subst h; exact ⟨rfl, rfl⟩
end Go.AM
/- The law of the ring of matrices. -/
namespace Go.AM
open Go.Proofs.Try
theorem i8s_of {l : DL} (h : l.length ≤ 9223372036854775807 ∧ ∀ x ∈ l, DOKL [.i .i8] x) : ∃ zs : List Int, l = i8s zs ∧ ∀ z ∈ zs, -128 ≤ z ∧ z ≤ 127 := by
 obtain ⟨zs, h1, h2⟩ := ints_of h.2
 exact ⟨zs, h1, h2⟩
end Go.AM
/- What the functions of package matrix, and of its reference, answer: comparing, picking, blocks of the reference. -/
namespace Go.AM
open Go.Proofs.Try
theorem rawmade_ok {x y : Int} (v : List Int) (hx : 0 ≤ x) (hy : 0 ≤ y) : ∃ r c : Nat, r ≤ 4 ∧ c ≤ 4 ∧
   FnD prog 15 [.e (.agg [.dat (.int .u8 x), .dat (.int .u8 y), .dat (.sl (i8s v))])] (eMo r c) (oM (table r c (fillG c v))) := by
 obtain ⟨r, e0, b0⟩ := mod5 hx
 obtain ⟨c, e1, b1⟩ := mod5 hy
 refine ⟨r, c, b0, b1, ?_⟩
 refine vc15_ok _ _ _ (R := OutM r c _) ?_
 unfold vc15
 rw [e0, e1]
 exact ⟨_, _, _, by decide, filled_ok (by omega) (by omega), outM rfl⟩
end Go.AM
/- What functions of the program come to: group Oa. Printed by vc.py. -/
set_option maxRecDepth 100000
set_option linter.unusedVariables false
namespace Go.AM
open Go.Proofs.Try
def vc76o (rows cols:Int) (f:FuncId) (fc : List D) (R:V → Heap → Prop) : Prop :=
 (0 ≤ rows ∧ rows ≤ rows ∧ rows * (24:Nat) ≤ 281474976710656) ∧
 (∃ (J0 : (DLL) → Int → Prop) (μ0 : (DLL) → Int → Nat),
 J0 (List.replicate (rows).toNat ([] : DL)) (0:Int) ∧ ∀ (o2 : DLL) (t16:Int),J0 o2 t16 →
 (decide (t16 < rows) = true →
 (0 ≤ cols ∧ cols ≤ cols ∧ cols * (32:Nat) ≤ 281474976710656) ∧
 (0 ≤ t16 ∧ t16 < (o2.length:Int)) ∧
 (∃ (J1 : (DLL) → Int → Prop) (μ1 : (DLL) → Int → Nat),
 J1 (o2.set (t16).toNat (List.replicate (cols).toNat [dB false,dL ([] : DL)])) (0:Int) ∧ ∀ (o21 : DLL) (t26:Int),J1 o21 t26 →
 (decide (t26 < cols) = true →
 ∃ (r0:Bool) (r1 : DL),
 (0 ≤ t16 ∧ t16 < (o21.length:Int)) ∧
 (FnD prog f ([vD (dI t16),vD (dI t26)] ++ fc.map dV) (vA [sD (dB r0),sD (dL r1)]) []) ∧
 (∃ l,o21[(t16).toNat]? = some l ∧ 0 ≤ t26 ∧ t26 < (l.length:Int)) ∧
 (J1 (o21.modify (t16).toNat (fun qz => qz.set (t26).toNat [dB r0,dL r1])) (IntKind.i64.wrap (t26 + (1:Int))) ∧ μ1 (o21.modify (t16).toNat (fun qz => qz.set (t26).toNat [dB r0,dL r1])) (IntKind.i64.wrap (t26 + (1:Int))) < μ1 o21 t26)) ∧
 (decide (t26 < cols) = false →
 J0 o21 (IntKind.i64.wrap (t16 + (1:Int))) ∧ μ0 o21 (IntKind.i64.wrap (t16 + (1:Int))) < μ0 o2 t16))) ∧
 (decide (t16 < rows) = false →
 R (vA [sD (dI rows),sD (dI cols),S.ref 0]) [some (Obj.mat 2 o2)]))
theorem vc76o_ok (rows cols:Int) (f:FuncId) (fc : List D) {R:V → Heap → Prop} (h : vc76o rows cols f fc R) : FnG prog 76 [vD (dI rows),vD (dI cols),vD (D.fn (.func f) fc)] [] R :=
 FnG.vcg hT func76 ntmps76 (.reg 1 [(0,Or.none,0,1)] [0,1,2,6] [0] [] <| .reg 2 [(3,Or.none,1,1),(5,Or.none,2,1)] [0,1,2,6,7] [0,2,1] [] <| .r1 [1,2,6,7,15,16] [0,1,2] <| .lp [.m,.i] (fun o2 t16 => ⟨[(1,vD (dI cols)),(2,vD (D.fn (.func f) fc)),(6,vP 0 0),(7,vP 1 0),(15,vD (dI rows)),(16,vD (dI t16))],[some (Obj.box [sD (dI (0:Int)),sD (dI (0:Int)),sD (D.raw (.slice none 0 0))]),some (Obj.box [sD (dI rows),sD (dI cols),S.ref 2]),some (Obj.mat 2 o2)],43⟩) [.m (List.replicate (rows).toNat ([] : DL)),.i (0:Int)] <| .fm fun o2 => .fi fun t16 => .beg <| .r1 [1,2,6,7,15,16,17] [0,1,2] <| .c2 (.r1 [1,2,6,7,8,15,16] [0,1,2] <| .drw 2 [(4,(Or.none,3,1),[3]),(6,(Or.none,4,1),[2,3,4])] [1,2,6,7,8,15,16] [0,1,2,4] [] <| .fwd [] [1] <| .viw [1,2,6,7,8,15,16] [0,1,3] <| .r1 [1,2,6,7,8,15,16,25,26] [0,1,2] <| .lp [.m,.i] (fun o21 t26 => ⟨[(1,vD (dI cols)),(2,vD (D.fn (.func f) fc)),(6,vP 0 0),(7,vP 1 0),(8,vD (dI t16)),(15,vD (dI rows)),(16,vD (dI t16)),(25,vD (dI cols)),(26,vD (dI t26))],[some (Obj.box [sD (dI (0:Int)),sD (dI (0:Int)),sD (D.raw (.slice none 0 0))]),some (Obj.box [sD (dI rows),sD (dI cols),S.ref 2]),some (Obj.mat 2 o21)],43⟩) [.m (o2.set (t16).toNat (List.replicate (cols).toNat [dB false,dL ([] : DL)])),.i (0:Int)] <| .fm fun o21 => .fi fun t26 => .beg <| .r1 [1,2,6,7,8,15,16,25,26,27] [0,1,2] <| .c2 (.r1 [1,2,6,7,8,9,15,16,25,26] [0,1,2] <| .exb fun r0 => .exl fun r1 => .drw 0 [(9,(Or.call (vA [sD (dB r0),sD (dL r1)]) [] [],0,0),[]),(11,(Or.none,0,0),[2])] [1,2,6,7,8,15,16,25,26] [0,1,2] [] <| .r1 [1,2,6,7,8,15,16,25,26] [0,1,2] <| .bk 0 [.m (o21.modify (t16).toNat (fun qz => qz.set (t26).toNat [dB r0,dL r1])),.i (IntKind.i64.wrap (t26 + (1:Int)))]) (.r1 [1,2,6,7,15,16] [0,1,2] <| .bk 1 [.m o21,.i (IntKind.i64.wrap (t16 + (1:Int)))])) (.r1 [6] [0,2] <| .ret [1]))
   (by kernel_rfl) (by kernel_rfl) (by kernel_rfl) h
def vc63o (a0 a1:Int) (a2 : DL) (k0:Bool) (k1 : DL) (R:V → Heap → Prop) : Prop :=
 ∃ (r0 r1:Int) (rrows : DLL),
 (FnD prog 76 [vD (dI a0),vD (dI a1),vD (D.fn (.func 112) [D.box [dB k0,dL k1],D.box [dI a0,dI a1,dL a2]])] (vA [sD (dI r0),sD (dI r1),S.ref 0]) [some (Obj.mat 2 rrows)]) ∧
 (R (vA [sD (dI r0),sD (dI r1),S.ref 0]) [some (Obj.mat 2 rrows)])
theorem vc63o_ok (a0 a1:Int) (a2 : DL) (k0:Bool) (k1 : DL) {R:V → Heap → Prop} (h : vc63o a0 a1 a2 k0 k1 R) : FnG prog 63 [vA [sD (dI a0),sD (dI a1),sD (dL a2)],vA [sD (dB k0),sD (dL k1)]] [] R :=
 FnG.vcg hT func63 ntmps63 (.reg 3 [(0,Or.none,0,1),(1,Or.none,1,1),(2,Or.none,2,1)] [2,3,4] [0,1,2] [] <| .frz [0,1] <| .ex fun r0 => .ex fun r1 => .exm fun rrows => .reg 1 [(5,Or.call (vA [sD (dI r0),sD (dI r1),S.ref 0]) [some (Obj.mat 2 rrows)] [],3,1)] [4] [2,3] [] <| .ret [1])
   (by kernel_rfl) (by kernel_rfl) (by kernel_rfl) h
def vc97 (a0 a1:Int) (a2 : DL) (R:V → Heap → Prop) : Prop :=
 ∃ (r0:Bool) (r1 : DL) (r01 r11:Int) (rrows : DLL),
 (FnD prog 108 [vD (dI (1:Int))] (vA [sD (dB r0),sD (dL r1)]) []) ∧
 (FnD prog 63 [vA [sD (dI a0),sD (dI a1),sD (dL a2)],vA [sD (dB r0),sD (dL r1)]] (vA [sD (dI r01),sD (dI r11),S.ref 0]) [some (Obj.mat 2 rrows)]) ∧
 (R (vA [sD (dI r01),sD (dI r11),S.ref 0]) [some (Obj.mat 2 rrows)])
theorem vc97_ok (a0 a1:Int) (a2 : DL) {R:V → Heap → Prop} (h : vc97 a0 a1 a2 R) : FnG prog 97 [vA [sD (dI a0),sD (dI a1),sD (dL a2)]] [] R :=
 FnG.vcg hT func97 ntmps97 (.reg 2 [(0,Or.none,0,1),(1,Or.none,1,1)] [1,2] [0,1] [] <| .exb fun r0 => .exl fun r1 => .ex fun r01 => .ex fun r11 => .exm fun rrows => .drw 1 [(1,(Or.call (vA [sD (dB r0),sD (dL r1)]) [] [],0,0),[]),(2,(Or.call (vA [sD (dI r01),sD (dI r11),S.ref 0]) [some (Obj.mat 2 rrows)] [],2,1),[2]),(3,(Or.none,0,0),[1])] [2] [1,2] [] <| .ret [1])
   (by kernel_rfl) (by kernel_rfl) (by kernel_rfl) h
def vc98  (R:V → Heap → Prop) : Prop :=
 R (vA [sD (D.raw (.nilFunc)),sD (D.fn (.func 138) ([] : List D)),sD (D.fn (.func 139) ([] : List D)),sD (D.fn (.func 140) ([] : List D))]) []
theorem vc98_ok  {R:V → Heap → Prop} (h : vc98  R) : FnG prog 98 [] [] R :=
 FnG.vcg hT func98 ntmps98 (.reg 1 [(0,Or.none,0,1)] [0] [0] [] <| .r1 [0] [0] <| .ret [])
   (by kernel_rfl) (by kernel_rfl) (by kernel_rfl) h
def vc138 (a : DLL) (x0 x1 x2:Int) (x3:Bool) (x4 : DL) (R:V → Heap → Prop) : Prop :=
 (0 ≤ x2 ∧ x2 < (a.length:Int)) ∧
 (0 ≤ x1 ∧ x1 < (a.length:Int)) ∧
 ((x2).toNat = (x2).toNat) ∧
 ((x1).toNat = (x1).toNat) ∧
 (R (V.tup []) [some (Obj.fwd (S.ref 1)),some (Obj.mat 2 (swapR a ((x1).toNat) ((x2).toNat)))])
theorem vc138_ok (a : DLL) (x0 x1 x2:Int) (x3:Bool) (x4 : DL) {R:V → Heap → Prop} (h : vc138 a x0 x1 x2 x3 x4 R) : FnG prog 138 [V.e (E.sc (S.ref 0)),vA [sD (dI x0),sD (dI x1),sD (dI x2),sD (dB x3),sD (dL x4)]] [some (Obj.mat 2 a)] R :=
 FnG.vcg hT func138 ntmps138 (.reg 1 [(0,Or.none,1,1)] [0,3] [0,1] [] <| .drw 1 [(17,(Or.none,0,0),[0]),(19,(Or.none,2,1),[0,2])] [] [0,2] [.new,.new,.old 0,.old 1] <| .fwd [] [] <| .ret [0,1])
   (by kernel_rfl) (by kernel_rfl) (by kernel_rfl) h
def vc139 (a : DLL) (x0 x1 x2:Int) (x3:Bool) (x4 : DL) (R:V → Heap → Prop) : Prop :=
 (0 ≤ x1 ∧ x1 < (a.length:Int)) ∧
 (∃ (J0 : (DLL) → Int → Prop) (μ0 : (DLL) → Int → Nat),
 J0 a (0:Int) ∧ ∀ (a1 : DLL) (t12:Int),J0 a1 t12 →
 ((decide (t12 < ((a.getD (x1).toNat ([] : DL)).length:Int))) = true →
 ∃ (x01:Bool) (x11 : DL),
 (∃ l,a1[(x1).toNat]? = some l ∧ 0 ≤ t12 ∧ t12 < (l.length:Int)) ∧
 (at2 a1 (x1).toNat (t12).toNat = some [dB x01,dL x11]) ∧
 (∃ (r0:Bool) (r1 : DL),
 (0 ≤ x1 ∧ x1 < (a1.length:Int)) ∧
 (FnD prog 100 [vA [sD (dB x01),sD (dL x11)]] (vA [sD (dB r0),sD (dL r1)]) []) ∧
 (J0 (a1.modify (x1).toNat (fun qz => qz.set (t12).toNat [dB r0,dL r1])) (IntKind.i64.wrap (t12 + (1:Int))) ∧ μ0 (a1.modify (x1).toNat (fun qz => qz.set (t12).toNat [dB r0,dL r1])) (IntKind.i64.wrap (t12 + (1:Int))) < μ0 a1 t12))) ∧
 ((decide (t12 < ((a.getD (x1).toNat ([] : DL)).length:Int))) = false →
 R (V.tup []) [some (Obj.fwd (S.ref 1)),some (Obj.mat 2 a1)]))
theorem vc139_ok (a : DLL) (x0 x1 x2:Int) (x3:Bool) (x4 : DL) {R:V → Heap → Prop} (h : vc139 a x0 x1 x2 x3 x4 R) : FnG prog 139 [V.e (E.sc (S.ref 0)),vA [sD (dI x0),sD (dI x1),sD (dI x2),sD (dB x3),sD (dL x4)]] [some (Obj.mat 2 a)] R :=
 FnG.vcg hT func139 ntmps139 (.reg 1 [(0,Or.none,1,1)] [0,3] [0,1] [] <| .r1 [0,3,10,11,12] [0,1] <| .lp [.m,.i] (fun a1 t12 => ⟨[(0,vR 0),(3,vP 1 0),(10,V.e (E.sc (S.row 0 (x1).toNat))),(11,vD (dI ((a.getD (x1).toNat ([] : DL)).length:Int))),(12,vD (dI t12))],[some (Obj.mat 2 a1),some (Obj.box [sD (dI x0),sD (dI x1),sD (dI x2),sD (dB x3),sD (dL x4)])],27⟩) [.m a,.i (0:Int)] <| .fm fun a1 => .fi fun t12 => .beg <| .r1 [0,3,10,11,12,13] [0,1] <| .c2 (.exb fun x01 => .exl fun x11 => .reg 1 [(2,Or.cells [dB x01,dL x11],0,0),(3,Or.none,2,1)] [0,3,4,5,10,11,12] [0,1,2] [] <| .exb fun r0 => .exl fun r1 => .drw 0 [(7,(Or.call (vA [sD (dB r0),sD (dL r1)]) [] [],0,0),[]),(9,(Or.none,0,0),[0])] [0,3,10,11,12] [0,1] [.new,.new,.old 3] <| .r1 [0,3,10,11,12] [0,1] <| .bk 0 [.m (a1.modify (x1).toNat (fun qz => qz.set (t12).toNat [dB r0,dL r1])),.i (IntKind.i64.wrap (t12 + (1:Int)))]) (.mv 0 <| .ret [0,2]))
   (by kernel_rfl) (by kernel_rfl) (by kernel_rfl) h
def vc140 (a : DLL) (x0 x1 x2:Int) (x3:Bool) (x4 : DL) (R:V → Heap → Prop) : Prop :=
 (0 ≤ x2 ∧ x2 < (a.length:Int)) ∧
 (∃ (J0 : (DLL) → Int → Prop) (μ0 : (DLL) → Int → Nat),
 J0 a (0:Int) ∧ ∀ (a1 : DLL) (t12:Int),J0 a1 t12 →
 ((decide (t12 < ((a.getD (x2).toNat ([] : DL)).length:Int))) = true →
 ∃ (x01:Bool) (x11 : DL),
 (∃ l,a1[(x2).toNat]? = some l ∧ 0 ≤ t12 ∧ t12 < (l.length:Int)) ∧
 (at2 a1 (x2).toNat (t12).toNat = some [dB x01,dL x11]) ∧
 (∃ (x02:Bool) (x12 : DL) (r0:Bool) (r1 : DL) (r01:Bool) (r11 : DL),
 (0 ≤ x1 ∧ x1 < (a1.length:Int)) ∧
 (∃ l,a1[(x1).toNat]? = some l ∧ 0 ≤ t12 ∧ t12 < (l.length:Int)) ∧
 (at2 a1 (x1).toNat (t12).toNat = some [dB x02,dL x12]) ∧
 (FnD prog 113 [vA [sD (dB x3),sD (dL x4)],vA [sD (dB x01),sD (dL x11)]] (vA [sD (dB r0),sD (dL r1)]) []) ∧
 (FnD prog 106 [vA [sD (dB x02),sD (dL x12)],vA [sD (dB r0),sD (dL r1)]] (vA [sD (dB r01),sD (dL r11)]) []) ∧
 (J0 (a1.modify (x1).toNat (fun qz => qz.set (t12).toNat [dB r01,dL r11])) (IntKind.i64.wrap (t12 + (1:Int))) ∧ μ0 (a1.modify (x1).toNat (fun qz => qz.set (t12).toNat [dB r01,dL r11])) (IntKind.i64.wrap (t12 + (1:Int))) < μ0 a1 t12))) ∧
 ((decide (t12 < ((a.getD (x2).toNat ([] : DL)).length:Int))) = false →
 R (V.tup []) [some (Obj.fwd (S.ref 1)),some (Obj.mat 2 a1)]))
theorem vc140_ok (a : DLL) (x0 x1 x2:Int) (x3:Bool) (x4 : DL) {R:V → Heap → Prop} (h : vc140 a x0 x1 x2 x3 x4 R) : FnG prog 140 [V.e (E.sc (S.ref 0)),vA [sD (dI x0),sD (dI x1),sD (dI x2),sD (dB x3),sD (dL x4)]] [some (Obj.mat 2 a)] R :=
 FnG.vcg hT func140 ntmps140 (.reg 1 [(0,Or.none,1,1)] [0,3] [0,1] [] <| .r1 [0,3,10,11,12] [0,1] <| .lp [.m,.i] (fun a1 t12 => ⟨[(0,vR 0),(3,vP 1 0),(10,V.e (E.sc (S.row 0 (x2).toNat))),(11,vD (dI ((a.getD (x2).toNat ([] : DL)).length:Int))),(12,vD (dI t12))],[some (Obj.mat 2 a1),some (Obj.box [sD (dI x0),sD (dI x1),sD (dI x2),sD (dB x3),sD (dL x4)])],38⟩) [.m a,.i (0:Int)] <| .fm fun a1 => .fi fun t12 => .beg <| .r1 [0,3,10,11,12,13] [0,1] <| .c2 (.exb fun x01 => .exl fun x11 => .reg 1 [(2,Or.cells [dB x01,dL x11],0,0),(3,Or.none,2,1)] [0,3,4,5,10,11,12] [0,1,2] [] <| .exb fun x02 => .exl fun x12 => .exb fun r0 => .exl fun r1 => .exb fun r01 => .exl fun r11 => .drw 0 [(13,(Or.cells [dB x02,dL x12],0,0),[]),(17,(Or.call (vA [sD (dB r0),sD (dL r1)]) [] [],0,0),[]),(18,(Or.call (vA [sD (dB r01),sD (dL r11)]) [] [],0,0),[]),(20,(Or.none,0,0),[0])] [0,3,10,11,12] [0,1] [.new,.old 0,.new,.new,.new,.new,.old 3] <| .r1 [0,3,10,11,12] [0,1] <| .bk 0 [.m (a1.modify (x1).toNat (fun qz => qz.set (t12).toNat [dB r01,dL r11])),.i (IntKind.i64.wrap (t12 + (1:Int)))]) (.mv 0 <| .ret [0,2]))
   (by kernel_rfl) (by kernel_rfl) (by kernel_rfl) h
def vc45 (l : DL) (a0 a1:Int) (a2 : DL) (R:V → Heap → Prop) : Prop :=
 ∃ (r:Bool),
 (FnD prog 96 [vD (dL l),vD (dI a0)] (vD (dB r)) []) ∧
 (((!r) = true →
 R (V.tup [E.agg [sD (dI (0:Int)),sD (dI (0:Int)),sD (dL ([] : DL))],eD (dI (180:Int))]) []) ∧
 ((!r) = false →
 ∃ (r0 r1:Int) (rrows : DLL),
 (FnD prog 97 [vA [sD (dI a0),sD (dI a1),sD (dL a2)]] (vA [sD (dI r0),sD (dI r1),S.ref 0]) [some (Obj.mat 2 rrows)]) ∧
 (FnD prog 98 [] (vA [sD (D.raw (.nilFunc)),sD (D.fn (.func 138) ([] : List D)),sD (D.fn (.func 139) ([] : List D)),sD (D.fn (.func 140) ([] : List D))]) []) ∧
 (∃ (J0 : (DLL) → Int → Prop) (μ0 : (DLL) → Int → Nat),
 J0 rrows (0:Int) ∧ ∀ (o3 : DLL) (t21:Int),J0 o3 t21 →
 (decide (t21 < (l.length:Int)) = true →
 ∃ (x0 x1 x2:Int) (x3:Bool) (x4 : DL),
 (0 ≤ t21 ∧ t21 < (l.length:Int)) ∧
 (l[(t21).toNat]? = some [dI x0,dI x1,dI x2,dB x3,dL x4]) ∧
 (∃ (q:FuncId) (qc : List D) (m : DLL),
 (0 ≤ x0 ∧ x0 < ((4:Nat) : Int)) ∧
 (([sD (D.raw (.nilFunc)),sD (D.fn (.func 138) ([] : List D)),sD (D.fn (.func 139) ([] : List D)),sD (D.fn (.func 140) ([] : List D))] : List S)[0 + (x0).toNat * 1]? = some (sD (D.fn (.func q) qc))) ∧
 (FnO prog q ([V.e (E.sc (S.ref 0)),vA [sD (dI x0),sD (dI x1),sD (dI x2),sD (dB x3),sD (dL x4)]] ++ (qc.map dV).map (V.map (rnS [4]))) [some (Obj.mat 2 o3)] (V.tup []) [some (Obj.fwd (S.ref 1)),some (Obj.mat 2 m)]) ∧
 (J0 m (IntKind.i64.wrap (t21 + (1:Int))) ∧ μ0 m (IntKind.i64.wrap (t21 + (1:Int))) < μ0 o3 t21))) ∧
 (decide (t21 < (l.length:Int)) = false →
 R (V.tup [E.agg [sD (dI r0),sD (dI r1),sD (dL (matD o3))],eD (dI (0:Int))]) []))))
theorem vc45_ok (l : DL) (a0 a1:Int) (a2 : DL) {R:V → Heap → Prop} (h : vc45 l a0 a1 a2 R) : FnG prog 45 [vD (dL l),vA [sD (dI a0),sD (dI a1),sD (dL a2)]] [] R :=
 FnG.vcg hT func45 ntmps45 (.reg 2 [(0,Or.none,0,1),(1,Or.none,1,1)] [0,3,4] [0,1] [] <| .exb fun r => .reg 0 [(3,Or.call (vD (dB r)) [] [],0,0)] [0,3,4,14] [0,1] [] <| .c2 (.r1 [4,5] [1] <| .nrm [4,5] [0] <| .ret []) (.ex fun r0 => .ex fun r1 => .exm fun rrows => .reg 3 [(1,Or.call (vA [sD (dI r0),sD (dI r1),S.ref 0]) [some (Obj.mat 2 rrows)] [],2,1),(2,Or.call (vA [sD (D.raw (.nilFunc)),sD (D.fn (.func 138) ([] : List D)),sD (D.fn (.func 139) ([] : List D)),sD (D.fn (.func 140) ([] : List D))]) [] [],0,0),(3,Or.none,3,1),(4,Or.none,4,1)] [0,4,6,7] [1,3,4,2] [] <| .r1 [4,6,7,19,20,21] [0,1,2,3] <| .lp [.m,.i] (fun o3 t21 => ⟨[(4,vP 0 0),(6,vP 1 0),(7,vP 2 0),(19,vD (dL l)),(20,vD (dI (l.length:Int))),(21,vD (dI t21))],[some (Obj.box [sD (dI (0:Int)),sD (dI (0:Int)),sD (D.raw (.slice none 0 0))]),some (Obj.box [sD (dI r0),sD (dI r1),S.ref 3]),some (Obj.box [sD (D.raw (.nilFunc)),sD (D.fn (.func 138) ([] : List D)),sD (D.fn (.func 139) ([] : List D)),sD (D.fn (.func 140) ([] : List D))]),some (Obj.mat 2 o3)],35⟩) [.m rrows,.i (0:Int)] <| .fm fun o3 => .fi fun t21 => .beg <| .r1 [4,6,7,19,20,21,22] [0,1,2,3] <| .c2 (.ex fun x0 => .ex fun x1 => .ex fun x2 => .exb fun x3 => .exl fun x4 => .reg 1 [(1,Or.cells [dI x0,dI x1,dI x2,dB x3,dL x4],0,0),(2,Or.none,4,1)] [4,6,7,9,19,20,21] [0,1,2,4,3] [] <| .exf fun q => .exd fun qc => .exm fun m => .drw 1 [(3,(Or.cell (sD (D.fn (.func q) qc)),0,0),[]),(7,(Or.callO [4] (V.tup []) [some (Obj.fwd (S.ref 1)),some (Obj.mat 2 m)],5,1),[4,5])] [4,6,7,19,20,21] [0,1,2,4,5] [] <| .fwd [] [1] <| .viw [4,6,7,19,20,21] [0,1,2,4] <| .r1 [4,6,7,19,20,21] [0,1,2,3] <| .bk 0 [.m m,.i (IntKind.i64.wrap (t21 + (1:Int)))]) (.r1 [4,5] [0,3] <| .frz [1] <| .ret [])))
   (by kernel_rfl) (by kernel_rfl) (by kernel_rfl) h
end Go.AM
/- oplog.Apply: the operations on a matrix of one's own. -/
namespace Go.AM
open Go.Proofs.Try
theorem part_om {r c : Nat} {g:Nat → Nat → Int} : part r c g r = om (table r c g) := by
 unfold part om table
 rw [List.map_map]
 apply List.map_congr_left
 intro k hk
 simp [List.mem_range.1 hk]
theorem build_own {r c : Nat} (hr : r ≤ 4294967296) (hc : c ≤ 4294967296) {f : FuncId} {fc : List D} {g:Nat → Nat → Int}
   (hf : ∀ i j : Nat, i < r → j < c → FnD prog f ([vi i, vi j] ++ fc.map dV) (eI (g i j)) []) :
   FnD prog 76 [vi r, vi c, .e (.sc (.dat (.fn (.func f) fc)))] (eMo r c) (oM (table r c g)) := by
 refine vc76o_ok r c f fc (R := OutM r c _) ?_
 unfold vc76o
 refine ⟨⟨by omega, by omega, by omega⟩, fun o t => ∃ i : Nat, t = (i:Int) ∧ i ≤ r ∧ o = part r c g i, fun _ t => ((r:Int) - t).toNat, ⟨0, rfl, by omega, ?_⟩, ?_⟩
 · unfold part
   rw [Int.toNat_natCast]
   have : (fun k => if k < 0 then row (tableR c (g k)) else ([] : DL)) = fun _ => [] := by funext k; simp
   rw [this, List.map_const']; simp
 rintro _ _ ⟨i, rfl, hi, rfl⟩
 have hlen : ∀ i, (part r c g i).length = r := fun i => by simp [part]
 refine ⟨fun h => ?_, fun h => ?_⟩
 · have hir : i < r := by simpa using h
   refine ⟨⟨by omega, by omega, by omega⟩, ⟨by omega, by rw [hlen]; omega⟩, fun o t => ∃ j : Nat, t = (j:Int) ∧ j ≤ c ∧ o = (part r c g i).set i (row (partR c (g i) j)), fun _ t => ((c:Int) - t).toNat, ⟨0, rfl, by omega, ?_⟩, ?_⟩
   · rw [Int.toNat_natCast, Int.toNat_natCast, partR_zero]
   rintro _ _ ⟨j, rfl, hj, rfl⟩
   refine ⟨fun h2 => ?_, fun h2 => ?_⟩
   · have hjc : j < c := by simpa using h2
     refine ⟨decide (g i j < 0), lim (dz (g i j)), ⟨by omega, by simp [hlen]; omega⟩, hf i j hir hjc, ⟨row (partR c (g i) j), by rw [Int.toNat_natCast]; simp [hlen, hir], by omega, by simp [row_length, partR]; omega⟩, ?_⟩
     rw [inc64 (by omega)]
     refine ⟨⟨j + 1, rfl, by omega, ?_⟩, by show ((c:Int) - ((j + 1:Nat) : Int)).toNat < ((c:Int) - (j:Int)).toNat; omega⟩
     rw [Int.toNat_natCast, Int.toNat_natCast]
     have e1 : ((part r c g i).set i (row (partR c (g i) j))).modify i (fun q => q.set j [D.bool (decide (g i j < 0)), D.sl (lim (dz (g i j)))]) = (part r c g i).set i ((row (partR c (g i) j)).set j (cI (g i j))) := by
       apply List.ext_getElem?
       intro k
       rw [List.getElem?_modify]
       by_cases hk : i = k
       · subst hk; simp [hlen, hir]; rfl
       · simp [hk, List.getElem?_set_ne hk]
     rw [e1, partR_set c (g i) j hjc]
   · have hjc : j = c := by have : c ≤ j := by simpa using h2
                            omega
     subst hjc
     rw [inc64 (by omega)]
     refine ⟨⟨i + 1, rfl, by omega, ?_⟩, by show ((r:Int) - ((i + 1:Nat) : Int)).toNat < ((r:Int) - (i:Int)).toNat; omega⟩
     rw [partR_all, part_set r j g i hir]
 · have hir : i = r := by have : r ≤ i := by simpa using h
                          omega
   subst hir
   exact outM part_om
theorem mscale_own {r c K : Nat} {a : List (List Int)} {k : Int} (ha : Mx r c a) (ka : BdM K a) (hk : k.natAbs ≤ 1329227995784915872903807060280344576) (hr : r ≤ 4294967296) (hc : c ≤ 4294967296) (hK : K ≤ 1329227995784915872903807060280344576) :
   FnD prog 63 [eM r c a, eI k] (eMo r c) (oM (table r c fun i j => el a i j * k)) := by
 refine vc63o_ok _ _ _ _ _ (R := OutM r c _) ?_
 unfold vc63o
 refine ⟨_, _, _, build_own hr hc (g := fun i j => el a i j * k) fun i j hi hj => ?_, outM rfl⟩
 refine vc112_ok _ _ _ _ _ _ _ (R := Out _) ?_
 unfold vc112
 obtain ⟨e1, e2, e3, e4⟩ := read_el ha hi hj
 have := mul_ok (x := k) (y := el a i j) (sz_le hk (Nat.le_refl _)) (sz_le (el_bd ha ka hi hj) hK)
 rw [Int.mul_comm] at this
 exact ⟨_, _, _, _, _, ⟨by omega, e4⟩, e1, ⟨by omega, e3⟩, e2, this, rfl, rfl⟩
theorem copied_own {r c K : Nat} {a : List (List Int)} (ha : Mx r c a) (ka : BdM K a) (hr : r ≤ 4294967296) (hc : c ≤ 4294967296) (hK : K ≤ 1329227995784915872903807060280344576) :
   FnD prog 97 [eM r c a] (eMo r c) (oM a) := by
 refine vc97_ok _ _ _ (R := OutM r c _) ?_
 unfold vc97
 refine ⟨_, _, _, _, _, of_ok 1 (by decide) (by decide), mscale_own ha ka (by decide) hr hc hK, outM ?_⟩
 congr 1
 refine Eq.trans (table_congr fun i j _ _ => ?_) (mx_table ha).symm
 rw [Int.mul_one]
def oE (o:Opz) : V := vA [sD (dI o.k), sD (dI o.i), sD (dI o.j), sD (dB (decide (o.z < 0))), sD (dL (lim (digs o.z.natAbs)))]
def EffM (m : List (List Int)) : V → Heap → Prop := fun v h => v = .tup [] ∧ h = [some (.fwd (.ref 1)), some (.mat 2 (om m))]
theorem effM {m : List (List Int)} {o : DLL} (h : o = om m) : EffM m (.tup []) [some (.fwd (.ref 1)), some (.mat 2 o)] := by subst h; exact ⟨rfl, rfl⟩
theorem om_get {r c : Nat} {m : List (List Int)} (hm : Mx r c m) {i : Nat} (hi : i < r) : (om m)[i]? = some (row (m.getD i [])) := by
 have : i < m.length := by rw [hm.1]; exact hi
 simp [om, this]
theorem swap_ok {r c : Nat} {o : Opz} {m : List (List Int)} (h : vO r o = true) (hk : o.k = 1) (hm : Mx r c m) : FnG prog 138 [vR 0, oE o] [some (.mat 2 (om m))] (EffM (apO r c o m)) := by
 obtain ⟨hi, _⟩ := vO_ok h
 have hj := vO_j h (by omega)
 refine vc138_ok _ _ _ _ _ _ (R := EffM _) ?_
 unfold vc138
 have hl : (om m).length = r := by rw [om_length, hm.1]
 refine ⟨⟨by omega, by omega⟩, ⟨by omega, by omega⟩, rfl, rfl, effM ?_⟩
 rw [Int.toNat_natCast, Int.toNat_natCast]
 rw [mx_table hm]
 unfold swapR apO
 apply List.ext_getElem?
 intro k
 have hlen : (om (table r c (el m))).length = r := om_len
 have hg : ∀ a, a < r → (om (table r c (el m))).getD a [] = row (tableR c (el m a)) := fun a ha => by
   simp [om, table, ha]
 have hF : ∀ a, a < r → (om (table r c (opF o (el (table r c (el m))))))[a]? = some (row (tableR c (opF o (el (table r c (el m))) a))) := fun a ha => by
   simp [om, table, ha]
 have hE : ∀ a b, a < r → b < c → el (table r c (el m)) a b = el m a b := fun a b ha hb => el_table ha hb
 have hrow : ∀ {f g:Nat → Int}, (∀ b, b < c → f b = g b) → tableR c f = tableR c g := fun hfg => List.map_congr_left fun b hb => hfg b (List.mem_range.1 hb)
 by_cases hkr : k < r
 · rw [hF k hkr, hg _ hi, hg _ hj]
   by_cases e1 : o.j = k
   · subst e1
     rw [List.getElem?_set_self (by simp [hlen]; exact hj)]
     congr 2
     refine hrow fun b hb => ?_
     by_cases e2 : o.j = o.i
     · simp only [opF, hk, if_true, e2]; rw [hE _ _ hi hb]
     · simp only [opF, hk, if_true, if_neg e2]; rw [hE _ _ hi hb]
   · rw [List.getElem?_set_ne e1]
     by_cases e2 : o.i = k
     · subst e2
       rw [List.getElem?_set_self (by rw [hlen]; exact hi)]
       congr 2
       refine hrow fun b hb => ?_
       simp only [opF, hk, if_true]; rw [hE _ _ hj hb]
     · rw [List.getElem?_set_ne e2]
       have : (om (table r c (el m)))[k]? = some (row (tableR c (el m k))) := by simp [om, table, hkr]
       rw [this]
       congr 2
       refine hrow fun b hb => ?_
       simp only [opF, hk, if_true, if_neg (Ne.symm e2), if_neg (Ne.symm e1)]; rw [hE _ _ hkr hb]
 · rw [List.getElem?_eq_none (by simp [hlen]; omega), List.getElem?_eq_none (by rw [om_len]; omega)]
def rF (o:Opz) (f:Nat → Nat → Int) (t:Nat) (a b:Nat) : Int := if a = o.i ∧ b < t then opF o f a b else f a b
theorem rF_zero {r c : Nat} {o : Opz} {m : List (List Int)} (hm : Mx r c m) : om m = om (table r c (rF o (el m) 0)) := by
 congr 1
 refine Eq.trans (mx_table hm) (table_congr fun a b _ _ => ?_)
 simp [rF]
theorem rF_step {r c : Nat} {o : Opz} {f:Nat → Nat → Int} {t : Nat} (hi : o.i < r) (ht : t < c) : (om (table r c (rF o f t))).modify o.i (fun q => q.set t (cI (opF o f o.i t))) = om (table r c (rF o f (t + 1))) := by
 refine Eq.trans (om_set hi ht) ?_
 congr 1
 refine table_congr fun a b _ _ => ?_
 unfold rF
 by_cases h1 : a = o.i ∧ b = t
 · rw [if_pos h1, if_pos (by omega), h1.1, h1.2]
 · rw [if_neg h1]
   by_cases h2 : a = o.i ∧ b < t
   · rw [if_pos h2, if_pos (by omega)]
   · rw [if_neg h2, if_neg (by omega)]
theorem rF_all {r c : Nat} {o : Opz} {m : List (List Int)} (hk : o.k ≠ 1) : om (table r c (rF o (el m) c)) = om (apO r c o m) := by
 unfold apO
 congr 1
 refine table_congr fun a b _ hb => ?_
 unfold rF
 by_cases h : a = o.i
 · rw [if_pos ⟨h, hb⟩]
 · rw [if_neg (by omega)]
   unfold opF
   simp [hk, h]
theorem neg138_ok {r c : Nat} {o : Opz} {m : List (List Int)} (h : vO r o = true) (hk : o.k = 2) (hm : Mx r c m) (hc : c ≤ 4294967296) : FnG prog 139 [vR 0, oE o] [some (.mat 2 (om m))] (EffM (apO r c o m)) := by
 obtain ⟨hi, _⟩ := vO_ok h
 refine vc139_ok _ _ _ _ _ _ (R := EffM _) ?_
 unfold vc139
 have hl : (om m).length = r := by rw [om_length, hm.1]
 have hlen : ((om m).getD ((o.i:Int)).toNat ([] : DL)).length = c := by
   rw [Int.toNat_natCast, List.getD_eq_getElem?_getD, om_get hm hi]
   simp only [Option.getD_some, row_length]
   have h1 : o.i < m.length := by rw [hm.1]; exact hi
   have h3 : m.getD o.i [] = m[o.i] := by simp [h1]
   rw [h3]; exact hm.2 _ (List.getElem_mem _)
 rw [hlen]
 refine ⟨⟨by omega, by omega⟩, fun a t => ∃ n : Nat, t = (n:Int) ∧ n ≤ c ∧ a = om (table r c (rF o (el m) n)), fun _ t => ((c:Int) - t).toNat, ⟨0, rfl, by omega, rF_zero hm⟩, ?_⟩
 rintro _ _ ⟨n, rfl, hn, rfl⟩
 refine ⟨fun h2 => ?_, fun h2 => ?_⟩
 · have hnc : n < c := by simpa using h2
   have e : rF o (el m) n (o.i:Int).toNat (n:Int).toNat = el m o.i n := by rw [Int.toNat_natCast, Int.toNat_natCast]; unfold rF; rw [if_neg (by omega)]
   have e2 : opF o (el m) o.i n = - el m o.i n := by simp [opF, hk]
   refine ⟨_, _, om_in hi hnc, at2_om hi hnc, _, _, ⟨by omega, by rw [om_len]; omega⟩, neg_ok _, ?_⟩
   rw [e, ← e2, inc64 (by omega)]
   refine ⟨⟨n + 1, rfl, by omega, ?_⟩, by show ((c:Int) - ((n + 1:Nat) : Int)).toNat < ((c:Int) - (n:Int)).toNat; omega⟩
   rw [Int.toNat_natCast, Int.toNat_natCast]
   exact rF_step hi hnc
 · have hnc : n = c := by have : c ≤ n := by simpa using h2
                          omega
   subst hnc
   exact effM (rF_all (by omega))
theorem add138_ok {r c K : Nat} {o : Opz} {m : List (List Int)} (h : vO r o = true) (hk : o.k = 3) (hm : Mx r c m) (km : BdM K m) (hz : o.z.natAbs ≤ 128) (hK : 129 * K ≤ 497323236409786642155382248146820840100456150797347717440463976893159497012533375533056)
   (hc : c ≤ 4294967296) : FnG prog 140 [vR 0, oE o] [some (.mat 2 (om m))] (EffM (apO r c o m)) := by
 obtain ⟨hi, _⟩ := vO_ok h
 have hj := vO_j h (by omega)
 have hne : o.i ≠ o.j := by
   rcases (vO_ok h).2 with h | h | h
   · omega
   · omega
   · exact h.2.2
 refine vc140_ok _ _ _ _ _ _ (R := EffM _) ?_
 unfold vc140
 have hl : (om m).length = r := by rw [om_length, hm.1]
 have hlen : ((om m).getD ((o.j:Int)).toNat ([] : DL)).length = c := by
   rw [Int.toNat_natCast, List.getD_eq_getElem?_getD, om_get hm hj]
   simp only [Option.getD_some, row_length]
   have h1 : o.j < m.length := by rw [hm.1]; exact hj
   have h3 : m.getD o.j [] = m[o.j] := by simp [h1]
   rw [h3]; exact hm.2 _ (List.getElem_mem _)
 rw [hlen]
 refine ⟨⟨by omega, by omega⟩, fun a t => ∃ n : Nat, t = (n:Int) ∧ n ≤ c ∧ a = om (table r c (rF o (el m) n)), fun _ t => ((c:Int) - t).toNat, ⟨0, rfl, by omega, rF_zero hm⟩, ?_⟩
 rintro _ _ ⟨n, rfl, hn, rfl⟩
 refine ⟨fun h2 => ?_, fun h2 => ?_⟩
 · have hnc : n < c := by simpa using h2
   have e : rF o (el m) n (o.i:Int).toNat (n:Int).toNat = el m o.i n := by rw [Int.toNat_natCast, Int.toNat_natCast]; unfold rF; rw [if_neg (by omega)]
   have e' : rF o (el m) n (o.j:Int).toNat (n:Int).toNat = el m o.j n := by rw [Int.toNat_natCast, Int.toNat_natCast]; unfold rF; rw [if_neg (by omega)]
   have e2 : opF o (el m) o.i n = el m o.i n + o.z * el m o.j n := by simp [opF, hk]
   have b1 := el_bd hm km hi hnc
   have b2 := el_bd hm km hj hnc
   have b3 := mul_natAbs_le hz b2
   have f1 := mul_ok (x := o.z) (y := el m o.j n) (sz_of (by omega)) (sz_of (by omega))
   have f2 := add_ok (x := el m o.i n) (y := o.z * el m o.j n) (sz_of (by omega)) (sz_of (by omega))
   rw [← e2] at f2
   refine ⟨_, _, om_in hj hnc, at2_om hj hnc, _, _, _, _, _, _, ⟨by omega, by rw [om_len]; omega⟩, om_in hi hnc, at2_om hi hnc, by rw [e']; exact f1, by rw [e]; exact f2, ?_⟩
   rw [inc64 (by omega)]
   refine ⟨⟨n + 1, rfl, by omega, ?_⟩, by show ((c:Int) - ((n + 1:Nat) : Int)).toNat < ((c:Int) - (n:Int)).toNat; omega⟩
   rw [Int.toNat_natCast, Int.toNat_natCast]
   exact rF_step hi hnc
 · have hnc : n = c := by have : c ≤ n := by simpa using h2
                          omega
   subst hnc
   exact effM (rF_all (by omega))
end Go.AM
