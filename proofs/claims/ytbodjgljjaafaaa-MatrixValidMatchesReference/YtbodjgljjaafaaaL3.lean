/- What functions of the program come to: group R5. Printed by vc.py. -/
import Derived.Test.YtbodjgljjaafaaaL2
import Derived.ChangeSlices
import Derived.OpenShut
import Derived.RowKit
import Derived.WideShapes
set_option maxRecDepth 100000
set_option linter.unusedVariables false

namespace Go.AM
open Go.Proofs.Try

/- f33 torsion/torsionref05.New -/
def vc33 (rows : Int) (cols : Int) (R : V → Heap → Prop) : Prop :=
  ∃ (J0 : (List (List (List D))) → Int → Prop) (μ0 : (List (List (List D))) → Int → Nat),
  J0 ([] : List (List (List D))) (0 : Int) ∧ ∀ (a : List (List (List D))) (i : Int), J0 a i →
    ((decide (i < rows)) = true →
      (0 ≤ cols ∧ cols ≤ cols ∧ cols * (32 : Nat) ≤ 281474976710656) ∧
      ((a.length + ([(List.replicate (cols).toNat [(dB false), (dL ([] : List (List D)))])] : List (List (List D))).length) * 24 ≤ 140737488355328) ∧
      (J0 (a ++ [(List.replicate (cols).toNat [(dB false), (dL ([] : List (List D)))])]) (IntKind.i64.wrap (i + (1 : Int))) ∧ μ0 (a ++ [(List.replicate (cols).toNat [(dB false), (dL ([] : List (List D)))])]) (IntKind.i64.wrap (i + (1 : Int))) < μ0 a i)) ∧
    ((decide (i < rows)) = false →
      R (vA [(sD (dI rows)), (sD (dI cols)), (S.ref 0)]) [(some (Obj.mat 2 a))])

theorem vc33_ok (rows : Int) (cols : Int) {R : V → Heap → Prop} (h : vc33 rows cols R) : FnG prog 33 [(vD (dI rows)), (vD (dI cols))] [] R :=
  FnG.vcg hT func33 ntmps33 (.reg 1 [(0, Or.none, 0, 1)] [0, 1, 4] [0] [] <| .reg 1 [(0, (Or.bool true), 1, 1)] [0, 1, 4, 5] [0, 1] [] <| .r1 [0, 1, 4, 5, 6] [0, 1] <| .lp [.m, .i] (fun a i => ⟨[(0, (vD (dI rows))), (1, (vD (dI cols))), (4, (vP 0 0)), (5, (vR 1)), (6, (vD (dI i)))], [(some (Obj.box [(sD (dI (0 : Int))), (sD (dI (0 : Int))), (sD (D.raw (.slice none 0 0)))])), (some (Obj.mat 2 a))], 22⟩) [.m ([] : List (List (List D))), .i (0 : Int)] <| .fm fun a => .fi fun i => .beg <| .r1 [0, 1, 4, 5, 6, 10] [0, 1] <| .c2 (.reg 3 [(2, Or.none, 2, 1), (3, (Or.bool true), 3, 1), (4, Or.none, 4, 1)] [0, 1, 4, 5, 6] [0, 4] [] <| .r1 [0, 1, 4, 5, 6] [0, 1] <| .bk 0 [.m (a ++ [(List.replicate (cols).toNat [(dB false), (dL ([] : List (List D)))])]), .i (IntKind.i64.wrap (i + (1 : Int)))]) (.r1 [4] [0, 1] <| .ret [1]))
    (by kernel_rfl) (by kernel_rfl) (by kernel_rfl) h

/- f49 torsion/torsionref05.Identity -/
def vc49 (n : Int) (R : V → Heap → Prop) : Prop :=
  ∃ (r0 : Int) (r1 : Int) (rrows : List (List (List D))),
  (FnD prog 33 [(vD (dI n)), (vD (dI n))] (vA [(sD (dI r0)), (sD (dI r1)), (S.ref 0)]) [(some (Obj.mat 2 rrows))]) ∧
  (∃ (J0 : (List (List (List D))) → Int → Prop) (μ0 : (List (List (List D))) → Int → Nat),
  J0 rrows (0 : Int) ∧ ∀ (o2 : List (List (List D))) (i : Int), J0 o2 i →
    ((decide (i < n)) = true →
      ∃ (r01 : Bool) (r11 : List (List D)),
      (0 ≤ i ∧ i < (o2.length : Int)) ∧
      (FnD prog 16 [(vD (dI (1 : Int)))] (vA [(sD (dB r01)), (sD (dL r11))]) []) ∧
      (∃ l, o2[(i).toNat]? = some l ∧ 0 ≤ i ∧ i < (l.length : Int)) ∧
      (J0 (o2.modify (i).toNat (fun r => r.set (i).toNat [(dB r01), (dL r11)])) (IntKind.i64.wrap (i + (1 : Int))) ∧ μ0 (o2.modify (i).toNat (fun r => r.set (i).toNat [(dB r01), (dL r11)])) (IntKind.i64.wrap (i + (1 : Int))) < μ0 o2 i)) ∧
    ((decide (i < n)) = false →
      R (vA [(sD (dI r0)), (sD (dI r1)), (S.ref 0)]) [(some (Obj.mat 2 o2))]))

theorem vc49_ok (n : Int) {R : V → Heap → Prop} (h : vc49 n R) : FnG prog 49 [(vD (dI n))] [] R :=
  FnG.vcg hT func49 ntmps49 (.reg 1 [(0, Or.none, 0, 1)] [0, 2] [0] [] <| .ex fun r0 => .ex fun r1 => .exm fun rrows => .reg 2 [(2, (Or.call (vA [(sD (dI r0)), (sD (dI r1)), (S.ref 0)]) [(some (Obj.mat 2 rrows))] []), 1, 1), (3, Or.none, 2, 1)] [0, 2, 3] [0, 2, 1] [] <| .r1 [0, 2, 3, 4] [0, 1, 2] <| .lp [.m, .i] (fun o2 i => ⟨[(0, (vD (dI n))), (2, (vP 0 0)), (3, (vP 1 0)), (4, (vD (dI i)))], [(some (Obj.box [(sD (dI (0 : Int))), (sD (dI (0 : Int))), (sD (D.raw (.slice none 0 0)))])), (some (Obj.box [(sD (dI r0)), (sD (dI r1)), (S.ref 2)])), (some (Obj.mat 2 o2))], 22⟩) [.m rrows, .i (0 : Int)] <| .fm fun o2 => .fi fun i => .beg <| .r1 [0, 2, 3, 4, 10] [0, 1, 2] <| .c2 (.exb fun r01 => .exl fun r11 => .drw 0 [(6, ((Or.call (vA [(sD (dB r01)), (sD (dL r11))]) [] []), 0, 0), []), (8, (Or.none, 0, 0), [2])] [0, 2, 3, 4] [0, 1, 2] [] <| .r1 [0, 2, 3, 4] [0, 1, 2] <| .bk 0 [.m (o2.modify (i).toNat (fun r => r.set (i).toNat [(dB r01), (dL r11)])), .i (IntKind.i64.wrap (i + (1 : Int)))]) (.r1 [2] [0, 2] <| .ret [1]))
    (by kernel_rfl) (by kernel_rfl) (by kernel_rfl) h

/- f75 torsion/torsionref05.ValidVec -/
def vc75 (v : List (List D)) (R : V → Heap → Prop) : Prop :=
  ∃ (J0 : Int → Prop) (μ0 : Int → Nat),
  J0 (0 : Int) ∧ ∀ (i : Int), J0 i →
    ((decide (i < (v.length : Int))) = true →
      ∃ (x0 : Bool) (x1 : List (List D)) (r : Bool),
      (0 ≤ i ∧ i < (v.length : Int)) ∧
      (v[(i).toNat]? = some [(dB x0), (dL x1)]) ∧
      (FnD prog 127 [(vA [(sD (dB x0)), (sD (dL x1))])] (vD (dB r)) []) ∧
      (((!r) = true →
        R (vD (dB false)) []) ∧
      ((!r) = false →
        J0 (IntKind.i64.wrap (i + (1 : Int))) ∧ μ0 (IntKind.i64.wrap (i + (1 : Int))) < μ0 i))) ∧
    ((decide (i < (v.length : Int))) = false →
      R (vD (dB true)) [])

theorem vc75_ok (v : List (List D)) {R : V → Heap → Prop} (h : vc75 v R) : FnG prog 75 [(vD (dL v))] [] R :=
  FnG.vcg hT func75 ntmps75 (.r0 [0] <| .r0 [0, 3] <| .lp [.i] (fun i => ⟨[(0, (vD (dL v))), (3, (vD (dI i)))], [], 16⟩) [.i (0 : Int)] <| .fi fun i => .beg <| .r0 [0, 3, 7] <| .c2 (.exb fun x0 => .exl fun x1 => .exb fun r => .reg 0 [(3, (Or.cells [(dB x0), (dL x1)]), 0, 0), (4, (Or.call (vD (dB r)) [] []), 0, 0)] [0, 3, 15] [] [] <| .c2 (.r0 [2] <| .ret []) (.r0 [0, 3] <| .bk 0 [.i (IntKind.i64.wrap (i + (1 : Int)))])) (.r0 [2] <| .ret []))
    (by kernel_rfl) (by kernel_rfl) (by kernel_rfl) h

/- f18 torsion/torsionref05.Valid -/
def vc18 (a0 : Int) (a1 : Int) (a2 : List (List D)) (R : V → Heap → Prop) : Prop :=
  ((decide (a0 < (0 : Int))) = true →
    R (vD (dB false)) []) ∧
  ((decide (a0 < (0 : Int))) = false →
    ((decide (a1 < (0 : Int))) = true →
      R (vD (dB false)) []) ∧
    ((decide (a1 < (0 : Int))) = false →
      (((a2.length : Int) != a0) = true →
        R (vD (dB false)) []) ∧
      (((a2.length : Int) != a0) = false →
        ∃ (J0 : Int → Prop) (μ0 : Int → Nat),
        J0 (0 : Int) ∧ ∀ (i : Int), J0 i →
          ((decide (i < (a2.length : Int))) = true →
            ∃ (vx : List (List D)),
            (0 ≤ i ∧ i < (a2.length : Int)) ∧
            (a2[(i).toNat]? = some [(dL vx)]) ∧
            ((((vx.length : Int) != a1) = true →
              R (vD (dB false)) []) ∧
            (((vx.length : Int) != a1) = false →
              ∃ (r : Bool),
              (FnD prog 75 [(vD (dL vx))] (vD (dB r)) []) ∧
              (((!r) = true →
                R (vD (dB false)) []) ∧
              ((!r) = false →
                J0 (IntKind.i64.wrap (i + (1 : Int))) ∧ μ0 (IntKind.i64.wrap (i + (1 : Int))) < μ0 i))))) ∧
          ((decide (i < (a2.length : Int))) = false →
            R (vD (dB true)) []))))

theorem vc18_ok (a0 : Int) (a1 : Int) (a2 : List (List D)) {R : V → Heap → Prop} (h : vc18 a0 a1 a2 R) : FnG prog 18 [(vA [(sD (dI a0)), (sD (dI a1)), (sD (dL a2))])] [] R :=
  FnG.vcg hT func18 ntmps18 (.reg 1 [(0, Or.none, 0, 1)] [1] [0] [] <| .spl ((decide (a0 < (0 : Int)))) (.reg 0 [(3, (Or.bool true), 0, 0)] [1, 19] [0] [.old 0] <| .ct true none <| .r0 [2] <| .ret []) (.spl ((decide (a1 < (0 : Int)))) (.reg 0 [(3, (Or.bool false), 0, 0), (8, (Or.bool true), 0, 0)] [1, 19] [0] [.old 1, .old 0] <| .ct true none <| .r0 [2] <| .ret []) (.reg 0 [(3, (Or.bool false), 0, 0), (8, (Or.bool false), 0, 0)] [1, 19] [0] [.old 1, .old 0] <| .c2 (.r0 [2] <| .ret []) (.r1 [1, 3] [0] <| .lp [.i] (fun i => ⟨[(1, (vP 0 0)), (3, (vD (dI i)))], [(some (Obj.box [(sD (dI a0)), (sD (dI a1)), (sD (dL a2))]))], 45⟩) [.i (0 : Int)] <| .fi fun i => .beg <| .r1 [1, 3, 24] [0] <| .c2 (.exl fun vx => .ob (0 ≤ i ∧ i < (a2.length : Int)) <| .ob (a2[(i).toNat]? = some [(dL vx)]) <| .spl (((vx.length : Int) != a1)) (.drw 0 [(4, ((Or.cells [(dL vx)]), 0, 0), []), (9, ((Or.bool true), 0, 0), [])] [1, 3, 44] [0] [.old 2, .old 1, .old 0] <| .ct true none <| .r0 [2] <| .ret []) (.exb fun r => .drw 0 [(4, ((Or.cells [(dL vx)]), 0, 0), []), (9, ((Or.bool false), 0, 0), []), (14, ((Or.cells [(dL vx)]), 0, 0), []), (15, ((Or.call (vD (dB r)) [] []), 0, 0), [])] [1, 3, 44] [0] [.old 2, .old 1, .old 0, .old 2, .old 1] <| .c2 (.r0 [2] <| .ret []) (.r1 [1, 3] [0] <| .bk 0 [.i (IntKind.i64.wrap (i + (1 : Int)))]))) (.r0 [2] <| .ret [])))))
    (by kernel_rfl) (by kernel_rfl) (by kernel_rfl) h

/- f22 torsion/torsionref05.Sized -/
def vc22 (a0 : Int) (a1 : Int) (a2 : List (List D)) (rows : Int) (cols : Int) (R : V → Heap → Prop) : Prop :=
  ((a0 == rows) = true →
    ((a1 == cols) = true →
      ∃ (r : Bool),
      (FnD prog 18 [(vA [(sD (dI a0)), (sD (dI a1)), (sD (dL a2))])] (vD (dB r)) []) ∧
      (R (vD (dB r)) [])) ∧
    ((a1 == cols) = false →
      R (vD (dB false)) [])) ∧
  ((a0 == rows) = false →
    R (vD (dB false)) [])

theorem vc22_ok (a0 : Int) (a1 : Int) (a2 : List (List D)) (rows : Int) (cols : Int) {R : V → Heap → Prop} (h : vc22 a0 a1 a2 rows cols R) : FnG prog 22 [(vA [(sD (dI a0)), (sD (dI a1)), (sD (dL a2))]), (vD (dI rows)), (vD (dI cols))] [] R :=
  FnG.vcg hT func22 ntmps22 (.reg 1 [(0, Or.none, 0, 1)] [1, 2, 3] [0] [] <| .spl ((a0 == rows)) (.spl ((a1 == cols)) (.exb fun r => .reg 0 [(4, (Or.bool true), 0, 0), (10, (Or.bool true), 0, 0), (12, (Or.call (vD (dB r)) [] []), 0, 0)] [6] [] [.old 1, .old 0] <| .ret []) (.reg 0 [(4, (Or.bool true), 0, 0), (10, (Or.bool false), 0, 0)] [6] [] [.old 1, .old 0] <| .ret [])) (.reg 0 [(4, (Or.bool false), 0, 0)] [6] [] [.old 0] <| .ret []))
    (by kernel_rfl) (by kernel_rfl) (by kernel_rfl) h

/- f37 torsion/torsionref05.SameVec -/
def vc37 (a : List (List D)) (b : List (List D)) (R : V → Heap → Prop) : Prop :=
  (((a.length : Int) != (b.length : Int)) = true →
    R (vD (dB false)) []) ∧
  (((a.length : Int) != (b.length : Int)) = false →
    ∃ (J0 : Int → Prop) (μ0 : Int → Nat),
    J0 (0 : Int) ∧ ∀ (i : Int), J0 i →
      ((decide (i < (a.length : Int))) = true →
        ∃ (x0 : Bool) (x1 : List (List D)) (x01 : Bool) (x11 : List (List D)) (r : Bool),
        (0 ≤ i ∧ i < (a.length : Int)) ∧
        (a[(i).toNat]? = some [(dB x0), (dL x1)]) ∧
        (0 ≤ i ∧ i < (b.length : Int)) ∧
        (b[(i).toNat]? = some [(dB x01), (dL x11)]) ∧
        (FnD prog 40 [(vA [(sD (dB x0)), (sD (dL x1))]), (vA [(sD (dB x01)), (sD (dL x11))])] (vD (dB r)) []) ∧
        (((!r) = true →
          R (vD (dB false)) []) ∧
        ((!r) = false →
          J0 (IntKind.i64.wrap (i + (1 : Int))) ∧ μ0 (IntKind.i64.wrap (i + (1 : Int))) < μ0 i))) ∧
      ((decide (i < (a.length : Int))) = false →
        R (vD (dB true)) []))

theorem vc37_ok (a : List (List D)) (b : List (List D)) {R : V → Heap → Prop} (h : vc37 a b R) : FnG prog 37 [(vD (dL a)), (vD (dL b))] [] R :=
  FnG.vcg hT func37 ntmps37 (.r0 [0, 1] <| .r0 [0, 1, 10] <| .c2 (.r0 [4] <| .ret []) (.r0 [0, 1, 5] <| .lp [.i] (fun i => ⟨[(0, (vD (dL a))), (1, (vD (dL b))), (5, (vD (dI i)))], [], 27⟩) [.i (0 : Int)] <| .fi fun i => .beg <| .r0 [0, 1, 5, 14] <| .c2 (.exb fun x0 => .exl fun x1 => .exb fun x01 => .exl fun x11 => .exb fun r => .drw 0 [(3, ((Or.cells [(dB x0), (dL x1)]), 0, 0), []), (7, ((Or.cells [(dB x01), (dL x11)]), 0, 0), []), (8, ((Or.call (vD (dB r)) [] []), 0, 0), [])] [0, 1, 5, 26] [] [] <| .c2 (.r0 [4] <| .ret []) (.r0 [0, 1, 5] <| .bk 0 [.i (IntKind.i64.wrap (i + (1 : Int)))])) (.r0 [4] <| .ret [])))
    (by kernel_rfl) (by kernel_rfl) (by kernel_rfl) h

/- f23 torsion/torsionref05.Same -/
def vc23 (a0 : Int) (a1 : Int) (a2 : List (List D)) (b0 : Int) (b1 : Int) (b2 : List (List D)) (R : V → Heap → Prop) : Prop :=
  ((a0 != b0) = true →
    R (vD (dB false)) []) ∧
  ((a0 != b0) = false →
    ((a1 != b1) = true →
      R (vD (dB false)) []) ∧
    ((a1 != b1) = false →
      (((a2.length : Int) != (b2.length : Int)) = true →
        R (vD (dB false)) []) ∧
      (((a2.length : Int) != (b2.length : Int)) = false →
        ∃ (J0 : Int → Prop) (μ0 : Int → Nat),
        J0 (0 : Int) ∧ ∀ (i : Int), J0 i →
          ((decide (i < (a2.length : Int))) = true →
            ∃ (vx : List (List D)) (vx1 : List (List D)) (r : Bool),
            (0 ≤ i ∧ i < (a2.length : Int)) ∧
            (a2[(i).toNat]? = some [(dL vx)]) ∧
            (0 ≤ i ∧ i < (b2.length : Int)) ∧
            (b2[(i).toNat]? = some [(dL vx1)]) ∧
            (FnD prog 37 [(vD (dL vx)), (vD (dL vx1))] (vD (dB r)) []) ∧
            (((!r) = true →
              R (vD (dB false)) []) ∧
            ((!r) = false →
              J0 (IntKind.i64.wrap (i + (1 : Int))) ∧ μ0 (IntKind.i64.wrap (i + (1 : Int))) < μ0 i))) ∧
          ((decide (i < (a2.length : Int))) = false →
            R (vD (dB true)) []))))

theorem vc23_ok (a0 : Int) (a1 : Int) (a2 : List (List D)) (b0 : Int) (b1 : Int) (b2 : List (List D)) {R : V → Heap → Prop} (h : vc23 a0 a1 a2 b0 b1 b2 R) : FnG prog 23 [(vA [(sD (dI a0)), (sD (dI a1)), (sD (dL a2))]), (vA [(sD (dI b0)), (sD (dI b1)), (sD (dL b2))])] [] R :=
  FnG.vcg hT func23 ntmps23 (.reg 2 [(0, Or.none, 0, 1), (1, Or.none, 1, 1)] [2, 3] [0, 1] [] <| .spl ((a0 != b0)) (.reg 0 [(5, (Or.bool true), 0, 0)] [2, 3, 26] [0, 1] [.old 0] <| .ct true none <| .r0 [4] <| .ret []) (.spl ((a1 != b1)) (.reg 0 [(5, (Or.bool false), 0, 0), (12, (Or.bool true), 0, 0)] [2, 3, 26] [0, 1] [.old 1, .old 0] <| .ct true none <| .r0 [4] <| .ret []) (.reg 0 [(5, (Or.bool false), 0, 0), (12, (Or.bool false), 0, 0)] [2, 3, 26] [0, 1] [.old 1, .old 0] <| .c2 (.r0 [4] <| .ret []) (.r1 [2, 3, 5] [0, 1] <| .lp [.i] (fun i => ⟨[(2, (vP 0 0)), (3, (vP 1 0)), (5, (vD (dI i)))], [(some (Obj.box [(sD (dI a0)), (sD (dI a1)), (sD (dL a2))])), (some (Obj.box [(sD (dI b0)), (sD (dI b1)), (sD (dL b2))]))], 46⟩) [.i (0 : Int)] <| .fi fun i => .beg <| .r1 [2, 3, 5, 31] [0, 1] <| .c2 (.exl fun vx => .exl fun vx1 => .exb fun r => .drw 0 [(4, ((Or.cells [(dL vx)]), 0, 0), []), (9, ((Or.cells [(dL vx1)]), 0, 0), []), (10, ((Or.call (vD (dB r)) [] []), 0, 0), [])] [2, 3, 5, 45] [0, 1] [] <| .c2 (.r0 [4] <| .ret []) (.r1 [2, 3, 5] [0, 1] <| .bk 0 [.i (IntKind.i64.wrap (i + (1 : Int)))])) (.r0 [4] <| .ret [])))))
    (by kernel_rfl) (by kernel_rfl) (by kernel_rfl) h

/- f42 torsion/torsionref05.Zero -/
def vc42 (v : List (List D)) (R : V → Heap → Prop) : Prop :=
  ∃ (J0 : Int → Prop) (μ0 : Int → Nat),
  J0 (0 : Int) ∧ ∀ (i : Int), J0 i →
    ((decide (i < (v.length : Int))) = true →
      ∃ (x0 : Bool) (x1 : List (List D)) (r : Int),
      (0 ≤ i ∧ i < (v.length : Int)) ∧
      (v[(i).toNat]? = some [(dB x0), (dL x1)]) ∧
      (FnD prog 92 [(vA [(sD (dB x0)), (sD (dL x1))])] (vD (dI r)) []) ∧
      (((r != (0 : Int)) = true →
        R (vD (dB false)) []) ∧
      ((r != (0 : Int)) = false →
        J0 (IntKind.i64.wrap (i + (1 : Int))) ∧ μ0 (IntKind.i64.wrap (i + (1 : Int))) < μ0 i))) ∧
    ((decide (i < (v.length : Int))) = false →
      R (vD (dB true)) [])

theorem vc42_ok (v : List (List D)) {R : V → Heap → Prop} (h : vc42 v R) : FnG prog 42 [(vD (dL v))] [] R :=
  FnG.vcg hT func42 ntmps42 (.r0 [0] <| .r0 [0, 3] <| .lp [.i] (fun i => ⟨[(0, (vD (dL v))), (3, (vD (dI i)))], [], 16⟩) [.i (0 : Int)] <| .fi fun i => .beg <| .r0 [0, 3, 7] <| .c2 (.exb fun x0 => .exl fun x1 => .ex fun r => .reg 0 [(3, (Or.cells [(dB x0), (dL x1)]), 0, 0), (4, (Or.call (vD (dI r)) [] []), 0, 0)] [0, 3, 15] [] [] <| .c2 (.r0 [2] <| .ret []) (.r0 [0, 3] <| .bk 0 [.i (IntKind.i64.wrap (i + (1 : Int)))])) (.r0 [2] <| .ret []))
    (by kernel_rfl) (by kernel_rfl) (by kernel_rfl) h

/- f28 torsion/torsionref05.Add -/
def vc28 (a0 : Int) (a1 : Int) (a2 : List (List D)) (b0 : Int) (b1 : Int) (b2 : List (List D)) (R : V → Heap → Prop) : Prop :=
  ((a0 != b0) = true →
    R (V.tup [(E.agg [(sD (dI (0 : Int))), (sD (dI (0 : Int))), (sD (dL ([] : List (List D))))]), (eD (dI (50 : Int)))]) []) ∧
  ((a0 != b0) = false →
    ((a1 != b1) = true →
      R (V.tup [(E.agg [(sD (dI (0 : Int))), (sD (dI (0 : Int))), (sD (dL ([] : List (List D))))]), (eD (dI (50 : Int)))]) []) ∧
    ((a1 != b1) = false →
      ∃ (r0 : Int) (r1 : Int) (rrows : List (List (List D))),
      (FnD prog 33 [(vD (dI a0)), (vD (dI a1))] (vA [(sD (dI r0)), (sD (dI r1)), (S.ref 0)]) [(some (Obj.mat 2 rrows))]) ∧
      (∃ (J0 : (List (List (List D))) → Int → Prop) (μ0 : (List (List (List D))) → Int → Nat),
      J0 rrows (0 : Int) ∧ ∀ (o4 : List (List (List D))) (i : Int), J0 o4 i →
        ((decide (i < a0)) = true →
          ∃ (J1 : (List (List (List D))) → Int → Prop) (μ1 : (List (List (List D))) → Int → Nat),
          J1 o4 (0 : Int) ∧ ∀ (o41 : List (List (List D))) (j : Int), J1 o41 j →
            ((decide (j < a1)) = true →
              ∃ (vx : List (List D)) (x0 : Bool) (x1 : List (List D)) (vx1 : List (List D)) (x01 : Bool) (x11 : List (List D)) (r01 : Bool) (r11 : List (List D)),
              (0 ≤ i ∧ i < (o41.length : Int)) ∧
              (0 ≤ i ∧ i < (a2.length : Int)) ∧
              (a2[(i).toNat]? = some [(dL vx)]) ∧
              (0 ≤ j ∧ j < (vx.length : Int)) ∧
              (vx[(j).toNat]? = some [(dB x0), (dL x1)]) ∧
              (0 ≤ i ∧ i < (b2.length : Int)) ∧
              (b2[(i).toNat]? = some [(dL vx1)]) ∧
              (0 ≤ j ∧ j < (vx1.length : Int)) ∧
              (vx1[(j).toNat]? = some [(dB x01), (dL x11)]) ∧
              (FnD prog 82 [(vA [(sD (dB x0)), (sD (dL x1))]), (vA [(sD (dB x01)), (sD (dL x11))])] (vA [(sD (dB r01)), (sD (dL r11))]) []) ∧
              (∃ l, o41[(i).toNat]? = some l ∧ 0 ≤ j ∧ j < (l.length : Int)) ∧
              (J1 (o41.modify (i).toNat (fun r => r.set (j).toNat [(dB r01), (dL r11)])) (IntKind.i64.wrap (j + (1 : Int))) ∧ μ1 (o41.modify (i).toNat (fun r => r.set (j).toNat [(dB r01), (dL r11)])) (IntKind.i64.wrap (j + (1 : Int))) < μ1 o41 j)) ∧
            ((decide (j < a1)) = false →
              J0 o41 (IntKind.i64.wrap (i + (1 : Int))) ∧ μ0 o41 (IntKind.i64.wrap (i + (1 : Int))) < μ0 o4 i)) ∧
        ((decide (i < a0)) = false →
          R (V.tup [(E.agg [(sD (dI r0)), (sD (dI r1)), (sD (dL (matD o4)))]), (eD (dI (0 : Int)))]) []))))

theorem vc28_ok (a0 : Int) (a1 : Int) (a2 : List (List D)) (b0 : Int) (b1 : Int) (b2 : List (List D)) {R : V → Heap → Prop} (h : vc28 a0 a1 a2 b0 b1 b2 R) : FnG prog 28 [(vA [(sD (dI a0)), (sD (dI a1)), (sD (dL a2))]), (vA [(sD (dI b0)), (sD (dI b1)), (sD (dL b2))])] [] R :=
  FnG.vcg hT func28 ntmps28 (.reg 3 [(0, Or.none, 0, 1), (1, Or.none, 1, 1), (2, Or.none, 2, 1)] [2, 3, 4] [0, 1, 2] [] <| .spl ((a0 != b0)) (.reg 0 [(5, (Or.bool true), 0, 0)] [2, 3, 4, 20] [0, 1, 2] [.old 0] <| .ct true none <| .r1 [4, 5] [2] <| .nrm [4, 5] [0] <| .ret []) (.reg 0 [(5, (Or.bool false), 0, 0)] [2, 3, 4, 20] [0, 1, 2] [.old 0] <| .c2 (.r1 [4, 5] [2] <| .nrm [4, 5] [0] <| .ret []) (.ex fun r0 => .ex fun r1 => .exm fun rrows => .reg 2 [(4, (Or.call (vA [(sD (dI r0)), (sD (dI r1)), (S.ref 0)]) [(some (Obj.mat 2 rrows))] []), 3, 1), (5, Or.none, 4, 1)] [2, 3, 4, 6] [0, 1, 2, 4, 3] [] <| .r1 [2, 3, 4, 6, 7] [0, 1, 2, 3, 4] <| .lp [.m, .i] (fun o4 i => ⟨[(2, (vP 0 0)), (3, (vP 1 0)), (4, (vP 2 0)), (6, (vP 3 0)), (7, (vD (dI i)))], [(some (Obj.box [(sD (dI a0)), (sD (dI a1)), (sD (dL a2))])), (some (Obj.box [(sD (dI b0)), (sD (dI b1)), (sD (dL b2))])), (some (Obj.box [(sD (dI (0 : Int))), (sD (dI (0 : Int))), (sD (D.raw (.slice none 0 0)))])), (some (Obj.box [(sD (dI r0)), (sD (dI r1)), (S.ref 4)])), (some (Obj.mat 2 o4))], 64⟩) [.m rrows, .i (0 : Int)] <| .fm fun o4 => .fi fun i => .beg <| .r1 [2, 3, 4, 6, 7, 30] [0, 1, 2, 3, 4] <| .c2 (.r1 [2, 3, 4, 6, 7, 8] [0, 1, 2, 3, 4] <| .lp [.m, .i] (fun o41 j => ⟨[(2, (vP 0 0)), (3, (vP 1 0)), (4, (vP 2 0)), (6, (vP 3 0)), (7, (vD (dI i))), (8, (vD (dI j)))], [(some (Obj.box [(sD (dI a0)), (sD (dI a1)), (sD (dL a2))])), (some (Obj.box [(sD (dI b0)), (sD (dI b1)), (sD (dL b2))])), (some (Obj.box [(sD (dI (0 : Int))), (sD (dI (0 : Int))), (sD (D.raw (.slice none 0 0)))])), (some (Obj.box [(sD (dI r0)), (sD (dI r1)), (S.ref 4)])), (some (Obj.mat 2 o41))], 64⟩) [.m o4, .i (0 : Int)] <| .fm fun o41 => .fi fun j => .beg <| .r1 [2, 3, 4, 6, 7, 8, 36] [0, 1, 2, 3, 4] <| .c2 (.exl fun vx => .exb fun x0 => .exl fun x1 => .exl fun vx1 => .exb fun x01 => .exl fun x11 => .exb fun r01 => .exl fun r11 => .drw 0 [(10, ((Or.cells [(dL vx)]), 0, 0), []), (13, ((Or.cells [(dB x0), (dL x1)]), 0, 0), []), (18, ((Or.cells [(dL vx1)]), 0, 0), []), (21, ((Or.cells [(dB x01), (dL x11)]), 0, 0), []), (22, ((Or.call (vA [(sD (dB r01)), (sD (dL r11))]) [] []), 0, 0), []), (24, (Or.none, 0, 0), [4])] [2, 3, 4, 6, 7, 8] [0, 1, 2, 3, 4] [] <| .r1 [2, 3, 4, 6, 7, 8] [0, 1, 2, 3, 4] <| .bk 0 [.m (o41.modify (i).toNat (fun r => r.set (j).toNat [(dB r01), (dL r11)])), .i (IntKind.i64.wrap (j + (1 : Int)))]) (.r1 [2, 3, 4, 6, 7] [0, 1, 2, 3, 4] <| .bk 1 [.m o41, .i (IntKind.i64.wrap (i + (1 : Int)))])) (.r1 [4, 5] [2, 4] <| .frz [1] <| .ret []))))
    (by kernel_rfl) (by kernel_rfl) (by kernel_rfl) h

/- f64 torsion/torsionref05.Scale -/
def vc64 (a0 : Int) (a1 : Int) (a2 : List (List D)) (k0 : Bool) (k1 : List (List D)) (R : V → Heap → Prop) : Prop :=
  ∃ (r0 : Int) (r1 : Int) (rrows : List (List (List D))),
  (FnD prog 33 [(vD (dI a0)), (vD (dI a1))] (vA [(sD (dI r0)), (sD (dI r1)), (S.ref 0)]) [(some (Obj.mat 2 rrows))]) ∧
  (∃ (J0 : (List (List (List D))) → Int → Prop) (μ0 : (List (List (List D))) → Int → Nat),
  J0 rrows (0 : Int) ∧ ∀ (o4 : List (List (List D))) (i : Int), J0 o4 i →
    ((decide (i < a0)) = true →
      ∃ (J1 : (List (List (List D))) → Int → Prop) (μ1 : (List (List (List D))) → Int → Nat),
      J1 o4 (0 : Int) ∧ ∀ (o41 : List (List (List D))) (j : Int), J1 o41 j →
        ((decide (j < a1)) = true →
          ∃ (vx : List (List D)) (x0 : Bool) (x1 : List (List D)) (r01 : Bool) (r11 : List (List D)),
          (0 ≤ i ∧ i < (o41.length : Int)) ∧
          (0 ≤ i ∧ i < (a2.length : Int)) ∧
          (a2[(i).toNat]? = some [(dL vx)]) ∧
          (0 ≤ j ∧ j < (vx.length : Int)) ∧
          (vx[(j).toNat]? = some [(dB x0), (dL x1)]) ∧
          (FnD prog 110 [(vA [(sD (dB x0)), (sD (dL x1))]), (vA [(sD (dB k0)), (sD (dL k1))])] (vA [(sD (dB r01)), (sD (dL r11))]) []) ∧
          (∃ l, o41[(i).toNat]? = some l ∧ 0 ≤ j ∧ j < (l.length : Int)) ∧
          (J1 (o41.modify (i).toNat (fun r => r.set (j).toNat [(dB r01), (dL r11)])) (IntKind.i64.wrap (j + (1 : Int))) ∧ μ1 (o41.modify (i).toNat (fun r => r.set (j).toNat [(dB r01), (dL r11)])) (IntKind.i64.wrap (j + (1 : Int))) < μ1 o41 j)) ∧
        ((decide (j < a1)) = false →
          J0 o41 (IntKind.i64.wrap (i + (1 : Int))) ∧ μ0 o41 (IntKind.i64.wrap (i + (1 : Int))) < μ0 o4 i)) ∧
    ((decide (i < a0)) = false →
      R (vA [(sD (dI r0)), (sD (dI r1)), (S.ref 0)]) [(some (Obj.mat 2 o4))]))

theorem vc64_ok (a0 : Int) (a1 : Int) (a2 : List (List D)) (k0 : Bool) (k1 : List (List D)) {R : V → Heap → Prop} (h : vc64 a0 a1 a2 k0 k1 R) : FnG prog 64 [(vA [(sD (dI a0)), (sD (dI a1)), (sD (dL a2))]), (vA [(sD (dB k0)), (sD (dL k1))])] [] R :=
  FnG.vcg hT func64 ntmps64 (.reg 3 [(0, Or.none, 0, 1), (1, Or.none, 1, 1), (2, Or.none, 2, 1)] [2, 3, 4] [0, 1, 2] [] <| .ex fun r0 => .ex fun r1 => .exm fun rrows => .reg 2 [(4, (Or.call (vA [(sD (dI r0)), (sD (dI r1)), (S.ref 0)]) [(some (Obj.mat 2 rrows))] []), 3, 1), (5, Or.none, 4, 1)] [2, 3, 4, 5] [0, 1, 2, 4, 3] [] <| .r1 [2, 3, 4, 5, 6] [0, 1, 2, 3, 4] <| .lp [.m, .i] (fun o4 i => ⟨[(2, (vP 0 0)), (3, (vP 1 0)), (4, (vP 2 0)), (5, (vP 3 0)), (6, (vD (dI i)))], [(some (Obj.box [(sD (dI a0)), (sD (dI a1)), (sD (dL a2))])), (some (Obj.box [(sD (dB k0)), (sD (dL k1))])), (some (Obj.box [(sD (dI (0 : Int))), (sD (dI (0 : Int))), (sD (D.raw (.slice none 0 0)))])), (some (Obj.box [(sD (dI r0)), (sD (dI r1)), (S.ref 4)])), (some (Obj.mat 2 o4))], 43⟩) [.m rrows, .i (0 : Int)] <| .fm fun o4 => .fi fun i => .beg <| .r1 [2, 3, 4, 5, 6, 16] [0, 1, 2, 3, 4] <| .c2 (.r1 [2, 3, 4, 5, 6, 7] [0, 1, 2, 3, 4] <| .lp [.m, .i] (fun o41 j => ⟨[(2, (vP 0 0)), (3, (vP 1 0)), (4, (vP 2 0)), (5, (vP 3 0)), (6, (vD (dI i))), (7, (vD (dI j)))], [(some (Obj.box [(sD (dI a0)), (sD (dI a1)), (sD (dL a2))])), (some (Obj.box [(sD (dB k0)), (sD (dL k1))])), (some (Obj.box [(sD (dI (0 : Int))), (sD (dI (0 : Int))), (sD (D.raw (.slice none 0 0)))])), (some (Obj.box [(sD (dI r0)), (sD (dI r1)), (S.ref 4)])), (some (Obj.mat 2 o41))], 43⟩) [.m o4, .i (0 : Int)] <| .fm fun o41 => .fi fun j => .beg <| .r1 [2, 3, 4, 5, 6, 7, 22] [0, 1, 2, 3, 4] <| .c2 (.exl fun vx => .exb fun x0 => .exl fun x1 => .exb fun r01 => .exl fun r11 => .drw 0 [(10, ((Or.cells [(dL vx)]), 0, 0), []), (13, ((Or.cells [(dB x0), (dL x1)]), 0, 0), []), (15, ((Or.call (vA [(sD (dB r01)), (sD (dL r11))]) [] []), 0, 0), []), (17, (Or.none, 0, 0), [4])] [2, 3, 4, 5, 6, 7] [0, 1, 2, 3, 4] [] <| .r1 [2, 3, 4, 5, 6, 7] [0, 1, 2, 3, 4] <| .bk 0 [.m (o41.modify (i).toNat (fun r => r.set (j).toNat [(dB r01), (dL r11)])), .i (IntKind.i64.wrap (j + (1 : Int)))]) (.r1 [2, 3, 4, 5, 6] [0, 1, 2, 3, 4] <| .bk 1 [.m o41, .i (IntKind.i64.wrap (i + (1 : Int)))])) (.r1 [4] [2, 4] <| .ret [1]))
    (by kernel_rfl) (by kernel_rfl) (by kernel_rfl) h

/- f58 torsion/torsionref05.Sub -/
def vc58 (a0 : Int) (a1 : Int) (a2 : List (List D)) (b0 : Int) (b1 : Int) (b2 : List (List D)) (R : V → Heap → Prop) : Prop :=
  ∃ (r0 : Bool) (r1 : List (List D)) (r01 : Int) (r11 : Int) (r2 : List (List D)) (r02 : Int) (r12 : Int) (r21 : List (List D)) (r : Int),
  (FnD prog 16 [(vD (dI (-1 : Int)))] (vA [(sD (dB r0)), (sD (dL r1))]) []) ∧
  (FnD prog 64 [(vA [(sD (dI b0)), (sD (dI b1)), (sD (dL b2))]), (vA [(sD (dB r0)), (sD (dL r1))])] (vA [(sD (dI r01)), (sD (dI r11)), (sD (dL r2))]) []) ∧
  (FnD prog 28 [(vA [(sD (dI a0)), (sD (dI a1)), (sD (dL a2))]), (vA [(sD (dI r01)), (sD (dI r11)), (sD (dL r2))])] (V.tup [(E.agg [(sD (dI r02)), (sD (dI r12)), (sD (dL r21))]), (eD (dI r))]) []) ∧
  (R (V.tup [(E.agg [(sD (dI r02)), (sD (dI r12)), (sD (dL r21))]), (eD (dI r))]) [])

theorem vc58_ok (a0 : Int) (a1 : Int) (a2 : List (List D)) (b0 : Int) (b1 : Int) (b2 : List (List D)) {R : V → Heap → Prop} (h : vc58 a0 a1 a2 b0 b1 b2 R) : FnG prog 58 [(vA [(sD (dI a0)), (sD (dI a1)), (sD (dL a2))]), (vA [(sD (dI b0)), (sD (dI b1)), (sD (dL b2))])] [] R :=
  FnG.vcg hT func58 ntmps58 (.reg 3 [(0, Or.none, 0, 1), (1, Or.none, 1, 1), (2, Or.none, 2, 1)] [2, 3, 4] [0, 1, 2] [] <| .exb fun r0 => .exl fun r1 => .ex fun r01 => .ex fun r11 => .exl fun r2 => .ex fun r02 => .ex fun r12 => .exl fun r21 => .ex fun r => .drw 0 [(2, ((Or.call (vA [(sD (dB r0)), (sD (dL r1))]) [] []), 0, 0), []), (3, ((Or.call (vA [(sD (dI r01)), (sD (dI r11)), (sD (dL r2))]) [] []), 0, 0), []), (4, ((Or.call (V.tup [(E.agg [(sD (dI r02)), (sD (dI r12)), (sD (dL r21))]), (eD (dI r))]) [] []), 0, 0), []), (7, (Or.none, 0, 0), [2])] [4, 5] [2] [] <| .ret [])
    (by kernel_rfl) (by kernel_rfl) (by kernel_rfl) h

/- f59 torsion/torsionref05.Mul -/
def vc59 (a0 : Int) (a1 : Int) (a2 : List (List D)) (b0 : Int) (b1 : Int) (b2 : List (List D)) (R : V → Heap → Prop) : Prop :=
  ((a1 != b0) = true →
    R (V.tup [(E.agg [(sD (dI (0 : Int))), (sD (dI (0 : Int))), (sD (dL ([] : List (List D))))]), (eD (dI (50 : Int)))]) []) ∧
  ((a1 != b0) = false →
    ∃ (r0 : Int) (r1 : Int) (rrows : List (List (List D))),
    (FnD prog 33 [(vD (dI a0)), (vD (dI b1))] (vA [(sD (dI r0)), (sD (dI r1)), (S.ref 0)]) [(some (Obj.mat 2 rrows))]) ∧
    (∃ (J0 : (List (List (List D))) → Int → Prop) (μ0 : (List (List (List D))) → Int → Nat),
    J0 rrows (0 : Int) ∧ ∀ (o4 : List (List (List D))) (i : Int), J0 o4 i →
      ((decide (i < a0)) = true →
        ∃ (J1 : (List (List (List D))) → Int → Prop) (μ1 : (List (List (List D))) → Int → Nat),
        J1 o4 (0 : Int) ∧ ∀ (o41 : List (List (List D))) (j : Int), J1 o41 j →
          ((decide (j < b1)) = true →
            ∃ (J2 : (List (List (List D))) → Int → Prop) (μ2 : (List (List (List D))) → Int → Nat),
            J2 o41 (0 : Int) ∧ ∀ (o42 : List (List (List D))) (k : Int), J2 o42 k →
              ((decide (k < a1)) = true →
                ∃ (x0 : Bool) (x1 : List (List D)) (vx : List (List D)) (x01 : Bool) (x11 : List (List D)) (vx1 : List (List D)) (x02 : Bool) (x12 : List (List D)) (r01 : Bool) (r11 : List (List D)) (r02 : Bool) (r12 : List (List D)),
                (0 ≤ i ∧ i < (o42.length : Int)) ∧
                (∃ l, o42[(i).toNat]? = some l ∧ 0 ≤ j ∧ j < (l.length : Int)) ∧
                (at2 o42 (i).toNat (j).toNat = some [(dB x0), (dL x1)]) ∧
                (0 ≤ i ∧ i < (a2.length : Int)) ∧
                (a2[(i).toNat]? = some [(dL vx)]) ∧
                (0 ≤ k ∧ k < (vx.length : Int)) ∧
                (vx[(k).toNat]? = some [(dB x01), (dL x11)]) ∧
                (0 ≤ k ∧ k < (b2.length : Int)) ∧
                (b2[(k).toNat]? = some [(dL vx1)]) ∧
                (0 ≤ j ∧ j < (vx1.length : Int)) ∧
                (vx1[(j).toNat]? = some [(dB x02), (dL x12)]) ∧
                (FnD prog 110 [(vA [(sD (dB x01)), (sD (dL x11))]), (vA [(sD (dB x02)), (sD (dL x12))])] (vA [(sD (dB r01)), (sD (dL r11))]) []) ∧
                (FnD prog 82 [(vA [(sD (dB x0)), (sD (dL x1))]), (vA [(sD (dB r01)), (sD (dL r11))])] (vA [(sD (dB r02)), (sD (dL r12))]) []) ∧
                (J2 (o42.modify (i).toNat (fun r => r.set (j).toNat [(dB r02), (dL r12)])) (IntKind.i64.wrap (k + (1 : Int))) ∧ μ2 (o42.modify (i).toNat (fun r => r.set (j).toNat [(dB r02), (dL r12)])) (IntKind.i64.wrap (k + (1 : Int))) < μ2 o42 k)) ∧
              ((decide (k < a1)) = false →
                J1 o42 (IntKind.i64.wrap (j + (1 : Int))) ∧ μ1 o42 (IntKind.i64.wrap (j + (1 : Int))) < μ1 o41 j)) ∧
          ((decide (j < b1)) = false →
            J0 o41 (IntKind.i64.wrap (i + (1 : Int))) ∧ μ0 o41 (IntKind.i64.wrap (i + (1 : Int))) < μ0 o4 i)) ∧
      ((decide (i < a0)) = false →
        R (V.tup [(E.agg [(sD (dI r0)), (sD (dI r1)), (sD (dL (matD o4)))]), (eD (dI (0 : Int)))]) [])))

theorem vc59_ok (a0 : Int) (a1 : Int) (a2 : List (List D)) (b0 : Int) (b1 : Int) (b2 : List (List D)) {R : V → Heap → Prop} (h : vc59 a0 a1 a2 b0 b1 b2 R) : FnG prog 59 [(vA [(sD (dI a0)), (sD (dI a1)), (sD (dL a2))]), (vA [(sD (dI b0)), (sD (dI b1)), (sD (dL b2))])] [] R :=
  FnG.vcg hT func59 ntmps59 (.reg 3 [(0, Or.none, 0, 1), (1, Or.none, 1, 1), (2, Or.none, 2, 1)] [2, 3, 4] [0, 1, 2] [] <| .r1 [2, 3, 4, 14] [0, 1, 2] <| .c2 (.r1 [4, 5] [2] <| .nrm [4, 5] [0] <| .ret []) (.ex fun r0 => .ex fun r1 => .exm fun rrows => .reg 2 [(4, (Or.call (vA [(sD (dI r0)), (sD (dI r1)), (S.ref 0)]) [(some (Obj.mat 2 rrows))] []), 3, 1), (5, Or.none, 4, 1)] [2, 3, 4, 6] [0, 1, 2, 4, 3] [] <| .r1 [2, 3, 4, 6, 7] [0, 1, 2, 3, 4] <| .lp [.m, .i] (fun o4 i => ⟨[(2, (vP 0 0)), (3, (vP 1 0)), (4, (vP 2 0)), (6, (vP 3 0)), (7, (vD (dI i)))], [(some (Obj.box [(sD (dI a0)), (sD (dI a1)), (sD (dL a2))])), (some (Obj.box [(sD (dI b0)), (sD (dI b1)), (sD (dL b2))])), (some (Obj.box [(sD (dI (0 : Int))), (sD (dI (0 : Int))), (sD (D.raw (.slice none 0 0)))])), (some (Obj.box [(sD (dI r0)), (sD (dI r1)), (S.ref 4)])), (some (Obj.mat 2 o4))], 73⟩) [.m rrows, .i (0 : Int)] <| .fm fun o4 => .fi fun i => .beg <| .r1 [2, 3, 4, 6, 7, 24] [0, 1, 2, 3, 4] <| .c2 (.r1 [2, 3, 4, 6, 7, 8] [0, 1, 2, 3, 4] <| .lp [.m, .i] (fun o41 j => ⟨[(2, (vP 0 0)), (3, (vP 1 0)), (4, (vP 2 0)), (6, (vP 3 0)), (7, (vD (dI i))), (8, (vD (dI j)))], [(some (Obj.box [(sD (dI a0)), (sD (dI a1)), (sD (dL a2))])), (some (Obj.box [(sD (dI b0)), (sD (dI b1)), (sD (dL b2))])), (some (Obj.box [(sD (dI (0 : Int))), (sD (dI (0 : Int))), (sD (D.raw (.slice none 0 0)))])), (some (Obj.box [(sD (dI r0)), (sD (dI r1)), (S.ref 4)])), (some (Obj.mat 2 o41))], 73⟩) [.m o4, .i (0 : Int)] <| .fm fun o41 => .fi fun j => .beg <| .r1 [2, 3, 4, 6, 7, 8, 30] [0, 1, 2, 3, 4] <| .c2 (.r1 [2, 3, 4, 6, 7, 8, 9] [0, 1, 2, 3, 4] <| .lp [.m, .i] (fun o42 k => ⟨[(2, (vP 0 0)), (3, (vP 1 0)), (4, (vP 2 0)), (6, (vP 3 0)), (7, (vD (dI i))), (8, (vD (dI j))), (9, (vD (dI k)))], [(some (Obj.box [(sD (dI a0)), (sD (dI a1)), (sD (dL a2))])), (some (Obj.box [(sD (dI b0)), (sD (dI b1)), (sD (dL b2))])), (some (Obj.box [(sD (dI (0 : Int))), (sD (dI (0 : Int))), (sD (D.raw (.slice none 0 0)))])), (some (Obj.box [(sD (dI r0)), (sD (dI r1)), (S.ref 4)])), (some (Obj.mat 2 o42))], 73⟩) [.m o41, .i (0 : Int)] <| .fm fun o42 => .fi fun k => .beg <| .r1 [2, 3, 4, 6, 7, 8, 9, 36] [0, 1, 2, 3, 4] <| .c2 (.exb fun x0 => .exl fun x1 => .exl fun vx => .exb fun x01 => .exl fun x11 => .exl fun vx1 => .exb fun x02 => .exl fun x12 => .exb fun r01 => .exl fun r11 => .exb fun r02 => .exl fun r12 => .drw 0 [(13, ((Or.cells [(dB x0), (dL x1)]), 0, 0), []), (18, ((Or.cells [(dL vx)]), 0, 0), []), (21, ((Or.cells [(dB x01), (dL x11)]), 0, 0), []), (26, ((Or.cells [(dL vx1)]), 0, 0), []), (29, ((Or.cells [(dB x02), (dL x12)]), 0, 0), []), (30, ((Or.call (vA [(sD (dB r01)), (sD (dL r11))]) [] []), 0, 0), []), (31, ((Or.call (vA [(sD (dB r02)), (sD (dL r12))]) [] []), 0, 0), []), (33, (Or.none, 0, 0), [4])] [2, 3, 4, 6, 7, 8, 9] [0, 1, 2, 3, 4] [.new, .old 0, .new, .new, .new, .new, .new, .new, .new, .new, .new, .new, .new, .new, .old 11] <| .r1 [2, 3, 4, 6, 7, 8, 9] [0, 1, 2, 3, 4] <| .bk 0 [.m (o42.modify (i).toNat (fun r => r.set (j).toNat [(dB r02), (dL r12)])), .i (IntKind.i64.wrap (k + (1 : Int)))]) (.r1 [2, 3, 4, 6, 7, 8] [0, 1, 2, 3, 4] <| .bk 1 [.m o42, .i (IntKind.i64.wrap (j + (1 : Int)))])) (.r1 [2, 3, 4, 6, 7] [0, 1, 2, 3, 4] <| .bk 1 [.m o41, .i (IntKind.i64.wrap (i + (1 : Int)))])) (.r1 [4, 5] [2, 4] <| .frz [1] <| .ret [])))
    (by kernel_rfl) (by kernel_rfl) (by kernel_rfl) h

/- f27 torsion/torsionref05.Product -/
def vc27 (a0 : Int) (a1 : Int) (a2 : List (List D)) (b0 : Int) (b1 : Int) (b2 : List (List D)) (R : V → Heap → Prop) : Prop :=
  ∃ (r0 : Int) (r1 : Int) (r2 : List (List D)) (r : Int),
  (FnD prog 59 [(vA [(sD (dI a0)), (sD (dI a1)), (sD (dL a2))]), (vA [(sD (dI b0)), (sD (dI b1)), (sD (dL b2))])] (V.tup [(E.agg [(sD (dI r0)), (sD (dI r1)), (sD (dL r2))]), (eD (dI r))]) []) ∧
  (R (vA [(sD (dI r0)), (sD (dI r1)), (sD (dL r2))]) [])

theorem vc27_ok (a0 : Int) (a1 : Int) (a2 : List (List D)) (b0 : Int) (b1 : Int) (b2 : List (List D)) {R : V → Heap → Prop} (h : vc27 a0 a1 a2 b0 b1 b2 R) : FnG prog 27 [(vA [(sD (dI a0)), (sD (dI a1)), (sD (dL a2))]), (vA [(sD (dI b0)), (sD (dI b1)), (sD (dL b2))])] [] R :=
  FnG.vcg hT func27 ntmps27 (.reg 3 [(0, Or.none, 0, 1), (1, Or.none, 1, 1), (2, Or.none, 2, 1)] [2, 3, 4] [0, 1, 2] [] <| .ex fun r0 => .ex fun r1 => .exl fun r2 => .ex fun r => .reg 1 [(2, (Or.call (V.tup [(E.agg [(sD (dI r0)), (sD (dI r1)), (sD (dL r2))]), (eD (dI r))]) [] []), 0, 0), (6, Or.none, 3, 1)] [4, 5] [2, 3] [] <| .r1 [4] [0] <| .ret [])
    (by kernel_rfl) (by kernel_rfl) (by kernel_rfl) h

/- f39 torsion/torsionref05.Transpose -/
def vc39 (a0 : Int) (a1 : Int) (a2 : List (List D)) (R : V → Heap → Prop) : Prop :=
  ∃ (r0 : Int) (r1 : Int) (rrows : List (List (List D))),
  (FnD prog 33 [(vD (dI a1)), (vD (dI a0))] (vA [(sD (dI r0)), (sD (dI r1)), (S.ref 0)]) [(some (Obj.mat 2 rrows))]) ∧
  (∃ (J0 : (List (List (List D))) → Int → Prop) (μ0 : (List (List (List D))) → Int → Nat),
  J0 rrows (0 : Int) ∧ ∀ (o3 : List (List (List D))) (i : Int), J0 o3 i →
    ((decide (i < a0)) = true →
      ∃ (J1 : (List (List (List D))) → Int → Prop) (μ1 : (List (List (List D))) → Int → Nat),
      J1 o3 (0 : Int) ∧ ∀ (o31 : List (List (List D))) (j : Int), J1 o31 j →
        ((decide (j < a1)) = true →
          ∃ (vx : List (List D)) (x0 : Bool) (x1 : List (List D)),
          (0 ≤ j ∧ j < (o31.length : Int)) ∧
          (0 ≤ i ∧ i < (a2.length : Int)) ∧
          (a2[(i).toNat]? = some [(dL vx)]) ∧
          (0 ≤ j ∧ j < (vx.length : Int)) ∧
          (vx[(j).toNat]? = some [(dB x0), (dL x1)]) ∧
          (∃ l, o31[(j).toNat]? = some l ∧ 0 ≤ i ∧ i < (l.length : Int)) ∧
          (J1 (o31.modify (j).toNat (fun r => r.set (i).toNat [(dB x0), (dL x1)])) (IntKind.i64.wrap (j + (1 : Int))) ∧ μ1 (o31.modify (j).toNat (fun r => r.set (i).toNat [(dB x0), (dL x1)])) (IntKind.i64.wrap (j + (1 : Int))) < μ1 o31 j)) ∧
        ((decide (j < a1)) = false →
          J0 o31 (IntKind.i64.wrap (i + (1 : Int))) ∧ μ0 o31 (IntKind.i64.wrap (i + (1 : Int))) < μ0 o3 i)) ∧
    ((decide (i < a0)) = false →
      R (vA [(sD (dI r0)), (sD (dI r1)), (sD (dL (matD o3)))]) []))

theorem vc39_ok (a0 : Int) (a1 : Int) (a2 : List (List D)) {R : V → Heap → Prop} (h : vc39 a0 a1 a2 R) : FnG prog 39 [(vA [(sD (dI a0)), (sD (dI a1)), (sD (dL a2))])] [] R :=
  FnG.vcg hT func39 ntmps39 (.reg 2 [(0, Or.none, 0, 1), (1, Or.none, 1, 1)] [1, 2] [0, 1] [] <| .ex fun r0 => .ex fun r1 => .exm fun rrows => .reg 2 [(4, (Or.call (vA [(sD (dI r0)), (sD (dI r1)), (S.ref 0)]) [(some (Obj.mat 2 rrows))] []), 2, 1), (5, Or.none, 3, 1)] [1, 2, 3] [0, 1, 3, 2] [] <| .r1 [1, 2, 3, 4] [0, 1, 2, 3] <| .lp [.m, .i] (fun o3 i => ⟨[(1, (vP 0 0)), (2, (vP 1 0)), (3, (vP 2 0)), (4, (vD (dI i)))], [(some (Obj.box [(sD (dI a0)), (sD (dI a1)), (sD (dL a2))])), (some (Obj.box [(sD (dI (0 : Int))), (sD (dI (0 : Int))), (sD (D.raw (.slice none 0 0)))])), (some (Obj.box [(sD (dI r0)), (sD (dI r1)), (S.ref 3)])), (some (Obj.mat 2 o3))], 39⟩) [.m rrows, .i (0 : Int)] <| .fm fun o3 => .fi fun i => .beg <| .r1 [1, 2, 3, 4, 14] [0, 1, 2, 3] <| .c2 (.r1 [1, 2, 3, 4, 5] [0, 1, 2, 3] <| .lp [.m, .i] (fun o31 j => ⟨[(1, (vP 0 0)), (2, (vP 1 0)), (3, (vP 2 0)), (4, (vD (dI i))), (5, (vD (dI j)))], [(some (Obj.box [(sD (dI a0)), (sD (dI a1)), (sD (dL a2))])), (some (Obj.box [(sD (dI (0 : Int))), (sD (dI (0 : Int))), (sD (D.raw (.slice none 0 0)))])), (some (Obj.box [(sD (dI r0)), (sD (dI r1)), (S.ref 3)])), (some (Obj.mat 2 o31))], 39⟩) [.m o3, .i (0 : Int)] <| .fm fun o31 => .fi fun j => .beg <| .r1 [1, 2, 3, 4, 5, 20] [0, 1, 2, 3] <| .c2 (.exl fun vx => .exb fun x0 => .exl fun x1 => .drw 0 [(10, ((Or.cells [(dL vx)]), 0, 0), []), (13, ((Or.cells [(dB x0), (dL x1)]), 0, 0), []), (15, (Or.none, 0, 0), [3])] [1, 2, 3, 4, 5] [0, 1, 2, 3] [] <| .r1 [1, 2, 3, 4, 5] [0, 1, 2, 3] <| .bk 0 [.m (o31.modify (j).toNat (fun r => r.set (i).toNat [(dB x0), (dL x1)])), .i (IntKind.i64.wrap (j + (1 : Int)))]) (.r1 [1, 2, 3, 4] [0, 1, 2, 3] <| .bk 1 [.m o31, .i (IntKind.i64.wrap (i + (1 : Int)))])) (.r1 [2] [1, 3] <| .frz [1] <| .ret []))
    (by kernel_rfl) (by kernel_rfl) (by kernel_rfl) h

/- f36 torsion/torsionref05.Row -/
def vc36 (v : List (List D)) (R : V → Heap → Prop) : Prop :=
  R (vA [(sD (dI (1 : Int))), (sD (dI (v.length : Int))), (sD (dL [[(dL v)]]))]) []

theorem vc36_ok (v : List (List D)) {R : V → Heap → Prop} (h : vc36 v R) : FnG prog 36 [(vD (dL v))] [] R :=
  FnG.vcg hT func36 ntmps36 (.reg 1 [(0, Or.none, 0, 1)] [0, 2] [0] [] <| .reg 1 [(3, Or.none, 1, 1)] [2] [0, 1] [] <| .frz [1] <| .ret [])
    (by kernel_rfl) (by kernel_rfl) (by kernel_rfl) h

/- f34 torsion/torsionref05.Vector -/
def vc34 (l : List (List D)) (n : Int) (R : V → Heap → Prop) : Prop :=
  ∃ (r0 : Int) (r1 : Int) (rrows : List (List (List D))),
  (FnD prog 24 [(vD (dI (1 : Int))), (vD (dI n)), (vD (dL l))] (vA [(sD (dI r0)), (sD (dI r1)), (S.ref 0)]) [(some (Obj.mat 2 rrows))]) ∧
  (0 ≤ (0 : Int) ∧ (0 : Int) < (rrows.length : Int)) ∧
  (R (vD (dL (rrows.getD 0 ([] : List (List D))))) [])

theorem vc34_ok (l : List (List D)) (n : Int) {R : V → Heap → Prop} (h : vc34 l n R) : FnG prog 34 [(vD (dL l)), (vD (dI n))] [] R :=
  FnG.vcg hT func34 ntmps34 (.r0 [0, 1] <| .ex fun r0 => .ex fun r1 => .exm fun rrows => .reg 1 [(2, (Or.call (vA [(sD (dI r0)), (sD (dI r1)), (S.ref 0)]) [(some (Obj.mat 2 rrows))] []), 0, 1)] [4] [0] [] <| .frz [0] <| .ret [])
    (by kernel_rfl) (by kernel_rfl) (by kernel_rfl) h

/- f66 torsion/torsionref05.Copied -/
def vc66 (a0 : Int) (a1 : Int) (a2 : List (List D)) (R : V → Heap → Prop) : Prop :=
  ∃ (r0 : Bool) (r1 : List (List D)) (r01 : Int) (r11 : Int) (rrows : List (List (List D))),
  (FnD prog 16 [(vD (dI (1 : Int)))] (vA [(sD (dB r0)), (sD (dL r1))]) []) ∧
  (FnD prog 64 [(vA [(sD (dI a0)), (sD (dI a1)), (sD (dL a2))]), (vA [(sD (dB r0)), (sD (dL r1))])] (vA [(sD (dI r01)), (sD (dI r11)), (S.ref 0)]) [(some (Obj.mat 2 rrows))]) ∧
  (R (vA [(sD (dI r01)), (sD (dI r11)), (S.ref 0)]) [(some (Obj.mat 2 rrows))])

theorem vc66_ok (a0 : Int) (a1 : Int) (a2 : List (List D)) {R : V → Heap → Prop} (h : vc66 a0 a1 a2 R) : FnG prog 66 [(vA [(sD (dI a0)), (sD (dI a1)), (sD (dL a2))])] [] R :=
  FnG.vcg hT func66 ntmps66 (.reg 2 [(0, Or.none, 0, 1), (1, Or.none, 1, 1)] [1, 2] [0, 1] [] <| .exb fun r0 => .exl fun r1 => .ex fun r01 => .ex fun r11 => .exm fun rrows => .drw 1 [(1, ((Or.call (vA [(sD (dB r0)), (sD (dL r1))]) [] []), 0, 0), []), (2, ((Or.call (vA [(sD (dI r01)), (sD (dI r11)), (S.ref 0)]) [(some (Obj.mat 2 rrows))] []), 2, 1), [2]), (3, (Or.none, 0, 0), [1])] [2] [1, 2] [] <| .ret [1])
    (by kernel_rfl) (by kernel_rfl) (by kernel_rfl) h

/- f60 torsion/torsionref05.Stack -/
def vc60 (a0 : Int) (a1 : Int) (a2 : List (List D)) (b0 : Int) (b1 : Int) (b2 : List (List D)) (R : V → Heap → Prop) : Prop :=
  ((a1 != b1) = true →
    R (V.tup [(E.agg [(sD (dI (0 : Int))), (sD (dI (0 : Int))), (sD (dL ([] : List (List D))))]), (eD (dI (50 : Int)))]) []) ∧
  ((a1 != b1) = false →
    ∃ (r0 : Int) (r1 : Int) (rrows : List (List (List D))),
    (FnD prog 66 [(vA [(sD (dI a0)), (sD (dI a1)), (sD (dL a2))])] (vA [(sD (dI r0)), (sD (dI r1)), (S.ref 0)]) [(some (Obj.mat 2 rrows))]) ∧
    (∃ (r01 : Int) (r11 : Int) (rrows1 : List (List (List D))),
    (FnD prog 66 [(vA [(sD (dI b0)), (sD (dI b1)), (sD (dL b2))])] (vA [(sD (dI r01)), (sD (dI r11)), (S.ref 0)]) [(some (Obj.mat 2 rrows1))]) ∧
    ((rrows.length + (rrows1 : List (List (List D))).length) * 24 ≤ 140737488355328) ∧
    (R (V.tup [(E.agg [(sD (dI (IntKind.i64.wrap (a0 + b0)))), (sD (dI r1)), (sD (dL (matD (rrows ++ rrows1))))]), (eD (dI (0 : Int)))]) [])))

theorem vc60_ok (a0 : Int) (a1 : Int) (a2 : List (List D)) (b0 : Int) (b1 : Int) (b2 : List (List D)) {R : V → Heap → Prop} (h : vc60 a0 a1 a2 b0 b1 b2 R) : FnG prog 60 [(vA [(sD (dI a0)), (sD (dI a1)), (sD (dL a2))]), (vA [(sD (dI b0)), (sD (dI b1)), (sD (dL b2))])] [] R :=
  FnG.vcg hT func60 ntmps60 (.reg 3 [(0, Or.none, 0, 1), (1, Or.none, 1, 1), (2, Or.none, 2, 1)] [2, 3, 4] [0, 1, 2] [] <| .r1 [2, 3, 4, 11] [0, 1, 2] <| .c2 (.r1 [4, 5] [2] <| .nrm [4, 5] [0] <| .ret []) (.ex fun r0 => .ex fun r1 => .exm fun rrows => .reg 2 [(1, (Or.call (vA [(sD (dI r0)), (sD (dI r1)), (S.ref 0)]) [(some (Obj.mat 2 rrows))] []), 3, 1), (2, Or.none, 4, 1)] [2, 3, 4, 6] [0, 1, 2, 4, 3] [] <| .r1 [3, 4, 6] [1, 2, 3, 4] <| .ex fun r01 => .ex fun r11 => .exm fun rrows1 => .drw 2 [(3, ((Or.call (vA [(sD (dI r01)), (sD (dI r11)), (S.ref 0)]) [(some (Obj.mat 2 rrows1))] []), 4, 1), [4]), (5, (Or.none, 5, 1), [3, 4, 5]), (7, (Or.none, 0, 0), [2])] [4, 6] [1, 2, 5] [] <| .r1 [4, 5] [0, 2] <| .frz [1] <| .ret []))
    (by kernel_rfl) (by kernel_rfl) (by kernel_rfl) h

/- f61 torsion/torsionref05.Beside -/
def vc61 (a0 : Int) (a1 : Int) (a2 : List (List D)) (b0 : Int) (b1 : Int) (b2 : List (List D)) (R : V → Heap → Prop) : Prop :=
  ((a0 != b0) = true →
    R (V.tup [(E.agg [(sD (dI (0 : Int))), (sD (dI (0 : Int))), (sD (dL ([] : List (List D))))]), (eD (dI (50 : Int)))]) []) ∧
  ((a0 != b0) = false →
    ∃ (r0 : Int) (r1 : Int) (rrows : List (List (List D))),
    (FnD prog 33 [(vD (dI a0)), (vD (dI (IntKind.i64.wrap (a1 + b1))))] (vA [(sD (dI r0)), (sD (dI r1)), (S.ref 0)]) [(some (Obj.mat 2 rrows))]) ∧
    (∃ (J0 : (List (List (List D))) → Int → Prop) (μ0 : (List (List (List D))) → Int → Nat),
    J0 rrows (0 : Int) ∧ ∀ (o4 : List (List (List D))) (i : Int), J0 o4 i →
      ((decide (i < a0)) = true →
        ∃ (J1 : (List (List (List D))) → Int → Prop) (μ1 : (List (List (List D))) → Int → Nat),
        J1 o4 (0 : Int) ∧ ∀ (o41 : List (List (List D))) (j : Int), J1 o41 j →
          ((decide (j < a1)) = true →
            ∃ (vx : List (List D)) (x0 : Bool) (x1 : List (List D)),
            (0 ≤ i ∧ i < (o41.length : Int)) ∧
            (0 ≤ i ∧ i < (a2.length : Int)) ∧
            (a2[(i).toNat]? = some [(dL vx)]) ∧
            (0 ≤ j ∧ j < (vx.length : Int)) ∧
            (vx[(j).toNat]? = some [(dB x0), (dL x1)]) ∧
            (∃ l, o41[(i).toNat]? = some l ∧ 0 ≤ j ∧ j < (l.length : Int)) ∧
            (J1 (o41.modify (i).toNat (fun r => r.set (j).toNat [(dB x0), (dL x1)])) (IntKind.i64.wrap (j + (1 : Int))) ∧ μ1 (o41.modify (i).toNat (fun r => r.set (j).toNat [(dB x0), (dL x1)])) (IntKind.i64.wrap (j + (1 : Int))) < μ1 o41 j)) ∧
          ((decide (j < a1)) = false →
            ∃ (J2 : (List (List (List D))) → Int → Prop) (μ2 : (List (List (List D))) → Int → Nat),
            J2 o41 (0 : Int) ∧ ∀ (o42 : List (List (List D))) (j1 : Int), J2 o42 j1 →
              ((decide (j1 < b1)) = true →
                ∃ (vx1 : List (List D)) (x01 : Bool) (x11 : List (List D)),
                (0 ≤ i ∧ i < (o42.length : Int)) ∧
                (0 ≤ i ∧ i < (b2.length : Int)) ∧
                (b2[(i).toNat]? = some [(dL vx1)]) ∧
                (0 ≤ j1 ∧ j1 < (vx1.length : Int)) ∧
                (vx1[(j1).toNat]? = some [(dB x01), (dL x11)]) ∧
                (∃ l, o42[(i).toNat]? = some l ∧ 0 ≤ (IntKind.i64.wrap (a1 + j1)) ∧ (IntKind.i64.wrap (a1 + j1)) < (l.length : Int)) ∧
                (J2 (o42.modify (i).toNat (fun r => r.set ((IntKind.i64.wrap (a1 + j1))).toNat [(dB x01), (dL x11)])) (IntKind.i64.wrap (j1 + (1 : Int))) ∧ μ2 (o42.modify (i).toNat (fun r => r.set ((IntKind.i64.wrap (a1 + j1))).toNat [(dB x01), (dL x11)])) (IntKind.i64.wrap (j1 + (1 : Int))) < μ2 o42 j1)) ∧
              ((decide (j1 < b1)) = false →
                J0 o42 (IntKind.i64.wrap (i + (1 : Int))) ∧ μ0 o42 (IntKind.i64.wrap (i + (1 : Int))) < μ0 o4 i))) ∧
      ((decide (i < a0)) = false →
        R (V.tup [(E.agg [(sD (dI r0)), (sD (dI r1)), (sD (dL (matD o4)))]), (eD (dI (0 : Int)))]) [])))

theorem vc61_ok (a0 : Int) (a1 : Int) (a2 : List (List D)) (b0 : Int) (b1 : Int) (b2 : List (List D)) {R : V → Heap → Prop} (h : vc61 a0 a1 a2 b0 b1 b2 R) : FnG prog 61 [(vA [(sD (dI a0)), (sD (dI a1)), (sD (dL a2))]), (vA [(sD (dI b0)), (sD (dI b1)), (sD (dL b2))])] [] R :=
  FnG.vcg hT func61 ntmps61 (.reg 3 [(0, Or.none, 0, 1), (1, Or.none, 1, 1), (2, Or.none, 2, 1)] [2, 3, 4] [0, 1, 2] [] <| .r1 [2, 3, 4, 14] [0, 1, 2] <| .c2 (.r1 [4, 5] [2] <| .nrm [4, 5] [0] <| .ret []) (.ex fun r0 => .ex fun r1 => .exm fun rrows => .reg 2 [(7, (Or.call (vA [(sD (dI r0)), (sD (dI r1)), (S.ref 0)]) [(some (Obj.mat 2 rrows))] []), 3, 1), (8, Or.none, 4, 1)] [2, 3, 4, 6] [0, 1, 2, 4, 3] [] <| .r1 [2, 3, 4, 6, 7] [0, 1, 2, 3, 4] <| .lp [.m, .i] (fun o4 i => ⟨[(2, (vP 0 0)), (3, (vP 1 0)), (4, (vP 2 0)), (6, (vP 3 0)), (7, (vD (dI i)))], [(some (Obj.box [(sD (dI a0)), (sD (dI a1)), (sD (dL a2))])), (some (Obj.box [(sD (dI b0)), (sD (dI b1)), (sD (dL b2))])), (some (Obj.box [(sD (dI (0 : Int))), (sD (dI (0 : Int))), (sD (D.raw (.slice none 0 0)))])), (some (Obj.box [(sD (dI r0)), (sD (dI r1)), (S.ref 4)])), (some (Obj.mat 2 o4))], 76⟩) [.m rrows, .i (0 : Int)] <| .fm fun o4 => .fi fun i => .beg <| .r1 [2, 3, 4, 6, 7, 27] [0, 1, 2, 3, 4] <| .c2 (.r1 [2, 3, 4, 6, 7, 8] [0, 1, 2, 3, 4] <| .lp [.m, .i] (fun o41 j => ⟨[(2, (vP 0 0)), (3, (vP 1 0)), (4, (vP 2 0)), (6, (vP 3 0)), (7, (vD (dI i))), (8, (vD (dI j)))], [(some (Obj.box [(sD (dI a0)), (sD (dI a1)), (sD (dL a2))])), (some (Obj.box [(sD (dI b0)), (sD (dI b1)), (sD (dL b2))])), (some (Obj.box [(sD (dI (0 : Int))), (sD (dI (0 : Int))), (sD (D.raw (.slice none 0 0)))])), (some (Obj.box [(sD (dI r0)), (sD (dI r1)), (S.ref 4)])), (some (Obj.mat 2 o41))], 76⟩) [.m o4, .i (0 : Int)] <| .fm fun o41 => .fi fun j => .beg <| .r1 [2, 3, 4, 6, 7, 8, 33] [0, 1, 2, 3, 4] <| .c2 (.exl fun vx => .exb fun x0 => .exl fun x1 => .drw 0 [(10, ((Or.cells [(dL vx)]), 0, 0), []), (13, ((Or.cells [(dB x0), (dL x1)]), 0, 0), []), (15, (Or.none, 0, 0), [4])] [2, 3, 4, 6, 7, 8] [0, 1, 2, 3, 4] [] <| .r1 [2, 3, 4, 6, 7, 8] [0, 1, 2, 3, 4] <| .bk 0 [.m (o41.modify (i).toNat (fun r => r.set (j).toNat [(dB x0), (dL x1)])), .i (IntKind.i64.wrap (j + (1 : Int)))]) (.r1 [2, 3, 4, 6, 7, 9] [0, 1, 2, 3, 4] <| .lp [.m, .i] (fun o42 j1 => ⟨[(2, (vP 0 0)), (3, (vP 1 0)), (4, (vP 2 0)), (6, (vP 3 0)), (7, (vD (dI i))), (9, (vD (dI j1)))], [(some (Obj.box [(sD (dI a0)), (sD (dI a1)), (sD (dL a2))])), (some (Obj.box [(sD (dI b0)), (sD (dI b1)), (sD (dL b2))])), (some (Obj.box [(sD (dI (0 : Int))), (sD (dI (0 : Int))), (sD (D.raw (.slice none 0 0)))])), (some (Obj.box [(sD (dI r0)), (sD (dI r1)), (S.ref 4)])), (some (Obj.mat 2 o42))], 76⟩) [.m o41, .i (0 : Int)] <| .fm fun o42 => .fi fun j1 => .beg <| .r1 [2, 3, 4, 6, 7, 9, 54] [0, 1, 2, 3, 4] <| .c2 (.exl fun vx1 => .exb fun x01 => .exl fun x11 => .drw 0 [(13, ((Or.cells [(dL vx1)]), 0, 0), []), (16, ((Or.cells [(dB x01), (dL x11)]), 0, 0), []), (18, (Or.none, 0, 0), [4])] [2, 3, 4, 6, 7, 9] [0, 1, 2, 3, 4] [] <| .r1 [2, 3, 4, 6, 7, 9] [0, 1, 2, 3, 4] <| .bk 0 [.m (o42.modify (i).toNat (fun r => r.set ((IntKind.i64.wrap (a1 + j1))).toNat [(dB x01), (dL x11)])), .i (IntKind.i64.wrap (j1 + (1 : Int)))]) (.r1 [2, 3, 4, 6, 7] [0, 1, 2, 3, 4] <| .bk 2 [.m o42, .i (IntKind.i64.wrap (i + (1 : Int)))]))) (.r1 [4, 5] [2, 4] <| .frz [1] <| .ret [])))
    (by kernel_rfl) (by kernel_rfl) (by kernel_rfl) h

/- f87 torsion/torsionref05.inside -/
def vc87 (l : List (List D)) (n : Int) (R : V → Heap → Prop) : Prop :=
  ∃ (J0 : Int → Prop) (μ0 : Int → Nat),
  J0 (0 : Int) ∧ ∀ (i : Int), J0 i →
    ((decide (i < (l.length : Int))) = true →
      ∃ (vx : Int),
      (0 ≤ i ∧ i < (l.length : Int)) ∧
      (l[(i).toNat]? = some [(dI vx)]) ∧
      (((decide (vx < (0 : Int))) = true →
        R (vD (dB false)) []) ∧
      ((decide (vx < (0 : Int))) = false →
        ((decide (vx ≥ n)) = true →
          R (vD (dB false)) []) ∧
        ((decide (vx ≥ n)) = false →
          J0 (IntKind.i64.wrap (i + (1 : Int))) ∧ μ0 (IntKind.i64.wrap (i + (1 : Int))) < μ0 i)))) ∧
    ((decide (i < (l.length : Int))) = false →
      R (vD (dB true)) [])

theorem vc87_ok (l : List (List D)) (n : Int) {R : V → Heap → Prop} (h : vc87 l n R) : FnG prog 87 [(vD (dL l)), (vD (dI n))] [] R :=
  FnG.vcg hT func87 ntmps87 (.r0 [0, 1] <| .r0 [0, 1, 5] <| .lp [.i] (fun i => ⟨[(0, (vD (dL l))), (1, (vD (dI n))), (5, (vD (dI i)))], [], 25⟩) [.i (0 : Int)] <| .fi fun i => .beg <| .r0 [0, 1, 5, 9] <| .c2 (.ex fun vx => .ob (0 ≤ i ∧ i < (l.length : Int)) <| .ob (l[(i).toNat]? = some [(dI vx)]) <| .spl ((decide (vx < (0 : Int)))) (.reg 0 [(3, (Or.cells [(dI vx)]), 0, 0), (5, (Or.bool true), 0, 0)] [0, 1, 5, 24] [] [.old 2, .old 1, .old 0] <| .ct true none <| .r0 [4] <| .ret []) (.reg 0 [(3, (Or.cells [(dI vx)]), 0, 0), (5, (Or.bool false), 0, 0), (9, (Or.cells [(dI vx)]), 0, 0)] [0, 1, 5, 24] [] [.old 2, .old 1, .old 0, .old 2, .old 1] <| .c2 (.r0 [4] <| .ret []) (.r0 [0, 1, 5] <| .bk 0 [.i (IntKind.i64.wrap (i + (1 : Int)))]))) (.r0 [4] <| .ret []))
    (by kernel_rfl) (by kernel_rfl) (by kernel_rfl) h

/- f31 torsion/torsionref05.Pick -/
def vc31 (a0 : Int) (a1 : Int) (a2 : List (List D)) (rows : List (List D)) (cols : List (List D)) (R : V → Heap → Prop) : Prop :=
  ∃ (r : Bool),
  (FnD prog 87 [(vD (dL rows)), (vD (dI a0))] (vD (dB r)) []) ∧
  (((!r) = true →
    R (V.tup [(E.agg [(sD (dI (0 : Int))), (sD (dI (0 : Int))), (sD (dL ([] : List (List D))))]), (eD (dI (1 : Int)))]) []) ∧
  ((!r) = false →
    ∃ (r1 : Bool),
    (FnD prog 87 [(vD (dL cols)), (vD (dI a1))] (vD (dB r1)) []) ∧
    (((!r1) = true →
      R (V.tup [(E.agg [(sD (dI (0 : Int))), (sD (dI (0 : Int))), (sD (dL ([] : List (List D))))]), (eD (dI (1 : Int)))]) []) ∧
    ((!r1) = false →
      ∃ (r0 : Int) (r11 : Int) (rrows : List (List (List D))),
      (FnD prog 33 [(vD (dI (rows.length : Int))), (vD (dI (cols.length : Int)))] (vA [(sD (dI r0)), (sD (dI r11)), (S.ref 0)]) [(some (Obj.mat 2 rrows))]) ∧
      (∃ (J0 : (List (List (List D))) → Int → Prop) (μ0 : (List (List (List D))) → Int → Nat),
      J0 rrows (0 : Int) ∧ ∀ (o3 : List (List (List D))) (i : Int), J0 o3 i →
        ((decide (i < (rows.length : Int))) = true →
          ∃ (J1 : (List (List (List D))) → Int → Prop) (μ1 : (List (List (List D))) → Int → Nat),
          J1 o3 (0 : Int) ∧ ∀ (o31 : List (List (List D))) (j : Int), J1 o31 j →
            ((decide (j < (cols.length : Int))) = true →
              ∃ (vx : Int) (vx1 : List (List D)) (vx2 : Int) (x0 : Bool) (x1 : List (List D)),
              (0 ≤ i ∧ i < (o31.length : Int)) ∧
              (0 ≤ i ∧ i < (rows.length : Int)) ∧
              (rows[(i).toNat]? = some [(dI vx)]) ∧
              (0 ≤ vx ∧ vx < (a2.length : Int)) ∧
              (a2[(vx).toNat]? = some [(dL vx1)]) ∧
              (0 ≤ j ∧ j < (cols.length : Int)) ∧
              (cols[(j).toNat]? = some [(dI vx2)]) ∧
              (0 ≤ vx2 ∧ vx2 < (vx1.length : Int)) ∧
              (vx1[(vx2).toNat]? = some [(dB x0), (dL x1)]) ∧
              (∃ l, o31[(i).toNat]? = some l ∧ 0 ≤ j ∧ j < (l.length : Int)) ∧
              (J1 (o31.modify (i).toNat (fun r => r.set (j).toNat [(dB x0), (dL x1)])) (IntKind.i64.wrap (j + (1 : Int))) ∧ μ1 (o31.modify (i).toNat (fun r => r.set (j).toNat [(dB x0), (dL x1)])) (IntKind.i64.wrap (j + (1 : Int))) < μ1 o31 j)) ∧
            ((decide (j < (cols.length : Int))) = false →
              J0 o31 (IntKind.i64.wrap (i + (1 : Int))) ∧ μ0 o31 (IntKind.i64.wrap (i + (1 : Int))) < μ0 o3 i)) ∧
        ((decide (i < (rows.length : Int))) = false →
          R (V.tup [(E.agg [(sD (dI r0)), (sD (dI r11)), (sD (dL (matD o3)))]), (eD (dI (0 : Int)))]) []))))))

theorem vc31_ok (a0 : Int) (a1 : Int) (a2 : List (List D)) (rows : List (List D)) (cols : List (List D)) {R : V → Heap → Prop} (h : vc31 a0 a1 a2 rows cols R) : FnG prog 31 [(vA [(sD (dI a0)), (sD (dI a1)), (sD (dL a2))]), (vD (dL rows)), (vD (dL cols))] [] R :=
  FnG.vcg hT func31 ntmps31 (.reg 2 [(0, Or.none, 0, 1), (1, Or.none, 1, 1)] [1, 2, 3, 6] [0, 1] [] <| .exb fun r => .ob (FnD prog 87 [(vD (dL rows)), (vD (dI a0))] (vD (dB r)) []) <| .spl ((!r)) (.reg 0 [(3, (Or.call (vD (dB r)) [] []), 0, 0), (5, (Or.bool true), 0, 0)] [1, 2, 3, 6, 22] [0, 1] [.old 1, .old 0] <| .ct true none <| .r1 [6, 7] [1] <| .nrm [6, 7] [0] <| .ret []) (.exb fun r1 => .reg 0 [(3, (Or.call (vD (dB r)) [] []), 0, 0), (5, (Or.bool false), 0, 0), (9, (Or.call (vD (dB r1)) [] []), 0, 0)] [1, 2, 3, 6, 22] [0, 1] [.old 1, .old 0] <| .c2 (.r1 [6, 7] [1] <| .nrm [6, 7] [0] <| .ret []) (.ex fun r0 => .ex fun r11 => .exm fun rrows => .reg 2 [(4, (Or.call (vA [(sD (dI r0)), (sD (dI r11)), (S.ref 0)]) [(some (Obj.mat 2 rrows))] []), 2, 1), (5, Or.none, 3, 1)] [1, 2, 3, 6, 8] [0, 1, 3, 2] [] <| .r1 [1, 2, 3, 6, 8, 9] [0, 1, 2, 3] <| .lp [.m, .i] (fun o3 i => ⟨[(1, (vD (dL rows))), (2, (vD (dL cols))), (3, (vP 0 0)), (6, (vP 1 0)), (8, (vP 2 0)), (9, (vD (dI i)))], [(some (Obj.box [(sD (dI a0)), (sD (dI a1)), (sD (dL a2))])), (some (Obj.box [(sD (dI (0 : Int))), (sD (dI (0 : Int))), (sD (D.raw (.slice none 0 0)))])), (some (Obj.box [(sD (dI r0)), (sD (dI r11)), (S.ref 3)])), (some (Obj.mat 2 o3))], 63⟩) [.m rrows, .i (0 : Int)] <| .fm fun o3 => .fi fun i => .beg <| .r1 [1, 2, 3, 6, 8, 9, 32] [0, 1, 2, 3] <| .c2 (.r1 [1, 2, 3, 6, 8, 9, 10] [0, 1, 2, 3] <| .lp [.m, .i] (fun o31 j => ⟨[(1, (vD (dL rows))), (2, (vD (dL cols))), (3, (vP 0 0)), (6, (vP 1 0)), (8, (vP 2 0)), (9, (vD (dI i))), (10, (vD (dI j)))], [(some (Obj.box [(sD (dI a0)), (sD (dI a1)), (sD (dL a2))])), (some (Obj.box [(sD (dI (0 : Int))), (sD (dI (0 : Int))), (sD (D.raw (.slice none 0 0)))])), (some (Obj.box [(sD (dI r0)), (sD (dI r11)), (S.ref 3)])), (some (Obj.mat 2 o31))], 63⟩) [.m o3, .i (0 : Int)] <| .fm fun o31 => .fi fun j => .beg <| .r1 [1, 2, 3, 6, 8, 9, 10, 38] [0, 1, 2, 3] <| .c2 (.ex fun vx => .exl fun vx1 => .ex fun vx2 => .exb fun x0 => .exl fun x1 => .drw 0 [(11, ((Or.cells [(dI vx)]), 0, 0), []), (13, ((Or.cells [(dL vx1)]), 0, 0), []), (17, ((Or.cells [(dI vx2)]), 0, 0), []), (19, ((Or.cells [(dB x0), (dL x1)]), 0, 0), []), (21, (Or.none, 0, 0), [3])] [1, 2, 3, 6, 8, 9, 10] [0, 1, 2, 3] [] <| .r1 [1, 2, 3, 6, 8, 9, 10] [0, 1, 2, 3] <| .bk 0 [.m (o31.modify (i).toNat (fun r => r.set (j).toNat [(dB x0), (dL x1)])), .i (IntKind.i64.wrap (j + (1 : Int)))]) (.r1 [1, 2, 3, 6, 8, 9] [0, 1, 2, 3] <| .bk 1 [.m o31, .i (IntKind.i64.wrap (i + (1 : Int)))])) (.r1 [6, 7] [1, 3] <| .frz [1] <| .ret []))))
    (by kernel_rfl) (by kernel_rfl) (by kernel_rfl) h

/- f32 torsion/torsionref05.Range -/
def vc32 (n : Int) (R : V → Heap → Prop) : Prop :=
  ∃ (J0 : (List (List D)) → Int → Prop) (μ0 : (List (List D)) → Int → Nat),
  J0 ([] : List (List D)) (0 : Int) ∧ ∀ (out : List (List D)) (i : Int), J0 out i →
    ((decide (i < n)) = true →
      ((out.length + ([[(dI i)]] : List (List D)).length) * 8 ≤ 140737488355328) ∧
      (J0 (out ++ [[(dI i)]]) (IntKind.i64.wrap (i + (1 : Int))) ∧ μ0 (out ++ [[(dI i)]]) (IntKind.i64.wrap (i + (1 : Int))) < μ0 out i)) ∧
    ((decide (i < n)) = false →
      R (vD (dL out)) [])

theorem vc32_ok (n : Int) {R : V → Heap → Prop} (h : vc32 n R) : FnG prog 32 [(vD (dI n))] [] R :=
  FnG.vcg hT func32 ntmps32 (.r0 [0] <| .reg 1 [(0, Or.none, 0, 1)] [0, 3] [0] [] <| .r1 [0, 3, 4] [0] <| .lp [.l, .i] (fun out i => ⟨[(0, (vD (dI n))), (3, (vR 0)), (4, (vD (dI i)))], [(some (Obj.arr 1 out))], 16⟩) [.l ([] : List (List D)), .i (0 : Int)] <| .fl fun out => .fi fun i => .beg <| .r1 [0, 3, 4, 8] [0] <| .c2 (.reg 2 [(2, Or.none, 1, 1), (3, Or.none, 2, 1)] [0, 3, 4] [2] [] <| .r1 [0, 3, 4] [0] <| .bk 0 [.l (out ++ [[(dI i)]]), .i (IntKind.i64.wrap (i + (1 : Int)))]) (.r1 [2] [0] <| .frz [0] <| .ret []))
    (by kernel_rfl) (by kernel_rfl) (by kernel_rfl) h

/- f24 torsion/torsionref05.Filled -/
def vc24 (rows : Int) (cols : Int) (v : List (List D)) (R : V → Heap → Prop) : Prop :=
  ∃ (r0 : Int) (r1 : Int) (rrows : List (List (List D))),
  (FnD prog 33 [(vD (dI (if (16 : Int) < (if (0 : Int) > rows then (0 : Int) else rows) then (16 : Int) else (if (0 : Int) > rows then (0 : Int) else rows)))), (vD (dI (if (16 : Int) < (if (0 : Int) > cols then (0 : Int) else cols) then (16 : Int) else (if (0 : Int) > cols then (0 : Int) else cols))))] (vA [(sD (dI r0)), (sD (dI r1)), (S.ref 0)]) [(some (Obj.mat 2 rrows))]) ∧
  (∃ (J0 : (List (List (List D))) → Int → Prop) (μ0 : (List (List (List D))) → Int → Nat),
  J0 rrows (0 : Int) ∧ ∀ (o2 : List (List (List D))) (i : Int), J0 o2 i →
    ((decide (i < r0)) = true →
      ∃ (J1 : (List (List (List D))) → Int → Prop) (μ1 : (List (List (List D))) → Int → Nat),
      J1 o2 (0 : Int) ∧ ∀ (o21 : List (List (List D))) (j : Int), J1 o21 j →
        ((decide (j < r1)) = true →
          ((decide ((IntKind.i64.wrap ((IntKind.i64.wrap (i * r1)) + j)) < (v.length : Int))) = true →
            ∃ (vx : Int) (r01 : Bool) (r11 : List (List D)),
            (0 ≤ i ∧ i < (o21.length : Int)) ∧
            (0 ≤ (IntKind.i64.wrap ((IntKind.i64.wrap (i * r1)) + j)) ∧ (IntKind.i64.wrap ((IntKind.i64.wrap (i * r1)) + j)) < (v.length : Int)) ∧
            (v[((IntKind.i64.wrap ((IntKind.i64.wrap (i * r1)) + j))).toNat]? = some [(D.int .i8 vx)]) ∧
            ((10 : Int) ≠ 0) ∧
            (FnD prog 16 [(vD (dI (IntKind.i64.wrap (vx.tmod (10 : Int)))))] (vA [(sD (dB r01)), (sD (dL r11))]) []) ∧
            (∃ l, o21[(i).toNat]? = some l ∧ 0 ≤ j ∧ j < (l.length : Int)) ∧
            (J1 (o21.modify (i).toNat (fun r => r.set (j).toNat [(dB r01), (dL r11)])) (IntKind.i64.wrap (j + (1 : Int))) ∧ μ1 (o21.modify (i).toNat (fun r => r.set (j).toNat [(dB r01), (dL r11)])) (IntKind.i64.wrap (j + (1 : Int))) < μ1 o21 j)) ∧
          ((decide ((IntKind.i64.wrap ((IntKind.i64.wrap (i * r1)) + j)) < (v.length : Int))) = false →
            J0 o21 (IntKind.i64.wrap (i + (1 : Int))) ∧ μ0 o21 (IntKind.i64.wrap (i + (1 : Int))) < μ0 o2 i)) ∧
        ((decide (j < r1)) = false →
          J0 o21 (IntKind.i64.wrap (i + (1 : Int))) ∧ μ0 o21 (IntKind.i64.wrap (i + (1 : Int))) < μ0 o2 i)) ∧
    ((decide (i < r0)) = false →
      R (vA [(sD (dI r0)), (sD (dI r1)), (S.ref 0)]) [(some (Obj.mat 2 o2))]))

theorem vc24_ok (rows : Int) (cols : Int) (v : List (List D)) {R : V → Heap → Prop} (h : vc24 rows cols v R) : FnG prog 24 [(vD (dI rows)), (vD (dI cols)), (vD (dL v))] [] R :=
  FnG.vcg hT func24 ntmps24 (.reg 1 [(0, Or.none, 0, 1)] [0, 1, 2, 6] [0] [] <| .ex fun r0 => .ex fun r1 => .exm fun rrows => .reg 2 [(6, (Or.call (vA [(sD (dI r0)), (sD (dI r1)), (S.ref 0)]) [(some (Obj.mat 2 rrows))] []), 1, 1), (7, Or.none, 2, 1)] [2, 6, 7] [0, 2, 1] [] <| .r1 [2, 6, 7, 8] [0, 1, 2] <| .lp [.m, .i] (fun o2 i => ⟨[(2, (vD (dL v))), (6, (vP 0 0)), (7, (vP 1 0)), (8, (vD (dI i)))], [(some (Obj.box [(sD (dI (0 : Int))), (sD (dI (0 : Int))), (sD (D.raw (.slice none 0 0)))])), (some (Obj.box [(sD (dI r0)), (sD (dI r1)), (S.ref 2)])), (some (Obj.mat 2 o2))], 60⟩) [.m rrows, .i (0 : Int)] <| .fm fun o2 => .fi fun i => .beg <| .r1 [2, 6, 7, 8, 20] [0, 1, 2] <| .c2 (.r1 [2, 6, 7, 8, 9] [0, 1, 2] <| .lp [.m, .i] (fun o21 j => ⟨[(2, (vD (dL v))), (6, (vP 0 0)), (7, (vP 1 0)), (8, (vD (dI i))), (9, (vD (dI j)))], [(some (Obj.box [(sD (dI (0 : Int))), (sD (dI (0 : Int))), (sD (D.raw (.slice none 0 0)))])), (some (Obj.box [(sD (dI r0)), (sD (dI r1)), (S.ref 2)])), (some (Obj.mat 2 o21))], 60⟩) [.m o2, .i (0 : Int)] <| .fm fun o21 => .fi fun j => .beg <| .spl ((decide (j < r1))) (.reg 0 [(4, (Or.bool true), 0, 0)] [2, 6, 7, 8, 9, 37] [0, 1, 2] [.old 0] <| .c2 (.ex fun vx => .exb fun r01 => .exl fun r11 => .drw 0 [(14, ((Or.cells [(D.int .i8 vx)]), 0, 0), []), (17, ((Or.call (vA [(sD (dB r01)), (sD (dL r11))]) [] []), 0, 0), []), (19, (Or.none, 0, 0), [2])] [2, 6, 7, 8, 9] [0, 1, 2] [] <| .r1 [2, 6, 7, 8, 9] [0, 1, 2] <| .bk 0 [.m (o21.modify (i).toNat (fun r => r.set (j).toNat [(dB r01), (dL r11)])), .i (IntKind.i64.wrap (j + (1 : Int)))]) (.r1 [2, 6, 7, 8] [0, 1, 2] <| .bk 1 [.m o21, .i (IntKind.i64.wrap (i + (1 : Int)))])) (.reg 0 [(4, (Or.bool false), 0, 0)] [2, 6, 7, 8, 9, 37] [0, 1, 2] [.old 0] <| .ct false none <| .r1 [2, 6, 7, 8] [0, 1, 2] <| .bk 1 [.m o21, .i (IntKind.i64.wrap (i + (1 : Int)))])) (.r1 [6] [0, 2] <| .ret [1]))
    (by kernel_rfl) (by kernel_rfl) (by kernel_rfl) h

/- f15 torsion/torsionref05.Made -/
def vc15 (x0 : Int) (x1 : Int) (x2 : List (List D)) (R : V → Heap → Prop) : Prop :=
  ∃ (r0 : Int) (r1 : Int) (rrows : List (List (List D))),
  ((5 : Int) ≠ 0) ∧
  (FnD prog 24 [(vD (dI (IntKind.i64.wrap (x0.tmod (5 : Int))))), (vD (dI (IntKind.i64.wrap (x1.tmod (5 : Int))))), (vD (dL x2))] (vA [(sD (dI r0)), (sD (dI r1)), (S.ref 0)]) [(some (Obj.mat 2 rrows))]) ∧
  (R (vA [(sD (dI r0)), (sD (dI r1)), (S.ref 0)]) [(some (Obj.mat 2 rrows))])

theorem vc15_ok (x0 : Int) (x1 : Int) (x2 : List (List D)) {R : V → Heap → Prop} (h : vc15 x0 x1 x2 R) : FnG prog 15 [(vA [(sD (D.int .u8 x0)), (sD (D.int .u8 x1)), (sD (dL x2))])] [] R :=
  FnG.vcg hT func15 ntmps15 (.reg 2 [(0, Or.none, 0, 1), (1, Or.none, 1, 1)] [1, 2] [0, 1] [] <| .ex fun r0 => .ex fun r1 => .exm fun rrows => .reg 1 [(10, (Or.call (vA [(sD (dI r0)), (sD (dI r1)), (S.ref 0)]) [(some (Obj.mat 2 rrows))] []), 2, 1)] [2] [1, 2] [.new, .old 0] <| .ret [1])
    (by kernel_rfl) (by kernel_rfl) (by kernel_rfl) h

/- f70 torsion/torsionref05.Ints -/
def vc70 (rows : Int) (cols : Int) (l : List (List D)) (R : V → Heap → Prop) : Prop :=
  ∃ (r0 : Int) (r1 : Int) (rrows : List (List (List D))),
  (FnD prog 33 [(vD (dI rows)), (vD (dI cols))] (vA [(sD (dI r0)), (sD (dI r1)), (S.ref 0)]) [(some (Obj.mat 2 rrows))]) ∧
  (∃ (J0 : (List (List (List D))) → Int → Prop) (μ0 : (List (List (List D))) → Int → Nat),
  J0 rrows (0 : Int) ∧ ∀ (o2 : List (List (List D))) (i : Int), J0 o2 i →
    ((decide (i < rows)) = true →
      ∃ (J1 : (List (List (List D))) → Int → Prop) (μ1 : (List (List (List D))) → Int → Nat),
      J1 o2 (0 : Int) ∧ ∀ (o21 : List (List (List D))) (j : Int), J1 o21 j →
        ((decide (j < cols)) = true →
          ((decide ((IntKind.i64.wrap ((IntKind.i64.wrap (i * cols)) + j)) < (l.length : Int))) = true →
            ∃ (vx : Int) (r01 : Bool) (r11 : List (List D)),
            (0 ≤ i ∧ i < (o21.length : Int)) ∧
            (0 ≤ (IntKind.i64.wrap ((IntKind.i64.wrap (i * cols)) + j)) ∧ (IntKind.i64.wrap ((IntKind.i64.wrap (i * cols)) + j)) < (l.length : Int)) ∧
            (l[((IntKind.i64.wrap ((IntKind.i64.wrap (i * cols)) + j))).toNat]? = some [(dI vx)]) ∧
            (FnD prog 16 [(vD (dI vx))] (vA [(sD (dB r01)), (sD (dL r11))]) []) ∧
            (∃ l, o21[(i).toNat]? = some l ∧ 0 ≤ j ∧ j < (l.length : Int)) ∧
            (J1 (o21.modify (i).toNat (fun r => r.set (j).toNat [(dB r01), (dL r11)])) (IntKind.i64.wrap (j + (1 : Int))) ∧ μ1 (o21.modify (i).toNat (fun r => r.set (j).toNat [(dB r01), (dL r11)])) (IntKind.i64.wrap (j + (1 : Int))) < μ1 o21 j)) ∧
          ((decide ((IntKind.i64.wrap ((IntKind.i64.wrap (i * cols)) + j)) < (l.length : Int))) = false →
            J0 o21 (IntKind.i64.wrap (i + (1 : Int))) ∧ μ0 o21 (IntKind.i64.wrap (i + (1 : Int))) < μ0 o2 i)) ∧
        ((decide (j < cols)) = false →
          J0 o21 (IntKind.i64.wrap (i + (1 : Int))) ∧ μ0 o21 (IntKind.i64.wrap (i + (1 : Int))) < μ0 o2 i)) ∧
    ((decide (i < rows)) = false →
      R (vA [(sD (dI r0)), (sD (dI r1)), (S.ref 0)]) [(some (Obj.mat 2 o2))]))

theorem vc70_ok (rows : Int) (cols : Int) (l : List (List D)) {R : V → Heap → Prop} (h : vc70 rows cols l R) : FnG prog 70 [(vD (dI rows)), (vD (dI cols)), (vD (dL l))] [] R :=
  FnG.vcg hT func70 ntmps70 (.reg 1 [(0, Or.none, 0, 1)] [0, 1, 2, 6] [0] [] <| .ex fun r0 => .ex fun r1 => .exm fun rrows => .reg 2 [(2, (Or.call (vA [(sD (dI r0)), (sD (dI r1)), (S.ref 0)]) [(some (Obj.mat 2 rrows))] []), 1, 1), (3, Or.none, 2, 1)] [0, 1, 2, 6, 7] [0, 2, 1] [] <| .r1 [0, 1, 2, 6, 7, 8] [0, 1, 2] <| .lp [.m, .i] (fun o2 i => ⟨[(0, (vD (dI rows))), (1, (vD (dI cols))), (2, (vD (dL l))), (6, (vP 0 0)), (7, (vP 1 0)), (8, (vD (dI i)))], [(some (Obj.box [(sD (dI (0 : Int))), (sD (dI (0 : Int))), (sD (D.raw (.slice none 0 0)))])), (some (Obj.box [(sD (dI r0)), (sD (dI r1)), (S.ref 2)])), (some (Obj.mat 2 o2))], 50⟩) [.m rrows, .i (0 : Int)] <| .fm fun o2 => .fi fun i => .beg <| .r1 [0, 1, 2, 6, 7, 8, 15] [0, 1, 2] <| .c2 (.r1 [0, 1, 2, 6, 7, 8, 9] [0, 1, 2] <| .lp [.m, .i] (fun o21 j => ⟨[(0, (vD (dI rows))), (1, (vD (dI cols))), (2, (vD (dL l))), (6, (vP 0 0)), (7, (vP 1 0)), (8, (vD (dI i))), (9, (vD (dI j)))], [(some (Obj.box [(sD (dI (0 : Int))), (sD (dI (0 : Int))), (sD (D.raw (.slice none 0 0)))])), (some (Obj.box [(sD (dI r0)), (sD (dI r1)), (S.ref 2)])), (some (Obj.mat 2 o21))], 50⟩) [.m o2, .i (0 : Int)] <| .fm fun o21 => .fi fun j => .beg <| .spl ((decide (j < cols))) (.reg 0 [(3, (Or.bool true), 0, 0)] [0, 1, 2, 6, 7, 8, 9, 30] [0, 1, 2] [.old 0] <| .c2 (.ex fun vx => .exb fun r01 => .exl fun r11 => .drw 0 [(13, ((Or.cells [(dI vx)]), 0, 0), []), (14, ((Or.call (vA [(sD (dB r01)), (sD (dL r11))]) [] []), 0, 0), []), (16, (Or.none, 0, 0), [2])] [0, 1, 2, 6, 7, 8, 9] [0, 1, 2] [] <| .r1 [0, 1, 2, 6, 7, 8, 9] [0, 1, 2] <| .bk 0 [.m (o21.modify (i).toNat (fun r => r.set (j).toNat [(dB r01), (dL r11)])), .i (IntKind.i64.wrap (j + (1 : Int)))]) (.r1 [0, 1, 2, 6, 7, 8] [0, 1, 2] <| .bk 1 [.m o21, .i (IntKind.i64.wrap (i + (1 : Int)))])) (.reg 0 [(3, (Or.bool false), 0, 0)] [0, 1, 2, 6, 7, 8, 9, 30] [0, 1, 2] [.old 0] <| .ct false none <| .r1 [0, 1, 2, 6, 7, 8] [0, 1, 2] <| .bk 1 [.m o21, .i (IntKind.i64.wrap (i + (1 : Int)))])) (.r1 [6] [0, 2] <| .ret [1]))
    (by kernel_rfl) (by kernel_rfl) (by kernel_rfl) h

end Go.AM

/- What the functions of package matrix, and of its reference, answer: tables, validity, comparing. -/
namespace Go.AM
open Go.Proofs.Try

/-- Rows and columns. -/
def Mx (r c : Nat) (m : List (List Int)) : Prop := m.length = r ∧ ∀ x ∈ m, x.length = c

def SzR (r : List Int) : Prop := ∀ z ∈ r, Sz z
def SzM (m : List (List Int)) : Prop := ∀ r ∈ m, SzR r

def tableR (c : Nat) (g : Nat → Int) : List Int := (List.range c).map g
def table (r c : Nat) (g : Nat → Nat → Int) : List (List Int) := (List.range r).map fun i => tableR c (g i)

theorem table_mx (r c : Nat) (g : Nat → Nat → Int) : Mx r c (table r c g) := ⟨by simp [table], fun x hx => by
  simp only [table, List.mem_map] at hx
  obtain ⟨i, _, rfl⟩ := hx; simp [tableR]⟩

def el (m : List (List Int)) (i j : Nat) : Int := (m.getD i []).getD j 0
def elr (r : List Int) (j : Nat) : Int := r.getD j 0

theorem row_getI {r : List Int} {i : Int} (h0 : 0 ≤ i) (h : i < (r.length : Int)) : (row r)[i.toNat]? = some (cI (elr r i.toNat)) := by
  have hi : i.toNat < r.length := by omega
  rw [row_get hi]; simp [elr, List.getElem?_eq_getElem hi]

theorem rows_getI {m : List (List Int)} {i : Int} (h0 : 0 ≤ i) (h : i < (m.length : Int)) : (rows m)[i.toNat]? = some [D.sl (row (m.getD i.toNat []))] := by
  have hi : i.toNat < m.length := by omega
  rw [rows_get hi]; simp [List.getElem?_eq_getElem hi]

theorem row_getN {r : List Int} {i : Nat} (h : i < r.length) : (row r)[(i : Int).toNat]? = some (cI (elr r i)) := by
  have := row_getI (r := r) (i := (i : Int)) (by omega) (by omega)
  rwa [Int.toNat_natCast] at this ⊢

theorem rows_getN {m : List (List Int)} {i : Nat} (h : i < m.length) : (rows m)[(i : Int).toNat]? = some [D.sl (row (m.getD i []))] := by
  have := rows_getI (m := m) (i := (i : Int)) (by omega) (by omega)
  rwa [Int.toNat_natCast] at this ⊢

theorem inc64 {i : Nat} (h : i ≤ 4611686018427387904) : IntKind.i64.wrap ((i : Int) + 1) = ((i + 1 : Nat) : Int) := by rw [w64 (by omega) (by omega)]; simp

/-- The first rows are done, the others are empty. -/
def part (r c : Nat) (g : Nat → Nat → Int) (i : Nat) : List (List (List D)) := (List.range r).map fun k => if k < i then row (tableR c (g k)) else []

theorem part_all (r c : Nat) (g : Nat → Nat → Int) : matD (part r c g r) = rows (table r c g) := by
  unfold matD part rows table
  rw [List.map_map, List.map_map]
  apply List.map_congr_left
  intro k hk
  simp [List.mem_range.1 hk]

theorem cI_zero : cI 0 = [D.bool false, D.sl ([] : List (List D))] := rfl

theorem part_set (r c : Nat) (g : Nat → Nat → Int) (i : Nat) (hi : i < r) : (part r c g i).set i (row (tableR c (g i))) = part r c g (i + 1) := by
  apply List.ext_getElem?
  intro k
  unfold part
  by_cases hk : k = i
  · subst hk; simp [hi]
  · rw [List.getElem?_set_ne (Ne.symm hk)]
    simp only [List.getElem?_map]
    by_cases hkr : k < r
    · simp only [List.getElem?_range hkr, Option.map_some]
      congr 1
      by_cases h1 : k < i
      · rw [if_pos h1, if_pos (by omega)]
      · rw [if_neg h1, if_neg (by omega)]
    · rw [List.getElem?_eq_none (by simpa using hkr)]; rfl

/-- A row under way: the first elements are done, the others are 0. -/
def partR (c : Nat) (g : Nat → Int) (j : Nat) : List Int := (List.range c).map fun k => if k < j then g k else 0

theorem partR_all (c : Nat) (g : Nat → Int) : partR c g c = tableR c g := by
  unfold partR tableR
  apply List.map_congr_left
  intro k hk
  simp [List.mem_range.1 hk]

theorem partR_zero (c : Nat) (g : Nat → Int) : row (partR c g 0) = List.replicate c [D.bool false, D.sl ([] : List (List D))] := by
  unfold partR row
  rw [List.map_map]
  have : (cI ∘ fun k => if k < 0 then g k else (0 : Int)) = fun _ => [D.bool false, D.sl ([] : List (List D))] := by funext k; simp [cI_zero]
  rw [this, List.map_const']; simp

theorem partR_set (c : Nat) (g : Nat → Int) (j : Nat) (hj : j < c) : (row (partR c g j)).set j (cI (g j)) = row (partR c g (j + 1)) := by
  apply List.ext_getElem?
  intro k
  unfold partR row
  by_cases hk : k = j
  · subst hk; simp [hj]
  · rw [List.getElem?_set_ne (Ne.symm hk)]
    simp only [List.getElem?_map]
    by_cases hkr : k < c
    · simp only [List.getElem?_range hkr, Option.map_some]
      congr 1
      by_cases h1 : k < j
      · rw [if_pos h1, if_pos (by omega)]
      · rw [if_neg h1, if_neg (by omega)]
    · rw [List.getElem?_eq_none (by simpa using hkr)]; rfl

theorem build_ok {r c : Nat} (hr : r ≤ 4294967296) (hc : c ≤ 4294967296) {f : FuncId} {fc : List D} {g : Nat → Nat → Int}
    (hf : ∀ i j : Nat, i < r → j < c → FnD prog f ([vi i, vi j] ++ fc.map dV) (eI (g i j)) []) :
    FnD prog 76 [vi r, vi c, .e (.sc (.dat (.fn (.func f) fc)))] (eM r c (table r c g)) [] := by
  refine vc76_ok r c f fc (R := Out _) ?_
  unfold vc76
  refine ⟨⟨by omega, by omega, by omega⟩, fun o t => ∃ i : Nat, t = (i : Int) ∧ i ≤ r ∧ o = part r c g i, fun _ t => ((r : Int) - t).toNat, ⟨0, rfl, by omega, ?_⟩, ?_⟩
  · unfold part
    rw [Int.toNat_natCast]
    have : (fun k => if k < 0 then row (tableR c (g k)) else ([] : List (List D))) = fun _ => [] := by funext k; simp
    rw [this, List.map_const']; simp
  rintro _ _ ⟨i, rfl, hi, rfl⟩
  have hlen : ∀ i, (part r c g i).length = r := fun i => by simp [part]
  refine ⟨fun h => ?_, fun h => ?_⟩
  · have hir : i < r := by simpa using h
    refine ⟨⟨by omega, by omega, by omega⟩, ⟨by omega, by rw [hlen]; omega⟩, fun o t => ∃ j : Nat, t = (j : Int) ∧ j ≤ c ∧ o = (part r c g i).set i (row (partR c (g i) j)), fun _ t => ((c : Int) - t).toNat, ⟨0, rfl, by omega, ?_⟩, ?_⟩
    · rw [Int.toNat_natCast, Int.toNat_natCast, partR_zero]
    rintro _ _ ⟨j, rfl, hj, rfl⟩
    refine ⟨fun h2 => ?_, fun h2 => ?_⟩
    · have hjc : j < c := by simpa using h2
      refine ⟨decide (g i j < 0), lim (dz (g i j)), ⟨by omega, by simp [hlen]; omega⟩, hf i j hir hjc, ⟨row (partR c (g i) j), by rw [Int.toNat_natCast]; simp [hlen, hir], by omega, by simp [row_length, partR]; omega⟩, ?_⟩
      rw [inc64 (by omega)]
      refine ⟨⟨j + 1, rfl, by omega, ?_⟩, by show ((c : Int) - ((j + 1 : Nat) : Int)).toNat < ((c : Int) - (j : Int)).toNat; omega⟩
      rw [Int.toNat_natCast, Int.toNat_natCast]
      have e1 : ((part r c g i).set i (row (partR c (g i) j))).modify i (fun q => q.set j [D.bool (decide (g i j < 0)), D.sl (lim (dz (g i j)))]) = (part r c g i).set i ((row (partR c (g i) j)).set j (cI (g i j))) := by
        apply List.ext_getElem?
        intro k
        rw [List.getElem?_modify]
        by_cases hk : i = k
        · subst hk; simp [hlen, hir]; rfl
        · simp [hk, List.getElem?_set_ne hk]
      rw [e1, partR_set c (g i) j hjc]
    · have hjc : j = c := by have : c ≤ j := by simpa using h2
                             omega
      subst hjc
      rw [inc64 (by omega)]
      refine ⟨⟨i + 1, rfl, by omega, ?_⟩, by show ((r : Int) - ((i + 1 : Nat) : Int)).toNat < ((r : Int) - (i : Int)).toNat; omega⟩
      rw [partR_all, part_set r j g i hir]
  · have hir : i = r := by have : r ≤ i := by simpa using h
                           omega
    subst hir
    rw [part_all]
    exact ⟨rfl, rfl⟩

/-! ### Valid, Same -/

theorem validVec_ok {r : List Int} (hr : SzR r) (hl : r.length ≤ 4294967296) : FnD prog 75 [vs (row r)] (vb true) [] := by
  refine vc75_ok (row r) (R := Out _) ?_
  unfold vc75
  simp only [row_length]
  refine ⟨fun t => ∃ i : Nat, t = (i : Int) ∧ i ≤ r.length, fun t => ((r.length : Int) - t).toNat, ⟨0, rfl, by omega⟩, ?_⟩
  rintro _ ⟨i, rfl, hi⟩
  refine ⟨fun h => ?_, fun h => outb rfl⟩
  have hir : i < r.length := by simpa using h
  refine ⟨decide (elr r i < 0), lim (dz (elr r i)), true, ⟨by omega, by omega⟩, row_getN hir, rvalid_ok _ (hr _ ?_), fun h2 => by simp at h2, fun _ => ?_⟩
  · simp [elr, List.getElem?_eq_getElem hir]
  · rw [inc64 (by omega)]
    exact ⟨⟨i + 1, rfl, by omega⟩, by show ((r.length : Int) - ((i + 1 : Nat) : Int)).toNat < ((r.length : Int) - (i : Int)).toNat; omega⟩

theorem getD_mem {α : Type} {l : List α} {i : Nat} {d : α} (h : i < l.length) : l.getD i d ∈ l := by
  rw [List.getD_eq_getElem?_getD, List.getElem?_eq_getElem h]; exact List.getElem_mem h

theorem rvalidM_ok {r c : Nat} {m : List (List Int)} (hm : Mx r c m) (hs : SzM m) (hr : r ≤ 4294967296) (hc : c ≤ 4294967296) : FnD prog 18 [eM r c m] (vb true) [] := by
  obtain ⟨h1, h2⟩ := hm
  refine vc18_ok _ _ _ (R := Out _) ?_
  unfold vc18
  simp only [rows_length]
  refine ⟨fun h => ?_, fun _ => ⟨fun h => ?_, fun _ => ⟨fun h => ?_, fun _ => ⟨fun t => ∃ i : Nat, t = (i : Int) ∧ i ≤ m.length, fun t => ((m.length : Int) - t).toNat, ⟨0, rfl, by omega⟩, ?_⟩⟩⟩⟩
  · simp at h; omega
  · simp at h; omega
  · simp [h1] at h
  rintro _ ⟨i, rfl, hi⟩
  refine ⟨fun h => ?_, fun h => outb rfl⟩
  have hir : i < m.length := by simpa using h
  have hin : m.getD i [] ∈ m := getD_mem hir
  have hlen := h2 _ hin
  refine ⟨row (m.getD i []), ⟨by omega, by omega⟩, by simpa using rows_getI (m := m) (i := (i : Int)) (by omega) (by omega), fun h3 => ?_, fun _ => ⟨true, validVec_ok (hs _ hin) (by omega), fun h4 => by simp at h4, fun _ => ?_⟩⟩
  · rw [row_length, hlen] at h3; simp at h3
  · rw [inc64 (by omega)]
    exact ⟨⟨i + 1, rfl, by omega⟩, by show ((m.length : Int) - ((i + 1 : Nat) : Int)).toNat < ((m.length : Int) - (i : Int)).toNat; omega⟩

end Go.AM

/- What the functions of package matrix, and of its reference, answer: comparing, transposing, multiplying. -/
namespace Go.AM
open Go.Proofs.Try

theorem elr_mem {r : List Int} {i : Nat} (h : i < r.length) : elr r i ∈ r := getD_mem h

theorem list_ext {a b : List Int} (hl : a.length = b.length) (h : ∀ k, k < a.length → elr a k = elr b k) : a = b := by
  apply List.ext_getElem hl
  intro i h1 h2
  have := h i h1
  simpa [elr, List.getElem?_eq_getElem h1, List.getElem?_eq_getElem h2] using this

theorem lists_ext {a b : List (List Int)} (hl : a.length = b.length) (h : ∀ k, k < a.length → a.getD k [] = b.getD k []) : a = b := by
  apply List.ext_getElem hl
  intro i h1 h2
  have := h i h1
  simpa [List.getElem?_eq_getElem h1, List.getElem?_eq_getElem h2] using this

theorem sameVec_ok {a b : List Int} (ha : SzR a) (hb : SzR b) (hl : a.length ≤ 4294967296) : FnD prog 37 [vs (row a), vs (row b)] (vb (decide (a = b))) [] := by
  refine vc37_ok _ _ (R := Out _) ?_
  unfold vc37
  simp only [row_length]
  refine ⟨fun h => outb ?_, fun h => ?_⟩
  · have h : ¬ ((a.length : Int) = (b.length : Int)) := by simpa using h
    rw [eq_comm, decide_eq_false_iff_not]
    intro e; subst e; exact h rfl
  · have hlen : a.length = b.length := by
      have : (a.length : Int) = (b.length : Int) := by simpa using h
      omega
    refine ⟨fun t => ∃ i : Nat, t = (i : Int) ∧ i ≤ a.length ∧ ∀ k, k < i → elr a k = elr b k, fun t => ((a.length : Int) - t).toNat, ⟨0, rfl, by omega, fun k hk => by omega⟩, ?_⟩
    rintro _ ⟨i, rfl, hi, hinv⟩
    refine ⟨fun h2 => ?_, fun h2 => outb ?_⟩
    · have hia : i < a.length := by simpa using h2
      have hib : i < b.length := by omega
      refine ⟨_, _, _, _, decide (elr a i = elr b i), ⟨by omega, by omega⟩, row_getN hia, ⟨by omega, by omega⟩, row_getN hib, rsame_ok (ha _ (elr_mem hia)) (hb _ (elr_mem hib)), fun h3 => outb ?_, fun h3 => ?_⟩
      · rw [eq_comm, decide_eq_false_iff_not]
        intro e; subst e; simp at h3
      · have he : elr a i = elr b i := by simpa using h3
        rw [inc64 (by omega)]
        refine ⟨⟨i + 1, rfl, by omega, fun k hk => ?_⟩, by show ((a.length : Int) - ((i + 1 : Nat) : Int)).toNat < ((a.length : Int) - (i : Int)).toNat; omega⟩
        by_cases hki : k = i
        · subst hki; exact he
        · exact hinv k (by omega)
    · have hia : i = a.length := by have : a.length ≤ i := by simpa using h2
                                    omega
      have : a = b := list_ext hlen fun k hk => hinv k (by omega)
      simp [this]

theorem same_ok {r c r' c' : Int} {a b : List (List Int)} (ha : SzM a) (hb : SzM b) (hl : a.length ≤ 4294967296) (hc : ∀ x ∈ a, x.length ≤ 4294967296) :
    FnD prog 23 [eM r c a, eM r' c' b] (vb (decide (r = r' ∧ c = c' ∧ a = b))) [] := by
  refine vc23_ok _ _ _ _ _ _ (R := Out _) ?_
  unfold vc23
  simp only [rows_length]
  refine ⟨fun h => outb ?_, fun h => ⟨fun h2 => outb ?_, fun h2 => ⟨fun h3 => outb ?_, fun h3 => ?_⟩⟩⟩
  · have h : ¬ r = r' := by simpa using h
    simp [h]
  · have h2 : ¬ c = c' := by simpa using h2
    simp [h2]
  · have h3 : ¬ ((a.length : Int) = (b.length : Int)) := by simpa using h3
    rw [eq_comm, decide_eq_false_iff_not]
    rintro ⟨_, _, e⟩; subst e; exact h3 rfl
  · have h : r = r' := by simpa using h
    have h2 : c = c' := by simpa using h2
    have hlen : a.length = b.length := by
      have : (a.length : Int) = (b.length : Int) := by simpa using h3
      omega
    refine ⟨fun t => ∃ i : Nat, t = (i : Int) ∧ i ≤ a.length ∧ ∀ k, k < i → a.getD k [] = b.getD k [], fun t => ((a.length : Int) - t).toNat, ⟨0, rfl, by omega, fun k hk => by omega⟩, ?_⟩
    rintro _ ⟨i, rfl, hi, hinv⟩
    refine ⟨fun h4 => ?_, fun h4 => outb ?_⟩
    · have hia : i < a.length := by simpa using h4
      have hib : i < b.length := by omega
      refine ⟨_, _, decide (a.getD i [] = b.getD i []), ⟨by omega, by omega⟩, rows_getN hia, ⟨by omega, by omega⟩, rows_getN hib, sameVec_ok (ha _ (getD_mem hia)) (hb _ (getD_mem hib)) (hc _ (getD_mem hia)), fun h5 => outb ?_, fun h5 => ?_⟩
      · rw [eq_comm, decide_eq_false_iff_not]
        rintro ⟨_, _, e⟩; subst e; simp at h5
      · have he : a.getD i [] = b.getD i [] := by simpa using h5
        rw [inc64 (by omega)]
        refine ⟨⟨i + 1, rfl, by omega, fun k hk => ?_⟩, by show ((a.length : Int) - ((i + 1 : Nat) : Int)).toNat < ((a.length : Int) - (i : Int)).toNat; omega⟩
        by_cases hki : k = i
        · subst hki; exact he
        · exact hinv k (by omega)
    · have hia : i = a.length := by have : a.length ≤ i := by simpa using h4
                                    omega
      have : a = b := lists_ext hlen fun k hk => hinv k (by omega)
      simp [this, h, h2]

theorem sized_ok {r c : Nat} {m : List (List Int)} (hm : Mx r c m) (hs : SzM m) (hr : r ≤ 4294967296) (hc : c ≤ 4294967296) (r' c' : Int) :
    FnD prog 22 [eM r c m, vi r', vi c'] (vb (decide ((r : Int) = r' ∧ (c : Int) = c'))) [] := by
  refine vc22_ok _ _ _ _ _ (R := Out _) ?_
  unfold vc22
  refine ⟨fun h => ⟨fun h2 => ⟨true, rvalidM_ok hm hs hr hc, outb ?_⟩, fun h2 => outb ?_⟩, fun h => outb ?_⟩
  · have h : (r : Int) = r' := by simpa using h
    have h2 : (c : Int) = c' := by simpa using h2
    simp [h, h2]
  · have h2 : ¬ (c : Int) = c' := by simpa using h2
    simp [h2]
  · have h : ¬ (r : Int) = r' := by simpa using h
    simp [h]

/-! ### Transposing -/

theorem el_mem {r c : Nat} {m : List (List Int)} (hm : Mx r c m) {i j : Nat} (hi : i < r) (_hj : j < c) : (m.getD i []).length = c ∧ m.getD i [] ∈ m := by
  have h1 : i < m.length := by rw [hm.1]; exact hi
  exact ⟨hm.2 _ (getD_mem h1), getD_mem h1⟩

/-- One element, read. -/
theorem read_el {r c : Nat} {m : List (List Int)} (hm : Mx r c m) {i j : Nat} (hi : i < r) (hj : j < c) :
    (rows m)[(i : Int).toNat]? = some [D.sl (row (m.getD i []))] ∧ (row (m.getD i []))[(j : Int).toNat]? = some (cI (el m i j)) ∧ ((j : Int) < ((row (m.getD i [])).length : Int)) ∧ ((i : Int) < ((rows m).length : Int)) := by
  have h1 : i < m.length := by rw [hm.1]; exact hi
  have h2 := (el_mem hm hi hj).1
  refine ⟨rows_getN h1, row_getN (by omega), by rw [row_length]; omega, by rw [rows_length]; omega⟩

theorem transpose_ok {r c : Nat} {m : List (List Int)} (hm : Mx r c m) (hr : r ≤ 4294967296) (hc : c ≤ 4294967296) : FnD prog 21 [eM r c m] (eM c r (table c r fun i j => el m j i)) [] := by
  refine vc21_ok _ _ _ (R := Out _) ?_
  unfold vc21
  refine ⟨_, _, _, build_ok hc hr (g := fun i j => el m j i) fun i j hi hj => ?_, rfl, rfl⟩
  refine vc79_ok _ _ _ _ _ (R := Out _) ?_
  unfold vc79
  obtain ⟨e1, e2, e3, e4⟩ := read_el hm hj hi
  exact ⟨_, _, _, ⟨by omega, e4⟩, e1, ⟨by omega, e3⟩, e2, rfl, rfl⟩

/-! ### Multiplying -/

def dsum (f g : Nat → Int) : Nat → Int
  | 0 => 0
  | n + 1 => dsum f g n + f n * g n

/-- No element is greater than K. -/
def BdR (K : Nat) (r : List Int) : Prop := ∀ z ∈ r, z.natAbs ≤ K
def BdM (K : Nat) (m : List (List Int)) : Prop := ∀ r ∈ m, BdR K r

/-- A bound under which nothing is too long. -/
theorem sz_of {z : Int} (h : z.natAbs ≤ 497323236409786642155382248146820840100456150797347717440463976893159497012533375533056) : Sz z :=
  Sz.of_lt 10 (by decide) (Nat.lt_of_le_of_lt h (by decide))

theorem BdR.sz {K : Nat} {r : List Int} (h : BdR K r) (hK : K ≤ 497323236409786642155382248146820840100456150797347717440463976893159497012533375533056) : SzR r := fun z hz => sz_of (Nat.le_trans (h z hz) hK)
theorem BdM.sz {K : Nat} {m : List (List Int)} (h : BdM K m) (hK : K ≤ 497323236409786642155382248146820840100456150797347717440463976893159497012533375533056) : SzM m := fun r hr => (h r hr).sz hK

theorem mul_natAbs_le {x y : Int} {K L : Nat} (hx : x.natAbs ≤ K) (hy : y.natAbs ≤ L) : (x * y).natAbs ≤ K * L := by rw [Int.natAbs_mul]; exact Nat.mul_le_mul hx hy

theorem dsum_le {f g : Nat → Int} {K L : Nat} : ∀ n, (∀ k, k < n → (f k).natAbs ≤ K) → (∀ k, k < n → (g k).natAbs ≤ L) → (dsum f g n).natAbs ≤ n * (K * L)
  | 0, _, _ => by simp [dsum]
  | n + 1, hf, hg => by
    have h1 := dsum_le n (fun k hk => hf k (by omega)) fun k hk => hg k (by omega)
    have h2 := mul_natAbs_le (hf n (by omega)) (hg n (by omega))
    have h3 := Int.natAbs_add_le (dsum f g n) (f n * g n)
    simp only [dsum]
    rw [Nat.add_mul]; omega

theorem dstep_ok {s x y : Int} (hs : Sz s) (hx : Sz x) (hy : Sz y) (hp : Sz (x * y)) : FnD prog 129 [eI s, eI x, eI y] (eI (s + x * y)) [] := by
  refine vc129_ok _ _ _ _ _ _ (R := Out _) ?_
  unfold vc129
  refine ⟨_, sign_ok x, fun h => oute ?_, fun h => ⟨_, sign_ok y, fun h2 => oute ?_, fun h2 => ⟨_, _, _, _, mul_ok hx hy, add_ok hs hp, oute rfl⟩⟩⟩
  · have hx0 : x = 0 := by
      apply Classical.byContradiction
      intro hn
      rw [if_neg hn] at h
      by_cases h1 : x < 0
      · rw [if_pos h1] at h; simp at h
      · rw [if_neg h1] at h; simp at h
    subst hx0; simp
  · have hy0 : y = 0 := by
      apply Classical.byContradiction
      intro hn
      rw [if_neg hn] at h2
      by_cases h1 : y < 0
      · rw [if_pos h1] at h2; simp at h2
      · rw [if_neg h1] at h2; simp at h2
    subst hy0; simp

theorem fold_ok {a b : List Int} {K : Nat} (hab : a.length = b.length) (ha : BdR K a) (hb : BdR K b) (hl : a.length ≤ 4294967296) (hK : K ≤ 1329227995784915872903807060280344576) :
    FnD prog 128 [vs (row a), vs (row b), eI 0, .e (.sc (.dat (.fn (.func 129) ([] : List D))))] (eI (dsum (elr a) (elr b) a.length)) [] := by
  have hKK : K * K ≤ 1329227995784915872903807060280344576 * 1329227995784915872903807060280344576 := Nat.mul_le_mul hK hK
  have hnK : ∀ n, n ≤ a.length → n * (K * K) ≤ 4294967296 * (1329227995784915872903807060280344576 * 1329227995784915872903807060280344576) := fun n hn => Nat.mul_le_mul (by omega) hKK
  refine vc128_ok _ _ _ _ _ _ (R := Out _) ?_
  unfold vc128
  simp only [row_length]
  refine ⟨fun o0 o1 t => ∃ i : Nat, t = (i : Int) ∧ i ≤ a.length ∧ o0 = decide (dsum (elr a) (elr b) i < 0) ∧ o1 = lim (dz (dsum (elr a) (elr b) i)), fun _ _ t => ((a.length : Int) - t).toNat, ⟨0, rfl, by omega, rfl, rfl⟩, ?_⟩
  rintro _ _ _ ⟨i, rfl, hi, rfl, rfl⟩
  refine ⟨fun h => ?_, fun h => ?_⟩
  · have hia : i < a.length := by simpa using h
    have hib : i < b.length := by omega
    have hs : Sz (dsum (elr a) (elr b) i) := sz_of (Nat.le_trans (dsum_le (K := K) (L := K) i (fun k hk => ha _ (elr_mem (by omega))) fun k hk => hb _ (elr_mem (by omega))) (Nat.le_trans (hnK i hi) (by decide)))
    have hx := ha _ (elr_mem hia)
    have hy := hb _ (elr_mem hib)
    refine ⟨_, _, _, _, decide (dsum (elr a) (elr b) (i + 1) < 0), lim (dz (dsum (elr a) (elr b) (i + 1))), ⟨by omega, by omega⟩, row_getN hia, ⟨by omega, by omega⟩, row_getN hib, dstep_ok hs (sz_of (Nat.le_trans hx (by omega))) (sz_of (Nat.le_trans hy (by omega))) (sz_of (Nat.le_trans (mul_natAbs_le hx hy) (Nat.le_trans hKK (by decide)))), ?_⟩
    rw [inc64 (by omega)]
    exact ⟨⟨i + 1, rfl, by omega, rfl, rfl⟩, by show ((a.length : Int) - ((i + 1 : Nat) : Int)).toNat < ((a.length : Int) - (i : Int)).toNat; omega⟩
  · have hia : i = a.length := by have : a.length ≤ i := by simpa using h
                                  omega
    subst hia
    exact ⟨rfl, rfl⟩

theorem dot_ok {a b : List Int} {K : Nat} (hab : a.length = b.length) (ha : BdR K a) (hb : BdR K b) (hl : a.length ≤ 4294967296) (hK : K ≤ 1329227995784915872903807060280344576) :
    FnD prog 78 [vs (row a), vs (row b)] (eI (dsum (elr a) (elr b) a.length)) [] := by
  refine vc78_ok _ _ (R := Out _) ?_
  unfold vc78
  exact ⟨_, _, fold_ok hab ha hb hl hK, rfl, rfl⟩

end Go.AM

/- What the functions of package matrix answer: products, sums, new matrices. -/
namespace Go.AM
open Go.Proofs.Try

/-- A matrix and a mistake's number. -/
def eME (r c : Int) (m : List (List Int)) (e : Int) : V := .tup [.agg [.dat (.int .i64 r), .dat (.int .i64 c), .dat (.sl (rows m))], .sc (.dat (.int .i64 e))]
def eIE (z e : Int) : V := .tup [.agg [.dat (.bool (decide (z < 0))), .dat (.sl (lim (digs z.natAbs)))], .sc (.dat (.int .i64 e))]
def eRE (r : List Int) (e : Int) : V := .tup [.sc (.dat (.sl (row r))), .sc (.dat (.int .i64 e))]

theorem table_congr {r c : Nat} {f g : Nat → Nat → Int} (h : ∀ i j, i < r → j < c → f i j = g i j) : table r c f = table r c g := by
  unfold table tableR
  apply List.map_congr_left
  intro i hi
  apply List.map_congr_left
  intro j hj
  exact h i j (List.mem_range.1 hi) (List.mem_range.1 hj)

theorem getD_table {r c : Nat} {g : Nat → Nat → Int} {i : Nat} (hi : i < r) : (table r c g).getD i [] = tableR c (g i) := by simp [table, hi]

theorem elr_tableR {c : Nat} {g : Nat → Int} {j : Nat} (hj : j < c) : elr (tableR c g) j = g j := by simp [elr, tableR, hj]

theorem el_table {r c : Nat} {g : Nat → Nat → Int} {i j : Nat} (hi : i < r) (hj : j < c) : el (table r c g) i j = g i j := by
  unfold el
  rw [getD_table hi]
  exact elr_tableR hj

theorem table_bd {r c K : Nat} {g : Nat → Nat → Int} (h : ∀ i j, i < r → j < c → (g i j).natAbs ≤ K) : BdM K (table r c g) := fun x hx z hz => by
  simp only [table, List.mem_map, List.mem_range] at hx
  obtain ⟨i, hi, rfl⟩ := hx
  simp only [tableR, List.mem_map, List.mem_range] at hz
  obtain ⟨j, hj, rfl⟩ := hz
  exact h i j hi hj

theorem el_bd {r c K : Nat} {m : List (List Int)} (hm : Mx r c m) (hb : BdM K m) {i j : Nat} (hi : i < r) (hj : j < c) : (el m i j).natAbs ≤ K := by
  obtain ⟨h1, h2⟩ := el_mem hm hi hj
  exact hb _ h2 _ (getD_mem (by omega))

/-- A matrix is the table of its elements. -/
theorem mx_table {r c : Nat} {m : List (List Int)} (hm : Mx r c m) : m = table r c (el m) := by
  refine lists_ext (by rw [hm.1]; simp [table]) fun k hk => ?_
  rw [hm.1] at hk
  rw [getD_table hk]
  by_cases hc : c = 0
  · subst hc
    have h1 : k < m.length := by rw [hm.1]; exact hk
    have := hm.2 _ (getD_mem (d := []) h1)
    rw [List.length_eq_zero_iff] at this
    rw [this]; rfl
  · refine list_ext (by rw [(el_mem hm hk (j := 0) (by omega)).1]; simp [tableR]) fun j hj => ?_
    rw [(el_mem hm hk (j := 0) (by omega)).1] at hj
    rw [elr_tableR hj]; rfl

theorem dsum_congr {f f' g g' : Nat → Int} : ∀ n, (∀ k, k < n → f k = f' k) → (∀ k, k < n → g k = g' k) → dsum f g n = dsum f' g' n
  | 0, _, _ => rfl
  | n + 1, h1, h2 => by
    simp only [dsum]
    rw [dsum_congr n (fun k hk => h1 k (by omega)) fun k hk => h2 k (by omega), h1 n (by omega), h2 n (by omega)]

/-- The product of a r x n and a n x c matrix. -/
def mmul (r n c : Nat) (a b : List (List Int)) : List (List Int) := table r c fun i j => dsum (fun k => el a i k) (fun k => el b k j) n

def BIGK : Nat := 1329227995784915872903807060280344576

theorem mmul_ok {r n c K : Nat} {a b : List (List Int)} (ha : Mx r n a) (hb : Mx n c b) (ka : BdM K a) (kb : BdM K b) (hr : r ≤ 4294967296) (hn : n ≤ 4294967296) (hc : c ≤ 4294967296) (hK : K ≤ 1329227995784915872903807060280344576) :
    FnD prog 20 [eM r n a, eM n c b] (eME r c (mmul r n c a b) 0) [] := by
  refine vc20_ok _ _ _ _ _ _ (R := Out _) ?_
  unfold vc20
  refine ⟨fun h => by simp at h, fun _ => ⟨_, _, _, transpose_ok hb hn hc, _, _, _, build_ok hr hc (g := fun i j => dsum (fun k => el a i k) (fun k => el b k j) n) fun i j hi hj => ?_, rfl, rfl⟩⟩
  refine vc77_ok _ _ _ _ _ _ _ _ (R := Out _) ?_
  unfold vc77
  have h1 : i < a.length := by rw [ha.1]; exact hi
  have h2 : j < (table c n fun i j => el b j i).length := by simp [table, hj]
  have hla : (a.getD i []).length = n := ha.2 _ (getD_mem h1)
  have hlb : ((table c n fun i j => el b j i).getD j []).length = n := by rw [getD_table hj]; simp [tableR]
  have hba : BdR K (a.getD i []) := ka _ (getD_mem h1)
  have hbb : BdR K ((table c n fun i j => el b j i).getD j []) := table_bd (fun i j hi hj => el_bd hb kb hj hi) _ (getD_mem h2)
  refine ⟨_, _, decide (dsum (fun k => el a i k) (fun k => el b k j) n < 0), lim (dz (dsum (fun k => el a i k) (fun k => el b k j) n)), ⟨by omega, by rw [rows_length]; omega⟩, rows_getN h1, ⟨by omega, by rw [rows_length]; omega⟩, rows_getN h2, ?_, rfl, rfl⟩
  have := dot_ok (hla.trans hlb.symm) hba hbb (by omega) hK
  have e : dsum (elr (a.getD i [])) (elr ((table c n fun i j => el b j i).getD j [])) (a.getD i []).length = dsum (fun k => el a i k) (fun k => el b k j) n := by
    rw [hla]
    refine dsum_congr n (fun k hk => rfl) fun k hk => ?_
    rw [getD_table hj, elr_tableR hk]
  rw [e] at this
  exact this

/-- A product that does not fit. -/
theorem mmul_bad {r n n' c : Int} {a b : List (List Int)} (h : n ≠ n') : FnD prog 20 [eM r n a, eM n' c b] (eME 0 0 [] 50) [] := by
  refine vc20_ok _ _ _ _ _ _ (R := Out _) ?_
  unfold vc20
  exact ⟨fun _ => ⟨rfl, rfl⟩, fun h2 => absurd (by simpa using h2) h⟩

theorem mdot_ok {a b : List Int} {K : Nat} (hab : a.length = b.length) (ha : BdR K a) (hb : BdR K b) (hl : a.length ≤ 4294967296) (hK : K ≤ 1329227995784915872903807060280344576) :
    FnD prog 38 [vs (row a), vs (row b)] (eIE (dsum (elr a) (elr b) a.length) 0) [] := by
  refine vc38_ok _ _ (R := Out _) ?_
  unfold vc38
  simp only [row_length]
  exact ⟨fun h => by simp [hab] at h, fun _ => ⟨_, _, dot_ok hab ha hb hl hK, rfl, rfl⟩⟩

theorem mdot_bad {a b : List Int} (hab : a.length ≠ b.length) : FnD prog 38 [vs (row a), vs (row b)] (eIE 0 50) [] := by
  refine vc38_ok _ _ (R := Out _) ?_
  unfold vc38
  simp only [row_length]
  exact ⟨fun _ => ⟨rfl, rfl⟩, fun h => absurd (by have : (a.length : Int) = (b.length : Int) := by simpa using h
                                                  omega) hab⟩

theorem row_snoc (r : List Int) (z : Int) : row r ++ [cI z] = row (r ++ [z]) := by simp [row]

/-- A row times a matrix. -/
theorem mtimes_ok {r c K : Nat} {v : List Int} {a : List (List Int)} (ha : Mx r c a) (hv : v.length = r) (ka : BdM K a) (kv : BdR K v) (hr : r ≤ 4294967296) (hc : c ≤ 4294967296) (hK : K ≤ 1329227995784915872903807060280344576) :
    FnD prog 35 [vs (row v), eM r c a] (eRE (tableR c fun j => dsum (elr v) (fun k => el a k j) r) 0) [] := by
  refine vc35_ok _ _ _ _ (R := Out _) ?_
  unfold vc35
  simp only [row_length]
  refine ⟨fun h => by simp [hv] at h, fun _ => ⟨_, _, _, transpose_ok ha hr hc, fun o t => ∃ j : Nat, t = (j : Int) ∧ j ≤ c ∧ o = row (tableR j fun j => dsum (elr v) (fun k => el a k j) r), fun _ t => ((c : Int) - t).toNat, ⟨0, rfl, by omega, rfl⟩, ?_⟩⟩
  rintro _ _ ⟨j, rfl, hj, rfl⟩
  have hlen : (rows (table c r fun i j => el a j i)).length = c := by simp [rows, table]
  refine ⟨fun h => ?_, fun h => ?_⟩
  · have hjc : j < c := by rw [hlen] at h; simpa using h
    have h2 : j < (table c r fun i j => el a j i).length := by simp [table, hjc]
    have hlb : ((table c r fun i j => el a j i).getD j []).length = r := by rw [getD_table hjc]; simp [tableR]
    have hbb : BdR K ((table c r fun i j => el a j i).getD j []) := table_bd (fun i j hi hj => el_bd ha ka hj hi) _ (getD_mem h2)
    have := dot_ok (hv.trans hlb.symm) kv hbb (by omega) hK
    have e : dsum (elr v) (elr ((table c r fun i j => el a j i).getD j [])) v.length = dsum (elr v) (fun k => el a k j) r := by
      rw [hv]
      refine dsum_congr r (fun k hk => rfl) fun k hk => ?_
      rw [getD_table hjc, elr_tableR hk]
    rw [e] at this
    refine ⟨_, ⟨by omega, by rw [hlen]; omega⟩, rows_getN h2, _, _, this, by simp only [row_length, tableR, List.length_map, List.length_range, List.length_singleton]; omega, ?_⟩
    rw [inc64 (by omega)]
    refine ⟨⟨j + 1, rfl, by omega, ?_⟩, by show ((c : Int) - ((j + 1 : Nat) : Int)).toNat < ((c : Int) - (j : Int)).toNat; omega⟩
    have hr : tableR (j + 1) (fun j => dsum (elr v) (fun k => el a k j) r) = tableR j (fun j => dsum (elr v) (fun k => el a k j) r) ++ [dsum (elr v) (fun k => el a k j) r] := by simp [tableR, List.range_succ]
    rw [hr, ← row_snoc]; rfl
  · have hjc : j = c := by have : c ≤ j := by rw [hlen] at h; simpa using h
                           omega
    subst hjc
    exact ⟨rfl, rfl⟩

/-! ### New, Identity, Add, Sub, Scale -/

theorem mnew_ok {r c : Nat} (hr : r ≤ 4294967296) (hc : c ≤ 4294967296) : FnD prog 62 [vi r, vi c] (eM r c (table r c fun _ _ => 0)) [] := by
  refine vc62_ok _ _ (R := Out _) ?_
  unfold vc62
  refine ⟨_, _, _, build_ok hr hc (g := fun _ _ => 0) fun i j hi hj => ?_, rfl, rfl⟩
  exact vc111_ok _ _ (R := Out _) ⟨rfl, rfl⟩

def delta (i j : Nat) : Int := if i = j then 1 else 0

theorem mident_ok {n : Nat} (hn : n ≤ 4294967296) : FnD prog 56 [vi n] (eM n n (table n n delta)) [] := by
  refine vc56_ok _ (R := Out _) ?_
  unfold vc56
  refine ⟨_, _, _, build_ok hn hn (g := delta) fun i j hi hj => ?_, rfl, rfl⟩
  refine vc107_ok _ _ (R := Out _) ?_
  unfold vc107
  refine ⟨fun h => ?_, fun h => ?_⟩
  · have : i = j := by have : (i : Int) = (j : Int) := by simpa using h
                       omega
    subst this
    refine ⟨_, _, of_ok 1 (by omega) (by omega), ?_⟩
    simp only [delta, if_true]; exact ⟨rfl, rfl⟩
  · have : i ≠ j := by have : ¬ (i : Int) = (j : Int) := by simpa using h
                       omega
    simp only [delta, if_neg this]; exact ⟨rfl, rfl⟩

end Go.AM

/- What the functions of package matrix answer: searching, validity, picking, blocks. -/
namespace Go.AM
open Go.Proofs.Try

def ints (r : List Int) : List (List D) := r.map fun n => [D.int .i64 n]
theorem ints_length (r : List Int) : (ints r).length = r.length := by simp [ints]
theorem ints_getN {r : List Int} {i : Nat} (h : i < r.length) : (ints r)[(i : Int).toNat]? = some [D.int .i64 (elr r i)] := by
  rw [Int.toNat_natCast]; simp [ints, elr, h]

/-- The place of the first that p holds of, or -1. -/
def firstI (p : Int → Bool) (r : List Int) : Int := if r.any p then (r.findIdx p : Nat) else -1

theorem elr_get {r : List Int} {i : Nat} (h : i < r.length) : elr r i = r[i] := by simp [elr, h]

theorem firstI_at {p : Int → Bool} {r : List Int} {i : Nat} (h : i < r.length) (hp : p (elr r i) = true) (hn : ∀ k, k < i → p (elr r k) = false) : firstI p r = (i : Int) := by
  have h1 : r.any p = true := List.any_eq_true.2 ⟨elr r i, elr_mem h, hp⟩
  have h2 : r.findIdx p = i := by
    rw [List.findIdx_eq h]
    refine ⟨by rw [← elr_get h]; exact hp, fun j hj => ?_⟩
    have := hn j hj
    rw [elr_get (by omega)] at this
    exact this
  unfold firstI
  rw [h1, h2]; rfl

theorem firstI_none {p : Int → Bool} {r : List Int} (hn : ∀ k, k < r.length → p (elr r k) = false) : firstI p r = -1 := by
  unfold firstI
  rw [if_neg]
  intro h
  obtain ⟨z, hz, hp⟩ := List.any_eq_true.1 h
  obtain ⟨k, hk, rfl⟩ := List.getElem_of_mem hz
  have := hn k hk
  rw [elr_get hk, hp] at this
  simp at this

theorem firstI_any (p : Int → Bool) (r : List Int) : decide (firstI p r ≥ 0) = r.any p := by
  unfold firstI
  cases h : r.any p <;> simp

theorem index126_ok {r : List Int} {f : FuncId} {fc : List D} {p : Int → Bool} (hl : r.length ≤ 4294967296) (hf : ∀ k, k < r.length → FnD prog f ([eI (elr r k)] ++ fc.map dV) (vb (p (elr r k))) []) :
    FnD prog 126 [vs (row r), .e (.sc (.dat (.fn (.func f) fc)))] (vi (firstI p r)) [] := by
  refine vc126_ok _ _ _ (R := Out _) ?_
  unfold vc126
  simp only [row_length]
  refine ⟨fun t => ∃ i : Nat, t = (i : Int) ∧ i ≤ r.length ∧ ∀ k, k < i → p (elr r k) = false, fun t => ((r.length : Int) - t).toNat, ⟨0, rfl, by omega, fun k hk => by omega⟩, ?_⟩
  rintro _ ⟨i, rfl, hi, hinv⟩
  refine ⟨fun h => ?_, fun h => outi ?_⟩
  · have hir : i < r.length := by simpa using h
    refine ⟨_, _, p (elr r i), ⟨by omega, by omega⟩, row_getN hir, hf i hir, fun h2 => outi ?_, fun h2 => ?_⟩
    · exact (firstI_at hir h2 hinv).symm
    · rw [inc64 (by omega)]
      refine ⟨⟨i + 1, rfl, by omega, fun k hk => ?_⟩, by show ((r.length : Int) - ((i + 1 : Nat) : Int)).toNat < ((r.length : Int) - (i : Int)).toNat; omega⟩
      by_cases hki : k = i
      · subst hki; exact h2
      · exact hinv k (by omega)
  · have hir : i = r.length := by have : r.length ≤ i := by simpa using h
                                  omega
    exact (firstI_none fun k hk => hinv k (by omega)).symm

theorem contains72_ok {r : List Int} {f : FuncId} {fc : List D} {p : Int → Bool} (hl : r.length ≤ 4294967296) (hf : ∀ k, k < r.length → FnD prog f ([eI (elr r k)] ++ fc.map dV) (vb (p (elr r k))) []) :
    FnD prog 72 [vs (row r), .e (.sc (.dat (.fn (.func f) fc)))] (vb (r.any p)) [] := by
  refine vc72_ok _ _ _ (R := Out _) ?_
  unfold vc72
  exact ⟨_, index126_ok hl hf, outb (firstI_any p r)⟩

theorem index134_ok {r : List Int} {f : FuncId} {fc : List D} {p : Int → Bool} (hl : r.length ≤ 4294967296) (hf : ∀ k, k < r.length → FnD prog f ([eI (elr r k)] ++ fc.map dV) (vb (p (elr r k))) []) :
    FnD prog 134 [vs (row r), .e (.sc (.dat (.fn (.func f) fc)))] (vi (firstI p r)) [] := by
  refine vc134_ok _ _ _ (R := Out _) ?_
  unfold vc134
  simp only [row_length]
  refine ⟨fun t => ∃ i : Nat, t = (i : Int) ∧ i ≤ r.length ∧ ∀ k, k < i → p (elr r k) = false, fun t => ((r.length : Int) - t).toNat, ⟨0, rfl, by omega, fun k hk => by omega⟩, ?_⟩
  rintro _ ⟨i, rfl, hi, hinv⟩
  refine ⟨fun h => ?_, fun h => outi ?_⟩
  · have hir : i < r.length := by simpa using h
    refine ⟨_, _, p (elr r i), ⟨by omega, by omega⟩, row_getN hir, hf i hir, fun h2 => outi ?_, fun h2 => ?_⟩
    · exact (firstI_at hir h2 hinv).symm
    · rw [inc64 (by omega)]
      refine ⟨⟨i + 1, rfl, by omega, fun k hk => ?_⟩, by show ((r.length : Int) - ((i + 1 : Nat) : Int)).toNat < ((r.length : Int) - (i : Int)).toNat; omega⟩
      by_cases hki : k = i
      · subst hki; exact h2
      · exact hinv k (by omega)
  · have hir : i = r.length := by have : r.length ≤ i := by simpa using h
                                  omega
    exact (firstI_none fun k hk => hinv k (by omega)).symm

theorem contains89_ok {r : List Int} {f : FuncId} {fc : List D} {p : Int → Bool} (hl : r.length ≤ 4294967296) (hf : ∀ k, k < r.length → FnD prog f ([eI (elr r k)] ++ fc.map dV) (vb (p (elr r k))) []) :
    FnD prog 89 [vs (row r), .e (.sc (.dat (.fn (.func f) fc)))] (vb (r.any p)) [] := by
  refine vc89_ok _ _ _ (R := Out _) ?_
  unfold vc89
  exact ⟨_, index134_ok hl hf, outb (firstI_any p r)⟩

theorem index133_ok {r : List Int} {f : FuncId} {fc : List D} {p : Int → Bool} (hl : r.length ≤ 4294967296) (hf : ∀ k, k < r.length → FnD prog f ([vi (elr r k)] ++ fc.map dV) (vb (p (elr r k))) []) :
    FnD prog 133 [vs (ints r), .e (.sc (.dat (.fn (.func f) fc)))] (vi (firstI p r)) [] := by
  refine vc133_ok _ _ _ (R := Out _) ?_
  unfold vc133
  simp only [ints_length]
  refine ⟨fun t => ∃ i : Nat, t = (i : Int) ∧ i ≤ r.length ∧ ∀ k, k < i → p (elr r k) = false, fun t => ((r.length : Int) - t).toNat, ⟨0, rfl, by omega, fun k hk => by omega⟩, ?_⟩
  rintro _ ⟨i, rfl, hi, hinv⟩
  refine ⟨fun h => ?_, fun h => outi ?_⟩
  · have hir : i < r.length := by simpa using h
    refine ⟨_, p (elr r i), ⟨by omega, by omega⟩, ints_getN hir, hf i hir, fun h2 => outi ?_, fun h2 => ?_⟩
    · exact (firstI_at hir h2 hinv).symm
    · rw [inc64 (by omega)]
      refine ⟨⟨i + 1, rfl, by omega, fun k hk => ?_⟩, by show ((r.length : Int) - ((i + 1 : Nat) : Int)).toNat < ((r.length : Int) - (i : Int)).toNat; omega⟩
      by_cases hki : k = i
      · subst hki; exact h2
      · exact hinv k (by omega)
  · have hir : i = r.length := by have : r.length ≤ i := by simpa using h
                                  omega
    exact (firstI_none fun k hk => hinv k (by omega)).symm

theorem contains85_ok {r : List Int} {f : FuncId} {fc : List D} {p : Int → Bool} (hl : r.length ≤ 4294967296) (hf : ∀ k, k < r.length → FnD prog f ([vi (elr r k)] ++ fc.map dV) (vb (p (elr r k))) []) :
    FnD prog 85 [vs (ints r), .e (.sc (.dat (.fn (.func f) fc)))] (vb (r.any p)) [] := by
  refine vc85_ok _ _ _ (R := Out _) ?_
  unfold vc85
  exact ⟨_, index133_ok hl hf, outb (firstI_any p r)⟩

/-! ### Valid, Zero -/

theorem ivalid_ok {z : Int} (hz : Sz z) : FnD prog 74 [eI z] (vb true) [] := by
  refine vc74_ok _ _ (R := Out _) ?_
  unfold vc74
  obtain ⟨a, hae⟩ : ∃ a, a = digs z.natAbs := ⟨_, rfl⟩
  have hl : a.length ≤ 1073741824 := hae ▸ hz
  have hcan : canon a := hae ▸ digs_canon z.natAbs
  have hnil : a = [] ↔ z = 0 := by rw [hae, digs_nil]; omega
  rw [← hae]
  simp only [lim_length]
  refine ⟨fun h => ⟨fun _ => outb rfl, fun h2 => ?_⟩, fun h => ⟨fun h2 => ?_, fun h2 => ?_⟩⟩
  · exfalso
    have h0 : a.length = 0 := by have : (a.length : Int) = 0 := by simpa using h
                                 omega
    have hz0 := hnil.1 (List.length_eq_zero_iff.1 h0)
    subst hz0; simp at h2
  · have h0 : 0 < a.length := by have : (a.length : Int) > 0 := by simpa using h2
                                 omega
    have hw : IntKind.i64.wrap ((a.length : Int) - 1) = ((a.length - 1 : Nat) : Int) := by rw [w64 (by omega) (by omega)]; omega
    rw [hw]
    refine ⟨(dg a (a.length - 1) : Nat), ⟨by omega, by omega⟩, ?_, outb ?_⟩
    · have := lim_getI (l := a) (i := ((a.length - 1 : Nat) : Int)) (by omega) (by omega)
      rw [Int.toNat_natCast] at *; exact this
    · have hc := hcan (dg a (a.length - 1)) (by rw [List.getLast?_eq_getElem?, List.getElem?_eq_getElem (by omega), dg_get (by omega)])
      simp; exact hc
  · exfalso
    have h1 : ¬ (a.length : Int) > 0 := by simpa using h2
    have h3 : ¬ (a.length : Int) = 0 := by simpa using h
    omega

theorem mvalid_ok {r c : Nat} {m : List (List Int)} (hm : Mx r c m) (hs : SzM m) (hr : r ≤ 4294967296) (hc : c ≤ 4294967296) : FnD prog 17 [eM r c m] (vb true) [] := by
  obtain ⟨h1, h2⟩ := hm
  refine vc17_ok _ _ _ (R := Out _) ?_
  unfold vc17
  simp only [rows_length]
  refine ⟨fun h => ?_, fun _ => ⟨fun h => ?_, fun _ => ⟨fun h => ?_, fun _ => ⟨fun t => ∃ i : Nat, t = (i : Int) ∧ i ≤ m.length, fun t => ((m.length : Int) - t).toNat, ⟨0, rfl, by omega⟩, ?_⟩⟩⟩⟩
  · simp at h; omega
  · simp at h; omega
  · simp [h1] at h
  rintro _ ⟨i, rfl, hi⟩
  refine ⟨fun h => ?_, fun h => outb rfl⟩
  have hir : i < m.length := by simpa using h
  have hin : m.getD i [] ∈ m := getD_mem hir
  have hlen := h2 _ hin
  refine ⟨_, ⟨by omega, by omega⟩, rows_getN hir, fun h3 => ?_, fun _ => ⟨false, ?_, fun h4 => by simp at h4, fun _ => ?_⟩⟩
  · rw [row_length, hlen] at h3; simp at h3
  · have := contains72_ok (r := m.getD i []) (f := 73) (fc := []) (p := fun _ => false) (by omega) fun k hk => by
      refine vc73_ok _ _ (R := Out _) ?_
      unfold vc73
      exact ⟨true, ivalid_ok (hs _ hin _ (elr_mem hk)), outb rfl⟩
    have e : (m.getD i []).any (fun _ => false) = false := by simp
    rw [e] at this
    exact this
  · rw [inc64 (by omega)]
    exact ⟨⟨i + 1, rfl, by omega⟩, by show ((m.length : Int) - ((i + 1 : Nat) : Int)).toNat < ((m.length : Int) - (i : Int)).toNat; omega⟩

theorem mvalid_bad {r c : Int} {m : List (List Int)} (h : (m.length : Int) ≠ r) : FnD prog 17 [eM r c m] (vb false) [] := by
  refine vc17_ok _ _ _ (R := Out _) ?_
  unfold vc17
  simp only [rows_length]
  refine ⟨fun _ => outb rfl, fun _ => ⟨fun _ => outb rfl, fun _ => ⟨fun _ => outb rfl, fun h3 => ?_⟩⟩⟩
  exact absurd (by simpa using h3) h

theorem mzero_ok {r : List Int} (hl : r.length ≤ 4294967296) : FnD prog 41 [vs (row r)] (vb (!r.any fun z => decide (z ≠ 0))) [] := by
  refine vc41_ok _ (R := Out _) ?_
  unfold vc41
  refine ⟨_, contains89_ok (r := r) (f := 90) (fc := []) (p := fun z => decide (z ≠ 0)) hl fun k hk => ?_, outb rfl⟩
  refine vc90_ok _ _ (R := Out _) ?_
  unfold vc90
  refine ⟨_, sign_ok _, outb ?_⟩
  by_cases h : elr r k = 0
  · simp [h]
  · by_cases h2 : elr r k < 0
    · simp [h, h2]
    · simp [h, h2]

end Go.AM

/- What the functions of package matrix answer: picking, blocks. -/
namespace Go.AM
open Go.Proofs.Try

def outP (n i : Int) : Bool := decide (i < 0) || decide (i ≥ n)

theorem outside_ok (n i : Int) : FnD prog 84 ([vi i] ++ [D.box [D.int .i64 n]].map dV) (vb (outP n i)) [] := by
  refine vc84_ok i n (R := Out _) ?_
  unfold vc84
  refine ⟨fun h => outb ?_, fun h => outb ?_⟩
  · unfold outP; rw [h]; rfl
  · unfold outP; rw [h]; rfl

theorem outer_ok (n : Int) : FnD prog 83 [vi n] (.e (.sc (.dat (.fn (.func 84) [D.box [D.int .i64 n]])))) [] := by
  refine vc83_ok n (R := Out _) ?_
  exact ⟨rfl, rfl⟩

theorem pick_ok {r c : Nat} {a : List (List Int)} (ha : Mx r c a) {p q : List Int} (_hr : r ≤ 4294967296) (_hc : c ≤ 4294967296) (hp : p.length ≤ 4294967296) (hq : q.length ≤ 4294967296)
    (ip : ∀ k, k < p.length → 0 ≤ elr p k ∧ elr p k < r) (iq : ∀ k, k < q.length → 0 ≤ elr q k ∧ elr q k < c) :
    FnD prog 30 [eM r c a, vs (ints p), vs (ints q)] (eME p.length q.length (table p.length q.length fun i j => el a (elr p i).toNat (elr q j).toNat) 0) [] := by
  have no : ∀ (l : List Int) (n : Int), (∀ k, k < l.length → 0 ≤ elr l k ∧ elr l k < n) → l.any (outP n) = false := fun l n h => by
    rw [List.any_eq_false]
    intro z hz
    obtain ⟨k, hk, rfl⟩ := List.getElem_of_mem hz
    have := h k hk
    rw [elr_get hk] at this
    simp [outP]; omega
  refine vc30_ok _ _ _ _ _ (R := Out _) ?_
  unfold vc30
  simp only [ints_length]
  have c1 := contains85_ok (r := p) (f := 84) (fc := [D.box [D.int .i64 (r : Int)]]) (p := outP r) hp fun k hk => outside_ok _ _
  have c2 := contains85_ok (r := q) (f := 84) (fc := [D.box [D.int .i64 (c : Int)]]) (p := outP c) hq fun k hk => outside_ok _ _
  rw [no p r ip] at c1
  rw [no q c iq] at c2
  refine ⟨84, _, _, outer_ok r, c1, fun h => by simp at h, fun _ => ⟨84, _, _, outer_ok c, c2, fun h => by simp at h, fun _ => ⟨_, _, _, build_ok hp hq (g := fun i j => el a (elr p i).toNat (elr q j).toNat) fun i j hi hj => ?_, rfl, rfl⟩⟩⟩
  refine vc86_ok _ _ _ _ _ _ _ (R := Out _) ?_
  unfold vc86
  obtain ⟨p1, p2⟩ := ip i hi
  obtain ⟨q1, q2⟩ := iq j hj
  have h1 : (elr p i).toNat < r := by omega
  have h2 : (elr q j).toNat < c := by omega
  obtain ⟨e1, e2, e3, e4⟩ := read_el ha h1 h2
  rw [Int.toNat_natCast] at e1 e2
  exact ⟨elr p i, _, elr q j, _, _, ⟨by omega, by rw [ints_length]; omega⟩, ints_getN hi, ⟨p1, by omega⟩, e1, ⟨by omega, by rw [ints_length]; omega⟩, ints_getN hj, ⟨q1, by omega⟩, e2, rfl, rfl⟩

theorem pick_bad {r c : Int} {a : List (List Int)} {p q : List Int} (hp : p.length ≤ 4294967296) (hq : q.length ≤ 4294967296) (h : p.any (outP r) = true ∨ q.any (outP c) = true) :
    FnD prog 30 [eM r c a, vs (ints p), vs (ints q)] (eME 0 0 [] 1) [] := by
  refine vc30_ok _ _ _ _ _ (R := Out _) ?_
  unfold vc30
  have c1 := contains85_ok (r := p) (f := 84) (fc := [D.box [D.int .i64 r]]) (p := outP r) hp fun k hk => outside_ok _ _
  have c2 := contains85_ok (r := q) (f := 84) (fc := [D.box [D.int .i64 c]]) (p := outP c) hq fun k hk => outside_ok _ _
  refine ⟨84, _, _, outer_ok r, c1, fun _ => ⟨rfl, rfl⟩, fun h1 => ⟨84, _, _, outer_ok c, c2, fun _ => ⟨rfl, rfl⟩, fun h2 => ?_⟩⟩
  exfalso
  rcases h with h | h
  · rw [h] at h1; simp at h1
  · rw [h] at h2; simp at h2

theorem beside_ok {r c d : Nat} {a b : List (List Int)} (ha : Mx r c a) (hb : Mx r d b) (hr : r ≤ 4294967296) (hc : c ≤ 2147483648) (hd : d ≤ 2147483648) :
    FnD prog 26 [eM r c a, eM r d b] (eME r ((c + d : Nat) : Int) (table r (c + d) fun i j => if j < c then el a i j else el b i (j - c)) 0) [] := by
  refine vc26_ok _ _ _ _ _ _ (R := Out _) ?_
  unfold vc26
  have hw : IntKind.i64.wrap ((c : Int) + (d : Int)) = ((c + d : Nat) : Int) := by rw [w64 (by omega) (by omega)]; simp
  rw [hw]
  refine ⟨fun h => by simp at h, fun _ => ⟨_, _, _, build_ok hr (by omega) (g := fun i j => if j < c then el a i j else el b i (j - c)) fun i j hi hj => ?_, rfl, rfl⟩⟩
  refine vc81_ok _ _ _ _ _ _ _ _ (R := Out _) ?_
  unfold vc81
  refine ⟨fun h => ?_, fun h => ?_⟩
  · have hjc : j < c := by simpa using h
    obtain ⟨e1, e2, e3, e4⟩ := read_el ha hi hjc
    refine ⟨_, _, _, ⟨by omega, e4⟩, e1, ⟨by omega, e3⟩, e2, ?_⟩
    simp only [if_pos hjc]; exact ⟨rfl, rfl⟩
  · have hjc : ¬ j < c := by simpa using h
    have hj2 : j - c < d := by omega
    have hw2 : IntKind.i64.wrap ((j : Int) - (c : Int)) = ((j - c : Nat) : Int) := by rw [w64 (by omega) (by omega)]; omega
    rw [hw2]
    obtain ⟨e1, e2, e3, e4⟩ := read_el hb hi hj2
    refine ⟨_, _, _, ⟨by omega, e4⟩, e1, ⟨by omega, e3⟩, e2, ?_⟩
    simp only [if_neg hjc]; exact ⟨rfl, rfl⟩

theorem grow_ok {n : Int} (h0 : 0 ≤ n) (h1 : n ≤ 1099511627776) : FnD prog 130 [.e (.sc (.dat (.raw (.slice none 0 0)))), vi n] (.e (.sc (.ref 0))) [some (.arr 1 [])] := by
  refine vc130_ok n (R := fun r h => r = .e (.sc (.ref 0)) ∧ h = [some (.arr 1 [])]) ?_
  unfold vc130
  have hw : IntKind.i64.wrap (n - 0) = n := by rw [Int.sub_zero]; exact w64 (by omega) (by omega)
  rw [hw]
  refine ⟨fun h => ?_, fun _ => ⟨fun h => ⟨rfl, ⟨?_, by omega⟩, ⟨by omega, by omega⟩, rfl, rfl⟩, fun h => ⟨rfl, rfl⟩⟩⟩
  · have : n < 0 := by simpa using h
    omega
  · simpa using h

/-- Two slices, one behind the other. -/
theorem concat_ok {x y : List (List D)} (hx : ∀ z ∈ x, z.length = 1) (hy : ∀ z ∈ y, z.length = 1) (lx : x.length ≤ 4294967296) (ly : y.length ≤ 4294967296) :
    FnD prog 80 [vs [[D.sl x], [D.sl y]]] (vs (x ++ y)) [] := by
  refine vc80_ok _ (R := Out _) ?_
  unfold vc80
  have hlen : (([[D.sl x], [D.sl y]] : List (List D)).length : Int) = 2 := rfl
  rw [hlen]
  refine ⟨fun t s => (t = 0 ∧ s = 0) ∨ (t = 1 ∧ s = x.length) ∨ (t = 2 ∧ s = x.length + y.length), fun t _ => (2 - t).toNat, .inl ⟨rfl, rfl⟩, fun t s hJ => ⟨fun h => ?_, fun h => ?_⟩⟩
  · have ht : t < 2 := by simpa using h
    rcases hJ with ⟨rfl, rfl⟩ | ⟨rfl, rfl⟩ | ⟨rfl, rfl⟩
    · have hw : IntKind.i64.wrap (0 + (x.length : Int)) = x.length := by rw [w64 (by omega) (by omega)]; omega
      refine ⟨x, ⟨by omega, by omega⟩, rfl, ?_⟩
      rw [hw]
      exact ⟨fun h => by simp at h; omega, fun _ => ⟨.inr (.inl ⟨rfl, rfl⟩), by show ((2 : Int) - IntKind.i64.wrap (0 + 1)).toNat < ((2 : Int) - 0).toNat; decide⟩⟩
    · have hw : IntKind.i64.wrap ((x.length : Int) + (y.length : Int)) = x.length + y.length := by rw [w64 (by omega) (by omega)]
      refine ⟨y, ⟨by omega, by omega⟩, rfl, ?_⟩
      rw [hw]
      exact ⟨fun h => by simp at h; omega, fun _ => ⟨.inr (.inr ⟨rfl, rfl⟩), by show ((2 : Int) - IntKind.i64.wrap (1 + 1)).toNat < ((2 : Int) - 1).toNat; decide⟩⟩
    · omega
  · have ht : ¬ t < 2 := by simpa using h
    have hs : s = x.length + y.length := by
      rcases hJ with ⟨h1, h2⟩ | ⟨h1, h2⟩ | ⟨h1, h2⟩
      · omega
      · omega
      · exact h2
    subst hs
    refine ⟨[], grow_ok (by omega) (by omega), fun o t => (t = 0 ∧ o = []) ∨ (t = 1 ∧ o = x) ∨ (t = 2 ∧ o = x ++ y), fun _ t => (2 - t).toNat, .inl ⟨rfl, rfl⟩, fun o t hJ => ⟨fun h => ?_, fun h => ?_⟩⟩
    · have ht : t < 2 := by simpa using h
      rcases hJ with ⟨rfl, rfl⟩ | ⟨rfl, rfl⟩ | ⟨rfl, rfl⟩
      · exact ⟨x, ⟨by omega, by omega⟩, rfl, hx, by simp only [List.length_nil]; omega, .inr (.inl ⟨rfl, rfl⟩), by show ((2 : Int) - IntKind.i64.wrap (0 + 1)).toNat < ((2 : Int) - 0).toNat; decide⟩
      · exact ⟨y, ⟨by omega, by omega⟩, rfl, hy, by omega, .inr (.inr ⟨rfl, rfl⟩), by show ((2 : Int) - IntKind.i64.wrap (1 + 1)).toNat < ((2 : Int) - 1).toNat; decide⟩
      · omega
    · have ht : ¬ t < 2 := by simpa using h
      rcases hJ with ⟨h1, h2⟩ | ⟨h1, h2⟩ | ⟨h1, h2⟩
      · omega
      · omega
      · subst h2; exact ⟨rfl, rfl⟩

theorem rows_one (m : List (List Int)) : ∀ z ∈ rows m, z.length = 1 := fun z hz => by
  simp only [rows, List.mem_map] at hz
  obtain ⟨_, _, rfl⟩ := hz; rfl

theorem stack_ok {r s : Nat} {c : Int} {a b : List (List Int)} (ha : a.length = r) (hb : b.length = s) (hr : r ≤ 2147483648) (hs : s ≤ 2147483648) :
    FnD prog 25 [eM r c a, eM s c b] (eME ((r + s : Nat) : Int) c (a ++ b) 0) [] := by
  refine vc25_ok _ _ _ _ _ _ (R := Out _) ?_
  unfold vc25
  have hw : IntKind.i64.wrap ((r : Int) + (s : Int)) = ((r + s : Nat) : Int) := by rw [w64 (by omega) (by omega)]; simp
  rw [hw]
  refine ⟨fun h => by simp at h, fun _ => ⟨_, concat_ok (rows_one a) (rows_one b) (by rw [rows_length]; omega) (by rw [rows_length]; omega), ?_⟩⟩
  have : rows a ++ rows b = rows (a ++ b) := by simp [rows]
  rw [this]; exact ⟨rfl, rfl⟩

end Go.AM

/- What the functions of package matrix answer: sums, differences, multiples. -/
namespace Go.AM
open Go.Proofs.Try

def mcomb (r c : Nat) (f : Int → Int → Int) (a b : List (List Int)) : List (List Int) := table r c fun i j => f (el a i j) (el b i j)

theorem size_ok (r c : Int) (m : List (List Int)) : FnD prog 114 [eM r c m] (V.e (E.agg [S.dat (D.int .i64 r), S.dat (D.int .i64 c)])) [] := by
  refine vc114_ok _ _ _ (R := Out _) ?_
  exact ⟨rfl, rfl⟩

theorem combine_ok {r c : Nat} {a b : List (List Int)} (ha : Mx r c a) (hb : Mx r c b) (hr : r ≤ 4294967296) (hc : c ≤ 4294967296) {k : FuncId} {f : Int → Int → Int}
    (hf : ∀ i j, i < r → j < c → FnD prog k [eI (el a i j), eI (el b i j)] (eI (f (el a i j) (el b i j))) []) :
    FnD prog 105 [eM r c a, eM r c b, .e (.sc (.dat (.fn (.func k) ([] : List D))))] (eME r c (mcomb r c f a b) 0) [] := by
  refine vc105_ok _ _ _ _ _ _ _ _ (R := Out _) ?_
  unfold vc105
  refine ⟨_, _, _, _, size_ok r c a, size_ok r c b, fun h => by simp at h, fun _ => ⟨_, _, _, build_ok hr hc (g := fun i j => f (el a i j) (el b i j)) fun i j hi hj => ?_, rfl, rfl⟩⟩
  refine vc143_ok _ _ _ _ _ _ _ _ _ _ (R := Out _) ?_
  unfold vc143
  obtain ⟨e1, e2, e3, e4⟩ := read_el ha hi hj
  obtain ⟨g1, g2, g3, g4⟩ := read_el hb hi hj
  exact ⟨_, _, _, _, _, _, _, _, ⟨by omega, e4⟩, e1, ⟨by omega, e3⟩, e2, ⟨by omega, g4⟩, g1, ⟨by omega, g3⟩, g2, hf i j hi hj, rfl, rfl⟩

theorem madd_ok {r c K : Nat} {a b : List (List Int)} (ha : Mx r c a) (hb : Mx r c b) (ka : BdM K a) (kb : BdM K b) (hr : r ≤ 4294967296) (hc : c ≤ 4294967296) (hK : K ≤ 1329227995784915872903807060280344576) :
    FnD prog 55 [eM r c a, eM r c b] (eME r c (mcomb r c (· + ·) a b) 0) [] := by
  refine vc55_ok _ _ _ _ _ _ (R := Out _) ?_
  unfold vc55
  exact ⟨_, _, _, _, combine_ok ha hb hr hc (f := (· + ·)) fun i j hi hj => add_ok (sz_of (Nat.le_trans (el_bd ha ka hi hj) (Nat.le_trans hK (by decide)))) (sz_of (Nat.le_trans (el_bd hb kb hi hj) (Nat.le_trans hK (by decide)))), rfl, rfl⟩

theorem msub_ok {r c K : Nat} {a b : List (List Int)} (ha : Mx r c a) (hb : Mx r c b) (ka : BdM K a) (kb : BdM K b) (hr : r ≤ 4294967296) (hc : c ≤ 4294967296) (hK : K ≤ 1329227995784915872903807060280344576) :
    FnD prog 57 [eM r c a, eM r c b] (eME r c (mcomb r c (· - ·) a b) 0) [] := by
  refine vc57_ok _ _ _ _ _ _ (R := Out _) ?_
  unfold vc57
  exact ⟨_, _, _, _, combine_ok ha hb hr hc (f := (· - ·)) fun i j hi hj => sub_ok (sz_of (Nat.le_trans (el_bd ha ka hi hj) (Nat.le_trans hK (by decide)))) (sz_of (Nat.le_trans (el_bd hb kb hi hj) (Nat.le_trans hK (by decide)))), rfl, rfl⟩

end Go.AM

/- What the functions of package matrix' reference answer: matrices that are made. -/
namespace Go.AM
open Go.Proofs.Try

/-- The state after a call may be seen in another way. -/
theorem FnD.wk {P : Program} {k : FuncId} {args : List V} {r r2 : V} {objs objs2 : Heap} (hf : FnD P k args r objs) (hw : Wk 0 ⟨[(0, r)], objs, 1⟩ ⟨[(0, r2)], objs2, 1⟩) : FnD P k args r2 objs2 := by
  refine ⟨hf.1, fun I M w vs s hr => (hf.2 I M w vs s hr).mono ?_⟩
  rintro e w' ⟨v, r', h', I', M', he, ⟨rfl, rfl⟩, hrel, sim, hext, hfp, hmono⟩
  have tm0 : ∀ i u, (i, u) ∈ [(0, r')] → RelV w' I' M' ((#[v] : Array Value).getD i undef) u := fun i u hu => by
    simp only [List.mem_singleton, Prod.mk.injEq] at hu
    obtain ⟨rfl, rfl⟩ := hu
    exact hrel
  have s0 : Sim I' M' ⟨[(0, r')], h', 1⟩ { tmps := #[v], defers := [] } w' := { toSimH := sim, tm := tm0, size := rfl, defers := rfl }
  obtain ⟨I2, M2, s2, g1, g2, g3, _⟩ := hw I' M' _ w' s0
  refine ⟨v, r2, objs2, I2, M2, he, ⟨rfl, rfl⟩, s2.tm 0 r2 (by simp), s2.toSimH, ⟨hext.os, hext.tape, hext.output, hext.size, hext.heap, fun b hb => g1 b (hext.imm b hb), fun b hb => ?_⟩, fun b hb => hfp b (g3 b hb), fun o e ho => by simp at ho⟩
  rcases g2 b hb with h1 | h1
  · exact hext.immNew b h1
  · rcases hfp b h1 with ⟨o, h2⟩ | h2
    · simp [fpAt] at h2
    · exact .inr (.inl h2)

def om (m : List (List Int)) : List (List (List D)) := m.map row
/-- A matrix whose rows are the caller's own. -/
def eMo (r c : Int) : V := .e (.agg [.dat (.int .i64 r), .dat (.int .i64 c), .ref 0])
def oM (m : List (List Int)) : Heap := [some (.mat 2 (om m))]

theorem matD_om (m : List (List Int)) : matD (om m) = rows m := by simp [matD, om, rows]

/-- Seen as data. -/
theorem FnD.frz {P : Program} {k : FuncId} {args : List V} {r c : Int} {m : List (List Int)} (hf : FnD P k args (eMo r c) (oM m)) : FnD P k args (eM r c m) [] := by
  have h1 : Wk 0 ⟨[(0, eMo r c)], oM m, 1⟩ ⟨[(0, eM r c m)], [none], 1⟩ := xfreeze_ok (ids := [0]) (by
    unfold eM; rw [← matD_om]; rfl)
  have h2 : Wk 0 ⟨[(0, eM r c m)], [none], 1⟩ ⟨[(0, eM r c m)], [], 1⟩ := xview_ok (live := [0]) (ids := []) rfl rfl rfl
  exact (hf.wk h1).wk h2

/-- The result, with its rows. -/
abbrev OutM (r c : Int) (m : List (List Int)) : V → Heap → Prop := fun r' h' => r' = eMo r c ∧ h' = oM m

theorem outM {r c : Int} {m : List (List Int)} {o : List (List (List D))} (h : o = om m) : OutM r c m (V.e (E.agg [S.dat (D.int .i64 r), S.dat (D.int .i64 c), S.ref 0])) [some (Obj.mat 2 o)] := by subst h; exact ⟨rfl, rfl⟩

theorem om_length (m : List (List Int)) : (om m).length = m.length := by simp [om]

theorem row_rep (c : Nat) : row (tableR c fun _ => 0) = List.replicate c [D.bool false, D.sl ([] : List (List D))] := by
  unfold tableR row
  rw [List.map_map]
  have : (cI ∘ fun _ : Nat => (0 : Int)) = fun _ => [D.bool false, D.sl ([] : List (List D))] := by funext k; rfl
  rw [this, List.map_const']; simp

theorem rnew_ok {r c : Nat} (hr : r ≤ 4294967296) (hc : c ≤ 4294967296) : FnD prog 33 [vi r, vi c] (eMo r c) (oM (table r c fun _ _ => 0)) := by
  refine vc33_ok _ _ (R := OutM r c _) ?_
  unfold vc33
  refine ⟨fun o t => ∃ i : Nat, t = (i : Int) ∧ i ≤ r ∧ o = om (table i c fun _ _ => 0), fun _ t => ((r : Int) - t).toNat, ⟨0, rfl, by omega, rfl⟩, ?_⟩
  rintro _ _ ⟨i, rfl, hi, rfl⟩
  refine ⟨fun h => ?_, fun h => outM ?_⟩
  · have hir : i < r := by simpa using h
    refine ⟨⟨by omega, by omega, by omega⟩, by simp only [om_length, table, List.length_map, List.length_range, List.length_singleton]; omega, ?_⟩
    rw [inc64 (by omega)]
    refine ⟨⟨i + 1, rfl, by omega, ?_⟩, by show ((r : Int) - ((i + 1 : Nat) : Int)).toNat < ((r : Int) - (i : Int)).toNat; omega⟩
    rw [Int.toNat_natCast, ← row_rep]
    simp [om, table, List.range_succ]
  · have hir : i = r := by have : r ≤ i := by simpa using h
                           omega
    subst hir; rfl

/-- One element written. -/
theorem om_set {r c : Nat} {g : Nat → Nat → Int} {i j : Nat} {z : Int} (_hi : i < r) (hj : j < c) :
    (om (table r c g)).modify i (fun q => q.set j (cI z)) = om (table r c fun i' j' => if i' = i ∧ j' = j then z else g i' j') := by
  apply List.ext_getElem?
  intro k
  rw [List.getElem?_modify]
  simp only [om, table, List.getElem?_map]
  by_cases hk : k < r
  · simp only [List.getElem?_range hk, Option.map_some, Option.map_eq_map]
    by_cases hik : i = k
    · subst hik
      simp only [if_true]
      congr 1
      apply List.ext_getElem?
      intro l
      unfold row tableR
      by_cases hl : l = j
      · subst hl; simp [hj]
      · rw [List.getElem?_set_ne (Ne.symm hl)]
        by_cases hlc : l < c
        · simp [hlc, hl]
        · simp [hlc]
    · have hki : ¬ k = i := fun h => hik h.symm
      simp [hik, hki, tableR]
  · rw [List.getElem?_eq_none (by simpa using hk)]; simp

theorem om_in {r c : Nat} {g : Nat → Nat → Int} {i j : Nat} (hi : i < r) (hj : j < c) : ∃ l, (om (table r c g))[(i : Int).toNat]? = some l ∧ 0 ≤ (j : Int) ∧ (j : Int) < (l.length : Int) :=
  ⟨row (tableR c (g i)), by rw [Int.toNat_natCast]; simp [om, table, hi], by omega, by simp [row_length, tableR]; omega⟩

theorem rident_ok {n : Nat} (hn : n ≤ 4294967296) : FnD prog 49 [vi n] (eMo n n) (oM (table n n delta)) := by
  refine vc49_ok _ (R := OutM n n _) ?_
  unfold vc49
  refine ⟨_, _, _, rnew_ok hn hn, fun o t => ∃ i : Nat, t = (i : Int) ∧ i ≤ n ∧ o = om (table n n fun a b => if a = b ∧ a < i then 1 else 0), fun _ t => ((n : Int) - t).toNat, ⟨0, rfl, by omega, ?_⟩, ?_⟩
  · congr 1; exact table_congr fun a b _ _ => by simp
  rintro _ _ ⟨i, rfl, hi, rfl⟩
  refine ⟨fun h => ?_, fun h => outM ?_⟩
  · have hir : i < n := by simpa using h
    refine ⟨_, _, ⟨by omega, by simp [om_length, table]; omega⟩, rof_ok 1 (by omega) (by omega), om_in hir hir, ?_⟩
    rw [inc64 (by omega)]
    refine ⟨⟨i + 1, rfl, by omega, ?_⟩, by show ((n : Int) - ((i + 1 : Nat) : Int)).toNat < ((n : Int) - (i : Int)).toNat; omega⟩
    rw [Int.toNat_natCast]
    refine Eq.trans (om_set (z := 1) hir hir) ?_
    congr 1
    refine table_congr fun a b _ _ => ?_
    by_cases h1 : a = i ∧ b = i
    · rw [if_pos h1, if_pos ⟨by omega, by omega⟩]
    · rw [if_neg h1]
      by_cases h2 : a = b ∧ a < i
      · rw [if_pos h2, if_pos ⟨h2.1, by omega⟩]
      · rw [if_neg h2, if_neg (by omega)]
  · have hir : i = n := by have : n ≤ i := by simpa using h
                           omega
    subst hir
    congr 1
    exact table_congr fun a b ha _ => by unfold delta; by_cases h : a = b <;> simp [h]; omega

/-- The first i rows and j elements more. -/
def gF (f : Nat → Nat → Int) (i j : Nat) : Nat → Nat → Int := fun a b => if a < i ∨ (a = i ∧ b < j) then f a b else 0

theorem gF_zero {r c : Nat} (f : Nat → Nat → Int) : om (table r c fun _ _ => 0) = om (table r c (gF f 0 0)) := by
  congr 1; exact table_congr fun a b _ _ => by simp [gF]

theorem gF_step {r c : Nat} {f : Nat → Nat → Int} {i j : Nat} (hi : i < r) (hj : j < c) : (om (table r c (gF f i j))).modify i (fun q => q.set j (cI (f i j))) = om (table r c (gF f i (j + 1))) := by
  refine Eq.trans (om_set hi hj) ?_
  congr 1
  refine table_congr fun a b _ _ => ?_
  unfold gF
  by_cases h1 : a = i ∧ b = j
  · rw [if_pos h1, if_pos (by omega), h1.1, h1.2]
  · rw [if_neg h1]
    by_cases h2 : a < i ∨ (a = i ∧ b < j)
    · rw [if_pos h2, if_pos (by omega)]
    · rw [if_neg h2, if_neg (by omega)]

theorem gF_next {r c : Nat} {f : Nat → Nat → Int} {i j : Nat} (h0 : ∀ b, j ≤ b → b < c → f i b = 0) : om (table r c (gF f i j)) = om (table r c (gF f (i + 1) 0)) := by
  congr 1
  refine table_congr fun a b _ hb => ?_
  unfold gF
  by_cases h2 : a < i ∨ (a = i ∧ b < j)
  · rw [if_pos h2, if_pos (by omega)]
  · rw [if_neg h2]
    by_cases h3 : a = i
    · subst h3
      rw [if_pos (by omega), h0 b (by omega) hb]
    · rw [if_neg (by omega)]

theorem gF_all {r c : Nat} {f : Nat → Nat → Int} : om (table r c (gF f r 0)) = om (table r c f) := by
  congr 1
  exact table_congr fun a b ha _ => by unfold gF; rw [if_pos (.inl ha)]

/-- The elements in a row, 0 where there is none. -/
def fillF (c : Nat) (v : List Int) (i j : Nat) : Int := elr v (i * c + j)

theorem elr_out {v : List Int} {k : Nat} (h : v.length ≤ k) : elr v k = 0 := by
  unfold elr; rw [List.getD_eq_getElem?_getD, List.getElem?_eq_none h]; rfl

theorem rints_ok {r c : Nat} {v : List Int} (hr : r ≤ 1048576) (hc : c ≤ 1048576) (hv : ∀ z ∈ v, -9223372036854775808 ≤ z ∧ z ≤ 9223372036854775807) :
    FnD prog 70 [vi r, vi c, vs (ints v)] (eMo r c) (oM (table r c (fillF c v))) := by
  refine vc70_ok _ _ _ (R := OutM r c _) ?_
  unfold vc70
  simp only [ints_length]
  refine ⟨_, _, _, rnew_ok (by omega) (by omega), fun o t => ∃ i : Nat, t = (i : Int) ∧ i ≤ r ∧ o = om (table r c (gF (fillF c v) i 0)), fun _ t => ((r : Int) - t).toNat, ⟨0, rfl, by omega, gF_zero _⟩, ?_⟩
  rintro _ _ ⟨i, rfl, hi, rfl⟩
  refine ⟨fun h => ?_, fun h => outM ?_⟩
  · have hir : i < r := by simpa using h
    refine ⟨fun o t => ∃ j : Nat, t = (j : Int) ∧ j ≤ c ∧ o = om (table r c (gF (fillF c v) i j)), fun _ t => ((c : Int) - t).toNat, ⟨0, rfl, by omega, rfl⟩, ?_⟩
    rintro _ _ ⟨j, rfl, hj, rfl⟩
    have hprod : i * c ≤ 1048576 * 1048576 := Nat.mul_le_mul (by omega) hc
    have hw1 : IntKind.i64.wrap ((i : Int) * (c : Int)) = ((i * c : Nat) : Int) := by
      rw [← Int.natCast_mul]; exact w64 (by omega) (by omega)
    have hw2 : IntKind.i64.wrap (((i * c : Nat) : Int) + (j : Int)) = ((i * c + j : Nat) : Int) := by
      rw [← Int.natCast_add]; exact w64 (by omega) (by omega)
    have next : (∀ b, j ≤ b → b < c → fillF c v i b = 0) →
        (∃ i' : Nat, IntKind.i64.wrap ((i : Int) + 1) = (i' : Int) ∧ i' ≤ r ∧ om (table r c (gF (fillF c v) i j)) = om (table r c (gF (fillF c v) i' 0))) ∧ ((r : Int) - IntKind.i64.wrap ((i : Int) + 1)).toNat < ((r : Int) - (i : Int)).toNat := fun h0 => by
      rw [inc64 (by omega)]
      exact ⟨⟨i + 1, rfl, by omega, gF_next h0⟩, by omega⟩
    rw [hw1, hw2]
    refine ⟨fun h2 => ⟨fun h3 => ?_, fun h3 => next fun b hb _ => ?_⟩, fun h2 => next fun b hb hbc => ?_⟩
    · have hjc : j < c := by simpa using h2
      have hlt : i * c + j < v.length := by
        have h3 := of_decide_eq_true h3
        omega
      obtain ⟨v1, v2⟩ := hv _ (elr_mem hlt)
      refine ⟨elr v (i * c + j), _, _, ⟨by omega, by simp [om_length, table]; omega⟩, ⟨by omega, by omega⟩, ints_getN hlt, rof_ok _ v1 v2, om_in hir hjc, ?_⟩
      rw [inc64 (by omega)]
      refine ⟨⟨j + 1, rfl, by omega, ?_⟩, by show ((c : Int) - ((j + 1 : Nat) : Int)).toNat < ((c : Int) - (j : Int)).toNat; omega⟩
      rw [Int.toNat_natCast, Int.toNat_natCast]
      exact gF_step hir hjc
    · have hlt : v.length ≤ i * c + j := by
        have h3 := of_decide_eq_false h3
        omega
      exact elr_out (by omega)
    · have hjc : c ≤ j := by simpa using h2
      omega
  · have hir : i = r := by have : r ≤ i := by simpa using h
                           omega
    subst hir
    exact gF_all

end Go.AM

/- What functions of the program come to: group C5. Printed by vc.py. -/
set_option maxRecDepth 100000
set_option linter.unusedVariables false

namespace Go.AM
open Go.Proofs.Try

/- f19 torsion/torsionlaw05.chain -/
def vc19 (x0 : Int) (x1 : Int) (x2 : Int) (x3 : Int) (x4 : List (List D)) (x5 : List (List D)) (x6 : List (List D)) (R : V → Heap → Prop) : Prop :=
  (0 ≤ (0 : Int) ∧ (0 : Int) < ((4 : Nat) : Int)) ∧
  ((5 : Int) ≠ 0) ∧
  ((0 ≤ (1 : Int) ∧ (1 : Int) < ((4 : Nat) : Int)) ∧
  ((0 ≤ (2 : Int) ∧ (2 : Int) < ((4 : Nat) : Int)) ∧
  ((0 ≤ (3 : Int) ∧ (3 : Int) < ((4 : Nat) : Int)) ∧
  (∃ (r0 : Int) (r1 : Int) (rrows : List (List (List D))) (r01 : Int) (r11 : Int) (rrows1 : List (List (List D))) (r02 : Int) (r12 : Int) (rrows2 : List (List (List D))),
  (FnD prog 24 [(vD (dI (IntKind.i64.wrap (x0.tmod (5 : Int))))), (vD (dI (IntKind.i64.wrap (x1.tmod (5 : Int))))), (vD (dL x4))] (vA [(sD (dI r0)), (sD (dI r1)), (S.ref 0)]) [(some (Obj.mat 2 rrows))]) ∧
  (FnD prog 24 [(vD (dI (IntKind.i64.wrap (x1.tmod (5 : Int))))), (vD (dI (IntKind.i64.wrap (x2.tmod (5 : Int))))), (vD (dL x5))] (vA [(sD (dI r01)), (sD (dI r11)), (S.ref 0)]) [(some (Obj.mat 2 rrows1))]) ∧
  (FnD prog 24 [(vD (dI (IntKind.i64.wrap (x2.tmod (5 : Int))))), (vD (dI (IntKind.i64.wrap (x3.tmod (5 : Int))))), (vD (dL x6))] (vA [(sD (dI r02)), (sD (dI r12)), (S.ref 0)]) [(some (Obj.mat 2 rrows2))]) ∧
  (R (V.tup [(E.agg [(sD (dI r0)), (sD (dI r1)), (sD (dL (matD rrows)))]), (E.agg [(sD (dI r01)), (sD (dI r11)), (sD (dL (matD rrows1)))]), (E.agg [(sD (dI r02)), (sD (dI r12)), (sD (dL (matD rrows2)))])]) [])))))

theorem vc19_ok (x0 : Int) (x1 : Int) (x2 : Int) (x3 : Int) (x4 : List (List D)) (x5 : List (List D)) (x6 : List (List D)) {R : V → Heap → Prop} (h : vc19 x0 x1 x2 x3 x4 x5 x6 R) : FnG prog 19 [(vA [(sD (D.int .u8 x0)), (sD (D.int .u8 x1)), (sD (D.int .u8 x2)), (sD (D.int .u8 x3)), (sD (dL x4)), (sD (dL x5)), (sD (dL x6))])] [] R :=
  FnG.vcg hT func19 ntmps19 (.reg 4 [(0, Or.none, 0, 1), (1, Or.none, 1, 1), (2, Or.none, 2, 1), (3, Or.none, 3, 1)] [1, 2, 3, 4] [0, 1, 2, 3] [] <| .reg 1 [(1, Or.none, 4, 1)] [1, 2, 3, 4, 5] [0, 1, 2, 3, 4] [] <| .r1 [1, 2, 3, 4, 5, 6] [0, 1, 2, 3, 4] <| .lp1 <| .r1 [1, 2, 3, 4, 5, 6, 9] [0, 1, 2, 3, 4] <| .ct true none <| .reg 0 [] [1, 2, 3, 4, 5, 6] [0, 1, 2, 3, 4] [.new, .new, .old 1] <| .r1 [1, 2, 3, 4, 5, 6] [0, 1, 2, 3, 4] <| .lp1 <| .r1 [1, 2, 3, 4, 5, 6, 9] [0, 1, 2, 3, 4] <| .ct true none <| .reg 0 [] [1, 2, 3, 4, 5, 6] [0, 1, 2, 3, 4] [.new, .old 1, .old 0] <| .r1 [1, 2, 3, 4, 5, 6] [0, 1, 2, 3, 4] <| .lp1 <| .r1 [1, 2, 3, 4, 5, 6, 9] [0, 1, 2, 3, 4] <| .ct true none <| .reg 0 [] [1, 2, 3, 4, 5, 6] [0, 1, 2, 3, 4] [.new, .old 2, .old 0] <| .r1 [1, 2, 3, 4, 5, 6] [0, 1, 2, 3, 4] <| .lp1 <| .r1 [1, 2, 3, 4, 5, 6, 9] [0, 1, 2, 3, 4] <| .ct true none <| .reg 0 [] [1, 2, 3, 4, 5, 6] [0, 1, 2, 3, 4] [.new, .old 3, .old 0] <| .r1 [1, 2, 3, 4, 5, 6] [0, 1, 2, 3, 4] <| .lp1 <| .r1 [1, 2, 3, 4, 5, 6, 9] [0, 1, 2, 3, 4] <| .ct false none <| .ex fun r0 => .ex fun r1 => .exm fun rrows => .ex fun r01 => .ex fun r11 => .exm fun rrows1 => .ex fun r02 => .ex fun r12 => .exm fun rrows2 => .drw 3 [(6, ((Or.call (vA [(sD (dI r0)), (sD (dI r1)), (S.ref 0)]) [(some (Obj.mat 2 rrows))] []), 5, 1), [5]), (13, ((Or.call (vA [(sD (dI r01)), (sD (dI r11)), (S.ref 0)]) [(some (Obj.mat 2 rrows1))] []), 6, 1), [6]), (20, ((Or.call (vA [(sD (dI r02)), (sD (dI r12)), (S.ref 0)]) [(some (Obj.mat 2 rrows2))] []), 7, 1), [7]), (21, (Or.none, 0, 0), [1]), (22, (Or.none, 0, 0), [2]), (23, (Or.none, 0, 0), [3])] [2, 3, 4] [1, 2, 3, 5, 6, 7] [.old 4, .old 2, .new, .old 3, .old 2, .new, .old 3, .old 2] <| .frz [3, 4, 5] <| .ret [])
    (by kernel_rfl) (by kernel_rfl) (by kernel_rfl) h

end Go.AM

/- What the functions of package matrix' reference, and of its law, answer: matrices out of bytes. -/
namespace Go.AM
open Go.Proofs.Try

def i8s (r : List Int) : List (List D) := r.map fun n => [D.int .i8 n]
theorem i8s_length (r : List Int) : (i8s r).length = r.length := by simp [i8s]
theorem i8s_getN {r : List Int} {i : Nat} (h : i < r.length) : (i8s r)[(i : Int).toNat]? = some [D.int .i8 (elr r i)] := by
  rw [Int.toNat_natCast]; simp [i8s, elr, h]

def fillG (c : Nat) (v : List Int) (i j : Nat) : Int := (elr v (i * c + j)).tmod 10

theorem tmod10 (n : Int) : (n.tmod 10).natAbs ≤ 9 := by
  rw [Int.natAbs_tmod]
  have : (10 : Int).natAbs = 10 := rfl
  rw [this]; omega

theorem clamp16 {n : Nat} (h : n ≤ 16) : (if (16 : Int) < (if (0 : Int) > (n : Int) then (0 : Int) else (n : Int)) then (16 : Int) else (if (0 : Int) > (n : Int) then (0 : Int) else (n : Int))) = (n : Int) := by
  rw [if_neg (show ¬ (0 : Int) > (n : Int) by omega), if_neg (by omega)]

theorem filled_ok {r c : Nat} {v : List Int} (hr : r ≤ 16) (hc : c ≤ 16) : FnD prog 24 [vi r, vi c, vs (i8s v)] (eMo r c) (oM (table r c (fillG c v))) := by
  refine vc24_ok _ _ _ (R := OutM r c _) ?_
  unfold vc24
  simp only [i8s_length]
  rw [clamp16 hr, clamp16 hc]
  refine ⟨_, _, _, rnew_ok (by omega) (by omega), fun o t => ∃ i : Nat, t = (i : Int) ∧ i ≤ r ∧ o = om (table r c (gF (fillG c v) i 0)), fun _ t => ((r : Int) - t).toNat, ⟨0, rfl, by omega, gF_zero _⟩, ?_⟩
  rintro _ _ ⟨i, rfl, hi, rfl⟩
  refine ⟨fun h => ?_, fun h => outM ?_⟩
  · have hir : i < r := by simpa using h
    refine ⟨fun o t => ∃ j : Nat, t = (j : Int) ∧ j ≤ c ∧ o = om (table r c (gF (fillG c v) i j)), fun _ t => ((c : Int) - t).toNat, ⟨0, rfl, by omega, rfl⟩, ?_⟩
    rintro _ _ ⟨j, rfl, hj, rfl⟩
    have hprod : i * c ≤ 16 * 16 := Nat.mul_le_mul (by omega) hc
    have hw1 : IntKind.i64.wrap ((i : Int) * (c : Int)) = ((i * c : Nat) : Int) := by
      rw [← Int.natCast_mul]; exact w64 (by omega) (by omega)
    have hw2 : IntKind.i64.wrap (((i * c : Nat) : Int) + (j : Int)) = ((i * c + j : Nat) : Int) := by
      rw [← Int.natCast_add]; exact w64 (by omega) (by omega)
    have next : (∀ b, j ≤ b → b < c → fillG c v i b = 0) →
        (∃ i' : Nat, IntKind.i64.wrap ((i : Int) + 1) = (i' : Int) ∧ i' ≤ r ∧ om (table r c (gF (fillG c v) i j)) = om (table r c (gF (fillG c v) i' 0))) ∧ ((r : Int) - IntKind.i64.wrap ((i : Int) + 1)).toNat < ((r : Int) - (i : Int)).toNat := fun h0 => by
      rw [inc64 (by omega)]
      exact ⟨⟨i + 1, rfl, by omega, gF_next h0⟩, by omega⟩
    rw [hw1, hw2]
    refine ⟨fun h2 => ⟨fun h3 => ?_, fun h3 => next fun b hb _ => ?_⟩, fun h2 => next fun b hb hbc => ?_⟩
    · have hjc : j < c := by simpa using h2
      have hlt : i * c + j < v.length := by
        have h3 := of_decide_eq_true h3
        omega
      have hm := tmod10 (elr v (i * c + j))
      have hw3 : IntKind.i64.wrap ((elr v (i * c + j)).tmod 10) = (elr v (i * c + j)).tmod 10 := w64 (by omega) (by omega)
      refine ⟨elr v (i * c + j), decide (fillG c v i j < 0), lim (dz (fillG c v i j)), ⟨by omega, by simp [om_length, table]; omega⟩, ⟨by omega, by omega⟩, i8s_getN hlt, by decide, ?_, om_in hir hjc, ?_⟩
      · rw [hw3]; exact rof_ok _ (by omega) (by omega)
      rw [inc64 (by omega)]
      refine ⟨⟨j + 1, rfl, by omega, ?_⟩, by show ((c : Int) - ((j + 1 : Nat) : Int)).toNat < ((c : Int) - (j : Int)).toNat; omega⟩
      rw [Int.toNat_natCast, Int.toNat_natCast]
      exact gF_step hir hjc
    · have hlt : v.length ≤ i * c + j := by
        have h3 := of_decide_eq_false h3
        omega
      unfold fillG
      rw [elr_out (by omega)]; rfl
    · have hjc : c ≤ j := by simpa using h2
      omega
  · have hir : i = r := by have : r ≤ i := by simpa using h
                           omega
    subst hir
    exact gF_all

theorem filled_bd {r c : Nat} {v : List Int} : BdM 9 (table r c (fillG c v)) := table_bd fun _ _ _ _ => tmod10 _

/-- A byte, modulo 5. -/
theorem mod5 {x : Int} (h0 : 0 ≤ x) : ∃ n : Nat, IntKind.i64.wrap (x.tmod 5) = (n : Int) ∧ n ≤ 4 := by
  refine ⟨(x % 5).toNat, ?_, by omega⟩
  rw [Int.tmod_eq_emod_of_nonneg h0, w64 (by omega) (by omega)]; omega

def d3 (x0 x1 x2 x3 : Int) (a b c : List Int) : V := .e (.agg [.dat (.int .u8 x0), .dat (.int .u8 x1), .dat (.int .u8 x2), .dat (.int .u8 x3), .dat (.sl (i8s a)), .dat (.sl (i8s b)), .dat (.sl (i8s c))])
def eM3 (r0 c0 : Int) (m0 : List (List Int)) (r1 c1 : Int) (m1 : List (List Int)) (r2 c2 : Int) (m2 : List (List Int)) : V :=
  .tup [.agg [.dat (.int .i64 r0), .dat (.int .i64 c0), .dat (.sl (rows m0))], .agg [.dat (.int .i64 r1), .dat (.int .i64 c1), .dat (.sl (rows m1))], .agg [.dat (.int .i64 r2), .dat (.int .i64 c2), .dat (.sl (rows m2))]]

/-- Three matrices that can be multiplied in this order. -/
theorem chain_ok {x0 x1 x2 x3 : Int} (a b c : List Int) (h0 : 0 ≤ x0) (h1 : 0 ≤ x1) (h2 : 0 ≤ x2) (h3 : 0 ≤ x3) :
    ∃ (n0 n1 n2 n3 : Nat), n0 ≤ 4 ∧ n1 ≤ 4 ∧ n2 ≤ 4 ∧ n3 ≤ 4 ∧
      FnD prog 19 [d3 x0 x1 x2 x3 a b c] (eM3 n0 n1 (table n0 n1 (fillG n1 a)) n1 n2 (table n1 n2 (fillG n2 b)) n2 n3 (table n2 n3 (fillG n3 c))) [] := by
  obtain ⟨n0, e0, b0⟩ := mod5 h0
  obtain ⟨n1, e1, b1⟩ := mod5 h1
  obtain ⟨n2, e2, b2⟩ := mod5 h2
  obtain ⟨n3, e3, b3⟩ := mod5 h3
  refine ⟨n0, n1, n2, n3, b0, b1, b2, b3, ?_⟩
  refine vc19_ok _ _ _ _ _ _ _ (R := Out _) ?_
  unfold vc19
  rw [e0, e1, e2, e3]
  refine ⟨by decide, by decide, by decide, by decide, by decide, _, _, _, _, _, _, _, _, _, filled_ok (by omega) (by omega), filled_ok (by omega) (by omega), filled_ok (by omega) (by omega), ?_⟩
  simp only [matD_om]
  exact ⟨rfl, rfl⟩

end Go.AM

/- What functions of the program come to: group P4. Printed by vc.py. -/
set_option maxRecDepth 100000
set_option linter.unusedVariables false

namespace Go.AM
open Go.Proofs.Try

/- f4 torsion/torsionlaw05.MatrixTransposes -/
def vc4 (x0 : Int) (x1 : Int) (x2 : Int) (x3 : Int) (x4 : List (List D)) (x5 : List (List D)) (x6 : List (List D)) (R : V → Heap → Prop) : Prop :=
  ∃ (r : Bool),
  (FnD prog 14 [] (vD (dB r)) []) ∧
  (∃ (r0 : Int) (r1 : Int) (r2 : List (List D)) (r01 : Int) (r11 : Int) (r21 : List (List D)) (r02 : Int) (r12 : Int) (r22 : List (List D)),
  (FnD prog 19 [(vA [(sD (D.int .u8 x0)), (sD (D.int .u8 x1)), (sD (D.int .u8 x2)), (sD (D.int .u8 x3)), (sD (dL x4)), (sD (dL x5)), (sD (dL x6))])] (V.tup [(E.agg [(sD (dI r0)), (sD (dI r1)), (sD (dL r2))]), (E.agg [(sD (dI r01)), (sD (dI r11)), (sD (dL r21))]), (E.agg [(sD (dI r02)), (sD (dI r12)), (sD (dL r22))])]) []) ∧
  (∃ (r03 : Int) (r13 : Int) (r23 : List (List D)) (r3 : Int),
  (FnD prog 20 [(vA [(sD (dI r0)), (sD (dI r1)), (sD (dL r2))]), (vA [(sD (dI r01)), (sD (dI r11)), (sD (dL r21))])] (V.tup [(E.agg [(sD (dI r03)), (sD (dI r13)), (sD (dL r23))]), (eD (dI r3))]) []) ∧
  (∃ (r04 : Int) (r14 : Int) (r24 : List (List D)) (r05 : Int) (r15 : Int) (r25 : List (List D)),
  (FnD prog 21 [(vA [(sD (dI r0)), (sD (dI r1)), (sD (dL r2))])] (vA [(sD (dI r04)), (sD (dI r14)), (sD (dL r24))]) []) ∧
  (FnD prog 21 [(vA [(sD (dI r01)), (sD (dI r11)), (sD (dL r21))])] (vA [(sD (dI r05)), (sD (dI r15)), (sD (dL r25))]) []) ∧
  (((r3 != (0 : Int)) = true →
    R (vD (dB false)) []) ∧
  ((r3 != (0 : Int)) = false →
    ∃ (r4 : Bool),
    (FnD prog 22 [(vA [(sD (dI r03)), (sD (dI r13)), (sD (dL r23))]), (vD (dI r0)), (vD (dI r11))] (vD (dB r4)) []) ∧
    (((!r4) = true →
      R (vD (dB false)) []) ∧
    ((!r4) = false →
      ∃ (r5 : Bool),
      (FnD prog 22 [(vA [(sD (dI r04)), (sD (dI r14)), (sD (dL r24))]), (vD (dI r1)), (vD (dI r0))] (vD (dB r5)) []) ∧
      (((!r5) = true →
        R (vD (dB false)) []) ∧
      ((!r5) = false →
        ∃ (r6 : Bool),
        (FnD prog 22 [(vA [(sD (dI r05)), (sD (dI r15)), (sD (dL r25))]), (vD (dI r11)), (vD (dI r01))] (vD (dB r6)) []) ∧
        (((!r6) = true →
          R (vD (dB false)) []) ∧
        ((!r6) = false →
          ∃ (r06 : Int) (r16 : Int) (r26 : List (List D)) (r7 : Int),
          (FnD prog 20 [(vA [(sD (dI r05)), (sD (dI r15)), (sD (dL r25))]), (vA [(sD (dI r04)), (sD (dI r14)), (sD (dL r24))])] (V.tup [(E.agg [(sD (dI r06)), (sD (dI r16)), (sD (dL r26))]), (eD (dI r7))]) []) ∧
          (((r7 == (0 : Int)) = true →
            ∃ (r07 : Int) (r17 : Int) (r27 : List (List D)) (r8 : Bool),
            (FnD prog 21 [(vA [(sD (dI r03)), (sD (dI r13)), (sD (dL r23))])] (vA [(sD (dI r07)), (sD (dI r17)), (sD (dL r27))]) []) ∧
            (FnD prog 23 [(vA [(sD (dI r07)), (sD (dI r17)), (sD (dL r27))]), (vA [(sD (dI r06)), (sD (dI r16)), (sD (dL r26))])] (vD (dB r8)) []) ∧
            ((r8 = true →
              ∃ (r08 : Int) (r18 : Int) (r28 : List (List D)) (r9 : Bool),
              (FnD prog 21 [(vA [(sD (dI r04)), (sD (dI r14)), (sD (dL r24))])] (vA [(sD (dI r08)), (sD (dI r18)), (sD (dL r28))]) []) ∧
              (FnD prog 23 [(vA [(sD (dI r08)), (sD (dI r18)), (sD (dL r28))]), (vA [(sD (dI r0)), (sD (dI r1)), (sD (dL r2))])] (vD (dB r9)) []) ∧
              ((r9 = true →
                R (vD (dB r)) []) ∧
              (r9 = false →
                R (vD (dB false)) []))) ∧
            (r8 = false →
              R (vD (dB false)) []))) ∧
          ((r7 == (0 : Int)) = false →
            R (vD (dB false)) [])))))))))))))

theorem vc4_ok (x0 : Int) (x1 : Int) (x2 : Int) (x3 : Int) (x4 : List (List D)) (x5 : List (List D)) (x6 : List (List D)) {R : V → Heap → Prop} (h : vc4 x0 x1 x2 x3 x4 x5 x6 R) : FnG prog 4 [(vA [(sD (D.int .u8 x0)), (sD (D.int .u8 x1)), (sD (D.int .u8 x2)), (sD (D.int .u8 x3)), (sD (dL x4)), (sD (dL x5)), (sD (dL x6))])] [] R :=
  FnG.vcg hT func4 ntmps4 (.reg 1 [(0, Or.none, 0, 1)] [1] [0] [] <| .exb fun r => .reg 0 [(0, (Or.call (vD (dB r)) [] []), 0, 0)] [1, 3] [0] [] <| .ex fun r0 => .ex fun r1 => .exl fun r2 => .ex fun r01 => .ex fun r11 => .exl fun r21 => .ex fun r02 => .ex fun r12 => .exl fun r22 => .reg 3 [(1, (Or.call (V.tup [(E.agg [(sD (dI r0)), (sD (dI r1)), (sD (dL r2))]), (E.agg [(sD (dI r01)), (sD (dI r11)), (sD (dL r21))]), (E.agg [(sD (dI r02)), (sD (dI r12)), (sD (dL r22))])]) [] []), 0, 0), (6, Or.none, 1, 1), (7, Or.none, 2, 1), (8, Or.none, 3, 1)] [3, 4, 5] [1, 2] [] <| .ex fun r03 => .ex fun r13 => .exl fun r23 => .ex fun r3 => .reg 1 [(2, (Or.call (V.tup [(E.agg [(sD (dI r03)), (sD (dI r13)), (sD (dL r23))]), (eD (dI r3))]) [] []), 0, 0), (6, Or.none, 2, 1)] [3, 4, 5, 7, 8] [0, 1, 2] [] <| .ex fun r04 => .ex fun r14 => .exl fun r24 => .ex fun r05 => .ex fun r15 => .exl fun r25 => .drw 2 [(1, ((Or.call (vA [(sD (dI r04)), (sD (dI r14)), (sD (dL r24))]) [] []), 0, 0), []), (3, ((Or.call (vA [(sD (dI r05)), (sD (dI r15)), (sD (dL r25))]) [] []), 0, 0), []), (4, (Or.none, 3, 1), [3]), (5, (Or.none, 4, 1), [4]), (6, (Or.none, 0, 0), [3]), (7, (Or.none, 0, 0), [4])] [3, 4, 5, 7, 8, 9, 10] [0, 1, 2, 3, 4] [] <| .spl ((r3 != (0 : Int))) (.reg 0 [(2, (Or.bool true), 0, 0)] [3, 4, 7, 9, 10, 58] [0, 2, 3, 4] [.old 0] <| .ct true none <| .r0 [2] <| .ret []) (.exb fun r4 => .ob (FnD prog 22 [(vA [(sD (dI r03)), (sD (dI r13)), (sD (dL r23))]), (vD (dI r0)), (vD (dI r11))] (vD (dB r4)) []) <| .spl ((!r4)) (.reg 0 [(2, (Or.bool false), 0, 0), (8, (Or.call (vD (dB r4)) [] []), 0, 0), (11, (Or.bool true), 0, 0)] [3, 4, 7, 9, 10, 58] [0, 2, 3, 4] [.old 2, .old 1, .old 0] <| .ct true none <| .r0 [2] <| .ret []) (.exb fun r5 => .ob (FnD prog 22 [(vA [(sD (dI r04)), (sD (dI r14)), (sD (dL r24))]), (vD (dI r1)), (vD (dI r0))] (vD (dB r5)) []) <| .spl ((!r5)) (.reg 0 [(2, (Or.bool false), 0, 0), (8, (Or.call (vD (dB r4)) [] []), 0, 0), (11, (Or.bool false), 0, 0), (17, (Or.call (vD (dB r5)) [] []), 0, 0), (20, (Or.bool true), 0, 0)] [3, 4, 7, 9, 10, 58] [0, 2, 3, 4] [.old 4, .old 3, .old 2, .old 1, .old 0] <| .ct true none <| .r0 [2] <| .ret []) (.exb fun r6 => .reg 0 [(2, (Or.bool false), 0, 0), (8, (Or.call (vD (dB r4)) [] []), 0, 0), (11, (Or.bool false), 0, 0), (17, (Or.call (vD (dB r5)) [] []), 0, 0), (20, (Or.bool false), 0, 0), (26, (Or.call (vD (dB r6)) [] []), 0, 0)] [3, 4, 7, 9, 10, 58] [0, 2, 3, 4] [.old 4, .old 3, .old 2, .old 1, .old 0] <| .c2 (.r0 [2] <| .ret []) (.ex fun r06 => .ex fun r16 => .exl fun r26 => .ex fun r7 => .reg 1 [(2, (Or.call (V.tup [(E.agg [(sD (dI r06)), (sD (dI r16)), (sD (dL r26))]), (eD (dI r7))]) [] []), 0, 0), (6, Or.none, 4, 1)] [3, 4, 7, 9, 11, 12] [0, 1, 2, 4] [] <| .spl ((r7 == (0 : Int))) (.ex fun r07 => .ex fun r17 => .exl fun r27 => .exb fun r8 => .ob (FnD prog 21 [(vA [(sD (dI r03)), (sD (dI r13)), (sD (dL r23))])] (vA [(sD (dI r07)), (sD (dI r17)), (sD (dL r27))]) []) <| .ob (FnD prog 23 [(vA [(sD (dI r07)), (sD (dI r17)), (sD (dL r27))]), (vA [(sD (dI r06)), (sD (dI r16)), (sD (dL r26))])] (vD (dB r8)) []) <| .spl r8 (.ex fun r08 => .ex fun r18 => .exl fun r28 => .exb fun r9 => .ob (FnD prog 21 [(vA [(sD (dI r04)), (sD (dI r14)), (sD (dL r24))])] (vA [(sD (dI r08)), (sD (dI r18)), (sD (dL r28))]) []) <| .ob (FnD prog 23 [(vA [(sD (dI r08)), (sD (dI r18)), (sD (dL r28))]), (vA [(sD (dI r0)), (sD (dI r1)), (sD (dL r2))])] (vD (dB r9)) []) <| .spl r9 (.drw 0 [(2, ((Or.bool true), 0, 0), []), (4, ((Or.call (vA [(sD (dI r07)), (sD (dI r17)), (sD (dL r27))]) [] []), 0, 0), []), (6, ((Or.call (vD (dB r8)) [] []), 0, 0), []), (8, ((Or.bool true), 0, 0), []), (10, ((Or.call (vA [(sD (dI r08)), (sD (dI r18)), (sD (dL r28))]) [] []), 0, 0), []), (12, ((Or.call (vD (dB r9)) [] []), 0, 0), []), (14, ((Or.bool true), 0, 0), [])] [2] [] [.old 6, .old 5, .old 4, .old 3, .old 2, .old 1, .old 0] <| .ret []) (.drw 0 [(2, ((Or.bool true), 0, 0), []), (4, ((Or.call (vA [(sD (dI r07)), (sD (dI r17)), (sD (dL r27))]) [] []), 0, 0), []), (6, ((Or.call (vD (dB r8)) [] []), 0, 0), []), (8, ((Or.bool true), 0, 0), []), (10, ((Or.call (vA [(sD (dI r08)), (sD (dI r18)), (sD (dL r28))]) [] []), 0, 0), []), (12, ((Or.call (vD (dB r9)) [] []), 0, 0), []), (14, ((Or.bool false), 0, 0), [])] [2] [] [.old 6, .old 5, .old 4, .old 3, .old 2, .old 1, .old 0] <| .ret [])) (.drw 0 [(2, ((Or.bool true), 0, 0), []), (4, ((Or.call (vA [(sD (dI r07)), (sD (dI r17)), (sD (dL r27))]) [] []), 0, 0), []), (6, ((Or.call (vD (dB r8)) [] []), 0, 0), []), (8, ((Or.bool false), 0, 0), [])] [2] [] [.old 3, .old 2, .old 1, .old 0] <| .ret [])) (.drw 0 [(2, ((Or.bool false), 0, 0), [])] [2] [] [.old 0] <| .ret []))))))
    (by kernel_rfl) (by kernel_rfl) (by kernel_rfl) h

end Go.AM

/- The law of transposes, but for the fixed examples. -/
namespace Go.AM
open Go.Proofs.Try

theorem dsum_comm (f g : Nat → Int) : ∀ n, dsum f g n = dsum g f n
  | 0 => rfl
  | n + 1 => by simp only [dsum]; rw [dsum_comm f g n, Int.mul_comm]

def trM (r c : Nat) (m : List (List Int)) : List (List Int) := table c r fun i j => el m j i

theorem trM_mx (r c : Nat) (m : List (List Int)) : Mx c r (trM r c m) := table_mx _ _ _

theorem trM_bd {r c K : Nat} {m : List (List Int)} (hm : Mx r c m) (h : BdM K m) : BdM K (trM r c m) := table_bd fun _ _ hi hj => el_bd hm h hj hi

theorem el_trM {r c : Nat} {m : List (List Int)} {i j : Nat} (hi : i < c) (hj : j < r) : el (trM r c m) i j = el m j i := el_table hi hj

theorem trM_trM {r c : Nat} {m : List (List Int)} (hm : Mx r c m) : trM c r (trM r c m) = m := by
  refine Eq.trans (table_congr fun i j hi hj => ?_) (mx_table hm).symm
  rw [el_trM hj hi]

theorem trM_mmul {r n c : Nat} (a b : List (List Int)) : trM r c (mmul r n c a b) = mmul c n r (trM n c b) (trM r n a) := by
  unfold trM mmul
  refine table_congr fun i j hi hj => ?_
  rw [el_table hj hi, dsum_comm]
  refine dsum_congr n (fun k hk => ?_) fun k hk => ?_
  · rw [el_table hi hk]
  · rw [el_table hk hj]

theorem mmul_mx (r n c : Nat) (a b : List (List Int)) : Mx r c (mmul r n c a b) := table_mx _ _ _

theorem mmul_bd {r n c K L : Nat} {a b : List (List Int)} (ha : Mx r n a) (hb : Mx n c b) (ka : BdM K a) (kb : BdM L b) : BdM (n * (K * L)) (mmul r n c a b) :=
  table_bd fun _ _ hi hj => dsum_le n (fun _ hk => el_bd ha ka hi hk) fun _ hk => el_bd hb kb hk hj

theorem BdM.mono {K L : Nat} {m : List (List Int)} (h : BdM K m) (hl : K ≤ L) : BdM L m := fun r hr z hz => Nat.le_trans (h r hr z hz) hl

theorem Mx.cols {r c : Nat} {m : List (List Int)} (h : Mx r c m) (hc : c ≤ 4294967296) : ∀ x ∈ m, x.length ≤ 4294967296 := fun x hx => by rw [h.2 x hx]; exact hc

/-- 'Same' says yes at equal matrices. -/
theorem same_yes {r c K : Nat} {a b : List (List Int)} (ha : Mx r c a) (ka : BdM K a) (kb : BdM K b) (h : a = b) (hr : r ≤ 4294967296) (hc : c ≤ 4294967296) (hK : K ≤ 1329227995784915872903807060280344576) : FnD prog 23 [eM r c a, eM r c b] (vb true) [] := by
  have := same_ok (r := (r : Int)) (c := (c : Int)) (r' := (r : Int)) (c' := (c : Int)) (ka.sz (Nat.le_trans hK (by decide))) (kb.sz (Nat.le_trans hK (by decide))) (by rw [ha.1]; exact hr) (ha.cols hc)
  rw [show decide ((r : Int) = r ∧ (c : Int) = c ∧ a = b) = true by simp [h]] at this
  exact this

theorem sized_yes {r c K : Nat} {a : List (List Int)} (ha : Mx r c a) (ka : BdM K a) (hr : r ≤ 4294967296) (hc : c ≤ 4294967296) (hK : K ≤ 1329227995784915872903807060280344576) : FnD prog 22 [eM r c a, vi r, vi c] (vb true) [] := by
  have := sized_ok ha (ka.sz (Nat.le_trans hK (by decide))) hr hc r c
  rw [show decide ((r : Int) = r ∧ (c : Int) = c) = true by simp] at this
  exact this

theorem transposes_ok (hsan : FnD prog 14 [] (vb true) []) {x0 x1 x2 x3 : Int} (a b c : List Int) (h0 : 0 ≤ x0) (h1 : 0 ≤ x1) (h2 : 0 ≤ x2) (h3 : 0 ≤ x3) : FnD prog 4 [d3 x0 x1 x2 x3 a b c] (vb true) [] := by
  obtain ⟨n0, n1, n2, n3, b0, b1, b2, b3, hchain⟩ := chain_ok a b c h0 h1 h2 h3
  obtain ⟨A, hA⟩ : ∃ A, A = table n0 n1 (fillG n1 a) := ⟨_, rfl⟩
  obtain ⟨B, hB⟩ : ∃ B, B = table n1 n2 (fillG n2 b) := ⟨_, rfl⟩
  have mA : Mx n0 n1 A := hA ▸ table_mx _ _ _
  have mB : Mx n1 n2 B := hB ▸ table_mx _ _ _
  have kA : BdM 9 A := hA ▸ filled_bd
  have kB : BdM 9 B := hB ▸ filled_bd
  rw [← hA, ← hB] at hchain
  have mAB := mmul_mx n0 n1 n2 A B
  have kAB : BdM 10000 (mmul n0 n1 n2 A B) := (mmul_bd mA mB kA kB).mono (by omega)
  have mS := trM_mx n0 n1 A
  have mT := trM_mx n1 n2 B
  have kS := trM_bd mA kA
  have kT := trM_bd mB kB
  have mTS := mmul_mx n2 n1 n0 (trM n1 n2 B) (trM n0 n1 A)
  have kTS : BdM 10000 (mmul n2 n1 n0 (trM n1 n2 B) (trM n0 n1 A)) := (mmul_bd mT mS kT kS).mono (by omega)
  have big : ∀ K : Nat, K ≤ 10000 → K ≤ 1329227995784915872903807060280344576 := fun K h => by omega
  refine vc4_ok _ _ _ _ _ _ _ (R := Out _) ?_
  unfold vc4
  refine ⟨true, hsan, _, _, _, _, _, _, _, _, _, hchain, _, _, _, _, mmul_ok mA mB kA kB (by omega) (by omega) (by omega) (by omega), _, _, _, _, _, _, transpose_ok mA (by omega) (by omega), transpose_ok mB (by omega) (by omega), fun h => absurd h (by decide), fun _ => ?_⟩
  refine ⟨true, sized_yes mAB kAB (by omega) (by omega) (big _ (by omega)), fun h => absurd h (by decide), fun _ => ?_⟩
  refine ⟨true, sized_yes mS kS (by omega) (by omega) (big _ (by omega)), fun h => absurd h (by decide), fun _ => ?_⟩
  refine ⟨true, sized_yes mT kT (by omega) (by omega) (big _ (by omega)), fun h => absurd h (by decide), fun _ => ?_⟩
  refine ⟨_, _, _, _, mmul_ok mT mS kT kS (by omega) (by omega) (by omega) (by omega), fun _ => ?_, fun h => absurd h (by decide)⟩
  refine ⟨_, _, _, true, transpose_ok mAB (by omega) (by omega), same_yes (trM_mx n0 n2 _) (trM_bd mAB kAB) kTS (trM_mmul A B) (by omega) (by omega) (big _ (by omega)), fun _ => ?_, fun h => nomatch h⟩
  exact ⟨_, _, _, true, transpose_ok mS (by omega) (by omega), same_yes (trM_mx n1 n0 _) (trM_bd mS kS) kA (trM_trM mA) (by omega) (by omega) (big _ (by omega)), fun _ => ⟨rfl, rfl⟩, fun h => nomatch h⟩

end Go.AM

/- Sums of products, and matrices: the laws of the ring. -/
namespace Go.AM
open Go.Proofs.Try

def sm (h : Nat → Int) : Nat → Int
  | 0 => 0
  | n + 1 => sm h n + h n

theorem dsum_sm (f g : Nat → Int) : ∀ n, dsum f g n = sm (fun k => f k * g k) n
  | 0 => rfl
  | n + 1 => by simp only [dsum, sm, dsum_sm f g n]

theorem sm_congr {f g : Nat → Int} : ∀ n, (∀ k, k < n → f k = g k) → sm f n = sm g n
  | 0, _ => rfl
  | n + 1, h => by simp only [sm]; rw [sm_congr n fun k hk => h k (by omega), h n (by omega)]

theorem sm_add (f g : Nat → Int) : ∀ n, sm (fun k => f k + g k) n = sm f n + sm g n
  | 0 => rfl
  | n + 1 => by simp only [sm, sm_add f g n]; omega

theorem sm_mul (c : Int) (f : Nat → Int) : ∀ n, sm (fun k => c * f k) n = c * sm f n
  | 0 => by simp [sm]
  | n + 1 => by simp only [sm, sm_mul c f n, Int.mul_add]

theorem sm_mul_right (c : Int) (f : Nat → Int) (n : Nat) : sm (fun k => f k * c) n = sm f n * c := by
  rw [Int.mul_comm, ← sm_mul]
  exact sm_congr n fun k _ => Int.mul_comm _ _

theorem sm_zero : ∀ n, sm (fun _ => 0) n = 0
  | 0 => rfl
  | n + 1 => by simp only [sm, sm_zero n]; rfl

theorem sm_swap (f : Nat → Nat → Int) (m : Nat) : ∀ n, sm (fun k => sm (fun l => f k l) m) n = sm (fun l => sm (fun k => f k l) n) m
  | 0 => by simp only [sm]; exact (sm_zero m).symm
  | n + 1 => by simp only [sm, sm_swap f m n]; rw [← sm_add]

theorem sm_split (f : Nat → Int) (m : Nat) : ∀ n, sm f (m + n) = sm f m + sm (fun k => f (m + k)) n
  | 0 => by simp [sm]
  | n + 1 => by rw [← Nat.add_assoc]; simp only [sm, sm_split f m n]; omega

theorem sm_one (f : Nat → Int) (j : Nat) : ∀ n, j < n → sm (fun k => if k = j then f k else 0) n = f j
  | n + 1, h => by
    simp only [sm]
    by_cases hj : j = n
    · subst hj
      rw [if_pos rfl, sm_congr (g := fun _ => 0) j (fun k hk => if_neg (by omega)), sm_zero]; omega
    · rw [if_neg (fun h => hj h.symm), sm_one f j n (by omega)]; omega

theorem dsum_delta_right (f : Nat → Int) {j n : Nat} (h : j < n) : dsum f (fun k => delta k j) n = f j := by
  rw [dsum_sm, ← sm_one f j n h]
  refine sm_congr n fun k _ => ?_
  unfold delta
  by_cases hk : k = j <;> simp [hk]

theorem dsum_delta_left (f : Nat → Int) {i n : Nat} (h : i < n) : dsum (fun k => delta i k) f n = f i := by
  rw [dsum_sm, ← sm_one f i n h]
  refine sm_congr n fun k _ => ?_
  unfold delta
  by_cases hk : i = k
  · subst hk; simp
  · rw [if_neg hk, if_neg (fun h => hk h.symm)]; simp

theorem mmul_assoc {p q r s : Nat} (a b c : List (List Int)) : mmul p r s (mmul p q r a b) c = mmul p q s a (mmul q r s b c) := by
  unfold mmul
  refine table_congr fun i j hi hj => ?_
  have e1 : dsum (fun k => el (table p r fun i j => dsum (fun k => el a i k) (fun k => el b k j) q) i k) (fun k => el c k j) r =
      sm (fun k => sm (fun l => el a i l * el b l k * el c k j) q) r := by
    rw [dsum_sm]
    refine sm_congr r fun k hk => ?_
    rw [el_table hi hk, dsum_sm, ← sm_mul_right]
  have e2 : dsum (fun k => el a i k) (fun k => el (table q s fun i j => dsum (fun k => el b i k) (fun k => el c k j) r) k j) q =
      sm (fun l => sm (fun k => el a i l * el b l k * el c k j) r) q := by
    rw [dsum_sm]
    refine sm_congr q fun l hl => ?_
    rw [el_table hl hj, dsum_sm, ← sm_mul]
    exact sm_congr r fun k _ => by rw [Int.mul_assoc]
  rw [e1, e2, sm_swap]

theorem mcomb_mx (r c : Nat) (f : Int → Int → Int) (a b : List (List Int)) : Mx r c (mcomb r c f a b) := table_mx _ _ _

theorem el_mcomb {r c : Nat} {f : Int → Int → Int} {a b : List (List Int)} {i j : Nat} (hi : i < r) (hj : j < c) : el (mcomb r c f a b) i j = f (el a i j) (el b i j) := el_table hi hj

theorem el_mmul {r n c : Nat} {a b : List (List Int)} {i j : Nat} (hi : i < r) (hj : j < c) : el (mmul r n c a b) i j = sm (fun k => el a i k * el b k j) n := by
  unfold mmul
  rw [el_table hi hj, dsum_sm]

theorem mcomb_bd {r c K L : Nat} {a b : List (List Int)} (ha : Mx r c a) (hb : Mx r c b) (ka : BdM K a) (kb : BdM L b) : BdM (K + L) (mcomb r c (· + ·) a b) ∧ BdM (K + L) (mcomb r c (· - ·) a b) :=
  ⟨table_bd fun _ _ hi hj => Nat.le_trans (Int.natAbs_add_le _ _) (Nat.add_le_add (el_bd ha ka hi hj) (el_bd hb kb hi hj)),
   table_bd fun i j hi hj => by
     have h1 := el_bd ha ka hi hj
     have h2 := el_bd hb kb hi hj
     show (el a i j - el b i j).natAbs ≤ K + L
     omega⟩

/-- Equal element by element. -/
theorem mx_ext {r c : Nat} {a b : List (List Int)} (ha : Mx r c a) (hb : Mx r c b) (h : ∀ i j, i < r → j < c → el a i j = el b i j) : a = b := by
  rw [mx_table ha, mx_table hb]; exact table_congr h

theorem mmul_add_right {r n c : Nat} (a b b2 : List (List Int)) : mmul r n c a (mcomb n c (· + ·) b b2) = mcomb r c (· + ·) (mmul r n c a b) (mmul r n c a b2) := by
  refine mx_ext (mmul_mx _ _ _ _ _) (mcomb_mx _ _ _ _ _) fun i j hi hj => ?_
  rw [el_mmul hi hj, el_mcomb hi hj, el_mmul hi hj, el_mmul hi hj, ← sm_add]
  refine sm_congr n fun k hk => ?_
  rw [el_mcomb hk hj, Int.mul_add]

theorem mcomb_comm (r c : Nat) (a b : List (List Int)) : mcomb r c (· + ·) a b = mcomb r c (· + ·) b a :=
  table_congr fun _ _ _ _ => Int.add_comm _ _

theorem mmul_ident {r n : Nat} {a : List (List Int)} (ha : Mx r n a) : mmul r n n a (table n n delta) = a := by
  refine mx_ext (mmul_mx _ _ _ _ _) ha fun i j hi hj => ?_
  rw [el_mmul hi hj, ← dsum_delta_right (fun k => el a i k) hj, dsum_sm]
  exact sm_congr n fun k hk => by rw [el_table hk hj]

theorem ident_mmul {r n : Nat} {a : List (List Int)} (ha : Mx r n a) : mmul r r n (table r r delta) a = a := by
  refine mx_ext (mmul_mx _ _ _ _ _) ha fun i j hi hj => ?_
  rw [el_mmul hi hj, ← dsum_delta_left (fun k => el a k j) hi, dsum_sm]
  exact sm_congr r fun k hk => by rw [el_table hi hk]

theorem mcomb_sub {r c : Nat} {a b : List (List Int)} (ha : Mx r c a) : mcomb r c (· - ·) (mcomb r c (· + ·) a b) b = a := by
  refine mx_ext (mcomb_mx _ _ _ _ _) ha fun i j hi hj => ?_
  rw [el_mcomb hi hj, el_mcomb hi hj]; omega

theorem ident_bd (n : Nat) : BdM 1 (table n n delta) := table_bd fun i j _ _ => by unfold delta; by_cases h : i = j <;> simp [h]

end Go.AM

/- From what a row's step is handed to what the machine reads: inputs of any form that is made of bools, integers, slices, structs and arrays. -/
namespace Go.AM
open Go.ChangeShapes Go.WideShapes Go.RowKit

/-- The form of one cell. -/
inductive Sp where
  | b
  | i (k : IntKind)
  | sl (e : List Sp)

mutual
def DOK : Sp → D → Prop
  | .b, .bool _ => True
  | .i k, .int k' n => k' = k ∧ k.min ≤ n ∧ n ≤ k.max
  | .sl es, .sl l => l.length ≤ 9223372036854775807 ∧ ∀ x ∈ l, DOKL es x
  | _, _ => False
def DOKL : List Sp → List D → Prop
  | [], [] => True
  | s :: ss, d :: ds => DOK s d ∧ DOKL ss ds
  | _, _ => False
end

/-- One cell, opened. -/
def exD : Sp → (D → Prop) → Prop
  | .b, K => ∃ b, K (.bool b)
  | .i k, K => ∃ n, (k.min ≤ n ∧ n ≤ k.max) ∧ K (.int k n)
  | .sl es, K => ∃ l, (l.length ≤ 9223372036854775807 ∧ ∀ x ∈ l, DOKL es x) ∧ K (.sl l)

def exDL : List Sp → (List D → Prop) → Prop
  | [], K => K []
  | s :: ss, K => exD s fun d => exDL ss fun ds => K (d :: ds)

theorem exD_of {s : Sp} {d : D} (h : DOK s d) {K : D → Prop} (hk : K d) : exD s K := by
  cases s <;> cases d <;> simp only [DOK] at h <;> first | exact h.elim | skip
  · exact ⟨_, hk⟩
  · obtain ⟨rfl, h1, h2⟩ := h; exact ⟨_, ⟨h1, h2⟩, hk⟩
  · exact ⟨_, h, hk⟩

theorem exDL_of : ∀ {ss : List Sp} {ds : List D}, DOKL ss ds → ∀ {K : List D → Prop}, K ds → exDL ss K
  | [], [], _, _, hk => hk
  | [], _ :: _, h, _, _ => by simp [DOKL] at h
  | _ :: _, [], h, _, _ => by simp [DOKL] at h
  | s :: ss, d :: ds, h, K, hk => by
    simp only [DOKL] at h
    exact exD_of h.1 (exDL_of h.2 hk)

theorem DOKL_append : ∀ {s1 s2 : List Sp} {d1 d2 : List D}, DOKL s1 d1 → DOKL s2 d2 → DOKL (s1 ++ s2) (d1 ++ d2)
  | [], _, [], _, _, h => h
  | [], _, _ :: _, _, h, _ => by simp [DOKL] at h
  | _ :: _, _, [], _, h, _ => by simp [DOKL] at h
  | s :: ss, _, d :: ds, _, h1, h2 => by
    simp only [DOKL] at h1
    simp only [List.cons_append, DOKL]
    exact ⟨h1.1, DOKL_append h1.2 h2⟩

theorem DOKL_length : ∀ {ss : List Sp} {ds : List D}, DOKL ss ds → ds.length = ss.length
  | [], [], _ => rfl
  | [], _ :: _, h => by simp [DOKL] at h
  | _ :: _, [], h => by simp [DOKL] at h
  | s :: ss, d :: ds, h => by simp only [DOKL] at h; simp [DOKL_length h.2]

/-- Integers in a slice. -/
theorem ints_of {k : IntKind} : ∀ {l : List (List D)}, (∀ x ∈ l, DOKL [.i k] x) → ∃ zs : List Int, l = zs.map (fun n => [D.int k n]) ∧ ∀ z ∈ zs, k.min ≤ z ∧ z ≤ k.max
  | [], _ => ⟨[], rfl, fun _ h => by simp at h⟩
  | x :: l, h => by
    obtain ⟨zs, rfl, h2⟩ := ints_of (l := l) fun y hy => h y (by simp [hy])
    obtain ⟨n, h3, hx⟩ := exDL_of (h x (by simp)) (K := fun ds => x = ds) rfl
    exact ⟨n :: zs, by rw [hx]; rfl, fun z hz => by
      rcases List.mem_cons.1 hz with rfl | hz
      · exact h3
      · exact h2 z hz⟩

def shapeFs (sh : TypeId → Option (List Sp)) (P : Program) : List Field → Nat → Option (List Sp)
  | [], _ => some []
  | f :: fs, off =>
    match sh f.type with
    | some s => if f.offset == off && P.cellsOf f.type == s.length then (shapeFs sh P fs (off + s.length)).map (s ++ ·) else none
    | none => none

def shapeOf (P : Program) : Nat → TypeId → Option (List Sp)
  | 0, _ => none
  | n + 1, t =>
    match P.underlying t with
    | some .bool => some [.b]
    | some (.int k) => some [.i k]
    | some (.slice e) => match shapeOf P n e with
      | some es => if P.cellsOf e == es.length && !es.isEmpty then some [.sl es] else none
      | none => none
    | some (.struct fs) => match shapeFs (shapeOf P n) P fs.toList 0 with
      | some ss => if P.cellsOf t == ss.length then some ss else none
      | none => none
    | some (.array m e) => match shapeOf P n e with
      | some es => if P.cellsOf e == es.length && P.cellsOf t == m * es.length then some (List.replicate m es).flatten else none
      | none => none
    | _ => none

theorem cell_some' {w : World} {a : Addr} {v : Value} (h : w.cell? a = some v) : a.spot = none ∧ ∃ cs t fr, w.heap[a.block]? = some (.cells cs t fr) ∧ cs[a.off]? = some v := by
  unfold World.cell? at h
  split at h
  · rename_i cs t fr hb
    cases hs : a.spot with
    | none => rw [hs] at h; exact ⟨rfl, cs, t, fr, hb, by simpa using h⟩
    | some x => rw [hs] at h; simp at h
  · simp at h

/-- All that lies in memory is data to us. -/
def oldI (w : World) : Nat → Prop := fun b => b < w.heap.size

/-- Cells that read as data. -/
def RdL (w : World) (cs : List Value) (ds : List D) : Prop := cs.length = ds.length ∧ ∀ (i : Nat) v d, cs[i]? = some v → ds[i]? = some d → Reads w (oldI w) v d

theorem RdL.append {w : World} {c1 c2 : List Value} {d1 d2 : List D} (h1 : RdL w c1 d1) (h2 : RdL w c2 d2) : RdL w (c1 ++ c2) (d1 ++ d2) := by
  refine ⟨by simp [h1.1, h2.1], fun i v d hv hd => ?_⟩
  by_cases hi : i < c1.length
  · rw [List.getElem?_append_left hi] at hv
    rw [List.getElem?_append_left (h1.1 ▸ hi)] at hd
    exact h1.2 i v d hv hd
  · rw [List.getElem?_append_right (by omega)] at hv
    rw [List.getElem?_append_right (by have := h1.1; omega)] at hd
    exact h2.2 _ v d hv (h1.1 ▸ hd)

section
variable {H : Type} {enc : TypeId × Value → H} {P : Program} {w : World} {spare : Nat → Bool} {held : Bool}

theorem fields_read {sh : TypeId → Option (List Sp)} {n : Nat} (ih : ∀ t ss cs x, sh t = some ss → DataW.trod enc P w 0 spare held n t cs = some x → ∃ ds, DOKL ss ds ∧ RdL w cs ds) {cs : List Value} :
    ∀ (fs : List Field) (xs : List (DataW H × List MemPlace)) (off : Nat) (ss : List Sp), shapeFs sh P fs off = some ss → xs.length = fs.length →
      (∀ (i : Nat) (f : Field), fs[i]? = some f → DataW.trod enc P w 0 spare held n f.type ((cs.drop f.offset).take (P.cellsOf f.type)) = xs[i]?) → off + ss.length ≤ cs.length →
      ∃ ds, DOKL ss ds ∧ RdL w ((cs.drop off).take ss.length) ds
  | [], xs, off, ss, hs, _, _, _ => by
    simp only [shapeFs, Option.some.injEq] at hs; subst hs
    exact ⟨[], trivial, by simp [RdL]⟩
  | f :: fs, xs, off, ss, hs, hl, hx, hle => by
    simp only [shapeFs] at hs
    split at hs
    case h_2 => simp at hs
    rename_i s hsf
    split at hs
    case isFalse => simp at hs
    rename_i hc
    simp only [Bool.and_eq_true, beq_iff_eq] at hc
    simp only [Option.map_eq_some_iff] at hs
    obtain ⟨ss', hs', rfl⟩ := hs
    match xs, hl with
    | x :: xs, hl =>
      have h0 := hx 0 f rfl
      simp only [List.getElem?_cons_zero] at h0
      obtain ⟨d1, g1, g2⟩ := ih _ _ _ _ hsf h0
      rw [List.length_append] at hle
      obtain ⟨d2, g3, g4⟩ := fields_read ih fs xs (off + s.length) ss' hs' (by simpa using hl) (fun i f' hf => by simpa using hx (i + 1) f' (by simpa using hf)) (by omega)
      refine ⟨d1 ++ d2, DOKL_append g1 g3, ?_⟩
      rw [hc.1, hc.2] at g2
      have : (cs.drop off).take (s ++ ss').length = (cs.drop off).take s.length ++ (cs.drop (off + s.length)).take ss'.length := by
        rw [List.length_append, List.take_add, List.drop_drop]
      rw [this]
      exact g2.append g4

theorem array_read {n : Nat} {e : TypeId} {es : List Sp} (ih : ∀ cs x, DataW.trod enc P w 0 spare held n e cs = some x → ∃ ds, DOKL es ds ∧ RdL w cs ds) {cs : List Value} {xs : List (DataW H × List MemPlace)} :
    ∀ (k m : Nat), k + m ≤ xs.length → (∀ i, i < xs.length → DataW.trod enc P w 0 spare held n e ((cs.drop (i * es.length)).take es.length) = xs[i]?) → (k + m) * es.length ≤ cs.length →
      ∃ ds, DOKL (List.replicate k es).flatten ds ∧ RdL w ((cs.drop (m * es.length)).take (k * es.length)) ds
  | 0, m, _, _, _ => ⟨[], by simp [DOKL], by simp [RdL]⟩
  | k + 1, m, hk, hx, hle => by
    have h0 := hx m (by omega)
    rw [List.getElem?_eq_getElem (by omega)] at h0
    obtain ⟨d1, g1, g2⟩ := ih _ _ h0
    obtain ⟨d2, g3, g4⟩ := array_read ih k (m + 1) (by omega) hx (by rw [show k + (m + 1) = k + 1 + m by omega]; exact hle)
    refine ⟨d1 ++ d2, ?_, ?_⟩
    · rw [List.replicate_succ, List.flatten_cons]; exact DOKL_append g1 g3
    · have : (cs.drop (m * es.length)).take ((k + 1) * es.length) = (cs.drop (m * es.length)).take es.length ++ (cs.drop ((m + 1) * es.length)).take (k * es.length) := by
        rw [show (k + 1) * es.length = es.length + k * es.length by rw [Nat.add_mul]; omega, List.take_add, List.drop_drop, show m * es.length + es.length = (m + 1) * es.length by rw [Nat.add_mul]; omega]
      rw [this]
      exact g2.append g4

theorem shape_reads : ∀ (fuel n : Nat) (t : TypeId) (ss : List Sp) (cs : List Value) (x : DataW H × List MemPlace), shapeOf P n t = some ss → DataW.trod enc P w 0 spare held fuel t cs = some x →
    ∃ ds, DOKL ss ds ∧ RdL w cs ds := by
  intro fuel
  induction fuel with
  | zero => intro n t ss cs x _ h; simp [DataW.trod] at h
  | succ fuel ih =>
    intro n t ss cs x hs h
    cases n with
    | zero => simp [shapeOf] at hs
    | succ n =>
      simp only [shapeOf] at hs
      have one : ∀ {v : Value} {d : D} {s : Sp}, DOK s d → Reads w (oldI w) v d → ∃ ds, DOKL [s] ds ∧ RdL w [v] ds := fun {v d s} h1 h2 =>
        ⟨[d], ⟨h1, trivial⟩, rfl, fun i u e hu he => by
          match i, hu, he with
          | 0, hu, he => simp at hu he; subst hu; subst he; exact h2⟩
      split at hs
      · rename_i ht
        simp only [Option.some.injEq] at hs; subst hs
        obtain ⟨b, rfl, _⟩ := DataW.trod_bool ht h
        exact one (d := .bool b) trivial (.bool b)
      · rename_i k ht
        simp only [Option.some.injEq] at hs; subst hs
        obtain ⟨m, rfl, _, hw⟩ := DataW.trod_int ht h
        exact one (d := .int k m) ⟨rfl, by simpa [Lit.wf] using hw⟩ (.int k m)
      · rename_i e ht
        split at hs
        case h_2 => simp at hs
        rename_i es hes
        split at hs
        case isFalse => simp at hs
        rename_i hc
        simp only [Option.some.injEq] at hs; subst hs
        simp only [Bool.and_eq_true, beq_iff_eq, Bool.not_eq_true', List.isEmpty_eq_false_iff] at hc
        obtain ⟨hce, hne⟩ := hc
        have hpos : 0 < es.length := List.length_pos_iff.2 hne
        rcases DataW.trod_slice ht h with ⟨rfl, _⟩ | ⟨a, len, cap, elems, rest, m, hm, rfl, _, _, hl, hcap, hel, heach, _, _⟩
        · exact one (d := .sl []) ⟨by simp, fun _ h => by simp at h⟩ (.slnil none 0)
        simp only [Nat.add_right_cancel_iff] at hm; subst hm
        have each : ∀ i, i < len → ∃ ds, DOKL es ds ∧ ∀ j d, ds[j]? = some d → ∃ v, w.cell? ((a.add (i * es.length)).add j) = some v ∧ Reads w (oldI w) v d := fun i hi => by
          have h1 := heach i hi
          rw [List.getElem?_eq_getElem (by omega), Option.bind_eq_some_iff] at h1
          obtain ⟨cs', hcs, hy⟩ := h1
          obtain ⟨ds, g1, g2, g3⟩ := ih n e es cs' _ hes hy
          obtain ⟨_, k2, k3⟩ := World.cells?_some hcs
          refine ⟨ds, g1, fun j d hd => ?_⟩
          have hj : j < cs'.length := by
            rw [g2]
            rcases Nat.lt_or_ge j ds.length with h | h
            · exact h
            · rw [List.getElem?_eq_none h] at hd; simp at hd
          have := k3 j (by omega)
          rw [List.getElem?_eq_getElem hj, hce] at this
          exact ⟨_, this, g3 j _ d (List.getElem?_eq_getElem hj) hd⟩
        by_cases h0 : len = 0
        · subst h0; exact one (d := .sl []) ⟨by simp, fun _ h => by simp at h⟩ (.slnil _ _)
        -- the elements, chosen
        have hch : ∃ f : Nat → List D, ∀ i, i < len → DOKL es (f i) ∧ ∀ j d, (f i)[j]? = some d → ∃ v, w.cell? ((a.add (i * es.length)).add j) = some v ∧ Reads w (oldI w) v d :=
          ⟨fun i => if hi : i < len then (each i hi).choose else [], fun i hi => by
            simp only [dif_pos hi]; exact (each i hi).choose_spec⟩
        obtain ⟨f, hf⟩ := hch
        have hcell : ∀ i j d, i < len → (f i)[j]? = some d → ∃ b off cs ty fr, a = ⟨b, off, none⟩ ∧ w.heap[b]? = some (.cells cs ty fr) ∧ ∃ v, cs[off + i * es.length + j]? = some v ∧ Reads w (oldI w) v d := fun i j d hi hd => by
          obtain ⟨v, hv, hr⟩ := (hf i hi).2 j d hd
          have h00 : ∃ v, w.cell? a = some v := by
            have hl0 := DOKL_length (hf 0 (by omega)).1
            obtain ⟨v, hv, _⟩ := (hf 0 (by omega)).2 0 ((f 0)[0]'(by omega)) (List.getElem?_eq_getElem (by omega))
            exact ⟨v, by simpa [Addr.add] using hv⟩
          obtain ⟨v0, hv0⟩ := h00
          obtain ⟨hsp, cs, ty, fr, hb, _⟩ := cell_some' hv0
          obtain ⟨b, off, spot⟩ := a
          simp only at hsp hb
          subst hsp
          refine ⟨b, off, cs, ty, fr, rfl, hb, v, ?_, hr⟩
          rw [show ((Addr.mk b off none).add (i * es.length)).add j = ⟨b, off + i * es.length + j, none⟩ by
            unfold Addr.add; by_cases h1 : i * es.length = 0 <;> by_cases h2 : j = 0 <;> simp [h1, h2]] at hv
          obtain ⟨_, cs', ty', fr', hb', hc'⟩ := cell_some' hv
          simp only at hb' hc'
          rw [hb] at hb'
          simp only [Option.some.injEq, Obj.cells.injEq] at hb'
          rw [hb'.1]; exact hc'
        have h0d := DOKL_length (hf 0 (by omega)).1
        obtain ⟨b, off, cs, ty, fr, ha, hb, _⟩ := hcell 0 0 ((f 0)[0]'(by omega)) (by omega) (List.getElem?_eq_getElem (by omega))
        subst ha
        have hlt : b < w.heap.size := by
          rcases Nat.lt_or_ge b w.heap.size with h | h
          · exact h
          · rw [Array.getElem?_eq_none h] at hb; simp at hb
        have hat : ∀ i j d, at2 ((List.range len).map f) i j = some d → i < len ∧ (f i)[j]? = some d := fun i j d hd => by
          simp only [at2, List.getElem?_map, Option.bind_eq_some_iff, Option.map_eq_some_iff] at hd
          obtain ⟨y, ⟨k, hk, rfl⟩, hd⟩ := hd
          have hkl : k = i ∧ i < len := by
            rcases Nat.lt_or_ge i len with h | h
            · rw [List.getElem?_range h, Option.some.injEq] at hk; exact ⟨hk.symm, h⟩
            · rw [List.getElem?_eq_none (by simpa using h)] at hk; simp at hk
          obtain ⟨rfl, hil⟩ := hkl
          exact ⟨hil, hd⟩
        have hval : ∀ i j d, i < len → (f i)[j]? = some d → ∃ v, cs[off + i * es.length + j]? = some v ∧ Reads w (oldI w) v d := fun i j d hi hd => by
          obtain ⟨b', off', cs', ty', fr', ha', hb', v, hv, hr⟩ := hcell i j d hi hd
          simp only [Addr.mk.injEq] at ha'
          obtain ⟨rfl, rfl, _⟩ := ha'
          rw [hb] at hb'
          simp only [Option.some.injEq, Obj.cells.injEq] at hb'
          exact ⟨v, by rw [hb'.1]; exact hv, hr⟩
        have hlen : ((List.range len).map f).length = len := by simp
        refine one (d := .sl ((List.range len).map f)) ⟨by rw [hlen]; unfold maxLen at hcap; omega, fun y hy => ?_⟩ ?_
        · simp only [List.mem_map, List.mem_range] at hy
          obtain ⟨i, hi, rfl⟩ := hy
          exact (hf i hi).1
        · have := Reads.sl (w := w) (I := oldI w) (b := b) (off := off) (cap := cap) (s := es.length) (cs := cs) (t := ty) (fr := fr) ((List.range len).map f) (fun i j => (cs[off + i * es.length + j]?).getD undef) hlt hb (fun y hy => by
            simp only [List.mem_map, List.mem_range] at hy
            obtain ⟨i, hi, rfl⟩ := hy
            exact DOKL_length (hf i hi).1) (by rw [hlen]; exact hl) (fun i j d hd => by
              obtain ⟨hi, hd'⟩ := hat i j d hd
              obtain ⟨v, hv, _⟩ := hval i j d hi hd'
              rw [hv]; rfl) (fun i j d hd => by
              obtain ⟨hi, hd'⟩ := hat i j d hd
              obtain ⟨v, hv, hr⟩ := hval i j d hi hd'
              rw [hv]; exact hr)
          rw [hlen] at this; exact this
      · rename_i fs ht
        split at hs
        case h_2 => simp at hs
        rename_i ss' hss
        split at hs
        case isFalse => simp at hs
        rename_i hc
        simp only [Option.some.injEq] at hs; subst hs
        simp only [beq_iff_eq] at hc
        obtain ⟨xs, m, hm, _, hl, hxl, hf⟩ := DataW.trod_struct ht h
        simp only [Nat.add_right_cancel_iff] at hm; subst hm
        obtain ⟨ds, g1, g2⟩ := fields_read (fun t ss cs x => ih n t ss cs x) (cs := cs) fs.toList xs 0 ss' hss (by simpa using hxl) (fun i f hi => hf i f (by simpa using hi)) (by omega)
        rw [List.drop_zero, ← hc, ← hl, List.take_length] at g2
        exact ⟨ds, g1, g2⟩
      · rename_i m e ht
        split at hs
        case h_2 => simp at hs
        rename_i es hes
        split at hs
        case isFalse => simp at hs
        rename_i hc
        simp only [Option.some.injEq] at hs; subst hs
        simp only [Bool.and_eq_true, beq_iff_eq] at hc
        obtain ⟨xs, q, hq, _, hl, hxl, hf⟩ := DataW.trod_array ht h
        simp only [Nat.add_right_cancel_iff] at hq; subst hq
        obtain ⟨ds, g1, g2⟩ := array_read (fun cs x => ih n e es cs x hes) (cs := cs) (xs := xs) m 0 (by omega) (fun i hi => by have := hf i (by omega); rwa [hc.1] at this) (by rw [Nat.add_zero, ← hc.2, hl]; exact Nat.le_refl _)
        rw [Nat.zero_mul, List.drop_zero, ← hc.2, ← hl, List.take_length] at g2
        exact ⟨ds, g1, g2⟩
      · simp at hs

def aggT (P : Program) (t : TypeId) : Bool :=
  match P.underlying t with
  | some (.struct _) | some (.array _ _) => true
  | _ => false

/-- A parameter's value. -/
def argOf (b : Bool) (ds : List D) : V := bif b then .e (.agg (ds.map .dat)) else .e (.sc (.dat (ds.headD default)))

/-- A parameter, opened. -/
theorem open_arg {n : Nat} {t : TypeId} {b : Bool} {ss : List Sp} (hs : shapeOf P n t = some ss) (ha : aggT P t = b) (h1 : ss.length = 1 ∨ b = true) {base : Nat} {v : Value} (hok : Value.okWide P w .any base t v) {d : DataW H} {p : List MemPlace} (h : DataW.Trod enc P w 0 spare held t v d p) :
    exDL ss fun ds => RelV w (oldI w) [] v (argOf b ds) := by
  obtain ⟨fuel, hf⟩ := h
  obtain ⟨ds, g1, g2, g3⟩ := shape_reads fuel n t ss _ _ hs hf
  refine exDL_of g1 ?_
  unfold aggT at ha
  have agg : ∀ {cs : Array Value}, v = .agg cs → b = true → RelV w (oldI w) [] v (argOf b ds) := fun {cs} hv hb => by
    subst hv; subst hb
    refine ⟨cs, rfl, by simpa [Value.cells] using g2, fun i u s hu hs => ?_⟩
    simp only [List.getElem?_map, Option.map_eq_some_iff] at hs
    obtain ⟨d, hd, rfl⟩ := hs
    exact g3 i u d (by simpa [Value.cells] using hu) hd
  split at ha
  · rename_i fs ht
    obtain ⟨cs, hv, _⟩ := okWide_struct ht hok
    exact agg hv ha.symm
  · rename_i m e ht
    unfold Value.okWide at hok
    rw [ht] at hok
    obtain ⟨cs, hv, _⟩ := hok
    exact agg hv ha.symm
  · rename_i hn1 hn2
    subst ha
    have hl : ds.length = 1 := by rw [DOKL_length g1]; rcases h1 with h | h; exact h; simp at h
    have hv : v.cells.toList = [v] := by
      cases n with
      | zero => simp [shapeOf] at hs
      | succ n =>
        simp only [shapeOf] at hs
        split at hs
        · rename_i ht; obtain ⟨_, rfl⟩ := okWide_bool ht hok; rfl
        · rename_i ht; obtain ⟨_, rfl⟩ := okWide_int ht hok; rfl
        · rename_i ht; obtain ⟨_, _, _, rfl⟩ := okWide_slice ht hok; rfl
        · rename_i ht; exact (hn1 _ ht).elim
        · rename_i ht; exact (hn2 _ _ ht).elim
        · simp at hs
    match ds, hl with
    | [d], _ => exact g3 0 v d (by rw [hv]; rfl) rfl
end

theorem sim_old (w : World) : SimH (oldI w) [] [] w := SimH.nil fun _ h => h

/-- What is known at the end of a law. -/
theorem law_end {P : Program} {k : FuncId} {args : List V} (hf : FnD P k args (.e (.sc (.dat (.bool true)))) []) {w : World} {vs : List Value} (hr : RelVL w (oldI w) [] vs args) :
    Calls P k vs.toArray w fun e w' => e = .returned (.bool true) ∧ Below w.heap.size w w' := by
  refine (hf.2 (oldI w) [] w vs (sim_old w) hr).mono ?_
  rintro e w' ⟨v, r, h', I', M', he, ⟨rfl, rfl⟩, hrel, _, hext, _, _⟩
  have hv := relV_bool hrel
  subst hv
  refine ⟨he, hext.os, hext.tape, hext.output, hext.size, fun k hk => hext.heap k hk ?_⟩
  rintro ⟨o, ho⟩
  simp [fpAt] at ho

theorem relVL_nil (w : World) (I : Nat → Prop) (M : Mem) : RelVL w I M [] [] := ⟨rfl, fun i v x h => by simp at h⟩

theorem relVL_cons {w : World} {I : Nat → Prop} {M : Mem} {v : Value} {x : V} {vs : List Value} {xs : List V} (h : RelV w I M v x) (t : RelVL w I M vs xs) : RelVL w I M (v :: vs) (x :: xs) :=
  ⟨by simp [t.1], fun i u y hu hy => by
    match i, hu, hy with
    | 0, hu, hy => simp at hu hy; subst hu; subst hy; exact h
    | i + 1, hu, hy => exact t.2 i u y (by simpa using hu) (by simpa using hy)⟩

end Go.AM

/- What the functions of package matrix' reference answer: sums, multiples, products, blocks, picking. -/
namespace Go.AM
open Go.Proofs.Try

theorem om_len {r c : Nat} {g : Nat → Nat → Int} : (om (table r c g)).length = r := by simp [om_length, table]

theorem at2_om {r c : Nat} {g : Nat → Nat → Int} {i j : Nat} (hi : i < r) (hj : j < c) : at2 (om (table r c g)) i j = some (cI (g i j)) := by
  simp [at2, om, table, hi, row, tableR, hj]

theorem sz_le {z : Int} {K : Nat} (h : z.natAbs ≤ K) (hK : K ≤ 1329227995784915872903807060280344576) : Sz z := sz_of (Nat.le_trans h (Nat.le_trans hK (by decide)))

theorem sz_sq {z : Int} {K L : Nat} (h : z.natAbs ≤ K * L) (hK : K ≤ 1329227995784915872903807060280344576) (hL : L ≤ 1329227995784915872903807060280344576) : Sz z :=
  sz_of (Nat.le_trans h (Nat.le_trans (Nat.mul_le_mul hK hL) (by decide)))

theorem m5scale_ok {r c K : Nat} {a : List (List Int)} {k : Int} (ha : Mx r c a) (ka : BdM K a) (hk : k.natAbs ≤ 1329227995784915872903807060280344576) (hr : r ≤ 4294967296) (hc : c ≤ 4294967296) (hK : K ≤ 1329227995784915872903807060280344576) :
    FnD prog 64 [eM r c a, eI k] (eMo r c) (oM (table r c fun i j => el a i j * k)) := by
  refine vc64_ok _ _ _ _ _ (R := OutM r c _) ?_
  unfold vc64
  obtain ⟨f, hf⟩ : ∃ f : Nat → Nat → Int, f = fun i j => el a i j * k := ⟨_, rfl⟩
  refine ⟨_, _, _, rnew_ok hr hc, fun o t => ∃ i : Nat, t = (i : Int) ∧ i ≤ r ∧ o = om (table r c (gF f i 0)), fun _ t => ((r : Int) - t).toNat, ⟨0, rfl, by omega, gF_zero f⟩, ?_⟩
  rintro _ _ ⟨i, rfl, hi, rfl⟩
  refine ⟨fun h => ?_, fun h => outM ?_⟩
  · have hir : i < r := by simpa using h
    refine ⟨fun o t => ∃ j : Nat, t = (j : Int) ∧ j ≤ c ∧ o = om (table r c (gF f i j)), fun _ t => ((c : Int) - t).toNat, ⟨0, rfl, by omega, rfl⟩, ?_⟩
    rintro _ _ ⟨j, rfl, hj, rfl⟩
    refine ⟨fun h2 => ?_, fun h2 => ?_⟩
    · have hjc : j < c := by simpa using h2
      obtain ⟨e1, e2, e3, e4⟩ := read_el ha hir hjc
      have hb := el_bd ha ka hir hjc
      refine ⟨_, _, _, decide (f i j < 0), lim (dz (f i j)), ⟨by omega, by rw [om_len]; omega⟩, ⟨by omega, e4⟩, e1, ⟨by omega, e3⟩, e2, ?_, om_in hir hjc, ?_⟩
      · subst hf; exact rmul_ok (sz_le hb hK) (sz_le hk (Nat.le_refl _))
      rw [inc64 (by omega)]
      refine ⟨⟨j + 1, rfl, by omega, ?_⟩, by show ((c : Int) - ((j + 1 : Nat) : Int)).toNat < ((c : Int) - (j : Int)).toNat; omega⟩
      rw [Int.toNat_natCast, Int.toNat_natCast]
      exact gF_step hir hjc
    · have hjc : c ≤ j := by simpa using h2
      rw [inc64 (by omega)]
      exact ⟨⟨i + 1, rfl, by omega, gF_next fun b h1 h2 => by omega⟩, by show ((r : Int) - ((i + 1 : Nat) : Int)).toNat < ((r : Int) - (i : Int)).toNat; omega⟩
  · have hir : i = r := by have : r ≤ i := by simpa using h
                           omega
    subst hir
    subst hf
    exact gF_all

theorem m5copied_ok {r c K : Nat} {a : List (List Int)} (ha : Mx r c a) (ka : BdM K a) (hr : r ≤ 4294967296) (hc : c ≤ 4294967296) (hK : K ≤ 1329227995784915872903807060280344576) :
    FnD prog 66 [eM r c a] (eMo r c) (oM a) := by
  refine vc66_ok _ _ _ (R := OutM r c _) ?_
  unfold vc66
  refine ⟨_, _, _, _, _, rof_ok 1 (by decide) (by decide), m5scale_ok ha ka (by decide) hr hc hK, outM ?_⟩
  congr 1
  refine Eq.trans (table_congr fun i j _ _ => ?_) (mx_table ha).symm
  rw [Int.mul_one]

/-- The result, with its mistake's number. -/
theorem outME {r c e : Int} {m : List (List Int)} {o : List (List D)} (h : o = rows m) : Out (eME r c m e) (V.tup [(E.agg [S.dat (D.int .i64 r), S.dat (D.int .i64 c), S.dat (D.sl o)]), E.sc (S.dat (D.int .i64 e))]) [] := by subst h; exact ⟨rfl, rfl⟩

theorem m5add_ok {r c K : Nat} {a b : List (List Int)} (ha : Mx r c a) (hb : Mx r c b) (ka : BdM K a) (kb : BdM K b) (hr : r ≤ 4294967296) (hc : c ≤ 4294967296) (hK : K ≤ 1329227995784915872903807060280344576) :
    FnD prog 28 [eM r c a, eM r c b] (eME r c (mcomb r c (· + ·) a b) 0) [] := by
  refine vc28_ok _ _ _ _ _ _ (R := Out _) ?_
  unfold vc28
  obtain ⟨f, hf⟩ : ∃ f : Nat → Nat → Int, f = fun i j => el a i j + el b i j := ⟨_, rfl⟩
  refine ⟨fun h => by simp at h, fun _ => ⟨fun h => by simp at h, fun _ => ?_⟩⟩
  refine ⟨_, _, _, rnew_ok hr hc, fun o t => ∃ i : Nat, t = (i : Int) ∧ i ≤ r ∧ o = om (table r c (gF f i 0)), fun _ t => ((r : Int) - t).toNat, ⟨0, rfl, by omega, gF_zero f⟩, ?_⟩
  rintro _ _ ⟨i, rfl, hi, rfl⟩
  refine ⟨fun h => ?_, fun h => outME ?_⟩
  · have hir : i < r := by simpa using h
    refine ⟨fun o t => ∃ j : Nat, t = (j : Int) ∧ j ≤ c ∧ o = om (table r c (gF f i j)), fun _ t => ((c : Int) - t).toNat, ⟨0, rfl, by omega, rfl⟩, ?_⟩
    rintro _ _ ⟨j, rfl, hj, rfl⟩
    refine ⟨fun h2 => ?_, fun h2 => ?_⟩
    · have hjc : j < c := by simpa using h2
      obtain ⟨e1, e2, e3, e4⟩ := read_el ha hir hjc
      obtain ⟨f1, f2, f3, f4⟩ := read_el hb hir hjc
      refine ⟨_, _, _, _, _, _, decide (f i j < 0), lim (dz (f i j)), ⟨by omega, by rw [om_len]; omega⟩, ⟨by omega, e4⟩, e1, ⟨by omega, e3⟩, e2, ⟨by omega, f4⟩, f1, ⟨by omega, f3⟩, f2, ?_, om_in hir hjc, ?_⟩
      · subst hf; exact radd_ok (sz_le (el_bd ha ka hir hjc) hK) (sz_le (el_bd hb kb hir hjc) hK)
      rw [inc64 (by omega)]
      refine ⟨⟨j + 1, rfl, by omega, ?_⟩, by show ((c : Int) - ((j + 1 : Nat) : Int)).toNat < ((c : Int) - (j : Int)).toNat; omega⟩
      rw [Int.toNat_natCast, Int.toNat_natCast]
      exact gF_step hir hjc
    · have hjc : c ≤ j := by simpa using h2
      rw [inc64 (by omega)]
      exact ⟨⟨i + 1, rfl, by omega, gF_next fun b h1 h2 => by omega⟩, by show ((r : Int) - ((i + 1 : Nat) : Int)).toNat < ((r : Int) - (i : Int)).toNat; omega⟩
  · have hir : i = r := by have : r ≤ i := by simpa using h
                           omega
    subst hir
    rw [gF_all, matD_om]
    subst hf; rfl

theorem m5add_bad {r c r' c' : Int} {a b : List (List Int)} (h : r ≠ r' ∨ c ≠ c') : FnD prog 28 [eM r c a, eM r' c' b] (eME 0 0 [] 50) [] := by
  refine vc28_ok _ _ _ _ _ _ (R := Out _) ?_
  unfold vc28
  refine ⟨fun _ => ⟨rfl, rfl⟩, fun h1 => ⟨fun _ => ⟨rfl, rfl⟩, fun h2 => ?_⟩⟩
  have h1 : r = r' := by simpa using h1
  have h2 : c = c' := by simpa using h2
  rcases h with h | h
  · exact absurd h1 h
  · exact absurd h2 h

theorem m5sub_ok {r c K : Nat} {a b : List (List Int)} (ha : Mx r c a) (hb : Mx r c b) (ka : BdM K a) (kb : BdM K b) (hr : r ≤ 4294967296) (hc : c ≤ 4294967296) (hK : K ≤ 1329227995784915872903807060280344576) :
    FnD prog 58 [eM r c a, eM r c b] (eME r c (mcomb r c (· - ·) a b) 0) [] := by
  refine vc58_ok _ _ _ _ _ _ (R := Out _) ?_
  unfold vc58
  have hn : BdM K (table r c fun i j => el b i j * -1) := table_bd fun i j hi hj => by have := el_bd hb kb hi hj; omega
  refine ⟨_, _, _, _, _, _, _, _, _, rof_ok (-1) (by decide) (by decide), FnD.frz (m5scale_ok hb kb (by decide) hr hc hK), m5add_ok ha (table_mx _ _ _) ka hn hr hc hK, outME ?_⟩
  congr 1
  refine table_congr fun i j hi hj => ?_
  rw [el_table hi hj]
  show el a i j + el b i j * -1 = el a i j - el b i j
  omega

theorem m5sub_bad {r c r' c' : Nat} {K : Nat} {a b : List (List Int)} (hb : Mx r' c' b) (kb : BdM K b) (hr : r' ≤ 4294967296) (hc : c' ≤ 4294967296) (hK : K ≤ 1329227995784915872903807060280344576) (h : r ≠ r' ∨ c ≠ c') : FnD prog 58 [eM r c a, eM r' c' b] (eME 0 0 [] 50) [] := by
  refine vc58_ok _ _ _ _ _ _ (R := Out _) ?_
  unfold vc58
  exact ⟨_, _, _, _, _, _, _, _, _, rof_ok (-1) (by decide) (by decide), FnD.frz (m5scale_ok hb kb (by decide) hr hc hK), m5add_bad (by omega), rfl, rfl⟩

theorem m5mul_bad {r n n' c : Int} {a b : List (List Int)} (h : n ≠ n') : FnD prog 59 [eM r n a, eM n' c b] (eME 0 0 [] 50) [] := by
  refine vc59_ok _ _ _ _ _ _ (R := Out _) ?_
  unfold vc59
  exact ⟨fun _ => ⟨rfl, rfl⟩, fun h2 => absurd (by simpa using h2) h⟩

/-- One element under way. -/
def gM (f _g : Nat → Nat → Int) (i j : Nat) (v : Int) : Nat → Nat → Int := fun a b => if a = i ∧ b = j then v else gF f i j a b

theorem gM_start {r c : Nat} {f : Nat → Nat → Int} {i j : Nat} : om (table r c (gF f i j)) = om (table r c (gM f f i j 0)) := by
  congr 1
  refine table_congr fun a b _ _ => ?_
  unfold gM
  by_cases h : a = i ∧ b = j
  · rw [if_pos h]; unfold gF; rw [if_neg (by omega)]
  · rw [if_neg h]

theorem gM_step {r c : Nat} {f : Nat → Nat → Int} {i j : Nat} {v w : Int} (hi : i < r) (hj : j < c) : (om (table r c (gM f f i j v))).modify i (fun q => q.set j (cI w)) = om (table r c (gM f f i j w)) := by
  refine Eq.trans (om_set hi hj) ?_
  congr 1
  refine table_congr fun a b _ _ => ?_
  unfold gM
  by_cases h : a = i ∧ b = j
  · rw [if_pos h, if_pos h]
  · rw [if_neg h, if_neg h, if_neg h]

theorem gM_end {r c : Nat} {f : Nat → Nat → Int} {i j : Nat} : om (table r c (gM f f i j (f i j))) = om (table r c (gF f i (j + 1))) := by
  congr 1
  refine table_congr fun a b _ _ => ?_
  unfold gM gF
  by_cases h : a = i ∧ b = j
  · rw [if_pos h, if_pos (by omega), h.1, h.2]
  · rw [if_neg h]
    by_cases h2 : a < i ∨ (a = i ∧ b < j)
    · rw [if_pos h2, if_pos (by omega)]
    · rw [if_neg h2, if_neg (by omega)]

theorem m5mul_ok {r n c K : Nat} {a b : List (List Int)} (ha : Mx r n a) (hb : Mx n c b) (ka : BdM K a) (kb : BdM K b) (hr : r ≤ 4294967296) (hn : n ≤ 4294967296) (hc : c ≤ 4294967296) (hK : K ≤ 1329227995784915872903807060280344576) :
    FnD prog 59 [eM r n a, eM n c b] (eME r c (mmul r n c a b) 0) [] := by
  refine vc59_ok _ _ _ _ _ _ (R := Out _) ?_
  unfold vc59
  obtain ⟨p, hp⟩ : ∃ p : Nat → Nat → Nat → Int, p = fun i j k => dsum (fun k => el a i k) (fun k => el b k j) k := ⟨_, rfl⟩
  obtain ⟨f, hf⟩ : ∃ f : Nat → Nat → Int, f = fun i j => p i j n := ⟨_, rfl⟩
  have hKK : K * K ≤ 1329227995784915872903807060280344576 * 1329227995784915872903807060280344576 := Nat.mul_le_mul hK hK
  refine ⟨fun h => by simp at h, fun _ => ?_⟩
  refine ⟨_, _, _, rnew_ok hr hc, fun o t => ∃ i : Nat, t = (i : Int) ∧ i ≤ r ∧ o = om (table r c (gF f i 0)), fun _ t => ((r : Int) - t).toNat, ⟨0, rfl, by omega, gF_zero f⟩, ?_⟩
  rintro _ _ ⟨i, rfl, hi, rfl⟩
  refine ⟨fun h => ?_, fun h => outME ?_⟩
  · have hir : i < r := by simpa using h
    refine ⟨fun o t => ∃ j : Nat, t = (j : Int) ∧ j ≤ c ∧ o = om (table r c (gF f i j)), fun _ t => ((c : Int) - t).toNat, ⟨0, rfl, by omega, rfl⟩, ?_⟩
    rintro _ _ ⟨j, rfl, hj, rfl⟩
    refine ⟨fun h2 => ?_, fun h2 => ?_⟩
    · have hjc : j < c := by simpa using h2
      refine ⟨fun o t => ∃ k : Nat, t = (k : Int) ∧ k ≤ n ∧ o = om (table r c (gM f f i j (p i j k))), fun _ t => ((n : Int) - t).toNat, ⟨0, rfl, by omega, ?_⟩, ?_⟩
      · rw [gM_start]; subst hp; rfl
      rintro _ _ ⟨k, rfl, hk, rfl⟩
      refine ⟨fun h3 => ?_, fun h3 => ?_⟩
      · have hkn : k < n := by simpa using h3
        obtain ⟨e1, e2, e3, e4⟩ := read_el ha hir hkn
        obtain ⟨f1, f2, f3, f4⟩ := read_el hb hkn hjc
        have hx := el_bd ha ka hir hkn
        have hy := el_bd hb kb hkn hjc
        have hxy := mul_natAbs_le hx hy
        have hs : (p i j k).natAbs ≤ 4294967296 * (1329227995784915872903807060280344576 * 1329227995784915872903807060280344576) := by
          subst hp
          exact Nat.le_trans (dsum_le (K := K) (L := K) k (fun l hl => el_bd ha ka hir (by omega)) fun l hl => el_bd hb kb (by omega) hjc) (Nat.mul_le_mul (by omega) hKK)
        refine ⟨decide (p i j k < 0), lim (dz (p i j k)), _, _, _, _, _, _, _, _, decide (p i j (k + 1) < 0), lim (dz (p i j (k + 1))), ⟨by omega, by rw [om_len]; omega⟩, om_in hir hjc, ?_, ⟨by omega, e4⟩, e1, ⟨by omega, e3⟩, e2, ⟨by omega, f4⟩, f1, ⟨by omega, f3⟩, f2, rmul_ok (sz_le hx hK) (sz_le hy hK), ?_, ?_⟩
        · rw [Int.toNat_natCast, Int.toNat_natCast, at2_om hir hjc]
          unfold gM; rw [if_pos ⟨rfl, rfl⟩]; rfl
        · have := radd_ok (x := p i j k) (y := el a i k * el b k j) (sz_of (Nat.le_trans hs (by decide))) (sz_sq hxy hK hK)
          have e : p i j (k + 1) = p i j k + el a i k * el b k j := by subst hp; rfl
          rw [e]; exact this
        · rw [inc64 (by omega)]
          refine ⟨⟨k + 1, rfl, by omega, ?_⟩, by show ((n : Int) - ((k + 1 : Nat) : Int)).toNat < ((n : Int) - (k : Int)).toNat; omega⟩
          rw [Int.toNat_natCast, Int.toNat_natCast]
          exact gM_step hir hjc
      · have hkn : k = n := by have : n ≤ k := by simpa using h3
                               omega
        subst hkn
        rw [inc64 (by omega)]
        refine ⟨⟨j + 1, rfl, by omega, ?_⟩, by show ((c : Int) - ((j + 1 : Nat) : Int)).toNat < ((c : Int) - (j : Int)).toNat; omega⟩
        have e : p i j k = f i j := by subst hf; rfl
        rw [e]; exact gM_end
    · have hjc : c ≤ j := by simpa using h2
      rw [inc64 (by omega)]
      exact ⟨⟨i + 1, rfl, by omega, gF_next fun b h1 h2 => by omega⟩, by show ((r : Int) - ((i + 1 : Nat) : Int)).toNat < ((r : Int) - (i : Int)).toNat; omega⟩
  · have hir : i = r := by have : r ≤ i := by simpa using h
                           omega
    subst hir
    rw [gF_all, matD_om]
    subst hf; subst hp; rfl

theorem m5prod_ok {r n c K : Nat} {a b : List (List Int)} (ha : Mx r n a) (hb : Mx n c b) (ka : BdM K a) (kb : BdM K b) (hr : r ≤ 4294967296) (hn : n ≤ 4294967296) (hc : c ≤ 4294967296) (hK : K ≤ 1329227995784915872903807060280344576) :
    FnD prog 27 [eM r n a, eM n c b] (eM r c (mmul r n c a b)) [] := by
  refine vc27_ok _ _ _ _ _ _ (R := Out _) ?_
  unfold vc27
  exact ⟨_, _, _, _, m5mul_ok ha hb ka kb hr hn hc hK, rfl, rfl⟩

end Go.AM

/- What functions of the program come to: group San. Printed by vc.py. -/
set_option maxRecDepth 100000
set_option linter.unusedVariables false

namespace Go.AM
open Go.Proofs.Try

/- f14 torsion/torsionlaw05.sanity -/
def vc14  (R : V → Heap → Prop) : Prop :=
  ∃ (r0 : Int) (r1 : Int) (rrows : List (List (List D))),
  (FnD prog 70 [(vD (dI (2 : Int))), (vD (dI (2 : Int))), (vD (dL [[(dI (1 : Int))], [(dI (2 : Int))], [(dI (3 : Int))], [(dI (4 : Int))]]))] (vA [(sD (dI r0)), (sD (dI r1)), (S.ref 0)]) [(some (Obj.mat 2 rrows))]) ∧
  (∃ (r01 : Int) (r11 : Int) (rrows1 : List (List (List D))),
  (FnD prog 70 [(vD (dI (1 : Int))), (vD (dI (2 : Int))), (vD (dL [[(dI (1 : Int))], [(dI (2 : Int))]]))] (vA [(sD (dI r01)), (sD (dI r11)), (S.ref 0)]) [(some (Obj.mat 2 rrows1))]) ∧
  (∃ (r02 : Int) (r12 : Int) (r2 : List (List D)) (r03 : Int) (r13 : Int) (r21 : List (List D)) (r : Int),
  (FnD prog 70 [(vD (dI (2 : Int))), (vD (dI (2 : Int))), (vD (dL [[(dI (0 : Int))], [(dI (1 : Int))], [(dI (1 : Int))], [(dI (0 : Int))]]))] (vA [(sD (dI r02)), (sD (dI r12)), (sD (dL r2))]) []) ∧
  (FnD prog 20 [(vA [(sD (dI r0)), (sD (dI r1)), (sD (dL (matD rrows)))]), (vA [(sD (dI r02)), (sD (dI r12)), (sD (dL r2))])] (V.tup [(E.agg [(sD (dI r03)), (sD (dI r13)), (sD (dL r21))]), (eD (dI r))]) []) ∧
  (∃ (r04 : Bool) (r14 : List (List D)) (r05 : Bool) (r15 : List (List D)) (r3 : List (List D)) (r4 : Int),
  (FnD prog 16 [(vD (dI (1 : Int)))] (vA [(sD (dB r04)), (sD (dL r14))]) []) ∧
  (FnD prog 16 [(vD (dI (-1 : Int)))] (vA [(sD (dB r05)), (sD (dL r15))]) []) ∧
  (FnD prog 35 [(vD (dL [[(dB r04), (dL r14)], [(dB r05), (dL r15)]])), (vA [(sD (dI r0)), (sD (dI r1)), (sD (dL (matD rrows)))])] (V.tup [(eD (dL r3)), (eD (dI r4))]) []) ∧
  (∃ (r06 : Int) (r16 : Int) (r22 : List (List D)) (r07 : Int) (r17 : Int) (r23 : List (List D)) (r5 : Int),
  (FnD prog 70 [(vD (dI (1 : Int))), (vD (dI (2 : Int))), (vD (dL [[(dI (3 : Int))], [(dI (4 : Int))]]))] (vA [(sD (dI r06)), (sD (dI r16)), (sD (dL r22))]) []) ∧
  (FnD prog 25 [(vA [(sD (dI r01)), (sD (dI r11)), (sD (dL (matD rrows1)))]), (vA [(sD (dI r06)), (sD (dI r16)), (sD (dL r22))])] (V.tup [(E.agg [(sD (dI r07)), (sD (dI r17)), (sD (dL r23))]), (eD (dI r5))]) []) ∧
  (∃ (r08 : Int) (r18 : Int) (r24 : List (List D)) (r09 : Int) (r19 : Int) (r25 : List (List D)) (r010 : Int) (r110 : Int) (r26 : List (List D)) (r6 : Int),
  (FnD prog 70 [(vD (dI (2 : Int))), (vD (dI (1 : Int))), (vD (dL [[(dI (1 : Int))], [(dI (2 : Int))]]))] (vA [(sD (dI r08)), (sD (dI r18)), (sD (dL r24))]) []) ∧
  (FnD prog 70 [(vD (dI (2 : Int))), (vD (dI (1 : Int))), (vD (dL [[(dI (3 : Int))], [(dI (4 : Int))]]))] (vA [(sD (dI r09)), (sD (dI r19)), (sD (dL r25))]) []) ∧
  (FnD prog 26 [(vA [(sD (dI r08)), (sD (dI r18)), (sD (dL r24))]), (vA [(sD (dI r09)), (sD (dI r19)), (sD (dL r25))])] (V.tup [(E.agg [(sD (dI r010)), (sD (dI r110)), (sD (dL r26))]), (eD (dI r6))]) []) ∧
  (∃ (r011 : Int) (r111 : Int) (r27 : List (List D)) (r012 : Int) (r112 : Int) (r28 : List (List D)) (r7 : Int),
  (FnD prog 70 [(vD (dI (2 : Int))), (vD (dI (3 : Int))), (vD (dL [[(dI (1 : Int))], [(dI (2 : Int))], [(dI (3 : Int))], [(dI (4 : Int))], [(dI (5 : Int))], [(dI (6 : Int))]]))] (vA [(sD (dI r011)), (sD (dI r111)), (sD (dL r27))]) []) ∧
  (FnD prog 30 [(vA [(sD (dI r011)), (sD (dI r111)), (sD (dL r27))]), (vD (dL [[(dI (1 : Int))], [(dI (1 : Int))]])), (vD (dL [[(dI (2 : Int))], [(dI (0 : Int))]]))] (V.tup [(E.agg [(sD (dI r012)), (sD (dI r112)), (sD (dL r28))]), (eD (dI r7))]) []) ∧
  (∃ (r013 : Int) (r113 : Int) (r29 : List (List D)) (r014 : Int) (r114 : Int) (r210 : List (List D)) (r015 : Int) (r115 : Int) (r211 : List (List D)) (r8 : Int),
  (FnD prog 33 [(vD (dI (2 : Int))), (vD (dI (0 : Int)))] (vA [(sD (dI r013)), (sD (dI r113)), (sD (dL r29))]) []) ∧
  (FnD prog 33 [(vD (dI (0 : Int))), (vD (dI (3 : Int)))] (vA [(sD (dI r014)), (sD (dI r114)), (sD (dL r210))]) []) ∧
  (FnD prog 20 [(vA [(sD (dI r013)), (sD (dI r113)), (sD (dL r29))]), (vA [(sD (dI r014)), (sD (dI r114)), (sD (dL r210))])] (V.tup [(E.agg [(sD (dI r015)), (sD (dI r115)), (sD (dL r211))]), (eD (dI r8))]) []) ∧
  (∃ (r016 : Int) (r116 : Int) (r212 : List (List D)) (r9 : Int),
  (FnD prog 20 [(vA [(sD (dI r01)), (sD (dI r11)), (sD (dL (matD rrows1)))]), (vA [(sD (dI r01)), (sD (dI r11)), (sD (dL (matD rrows1)))])] (V.tup [(E.agg [(sD (dI r016)), (sD (dI r116)), (sD (dL r212))]), (eD (dI r9))]) []) ∧
  (∃ (r017 : Int) (r117 : Int) (r213 : List (List D)) (r10 : Int),
  (FnD prog 30 [(vA [(sD (dI r0)), (sD (dI r1)), (sD (dL (matD rrows)))]), (vD (dL [[(dI (2 : Int))]])), (vD (dL ([] : List (List D))))] (V.tup [(E.agg [(sD (dI r017)), (sD (dI r117)), (sD (dL r213))]), (eD (dI r10))]) []) ∧
  (∃ (r018 : Bool) (r118 : List (List D)) (r019 : Bool) (r119 : List (List D)) (r20 : Int),
  (FnD prog 16 [(vD (dI (1 : Int)))] (vA [(sD (dB r018)), (sD (dL r118))]) []) ∧
  (FnD prog 38 [(vD (dL [[(dB r018), (dL r118)]])), (vD (dL ([] : List (List D))))] (V.tup [(E.agg [(sD (dB r019)), (sD (dL r119))]), (eD (dI r20))]) []) ∧
  (((r == (0 : Int)) = true →
    ∃ (r020 : Int) (r120 : Int) (r214 : List (List D)) (r30 : Bool),
    (FnD prog 70 [(vD (dI (2 : Int))), (vD (dI (2 : Int))), (vD (dL [[(dI (2 : Int))], [(dI (1 : Int))], [(dI (4 : Int))], [(dI (3 : Int))]]))] (vA [(sD (dI r020)), (sD (dI r120)), (sD (dL r214))]) []) ∧
    (FnD prog 23 [(vA [(sD (dI r03)), (sD (dI r13)), (sD (dL r21))]), (vA [(sD (dI r020)), (sD (dI r120)), (sD (dL r214))])] (vD (dB r30)) []) ∧
    ((r30 = true →
      ((r4 == (0 : Int)) = true →
        ∃ (r021 : Bool) (r121 : List (List D)) (r022 : Bool) (r122 : List (List D)) (r31 : Bool),
        (FnD prog 16 [(vD (dI (-2 : Int)))] (vA [(sD (dB r021)), (sD (dL r121))]) []) ∧
        (FnD prog 16 [(vD (dI (-2 : Int)))] (vA [(sD (dB r022)), (sD (dL r122))]) []) ∧
        (FnD prog 37 [(vD (dL r3)), (vD (dL [[(dB r021), (dL r121)], [(dB r022), (dL r122)]]))] (vD (dB r31)) []) ∧
        ((r31 = true →
          ((r8 == (0 : Int)) = true →
            ∃ (r023 : Int) (r123 : Int) (r215 : List (List D)) (r32 : Bool),
            (FnD prog 33 [(vD (dI (2 : Int))), (vD (dI (3 : Int)))] (vA [(sD (dI r023)), (sD (dI r123)), (sD (dL r215))]) []) ∧
            (FnD prog 23 [(vA [(sD (dI r015)), (sD (dI r115)), (sD (dL r211))]), (vA [(sD (dI r023)), (sD (dI r123)), (sD (dL r215))])] (vD (dB r32)) []) ∧
            (((r5 == (0 : Int)) = true →
              ∃ (r33 : Bool),
              (FnD prog 23 [(vA [(sD (dI r07)), (sD (dI r17)), (sD (dL r23))]), (vA [(sD (dI r0)), (sD (dI r1)), (sD (dL (matD rrows)))])] (vD (dB r33)) []) ∧
              ((r33 = true →
                ((r6 == (0 : Int)) = true →
                  ∃ (r024 : Int) (r124 : Int) (r216 : List (List D)) (r34 : Bool),
                  (FnD prog 70 [(vD (dI (2 : Int))), (vD (dI (2 : Int))), (vD (dL [[(dI (1 : Int))], [(dI (3 : Int))], [(dI (2 : Int))], [(dI (4 : Int))]]))] (vA [(sD (dI r024)), (sD (dI r124)), (sD (dL r216))]) []) ∧
                  (FnD prog 23 [(vA [(sD (dI r010)), (sD (dI r110)), (sD (dL r26))]), (vA [(sD (dI r024)), (sD (dI r124)), (sD (dL r216))])] (vD (dB r34)) []) ∧
                  ((r34 = true →
                    ((r7 == (0 : Int)) = true →
                      ∃ (r025 : Int) (r125 : Int) (r217 : List (List D)) (r35 : Bool),
                      (FnD prog 70 [(vD (dI (2 : Int))), (vD (dI (2 : Int))), (vD (dL [[(dI (6 : Int))], [(dI (4 : Int))], [(dI (6 : Int))], [(dI (4 : Int))]]))] (vA [(sD (dI r025)), (sD (dI r125)), (sD (dL r217))]) []) ∧
                      (FnD prog 23 [(vA [(sD (dI r012)), (sD (dI r112)), (sD (dL r28))]), (vA [(sD (dI r025)), (sD (dI r125)), (sD (dL r217))])] (vD (dB r35)) []) ∧
                      ((r32 = true →
                        (r35 = true →
                          ((r9 == (50 : Int)) = true →
                            ((r10 == (1 : Int)) = true →
                              ((r20 == (50 : Int)) = true →
                                ∃ (r026 : Int) (r126 : Int) (r218 : List (List D)) (r027 : Int) (r127 : Int) (r219 : List (List D)) (r36 : Bool),
                                (FnD prog 56 [(vD (dI (2 : Int)))] (vA [(sD (dI r026)), (sD (dI r126)), (sD (dL r218))]) []) ∧
                                (FnD prog 49 [(vD (dI (2 : Int)))] (vA [(sD (dI r027)), (sD (dI r127)), (sD (dL r219))]) []) ∧
                                (FnD prog 23 [(vA [(sD (dI r026)), (sD (dI r126)), (sD (dL r218))]), (vA [(sD (dI r027)), (sD (dI r127)), (sD (dL r219))])] (vD (dB r36)) []) ∧
                                ((r36 = true →
                                  ∃ (r37 : Bool),
                                  (FnD prog 17 [(vA [(sD (dI r0)), (sD (dI r1)), (sD (dL (matD rrows)))])] (vD (dB r37)) []) ∧
                                  ((r37 = true →
                                    ∃ (r38 : Bool),
                                    (FnD prog 17 [(vA [(sD (dI (1 : Int))), (sD (dI (0 : Int))), (sD (dL ([] : List (List D))))])] (vD (dB r38)) []) ∧
                                    (((!r38) = true →
                                      ∃ (r39 : Bool),
                                      (FnD prog 41 [(vD (dL ([] : List (List D))))] (vD (dB r39)) []) ∧
                                      ((r39 = true →
                                        ∃ (vx : List (List D)) (r40 : Bool),
                                        (0 ≤ (0 : Int) ∧ (0 : Int) < ((matD rrows1).length : Int)) ∧
                                        ((matD rrows1)[0]? = some [(dL vx)]) ∧
                                        (FnD prog 41 [(vD (dL vx))] (vD (dB r40)) []) ∧
                                        (R (vD (dB (!r40))) [])) ∧
                                      (r39 = false →
                                        R (vD (dB false)) []))) ∧
                                    ((!r38) = false →
                                      R (vD (dB false)) []))) ∧
                                  (r37 = false →
                                    R (vD (dB false)) []))) ∧
                                (r36 = false →
                                  R (vD (dB false)) []))) ∧
                              ((r20 == (50 : Int)) = false →
                                R (vD (dB false)) [])) ∧
                            ((r10 == (1 : Int)) = false →
                              R (vD (dB false)) [])) ∧
                          ((r9 == (50 : Int)) = false →
                            R (vD (dB false)) [])) ∧
                        (r35 = false →
                          R (vD (dB false)) [])) ∧
                      (r32 = false →
                        R (vD (dB false)) []))) ∧
                    ((r7 == (0 : Int)) = false →
                      (r32 = true →
                        R (vD (dB false)) []) ∧
                      (r32 = false →
                        R (vD (dB false)) []))) ∧
                  (r34 = false →
                    (r32 = true →
                      R (vD (dB false)) []) ∧
                    (r32 = false →
                      R (vD (dB false)) [])))) ∧
                ((r6 == (0 : Int)) = false →
                  (r32 = true →
                    R (vD (dB false)) []) ∧
                  (r32 = false →
                    R (vD (dB false)) []))) ∧
              (r33 = false →
                (r32 = true →
                  R (vD (dB false)) []) ∧
                (r32 = false →
                  R (vD (dB false)) [])))) ∧
            ((r5 == (0 : Int)) = false →
              (r32 = true →
                R (vD (dB false)) []) ∧
              (r32 = false →
                R (vD (dB false)) [])))) ∧
          ((r8 == (0 : Int)) = false →
            ((r5 == (0 : Int)) = true →
              ∃ (r41 : Bool),
              (FnD prog 23 [(vA [(sD (dI r07)), (sD (dI r17)), (sD (dL r23))]), (vA [(sD (dI r0)), (sD (dI r1)), (sD (dL (matD rrows)))])] (vD (dB r41)) []) ∧
              ((r41 = true →
                ((r6 == (0 : Int)) = true →
                  ∃ (r028 : Int) (r128 : Int) (r220 : List (List D)) (r42 : Bool),
                  (FnD prog 70 [(vD (dI (2 : Int))), (vD (dI (2 : Int))), (vD (dL [[(dI (1 : Int))], [(dI (3 : Int))], [(dI (2 : Int))], [(dI (4 : Int))]]))] (vA [(sD (dI r028)), (sD (dI r128)), (sD (dL r220))]) []) ∧
                  (FnD prog 23 [(vA [(sD (dI r010)), (sD (dI r110)), (sD (dL r26))]), (vA [(sD (dI r028)), (sD (dI r128)), (sD (dL r220))])] (vD (dB r42)) []) ∧
                  ((r42 = true →
                    ((r7 == (0 : Int)) = true →
                      ∃ (r029 : Int) (r129 : Int) (r221 : List (List D)) (r43 : Bool),
                      (FnD prog 70 [(vD (dI (2 : Int))), (vD (dI (2 : Int))), (vD (dL [[(dI (6 : Int))], [(dI (4 : Int))], [(dI (6 : Int))], [(dI (4 : Int))]]))] (vA [(sD (dI r029)), (sD (dI r129)), (sD (dL r221))]) []) ∧
                      (FnD prog 23 [(vA [(sD (dI r012)), (sD (dI r112)), (sD (dL r28))]), (vA [(sD (dI r029)), (sD (dI r129)), (sD (dL r221))])] (vD (dB r43)) []) ∧
                      (R (vD (dB false)) [])) ∧
                    ((r7 == (0 : Int)) = false →
                      R (vD (dB false)) [])) ∧
                  (r42 = false →
                    R (vD (dB false)) []))) ∧
                ((r6 == (0 : Int)) = false →
                  R (vD (dB false)) [])) ∧
              (r41 = false →
                R (vD (dB false)) []))) ∧
            ((r5 == (0 : Int)) = false →
              R (vD (dB false)) []))) ∧
        (r31 = false →
          ((r5 == (0 : Int)) = true →
            ∃ (r44 : Bool),
            (FnD prog 23 [(vA [(sD (dI r07)), (sD (dI r17)), (sD (dL r23))]), (vA [(sD (dI r0)), (sD (dI r1)), (sD (dL (matD rrows)))])] (vD (dB r44)) []) ∧
            ((r44 = true →
              ((r6 == (0 : Int)) = true →
                ∃ (r030 : Int) (r130 : Int) (r222 : List (List D)) (r45 : Bool),
                (FnD prog 70 [(vD (dI (2 : Int))), (vD (dI (2 : Int))), (vD (dL [[(dI (1 : Int))], [(dI (3 : Int))], [(dI (2 : Int))], [(dI (4 : Int))]]))] (vA [(sD (dI r030)), (sD (dI r130)), (sD (dL r222))]) []) ∧
                (FnD prog 23 [(vA [(sD (dI r010)), (sD (dI r110)), (sD (dL r26))]), (vA [(sD (dI r030)), (sD (dI r130)), (sD (dL r222))])] (vD (dB r45)) []) ∧
                ((r45 = true →
                  ((r7 == (0 : Int)) = true →
                    ∃ (r031 : Int) (r131 : Int) (r223 : List (List D)) (r46 : Bool),
                    (FnD prog 70 [(vD (dI (2 : Int))), (vD (dI (2 : Int))), (vD (dL [[(dI (6 : Int))], [(dI (4 : Int))], [(dI (6 : Int))], [(dI (4 : Int))]]))] (vA [(sD (dI r031)), (sD (dI r131)), (sD (dL r223))]) []) ∧
                    (FnD prog 23 [(vA [(sD (dI r012)), (sD (dI r112)), (sD (dL r28))]), (vA [(sD (dI r031)), (sD (dI r131)), (sD (dL r223))])] (vD (dB r46)) []) ∧
                    (R (vD (dB false)) [])) ∧
                  ((r7 == (0 : Int)) = false →
                    R (vD (dB false)) [])) ∧
                (r45 = false →
                  R (vD (dB false)) []))) ∧
              ((r6 == (0 : Int)) = false →
                R (vD (dB false)) [])) ∧
            (r44 = false →
              R (vD (dB false)) []))) ∧
          ((r5 == (0 : Int)) = false →
            R (vD (dB false)) [])))) ∧
      ((r4 == (0 : Int)) = false →
        ((r5 == (0 : Int)) = true →
          ∃ (r47 : Bool),
          (FnD prog 23 [(vA [(sD (dI r07)), (sD (dI r17)), (sD (dL r23))]), (vA [(sD (dI r0)), (sD (dI r1)), (sD (dL (matD rrows)))])] (vD (dB r47)) []) ∧
          ((r47 = true →
            ((r6 == (0 : Int)) = true →
              ∃ (r032 : Int) (r132 : Int) (r224 : List (List D)) (r48 : Bool),
              (FnD prog 70 [(vD (dI (2 : Int))), (vD (dI (2 : Int))), (vD (dL [[(dI (1 : Int))], [(dI (3 : Int))], [(dI (2 : Int))], [(dI (4 : Int))]]))] (vA [(sD (dI r032)), (sD (dI r132)), (sD (dL r224))]) []) ∧
              (FnD prog 23 [(vA [(sD (dI r010)), (sD (dI r110)), (sD (dL r26))]), (vA [(sD (dI r032)), (sD (dI r132)), (sD (dL r224))])] (vD (dB r48)) []) ∧
              ((r48 = true →
                ((r7 == (0 : Int)) = true →
                  ∃ (r033 : Int) (r133 : Int) (r225 : List (List D)) (r49 : Bool),
                  (FnD prog 70 [(vD (dI (2 : Int))), (vD (dI (2 : Int))), (vD (dL [[(dI (6 : Int))], [(dI (4 : Int))], [(dI (6 : Int))], [(dI (4 : Int))]]))] (vA [(sD (dI r033)), (sD (dI r133)), (sD (dL r225))]) []) ∧
                  (FnD prog 23 [(vA [(sD (dI r012)), (sD (dI r112)), (sD (dL r28))]), (vA [(sD (dI r033)), (sD (dI r133)), (sD (dL r225))])] (vD (dB r49)) []) ∧
                  (R (vD (dB false)) [])) ∧
                ((r7 == (0 : Int)) = false →
                  R (vD (dB false)) [])) ∧
              (r48 = false →
                R (vD (dB false)) []))) ∧
            ((r6 == (0 : Int)) = false →
              R (vD (dB false)) [])) ∧
          (r47 = false →
            R (vD (dB false)) []))) ∧
        ((r5 == (0 : Int)) = false →
          R (vD (dB false)) []))) ∧
    (r30 = false →
      ((r5 == (0 : Int)) = true →
        ∃ (r50 : Bool),
        (FnD prog 23 [(vA [(sD (dI r07)), (sD (dI r17)), (sD (dL r23))]), (vA [(sD (dI r0)), (sD (dI r1)), (sD (dL (matD rrows)))])] (vD (dB r50)) []) ∧
        ((r50 = true →
          ((r6 == (0 : Int)) = true →
            ∃ (r034 : Int) (r134 : Int) (r226 : List (List D)) (r51 : Bool),
            (FnD prog 70 [(vD (dI (2 : Int))), (vD (dI (2 : Int))), (vD (dL [[(dI (1 : Int))], [(dI (3 : Int))], [(dI (2 : Int))], [(dI (4 : Int))]]))] (vA [(sD (dI r034)), (sD (dI r134)), (sD (dL r226))]) []) ∧
            (FnD prog 23 [(vA [(sD (dI r010)), (sD (dI r110)), (sD (dL r26))]), (vA [(sD (dI r034)), (sD (dI r134)), (sD (dL r226))])] (vD (dB r51)) []) ∧
            ((r51 = true →
              ((r7 == (0 : Int)) = true →
                ∃ (r035 : Int) (r135 : Int) (r227 : List (List D)) (r52 : Bool),
                (FnD prog 70 [(vD (dI (2 : Int))), (vD (dI (2 : Int))), (vD (dL [[(dI (6 : Int))], [(dI (4 : Int))], [(dI (6 : Int))], [(dI (4 : Int))]]))] (vA [(sD (dI r035)), (sD (dI r135)), (sD (dL r227))]) []) ∧
                (FnD prog 23 [(vA [(sD (dI r012)), (sD (dI r112)), (sD (dL r28))]), (vA [(sD (dI r035)), (sD (dI r135)), (sD (dL r227))])] (vD (dB r52)) []) ∧
                (R (vD (dB false)) [])) ∧
              ((r7 == (0 : Int)) = false →
                R (vD (dB false)) [])) ∧
            (r51 = false →
              R (vD (dB false)) []))) ∧
          ((r6 == (0 : Int)) = false →
            R (vD (dB false)) [])) ∧
        (r50 = false →
          R (vD (dB false)) []))) ∧
      ((r5 == (0 : Int)) = false →
        R (vD (dB false)) [])))) ∧
  ((r == (0 : Int)) = false →
    ((r5 == (0 : Int)) = true →
      ∃ (r53 : Bool),
      (FnD prog 23 [(vA [(sD (dI r07)), (sD (dI r17)), (sD (dL r23))]), (vA [(sD (dI r0)), (sD (dI r1)), (sD (dL (matD rrows)))])] (vD (dB r53)) []) ∧
      ((r53 = true →
        ((r6 == (0 : Int)) = true →
          ∃ (r036 : Int) (r136 : Int) (r228 : List (List D)) (r54 : Bool),
          (FnD prog 70 [(vD (dI (2 : Int))), (vD (dI (2 : Int))), (vD (dL [[(dI (1 : Int))], [(dI (3 : Int))], [(dI (2 : Int))], [(dI (4 : Int))]]))] (vA [(sD (dI r036)), (sD (dI r136)), (sD (dL r228))]) []) ∧
          (FnD prog 23 [(vA [(sD (dI r010)), (sD (dI r110)), (sD (dL r26))]), (vA [(sD (dI r036)), (sD (dI r136)), (sD (dL r228))])] (vD (dB r54)) []) ∧
          ((r54 = true →
            ((r7 == (0 : Int)) = true →
              ∃ (r037 : Int) (r137 : Int) (r229 : List (List D)) (r55 : Bool),
              (FnD prog 70 [(vD (dI (2 : Int))), (vD (dI (2 : Int))), (vD (dL [[(dI (6 : Int))], [(dI (4 : Int))], [(dI (6 : Int))], [(dI (4 : Int))]]))] (vA [(sD (dI r037)), (sD (dI r137)), (sD (dL r229))]) []) ∧
              (FnD prog 23 [(vA [(sD (dI r012)), (sD (dI r112)), (sD (dL r28))]), (vA [(sD (dI r037)), (sD (dI r137)), (sD (dL r229))])] (vD (dB r55)) []) ∧
              (R (vD (dB false)) [])) ∧
            ((r7 == (0 : Int)) = false →
              R (vD (dB false)) [])) ∧
          (r54 = false →
            R (vD (dB false)) []))) ∧
        ((r6 == (0 : Int)) = false →
          R (vD (dB false)) [])) ∧
      (r53 = false →
        R (vD (dB false)) []))) ∧
    ((r5 == (0 : Int)) = false →
      R (vD (dB false)) [])))))))))))))

theorem vc14_ok  {R : V → Heap → Prop} (h : vc14  R) : FnG prog 14 [] [] R :=
  FnG.vcg hT func14 ntmps14 (.r0 [] <| .ex fun r0 => .ex fun r1 => .exm fun rrows => .reg 3 [(0, Or.frz, 0, 1), (1, (Or.call (vA [(sD (dI r0)), (sD (dI r1)), (S.ref 0)]) [(some (Obj.mat 2 rrows))] []), 1, 1), (2, Or.none, 2, 1)] [1] [2, 1] [] <| .ex fun r01 => .ex fun r11 => .exm fun rrows1 => .reg 3 [(0, Or.frz, 2, 1), (1, (Or.call (vA [(sD (dI r01)), (sD (dI r11)), (S.ref 0)]) [(some (Obj.mat 2 rrows1))] []), 3, 1), (2, Or.none, 4, 1)] [1, 2] [0, 4, 1, 3] [] <| .frz [2] <| .ex fun r02 => .ex fun r12 => .exl fun r2 => .ex fun r03 => .ex fun r13 => .exl fun r21 => .ex fun r => .drw 2 [(1, (Or.frz, 4, 1), []), (2, ((Or.call (vA [(sD (dI r02)), (sD (dI r12)), (sD (dL r2))]) [] []), 0, 0), []), (3, ((Or.call (V.tup [(E.agg [(sD (dI r03)), (sD (dI r13)), (sD (dL r21))]), (eD (dI r))]) [] []), 0, 0), []), (7, (Or.none, 5, 1), [5]), (8, (Or.none, 0, 0), [5])] [1, 2, 3, 4] [0, 1, 5, 3] [] <| .exb fun r04 => .exl fun r14 => .exb fun r05 => .exl fun r15 => .exl fun r3 => .ex fun r4 => .drw 1 [(0, ((Or.call (vA [(sD (dB r04)), (sD (dL r14))]) [] []), 0, 0), []), (1, ((Or.call (vA [(sD (dB r05)), (sD (dL r15))]) [] []), 0, 0), []), (2, (Or.frz, 4, 1), []), (4, ((Or.call (V.tup [(eD (dL r3)), (eD (dI r4))]) [] []), 0, 0), [])] [1, 2, 3, 4, 5, 6] [0, 1, 2, 3] [] <| .frz [3] <| .ex fun r06 => .ex fun r16 => .exl fun r22 => .ex fun r07 => .ex fun r17 => .exl fun r23 => .ex fun r5 => .drw 2 [(1, (Or.frz, 4, 1), []), (2, ((Or.call (vA [(sD (dI r06)), (sD (dI r16)), (sD (dL r22))]) [] []), 0, 0), []), (3, ((Or.call (V.tup [(E.agg [(sD (dI r07)), (sD (dI r17)), (sD (dL r23))]), (eD (dI r5))]) [] []), 0, 0), []), (7, (Or.none, 5, 1), [5]), (8, (Or.none, 0, 0), [5])] [1, 2, 3, 4, 5, 6, 7, 8] [0, 1, 2, 5] [] <| .ex fun r08 => .ex fun r18 => .exl fun r24 => .ex fun r09 => .ex fun r19 => .exl fun r25 => .ex fun r010 => .ex fun r110 => .exl fun r26 => .ex fun r6 => .reg 3 [(0, Or.frz, 4, 1), (1, (Or.call (vA [(sD (dI r08)), (sD (dI r18)), (sD (dL r24))]) [] []), 0, 0), (2, Or.frz, 5, 1), (3, (Or.call (vA [(sD (dI r09)), (sD (dI r19)), (sD (dL r25))]) [] []), 0, 0), (4, (Or.call (V.tup [(E.agg [(sD (dI r010)), (sD (dI r110)), (sD (dL r26))]), (eD (dI r6))]) [] []), 0, 0), (8, Or.none, 6, 1)] [1, 2, 3, 4, 5, 6, 7, 8, 9, 10] [0, 1, 2, 3, 6] [] <| .ex fun r011 => .ex fun r111 => .exl fun r27 => .ex fun r012 => .ex fun r112 => .exl fun r28 => .ex fun r7 => .reg 4 [(0, Or.frz, 5, 1), (1, (Or.call (vA [(sD (dI r011)), (sD (dI r111)), (sD (dL r27))]) [] []), 0, 0), (2, Or.frz, 6, 1), (3, Or.frz, 7, 1), (4, (Or.call (V.tup [(E.agg [(sD (dI r012)), (sD (dI r112)), (sD (dL r28))]), (eD (dI r7))]) [] []), 0, 0), (8, Or.none, 8, 1)] [1, 2, 3, 4, 5, 6, 7, 8, 9, 10, 11, 12] [0, 1, 2, 3, 4, 8] [] <| .ex fun r013 => .ex fun r113 => .exl fun r29 => .ex fun r014 => .ex fun r114 => .exl fun r210 => .ex fun r015 => .ex fun r115 => .exl fun r211 => .ex fun r8 => .reg 1 [(0, (Or.call (vA [(sD (dI r013)), (sD (dI r113)), (sD (dL r29))]) [] []), 0, 0), (1, (Or.call (vA [(sD (dI r014)), (sD (dI r114)), (sD (dL r210))]) [] []), 0, 0), (2, (Or.call (V.tup [(E.agg [(sD (dI r015)), (sD (dI r115)), (sD (dL r211))]), (eD (dI r8))]) [] []), 0, 0), (6, Or.none, 6, 1)] [1, 2, 3, 4, 5, 6, 7, 8, 9, 10, 11, 12, 13, 14] [0, 1, 2, 3, 4, 5, 6] [] <| .ex fun r016 => .ex fun r116 => .exl fun r212 => .ex fun r9 => .reg 1 [(2, (Or.call (V.tup [(E.agg [(sD (dI r016)), (sD (dI r116)), (sD (dL r212))]), (eD (dI r9))]) [] []), 0, 0), (6, Or.none, 7, 1)] [1, 2, 3, 4, 5, 6, 7, 8, 9, 10, 11, 12, 13, 14, 16] [0, 1, 2, 3, 4, 5, 6] [] <| .ex fun r017 => .ex fun r117 => .exl fun r213 => .ex fun r10 => .reg 2 [(1, Or.frz, 7, 1), (2, (Or.call (V.tup [(E.agg [(sD (dI r017)), (sD (dI r117)), (sD (dL r213))]), (eD (dI r10))]) [] []), 0, 0), (6, Or.none, 8, 1)] [1, 2, 3, 4, 5, 6, 7, 8, 9, 10, 11, 12, 13, 14, 16, 18] [0, 1, 2, 3, 4, 5, 6] [] <| .exb fun r018 => .exl fun r118 => .exb fun r019 => .exl fun r119 => .ex fun r20 => .reg 2 [(0, (Or.call (vA [(sD (dB r018)), (sD (dL r118))]) [] []), 0, 0), (1, Or.frz, 7, 1), (2, (Or.call (V.tup [(E.agg [(sD (dB r019)), (sD (dL r119))]), (eD (dI r20))]) [] []), 0, 0), (6, Or.none, 8, 1)] [1, 2, 3, 4, 5, 6, 7, 8, 9, 10, 11, 12, 13, 14, 16, 18, 20] [0, 1, 2, 3, 4, 5, 6] [] <| .spl ((r == (0 : Int))) (.ex fun r020 => .ex fun r120 => .exl fun r214 => .exb fun r30 => .ob (FnD prog 70 [(vD (dI (2 : Int))), (vD (dI (2 : Int))), (vD (dL [[(dI (2 : Int))], [(dI (1 : Int))], [(dI (4 : Int))], [(dI (3 : Int))]]))] (vA [(sD (dI r020)), (sD (dI r120)), (sD (dL r214))]) []) <| .ob (FnD prog 23 [(vA [(sD (dI r03)), (sD (dI r13)), (sD (dL r21))]), (vA [(sD (dI r020)), (sD (dI r120)), (sD (dL r214))])] (vD (dB r30)) []) <| .spl r30 (.spl ((r4 == (0 : Int))) (.exb fun r021 => .exl fun r121 => .exb fun r022 => .exl fun r122 => .exb fun r31 => .ob (FnD prog 16 [(vD (dI (-2 : Int)))] (vA [(sD (dB r021)), (sD (dL r121))]) []) <| .ob (FnD prog 16 [(vD (dI (-2 : Int)))] (vA [(sD (dB r022)), (sD (dL r122))]) []) <| .ob (FnD prog 37 [(vD (dL r3)), (vD (dL [[(dB r021), (dL r121)], [(dB r022), (dL r122)]]))] (vD (dB r31)) []) <| .spl r31 (.spl ((r8 == (0 : Int))) (.ex fun r023 => .ex fun r123 => .exl fun r215 => .exb fun r32 => .drw 2 [(2, ((Or.bool true), 0, 0), []), (4, (Or.frz, 7, 1), []), (5, ((Or.call (vA [(sD (dI r020)), (sD (dI r120)), (sD (dL r214))]) [] []), 0, 0), []), (6, ((Or.call (vD (dB r30)) [] []), 0, 0), []), (8, ((Or.bool true), 0, 0), []), (12, ((Or.bool true), 0, 0), []), (14, ((Or.call (vA [(sD (dB r021)), (sD (dL r121))]) [] []), 0, 0), []), (15, ((Or.call (vA [(sD (dB r022)), (sD (dL r122))]) [] []), 0, 0), []), (16, (Or.frz, 8, 1), []), (17, ((Or.call (vD (dB r31)) [] []), 0, 0), []), (19, ((Or.bool true), 0, 0), []), (23, ((Or.bool true), 0, 0), []), (25, ((Or.call (vA [(sD (dI r023)), (sD (dI r123)), (sD (dL r215))]) [] []), 0, 0), []), (26, ((Or.call (vD (dB r32)) [] []), 0, 0), [])] [1, 2, 7, 8, 9, 10, 11, 12, 16, 18, 20, 21] [0, 1, 3, 4, 5] [.old 9, .old 8, .old 7, .old 6, .old 5, .old 4, .old 3, .old 2, .old 1, .old 0] <| .spl ((r5 == (0 : Int))) (.exb fun r33 => .ob (FnD prog 23 [(vA [(sD (dI r07)), (sD (dI r17)), (sD (dL r23))]), (vA [(sD (dI r0)), (sD (dI r1)), (sD (dL (matD rrows)))])] (vD (dB r33)) []) <| .spl r33 (.spl ((r6 == (0 : Int))) (.ex fun r024 => .ex fun r124 => .exl fun r216 => .exb fun r34 => .ob (FnD prog 70 [(vD (dI (2 : Int))), (vD (dI (2 : Int))), (vD (dL [[(dI (1 : Int))], [(dI (3 : Int))], [(dI (2 : Int))], [(dI (4 : Int))]]))] (vA [(sD (dI r024)), (sD (dI r124)), (sD (dL r216))]) []) <| .ob (FnD prog 23 [(vA [(sD (dI r010)), (sD (dI r110)), (sD (dL r26))]), (vA [(sD (dI r024)), (sD (dI r124)), (sD (dL r216))])] (vD (dB r34)) []) <| .spl r34 (.spl ((r7 == (0 : Int))) (.ex fun r025 => .ex fun r125 => .exl fun r217 => .exb fun r35 => .drw 2 [(2, ((Or.bool true), 0, 0), []), (5, ((Or.call (vD (dB r33)) [] []), 0, 0), []), (7, ((Or.bool true), 0, 0), []), (11, ((Or.bool true), 0, 0), []), (13, (Or.frz, 5, 1), []), (14, ((Or.call (vA [(sD (dI r024)), (sD (dI r124)), (sD (dL r216))]) [] []), 0, 0), []), (15, ((Or.call (vD (dB r34)) [] []), 0, 0), []), (17, ((Or.bool true), 0, 0), []), (21, ((Or.bool true), 0, 0), []), (23, (Or.frz, 6, 1), []), (24, ((Or.call (vA [(sD (dI r025)), (sD (dI r125)), (sD (dL r217))]) [] []), 0, 0), []), (25, ((Or.call (vD (dB r35)) [] []), 0, 0), [])] [1, 2, 16, 18, 20, 21, 22] [0, 1] [.old 7, .old 6, .old 5, .old 4, .old 3, .old 2, .old 1, .old 0] <| .spl r32 (.spl r35 (.spl ((r9 == (50 : Int))) (.spl ((r10 == (1 : Int))) (.spl ((r20 == (50 : Int))) (.ex fun r026 => .ex fun r126 => .exl fun r218 => .ex fun r027 => .ex fun r127 => .exl fun r219 => .exb fun r36 => .ob (FnD prog 56 [(vD (dI (2 : Int)))] (vA [(sD (dI r026)), (sD (dI r126)), (sD (dL r218))]) []) <| .ob (FnD prog 49 [(vD (dI (2 : Int)))] (vA [(sD (dI r027)), (sD (dI r127)), (sD (dL r219))]) []) <| .ob (FnD prog 23 [(vA [(sD (dI r026)), (sD (dI r126)), (sD (dL r218))]), (vA [(sD (dI r027)), (sD (dI r127)), (sD (dL r219))])] (vD (dB r36)) []) <| .spl r36 (.exb fun r37 => .ob (FnD prog 17 [(vA [(sD (dI r0)), (sD (dI r1)), (sD (dL (matD rrows)))])] (vD (dB r37)) []) <| .spl r37 (.exb fun r38 => .ob (FnD prog 17 [(vA [(sD (dI (1 : Int))), (sD (dI (0 : Int))), (sD (dL ([] : List (List D))))])] (vD (dB r38)) []) <| .spl ((!r38)) (.exb fun r39 => .ob (FnD prog 41 [(vD (dL ([] : List (List D))))] (vD (dB r39)) []) <| .spl r39 (.exl fun vx => .exb fun r40 => .reg 0 [(1, (Or.bool true), 0, 0), (4, (Or.bool true), 0, 0), (8, (Or.bool true), 0, 0), (12, (Or.bool true), 0, 0), (16, (Or.bool true), 0, 0), (17, (Or.call (vA [(sD (dI r026)), (sD (dI r126)), (sD (dL r218))]) [] []), 0, 0), (18, (Or.call (vA [(sD (dI r027)), (sD (dI r127)), (sD (dL r219))]) [] []), 0, 0), (19, (Or.call (vD (dB r36)) [] []), 0, 0), (21, (Or.bool true), 0, 0), (23, (Or.call (vD (dB r37)) [] []), 0, 0), (25, (Or.bool true), 0, 0), (27, (Or.call (vD (dB r38)) [] []), 0, 0), (30, (Or.bool true), 0, 0), (31, (Or.call (vD (dB r39)) [] []), 0, 0), (33, (Or.bool true), 0, 0), (37, (Or.cells [(dL vx)]), 0, 0), (38, (Or.call (vD (dB r40)) [] []), 0, 0)] [0] [] [.old 14, .old 13, .old 12, .old 11, .old 10, .old 9, .old 8, .old 7, .old 6, .old 5, .old 4, .old 3, .old 2, .old 1, .old 0] <| .ret []) (.reg 0 [(1, (Or.bool true), 0, 0), (4, (Or.bool true), 0, 0), (8, (Or.bool true), 0, 0), (12, (Or.bool true), 0, 0), (16, (Or.bool true), 0, 0), (17, (Or.call (vA [(sD (dI r026)), (sD (dI r126)), (sD (dL r218))]) [] []), 0, 0), (18, (Or.call (vA [(sD (dI r027)), (sD (dI r127)), (sD (dL r219))]) [] []), 0, 0), (19, (Or.call (vD (dB r36)) [] []), 0, 0), (21, (Or.bool true), 0, 0), (23, (Or.call (vD (dB r37)) [] []), 0, 0), (25, (Or.bool true), 0, 0), (27, (Or.call (vD (dB r38)) [] []), 0, 0), (30, (Or.bool true), 0, 0), (31, (Or.call (vD (dB r39)) [] []), 0, 0), (33, (Or.bool false), 0, 0)] [0] [] [.old 14, .old 13, .old 12, .old 11, .old 10, .old 9, .old 8, .old 7, .old 6, .old 5, .old 4, .old 3, .old 2, .old 1, .old 0] <| .ret [])) (.reg 0 [(1, (Or.bool true), 0, 0), (4, (Or.bool true), 0, 0), (8, (Or.bool true), 0, 0), (12, (Or.bool true), 0, 0), (16, (Or.bool true), 0, 0), (17, (Or.call (vA [(sD (dI r026)), (sD (dI r126)), (sD (dL r218))]) [] []), 0, 0), (18, (Or.call (vA [(sD (dI r027)), (sD (dI r127)), (sD (dL r219))]) [] []), 0, 0), (19, (Or.call (vD (dB r36)) [] []), 0, 0), (21, (Or.bool true), 0, 0), (23, (Or.call (vD (dB r37)) [] []), 0, 0), (25, (Or.bool true), 0, 0), (27, (Or.call (vD (dB r38)) [] []), 0, 0), (30, (Or.bool false), 0, 0)] [0] [] [.old 12, .old 11, .old 10, .old 9, .old 8, .old 7, .old 6, .old 5, .old 4, .old 3, .old 2, .old 1, .old 0] <| .ret [])) (.reg 0 [(1, (Or.bool true), 0, 0), (4, (Or.bool true), 0, 0), (8, (Or.bool true), 0, 0), (12, (Or.bool true), 0, 0), (16, (Or.bool true), 0, 0), (17, (Or.call (vA [(sD (dI r026)), (sD (dI r126)), (sD (dL r218))]) [] []), 0, 0), (18, (Or.call (vA [(sD (dI r027)), (sD (dI r127)), (sD (dL r219))]) [] []), 0, 0), (19, (Or.call (vD (dB r36)) [] []), 0, 0), (21, (Or.bool true), 0, 0), (23, (Or.call (vD (dB r37)) [] []), 0, 0), (25, (Or.bool false), 0, 0)] [0] [] [.old 10, .old 9, .old 8, .old 7, .old 6, .old 5, .old 4, .old 3, .old 2, .old 1, .old 0] <| .ret [])) (.reg 0 [(1, (Or.bool true), 0, 0), (4, (Or.bool true), 0, 0), (8, (Or.bool true), 0, 0), (12, (Or.bool true), 0, 0), (16, (Or.bool true), 0, 0), (17, (Or.call (vA [(sD (dI r026)), (sD (dI r126)), (sD (dL r218))]) [] []), 0, 0), (18, (Or.call (vA [(sD (dI r027)), (sD (dI r127)), (sD (dL r219))]) [] []), 0, 0), (19, (Or.call (vD (dB r36)) [] []), 0, 0), (21, (Or.bool false), 0, 0)] [0] [] [.old 8, .old 7, .old 6, .old 5, .old 4, .old 3, .old 2, .old 1, .old 0] <| .ret [])) (.reg 0 [(1, (Or.bool true), 0, 0), (4, (Or.bool true), 0, 0), (8, (Or.bool true), 0, 0), (12, (Or.bool true), 0, 0), (16, (Or.bool false), 0, 0)] [0] [] [.old 4, .old 3, .old 2, .old 1, .old 0] <| .ret [])) (.reg 0 [(1, (Or.bool true), 0, 0), (4, (Or.bool true), 0, 0), (8, (Or.bool true), 0, 0), (12, (Or.bool false), 0, 0)] [0] [] [.old 3, .old 2, .old 1, .old 0] <| .ret [])) (.reg 0 [(1, (Or.bool true), 0, 0), (4, (Or.bool true), 0, 0), (8, (Or.bool false), 0, 0)] [0] [] [.old 2, .old 1, .old 0] <| .ret [])) (.reg 0 [(1, (Or.bool true), 0, 0), (4, (Or.bool false), 0, 0)] [0] [] [.old 1, .old 0] <| .ret [])) (.reg 0 [(1, (Or.bool false), 0, 0)] [0] [] [.old 0] <| .ret [])) (.drw 1 [(2, ((Or.bool true), 0, 0), []), (5, ((Or.call (vD (dB r33)) [] []), 0, 0), []), (7, ((Or.bool true), 0, 0), []), (11, ((Or.bool true), 0, 0), []), (13, (Or.frz, 5, 1), []), (14, ((Or.call (vA [(sD (dI r024)), (sD (dI r124)), (sD (dL r216))]) [] []), 0, 0), []), (15, ((Or.call (vD (dB r34)) [] []), 0, 0), []), (17, ((Or.bool true), 0, 0), []), (21, ((Or.bool false), 0, 0), [])] [1, 2, 16, 18, 20, 21, 22] [0, 1] [.old 7, .old 6, .old 5, .old 4, .old 3, .old 2, .old 1, .old 0] <| .spl r32 (.reg 0 [(1, (Or.bool true), 0, 0)] [0] [] [.old 0] <| .ret []) (.reg 0 [(1, (Or.bool false), 0, 0)] [0] [] [.old 0] <| .ret []))) (.drw 1 [(2, ((Or.bool true), 0, 0), []), (5, ((Or.call (vD (dB r33)) [] []), 0, 0), []), (7, ((Or.bool true), 0, 0), []), (11, ((Or.bool true), 0, 0), []), (13, (Or.frz, 5, 1), []), (14, ((Or.call (vA [(sD (dI r024)), (sD (dI r124)), (sD (dL r216))]) [] []), 0, 0), []), (15, ((Or.call (vD (dB r34)) [] []), 0, 0), []), (17, ((Or.bool false), 0, 0), [])] [1, 2, 16, 18, 20, 21, 22] [0, 1] [.old 6, .old 5, .old 4, .old 3, .old 2, .old 1, .old 0] <| .spl r32 (.reg 0 [(1, (Or.bool true), 0, 0)] [0] [] [.old 0] <| .ret []) (.reg 0 [(1, (Or.bool false), 0, 0)] [0] [] [.old 0] <| .ret []))) (.drw 0 [(2, ((Or.bool true), 0, 0), []), (5, ((Or.call (vD (dB r33)) [] []), 0, 0), []), (7, ((Or.bool true), 0, 0), []), (11, ((Or.bool false), 0, 0), [])] [1, 2, 16, 18, 20, 21, 22] [0, 1] [.old 3, .old 2, .old 1, .old 0] <| .spl r32 (.reg 0 [(1, (Or.bool true), 0, 0)] [0] [] [.old 0] <| .ret []) (.reg 0 [(1, (Or.bool false), 0, 0)] [0] [] [.old 0] <| .ret []))) (.drw 0 [(2, ((Or.bool true), 0, 0), []), (5, ((Or.call (vD (dB r33)) [] []), 0, 0), []), (7, ((Or.bool false), 0, 0), [])] [1, 2, 16, 18, 20, 21, 22] [0, 1] [.old 2, .old 1, .old 0] <| .spl r32 (.reg 0 [(1, (Or.bool true), 0, 0)] [0] [] [.old 0] <| .ret []) (.reg 0 [(1, (Or.bool false), 0, 0)] [0] [] [.old 0] <| .ret []))) (.drw 0 [(2, ((Or.bool false), 0, 0), [])] [1, 2, 16, 18, 20, 21, 22] [0, 1] [.old 0] <| .spl r32 (.reg 0 [(1, (Or.bool true), 0, 0)] [0] [] [.old 0] <| .ret []) (.reg 0 [(1, (Or.bool false), 0, 0)] [0] [] [.old 0] <| .ret []))) (.drw 2 [(2, ((Or.bool true), 0, 0), []), (4, (Or.frz, 7, 1), []), (5, ((Or.call (vA [(sD (dI r020)), (sD (dI r120)), (sD (dL r214))]) [] []), 0, 0), []), (6, ((Or.call (vD (dB r30)) [] []), 0, 0), []), (8, ((Or.bool true), 0, 0), []), (12, ((Or.bool true), 0, 0), []), (14, ((Or.call (vA [(sD (dB r021)), (sD (dL r121))]) [] []), 0, 0), []), (15, ((Or.call (vA [(sD (dB r022)), (sD (dL r122))]) [] []), 0, 0), []), (16, (Or.frz, 8, 1), []), (17, ((Or.call (vD (dB r31)) [] []), 0, 0), []), (19, ((Or.bool true), 0, 0), []), (23, ((Or.bool false), 0, 0), [])] [1, 2, 7, 8, 9, 10, 11, 12, 16, 18, 20, 21] [0, 1, 3, 4, 5] [.old 9, .old 8, .old 7, .old 6, .old 5, .old 4, .old 3, .old 2, .old 1, .old 0] <| .spl ((r5 == (0 : Int))) (.exb fun r41 => .ob (FnD prog 23 [(vA [(sD (dI r07)), (sD (dI r17)), (sD (dL r23))]), (vA [(sD (dI r0)), (sD (dI r1)), (sD (dL (matD rrows)))])] (vD (dB r41)) []) <| .spl r41 (.spl ((r6 == (0 : Int))) (.ex fun r028 => .ex fun r128 => .exl fun r220 => .exb fun r42 => .ob (FnD prog 70 [(vD (dI (2 : Int))), (vD (dI (2 : Int))), (vD (dL [[(dI (1 : Int))], [(dI (3 : Int))], [(dI (2 : Int))], [(dI (4 : Int))]]))] (vA [(sD (dI r028)), (sD (dI r128)), (sD (dL r220))]) []) <| .ob (FnD prog 23 [(vA [(sD (dI r010)), (sD (dI r110)), (sD (dL r26))]), (vA [(sD (dI r028)), (sD (dI r128)), (sD (dL r220))])] (vD (dB r42)) []) <| .spl r42 (.spl ((r7 == (0 : Int))) (.ex fun r029 => .ex fun r129 => .exl fun r221 => .exb fun r43 => .drw 2 [(2, ((Or.bool true), 0, 0), []), (5, ((Or.call (vD (dB r41)) [] []), 0, 0), []), (7, ((Or.bool true), 0, 0), []), (11, ((Or.bool true), 0, 0), []), (13, (Or.frz, 5, 1), []), (14, ((Or.call (vA [(sD (dI r028)), (sD (dI r128)), (sD (dL r220))]) [] []), 0, 0), []), (15, ((Or.call (vD (dB r42)) [] []), 0, 0), []), (17, ((Or.bool true), 0, 0), []), (21, ((Or.bool true), 0, 0), []), (23, (Or.frz, 6, 1), []), (24, ((Or.call (vA [(sD (dI r029)), (sD (dI r129)), (sD (dL r221))]) [] []), 0, 0), []), (25, ((Or.call (vD (dB r43)) [] []), 0, 0), [])] [1, 2, 16, 18, 20, 21, 22] [0, 1] [.old 7, .old 6, .old 5, .old 4, .old 3, .old 2, .old 1, .old 0] <| .r0 [0] <| .ret []) (.drw 1 [(2, ((Or.bool true), 0, 0), []), (5, ((Or.call (vD (dB r41)) [] []), 0, 0), []), (7, ((Or.bool true), 0, 0), []), (11, ((Or.bool true), 0, 0), []), (13, (Or.frz, 5, 1), []), (14, ((Or.call (vA [(sD (dI r028)), (sD (dI r128)), (sD (dL r220))]) [] []), 0, 0), []), (15, ((Or.call (vD (dB r42)) [] []), 0, 0), []), (17, ((Or.bool true), 0, 0), []), (21, ((Or.bool false), 0, 0), [])] [1, 2, 16, 18, 20, 21, 22] [0, 1] [.old 7, .old 6, .old 5, .old 4, .old 3, .old 2, .old 1, .old 0] <| .r0 [0] <| .ret [])) (.drw 1 [(2, ((Or.bool true), 0, 0), []), (5, ((Or.call (vD (dB r41)) [] []), 0, 0), []), (7, ((Or.bool true), 0, 0), []), (11, ((Or.bool true), 0, 0), []), (13, (Or.frz, 5, 1), []), (14, ((Or.call (vA [(sD (dI r028)), (sD (dI r128)), (sD (dL r220))]) [] []), 0, 0), []), (15, ((Or.call (vD (dB r42)) [] []), 0, 0), []), (17, ((Or.bool false), 0, 0), [])] [1, 2, 16, 18, 20, 21, 22] [0, 1] [.old 6, .old 5, .old 4, .old 3, .old 2, .old 1, .old 0] <| .r0 [0] <| .ret [])) (.drw 0 [(2, ((Or.bool true), 0, 0), []), (5, ((Or.call (vD (dB r41)) [] []), 0, 0), []), (7, ((Or.bool true), 0, 0), []), (11, ((Or.bool false), 0, 0), [])] [1, 2, 16, 18, 20, 21, 22] [0, 1] [.old 3, .old 2, .old 1, .old 0] <| .r0 [0] <| .ret [])) (.drw 0 [(2, ((Or.bool true), 0, 0), []), (5, ((Or.call (vD (dB r41)) [] []), 0, 0), []), (7, ((Or.bool false), 0, 0), [])] [1, 2, 16, 18, 20, 21, 22] [0, 1] [.old 2, .old 1, .old 0] <| .r0 [0] <| .ret [])) (.drw 0 [(2, ((Or.bool false), 0, 0), [])] [1, 2, 16, 18, 20, 21, 22] [0, 1] [.old 0] <| .r0 [0] <| .ret []))) (.drw 2 [(2, ((Or.bool true), 0, 0), []), (4, (Or.frz, 7, 1), []), (5, ((Or.call (vA [(sD (dI r020)), (sD (dI r120)), (sD (dL r214))]) [] []), 0, 0), []), (6, ((Or.call (vD (dB r30)) [] []), 0, 0), []), (8, ((Or.bool true), 0, 0), []), (12, ((Or.bool true), 0, 0), []), (14, ((Or.call (vA [(sD (dB r021)), (sD (dL r121))]) [] []), 0, 0), []), (15, ((Or.call (vA [(sD (dB r022)), (sD (dL r122))]) [] []), 0, 0), []), (16, (Or.frz, 8, 1), []), (17, ((Or.call (vD (dB r31)) [] []), 0, 0), []), (19, ((Or.bool false), 0, 0), [])] [1, 2, 7, 8, 9, 10, 11, 12, 16, 18, 20, 21] [0, 1, 3, 4, 5] [.old 8, .old 7, .old 6, .old 5, .old 4, .old 3, .old 2, .old 1, .old 0] <| .spl ((r5 == (0 : Int))) (.exb fun r44 => .ob (FnD prog 23 [(vA [(sD (dI r07)), (sD (dI r17)), (sD (dL r23))]), (vA [(sD (dI r0)), (sD (dI r1)), (sD (dL (matD rrows)))])] (vD (dB r44)) []) <| .spl r44 (.spl ((r6 == (0 : Int))) (.ex fun r030 => .ex fun r130 => .exl fun r222 => .exb fun r45 => .ob (FnD prog 70 [(vD (dI (2 : Int))), (vD (dI (2 : Int))), (vD (dL [[(dI (1 : Int))], [(dI (3 : Int))], [(dI (2 : Int))], [(dI (4 : Int))]]))] (vA [(sD (dI r030)), (sD (dI r130)), (sD (dL r222))]) []) <| .ob (FnD prog 23 [(vA [(sD (dI r010)), (sD (dI r110)), (sD (dL r26))]), (vA [(sD (dI r030)), (sD (dI r130)), (sD (dL r222))])] (vD (dB r45)) []) <| .spl r45 (.spl ((r7 == (0 : Int))) (.ex fun r031 => .ex fun r131 => .exl fun r223 => .exb fun r46 => .drw 2 [(2, ((Or.bool true), 0, 0), []), (5, ((Or.call (vD (dB r44)) [] []), 0, 0), []), (7, ((Or.bool true), 0, 0), []), (11, ((Or.bool true), 0, 0), []), (13, (Or.frz, 5, 1), []), (14, ((Or.call (vA [(sD (dI r030)), (sD (dI r130)), (sD (dL r222))]) [] []), 0, 0), []), (15, ((Or.call (vD (dB r45)) [] []), 0, 0), []), (17, ((Or.bool true), 0, 0), []), (21, ((Or.bool true), 0, 0), []), (23, (Or.frz, 6, 1), []), (24, ((Or.call (vA [(sD (dI r031)), (sD (dI r131)), (sD (dL r223))]) [] []), 0, 0), []), (25, ((Or.call (vD (dB r46)) [] []), 0, 0), [])] [1, 2, 16, 18, 20, 21, 22] [0, 1] [.old 7, .old 6, .old 5, .old 4, .old 3, .old 2, .old 1, .old 0] <| .r0 [0] <| .ret []) (.drw 1 [(2, ((Or.bool true), 0, 0), []), (5, ((Or.call (vD (dB r44)) [] []), 0, 0), []), (7, ((Or.bool true), 0, 0), []), (11, ((Or.bool true), 0, 0), []), (13, (Or.frz, 5, 1), []), (14, ((Or.call (vA [(sD (dI r030)), (sD (dI r130)), (sD (dL r222))]) [] []), 0, 0), []), (15, ((Or.call (vD (dB r45)) [] []), 0, 0), []), (17, ((Or.bool true), 0, 0), []), (21, ((Or.bool false), 0, 0), [])] [1, 2, 16, 18, 20, 21, 22] [0, 1] [.old 7, .old 6, .old 5, .old 4, .old 3, .old 2, .old 1, .old 0] <| .r0 [0] <| .ret [])) (.drw 1 [(2, ((Or.bool true), 0, 0), []), (5, ((Or.call (vD (dB r44)) [] []), 0, 0), []), (7, ((Or.bool true), 0, 0), []), (11, ((Or.bool true), 0, 0), []), (13, (Or.frz, 5, 1), []), (14, ((Or.call (vA [(sD (dI r030)), (sD (dI r130)), (sD (dL r222))]) [] []), 0, 0), []), (15, ((Or.call (vD (dB r45)) [] []), 0, 0), []), (17, ((Or.bool false), 0, 0), [])] [1, 2, 16, 18, 20, 21, 22] [0, 1] [.old 6, .old 5, .old 4, .old 3, .old 2, .old 1, .old 0] <| .r0 [0] <| .ret [])) (.drw 0 [(2, ((Or.bool true), 0, 0), []), (5, ((Or.call (vD (dB r44)) [] []), 0, 0), []), (7, ((Or.bool true), 0, 0), []), (11, ((Or.bool false), 0, 0), [])] [1, 2, 16, 18, 20, 21, 22] [0, 1] [.old 3, .old 2, .old 1, .old 0] <| .r0 [0] <| .ret [])) (.drw 0 [(2, ((Or.bool true), 0, 0), []), (5, ((Or.call (vD (dB r44)) [] []), 0, 0), []), (7, ((Or.bool false), 0, 0), [])] [1, 2, 16, 18, 20, 21, 22] [0, 1] [.old 2, .old 1, .old 0] <| .r0 [0] <| .ret [])) (.drw 0 [(2, ((Or.bool false), 0, 0), [])] [1, 2, 16, 18, 20, 21, 22] [0, 1] [.old 0] <| .r0 [0] <| .ret []))) (.drw 1 [(2, ((Or.bool true), 0, 0), []), (4, (Or.frz, 7, 1), []), (5, ((Or.call (vA [(sD (dI r020)), (sD (dI r120)), (sD (dL r214))]) [] []), 0, 0), []), (6, ((Or.call (vD (dB r30)) [] []), 0, 0), []), (8, ((Or.bool true), 0, 0), []), (12, ((Or.bool false), 0, 0), [])] [1, 2, 7, 8, 9, 10, 11, 12, 16, 18, 20, 21] [0, 1, 3, 4, 5] [.old 4, .old 3, .old 2, .old 1, .old 0] <| .spl ((r5 == (0 : Int))) (.exb fun r47 => .ob (FnD prog 23 [(vA [(sD (dI r07)), (sD (dI r17)), (sD (dL r23))]), (vA [(sD (dI r0)), (sD (dI r1)), (sD (dL (matD rrows)))])] (vD (dB r47)) []) <| .spl r47 (.spl ((r6 == (0 : Int))) (.ex fun r032 => .ex fun r132 => .exl fun r224 => .exb fun r48 => .ob (FnD prog 70 [(vD (dI (2 : Int))), (vD (dI (2 : Int))), (vD (dL [[(dI (1 : Int))], [(dI (3 : Int))], [(dI (2 : Int))], [(dI (4 : Int))]]))] (vA [(sD (dI r032)), (sD (dI r132)), (sD (dL r224))]) []) <| .ob (FnD prog 23 [(vA [(sD (dI r010)), (sD (dI r110)), (sD (dL r26))]), (vA [(sD (dI r032)), (sD (dI r132)), (sD (dL r224))])] (vD (dB r48)) []) <| .spl r48 (.spl ((r7 == (0 : Int))) (.ex fun r033 => .ex fun r133 => .exl fun r225 => .exb fun r49 => .drw 2 [(2, ((Or.bool true), 0, 0), []), (5, ((Or.call (vD (dB r47)) [] []), 0, 0), []), (7, ((Or.bool true), 0, 0), []), (11, ((Or.bool true), 0, 0), []), (13, (Or.frz, 5, 1), []), (14, ((Or.call (vA [(sD (dI r032)), (sD (dI r132)), (sD (dL r224))]) [] []), 0, 0), []), (15, ((Or.call (vD (dB r48)) [] []), 0, 0), []), (17, ((Or.bool true), 0, 0), []), (21, ((Or.bool true), 0, 0), []), (23, (Or.frz, 6, 1), []), (24, ((Or.call (vA [(sD (dI r033)), (sD (dI r133)), (sD (dL r225))]) [] []), 0, 0), []), (25, ((Or.call (vD (dB r49)) [] []), 0, 0), [])] [1, 2, 16, 18, 20, 21, 22] [0, 1] [.old 7, .old 6, .old 5, .old 4, .old 3, .old 2, .old 1, .old 0] <| .r0 [0] <| .ret []) (.drw 1 [(2, ((Or.bool true), 0, 0), []), (5, ((Or.call (vD (dB r47)) [] []), 0, 0), []), (7, ((Or.bool true), 0, 0), []), (11, ((Or.bool true), 0, 0), []), (13, (Or.frz, 5, 1), []), (14, ((Or.call (vA [(sD (dI r032)), (sD (dI r132)), (sD (dL r224))]) [] []), 0, 0), []), (15, ((Or.call (vD (dB r48)) [] []), 0, 0), []), (17, ((Or.bool true), 0, 0), []), (21, ((Or.bool false), 0, 0), [])] [1, 2, 16, 18, 20, 21, 22] [0, 1] [.old 7, .old 6, .old 5, .old 4, .old 3, .old 2, .old 1, .old 0] <| .r0 [0] <| .ret [])) (.drw 1 [(2, ((Or.bool true), 0, 0), []), (5, ((Or.call (vD (dB r47)) [] []), 0, 0), []), (7, ((Or.bool true), 0, 0), []), (11, ((Or.bool true), 0, 0), []), (13, (Or.frz, 5, 1), []), (14, ((Or.call (vA [(sD (dI r032)), (sD (dI r132)), (sD (dL r224))]) [] []), 0, 0), []), (15, ((Or.call (vD (dB r48)) [] []), 0, 0), []), (17, ((Or.bool false), 0, 0), [])] [1, 2, 16, 18, 20, 21, 22] [0, 1] [.old 6, .old 5, .old 4, .old 3, .old 2, .old 1, .old 0] <| .r0 [0] <| .ret [])) (.drw 0 [(2, ((Or.bool true), 0, 0), []), (5, ((Or.call (vD (dB r47)) [] []), 0, 0), []), (7, ((Or.bool true), 0, 0), []), (11, ((Or.bool false), 0, 0), [])] [1, 2, 16, 18, 20, 21, 22] [0, 1] [.old 3, .old 2, .old 1, .old 0] <| .r0 [0] <| .ret [])) (.drw 0 [(2, ((Or.bool true), 0, 0), []), (5, ((Or.call (vD (dB r47)) [] []), 0, 0), []), (7, ((Or.bool false), 0, 0), [])] [1, 2, 16, 18, 20, 21, 22] [0, 1] [.old 2, .old 1, .old 0] <| .r0 [0] <| .ret [])) (.drw 0 [(2, ((Or.bool false), 0, 0), [])] [1, 2, 16, 18, 20, 21, 22] [0, 1] [.old 0] <| .r0 [0] <| .ret []))) (.drw 1 [(2, ((Or.bool true), 0, 0), []), (4, (Or.frz, 7, 1), []), (5, ((Or.call (vA [(sD (dI r020)), (sD (dI r120)), (sD (dL r214))]) [] []), 0, 0), []), (6, ((Or.call (vD (dB r30)) [] []), 0, 0), []), (8, ((Or.bool false), 0, 0), [])] [1, 2, 7, 8, 9, 10, 11, 12, 16, 18, 20, 21] [0, 1, 3, 4, 5] [.old 3, .old 2, .old 1, .old 0] <| .spl ((r5 == (0 : Int))) (.exb fun r50 => .ob (FnD prog 23 [(vA [(sD (dI r07)), (sD (dI r17)), (sD (dL r23))]), (vA [(sD (dI r0)), (sD (dI r1)), (sD (dL (matD rrows)))])] (vD (dB r50)) []) <| .spl r50 (.spl ((r6 == (0 : Int))) (.ex fun r034 => .ex fun r134 => .exl fun r226 => .exb fun r51 => .ob (FnD prog 70 [(vD (dI (2 : Int))), (vD (dI (2 : Int))), (vD (dL [[(dI (1 : Int))], [(dI (3 : Int))], [(dI (2 : Int))], [(dI (4 : Int))]]))] (vA [(sD (dI r034)), (sD (dI r134)), (sD (dL r226))]) []) <| .ob (FnD prog 23 [(vA [(sD (dI r010)), (sD (dI r110)), (sD (dL r26))]), (vA [(sD (dI r034)), (sD (dI r134)), (sD (dL r226))])] (vD (dB r51)) []) <| .spl r51 (.spl ((r7 == (0 : Int))) (.ex fun r035 => .ex fun r135 => .exl fun r227 => .exb fun r52 => .drw 2 [(2, ((Or.bool true), 0, 0), []), (5, ((Or.call (vD (dB r50)) [] []), 0, 0), []), (7, ((Or.bool true), 0, 0), []), (11, ((Or.bool true), 0, 0), []), (13, (Or.frz, 5, 1), []), (14, ((Or.call (vA [(sD (dI r034)), (sD (dI r134)), (sD (dL r226))]) [] []), 0, 0), []), (15, ((Or.call (vD (dB r51)) [] []), 0, 0), []), (17, ((Or.bool true), 0, 0), []), (21, ((Or.bool true), 0, 0), []), (23, (Or.frz, 6, 1), []), (24, ((Or.call (vA [(sD (dI r035)), (sD (dI r135)), (sD (dL r227))]) [] []), 0, 0), []), (25, ((Or.call (vD (dB r52)) [] []), 0, 0), [])] [1, 2, 16, 18, 20, 21, 22] [0, 1] [.old 7, .old 6, .old 5, .old 4, .old 3, .old 2, .old 1, .old 0] <| .r0 [0] <| .ret []) (.drw 1 [(2, ((Or.bool true), 0, 0), []), (5, ((Or.call (vD (dB r50)) [] []), 0, 0), []), (7, ((Or.bool true), 0, 0), []), (11, ((Or.bool true), 0, 0), []), (13, (Or.frz, 5, 1), []), (14, ((Or.call (vA [(sD (dI r034)), (sD (dI r134)), (sD (dL r226))]) [] []), 0, 0), []), (15, ((Or.call (vD (dB r51)) [] []), 0, 0), []), (17, ((Or.bool true), 0, 0), []), (21, ((Or.bool false), 0, 0), [])] [1, 2, 16, 18, 20, 21, 22] [0, 1] [.old 7, .old 6, .old 5, .old 4, .old 3, .old 2, .old 1, .old 0] <| .r0 [0] <| .ret [])) (.drw 1 [(2, ((Or.bool true), 0, 0), []), (5, ((Or.call (vD (dB r50)) [] []), 0, 0), []), (7, ((Or.bool true), 0, 0), []), (11, ((Or.bool true), 0, 0), []), (13, (Or.frz, 5, 1), []), (14, ((Or.call (vA [(sD (dI r034)), (sD (dI r134)), (sD (dL r226))]) [] []), 0, 0), []), (15, ((Or.call (vD (dB r51)) [] []), 0, 0), []), (17, ((Or.bool false), 0, 0), [])] [1, 2, 16, 18, 20, 21, 22] [0, 1] [.old 6, .old 5, .old 4, .old 3, .old 2, .old 1, .old 0] <| .r0 [0] <| .ret [])) (.drw 0 [(2, ((Or.bool true), 0, 0), []), (5, ((Or.call (vD (dB r50)) [] []), 0, 0), []), (7, ((Or.bool true), 0, 0), []), (11, ((Or.bool false), 0, 0), [])] [1, 2, 16, 18, 20, 21, 22] [0, 1] [.old 3, .old 2, .old 1, .old 0] <| .r0 [0] <| .ret [])) (.drw 0 [(2, ((Or.bool true), 0, 0), []), (5, ((Or.call (vD (dB r50)) [] []), 0, 0), []), (7, ((Or.bool false), 0, 0), [])] [1, 2, 16, 18, 20, 21, 22] [0, 1] [.old 2, .old 1, .old 0] <| .r0 [0] <| .ret [])) (.drw 0 [(2, ((Or.bool false), 0, 0), [])] [1, 2, 16, 18, 20, 21, 22] [0, 1] [.old 0] <| .r0 [0] <| .ret []))) (.drw 0 [(2, ((Or.bool false), 0, 0), [])] [1, 2, 7, 8, 9, 10, 11, 12, 16, 18, 20, 21] [0, 1, 3, 4, 5] [.old 0] <| .spl ((r5 == (0 : Int))) (.exb fun r53 => .ob (FnD prog 23 [(vA [(sD (dI r07)), (sD (dI r17)), (sD (dL r23))]), (vA [(sD (dI r0)), (sD (dI r1)), (sD (dL (matD rrows)))])] (vD (dB r53)) []) <| .spl r53 (.spl ((r6 == (0 : Int))) (.ex fun r036 => .ex fun r136 => .exl fun r228 => .exb fun r54 => .ob (FnD prog 70 [(vD (dI (2 : Int))), (vD (dI (2 : Int))), (vD (dL [[(dI (1 : Int))], [(dI (3 : Int))], [(dI (2 : Int))], [(dI (4 : Int))]]))] (vA [(sD (dI r036)), (sD (dI r136)), (sD (dL r228))]) []) <| .ob (FnD prog 23 [(vA [(sD (dI r010)), (sD (dI r110)), (sD (dL r26))]), (vA [(sD (dI r036)), (sD (dI r136)), (sD (dL r228))])] (vD (dB r54)) []) <| .spl r54 (.spl ((r7 == (0 : Int))) (.ex fun r037 => .ex fun r137 => .exl fun r229 => .exb fun r55 => .drw 2 [(2, ((Or.bool true), 0, 0), []), (5, ((Or.call (vD (dB r53)) [] []), 0, 0), []), (7, ((Or.bool true), 0, 0), []), (11, ((Or.bool true), 0, 0), []), (13, (Or.frz, 5, 1), []), (14, ((Or.call (vA [(sD (dI r036)), (sD (dI r136)), (sD (dL r228))]) [] []), 0, 0), []), (15, ((Or.call (vD (dB r54)) [] []), 0, 0), []), (17, ((Or.bool true), 0, 0), []), (21, ((Or.bool true), 0, 0), []), (23, (Or.frz, 6, 1), []), (24, ((Or.call (vA [(sD (dI r037)), (sD (dI r137)), (sD (dL r229))]) [] []), 0, 0), []), (25, ((Or.call (vD (dB r55)) [] []), 0, 0), [])] [1, 2, 16, 18, 20, 21, 22] [0, 1] [.old 7, .old 6, .old 5, .old 4, .old 3, .old 2, .old 1, .old 0] <| .r0 [0] <| .ret []) (.drw 1 [(2, ((Or.bool true), 0, 0), []), (5, ((Or.call (vD (dB r53)) [] []), 0, 0), []), (7, ((Or.bool true), 0, 0), []), (11, ((Or.bool true), 0, 0), []), (13, (Or.frz, 5, 1), []), (14, ((Or.call (vA [(sD (dI r036)), (sD (dI r136)), (sD (dL r228))]) [] []), 0, 0), []), (15, ((Or.call (vD (dB r54)) [] []), 0, 0), []), (17, ((Or.bool true), 0, 0), []), (21, ((Or.bool false), 0, 0), [])] [1, 2, 16, 18, 20, 21, 22] [0, 1] [.old 7, .old 6, .old 5, .old 4, .old 3, .old 2, .old 1, .old 0] <| .r0 [0] <| .ret [])) (.drw 1 [(2, ((Or.bool true), 0, 0), []), (5, ((Or.call (vD (dB r53)) [] []), 0, 0), []), (7, ((Or.bool true), 0, 0), []), (11, ((Or.bool true), 0, 0), []), (13, (Or.frz, 5, 1), []), (14, ((Or.call (vA [(sD (dI r036)), (sD (dI r136)), (sD (dL r228))]) [] []), 0, 0), []), (15, ((Or.call (vD (dB r54)) [] []), 0, 0), []), (17, ((Or.bool false), 0, 0), [])] [1, 2, 16, 18, 20, 21, 22] [0, 1] [.old 6, .old 5, .old 4, .old 3, .old 2, .old 1, .old 0] <| .r0 [0] <| .ret [])) (.drw 0 [(2, ((Or.bool true), 0, 0), []), (5, ((Or.call (vD (dB r53)) [] []), 0, 0), []), (7, ((Or.bool true), 0, 0), []), (11, ((Or.bool false), 0, 0), [])] [1, 2, 16, 18, 20, 21, 22] [0, 1] [.old 3, .old 2, .old 1, .old 0] <| .r0 [0] <| .ret [])) (.drw 0 [(2, ((Or.bool true), 0, 0), []), (5, ((Or.call (vD (dB r53)) [] []), 0, 0), []), (7, ((Or.bool false), 0, 0), [])] [1, 2, 16, 18, 20, 21, 22] [0, 1] [.old 2, .old 1, .old 0] <| .r0 [0] <| .ret [])) (.drw 0 [(2, ((Or.bool false), 0, 0), [])] [1, 2, 16, 18, 20, 21, 22] [0, 1] [.old 0] <| .r0 [0] <| .ret [])))
    (by kernel_rfl) (by kernel_rfl) (by kernel_rfl) h

end Go.AM

/- The fixed examples of the law of matrices. -/
namespace Go.AM
open Go.Proofs.Try

theorem q_ints {r c : Nat} {v : List Int} {m : List (List Int)} (h : table r c (fillF c v) = m) (hr : r ≤ 1048576) (hc : c ≤ 1048576) (hv : ∀ z ∈ v, -9223372036854775808 ≤ z ∧ z ≤ 9223372036854775807) :
    FnD prog 70 [vi r, vi c, vs (ints v)] (eMo r c) (oM m) := h ▸ rints_ok hr hc hv

theorem q_mul {r n c : Nat} {a b m : List (List Int)} (h : mmul r n c a b = m) (ha : Mx r n a) (hb : Mx n c b) (ka : BdM 9 a) (kb : BdM 9 b) (hr : r ≤ 9) (hn : n ≤ 9) (hc : c ≤ 9) :
    FnD prog 20 [eM r n a, eM n c b] (eME r c m 0) [] := h ▸ mmul_ok ha hb ka kb (by omega) (by omega) (by omega) (by decide)

theorem sanity_ok : FnD prog 14 [] (vb true) [] := by
  have h1 : FnD prog 70 [vi 2, vi 2, vs (ints [1, 2, 3, 4])] (eMo 2 2) (oM [[1, 2], [3, 4]]) := q_ints (r := 2) (c := 2) (by decide) (by decide) (by decide) (by decide)
  have h2 : FnD prog 70 [vi 1, vi 2, vs (ints [1, 2])] (eMo 1 2) (oM [[1, 2]]) := q_ints (r := 1) (c := 2) (by decide) (by decide) (by decide) (by decide)
  have h3 : FnD prog 70 [vi 2, vi 2, vs (ints [0, 1, 1, 0])] (eM 2 2 [[0, 1], [1, 0]]) [] := FnD.frz (q_ints (r := 2) (c := 2) (by decide) (by decide) (by decide) (by decide))
  have h4 : FnD prog 20 [eM 2 2 [[1, 2], [3, 4]], eM 2 2 [[0, 1], [1, 0]]] (eME 2 2 [[2, 1], [4, 3]] 0) [] := q_mul (r := 2) (n := 2) (c := 2) (by decide) ⟨by decide, by decide⟩ ⟨by decide, by decide⟩ (by unfold BdM BdR; decide) (by unfold BdM BdR; decide) (by decide) (by decide) (by decide)
  have o1 : FnD prog 16 [vi 1] (eI 1) [] := rof_ok 1 (by decide) (by decide)
  have o2 : FnD prog 16 [vi (-1)] (eI (-1)) [] := rof_ok (-1) (by decide) (by decide)
  have o3 : FnD prog 16 [vi (-2)] (eI (-2)) [] := rof_ok (-2) (by decide) (by decide)
  have h5 : FnD prog 35 [vs (row [1, -1]), eM 2 2 [[1, 2], [3, 4]]] (eRE [-2, -2] 0) [] := by
    have := mtimes_ok (r := 2) (c := 2) (K := 9) (v := [1, -1]) (a := [[1, 2], [3, 4]]) ⟨by decide, by decide⟩ (by decide) (by unfold BdM BdR; decide) (by unfold BdR; decide) (by decide) (by decide) (by decide)
    rw [show tableR 2 (fun j => dsum (elr [1, -1]) (fun k => el [[1, 2], [3, 4]] k j) 2) = [-2, -2] by decide] at this
    exact this
  have h6 : FnD prog 70 [vi 1, vi 2, vs (ints [3, 4])] (eM 1 2 [[3, 4]]) [] := FnD.frz (q_ints (r := 1) (c := 2) (by decide) (by decide) (by decide) (by decide))
  have h7 : FnD prog 25 [eM 1 2 [[1, 2]], eM 1 2 [[3, 4]]] (eME 2 2 [[1, 2], [3, 4]] 0) [] := stack_ok (r := 1) (s := 1) (c := 2) (a := [[1, 2]]) (b := [[3, 4]]) (by decide) (by decide) (by decide) (by decide)
  have h8 : FnD prog 70 [vi 2, vi 1, vs (ints [1, 2])] (eM 2 1 [[1], [2]]) [] := FnD.frz (q_ints (r := 2) (c := 1) (by decide) (by decide) (by decide) (by decide))
  have h9 : FnD prog 70 [vi 2, vi 1, vs (ints [3, 4])] (eM 2 1 [[3], [4]]) [] := FnD.frz (q_ints (r := 2) (c := 1) (by decide) (by decide) (by decide) (by decide))
  have h10 : FnD prog 26 [eM 2 1 [[1], [2]], eM 2 1 [[3], [4]]] (eME 2 2 [[1, 3], [2, 4]] 0) [] := by
    have := beside_ok (r := 2) (c := 1) (d := 1) (a := [[1], [2]]) (b := [[3], [4]]) ⟨by decide, by decide⟩ ⟨by decide, by decide⟩ (by decide) (by decide) (by decide)
    rw [show (table 2 (1 + 1) fun i j => if j < 1 then el [[1], [2]] i j else el [[3], [4]] i (j - 1)) = [[1, 3], [2, 4]] by decide] at this
    exact this
  have h11 : FnD prog 70 [vi 2, vi 3, vs (ints [1, 2, 3, 4, 5, 6])] (eM 2 3 [[1, 2, 3], [4, 5, 6]]) [] := FnD.frz (q_ints (r := 2) (c := 3) (by decide) (by decide) (by decide) (by decide))
  have h12 : FnD prog 30 [eM 2 3 [[1, 2, 3], [4, 5, 6]], vs (ints [1, 1]), vs (ints [2, 0])] (eME 2 2 [[6, 4], [6, 4]] 0) [] := by
    have := pick_ok (r := 2) (c := 3) (a := [[1, 2, 3], [4, 5, 6]]) (p := [1, 1]) (q := [2, 0]) ⟨by decide, by decide⟩ (by decide) (by decide) (by decide) (by decide) (by decide) (by decide)
    rw [show (table [(1 : Int), 1].length [(2 : Int), 0].length fun i j => el [[1, 2, 3], [4, 5, 6]] (elr [1, 1] i).toNat (elr [2, 0] j).toNat) = [[6, 4], [6, 4]] by decide] at this
    exact this
  have h13 : FnD prog 33 [vi 2, vi 0] (eM 2 0 [[], []]) [] := FnD.frz (rnew_ok (r := 2) (c := 0) (by decide) (by decide))
  have h14 : FnD prog 33 [vi 0, vi 3] (eM 0 3 []) [] := FnD.frz (rnew_ok (r := 0) (c := 3) (by decide) (by decide))
  have h15 : FnD prog 20 [eM 2 0 [[], []], eM 0 3 []] (eME 2 3 [[0, 0, 0], [0, 0, 0]] 0) [] := q_mul (r := 2) (n := 0) (c := 3) (by decide) ⟨by decide, by decide⟩ ⟨by decide, by decide⟩ (by unfold BdM BdR; decide) (by unfold BdM BdR; decide) (by decide) (by decide) (by decide)
  have h16 : FnD prog 20 [eM 1 2 [[1, 2]], eM 1 2 [[1, 2]]] (eME 0 0 [] 50) [] := mmul_bad (by decide)
  have h17 : FnD prog 30 [eM 2 2 [[1, 2], [3, 4]], vs (ints [2]), vs (ints [])] (eME 0 0 [] 1) [] := pick_bad (by decide) (by decide) (.inl (by decide))
  have h18 : FnD prog 38 [vs (row [1]), vs (row [])] (eIE 0 50) [] := mdot_bad (by decide)
  have h19 : FnD prog 70 [vi 2, vi 2, vs (ints [2, 1, 4, 3])] (eM 2 2 [[2, 1], [4, 3]]) [] := FnD.frz (q_ints (r := 2) (c := 2) (by decide) (by decide) (by decide) (by decide))
  have same : ∀ (r c : Nat) (m : List (List Int)), Mx r c m → BdM 9 m → r ≤ 9 → c ≤ 9 → FnD prog 23 [eM r c m, eM r c m] (vb true) [] := fun r c m hm hk hr hc => same_yes hm hk hk rfl (by omega) (by omega) (by decide)
  have h20 : FnD prog 23 [eM 2 2 [[2, 1], [4, 3]], eM 2 2 [[2, 1], [4, 3]]] (vb true) [] := same 2 2 _ ⟨by decide, by decide⟩ (by unfold BdM BdR; decide) (by decide) (by decide)
  have h21 : FnD prog 37 [vs (row [-2, -2]), vs (row [-2, -2])] (vb true) [] := by
    have := sameVec_ok (a := [-2, -2]) (b := [-2, -2]) (BdR.sz (K := 9) (by unfold BdR; decide) (by decide)) (BdR.sz (K := 9) (by unfold BdR; decide) (by decide)) (by decide)
    exact this
  have h22 : FnD prog 33 [vi 2, vi 3] (eM 2 3 [[0, 0, 0], [0, 0, 0]]) [] := FnD.frz (rnew_ok (r := 2) (c := 3) (by decide) (by decide))
  have h23 : FnD prog 23 [eM 2 3 [[0, 0, 0], [0, 0, 0]], eM 2 3 [[0, 0, 0], [0, 0, 0]]] (vb true) [] := same 2 3 _ ⟨by decide, by decide⟩ (by unfold BdM BdR; decide) (by decide) (by decide)
  have h24 : FnD prog 23 [eM 2 2 [[1, 2], [3, 4]], eM 2 2 [[1, 2], [3, 4]]] (vb true) [] := same 2 2 _ ⟨by decide, by decide⟩ (by unfold BdM BdR; decide) (by decide) (by decide)
  have h25 : FnD prog 70 [vi 2, vi 2, vs (ints [1, 3, 2, 4])] (eM 2 2 [[1, 3], [2, 4]]) [] := FnD.frz (q_ints (r := 2) (c := 2) (by decide) (by decide) (by decide) (by decide))
  have h26 : FnD prog 23 [eM 2 2 [[1, 3], [2, 4]], eM 2 2 [[1, 3], [2, 4]]] (vb true) [] := same 2 2 _ ⟨by decide, by decide⟩ (by unfold BdM BdR; decide) (by decide) (by decide)
  have h27 : FnD prog 70 [vi 2, vi 2, vs (ints [6, 4, 6, 4])] (eM 2 2 [[6, 4], [6, 4]]) [] := FnD.frz (q_ints (r := 2) (c := 2) (by decide) (by decide) (by decide) (by decide))
  have h28 : FnD prog 23 [eM 2 2 [[6, 4], [6, 4]], eM 2 2 [[6, 4], [6, 4]]] (vb true) [] := same 2 2 _ ⟨by decide, by decide⟩ (by unfold BdM BdR; decide) (by decide) (by decide)
  have h29 : FnD prog 56 [vi 2] (eM 2 2 [[1, 0], [0, 1]]) [] := mident_ok (n := 2) (by decide)
  have h30 : FnD prog 49 [vi 2] (eM 2 2 [[1, 0], [0, 1]]) [] := FnD.frz (rident_ok (n := 2) (by decide))
  have h31 : FnD prog 23 [eM 2 2 [[1, 0], [0, 1]], eM 2 2 [[1, 0], [0, 1]]] (vb true) [] := same 2 2 _ ⟨by decide, by decide⟩ (by unfold BdM BdR; decide) (by decide) (by decide)
  have h32 : FnD prog 17 [eM 2 2 [[1, 2], [3, 4]]] (vb true) [] := mvalid_ok (r := 2) (c := 2) ⟨by decide, by decide⟩ (BdM.sz (K := 9) (by unfold BdM BdR; decide) (by decide)) (by decide) (by decide)
  have h33 : FnD prog 17 [eM 1 0 []] (vb false) [] := mvalid_bad (by decide)
  have h34 : FnD prog 41 [vs (row [])] (vb true) [] := mzero_ok (r := []) (by decide)
  have h35 : FnD prog 41 [vs (row [1, 2])] (vb false) [] := mzero_ok (r := [1, 2]) (by decide)
  refine vc14_ok (R := Out _) ?_
  unfold vc14
  refine ⟨_, _, _, h1, _, _, _, h2, ?_⟩
  refine ⟨_, _, _, _, _, _, _, h3, h4, ?_⟩
  refine ⟨_, _, _, _, _, _, o1, o2, h5, ?_⟩
  refine ⟨_, _, _, _, _, _, _, h6, h7, ?_⟩
  refine ⟨_, _, _, _, _, _, _, _, _, _, h8, h9, h10, ?_⟩
  refine ⟨_, _, _, _, _, _, _, h11, h12, ?_⟩
  refine ⟨_, _, _, _, _, _, _, _, _, _, h13, h14, h15, ?_⟩
  refine ⟨_, _, _, _, h16, ?_⟩
  refine ⟨_, _, _, _, h17, ?_⟩
  refine ⟨_, _, _, _, _, o1, h18, ?_⟩
  refine ⟨fun _ => ?_, fun h => absurd h (by decide)⟩
  refine ⟨_, _, _, true, h19, h20, fun _ => ?_, fun h => absurd h (by decide)⟩
  refine ⟨fun _ => ?_, fun h => absurd h (by decide)⟩
  refine ⟨_, _, _, _, true, o3, o3, h21, fun _ => ?_, fun h => absurd h (by decide)⟩
  refine ⟨fun _ => ?_, fun h => absurd h (by decide)⟩
  refine ⟨_, _, _, true, h22, h23, fun _ => ?_, fun h => absurd h (by decide)⟩
  refine ⟨true, h24, fun _ => ?_, fun h => absurd h (by decide)⟩
  refine ⟨fun _ => ?_, fun h => absurd h (by decide)⟩
  refine ⟨_, _, _, true, h25, h26, fun _ => ?_, fun h => absurd h (by decide)⟩
  refine ⟨fun _ => ?_, fun h => absurd h (by decide)⟩
  refine ⟨_, _, _, true, h27, h28, ?_⟩
  refine ⟨fun _ => ⟨fun _ => ⟨fun _ => ⟨fun _ => ⟨fun _ => ?_, fun h => absurd h (by decide)⟩, fun h => absurd h (by decide)⟩, fun h => absurd h (by decide)⟩, fun h => absurd h (by decide)⟩, fun h => absurd h (by decide)⟩
  refine ⟨_, _, _, _, _, _, true, h29, h30, h31, fun _ => ?_, fun h => absurd h (by decide)⟩
  refine ⟨true, h32, fun _ => ?_, fun h => absurd h (by decide)⟩
  refine ⟨false, h33, fun _ => ?_, fun h => absurd h (by decide)⟩
  refine ⟨true, h34, fun _ => ?_, fun h => absurd h (by decide)⟩
  exact ⟨_, false, by decide, rfl, h35, rfl, rfl⟩

end Go.AM

/- What functions of the program come to: group P11. Printed by vc.py. -/
set_option maxRecDepth 100000
set_option linter.unusedVariables false

namespace Go.AM
open Go.Proofs.Try

/- f11 torsion/torsionlaw05.MatrixRing -/
def vc11 (x0 : Int) (x1 : Int) (x2 : Int) (x3 : Int) (x4 : List (List D)) (x5 : List (List D)) (x6 : List (List D)) (d : List (List D)) (R : V → Heap → Prop) : Prop :=
  ∃ (r : Bool),
  (FnD prog 14 [] (vD (dB r)) []) ∧
  (∃ (r0 : Int) (r1 : Int) (r2 : List (List D)) (r01 : Int) (r11 : Int) (r21 : List (List D)) (r02 : Int) (r12 : Int) (r22 : List (List D)),
  (FnD prog 19 [(vA [(sD (D.int .u8 x0)), (sD (D.int .u8 x1)), (sD (D.int .u8 x2)), (sD (D.int .u8 x3)), (sD (dL x4)), (sD (dL x5)), (sD (dL x6))])] (V.tup [(E.agg [(sD (dI r0)), (sD (dI r1)), (sD (dL r2))]), (E.agg [(sD (dI r01)), (sD (dI r11)), (sD (dL r21))]), (E.agg [(sD (dI r02)), (sD (dI r12)), (sD (dL r22))])]) []) ∧
  (∃ (r03 : Int) (r13 : Int) (rrows : List (List (List D))),
  (FnD prog 24 [(vD (dI r01)), (vD (dI r11)), (vD (dL d))] (vA [(sD (dI r03)), (sD (dI r13)), (S.ref 0)]) [(some (Obj.mat 2 rrows))]) ∧
  (∃ (r04 : Int) (r14 : Int) (r23 : List (List D)) (r3 : Int),
  (FnD prog 20 [(vA [(sD (dI r0)), (sD (dI r1)), (sD (dL r2))]), (vA [(sD (dI r01)), (sD (dI r11)), (sD (dL r21))])] (V.tup [(E.agg [(sD (dI r04)), (sD (dI r14)), (sD (dL r23))]), (eD (dI r3))]) []) ∧
  (∃ (r05 : Int) (r15 : Int) (r24 : List (List D)) (r4 : Int),
  (FnD prog 20 [(vA [(sD (dI r01)), (sD (dI r11)), (sD (dL r21))]), (vA [(sD (dI r02)), (sD (dI r12)), (sD (dL r22))])] (V.tup [(E.agg [(sD (dI r05)), (sD (dI r15)), (sD (dL r24))]), (eD (dI r4))]) []) ∧
  (∃ (r06 : Int) (r16 : Int) (r25 : List (List D)) (r5 : Int),
  (FnD prog 55 [(vA [(sD (dI r01)), (sD (dI r11)), (sD (dL r21))]), (vA [(sD (dI r03)), (sD (dI r13)), (sD (dL (matD rrows)))])] (V.tup [(E.agg [(sD (dI r06)), (sD (dI r16)), (sD (dL r25))]), (eD (dI r5))]) []) ∧
  (∃ (r07 : Int) (r17 : Int) (r26 : List (List D)) (r6 : Int),
  (FnD prog 55 [(vA [(sD (dI r03)), (sD (dI r13)), (sD (dL (matD rrows)))]), (vA [(sD (dI r01)), (sD (dI r11)), (sD (dL r21))])] (V.tup [(E.agg [(sD (dI r07)), (sD (dI r17)), (sD (dL r26))]), (eD (dI r6))]) []) ∧
  (((r3 != (0 : Int)) = true →
    R (vD (dB false)) []) ∧
  ((r3 != (0 : Int)) = false →
    ((r4 != (0 : Int)) = true →
      R (vD (dB false)) []) ∧
    ((r4 != (0 : Int)) = false →
      ((r5 != (0 : Int)) = true →
        R (vD (dB false)) []) ∧
      ((r5 != (0 : Int)) = false →
        ((r6 != (0 : Int)) = true →
          R (vD (dB false)) []) ∧
        ((r6 != (0 : Int)) = false →
          ∃ (r7 : Bool),
          (FnD prog 22 [(vA [(sD (dI r04)), (sD (dI r14)), (sD (dL r23))]), (vD (dI r0)), (vD (dI r11))] (vD (dB r7)) []) ∧
          (((!r7) = true →
            R (vD (dB false)) []) ∧
          ((!r7) = false →
            ∃ (r8 : Bool),
            (FnD prog 22 [(vA [(sD (dI r05)), (sD (dI r15)), (sD (dL r24))]), (vD (dI r01)), (vD (dI r12))] (vD (dB r8)) []) ∧
            (((!r8) = true →
              R (vD (dB false)) []) ∧
            ((!r8) = false →
              ∃ (r9 : Bool),
              (FnD prog 22 [(vA [(sD (dI r06)), (sD (dI r16)), (sD (dL r25))]), (vD (dI r01)), (vD (dI r11))] (vD (dB r9)) []) ∧
              (((!r9) = true →
                R (vD (dB false)) []) ∧
              ((!r9) = false →
                ∃ (r08 : Int) (r18 : Int) (r27 : List (List D)) (r10 : Int),
                (FnD prog 20 [(vA [(sD (dI r04)), (sD (dI r14)), (sD (dL r23))]), (vA [(sD (dI r02)), (sD (dI r12)), (sD (dL r22))])] (V.tup [(E.agg [(sD (dI r08)), (sD (dI r18)), (sD (dL r27))]), (eD (dI r10))]) []) ∧
                (∃ (r09 : Int) (r19 : Int) (r28 : List (List D)) (r20 : Int),
                (FnD prog 20 [(vA [(sD (dI r0)), (sD (dI r1)), (sD (dL r2))]), (vA [(sD (dI r05)), (sD (dI r15)), (sD (dL r24))])] (V.tup [(E.agg [(sD (dI r09)), (sD (dI r19)), (sD (dL r28))]), (eD (dI r20))]) []) ∧
                (∃ (r010 : Int) (r110 : Int) (r29 : List (List D)) (r30 : Int),
                (FnD prog 20 [(vA [(sD (dI r0)), (sD (dI r1)), (sD (dL r2))]), (vA [(sD (dI r06)), (sD (dI r16)), (sD (dL r25))])] (V.tup [(E.agg [(sD (dI r010)), (sD (dI r110)), (sD (dL r29))]), (eD (dI r30))]) []) ∧
                (∃ (r011 : Int) (r111 : Int) (r210 : List (List D)) (r31 : Int),
                (FnD prog 20 [(vA [(sD (dI r0)), (sD (dI r1)), (sD (dL r2))]), (vA [(sD (dI r03)), (sD (dI r13)), (sD (dL (matD rrows)))])] (V.tup [(E.agg [(sD (dI r011)), (sD (dI r111)), (sD (dL r210))]), (eD (dI r31))]) []) ∧
                (((r10 != (0 : Int)) = true →
                  R (vD (dB false)) []) ∧
                ((r10 != (0 : Int)) = false →
                  ((r20 != (0 : Int)) = true →
                    R (vD (dB false)) []) ∧
                  ((r20 != (0 : Int)) = false →
                    ((r30 != (0 : Int)) = true →
                      R (vD (dB false)) []) ∧
                    ((r30 != (0 : Int)) = false →
                      ((r31 != (0 : Int)) = true →
                        R (vD (dB false)) []) ∧
                      ((r31 != (0 : Int)) = false →
                        ∃ (r32 : Bool),
                        (FnD prog 22 [(vA [(sD (dI r011)), (sD (dI r111)), (sD (dL r210))]), (vD (dI r0)), (vD (dI r11))] (vD (dB r32)) []) ∧
                        (((!r32) = true →
                          R (vD (dB false)) []) ∧
                        ((!r32) = false →
                          ∃ (r012 : Int) (r112 : Int) (r211 : List (List D)) (r33 : Int),
                          (FnD prog 55 [(vA [(sD (dI r04)), (sD (dI r14)), (sD (dL r23))]), (vA [(sD (dI r011)), (sD (dI r111)), (sD (dL r210))])] (V.tup [(E.agg [(sD (dI r012)), (sD (dI r112)), (sD (dL r211))]), (eD (dI r33))]) []) ∧
                          (∃ (r013 : Int) (r113 : Int) (r212 : List (List D)) (r014 : Int) (r114 : Int) (r213 : List (List D)) (r34 : Int),
                          (FnD prog 56 [(vD (dI r1))] (vA [(sD (dI r013)), (sD (dI r113)), (sD (dL r212))]) []) ∧
                          (FnD prog 20 [(vA [(sD (dI r0)), (sD (dI r1)), (sD (dL r2))]), (vA [(sD (dI r013)), (sD (dI r113)), (sD (dL r212))])] (V.tup [(E.agg [(sD (dI r014)), (sD (dI r114)), (sD (dL r213))]), (eD (dI r34))]) []) ∧
                          (∃ (r015 : Int) (r115 : Int) (r214 : List (List D)) (r35 : Int),
                          (FnD prog 57 [(vA [(sD (dI r06)), (sD (dI r16)), (sD (dL r25))]), (vA [(sD (dI r03)), (sD (dI r13)), (sD (dL (matD rrows)))])] (V.tup [(E.agg [(sD (dI r015)), (sD (dI r115)), (sD (dL r214))]), (eD (dI r35))]) []) ∧
                          (((r33 == (0 : Int)) = true →
                            ((r34 == (0 : Int)) = true →
                              ((r35 == (0 : Int)) = true →
                                ∃ (r36 : Bool),
                                (FnD prog 23 [(vA [(sD (dI r08)), (sD (dI r18)), (sD (dL r27))]), (vA [(sD (dI r09)), (sD (dI r19)), (sD (dL r28))])] (vD (dB r36)) []) ∧
                                ((r36 = true →
                                  ∃ (r37 : Bool),
                                  (FnD prog 23 [(vA [(sD (dI r010)), (sD (dI r110)), (sD (dL r29))]), (vA [(sD (dI r012)), (sD (dI r112)), (sD (dL r211))])] (vD (dB r37)) []) ∧
                                  ((r37 = true →
                                    ∃ (r38 : Bool),
                                    (FnD prog 23 [(vA [(sD (dI r06)), (sD (dI r16)), (sD (dL r25))]), (vA [(sD (dI r07)), (sD (dI r17)), (sD (dL r26))])] (vD (dB r38)) []) ∧
                                    ((r38 = true →
                                      ∃ (r39 : Bool),
                                      (FnD prog 23 [(vA [(sD (dI r014)), (sD (dI r114)), (sD (dL r213))]), (vA [(sD (dI r0)), (sD (dI r1)), (sD (dL r2))])] (vD (dB r39)) []) ∧
                                      ((r39 = true →
                                        ∃ (r40 : Bool),
                                        (FnD prog 23 [(vA [(sD (dI r015)), (sD (dI r115)), (sD (dL r214))]), (vA [(sD (dI r01)), (sD (dI r11)), (sD (dL r21))])] (vD (dB r40)) []) ∧
                                        ((r40 = true →
                                          R (vD (dB r)) []) ∧
                                        (r40 = false →
                                          R (vD (dB false)) []))) ∧
                                      (r39 = false →
                                        R (vD (dB false)) []))) ∧
                                    (r38 = false →
                                      R (vD (dB false)) []))) ∧
                                  (r37 = false →
                                    R (vD (dB false)) []))) ∧
                                (r36 = false →
                                  R (vD (dB false)) []))) ∧
                              ((r35 == (0 : Int)) = false →
                                R (vD (dB false)) [])) ∧
                            ((r34 == (0 : Int)) = false →
                              R (vD (dB false)) [])) ∧
                          ((r33 == (0 : Int)) = false →
                            R (vD (dB false)) [])))))))))))))))))))))))))))))))

theorem vc11_ok (x0 : Int) (x1 : Int) (x2 : Int) (x3 : Int) (x4 : List (List D)) (x5 : List (List D)) (x6 : List (List D)) (d : List (List D)) {R : V → Heap → Prop} (h : vc11 x0 x1 x2 x3 x4 x5 x6 d R) : FnG prog 11 [(vA [(sD (D.int .u8 x0)), (sD (D.int .u8 x1)), (sD (D.int .u8 x2)), (sD (D.int .u8 x3)), (sD (dL x4)), (sD (dL x5)), (sD (dL x6))]), (vD (dL d))] [] R :=
  FnG.vcg hT func11 ntmps11 (.reg 1 [(0, Or.none, 0, 1)] [1, 2] [0] [] <| .exb fun r => .reg 0 [(0, (Or.call (vD (dB r)) [] []), 0, 0)] [1, 2, 5] [0] [] <| .ex fun r0 => .ex fun r1 => .exl fun r2 => .ex fun r01 => .ex fun r11 => .exl fun r21 => .ex fun r02 => .ex fun r12 => .exl fun r22 => .reg 3 [(1, (Or.call (V.tup [(E.agg [(sD (dI r0)), (sD (dI r1)), (sD (dL r2))]), (E.agg [(sD (dI r01)), (sD (dI r11)), (sD (dL r21))]), (E.agg [(sD (dI r02)), (sD (dI r12)), (sD (dL r22))])]) [] []), 0, 0), (6, Or.none, 1, 1), (7, Or.none, 2, 1), (8, Or.none, 3, 1)] [1, 5, 6, 7, 8] [1, 2, 3] [] <| .ex fun r03 => .ex fun r13 => .exm fun rrows => .reg 2 [(5, (Or.call (vA [(sD (dI r03)), (sD (dI r13)), (S.ref 0)]) [(some (Obj.mat 2 rrows))] []), 3, 1), (6, Or.none, 4, 1)] [5, 6, 7, 8, 9] [0, 1, 2, 4, 3] [] <| .ex fun r04 => .ex fun r14 => .exl fun r23 => .ex fun r3 => .reg 1 [(2, (Or.call (V.tup [(E.agg [(sD (dI r04)), (sD (dI r14)), (sD (dL r23))]), (eD (dI r3))]) [] []), 0, 0), (6, Or.none, 5, 1)] [5, 6, 7, 8, 9, 10, 11] [0, 1, 2, 3, 5, 4] [] <| .ex fun r05 => .ex fun r15 => .exl fun r24 => .ex fun r4 => .reg 1 [(2, (Or.call (V.tup [(E.agg [(sD (dI r05)), (sD (dI r15)), (sD (dL r24))]), (eD (dI r4))]) [] []), 0, 0), (6, Or.none, 6, 1)] [5, 6, 7, 8, 9, 10, 11, 12, 13] [0, 1, 2, 3, 4, 6, 5] [] <| .frz [6] <| .ex fun r06 => .ex fun r16 => .exl fun r25 => .ex fun r5 => .reg 1 [(2, (Or.call (V.tup [(E.agg [(sD (dI r06)), (sD (dI r16)), (sD (dL r25))]), (eD (dI r5))]) [] []), 0, 0), (6, Or.none, 7, 1)] [5, 6, 7, 8, 9, 10, 11, 12, 13, 14, 15] [0, 1, 2, 3, 4, 5, 7] [] <| .ex fun r07 => .ex fun r17 => .exl fun r26 => .ex fun r6 => .reg 1 [(2, (Or.call (V.tup [(E.agg [(sD (dI r07)), (sD (dI r17)), (sD (dL r26))]), (eD (dI r6))]) [] []), 0, 0), (6, Or.none, 7, 1)] [5, 6, 7, 8, 9, 10, 11, 12, 13, 14, 15, 16, 17] [0, 1, 2, 3, 4, 5, 6, 7] [] <| .spl ((r3 != (0 : Int))) (.reg 0 [(2, (Or.bool true), 0, 0)] [5, 6, 7, 8, 9, 10, 12, 14, 16, 109] [0, 1, 2, 3, 4, 5, 6, 7] [.old 0] <| .ct true none <| .r0 [4] <| .ret []) (.spl ((r4 != (0 : Int))) (.reg 0 [(2, (Or.bool false), 0, 0), (6, (Or.bool true), 0, 0)] [5, 6, 7, 8, 9, 10, 12, 14, 16, 109] [0, 1, 2, 3, 4, 5, 6, 7] [.old 1, .old 0] <| .ct true none <| .r0 [4] <| .ret []) (.spl ((r5 != (0 : Int))) (.reg 0 [(2, (Or.bool false), 0, 0), (6, (Or.bool false), 0, 0), (10, (Or.bool true), 0, 0)] [5, 6, 7, 8, 9, 10, 12, 14, 16, 109] [0, 1, 2, 3, 4, 5, 6, 7] [.old 2, .old 1, .old 0] <| .ct true none <| .r0 [4] <| .ret []) (.spl ((r6 != (0 : Int))) (.reg 0 [(2, (Or.bool false), 0, 0), (6, (Or.bool false), 0, 0), (10, (Or.bool false), 0, 0), (14, (Or.bool true), 0, 0)] [5, 6, 7, 8, 9, 10, 12, 14, 16, 109] [0, 1, 2, 3, 4, 5, 6, 7] [.old 3, .old 2, .old 1, .old 0] <| .ct true none <| .r0 [4] <| .ret []) (.exb fun r7 => .ob (FnD prog 22 [(vA [(sD (dI r04)), (sD (dI r14)), (sD (dL r23))]), (vD (dI r0)), (vD (dI r11))] (vD (dB r7)) []) <| .spl ((!r7)) (.reg 0 [(2, (Or.bool false), 0, 0), (6, (Or.bool false), 0, 0), (10, (Or.bool false), 0, 0), (14, (Or.bool false), 0, 0), (20, (Or.call (vD (dB r7)) [] []), 0, 0), (23, (Or.bool true), 0, 0)] [5, 6, 7, 8, 9, 10, 12, 14, 16, 109] [0, 1, 2, 3, 4, 5, 6, 7] [.old 5, .old 4, .old 3, .old 2, .old 1, .old 0] <| .ct true none <| .r0 [4] <| .ret []) (.exb fun r8 => .ob (FnD prog 22 [(vA [(sD (dI r05)), (sD (dI r15)), (sD (dL r24))]), (vD (dI r01)), (vD (dI r12))] (vD (dB r8)) []) <| .spl ((!r8)) (.reg 0 [(2, (Or.bool false), 0, 0), (6, (Or.bool false), 0, 0), (10, (Or.bool false), 0, 0), (14, (Or.bool false), 0, 0), (20, (Or.call (vD (dB r7)) [] []), 0, 0), (23, (Or.bool false), 0, 0), (29, (Or.call (vD (dB r8)) [] []), 0, 0), (32, (Or.bool true), 0, 0)] [5, 6, 7, 8, 9, 10, 12, 14, 16, 109] [0, 1, 2, 3, 4, 5, 6, 7] [.old 7, .old 6, .old 5, .old 4, .old 3, .old 2, .old 1, .old 0] <| .ct true none <| .r0 [4] <| .ret []) (.exb fun r9 => .reg 0 [(2, (Or.bool false), 0, 0), (6, (Or.bool false), 0, 0), (10, (Or.bool false), 0, 0), (14, (Or.bool false), 0, 0), (20, (Or.call (vD (dB r7)) [] []), 0, 0), (23, (Or.bool false), 0, 0), (29, (Or.call (vD (dB r8)) [] []), 0, 0), (32, (Or.bool false), 0, 0), (38, (Or.call (vD (dB r9)) [] []), 0, 0)] [5, 6, 7, 8, 9, 10, 12, 14, 16, 109] [0, 1, 2, 3, 4, 5, 6, 7] [.old 7, .old 6, .old 5, .old 4, .old 3, .old 2, .old 1, .old 0] <| .c2 (.r0 [4] <| .ret []) (.ex fun r08 => .ex fun r18 => .exl fun r27 => .ex fun r10 => .reg 1 [(2, (Or.call (V.tup [(E.agg [(sD (dI r08)), (sD (dI r18)), (sD (dL r27))]), (eD (dI r10))]) [] []), 0, 0), (6, Or.none, 8, 1)] [5, 6, 7, 9, 10, 12, 14, 16, 18, 19] [0, 1, 3, 4, 5, 6, 7, 8] [] <| .ex fun r09 => .ex fun r19 => .exl fun r28 => .ex fun r20 => .reg 1 [(2, (Or.call (V.tup [(E.agg [(sD (dI r09)), (sD (dI r19)), (sD (dL r28))]), (eD (dI r20))]) [] []), 0, 0), (6, Or.none, 8, 1)] [5, 6, 7, 9, 10, 14, 16, 18, 19, 20, 21] [0, 1, 2, 3, 5, 6, 7, 8] [] <| .ex fun r010 => .ex fun r110 => .exl fun r29 => .ex fun r30 => .reg 1 [(2, (Or.call (V.tup [(E.agg [(sD (dI r010)), (sD (dI r110)), (sD (dL r29))]), (eD (dI r30))]) [] []), 0, 0), (6, Or.none, 8, 1)] [5, 6, 7, 9, 10, 14, 16, 18, 19, 20, 21, 22, 23] [0, 1, 2, 3, 4, 5, 6, 7, 8] [] <| .ex fun r011 => .ex fun r111 => .exl fun r210 => .ex fun r31 => .reg 1 [(2, (Or.call (V.tup [(E.agg [(sD (dI r011)), (sD (dI r111)), (sD (dL r210))]), (eD (dI r31))]) [] []), 0, 0), (6, Or.none, 9, 1)] [5, 6, 7, 9, 10, 14, 16, 18, 19, 20, 21, 22, 23, 24, 25] [0, 1, 2, 3, 4, 5, 6, 7, 8, 9] [] <| .spl ((r10 != (0 : Int))) (.reg 0 [(2, (Or.bool true), 0, 0)] [5, 6, 7, 9, 10, 14, 16, 18, 20, 22, 24, 156] [0, 1, 2, 3, 4, 5, 6, 7, 8, 9] [.old 0] <| .ct true none <| .r0 [4] <| .ret []) (.spl ((r20 != (0 : Int))) (.reg 0 [(2, (Or.bool false), 0, 0), (6, (Or.bool true), 0, 0)] [5, 6, 7, 9, 10, 14, 16, 18, 20, 22, 24, 156] [0, 1, 2, 3, 4, 5, 6, 7, 8, 9] [.old 1, .old 0] <| .ct true none <| .r0 [4] <| .ret []) (.spl ((r30 != (0 : Int))) (.reg 0 [(2, (Or.bool false), 0, 0), (6, (Or.bool false), 0, 0), (10, (Or.bool true), 0, 0)] [5, 6, 7, 9, 10, 14, 16, 18, 20, 22, 24, 156] [0, 1, 2, 3, 4, 5, 6, 7, 8, 9] [.old 2, .old 1, .old 0] <| .ct true none <| .r0 [4] <| .ret []) (.spl ((r31 != (0 : Int))) (.reg 0 [(2, (Or.bool false), 0, 0), (6, (Or.bool false), 0, 0), (10, (Or.bool false), 0, 0), (14, (Or.bool true), 0, 0)] [5, 6, 7, 9, 10, 14, 16, 18, 20, 22, 24, 156] [0, 1, 2, 3, 4, 5, 6, 7, 8, 9] [.old 3, .old 2, .old 1, .old 0] <| .ct true none <| .r0 [4] <| .ret []) (.exb fun r32 => .reg 0 [(2, (Or.bool false), 0, 0), (6, (Or.bool false), 0, 0), (10, (Or.bool false), 0, 0), (14, (Or.bool false), 0, 0), (20, (Or.call (vD (dB r32)) [] []), 0, 0)] [5, 6, 7, 9, 10, 14, 16, 18, 20, 22, 24, 156] [0, 1, 2, 3, 4, 5, 6, 7, 8, 9] [.old 3, .old 2, .old 1, .old 0] <| .c2 (.r0 [4] <| .ret []) (.ex fun r012 => .ex fun r112 => .exl fun r211 => .ex fun r33 => .reg 1 [(2, (Or.call (V.tup [(E.agg [(sD (dI r012)), (sD (dI r112)), (sD (dL r211))]), (eD (dI r33))]) [] []), 0, 0), (6, Or.none, 10, 1)] [5, 6, 7, 9, 14, 16, 18, 20, 22, 26, 27] [0, 1, 2, 4, 5, 6, 7, 8, 10] [] <| .ex fun r013 => .ex fun r113 => .exl fun r212 => .ex fun r014 => .ex fun r114 => .exl fun r213 => .ex fun r34 => .drw 1 [(3, ((Or.call (vA [(sD (dI r013)), (sD (dI r113)), (sD (dL r212))]) [] []), 0, 0), []), (4, ((Or.call (V.tup [(E.agg [(sD (dI r014)), (sD (dI r114)), (sD (dL r213))]), (eD (dI r34))]) [] []), 0, 0), []), (8, (Or.none, 9, 1), [9]), (9, (Or.none, 0, 0), [9])] [5, 6, 7, 9, 14, 16, 18, 20, 22, 26, 27, 28, 29] [0, 1, 2, 3, 4, 5, 6, 7, 8, 9] [] <| .ex fun r015 => .ex fun r115 => .exl fun r214 => .ex fun r35 => .reg 1 [(2, (Or.call (V.tup [(E.agg [(sD (dI r015)), (sD (dI r115)), (sD (dL r214))]), (eD (dI r35))]) [] []), 0, 0), (6, Or.none, 10, 1)] [5, 6, 7, 14, 16, 18, 20, 22, 26, 27, 28, 29, 30, 31] [0, 1, 3, 4, 5, 6, 7, 8, 9, 10] [] <| .spl ((r33 == (0 : Int))) (.spl ((r34 == (0 : Int))) (.spl ((r35 == (0 : Int))) (.exb fun r36 => .ob (FnD prog 23 [(vA [(sD (dI r08)), (sD (dI r18)), (sD (dL r27))]), (vA [(sD (dI r09)), (sD (dI r19)), (sD (dL r28))])] (vD (dB r36)) []) <| .spl r36 (.exb fun r37 => .ob (FnD prog 23 [(vA [(sD (dI r010)), (sD (dI r110)), (sD (dL r29))]), (vA [(sD (dI r012)), (sD (dI r112)), (sD (dL r211))])] (vD (dB r37)) []) <| .spl r37 (.exb fun r38 => .ob (FnD prog 23 [(vA [(sD (dI r06)), (sD (dI r16)), (sD (dL r25))]), (vA [(sD (dI r07)), (sD (dI r17)), (sD (dL r26))])] (vD (dB r38)) []) <| .spl r38 (.exb fun r39 => .ob (FnD prog 23 [(vA [(sD (dI r014)), (sD (dI r114)), (sD (dL r213))]), (vA [(sD (dI r0)), (sD (dI r1)), (sD (dL r2))])] (vD (dB r39)) []) <| .spl r39 (.exb fun r40 => .ob (FnD prog 23 [(vA [(sD (dI r015)), (sD (dI r115)), (sD (dL r214))]), (vA [(sD (dI r01)), (sD (dI r11)), (sD (dL r21))])] (vD (dB r40)) []) <| .spl r40 (.reg 0 [(2, (Or.bool true), 0, 0), (6, (Or.bool true), 0, 0), (10, (Or.bool true), 0, 0), (13, (Or.call (vD (dB r36)) [] []), 0, 0), (15, (Or.bool true), 0, 0), (18, (Or.call (vD (dB r37)) [] []), 0, 0), (20, (Or.bool true), 0, 0), (23, (Or.call (vD (dB r38)) [] []), 0, 0), (25, (Or.bool true), 0, 0), (28, (Or.call (vD (dB r39)) [] []), 0, 0), (30, (Or.bool true), 0, 0), (33, (Or.call (vD (dB r40)) [] []), 0, 0), (35, (Or.bool true), 0, 0)] [4] [] [.old 12, .old 11, .old 10, .old 9, .old 8, .old 7, .old 6, .old 5, .old 4, .old 3, .old 2, .old 1, .old 0] <| .ret []) (.reg 0 [(2, (Or.bool true), 0, 0), (6, (Or.bool true), 0, 0), (10, (Or.bool true), 0, 0), (13, (Or.call (vD (dB r36)) [] []), 0, 0), (15, (Or.bool true), 0, 0), (18, (Or.call (vD (dB r37)) [] []), 0, 0), (20, (Or.bool true), 0, 0), (23, (Or.call (vD (dB r38)) [] []), 0, 0), (25, (Or.bool true), 0, 0), (28, (Or.call (vD (dB r39)) [] []), 0, 0), (30, (Or.bool true), 0, 0), (33, (Or.call (vD (dB r40)) [] []), 0, 0), (35, (Or.bool false), 0, 0)] [4] [] [.old 12, .old 11, .old 10, .old 9, .old 8, .old 7, .old 6, .old 5, .old 4, .old 3, .old 2, .old 1, .old 0] <| .ret [])) (.reg 0 [(2, (Or.bool true), 0, 0), (6, (Or.bool true), 0, 0), (10, (Or.bool true), 0, 0), (13, (Or.call (vD (dB r36)) [] []), 0, 0), (15, (Or.bool true), 0, 0), (18, (Or.call (vD (dB r37)) [] []), 0, 0), (20, (Or.bool true), 0, 0), (23, (Or.call (vD (dB r38)) [] []), 0, 0), (25, (Or.bool true), 0, 0), (28, (Or.call (vD (dB r39)) [] []), 0, 0), (30, (Or.bool false), 0, 0)] [4] [] [.old 10, .old 9, .old 8, .old 7, .old 6, .old 5, .old 4, .old 3, .old 2, .old 1, .old 0] <| .ret [])) (.reg 0 [(2, (Or.bool true), 0, 0), (6, (Or.bool true), 0, 0), (10, (Or.bool true), 0, 0), (13, (Or.call (vD (dB r36)) [] []), 0, 0), (15, (Or.bool true), 0, 0), (18, (Or.call (vD (dB r37)) [] []), 0, 0), (20, (Or.bool true), 0, 0), (23, (Or.call (vD (dB r38)) [] []), 0, 0), (25, (Or.bool false), 0, 0)] [4] [] [.old 8, .old 7, .old 6, .old 5, .old 4, .old 3, .old 2, .old 1, .old 0] <| .ret [])) (.reg 0 [(2, (Or.bool true), 0, 0), (6, (Or.bool true), 0, 0), (10, (Or.bool true), 0, 0), (13, (Or.call (vD (dB r36)) [] []), 0, 0), (15, (Or.bool true), 0, 0), (18, (Or.call (vD (dB r37)) [] []), 0, 0), (20, (Or.bool false), 0, 0)] [4] [] [.old 6, .old 5, .old 4, .old 3, .old 2, .old 1, .old 0] <| .ret [])) (.reg 0 [(2, (Or.bool true), 0, 0), (6, (Or.bool true), 0, 0), (10, (Or.bool true), 0, 0), (13, (Or.call (vD (dB r36)) [] []), 0, 0), (15, (Or.bool false), 0, 0)] [4] [] [.old 4, .old 3, .old 2, .old 1, .old 0] <| .ret [])) (.reg 0 [(2, (Or.bool true), 0, 0), (6, (Or.bool true), 0, 0), (10, (Or.bool false), 0, 0)] [4] [] [.old 2, .old 1, .old 0] <| .ret [])) (.reg 0 [(2, (Or.bool true), 0, 0), (6, (Or.bool false), 0, 0)] [4] [] [.old 1, .old 0] <| .ret [])) (.reg 0 [(2, (Or.bool false), 0, 0)] [4] [] [.old 0] <| .ret []))))))))))))))
    (by kernel_rfl) (by kernel_rfl) (by kernel_rfl) h

end Go.AM
