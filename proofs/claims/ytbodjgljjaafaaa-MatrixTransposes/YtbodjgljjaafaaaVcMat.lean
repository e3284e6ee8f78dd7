/- What functions of the program come to: group Mat. Printed by vc.py. -/
import Derived.Test.YtbodjgljjaafaaaVcTab

set_option maxRecDepth 100000
set_option linter.unusedVariables false

namespace Go.AM
open Go.Proofs.Try

/- f76 torsion/matrix.build -/
def vc76 (rows : Int) (cols : Int) (f : FuncId) (fc : List D) (R : V → Heap → Prop) : Prop :=
  (0 ≤ rows ∧ rows ≤ rows ∧ rows * (24 : Nat) ≤ 281474976710656) ∧
  (∃ (J0 : (List (List (List D))) → Int → Prop) (μ0 : (List (List (List D))) → Int → Nat),
  J0 (List.replicate (rows).toNat ([] : List (List D))) (0 : Int) ∧ ∀ (o2 : List (List (List D))) (t16 : Int), J0 o2 t16 →
    ((decide (t16 < rows)) = true →
      (0 ≤ cols ∧ cols ≤ cols ∧ cols * (32 : Nat) ≤ 281474976710656) ∧
      (0 ≤ t16 ∧ t16 < (o2.length : Int)) ∧
      (∃ (J1 : (List (List (List D))) → Int → Prop) (μ1 : (List (List (List D))) → Int → Nat),
      J1 (o2.set (t16).toNat (List.replicate (cols).toNat [(D.bool false), (D.sl ([] : List (List D)))])) (0 : Int) ∧ ∀ (o21 : List (List (List D))) (t26 : Int), J1 o21 t26 →
        ((decide (t26 < cols)) = true →
          ∃ (r0 : Bool) (r1 : List (List D)),
          (0 ≤ t16 ∧ t16 < (o21.length : Int)) ∧
          (FnD prog f ([(V.e (E.sc (S.dat (D.int .i64 t16)))), (V.e (E.sc (S.dat (D.int .i64 t26))))] ++ fc.map dV) (V.e (E.agg [(S.dat (D.bool r0)), (S.dat (D.sl r1))])) []) ∧
          (∃ l, o21[(t16).toNat]? = some l ∧ 0 ≤ t26 ∧ t26 < (l.length : Int)) ∧
          (J1 (o21.modify (t16).toNat (fun r => r.set (t26).toNat [(D.bool r0), (D.sl r1)])) (IntKind.i64.wrap (t26 + (1 : Int))) ∧ μ1 (o21.modify (t16).toNat (fun r => r.set (t26).toNat [(D.bool r0), (D.sl r1)])) (IntKind.i64.wrap (t26 + (1 : Int))) < μ1 o21 t26)) ∧
        ((decide (t26 < cols)) = false →
          J0 o21 (IntKind.i64.wrap (t16 + (1 : Int))) ∧ μ0 o21 (IntKind.i64.wrap (t16 + (1 : Int))) < μ0 o2 t16))) ∧
    ((decide (t16 < rows)) = false →
      R (V.e (E.agg [(S.dat (D.int .i64 rows)), (S.dat (D.int .i64 cols)), (S.dat (D.sl (matD o2)))])) []))

theorem vc76_ok (rows : Int) (cols : Int) (f : FuncId) (fc : List D) {R : V → Heap → Prop} (h : vc76 rows cols f fc R) : FnG prog 76 [(V.e (E.sc (S.dat (D.int .i64 rows)))), (V.e (E.sc (S.dat (D.int .i64 cols)))), (V.e (E.sc (S.dat (D.fn (.func f) fc))))] [] R := by
  unfold vc76 at h
  refine FnG.of (m := 43) (c := _) func76 rfl (by kernel_rfl) ntmps76 (Nat.le_of_ble_eq_true rfl) ?_
  refine GoJ.seq ?_
  refine GoJ.regV hT (cnt := 1) (ins := [(Or.none, 0, 1)]) (live := [0, 1, 2, 6]) (ids := [0]) (σ' := ⟨[(0, (V.e (E.sc (S.dat (D.int .i64 rows))))), (1, (V.e (E.sc (S.dat (D.int .i64 cols))))), (2, (V.e (E.sc (S.dat (D.fn (.func f) fc))))), (6, (V.e (E.sc (S.ptr 0 0))))], [(some (Obj.box [(S.dat (D.int .i64 (0 : Int))), (S.dat (D.int .i64 (0 : Int))), (S.dat (D.raw (.slice none 0 0)))]))], 43⟩) (obs := []) (by kernel_rfl) (by kernel_rfl) (by kernel_rfl) trivial ?_
  refine GoJ.seq ?_
  obtain ⟨h1, h⟩ := h
  refine GoJ.regV hT (cnt := 2) (ins := [o0, o0, o0, (Or.none, 1, 1), o0, (Or.none, 2, 1), o0]) (live := [0, 1, 2, 6, 7]) (ids := [0, 2, 1]) (σ' := ⟨[(0, (V.e (E.sc (S.dat (D.int .i64 rows))))), (1, (V.e (E.sc (S.dat (D.int .i64 cols))))), (2, (V.e (E.sc (S.dat (D.fn (.func f) fc))))), (6, (V.e (E.sc (S.ptr 0 0)))), (7, (V.e (E.sc (S.ptr 1 0))))], [(some (Obj.box [(S.dat (D.int .i64 (0 : Int))), (S.dat (D.int .i64 (0 : Int))), (S.dat (D.raw (.slice none 0 0)))])), (some (Obj.box [(S.dat (D.int .i64 rows)), (S.dat (D.int .i64 cols)), (S.ref 2)])), (some (Obj.mat 2 (List.replicate (rows).toNat ([] : List (List D)))))], 43⟩) (obs := [0 ≤ rows ∧ rows ≤ rows ∧ rows * (24 : Nat) ≤ 281474976710656]) (by kernel_rfl) (by kernel_rfl) (by kernel_rfl) ⟨h1, trivial⟩ ?_
  refine GoJ.seq ?_
  refine GoJ.seq ?_
  refine GoJ.regV hT (cnt := 0) (ins := [o0, o0]) (live := [1, 2, 6, 7, 15, 16]) (ids := [0, 1, 2]) (σ' := ⟨[(1, (V.e (E.sc (S.dat (D.int .i64 cols))))), (2, (V.e (E.sc (S.dat (D.fn (.func f) fc))))), (6, (V.e (E.sc (S.ptr 0 0)))), (7, (V.e (E.sc (S.ptr 1 0)))), (15, (V.e (E.sc (S.dat (D.int .i64 rows))))), (16, (V.e (E.sc (S.dat (D.int .i64 (0 : Int))))))], [(some (Obj.box [(S.dat (D.int .i64 (0 : Int))), (S.dat (D.int .i64 (0 : Int))), (S.dat (D.raw (.slice none 0 0)))])), (some (Obj.box [(S.dat (D.int .i64 rows)), (S.dat (D.int .i64 cols)), (S.ref 2)])), (some (Obj.mat 2 (List.replicate (rows).toNat ([] : List (List D)))))], 43⟩) (obs := []) (by kernel_rfl) (by kernel_rfl) (by kernel_rfl) trivial ?_
  refine GoJ.block ?_
  obtain ⟨J0, μ0, hJ0, h⟩ := h
  refine GoJ.loop (X := (List (List (List D))) × Int) (fun x => (fun (o2 : List (List (List D))) (t16 : Int) => (⟨[(1, (V.e (E.sc (S.dat (D.int .i64 cols))))), (2, (V.e (E.sc (S.dat (D.fn (.func f) fc))))), (6, (V.e (E.sc (S.ptr 0 0)))), (7, (V.e (E.sc (S.ptr 1 0)))), (15, (V.e (E.sc (S.dat (D.int .i64 rows))))), (16, (V.e (E.sc (S.dat (D.int .i64 t16)))))], [(some (Obj.box [(S.dat (D.int .i64 (0 : Int))), (S.dat (D.int .i64 (0 : Int))), (S.dat (D.raw (.slice none 0 0)))])), (some (Obj.box [(S.dat (D.int .i64 rows)), (S.dat (D.int .i64 cols)), (S.ref 2)])), (some (Obj.mat 2 o2))], 43⟩ : St)) (x.1) (x.2)) (fun x => J0 (x.1) (x.2)) (fun x => μ0 (x.1) (x.2)) ((List.replicate (rows).toNat ([] : List (List D))), (0 : Int)) hJ0 ?_
  rintro ⟨o2, t16⟩ hJ0 ih0
  replace h := h o2 t16 hJ0
  refine GoJ.seq ?_
  refine GoJ.regV hT (cnt := 0) (ins := [o0]) (live := [1, 2, 6, 7, 15, 16, 17]) (ids := [0, 1, 2]) (σ' := ⟨[(1, (V.e (E.sc (S.dat (D.int .i64 cols))))), (2, (V.e (E.sc (S.dat (D.fn (.func f) fc))))), (6, (V.e (E.sc (S.ptr 0 0)))), (7, (V.e (E.sc (S.ptr 1 0)))), (15, (V.e (E.sc (S.dat (D.int .i64 rows))))), (16, (V.e (E.sc (S.dat (D.int .i64 t16))))), (17, (V.e (E.sc (S.dat (D.bool (decide (t16 < rows)))))))], [(some (Obj.box [(S.dat (D.int .i64 (0 : Int))), (S.dat (D.int .i64 (0 : Int))), (S.dat (D.raw (.slice none 0 0)))])), (some (Obj.box [(S.dat (D.int .i64 rows)), (S.dat (D.int .i64 cols)), (S.ref 2)])), (some (Obj.mat 2 o2))], 43⟩) (obs := []) (by kernel_rfl) (by kernel_rfl) (by kernel_rfl) trivial ?_
  refine GoJ.seq ?_
  refine GoJ.cond (t := (decide (t16 < rows))) (by kernel_rfl) (fun h2 => ?_) (fun h2 => ?_)
  · replace h := h.1 h2
    refine GoJ.skip ?_
    refine GoJ.seq ?_
    refine GoJ.block ?_
    refine GoJ.seq ?_
    refine GoJ.regV hT (cnt := 0) (ins := [o0, o0]) (live := [1, 2, 6, 7, 8, 15, 16]) (ids := [0, 1, 2]) (σ' := ⟨[(1, (V.e (E.sc (S.dat (D.int .i64 cols))))), (2, (V.e (E.sc (S.dat (D.fn (.func f) fc))))), (6, (V.e (E.sc (S.ptr 0 0)))), (7, (V.e (E.sc (S.ptr 1 0)))), (8, (V.e (E.sc (S.dat (D.int .i64 t16))))), (15, (V.e (E.sc (S.dat (D.int .i64 rows))))), (16, (V.e (E.sc (S.dat (D.int .i64 t16)))))], [(some (Obj.box [(S.dat (D.int .i64 (0 : Int))), (S.dat (D.int .i64 (0 : Int))), (S.dat (D.raw (.slice none 0 0)))])), (some (Obj.box [(S.dat (D.int .i64 rows)), (S.dat (D.int .i64 cols)), (S.ref 2)])), (some (Obj.mat 2 o2))], 43⟩) (obs := []) (by kernel_rfl) (by kernel_rfl) (by kernel_rfl) trivial ?_
    refine GoJ.seq ?_
    obtain ⟨h3, h4, h⟩ := h
    refine GoJ.drawV hmix hT (cnt := 2) (ins := [⟨Or.none, 0, 0, [], [7], [], [3]⟩, ⟨Or.none, 0, 0, [0], [19], [], [3]⟩, ⟨Or.none, 0, 0, [], [8], [], [3]⟩, ⟨Or.none, 0, 0, [], [1], [], []⟩, ⟨Or.none, 3, 1, [3], [22], [3], []⟩, ⟨Or.none, 0, 0, [0, 1, 2, 3, 4], [20, 21], [], []⟩, ⟨Or.none, 4, 1, [0, 1, 2, 3, 4, 5], [23, 24], [2, 3, 4], []⟩]) (live := [1, 2, 6, 7, 8, 15, 16]) (ids := [0, 1, 2, 4]) (σ' := ⟨[(1, (V.e (E.sc (S.dat (D.int .i64 cols))))), (2, (V.e (E.sc (S.dat (D.fn (.func f) fc))))), (6, (V.e (E.sc (S.ptr 0 0)))), (7, (V.e (E.sc (S.ptr 1 0)))), (8, (V.e (E.sc (S.dat (D.int .i64 t16))))), (15, (V.e (E.sc (S.dat (D.int .i64 rows))))), (16, (V.e (E.sc (S.dat (D.int .i64 t16)))))], [(some (Obj.box [(S.dat (D.int .i64 (0 : Int))), (S.dat (D.int .i64 (0 : Int))), (S.dat (D.raw (.slice none 0 0)))])), (some (Obj.box [(S.dat (D.int .i64 rows)), (S.dat (D.int .i64 cols)), (S.ref 2)])), (some (Obj.fwd (S.ref 3))), (some (Obj.mat 2 (o2.set (t16).toNat (List.replicate (cols).toNat [(D.bool false), (D.sl ([] : List (List D)))]))))], 43⟩) (obs := [0 ≤ cols ∧ cols ≤ cols ∧ cols * (32 : Nat) ≤ 281474976710656, 0 ≤ t16 ∧ t16 < (o2.length : Int)]) (by kernel_rfl) (by kernel_rfl) (by kernel_rfl) ⟨h3, h4, trivial⟩ ?_
    refine GoJ.wk (xfwd_ok (sl := []) (bx := [1]) (σ' := ⟨[(1, (V.e (E.sc (S.dat (D.int .i64 cols))))), (2, (V.e (E.sc (S.dat (D.fn (.func f) fc))))), (6, (V.e (E.sc (S.ptr 0 0)))), (7, (V.e (E.sc (S.ptr 1 0)))), (8, (V.e (E.sc (S.dat (D.int .i64 t16))))), (15, (V.e (E.sc (S.dat (D.int .i64 rows))))), (16, (V.e (E.sc (S.dat (D.int .i64 t16)))))], [(some (Obj.box [(S.dat (D.int .i64 (0 : Int))), (S.dat (D.int .i64 (0 : Int))), (S.dat (D.raw (.slice none 0 0)))])), (some (Obj.box [(S.dat (D.int .i64 rows)), (S.dat (D.int .i64 cols)), (S.ref 3)])), (some (Obj.fwd (S.ref 3))), (some (Obj.mat 2 (o2.set (t16).toNat (List.replicate (cols).toNat [(D.bool false), (D.sl ([] : List (List D)))]))))], 43⟩) (by kernel_rfl)) ?_
    refine GoJ.wk (xview_ok (live := [1, 2, 6, 7, 8, 15, 16]) (ids := [0, 1, 3]) (σ' := ⟨[(1, (V.e (E.sc (S.dat (D.int .i64 cols))))), (2, (V.e (E.sc (S.dat (D.fn (.func f) fc))))), (6, (V.e (E.sc (S.ptr 0 0)))), (7, (V.e (E.sc (S.ptr 1 0)))), (8, (V.e (E.sc (S.dat (D.int .i64 t16))))), (15, (V.e (E.sc (S.dat (D.int .i64 rows))))), (16, (V.e (E.sc (S.dat (D.int .i64 t16)))))], [(some (Obj.box [(S.dat (D.int .i64 (0 : Int))), (S.dat (D.int .i64 (0 : Int))), (S.dat (D.raw (.slice none 0 0)))])), (some (Obj.box [(S.dat (D.int .i64 rows)), (S.dat (D.int .i64 cols)), (S.ref 2)])), (some (Obj.mat 2 (o2.set (t16).toNat (List.replicate (cols).toNat [(D.bool false), (D.sl ([] : List (List D)))]))))], 43⟩) (by kernel_rfl) (by kernel_rfl) (by kernel_rfl)) ?_
    refine GoJ.seq ?_
    refine GoJ.regV hT (cnt := 0) (ins := [o0, o0]) (live := [1, 2, 6, 7, 8, 15, 16, 25, 26]) (ids := [0, 1, 2]) (σ' := ⟨[(1, (V.e (E.sc (S.dat (D.int .i64 cols))))), (2, (V.e (E.sc (S.dat (D.fn (.func f) fc))))), (6, (V.e (E.sc (S.ptr 0 0)))), (7, (V.e (E.sc (S.ptr 1 0)))), (8, (V.e (E.sc (S.dat (D.int .i64 t16))))), (15, (V.e (E.sc (S.dat (D.int .i64 rows))))), (16, (V.e (E.sc (S.dat (D.int .i64 t16))))), (25, (V.e (E.sc (S.dat (D.int .i64 cols))))), (26, (V.e (E.sc (S.dat (D.int .i64 (0 : Int))))))], [(some (Obj.box [(S.dat (D.int .i64 (0 : Int))), (S.dat (D.int .i64 (0 : Int))), (S.dat (D.raw (.slice none 0 0)))])), (some (Obj.box [(S.dat (D.int .i64 rows)), (S.dat (D.int .i64 cols)), (S.ref 2)])), (some (Obj.mat 2 (o2.set (t16).toNat (List.replicate (cols).toNat [(D.bool false), (D.sl ([] : List (List D)))]))))], 43⟩) (obs := []) (by kernel_rfl) (by kernel_rfl) (by kernel_rfl) trivial ?_
    refine GoJ.block ?_
    obtain ⟨J1, μ1, hJ1, h⟩ := h
    refine GoJ.loop (X := (List (List (List D))) × Int) (fun x => (fun (o21 : List (List (List D))) (t26 : Int) => (⟨[(1, (V.e (E.sc (S.dat (D.int .i64 cols))))), (2, (V.e (E.sc (S.dat (D.fn (.func f) fc))))), (6, (V.e (E.sc (S.ptr 0 0)))), (7, (V.e (E.sc (S.ptr 1 0)))), (8, (V.e (E.sc (S.dat (D.int .i64 t16))))), (15, (V.e (E.sc (S.dat (D.int .i64 rows))))), (16, (V.e (E.sc (S.dat (D.int .i64 t16))))), (25, (V.e (E.sc (S.dat (D.int .i64 cols))))), (26, (V.e (E.sc (S.dat (D.int .i64 t26)))))], [(some (Obj.box [(S.dat (D.int .i64 (0 : Int))), (S.dat (D.int .i64 (0 : Int))), (S.dat (D.raw (.slice none 0 0)))])), (some (Obj.box [(S.dat (D.int .i64 rows)), (S.dat (D.int .i64 cols)), (S.ref 2)])), (some (Obj.mat 2 o21))], 43⟩ : St)) (x.1) (x.2)) (fun x => J1 (x.1) (x.2)) (fun x => μ1 (x.1) (x.2)) ((o2.set (t16).toNat (List.replicate (cols).toNat [(D.bool false), (D.sl ([] : List (List D)))])), (0 : Int)) hJ1 ?_
    rintro ⟨o21, t26⟩ hJ1 ih1
    replace h := h o21 t26 hJ1
    refine GoJ.seq ?_
    refine GoJ.regV hT (cnt := 0) (ins := [o0]) (live := [1, 2, 6, 7, 8, 15, 16, 25, 26, 27]) (ids := [0, 1, 2]) (σ' := ⟨[(1, (V.e (E.sc (S.dat (D.int .i64 cols))))), (2, (V.e (E.sc (S.dat (D.fn (.func f) fc))))), (6, (V.e (E.sc (S.ptr 0 0)))), (7, (V.e (E.sc (S.ptr 1 0)))), (8, (V.e (E.sc (S.dat (D.int .i64 t16))))), (15, (V.e (E.sc (S.dat (D.int .i64 rows))))), (16, (V.e (E.sc (S.dat (D.int .i64 t16))))), (25, (V.e (E.sc (S.dat (D.int .i64 cols))))), (26, (V.e (E.sc (S.dat (D.int .i64 t26))))), (27, (V.e (E.sc (S.dat (D.bool (decide (t26 < cols)))))))], [(some (Obj.box [(S.dat (D.int .i64 (0 : Int))), (S.dat (D.int .i64 (0 : Int))), (S.dat (D.raw (.slice none 0 0)))])), (some (Obj.box [(S.dat (D.int .i64 rows)), (S.dat (D.int .i64 cols)), (S.ref 2)])), (some (Obj.mat 2 o21))], 43⟩) (obs := []) (by kernel_rfl) (by kernel_rfl) (by kernel_rfl) trivial ?_
    refine GoJ.seq ?_
    refine GoJ.cond (t := (decide (t26 < cols))) (by kernel_rfl) (fun h5 => ?_) (fun h5 => ?_)
    · replace h := h.1 h5
      refine GoJ.skip ?_
      refine GoJ.seq ?_
      refine GoJ.block ?_
      refine GoJ.seq ?_
      refine GoJ.regV hT (cnt := 0) (ins := [o0, o0]) (live := [1, 2, 6, 7, 8, 9, 15, 16, 25, 26]) (ids := [0, 1, 2]) (σ' := ⟨[(1, (V.e (E.sc (S.dat (D.int .i64 cols))))), (2, (V.e (E.sc (S.dat (D.fn (.func f) fc))))), (6, (V.e (E.sc (S.ptr 0 0)))), (7, (V.e (E.sc (S.ptr 1 0)))), (8, (V.e (E.sc (S.dat (D.int .i64 t16))))), (9, (V.e (E.sc (S.dat (D.int .i64 t26))))), (15, (V.e (E.sc (S.dat (D.int .i64 rows))))), (16, (V.e (E.sc (S.dat (D.int .i64 t16))))), (25, (V.e (E.sc (S.dat (D.int .i64 cols))))), (26, (V.e (E.sc (S.dat (D.int .i64 t26)))))], [(some (Obj.box [(S.dat (D.int .i64 (0 : Int))), (S.dat (D.int .i64 (0 : Int))), (S.dat (D.raw (.slice none 0 0)))])), (some (Obj.box [(S.dat (D.int .i64 rows)), (S.dat (D.int .i64 cols)), (S.ref 2)])), (some (Obj.mat 2 o21))], 43⟩) (obs := []) (by kernel_rfl) (by kernel_rfl) (by kernel_rfl) trivial ?_
      obtain ⟨r0, r1, h6, h7, h8, h⟩ := h
      refine GoJ.drawV hmix hT (cnt := 0) (ins := [⟨Or.none, 0, 0, [], [7], [], []⟩, ⟨Or.none, 0, 0, [0], [29], [], []⟩, ⟨Or.none, 0, 0, [], [8], [], []⟩, ⟨Or.none, 0, 0, [0, 1, 2], [30, 31], [], []⟩, ⟨Or.none, 0, 0, [0, 1, 2, 3], [32], [], []⟩, ⟨Or.none, 0, 0, [], [9], [], []⟩, ⟨Or.none, 0, 0, [], [2], [], []⟩, ⟨Or.none, 0, 0, [], [8], [], []⟩, ⟨Or.none, 0, 0, [], [9], [], []⟩, ⟨(Or.call (V.e (E.agg [(S.dat (D.bool r0)), (S.dat (D.sl r1))])) [] []), 0, 0, [6, 7, 8], [35, 36, 37], [], []⟩, ⟨Or.none, 0, 0, [0, 1, 2, 3, 4, 5, 6, 7, 8, 9], [33, 34], [], []⟩, ⟨Or.none, 0, 0, [0, 1, 2, 3, 4, 5, 6, 7, 8, 9, 10], [38, 39], [2], []⟩]) (live := [1, 2, 6, 7, 8, 15, 16, 25, 26]) (ids := [0, 1, 2]) (σ' := ⟨[(1, (V.e (E.sc (S.dat (D.int .i64 cols))))), (2, (V.e (E.sc (S.dat (D.fn (.func f) fc))))), (6, (V.e (E.sc (S.ptr 0 0)))), (7, (V.e (E.sc (S.ptr 1 0)))), (8, (V.e (E.sc (S.dat (D.int .i64 t16))))), (15, (V.e (E.sc (S.dat (D.int .i64 rows))))), (16, (V.e (E.sc (S.dat (D.int .i64 t16))))), (25, (V.e (E.sc (S.dat (D.int .i64 cols))))), (26, (V.e (E.sc (S.dat (D.int .i64 t26)))))], [(some (Obj.box [(S.dat (D.int .i64 (0 : Int))), (S.dat (D.int .i64 (0 : Int))), (S.dat (D.raw (.slice none 0 0)))])), (some (Obj.box [(S.dat (D.int .i64 rows)), (S.dat (D.int .i64 cols)), (S.ref 2)])), (some (Obj.mat 2 (o21.modify (t16).toNat (fun r => r.set (t26).toNat [(D.bool r0), (D.sl r1)]))))], 43⟩) (obs := [0 ≤ t16 ∧ t16 < (o21.length : Int), FnD prog f ([(V.e (E.sc (S.dat (D.int .i64 t16)))), (V.e (E.sc (S.dat (D.int .i64 t26))))] ++ fc.map dV) (V.e (E.agg [(S.dat (D.bool r0)), (S.dat (D.sl r1))])) [], ∃ l, o21[(t16).toNat]? = some l ∧ 0 ≤ t26 ∧ t26 < (l.length : Int)]) (by kernel_rfl) (by kernel_rfl) (by kernel_rfl) ⟨h6, h7, h8, trivial⟩ ?_
      refine GoJ.inBlock ?_
      refine GoJ.regV hT (cnt := 0) (ins := [o0, o0]) (live := [1, 2, 6, 7, 8, 15, 16, 25, 26]) (ids := [0, 1, 2]) (σ' := ⟨[(1, (V.e (E.sc (S.dat (D.int .i64 cols))))), (2, (V.e (E.sc (S.dat (D.fn (.func f) fc))))), (6, (V.e (E.sc (S.ptr 0 0)))), (7, (V.e (E.sc (S.ptr 1 0)))), (8, (V.e (E.sc (S.dat (D.int .i64 t16))))), (15, (V.e (E.sc (S.dat (D.int .i64 rows))))), (16, (V.e (E.sc (S.dat (D.int .i64 t16))))), (25, (V.e (E.sc (S.dat (D.int .i64 cols))))), (26, (V.e (E.sc (S.dat (D.int .i64 (IntKind.i64.wrap (t26 + (1 : Int))))))))], [(some (Obj.box [(S.dat (D.int .i64 (0 : Int))), (S.dat (D.int .i64 (0 : Int))), (S.dat (D.raw (.slice none 0 0)))])), (some (Obj.box [(S.dat (D.int .i64 rows)), (S.dat (D.int .i64 cols)), (S.ref 2)])), (some (Obj.mat 2 (o21.modify (t16).toNat (fun r => r.set (t26).toNat [(D.bool r0), (D.sl r1)]))))], 43⟩) (obs := []) (by kernel_rfl) (by kernel_rfl) (by kernel_rfl) trivial ?_
      exact ih1 ((o21.modify (t16).toNat (fun r => r.set (t26).toNat [(D.bool r0), (D.sl r1)])), (IntKind.i64.wrap (t26 + (1 : Int)))) h.1 h.2
    · replace h := h.2 h5
      refine GoJ.exit rfl ?_
      refine GoJ.inBlock ?_
      refine GoJ.regV hT (cnt := 0) (ins := [o0, o0]) (live := [1, 2, 6, 7, 15, 16]) (ids := [0, 1, 2]) (σ' := ⟨[(1, (V.e (E.sc (S.dat (D.int .i64 cols))))), (2, (V.e (E.sc (S.dat (D.fn (.func f) fc))))), (6, (V.e (E.sc (S.ptr 0 0)))), (7, (V.e (E.sc (S.ptr 1 0)))), (15, (V.e (E.sc (S.dat (D.int .i64 rows))))), (16, (V.e (E.sc (S.dat (D.int .i64 (IntKind.i64.wrap (t16 + (1 : Int))))))))], [(some (Obj.box [(S.dat (D.int .i64 (0 : Int))), (S.dat (D.int .i64 (0 : Int))), (S.dat (D.raw (.slice none 0 0)))])), (some (Obj.box [(S.dat (D.int .i64 rows)), (S.dat (D.int .i64 cols)), (S.ref 2)])), (some (Obj.mat 2 o21))], 43⟩) (obs := []) (by kernel_rfl) (by kernel_rfl) (by kernel_rfl) trivial ?_
      exact ih0 (o21, (IntKind.i64.wrap (t16 + (1 : Int)))) h.1 h.2
  · replace h := h.2 h2
    refine GoJ.exit rfl ?_
    refine GoJ.seq ?_
    refine GoJ.regV hT (cnt := 0) (ins := [o0, o0]) (live := [6]) (ids := [0, 2]) (σ' := ⟨[(6, (V.e (E.sc (S.ptr 0 0))))], [(some (Obj.box [(S.dat (D.int .i64 rows)), (S.dat (D.int .i64 cols)), (S.ref 1)])), (some (Obj.mat 2 o2))], 43⟩) (obs := []) (by kernel_rfl) (by kernel_rfl) (by kernel_rfl) trivial ?_
    refine GoJ.wk (xfreeze_ok (ids := [1]) (σ' := ⟨[(6, (V.e (E.sc (S.ptr 0 0))))], [(some (Obj.box [(S.dat (D.int .i64 rows)), (S.dat (D.int .i64 cols)), (S.dat (D.sl (matD o2)))])), none], 43⟩) (by kernel_rfl)) ?_
    exact GoJ.retV hT func76 (ids := []) (r := (V.e (E.agg [(S.dat (D.int .i64 rows)), (S.dat (D.int .i64 cols)), (S.dat (D.sl (matD o2)))]))) (r' := (V.e (E.agg [(S.dat (D.int .i64 rows)), (S.dat (D.int .i64 cols)), (S.dat (D.sl (matD o2)))]))) (σ' := ⟨[], [], 43⟩) (by kernel_rfl) (by kernel_rfl) (by kernel_rfl) (by kernel_rfl) (by kernel_rfl) h

/- f128 torsion/matrix.fold[torsion/api.Int,torsion/api.Int] -/
def vc128 (a : List (List D)) (b : List (List D)) (out0 : Bool) (out1 : List (List D)) (f : FuncId) (fc : List D) (R : V → Heap → Prop) : Prop :=
  ∃ (J0 : Bool → (List (List D)) → Int → Prop) (μ0 : Bool → (List (List D)) → Int → Nat),
  J0 out0 out1 (0 : Int) ∧ ∀ (out01 : Bool) (out11 : List (List D)) (t12 : Int), J0 out01 out11 t12 →
    ((decide (t12 < (a.length : Int))) = true →
      ∃ (x0 : Bool) (x1 : List (List D)) (x01 : Bool) (x11 : List (List D)) (r0 : Bool) (r1 : List (List D)),
      (0 ≤ t12 ∧ t12 < (a.length : Int)) ∧
      (a[(t12).toNat]? = some [(D.bool x0), (D.sl x1)]) ∧
      (0 ≤ t12 ∧ t12 < (b.length : Int)) ∧
      (b[(t12).toNat]? = some [(D.bool x01), (D.sl x11)]) ∧
      (FnD prog f ([(V.e (E.agg [(S.dat (D.bool out01)), (S.dat (D.sl out11))])), (V.e (E.agg [(S.dat (D.bool x0)), (S.dat (D.sl x1))])), (V.e (E.agg [(S.dat (D.bool x01)), (S.dat (D.sl x11))]))] ++ fc.map dV) (V.e (E.agg [(S.dat (D.bool r0)), (S.dat (D.sl r1))])) []) ∧
      (J0 r0 r1 (IntKind.i64.wrap (t12 + (1 : Int))) ∧ μ0 r0 r1 (IntKind.i64.wrap (t12 + (1 : Int))) < μ0 out01 out11 t12)) ∧
    ((decide (t12 < (a.length : Int))) = false →
      R (V.e (E.agg [(S.dat (D.bool out01)), (S.dat (D.sl out11))])) [])

theorem vc128_ok (a : List (List D)) (b : List (List D)) (out0 : Bool) (out1 : List (List D)) (f : FuncId) (fc : List D) {R : V → Heap → Prop} (h : vc128 a b out0 out1 f fc R) : FnG prog 128 [(V.e (E.sc (S.dat (D.sl a)))), (V.e (E.sc (S.dat (D.sl b)))), (V.e (E.agg [(S.dat (D.bool out0)), (S.dat (D.sl out1))])), (V.e (E.sc (S.dat (D.fn (.func f) fc))))] [] R := by
  unfold vc128 at h
  refine FnG.of (m := 28) (c := _) func128 rfl (by kernel_rfl) ntmps128 (Nat.le_of_ble_eq_true rfl) ?_
  refine GoJ.seq ?_
  refine GoJ.regV hT (cnt := 2) (ins := [(Or.none, 0, 1), (Or.none, 1, 1)]) (live := [0, 1, 3, 6, 8]) (ids := [0, 1]) (σ' := ⟨[(0, (V.e (E.sc (S.dat (D.sl a))))), (1, (V.e (E.sc (S.dat (D.sl b))))), (3, (V.e (E.sc (S.dat (D.fn (.func f) fc))))), (6, (V.e (E.sc (S.ptr 0 0)))), (8, (V.e (E.sc (S.ptr 1 0))))], [(some (Obj.box [(S.dat (D.bool out0)), (S.dat (D.sl out1))])), (some (Obj.box [(S.dat (D.bool false)), (S.dat (D.raw (.slice none 0 0)))]))], 28⟩) (obs := []) (by kernel_rfl) (by kernel_rfl) (by kernel_rfl) trivial ?_
  refine GoJ.seq ?_
  refine GoJ.seq ?_
  refine GoJ.regV hT (cnt := 0) (ins := [o0, o0, o0]) (live := [0, 1, 3, 6, 8, 11, 12]) (ids := [0, 1]) (σ' := ⟨[(0, (V.e (E.sc (S.dat (D.sl a))))), (1, (V.e (E.sc (S.dat (D.sl b))))), (3, (V.e (E.sc (S.dat (D.fn (.func f) fc))))), (6, (V.e (E.sc (S.ptr 0 0)))), (8, (V.e (E.sc (S.ptr 1 0)))), (11, (V.e (E.sc (S.dat (D.int .i64 (a.length : Int)))))), (12, (V.e (E.sc (S.dat (D.int .i64 (0 : Int))))))], [(some (Obj.box [(S.dat (D.bool out0)), (S.dat (D.sl out1))])), (some (Obj.box [(S.dat (D.bool false)), (S.dat (D.raw (.slice none 0 0)))]))], 28⟩) (obs := []) (by kernel_rfl) (by kernel_rfl) (by kernel_rfl) trivial ?_
  refine GoJ.block ?_
  obtain ⟨J0, μ0, hJ0, h⟩ := h
  refine GoJ.loop (X := Bool × (List (List D)) × Int) (fun x => (fun (out01 : Bool) (out11 : List (List D)) (t12 : Int) => (⟨[(0, (V.e (E.sc (S.dat (D.sl a))))), (1, (V.e (E.sc (S.dat (D.sl b))))), (3, (V.e (E.sc (S.dat (D.fn (.func f) fc))))), (6, (V.e (E.sc (S.ptr 0 0)))), (8, (V.e (E.sc (S.ptr 1 0)))), (11, (V.e (E.sc (S.dat (D.int .i64 (a.length : Int)))))), (12, (V.e (E.sc (S.dat (D.int .i64 t12)))))], [(some (Obj.box [(S.dat (D.bool out01)), (S.dat (D.sl out11))])), (some (Obj.box [(S.dat (D.bool false)), (S.dat (D.raw (.slice none 0 0)))]))], 28⟩ : St)) (x.1) (x.2.1) (x.2.2)) (fun x => J0 (x.1) (x.2.1) (x.2.2)) (fun x => μ0 (x.1) (x.2.1) (x.2.2)) (out0, out1, (0 : Int)) hJ0 ?_
  rintro ⟨out01, out11, t12⟩ hJ0 ih0
  replace h := h out01 out11 t12 hJ0
  refine GoJ.seq ?_
  refine GoJ.regV hT (cnt := 0) (ins := [o0]) (live := [0, 1, 3, 6, 8, 11, 12, 13]) (ids := [0, 1]) (σ' := ⟨[(0, (V.e (E.sc (S.dat (D.sl a))))), (1, (V.e (E.sc (S.dat (D.sl b))))), (3, (V.e (E.sc (S.dat (D.fn (.func f) fc))))), (6, (V.e (E.sc (S.ptr 0 0)))), (8, (V.e (E.sc (S.ptr 1 0)))), (11, (V.e (E.sc (S.dat (D.int .i64 (a.length : Int)))))), (12, (V.e (E.sc (S.dat (D.int .i64 t12))))), (13, (V.e (E.sc (S.dat (D.bool (decide (t12 < (a.length : Int))))))))], [(some (Obj.box [(S.dat (D.bool out01)), (S.dat (D.sl out11))])), (some (Obj.box [(S.dat (D.bool false)), (S.dat (D.raw (.slice none 0 0)))]))], 28⟩) (obs := []) (by kernel_rfl) (by kernel_rfl) (by kernel_rfl) trivial ?_
  refine GoJ.seq ?_
  refine GoJ.cond (t := (decide (t12 < (a.length : Int)))) (by kernel_rfl) (fun h1 => ?_) (fun h1 => ?_)
  · replace h := h.1 h1
    refine GoJ.skip ?_
    refine GoJ.seq ?_
    refine GoJ.block ?_
    refine GoJ.seq ?_
    refine GoJ.regV hT (cnt := 0) (ins := [o0, o0]) (live := [0, 1, 3, 6, 8, 9, 11, 12]) (ids := [0, 1]) (σ' := ⟨[(0, (V.e (E.sc (S.dat (D.sl a))))), (1, (V.e (E.sc (S.dat (D.sl b))))), (3, (V.e (E.sc (S.dat (D.fn (.func f) fc))))), (6, (V.e (E.sc (S.ptr 0 0)))), (8, (V.e (E.sc (S.ptr 1 0)))), (9, (V.e (E.sc (S.dat (D.int .i64 t12))))), (11, (V.e (E.sc (S.dat (D.int .i64 (a.length : Int)))))), (12, (V.e (E.sc (S.dat (D.int .i64 t12)))))], [(some (Obj.box [(S.dat (D.bool out01)), (S.dat (D.sl out11))])), (some (Obj.box [(S.dat (D.bool false)), (S.dat (D.raw (.slice none 0 0)))]))], 28⟩) (obs := []) (by kernel_rfl) (by kernel_rfl) (by kernel_rfl) trivial ?_
    obtain ⟨x0, x1, x01, x11, r0, r1, h2, h3, h4, h5, h6, h⟩ := h
    refine GoJ.drawV hmix hT (cnt := 0) (ins := [⟨Or.none, 0, 0, [], [3], [], []⟩, ⟨Or.none, 0, 0, [], [6], [], []⟩, ⟨Or.none, 0, 0, [], [0], [], []⟩, ⟨Or.none, 0, 0, [], [9], [], []⟩, ⟨Or.none, 0, 0, [2, 3], [17, 18], [], []⟩, ⟨(Or.cells [(D.bool x0), (D.sl x1)]), 0, 0, [2, 3, 4], [19], [], []⟩, ⟨Or.none, 0, 0, [], [1], [], []⟩, ⟨Or.none, 0, 0, [], [9], [], []⟩, ⟨Or.none, 0, 0, [6, 7], [21, 22], [], []⟩, ⟨(Or.cells [(D.bool x01), (D.sl x11)]), 0, 0, [6, 7, 8], [23], [], []⟩, ⟨(Or.call (V.e (E.agg [(S.dat (D.bool r0)), (S.dat (D.sl r1))])) [] []), 0, 0, [0, 1, 2, 3, 4, 5, 6, 7, 8, 9], [15, 16, 20, 24], [], []⟩, ⟨Or.none, 0, 0, [0, 1, 2, 3, 4, 5, 6, 7, 8, 9, 10], [6, 25], [0], []⟩]) (live := [0, 1, 3, 6, 8, 11, 12]) (ids := [0, 1]) (σ' := ⟨[(0, (V.e (E.sc (S.dat (D.sl a))))), (1, (V.e (E.sc (S.dat (D.sl b))))), (3, (V.e (E.sc (S.dat (D.fn (.func f) fc))))), (6, (V.e (E.sc (S.ptr 0 0)))), (8, (V.e (E.sc (S.ptr 1 0)))), (11, (V.e (E.sc (S.dat (D.int .i64 (a.length : Int)))))), (12, (V.e (E.sc (S.dat (D.int .i64 t12)))))], [(some (Obj.box [(S.dat (D.bool r0)), (S.dat (D.sl r1))])), (some (Obj.box [(S.dat (D.bool false)), (S.dat (D.raw (.slice none 0 0)))]))], 28⟩) (obs := [0 ≤ t12 ∧ t12 < (a.length : Int), a[(t12).toNat]? = some [(D.bool x0), (D.sl x1)], 0 ≤ t12 ∧ t12 < (b.length : Int), b[(t12).toNat]? = some [(D.bool x01), (D.sl x11)], FnD prog f ([(V.e (E.agg [(S.dat (D.bool out01)), (S.dat (D.sl out11))])), (V.e (E.agg [(S.dat (D.bool x0)), (S.dat (D.sl x1))])), (V.e (E.agg [(S.dat (D.bool x01)), (S.dat (D.sl x11))]))] ++ fc.map dV) (V.e (E.agg [(S.dat (D.bool r0)), (S.dat (D.sl r1))])) []]) (by kernel_rfl) (by kernel_rfl) (by kernel_rfl) ⟨h2, h3, h4, h5, h6, trivial⟩ ?_
    refine GoJ.inBlock ?_
    refine GoJ.regV hT (cnt := 0) (ins := [o0, o0]) (live := [0, 1, 3, 6, 8, 11, 12]) (ids := [0, 1]) (σ' := ⟨[(0, (V.e (E.sc (S.dat (D.sl a))))), (1, (V.e (E.sc (S.dat (D.sl b))))), (3, (V.e (E.sc (S.dat (D.fn (.func f) fc))))), (6, (V.e (E.sc (S.ptr 0 0)))), (8, (V.e (E.sc (S.ptr 1 0)))), (11, (V.e (E.sc (S.dat (D.int .i64 (a.length : Int)))))), (12, (V.e (E.sc (S.dat (D.int .i64 (IntKind.i64.wrap (t12 + (1 : Int))))))))], [(some (Obj.box [(S.dat (D.bool r0)), (S.dat (D.sl r1))])), (some (Obj.box [(S.dat (D.bool false)), (S.dat (D.raw (.slice none 0 0)))]))], 28⟩) (obs := []) (by kernel_rfl) (by kernel_rfl) (by kernel_rfl) trivial ?_
    exact ih0 (r0, r1, (IntKind.i64.wrap (t12 + (1 : Int)))) h.1 h.2
  · replace h := h.2 h1
    refine GoJ.exit rfl ?_
    refine GoJ.seq ?_
    refine GoJ.regV hT (cnt := 0) (ins := [o0, o0]) (live := [8]) (ids := [1]) (σ' := ⟨[(8, (V.e (E.sc (S.ptr 0 0))))], [(some (Obj.box [(S.dat (D.bool out01)), (S.dat (D.sl out11))]))], 28⟩) (obs := []) (by kernel_rfl) (by kernel_rfl) (by kernel_rfl) trivial ?_
    exact GoJ.retV hT func128 (ids := []) (r := (V.e (E.agg [(S.dat (D.bool out01)), (S.dat (D.sl out11))]))) (r' := (V.e (E.agg [(S.dat (D.bool out01)), (S.dat (D.sl out11))]))) (σ' := ⟨[], [], 28⟩) (by kernel_rfl) (by kernel_rfl) (by kernel_rfl) (by kernel_rfl) (by kernel_rfl) h

/- f129 torsion/matrix.dot$1 -/
def vc129 (sum0 : Bool) (sum1 : List (List D)) (x0 : Bool) (x1 : List (List D)) (y0 : Bool) (y1 : List (List D)) (R : V → Heap → Prop) : Prop :=
  ∃ (r : Int),
  (FnD prog 91 [(V.e (E.agg [(S.dat (D.bool x0)), (S.dat (D.sl x1))]))] (V.e (E.sc (S.dat (D.int .i64 r)))) []) ∧
  (((r == (0 : Int)) = true →
    R (V.e (E.agg [(S.dat (D.bool sum0)), (S.dat (D.sl sum1))])) []) ∧
  ((r == (0 : Int)) = false →
    ∃ (r1 : Int),
    (FnD prog 91 [(V.e (E.agg [(S.dat (D.bool y0)), (S.dat (D.sl y1))]))] (V.e (E.sc (S.dat (D.int .i64 r1)))) []) ∧
    (((r1 == (0 : Int)) = true →
      R (V.e (E.agg [(S.dat (D.bool sum0)), (S.dat (D.sl sum1))])) []) ∧
    ((r1 == (0 : Int)) = false →
      ∃ (r0 : Bool) (r11 : List (List D)) (r01 : Bool) (r12 : List (List D)),
      (FnD prog 113 [(V.e (E.agg [(S.dat (D.bool x0)), (S.dat (D.sl x1))])), (V.e (E.agg [(S.dat (D.bool y0)), (S.dat (D.sl y1))]))] (V.e (E.agg [(S.dat (D.bool r0)), (S.dat (D.sl r11))])) []) ∧
      (FnD prog 106 [(V.e (E.agg [(S.dat (D.bool sum0)), (S.dat (D.sl sum1))])), (V.e (E.agg [(S.dat (D.bool r0)), (S.dat (D.sl r11))]))] (V.e (E.agg [(S.dat (D.bool r01)), (S.dat (D.sl r12))])) []) ∧
      (R (V.e (E.agg [(S.dat (D.bool r01)), (S.dat (D.sl r12))])) [])))))

theorem vc129_ok (sum0 : Bool) (sum1 : List (List D)) (x0 : Bool) (x1 : List (List D)) (y0 : Bool) (y1 : List (List D)) {R : V → Heap → Prop} (h : vc129 sum0 sum1 x0 x1 y0 y1 R) : FnG prog 129 [(V.e (E.agg [(S.dat (D.bool sum0)), (S.dat (D.sl sum1))])), (V.e (E.agg [(S.dat (D.bool x0)), (S.dat (D.sl x1))])), (V.e (E.agg [(S.dat (D.bool y0)), (S.dat (D.sl y1))]))] [] R := by
  unfold vc129 at h
  refine FnG.of (m := 21) (c := _) func129 rfl (by kernel_rfl) ntmps129 (Nat.le_of_ble_eq_true rfl) ?_
  refine GoJ.seq ?_
  refine GoJ.regV hT (cnt := 4) (ins := [(Or.none, 0, 1), (Or.none, 1, 1), (Or.none, 2, 1), (Or.none, 3, 1)]) (live := [3, 4, 5, 6]) (ids := [0, 1, 2, 3]) (σ' := ⟨[(3, (V.e (E.sc (S.ptr 0 0)))), (4, (V.e (E.sc (S.ptr 1 0)))), (5, (V.e (E.sc (S.ptr 2 0)))), (6, (V.e (E.sc (S.ptr 3 0))))], [(some (Obj.box [(S.dat (D.bool sum0)), (S.dat (D.sl sum1))])), (some (Obj.box [(S.dat (D.bool x0)), (S.dat (D.sl x1))])), (some (Obj.box [(S.dat (D.bool y0)), (S.dat (D.sl y1))])), (some (Obj.box [(S.dat (D.bool false)), (S.dat (D.raw (.slice none 0 0)))]))], 21⟩) (obs := []) (by kernel_rfl) (by kernel_rfl) (by kernel_rfl) trivial ?_
  refine GoJ.seq ?_
  refine GoJ.seq ?_
  obtain ⟨r, h1, h⟩ := h
  rcases Bool.eq_false_or_eq_true (r == (0 : Int)) with h2 | h2
  · replace h := h.1 h2
    refine GoJ.regV hT (cnt := 0) (ins := [o0, ((Or.call (V.e (E.sc (S.dat (D.int .i64 r)))) [] []), 0, 0), o0, ((Or.bool true), 0, 0), o0, o0, o0, o0]) (live := [3, 4, 5, 6, 14]) (ids := [0, 1, 2, 3]) (σ' := ⟨[(3, (V.e (E.sc (S.ptr 0 0)))), (4, (V.e (E.sc (S.ptr 1 0)))), (5, (V.e (E.sc (S.ptr 2 0)))), (6, (V.e (E.sc (S.ptr 3 0)))), (14, (V.e (E.sc (S.dat (D.bool true)))))], [(some (Obj.box [(S.dat (D.bool sum0)), (S.dat (D.sl sum1))])), (some (Obj.box [(S.dat (D.bool x0)), (S.dat (D.sl x1))])), (some (Obj.box [(S.dat (D.bool y0)), (S.dat (D.sl y1))])), (some (Obj.box [(S.dat (D.bool false)), (S.dat (D.raw (.slice none 0 0)))]))], 21⟩) (obs := [FnD prog 91 [(V.e (E.agg [(S.dat (D.bool x0)), (S.dat (D.sl x1))]))] (V.e (E.sc (S.dat (D.int .i64 r)))) [], (r == (0 : Int)) = true]) (by kernel_rfl) (by kernel_rfl) (by kernel_rfl) ⟨h1, h2, trivial⟩ ?_
    refine GoJ.cond (t := true) (by kernel_rfl) (fun _ => ?_) (fun hf => nomatch hf)
    refine GoJ.seq ?_
    refine GoJ.regV hT (cnt := 0) (ins := [o0, o0]) (live := [6]) (ids := [3]) (σ' := ⟨[(6, (V.e (E.sc (S.ptr 0 0))))], [(some (Obj.box [(S.dat (D.bool sum0)), (S.dat (D.sl sum1))]))], 21⟩) (obs := []) (by kernel_rfl) (by kernel_rfl) (by kernel_rfl) trivial ?_
    exact GoJ.retV hT func129 (ids := []) (r := (V.e (E.agg [(S.dat (D.bool sum0)), (S.dat (D.sl sum1))]))) (r' := (V.e (E.agg [(S.dat (D.bool sum0)), (S.dat (D.sl sum1))]))) (σ' := ⟨[], [], 21⟩) (by kernel_rfl) (by kernel_rfl) (by kernel_rfl) (by kernel_rfl) (by kernel_rfl) h
  · replace h := h.2 h2
    obtain ⟨r1, h3, h⟩ := h
    refine GoJ.regV hT (cnt := 0) (ins := [o0, ((Or.call (V.e (E.sc (S.dat (D.int .i64 r)))) [] []), 0, 0), o0, ((Or.bool false), 0, 0), o0, ((Or.call (V.e (E.sc (S.dat (D.int .i64 r1)))) [] []), 0, 0), o0, o0]) (live := [3, 4, 5, 6, 14]) (ids := [0, 1, 2, 3]) (σ' := ⟨[(3, (V.e (E.sc (S.ptr 0 0)))), (4, (V.e (E.sc (S.ptr 1 0)))), (5, (V.e (E.sc (S.ptr 2 0)))), (6, (V.e (E.sc (S.ptr 3 0)))), (14, (V.e (E.sc (S.dat (D.bool (r1 == (0 : Int)))))))], [(some (Obj.box [(S.dat (D.bool sum0)), (S.dat (D.sl sum1))])), (some (Obj.box [(S.dat (D.bool x0)), (S.dat (D.sl x1))])), (some (Obj.box [(S.dat (D.bool y0)), (S.dat (D.sl y1))])), (some (Obj.box [(S.dat (D.bool false)), (S.dat (D.raw (.slice none 0 0)))]))], 21⟩) (obs := [FnD prog 91 [(V.e (E.agg [(S.dat (D.bool x0)), (S.dat (D.sl x1))]))] (V.e (E.sc (S.dat (D.int .i64 r)))) [], (r == (0 : Int)) = false, FnD prog 91 [(V.e (E.agg [(S.dat (D.bool y0)), (S.dat (D.sl y1))]))] (V.e (E.sc (S.dat (D.int .i64 r1)))) []]) (by kernel_rfl) (by kernel_rfl) (by kernel_rfl) ⟨h1, h2, h3, trivial⟩ ?_
    refine GoJ.cond (t := (r1 == (0 : Int))) (by kernel_rfl) (fun h4 => ?_) (fun h4 => ?_)
    · replace h := h.1 h4
      refine GoJ.seq ?_
      refine GoJ.regV hT (cnt := 0) (ins := [o0, o0]) (live := [6]) (ids := [3]) (σ' := ⟨[(6, (V.e (E.sc (S.ptr 0 0))))], [(some (Obj.box [(S.dat (D.bool sum0)), (S.dat (D.sl sum1))]))], 21⟩) (obs := []) (by kernel_rfl) (by kernel_rfl) (by kernel_rfl) trivial ?_
      exact GoJ.retV hT func129 (ids := []) (r := (V.e (E.agg [(S.dat (D.bool sum0)), (S.dat (D.sl sum1))]))) (r' := (V.e (E.agg [(S.dat (D.bool sum0)), (S.dat (D.sl sum1))]))) (σ' := ⟨[], [], 21⟩) (by kernel_rfl) (by kernel_rfl) (by kernel_rfl) (by kernel_rfl) (by kernel_rfl) h
    · replace h := h.2 h4
      refine GoJ.skip ?_
      refine GoJ.seq ?_
      obtain ⟨r0, r11, r01, r12, h5, h6, h⟩ := h
      refine GoJ.drawV hmix hT (cnt := 0) (ins := [⟨Or.none, 0, 0, [], [3], [], []⟩, ⟨Or.none, 0, 0, [], [4], [], []⟩, ⟨Or.none, 0, 0, [], [5], [], []⟩, ⟨(Or.call (V.e (E.agg [(S.dat (D.bool r0)), (S.dat (D.sl r11))])) [] []), 0, 0, [1, 2], [17, 18], [], []⟩, ⟨(Or.call (V.e (E.agg [(S.dat (D.bool r01)), (S.dat (D.sl r12))])) [] []), 0, 0, [0, 1, 2, 3], [16, 19], [], []⟩, ⟨Or.none, 0, 0, [0, 1, 2, 3, 4], [6, 20], [3], []⟩]) (live := [6]) (ids := [3]) (σ' := ⟨[(6, (V.e (E.sc (S.ptr 0 0))))], [(some (Obj.box [(S.dat (D.bool r01)), (S.dat (D.sl r12))]))], 21⟩) (obs := [FnD prog 113 [(V.e (E.agg [(S.dat (D.bool x0)), (S.dat (D.sl x1))])), (V.e (E.agg [(S.dat (D.bool y0)), (S.dat (D.sl y1))]))] (V.e (E.agg [(S.dat (D.bool r0)), (S.dat (D.sl r11))])) [], FnD prog 106 [(V.e (E.agg [(S.dat (D.bool sum0)), (S.dat (D.sl sum1))])), (V.e (E.agg [(S.dat (D.bool r0)), (S.dat (D.sl r11))]))] (V.e (E.agg [(S.dat (D.bool r01)), (S.dat (D.sl r12))])) []]) (by kernel_rfl) (by kernel_rfl) (by kernel_rfl) ⟨h5, h6, trivial⟩ ?_
      exact GoJ.retV hT func129 (ids := []) (r := (V.e (E.agg [(S.dat (D.bool r01)), (S.dat (D.sl r12))]))) (r' := (V.e (E.agg [(S.dat (D.bool r01)), (S.dat (D.sl r12))]))) (σ' := ⟨[], [], 21⟩) (by kernel_rfl) (by kernel_rfl) (by kernel_rfl) (by kernel_rfl) (by kernel_rfl) h

/- f78 torsion/matrix.dot -/
def vc78 (a : List (List D)) (b : List (List D)) (R : V → Heap → Prop) : Prop :=
  ∃ (r0 : Bool) (r1 : List (List D)),
  (FnD prog 128 [(V.e (E.sc (S.dat (D.sl a)))), (V.e (E.sc (S.dat (D.sl b)))), (V.e (E.agg [(S.dat (D.bool false)), (S.dat (D.sl ([] : List (List D))))])), (V.e (E.sc (S.dat (D.fn (.func 129) ([] : List D)))))] (V.e (E.agg [(S.dat (D.bool r0)), (S.dat (D.sl r1))])) []) ∧
  (R (V.e (E.agg [(S.dat (D.bool r0)), (S.dat (D.sl r1))])) [])

theorem vc78_ok (a : List (List D)) (b : List (List D)) {R : V → Heap → Prop} (h : vc78 a b R) : FnG prog 78 [(V.e (E.sc (S.dat (D.sl a)))), (V.e (E.sc (S.dat (D.sl b))))] [] R := by
  unfold vc78 at h
  refine FnG.of (m := 9) (c := _) func78 rfl (by kernel_rfl) ntmps78 (Nat.le_of_ble_eq_true rfl) ?_
  refine GoJ.seq ?_
  refine GoJ.regV hT (cnt := 1) (ins := [(Or.none, 0, 1)]) (live := [0, 1, 4]) (ids := [0]) (σ' := ⟨[(0, (V.e (E.sc (S.dat (D.sl a))))), (1, (V.e (E.sc (S.dat (D.sl b))))), (4, (V.e (E.sc (S.ptr 0 0))))], [(some (Obj.box [(S.dat (D.bool false)), (S.dat (D.raw (.slice none 0 0)))]))], 9⟩) (obs := []) (by kernel_rfl) (by kernel_rfl) (by kernel_rfl) trivial ?_
  refine GoJ.seq ?_
  obtain ⟨r0, r1, h1, h⟩ := h
  refine GoJ.regV hT (cnt := 0) (ins := [o0, o0, o0, ((Or.call (V.e (E.agg [(S.dat (D.bool r0)), (S.dat (D.sl r1))])) [] []), 0, 0), o0]) (live := [4]) (ids := [0]) (σ' := ⟨[(4, (V.e (E.sc (S.ptr 0 0))))], [(some (Obj.box [(S.dat (D.bool r0)), (S.dat (D.sl r1))]))], 9⟩) (obs := [FnD prog 128 [(V.e (E.sc (S.dat (D.sl a)))), (V.e (E.sc (S.dat (D.sl b)))), (V.e (E.agg [(S.dat (D.bool false)), (S.dat (D.sl ([] : List (List D))))])), (V.e (E.sc (S.dat (D.fn (.func 129) ([] : List D)))))] (V.e (E.agg [(S.dat (D.bool r0)), (S.dat (D.sl r1))])) []]) (by kernel_rfl) (by kernel_rfl) (by kernel_rfl) ⟨h1, trivial⟩ ?_
  exact GoJ.retV hT func78 (ids := []) (r := (V.e (E.agg [(S.dat (D.bool r0)), (S.dat (D.sl r1))]))) (r' := (V.e (E.agg [(S.dat (D.bool r0)), (S.dat (D.sl r1))]))) (σ' := ⟨[], [], 9⟩) (by kernel_rfl) (by kernel_rfl) (by kernel_rfl) (by kernel_rfl) (by kernel_rfl) h

/- f77 torsion/matrix.Mul$1 -/
def vc77 (i : Int) (j : Int) (c00 : Int) (c01 : Int) (c02 : List (List D)) (c10 : Int) (c11 : Int) (c12 : List (List D)) (R : V → Heap → Prop) : Prop :=
  ∃ (vx : List (List D)) (vx1 : List (List D)) (r0 : Bool) (r1 : List (List D)),
  (0 ≤ i ∧ i < (c02.length : Int)) ∧
  (c02[(i).toNat]? = some [(D.sl vx)]) ∧
  (0 ≤ j ∧ j < (c12.length : Int)) ∧
  (c12[(j).toNat]? = some [(D.sl vx1)]) ∧
  (FnD prog 78 [(V.e (E.sc (S.dat (D.sl vx)))), (V.e (E.sc (S.dat (D.sl vx1))))] (V.e (E.agg [(S.dat (D.bool r0)), (S.dat (D.sl r1))])) []) ∧
  (R (V.e (E.agg [(S.dat (D.bool r0)), (S.dat (D.sl r1))])) [])

theorem vc77_ok (i : Int) (j : Int) (c00 : Int) (c01 : Int) (c02 : List (List D)) (c10 : Int) (c11 : Int) (c12 : List (List D)) {R : V → Heap → Prop} (h : vc77 i j c00 c01 c02 c10 c11 c12 R) : FnG prog 77 [(V.e (E.sc (S.dat (D.int .i64 i)))), (V.e (E.sc (S.dat (D.int .i64 j)))), (V.e (E.sc (S.dat (D.box [(D.int .i64 c00), (D.int .i64 c01), (D.sl c02)])))), (V.e (E.sc (S.dat (D.box [(D.int .i64 c10), (D.int .i64 c11), (D.sl c12)]))))] [] R := by
  unfold vc77 at h
  refine FnG.of (m := 18) (c := _) func77 rfl (by kernel_rfl) ntmps77 (Nat.le_of_ble_eq_true rfl) ?_
  refine GoJ.seq ?_
  refine GoJ.regV hT (cnt := 1) (ins := [(Or.none, 0, 1)]) (live := [0, 1, 2, 3, 6]) (ids := [0]) (σ' := ⟨[(0, (V.e (E.sc (S.dat (D.int .i64 i))))), (1, (V.e (E.sc (S.dat (D.int .i64 j))))), (2, (V.e (E.sc (S.dat (D.box [(D.int .i64 c00), (D.int .i64 c01), (D.sl c02)]))))), (3, (V.e (E.sc (S.dat (D.box [(D.int .i64 c10), (D.int .i64 c11), (D.sl c12)]))))), (6, (V.e (E.sc (S.ptr 0 0))))], [(some (Obj.box [(S.dat (D.bool false)), (S.dat (D.raw (.slice none 0 0)))]))], 18⟩) (obs := []) (by kernel_rfl) (by kernel_rfl) (by kernel_rfl) trivial ?_
  refine GoJ.seq ?_
  obtain ⟨vx, vx1, r0, r1, h1, h2, h3, h4, h5, h⟩ := h
  refine GoJ.drawV hmix hT (cnt := 0) (ins := [⟨Or.none, 0, 0, [], [2], [], []⟩, ⟨Or.none, 0, 0, [0], [7], [], []⟩, ⟨Or.none, 0, 0, [], [0], [], []⟩, ⟨Or.none, 0, 0, [0, 1, 2], [8, 9], [], []⟩, ⟨(Or.cells [(D.sl vx)]), 0, 0, [0, 1, 2, 3], [10], [], []⟩, ⟨Or.none, 0, 0, [], [3], [], []⟩, ⟨Or.none, 0, 0, [5], [12], [], []⟩, ⟨Or.none, 0, 0, [], [1], [], []⟩, ⟨Or.none, 0, 0, [5, 6, 7], [13, 14], [], []⟩, ⟨(Or.cells [(D.sl vx1)]), 0, 0, [5, 6, 7, 8], [15], [], []⟩, ⟨(Or.call (V.e (E.agg [(S.dat (D.bool r0)), (S.dat (D.sl r1))])) [] []), 0, 0, [0, 1, 2, 3, 4, 5, 6, 7, 8, 9], [11, 16], [], []⟩, ⟨Or.none, 0, 0, [0, 1, 2, 3, 4, 5, 6, 7, 8, 9, 10], [6, 17], [0], []⟩]) (live := [6]) (ids := [0]) (σ' := ⟨[(6, (V.e (E.sc (S.ptr 0 0))))], [(some (Obj.box [(S.dat (D.bool r0)), (S.dat (D.sl r1))]))], 18⟩) (obs := [0 ≤ i ∧ i < (c02.length : Int), c02[(i).toNat]? = some [(D.sl vx)], 0 ≤ j ∧ j < (c12.length : Int), c12[(j).toNat]? = some [(D.sl vx1)], FnD prog 78 [(V.e (E.sc (S.dat (D.sl vx)))), (V.e (E.sc (S.dat (D.sl vx1))))] (V.e (E.agg [(S.dat (D.bool r0)), (S.dat (D.sl r1))])) []]) (by kernel_rfl) (by kernel_rfl) (by kernel_rfl) ⟨h1, h2, h3, h4, h5, trivial⟩ ?_
  exact GoJ.retV hT func77 (ids := []) (r := (V.e (E.agg [(S.dat (D.bool r0)), (S.dat (D.sl r1))]))) (r' := (V.e (E.agg [(S.dat (D.bool r0)), (S.dat (D.sl r1))]))) (σ' := ⟨[], [], 18⟩) (by kernel_rfl) (by kernel_rfl) (by kernel_rfl) (by kernel_rfl) (by kernel_rfl) h

/- f20 torsion/matrix.Mul -/
def vc20 (a0 : Int) (a1 : Int) (a2 : List (List D)) (b0 : Int) (b1 : Int) (b2 : List (List D)) (R : V → Heap → Prop) : Prop :=
  ((a1 != b0) = true →
    R (V.tup [(E.agg [(S.dat (D.int .i64 (0 : Int))), (S.dat (D.int .i64 (0 : Int))), (S.dat (D.sl ([] : List (List D))))]), (E.sc (S.dat (D.int .i64 (50 : Int))))]) []) ∧
  ((a1 != b0) = false →
    ∃ (r0 : Int) (r1 : Int) (r2 : List (List D)),
    (FnD prog 21 [(V.e (E.agg [(S.dat (D.int .i64 b0)), (S.dat (D.int .i64 b1)), (S.dat (D.sl b2))]))] (V.e (E.agg [(S.dat (D.int .i64 r0)), (S.dat (D.int .i64 r1)), (S.dat (D.sl r2))])) []) ∧
    (∃ (r01 : Int) (r11 : Int) (r21 : List (List D)),
    (FnD prog 76 [(V.e (E.sc (S.dat (D.int .i64 a0)))), (V.e (E.sc (S.dat (D.int .i64 b1)))), (V.e (E.sc (S.dat (D.fn (.func 77) [(D.box [(D.int .i64 a0), (D.int .i64 a1), (D.sl a2)]), (D.box [(D.int .i64 r0), (D.int .i64 r1), (D.sl r2)])]))))] (V.e (E.agg [(S.dat (D.int .i64 r01)), (S.dat (D.int .i64 r11)), (S.dat (D.sl r21))])) []) ∧
    (R (V.tup [(E.agg [(S.dat (D.int .i64 r01)), (S.dat (D.int .i64 r11)), (S.dat (D.sl r21))]), (E.sc (S.dat (D.int .i64 (0 : Int))))]) [])))

theorem vc20_ok (a0 : Int) (a1 : Int) (a2 : List (List D)) (b0 : Int) (b1 : Int) (b2 : List (List D)) {R : V → Heap → Prop} (h : vc20 a0 a1 a2 b0 b1 b2 R) : FnG prog 20 [(V.e (E.agg [(S.dat (D.int .i64 a0)), (S.dat (D.int .i64 a1)), (S.dat (D.sl a2))])), (V.e (E.agg [(S.dat (D.int .i64 b0)), (S.dat (D.int .i64 b1)), (S.dat (D.sl b2))]))] [] R := by
  unfold vc20 at h
  refine FnG.of (m := 21) (c := _) func20 rfl (by kernel_rfl) ntmps20 (Nat.le_of_ble_eq_true rfl) ?_
  refine GoJ.seq ?_
  refine GoJ.regV hT (cnt := 3) (ins := [(Or.none, 0, 1), (Or.none, 1, 1), (Or.none, 2, 1), o0]) (live := [2, 3, 4]) (ids := [0, 1, 2]) (σ' := ⟨[(2, (V.e (E.sc (S.ptr 0 0)))), (3, (V.e (E.sc (S.ptr 1 0)))), (4, (V.e (E.sc (S.ptr 2 0))))], [(some (Obj.box [(S.dat (D.int .i64 a0)), (S.dat (D.int .i64 a1)), (S.dat (D.sl a2))])), (some (Obj.box [(S.dat (D.int .i64 b0)), (S.dat (D.int .i64 b1)), (S.dat (D.sl b2))])), (some (Obj.box [(S.dat (D.int .i64 (0 : Int))), (S.dat (D.int .i64 (0 : Int))), (S.dat (D.raw (.slice none 0 0)))]))], 21⟩) (obs := []) (by kernel_rfl) (by kernel_rfl) (by kernel_rfl) trivial ?_
  refine GoJ.seq ?_
  refine GoJ.seq ?_
  refine GoJ.regV hT (cnt := 0) (ins := [o0, o0, o0, o0, o0]) (live := [2, 3, 4, 11]) (ids := [0, 1, 2]) (σ' := ⟨[(2, (V.e (E.sc (S.ptr 0 0)))), (3, (V.e (E.sc (S.ptr 1 0)))), (4, (V.e (E.sc (S.ptr 2 0)))), (11, (V.e (E.sc (S.dat (D.bool (a1 != b0))))))], [(some (Obj.box [(S.dat (D.int .i64 a0)), (S.dat (D.int .i64 a1)), (S.dat (D.sl a2))])), (some (Obj.box [(S.dat (D.int .i64 b0)), (S.dat (D.int .i64 b1)), (S.dat (D.sl b2))])), (some (Obj.box [(S.dat (D.int .i64 (0 : Int))), (S.dat (D.int .i64 (0 : Int))), (S.dat (D.raw (.slice none 0 0)))]))], 21⟩) (obs := []) (by kernel_rfl) (by kernel_rfl) (by kernel_rfl) trivial ?_
  refine GoJ.cond (t := (a1 != b0)) (by kernel_rfl) (fun h1 => ?_) (fun h1 => ?_)
  · replace h := h.1 h1
    refine GoJ.seq ?_
    refine GoJ.regV hT (cnt := 0) (ins := [o0, o0, o0]) (live := [4, 5]) (ids := [2]) (σ' := ⟨[(4, (V.e (E.sc (S.ptr 0 0)))), (5, (V.e (E.sc (S.dat (D.int .i64 (50 : Int))))))], [(some (Obj.box [(S.dat (D.int .i64 (0 : Int))), (S.dat (D.int .i64 (0 : Int))), (S.dat (D.raw (.slice none 0 0)))]))], 21⟩) (obs := []) (by kernel_rfl) (by kernel_rfl) (by kernel_rfl) trivial ?_
    refine GoJ.wk (xnorm_ok (sl := [4, 5]) (bx := [0]) (σ' := ⟨[(4, (V.e (E.sc (S.ptr 0 0)))), (5, (V.e (E.sc (S.dat (D.int .i64 (50 : Int))))))], [(some (Obj.box [(S.dat (D.int .i64 (0 : Int))), (S.dat (D.int .i64 (0 : Int))), (S.dat (D.sl ([] : List (List D))))]))], 21⟩) (by kernel_rfl)) ?_
    exact GoJ.retV hT func20 (ids := []) (r := (V.tup [(E.agg [(S.dat (D.int .i64 (0 : Int))), (S.dat (D.int .i64 (0 : Int))), (S.dat (D.sl ([] : List (List D))))]), (E.sc (S.dat (D.int .i64 (50 : Int))))])) (r' := (V.tup [(E.agg [(S.dat (D.int .i64 (0 : Int))), (S.dat (D.int .i64 (0 : Int))), (S.dat (D.sl ([] : List (List D))))]), (E.sc (S.dat (D.int .i64 (50 : Int))))])) (σ' := ⟨[], [], 21⟩) (by kernel_rfl) (by kernel_rfl) (by kernel_rfl) (by kernel_rfl) (by kernel_rfl) h
  · replace h := h.2 h1
    refine GoJ.skip ?_
    refine GoJ.seq ?_
    obtain ⟨r0, r1, r2, h2, h⟩ := h
    refine GoJ.regV hT (cnt := 1) (ins := [o0, ((Or.call (V.e (E.agg [(S.dat (D.int .i64 r0)), (S.dat (D.int .i64 r1)), (S.dat (D.sl r2))])) [] []), 0, 0), (Or.none, 3, 1), o0]) (live := [2, 3, 4, 6]) (ids := [0, 1, 2, 3]) (σ' := ⟨[(2, (V.e (E.sc (S.ptr 0 0)))), (3, (V.e (E.sc (S.ptr 1 0)))), (4, (V.e (E.sc (S.ptr 2 0)))), (6, (V.e (E.sc (S.ptr 3 0))))], [(some (Obj.box [(S.dat (D.int .i64 a0)), (S.dat (D.int .i64 a1)), (S.dat (D.sl a2))])), (some (Obj.box [(S.dat (D.int .i64 b0)), (S.dat (D.int .i64 b1)), (S.dat (D.sl b2))])), (some (Obj.box [(S.dat (D.int .i64 (0 : Int))), (S.dat (D.int .i64 (0 : Int))), (S.dat (D.raw (.slice none 0 0)))])), (some (Obj.box [(S.dat (D.int .i64 r0)), (S.dat (D.int .i64 r1)), (S.dat (D.sl r2))]))], 21⟩) (obs := [FnD prog 21 [(V.e (E.agg [(S.dat (D.int .i64 b0)), (S.dat (D.int .i64 b1)), (S.dat (D.sl b2))]))] (V.e (E.agg [(S.dat (D.int .i64 r0)), (S.dat (D.int .i64 r1)), (S.dat (D.sl r2))])) []]) (by kernel_rfl) (by kernel_rfl) (by kernel_rfl) ⟨h2, trivial⟩ ?_
    refine GoJ.seq ?_
    refine GoJ.wk (xfreeze_ok (ids := [0, 3]) (σ' := ⟨[(2, (V.e (E.sc (S.dat (D.box [(D.int .i64 a0), (D.int .i64 a1), (D.sl a2)]))))), (3, (V.e (E.sc (S.ptr 1 0)))), (4, (V.e (E.sc (S.ptr 2 0)))), (6, (V.e (E.sc (S.dat (D.box [(D.int .i64 r0), (D.int .i64 r1), (D.sl r2)])))))], [none, (some (Obj.box [(S.dat (D.int .i64 b0)), (S.dat (D.int .i64 b1)), (S.dat (D.sl b2))])), (some (Obj.box [(S.dat (D.int .i64 (0 : Int))), (S.dat (D.int .i64 (0 : Int))), (S.dat (D.raw (.slice none 0 0)))])), none], 21⟩) (by kernel_rfl)) ?_
    obtain ⟨r01, r11, r21, h3, h⟩ := h
    refine GoJ.regV hT (cnt := 0) (ins := [o0, o0, o0, o0, o0, ((Or.call (V.e (E.agg [(S.dat (D.int .i64 r01)), (S.dat (D.int .i64 r11)), (S.dat (D.sl r21))])) [] []), 0, 0), o0, o0]) (live := [4, 5]) (ids := [2]) (σ' := ⟨[(4, (V.e (E.sc (S.ptr 0 0)))), (5, (V.e (E.sc (S.dat (D.int .i64 (0 : Int))))))], [(some (Obj.box [(S.dat (D.int .i64 r01)), (S.dat (D.int .i64 r11)), (S.dat (D.sl r21))]))], 21⟩) (obs := [FnD prog 76 [(V.e (E.sc (S.dat (D.int .i64 a0)))), (V.e (E.sc (S.dat (D.int .i64 b1)))), (V.e (E.sc (S.dat (D.fn (.func 77) [(D.box [(D.int .i64 a0), (D.int .i64 a1), (D.sl a2)]), (D.box [(D.int .i64 r0), (D.int .i64 r1), (D.sl r2)])]))))] (V.e (E.agg [(S.dat (D.int .i64 r01)), (S.dat (D.int .i64 r11)), (S.dat (D.sl r21))])) []]) (by kernel_rfl) (by kernel_rfl) (by kernel_rfl) ⟨h3, trivial⟩ ?_
    exact GoJ.retV hT func20 (ids := []) (r := (V.tup [(E.agg [(S.dat (D.int .i64 r01)), (S.dat (D.int .i64 r11)), (S.dat (D.sl r21))]), (E.sc (S.dat (D.int .i64 (0 : Int))))])) (r' := (V.tup [(E.agg [(S.dat (D.int .i64 r01)), (S.dat (D.int .i64 r11)), (S.dat (D.sl r21))]), (E.sc (S.dat (D.int .i64 (0 : Int))))])) (σ' := ⟨[], [], 21⟩) (by kernel_rfl) (by kernel_rfl) (by kernel_rfl) (by kernel_rfl) (by kernel_rfl) h

/- f79 torsion/matrix.Transpose$1 -/
def vc79 (i : Int) (j : Int) (c00 : Int) (c01 : Int) (c02 : List (List D)) (R : V → Heap → Prop) : Prop :=
  ∃ (vx : List (List D)) (x0 : Bool) (x1 : List (List D)),
  (0 ≤ j ∧ j < (c02.length : Int)) ∧
  (c02[(j).toNat]? = some [(D.sl vx)]) ∧
  (0 ≤ i ∧ i < (vx.length : Int)) ∧
  (vx[(i).toNat]? = some [(D.bool x0), (D.sl x1)]) ∧
  (R (V.e (E.agg [(S.dat (D.bool x0)), (S.dat (D.sl x1))])) [])

theorem vc79_ok (i : Int) (j : Int) (c00 : Int) (c01 : Int) (c02 : List (List D)) {R : V → Heap → Prop} (h : vc79 i j c00 c01 c02 R) : FnG prog 79 [(V.e (E.sc (S.dat (D.int .i64 i)))), (V.e (E.sc (S.dat (D.int .i64 j)))), (V.e (E.sc (S.dat (D.box [(D.int .i64 c00), (D.int .i64 c01), (D.sl c02)]))))] [] R := by
  unfold vc79 at h
  refine FnG.of (m := 14) (c := _) func79 rfl (by kernel_rfl) ntmps79 (Nat.le_of_ble_eq_true rfl) ?_
  refine GoJ.seq ?_
  refine GoJ.regV hT (cnt := 1) (ins := [(Or.none, 0, 1)]) (live := [0, 1, 2, 5]) (ids := [0]) (σ' := ⟨[(0, (V.e (E.sc (S.dat (D.int .i64 i))))), (1, (V.e (E.sc (S.dat (D.int .i64 j))))), (2, (V.e (E.sc (S.dat (D.box [(D.int .i64 c00), (D.int .i64 c01), (D.sl c02)]))))), (5, (V.e (E.sc (S.ptr 0 0))))], [(some (Obj.box [(S.dat (D.bool false)), (S.dat (D.raw (.slice none 0 0)))]))], 14⟩) (obs := []) (by kernel_rfl) (by kernel_rfl) (by kernel_rfl) trivial ?_
  refine GoJ.seq ?_
  obtain ⟨vx, x0, x1, h1, h2, h3, h4, h⟩ := h
  refine GoJ.regV hT (cnt := 0) (ins := [o0, o0, o0, o0, ((Or.cells [(D.sl vx)]), 0, 0), o0, o0, ((Or.cells [(D.bool x0), (D.sl x1)]), 0, 0), o0]) (live := [5]) (ids := [0]) (σ' := ⟨[(5, (V.e (E.sc (S.ptr 0 0))))], [(some (Obj.box [(S.dat (D.bool x0)), (S.dat (D.sl x1))]))], 14⟩) (obs := [0 ≤ j ∧ j < (c02.length : Int), c02[(j).toNat]? = some [(D.sl vx)], 0 ≤ i ∧ i < (vx.length : Int), vx[(i).toNat]? = some [(D.bool x0), (D.sl x1)]]) (by kernel_rfl) (by kernel_rfl) (by kernel_rfl) ⟨h1, h2, h3, h4, trivial⟩ ?_
  exact GoJ.retV hT func79 (ids := []) (r := (V.e (E.agg [(S.dat (D.bool x0)), (S.dat (D.sl x1))]))) (r' := (V.e (E.agg [(S.dat (D.bool x0)), (S.dat (D.sl x1))]))) (σ' := ⟨[], [], 14⟩) (by kernel_rfl) (by kernel_rfl) (by kernel_rfl) (by kernel_rfl) (by kernel_rfl) h

/- f21 torsion/matrix.Transpose -/
def vc21 (a0 : Int) (a1 : Int) (a2 : List (List D)) (R : V → Heap → Prop) : Prop :=
  ∃ (r0 : Int) (r1 : Int) (r2 : List (List D)),
  (FnD prog 76 [(V.e (E.sc (S.dat (D.int .i64 a1)))), (V.e (E.sc (S.dat (D.int .i64 a0)))), (V.e (E.sc (S.dat (D.fn (.func 79) [(D.box [(D.int .i64 a0), (D.int .i64 a1), (D.sl a2)])]))))] (V.e (E.agg [(S.dat (D.int .i64 r0)), (S.dat (D.int .i64 r1)), (S.dat (D.sl r2))])) []) ∧
  (R (V.e (E.agg [(S.dat (D.int .i64 r0)), (S.dat (D.int .i64 r1)), (S.dat (D.sl r2))])) [])

theorem vc21_ok (a0 : Int) (a1 : Int) (a2 : List (List D)) {R : V → Heap → Prop} (h : vc21 a0 a1 a2 R) : FnG prog 21 [(V.e (E.agg [(S.dat (D.int .i64 a0)), (S.dat (D.int .i64 a1)), (S.dat (D.sl a2))]))] [] R := by
  unfold vc21 at h
  refine FnG.of (m := 9) (c := _) func21 rfl (by kernel_rfl) ntmps21 (Nat.le_of_ble_eq_true rfl) ?_
  refine GoJ.seq ?_
  refine GoJ.regV hT (cnt := 2) (ins := [(Or.none, 0, 1), (Or.none, 1, 1)]) (live := [1, 2]) (ids := [0, 1]) (σ' := ⟨[(1, (V.e (E.sc (S.ptr 0 0)))), (2, (V.e (E.sc (S.ptr 1 0))))], [(some (Obj.box [(S.dat (D.int .i64 a0)), (S.dat (D.int .i64 a1)), (S.dat (D.sl a2))])), (some (Obj.box [(S.dat (D.int .i64 (0 : Int))), (S.dat (D.int .i64 (0 : Int))), (S.dat (D.raw (.slice none 0 0)))]))], 9⟩) (obs := []) (by kernel_rfl) (by kernel_rfl) (by kernel_rfl) trivial ?_
  refine GoJ.seq ?_
  refine GoJ.wk (xfreeze_ok (ids := [0]) (σ' := ⟨[(1, (V.e (E.sc (S.dat (D.box [(D.int .i64 a0), (D.int .i64 a1), (D.sl a2)]))))), (2, (V.e (E.sc (S.ptr 1 0))))], [none, (some (Obj.box [(S.dat (D.int .i64 (0 : Int))), (S.dat (D.int .i64 (0 : Int))), (S.dat (D.raw (.slice none 0 0)))]))], 9⟩) (by kernel_rfl)) ?_
  obtain ⟨r0, r1, r2, h1, h⟩ := h
  refine GoJ.regV hT (cnt := 0) (ins := [o0, o0, o0, o0, o0, ((Or.call (V.e (E.agg [(S.dat (D.int .i64 r0)), (S.dat (D.int .i64 r1)), (S.dat (D.sl r2))])) [] []), 0, 0), o0]) (live := [2]) (ids := [1]) (σ' := ⟨[(2, (V.e (E.sc (S.ptr 0 0))))], [(some (Obj.box [(S.dat (D.int .i64 r0)), (S.dat (D.int .i64 r1)), (S.dat (D.sl r2))]))], 9⟩) (obs := [FnD prog 76 [(V.e (E.sc (S.dat (D.int .i64 a1)))), (V.e (E.sc (S.dat (D.int .i64 a0)))), (V.e (E.sc (S.dat (D.fn (.func 79) [(D.box [(D.int .i64 a0), (D.int .i64 a1), (D.sl a2)])]))))] (V.e (E.agg [(S.dat (D.int .i64 r0)), (S.dat (D.int .i64 r1)), (S.dat (D.sl r2))])) []]) (by kernel_rfl) (by kernel_rfl) (by kernel_rfl) ⟨h1, trivial⟩ ?_
  exact GoJ.retV hT func21 (ids := []) (r := (V.e (E.agg [(S.dat (D.int .i64 r0)), (S.dat (D.int .i64 r1)), (S.dat (D.sl r2))]))) (r' := (V.e (E.agg [(S.dat (D.int .i64 r0)), (S.dat (D.int .i64 r1)), (S.dat (D.sl r2))]))) (σ' := ⟨[], [], 9⟩) (by kernel_rfl) (by kernel_rfl) (by kernel_rfl) (by kernel_rfl) (by kernel_rfl) h

/- f38 torsion/matrix.Dot -/
def vc38 (a : List (List D)) (b : List (List D)) (R : V → Heap → Prop) : Prop :=
  (((a.length : Int) != (b.length : Int)) = true →
    R (V.tup [(E.agg [(S.dat (D.bool false)), (S.dat (D.sl ([] : List (List D))))]), (E.sc (S.dat (D.int .i64 (50 : Int))))]) []) ∧
  (((a.length : Int) != (b.length : Int)) = false →
    ∃ (r0 : Bool) (r1 : List (List D)),
    (FnD prog 78 [(V.e (E.sc (S.dat (D.sl a)))), (V.e (E.sc (S.dat (D.sl b))))] (V.e (E.agg [(S.dat (D.bool r0)), (S.dat (D.sl r1))])) []) ∧
    (R (V.tup [(E.agg [(S.dat (D.bool r0)), (S.dat (D.sl r1))]), (E.sc (S.dat (D.int .i64 (0 : Int))))]) []))

theorem vc38_ok (a : List (List D)) (b : List (List D)) {R : V → Heap → Prop} (h : vc38 a b R) : FnG prog 38 [(V.e (E.sc (S.dat (D.sl a)))), (V.e (E.sc (S.dat (D.sl b))))] [] R := by
  unfold vc38 at h
  refine FnG.of (m := 15) (c := _) func38 rfl (by kernel_rfl) ntmps38 (Nat.le_of_ble_eq_true rfl) ?_
  refine GoJ.seq ?_
  refine GoJ.regV hT (cnt := 1) (ins := [(Or.none, 0, 1), o0]) (live := [0, 1, 4]) (ids := [0]) (σ' := ⟨[(0, (V.e (E.sc (S.dat (D.sl a))))), (1, (V.e (E.sc (S.dat (D.sl b))))), (4, (V.e (E.sc (S.ptr 0 0))))], [(some (Obj.box [(S.dat (D.bool false)), (S.dat (D.raw (.slice none 0 0)))]))], 15⟩) (obs := []) (by kernel_rfl) (by kernel_rfl) (by kernel_rfl) trivial ?_
  refine GoJ.seq ?_
  refine GoJ.seq ?_
  refine GoJ.regV hT (cnt := 0) (ins := [o0, o0, o0, o0, o0]) (live := [0, 1, 4, 10]) (ids := [0]) (σ' := ⟨[(0, (V.e (E.sc (S.dat (D.sl a))))), (1, (V.e (E.sc (S.dat (D.sl b))))), (4, (V.e (E.sc (S.ptr 0 0)))), (10, (V.e (E.sc (S.dat (D.bool ((a.length : Int) != (b.length : Int)))))))], [(some (Obj.box [(S.dat (D.bool false)), (S.dat (D.raw (.slice none 0 0)))]))], 15⟩) (obs := []) (by kernel_rfl) (by kernel_rfl) (by kernel_rfl) trivial ?_
  refine GoJ.cond (t := ((a.length : Int) != (b.length : Int))) (by kernel_rfl) (fun h1 => ?_) (fun h1 => ?_)
  · replace h := h.1 h1
    refine GoJ.seq ?_
    refine GoJ.regV hT (cnt := 0) (ins := [o0, o0, o0]) (live := [4, 5]) (ids := [0]) (σ' := ⟨[(4, (V.e (E.sc (S.ptr 0 0)))), (5, (V.e (E.sc (S.dat (D.int .i64 (50 : Int))))))], [(some (Obj.box [(S.dat (D.bool false)), (S.dat (D.raw (.slice none 0 0)))]))], 15⟩) (obs := []) (by kernel_rfl) (by kernel_rfl) (by kernel_rfl) trivial ?_
    refine GoJ.wk (xnorm_ok (sl := [4, 5]) (bx := [0]) (σ' := ⟨[(4, (V.e (E.sc (S.ptr 0 0)))), (5, (V.e (E.sc (S.dat (D.int .i64 (50 : Int))))))], [(some (Obj.box [(S.dat (D.bool false)), (S.dat (D.sl ([] : List (List D))))]))], 15⟩) (by kernel_rfl)) ?_
    exact GoJ.retV hT func38 (ids := []) (r := (V.tup [(E.agg [(S.dat (D.bool false)), (S.dat (D.sl ([] : List (List D))))]), (E.sc (S.dat (D.int .i64 (50 : Int))))])) (r' := (V.tup [(E.agg [(S.dat (D.bool false)), (S.dat (D.sl ([] : List (List D))))]), (E.sc (S.dat (D.int .i64 (50 : Int))))])) (σ' := ⟨[], [], 15⟩) (by kernel_rfl) (by kernel_rfl) (by kernel_rfl) (by kernel_rfl) (by kernel_rfl) h
  · replace h := h.2 h1
    refine GoJ.skip ?_
    refine GoJ.seq ?_
    obtain ⟨r0, r1, h2, h⟩ := h
    refine GoJ.regV hT (cnt := 0) (ins := [o0, o0, ((Or.call (V.e (E.agg [(S.dat (D.bool r0)), (S.dat (D.sl r1))])) [] []), 0, 0), o0, o0]) (live := [4, 5]) (ids := [0]) (σ' := ⟨[(4, (V.e (E.sc (S.ptr 0 0)))), (5, (V.e (E.sc (S.dat (D.int .i64 (0 : Int))))))], [(some (Obj.box [(S.dat (D.bool r0)), (S.dat (D.sl r1))]))], 15⟩) (obs := [FnD prog 78 [(V.e (E.sc (S.dat (D.sl a)))), (V.e (E.sc (S.dat (D.sl b))))] (V.e (E.agg [(S.dat (D.bool r0)), (S.dat (D.sl r1))])) []]) (by kernel_rfl) (by kernel_rfl) (by kernel_rfl) ⟨h2, trivial⟩ ?_
    exact GoJ.retV hT func38 (ids := []) (r := (V.tup [(E.agg [(S.dat (D.bool r0)), (S.dat (D.sl r1))]), (E.sc (S.dat (D.int .i64 (0 : Int))))])) (r' := (V.tup [(E.agg [(S.dat (D.bool r0)), (S.dat (D.sl r1))]), (E.sc (S.dat (D.int .i64 (0 : Int))))])) (σ' := ⟨[], [], 15⟩) (by kernel_rfl) (by kernel_rfl) (by kernel_rfl) (by kernel_rfl) (by kernel_rfl) h

/- f35 torsion/matrix.Times -/
def vc35 (v : List (List D)) (a0 : Int) (a1 : Int) (a2 : List (List D)) (R : V → Heap → Prop) : Prop :=
  (((v.length : Int) != a0) = true →
    R (V.tup [(E.sc (S.dat (D.sl ([] : List (List D))))), (E.sc (S.dat (D.int .i64 (50 : Int))))]) []) ∧
  (((v.length : Int) != a0) = false →
    ∃ (r0 : Int) (r1 : Int) (r2 : List (List D)),
    (FnD prog 21 [(V.e (E.agg [(S.dat (D.int .i64 a0)), (S.dat (D.int .i64 a1)), (S.dat (D.sl a2))]))] (V.e (E.agg [(S.dat (D.int .i64 r0)), (S.dat (D.int .i64 r1)), (S.dat (D.sl r2))])) []) ∧
    (∃ (J0 : (List (List D)) → Int → Prop) (μ0 : (List (List D)) → Int → Nat),
    J0 ([] : List (List D)) (0 : Int) ∧ ∀ (out : List (List D)) (t18 : Int), J0 out t18 →
      ((decide (t18 < (r2.length : Int))) = true →
        ∃ (vx : List (List D)),
        (0 ≤ t18 ∧ t18 < (r2.length : Int)) ∧
        (r2[(t18).toNat]? = some [(D.sl vx)]) ∧
        (∃ (r01 : Bool) (r11 : List (List D)),
        (FnD prog 78 [(V.e (E.sc (S.dat (D.sl v)))), (V.e (E.sc (S.dat (D.sl vx))))] (V.e (E.agg [(S.dat (D.bool r01)), (S.dat (D.sl r11))])) []) ∧
        ((out.length + ([[(D.bool r01), (D.sl r11)]] : List (List D)).length) * 32 ≤ 140737488355328) ∧
        (J0 (out ++ [[(D.bool r01), (D.sl r11)]]) (IntKind.i64.wrap (t18 + (1 : Int))) ∧ μ0 (out ++ [[(D.bool r01), (D.sl r11)]]) (IntKind.i64.wrap (t18 + (1 : Int))) < μ0 out t18))) ∧
      ((decide (t18 < (r2.length : Int))) = false →
        R (V.tup [(E.sc (S.dat (D.sl out))), (E.sc (S.dat (D.int .i64 (0 : Int))))]) [])))

theorem vc35_ok (v : List (List D)) (a0 : Int) (a1 : Int) (a2 : List (List D)) {R : V → Heap → Prop} (h : vc35 v a0 a1 a2 R) : FnG prog 35 [(V.e (E.sc (S.dat (D.sl v)))), (V.e (E.agg [(S.dat (D.int .i64 a0)), (S.dat (D.int .i64 a1)), (S.dat (D.sl a2))]))] [] R := by
  unfold vc35 at h
  refine FnG.of (m := 30) (c := _) func35 rfl (by kernel_rfl) ntmps35 (Nat.le_of_ble_eq_true rfl) ?_
  refine GoJ.seq ?_
  refine GoJ.regV hT (cnt := 1) (ins := [(Or.none, 0, 1), o0, o0]) (live := [0, 3]) (ids := [0]) (σ' := ⟨[(0, (V.e (E.sc (S.dat (D.sl v))))), (3, (V.e (E.sc (S.ptr 0 0))))], [(some (Obj.box [(S.dat (D.int .i64 a0)), (S.dat (D.int .i64 a1)), (S.dat (D.sl a2))]))], 30⟩) (obs := []) (by kernel_rfl) (by kernel_rfl) (by kernel_rfl) trivial ?_
  refine GoJ.seq ?_
  refine GoJ.seq ?_
  refine GoJ.regV hT (cnt := 0) (ins := [o0, o0, o0, o0, o0]) (live := [0, 3, 13]) (ids := [0]) (σ' := ⟨[(0, (V.e (E.sc (S.dat (D.sl v))))), (3, (V.e (E.sc (S.ptr 0 0)))), (13, (V.e (E.sc (S.dat (D.bool ((v.length : Int) != a0))))))], [(some (Obj.box [(S.dat (D.int .i64 a0)), (S.dat (D.int .i64 a1)), (S.dat (D.sl a2))]))], 30⟩) (obs := []) (by kernel_rfl) (by kernel_rfl) (by kernel_rfl) trivial ?_
  refine GoJ.cond (t := ((v.length : Int) != a0)) (by kernel_rfl) (fun h1 => ?_) (fun h1 => ?_)
  · replace h := h.1 h1
    refine GoJ.seq ?_
    refine GoJ.regV hT (cnt := 0) (ins := [o0, o0]) (live := [4, 5]) (ids := []) (σ' := ⟨[(4, (V.e (E.sc (S.dat (D.raw (.slice none 0 0)))))), (5, (V.e (E.sc (S.dat (D.int .i64 (50 : Int))))))], [], 30⟩) (obs := []) (by kernel_rfl) (by kernel_rfl) (by kernel_rfl) trivial ?_
    refine GoJ.wk (xnorm_ok (sl := [4, 5]) (bx := []) (σ' := ⟨[(4, (V.e (E.sc (S.dat (D.sl ([] : List (List D))))))), (5, (V.e (E.sc (S.dat (D.int .i64 (50 : Int))))))], [], 30⟩) (by kernel_rfl)) ?_
    exact GoJ.retV hT func35 (ids := []) (r := (V.tup [(E.sc (S.dat (D.sl ([] : List (List D))))), (E.sc (S.dat (D.int .i64 (50 : Int))))])) (r' := (V.tup [(E.sc (S.dat (D.sl ([] : List (List D))))), (E.sc (S.dat (D.int .i64 (50 : Int))))])) (σ' := ⟨[], [], 30⟩) (by kernel_rfl) (by kernel_rfl) (by kernel_rfl) (by kernel_rfl) (by kernel_rfl) h
  · replace h := h.2 h1
    refine GoJ.skip ?_
    refine GoJ.seq ?_
    refine GoJ.regV hT (cnt := 0) (ins := [o0]) (live := [0, 3, 6]) (ids := [0]) (σ' := ⟨[(0, (V.e (E.sc (S.dat (D.sl v))))), (3, (V.e (E.sc (S.ptr 0 0)))), (6, (V.e (E.sc (S.dat (D.raw (.slice none 0 0))))))], [(some (Obj.box [(S.dat (D.int .i64 a0)), (S.dat (D.int .i64 a1)), (S.dat (D.sl a2))]))], 30⟩) (obs := []) (by kernel_rfl) (by kernel_rfl) (by kernel_rfl) trivial ?_
    refine GoJ.seq ?_
    refine GoJ.seq ?_
    obtain ⟨r0, r1, r2, h2, h⟩ := h
    refine GoJ.regV hT (cnt := 0) (ins := [o0, ((Or.call (V.e (E.agg [(S.dat (D.int .i64 r0)), (S.dat (D.int .i64 r1)), (S.dat (D.sl r2))])) [] []), 0, 0), o0, o0, o0]) (live := [0, 6, 16, 17, 18]) (ids := []) (σ' := ⟨[(0, (V.e (E.sc (S.dat (D.sl v))))), (6, (V.e (E.sc (S.dat (D.raw (.slice none 0 0)))))), (16, (V.e (E.sc (S.dat (D.sl r2))))), (17, (V.e (E.sc (S.dat (D.int .i64 (r2.length : Int)))))), (18, (V.e (E.sc (S.dat (D.int .i64 (0 : Int))))))], [], 30⟩) (obs := [FnD prog 21 [(V.e (E.agg [(S.dat (D.int .i64 a0)), (S.dat (D.int .i64 a1)), (S.dat (D.sl a2))]))] (V.e (E.agg [(S.dat (D.int .i64 r0)), (S.dat (D.int .i64 r1)), (S.dat (D.sl r2))])) []]) (by kernel_rfl) (by kernel_rfl) (by kernel_rfl) ⟨h2, trivial⟩ ?_
    refine GoJ.block ?_
    refine GoJ.wk (xadopt_ok (sl := [6]) (bx := []) (z := 2) (σ' := ⟨[(0, (V.e (E.sc (S.dat (D.sl v))))), (6, (V.e (E.sc (S.ref 0)))), (16, (V.e (E.sc (S.dat (D.sl r2))))), (17, (V.e (E.sc (S.dat (D.int .i64 (r2.length : Int)))))), (18, (V.e (E.sc (S.dat (D.int .i64 (0 : Int))))))], [(some (Obj.arr 2 ([] : List (List D))))], 30⟩) (by kernel_rfl)) ?_
    obtain ⟨J0, μ0, hJ0, h⟩ := h
    refine GoJ.loop (X := (List (List D)) × Int) (fun x => (fun (out : List (List D)) (t18 : Int) => (⟨[(0, (V.e (E.sc (S.dat (D.sl v))))), (6, (V.e (E.sc (S.ref 0)))), (16, (V.e (E.sc (S.dat (D.sl r2))))), (17, (V.e (E.sc (S.dat (D.int .i64 (r2.length : Int)))))), (18, (V.e (E.sc (S.dat (D.int .i64 t18)))))], [(some (Obj.arr 2 out))], 30⟩ : St)) (x.1) (x.2)) (fun x => J0 (x.1) (x.2)) (fun x => μ0 (x.1) (x.2)) (([] : List (List D)), (0 : Int)) hJ0 ?_
    rintro ⟨out, t18⟩ hJ0 ih0
    replace h := h out t18 hJ0
    refine GoJ.seq ?_
    refine GoJ.regV hT (cnt := 0) (ins := [o0]) (live := [0, 6, 16, 17, 18, 19]) (ids := [0]) (σ' := ⟨[(0, (V.e (E.sc (S.dat (D.sl v))))), (6, (V.e (E.sc (S.ref 0)))), (16, (V.e (E.sc (S.dat (D.sl r2))))), (17, (V.e (E.sc (S.dat (D.int .i64 (r2.length : Int)))))), (18, (V.e (E.sc (S.dat (D.int .i64 t18))))), (19, (V.e (E.sc (S.dat (D.bool (decide (t18 < (r2.length : Int))))))))], [(some (Obj.arr 2 out))], 30⟩) (obs := []) (by kernel_rfl) (by kernel_rfl) (by kernel_rfl) trivial ?_
    refine GoJ.seq ?_
    refine GoJ.cond (t := (decide (t18 < (r2.length : Int)))) (by kernel_rfl) (fun h3 => ?_) (fun h3 => ?_)
    · replace h := h.1 h3
      refine GoJ.skip ?_
      refine GoJ.seq ?_
      refine GoJ.block ?_
      refine GoJ.seq ?_
      obtain ⟨vx, h4, h5, h⟩ := h
      refine GoJ.regV hT (cnt := 0) (ins := [o0, ((Or.cells [(D.sl vx)]), 0, 0), o0]) (live := [0, 6, 8, 16, 17, 18]) (ids := [0]) (σ' := ⟨[(0, (V.e (E.sc (S.dat (D.sl v))))), (6, (V.e (E.sc (S.ref 0)))), (8, (V.e (E.sc (S.dat (D.sl vx))))), (16, (V.e (E.sc (S.dat (D.sl r2))))), (17, (V.e (E.sc (S.dat (D.int .i64 (r2.length : Int)))))), (18, (V.e (E.sc (S.dat (D.int .i64 t18)))))], [(some (Obj.arr 2 out))], 30⟩) (obs := [0 ≤ t18 ∧ t18 < (r2.length : Int), r2[(t18).toNat]? = some [(D.sl vx)]]) (by kernel_rfl) (by kernel_rfl) (by kernel_rfl) ⟨h4, h5, trivial⟩ ?_
      obtain ⟨r01, r11, h6, h7, h⟩ := h
      refine GoJ.regV hT (cnt := 2) (ins := [o0, o0, o0, ((Or.call (V.e (E.agg [(S.dat (D.bool r01)), (S.dat (D.sl r11))])) [] []), 0, 0), (Or.none, 1, 1), (Or.none, 2, 1), o0]) (live := [0, 6, 16, 17, 18]) (ids := [2]) (σ' := ⟨[(0, (V.e (E.sc (S.dat (D.sl v))))), (6, (V.e (E.sc (S.ref 0)))), (16, (V.e (E.sc (S.dat (D.sl r2))))), (17, (V.e (E.sc (S.dat (D.int .i64 (r2.length : Int)))))), (18, (V.e (E.sc (S.dat (D.int .i64 t18)))))], [(some (Obj.arr 2 (out ++ [[(D.bool r01), (D.sl r11)]])))], 30⟩) (obs := [FnD prog 78 [(V.e (E.sc (S.dat (D.sl v)))), (V.e (E.sc (S.dat (D.sl vx))))] (V.e (E.agg [(S.dat (D.bool r01)), (S.dat (D.sl r11))])) [], (out.length + ([[(D.bool r01), (D.sl r11)]] : List (List D)).length) * 32 ≤ 140737488355328]) (by kernel_rfl) (by kernel_rfl) (by kernel_rfl) ⟨h6, h7, trivial⟩ ?_
      refine GoJ.inBlock ?_
      refine GoJ.regV hT (cnt := 0) (ins := [o0, o0]) (live := [0, 6, 16, 17, 18]) (ids := [0]) (σ' := ⟨[(0, (V.e (E.sc (S.dat (D.sl v))))), (6, (V.e (E.sc (S.ref 0)))), (16, (V.e (E.sc (S.dat (D.sl r2))))), (17, (V.e (E.sc (S.dat (D.int .i64 (r2.length : Int)))))), (18, (V.e (E.sc (S.dat (D.int .i64 (IntKind.i64.wrap (t18 + (1 : Int))))))))], [(some (Obj.arr 2 (out ++ [[(D.bool r01), (D.sl r11)]])))], 30⟩) (obs := []) (by kernel_rfl) (by kernel_rfl) (by kernel_rfl) trivial ?_
      exact ih0 ((out ++ [[(D.bool r01), (D.sl r11)]]), (IntKind.i64.wrap (t18 + (1 : Int)))) h.1 h.2
    · replace h := h.2 h3
      refine GoJ.exit rfl ?_
      refine GoJ.seq ?_
      refine GoJ.regV hT (cnt := 0) (ins := [o0, o0, o0]) (live := [4, 5]) (ids := [0]) (σ' := ⟨[(4, (V.e (E.sc (S.ref 0)))), (5, (V.e (E.sc (S.dat (D.int .i64 (0 : Int))))))], [(some (Obj.arr 2 out))], 30⟩) (obs := []) (by kernel_rfl) (by kernel_rfl) (by kernel_rfl) trivial ?_
      refine GoJ.wk (xfreeze_ok (ids := [0]) (σ' := ⟨[(4, (V.e (E.sc (S.dat (D.sl out))))), (5, (V.e (E.sc (S.dat (D.int .i64 (0 : Int))))))], [none], 30⟩) (by kernel_rfl)) ?_
      exact GoJ.retV hT func35 (ids := []) (r := (V.tup [(E.sc (S.dat (D.sl out))), (E.sc (S.dat (D.int .i64 (0 : Int))))])) (r' := (V.tup [(E.sc (S.dat (D.sl out))), (E.sc (S.dat (D.int .i64 (0 : Int))))])) (σ' := ⟨[], [], 30⟩) (by kernel_rfl) (by kernel_rfl) (by kernel_rfl) (by kernel_rfl) (by kernel_rfl) h

/- f111 torsion/matrix.New$1 -/
def vc111 (v : Int) (v1 : Int) (R : V → Heap → Prop) : Prop :=
  R (V.e (E.agg [(S.dat (D.bool false)), (S.dat (D.sl ([] : List (List D))))])) []

theorem vc111_ok (v : Int) (v1 : Int) {R : V → Heap → Prop} (h : vc111 v v1 R) : FnG prog 111 [(V.e (E.sc (S.dat (D.int .i64 v)))), (V.e (E.sc (S.dat (D.int .i64 v1))))] [] R := by
  unfold vc111 at h
  refine FnG.of (m := 6) (c := _) func111 rfl (by kernel_rfl) ntmps111 (Nat.le_of_ble_eq_true rfl) ?_
  refine GoJ.seq ?_
  refine GoJ.regV hT (cnt := 1) (ins := [(Or.none, 0, 1)]) (live := [4]) (ids := [0]) (σ' := ⟨[(4, (V.e (E.sc (S.ptr 0 0))))], [(some (Obj.box [(S.dat (D.bool false)), (S.dat (D.raw (.slice none 0 0)))]))], 6⟩) (obs := []) (by kernel_rfl) (by kernel_rfl) (by kernel_rfl) trivial ?_
  refine GoJ.seq ?_
  refine GoJ.regV hT (cnt := 0) (ins := [o0, o0]) (live := [4]) (ids := [0]) (σ' := ⟨[(4, (V.e (E.sc (S.ptr 0 0))))], [(some (Obj.box [(S.dat (D.bool false)), (S.dat (D.raw (.slice none 0 0)))]))], 6⟩) (obs := []) (by kernel_rfl) (by kernel_rfl) (by kernel_rfl) trivial ?_
  refine GoJ.wk (xnorm_ok (sl := [4]) (bx := [0]) (σ' := ⟨[(4, (V.e (E.sc (S.ptr 0 0))))], [(some (Obj.box [(S.dat (D.bool false)), (S.dat (D.sl ([] : List (List D))))]))], 6⟩) (by kernel_rfl)) ?_
  exact GoJ.retV hT func111 (ids := []) (r := (V.e (E.agg [(S.dat (D.bool false)), (S.dat (D.sl ([] : List (List D))))]))) (r' := (V.e (E.agg [(S.dat (D.bool false)), (S.dat (D.sl ([] : List (List D))))]))) (σ' := ⟨[], [], 6⟩) (by kernel_rfl) (by kernel_rfl) (by kernel_rfl) (by kernel_rfl) (by kernel_rfl) h

/- f62 torsion/matrix.New -/
def vc62 (rows : Int) (cols : Int) (R : V → Heap → Prop) : Prop :=
  ∃ (r0 : Int) (r1 : Int) (r2 : List (List D)),
  (FnD prog 76 [(V.e (E.sc (S.dat (D.int .i64 rows)))), (V.e (E.sc (S.dat (D.int .i64 cols)))), (V.e (E.sc (S.dat (D.fn (.func 111) ([] : List D)))))] (V.e (E.agg [(S.dat (D.int .i64 r0)), (S.dat (D.int .i64 r1)), (S.dat (D.sl r2))])) []) ∧
  (R (V.e (E.agg [(S.dat (D.int .i64 r0)), (S.dat (D.int .i64 r1)), (S.dat (D.sl r2))])) [])

theorem vc62_ok (rows : Int) (cols : Int) {R : V → Heap → Prop} (h : vc62 rows cols R) : FnG prog 62 [(V.e (E.sc (S.dat (D.int .i64 rows)))), (V.e (E.sc (S.dat (D.int .i64 cols))))] [] R := by
  unfold vc62 at h
  refine FnG.of (m := 8) (c := _) func62 rfl (by kernel_rfl) ntmps62 (Nat.le_of_ble_eq_true rfl) ?_
  refine GoJ.seq ?_
  refine GoJ.regV hT (cnt := 1) (ins := [(Or.none, 0, 1)]) (live := [0, 1, 4]) (ids := [0]) (σ' := ⟨[(0, (V.e (E.sc (S.dat (D.int .i64 rows))))), (1, (V.e (E.sc (S.dat (D.int .i64 cols))))), (4, (V.e (E.sc (S.ptr 0 0))))], [(some (Obj.box [(S.dat (D.int .i64 (0 : Int))), (S.dat (D.int .i64 (0 : Int))), (S.dat (D.raw (.slice none 0 0)))]))], 8⟩) (obs := []) (by kernel_rfl) (by kernel_rfl) (by kernel_rfl) trivial ?_
  refine GoJ.seq ?_
  obtain ⟨r0, r1, r2, h1, h⟩ := h
  refine GoJ.regV hT (cnt := 0) (ins := [o0, o0, ((Or.call (V.e (E.agg [(S.dat (D.int .i64 r0)), (S.dat (D.int .i64 r1)), (S.dat (D.sl r2))])) [] []), 0, 0), o0]) (live := [4]) (ids := [0]) (σ' := ⟨[(4, (V.e (E.sc (S.ptr 0 0))))], [(some (Obj.box [(S.dat (D.int .i64 r0)), (S.dat (D.int .i64 r1)), (S.dat (D.sl r2))]))], 8⟩) (obs := [FnD prog 76 [(V.e (E.sc (S.dat (D.int .i64 rows)))), (V.e (E.sc (S.dat (D.int .i64 cols)))), (V.e (E.sc (S.dat (D.fn (.func 111) ([] : List D)))))] (V.e (E.agg [(S.dat (D.int .i64 r0)), (S.dat (D.int .i64 r1)), (S.dat (D.sl r2))])) []]) (by kernel_rfl) (by kernel_rfl) (by kernel_rfl) ⟨h1, trivial⟩ ?_
  exact GoJ.retV hT func62 (ids := []) (r := (V.e (E.agg [(S.dat (D.int .i64 r0)), (S.dat (D.int .i64 r1)), (S.dat (D.sl r2))]))) (r' := (V.e (E.agg [(S.dat (D.int .i64 r0)), (S.dat (D.int .i64 r1)), (S.dat (D.sl r2))]))) (σ' := ⟨[], [], 8⟩) (by kernel_rfl) (by kernel_rfl) (by kernel_rfl) (by kernel_rfl) (by kernel_rfl) h

/- f107 torsion/matrix.Identity$1 -/
def vc107 (i : Int) (j : Int) (R : V → Heap → Prop) : Prop :=
  ((i == j) = true →
    ∃ (r0 : Bool) (r1 : List (List D)),
    (FnD prog 108 [(V.e (E.sc (S.dat (D.int .i64 (1 : Int)))))] (V.e (E.agg [(S.dat (D.bool r0)), (S.dat (D.sl r1))])) []) ∧
    (R (V.e (E.agg [(S.dat (D.bool r0)), (S.dat (D.sl r1))])) [])) ∧
  ((i == j) = false →
    R (V.e (E.agg [(S.dat (D.bool false)), (S.dat (D.sl ([] : List (List D))))])) [])

theorem vc107_ok (i : Int) (j : Int) {R : V → Heap → Prop} (h : vc107 i j R) : FnG prog 107 [(V.e (E.sc (S.dat (D.int .i64 i)))), (V.e (E.sc (S.dat (D.int .i64 j))))] [] R := by
  unfold vc107 at h
  refine FnG.of (m := 10) (c := _) func107 rfl (by kernel_rfl) ntmps107 (Nat.le_of_ble_eq_true rfl) ?_
  refine GoJ.seq ?_
  refine GoJ.regV hT (cnt := 1) (ins := [(Or.none, 0, 1)]) (live := [0, 1, 4]) (ids := [0]) (σ' := ⟨[(0, (V.e (E.sc (S.dat (D.int .i64 i))))), (1, (V.e (E.sc (S.dat (D.int .i64 j))))), (4, (V.e (E.sc (S.ptr 0 0))))], [(some (Obj.box [(S.dat (D.bool false)), (S.dat (D.raw (.slice none 0 0)))]))], 10⟩) (obs := []) (by kernel_rfl) (by kernel_rfl) (by kernel_rfl) trivial ?_
  refine GoJ.seq ?_
  refine GoJ.seq ?_
  refine GoJ.regV hT (cnt := 0) (ins := [o0, o0, o0]) (live := [4, 7]) (ids := [0]) (σ' := ⟨[(4, (V.e (E.sc (S.ptr 0 0)))), (7, (V.e (E.sc (S.dat (D.bool (i == j))))))], [(some (Obj.box [(S.dat (D.bool false)), (S.dat (D.raw (.slice none 0 0)))]))], 10⟩) (obs := []) (by kernel_rfl) (by kernel_rfl) (by kernel_rfl) trivial ?_
  refine GoJ.cond (t := (i == j)) (by kernel_rfl) (fun h1 => ?_) (fun h1 => ?_)
  · replace h := h.1 h1
    refine GoJ.seq ?_
    obtain ⟨r0, r1, h2, h⟩ := h
    refine GoJ.regV hT (cnt := 0) (ins := [((Or.call (V.e (E.agg [(S.dat (D.bool r0)), (S.dat (D.sl r1))])) [] []), 0, 0), o0]) (live := [4]) (ids := [0]) (σ' := ⟨[(4, (V.e (E.sc (S.ptr 0 0))))], [(some (Obj.box [(S.dat (D.bool r0)), (S.dat (D.sl r1))]))], 10⟩) (obs := [FnD prog 108 [(V.e (E.sc (S.dat (D.int .i64 (1 : Int)))))] (V.e (E.agg [(S.dat (D.bool r0)), (S.dat (D.sl r1))])) []]) (by kernel_rfl) (by kernel_rfl) (by kernel_rfl) ⟨h2, trivial⟩ ?_
    exact GoJ.retV hT func107 (ids := []) (r := (V.e (E.agg [(S.dat (D.bool r0)), (S.dat (D.sl r1))]))) (r' := (V.e (E.agg [(S.dat (D.bool r0)), (S.dat (D.sl r1))]))) (σ' := ⟨[], [], 10⟩) (by kernel_rfl) (by kernel_rfl) (by kernel_rfl) (by kernel_rfl) (by kernel_rfl) h
  · replace h := h.2 h1
    refine GoJ.skip ?_
    refine GoJ.seq ?_
    refine GoJ.regV hT (cnt := 0) (ins := [o0, o0]) (live := [4]) (ids := [0]) (σ' := ⟨[(4, (V.e (E.sc (S.ptr 0 0))))], [(some (Obj.box [(S.dat (D.bool false)), (S.dat (D.raw (.slice none 0 0)))]))], 10⟩) (obs := []) (by kernel_rfl) (by kernel_rfl) (by kernel_rfl) trivial ?_
    refine GoJ.wk (xnorm_ok (sl := [4]) (bx := [0]) (σ' := ⟨[(4, (V.e (E.sc (S.ptr 0 0))))], [(some (Obj.box [(S.dat (D.bool false)), (S.dat (D.sl ([] : List (List D))))]))], 10⟩) (by kernel_rfl)) ?_
    exact GoJ.retV hT func107 (ids := []) (r := (V.e (E.agg [(S.dat (D.bool false)), (S.dat (D.sl ([] : List (List D))))]))) (r' := (V.e (E.agg [(S.dat (D.bool false)), (S.dat (D.sl ([] : List (List D))))]))) (σ' := ⟨[], [], 10⟩) (by kernel_rfl) (by kernel_rfl) (by kernel_rfl) (by kernel_rfl) (by kernel_rfl) h

/- f56 torsion/matrix.Identity -/
def vc56 (n : Int) (R : V → Heap → Prop) : Prop :=
  ∃ (r0 : Int) (r1 : Int) (r2 : List (List D)),
  (FnD prog 76 [(V.e (E.sc (S.dat (D.int .i64 n)))), (V.e (E.sc (S.dat (D.int .i64 n)))), (V.e (E.sc (S.dat (D.fn (.func 107) ([] : List D)))))] (V.e (E.agg [(S.dat (D.int .i64 r0)), (S.dat (D.int .i64 r1)), (S.dat (D.sl r2))])) []) ∧
  (R (V.e (E.agg [(S.dat (D.int .i64 r0)), (S.dat (D.int .i64 r1)), (S.dat (D.sl r2))])) [])

theorem vc56_ok (n : Int) {R : V → Heap → Prop} (h : vc56 n R) : FnG prog 56 [(V.e (E.sc (S.dat (D.int .i64 n))))] [] R := by
  unfold vc56 at h
  refine FnG.of (m := 6) (c := _) func56 rfl (by kernel_rfl) ntmps56 (Nat.le_of_ble_eq_true rfl) ?_
  refine GoJ.seq ?_
  refine GoJ.regV hT (cnt := 1) (ins := [(Or.none, 0, 1)]) (live := [0, 2]) (ids := [0]) (σ' := ⟨[(0, (V.e (E.sc (S.dat (D.int .i64 n))))), (2, (V.e (E.sc (S.ptr 0 0))))], [(some (Obj.box [(S.dat (D.int .i64 (0 : Int))), (S.dat (D.int .i64 (0 : Int))), (S.dat (D.raw (.slice none 0 0)))]))], 6⟩) (obs := []) (by kernel_rfl) (by kernel_rfl) (by kernel_rfl) trivial ?_
  refine GoJ.seq ?_
  obtain ⟨r0, r1, r2, h1, h⟩ := h
  refine GoJ.regV hT (cnt := 0) (ins := [o0, o0, ((Or.call (V.e (E.agg [(S.dat (D.int .i64 r0)), (S.dat (D.int .i64 r1)), (S.dat (D.sl r2))])) [] []), 0, 0), o0]) (live := [2]) (ids := [0]) (σ' := ⟨[(2, (V.e (E.sc (S.ptr 0 0))))], [(some (Obj.box [(S.dat (D.int .i64 r0)), (S.dat (D.int .i64 r1)), (S.dat (D.sl r2))]))], 6⟩) (obs := [FnD prog 76 [(V.e (E.sc (S.dat (D.int .i64 n)))), (V.e (E.sc (S.dat (D.int .i64 n)))), (V.e (E.sc (S.dat (D.fn (.func 107) ([] : List D)))))] (V.e (E.agg [(S.dat (D.int .i64 r0)), (S.dat (D.int .i64 r1)), (S.dat (D.sl r2))])) []]) (by kernel_rfl) (by kernel_rfl) (by kernel_rfl) ⟨h1, trivial⟩ ?_
  exact GoJ.retV hT func56 (ids := []) (r := (V.e (E.agg [(S.dat (D.int .i64 r0)), (S.dat (D.int .i64 r1)), (S.dat (D.sl r2))]))) (r' := (V.e (E.agg [(S.dat (D.int .i64 r0)), (S.dat (D.int .i64 r1)), (S.dat (D.sl r2))]))) (σ' := ⟨[], [], 6⟩) (by kernel_rfl) (by kernel_rfl) (by kernel_rfl) (by kernel_rfl) (by kernel_rfl) h

/- f130 slices.Grow[[][]torsion/api.Int,[]torsion/api.Int] -/
def vc130 (n : Int) (R : V → Heap → Prop) : Prop :=
  ((decide (n < (0 : Int))) = true →
    False) ∧
  ((decide (n < (0 : Int))) = false →
    ((decide ((IntKind.i64.wrap (n - (0 : Int))) > (0 : Int))) = true →
      ((0 : Int) = 0) ∧
      (0 < (IntKind.i64.wrap (n - (0 : Int))) ∧ (IntKind.i64.wrap (n - (0 : Int))) * (24 : Nat) ≤ 140737488355328) ∧
      (0 ≤ (0 : Int) ∧ (0 : Int) ≤ ((List.replicate ((IntKind.i64.wrap (n - (0 : Int)))).toNat [(D.sl ([] : List (List D)))]).length : Int)) ∧
      (R (V.e (E.sc (S.ref 0))) [(some (Obj.arr 1 ((List.replicate ((IntKind.i64.wrap (n - (0 : Int)))).toNat [(D.sl ([] : List (List D)))]).take 0)))])) ∧
    ((decide ((IntKind.i64.wrap (n - (0 : Int))) > (0 : Int))) = false →
      R (V.e (E.sc (S.ref 0))) [(some (Obj.arr 1 ([] : List (List D))))]))

theorem vc130_ok (n : Int) {R : V → Heap → Prop} (h : vc130 n R) : FnG prog 130 [(V.e (E.sc (S.dat (D.raw (.slice none 0 0))))), (V.e (E.sc (S.dat (D.int .i64 n))))] [] R := by
  unfold vc130 at h
  refine FnG.of (m := 27) (c := _) func130 rfl (by kernel_rfl) ntmps130 (Nat.le_of_ble_eq_true rfl) ?_
  refine GoJ.seq ?_
  refine GoJ.regV hT (cnt := 0) (ins := [o0]) (live := [0, 1]) (ids := []) (σ' := ⟨[(0, (V.e (E.sc (S.dat (D.raw (.slice none 0 0)))))), (1, (V.e (E.sc (S.dat (D.int .i64 n)))))], [], 27⟩) (obs := []) (by kernel_rfl) (by kernel_rfl) (by kernel_rfl) trivial ?_
  refine GoJ.seq ?_
  refine GoJ.seq ?_
  refine GoJ.regV hT (cnt := 0) (ins := [o0, o0]) (live := [0, 1, 6]) (ids := []) (σ' := ⟨[(0, (V.e (E.sc (S.dat (D.raw (.slice none 0 0)))))), (1, (V.e (E.sc (S.dat (D.int .i64 n))))), (6, (V.e (E.sc (S.dat (D.bool (decide (n < (0 : Int))))))))], [], 27⟩) (obs := []) (by kernel_rfl) (by kernel_rfl) (by kernel_rfl) trivial ?_
  refine GoJ.cond (t := (decide (n < (0 : Int)))) (by kernel_rfl) (fun h1 => ?_) (fun h1 => ?_)
  · replace h := h.1 h1
    exact h.elim
  · replace h := h.2 h1
    refine GoJ.skip ?_
    refine GoJ.seq ?_
    refine GoJ.seq ?_
    refine GoJ.regV hT (cnt := 0) (ins := [o0, o0, o0, o0, o0, o0, o0, o0]) (live := [0, 1]) (ids := []) (σ' := ⟨[(0, (V.e (E.sc (S.dat (D.raw (.slice none 0 0)))))), (1, (V.e (E.sc (S.dat (D.int .i64 (IntKind.i64.wrap (n - (0 : Int))))))))], [], 27⟩) (obs := []) (by kernel_rfl) (by kernel_rfl) (by kernel_rfl) trivial ?_
    refine GoJ.seq ?_
    refine GoJ.regV hT (cnt := 0) (ins := [o0, o0]) (live := [0, 1, 16]) (ids := []) (σ' := ⟨[(0, (V.e (E.sc (S.dat (D.raw (.slice none 0 0)))))), (1, (V.e (E.sc (S.dat (D.int .i64 (IntKind.i64.wrap (n - (0 : Int)))))))), (16, (V.e (E.sc (S.dat (D.bool (decide ((IntKind.i64.wrap (n - (0 : Int))) > (0 : Int))))))))], [], 27⟩) (obs := []) (by kernel_rfl) (by kernel_rfl) (by kernel_rfl) trivial ?_
    refine GoJ.cond (t := (decide ((IntKind.i64.wrap (n - (0 : Int))) > (0 : Int)))) (by kernel_rfl) (fun h2 => ?_) (fun h2 => ?_)
    · replace h := h.1 h2
      obtain ⟨h3, h4, h5, h⟩ := h
      refine GoJ.regV hT (cnt := 3) (ins := [o0, o0, o0, (Or.none, 0, 1), o0, (Or.none, 1, 1), o0, o0, (Or.none, 2, 1), o0]) (live := [0]) (ids := [2]) (σ' := ⟨[(0, (V.e (E.sc (S.ref 0))))], [(some (Obj.arr 1 ((List.replicate ((IntKind.i64.wrap (n - (0 : Int)))).toNat [(D.sl ([] : List (List D)))]).take 0)))], 27⟩) (obs := [(0 : Int) = 0, 0 < (IntKind.i64.wrap (n - (0 : Int))) ∧ (IntKind.i64.wrap (n - (0 : Int))) * (24 : Nat) ≤ 140737488355328, 0 ≤ (0 : Int) ∧ (0 : Int) ≤ ((List.replicate ((IntKind.i64.wrap (n - (0 : Int)))).toNat [(D.sl ([] : List (List D)))]).length : Int)]) (by kernel_rfl) (by kernel_rfl) (by kernel_rfl) ⟨h3, h4, h5, trivial⟩ ?_
      refine GoJ.seq ?_
      refine GoJ.regV hT (cnt := 0) (ins := [o0, o0]) (live := [4]) (ids := [0]) (σ' := ⟨[(4, (V.e (E.sc (S.ref 0))))], [(some (Obj.arr 1 ((List.replicate ((IntKind.i64.wrap (n - (0 : Int)))).toNat [(D.sl ([] : List (List D)))]).take 0)))], 27⟩) (obs := []) (by kernel_rfl) (by kernel_rfl) (by kernel_rfl) trivial ?_
      exact GoJ.retV hT func130 (ids := [0]) (r := (V.e (E.sc (S.ref 0)))) (r' := (V.e (E.sc (S.ref 0)))) (σ' := ⟨[], [(some (Obj.arr 1 ((List.replicate ((IntKind.i64.wrap (n - (0 : Int)))).toNat [(D.sl ([] : List (List D)))]).take 0)))], 27⟩) (by kernel_rfl) (by kernel_rfl) (by kernel_rfl) (by kernel_rfl) (by kernel_rfl) h
    · replace h := h.2 h2
      refine GoJ.skip ?_
      refine GoJ.seq ?_
      refine GoJ.regV hT (cnt := 0) (ins := [o0, o0]) (live := [4]) (ids := []) (σ' := ⟨[(4, (V.e (E.sc (S.dat (D.raw (.slice none 0 0))))))], [], 27⟩) (obs := []) (by kernel_rfl) (by kernel_rfl) (by kernel_rfl) trivial ?_
      refine GoJ.wk (xadopt_ok (sl := [4]) (bx := []) (z := 1) (σ' := ⟨[(4, (V.e (E.sc (S.ref 0))))], [(some (Obj.arr 1 ([] : List (List D))))], 27⟩) (by kernel_rfl)) ?_
      exact GoJ.retV hT func130 (ids := [0]) (r := (V.e (E.sc (S.ref 0)))) (r' := (V.e (E.sc (S.ref 0)))) (σ' := ⟨[], [(some (Obj.arr 1 ([] : List (List D))))], 27⟩) (by kernel_rfl) (by kernel_rfl) (by kernel_rfl) (by kernel_rfl) (by kernel_rfl) h

/- f80 slices.Concat[[][]torsion/api.Int,[]torsion/api.Int] -/
def vc80 (slices : List (List D)) (R : V → Heap → Prop) : Prop :=
  ∃ (J0 : Int → Int → Prop) (μ0 : Int → Int → Nat),
  J0 (0 : Int) (0 : Int) ∧ ∀ (t11 : Int) (size : Int), J0 t11 size →
    ((decide (t11 < (slices.length : Int))) = true →
      ∃ (vx : List (List D)),
      (0 ≤ t11 ∧ t11 < (slices.length : Int)) ∧
      (slices[(t11).toNat]? = some [(D.sl vx)]) ∧
      (((decide ((IntKind.i64.wrap (size + (vx.length : Int))) < (0 : Int))) = true →
        False) ∧
      ((decide ((IntKind.i64.wrap (size + (vx.length : Int))) < (0 : Int))) = false →
        J0 (IntKind.i64.wrap (t11 + (1 : Int))) (IntKind.i64.wrap (size + (vx.length : Int))) ∧ μ0 (IntKind.i64.wrap (t11 + (1 : Int))) (IntKind.i64.wrap (size + (vx.length : Int))) < μ0 t11 size))) ∧
    ((decide (t11 < (slices.length : Int))) = false →
      ∃ (rrow : List (List D)),
      (FnD prog 130 [(V.e (E.sc (S.dat (D.raw (.slice none 0 0))))), (V.e (E.sc (S.dat (D.int .i64 size))))] (V.e (E.sc (S.ref 0))) [(some (Obj.arr 1 rrow))]) ∧
      (∃ (J1 : (List (List D)) → Int → Prop) (μ1 : (List (List D)) → Int → Nat),
      J1 rrow (0 : Int) ∧ ∀ (newslice : List (List D)) (t27 : Int), J1 newslice t27 →
        ((decide (t27 < (slices.length : Int))) = true →
          ∃ (vx1 : List (List D)),
          (0 ≤ t27 ∧ t27 < (slices.length : Int)) ∧
          (slices[(t27).toNat]? = some [(D.sl vx1)]) ∧
          ((∀ y ∈ vx1, y.length = 1) ∧
          ((newslice.length + (vx1 : List (List D)).length) * 24 ≤ 140737488355328) ∧
          (J1 (newslice ++ vx1) (IntKind.i64.wrap (t27 + (1 : Int))) ∧ μ1 (newslice ++ vx1) (IntKind.i64.wrap (t27 + (1 : Int))) < μ1 newslice t27))) ∧
        ((decide (t27 < (slices.length : Int))) = false →
          R (V.e (E.sc (S.dat (D.sl newslice)))) [])))

theorem vc80_ok (slices : List (List D)) {R : V → Heap → Prop} (h : vc80 slices R) : FnG prog 80 [(V.e (E.sc (S.dat (D.sl slices))))] [] R := by
  unfold vc80 at h
  refine FnG.of (m := 36) (c := _) func80 rfl (by kernel_rfl) ntmps80 (Nat.le_of_ble_eq_true rfl) ?_
  refine GoJ.seq ?_
  refine GoJ.regV hT (cnt := 0) (ins := [o0]) (live := [0]) (ids := []) (σ' := ⟨[(0, (V.e (E.sc (S.dat (D.sl slices)))))], [], 36⟩) (obs := []) (by kernel_rfl) (by kernel_rfl) (by kernel_rfl) trivial ?_
  refine GoJ.seq ?_
  refine GoJ.regV hT (cnt := 0) (ins := [o0]) (live := [0, 3]) (ids := []) (σ' := ⟨[(0, (V.e (E.sc (S.dat (D.sl slices))))), (3, (V.e (E.sc (S.dat (D.int .i64 (0 : Int))))))], [], 36⟩) (obs := []) (by kernel_rfl) (by kernel_rfl) (by kernel_rfl) trivial ?_
  refine GoJ.seq ?_
  refine GoJ.seq ?_
  refine GoJ.regV hT (cnt := 0) (ins := [o0, o0, o0]) (live := [0, 3, 9, 10, 11]) (ids := []) (σ' := ⟨[(0, (V.e (E.sc (S.dat (D.sl slices))))), (3, (V.e (E.sc (S.dat (D.int .i64 (0 : Int)))))), (9, (V.e (E.sc (S.dat (D.sl slices))))), (10, (V.e (E.sc (S.dat (D.int .i64 (slices.length : Int)))))), (11, (V.e (E.sc (S.dat (D.int .i64 (0 : Int))))))], [], 36⟩) (obs := []) (by kernel_rfl) (by kernel_rfl) (by kernel_rfl) trivial ?_
  refine GoJ.block ?_
  obtain ⟨J0, μ0, hJ0, h⟩ := h
  refine GoJ.loop (X := Int × Int) (fun x => (fun (t11 : Int) (size : Int) => (⟨[(0, (V.e (E.sc (S.dat (D.sl slices))))), (3, (V.e (E.sc (S.dat (D.int .i64 size))))), (9, (V.e (E.sc (S.dat (D.sl slices))))), (10, (V.e (E.sc (S.dat (D.int .i64 (slices.length : Int)))))), (11, (V.e (E.sc (S.dat (D.int .i64 t11)))))], [], 36⟩ : St)) (x.1) (x.2)) (fun x => J0 (x.1) (x.2)) (fun x => μ0 (x.1) (x.2)) ((0 : Int), (0 : Int)) hJ0 ?_
  rintro ⟨t11, size⟩ hJ0 ih0
  replace h := h t11 size hJ0
  refine GoJ.seq ?_
  refine GoJ.regV hT (cnt := 0) (ins := [o0]) (live := [0, 3, 9, 10, 11, 12]) (ids := []) (σ' := ⟨[(0, (V.e (E.sc (S.dat (D.sl slices))))), (3, (V.e (E.sc (S.dat (D.int .i64 size))))), (9, (V.e (E.sc (S.dat (D.sl slices))))), (10, (V.e (E.sc (S.dat (D.int .i64 (slices.length : Int)))))), (11, (V.e (E.sc (S.dat (D.int .i64 t11))))), (12, (V.e (E.sc (S.dat (D.bool (decide (t11 < (slices.length : Int))))))))], [], 36⟩) (obs := []) (by kernel_rfl) (by kernel_rfl) (by kernel_rfl) trivial ?_
  refine GoJ.seq ?_
  refine GoJ.cond (t := (decide (t11 < (slices.length : Int)))) (by kernel_rfl) (fun h1 => ?_) (fun h1 => ?_)
  · replace h := h.1 h1
    refine GoJ.skip ?_
    refine GoJ.seq ?_
    refine GoJ.block ?_
    refine GoJ.seq ?_
    obtain ⟨vx, h2, h3, h⟩ := h
    refine GoJ.regV hT (cnt := 0) (ins := [o0, ((Or.cells [(D.sl vx)]), 0, 0), o0]) (live := [0, 3, 5, 9, 10, 11]) (ids := []) (σ' := ⟨[(0, (V.e (E.sc (S.dat (D.sl slices))))), (3, (V.e (E.sc (S.dat (D.int .i64 size))))), (5, (V.e (E.sc (S.dat (D.sl vx))))), (9, (V.e (E.sc (S.dat (D.sl slices))))), (10, (V.e (E.sc (S.dat (D.int .i64 (slices.length : Int)))))), (11, (V.e (E.sc (S.dat (D.int .i64 t11)))))], [], 36⟩) (obs := [0 ≤ t11 ∧ t11 < (slices.length : Int), slices[(t11).toNat]? = some [(D.sl vx)]]) (by kernel_rfl) (by kernel_rfl) (by kernel_rfl) ⟨h2, h3, trivial⟩ ?_
    refine GoJ.seq ?_
    refine GoJ.regV hT (cnt := 0) (ins := [o0, o0, o0, o0, o0]) (live := [0, 3, 9, 10, 11]) (ids := []) (σ' := ⟨[(0, (V.e (E.sc (S.dat (D.sl slices))))), (3, (V.e (E.sc (S.dat (D.int .i64 (IntKind.i64.wrap (size + (vx.length : Int)))))))), (9, (V.e (E.sc (S.dat (D.sl slices))))), (10, (V.e (E.sc (S.dat (D.int .i64 (slices.length : Int)))))), (11, (V.e (E.sc (S.dat (D.int .i64 t11)))))], [], 36⟩) (obs := []) (by kernel_rfl) (by kernel_rfl) (by kernel_rfl) trivial ?_
    refine GoJ.seq ?_
    refine GoJ.regV hT (cnt := 0) (ins := [o0, o0]) (live := [0, 3, 9, 10, 11, 20]) (ids := []) (σ' := ⟨[(0, (V.e (E.sc (S.dat (D.sl slices))))), (3, (V.e (E.sc (S.dat (D.int .i64 (IntKind.i64.wrap (size + (vx.length : Int)))))))), (9, (V.e (E.sc (S.dat (D.sl slices))))), (10, (V.e (E.sc (S.dat (D.int .i64 (slices.length : Int)))))), (11, (V.e (E.sc (S.dat (D.int .i64 t11))))), (20, (V.e (E.sc (S.dat (D.bool (decide ((IntKind.i64.wrap (size + (vx.length : Int))) < (0 : Int))))))))], [], 36⟩) (obs := []) (by kernel_rfl) (by kernel_rfl) (by kernel_rfl) trivial ?_
    refine GoJ.cond (t := (decide ((IntKind.i64.wrap (size + (vx.length : Int))) < (0 : Int)))) (by kernel_rfl) (fun h4 => ?_) (fun h4 => ?_)
    · replace h := h.1 h4
      exact h.elim
    · replace h := h.2 h4
      refine GoJ.skip ?_
      refine GoJ.inBlock ?_
      refine GoJ.regV hT (cnt := 0) (ins := [o0, o0]) (live := [0, 3, 9, 10, 11]) (ids := []) (σ' := ⟨[(0, (V.e (E.sc (S.dat (D.sl slices))))), (3, (V.e (E.sc (S.dat (D.int .i64 (IntKind.i64.wrap (size + (vx.length : Int)))))))), (9, (V.e (E.sc (S.dat (D.sl slices))))), (10, (V.e (E.sc (S.dat (D.int .i64 (slices.length : Int)))))), (11, (V.e (E.sc (S.dat (D.int .i64 (IntKind.i64.wrap (t11 + (1 : Int))))))))], [], 36⟩) (obs := []) (by kernel_rfl) (by kernel_rfl) (by kernel_rfl) trivial ?_
      exact ih0 ((IntKind.i64.wrap (t11 + (1 : Int))), (IntKind.i64.wrap (size + (vx.length : Int)))) h.1 h.2
  · replace h := h.2 h1
    refine GoJ.exit rfl ?_
    refine GoJ.seq ?_
    obtain ⟨rrow, h5, h⟩ := h
    refine GoJ.regV hT (cnt := 1) (ins := [o0, ((Or.call (V.e (E.sc (S.ref 0))) [(some (Obj.arr 1 rrow))] [0]), 0, 1), o0]) (live := [0, 6]) (ids := [0]) (σ' := ⟨[(0, (V.e (E.sc (S.dat (D.sl slices))))), (6, (V.e (E.sc (S.ref 0))))], [(some (Obj.arr 1 rrow))], 36⟩) (obs := [FnD prog 130 [(V.e (E.sc (S.dat (D.raw (.slice none 0 0))))), (V.e (E.sc (S.dat (D.int .i64 size))))] (V.e (E.sc (S.ref 0))) [(some (Obj.arr 1 rrow))]]) (by kernel_rfl) (by kernel_rfl) (by kernel_rfl) ⟨h5, trivial⟩ ?_
    refine GoJ.seq ?_
    refine GoJ.seq ?_
    refine GoJ.regV hT (cnt := 0) (ins := [o0, o0, o0]) (live := [6, 25, 26, 27]) (ids := [0]) (σ' := ⟨[(6, (V.e (E.sc (S.ref 0)))), (25, (V.e (E.sc (S.dat (D.sl slices))))), (26, (V.e (E.sc (S.dat (D.int .i64 (slices.length : Int)))))), (27, (V.e (E.sc (S.dat (D.int .i64 (0 : Int))))))], [(some (Obj.arr 1 rrow))], 36⟩) (obs := []) (by kernel_rfl) (by kernel_rfl) (by kernel_rfl) trivial ?_
    refine GoJ.block ?_
    obtain ⟨J1, μ1, hJ1, h⟩ := h
    refine GoJ.loop (X := (List (List D)) × Int) (fun x => (fun (newslice : List (List D)) (t27 : Int) => (⟨[(6, (V.e (E.sc (S.ref 0)))), (25, (V.e (E.sc (S.dat (D.sl slices))))), (26, (V.e (E.sc (S.dat (D.int .i64 (slices.length : Int)))))), (27, (V.e (E.sc (S.dat (D.int .i64 t27)))))], [(some (Obj.arr 1 newslice))], 36⟩ : St)) (x.1) (x.2)) (fun x => J1 (x.1) (x.2)) (fun x => μ1 (x.1) (x.2)) (rrow, (0 : Int)) hJ1 ?_
    rintro ⟨newslice, t27⟩ hJ1 ih1
    replace h := h newslice t27 hJ1
    refine GoJ.seq ?_
    refine GoJ.regV hT (cnt := 0) (ins := [o0]) (live := [6, 25, 26, 27, 28]) (ids := [0]) (σ' := ⟨[(6, (V.e (E.sc (S.ref 0)))), (25, (V.e (E.sc (S.dat (D.sl slices))))), (26, (V.e (E.sc (S.dat (D.int .i64 (slices.length : Int)))))), (27, (V.e (E.sc (S.dat (D.int .i64 t27))))), (28, (V.e (E.sc (S.dat (D.bool (decide (t27 < (slices.length : Int))))))))], [(some (Obj.arr 1 newslice))], 36⟩) (obs := []) (by kernel_rfl) (by kernel_rfl) (by kernel_rfl) trivial ?_
    refine GoJ.seq ?_
    refine GoJ.cond (t := (decide (t27 < (slices.length : Int)))) (by kernel_rfl) (fun h6 => ?_) (fun h6 => ?_)
    · replace h := h.1 h6
      refine GoJ.skip ?_
      refine GoJ.seq ?_
      refine GoJ.block ?_
      refine GoJ.seq ?_
      obtain ⟨vx1, h7, h8, h⟩ := h
      refine GoJ.regV hT (cnt := 0) (ins := [o0, ((Or.cells [(D.sl vx1)]), 0, 0), o0]) (live := [6, 8, 25, 26, 27]) (ids := [0]) (σ' := ⟨[(6, (V.e (E.sc (S.ref 0)))), (8, (V.e (E.sc (S.dat (D.sl vx1))))), (25, (V.e (E.sc (S.dat (D.sl slices))))), (26, (V.e (E.sc (S.dat (D.int .i64 (slices.length : Int)))))), (27, (V.e (E.sc (S.dat (D.int .i64 t27)))))], [(some (Obj.arr 1 newslice))], 36⟩) (obs := [0 ≤ t27 ∧ t27 < (slices.length : Int), slices[(t27).toNat]? = some [(D.sl vx1)]]) (by kernel_rfl) (by kernel_rfl) (by kernel_rfl) ⟨h7, h8, trivial⟩ ?_
      obtain ⟨h9, h10, h⟩ := h
      refine GoJ.regV hT (cnt := 1) (ins := [o0, o0, (Or.none, 1, 1), o0]) (live := [6, 25, 26, 27]) (ids := [1]) (σ' := ⟨[(6, (V.e (E.sc (S.ref 0)))), (25, (V.e (E.sc (S.dat (D.sl slices))))), (26, (V.e (E.sc (S.dat (D.int .i64 (slices.length : Int)))))), (27, (V.e (E.sc (S.dat (D.int .i64 t27)))))], [(some (Obj.arr 1 (newslice ++ vx1)))], 36⟩) (obs := [∀ y ∈ vx1, y.length = 1, (newslice.length + (vx1 : List (List D)).length) * 24 ≤ 140737488355328]) (by kernel_rfl) (by kernel_rfl) (by kernel_rfl) ⟨h9, h10, trivial⟩ ?_
      refine GoJ.inBlock ?_
      refine GoJ.regV hT (cnt := 0) (ins := [o0, o0]) (live := [6, 25, 26, 27]) (ids := [0]) (σ' := ⟨[(6, (V.e (E.sc (S.ref 0)))), (25, (V.e (E.sc (S.dat (D.sl slices))))), (26, (V.e (E.sc (S.dat (D.int .i64 (slices.length : Int)))))), (27, (V.e (E.sc (S.dat (D.int .i64 (IntKind.i64.wrap (t27 + (1 : Int))))))))], [(some (Obj.arr 1 (newslice ++ vx1)))], 36⟩) (obs := []) (by kernel_rfl) (by kernel_rfl) (by kernel_rfl) trivial ?_
      exact ih1 ((newslice ++ vx1), (IntKind.i64.wrap (t27 + (1 : Int)))) h.1 h.2
    · replace h := h.2 h6
      refine GoJ.exit rfl ?_
      refine GoJ.seq ?_
      refine GoJ.regV hT (cnt := 0) (ins := [o0, o0]) (live := [2]) (ids := [0]) (σ' := ⟨[(2, (V.e (E.sc (S.ref 0))))], [(some (Obj.arr 1 newslice))], 36⟩) (obs := []) (by kernel_rfl) (by kernel_rfl) (by kernel_rfl) trivial ?_
      refine GoJ.wk (xfreeze_ok (ids := [0]) (σ' := ⟨[(2, (V.e (E.sc (S.dat (D.sl newslice)))))], [none], 36⟩) (by kernel_rfl)) ?_
      exact GoJ.retV hT func80 (ids := []) (r := (V.e (E.sc (S.dat (D.sl newslice))))) (r' := (V.e (E.sc (S.dat (D.sl newslice))))) (σ' := ⟨[], [], 36⟩) (by kernel_rfl) (by kernel_rfl) (by kernel_rfl) (by kernel_rfl) (by kernel_rfl) h

/- f25 torsion/matrix.Stack -/
def vc25 (a0 : Int) (a1 : Int) (a2 : List (List D)) (b0 : Int) (b1 : Int) (b2 : List (List D)) (R : V → Heap → Prop) : Prop :=
  ((a1 != b1) = true →
    R (V.tup [(E.agg [(S.dat (D.int .i64 (0 : Int))), (S.dat (D.int .i64 (0 : Int))), (S.dat (D.sl ([] : List (List D))))]), (E.sc (S.dat (D.int .i64 (50 : Int))))]) []) ∧
  ((a1 != b1) = false →
    ∃ (r : List (List D)),
    (FnD prog 80 [(V.e (E.sc (S.dat (D.sl [[(D.sl a2)], [(D.sl b2)]]))))] (V.e (E.sc (S.dat (D.sl r)))) []) ∧
    (R (V.tup [(E.agg [(S.dat (D.int .i64 (IntKind.i64.wrap (a0 + b0)))), (S.dat (D.int .i64 a1)), (S.dat (D.sl r))]), (E.sc (S.dat (D.int .i64 (0 : Int))))]) []))

theorem vc25_ok (a0 : Int) (a1 : Int) (a2 : List (List D)) (b0 : Int) (b1 : Int) (b2 : List (List D)) {R : V → Heap → Prop} (h : vc25 a0 a1 a2 b0 b1 b2 R) : FnG prog 25 [(V.e (E.agg [(S.dat (D.int .i64 a0)), (S.dat (D.int .i64 a1)), (S.dat (D.sl a2))])), (V.e (E.agg [(S.dat (D.int .i64 b0)), (S.dat (D.int .i64 b1)), (S.dat (D.sl b2))]))] [] R := by
  unfold vc25 at h
  refine FnG.of (m := 26) (c := _) func25 rfl (by kernel_rfl) ntmps25 (Nat.le_of_ble_eq_true rfl) ?_
  refine GoJ.seq ?_
  refine GoJ.regV hT (cnt := 3) (ins := [(Or.none, 0, 1), (Or.none, 1, 1), (Or.none, 2, 1), o0]) (live := [2, 3, 4]) (ids := [0, 1, 2]) (σ' := ⟨[(2, (V.e (E.sc (S.ptr 0 0)))), (3, (V.e (E.sc (S.ptr 1 0)))), (4, (V.e (E.sc (S.ptr 2 0))))], [(some (Obj.box [(S.dat (D.int .i64 a0)), (S.dat (D.int .i64 a1)), (S.dat (D.sl a2))])), (some (Obj.box [(S.dat (D.int .i64 b0)), (S.dat (D.int .i64 b1)), (S.dat (D.sl b2))])), (some (Obj.box [(S.dat (D.int .i64 (0 : Int))), (S.dat (D.int .i64 (0 : Int))), (S.dat (D.raw (.slice none 0 0)))]))], 26⟩) (obs := []) (by kernel_rfl) (by kernel_rfl) (by kernel_rfl) trivial ?_
  refine GoJ.seq ?_
  refine GoJ.seq ?_
  refine GoJ.regV hT (cnt := 0) (ins := [o0, o0, o0, o0, o0]) (live := [2, 3, 4, 10]) (ids := [0, 1, 2]) (σ' := ⟨[(2, (V.e (E.sc (S.ptr 0 0)))), (3, (V.e (E.sc (S.ptr 1 0)))), (4, (V.e (E.sc (S.ptr 2 0)))), (10, (V.e (E.sc (S.dat (D.bool (a1 != b1))))))], [(some (Obj.box [(S.dat (D.int .i64 a0)), (S.dat (D.int .i64 a1)), (S.dat (D.sl a2))])), (some (Obj.box [(S.dat (D.int .i64 b0)), (S.dat (D.int .i64 b1)), (S.dat (D.sl b2))])), (some (Obj.box [(S.dat (D.int .i64 (0 : Int))), (S.dat (D.int .i64 (0 : Int))), (S.dat (D.raw (.slice none 0 0)))]))], 26⟩) (obs := []) (by kernel_rfl) (by kernel_rfl) (by kernel_rfl) trivial ?_
  refine GoJ.cond (t := (a1 != b1)) (by kernel_rfl) (fun h1 => ?_) (fun h1 => ?_)
  · replace h := h.1 h1
    refine GoJ.seq ?_
    refine GoJ.regV hT (cnt := 0) (ins := [o0, o0, o0]) (live := [4, 5]) (ids := [2]) (σ' := ⟨[(4, (V.e (E.sc (S.ptr 0 0)))), (5, (V.e (E.sc (S.dat (D.int .i64 (50 : Int))))))], [(some (Obj.box [(S.dat (D.int .i64 (0 : Int))), (S.dat (D.int .i64 (0 : Int))), (S.dat (D.raw (.slice none 0 0)))]))], 26⟩) (obs := []) (by kernel_rfl) (by kernel_rfl) (by kernel_rfl) trivial ?_
    refine GoJ.wk (xnorm_ok (sl := [4, 5]) (bx := [0]) (σ' := ⟨[(4, (V.e (E.sc (S.ptr 0 0)))), (5, (V.e (E.sc (S.dat (D.int .i64 (50 : Int))))))], [(some (Obj.box [(S.dat (D.int .i64 (0 : Int))), (S.dat (D.int .i64 (0 : Int))), (S.dat (D.sl ([] : List (List D))))]))], 26⟩) (by kernel_rfl)) ?_
    exact GoJ.retV hT func25 (ids := []) (r := (V.tup [(E.agg [(S.dat (D.int .i64 (0 : Int))), (S.dat (D.int .i64 (0 : Int))), (S.dat (D.sl ([] : List (List D))))]), (E.sc (S.dat (D.int .i64 (50 : Int))))])) (r' := (V.tup [(E.agg [(S.dat (D.int .i64 (0 : Int))), (S.dat (D.int .i64 (0 : Int))), (S.dat (D.sl ([] : List (List D))))]), (E.sc (S.dat (D.int .i64 (50 : Int))))])) (σ' := ⟨[], [], 26⟩) (by kernel_rfl) (by kernel_rfl) (by kernel_rfl) (by kernel_rfl) (by kernel_rfl) h
  · replace h := h.2 h1
    refine GoJ.skip ?_
    refine GoJ.seq ?_
    obtain ⟨r, h2, h⟩ := h
    refine GoJ.drawV hmix hT (cnt := 1) (ins := [⟨Or.none, 0, 0, [], [2], [], []⟩, ⟨Or.none, 0, 0, [0], [12], [], []⟩, ⟨Or.none, 0, 0, [], [3], [], []⟩, ⟨Or.none, 0, 0, [2], [14], [], []⟩, ⟨Or.none, 0, 0, [0, 1, 2, 3], [13, 15], [], []⟩, ⟨Or.none, 0, 0, [], [2], [], []⟩, ⟨Or.none, 0, 0, [5], [17], [], []⟩, ⟨Or.none, 0, 0, [], [2], [], []⟩, ⟨Or.none, 0, 0, [7], [19], [], []⟩, ⟨Or.none, 0, 0, [], [3], [], []⟩, ⟨Or.none, 0, 0, [9], [21], [], []⟩, ⟨Or.frz, 3, 1, [7, 8, 9, 10], [20, 22], [], []⟩, ⟨(Or.call (V.e (E.sc (S.dat (D.sl r)))) [] []), 0, 0, [7, 8, 9, 10, 11], [23], [], []⟩, ⟨Or.none, 0, 0, [0, 1, 2, 3, 4, 5, 6, 7, 8, 9, 10, 11, 12], [16, 18, 24], [], []⟩, ⟨Or.none, 0, 0, [0, 1, 2, 3, 4, 5, 6, 7, 8, 9, 10, 11, 12, 13], [4, 25], [2], []⟩, ⟨Or.none, 0, 0, [0, 1, 2, 3, 4, 5, 6, 7, 8, 9, 10, 11, 12, 13, 14], [], [], []⟩]) (live := [4, 5]) (ids := [2]) (σ' := ⟨[(4, (V.e (E.sc (S.ptr 0 0)))), (5, (V.e (E.sc (S.dat (D.int .i64 (0 : Int))))))], [(some (Obj.box [(S.dat (D.int .i64 (IntKind.i64.wrap (a0 + b0)))), (S.dat (D.int .i64 a1)), (S.dat (D.sl r))]))], 26⟩) (obs := [FnD prog 80 [(V.e (E.sc (S.dat (D.sl [[(D.sl a2)], [(D.sl b2)]]))))] (V.e (E.sc (S.dat (D.sl r)))) []]) (by kernel_rfl) (by kernel_rfl) (by kernel_rfl) ⟨h2, trivial⟩ ?_
    exact GoJ.retV hT func25 (ids := []) (r := (V.tup [(E.agg [(S.dat (D.int .i64 (IntKind.i64.wrap (a0 + b0)))), (S.dat (D.int .i64 a1)), (S.dat (D.sl r))]), (E.sc (S.dat (D.int .i64 (0 : Int))))])) (r' := (V.tup [(E.agg [(S.dat (D.int .i64 (IntKind.i64.wrap (a0 + b0)))), (S.dat (D.int .i64 a1)), (S.dat (D.sl r))]), (E.sc (S.dat (D.int .i64 (0 : Int))))])) (σ' := ⟨[], [], 26⟩) (by kernel_rfl) (by kernel_rfl) (by kernel_rfl) (by kernel_rfl) (by kernel_rfl) h

/- f81 torsion/matrix.Beside$1 -/
def vc81 (i : Int) (j : Int) (c00 : Int) (c01 : Int) (c02 : List (List D)) (c10 : Int) (c11 : Int) (c12 : List (List D)) (R : V → Heap → Prop) : Prop :=
  ((decide (j < c01)) = true →
    ∃ (vx : List (List D)) (x0 : Bool) (x1 : List (List D)),
    (0 ≤ i ∧ i < (c02.length : Int)) ∧
    (c02[(i).toNat]? = some [(D.sl vx)]) ∧
    (0 ≤ j ∧ j < (vx.length : Int)) ∧
    (vx[(j).toNat]? = some [(D.bool x0), (D.sl x1)]) ∧
    (R (V.e (E.agg [(S.dat (D.bool x0)), (S.dat (D.sl x1))])) [])) ∧
  ((decide (j < c01)) = false →
    ∃ (vx1 : List (List D)) (x01 : Bool) (x11 : List (List D)),
    (0 ≤ i ∧ i < (c12.length : Int)) ∧
    (c12[(i).toNat]? = some [(D.sl vx1)]) ∧
    (0 ≤ (IntKind.i64.wrap (j - c01)) ∧ (IntKind.i64.wrap (j - c01)) < (vx1.length : Int)) ∧
    (vx1[((IntKind.i64.wrap (j - c01))).toNat]? = some [(D.bool x01), (D.sl x11)]) ∧
    (R (V.e (E.agg [(S.dat (D.bool x01)), (S.dat (D.sl x11))])) []))

theorem vc81_ok (i : Int) (j : Int) (c00 : Int) (c01 : Int) (c02 : List (List D)) (c10 : Int) (c11 : Int) (c12 : List (List D)) {R : V → Heap → Prop} (h : vc81 i j c00 c01 c02 c10 c11 c12 R) : FnG prog 81 [(V.e (E.sc (S.dat (D.int .i64 i)))), (V.e (E.sc (S.dat (D.int .i64 j)))), (V.e (E.sc (S.dat (D.box [(D.int .i64 c00), (D.int .i64 c01), (D.sl c02)])))), (V.e (E.sc (S.dat (D.box [(D.int .i64 c10), (D.int .i64 c11), (D.sl c12)]))))] [] R := by
  unfold vc81 at h
  refine FnG.of (m := 30) (c := _) func81 rfl (by kernel_rfl) ntmps81 (Nat.le_of_ble_eq_true rfl) ?_
  refine GoJ.seq ?_
  refine GoJ.regV hT (cnt := 1) (ins := [(Or.none, 0, 1)]) (live := [0, 1, 2, 3, 6]) (ids := [0]) (σ' := ⟨[(0, (V.e (E.sc (S.dat (D.int .i64 i))))), (1, (V.e (E.sc (S.dat (D.int .i64 j))))), (2, (V.e (E.sc (S.dat (D.box [(D.int .i64 c00), (D.int .i64 c01), (D.sl c02)]))))), (3, (V.e (E.sc (S.dat (D.box [(D.int .i64 c10), (D.int .i64 c11), (D.sl c12)]))))), (6, (V.e (E.sc (S.ptr 0 0))))], [(some (Obj.box [(S.dat (D.bool false)), (S.dat (D.raw (.slice none 0 0)))]))], 30⟩) (obs := []) (by kernel_rfl) (by kernel_rfl) (by kernel_rfl) trivial ?_
  refine GoJ.seq ?_
  refine GoJ.seq ?_
  refine GoJ.regV hT (cnt := 0) (ins := [o0, o0, o0, o0]) (live := [0, 1, 2, 3, 6, 10]) (ids := [0]) (σ' := ⟨[(0, (V.e (E.sc (S.dat (D.int .i64 i))))), (1, (V.e (E.sc (S.dat (D.int .i64 j))))), (2, (V.e (E.sc (S.dat (D.box [(D.int .i64 c00), (D.int .i64 c01), (D.sl c02)]))))), (3, (V.e (E.sc (S.dat (D.box [(D.int .i64 c10), (D.int .i64 c11), (D.sl c12)]))))), (6, (V.e (E.sc (S.ptr 0 0)))), (10, (V.e (E.sc (S.dat (D.bool (decide (j < c01)))))))], [(some (Obj.box [(S.dat (D.bool false)), (S.dat (D.raw (.slice none 0 0)))]))], 30⟩) (obs := []) (by kernel_rfl) (by kernel_rfl) (by kernel_rfl) trivial ?_
  refine GoJ.cond (t := (decide (j < c01))) (by kernel_rfl) (fun h1 => ?_) (fun h1 => ?_)
  · replace h := h.1 h1
    refine GoJ.seq ?_
    obtain ⟨vx, x0, x1, h2, h3, h4, h5, h⟩ := h
    refine GoJ.regV hT (cnt := 0) (ins := [o0, o0, o0, o0, ((Or.cells [(D.sl vx)]), 0, 0), o0, o0, ((Or.cells [(D.bool x0), (D.sl x1)]), 0, 0), o0]) (live := [6]) (ids := [0]) (σ' := ⟨[(6, (V.e (E.sc (S.ptr 0 0))))], [(some (Obj.box [(S.dat (D.bool x0)), (S.dat (D.sl x1))]))], 30⟩) (obs := [0 ≤ i ∧ i < (c02.length : Int), c02[(i).toNat]? = some [(D.sl vx)], 0 ≤ j ∧ j < (vx.length : Int), vx[(j).toNat]? = some [(D.bool x0), (D.sl x1)]]) (by kernel_rfl) (by kernel_rfl) (by kernel_rfl) ⟨h2, h3, h4, h5, trivial⟩ ?_
    exact GoJ.retV hT func81 (ids := []) (r := (V.e (E.agg [(S.dat (D.bool x0)), (S.dat (D.sl x1))]))) (r' := (V.e (E.agg [(S.dat (D.bool x0)), (S.dat (D.sl x1))]))) (σ' := ⟨[], [], 30⟩) (by kernel_rfl) (by kernel_rfl) (by kernel_rfl) (by kernel_rfl) (by kernel_rfl) h
  · replace h := h.2 h1
    refine GoJ.skip ?_
    refine GoJ.seq ?_
    obtain ⟨vx1, x01, x11, h6, h7, h8, h9, h⟩ := h
    refine GoJ.drawV hmix hT (cnt := 0) (ins := [⟨Or.none, 0, 0, [], [3], [], []⟩, ⟨Or.none, 0, 0, [0], [19], [], []⟩, ⟨Or.none, 0, 0, [], [0], [], []⟩, ⟨Or.none, 0, 0, [0, 1, 2], [20, 21], [], []⟩, ⟨(Or.cells [(D.sl vx1)]), 0, 0, [0, 1, 2, 3], [22], [], []⟩, ⟨Or.none, 0, 0, [], [1], [], []⟩, ⟨Or.none, 0, 0, [], [2], [], []⟩, ⟨Or.none, 0, 0, [6], [25], [], []⟩, ⟨Or.none, 0, 0, [5, 6, 7], [24, 26], [], []⟩, ⟨Or.none, 0, 0, [0, 1, 2, 3, 4, 5, 6, 7, 8], [23, 27], [], []⟩, ⟨(Or.cells [(D.bool x01), (D.sl x11)]), 0, 0, [0, 1, 2, 3, 4, 5, 6, 7, 8, 9], [28], [], []⟩, ⟨Or.none, 0, 0, [0, 1, 2, 3, 4, 5, 6, 7, 8, 9, 10], [6, 29], [0], []⟩]) (live := [6]) (ids := [0]) (σ' := ⟨[(6, (V.e (E.sc (S.ptr 0 0))))], [(some (Obj.box [(S.dat (D.bool x01)), (S.dat (D.sl x11))]))], 30⟩) (obs := [0 ≤ i ∧ i < (c12.length : Int), c12[(i).toNat]? = some [(D.sl vx1)], 0 ≤ (IntKind.i64.wrap (j - c01)) ∧ (IntKind.i64.wrap (j - c01)) < (vx1.length : Int), vx1[((IntKind.i64.wrap (j - c01))).toNat]? = some [(D.bool x01), (D.sl x11)]]) (by kernel_rfl) (by kernel_rfl) (by kernel_rfl) ⟨h6, h7, h8, h9, trivial⟩ ?_
    exact GoJ.retV hT func81 (ids := []) (r := (V.e (E.agg [(S.dat (D.bool x01)), (S.dat (D.sl x11))]))) (r' := (V.e (E.agg [(S.dat (D.bool x01)), (S.dat (D.sl x11))]))) (σ' := ⟨[], [], 30⟩) (by kernel_rfl) (by kernel_rfl) (by kernel_rfl) (by kernel_rfl) (by kernel_rfl) h

/- f26 torsion/matrix.Beside -/
def vc26 (a0 : Int) (a1 : Int) (a2 : List (List D)) (b0 : Int) (b1 : Int) (b2 : List (List D)) (R : V → Heap → Prop) : Prop :=
  ((a0 != b0) = true →
    R (V.tup [(E.agg [(S.dat (D.int .i64 (0 : Int))), (S.dat (D.int .i64 (0 : Int))), (S.dat (D.sl ([] : List (List D))))]), (E.sc (S.dat (D.int .i64 (50 : Int))))]) []) ∧
  ((a0 != b0) = false →
    ∃ (r0 : Int) (r1 : Int) (r2 : List (List D)),
    (FnD prog 76 [(V.e (E.sc (S.dat (D.int .i64 a0)))), (V.e (E.sc (S.dat (D.int .i64 (IntKind.i64.wrap (a1 + b1)))))), (V.e (E.sc (S.dat (D.fn (.func 81) [(D.box [(D.int .i64 a0), (D.int .i64 a1), (D.sl a2)]), (D.box [(D.int .i64 b0), (D.int .i64 b1), (D.sl b2)])]))))] (V.e (E.agg [(S.dat (D.int .i64 r0)), (S.dat (D.int .i64 r1)), (S.dat (D.sl r2))])) []) ∧
    (R (V.tup [(E.agg [(S.dat (D.int .i64 r0)), (S.dat (D.int .i64 r1)), (S.dat (D.sl r2))]), (E.sc (S.dat (D.int .i64 (0 : Int))))]) []))

theorem vc26_ok (a0 : Int) (a1 : Int) (a2 : List (List D)) (b0 : Int) (b1 : Int) (b2 : List (List D)) {R : V → Heap → Prop} (h : vc26 a0 a1 a2 b0 b1 b2 R) : FnG prog 26 [(V.e (E.agg [(S.dat (D.int .i64 a0)), (S.dat (D.int .i64 a1)), (S.dat (D.sl a2))])), (V.e (E.agg [(S.dat (D.int .i64 b0)), (S.dat (D.int .i64 b1)), (S.dat (D.sl b2))]))] [] R := by
  unfold vc26 at h
  refine FnG.of (m := 21) (c := _) func26 rfl (by kernel_rfl) ntmps26 (Nat.le_of_ble_eq_true rfl) ?_
  refine GoJ.seq ?_
  refine GoJ.regV hT (cnt := 3) (ins := [(Or.none, 0, 1), (Or.none, 1, 1), (Or.none, 2, 1), o0]) (live := [2, 3, 4]) (ids := [0, 1, 2]) (σ' := ⟨[(2, (V.e (E.sc (S.ptr 0 0)))), (3, (V.e (E.sc (S.ptr 1 0)))), (4, (V.e (E.sc (S.ptr 2 0))))], [(some (Obj.box [(S.dat (D.int .i64 a0)), (S.dat (D.int .i64 a1)), (S.dat (D.sl a2))])), (some (Obj.box [(S.dat (D.int .i64 b0)), (S.dat (D.int .i64 b1)), (S.dat (D.sl b2))])), (some (Obj.box [(S.dat (D.int .i64 (0 : Int))), (S.dat (D.int .i64 (0 : Int))), (S.dat (D.raw (.slice none 0 0)))]))], 21⟩) (obs := []) (by kernel_rfl) (by kernel_rfl) (by kernel_rfl) trivial ?_
  refine GoJ.seq ?_
  refine GoJ.seq ?_
  refine GoJ.regV hT (cnt := 0) (ins := [o0, o0, o0, o0, o0]) (live := [2, 3, 4, 10]) (ids := [0, 1, 2]) (σ' := ⟨[(2, (V.e (E.sc (S.ptr 0 0)))), (3, (V.e (E.sc (S.ptr 1 0)))), (4, (V.e (E.sc (S.ptr 2 0)))), (10, (V.e (E.sc (S.dat (D.bool (a0 != b0))))))], [(some (Obj.box [(S.dat (D.int .i64 a0)), (S.dat (D.int .i64 a1)), (S.dat (D.sl a2))])), (some (Obj.box [(S.dat (D.int .i64 b0)), (S.dat (D.int .i64 b1)), (S.dat (D.sl b2))])), (some (Obj.box [(S.dat (D.int .i64 (0 : Int))), (S.dat (D.int .i64 (0 : Int))), (S.dat (D.raw (.slice none 0 0)))]))], 21⟩) (obs := []) (by kernel_rfl) (by kernel_rfl) (by kernel_rfl) trivial ?_
  refine GoJ.cond (t := (a0 != b0)) (by kernel_rfl) (fun h1 => ?_) (fun h1 => ?_)
  · replace h := h.1 h1
    refine GoJ.seq ?_
    refine GoJ.regV hT (cnt := 0) (ins := [o0, o0, o0]) (live := [4, 5]) (ids := [2]) (σ' := ⟨[(4, (V.e (E.sc (S.ptr 0 0)))), (5, (V.e (E.sc (S.dat (D.int .i64 (50 : Int))))))], [(some (Obj.box [(S.dat (D.int .i64 (0 : Int))), (S.dat (D.int .i64 (0 : Int))), (S.dat (D.raw (.slice none 0 0)))]))], 21⟩) (obs := []) (by kernel_rfl) (by kernel_rfl) (by kernel_rfl) trivial ?_
    refine GoJ.wk (xnorm_ok (sl := [4, 5]) (bx := [0]) (σ' := ⟨[(4, (V.e (E.sc (S.ptr 0 0)))), (5, (V.e (E.sc (S.dat (D.int .i64 (50 : Int))))))], [(some (Obj.box [(S.dat (D.int .i64 (0 : Int))), (S.dat (D.int .i64 (0 : Int))), (S.dat (D.sl ([] : List (List D))))]))], 21⟩) (by kernel_rfl)) ?_
    exact GoJ.retV hT func26 (ids := []) (r := (V.tup [(E.agg [(S.dat (D.int .i64 (0 : Int))), (S.dat (D.int .i64 (0 : Int))), (S.dat (D.sl ([] : List (List D))))]), (E.sc (S.dat (D.int .i64 (50 : Int))))])) (r' := (V.tup [(E.agg [(S.dat (D.int .i64 (0 : Int))), (S.dat (D.int .i64 (0 : Int))), (S.dat (D.sl ([] : List (List D))))]), (E.sc (S.dat (D.int .i64 (50 : Int))))])) (σ' := ⟨[], [], 21⟩) (by kernel_rfl) (by kernel_rfl) (by kernel_rfl) (by kernel_rfl) (by kernel_rfl) h
  · replace h := h.2 h1
    refine GoJ.skip ?_
    refine GoJ.seq ?_
    refine GoJ.wk (xfreeze_ok (ids := [0, 1]) (σ' := ⟨[(2, (V.e (E.sc (S.dat (D.box [(D.int .i64 a0), (D.int .i64 a1), (D.sl a2)]))))), (3, (V.e (E.sc (S.dat (D.box [(D.int .i64 b0), (D.int .i64 b1), (D.sl b2)]))))), (4, (V.e (E.sc (S.ptr 2 0)))), (10, (V.e (E.sc (S.dat (D.bool (a0 != b0))))))], [none, none, (some (Obj.box [(S.dat (D.int .i64 (0 : Int))), (S.dat (D.int .i64 (0 : Int))), (S.dat (D.raw (.slice none 0 0)))]))], 21⟩) (by kernel_rfl)) ?_
    obtain ⟨r0, r1, r2, h2, h⟩ := h
    refine GoJ.regV hT (cnt := 0) (ins := [o0, o0, o0, o0, o0, o0, o0, o0, ((Or.call (V.e (E.agg [(S.dat (D.int .i64 r0)), (S.dat (D.int .i64 r1)), (S.dat (D.sl r2))])) [] []), 0, 0), o0, o0]) (live := [4, 5]) (ids := [2]) (σ' := ⟨[(4, (V.e (E.sc (S.ptr 0 0)))), (5, (V.e (E.sc (S.dat (D.int .i64 (0 : Int))))))], [(some (Obj.box [(S.dat (D.int .i64 r0)), (S.dat (D.int .i64 r1)), (S.dat (D.sl r2))]))], 21⟩) (obs := [FnD prog 76 [(V.e (E.sc (S.dat (D.int .i64 a0)))), (V.e (E.sc (S.dat (D.int .i64 (IntKind.i64.wrap (a1 + b1)))))), (V.e (E.sc (S.dat (D.fn (.func 81) [(D.box [(D.int .i64 a0), (D.int .i64 a1), (D.sl a2)]), (D.box [(D.int .i64 b0), (D.int .i64 b1), (D.sl b2)])]))))] (V.e (E.agg [(S.dat (D.int .i64 r0)), (S.dat (D.int .i64 r1)), (S.dat (D.sl r2))])) []]) (by kernel_rfl) (by kernel_rfl) (by kernel_rfl) ⟨h2, trivial⟩ ?_
    exact GoJ.retV hT func26 (ids := []) (r := (V.tup [(E.agg [(S.dat (D.int .i64 r0)), (S.dat (D.int .i64 r1)), (S.dat (D.sl r2))]), (E.sc (S.dat (D.int .i64 (0 : Int))))])) (r' := (V.tup [(E.agg [(S.dat (D.int .i64 r0)), (S.dat (D.int .i64 r1)), (S.dat (D.sl r2))]), (E.sc (S.dat (D.int .i64 (0 : Int))))])) (σ' := ⟨[], [], 21⟩) (by kernel_rfl) (by kernel_rfl) (by kernel_rfl) (by kernel_rfl) (by kernel_rfl) h

/- f85 slices.ContainsFunc[[]int,int] -/
def vc85 (s : List (List D)) (f : FuncId) (fc : List D) (R : V → Heap → Prop) : Prop :=
  ∃ (r : Int),
  (FnD prog 133 [(V.e (E.sc (S.dat (D.sl s)))), (V.e (E.sc (S.dat (D.fn (.func f) fc))))] (V.e (E.sc (S.dat (D.int .i64 r)))) []) ∧
  (R (V.e (E.sc (S.dat (D.bool (decide (r ≥ (0 : Int))))))) [])

theorem vc85_ok (s : List (List D)) (f : FuncId) (fc : List D) {R : V → Heap → Prop} (h : vc85 s f fc R) : FnG prog 85 [(V.e (E.sc (S.dat (D.sl s)))), (V.e (E.sc (S.dat (D.fn (.func f) fc))))] [] R := by
  unfold vc85 at h
  refine FnG.of (m := 9) (c := _) func85 rfl (by kernel_rfl) ntmps85 (Nat.le_of_ble_eq_true rfl) ?_
  refine GoJ.seq ?_
  refine GoJ.regV hT (cnt := 0) (ins := [o0]) (live := [0, 1]) (ids := []) (σ' := ⟨[(0, (V.e (E.sc (S.dat (D.sl s))))), (1, (V.e (E.sc (S.dat (D.fn (.func f) fc)))))], [], 9⟩) (obs := []) (by kernel_rfl) (by kernel_rfl) (by kernel_rfl) trivial ?_
  refine GoJ.seq ?_
  obtain ⟨r, h1, h⟩ := h
  refine GoJ.regV hT (cnt := 0) (ins := [o0, o0, ((Or.call (V.e (E.sc (S.dat (D.int .i64 r)))) [] []), 0, 0), o0, o0]) (live := [4]) (ids := []) (σ' := ⟨[(4, (V.e (E.sc (S.dat (D.bool (decide (r ≥ (0 : Int))))))))], [], 9⟩) (obs := [FnD prog 133 [(V.e (E.sc (S.dat (D.sl s)))), (V.e (E.sc (S.dat (D.fn (.func f) fc))))] (V.e (E.sc (S.dat (D.int .i64 r)))) []]) (by kernel_rfl) (by kernel_rfl) (by kernel_rfl) ⟨h1, trivial⟩ ?_
  exact GoJ.retV hT func85 (ids := []) (r := (V.e (E.sc (S.dat (D.bool (decide (r ≥ (0 : Int)))))))) (r' := (V.e (E.sc (S.dat (D.bool (decide (r ≥ (0 : Int)))))))) (σ' := ⟨[], [], 9⟩) (by kernel_rfl) (by kernel_rfl) (by kernel_rfl) (by kernel_rfl) (by kernel_rfl) h

/- f133 slices.IndexFunc[[]int,int] -/
def vc133 (s : List (List D)) (f : FuncId) (fc : List D) (R : V → Heap → Prop) : Prop :=
  ∃ (J0 : Int → Prop) (μ0 : Int → Nat),
  J0 (0 : Int) ∧ ∀ (t8 : Int), J0 t8 →
    ((decide (t8 < (s.length : Int))) = true →
      ∃ (vx : Int) (r : Bool),
      (0 ≤ t8 ∧ t8 < (s.length : Int)) ∧
      (s[(t8).toNat]? = some [(D.int .i64 vx)]) ∧
      (FnD prog f ([(V.e (E.sc (S.dat (D.int .i64 vx))))] ++ fc.map dV) (V.e (E.sc (S.dat (D.bool r)))) []) ∧
      ((r = true →
        R (V.e (E.sc (S.dat (D.int .i64 t8)))) []) ∧
      (r = false →
        J0 (IntKind.i64.wrap (t8 + (1 : Int))) ∧ μ0 (IntKind.i64.wrap (t8 + (1 : Int))) < μ0 t8))) ∧
    ((decide (t8 < (s.length : Int))) = false →
      R (V.e (E.sc (S.dat (D.int .i64 (-1 : Int))))) [])

theorem vc133_ok (s : List (List D)) (f : FuncId) (fc : List D) {R : V → Heap → Prop} (h : vc133 s f fc R) : FnG prog 133 [(V.e (E.sc (S.dat (D.sl s)))), (V.e (E.sc (S.dat (D.fn (.func f) fc))))] [] R := by
  unfold vc133 at h
  refine FnG.of (m := 19) (c := _) func133 rfl (by kernel_rfl) ntmps133 (Nat.le_of_ble_eq_true rfl) ?_
  refine GoJ.seq ?_
  refine GoJ.regV hT (cnt := 0) (ins := [o0]) (live := [0, 1]) (ids := []) (σ' := ⟨[(0, (V.e (E.sc (S.dat (D.sl s))))), (1, (V.e (E.sc (S.dat (D.fn (.func f) fc)))))], [], 19⟩) (obs := []) (by kernel_rfl) (by kernel_rfl) (by kernel_rfl) trivial ?_
  refine GoJ.seq ?_
  refine GoJ.seq ?_
  refine GoJ.regV hT (cnt := 0) (ins := [o0, o0, o0]) (live := [0, 1, 7, 8]) (ids := []) (σ' := ⟨[(0, (V.e (E.sc (S.dat (D.sl s))))), (1, (V.e (E.sc (S.dat (D.fn (.func f) fc))))), (7, (V.e (E.sc (S.dat (D.int .i64 (s.length : Int)))))), (8, (V.e (E.sc (S.dat (D.int .i64 (0 : Int))))))], [], 19⟩) (obs := []) (by kernel_rfl) (by kernel_rfl) (by kernel_rfl) trivial ?_
  refine GoJ.block ?_
  obtain ⟨J0, μ0, hJ0, h⟩ := h
  refine GoJ.loop (X := Int) (fun x => (fun (t8 : Int) => (⟨[(0, (V.e (E.sc (S.dat (D.sl s))))), (1, (V.e (E.sc (S.dat (D.fn (.func f) fc))))), (7, (V.e (E.sc (S.dat (D.int .i64 (s.length : Int)))))), (8, (V.e (E.sc (S.dat (D.int .i64 t8)))))], [], 19⟩ : St)) (x)) (fun x => J0 (x)) (fun x => μ0 (x)) ((0 : Int)) hJ0 ?_
  rintro t8 hJ0 ih0
  replace h := h t8 hJ0
  refine GoJ.seq ?_
  refine GoJ.regV hT (cnt := 0) (ins := [o0]) (live := [0, 1, 7, 8, 9]) (ids := []) (σ' := ⟨[(0, (V.e (E.sc (S.dat (D.sl s))))), (1, (V.e (E.sc (S.dat (D.fn (.func f) fc))))), (7, (V.e (E.sc (S.dat (D.int .i64 (s.length : Int)))))), (8, (V.e (E.sc (S.dat (D.int .i64 t8))))), (9, (V.e (E.sc (S.dat (D.bool (decide (t8 < (s.length : Int))))))))], [], 19⟩) (obs := []) (by kernel_rfl) (by kernel_rfl) (by kernel_rfl) trivial ?_
  refine GoJ.seq ?_
  refine GoJ.cond (t := (decide (t8 < (s.length : Int)))) (by kernel_rfl) (fun h1 => ?_) (fun h1 => ?_)
  · replace h := h.1 h1
    refine GoJ.skip ?_
    refine GoJ.seq ?_
    refine GoJ.block ?_
    refine GoJ.seq ?_
    refine GoJ.regV hT (cnt := 0) (ins := [o0, o0]) (live := [0, 1, 5, 7, 8]) (ids := []) (σ' := ⟨[(0, (V.e (E.sc (S.dat (D.sl s))))), (1, (V.e (E.sc (S.dat (D.fn (.func f) fc))))), (5, (V.e (E.sc (S.dat (D.int .i64 t8))))), (7, (V.e (E.sc (S.dat (D.int .i64 (s.length : Int)))))), (8, (V.e (E.sc (S.dat (D.int .i64 t8)))))], [], 19⟩) (obs := []) (by kernel_rfl) (by kernel_rfl) (by kernel_rfl) trivial ?_
    refine GoJ.seq ?_
    obtain ⟨vx, r, h2, h3, h4, h⟩ := h
    refine GoJ.regV hT (cnt := 0) (ins := [o0, o0, o0, o0, ((Or.cells [(D.int .i64 vx)]), 0, 0), ((Or.call (V.e (E.sc (S.dat (D.bool r)))) [] []), 0, 0)]) (live := [0, 1, 5, 7, 8, 16]) (ids := []) (σ' := ⟨[(0, (V.e (E.sc (S.dat (D.sl s))))), (1, (V.e (E.sc (S.dat (D.fn (.func f) fc))))), (5, (V.e (E.sc (S.dat (D.int .i64 t8))))), (7, (V.e (E.sc (S.dat (D.int .i64 (s.length : Int)))))), (8, (V.e (E.sc (S.dat (D.int .i64 t8))))), (16, (V.e (E.sc (S.dat (D.bool r)))))], [], 19⟩) (obs := [0 ≤ t8 ∧ t8 < (s.length : Int), s[(t8).toNat]? = some [(D.int .i64 vx)], FnD prog f ([(V.e (E.sc (S.dat (D.int .i64 vx))))] ++ fc.map dV) (V.e (E.sc (S.dat (D.bool r)))) []]) (by kernel_rfl) (by kernel_rfl) (by kernel_rfl) ⟨h2, h3, h4, trivial⟩ ?_
    refine GoJ.cond (t := r) (by kernel_rfl) (fun h5 => ?_) (fun h5 => ?_)
    · replace h := h.1 h5
      refine GoJ.seq ?_
      refine GoJ.regV hT (cnt := 0) (ins := [o0, o0]) (live := [4]) (ids := []) (σ' := ⟨[(4, (V.e (E.sc (S.dat (D.int .i64 t8)))))], [], 19⟩) (obs := []) (by kernel_rfl) (by kernel_rfl) (by kernel_rfl) trivial ?_
      exact GoJ.retV hT func133 (ids := []) (r := (V.e (E.sc (S.dat (D.int .i64 t8))))) (r' := (V.e (E.sc (S.dat (D.int .i64 t8))))) (σ' := ⟨[], [], 19⟩) (by kernel_rfl) (by kernel_rfl) (by kernel_rfl) (by kernel_rfl) (by kernel_rfl) h
    · replace h := h.2 h5
      refine GoJ.skip ?_
      refine GoJ.inBlock ?_
      refine GoJ.regV hT (cnt := 0) (ins := [o0, o0]) (live := [0, 1, 7, 8]) (ids := []) (σ' := ⟨[(0, (V.e (E.sc (S.dat (D.sl s))))), (1, (V.e (E.sc (S.dat (D.fn (.func f) fc))))), (7, (V.e (E.sc (S.dat (D.int .i64 (s.length : Int)))))), (8, (V.e (E.sc (S.dat (D.int .i64 (IntKind.i64.wrap (t8 + (1 : Int))))))))], [], 19⟩) (obs := []) (by kernel_rfl) (by kernel_rfl) (by kernel_rfl) trivial ?_
      exact ih0 ((IntKind.i64.wrap (t8 + (1 : Int)))) h.1 h.2
  · replace h := h.2 h1
    refine GoJ.exit rfl ?_
    refine GoJ.seq ?_
    refine GoJ.regV hT (cnt := 0) (ins := [o0]) (live := [4]) (ids := []) (σ' := ⟨[(4, (V.e (E.sc (S.dat (D.int .i64 (-1 : Int))))))], [], 19⟩) (obs := []) (by kernel_rfl) (by kernel_rfl) (by kernel_rfl) trivial ?_
    exact GoJ.retV hT func133 (ids := []) (r := (V.e (E.sc (S.dat (D.int .i64 (-1 : Int)))))) (r' := (V.e (E.sc (S.dat (D.int .i64 (-1 : Int)))))) (σ' := ⟨[], [], 19⟩) (by kernel_rfl) (by kernel_rfl) (by kernel_rfl) (by kernel_rfl) (by kernel_rfl) h

/- f83 torsion/matrix.Pick$1 -/
def vc83 (n : Int) (R : V → Heap → Prop) : Prop :=
  R (V.e (E.sc (S.dat (D.fn (.func 84) [(D.box [(D.int .i64 n)])])))) []

theorem vc83_ok (n : Int) {R : V → Heap → Prop} (h : vc83 n R) : FnG prog 83 [(V.e (E.sc (S.dat (D.int .i64 n))))] [] R := by
  unfold vc83 at h
  refine FnG.of (m := 4) (c := _) func83 rfl (by kernel_rfl) ntmps83 (Nat.le_of_ble_eq_true rfl) ?_
  refine GoJ.seq ?_
  refine GoJ.regV hT (cnt := 1) (ins := [(Or.none, 0, 1), o0]) (live := [1]) (ids := [0]) (σ' := ⟨[(1, (V.e (E.sc (S.ptr 0 0))))], [(some (Obj.box [(S.dat (D.int .i64 n))]))], 4⟩) (obs := []) (by kernel_rfl) (by kernel_rfl) (by kernel_rfl) trivial ?_
  refine GoJ.seq ?_
  refine GoJ.regV hT (cnt := 0) (ins := [o0, o0]) (live := [2]) (ids := [0]) (σ' := ⟨[(2, (V.e (E.sc (S.clo (.func 84) [0]))))], [(some (Obj.box [(S.dat (D.int .i64 n))]))], 4⟩) (obs := []) (by kernel_rfl) (by kernel_rfl) (by kernel_rfl) trivial ?_
  refine GoJ.wk (xfreeze_ok (ids := [0]) (σ' := ⟨[(2, (V.e (E.sc (S.dat (D.fn (.func 84) [(D.box [(D.int .i64 n)])])))))], [none], 4⟩) (by kernel_rfl)) ?_
  exact GoJ.retV hT func83 (ids := []) (r := (V.e (E.sc (S.dat (D.fn (.func 84) [(D.box [(D.int .i64 n)])]))))) (r' := (V.e (E.sc (S.dat (D.fn (.func 84) [(D.box [(D.int .i64 n)])]))))) (σ' := ⟨[], [], 4⟩) (by kernel_rfl) (by kernel_rfl) (by kernel_rfl) (by kernel_rfl) (by kernel_rfl) h

/- f84 torsion/matrix.Pick$1$1 -/
def vc84 (i : Int) (c0 : Int) (R : V → Heap → Prop) : Prop :=
  ((decide (i < (0 : Int))) = true →
    R (V.e (E.sc (S.dat (D.bool true)))) []) ∧
  ((decide (i < (0 : Int))) = false →
    R (V.e (E.sc (S.dat (D.bool (decide (i ≥ c0)))))) [])

theorem vc84_ok (i : Int) (c0 : Int) {R : V → Heap → Prop} (h : vc84 i c0 R) : FnG prog 84 [(V.e (E.sc (S.dat (D.int .i64 i)))), (V.e (E.sc (S.dat (D.box [(D.int .i64 c0)]))))] [] R := by
  unfold vc84 at h
  refine FnG.of (m := 11) (c := _) func84 rfl (by kernel_rfl) ntmps84 (Nat.le_of_ble_eq_true rfl) ?_
  refine GoJ.seq ?_
  refine GoJ.regV hT (cnt := 0) (ins := [o0]) (live := [0, 1]) (ids := []) (σ' := ⟨[(0, (V.e (E.sc (S.dat (D.int .i64 i))))), (1, (V.e (E.sc (S.dat (D.box [(D.int .i64 c0)])))))], [], 11⟩) (obs := []) (by kernel_rfl) (by kernel_rfl) (by kernel_rfl) trivial ?_
  refine GoJ.seq ?_
  rcases Bool.eq_false_or_eq_true (decide (i < (0 : Int))) with h1 | h1
  · replace h := h.1 h1
    refine GoJ.regV hT (cnt := 0) (ins := [o0, o0, ((Or.bool true), 0, 0), o0, o0, o0, o0, o0]) (live := [3]) (ids := []) (σ' := ⟨[(3, (V.e (E.sc (S.dat (D.bool true)))))], [], 11⟩) (obs := [(decide (i < (0 : Int))) = true]) (by kernel_rfl) (by kernel_rfl) (by kernel_rfl) ⟨h1, trivial⟩ ?_
    exact GoJ.retV hT func84 (ids := []) (r := (V.e (E.sc (S.dat (D.bool true))))) (r' := (V.e (E.sc (S.dat (D.bool true))))) (σ' := ⟨[], [], 11⟩) (by kernel_rfl) (by kernel_rfl) (by kernel_rfl) (by kernel_rfl) (by kernel_rfl) h
  · replace h := h.2 h1
    refine GoJ.regV hT (cnt := 0) (ins := [o0, o0, ((Or.bool false), 0, 0), o0, o0, o0, o0, o0]) (live := [3]) (ids := []) (σ' := ⟨[(3, (V.e (E.sc (S.dat (D.bool (decide (i ≥ c0)))))))], [], 11⟩) (obs := [(decide (i < (0 : Int))) = false]) (by kernel_rfl) (by kernel_rfl) (by kernel_rfl) ⟨h1, trivial⟩ ?_
    exact GoJ.retV hT func84 (ids := []) (r := (V.e (E.sc (S.dat (D.bool (decide (i ≥ c0))))))) (r' := (V.e (E.sc (S.dat (D.bool (decide (i ≥ c0))))))) (σ' := ⟨[], [], 11⟩) (by kernel_rfl) (by kernel_rfl) (by kernel_rfl) (by kernel_rfl) (by kernel_rfl) h

/- f86 torsion/matrix.Pick$2 -/
def vc86 (i : Int) (j : Int) (c00 : Int) (c01 : Int) (c02 : List (List D)) (c1 : List (List D)) (c2 : List (List D)) (R : V → Heap → Prop) : Prop :=
  ∃ (vx : Int) (vx1 : List (List D)) (vx2 : Int) (x0 : Bool) (x1 : List (List D)),
  (0 ≤ i ∧ i < (c1.length : Int)) ∧
  (c1[(i).toNat]? = some [(D.int .i64 vx)]) ∧
  (0 ≤ vx ∧ vx < (c02.length : Int)) ∧
  (c02[(vx).toNat]? = some [(D.sl vx1)]) ∧
  (0 ≤ j ∧ j < (c2.length : Int)) ∧
  (c2[(j).toNat]? = some [(D.int .i64 vx2)]) ∧
  (0 ≤ vx2 ∧ vx2 < (vx1.length : Int)) ∧
  (vx1[(vx2).toNat]? = some [(D.bool x0), (D.sl x1)]) ∧
  (R (V.e (E.agg [(S.dat (D.bool x0)), (S.dat (D.sl x1))])) [])

theorem vc86_ok (i : Int) (j : Int) (c00 : Int) (c01 : Int) (c02 : List (List D)) (c1 : List (List D)) (c2 : List (List D)) {R : V → Heap → Prop} (h : vc86 i j c00 c01 c02 c1 c2 R) : FnG prog 86 [(V.e (E.sc (S.dat (D.int .i64 i)))), (V.e (E.sc (S.dat (D.int .i64 j)))), (V.e (E.sc (S.dat (D.box [(D.int .i64 c00), (D.int .i64 c01), (D.sl c02)])))), (V.e (E.sc (S.dat (D.box [(D.sl c1)])))), (V.e (E.sc (S.dat (D.box [(D.sl c2)]))))] [] R := by
  unfold vc86 at h
  refine FnG.of (m := 22) (c := _) func86 rfl (by kernel_rfl) ntmps86 (Nat.le_of_ble_eq_true rfl) ?_
  refine GoJ.seq ?_
  refine GoJ.regV hT (cnt := 1) (ins := [(Or.none, 0, 1)]) (live := [0, 1, 2, 3, 4, 7]) (ids := [0]) (σ' := ⟨[(0, (V.e (E.sc (S.dat (D.int .i64 i))))), (1, (V.e (E.sc (S.dat (D.int .i64 j))))), (2, (V.e (E.sc (S.dat (D.box [(D.int .i64 c00), (D.int .i64 c01), (D.sl c02)]))))), (3, (V.e (E.sc (S.dat (D.box [(D.sl c1)]))))), (4, (V.e (E.sc (S.dat (D.box [(D.sl c2)]))))), (7, (V.e (E.sc (S.ptr 0 0))))], [(some (Obj.box [(S.dat (D.bool false)), (S.dat (D.raw (.slice none 0 0)))]))], 22⟩) (obs := []) (by kernel_rfl) (by kernel_rfl) (by kernel_rfl) trivial ?_
  refine GoJ.seq ?_
  obtain ⟨vx, vx1, vx2, x0, x1, h1, h2, h3, h4, h5, h6, h7, h8, h⟩ := h
  refine GoJ.drawV hmix hT (cnt := 0) (ins := [⟨Or.none, 0, 0, [], [2], [], []⟩, ⟨Or.none, 0, 0, [0], [8], [], []⟩, ⟨Or.none, 0, 0, [], [3], [], []⟩, ⟨Or.none, 0, 0, [], [0], [], []⟩, ⟨Or.none, 0, 0, [2, 3], [10, 11], [], []⟩, ⟨(Or.cells [(D.int .i64 vx)]), 0, 0, [2, 3, 4], [12], [], []⟩, ⟨Or.none, 0, 0, [0, 1, 2, 3, 4, 5], [9, 13], [], []⟩, ⟨(Or.cells [(D.sl vx1)]), 0, 0, [0, 1, 2, 3, 4, 5, 6], [14], [], []⟩, ⟨Or.none, 0, 0, [], [4], [], []⟩, ⟨Or.none, 0, 0, [], [1], [], []⟩, ⟨Or.none, 0, 0, [8, 9], [16, 17], [], []⟩, ⟨(Or.cells [(D.int .i64 vx2)]), 0, 0, [8, 9, 10], [18], [], []⟩, ⟨Or.none, 0, 0, [0, 1, 2, 3, 4, 5, 6, 7, 8, 9, 10, 11], [15, 19], [], []⟩, ⟨(Or.cells [(D.bool x0), (D.sl x1)]), 0, 0, [0, 1, 2, 3, 4, 5, 6, 7, 8, 9, 10, 11, 12], [20], [], []⟩, ⟨Or.none, 0, 0, [0, 1, 2, 3, 4, 5, 6, 7, 8, 9, 10, 11, 12, 13], [7, 21], [0], []⟩]) (live := [7]) (ids := [0]) (σ' := ⟨[(7, (V.e (E.sc (S.ptr 0 0))))], [(some (Obj.box [(S.dat (D.bool x0)), (S.dat (D.sl x1))]))], 22⟩) (obs := [0 ≤ i ∧ i < (c1.length : Int), c1[(i).toNat]? = some [(D.int .i64 vx)], 0 ≤ vx ∧ vx < (c02.length : Int), c02[(vx).toNat]? = some [(D.sl vx1)], 0 ≤ j ∧ j < (c2.length : Int), c2[(j).toNat]? = some [(D.int .i64 vx2)], 0 ≤ vx2 ∧ vx2 < (vx1.length : Int), vx1[(vx2).toNat]? = some [(D.bool x0), (D.sl x1)]]) (by kernel_rfl) (by kernel_rfl) (by kernel_rfl) ⟨h1, h2, h3, h4, h5, h6, h7, h8, trivial⟩ ?_
  exact GoJ.retV hT func86 (ids := []) (r := (V.e (E.agg [(S.dat (D.bool x0)), (S.dat (D.sl x1))]))) (r' := (V.e (E.agg [(S.dat (D.bool x0)), (S.dat (D.sl x1))]))) (σ' := ⟨[], [], 22⟩) (by kernel_rfl) (by kernel_rfl) (by kernel_rfl) (by kernel_rfl) (by kernel_rfl) h

/- f30 torsion/matrix.Pick -/
def vc30 (a0 : Int) (a1 : Int) (a2 : List (List D)) (rows : List (List D)) (cols : List (List D)) (R : V → Heap → Prop) : Prop :=
  ∃ (r : FuncId) (rc : List D) (r1 : Bool),
  (FnD prog 83 [(V.e (E.sc (S.dat (D.int .i64 a0))))] (V.e (E.sc (S.dat (D.fn (.func r) rc)))) []) ∧
  (FnD prog 85 [(V.e (E.sc (S.dat (D.sl rows)))), (V.e (E.sc (S.dat (D.fn (.func r) rc))))] (V.e (E.sc (S.dat (D.bool r1)))) []) ∧
  ((r1 = true →
    R (V.tup [(E.agg [(S.dat (D.int .i64 (0 : Int))), (S.dat (D.int .i64 (0 : Int))), (S.dat (D.sl ([] : List (List D))))]), (E.sc (S.dat (D.int .i64 (1 : Int))))]) []) ∧
  (r1 = false →
    ∃ (r2 : FuncId) (rc1 : List D) (r3 : Bool),
    (FnD prog 83 [(V.e (E.sc (S.dat (D.int .i64 a1))))] (V.e (E.sc (S.dat (D.fn (.func r2) rc1)))) []) ∧
    (FnD prog 85 [(V.e (E.sc (S.dat (D.sl cols)))), (V.e (E.sc (S.dat (D.fn (.func r2) rc1))))] (V.e (E.sc (S.dat (D.bool r3)))) []) ∧
    ((r3 = true →
      R (V.tup [(E.agg [(S.dat (D.int .i64 (0 : Int))), (S.dat (D.int .i64 (0 : Int))), (S.dat (D.sl ([] : List (List D))))]), (E.sc (S.dat (D.int .i64 (1 : Int))))]) []) ∧
    (r3 = false →
      ∃ (r0 : Int) (r11 : Int) (r21 : List (List D)),
      (FnD prog 76 [(V.e (E.sc (S.dat (D.int .i64 (rows.length : Int))))), (V.e (E.sc (S.dat (D.int .i64 (cols.length : Int))))), (V.e (E.sc (S.dat (D.fn (.func 86) [(D.box [(D.int .i64 a0), (D.int .i64 a1), (D.sl a2)]), (D.box [(D.sl rows)]), (D.box [(D.sl cols)])]))))] (V.e (E.agg [(S.dat (D.int .i64 r0)), (S.dat (D.int .i64 r11)), (S.dat (D.sl r21))])) []) ∧
      (R (V.tup [(E.agg [(S.dat (D.int .i64 r0)), (S.dat (D.int .i64 r11)), (S.dat (D.sl r21))]), (E.sc (S.dat (D.int .i64 (0 : Int))))]) [])))))

theorem vc30_ok (a0 : Int) (a1 : Int) (a2 : List (List D)) (rows : List (List D)) (cols : List (List D)) {R : V → Heap → Prop} (h : vc30 a0 a1 a2 rows cols R) : FnG prog 30 [(V.e (E.agg [(S.dat (D.int .i64 a0)), (S.dat (D.int .i64 a1)), (S.dat (D.sl a2))])), (V.e (E.sc (S.dat (D.sl rows)))), (V.e (E.sc (S.dat (D.sl cols))))] [] R := by
  unfold vc30 at h
  refine FnG.of (m := 30) (c := _) func30 rfl (by kernel_rfl) ntmps30 (Nat.le_of_ble_eq_true rfl) ?_
  refine GoJ.seq ?_
  refine GoJ.regV hT (cnt := 4) (ins := [(Or.none, 0, 1), (Or.none, 1, 1), (Or.none, 2, 1), (Or.none, 3, 1), o0]) (live := [3, 4, 5, 6]) (ids := [0, 1, 2, 3]) (σ' := ⟨[(3, (V.e (E.sc (S.ptr 0 0)))), (4, (V.e (E.sc (S.ptr 1 0)))), (5, (V.e (E.sc (S.ptr 2 0)))), (6, (V.e (E.sc (S.ptr 3 0))))], [(some (Obj.box [(S.dat (D.int .i64 a0)), (S.dat (D.int .i64 a1)), (S.dat (D.sl a2))])), (some (Obj.box [(S.dat (D.sl rows))])), (some (Obj.box [(S.dat (D.sl cols))])), (some (Obj.box [(S.dat (D.int .i64 (0 : Int))), (S.dat (D.int .i64 (0 : Int))), (S.dat (D.raw (.slice none 0 0)))]))], 30⟩) (obs := []) (by kernel_rfl) (by kernel_rfl) (by kernel_rfl) trivial ?_
  refine GoJ.seq ?_
  refine GoJ.regV hT (cnt := 0) (ins := [o0]) (live := [3, 4, 5, 6, 8]) (ids := [0, 1, 2, 3]) (σ' := ⟨[(3, (V.e (E.sc (S.ptr 0 0)))), (4, (V.e (E.sc (S.ptr 1 0)))), (5, (V.e (E.sc (S.ptr 2 0)))), (6, (V.e (E.sc (S.ptr 3 0)))), (8, (V.e (E.sc (S.dat (D.fn (.func 83) ([] : List D))))))], [(some (Obj.box [(S.dat (D.int .i64 a0)), (S.dat (D.int .i64 a1)), (S.dat (D.sl a2))])), (some (Obj.box [(S.dat (D.sl rows))])), (some (Obj.box [(S.dat (D.sl cols))])), (some (Obj.box [(S.dat (D.int .i64 (0 : Int))), (S.dat (D.int .i64 (0 : Int))), (S.dat (D.raw (.slice none 0 0)))]))], 30⟩) (obs := []) (by kernel_rfl) (by kernel_rfl) (by kernel_rfl) trivial ?_
  refine GoJ.seq ?_
  refine GoJ.seq ?_
  obtain ⟨r, rc, r1, h1, h2, h⟩ := h
  rcases Bool.eq_false_or_eq_true r1 with h3 | h3
  · replace h := h.1 h3
    refine GoJ.drawV hmix hT (cnt := 0) (ins := [⟨Or.none, 0, 0, [], [4], [], []⟩, ⟨Or.none, 0, 0, [], [8], [], []⟩, ⟨Or.none, 0, 0, [], [3], [], []⟩, ⟨Or.none, 0, 0, [2], [11], [], []⟩, ⟨(Or.call (V.e (E.sc (S.dat (D.fn (.func r) rc)))) [] []), 0, 0, [1, 2, 3], [10, 12], [], []⟩, ⟨(Or.call (V.e (E.sc (S.dat (D.bool r1)))) [] []), 0, 0, [0, 1, 2, 3, 4], [9, 13], [], []⟩, ⟨(Or.bool true), 0, 0, [0, 1, 2, 3, 4, 5], [14], [], []⟩, ⟨Or.none, 0, 0, [0, 1, 2, 3, 4, 5, 6], [5, 15], [], []⟩, ⟨Or.none, 0, 0, [0, 1, 2, 3, 4, 5, 6], [8, 15], [], []⟩, ⟨Or.none, 0, 0, [0, 1, 2, 3, 4, 5, 6], [3, 15], [], []⟩, ⟨Or.none, 0, 0, [0, 1, 2, 3, 4, 5, 6, 9], [15, 18], [], []⟩, ⟨Or.none, 0, 0, [0, 1, 2, 3, 4, 5, 6, 8, 9, 10], [15, 17, 19], [], []⟩, ⟨Or.none, 0, 0, [0, 1, 2, 3, 4, 5, 6, 7, 8, 9, 10, 11], [15, 16, 20], [], []⟩, ⟨Or.none, 0, 0, [0, 1, 2, 3, 4, 5, 6, 7, 8, 9, 10, 11, 12], [15, 21], [], []⟩]) (live := [3, 4, 5, 6, 22]) (ids := [0, 1, 2, 3]) (σ' := ⟨[(3, (V.e (E.sc (S.ptr 0 0)))), (4, (V.e (E.sc (S.ptr 1 0)))), (5, (V.e (E.sc (S.ptr 2 0)))), (6, (V.e (E.sc (S.ptr 3 0)))), (22, (V.e (E.sc (S.dat (D.bool true)))))], [(some (Obj.box [(S.dat (D.int .i64 a0)), (S.dat (D.int .i64 a1)), (S.dat (D.sl a2))])), (some (Obj.box [(S.dat (D.sl rows))])), (some (Obj.box [(S.dat (D.sl cols))])), (some (Obj.box [(S.dat (D.int .i64 (0 : Int))), (S.dat (D.int .i64 (0 : Int))), (S.dat (D.raw (.slice none 0 0)))]))], 30⟩) (obs := [FnD prog 83 [(V.e (E.sc (S.dat (D.int .i64 a0))))] (V.e (E.sc (S.dat (D.fn (.func r) rc)))) [], FnD prog 85 [(V.e (E.sc (S.dat (D.sl rows)))), (V.e (E.sc (S.dat (D.fn (.func r) rc))))] (V.e (E.sc (S.dat (D.bool r1)))) [], r1 = true]) (by kernel_rfl) (by kernel_rfl) (by kernel_rfl) ⟨h1, h2, h3, trivial⟩ ?_
    refine GoJ.cond (t := true) (by kernel_rfl) (fun _ => ?_) (fun hf => nomatch hf)
    refine GoJ.seq ?_
    refine GoJ.regV hT (cnt := 0) (ins := [o0, o0, o0]) (live := [6, 7]) (ids := [3]) (σ' := ⟨[(6, (V.e (E.sc (S.ptr 0 0)))), (7, (V.e (E.sc (S.dat (D.int .i64 (1 : Int))))))], [(some (Obj.box [(S.dat (D.int .i64 (0 : Int))), (S.dat (D.int .i64 (0 : Int))), (S.dat (D.raw (.slice none 0 0)))]))], 30⟩) (obs := []) (by kernel_rfl) (by kernel_rfl) (by kernel_rfl) trivial ?_
    refine GoJ.wk (xnorm_ok (sl := [6, 7]) (bx := [0]) (σ' := ⟨[(6, (V.e (E.sc (S.ptr 0 0)))), (7, (V.e (E.sc (S.dat (D.int .i64 (1 : Int))))))], [(some (Obj.box [(S.dat (D.int .i64 (0 : Int))), (S.dat (D.int .i64 (0 : Int))), (S.dat (D.sl ([] : List (List D))))]))], 30⟩) (by kernel_rfl)) ?_
    exact GoJ.retV hT func30 (ids := []) (r := (V.tup [(E.agg [(S.dat (D.int .i64 (0 : Int))), (S.dat (D.int .i64 (0 : Int))), (S.dat (D.sl ([] : List (List D))))]), (E.sc (S.dat (D.int .i64 (1 : Int))))])) (r' := (V.tup [(E.agg [(S.dat (D.int .i64 (0 : Int))), (S.dat (D.int .i64 (0 : Int))), (S.dat (D.sl ([] : List (List D))))]), (E.sc (S.dat (D.int .i64 (1 : Int))))])) (σ' := ⟨[], [], 30⟩) (by kernel_rfl) (by kernel_rfl) (by kernel_rfl) (by kernel_rfl) (by kernel_rfl) h
  · replace h := h.2 h3
    obtain ⟨r2, rc1, r3, h4, h5, h⟩ := h
    refine GoJ.drawV hmix hT (cnt := 0) (ins := [⟨Or.none, 0, 0, [], [4], [], []⟩, ⟨Or.none, 0, 0, [], [8], [], []⟩, ⟨Or.none, 0, 0, [], [3], [], []⟩, ⟨Or.none, 0, 0, [2], [11], [], []⟩, ⟨(Or.call (V.e (E.sc (S.dat (D.fn (.func r) rc)))) [] []), 0, 0, [1, 2, 3], [10, 12], [], []⟩, ⟨(Or.call (V.e (E.sc (S.dat (D.bool r1)))) [] []), 0, 0, [0, 1, 2, 3, 4], [9, 13], [], []⟩, ⟨(Or.bool false), 0, 0, [0, 1, 2, 3, 4, 5], [14], [], []⟩, ⟨Or.none, 0, 0, [0, 1, 2, 3, 4, 5, 6], [5, 15], [], []⟩, ⟨Or.none, 0, 0, [0, 1, 2, 3, 4, 5, 6], [8, 15], [], []⟩, ⟨Or.none, 0, 0, [0, 1, 2, 3, 4, 5, 6], [3, 15], [], []⟩, ⟨Or.none, 0, 0, [0, 1, 2, 3, 4, 5, 6, 9], [15, 18], [], []⟩, ⟨(Or.call (V.e (E.sc (S.dat (D.fn (.func r2) rc1)))) [] []), 0, 0, [0, 1, 2, 3, 4, 5, 6, 8, 9, 10], [15, 17, 19], [], []⟩, ⟨(Or.call (V.e (E.sc (S.dat (D.bool r3)))) [] []), 0, 0, [0, 1, 2, 3, 4, 5, 6, 7, 8, 9, 10, 11], [15, 16, 20], [], []⟩, ⟨Or.none, 0, 0, [0, 1, 2, 3, 4, 5, 6, 7, 8, 9, 10, 11, 12], [15, 21], [], []⟩]) (live := [3, 4, 5, 6, 22]) (ids := [0, 1, 2, 3]) (σ' := ⟨[(3, (V.e (E.sc (S.ptr 0 0)))), (4, (V.e (E.sc (S.ptr 1 0)))), (5, (V.e (E.sc (S.ptr 2 0)))), (6, (V.e (E.sc (S.ptr 3 0)))), (22, (V.e (E.sc (S.dat (D.bool r3)))))], [(some (Obj.box [(S.dat (D.int .i64 a0)), (S.dat (D.int .i64 a1)), (S.dat (D.sl a2))])), (some (Obj.box [(S.dat (D.sl rows))])), (some (Obj.box [(S.dat (D.sl cols))])), (some (Obj.box [(S.dat (D.int .i64 (0 : Int))), (S.dat (D.int .i64 (0 : Int))), (S.dat (D.raw (.slice none 0 0)))]))], 30⟩) (obs := [FnD prog 83 [(V.e (E.sc (S.dat (D.int .i64 a0))))] (V.e (E.sc (S.dat (D.fn (.func r) rc)))) [], FnD prog 85 [(V.e (E.sc (S.dat (D.sl rows)))), (V.e (E.sc (S.dat (D.fn (.func r) rc))))] (V.e (E.sc (S.dat (D.bool r1)))) [], r1 = false, FnD prog 83 [(V.e (E.sc (S.dat (D.int .i64 a1))))] (V.e (E.sc (S.dat (D.fn (.func r2) rc1)))) [], FnD prog 85 [(V.e (E.sc (S.dat (D.sl cols)))), (V.e (E.sc (S.dat (D.fn (.func r2) rc1))))] (V.e (E.sc (S.dat (D.bool r3)))) []]) (by kernel_rfl) (by kernel_rfl) (by kernel_rfl) ⟨h1, h2, h3, h4, h5, trivial⟩ ?_
    refine GoJ.cond (t := r3) (by kernel_rfl) (fun h6 => ?_) (fun h6 => ?_)
    · replace h := h.1 h6
      refine GoJ.seq ?_
      refine GoJ.regV hT (cnt := 0) (ins := [o0, o0, o0]) (live := [6, 7]) (ids := [3]) (σ' := ⟨[(6, (V.e (E.sc (S.ptr 0 0)))), (7, (V.e (E.sc (S.dat (D.int .i64 (1 : Int))))))], [(some (Obj.box [(S.dat (D.int .i64 (0 : Int))), (S.dat (D.int .i64 (0 : Int))), (S.dat (D.raw (.slice none 0 0)))]))], 30⟩) (obs := []) (by kernel_rfl) (by kernel_rfl) (by kernel_rfl) trivial ?_
      refine GoJ.wk (xnorm_ok (sl := [6, 7]) (bx := [0]) (σ' := ⟨[(6, (V.e (E.sc (S.ptr 0 0)))), (7, (V.e (E.sc (S.dat (D.int .i64 (1 : Int))))))], [(some (Obj.box [(S.dat (D.int .i64 (0 : Int))), (S.dat (D.int .i64 (0 : Int))), (S.dat (D.sl ([] : List (List D))))]))], 30⟩) (by kernel_rfl)) ?_
      exact GoJ.retV hT func30 (ids := []) (r := (V.tup [(E.agg [(S.dat (D.int .i64 (0 : Int))), (S.dat (D.int .i64 (0 : Int))), (S.dat (D.sl ([] : List (List D))))]), (E.sc (S.dat (D.int .i64 (1 : Int))))])) (r' := (V.tup [(E.agg [(S.dat (D.int .i64 (0 : Int))), (S.dat (D.int .i64 (0 : Int))), (S.dat (D.sl ([] : List (List D))))]), (E.sc (S.dat (D.int .i64 (1 : Int))))])) (σ' := ⟨[], [], 30⟩) (by kernel_rfl) (by kernel_rfl) (by kernel_rfl) (by kernel_rfl) (by kernel_rfl) h
    · replace h := h.2 h6
      refine GoJ.skip ?_
      refine GoJ.seq ?_
      refine GoJ.wk (xfreeze_ok (ids := [0, 1, 2]) (σ' := ⟨[(3, (V.e (E.sc (S.dat (D.box [(D.int .i64 a0), (D.int .i64 a1), (D.sl a2)]))))), (4, (V.e (E.sc (S.dat (D.box [(D.sl rows)]))))), (5, (V.e (E.sc (S.dat (D.box [(D.sl cols)]))))), (6, (V.e (E.sc (S.ptr 3 0)))), (22, (V.e (E.sc (S.dat (D.bool r3)))))], [none, none, none, (some (Obj.box [(S.dat (D.int .i64 (0 : Int))), (S.dat (D.int .i64 (0 : Int))), (S.dat (D.raw (.slice none 0 0)))]))], 30⟩) (by kernel_rfl)) ?_
      obtain ⟨r0, r11, r21, h7, h⟩ := h
      refine GoJ.regV hT (cnt := 0) (ins := [o0, o0, o0, o0, o0, ((Or.call (V.e (E.agg [(S.dat (D.int .i64 r0)), (S.dat (D.int .i64 r11)), (S.dat (D.sl r21))])) [] []), 0, 0), o0, o0]) (live := [6, 7]) (ids := [3]) (σ' := ⟨[(6, (V.e (E.sc (S.ptr 0 0)))), (7, (V.e (E.sc (S.dat (D.int .i64 (0 : Int))))))], [(some (Obj.box [(S.dat (D.int .i64 r0)), (S.dat (D.int .i64 r11)), (S.dat (D.sl r21))]))], 30⟩) (obs := [FnD prog 76 [(V.e (E.sc (S.dat (D.int .i64 (rows.length : Int))))), (V.e (E.sc (S.dat (D.int .i64 (cols.length : Int))))), (V.e (E.sc (S.dat (D.fn (.func 86) [(D.box [(D.int .i64 a0), (D.int .i64 a1), (D.sl a2)]), (D.box [(D.sl rows)]), (D.box [(D.sl cols)])]))))] (V.e (E.agg [(S.dat (D.int .i64 r0)), (S.dat (D.int .i64 r11)), (S.dat (D.sl r21))])) []]) (by kernel_rfl) (by kernel_rfl) (by kernel_rfl) ⟨h7, trivial⟩ ?_
      exact GoJ.retV hT func30 (ids := []) (r := (V.tup [(E.agg [(S.dat (D.int .i64 r0)), (S.dat (D.int .i64 r11)), (S.dat (D.sl r21))]), (E.sc (S.dat (D.int .i64 (0 : Int))))])) (r' := (V.tup [(E.agg [(S.dat (D.int .i64 r0)), (S.dat (D.int .i64 r11)), (S.dat (D.sl r21))]), (E.sc (S.dat (D.int .i64 (0 : Int))))])) (σ' := ⟨[], [], 30⟩) (by kernel_rfl) (by kernel_rfl) (by kernel_rfl) (by kernel_rfl) (by kernel_rfl) h

/- f72 slices.ContainsFunc[[]torsion/api.Int,torsion/api.Int] -/
def vc72 (s : List (List D)) (f : FuncId) (fc : List D) (R : V → Heap → Prop) : Prop :=
  ∃ (r : Int),
  (FnD prog 126 [(V.e (E.sc (S.dat (D.sl s)))), (V.e (E.sc (S.dat (D.fn (.func f) fc))))] (V.e (E.sc (S.dat (D.int .i64 r)))) []) ∧
  (R (V.e (E.sc (S.dat (D.bool (decide (r ≥ (0 : Int))))))) [])

theorem vc72_ok (s : List (List D)) (f : FuncId) (fc : List D) {R : V → Heap → Prop} (h : vc72 s f fc R) : FnG prog 72 [(V.e (E.sc (S.dat (D.sl s)))), (V.e (E.sc (S.dat (D.fn (.func f) fc))))] [] R := by
  unfold vc72 at h
  refine FnG.of (m := 9) (c := _) func72 rfl (by kernel_rfl) ntmps72 (Nat.le_of_ble_eq_true rfl) ?_
  refine GoJ.seq ?_
  refine GoJ.regV hT (cnt := 0) (ins := [o0]) (live := [0, 1]) (ids := []) (σ' := ⟨[(0, (V.e (E.sc (S.dat (D.sl s))))), (1, (V.e (E.sc (S.dat (D.fn (.func f) fc)))))], [], 9⟩) (obs := []) (by kernel_rfl) (by kernel_rfl) (by kernel_rfl) trivial ?_
  refine GoJ.seq ?_
  obtain ⟨r, h1, h⟩ := h
  refine GoJ.regV hT (cnt := 0) (ins := [o0, o0, ((Or.call (V.e (E.sc (S.dat (D.int .i64 r)))) [] []), 0, 0), o0, o0]) (live := [4]) (ids := []) (σ' := ⟨[(4, (V.e (E.sc (S.dat (D.bool (decide (r ≥ (0 : Int))))))))], [], 9⟩) (obs := [FnD prog 126 [(V.e (E.sc (S.dat (D.sl s)))), (V.e (E.sc (S.dat (D.fn (.func f) fc))))] (V.e (E.sc (S.dat (D.int .i64 r)))) []]) (by kernel_rfl) (by kernel_rfl) (by kernel_rfl) ⟨h1, trivial⟩ ?_
  exact GoJ.retV hT func72 (ids := []) (r := (V.e (E.sc (S.dat (D.bool (decide (r ≥ (0 : Int)))))))) (r' := (V.e (E.sc (S.dat (D.bool (decide (r ≥ (0 : Int)))))))) (σ' := ⟨[], [], 9⟩) (by kernel_rfl) (by kernel_rfl) (by kernel_rfl) (by kernel_rfl) (by kernel_rfl) h

/- f126 slices.IndexFunc[[]torsion/api.Int,torsion/api.Int] -/
def vc126 (s : List (List D)) (f : FuncId) (fc : List D) (R : V → Heap → Prop) : Prop :=
  ∃ (J0 : Int → Prop) (μ0 : Int → Nat),
  J0 (0 : Int) ∧ ∀ (t8 : Int), J0 t8 →
    ((decide (t8 < (s.length : Int))) = true →
      ∃ (x0 : Bool) (x1 : List (List D)) (r : Bool),
      (0 ≤ t8 ∧ t8 < (s.length : Int)) ∧
      (s[(t8).toNat]? = some [(D.bool x0), (D.sl x1)]) ∧
      (FnD prog f ([(V.e (E.agg [(S.dat (D.bool x0)), (S.dat (D.sl x1))]))] ++ fc.map dV) (V.e (E.sc (S.dat (D.bool r)))) []) ∧
      ((r = true →
        R (V.e (E.sc (S.dat (D.int .i64 t8)))) []) ∧
      (r = false →
        J0 (IntKind.i64.wrap (t8 + (1 : Int))) ∧ μ0 (IntKind.i64.wrap (t8 + (1 : Int))) < μ0 t8))) ∧
    ((decide (t8 < (s.length : Int))) = false →
      R (V.e (E.sc (S.dat (D.int .i64 (-1 : Int))))) [])

theorem vc126_ok (s : List (List D)) (f : FuncId) (fc : List D) {R : V → Heap → Prop} (h : vc126 s f fc R) : FnG prog 126 [(V.e (E.sc (S.dat (D.sl s)))), (V.e (E.sc (S.dat (D.fn (.func f) fc))))] [] R := by
  unfold vc126 at h
  refine FnG.of (m := 19) (c := _) func126 rfl (by kernel_rfl) ntmps126 (Nat.le_of_ble_eq_true rfl) ?_
  refine GoJ.seq ?_
  refine GoJ.regV hT (cnt := 0) (ins := [o0]) (live := [0, 1]) (ids := []) (σ' := ⟨[(0, (V.e (E.sc (S.dat (D.sl s))))), (1, (V.e (E.sc (S.dat (D.fn (.func f) fc)))))], [], 19⟩) (obs := []) (by kernel_rfl) (by kernel_rfl) (by kernel_rfl) trivial ?_
  refine GoJ.seq ?_
  refine GoJ.seq ?_
  refine GoJ.regV hT (cnt := 0) (ins := [o0, o0, o0]) (live := [0, 1, 7, 8]) (ids := []) (σ' := ⟨[(0, (V.e (E.sc (S.dat (D.sl s))))), (1, (V.e (E.sc (S.dat (D.fn (.func f) fc))))), (7, (V.e (E.sc (S.dat (D.int .i64 (s.length : Int)))))), (8, (V.e (E.sc (S.dat (D.int .i64 (0 : Int))))))], [], 19⟩) (obs := []) (by kernel_rfl) (by kernel_rfl) (by kernel_rfl) trivial ?_
  refine GoJ.block ?_
  obtain ⟨J0, μ0, hJ0, h⟩ := h
  refine GoJ.loop (X := Int) (fun x => (fun (t8 : Int) => (⟨[(0, (V.e (E.sc (S.dat (D.sl s))))), (1, (V.e (E.sc (S.dat (D.fn (.func f) fc))))), (7, (V.e (E.sc (S.dat (D.int .i64 (s.length : Int)))))), (8, (V.e (E.sc (S.dat (D.int .i64 t8)))))], [], 19⟩ : St)) (x)) (fun x => J0 (x)) (fun x => μ0 (x)) ((0 : Int)) hJ0 ?_
  rintro t8 hJ0 ih0
  replace h := h t8 hJ0
  refine GoJ.seq ?_
  refine GoJ.regV hT (cnt := 0) (ins := [o0]) (live := [0, 1, 7, 8, 9]) (ids := []) (σ' := ⟨[(0, (V.e (E.sc (S.dat (D.sl s))))), (1, (V.e (E.sc (S.dat (D.fn (.func f) fc))))), (7, (V.e (E.sc (S.dat (D.int .i64 (s.length : Int)))))), (8, (V.e (E.sc (S.dat (D.int .i64 t8))))), (9, (V.e (E.sc (S.dat (D.bool (decide (t8 < (s.length : Int))))))))], [], 19⟩) (obs := []) (by kernel_rfl) (by kernel_rfl) (by kernel_rfl) trivial ?_
  refine GoJ.seq ?_
  refine GoJ.cond (t := (decide (t8 < (s.length : Int)))) (by kernel_rfl) (fun h1 => ?_) (fun h1 => ?_)
  · replace h := h.1 h1
    refine GoJ.skip ?_
    refine GoJ.seq ?_
    refine GoJ.block ?_
    refine GoJ.seq ?_
    refine GoJ.regV hT (cnt := 0) (ins := [o0, o0]) (live := [0, 1, 5, 7, 8]) (ids := []) (σ' := ⟨[(0, (V.e (E.sc (S.dat (D.sl s))))), (1, (V.e (E.sc (S.dat (D.fn (.func f) fc))))), (5, (V.e (E.sc (S.dat (D.int .i64 t8))))), (7, (V.e (E.sc (S.dat (D.int .i64 (s.length : Int)))))), (8, (V.e (E.sc (S.dat (D.int .i64 t8)))))], [], 19⟩) (obs := []) (by kernel_rfl) (by kernel_rfl) (by kernel_rfl) trivial ?_
    refine GoJ.seq ?_
    obtain ⟨x0, x1, r, h2, h3, h4, h⟩ := h
    refine GoJ.regV hT (cnt := 0) (ins := [o0, o0, o0, o0, ((Or.cells [(D.bool x0), (D.sl x1)]), 0, 0), ((Or.call (V.e (E.sc (S.dat (D.bool r)))) [] []), 0, 0)]) (live := [0, 1, 5, 7, 8, 16]) (ids := []) (σ' := ⟨[(0, (V.e (E.sc (S.dat (D.sl s))))), (1, (V.e (E.sc (S.dat (D.fn (.func f) fc))))), (5, (V.e (E.sc (S.dat (D.int .i64 t8))))), (7, (V.e (E.sc (S.dat (D.int .i64 (s.length : Int)))))), (8, (V.e (E.sc (S.dat (D.int .i64 t8))))), (16, (V.e (E.sc (S.dat (D.bool r)))))], [], 19⟩) (obs := [0 ≤ t8 ∧ t8 < (s.length : Int), s[(t8).toNat]? = some [(D.bool x0), (D.sl x1)], FnD prog f ([(V.e (E.agg [(S.dat (D.bool x0)), (S.dat (D.sl x1))]))] ++ fc.map dV) (V.e (E.sc (S.dat (D.bool r)))) []]) (by kernel_rfl) (by kernel_rfl) (by kernel_rfl) ⟨h2, h3, h4, trivial⟩ ?_
    refine GoJ.cond (t := r) (by kernel_rfl) (fun h5 => ?_) (fun h5 => ?_)
    · replace h := h.1 h5
      refine GoJ.seq ?_
      refine GoJ.regV hT (cnt := 0) (ins := [o0, o0]) (live := [4]) (ids := []) (σ' := ⟨[(4, (V.e (E.sc (S.dat (D.int .i64 t8)))))], [], 19⟩) (obs := []) (by kernel_rfl) (by kernel_rfl) (by kernel_rfl) trivial ?_
      exact GoJ.retV hT func126 (ids := []) (r := (V.e (E.sc (S.dat (D.int .i64 t8))))) (r' := (V.e (E.sc (S.dat (D.int .i64 t8))))) (σ' := ⟨[], [], 19⟩) (by kernel_rfl) (by kernel_rfl) (by kernel_rfl) (by kernel_rfl) (by kernel_rfl) h
    · replace h := h.2 h5
      refine GoJ.skip ?_
      refine GoJ.inBlock ?_
      refine GoJ.regV hT (cnt := 0) (ins := [o0, o0]) (live := [0, 1, 7, 8]) (ids := []) (σ' := ⟨[(0, (V.e (E.sc (S.dat (D.sl s))))), (1, (V.e (E.sc (S.dat (D.fn (.func f) fc))))), (7, (V.e (E.sc (S.dat (D.int .i64 (s.length : Int)))))), (8, (V.e (E.sc (S.dat (D.int .i64 (IntKind.i64.wrap (t8 + (1 : Int))))))))], [], 19⟩) (obs := []) (by kernel_rfl) (by kernel_rfl) (by kernel_rfl) trivial ?_
      exact ih0 ((IntKind.i64.wrap (t8 + (1 : Int)))) h.1 h.2
  · replace h := h.2 h1
    refine GoJ.exit rfl ?_
    refine GoJ.seq ?_
    refine GoJ.regV hT (cnt := 0) (ins := [o0]) (live := [4]) (ids := []) (σ' := ⟨[(4, (V.e (E.sc (S.dat (D.int .i64 (-1 : Int))))))], [], 19⟩) (obs := []) (by kernel_rfl) (by kernel_rfl) (by kernel_rfl) trivial ?_
    exact GoJ.retV hT func126 (ids := []) (r := (V.e (E.sc (S.dat (D.int .i64 (-1 : Int)))))) (r' := (V.e (E.sc (S.dat (D.int .i64 (-1 : Int)))))) (σ' := ⟨[], [], 19⟩) (by kernel_rfl) (by kernel_rfl) (by kernel_rfl) (by kernel_rfl) (by kernel_rfl) h

/- f73 torsion/matrix.Valid$1 -/
def vc73 (x0 : Bool) (x1 : List (List D)) (R : V → Heap → Prop) : Prop :=
  ∃ (r : Bool),
  (FnD prog 74 [(V.e (E.agg [(S.dat (D.bool x0)), (S.dat (D.sl x1))]))] (V.e (E.sc (S.dat (D.bool r)))) []) ∧
  (R (V.e (E.sc (S.dat (D.bool (!r))))) [])

theorem vc73_ok (x0 : Bool) (x1 : List (List D)) {R : V → Heap → Prop} (h : vc73 x0 x1 R) : FnG prog 73 [(V.e (E.agg [(S.dat (D.bool x0)), (S.dat (D.sl x1))]))] [] R := by
  unfold vc73 at h
  refine FnG.of (m := 6) (c := _) func73 rfl (by kernel_rfl) ntmps73 (Nat.le_of_ble_eq_true rfl) ?_
  refine GoJ.seq ?_
  refine GoJ.regV hT (cnt := 1) (ins := [(Or.none, 0, 1), o0]) (live := [1]) (ids := [0]) (σ' := ⟨[(1, (V.e (E.sc (S.ptr 0 0))))], [(some (Obj.box [(S.dat (D.bool x0)), (S.dat (D.sl x1))]))], 6⟩) (obs := []) (by kernel_rfl) (by kernel_rfl) (by kernel_rfl) trivial ?_
  refine GoJ.seq ?_
  obtain ⟨r, h1, h⟩ := h
  refine GoJ.regV hT (cnt := 0) (ins := [o0, ((Or.call (V.e (E.sc (S.dat (D.bool r)))) [] []), 0, 0), o0, o0]) (live := [2]) (ids := []) (σ' := ⟨[(2, (V.e (E.sc (S.dat (D.bool (!r))))))], [], 6⟩) (obs := [FnD prog 74 [(V.e (E.agg [(S.dat (D.bool x0)), (S.dat (D.sl x1))]))] (V.e (E.sc (S.dat (D.bool r)))) []]) (by kernel_rfl) (by kernel_rfl) (by kernel_rfl) ⟨h1, trivial⟩ ?_
  exact GoJ.retV hT func73 (ids := []) (r := (V.e (E.sc (S.dat (D.bool (!r)))))) (r' := (V.e (E.sc (S.dat (D.bool (!r)))))) (σ' := ⟨[], [], 6⟩) (by kernel_rfl) (by kernel_rfl) (by kernel_rfl) (by kernel_rfl) (by kernel_rfl) h

/- f74 torsion/integer.Valid -/
def vc74 (a0 : Bool) (a1 : List (List D)) (R : V → Heap → Prop) : Prop :=
  (((a1.length : Int) == (0 : Int)) = true →
    ((!a0) = true →
      R (V.e (E.sc (S.dat (D.bool true)))) []) ∧
    ((!a0) = false →
      ((decide ((a1.length : Int) > (0 : Int))) = true →
        ∃ (vx : Int),
        (0 ≤ (IntKind.i64.wrap ((a1.length : Int) - (1 : Int))) ∧ (IntKind.i64.wrap ((a1.length : Int) - (1 : Int))) < (a1.length : Int)) ∧
        (a1[((IntKind.i64.wrap ((a1.length : Int) - (1 : Int)))).toNat]? = some [(D.int .u32 vx)]) ∧
        (R (V.e (E.sc (S.dat (D.bool (vx != (0 : Int)))))) [])) ∧
      ((decide ((a1.length : Int) > (0 : Int))) = false →
        R (V.e (E.sc (S.dat (D.bool false)))) []))) ∧
  (((a1.length : Int) == (0 : Int)) = false →
    ((decide ((a1.length : Int) > (0 : Int))) = true →
      ∃ (vx1 : Int),
      (0 ≤ (IntKind.i64.wrap ((a1.length : Int) - (1 : Int))) ∧ (IntKind.i64.wrap ((a1.length : Int) - (1 : Int))) < (a1.length : Int)) ∧
      (a1[((IntKind.i64.wrap ((a1.length : Int) - (1 : Int)))).toNat]? = some [(D.int .u32 vx1)]) ∧
      (R (V.e (E.sc (S.dat (D.bool (vx1 != (0 : Int)))))) [])) ∧
    ((decide ((a1.length : Int) > (0 : Int))) = false →
      R (V.e (E.sc (S.dat (D.bool false)))) []))

theorem vc74_ok (a0 : Bool) (a1 : List (List D)) {R : V → Heap → Prop} (h : vc74 a0 a1 R) : FnG prog 74 [(V.e (E.agg [(S.dat (D.bool a0)), (S.dat (D.sl a1))]))] [] R := by
  unfold vc74 at h
  refine FnG.of (m := 27) (c := _) func74 rfl (by kernel_rfl) ntmps74 (Nat.le_of_ble_eq_true rfl) ?_
  refine GoJ.seq ?_
  refine GoJ.regV hT (cnt := 1) (ins := [(Or.none, 0, 1), o0]) (live := [1]) (ids := [0]) (σ' := ⟨[(1, (V.e (E.sc (S.ptr 0 0))))], [(some (Obj.box [(S.dat (D.bool a0)), (S.dat (D.sl a1))]))], 27⟩) (obs := []) (by kernel_rfl) (by kernel_rfl) (by kernel_rfl) trivial ?_
  refine GoJ.seq ?_
  refine GoJ.regV hT (cnt := 0) (ins := [o0, o0, o0, o0]) (live := [1, 3]) (ids := [0]) (σ' := ⟨[(1, (V.e (E.sc (S.ptr 0 0)))), (3, (V.e (E.sc (S.dat (D.int .i64 (a1.length : Int))))))], [(some (Obj.box [(S.dat (D.bool a0)), (S.dat (D.sl a1))]))], 27⟩) (obs := []) (by kernel_rfl) (by kernel_rfl) (by kernel_rfl) trivial ?_
  refine GoJ.seq ?_
  rcases Bool.eq_false_or_eq_true ((a1.length : Int) == (0 : Int)) with h1 | h1
  · replace h := h.1 h1
    rcases Bool.eq_false_or_eq_true (!a0) with h2 | h2
    · replace h := h.1 h2
      refine GoJ.regV hT (cnt := 0) (ins := [o0, o0, ((Or.bool true), 0, 0), o0, o0, o0, o0, ((Or.bool true), 0, 0), o0, o0, o0, o0, o0, o0, o0, o0, o0, o0, o0, o0, o0]) (live := [2]) (ids := []) (σ' := ⟨[(2, (V.e (E.sc (S.dat (D.bool true)))))], [], 27⟩) (obs := [((a1.length : Int) == (0 : Int)) = true, (!a0) = true]) (by kernel_rfl) (by kernel_rfl) (by kernel_rfl) ⟨h1, h2, trivial⟩ ?_
      exact GoJ.retV hT func74 (ids := []) (r := (V.e (E.sc (S.dat (D.bool true))))) (r' := (V.e (E.sc (S.dat (D.bool true))))) (σ' := ⟨[], [], 27⟩) (by kernel_rfl) (by kernel_rfl) (by kernel_rfl) (by kernel_rfl) (by kernel_rfl) h
    · replace h := h.2 h2
      rcases Bool.eq_false_or_eq_true (decide ((a1.length : Int) > (0 : Int))) with h3 | h3
      · replace h := h.1 h3
        obtain ⟨vx, h4, h5, h⟩ := h
        refine GoJ.regV hT (cnt := 0) (ins := [o0, o0, ((Or.bool true), 0, 0), o0, o0, o0, o0, ((Or.bool false), 0, 0), o0, o0, ((Or.bool true), 0, 0), o0, o0, o0, o0, o0, ((Or.cells [(D.int .u32 vx)]), 0, 0), o0, o0, o0, o0]) (live := [2]) (ids := []) (σ' := ⟨[(2, (V.e (E.sc (S.dat (D.bool (vx != (0 : Int)))))))], [], 27⟩) (obs := [((a1.length : Int) == (0 : Int)) = true, (!a0) = false, (decide ((a1.length : Int) > (0 : Int))) = true, 0 ≤ (IntKind.i64.wrap ((a1.length : Int) - (1 : Int))) ∧ (IntKind.i64.wrap ((a1.length : Int) - (1 : Int))) < (a1.length : Int), a1[((IntKind.i64.wrap ((a1.length : Int) - (1 : Int)))).toNat]? = some [(D.int .u32 vx)]]) (by kernel_rfl) (by kernel_rfl) (by kernel_rfl) ⟨h1, h2, h3, h4, h5, trivial⟩ ?_
        exact GoJ.retV hT func74 (ids := []) (r := (V.e (E.sc (S.dat (D.bool (vx != (0 : Int))))))) (r' := (V.e (E.sc (S.dat (D.bool (vx != (0 : Int))))))) (σ' := ⟨[], [], 27⟩) (by kernel_rfl) (by kernel_rfl) (by kernel_rfl) (by kernel_rfl) (by kernel_rfl) h
      · replace h := h.2 h3
        refine GoJ.regV hT (cnt := 0) (ins := [o0, o0, ((Or.bool true), 0, 0), o0, o0, o0, o0, ((Or.bool false), 0, 0), o0, o0, ((Or.bool false), 0, 0), o0, o0, o0, o0, o0, o0, o0, o0, o0, o0]) (live := [2]) (ids := []) (σ' := ⟨[(2, (V.e (E.sc (S.dat (D.bool false)))))], [], 27⟩) (obs := [((a1.length : Int) == (0 : Int)) = true, (!a0) = false, (decide ((a1.length : Int) > (0 : Int))) = false]) (by kernel_rfl) (by kernel_rfl) (by kernel_rfl) ⟨h1, h2, h3, trivial⟩ ?_
        exact GoJ.retV hT func74 (ids := []) (r := (V.e (E.sc (S.dat (D.bool false))))) (r' := (V.e (E.sc (S.dat (D.bool false))))) (σ' := ⟨[], [], 27⟩) (by kernel_rfl) (by kernel_rfl) (by kernel_rfl) (by kernel_rfl) (by kernel_rfl) h
  · replace h := h.2 h1
    rcases Bool.eq_false_or_eq_true (decide ((a1.length : Int) > (0 : Int))) with h6 | h6
    · replace h := h.1 h6
      obtain ⟨vx1, h7, h8, h⟩ := h
      refine GoJ.regV hT (cnt := 0) (ins := [o0, o0, ((Or.bool false), 0, 0), o0, o0, o0, o0, o0, o0, o0, ((Or.bool true), 0, 0), o0, o0, o0, o0, o0, ((Or.cells [(D.int .u32 vx1)]), 0, 0), o0, o0, o0, o0]) (live := [2]) (ids := []) (σ' := ⟨[(2, (V.e (E.sc (S.dat (D.bool (vx1 != (0 : Int)))))))], [], 27⟩) (obs := [((a1.length : Int) == (0 : Int)) = false, (decide ((a1.length : Int) > (0 : Int))) = true, 0 ≤ (IntKind.i64.wrap ((a1.length : Int) - (1 : Int))) ∧ (IntKind.i64.wrap ((a1.length : Int) - (1 : Int))) < (a1.length : Int), a1[((IntKind.i64.wrap ((a1.length : Int) - (1 : Int)))).toNat]? = some [(D.int .u32 vx1)]]) (by kernel_rfl) (by kernel_rfl) (by kernel_rfl) ⟨h1, h6, h7, h8, trivial⟩ ?_
      exact GoJ.retV hT func74 (ids := []) (r := (V.e (E.sc (S.dat (D.bool (vx1 != (0 : Int))))))) (r' := (V.e (E.sc (S.dat (D.bool (vx1 != (0 : Int))))))) (σ' := ⟨[], [], 27⟩) (by kernel_rfl) (by kernel_rfl) (by kernel_rfl) (by kernel_rfl) (by kernel_rfl) h
    · replace h := h.2 h6
      refine GoJ.regV hT (cnt := 0) (ins := [o0, o0, ((Or.bool false), 0, 0), o0, o0, o0, o0, o0, o0, o0, ((Or.bool false), 0, 0), o0, o0, o0, o0, o0, o0, o0, o0, o0, o0]) (live := [2]) (ids := []) (σ' := ⟨[(2, (V.e (E.sc (S.dat (D.bool false)))))], [], 27⟩) (obs := [((a1.length : Int) == (0 : Int)) = false, (decide ((a1.length : Int) > (0 : Int))) = false]) (by kernel_rfl) (by kernel_rfl) (by kernel_rfl) ⟨h1, h6, trivial⟩ ?_
      exact GoJ.retV hT func74 (ids := []) (r := (V.e (E.sc (S.dat (D.bool false))))) (r' := (V.e (E.sc (S.dat (D.bool false))))) (σ' := ⟨[], [], 27⟩) (by kernel_rfl) (by kernel_rfl) (by kernel_rfl) (by kernel_rfl) (by kernel_rfl) h

/- f17 torsion/matrix.Valid -/
def vc17 (a0 : Int) (a1 : Int) (a2 : List (List D)) (R : V → Heap → Prop) : Prop :=
  ((decide (a0 < (0 : Int))) = true →
    R (V.e (E.sc (S.dat (D.bool false)))) []) ∧
  ((decide (a0 < (0 : Int))) = false →
    ((decide (a1 < (0 : Int))) = true →
      R (V.e (E.sc (S.dat (D.bool false)))) []) ∧
    ((decide (a1 < (0 : Int))) = false →
      (((a2.length : Int) != a0) = true →
        R (V.e (E.sc (S.dat (D.bool false)))) []) ∧
      (((a2.length : Int) != a0) = false →
        ∃ (J0 : Int → Prop) (μ0 : Int → Nat),
        J0 (0 : Int) ∧ ∀ (t24 : Int), J0 t24 →
          ((decide (t24 < (a2.length : Int))) = true →
            ∃ (vx : List (List D)),
            (0 ≤ t24 ∧ t24 < (a2.length : Int)) ∧
            (a2[(t24).toNat]? = some [(D.sl vx)]) ∧
            ((((vx.length : Int) != a1) = true →
              R (V.e (E.sc (S.dat (D.bool false)))) []) ∧
            (((vx.length : Int) != a1) = false →
              ∃ (r : Bool),
              (FnD prog 72 [(V.e (E.sc (S.dat (D.sl vx)))), (V.e (E.sc (S.dat (D.fn (.func 73) ([] : List D)))))] (V.e (E.sc (S.dat (D.bool r)))) []) ∧
              ((r = true →
                R (V.e (E.sc (S.dat (D.bool false)))) []) ∧
              (r = false →
                J0 (IntKind.i64.wrap (t24 + (1 : Int))) ∧ μ0 (IntKind.i64.wrap (t24 + (1 : Int))) < μ0 t24))))) ∧
          ((decide (t24 < (a2.length : Int))) = false →
            R (V.e (E.sc (S.dat (D.bool true)))) []))))

theorem vc17_ok (a0 : Int) (a1 : Int) (a2 : List (List D)) {R : V → Heap → Prop} (h : vc17 a0 a1 a2 R) : FnG prog 17 [(V.e (E.agg [(S.dat (D.int .i64 a0)), (S.dat (D.int .i64 a1)), (S.dat (D.sl a2))]))] [] R := by
  unfold vc17 at h
  refine FnG.of (m := 38) (c := _) func17 rfl (by kernel_rfl) ntmps17 (Nat.le_of_ble_eq_true rfl) ?_
  refine GoJ.seq ?_
  refine GoJ.regV hT (cnt := 1) (ins := [(Or.none, 0, 1), o0]) (live := [1]) (ids := [0]) (σ' := ⟨[(1, (V.e (E.sc (S.ptr 0 0))))], [(some (Obj.box [(S.dat (D.int .i64 a0)), (S.dat (D.int .i64 a1)), (S.dat (D.sl a2))]))], 38⟩) (obs := []) (by kernel_rfl) (by kernel_rfl) (by kernel_rfl) trivial ?_
  refine GoJ.seq ?_
  refine GoJ.seq ?_
  rcases Bool.eq_false_or_eq_true (decide (a0 < (0 : Int))) with h1 | h1
  · replace h := h.1 h1
    refine GoJ.regV hT (cnt := 0) (ins := [o0, o0, o0, ((Or.bool true), 0, 0), o0, o0, o0, o0, o0, o0, o0, o0, o0, o0, o0, o0]) (live := [1, 20]) (ids := [0]) (σ' := ⟨[(1, (V.e (E.sc (S.ptr 0 0)))), (20, (V.e (E.sc (S.dat (D.bool true)))))], [(some (Obj.box [(S.dat (D.int .i64 a0)), (S.dat (D.int .i64 a1)), (S.dat (D.sl a2))]))], 38⟩) (obs := [(decide (a0 < (0 : Int))) = true]) (by kernel_rfl) (by kernel_rfl) (by kernel_rfl) ⟨h1, trivial⟩ ?_
    refine GoJ.cond (t := true) (by kernel_rfl) (fun _ => ?_) (fun hf => nomatch hf)
    refine GoJ.seq ?_
    refine GoJ.regV hT (cnt := 0) (ins := [o0]) (live := [2]) (ids := []) (σ' := ⟨[(2, (V.e (E.sc (S.dat (D.bool false)))))], [], 38⟩) (obs := []) (by kernel_rfl) (by kernel_rfl) (by kernel_rfl) trivial ?_
    exact GoJ.retV hT func17 (ids := []) (r := (V.e (E.sc (S.dat (D.bool false))))) (r' := (V.e (E.sc (S.dat (D.bool false))))) (σ' := ⟨[], [], 38⟩) (by kernel_rfl) (by kernel_rfl) (by kernel_rfl) (by kernel_rfl) (by kernel_rfl) h
  · replace h := h.2 h1
    rcases Bool.eq_false_or_eq_true (decide (a1 < (0 : Int))) with h2 | h2
    · replace h := h.1 h2
      refine GoJ.regV hT (cnt := 0) (ins := [o0, o0, o0, ((Or.bool false), 0, 0), o0, o0, o0, o0, ((Or.bool true), 0, 0), o0, o0, o0, o0, o0, o0, o0]) (live := [1, 20]) (ids := [0]) (σ' := ⟨[(1, (V.e (E.sc (S.ptr 0 0)))), (20, (V.e (E.sc (S.dat (D.bool true)))))], [(some (Obj.box [(S.dat (D.int .i64 a0)), (S.dat (D.int .i64 a1)), (S.dat (D.sl a2))]))], 38⟩) (obs := [(decide (a0 < (0 : Int))) = false, (decide (a1 < (0 : Int))) = true]) (by kernel_rfl) (by kernel_rfl) (by kernel_rfl) ⟨h1, h2, trivial⟩ ?_
      refine GoJ.cond (t := true) (by kernel_rfl) (fun _ => ?_) (fun hf => nomatch hf)
      refine GoJ.seq ?_
      refine GoJ.regV hT (cnt := 0) (ins := [o0]) (live := [2]) (ids := []) (σ' := ⟨[(2, (V.e (E.sc (S.dat (D.bool false)))))], [], 38⟩) (obs := []) (by kernel_rfl) (by kernel_rfl) (by kernel_rfl) trivial ?_
      exact GoJ.retV hT func17 (ids := []) (r := (V.e (E.sc (S.dat (D.bool false))))) (r' := (V.e (E.sc (S.dat (D.bool false))))) (σ' := ⟨[], [], 38⟩) (by kernel_rfl) (by kernel_rfl) (by kernel_rfl) (by kernel_rfl) (by kernel_rfl) h
    · replace h := h.2 h2
      refine GoJ.regV hT (cnt := 0) (ins := [o0, o0, o0, ((Or.bool false), 0, 0), o0, o0, o0, o0, ((Or.bool false), 0, 0), o0, o0, o0, o0, o0, o0, o0]) (live := [1, 20]) (ids := [0]) (σ' := ⟨[(1, (V.e (E.sc (S.ptr 0 0)))), (20, (V.e (E.sc (S.dat (D.bool ((a2.length : Int) != a0))))))], [(some (Obj.box [(S.dat (D.int .i64 a0)), (S.dat (D.int .i64 a1)), (S.dat (D.sl a2))]))], 38⟩) (obs := [(decide (a0 < (0 : Int))) = false, (decide (a1 < (0 : Int))) = false]) (by kernel_rfl) (by kernel_rfl) (by kernel_rfl) ⟨h1, h2, trivial⟩ ?_
      refine GoJ.cond (t := ((a2.length : Int) != a0)) (by kernel_rfl) (fun h3 => ?_) (fun h3 => ?_)
      · replace h := h.1 h3
        refine GoJ.seq ?_
        refine GoJ.regV hT (cnt := 0) (ins := [o0]) (live := [2]) (ids := []) (σ' := ⟨[(2, (V.e (E.sc (S.dat (D.bool false)))))], [], 38⟩) (obs := []) (by kernel_rfl) (by kernel_rfl) (by kernel_rfl) trivial ?_
        exact GoJ.retV hT func17 (ids := []) (r := (V.e (E.sc (S.dat (D.bool false))))) (r' := (V.e (E.sc (S.dat (D.bool false))))) (σ' := ⟨[], [], 38⟩) (by kernel_rfl) (by kernel_rfl) (by kernel_rfl) (by kernel_rfl) (by kernel_rfl) h
      · replace h := h.2 h3
        refine GoJ.skip ?_
        refine GoJ.seq ?_
        refine GoJ.seq ?_
        refine GoJ.regV hT (cnt := 0) (ins := [o0, o0, o0, o0]) (live := [1, 22, 23, 24]) (ids := [0]) (σ' := ⟨[(1, (V.e (E.sc (S.ptr 0 0)))), (22, (V.e (E.sc (S.dat (D.sl a2))))), (23, (V.e (E.sc (S.dat (D.int .i64 (a2.length : Int)))))), (24, (V.e (E.sc (S.dat (D.int .i64 (0 : Int))))))], [(some (Obj.box [(S.dat (D.int .i64 a0)), (S.dat (D.int .i64 a1)), (S.dat (D.sl a2))]))], 38⟩) (obs := []) (by kernel_rfl) (by kernel_rfl) (by kernel_rfl) trivial ?_
        refine GoJ.block ?_
        obtain ⟨J0, μ0, hJ0, h⟩ := h
        refine GoJ.loop (X := Int) (fun x => (fun (t24 : Int) => (⟨[(1, (V.e (E.sc (S.ptr 0 0)))), (22, (V.e (E.sc (S.dat (D.sl a2))))), (23, (V.e (E.sc (S.dat (D.int .i64 (a2.length : Int)))))), (24, (V.e (E.sc (S.dat (D.int .i64 t24)))))], [(some (Obj.box [(S.dat (D.int .i64 a0)), (S.dat (D.int .i64 a1)), (S.dat (D.sl a2))]))], 38⟩ : St)) (x)) (fun x => J0 (x)) (fun x => μ0 (x)) ((0 : Int)) hJ0 ?_
        rintro t24 hJ0 ih0
        replace h := h t24 hJ0
        refine GoJ.seq ?_
        refine GoJ.regV hT (cnt := 0) (ins := [o0]) (live := [1, 22, 23, 24, 25]) (ids := [0]) (σ' := ⟨[(1, (V.e (E.sc (S.ptr 0 0)))), (22, (V.e (E.sc (S.dat (D.sl a2))))), (23, (V.e (E.sc (S.dat (D.int .i64 (a2.length : Int)))))), (24, (V.e (E.sc (S.dat (D.int .i64 t24))))), (25, (V.e (E.sc (S.dat (D.bool (decide (t24 < (a2.length : Int))))))))], [(some (Obj.box [(S.dat (D.int .i64 a0)), (S.dat (D.int .i64 a1)), (S.dat (D.sl a2))]))], 38⟩) (obs := []) (by kernel_rfl) (by kernel_rfl) (by kernel_rfl) trivial ?_
        refine GoJ.seq ?_
        refine GoJ.cond (t := (decide (t24 < (a2.length : Int)))) (by kernel_rfl) (fun h4 => ?_) (fun h4 => ?_)
        · replace h := h.1 h4
          refine GoJ.skip ?_
          refine GoJ.seq ?_
          refine GoJ.block ?_
          refine GoJ.seq ?_
          obtain ⟨vx, h5, h6, h⟩ := h
          refine GoJ.regV hT (cnt := 0) (ins := [o0, ((Or.cells [(D.sl vx)]), 0, 0), o0]) (live := [1, 4, 22, 23, 24]) (ids := [0]) (σ' := ⟨[(1, (V.e (E.sc (S.ptr 0 0)))), (4, (V.e (E.sc (S.dat (D.sl vx))))), (22, (V.e (E.sc (S.dat (D.sl a2))))), (23, (V.e (E.sc (S.dat (D.int .i64 (a2.length : Int)))))), (24, (V.e (E.sc (S.dat (D.int .i64 t24)))))], [(some (Obj.box [(S.dat (D.int .i64 a0)), (S.dat (D.int .i64 a1)), (S.dat (D.sl a2))]))], 38⟩) (obs := [0 ≤ t24 ∧ t24 < (a2.length : Int), a2[(t24).toNat]? = some [(D.sl vx)]]) (by kernel_rfl) (by kernel_rfl) (by kernel_rfl) ⟨h5, h6, trivial⟩ ?_
          refine GoJ.seq ?_
          rcases Bool.eq_false_or_eq_true ((vx.length : Int) != a1) with h7 | h7
          · replace h := h.1 h7
            refine GoJ.regV hT (cnt := 0) (ins := [o0, o0, o0, o0, o0, ((Or.bool true), 0, 0), o0, o0, o0]) (live := [1, 22, 23, 24, 36]) (ids := [0]) (σ' := ⟨[(1, (V.e (E.sc (S.ptr 0 0)))), (22, (V.e (E.sc (S.dat (D.sl a2))))), (23, (V.e (E.sc (S.dat (D.int .i64 (a2.length : Int)))))), (24, (V.e (E.sc (S.dat (D.int .i64 t24))))), (36, (V.e (E.sc (S.dat (D.bool true)))))], [(some (Obj.box [(S.dat (D.int .i64 a0)), (S.dat (D.int .i64 a1)), (S.dat (D.sl a2))]))], 38⟩) (obs := [((vx.length : Int) != a1) = true]) (by kernel_rfl) (by kernel_rfl) (by kernel_rfl) ⟨h7, trivial⟩ ?_
            refine GoJ.cond (t := true) (by kernel_rfl) (fun _ => ?_) (fun hf => nomatch hf)
            refine GoJ.seq ?_
            refine GoJ.regV hT (cnt := 0) (ins := [o0]) (live := [2]) (ids := []) (σ' := ⟨[(2, (V.e (E.sc (S.dat (D.bool false)))))], [], 38⟩) (obs := []) (by kernel_rfl) (by kernel_rfl) (by kernel_rfl) trivial ?_
            exact GoJ.retV hT func17 (ids := []) (r := (V.e (E.sc (S.dat (D.bool false))))) (r' := (V.e (E.sc (S.dat (D.bool false))))) (σ' := ⟨[], [], 38⟩) (by kernel_rfl) (by kernel_rfl) (by kernel_rfl) (by kernel_rfl) (by kernel_rfl) h
          · replace h := h.2 h7
            obtain ⟨r, h8, h⟩ := h
            refine GoJ.regV hT (cnt := 0) (ins := [o0, o0, o0, o0, o0, ((Or.bool false), 0, 0), o0, ((Or.call (V.e (E.sc (S.dat (D.bool r)))) [] []), 0, 0), o0]) (live := [1, 22, 23, 24, 36]) (ids := [0]) (σ' := ⟨[(1, (V.e (E.sc (S.ptr 0 0)))), (22, (V.e (E.sc (S.dat (D.sl a2))))), (23, (V.e (E.sc (S.dat (D.int .i64 (a2.length : Int)))))), (24, (V.e (E.sc (S.dat (D.int .i64 t24))))), (36, (V.e (E.sc (S.dat (D.bool r)))))], [(some (Obj.box [(S.dat (D.int .i64 a0)), (S.dat (D.int .i64 a1)), (S.dat (D.sl a2))]))], 38⟩) (obs := [((vx.length : Int) != a1) = false, FnD prog 72 [(V.e (E.sc (S.dat (D.sl vx)))), (V.e (E.sc (S.dat (D.fn (.func 73) ([] : List D)))))] (V.e (E.sc (S.dat (D.bool r)))) []]) (by kernel_rfl) (by kernel_rfl) (by kernel_rfl) ⟨h7, h8, trivial⟩ ?_
            refine GoJ.cond (t := r) (by kernel_rfl) (fun h9 => ?_) (fun h9 => ?_)
            · replace h := h.1 h9
              refine GoJ.seq ?_
              refine GoJ.regV hT (cnt := 0) (ins := [o0]) (live := [2]) (ids := []) (σ' := ⟨[(2, (V.e (E.sc (S.dat (D.bool false)))))], [], 38⟩) (obs := []) (by kernel_rfl) (by kernel_rfl) (by kernel_rfl) trivial ?_
              exact GoJ.retV hT func17 (ids := []) (r := (V.e (E.sc (S.dat (D.bool false))))) (r' := (V.e (E.sc (S.dat (D.bool false))))) (σ' := ⟨[], [], 38⟩) (by kernel_rfl) (by kernel_rfl) (by kernel_rfl) (by kernel_rfl) (by kernel_rfl) h
            · replace h := h.2 h9
              refine GoJ.skip ?_
              refine GoJ.inBlock ?_
              refine GoJ.regV hT (cnt := 0) (ins := [o0, o0]) (live := [1, 22, 23, 24]) (ids := [0]) (σ' := ⟨[(1, (V.e (E.sc (S.ptr 0 0)))), (22, (V.e (E.sc (S.dat (D.sl a2))))), (23, (V.e (E.sc (S.dat (D.int .i64 (a2.length : Int)))))), (24, (V.e (E.sc (S.dat (D.int .i64 (IntKind.i64.wrap (t24 + (1 : Int))))))))], [(some (Obj.box [(S.dat (D.int .i64 a0)), (S.dat (D.int .i64 a1)), (S.dat (D.sl a2))]))], 38⟩) (obs := []) (by kernel_rfl) (by kernel_rfl) (by kernel_rfl) trivial ?_
              exact ih0 ((IntKind.i64.wrap (t24 + (1 : Int)))) h.1 h.2
        · replace h := h.2 h4
          refine GoJ.exit rfl ?_
          refine GoJ.seq ?_
          refine GoJ.regV hT (cnt := 0) (ins := [o0]) (live := [2]) (ids := []) (σ' := ⟨[(2, (V.e (E.sc (S.dat (D.bool true)))))], [], 38⟩) (obs := []) (by kernel_rfl) (by kernel_rfl) (by kernel_rfl) trivial ?_
          exact GoJ.retV hT func17 (ids := []) (r := (V.e (E.sc (S.dat (D.bool true))))) (r' := (V.e (E.sc (S.dat (D.bool true))))) (σ' := ⟨[], [], 38⟩) (by kernel_rfl) (by kernel_rfl) (by kernel_rfl) (by kernel_rfl) (by kernel_rfl) h

/- f89 slices.ContainsFunc[torsion/api.Vec,torsion/api.Int] -/
def vc89 (s : List (List D)) (f : FuncId) (fc : List D) (R : V → Heap → Prop) : Prop :=
  ∃ (r : Int),
  (FnD prog 134 [(V.e (E.sc (S.dat (D.sl s)))), (V.e (E.sc (S.dat (D.fn (.func f) fc))))] (V.e (E.sc (S.dat (D.int .i64 r)))) []) ∧
  (R (V.e (E.sc (S.dat (D.bool (decide (r ≥ (0 : Int))))))) [])

theorem vc89_ok (s : List (List D)) (f : FuncId) (fc : List D) {R : V → Heap → Prop} (h : vc89 s f fc R) : FnG prog 89 [(V.e (E.sc (S.dat (D.sl s)))), (V.e (E.sc (S.dat (D.fn (.func f) fc))))] [] R := by
  unfold vc89 at h
  refine FnG.of (m := 9) (c := _) func89 rfl (by kernel_rfl) ntmps89 (Nat.le_of_ble_eq_true rfl) ?_
  refine GoJ.seq ?_
  refine GoJ.regV hT (cnt := 0) (ins := [o0]) (live := [0, 1]) (ids := []) (σ' := ⟨[(0, (V.e (E.sc (S.dat (D.sl s))))), (1, (V.e (E.sc (S.dat (D.fn (.func f) fc)))))], [], 9⟩) (obs := []) (by kernel_rfl) (by kernel_rfl) (by kernel_rfl) trivial ?_
  refine GoJ.seq ?_
  obtain ⟨r, h1, h⟩ := h
  refine GoJ.regV hT (cnt := 0) (ins := [o0, o0, ((Or.call (V.e (E.sc (S.dat (D.int .i64 r)))) [] []), 0, 0), o0, o0]) (live := [4]) (ids := []) (σ' := ⟨[(4, (V.e (E.sc (S.dat (D.bool (decide (r ≥ (0 : Int))))))))], [], 9⟩) (obs := [FnD prog 134 [(V.e (E.sc (S.dat (D.sl s)))), (V.e (E.sc (S.dat (D.fn (.func f) fc))))] (V.e (E.sc (S.dat (D.int .i64 r)))) []]) (by kernel_rfl) (by kernel_rfl) (by kernel_rfl) ⟨h1, trivial⟩ ?_
  exact GoJ.retV hT func89 (ids := []) (r := (V.e (E.sc (S.dat (D.bool (decide (r ≥ (0 : Int)))))))) (r' := (V.e (E.sc (S.dat (D.bool (decide (r ≥ (0 : Int)))))))) (σ' := ⟨[], [], 9⟩) (by kernel_rfl) (by kernel_rfl) (by kernel_rfl) (by kernel_rfl) (by kernel_rfl) h

/- f134 slices.IndexFunc[torsion/api.Vec,torsion/api.Int] -/
def vc134 (s : List (List D)) (f : FuncId) (fc : List D) (R : V → Heap → Prop) : Prop :=
  ∃ (J0 : Int → Prop) (μ0 : Int → Nat),
  J0 (0 : Int) ∧ ∀ (t8 : Int), J0 t8 →
    ((decide (t8 < (s.length : Int))) = true →
      ∃ (x0 : Bool) (x1 : List (List D)) (r : Bool),
      (0 ≤ t8 ∧ t8 < (s.length : Int)) ∧
      (s[(t8).toNat]? = some [(D.bool x0), (D.sl x1)]) ∧
      (FnD prog f ([(V.e (E.agg [(S.dat (D.bool x0)), (S.dat (D.sl x1))]))] ++ fc.map dV) (V.e (E.sc (S.dat (D.bool r)))) []) ∧
      ((r = true →
        R (V.e (E.sc (S.dat (D.int .i64 t8)))) []) ∧
      (r = false →
        J0 (IntKind.i64.wrap (t8 + (1 : Int))) ∧ μ0 (IntKind.i64.wrap (t8 + (1 : Int))) < μ0 t8))) ∧
    ((decide (t8 < (s.length : Int))) = false →
      R (V.e (E.sc (S.dat (D.int .i64 (-1 : Int))))) [])

theorem vc134_ok (s : List (List D)) (f : FuncId) (fc : List D) {R : V → Heap → Prop} (h : vc134 s f fc R) : FnG prog 134 [(V.e (E.sc (S.dat (D.sl s)))), (V.e (E.sc (S.dat (D.fn (.func f) fc))))] [] R := by
  unfold vc134 at h
  refine FnG.of (m := 19) (c := _) func134 rfl (by kernel_rfl) ntmps134 (Nat.le_of_ble_eq_true rfl) ?_
  refine GoJ.seq ?_
  refine GoJ.regV hT (cnt := 0) (ins := [o0]) (live := [0, 1]) (ids := []) (σ' := ⟨[(0, (V.e (E.sc (S.dat (D.sl s))))), (1, (V.e (E.sc (S.dat (D.fn (.func f) fc)))))], [], 19⟩) (obs := []) (by kernel_rfl) (by kernel_rfl) (by kernel_rfl) trivial ?_
  refine GoJ.seq ?_
  refine GoJ.seq ?_
  refine GoJ.regV hT (cnt := 0) (ins := [o0, o0, o0]) (live := [0, 1, 7, 8]) (ids := []) (σ' := ⟨[(0, (V.e (E.sc (S.dat (D.sl s))))), (1, (V.e (E.sc (S.dat (D.fn (.func f) fc))))), (7, (V.e (E.sc (S.dat (D.int .i64 (s.length : Int)))))), (8, (V.e (E.sc (S.dat (D.int .i64 (0 : Int))))))], [], 19⟩) (obs := []) (by kernel_rfl) (by kernel_rfl) (by kernel_rfl) trivial ?_
  refine GoJ.block ?_
  obtain ⟨J0, μ0, hJ0, h⟩ := h
  refine GoJ.loop (X := Int) (fun x => (fun (t8 : Int) => (⟨[(0, (V.e (E.sc (S.dat (D.sl s))))), (1, (V.e (E.sc (S.dat (D.fn (.func f) fc))))), (7, (V.e (E.sc (S.dat (D.int .i64 (s.length : Int)))))), (8, (V.e (E.sc (S.dat (D.int .i64 t8)))))], [], 19⟩ : St)) (x)) (fun x => J0 (x)) (fun x => μ0 (x)) ((0 : Int)) hJ0 ?_
  rintro t8 hJ0 ih0
  replace h := h t8 hJ0
  refine GoJ.seq ?_
  refine GoJ.regV hT (cnt := 0) (ins := [o0]) (live := [0, 1, 7, 8, 9]) (ids := []) (σ' := ⟨[(0, (V.e (E.sc (S.dat (D.sl s))))), (1, (V.e (E.sc (S.dat (D.fn (.func f) fc))))), (7, (V.e (E.sc (S.dat (D.int .i64 (s.length : Int)))))), (8, (V.e (E.sc (S.dat (D.int .i64 t8))))), (9, (V.e (E.sc (S.dat (D.bool (decide (t8 < (s.length : Int))))))))], [], 19⟩) (obs := []) (by kernel_rfl) (by kernel_rfl) (by kernel_rfl) trivial ?_
  refine GoJ.seq ?_
  refine GoJ.cond (t := (decide (t8 < (s.length : Int)))) (by kernel_rfl) (fun h1 => ?_) (fun h1 => ?_)
  · replace h := h.1 h1
    refine GoJ.skip ?_
    refine GoJ.seq ?_
    refine GoJ.block ?_
    refine GoJ.seq ?_
    refine GoJ.regV hT (cnt := 0) (ins := [o0, o0]) (live := [0, 1, 5, 7, 8]) (ids := []) (σ' := ⟨[(0, (V.e (E.sc (S.dat (D.sl s))))), (1, (V.e (E.sc (S.dat (D.fn (.func f) fc))))), (5, (V.e (E.sc (S.dat (D.int .i64 t8))))), (7, (V.e (E.sc (S.dat (D.int .i64 (s.length : Int)))))), (8, (V.e (E.sc (S.dat (D.int .i64 t8)))))], [], 19⟩) (obs := []) (by kernel_rfl) (by kernel_rfl) (by kernel_rfl) trivial ?_
    refine GoJ.seq ?_
    obtain ⟨x0, x1, r, h2, h3, h4, h⟩ := h
    refine GoJ.regV hT (cnt := 0) (ins := [o0, o0, o0, o0, ((Or.cells [(D.bool x0), (D.sl x1)]), 0, 0), ((Or.call (V.e (E.sc (S.dat (D.bool r)))) [] []), 0, 0)]) (live := [0, 1, 5, 7, 8, 16]) (ids := []) (σ' := ⟨[(0, (V.e (E.sc (S.dat (D.sl s))))), (1, (V.e (E.sc (S.dat (D.fn (.func f) fc))))), (5, (V.e (E.sc (S.dat (D.int .i64 t8))))), (7, (V.e (E.sc (S.dat (D.int .i64 (s.length : Int)))))), (8, (V.e (E.sc (S.dat (D.int .i64 t8))))), (16, (V.e (E.sc (S.dat (D.bool r)))))], [], 19⟩) (obs := [0 ≤ t8 ∧ t8 < (s.length : Int), s[(t8).toNat]? = some [(D.bool x0), (D.sl x1)], FnD prog f ([(V.e (E.agg [(S.dat (D.bool x0)), (S.dat (D.sl x1))]))] ++ fc.map dV) (V.e (E.sc (S.dat (D.bool r)))) []]) (by kernel_rfl) (by kernel_rfl) (by kernel_rfl) ⟨h2, h3, h4, trivial⟩ ?_
    refine GoJ.cond (t := r) (by kernel_rfl) (fun h5 => ?_) (fun h5 => ?_)
    · replace h := h.1 h5
      refine GoJ.seq ?_
      refine GoJ.regV hT (cnt := 0) (ins := [o0, o0]) (live := [4]) (ids := []) (σ' := ⟨[(4, (V.e (E.sc (S.dat (D.int .i64 t8)))))], [], 19⟩) (obs := []) (by kernel_rfl) (by kernel_rfl) (by kernel_rfl) trivial ?_
      exact GoJ.retV hT func134 (ids := []) (r := (V.e (E.sc (S.dat (D.int .i64 t8))))) (r' := (V.e (E.sc (S.dat (D.int .i64 t8))))) (σ' := ⟨[], [], 19⟩) (by kernel_rfl) (by kernel_rfl) (by kernel_rfl) (by kernel_rfl) (by kernel_rfl) h
    · replace h := h.2 h5
      refine GoJ.skip ?_
      refine GoJ.inBlock ?_
      refine GoJ.regV hT (cnt := 0) (ins := [o0, o0]) (live := [0, 1, 7, 8]) (ids := []) (σ' := ⟨[(0, (V.e (E.sc (S.dat (D.sl s))))), (1, (V.e (E.sc (S.dat (D.fn (.func f) fc))))), (7, (V.e (E.sc (S.dat (D.int .i64 (s.length : Int)))))), (8, (V.e (E.sc (S.dat (D.int .i64 (IntKind.i64.wrap (t8 + (1 : Int))))))))], [], 19⟩) (obs := []) (by kernel_rfl) (by kernel_rfl) (by kernel_rfl) trivial ?_
      exact ih0 ((IntKind.i64.wrap (t8 + (1 : Int)))) h.1 h.2
  · replace h := h.2 h1
    refine GoJ.exit rfl ?_
    refine GoJ.seq ?_
    refine GoJ.regV hT (cnt := 0) (ins := [o0]) (live := [4]) (ids := []) (σ' := ⟨[(4, (V.e (E.sc (S.dat (D.int .i64 (-1 : Int))))))], [], 19⟩) (obs := []) (by kernel_rfl) (by kernel_rfl) (by kernel_rfl) trivial ?_
    exact GoJ.retV hT func134 (ids := []) (r := (V.e (E.sc (S.dat (D.int .i64 (-1 : Int)))))) (r' := (V.e (E.sc (S.dat (D.int .i64 (-1 : Int)))))) (σ' := ⟨[], [], 19⟩) (by kernel_rfl) (by kernel_rfl) (by kernel_rfl) (by kernel_rfl) (by kernel_rfl) h

/- f90 torsion/matrix.Zero$1 -/
def vc90 (x0 : Bool) (x1 : List (List D)) (R : V → Heap → Prop) : Prop :=
  ∃ (r : Int),
  (FnD prog 91 [(V.e (E.agg [(S.dat (D.bool x0)), (S.dat (D.sl x1))]))] (V.e (E.sc (S.dat (D.int .i64 r)))) []) ∧
  (R (V.e (E.sc (S.dat (D.bool (r != (0 : Int)))))) [])

theorem vc90_ok (x0 : Bool) (x1 : List (List D)) {R : V → Heap → Prop} (h : vc90 x0 x1 R) : FnG prog 90 [(V.e (E.agg [(S.dat (D.bool x0)), (S.dat (D.sl x1))]))] [] R := by
  unfold vc90 at h
  refine FnG.of (m := 6) (c := _) func90 rfl (by kernel_rfl) ntmps90 (Nat.le_of_ble_eq_true rfl) ?_
  refine GoJ.seq ?_
  refine GoJ.regV hT (cnt := 1) (ins := [(Or.none, 0, 1), o0]) (live := [1]) (ids := [0]) (σ' := ⟨[(1, (V.e (E.sc (S.ptr 0 0))))], [(some (Obj.box [(S.dat (D.bool x0)), (S.dat (D.sl x1))]))], 6⟩) (obs := []) (by kernel_rfl) (by kernel_rfl) (by kernel_rfl) trivial ?_
  refine GoJ.seq ?_
  obtain ⟨r, h1, h⟩ := h
  refine GoJ.regV hT (cnt := 0) (ins := [o0, ((Or.call (V.e (E.sc (S.dat (D.int .i64 r)))) [] []), 0, 0), o0, o0]) (live := [2]) (ids := []) (σ' := ⟨[(2, (V.e (E.sc (S.dat (D.bool (r != (0 : Int)))))))], [], 6⟩) (obs := [FnD prog 91 [(V.e (E.agg [(S.dat (D.bool x0)), (S.dat (D.sl x1))]))] (V.e (E.sc (S.dat (D.int .i64 r)))) []]) (by kernel_rfl) (by kernel_rfl) (by kernel_rfl) ⟨h1, trivial⟩ ?_
  exact GoJ.retV hT func90 (ids := []) (r := (V.e (E.sc (S.dat (D.bool (r != (0 : Int))))))) (r' := (V.e (E.sc (S.dat (D.bool (r != (0 : Int))))))) (σ' := ⟨[], [], 6⟩) (by kernel_rfl) (by kernel_rfl) (by kernel_rfl) (by kernel_rfl) (by kernel_rfl) h

/- f41 torsion/matrix.Zero -/
def vc41 (v : List (List D)) (R : V → Heap → Prop) : Prop :=
  ∃ (r : Bool),
  (FnD prog 89 [(V.e (E.sc (S.dat (D.sl v)))), (V.e (E.sc (S.dat (D.fn (.func 90) ([] : List D)))))] (V.e (E.sc (S.dat (D.bool r)))) []) ∧
  (R (V.e (E.sc (S.dat (D.bool (!r))))) [])

theorem vc41_ok (v : List (List D)) {R : V → Heap → Prop} (h : vc41 v R) : FnG prog 41 [(V.e (E.sc (S.dat (D.sl v))))] [] R := by
  unfold vc41 at h
  refine FnG.of (m := 6) (c := _) func41 rfl (by kernel_rfl) ntmps41 (Nat.le_of_ble_eq_true rfl) ?_
  refine GoJ.seq ?_
  refine GoJ.regV hT (cnt := 0) (ins := [o0]) (live := [0]) (ids := []) (σ' := ⟨[(0, (V.e (E.sc (S.dat (D.sl v)))))], [], 6⟩) (obs := []) (by kernel_rfl) (by kernel_rfl) (by kernel_rfl) trivial ?_
  refine GoJ.seq ?_
  obtain ⟨r, h1, h⟩ := h
  refine GoJ.regV hT (cnt := 0) (ins := [o0, ((Or.call (V.e (E.sc (S.dat (D.bool r)))) [] []), 0, 0), o0, o0]) (live := [2]) (ids := []) (σ' := ⟨[(2, (V.e (E.sc (S.dat (D.bool (!r))))))], [], 6⟩) (obs := [FnD prog 89 [(V.e (E.sc (S.dat (D.sl v)))), (V.e (E.sc (S.dat (D.fn (.func 90) ([] : List D)))))] (V.e (E.sc (S.dat (D.bool r)))) []]) (by kernel_rfl) (by kernel_rfl) (by kernel_rfl) ⟨h1, trivial⟩ ?_
  exact GoJ.retV hT func41 (ids := []) (r := (V.e (E.sc (S.dat (D.bool (!r)))))) (r' := (V.e (E.sc (S.dat (D.bool (!r)))))) (σ' := ⟨[], [], 6⟩) (by kernel_rfl) (by kernel_rfl) (by kernel_rfl) (by kernel_rfl) (by kernel_rfl) h

end Go.AM
