/- What functions of the program come to: group R5. Printed by vc.py. -/
import Derived.Test.YtbodjgljjaafaaaVcTab

set_option maxRecDepth 100000
set_option linter.unusedVariables false

namespace Go.AM
open Go.Proofs.Try

/- f33 torsion/torsionref05.New -/
def vc33 (rows : Int) (cols : Int) (R : V → Heap → Prop) : Prop :=
  ∃ (J0 : (List (List (List D))) → Int → Prop) (μ0 : (List (List (List D))) → Int → Nat),
  J0 ([] : List (List (List D))) (0 : Int) ∧ ∀ (a : List (List (List D))) (i : Int), J0 a i →
    ((decide (i < rows)) = true →
      (0 ≤ cols ∧ cols ≤ cols ∧ cols * (32 : Nat) ≤ 281474976710656) ∧
      ((a.length + ([(List.replicate (cols).toNat [(D.bool false), (D.sl ([] : List (List D)))])] : List (List (List D))).length) * 24 ≤ 140737488355328) ∧
      (J0 (a ++ [(List.replicate (cols).toNat [(D.bool false), (D.sl ([] : List (List D)))])]) (IntKind.i64.wrap (i + (1 : Int))) ∧ μ0 (a ++ [(List.replicate (cols).toNat [(D.bool false), (D.sl ([] : List (List D)))])]) (IntKind.i64.wrap (i + (1 : Int))) < μ0 a i)) ∧
    ((decide (i < rows)) = false →
      R (V.e (E.agg [(S.dat (D.int .i64 rows)), (S.dat (D.int .i64 cols)), (S.ref 0)])) [(some (Obj.mat 2 a))])

theorem vc33_ok (rows : Int) (cols : Int) {R : V → Heap → Prop} (h : vc33 rows cols R) : FnG prog 33 [(V.e (E.sc (S.dat (D.int .i64 rows)))), (V.e (E.sc (S.dat (D.int .i64 cols))))] [] R := by
  unfold vc33 at h
  refine FnG.of (m := 22) (c := _) func33 rfl (by kernel_rfl) ntmps33 (Nat.le_of_ble_eq_true rfl) ?_
  refine GoJ.seq ?_
  refine GoJ.regV hT (cnt := 1) (ins := [(Or.none, 0, 1)]) (live := [0, 1, 4]) (ids := [0]) (σ' := ⟨[(0, (V.e (E.sc (S.dat (D.int .i64 rows))))), (1, (V.e (E.sc (S.dat (D.int .i64 cols))))), (4, (V.e (E.sc (S.ptr 0 0))))], [(some (Obj.box [(S.dat (D.int .i64 (0 : Int))), (S.dat (D.int .i64 (0 : Int))), (S.dat (D.raw (.slice none 0 0)))]))], 22⟩) (obs := []) (by kernel_rfl) (by kernel_rfl) (by kernel_rfl) trivial ?_
  refine GoJ.seq ?_
  refine GoJ.regV hT (cnt := 1) (ins := [((Or.bool true), 1, 1), o0]) (live := [0, 1, 4, 5]) (ids := [0, 1]) (σ' := ⟨[(0, (V.e (E.sc (S.dat (D.int .i64 rows))))), (1, (V.e (E.sc (S.dat (D.int .i64 cols))))), (4, (V.e (E.sc (S.ptr 0 0)))), (5, (V.e (E.sc (S.ref 1))))], [(some (Obj.box [(S.dat (D.int .i64 (0 : Int))), (S.dat (D.int .i64 (0 : Int))), (S.dat (D.raw (.slice none 0 0)))])), (some (Obj.mat 2 ([] : List (List (List D)))))], 22⟩) (obs := []) (by kernel_rfl) (by kernel_rfl) (by kernel_rfl) trivial ?_
  refine GoJ.seq ?_
  refine GoJ.seq ?_
  refine GoJ.regV hT (cnt := 0) (ins := [o0]) (live := [0, 1, 4, 5, 6]) (ids := [0, 1]) (σ' := ⟨[(0, (V.e (E.sc (S.dat (D.int .i64 rows))))), (1, (V.e (E.sc (S.dat (D.int .i64 cols))))), (4, (V.e (E.sc (S.ptr 0 0)))), (5, (V.e (E.sc (S.ref 1)))), (6, (V.e (E.sc (S.dat (D.int .i64 (0 : Int))))))], [(some (Obj.box [(S.dat (D.int .i64 (0 : Int))), (S.dat (D.int .i64 (0 : Int))), (S.dat (D.raw (.slice none 0 0)))])), (some (Obj.mat 2 ([] : List (List (List D)))))], 22⟩) (obs := []) (by kernel_rfl) (by kernel_rfl) (by kernel_rfl) trivial ?_
  refine GoJ.block ?_
  obtain ⟨J0, μ0, hJ0, h⟩ := h
  refine GoJ.loop (X := (List (List (List D))) × Int) (fun x => (fun (a : List (List (List D))) (i : Int) => (⟨[(0, (V.e (E.sc (S.dat (D.int .i64 rows))))), (1, (V.e (E.sc (S.dat (D.int .i64 cols))))), (4, (V.e (E.sc (S.ptr 0 0)))), (5, (V.e (E.sc (S.ref 1)))), (6, (V.e (E.sc (S.dat (D.int .i64 i)))))], [(some (Obj.box [(S.dat (D.int .i64 (0 : Int))), (S.dat (D.int .i64 (0 : Int))), (S.dat (D.raw (.slice none 0 0)))])), (some (Obj.mat 2 a))], 22⟩ : St)) (x.1) (x.2)) (fun x => J0 (x.1) (x.2)) (fun x => μ0 (x.1) (x.2)) (([] : List (List (List D))), (0 : Int)) hJ0 ?_
  rintro ⟨a, i⟩ hJ0 ih0
  replace h := h a i hJ0
  refine GoJ.seq ?_
  refine GoJ.seq ?_
  refine GoJ.regV hT (cnt := 0) (ins := [o0, o0, o0]) (live := [0, 1, 4, 5, 6, 10]) (ids := [0, 1]) (σ' := ⟨[(0, (V.e (E.sc (S.dat (D.int .i64 rows))))), (1, (V.e (E.sc (S.dat (D.int .i64 cols))))), (4, (V.e (E.sc (S.ptr 0 0)))), (5, (V.e (E.sc (S.ref 1)))), (6, (V.e (E.sc (S.dat (D.int .i64 i))))), (10, (V.e (E.sc (S.dat (D.bool (decide (i < rows)))))))], [(some (Obj.box [(S.dat (D.int .i64 (0 : Int))), (S.dat (D.int .i64 (0 : Int))), (S.dat (D.raw (.slice none 0 0)))])), (some (Obj.mat 2 a))], 22⟩) (obs := []) (by kernel_rfl) (by kernel_rfl) (by kernel_rfl) trivial ?_
  refine GoJ.cond (t := (decide (i < rows))) (by kernel_rfl) (fun h1 => ?_) (fun h1 => ?_)
  · replace h := h.1 h1
    refine GoJ.skip ?_
    refine GoJ.seq ?_
    refine GoJ.block ?_
    obtain ⟨h2, h3, h⟩ := h
    refine GoJ.regV hT (cnt := 3) (ins := [o0, o0, (Or.none, 2, 1), ((Or.bool true), 3, 1), (Or.none, 4, 1), o0]) (live := [0, 1, 4, 5, 6]) (ids := [0, 4]) (σ' := ⟨[(0, (V.e (E.sc (S.dat (D.int .i64 rows))))), (1, (V.e (E.sc (S.dat (D.int .i64 cols))))), (4, (V.e (E.sc (S.ptr 0 0)))), (5, (V.e (E.sc (S.ref 1)))), (6, (V.e (E.sc (S.dat (D.int .i64 i)))))], [(some (Obj.box [(S.dat (D.int .i64 (0 : Int))), (S.dat (D.int .i64 (0 : Int))), (S.dat (D.raw (.slice none 0 0)))])), (some (Obj.mat 2 (a ++ [(List.replicate (cols).toNat [(D.bool false), (D.sl ([] : List (List D)))])])))], 22⟩) (obs := [0 ≤ cols ∧ cols ≤ cols ∧ cols * (32 : Nat) ≤ 281474976710656, (a.length + ([(List.replicate (cols).toNat [(D.bool false), (D.sl ([] : List (List D)))])] : List (List (List D))).length) * 24 ≤ 140737488355328]) (by kernel_rfl) (by kernel_rfl) (by kernel_rfl) ⟨h2, h3, trivial⟩ ?_
    refine GoJ.inBlock ?_
    refine GoJ.regV hT (cnt := 0) (ins := [o0, o0, o0]) (live := [0, 1, 4, 5, 6]) (ids := [0, 1]) (σ' := ⟨[(0, (V.e (E.sc (S.dat (D.int .i64 rows))))), (1, (V.e (E.sc (S.dat (D.int .i64 cols))))), (4, (V.e (E.sc (S.ptr 0 0)))), (5, (V.e (E.sc (S.ref 1)))), (6, (V.e (E.sc (S.dat (D.int .i64 (IntKind.i64.wrap (i + (1 : Int))))))))], [(some (Obj.box [(S.dat (D.int .i64 (0 : Int))), (S.dat (D.int .i64 (0 : Int))), (S.dat (D.raw (.slice none 0 0)))])), (some (Obj.mat 2 (a ++ [(List.replicate (cols).toNat [(D.bool false), (D.sl ([] : List (List D)))])])))], 22⟩) (obs := []) (by kernel_rfl) (by kernel_rfl) (by kernel_rfl) trivial ?_
    exact ih0 ((a ++ [(List.replicate (cols).toNat [(D.bool false), (D.sl ([] : List (List D)))])]), (IntKind.i64.wrap (i + (1 : Int)))) h.1 h.2
  · replace h := h.2 h1
    refine GoJ.exit rfl ?_
    refine GoJ.seq ?_
    refine GoJ.regV hT (cnt := 0) (ins := [o0, o0, o0, o0, o0]) (live := [4]) (ids := [0, 1]) (σ' := ⟨[(4, (V.e (E.sc (S.ptr 0 0))))], [(some (Obj.box [(S.dat (D.int .i64 rows)), (S.dat (D.int .i64 cols)), (S.ref 1)])), (some (Obj.mat 2 a))], 22⟩) (obs := []) (by kernel_rfl) (by kernel_rfl) (by kernel_rfl) trivial ?_
    exact GoJ.retV hT func33 (ids := [1]) (r := (V.e (E.agg [(S.dat (D.int .i64 rows)), (S.dat (D.int .i64 cols)), (S.ref 1)]))) (r' := (V.e (E.agg [(S.dat (D.int .i64 rows)), (S.dat (D.int .i64 cols)), (S.ref 0)]))) (σ' := ⟨[], [(some (Obj.mat 2 a))], 22⟩) (by kernel_rfl) (by kernel_rfl) (by kernel_rfl) (by kernel_rfl) (by kernel_rfl) h

/- f49 torsion/torsionref05.Identity -/
def vc49 (n : Int) (R : V → Heap → Prop) : Prop :=
  ∃ (r0 : Int) (r1 : Int) (rrows : List (List (List D))),
  (FnD prog 33 [(V.e (E.sc (S.dat (D.int .i64 n)))), (V.e (E.sc (S.dat (D.int .i64 n))))] (V.e (E.agg [(S.dat (D.int .i64 r0)), (S.dat (D.int .i64 r1)), (S.ref 0)])) [(some (Obj.mat 2 rrows))]) ∧
  (∃ (J0 : (List (List (List D))) → Int → Prop) (μ0 : (List (List (List D))) → Int → Nat),
  J0 rrows (0 : Int) ∧ ∀ (o2 : List (List (List D))) (i : Int), J0 o2 i →
    ((decide (i < n)) = true →
      ∃ (r01 : Bool) (r11 : List (List D)),
      (0 ≤ i ∧ i < (o2.length : Int)) ∧
      (FnD prog 16 [(V.e (E.sc (S.dat (D.int .i64 (1 : Int)))))] (V.e (E.agg [(S.dat (D.bool r01)), (S.dat (D.sl r11))])) []) ∧
      (∃ l, o2[(i).toNat]? = some l ∧ 0 ≤ i ∧ i < (l.length : Int)) ∧
      (J0 (o2.modify (i).toNat (fun r => r.set (i).toNat [(D.bool r01), (D.sl r11)])) (IntKind.i64.wrap (i + (1 : Int))) ∧ μ0 (o2.modify (i).toNat (fun r => r.set (i).toNat [(D.bool r01), (D.sl r11)])) (IntKind.i64.wrap (i + (1 : Int))) < μ0 o2 i)) ∧
    ((decide (i < n)) = false →
      R (V.e (E.agg [(S.dat (D.int .i64 r0)), (S.dat (D.int .i64 r1)), (S.ref 0)])) [(some (Obj.mat 2 o2))]))

theorem vc49_ok (n : Int) {R : V → Heap → Prop} (h : vc49 n R) : FnG prog 49 [(V.e (E.sc (S.dat (D.int .i64 n))))] [] R := by
  unfold vc49 at h
  refine FnG.of (m := 22) (c := _) func49 rfl (by kernel_rfl) ntmps49 (Nat.le_of_ble_eq_true rfl) ?_
  refine GoJ.seq ?_
  refine GoJ.regV hT (cnt := 1) (ins := [(Or.none, 0, 1)]) (live := [0, 2]) (ids := [0]) (σ' := ⟨[(0, (V.e (E.sc (S.dat (D.int .i64 n))))), (2, (V.e (E.sc (S.ptr 0 0))))], [(some (Obj.box [(S.dat (D.int .i64 (0 : Int))), (S.dat (D.int .i64 (0 : Int))), (S.dat (D.raw (.slice none 0 0)))]))], 22⟩) (obs := []) (by kernel_rfl) (by kernel_rfl) (by kernel_rfl) trivial ?_
  refine GoJ.seq ?_
  obtain ⟨r0, r1, rrows, h1, h⟩ := h
  refine GoJ.regV hT (cnt := 2) (ins := [o0, o0, ((Or.call (V.e (E.agg [(S.dat (D.int .i64 r0)), (S.dat (D.int .i64 r1)), (S.ref 0)])) [(some (Obj.mat 2 rrows))] []), 1, 1), (Or.none, 2, 1), o0]) (live := [0, 2, 3]) (ids := [0, 2, 1]) (σ' := ⟨[(0, (V.e (E.sc (S.dat (D.int .i64 n))))), (2, (V.e (E.sc (S.ptr 0 0)))), (3, (V.e (E.sc (S.ptr 1 0))))], [(some (Obj.box [(S.dat (D.int .i64 (0 : Int))), (S.dat (D.int .i64 (0 : Int))), (S.dat (D.raw (.slice none 0 0)))])), (some (Obj.box [(S.dat (D.int .i64 r0)), (S.dat (D.int .i64 r1)), (S.ref 2)])), (some (Obj.mat 2 rrows))], 22⟩) (obs := [FnD prog 33 [(V.e (E.sc (S.dat (D.int .i64 n)))), (V.e (E.sc (S.dat (D.int .i64 n))))] (V.e (E.agg [(S.dat (D.int .i64 r0)), (S.dat (D.int .i64 r1)), (S.ref 0)])) [(some (Obj.mat 2 rrows))]]) (by kernel_rfl) (by kernel_rfl) (by kernel_rfl) ⟨h1, trivial⟩ ?_
  refine GoJ.seq ?_
  refine GoJ.seq ?_
  refine GoJ.regV hT (cnt := 0) (ins := [o0]) (live := [0, 2, 3, 4]) (ids := [0, 1, 2]) (σ' := ⟨[(0, (V.e (E.sc (S.dat (D.int .i64 n))))), (2, (V.e (E.sc (S.ptr 0 0)))), (3, (V.e (E.sc (S.ptr 1 0)))), (4, (V.e (E.sc (S.dat (D.int .i64 (0 : Int))))))], [(some (Obj.box [(S.dat (D.int .i64 (0 : Int))), (S.dat (D.int .i64 (0 : Int))), (S.dat (D.raw (.slice none 0 0)))])), (some (Obj.box [(S.dat (D.int .i64 r0)), (S.dat (D.int .i64 r1)), (S.ref 2)])), (some (Obj.mat 2 rrows))], 22⟩) (obs := []) (by kernel_rfl) (by kernel_rfl) (by kernel_rfl) trivial ?_
  refine GoJ.block ?_
  obtain ⟨J0, μ0, hJ0, h⟩ := h
  refine GoJ.loop (X := (List (List (List D))) × Int) (fun x => (fun (o2 : List (List (List D))) (i : Int) => (⟨[(0, (V.e (E.sc (S.dat (D.int .i64 n))))), (2, (V.e (E.sc (S.ptr 0 0)))), (3, (V.e (E.sc (S.ptr 1 0)))), (4, (V.e (E.sc (S.dat (D.int .i64 i)))))], [(some (Obj.box [(S.dat (D.int .i64 (0 : Int))), (S.dat (D.int .i64 (0 : Int))), (S.dat (D.raw (.slice none 0 0)))])), (some (Obj.box [(S.dat (D.int .i64 r0)), (S.dat (D.int .i64 r1)), (S.ref 2)])), (some (Obj.mat 2 o2))], 22⟩ : St)) (x.1) (x.2)) (fun x => J0 (x.1) (x.2)) (fun x => μ0 (x.1) (x.2)) (rrows, (0 : Int)) hJ0 ?_
  rintro ⟨o2, i⟩ hJ0 ih0
  replace h := h o2 i hJ0
  refine GoJ.seq ?_
  refine GoJ.seq ?_
  refine GoJ.regV hT (cnt := 0) (ins := [o0, o0, o0]) (live := [0, 2, 3, 4, 10]) (ids := [0, 1, 2]) (σ' := ⟨[(0, (V.e (E.sc (S.dat (D.int .i64 n))))), (2, (V.e (E.sc (S.ptr 0 0)))), (3, (V.e (E.sc (S.ptr 1 0)))), (4, (V.e (E.sc (S.dat (D.int .i64 i))))), (10, (V.e (E.sc (S.dat (D.bool (decide (i < n)))))))], [(some (Obj.box [(S.dat (D.int .i64 (0 : Int))), (S.dat (D.int .i64 (0 : Int))), (S.dat (D.raw (.slice none 0 0)))])), (some (Obj.box [(S.dat (D.int .i64 r0)), (S.dat (D.int .i64 r1)), (S.ref 2)])), (some (Obj.mat 2 o2))], 22⟩) (obs := []) (by kernel_rfl) (by kernel_rfl) (by kernel_rfl) trivial ?_
  refine GoJ.cond (t := (decide (i < n))) (by kernel_rfl) (fun h2 => ?_) (fun h2 => ?_)
  · replace h := h.1 h2
    refine GoJ.skip ?_
    refine GoJ.seq ?_
    refine GoJ.block ?_
    obtain ⟨r01, r11, h3, h4, h5, h⟩ := h
    refine GoJ.drawV hmix hT (cnt := 0) (ins := [⟨Or.none, 0, 0, [], [3], [], []⟩, ⟨Or.none, 0, 0, [0], [13], [], []⟩, ⟨Or.none, 0, 0, [], [4], [], []⟩, ⟨Or.none, 0, 0, [0, 1, 2], [14, 15], [], []⟩, ⟨Or.none, 0, 0, [0, 1, 2, 3], [16], [], []⟩, ⟨Or.none, 0, 0, [], [4], [], []⟩, ⟨(Or.call (V.e (E.agg [(S.dat (D.bool r01)), (S.dat (D.sl r11))])) [] []), 0, 0, [], [], [], []⟩, ⟨Or.none, 0, 0, [0, 1, 2, 3, 4, 5, 6], [17, 18], [], []⟩, ⟨Or.none, 0, 0, [0, 1, 2, 3, 4, 5, 6, 7], [19, 20], [2], []⟩]) (live := [0, 2, 3, 4]) (ids := [0, 1, 2]) (σ' := ⟨[(0, (V.e (E.sc (S.dat (D.int .i64 n))))), (2, (V.e (E.sc (S.ptr 0 0)))), (3, (V.e (E.sc (S.ptr 1 0)))), (4, (V.e (E.sc (S.dat (D.int .i64 i)))))], [(some (Obj.box [(S.dat (D.int .i64 (0 : Int))), (S.dat (D.int .i64 (0 : Int))), (S.dat (D.raw (.slice none 0 0)))])), (some (Obj.box [(S.dat (D.int .i64 r0)), (S.dat (D.int .i64 r1)), (S.ref 2)])), (some (Obj.mat 2 (o2.modify (i).toNat (fun r => r.set (i).toNat [(D.bool r01), (D.sl r11)]))))], 22⟩) (obs := [0 ≤ i ∧ i < (o2.length : Int), FnD prog 16 [(V.e (E.sc (S.dat (D.int .i64 (1 : Int)))))] (V.e (E.agg [(S.dat (D.bool r01)), (S.dat (D.sl r11))])) [], ∃ l, o2[(i).toNat]? = some l ∧ 0 ≤ i ∧ i < (l.length : Int)]) (by kernel_rfl) (by kernel_rfl) (by kernel_rfl) ⟨h3, h4, h5, trivial⟩ ?_
    refine GoJ.inBlock ?_
    refine GoJ.regV hT (cnt := 0) (ins := [o0, o0, o0]) (live := [0, 2, 3, 4]) (ids := [0, 1, 2]) (σ' := ⟨[(0, (V.e (E.sc (S.dat (D.int .i64 n))))), (2, (V.e (E.sc (S.ptr 0 0)))), (3, (V.e (E.sc (S.ptr 1 0)))), (4, (V.e (E.sc (S.dat (D.int .i64 (IntKind.i64.wrap (i + (1 : Int))))))))], [(some (Obj.box [(S.dat (D.int .i64 (0 : Int))), (S.dat (D.int .i64 (0 : Int))), (S.dat (D.raw (.slice none 0 0)))])), (some (Obj.box [(S.dat (D.int .i64 r0)), (S.dat (D.int .i64 r1)), (S.ref 2)])), (some (Obj.mat 2 (o2.modify (i).toNat (fun r => r.set (i).toNat [(D.bool r01), (D.sl r11)]))))], 22⟩) (obs := []) (by kernel_rfl) (by kernel_rfl) (by kernel_rfl) trivial ?_
    exact ih0 ((o2.modify (i).toNat (fun r => r.set (i).toNat [(D.bool r01), (D.sl r11)])), (IntKind.i64.wrap (i + (1 : Int)))) h.1 h.2
  · replace h := h.2 h2
    refine GoJ.exit rfl ?_
    refine GoJ.seq ?_
    refine GoJ.regV hT (cnt := 0) (ins := [o0, o0]) (live := [2]) (ids := [0, 2]) (σ' := ⟨[(2, (V.e (E.sc (S.ptr 0 0))))], [(some (Obj.box [(S.dat (D.int .i64 r0)), (S.dat (D.int .i64 r1)), (S.ref 1)])), (some (Obj.mat 2 o2))], 22⟩) (obs := []) (by kernel_rfl) (by kernel_rfl) (by kernel_rfl) trivial ?_
    exact GoJ.retV hT func49 (ids := [1]) (r := (V.e (E.agg [(S.dat (D.int .i64 r0)), (S.dat (D.int .i64 r1)), (S.ref 1)]))) (r' := (V.e (E.agg [(S.dat (D.int .i64 r0)), (S.dat (D.int .i64 r1)), (S.ref 0)]))) (σ' := ⟨[], [(some (Obj.mat 2 o2))], 22⟩) (by kernel_rfl) (by kernel_rfl) (by kernel_rfl) (by kernel_rfl) (by kernel_rfl) h

/- f75 torsion/torsionref05.ValidVec -/
def vc75 (v : List (List D)) (R : V → Heap → Prop) : Prop :=
  ∃ (J0 : Int → Prop) (μ0 : Int → Nat),
  J0 (0 : Int) ∧ ∀ (i : Int), J0 i →
    ((decide (i < (v.length : Int))) = true →
      ∃ (x0 : Bool) (x1 : List (List D)) (r : Bool),
      (0 ≤ i ∧ i < (v.length : Int)) ∧
      (v[(i).toNat]? = some [(D.bool x0), (D.sl x1)]) ∧
      (FnD prog 127 [(V.e (E.agg [(S.dat (D.bool x0)), (S.dat (D.sl x1))]))] (V.e (E.sc (S.dat (D.bool r)))) []) ∧
      (((!r) = true →
        R (V.e (E.sc (S.dat (D.bool false)))) []) ∧
      ((!r) = false →
        J0 (IntKind.i64.wrap (i + (1 : Int))) ∧ μ0 (IntKind.i64.wrap (i + (1 : Int))) < μ0 i))) ∧
    ((decide (i < (v.length : Int))) = false →
      R (V.e (E.sc (S.dat (D.bool true)))) [])

theorem vc75_ok (v : List (List D)) {R : V → Heap → Prop} (h : vc75 v R) : FnG prog 75 [(V.e (E.sc (S.dat (D.sl v))))] [] R := by
  unfold vc75 at h
  refine FnG.of (m := 16) (c := _) func75 rfl (by kernel_rfl) ntmps75 (Nat.le_of_ble_eq_true rfl) ?_
  refine GoJ.seq ?_
  refine GoJ.regV hT (cnt := 0) (ins := [o0]) (live := [0]) (ids := []) (σ' := ⟨[(0, (V.e (E.sc (S.dat (D.sl v)))))], [], 16⟩) (obs := []) (by kernel_rfl) (by kernel_rfl) (by kernel_rfl) trivial ?_
  refine GoJ.seq ?_
  refine GoJ.seq ?_
  refine GoJ.regV hT (cnt := 0) (ins := [o0]) (live := [0, 3]) (ids := []) (σ' := ⟨[(0, (V.e (E.sc (S.dat (D.sl v))))), (3, (V.e (E.sc (S.dat (D.int .i64 (0 : Int))))))], [], 16⟩) (obs := []) (by kernel_rfl) (by kernel_rfl) (by kernel_rfl) trivial ?_
  refine GoJ.block ?_
  obtain ⟨J0, μ0, hJ0, h⟩ := h
  refine GoJ.loop (X := Int) (fun x => (fun (i : Int) => (⟨[(0, (V.e (E.sc (S.dat (D.sl v))))), (3, (V.e (E.sc (S.dat (D.int .i64 i)))))], [], 16⟩ : St)) (x)) (fun x => J0 (x)) (fun x => μ0 (x)) ((0 : Int)) hJ0 ?_
  rintro i hJ0 ih0
  replace h := h i hJ0
  refine GoJ.seq ?_
  refine GoJ.seq ?_
  refine GoJ.regV hT (cnt := 0) (ins := [o0, o0, o0, o0]) (live := [0, 3, 7]) (ids := []) (σ' := ⟨[(0, (V.e (E.sc (S.dat (D.sl v))))), (3, (V.e (E.sc (S.dat (D.int .i64 i))))), (7, (V.e (E.sc (S.dat (D.bool (decide (i < (v.length : Int))))))))], [], 16⟩) (obs := []) (by kernel_rfl) (by kernel_rfl) (by kernel_rfl) trivial ?_
  refine GoJ.cond (t := (decide (i < (v.length : Int)))) (by kernel_rfl) (fun h1 => ?_) (fun h1 => ?_)
  · replace h := h.1 h1
    refine GoJ.skip ?_
    refine GoJ.seq ?_
    refine GoJ.block ?_
    refine GoJ.seq ?_
    obtain ⟨x0, x1, r, h2, h3, h4, h⟩ := h
    refine GoJ.regV hT (cnt := 0) (ins := [o0, o0, o0, ((Or.cells [(D.bool x0), (D.sl x1)]), 0, 0), ((Or.call (V.e (E.sc (S.dat (D.bool r)))) [] []), 0, 0), o0]) (live := [0, 3, 15]) (ids := []) (σ' := ⟨[(0, (V.e (E.sc (S.dat (D.sl v))))), (3, (V.e (E.sc (S.dat (D.int .i64 i))))), (15, (V.e (E.sc (S.dat (D.bool (!r))))))], [], 16⟩) (obs := [0 ≤ i ∧ i < (v.length : Int), v[(i).toNat]? = some [(D.bool x0), (D.sl x1)], FnD prog 127 [(V.e (E.agg [(S.dat (D.bool x0)), (S.dat (D.sl x1))]))] (V.e (E.sc (S.dat (D.bool r)))) []]) (by kernel_rfl) (by kernel_rfl) (by kernel_rfl) ⟨h2, h3, h4, trivial⟩ ?_
    refine GoJ.cond (t := (!r)) (by kernel_rfl) (fun h5 => ?_) (fun h5 => ?_)
    · replace h := h.1 h5
      refine GoJ.seq ?_
      refine GoJ.regV hT (cnt := 0) (ins := [o0]) (live := [2]) (ids := []) (σ' := ⟨[(2, (V.e (E.sc (S.dat (D.bool false)))))], [], 16⟩) (obs := []) (by kernel_rfl) (by kernel_rfl) (by kernel_rfl) trivial ?_
      exact GoJ.retV hT func75 (ids := []) (r := (V.e (E.sc (S.dat (D.bool false))))) (r' := (V.e (E.sc (S.dat (D.bool false))))) (σ' := ⟨[], [], 16⟩) (by kernel_rfl) (by kernel_rfl) (by kernel_rfl) (by kernel_rfl) (by kernel_rfl) h
    · replace h := h.2 h5
      refine GoJ.skip ?_
      refine GoJ.inBlock ?_
      refine GoJ.regV hT (cnt := 0) (ins := [o0, o0, o0]) (live := [0, 3]) (ids := []) (σ' := ⟨[(0, (V.e (E.sc (S.dat (D.sl v))))), (3, (V.e (E.sc (S.dat (D.int .i64 (IntKind.i64.wrap (i + (1 : Int))))))))], [], 16⟩) (obs := []) (by kernel_rfl) (by kernel_rfl) (by kernel_rfl) trivial ?_
      exact ih0 ((IntKind.i64.wrap (i + (1 : Int)))) h.1 h.2
  · replace h := h.2 h1
    refine GoJ.exit rfl ?_
    refine GoJ.seq ?_
    refine GoJ.regV hT (cnt := 0) (ins := [o0]) (live := [2]) (ids := []) (σ' := ⟨[(2, (V.e (E.sc (S.dat (D.bool true)))))], [], 16⟩) (obs := []) (by kernel_rfl) (by kernel_rfl) (by kernel_rfl) trivial ?_
    exact GoJ.retV hT func75 (ids := []) (r := (V.e (E.sc (S.dat (D.bool true))))) (r' := (V.e (E.sc (S.dat (D.bool true))))) (σ' := ⟨[], [], 16⟩) (by kernel_rfl) (by kernel_rfl) (by kernel_rfl) (by kernel_rfl) (by kernel_rfl) h

/- f18 torsion/torsionref05.Valid -/
def vc18 (a0 : Int) (a1 : Int) (a2 : List (List D)) (R : V → Heap → Prop) : Prop :=
  ((decide (a0 < (0 : Int))) = true →
    R (V.e (E.sc (S.dat (D.bool false)))) []) ∧
  ((decide (a0 < (0 : Int))) = false →
    ((decide (a1 < (0 : Int))) = true →
      R (V.e (E.sc (S.dat (D.bool false)))) []) ∧
    ((decide (a1 < (0 : Int))) = false →
      (((a2.length : Int) != a0) = true →
        R (V.e (E.sc (S.dat (D.bool false)))) []) ∧
      (((a2.length : Int) != a0) = false →
        ∃ (J0 : Int → Prop) (μ0 : Int → Nat),
        J0 (0 : Int) ∧ ∀ (i : Int), J0 i →
          ((decide (i < (a2.length : Int))) = true →
            ∃ (vx : List (List D)),
            (0 ≤ i ∧ i < (a2.length : Int)) ∧
            (a2[(i).toNat]? = some [(D.sl vx)]) ∧
            ((((vx.length : Int) != a1) = true →
              R (V.e (E.sc (S.dat (D.bool false)))) []) ∧
            (((vx.length : Int) != a1) = false →
              ∃ (r : Bool),
              (FnD prog 75 [(V.e (E.sc (S.dat (D.sl vx))))] (V.e (E.sc (S.dat (D.bool r)))) []) ∧
              (((!r) = true →
                R (V.e (E.sc (S.dat (D.bool false)))) []) ∧
              ((!r) = false →
                J0 (IntKind.i64.wrap (i + (1 : Int))) ∧ μ0 (IntKind.i64.wrap (i + (1 : Int))) < μ0 i))))) ∧
          ((decide (i < (a2.length : Int))) = false →
            R (V.e (E.sc (S.dat (D.bool true)))) []))))

theorem vc18_ok (a0 : Int) (a1 : Int) (a2 : List (List D)) {R : V → Heap → Prop} (h : vc18 a0 a1 a2 R) : FnG prog 18 [(V.e (E.agg [(S.dat (D.int .i64 a0)), (S.dat (D.int .i64 a1)), (S.dat (D.sl a2))]))] [] R := by
  unfold vc18 at h
  refine FnG.of (m := 45) (c := _) func18 rfl (by kernel_rfl) ntmps18 (Nat.le_of_ble_eq_true rfl) ?_
  refine GoJ.seq ?_
  refine GoJ.regV hT (cnt := 1) (ins := [(Or.none, 0, 1), o0]) (live := [1]) (ids := [0]) (σ' := ⟨[(1, (V.e (E.sc (S.ptr 0 0))))], [(some (Obj.box [(S.dat (D.int .i64 a0)), (S.dat (D.int .i64 a1)), (S.dat (D.sl a2))]))], 45⟩) (obs := []) (by kernel_rfl) (by kernel_rfl) (by kernel_rfl) trivial ?_
  refine GoJ.seq ?_
  refine GoJ.seq ?_
  rcases Bool.eq_false_or_eq_true (decide (a0 < (0 : Int))) with h1 | h1
  · replace h := h.1 h1
    refine GoJ.regV hT (cnt := 0) (ins := [o0, o0, o0, ((Or.bool true), 0, 0), o0, o0, o0, o0, o0, o0, o0, o0, o0, o0, o0, o0]) (live := [1, 19]) (ids := [0]) (σ' := ⟨[(1, (V.e (E.sc (S.ptr 0 0)))), (19, (V.e (E.sc (S.dat (D.bool true)))))], [(some (Obj.box [(S.dat (D.int .i64 a0)), (S.dat (D.int .i64 a1)), (S.dat (D.sl a2))]))], 45⟩) (obs := [(decide (a0 < (0 : Int))) = true]) (by kernel_rfl) (by kernel_rfl) (by kernel_rfl) ⟨h1, trivial⟩ ?_
    refine GoJ.cond (t := true) (by kernel_rfl) (fun _ => ?_) (fun hf => nomatch hf)
    refine GoJ.seq ?_
    refine GoJ.regV hT (cnt := 0) (ins := [o0]) (live := [2]) (ids := []) (σ' := ⟨[(2, (V.e (E.sc (S.dat (D.bool false)))))], [], 45⟩) (obs := []) (by kernel_rfl) (by kernel_rfl) (by kernel_rfl) trivial ?_
    exact GoJ.retV hT func18 (ids := []) (r := (V.e (E.sc (S.dat (D.bool false))))) (r' := (V.e (E.sc (S.dat (D.bool false))))) (σ' := ⟨[], [], 45⟩) (by kernel_rfl) (by kernel_rfl) (by kernel_rfl) (by kernel_rfl) (by kernel_rfl) h
  · replace h := h.2 h1
    rcases Bool.eq_false_or_eq_true (decide (a1 < (0 : Int))) with h2 | h2
    · replace h := h.1 h2
      refine GoJ.regV hT (cnt := 0) (ins := [o0, o0, o0, ((Or.bool false), 0, 0), o0, o0, o0, o0, ((Or.bool true), 0, 0), o0, o0, o0, o0, o0, o0, o0]) (live := [1, 19]) (ids := [0]) (σ' := ⟨[(1, (V.e (E.sc (S.ptr 0 0)))), (19, (V.e (E.sc (S.dat (D.bool true)))))], [(some (Obj.box [(S.dat (D.int .i64 a0)), (S.dat (D.int .i64 a1)), (S.dat (D.sl a2))]))], 45⟩) (obs := [(decide (a0 < (0 : Int))) = false, (decide (a1 < (0 : Int))) = true]) (by kernel_rfl) (by kernel_rfl) (by kernel_rfl) ⟨h1, h2, trivial⟩ ?_
      refine GoJ.cond (t := true) (by kernel_rfl) (fun _ => ?_) (fun hf => nomatch hf)
      refine GoJ.seq ?_
      refine GoJ.regV hT (cnt := 0) (ins := [o0]) (live := [2]) (ids := []) (σ' := ⟨[(2, (V.e (E.sc (S.dat (D.bool false)))))], [], 45⟩) (obs := []) (by kernel_rfl) (by kernel_rfl) (by kernel_rfl) trivial ?_
      exact GoJ.retV hT func18 (ids := []) (r := (V.e (E.sc (S.dat (D.bool false))))) (r' := (V.e (E.sc (S.dat (D.bool false))))) (σ' := ⟨[], [], 45⟩) (by kernel_rfl) (by kernel_rfl) (by kernel_rfl) (by kernel_rfl) (by kernel_rfl) h
    · replace h := h.2 h2
      refine GoJ.regV hT (cnt := 0) (ins := [o0, o0, o0, ((Or.bool false), 0, 0), o0, o0, o0, o0, ((Or.bool false), 0, 0), o0, o0, o0, o0, o0, o0, o0]) (live := [1, 19]) (ids := [0]) (σ' := ⟨[(1, (V.e (E.sc (S.ptr 0 0)))), (19, (V.e (E.sc (S.dat (D.bool ((a2.length : Int) != a0))))))], [(some (Obj.box [(S.dat (D.int .i64 a0)), (S.dat (D.int .i64 a1)), (S.dat (D.sl a2))]))], 45⟩) (obs := [(decide (a0 < (0 : Int))) = false, (decide (a1 < (0 : Int))) = false]) (by kernel_rfl) (by kernel_rfl) (by kernel_rfl) ⟨h1, h2, trivial⟩ ?_
      refine GoJ.cond (t := ((a2.length : Int) != a0)) (by kernel_rfl) (fun h3 => ?_) (fun h3 => ?_)
      · replace h := h.1 h3
        refine GoJ.seq ?_
        refine GoJ.regV hT (cnt := 0) (ins := [o0]) (live := [2]) (ids := []) (σ' := ⟨[(2, (V.e (E.sc (S.dat (D.bool false)))))], [], 45⟩) (obs := []) (by kernel_rfl) (by kernel_rfl) (by kernel_rfl) trivial ?_
        exact GoJ.retV hT func18 (ids := []) (r := (V.e (E.sc (S.dat (D.bool false))))) (r' := (V.e (E.sc (S.dat (D.bool false))))) (σ' := ⟨[], [], 45⟩) (by kernel_rfl) (by kernel_rfl) (by kernel_rfl) (by kernel_rfl) (by kernel_rfl) h
      · replace h := h.2 h3
        refine GoJ.skip ?_
        refine GoJ.seq ?_
        refine GoJ.seq ?_
        refine GoJ.regV hT (cnt := 0) (ins := [o0]) (live := [1, 3]) (ids := [0]) (σ' := ⟨[(1, (V.e (E.sc (S.ptr 0 0)))), (3, (V.e (E.sc (S.dat (D.int .i64 (0 : Int))))))], [(some (Obj.box [(S.dat (D.int .i64 a0)), (S.dat (D.int .i64 a1)), (S.dat (D.sl a2))]))], 45⟩) (obs := []) (by kernel_rfl) (by kernel_rfl) (by kernel_rfl) trivial ?_
        refine GoJ.block ?_
        obtain ⟨J0, μ0, hJ0, h⟩ := h
        refine GoJ.loop (X := Int) (fun x => (fun (i : Int) => (⟨[(1, (V.e (E.sc (S.ptr 0 0)))), (3, (V.e (E.sc (S.dat (D.int .i64 i)))))], [(some (Obj.box [(S.dat (D.int .i64 a0)), (S.dat (D.int .i64 a1)), (S.dat (D.sl a2))]))], 45⟩ : St)) (x)) (fun x => J0 (x)) (fun x => μ0 (x)) ((0 : Int)) hJ0 ?_
        rintro i hJ0 ih0
        replace h := h i hJ0
        refine GoJ.seq ?_
        refine GoJ.seq ?_
        refine GoJ.regV hT (cnt := 0) (ins := [o0, o0, o0, o0, o0]) (live := [1, 3, 24]) (ids := [0]) (σ' := ⟨[(1, (V.e (E.sc (S.ptr 0 0)))), (3, (V.e (E.sc (S.dat (D.int .i64 i))))), (24, (V.e (E.sc (S.dat (D.bool (decide (i < (a2.length : Int))))))))], [(some (Obj.box [(S.dat (D.int .i64 a0)), (S.dat (D.int .i64 a1)), (S.dat (D.sl a2))]))], 45⟩) (obs := []) (by kernel_rfl) (by kernel_rfl) (by kernel_rfl) trivial ?_
        refine GoJ.cond (t := (decide (i < (a2.length : Int)))) (by kernel_rfl) (fun h4 => ?_) (fun h4 => ?_)
        · replace h := h.1 h4
          refine GoJ.skip ?_
          refine GoJ.seq ?_
          refine GoJ.block ?_
          refine GoJ.seq ?_
          obtain ⟨vx, h5, h6, h⟩ := h
          rcases Bool.eq_false_or_eq_true ((vx.length : Int) != a1) with h7 | h7
          · replace h := h.1 h7
            refine GoJ.drawV hmix hT (cnt := 0) (ins := [⟨Or.none, 0, 0, [], [1], [], []⟩, ⟨Or.none, 0, 0, [0], [27], [], []⟩, ⟨Or.none, 0, 0, [], [3], [], []⟩, ⟨Or.none, 0, 0, [0, 1, 2], [28, 29], [], []⟩, ⟨(Or.cells [(D.sl vx)]), 0, 0, [0, 1, 2, 3], [30], [], []⟩, ⟨Or.none, 0, 0, [0, 1, 2, 3, 4], [31], [], []⟩, ⟨Or.none, 0, 0, [], [1], [], []⟩, ⟨Or.none, 0, 0, [6], [33], [], []⟩, ⟨Or.none, 0, 0, [0, 1, 2, 3, 4, 5, 6, 7], [32, 34], [], []⟩, ⟨(Or.bool true), 0, 0, [0, 1, 2, 3, 4, 5, 6, 7, 8], [35], [], []⟩, ⟨Or.none, 0, 0, [0, 1, 2, 3, 4, 5, 6, 7, 8, 9], [1, 36], [], []⟩, ⟨Or.none, 0, 0, [0, 1, 2, 3, 4, 5, 6, 7, 8, 9, 10], [36, 37], [], []⟩, ⟨Or.none, 0, 0, [0, 1, 2, 3, 4, 5, 6, 7, 8, 9], [3, 36], [], []⟩, ⟨Or.none, 0, 0, [0, 1, 2, 3, 4, 5, 6, 7, 8, 9, 10, 11, 12], [36, 38, 39], [], []⟩, ⟨Or.none, 0, 0, [0, 1, 2, 3, 4, 5, 6, 7, 8, 9, 10, 11, 12, 13], [36, 40], [], []⟩, ⟨Or.none, 0, 0, [0, 1, 2, 3, 4, 5, 6, 7, 8, 9, 10, 11, 12, 13, 14], [36, 41], [], []⟩, ⟨Or.none, 0, 0, [0, 1, 2, 3, 4, 5, 6, 7, 8, 9, 10, 11, 12, 13, 14, 15], [36, 42], [], []⟩, ⟨Or.none, 0, 0, [0, 1, 2, 3, 4, 5, 6, 7, 8, 9, 10, 11, 12, 13, 14, 15, 16], [36, 43], [], []⟩]) (live := [1, 3, 44]) (ids := [0]) (σ' := ⟨[(1, (V.e (E.sc (S.ptr 0 0)))), (3, (V.e (E.sc (S.dat (D.int .i64 i))))), (44, (V.e (E.sc (S.dat (D.bool true)))))], [(some (Obj.box [(S.dat (D.int .i64 a0)), (S.dat (D.int .i64 a1)), (S.dat (D.sl a2))]))], 45⟩) (obs := [0 ≤ i ∧ i < (a2.length : Int), a2[(i).toNat]? = some [(D.sl vx)], ((vx.length : Int) != a1) = true]) (by kernel_rfl) (by kernel_rfl) (by kernel_rfl) ⟨h5, h6, h7, trivial⟩ ?_
            refine GoJ.cond (t := true) (by kernel_rfl) (fun _ => ?_) (fun hf => nomatch hf)
            refine GoJ.seq ?_
            refine GoJ.regV hT (cnt := 0) (ins := [o0]) (live := [2]) (ids := []) (σ' := ⟨[(2, (V.e (E.sc (S.dat (D.bool false)))))], [], 45⟩) (obs := []) (by kernel_rfl) (by kernel_rfl) (by kernel_rfl) trivial ?_
            exact GoJ.retV hT func18 (ids := []) (r := (V.e (E.sc (S.dat (D.bool false))))) (r' := (V.e (E.sc (S.dat (D.bool false))))) (σ' := ⟨[], [], 45⟩) (by kernel_rfl) (by kernel_rfl) (by kernel_rfl) (by kernel_rfl) (by kernel_rfl) h
          · replace h := h.2 h7
            obtain ⟨r, h8, h⟩ := h
            refine GoJ.drawV hmix hT (cnt := 0) (ins := [⟨Or.none, 0, 0, [], [1], [], []⟩, ⟨Or.none, 0, 0, [0], [27], [], []⟩, ⟨Or.none, 0, 0, [], [3], [], []⟩, ⟨Or.none, 0, 0, [0, 1, 2], [28, 29], [], []⟩, ⟨(Or.cells [(D.sl vx)]), 0, 0, [0, 1, 2, 3], [30], [], []⟩, ⟨Or.none, 0, 0, [0, 1, 2, 3, 4], [31], [], []⟩, ⟨Or.none, 0, 0, [], [1], [], []⟩, ⟨Or.none, 0, 0, [6], [33], [], []⟩, ⟨Or.none, 0, 0, [0, 1, 2, 3, 4, 5, 6, 7], [32, 34], [], []⟩, ⟨(Or.bool false), 0, 0, [0, 1, 2, 3, 4, 5, 6, 7, 8], [35], [], []⟩, ⟨Or.none, 0, 0, [0, 1, 2, 3, 4, 5, 6, 7, 8, 9], [1, 36], [], []⟩, ⟨Or.none, 0, 0, [0, 1, 2, 3, 4, 5, 6, 7, 8, 9, 10], [36, 37], [], []⟩, ⟨Or.none, 0, 0, [0, 1, 2, 3, 4, 5, 6, 7, 8, 9], [3, 36], [], []⟩, ⟨Or.none, 0, 0, [0, 1, 2, 3, 4, 5, 6, 7, 8, 9, 10, 11, 12], [36, 38, 39], [], []⟩, ⟨(Or.cells [(D.sl vx)]), 0, 0, [0, 1, 2, 3, 4, 5, 6, 7, 8, 9, 10, 11, 12, 13], [36, 40], [], []⟩, ⟨(Or.call (V.e (E.sc (S.dat (D.bool r)))) [] []), 0, 0, [0, 1, 2, 3, 4, 5, 6, 7, 8, 9, 10, 11, 12, 13, 14], [36, 41], [], []⟩, ⟨Or.none, 0, 0, [0, 1, 2, 3, 4, 5, 6, 7, 8, 9, 10, 11, 12, 13, 14, 15], [36, 42], [], []⟩, ⟨Or.none, 0, 0, [0, 1, 2, 3, 4, 5, 6, 7, 8, 9, 10, 11, 12, 13, 14, 15, 16], [36, 43], [], []⟩]) (live := [1, 3, 44]) (ids := [0]) (σ' := ⟨[(1, (V.e (E.sc (S.ptr 0 0)))), (3, (V.e (E.sc (S.dat (D.int .i64 i))))), (44, (V.e (E.sc (S.dat (D.bool (!r))))))], [(some (Obj.box [(S.dat (D.int .i64 a0)), (S.dat (D.int .i64 a1)), (S.dat (D.sl a2))]))], 45⟩) (obs := [0 ≤ i ∧ i < (a2.length : Int), a2[(i).toNat]? = some [(D.sl vx)], ((vx.length : Int) != a1) = false, 0 ≤ i ∧ i < (a2.length : Int), a2[(i).toNat]? = some [(D.sl vx)], FnD prog 75 [(V.e (E.sc (S.dat (D.sl vx))))] (V.e (E.sc (S.dat (D.bool r)))) []]) (by kernel_rfl) (by kernel_rfl) (by kernel_rfl) ⟨h5, h6, h7, h5, h6, h8, trivial⟩ ?_
            refine GoJ.cond (t := (!r)) (by kernel_rfl) (fun h9 => ?_) (fun h9 => ?_)
            · replace h := h.1 h9
              refine GoJ.seq ?_
              refine GoJ.regV hT (cnt := 0) (ins := [o0]) (live := [2]) (ids := []) (σ' := ⟨[(2, (V.e (E.sc (S.dat (D.bool false)))))], [], 45⟩) (obs := []) (by kernel_rfl) (by kernel_rfl) (by kernel_rfl) trivial ?_
              exact GoJ.retV hT func18 (ids := []) (r := (V.e (E.sc (S.dat (D.bool false))))) (r' := (V.e (E.sc (S.dat (D.bool false))))) (σ' := ⟨[], [], 45⟩) (by kernel_rfl) (by kernel_rfl) (by kernel_rfl) (by kernel_rfl) (by kernel_rfl) h
            · replace h := h.2 h9
              refine GoJ.skip ?_
              refine GoJ.inBlock ?_
              refine GoJ.regV hT (cnt := 0) (ins := [o0, o0, o0]) (live := [1, 3]) (ids := [0]) (σ' := ⟨[(1, (V.e (E.sc (S.ptr 0 0)))), (3, (V.e (E.sc (S.dat (D.int .i64 (IntKind.i64.wrap (i + (1 : Int))))))))], [(some (Obj.box [(S.dat (D.int .i64 a0)), (S.dat (D.int .i64 a1)), (S.dat (D.sl a2))]))], 45⟩) (obs := []) (by kernel_rfl) (by kernel_rfl) (by kernel_rfl) trivial ?_
              exact ih0 ((IntKind.i64.wrap (i + (1 : Int)))) h.1 h.2
        · replace h := h.2 h4
          refine GoJ.exit rfl ?_
          refine GoJ.seq ?_
          refine GoJ.regV hT (cnt := 0) (ins := [o0]) (live := [2]) (ids := []) (σ' := ⟨[(2, (V.e (E.sc (S.dat (D.bool true)))))], [], 45⟩) (obs := []) (by kernel_rfl) (by kernel_rfl) (by kernel_rfl) trivial ?_
          exact GoJ.retV hT func18 (ids := []) (r := (V.e (E.sc (S.dat (D.bool true))))) (r' := (V.e (E.sc (S.dat (D.bool true))))) (σ' := ⟨[], [], 45⟩) (by kernel_rfl) (by kernel_rfl) (by kernel_rfl) (by kernel_rfl) (by kernel_rfl) h

/- f22 torsion/torsionref05.Sized -/
def vc22 (a0 : Int) (a1 : Int) (a2 : List (List D)) (rows : Int) (cols : Int) (R : V → Heap → Prop) : Prop :=
  ((a0 == rows) = true →
    ((a1 == cols) = true →
      ∃ (r : Bool),
      (FnD prog 18 [(V.e (E.agg [(S.dat (D.int .i64 a0)), (S.dat (D.int .i64 a1)), (S.dat (D.sl a2))]))] (V.e (E.sc (S.dat (D.bool r)))) []) ∧
      (R (V.e (E.sc (S.dat (D.bool r)))) [])) ∧
    ((a1 == cols) = false →
      R (V.e (E.sc (S.dat (D.bool false)))) [])) ∧
  ((a0 == rows) = false →
    R (V.e (E.sc (S.dat (D.bool false)))) [])

theorem vc22_ok (a0 : Int) (a1 : Int) (a2 : List (List D)) (rows : Int) (cols : Int) {R : V → Heap → Prop} (h : vc22 a0 a1 a2 rows cols R) : FnG prog 22 [(V.e (E.agg [(S.dat (D.int .i64 a0)), (S.dat (D.int .i64 a1)), (S.dat (D.sl a2))])), (V.e (E.sc (S.dat (D.int .i64 rows)))), (V.e (E.sc (S.dat (D.int .i64 cols))))] [] R := by
  unfold vc22 at h
  refine FnG.of (m := 21) (c := _) func22 rfl (by kernel_rfl) ntmps22 (Nat.le_of_ble_eq_true rfl) ?_
  refine GoJ.seq ?_
  refine GoJ.regV hT (cnt := 1) (ins := [(Or.none, 0, 1), o0]) (live := [1, 2, 3]) (ids := [0]) (σ' := ⟨[(1, (V.e (E.sc (S.dat (D.int .i64 rows))))), (2, (V.e (E.sc (S.dat (D.int .i64 cols))))), (3, (V.e (E.sc (S.ptr 0 0))))], [(some (Obj.box [(S.dat (D.int .i64 a0)), (S.dat (D.int .i64 a1)), (S.dat (D.sl a2))]))], 21⟩) (obs := []) (by kernel_rfl) (by kernel_rfl) (by kernel_rfl) trivial ?_
  refine GoJ.seq ?_
  rcases Bool.eq_false_or_eq_true (a0 == rows) with h1 | h1
  · replace h := h.1 h1
    rcases Bool.eq_false_or_eq_true (a1 == cols) with h2 | h2
    · replace h := h.1 h2
      obtain ⟨r, h3, h⟩ := h
      refine GoJ.regV hT (cnt := 0) (ins := [o0, o0, o0, o0, ((Or.bool true), 0, 0), o0, o0, o0, o0, o0, ((Or.bool true), 0, 0), o0, ((Or.call (V.e (E.sc (S.dat (D.bool r)))) [] []), 0, 0), o0, o0]) (live := [6]) (ids := []) (σ' := ⟨[(6, (V.e (E.sc (S.dat (D.bool r)))))], [], 21⟩) (obs := [(a0 == rows) = true, (a1 == cols) = true, FnD prog 18 [(V.e (E.agg [(S.dat (D.int .i64 a0)), (S.dat (D.int .i64 a1)), (S.dat (D.sl a2))]))] (V.e (E.sc (S.dat (D.bool r)))) []]) (by kernel_rfl) (by kernel_rfl) (by kernel_rfl) ⟨h1, h2, h3, trivial⟩ ?_
      exact GoJ.retV hT func22 (ids := []) (r := (V.e (E.sc (S.dat (D.bool r))))) (r' := (V.e (E.sc (S.dat (D.bool r))))) (σ' := ⟨[], [], 21⟩) (by kernel_rfl) (by kernel_rfl) (by kernel_rfl) (by kernel_rfl) (by kernel_rfl) h
    · replace h := h.2 h2
      refine GoJ.regV hT (cnt := 0) (ins := [o0, o0, o0, o0, ((Or.bool true), 0, 0), o0, o0, o0, o0, o0, ((Or.bool false), 0, 0), o0, o0, o0, o0]) (live := [6]) (ids := []) (σ' := ⟨[(6, (V.e (E.sc (S.dat (D.bool false)))))], [], 21⟩) (obs := [(a0 == rows) = true, (a1 == cols) = false]) (by kernel_rfl) (by kernel_rfl) (by kernel_rfl) ⟨h1, h2, trivial⟩ ?_
      exact GoJ.retV hT func22 (ids := []) (r := (V.e (E.sc (S.dat (D.bool false))))) (r' := (V.e (E.sc (S.dat (D.bool false))))) (σ' := ⟨[], [], 21⟩) (by kernel_rfl) (by kernel_rfl) (by kernel_rfl) (by kernel_rfl) (by kernel_rfl) h
  · replace h := h.2 h1
    refine GoJ.regV hT (cnt := 0) (ins := [o0, o0, o0, o0, ((Or.bool false), 0, 0), o0, o0, o0, o0, o0, o0, o0, o0, o0, o0]) (live := [6]) (ids := []) (σ' := ⟨[(6, (V.e (E.sc (S.dat (D.bool false)))))], [], 21⟩) (obs := [(a0 == rows) = false]) (by kernel_rfl) (by kernel_rfl) (by kernel_rfl) ⟨h1, trivial⟩ ?_
    exact GoJ.retV hT func22 (ids := []) (r := (V.e (E.sc (S.dat (D.bool false))))) (r' := (V.e (E.sc (S.dat (D.bool false))))) (σ' := ⟨[], [], 21⟩) (by kernel_rfl) (by kernel_rfl) (by kernel_rfl) (by kernel_rfl) (by kernel_rfl) h

/- f37 torsion/torsionref05.SameVec -/
def vc37 (a : List (List D)) (b : List (List D)) (R : V → Heap → Prop) : Prop :=
  (((a.length : Int) != (b.length : Int)) = true →
    R (V.e (E.sc (S.dat (D.bool false)))) []) ∧
  (((a.length : Int) != (b.length : Int)) = false →
    ∃ (J0 : Int → Prop) (μ0 : Int → Nat),
    J0 (0 : Int) ∧ ∀ (i : Int), J0 i →
      ((decide (i < (a.length : Int))) = true →
        ∃ (x0 : Bool) (x1 : List (List D)) (x01 : Bool) (x11 : List (List D)) (r : Bool),
        (0 ≤ i ∧ i < (a.length : Int)) ∧
        (a[(i).toNat]? = some [(D.bool x0), (D.sl x1)]) ∧
        (0 ≤ i ∧ i < (b.length : Int)) ∧
        (b[(i).toNat]? = some [(D.bool x01), (D.sl x11)]) ∧
        (FnD prog 40 [(V.e (E.agg [(S.dat (D.bool x0)), (S.dat (D.sl x1))])), (V.e (E.agg [(S.dat (D.bool x01)), (S.dat (D.sl x11))]))] (V.e (E.sc (S.dat (D.bool r)))) []) ∧
        (((!r) = true →
          R (V.e (E.sc (S.dat (D.bool false)))) []) ∧
        ((!r) = false →
          J0 (IntKind.i64.wrap (i + (1 : Int))) ∧ μ0 (IntKind.i64.wrap (i + (1 : Int))) < μ0 i))) ∧
      ((decide (i < (a.length : Int))) = false →
        R (V.e (E.sc (S.dat (D.bool true)))) []))

theorem vc37_ok (a : List (List D)) (b : List (List D)) {R : V → Heap → Prop} (h : vc37 a b R) : FnG prog 37 [(V.e (E.sc (S.dat (D.sl a)))), (V.e (E.sc (S.dat (D.sl b))))] [] R := by
  unfold vc37 at h
  refine FnG.of (m := 27) (c := _) func37 rfl (by kernel_rfl) ntmps37 (Nat.le_of_ble_eq_true rfl) ?_
  refine GoJ.seq ?_
  refine GoJ.regV hT (cnt := 0) (ins := [o0]) (live := [0, 1]) (ids := []) (σ' := ⟨[(0, (V.e (E.sc (S.dat (D.sl a))))), (1, (V.e (E.sc (S.dat (D.sl b)))))], [], 27⟩) (obs := []) (by kernel_rfl) (by kernel_rfl) (by kernel_rfl) trivial ?_
  refine GoJ.seq ?_
  refine GoJ.seq ?_
  refine GoJ.regV hT (cnt := 0) (ins := [o0, o0, o0, o0, o0]) (live := [0, 1, 10]) (ids := []) (σ' := ⟨[(0, (V.e (E.sc (S.dat (D.sl a))))), (1, (V.e (E.sc (S.dat (D.sl b))))), (10, (V.e (E.sc (S.dat (D.bool ((a.length : Int) != (b.length : Int)))))))], [], 27⟩) (obs := []) (by kernel_rfl) (by kernel_rfl) (by kernel_rfl) trivial ?_
  refine GoJ.cond (t := ((a.length : Int) != (b.length : Int))) (by kernel_rfl) (fun h1 => ?_) (fun h1 => ?_)
  · replace h := h.1 h1
    refine GoJ.seq ?_
    refine GoJ.regV hT (cnt := 0) (ins := [o0]) (live := [4]) (ids := []) (σ' := ⟨[(4, (V.e (E.sc (S.dat (D.bool false)))))], [], 27⟩) (obs := []) (by kernel_rfl) (by kernel_rfl) (by kernel_rfl) trivial ?_
    exact GoJ.retV hT func37 (ids := []) (r := (V.e (E.sc (S.dat (D.bool false))))) (r' := (V.e (E.sc (S.dat (D.bool false))))) (σ' := ⟨[], [], 27⟩) (by kernel_rfl) (by kernel_rfl) (by kernel_rfl) (by kernel_rfl) (by kernel_rfl) h
  · replace h := h.2 h1
    refine GoJ.skip ?_
    refine GoJ.seq ?_
    refine GoJ.seq ?_
    refine GoJ.regV hT (cnt := 0) (ins := [o0]) (live := [0, 1, 5]) (ids := []) (σ' := ⟨[(0, (V.e (E.sc (S.dat (D.sl a))))), (1, (V.e (E.sc (S.dat (D.sl b))))), (5, (V.e (E.sc (S.dat (D.int .i64 (0 : Int))))))], [], 27⟩) (obs := []) (by kernel_rfl) (by kernel_rfl) (by kernel_rfl) trivial ?_
    refine GoJ.block ?_
    obtain ⟨J0, μ0, hJ0, h⟩ := h
    refine GoJ.loop (X := Int) (fun x => (fun (i : Int) => (⟨[(0, (V.e (E.sc (S.dat (D.sl a))))), (1, (V.e (E.sc (S.dat (D.sl b))))), (5, (V.e (E.sc (S.dat (D.int .i64 i)))))], [], 27⟩ : St)) (x)) (fun x => J0 (x)) (fun x => μ0 (x)) ((0 : Int)) hJ0 ?_
    rintro i hJ0 ih0
    replace h := h i hJ0
    refine GoJ.seq ?_
    refine GoJ.seq ?_
    refine GoJ.regV hT (cnt := 0) (ins := [o0, o0, o0, o0]) (live := [0, 1, 5, 14]) (ids := []) (σ' := ⟨[(0, (V.e (E.sc (S.dat (D.sl a))))), (1, (V.e (E.sc (S.dat (D.sl b))))), (5, (V.e (E.sc (S.dat (D.int .i64 i))))), (14, (V.e (E.sc (S.dat (D.bool (decide (i < (a.length : Int))))))))], [], 27⟩) (obs := []) (by kernel_rfl) (by kernel_rfl) (by kernel_rfl) trivial ?_
    refine GoJ.cond (t := (decide (i < (a.length : Int)))) (by kernel_rfl) (fun h2 => ?_) (fun h2 => ?_)
    · replace h := h.1 h2
      refine GoJ.skip ?_
      refine GoJ.seq ?_
      refine GoJ.block ?_
      refine GoJ.seq ?_
      obtain ⟨x0, x1, x01, x11, r, h3, h4, h5, h6, h7, h⟩ := h
      refine GoJ.drawV hmix hT (cnt := 0) (ins := [⟨Or.none, 0, 0, [], [0], [], []⟩, ⟨Or.none, 0, 0, [], [5], [], []⟩, ⟨Or.none, 0, 0, [0, 1], [17, 18], [], []⟩, ⟨(Or.cells [(D.bool x0), (D.sl x1)]), 0, 0, [0, 1, 2], [19], [], []⟩, ⟨Or.none, 0, 0, [], [1], [], []⟩, ⟨Or.none, 0, 0, [], [5], [], []⟩, ⟨Or.none, 0, 0, [4, 5], [21, 22], [], []⟩, ⟨(Or.cells [(D.bool x01), (D.sl x11)]), 0, 0, [4, 5, 6], [23], [], []⟩, ⟨(Or.call (V.e (E.sc (S.dat (D.bool r)))) [] []), 0, 0, [0, 1, 2, 3, 4, 5, 6, 7], [20, 24], [], []⟩, ⟨Or.none, 0, 0, [0, 1, 2, 3, 4, 5, 6, 7, 8], [25], [], []⟩]) (live := [0, 1, 5, 26]) (ids := []) (σ' := ⟨[(0, (V.e (E.sc (S.dat (D.sl a))))), (1, (V.e (E.sc (S.dat (D.sl b))))), (5, (V.e (E.sc (S.dat (D.int .i64 i))))), (26, (V.e (E.sc (S.dat (D.bool (!r))))))], [], 27⟩) (obs := [0 ≤ i ∧ i < (a.length : Int), a[(i).toNat]? = some [(D.bool x0), (D.sl x1)], 0 ≤ i ∧ i < (b.length : Int), b[(i).toNat]? = some [(D.bool x01), (D.sl x11)], FnD prog 40 [(V.e (E.agg [(S.dat (D.bool x0)), (S.dat (D.sl x1))])), (V.e (E.agg [(S.dat (D.bool x01)), (S.dat (D.sl x11))]))] (V.e (E.sc (S.dat (D.bool r)))) []]) (by kernel_rfl) (by kernel_rfl) (by kernel_rfl) ⟨h3, h4, h5, h6, h7, trivial⟩ ?_
      refine GoJ.cond (t := (!r)) (by kernel_rfl) (fun h8 => ?_) (fun h8 => ?_)
      · replace h := h.1 h8
        refine GoJ.seq ?_
        refine GoJ.regV hT (cnt := 0) (ins := [o0]) (live := [4]) (ids := []) (σ' := ⟨[(4, (V.e (E.sc (S.dat (D.bool false)))))], [], 27⟩) (obs := []) (by kernel_rfl) (by kernel_rfl) (by kernel_rfl) trivial ?_
        exact GoJ.retV hT func37 (ids := []) (r := (V.e (E.sc (S.dat (D.bool false))))) (r' := (V.e (E.sc (S.dat (D.bool false))))) (σ' := ⟨[], [], 27⟩) (by kernel_rfl) (by kernel_rfl) (by kernel_rfl) (by kernel_rfl) (by kernel_rfl) h
      · replace h := h.2 h8
        refine GoJ.skip ?_
        refine GoJ.inBlock ?_
        refine GoJ.regV hT (cnt := 0) (ins := [o0, o0, o0]) (live := [0, 1, 5]) (ids := []) (σ' := ⟨[(0, (V.e (E.sc (S.dat (D.sl a))))), (1, (V.e (E.sc (S.dat (D.sl b))))), (5, (V.e (E.sc (S.dat (D.int .i64 (IntKind.i64.wrap (i + (1 : Int))))))))], [], 27⟩) (obs := []) (by kernel_rfl) (by kernel_rfl) (by kernel_rfl) trivial ?_
        exact ih0 ((IntKind.i64.wrap (i + (1 : Int)))) h.1 h.2
    · replace h := h.2 h2
      refine GoJ.exit rfl ?_
      refine GoJ.seq ?_
      refine GoJ.regV hT (cnt := 0) (ins := [o0]) (live := [4]) (ids := []) (σ' := ⟨[(4, (V.e (E.sc (S.dat (D.bool true)))))], [], 27⟩) (obs := []) (by kernel_rfl) (by kernel_rfl) (by kernel_rfl) trivial ?_
      exact GoJ.retV hT func37 (ids := []) (r := (V.e (E.sc (S.dat (D.bool true))))) (r' := (V.e (E.sc (S.dat (D.bool true))))) (σ' := ⟨[], [], 27⟩) (by kernel_rfl) (by kernel_rfl) (by kernel_rfl) (by kernel_rfl) (by kernel_rfl) h

/- f23 torsion/torsionref05.Same -/
def vc23 (a0 : Int) (a1 : Int) (a2 : List (List D)) (b0 : Int) (b1 : Int) (b2 : List (List D)) (R : V → Heap → Prop) : Prop :=
  ((a0 != b0) = true →
    R (V.e (E.sc (S.dat (D.bool false)))) []) ∧
  ((a0 != b0) = false →
    ((a1 != b1) = true →
      R (V.e (E.sc (S.dat (D.bool false)))) []) ∧
    ((a1 != b1) = false →
      (((a2.length : Int) != (b2.length : Int)) = true →
        R (V.e (E.sc (S.dat (D.bool false)))) []) ∧
      (((a2.length : Int) != (b2.length : Int)) = false →
        ∃ (J0 : Int → Prop) (μ0 : Int → Nat),
        J0 (0 : Int) ∧ ∀ (i : Int), J0 i →
          ((decide (i < (a2.length : Int))) = true →
            ∃ (vx : List (List D)) (vx1 : List (List D)) (r : Bool),
            (0 ≤ i ∧ i < (a2.length : Int)) ∧
            (a2[(i).toNat]? = some [(D.sl vx)]) ∧
            (0 ≤ i ∧ i < (b2.length : Int)) ∧
            (b2[(i).toNat]? = some [(D.sl vx1)]) ∧
            (FnD prog 37 [(V.e (E.sc (S.dat (D.sl vx)))), (V.e (E.sc (S.dat (D.sl vx1))))] (V.e (E.sc (S.dat (D.bool r)))) []) ∧
            (((!r) = true →
              R (V.e (E.sc (S.dat (D.bool false)))) []) ∧
            ((!r) = false →
              J0 (IntKind.i64.wrap (i + (1 : Int))) ∧ μ0 (IntKind.i64.wrap (i + (1 : Int))) < μ0 i))) ∧
          ((decide (i < (a2.length : Int))) = false →
            R (V.e (E.sc (S.dat (D.bool true)))) []))))

theorem vc23_ok (a0 : Int) (a1 : Int) (a2 : List (List D)) (b0 : Int) (b1 : Int) (b2 : List (List D)) {R : V → Heap → Prop} (h : vc23 a0 a1 a2 b0 b1 b2 R) : FnG prog 23 [(V.e (E.agg [(S.dat (D.int .i64 a0)), (S.dat (D.int .i64 a1)), (S.dat (D.sl a2))])), (V.e (E.agg [(S.dat (D.int .i64 b0)), (S.dat (D.int .i64 b1)), (S.dat (D.sl b2))]))] [] R := by
  unfold vc23 at h
  refine FnG.of (m := 46) (c := _) func23 rfl (by kernel_rfl) ntmps23 (Nat.le_of_ble_eq_true rfl) ?_
  refine GoJ.seq ?_
  refine GoJ.regV hT (cnt := 2) (ins := [(Or.none, 0, 1), (Or.none, 1, 1), o0]) (live := [2, 3]) (ids := [0, 1]) (σ' := ⟨[(2, (V.e (E.sc (S.ptr 0 0)))), (3, (V.e (E.sc (S.ptr 1 0))))], [(some (Obj.box [(S.dat (D.int .i64 a0)), (S.dat (D.int .i64 a1)), (S.dat (D.sl a2))])), (some (Obj.box [(S.dat (D.int .i64 b0)), (S.dat (D.int .i64 b1)), (S.dat (D.sl b2))]))], 46⟩) (obs := []) (by kernel_rfl) (by kernel_rfl) (by kernel_rfl) trivial ?_
  refine GoJ.seq ?_
  refine GoJ.seq ?_
  rcases Bool.eq_false_or_eq_true (a0 != b0) with h1 | h1
  · replace h := h.1 h1
    refine GoJ.regV hT (cnt := 0) (ins := [o0, o0, o0, o0, o0, ((Or.bool true), 0, 0), o0, o0, o0, o0, o0, o0, o0, o0, o0, o0, o0, o0, o0, o0, o0]) (live := [2, 3, 26]) (ids := [0, 1]) (σ' := ⟨[(2, (V.e (E.sc (S.ptr 0 0)))), (3, (V.e (E.sc (S.ptr 1 0)))), (26, (V.e (E.sc (S.dat (D.bool true)))))], [(some (Obj.box [(S.dat (D.int .i64 a0)), (S.dat (D.int .i64 a1)), (S.dat (D.sl a2))])), (some (Obj.box [(S.dat (D.int .i64 b0)), (S.dat (D.int .i64 b1)), (S.dat (D.sl b2))]))], 46⟩) (obs := [(a0 != b0) = true]) (by kernel_rfl) (by kernel_rfl) (by kernel_rfl) ⟨h1, trivial⟩ ?_
    refine GoJ.cond (t := true) (by kernel_rfl) (fun _ => ?_) (fun hf => nomatch hf)
    refine GoJ.seq ?_
    refine GoJ.regV hT (cnt := 0) (ins := [o0]) (live := [4]) (ids := []) (σ' := ⟨[(4, (V.e (E.sc (S.dat (D.bool false)))))], [], 46⟩) (obs := []) (by kernel_rfl) (by kernel_rfl) (by kernel_rfl) trivial ?_
    exact GoJ.retV hT func23 (ids := []) (r := (V.e (E.sc (S.dat (D.bool false))))) (r' := (V.e (E.sc (S.dat (D.bool false))))) (σ' := ⟨[], [], 46⟩) (by kernel_rfl) (by kernel_rfl) (by kernel_rfl) (by kernel_rfl) (by kernel_rfl) h
  · replace h := h.2 h1
    rcases Bool.eq_false_or_eq_true (a1 != b1) with h2 | h2
    · replace h := h.1 h2
      refine GoJ.regV hT (cnt := 0) (ins := [o0, o0, o0, o0, o0, ((Or.bool false), 0, 0), o0, o0, o0, o0, o0, o0, ((Or.bool true), 0, 0), o0, o0, o0, o0, o0, o0, o0, o0]) (live := [2, 3, 26]) (ids := [0, 1]) (σ' := ⟨[(2, (V.e (E.sc (S.ptr 0 0)))), (3, (V.e (E.sc (S.ptr 1 0)))), (26, (V.e (E.sc (S.dat (D.bool true)))))], [(some (Obj.box [(S.dat (D.int .i64 a0)), (S.dat (D.int .i64 a1)), (S.dat (D.sl a2))])), (some (Obj.box [(S.dat (D.int .i64 b0)), (S.dat (D.int .i64 b1)), (S.dat (D.sl b2))]))], 46⟩) (obs := [(a0 != b0) = false, (a1 != b1) = true]) (by kernel_rfl) (by kernel_rfl) (by kernel_rfl) ⟨h1, h2, trivial⟩ ?_
      refine GoJ.cond (t := true) (by kernel_rfl) (fun _ => ?_) (fun hf => nomatch hf)
      refine GoJ.seq ?_
      refine GoJ.regV hT (cnt := 0) (ins := [o0]) (live := [4]) (ids := []) (σ' := ⟨[(4, (V.e (E.sc (S.dat (D.bool false)))))], [], 46⟩) (obs := []) (by kernel_rfl) (by kernel_rfl) (by kernel_rfl) trivial ?_
      exact GoJ.retV hT func23 (ids := []) (r := (V.e (E.sc (S.dat (D.bool false))))) (r' := (V.e (E.sc (S.dat (D.bool false))))) (σ' := ⟨[], [], 46⟩) (by kernel_rfl) (by kernel_rfl) (by kernel_rfl) (by kernel_rfl) (by kernel_rfl) h
    · replace h := h.2 h2
      refine GoJ.regV hT (cnt := 0) (ins := [o0, o0, o0, o0, o0, ((Or.bool false), 0, 0), o0, o0, o0, o0, o0, o0, ((Or.bool false), 0, 0), o0, o0, o0, o0, o0, o0, o0, o0]) (live := [2, 3, 26]) (ids := [0, 1]) (σ' := ⟨[(2, (V.e (E.sc (S.ptr 0 0)))), (3, (V.e (E.sc (S.ptr 1 0)))), (26, (V.e (E.sc (S.dat (D.bool ((a2.length : Int) != (b2.length : Int)))))))], [(some (Obj.box [(S.dat (D.int .i64 a0)), (S.dat (D.int .i64 a1)), (S.dat (D.sl a2))])), (some (Obj.box [(S.dat (D.int .i64 b0)), (S.dat (D.int .i64 b1)), (S.dat (D.sl b2))]))], 46⟩) (obs := [(a0 != b0) = false, (a1 != b1) = false]) (by kernel_rfl) (by kernel_rfl) (by kernel_rfl) ⟨h1, h2, trivial⟩ ?_
      refine GoJ.cond (t := ((a2.length : Int) != (b2.length : Int))) (by kernel_rfl) (fun h3 => ?_) (fun h3 => ?_)
      · replace h := h.1 h3
        refine GoJ.seq ?_
        refine GoJ.regV hT (cnt := 0) (ins := [o0]) (live := [4]) (ids := []) (σ' := ⟨[(4, (V.e (E.sc (S.dat (D.bool false)))))], [], 46⟩) (obs := []) (by kernel_rfl) (by kernel_rfl) (by kernel_rfl) trivial ?_
        exact GoJ.retV hT func23 (ids := []) (r := (V.e (E.sc (S.dat (D.bool false))))) (r' := (V.e (E.sc (S.dat (D.bool false))))) (σ' := ⟨[], [], 46⟩) (by kernel_rfl) (by kernel_rfl) (by kernel_rfl) (by kernel_rfl) (by kernel_rfl) h
      · replace h := h.2 h3
        refine GoJ.skip ?_
        refine GoJ.seq ?_
        refine GoJ.seq ?_
        refine GoJ.regV hT (cnt := 0) (ins := [o0]) (live := [2, 3, 5]) (ids := [0, 1]) (σ' := ⟨[(2, (V.e (E.sc (S.ptr 0 0)))), (3, (V.e (E.sc (S.ptr 1 0)))), (5, (V.e (E.sc (S.dat (D.int .i64 (0 : Int))))))], [(some (Obj.box [(S.dat (D.int .i64 a0)), (S.dat (D.int .i64 a1)), (S.dat (D.sl a2))])), (some (Obj.box [(S.dat (D.int .i64 b0)), (S.dat (D.int .i64 b1)), (S.dat (D.sl b2))]))], 46⟩) (obs := []) (by kernel_rfl) (by kernel_rfl) (by kernel_rfl) trivial ?_
        refine GoJ.block ?_
        obtain ⟨J0, μ0, hJ0, h⟩ := h
        refine GoJ.loop (X := Int) (fun x => (fun (i : Int) => (⟨[(2, (V.e (E.sc (S.ptr 0 0)))), (3, (V.e (E.sc (S.ptr 1 0)))), (5, (V.e (E.sc (S.dat (D.int .i64 i)))))], [(some (Obj.box [(S.dat (D.int .i64 a0)), (S.dat (D.int .i64 a1)), (S.dat (D.sl a2))])), (some (Obj.box [(S.dat (D.int .i64 b0)), (S.dat (D.int .i64 b1)), (S.dat (D.sl b2))]))], 46⟩ : St)) (x)) (fun x => J0 (x)) (fun x => μ0 (x)) ((0 : Int)) hJ0 ?_
        rintro i hJ0 ih0
        replace h := h i hJ0
        refine GoJ.seq ?_
        refine GoJ.seq ?_
        refine GoJ.regV hT (cnt := 0) (ins := [o0, o0, o0, o0, o0]) (live := [2, 3, 5, 31]) (ids := [0, 1]) (σ' := ⟨[(2, (V.e (E.sc (S.ptr 0 0)))), (3, (V.e (E.sc (S.ptr 1 0)))), (5, (V.e (E.sc (S.dat (D.int .i64 i))))), (31, (V.e (E.sc (S.dat (D.bool (decide (i < (a2.length : Int))))))))], [(some (Obj.box [(S.dat (D.int .i64 a0)), (S.dat (D.int .i64 a1)), (S.dat (D.sl a2))])), (some (Obj.box [(S.dat (D.int .i64 b0)), (S.dat (D.int .i64 b1)), (S.dat (D.sl b2))]))], 46⟩) (obs := []) (by kernel_rfl) (by kernel_rfl) (by kernel_rfl) trivial ?_
        refine GoJ.cond (t := (decide (i < (a2.length : Int)))) (by kernel_rfl) (fun h4 => ?_) (fun h4 => ?_)
        · replace h := h.1 h4
          refine GoJ.skip ?_
          refine GoJ.seq ?_
          refine GoJ.block ?_
          refine GoJ.seq ?_
          obtain ⟨vx, vx1, r, h5, h6, h7, h8, h9, h⟩ := h
          refine GoJ.drawV hmix hT (cnt := 0) (ins := [⟨Or.none, 0, 0, [], [2], [], []⟩, ⟨Or.none, 0, 0, [0], [34], [], []⟩, ⟨Or.none, 0, 0, [], [5], [], []⟩, ⟨Or.none, 0, 0, [0, 1, 2], [35, 36], [], []⟩, ⟨(Or.cells [(D.sl vx)]), 0, 0, [0, 1, 2, 3], [37], [], []⟩, ⟨Or.none, 0, 0, [], [3], [], []⟩, ⟨Or.none, 0, 0, [5], [39], [], []⟩, ⟨Or.none, 0, 0, [], [5], [], []⟩, ⟨Or.none, 0, 0, [5, 6, 7], [40, 41], [], []⟩, ⟨(Or.cells [(D.sl vx1)]), 0, 0, [5, 6, 7, 8], [42], [], []⟩, ⟨(Or.call (V.e (E.sc (S.dat (D.bool r)))) [] []), 0, 0, [0, 1, 2, 3, 4, 5, 6, 7, 8, 9], [38, 43], [], []⟩, ⟨Or.none, 0, 0, [0, 1, 2, 3, 4, 5, 6, 7, 8, 9, 10], [44], [], []⟩]) (live := [2, 3, 5, 45]) (ids := [0, 1]) (σ' := ⟨[(2, (V.e (E.sc (S.ptr 0 0)))), (3, (V.e (E.sc (S.ptr 1 0)))), (5, (V.e (E.sc (S.dat (D.int .i64 i))))), (45, (V.e (E.sc (S.dat (D.bool (!r))))))], [(some (Obj.box [(S.dat (D.int .i64 a0)), (S.dat (D.int .i64 a1)), (S.dat (D.sl a2))])), (some (Obj.box [(S.dat (D.int .i64 b0)), (S.dat (D.int .i64 b1)), (S.dat (D.sl b2))]))], 46⟩) (obs := [0 ≤ i ∧ i < (a2.length : Int), a2[(i).toNat]? = some [(D.sl vx)], 0 ≤ i ∧ i < (b2.length : Int), b2[(i).toNat]? = some [(D.sl vx1)], FnD prog 37 [(V.e (E.sc (S.dat (D.sl vx)))), (V.e (E.sc (S.dat (D.sl vx1))))] (V.e (E.sc (S.dat (D.bool r)))) []]) (by kernel_rfl) (by kernel_rfl) (by kernel_rfl) ⟨h5, h6, h7, h8, h9, trivial⟩ ?_
          refine GoJ.cond (t := (!r)) (by kernel_rfl) (fun h10 => ?_) (fun h10 => ?_)
          · replace h := h.1 h10
            refine GoJ.seq ?_
            refine GoJ.regV hT (cnt := 0) (ins := [o0]) (live := [4]) (ids := []) (σ' := ⟨[(4, (V.e (E.sc (S.dat (D.bool false)))))], [], 46⟩) (obs := []) (by kernel_rfl) (by kernel_rfl) (by kernel_rfl) trivial ?_
            exact GoJ.retV hT func23 (ids := []) (r := (V.e (E.sc (S.dat (D.bool false))))) (r' := (V.e (E.sc (S.dat (D.bool false))))) (σ' := ⟨[], [], 46⟩) (by kernel_rfl) (by kernel_rfl) (by kernel_rfl) (by kernel_rfl) (by kernel_rfl) h
          · replace h := h.2 h10
            refine GoJ.skip ?_
            refine GoJ.inBlock ?_
            refine GoJ.regV hT (cnt := 0) (ins := [o0, o0, o0]) (live := [2, 3, 5]) (ids := [0, 1]) (σ' := ⟨[(2, (V.e (E.sc (S.ptr 0 0)))), (3, (V.e (E.sc (S.ptr 1 0)))), (5, (V.e (E.sc (S.dat (D.int .i64 (IntKind.i64.wrap (i + (1 : Int))))))))], [(some (Obj.box [(S.dat (D.int .i64 a0)), (S.dat (D.int .i64 a1)), (S.dat (D.sl a2))])), (some (Obj.box [(S.dat (D.int .i64 b0)), (S.dat (D.int .i64 b1)), (S.dat (D.sl b2))]))], 46⟩) (obs := []) (by kernel_rfl) (by kernel_rfl) (by kernel_rfl) trivial ?_
            exact ih0 ((IntKind.i64.wrap (i + (1 : Int)))) h.1 h.2
        · replace h := h.2 h4
          refine GoJ.exit rfl ?_
          refine GoJ.seq ?_
          refine GoJ.regV hT (cnt := 0) (ins := [o0]) (live := [4]) (ids := []) (σ' := ⟨[(4, (V.e (E.sc (S.dat (D.bool true)))))], [], 46⟩) (obs := []) (by kernel_rfl) (by kernel_rfl) (by kernel_rfl) trivial ?_
          exact GoJ.retV hT func23 (ids := []) (r := (V.e (E.sc (S.dat (D.bool true))))) (r' := (V.e (E.sc (S.dat (D.bool true))))) (σ' := ⟨[], [], 46⟩) (by kernel_rfl) (by kernel_rfl) (by kernel_rfl) (by kernel_rfl) (by kernel_rfl) h

/- f24 torsion/torsionref05.Filled -/
def vc24 (rows : Int) (cols : Int) (v : List (List D)) (R : V → Heap → Prop) : Prop :=
  ∃ (r0 : Int) (r1 : Int) (rrows : List (List (List D))),
  (FnD prog 33 [(V.e (E.sc (S.dat (D.int .i64 (if (16 : Int) < (if (0 : Int) > rows then (0 : Int) else rows) then (16 : Int) else (if (0 : Int) > rows then (0 : Int) else rows)))))), (V.e (E.sc (S.dat (D.int .i64 (if (16 : Int) < (if (0 : Int) > cols then (0 : Int) else cols) then (16 : Int) else (if (0 : Int) > cols then (0 : Int) else cols))))))] (V.e (E.agg [(S.dat (D.int .i64 r0)), (S.dat (D.int .i64 r1)), (S.ref 0)])) [(some (Obj.mat 2 rrows))]) ∧
  (∃ (J0 : (List (List (List D))) → Int → Prop) (μ0 : (List (List (List D))) → Int → Nat),
  J0 rrows (0 : Int) ∧ ∀ (o2 : List (List (List D))) (i : Int), J0 o2 i →
    ((decide (i < r0)) = true →
      ∃ (J1 : (List (List (List D))) → Int → Prop) (μ1 : (List (List (List D))) → Int → Nat),
      J1 o2 (0 : Int) ∧ ∀ (o21 : List (List (List D))) (j : Int), J1 o21 j →
        ((decide (j < r1)) = true →
          ((decide ((IntKind.i64.wrap ((IntKind.i64.wrap (i * r1)) + j)) < (v.length : Int))) = true →
            ∃ (vx : Int) (r01 : Bool) (r11 : List (List D)),
            (0 ≤ i ∧ i < (o21.length : Int)) ∧
            (0 ≤ (IntKind.i64.wrap ((IntKind.i64.wrap (i * r1)) + j)) ∧ (IntKind.i64.wrap ((IntKind.i64.wrap (i * r1)) + j)) < (v.length : Int)) ∧
            (v[((IntKind.i64.wrap ((IntKind.i64.wrap (i * r1)) + j))).toNat]? = some [(D.int .i8 vx)]) ∧
            ((10 : Int) ≠ 0) ∧
            (FnD prog 16 [(V.e (E.sc (S.dat (D.int .i64 (IntKind.i64.wrap (vx.tmod (10 : Int)))))))] (V.e (E.agg [(S.dat (D.bool r01)), (S.dat (D.sl r11))])) []) ∧
            (∃ l, o21[(i).toNat]? = some l ∧ 0 ≤ j ∧ j < (l.length : Int)) ∧
            (J1 (o21.modify (i).toNat (fun r => r.set (j).toNat [(D.bool r01), (D.sl r11)])) (IntKind.i64.wrap (j + (1 : Int))) ∧ μ1 (o21.modify (i).toNat (fun r => r.set (j).toNat [(D.bool r01), (D.sl r11)])) (IntKind.i64.wrap (j + (1 : Int))) < μ1 o21 j)) ∧
          ((decide ((IntKind.i64.wrap ((IntKind.i64.wrap (i * r1)) + j)) < (v.length : Int))) = false →
            J0 o21 (IntKind.i64.wrap (i + (1 : Int))) ∧ μ0 o21 (IntKind.i64.wrap (i + (1 : Int))) < μ0 o2 i)) ∧
        ((decide (j < r1)) = false →
          J0 o21 (IntKind.i64.wrap (i + (1 : Int))) ∧ μ0 o21 (IntKind.i64.wrap (i + (1 : Int))) < μ0 o2 i)) ∧
    ((decide (i < r0)) = false →
      R (V.e (E.agg [(S.dat (D.int .i64 r0)), (S.dat (D.int .i64 r1)), (S.ref 0)])) [(some (Obj.mat 2 o2))]))

theorem vc24_ok (rows : Int) (cols : Int) (v : List (List D)) {R : V → Heap → Prop} (h : vc24 rows cols v R) : FnG prog 24 [(V.e (E.sc (S.dat (D.int .i64 rows)))), (V.e (E.sc (S.dat (D.int .i64 cols)))), (V.e (E.sc (S.dat (D.sl v))))] [] R := by
  unfold vc24 at h
  refine FnG.of (m := 60) (c := _) func24 rfl (by kernel_rfl) ntmps24 (Nat.le_of_ble_eq_true rfl) ?_
  refine GoJ.seq ?_
  refine GoJ.regV hT (cnt := 1) (ins := [(Or.none, 0, 1)]) (live := [0, 1, 2, 6]) (ids := [0]) (σ' := ⟨[(0, (V.e (E.sc (S.dat (D.int .i64 rows))))), (1, (V.e (E.sc (S.dat (D.int .i64 cols))))), (2, (V.e (E.sc (S.dat (D.sl v))))), (6, (V.e (E.sc (S.ptr 0 0))))], [(some (Obj.box [(S.dat (D.int .i64 (0 : Int))), (S.dat (D.int .i64 (0 : Int))), (S.dat (D.raw (.slice none 0 0)))]))], 60⟩) (obs := []) (by kernel_rfl) (by kernel_rfl) (by kernel_rfl) trivial ?_
  refine GoJ.seq ?_
  obtain ⟨r0, r1, rrows, h1, h⟩ := h
  refine GoJ.regV hT (cnt := 2) (ins := [o0, o0, o0, o0, o0, o0, ((Or.call (V.e (E.agg [(S.dat (D.int .i64 r0)), (S.dat (D.int .i64 r1)), (S.ref 0)])) [(some (Obj.mat 2 rrows))] []), 1, 1), (Or.none, 2, 1), o0]) (live := [2, 6, 7]) (ids := [0, 2, 1]) (σ' := ⟨[(2, (V.e (E.sc (S.dat (D.sl v))))), (6, (V.e (E.sc (S.ptr 0 0)))), (7, (V.e (E.sc (S.ptr 1 0))))], [(some (Obj.box [(S.dat (D.int .i64 (0 : Int))), (S.dat (D.int .i64 (0 : Int))), (S.dat (D.raw (.slice none 0 0)))])), (some (Obj.box [(S.dat (D.int .i64 r0)), (S.dat (D.int .i64 r1)), (S.ref 2)])), (some (Obj.mat 2 rrows))], 60⟩) (obs := [FnD prog 33 [(V.e (E.sc (S.dat (D.int .i64 (if (16 : Int) < (if (0 : Int) > rows then (0 : Int) else rows) then (16 : Int) else (if (0 : Int) > rows then (0 : Int) else rows)))))), (V.e (E.sc (S.dat (D.int .i64 (if (16 : Int) < (if (0 : Int) > cols then (0 : Int) else cols) then (16 : Int) else (if (0 : Int) > cols then (0 : Int) else cols))))))] (V.e (E.agg [(S.dat (D.int .i64 r0)), (S.dat (D.int .i64 r1)), (S.ref 0)])) [(some (Obj.mat 2 rrows))]]) (by kernel_rfl) (by kernel_rfl) (by kernel_rfl) ⟨h1, trivial⟩ ?_
  refine GoJ.seq ?_
  refine GoJ.seq ?_
  refine GoJ.regV hT (cnt := 0) (ins := [o0]) (live := [2, 6, 7, 8]) (ids := [0, 1, 2]) (σ' := ⟨[(2, (V.e (E.sc (S.dat (D.sl v))))), (6, (V.e (E.sc (S.ptr 0 0)))), (7, (V.e (E.sc (S.ptr 1 0)))), (8, (V.e (E.sc (S.dat (D.int .i64 (0 : Int))))))], [(some (Obj.box [(S.dat (D.int .i64 (0 : Int))), (S.dat (D.int .i64 (0 : Int))), (S.dat (D.raw (.slice none 0 0)))])), (some (Obj.box [(S.dat (D.int .i64 r0)), (S.dat (D.int .i64 r1)), (S.ref 2)])), (some (Obj.mat 2 rrows))], 60⟩) (obs := []) (by kernel_rfl) (by kernel_rfl) (by kernel_rfl) trivial ?_
  refine GoJ.block ?_
  obtain ⟨J0, μ0, hJ0, h⟩ := h
  refine GoJ.loop (X := (List (List (List D))) × Int) (fun x => (fun (o2 : List (List (List D))) (i : Int) => (⟨[(2, (V.e (E.sc (S.dat (D.sl v))))), (6, (V.e (E.sc (S.ptr 0 0)))), (7, (V.e (E.sc (S.ptr 1 0)))), (8, (V.e (E.sc (S.dat (D.int .i64 i)))))], [(some (Obj.box [(S.dat (D.int .i64 (0 : Int))), (S.dat (D.int .i64 (0 : Int))), (S.dat (D.raw (.slice none 0 0)))])), (some (Obj.box [(S.dat (D.int .i64 r0)), (S.dat (D.int .i64 r1)), (S.ref 2)])), (some (Obj.mat 2 o2))], 60⟩ : St)) (x.1) (x.2)) (fun x => J0 (x.1) (x.2)) (fun x => μ0 (x.1) (x.2)) (rrows, (0 : Int)) hJ0 ?_
  rintro ⟨o2, i⟩ hJ0 ih0
  replace h := h o2 i hJ0
  refine GoJ.seq ?_
  refine GoJ.seq ?_
  refine GoJ.regV hT (cnt := 0) (ins := [o0, o0, o0, o0]) (live := [2, 6, 7, 8, 20]) (ids := [0, 1, 2]) (σ' := ⟨[(2, (V.e (E.sc (S.dat (D.sl v))))), (6, (V.e (E.sc (S.ptr 0 0)))), (7, (V.e (E.sc (S.ptr 1 0)))), (8, (V.e (E.sc (S.dat (D.int .i64 i))))), (20, (V.e (E.sc (S.dat (D.bool (decide (i < r0)))))))], [(some (Obj.box [(S.dat (D.int .i64 (0 : Int))), (S.dat (D.int .i64 (0 : Int))), (S.dat (D.raw (.slice none 0 0)))])), (some (Obj.box [(S.dat (D.int .i64 r0)), (S.dat (D.int .i64 r1)), (S.ref 2)])), (some (Obj.mat 2 o2))], 60⟩) (obs := []) (by kernel_rfl) (by kernel_rfl) (by kernel_rfl) trivial ?_
  refine GoJ.cond (t := (decide (i < r0))) (by kernel_rfl) (fun h2 => ?_) (fun h2 => ?_)
  · replace h := h.1 h2
    refine GoJ.skip ?_
    refine GoJ.seq ?_
    refine GoJ.block ?_
    refine GoJ.seq ?_
    refine GoJ.regV hT (cnt := 0) (ins := [o0]) (live := [2, 6, 7, 8, 9]) (ids := [0, 1, 2]) (σ' := ⟨[(2, (V.e (E.sc (S.dat (D.sl v))))), (6, (V.e (E.sc (S.ptr 0 0)))), (7, (V.e (E.sc (S.ptr 1 0)))), (8, (V.e (E.sc (S.dat (D.int .i64 i))))), (9, (V.e (E.sc (S.dat (D.int .i64 (0 : Int))))))], [(some (Obj.box [(S.dat (D.int .i64 (0 : Int))), (S.dat (D.int .i64 (0 : Int))), (S.dat (D.raw (.slice none 0 0)))])), (some (Obj.box [(S.dat (D.int .i64 r0)), (S.dat (D.int .i64 r1)), (S.ref 2)])), (some (Obj.mat 2 o2))], 60⟩) (obs := []) (by kernel_rfl) (by kernel_rfl) (by kernel_rfl) trivial ?_
    refine GoJ.block ?_
    obtain ⟨J1, μ1, hJ1, h⟩ := h
    refine GoJ.loop (X := (List (List (List D))) × Int) (fun x => (fun (o21 : List (List (List D))) (j : Int) => (⟨[(2, (V.e (E.sc (S.dat (D.sl v))))), (6, (V.e (E.sc (S.ptr 0 0)))), (7, (V.e (E.sc (S.ptr 1 0)))), (8, (V.e (E.sc (S.dat (D.int .i64 i))))), (9, (V.e (E.sc (S.dat (D.int .i64 j)))))], [(some (Obj.box [(S.dat (D.int .i64 (0 : Int))), (S.dat (D.int .i64 (0 : Int))), (S.dat (D.raw (.slice none 0 0)))])), (some (Obj.box [(S.dat (D.int .i64 r0)), (S.dat (D.int .i64 r1)), (S.ref 2)])), (some (Obj.mat 2 o21))], 60⟩ : St)) (x.1) (x.2)) (fun x => J1 (x.1) (x.2)) (fun x => μ1 (x.1) (x.2)) (o2, (0 : Int)) hJ1 ?_
    rintro ⟨o21, j⟩ hJ1 ih1
    replace h := h o21 j hJ1
    refine GoJ.seq ?_
    refine GoJ.seq ?_
    rcases Bool.eq_false_or_eq_true (decide (j < r1)) with h3 | h3
    · replace h := h.1 h3
      refine GoJ.regV hT (cnt := 0) (ins := [o0, o0, o0, o0, ((Or.bool true), 0, 0), o0, o0, o0, o0, o0, o0, o0, o0, o0, o0]) (live := [2, 6, 7, 8, 9, 37]) (ids := [0, 1, 2]) (σ' := ⟨[(2, (V.e (E.sc (S.dat (D.sl v))))), (6, (V.e (E.sc (S.ptr 0 0)))), (7, (V.e (E.sc (S.ptr 1 0)))), (8, (V.e (E.sc (S.dat (D.int .i64 i))))), (9, (V.e (E.sc (S.dat (D.int .i64 j))))), (37, (V.e (E.sc (S.dat (D.bool (decide ((IntKind.i64.wrap ((IntKind.i64.wrap (i * r1)) + j)) < (v.length : Int))))))))], [(some (Obj.box [(S.dat (D.int .i64 (0 : Int))), (S.dat (D.int .i64 (0 : Int))), (S.dat (D.raw (.slice none 0 0)))])), (some (Obj.box [(S.dat (D.int .i64 r0)), (S.dat (D.int .i64 r1)), (S.ref 2)])), (some (Obj.mat 2 o21))], 60⟩) (obs := [(decide (j < r1)) = true]) (by kernel_rfl) (by kernel_rfl) (by kernel_rfl) ⟨h3, trivial⟩ ?_
      refine GoJ.cond (t := (decide ((IntKind.i64.wrap ((IntKind.i64.wrap (i * r1)) + j)) < (v.length : Int)))) (by kernel_rfl) (fun h4 => ?_) (fun h4 => ?_)
      · replace h := h.1 h4
        refine GoJ.skip ?_
        refine GoJ.seq ?_
        refine GoJ.block ?_
        obtain ⟨vx, r01, r11, h5, h6, h7, h8, h9, h10, h⟩ := h
        refine GoJ.drawV hmix hT (cnt := 0) (ins := [⟨Or.none, 0, 0, [], [7], [], []⟩, ⟨Or.none, 0, 0, [0], [40], [], []⟩, ⟨Or.none, 0, 0, [], [8], [], []⟩, ⟨Or.none, 0, 0, [0, 1, 2], [41, 42], [], []⟩, ⟨Or.none, 0, 0, [0, 1, 2, 3], [43], [], []⟩, ⟨Or.none, 0, 0, [], [9], [], []⟩, ⟨Or.none, 0, 0, [], [2], [], []⟩, ⟨Or.none, 0, 0, [], [8], [], []⟩, ⟨Or.none, 0, 0, [], [7], [], []⟩, ⟨Or.none, 0, 0, [8], [48], [], []⟩, ⟨Or.none, 0, 0, [7, 8, 9], [47, 49], [], []⟩, ⟨Or.none, 0, 0, [], [9], [], []⟩, ⟨Or.none, 0, 0, [7, 8, 9, 10, 11], [50, 51], [], []⟩, ⟨Or.none, 0, 0, [6, 7, 8, 9, 10, 11, 12], [46, 52], [], []⟩, ⟨(Or.cells [(D.int .i8 vx)]), 0, 0, [6, 7, 8, 9, 10, 11, 12, 13], [53], [], []⟩, ⟨Or.none, 0, 0, [6, 7, 8, 9, 10, 11, 12, 13, 14], [54], [], []⟩, ⟨Or.none, 0, 0, [6, 7, 8, 9, 10, 11, 12, 13, 14, 15], [55], [], []⟩, ⟨(Or.call (V.e (E.agg [(S.dat (D.bool r01)), (S.dat (D.sl r11))])) [] []), 0, 0, [6, 7, 8, 9, 10, 11, 12, 13, 14, 15, 16], [56], [], []⟩, ⟨Or.none, 0, 0, [0, 1, 2, 3, 4, 5, 6, 7, 8, 9, 10, 11, 12, 13, 14, 15, 16, 17], [44, 45], [], []⟩, ⟨Or.none, 0, 0, [0, 1, 2, 3, 4, 5, 6, 7, 8, 9, 10, 11, 12, 13, 14, 15, 16, 17, 18], [57, 58], [2], []⟩]) (live := [2, 6, 7, 8, 9]) (ids := [0, 1, 2]) (σ' := ⟨[(2, (V.e (E.sc (S.dat (D.sl v))))), (6, (V.e (E.sc (S.ptr 0 0)))), (7, (V.e (E.sc (S.ptr 1 0)))), (8, (V.e (E.sc (S.dat (D.int .i64 i))))), (9, (V.e (E.sc (S.dat (D.int .i64 j)))))], [(some (Obj.box [(S.dat (D.int .i64 (0 : Int))), (S.dat (D.int .i64 (0 : Int))), (S.dat (D.raw (.slice none 0 0)))])), (some (Obj.box [(S.dat (D.int .i64 r0)), (S.dat (D.int .i64 r1)), (S.ref 2)])), (some (Obj.mat 2 (o21.modify (i).toNat (fun r => r.set (j).toNat [(D.bool r01), (D.sl r11)]))))], 60⟩) (obs := [0 ≤ i ∧ i < (o21.length : Int), 0 ≤ (IntKind.i64.wrap ((IntKind.i64.wrap (i * r1)) + j)) ∧ (IntKind.i64.wrap ((IntKind.i64.wrap (i * r1)) + j)) < (v.length : Int), v[((IntKind.i64.wrap ((IntKind.i64.wrap (i * r1)) + j))).toNat]? = some [(D.int .i8 vx)], (10 : Int) ≠ 0, FnD prog 16 [(V.e (E.sc (S.dat (D.int .i64 (IntKind.i64.wrap (vx.tmod (10 : Int)))))))] (V.e (E.agg [(S.dat (D.bool r01)), (S.dat (D.sl r11))])) [], ∃ l, o21[(i).toNat]? = some l ∧ 0 ≤ j ∧ j < (l.length : Int)]) (by kernel_rfl) (by kernel_rfl) (by kernel_rfl) ⟨h5, h6, h7, h8, h9, h10, trivial⟩ ?_
        refine GoJ.inBlock ?_
        refine GoJ.regV hT (cnt := 0) (ins := [o0, o0, o0]) (live := [2, 6, 7, 8, 9]) (ids := [0, 1, 2]) (σ' := ⟨[(2, (V.e (E.sc (S.dat (D.sl v))))), (6, (V.e (E.sc (S.ptr 0 0)))), (7, (V.e (E.sc (S.ptr 1 0)))), (8, (V.e (E.sc (S.dat (D.int .i64 i))))), (9, (V.e (E.sc (S.dat (D.int .i64 (IntKind.i64.wrap (j + (1 : Int))))))))], [(some (Obj.box [(S.dat (D.int .i64 (0 : Int))), (S.dat (D.int .i64 (0 : Int))), (S.dat (D.raw (.slice none 0 0)))])), (some (Obj.box [(S.dat (D.int .i64 r0)), (S.dat (D.int .i64 r1)), (S.ref 2)])), (some (Obj.mat 2 (o21.modify (i).toNat (fun r => r.set (j).toNat [(D.bool r01), (D.sl r11)]))))], 60⟩) (obs := []) (by kernel_rfl) (by kernel_rfl) (by kernel_rfl) trivial ?_
        exact ih1 ((o21.modify (i).toNat (fun r => r.set (j).toNat [(D.bool r01), (D.sl r11)])), (IntKind.i64.wrap (j + (1 : Int)))) h.1 h.2
      · replace h := h.2 h4
        refine GoJ.exit rfl ?_
        refine GoJ.inBlock ?_
        refine GoJ.regV hT (cnt := 0) (ins := [o0, o0, o0]) (live := [2, 6, 7, 8]) (ids := [0, 1, 2]) (σ' := ⟨[(2, (V.e (E.sc (S.dat (D.sl v))))), (6, (V.e (E.sc (S.ptr 0 0)))), (7, (V.e (E.sc (S.ptr 1 0)))), (8, (V.e (E.sc (S.dat (D.int .i64 (IntKind.i64.wrap (i + (1 : Int))))))))], [(some (Obj.box [(S.dat (D.int .i64 (0 : Int))), (S.dat (D.int .i64 (0 : Int))), (S.dat (D.raw (.slice none 0 0)))])), (some (Obj.box [(S.dat (D.int .i64 r0)), (S.dat (D.int .i64 r1)), (S.ref 2)])), (some (Obj.mat 2 o21))], 60⟩) (obs := []) (by kernel_rfl) (by kernel_rfl) (by kernel_rfl) trivial ?_
        exact ih0 (o21, (IntKind.i64.wrap (i + (1 : Int)))) h.1 h.2
    · replace h := h.2 h3
      refine GoJ.regV hT (cnt := 0) (ins := [o0, o0, o0, o0, ((Or.bool false), 0, 0), o0, o0, o0, o0, o0, o0, o0, o0, o0, o0]) (live := [2, 6, 7, 8, 9, 37]) (ids := [0, 1, 2]) (σ' := ⟨[(2, (V.e (E.sc (S.dat (D.sl v))))), (6, (V.e (E.sc (S.ptr 0 0)))), (7, (V.e (E.sc (S.ptr 1 0)))), (8, (V.e (E.sc (S.dat (D.int .i64 i))))), (9, (V.e (E.sc (S.dat (D.int .i64 j))))), (37, (V.e (E.sc (S.dat (D.bool false)))))], [(some (Obj.box [(S.dat (D.int .i64 (0 : Int))), (S.dat (D.int .i64 (0 : Int))), (S.dat (D.raw (.slice none 0 0)))])), (some (Obj.box [(S.dat (D.int .i64 r0)), (S.dat (D.int .i64 r1)), (S.ref 2)])), (some (Obj.mat 2 o21))], 60⟩) (obs := [(decide (j < r1)) = false]) (by kernel_rfl) (by kernel_rfl) (by kernel_rfl) ⟨h3, trivial⟩ ?_
      refine GoJ.cond (t := false) (by kernel_rfl) (fun hf => nomatch hf) (fun _ => ?_)
      refine GoJ.exit rfl ?_
      refine GoJ.inBlock ?_
      refine GoJ.regV hT (cnt := 0) (ins := [o0, o0, o0]) (live := [2, 6, 7, 8]) (ids := [0, 1, 2]) (σ' := ⟨[(2, (V.e (E.sc (S.dat (D.sl v))))), (6, (V.e (E.sc (S.ptr 0 0)))), (7, (V.e (E.sc (S.ptr 1 0)))), (8, (V.e (E.sc (S.dat (D.int .i64 (IntKind.i64.wrap (i + (1 : Int))))))))], [(some (Obj.box [(S.dat (D.int .i64 (0 : Int))), (S.dat (D.int .i64 (0 : Int))), (S.dat (D.raw (.slice none 0 0)))])), (some (Obj.box [(S.dat (D.int .i64 r0)), (S.dat (D.int .i64 r1)), (S.ref 2)])), (some (Obj.mat 2 o21))], 60⟩) (obs := []) (by kernel_rfl) (by kernel_rfl) (by kernel_rfl) trivial ?_
      exact ih0 (o21, (IntKind.i64.wrap (i + (1 : Int)))) h.1 h.2
  · replace h := h.2 h2
    refine GoJ.exit rfl ?_
    refine GoJ.seq ?_
    refine GoJ.regV hT (cnt := 0) (ins := [o0, o0]) (live := [6]) (ids := [0, 2]) (σ' := ⟨[(6, (V.e (E.sc (S.ptr 0 0))))], [(some (Obj.box [(S.dat (D.int .i64 r0)), (S.dat (D.int .i64 r1)), (S.ref 1)])), (some (Obj.mat 2 o2))], 60⟩) (obs := []) (by kernel_rfl) (by kernel_rfl) (by kernel_rfl) trivial ?_
    exact GoJ.retV hT func24 (ids := [1]) (r := (V.e (E.agg [(S.dat (D.int .i64 r0)), (S.dat (D.int .i64 r1)), (S.ref 1)]))) (r' := (V.e (E.agg [(S.dat (D.int .i64 r0)), (S.dat (D.int .i64 r1)), (S.ref 0)]))) (σ' := ⟨[], [(some (Obj.mat 2 o2))], 60⟩) (by kernel_rfl) (by kernel_rfl) (by kernel_rfl) (by kernel_rfl) (by kernel_rfl) h

/- f70 torsion/torsionref05.Ints -/
def vc70 (rows : Int) (cols : Int) (l : List (List D)) (R : V → Heap → Prop) : Prop :=
  ∃ (r0 : Int) (r1 : Int) (rrows : List (List (List D))),
  (FnD prog 33 [(V.e (E.sc (S.dat (D.int .i64 rows)))), (V.e (E.sc (S.dat (D.int .i64 cols))))] (V.e (E.agg [(S.dat (D.int .i64 r0)), (S.dat (D.int .i64 r1)), (S.ref 0)])) [(some (Obj.mat 2 rrows))]) ∧
  (∃ (J0 : (List (List (List D))) → Int → Prop) (μ0 : (List (List (List D))) → Int → Nat),
  J0 rrows (0 : Int) ∧ ∀ (o2 : List (List (List D))) (i : Int), J0 o2 i →
    ((decide (i < rows)) = true →
      ∃ (J1 : (List (List (List D))) → Int → Prop) (μ1 : (List (List (List D))) → Int → Nat),
      J1 o2 (0 : Int) ∧ ∀ (o21 : List (List (List D))) (j : Int), J1 o21 j →
        ((decide (j < cols)) = true →
          ((decide ((IntKind.i64.wrap ((IntKind.i64.wrap (i * cols)) + j)) < (l.length : Int))) = true →
            ∃ (vx : Int) (r01 : Bool) (r11 : List (List D)),
            (0 ≤ i ∧ i < (o21.length : Int)) ∧
            (0 ≤ (IntKind.i64.wrap ((IntKind.i64.wrap (i * cols)) + j)) ∧ (IntKind.i64.wrap ((IntKind.i64.wrap (i * cols)) + j)) < (l.length : Int)) ∧
            (l[((IntKind.i64.wrap ((IntKind.i64.wrap (i * cols)) + j))).toNat]? = some [(D.int .i64 vx)]) ∧
            (FnD prog 16 [(V.e (E.sc (S.dat (D.int .i64 vx))))] (V.e (E.agg [(S.dat (D.bool r01)), (S.dat (D.sl r11))])) []) ∧
            (∃ l, o21[(i).toNat]? = some l ∧ 0 ≤ j ∧ j < (l.length : Int)) ∧
            (J1 (o21.modify (i).toNat (fun r => r.set (j).toNat [(D.bool r01), (D.sl r11)])) (IntKind.i64.wrap (j + (1 : Int))) ∧ μ1 (o21.modify (i).toNat (fun r => r.set (j).toNat [(D.bool r01), (D.sl r11)])) (IntKind.i64.wrap (j + (1 : Int))) < μ1 o21 j)) ∧
          ((decide ((IntKind.i64.wrap ((IntKind.i64.wrap (i * cols)) + j)) < (l.length : Int))) = false →
            J0 o21 (IntKind.i64.wrap (i + (1 : Int))) ∧ μ0 o21 (IntKind.i64.wrap (i + (1 : Int))) < μ0 o2 i)) ∧
        ((decide (j < cols)) = false →
          J0 o21 (IntKind.i64.wrap (i + (1 : Int))) ∧ μ0 o21 (IntKind.i64.wrap (i + (1 : Int))) < μ0 o2 i)) ∧
    ((decide (i < rows)) = false →
      R (V.e (E.agg [(S.dat (D.int .i64 r0)), (S.dat (D.int .i64 r1)), (S.ref 0)])) [(some (Obj.mat 2 o2))]))

theorem vc70_ok (rows : Int) (cols : Int) (l : List (List D)) {R : V → Heap → Prop} (h : vc70 rows cols l R) : FnG prog 70 [(V.e (E.sc (S.dat (D.int .i64 rows)))), (V.e (E.sc (S.dat (D.int .i64 cols)))), (V.e (E.sc (S.dat (D.sl l))))] [] R := by
  unfold vc70 at h
  refine FnG.of (m := 50) (c := _) func70 rfl (by kernel_rfl) ntmps70 (Nat.le_of_ble_eq_true rfl) ?_
  refine GoJ.seq ?_
  refine GoJ.regV hT (cnt := 1) (ins := [(Or.none, 0, 1)]) (live := [0, 1, 2, 6]) (ids := [0]) (σ' := ⟨[(0, (V.e (E.sc (S.dat (D.int .i64 rows))))), (1, (V.e (E.sc (S.dat (D.int .i64 cols))))), (2, (V.e (E.sc (S.dat (D.sl l))))), (6, (V.e (E.sc (S.ptr 0 0))))], [(some (Obj.box [(S.dat (D.int .i64 (0 : Int))), (S.dat (D.int .i64 (0 : Int))), (S.dat (D.raw (.slice none 0 0)))]))], 50⟩) (obs := []) (by kernel_rfl) (by kernel_rfl) (by kernel_rfl) trivial ?_
  refine GoJ.seq ?_
  obtain ⟨r0, r1, rrows, h1, h⟩ := h
  refine GoJ.regV hT (cnt := 2) (ins := [o0, o0, ((Or.call (V.e (E.agg [(S.dat (D.int .i64 r0)), (S.dat (D.int .i64 r1)), (S.ref 0)])) [(some (Obj.mat 2 rrows))] []), 1, 1), (Or.none, 2, 1), o0]) (live := [0, 1, 2, 6, 7]) (ids := [0, 2, 1]) (σ' := ⟨[(0, (V.e (E.sc (S.dat (D.int .i64 rows))))), (1, (V.e (E.sc (S.dat (D.int .i64 cols))))), (2, (V.e (E.sc (S.dat (D.sl l))))), (6, (V.e (E.sc (S.ptr 0 0)))), (7, (V.e (E.sc (S.ptr 1 0))))], [(some (Obj.box [(S.dat (D.int .i64 (0 : Int))), (S.dat (D.int .i64 (0 : Int))), (S.dat (D.raw (.slice none 0 0)))])), (some (Obj.box [(S.dat (D.int .i64 r0)), (S.dat (D.int .i64 r1)), (S.ref 2)])), (some (Obj.mat 2 rrows))], 50⟩) (obs := [FnD prog 33 [(V.e (E.sc (S.dat (D.int .i64 rows)))), (V.e (E.sc (S.dat (D.int .i64 cols))))] (V.e (E.agg [(S.dat (D.int .i64 r0)), (S.dat (D.int .i64 r1)), (S.ref 0)])) [(some (Obj.mat 2 rrows))]]) (by kernel_rfl) (by kernel_rfl) (by kernel_rfl) ⟨h1, trivial⟩ ?_
  refine GoJ.seq ?_
  refine GoJ.seq ?_
  refine GoJ.regV hT (cnt := 0) (ins := [o0]) (live := [0, 1, 2, 6, 7, 8]) (ids := [0, 1, 2]) (σ' := ⟨[(0, (V.e (E.sc (S.dat (D.int .i64 rows))))), (1, (V.e (E.sc (S.dat (D.int .i64 cols))))), (2, (V.e (E.sc (S.dat (D.sl l))))), (6, (V.e (E.sc (S.ptr 0 0)))), (7, (V.e (E.sc (S.ptr 1 0)))), (8, (V.e (E.sc (S.dat (D.int .i64 (0 : Int))))))], [(some (Obj.box [(S.dat (D.int .i64 (0 : Int))), (S.dat (D.int .i64 (0 : Int))), (S.dat (D.raw (.slice none 0 0)))])), (some (Obj.box [(S.dat (D.int .i64 r0)), (S.dat (D.int .i64 r1)), (S.ref 2)])), (some (Obj.mat 2 rrows))], 50⟩) (obs := []) (by kernel_rfl) (by kernel_rfl) (by kernel_rfl) trivial ?_
  refine GoJ.block ?_
  obtain ⟨J0, μ0, hJ0, h⟩ := h
  refine GoJ.loop (X := (List (List (List D))) × Int) (fun x => (fun (o2 : List (List (List D))) (i : Int) => (⟨[(0, (V.e (E.sc (S.dat (D.int .i64 rows))))), (1, (V.e (E.sc (S.dat (D.int .i64 cols))))), (2, (V.e (E.sc (S.dat (D.sl l))))), (6, (V.e (E.sc (S.ptr 0 0)))), (7, (V.e (E.sc (S.ptr 1 0)))), (8, (V.e (E.sc (S.dat (D.int .i64 i)))))], [(some (Obj.box [(S.dat (D.int .i64 (0 : Int))), (S.dat (D.int .i64 (0 : Int))), (S.dat (D.raw (.slice none 0 0)))])), (some (Obj.box [(S.dat (D.int .i64 r0)), (S.dat (D.int .i64 r1)), (S.ref 2)])), (some (Obj.mat 2 o2))], 50⟩ : St)) (x.1) (x.2)) (fun x => J0 (x.1) (x.2)) (fun x => μ0 (x.1) (x.2)) (rrows, (0 : Int)) hJ0 ?_
  rintro ⟨o2, i⟩ hJ0 ih0
  replace h := h o2 i hJ0
  refine GoJ.seq ?_
  refine GoJ.seq ?_
  refine GoJ.regV hT (cnt := 0) (ins := [o0, o0, o0]) (live := [0, 1, 2, 6, 7, 8, 15]) (ids := [0, 1, 2]) (σ' := ⟨[(0, (V.e (E.sc (S.dat (D.int .i64 rows))))), (1, (V.e (E.sc (S.dat (D.int .i64 cols))))), (2, (V.e (E.sc (S.dat (D.sl l))))), (6, (V.e (E.sc (S.ptr 0 0)))), (7, (V.e (E.sc (S.ptr 1 0)))), (8, (V.e (E.sc (S.dat (D.int .i64 i))))), (15, (V.e (E.sc (S.dat (D.bool (decide (i < rows)))))))], [(some (Obj.box [(S.dat (D.int .i64 (0 : Int))), (S.dat (D.int .i64 (0 : Int))), (S.dat (D.raw (.slice none 0 0)))])), (some (Obj.box [(S.dat (D.int .i64 r0)), (S.dat (D.int .i64 r1)), (S.ref 2)])), (some (Obj.mat 2 o2))], 50⟩) (obs := []) (by kernel_rfl) (by kernel_rfl) (by kernel_rfl) trivial ?_
  refine GoJ.cond (t := (decide (i < rows))) (by kernel_rfl) (fun h2 => ?_) (fun h2 => ?_)
  · replace h := h.1 h2
    refine GoJ.skip ?_
    refine GoJ.seq ?_
    refine GoJ.block ?_
    refine GoJ.seq ?_
    refine GoJ.regV hT (cnt := 0) (ins := [o0]) (live := [0, 1, 2, 6, 7, 8, 9]) (ids := [0, 1, 2]) (σ' := ⟨[(0, (V.e (E.sc (S.dat (D.int .i64 rows))))), (1, (V.e (E.sc (S.dat (D.int .i64 cols))))), (2, (V.e (E.sc (S.dat (D.sl l))))), (6, (V.e (E.sc (S.ptr 0 0)))), (7, (V.e (E.sc (S.ptr 1 0)))), (8, (V.e (E.sc (S.dat (D.int .i64 i))))), (9, (V.e (E.sc (S.dat (D.int .i64 (0 : Int))))))], [(some (Obj.box [(S.dat (D.int .i64 (0 : Int))), (S.dat (D.int .i64 (0 : Int))), (S.dat (D.raw (.slice none 0 0)))])), (some (Obj.box [(S.dat (D.int .i64 r0)), (S.dat (D.int .i64 r1)), (S.ref 2)])), (some (Obj.mat 2 o2))], 50⟩) (obs := []) (by kernel_rfl) (by kernel_rfl) (by kernel_rfl) trivial ?_
    refine GoJ.block ?_
    obtain ⟨J1, μ1, hJ1, h⟩ := h
    refine GoJ.loop (X := (List (List (List D))) × Int) (fun x => (fun (o21 : List (List (List D))) (j : Int) => (⟨[(0, (V.e (E.sc (S.dat (D.int .i64 rows))))), (1, (V.e (E.sc (S.dat (D.int .i64 cols))))), (2, (V.e (E.sc (S.dat (D.sl l))))), (6, (V.e (E.sc (S.ptr 0 0)))), (7, (V.e (E.sc (S.ptr 1 0)))), (8, (V.e (E.sc (S.dat (D.int .i64 i))))), (9, (V.e (E.sc (S.dat (D.int .i64 j)))))], [(some (Obj.box [(S.dat (D.int .i64 (0 : Int))), (S.dat (D.int .i64 (0 : Int))), (S.dat (D.raw (.slice none 0 0)))])), (some (Obj.box [(S.dat (D.int .i64 r0)), (S.dat (D.int .i64 r1)), (S.ref 2)])), (some (Obj.mat 2 o21))], 50⟩ : St)) (x.1) (x.2)) (fun x => J1 (x.1) (x.2)) (fun x => μ1 (x.1) (x.2)) (o2, (0 : Int)) hJ1 ?_
    rintro ⟨o21, j⟩ hJ1 ih1
    replace h := h o21 j hJ1
    refine GoJ.seq ?_
    refine GoJ.seq ?_
    rcases Bool.eq_false_or_eq_true (decide (j < cols)) with h3 | h3
    · replace h := h.1 h3
      refine GoJ.regV hT (cnt := 0) (ins := [o0, o0, o0, ((Or.bool true), 0, 0), o0, o0, o0, o0, o0, o0, o0, o0, o0]) (live := [0, 1, 2, 6, 7, 8, 9, 30]) (ids := [0, 1, 2]) (σ' := ⟨[(0, (V.e (E.sc (S.dat (D.int .i64 rows))))), (1, (V.e (E.sc (S.dat (D.int .i64 cols))))), (2, (V.e (E.sc (S.dat (D.sl l))))), (6, (V.e (E.sc (S.ptr 0 0)))), (7, (V.e (E.sc (S.ptr 1 0)))), (8, (V.e (E.sc (S.dat (D.int .i64 i))))), (9, (V.e (E.sc (S.dat (D.int .i64 j))))), (30, (V.e (E.sc (S.dat (D.bool (decide ((IntKind.i64.wrap ((IntKind.i64.wrap (i * cols)) + j)) < (l.length : Int))))))))], [(some (Obj.box [(S.dat (D.int .i64 (0 : Int))), (S.dat (D.int .i64 (0 : Int))), (S.dat (D.raw (.slice none 0 0)))])), (some (Obj.box [(S.dat (D.int .i64 r0)), (S.dat (D.int .i64 r1)), (S.ref 2)])), (some (Obj.mat 2 o21))], 50⟩) (obs := [(decide (j < cols)) = true]) (by kernel_rfl) (by kernel_rfl) (by kernel_rfl) ⟨h3, trivial⟩ ?_
      refine GoJ.cond (t := (decide ((IntKind.i64.wrap ((IntKind.i64.wrap (i * cols)) + j)) < (l.length : Int)))) (by kernel_rfl) (fun h4 => ?_) (fun h4 => ?_)
      · replace h := h.1 h4
        refine GoJ.skip ?_
        refine GoJ.seq ?_
        refine GoJ.block ?_
        obtain ⟨vx, r01, r11, h5, h6, h7, h8, h9, h⟩ := h
        refine GoJ.drawV hmix hT (cnt := 0) (ins := [⟨Or.none, 0, 0, [], [7], [], []⟩, ⟨Or.none, 0, 0, [0], [33], [], []⟩, ⟨Or.none, 0, 0, [], [8], [], []⟩, ⟨Or.none, 0, 0, [0, 1, 2], [34, 35], [], []⟩, ⟨Or.none, 0, 0, [0, 1, 2, 3], [36], [], []⟩, ⟨Or.none, 0, 0, [], [9], [], []⟩, ⟨Or.none, 0, 0, [], [2], [], []⟩, ⟨Or.none, 0, 0, [], [8], [], []⟩, ⟨Or.none, 0, 0, [], [1], [], []⟩, ⟨Or.none, 0, 0, [7, 8], [40, 41], [], []⟩, ⟨Or.none, 0, 0, [], [9], [], []⟩, ⟨Or.none, 0, 0, [7, 8, 9, 10], [42, 43], [], []⟩, ⟨Or.none, 0, 0, [6, 7, 8, 9, 10, 11], [39, 44], [], []⟩, ⟨(Or.cells [(D.int .i64 vx)]), 0, 0, [6, 7, 8, 9, 10, 11, 12], [45], [], []⟩, ⟨(Or.call (V.e (E.agg [(S.dat (D.bool r01)), (S.dat (D.sl r11))])) [] []), 0, 0, [6, 7, 8, 9, 10, 11, 12, 13], [46], [], []⟩, ⟨Or.none, 0, 0, [0, 1, 2, 3, 4, 5, 6, 7, 8, 9, 10, 11, 12, 13, 14], [37, 38], [], []⟩, ⟨Or.none, 0, 0, [0, 1, 2, 3, 4, 5, 6, 7, 8, 9, 10, 11, 12, 13, 14, 15], [47, 48], [2], []⟩]) (live := [0, 1, 2, 6, 7, 8, 9]) (ids := [0, 1, 2]) (σ' := ⟨[(0, (V.e (E.sc (S.dat (D.int .i64 rows))))), (1, (V.e (E.sc (S.dat (D.int .i64 cols))))), (2, (V.e (E.sc (S.dat (D.sl l))))), (6, (V.e (E.sc (S.ptr 0 0)))), (7, (V.e (E.sc (S.ptr 1 0)))), (8, (V.e (E.sc (S.dat (D.int .i64 i))))), (9, (V.e (E.sc (S.dat (D.int .i64 j)))))], [(some (Obj.box [(S.dat (D.int .i64 (0 : Int))), (S.dat (D.int .i64 (0 : Int))), (S.dat (D.raw (.slice none 0 0)))])), (some (Obj.box [(S.dat (D.int .i64 r0)), (S.dat (D.int .i64 r1)), (S.ref 2)])), (some (Obj.mat 2 (o21.modify (i).toNat (fun r => r.set (j).toNat [(D.bool r01), (D.sl r11)]))))], 50⟩) (obs := [0 ≤ i ∧ i < (o21.length : Int), 0 ≤ (IntKind.i64.wrap ((IntKind.i64.wrap (i * cols)) + j)) ∧ (IntKind.i64.wrap ((IntKind.i64.wrap (i * cols)) + j)) < (l.length : Int), l[((IntKind.i64.wrap ((IntKind.i64.wrap (i * cols)) + j))).toNat]? = some [(D.int .i64 vx)], FnD prog 16 [(V.e (E.sc (S.dat (D.int .i64 vx))))] (V.e (E.agg [(S.dat (D.bool r01)), (S.dat (D.sl r11))])) [], ∃ l, o21[(i).toNat]? = some l ∧ 0 ≤ j ∧ j < (l.length : Int)]) (by kernel_rfl) (by kernel_rfl) (by kernel_rfl) ⟨h5, h6, h7, h8, h9, trivial⟩ ?_
        refine GoJ.inBlock ?_
        refine GoJ.regV hT (cnt := 0) (ins := [o0, o0, o0]) (live := [0, 1, 2, 6, 7, 8, 9]) (ids := [0, 1, 2]) (σ' := ⟨[(0, (V.e (E.sc (S.dat (D.int .i64 rows))))), (1, (V.e (E.sc (S.dat (D.int .i64 cols))))), (2, (V.e (E.sc (S.dat (D.sl l))))), (6, (V.e (E.sc (S.ptr 0 0)))), (7, (V.e (E.sc (S.ptr 1 0)))), (8, (V.e (E.sc (S.dat (D.int .i64 i))))), (9, (V.e (E.sc (S.dat (D.int .i64 (IntKind.i64.wrap (j + (1 : Int))))))))], [(some (Obj.box [(S.dat (D.int .i64 (0 : Int))), (S.dat (D.int .i64 (0 : Int))), (S.dat (D.raw (.slice none 0 0)))])), (some (Obj.box [(S.dat (D.int .i64 r0)), (S.dat (D.int .i64 r1)), (S.ref 2)])), (some (Obj.mat 2 (o21.modify (i).toNat (fun r => r.set (j).toNat [(D.bool r01), (D.sl r11)]))))], 50⟩) (obs := []) (by kernel_rfl) (by kernel_rfl) (by kernel_rfl) trivial ?_
        exact ih1 ((o21.modify (i).toNat (fun r => r.set (j).toNat [(D.bool r01), (D.sl r11)])), (IntKind.i64.wrap (j + (1 : Int)))) h.1 h.2
      · replace h := h.2 h4
        refine GoJ.exit rfl ?_
        refine GoJ.inBlock ?_
        refine GoJ.regV hT (cnt := 0) (ins := [o0, o0, o0]) (live := [0, 1, 2, 6, 7, 8]) (ids := [0, 1, 2]) (σ' := ⟨[(0, (V.e (E.sc (S.dat (D.int .i64 rows))))), (1, (V.e (E.sc (S.dat (D.int .i64 cols))))), (2, (V.e (E.sc (S.dat (D.sl l))))), (6, (V.e (E.sc (S.ptr 0 0)))), (7, (V.e (E.sc (S.ptr 1 0)))), (8, (V.e (E.sc (S.dat (D.int .i64 (IntKind.i64.wrap (i + (1 : Int))))))))], [(some (Obj.box [(S.dat (D.int .i64 (0 : Int))), (S.dat (D.int .i64 (0 : Int))), (S.dat (D.raw (.slice none 0 0)))])), (some (Obj.box [(S.dat (D.int .i64 r0)), (S.dat (D.int .i64 r1)), (S.ref 2)])), (some (Obj.mat 2 o21))], 50⟩) (obs := []) (by kernel_rfl) (by kernel_rfl) (by kernel_rfl) trivial ?_
        exact ih0 (o21, (IntKind.i64.wrap (i + (1 : Int)))) h.1 h.2
    · replace h := h.2 h3
      refine GoJ.regV hT (cnt := 0) (ins := [o0, o0, o0, ((Or.bool false), 0, 0), o0, o0, o0, o0, o0, o0, o0, o0, o0]) (live := [0, 1, 2, 6, 7, 8, 9, 30]) (ids := [0, 1, 2]) (σ' := ⟨[(0, (V.e (E.sc (S.dat (D.int .i64 rows))))), (1, (V.e (E.sc (S.dat (D.int .i64 cols))))), (2, (V.e (E.sc (S.dat (D.sl l))))), (6, (V.e (E.sc (S.ptr 0 0)))), (7, (V.e (E.sc (S.ptr 1 0)))), (8, (V.e (E.sc (S.dat (D.int .i64 i))))), (9, (V.e (E.sc (S.dat (D.int .i64 j))))), (30, (V.e (E.sc (S.dat (D.bool false)))))], [(some (Obj.box [(S.dat (D.int .i64 (0 : Int))), (S.dat (D.int .i64 (0 : Int))), (S.dat (D.raw (.slice none 0 0)))])), (some (Obj.box [(S.dat (D.int .i64 r0)), (S.dat (D.int .i64 r1)), (S.ref 2)])), (some (Obj.mat 2 o21))], 50⟩) (obs := [(decide (j < cols)) = false]) (by kernel_rfl) (by kernel_rfl) (by kernel_rfl) ⟨h3, trivial⟩ ?_
      refine GoJ.cond (t := false) (by kernel_rfl) (fun hf => nomatch hf) (fun _ => ?_)
      refine GoJ.exit rfl ?_
      refine GoJ.inBlock ?_
      refine GoJ.regV hT (cnt := 0) (ins := [o0, o0, o0]) (live := [0, 1, 2, 6, 7, 8]) (ids := [0, 1, 2]) (σ' := ⟨[(0, (V.e (E.sc (S.dat (D.int .i64 rows))))), (1, (V.e (E.sc (S.dat (D.int .i64 cols))))), (2, (V.e (E.sc (S.dat (D.sl l))))), (6, (V.e (E.sc (S.ptr 0 0)))), (7, (V.e (E.sc (S.ptr 1 0)))), (8, (V.e (E.sc (S.dat (D.int .i64 (IntKind.i64.wrap (i + (1 : Int))))))))], [(some (Obj.box [(S.dat (D.int .i64 (0 : Int))), (S.dat (D.int .i64 (0 : Int))), (S.dat (D.raw (.slice none 0 0)))])), (some (Obj.box [(S.dat (D.int .i64 r0)), (S.dat (D.int .i64 r1)), (S.ref 2)])), (some (Obj.mat 2 o21))], 50⟩) (obs := []) (by kernel_rfl) (by kernel_rfl) (by kernel_rfl) trivial ?_
      exact ih0 (o21, (IntKind.i64.wrap (i + (1 : Int)))) h.1 h.2
  · replace h := h.2 h2
    refine GoJ.exit rfl ?_
    refine GoJ.seq ?_
    refine GoJ.regV hT (cnt := 0) (ins := [o0, o0]) (live := [6]) (ids := [0, 2]) (σ' := ⟨[(6, (V.e (E.sc (S.ptr 0 0))))], [(some (Obj.box [(S.dat (D.int .i64 r0)), (S.dat (D.int .i64 r1)), (S.ref 1)])), (some (Obj.mat 2 o2))], 50⟩) (obs := []) (by kernel_rfl) (by kernel_rfl) (by kernel_rfl) trivial ?_
    exact GoJ.retV hT func70 (ids := [1]) (r := (V.e (E.agg [(S.dat (D.int .i64 r0)), (S.dat (D.int .i64 r1)), (S.ref 1)]))) (r' := (V.e (E.agg [(S.dat (D.int .i64 r0)), (S.dat (D.int .i64 r1)), (S.ref 0)]))) (σ' := ⟨[], [(some (Obj.mat 2 o2))], 50⟩) (by kernel_rfl) (by kernel_rfl) (by kernel_rfl) (by kernel_rfl) (by kernel_rfl) h

end Go.AM
