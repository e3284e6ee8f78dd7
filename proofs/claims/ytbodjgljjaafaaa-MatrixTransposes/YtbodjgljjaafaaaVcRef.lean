/- What functions of the program come to: group Ref. Printed by vc.py. -/
import Derived.Test.YtbodjgljjaafaaaVcTab

set_option maxRecDepth 100000
set_option linter.unusedVariables false

namespace Go.AM
open Go.Proofs.Try

/- f71 torsion/torsionref01.Made -/
def vc71 (raw : List (List D)) (neg : Bool) (R : V → Heap → Prop) : Prop :=
  ∃ (J0 : Int → Prop) (μ0 : Int → Nat),
  J0 (raw.length : Int) ∧ ∀ (n : Int), J0 n →
    ((decide (n > (0 : Int))) = true →
      ∃ (vx : Int),
      (0 ≤ (IntKind.i64.wrap (n - (1 : Int))) ∧ (IntKind.i64.wrap (n - (1 : Int))) < (raw.length : Int)) ∧
      (raw[((IntKind.i64.wrap (n - (1 : Int)))).toNat]? = some [(D.int .u32 vx)]) ∧
      (((vx == (0 : Int)) = true →
        J0 (IntKind.i64.wrap (n - (1 : Int))) ∧ μ0 (IntKind.i64.wrap (n - (1 : Int))) < μ0 n) ∧
      ((vx == (0 : Int)) = false →
        (neg = true →
          (0 ≤ n ∧ n ≤ (raw.length : Int)) ∧
          (∀ y ∈ (raw.take (n).toNat), y.length = 1) ∧
          ((([] : List (List D)).length + ((raw.take (n).toNat) : List (List D)).length) * 4 ≤ 140737488355328) ∧
          (R (V.e (E.agg [(S.dat (D.bool (decide (n > (0 : Int))))), (S.dat (D.sl (([] : List (List D)) ++ (raw.take (n).toNat))))])) [])) ∧
        (neg = false →
          (0 ≤ n ∧ n ≤ (raw.length : Int)) ∧
          (∀ y ∈ (raw.take (n).toNat), y.length = 1) ∧
          ((([] : List (List D)).length + ((raw.take (n).toNat) : List (List D)).length) * 4 ≤ 140737488355328) ∧
          (R (V.e (E.agg [(S.dat (D.bool false)), (S.dat (D.sl (([] : List (List D)) ++ (raw.take (n).toNat))))])) []))))) ∧
    ((decide (n > (0 : Int))) = false →
      (neg = true →
        (0 ≤ n ∧ n ≤ (raw.length : Int)) ∧
        (∀ y ∈ (raw.take (n).toNat), y.length = 1) ∧
        ((([] : List (List D)).length + ((raw.take (n).toNat) : List (List D)).length) * 4 ≤ 140737488355328) ∧
        (R (V.e (E.agg [(S.dat (D.bool (decide (n > (0 : Int))))), (S.dat (D.sl (([] : List (List D)) ++ (raw.take (n).toNat))))])) [])) ∧
      (neg = false →
        (0 ≤ n ∧ n ≤ (raw.length : Int)) ∧
        (∀ y ∈ (raw.take (n).toNat), y.length = 1) ∧
        ((([] : List (List D)).length + ((raw.take (n).toNat) : List (List D)).length) * 4 ≤ 140737488355328) ∧
        (R (V.e (E.agg [(S.dat (D.bool false)), (S.dat (D.sl (([] : List (List D)) ++ (raw.take (n).toNat))))])) [])))

theorem vc71_ok (raw : List (List D)) (neg : Bool) {R : V → Heap → Prop} (h : vc71 raw neg R) : FnG prog 71 [(V.e (E.sc (S.dat (D.sl raw)))), (V.e (E.sc (S.dat (D.bool neg))))] [] R := by
  unfold vc71 at h
  refine FnG.of (m := 31) (c := _) func71 rfl (by kernel_rfl) ntmps71 (Nat.le_of_ble_eq_true rfl) ?_
  refine GoJ.seq ?_
  refine GoJ.regV hT (cnt := 1) (ins := [(Or.none, 0, 1)]) (live := [0, 1, 4]) (ids := [0]) (σ' := ⟨[(0, (V.e (E.sc (S.dat (D.sl raw))))), (1, (V.e (E.sc (S.dat (D.bool neg))))), (4, (V.e (E.sc (S.ptr 0 0))))], [(some (Obj.box [(S.dat (D.bool false)), (S.dat (D.raw (.slice none 0 0)))]))], 31⟩) (obs := []) (by kernel_rfl) (by kernel_rfl) (by kernel_rfl) trivial ?_
  refine GoJ.seq ?_
  refine GoJ.regV hT (cnt := 0) (ins := [o0, o0, o0]) (live := [0, 1, 4, 5]) (ids := [0]) (σ' := ⟨[(0, (V.e (E.sc (S.dat (D.sl raw))))), (1, (V.e (E.sc (S.dat (D.bool neg))))), (4, (V.e (E.sc (S.ptr 0 0)))), (5, (V.e (E.sc (S.dat (D.int .i64 (raw.length : Int))))))], [(some (Obj.box [(S.dat (D.bool false)), (S.dat (D.raw (.slice none 0 0)))]))], 31⟩) (obs := []) (by kernel_rfl) (by kernel_rfl) (by kernel_rfl) trivial ?_
  refine GoJ.seq ?_
  refine GoJ.block ?_
  obtain ⟨J0, μ0, hJ0, h⟩ := h
  refine GoJ.loop (X := Int) (fun x => (fun (n : Int) => (⟨[(0, (V.e (E.sc (S.dat (D.sl raw))))), (1, (V.e (E.sc (S.dat (D.bool neg))))), (4, (V.e (E.sc (S.ptr 0 0)))), (5, (V.e (E.sc (S.dat (D.int .i64 n)))))], [(some (Obj.box [(S.dat (D.bool false)), (S.dat (D.raw (.slice none 0 0)))]))], 31⟩ : St)) (x)) (fun x => J0 (x)) (fun x => μ0 (x)) ((raw.length : Int)) hJ0 ?_
  rintro n hJ0 ih0
  replace h := h n hJ0
  refine GoJ.seq ?_
  refine GoJ.seq ?_
  rcases Bool.eq_false_or_eq_true (decide (n > (0 : Int))) with h1 | h1
  · replace h := h.1 h1
    obtain ⟨vx, h2, h3, h⟩ := h
    refine GoJ.regV hT (cnt := 0) (ins := [o0, o0, ((Or.bool true), 0, 0), o0, o0, o0, o0, ((Or.cells [(D.int .u32 vx)]), 0, 0), o0, o0]) (live := [0, 1, 4, 5, 17]) (ids := [0]) (σ' := ⟨[(0, (V.e (E.sc (S.dat (D.sl raw))))), (1, (V.e (E.sc (S.dat (D.bool neg))))), (4, (V.e (E.sc (S.ptr 0 0)))), (5, (V.e (E.sc (S.dat (D.int .i64 n))))), (17, (V.e (E.sc (S.dat (D.bool (vx == (0 : Int)))))))], [(some (Obj.box [(S.dat (D.bool false)), (S.dat (D.raw (.slice none 0 0)))]))], 31⟩) (obs := [(decide (n > (0 : Int))) = true, 0 ≤ (IntKind.i64.wrap (n - (1 : Int))) ∧ (IntKind.i64.wrap (n - (1 : Int))) < (raw.length : Int), raw[((IntKind.i64.wrap (n - (1 : Int)))).toNat]? = some [(D.int .u32 vx)]]) (by kernel_rfl) (by kernel_rfl) (by kernel_rfl) ⟨h1, h2, h3, trivial⟩ ?_
    refine GoJ.cond (t := (vx == (0 : Int))) (by kernel_rfl) (fun h4 => ?_) (fun h4 => ?_)
    · replace h := h.1 h4
      refine GoJ.skip ?_
      refine GoJ.block ?_
      refine GoJ.regV hT (cnt := 0) (ins := [o0, o0, o0]) (live := [0, 1, 4, 5]) (ids := [0]) (σ' := ⟨[(0, (V.e (E.sc (S.dat (D.sl raw))))), (1, (V.e (E.sc (S.dat (D.bool neg))))), (4, (V.e (E.sc (S.ptr 0 0)))), (5, (V.e (E.sc (S.dat (D.int .i64 (IntKind.i64.wrap (n - (1 : Int))))))))], [(some (Obj.box [(S.dat (D.bool false)), (S.dat (D.raw (.slice none 0 0)))]))], 31⟩) (obs := []) (by kernel_rfl) (by kernel_rfl) (by kernel_rfl) trivial ?_
      refine GoJ.inBlock ?_
      exact ih0 ((IntKind.i64.wrap (n - (1 : Int)))) h.1 h.2
    · replace h := h.2 h4
      refine GoJ.exit rfl ?_
      refine GoJ.seq ?_
      rcases Bool.eq_false_or_eq_true neg with h5 | h5
      · replace h := h.1 h5
        obtain ⟨h6, h7, h8, h⟩ := h
        refine GoJ.regV hT (cnt := 2) (ins := [o0, ((Or.bool true), 0, 0), o0, o0, o0, (Or.none, 1, 1), o0, o0, o0, (Or.none, 2, 1), o0, o0]) (live := [4]) (ids := [0, 2]) (σ' := ⟨[(4, (V.e (E.sc (S.ptr 0 0))))], [(some (Obj.box [(S.dat (D.bool (decide (n > (0 : Int))))), (S.ref 1)])), (some (Obj.arr 1 (([] : List (List D)) ++ (raw.take (n).toNat))))], 31⟩) (obs := [neg = true, 0 ≤ n ∧ n ≤ (raw.length : Int), ∀ y ∈ (raw.take (n).toNat), y.length = 1, (([] : List (List D)).length + ((raw.take (n).toNat) : List (List D)).length) * 4 ≤ 140737488355328]) (by kernel_rfl) (by kernel_rfl) (by kernel_rfl) ⟨h5, h6, h7, h8, trivial⟩ ?_
        refine GoJ.wk (xfreeze_ok (ids := [1]) (σ' := ⟨[(4, (V.e (E.sc (S.ptr 0 0))))], [(some (Obj.box [(S.dat (D.bool (decide (n > (0 : Int))))), (S.dat (D.sl (([] : List (List D)) ++ (raw.take (n).toNat))))])), none], 31⟩) (by kernel_rfl)) ?_
        exact GoJ.retV hT func71 (ids := []) (r := (V.e (E.agg [(S.dat (D.bool (decide (n > (0 : Int))))), (S.dat (D.sl (([] : List (List D)) ++ (raw.take (n).toNat))))]))) (r' := (V.e (E.agg [(S.dat (D.bool (decide (n > (0 : Int))))), (S.dat (D.sl (([] : List (List D)) ++ (raw.take (n).toNat))))]))) (σ' := ⟨[], [], 31⟩) (by kernel_rfl) (by kernel_rfl) (by kernel_rfl) (by kernel_rfl) (by kernel_rfl) h
      · replace h := h.2 h5
        obtain ⟨h9, h10, h11, h⟩ := h
        refine GoJ.regV hT (cnt := 2) (ins := [o0, ((Or.bool false), 0, 0), o0, o0, o0, (Or.none, 1, 1), o0, o0, o0, (Or.none, 2, 1), o0, o0]) (live := [4]) (ids := [0, 2]) (σ' := ⟨[(4, (V.e (E.sc (S.ptr 0 0))))], [(some (Obj.box [(S.dat (D.bool false)), (S.ref 1)])), (some (Obj.arr 1 (([] : List (List D)) ++ (raw.take (n).toNat))))], 31⟩) (obs := [neg = false, 0 ≤ n ∧ n ≤ (raw.length : Int), ∀ y ∈ (raw.take (n).toNat), y.length = 1, (([] : List (List D)).length + ((raw.take (n).toNat) : List (List D)).length) * 4 ≤ 140737488355328]) (by kernel_rfl) (by kernel_rfl) (by kernel_rfl) ⟨h5, h9, h10, h11, trivial⟩ ?_
        refine GoJ.wk (xfreeze_ok (ids := [1]) (σ' := ⟨[(4, (V.e (E.sc (S.ptr 0 0))))], [(some (Obj.box [(S.dat (D.bool false)), (S.dat (D.sl (([] : List (List D)) ++ (raw.take (n).toNat))))])), none], 31⟩) (by kernel_rfl)) ?_
        exact GoJ.retV hT func71 (ids := []) (r := (V.e (E.agg [(S.dat (D.bool false)), (S.dat (D.sl (([] : List (List D)) ++ (raw.take (n).toNat))))]))) (r' := (V.e (E.agg [(S.dat (D.bool false)), (S.dat (D.sl (([] : List (List D)) ++ (raw.take (n).toNat))))]))) (σ' := ⟨[], [], 31⟩) (by kernel_rfl) (by kernel_rfl) (by kernel_rfl) (by kernel_rfl) (by kernel_rfl) h
  · replace h := h.2 h1
    refine GoJ.regV hT (cnt := 0) (ins := [o0, o0, ((Or.bool false), 0, 0), o0, o0, o0, o0, o0, o0, o0]) (live := [0, 1, 4, 5, 17]) (ids := [0]) (σ' := ⟨[(0, (V.e (E.sc (S.dat (D.sl raw))))), (1, (V.e (E.sc (S.dat (D.bool neg))))), (4, (V.e (E.sc (S.ptr 0 0)))), (5, (V.e (E.sc (S.dat (D.int .i64 n))))), (17, (V.e (E.sc (S.dat (D.bool false)))))], [(some (Obj.box [(S.dat (D.bool false)), (S.dat (D.raw (.slice none 0 0)))]))], 31⟩) (obs := [(decide (n > (0 : Int))) = false]) (by kernel_rfl) (by kernel_rfl) (by kernel_rfl) ⟨h1, trivial⟩ ?_
    refine GoJ.cond (t := false) (by kernel_rfl) (fun hf => nomatch hf) (fun _ => ?_)
    refine GoJ.exit rfl ?_
    refine GoJ.seq ?_
    rcases Bool.eq_false_or_eq_true neg with h12 | h12
    · replace h := h.1 h12
      obtain ⟨h13, h14, h15, h⟩ := h
      refine GoJ.regV hT (cnt := 2) (ins := [o0, ((Or.bool true), 0, 0), o0, o0, o0, (Or.none, 1, 1), o0, o0, o0, (Or.none, 2, 1), o0, o0]) (live := [4]) (ids := [0, 2]) (σ' := ⟨[(4, (V.e (E.sc (S.ptr 0 0))))], [(some (Obj.box [(S.dat (D.bool (decide (n > (0 : Int))))), (S.ref 1)])), (some (Obj.arr 1 (([] : List (List D)) ++ (raw.take (n).toNat))))], 31⟩) (obs := [neg = true, 0 ≤ n ∧ n ≤ (raw.length : Int), ∀ y ∈ (raw.take (n).toNat), y.length = 1, (([] : List (List D)).length + ((raw.take (n).toNat) : List (List D)).length) * 4 ≤ 140737488355328]) (by kernel_rfl) (by kernel_rfl) (by kernel_rfl) ⟨h12, h13, h14, h15, trivial⟩ ?_
      refine GoJ.wk (xfreeze_ok (ids := [1]) (σ' := ⟨[(4, (V.e (E.sc (S.ptr 0 0))))], [(some (Obj.box [(S.dat (D.bool (decide (n > (0 : Int))))), (S.dat (D.sl (([] : List (List D)) ++ (raw.take (n).toNat))))])), none], 31⟩) (by kernel_rfl)) ?_
      exact GoJ.retV hT func71 (ids := []) (r := (V.e (E.agg [(S.dat (D.bool (decide (n > (0 : Int))))), (S.dat (D.sl (([] : List (List D)) ++ (raw.take (n).toNat))))]))) (r' := (V.e (E.agg [(S.dat (D.bool (decide (n > (0 : Int))))), (S.dat (D.sl (([] : List (List D)) ++ (raw.take (n).toNat))))]))) (σ' := ⟨[], [], 31⟩) (by kernel_rfl) (by kernel_rfl) (by kernel_rfl) (by kernel_rfl) (by kernel_rfl) h
    · replace h := h.2 h12
      obtain ⟨h16, h17, h18, h⟩ := h
      refine GoJ.regV hT (cnt := 2) (ins := [o0, ((Or.bool false), 0, 0), o0, o0, o0, (Or.none, 1, 1), o0, o0, o0, (Or.none, 2, 1), o0, o0]) (live := [4]) (ids := [0, 2]) (σ' := ⟨[(4, (V.e (E.sc (S.ptr 0 0))))], [(some (Obj.box [(S.dat (D.bool false)), (S.ref 1)])), (some (Obj.arr 1 (([] : List (List D)) ++ (raw.take (n).toNat))))], 31⟩) (obs := [neg = false, 0 ≤ n ∧ n ≤ (raw.length : Int), ∀ y ∈ (raw.take (n).toNat), y.length = 1, (([] : List (List D)).length + ((raw.take (n).toNat) : List (List D)).length) * 4 ≤ 140737488355328]) (by kernel_rfl) (by kernel_rfl) (by kernel_rfl) ⟨h12, h16, h17, h18, trivial⟩ ?_
      refine GoJ.wk (xfreeze_ok (ids := [1]) (σ' := ⟨[(4, (V.e (E.sc (S.ptr 0 0))))], [(some (Obj.box [(S.dat (D.bool false)), (S.dat (D.sl (([] : List (List D)) ++ (raw.take (n).toNat))))])), none], 31⟩) (by kernel_rfl)) ?_
      exact GoJ.retV hT func71 (ids := []) (r := (V.e (E.agg [(S.dat (D.bool false)), (S.dat (D.sl (([] : List (List D)) ++ (raw.take (n).toNat))))]))) (r' := (V.e (E.agg [(S.dat (D.bool false)), (S.dat (D.sl (([] : List (List D)) ++ (raw.take (n).toNat))))]))) (σ' := ⟨[], [], 31⟩) (by kernel_rfl) (by kernel_rfl) (by kernel_rfl) (by kernel_rfl) (by kernel_rfl) h

/- f16 torsion/torsionref01.Of -/
def vc16 (n : Int) (R : V → Heap → Prop) : Prop :=
  ((decide (n < (0 : Int))) = true →
    ∃ (r0 : Bool) (r1 : List (List D)),
    (0 ≤ (32 : Int)) ∧
    (FnD prog 71 [(V.e (E.sc (S.dat (D.sl [[(D.int .u32 (IntKind.u32.wrap (IntKind.u64.wrap (0 - (IntKind.u64.wrap n)))))], [(D.int .u32 (IntKind.u32.wrap ((IntKind.u64.wrap (0 - (IntKind.u64.wrap n))).fdiv (2 ^ (min (32 : Int).toNat IntKind.u64.bits)))))]])))), (V.e (E.sc (S.dat (D.bool (decide (n < (0 : Int)))))))] (V.e (E.agg [(S.dat (D.bool r0)), (S.dat (D.sl r1))])) []) ∧
    (R (V.e (E.agg [(S.dat (D.bool r0)), (S.dat (D.sl r1))])) [])) ∧
  ((decide (n < (0 : Int))) = false →
    ∃ (r01 : Bool) (r11 : List (List D)),
    (0 ≤ (32 : Int)) ∧
    (FnD prog 71 [(V.e (E.sc (S.dat (D.sl [[(D.int .u32 (IntKind.u32.wrap (IntKind.u64.wrap n)))], [(D.int .u32 (IntKind.u32.wrap ((IntKind.u64.wrap n).fdiv (2 ^ (min (32 : Int).toNat IntKind.u64.bits)))))]])))), (V.e (E.sc (S.dat (D.bool (decide (n < (0 : Int)))))))] (V.e (E.agg [(S.dat (D.bool r01)), (S.dat (D.sl r11))])) []) ∧
    (R (V.e (E.agg [(S.dat (D.bool r01)), (S.dat (D.sl r11))])) []))

theorem vc16_ok (n : Int) {R : V → Heap → Prop} (h : vc16 n R) : FnG prog 16 [(V.e (E.sc (S.dat (D.int .i64 n))))] [] R := by
  unfold vc16 at h
  refine FnG.of (m := 19) (c := _) func16 rfl (by kernel_rfl) ntmps16 (Nat.le_of_ble_eq_true rfl) ?_
  refine GoJ.seq ?_
  refine GoJ.regV hT (cnt := 1) (ins := [(Or.none, 0, 1)]) (live := [0, 2]) (ids := [0]) (σ' := ⟨[(0, (V.e (E.sc (S.dat (D.int .i64 n))))), (2, (V.e (E.sc (S.ptr 0 0))))], [(some (Obj.box [(S.dat (D.bool false)), (S.dat (D.raw (.slice none 0 0)))]))], 19⟩) (obs := []) (by kernel_rfl) (by kernel_rfl) (by kernel_rfl) trivial ?_
  refine GoJ.seq ?_
  refine GoJ.regV hT (cnt := 0) (ins := [o0, o0, o0]) (live := [0, 2, 3]) (ids := [0]) (σ' := ⟨[(0, (V.e (E.sc (S.dat (D.int .i64 n))))), (2, (V.e (E.sc (S.ptr 0 0)))), (3, (V.e (E.sc (S.dat (D.int .u64 (IntKind.u64.wrap n))))))], [(some (Obj.box [(S.dat (D.bool false)), (S.dat (D.raw (.slice none 0 0)))]))], 19⟩) (obs := []) (by kernel_rfl) (by kernel_rfl) (by kernel_rfl) trivial ?_
  refine GoJ.seq ?_
  refine GoJ.seq ?_
  refine GoJ.regV hT (cnt := 0) (ins := [o0, o0]) (live := [0, 2, 3, 7]) (ids := [0]) (σ' := ⟨[(0, (V.e (E.sc (S.dat (D.int .i64 n))))), (2, (V.e (E.sc (S.ptr 0 0)))), (3, (V.e (E.sc (S.dat (D.int .u64 (IntKind.u64.wrap n)))))), (7, (V.e (E.sc (S.dat (D.bool (decide (n < (0 : Int))))))))], [(some (Obj.box [(S.dat (D.bool false)), (S.dat (D.raw (.slice none 0 0)))]))], 19⟩) (obs := []) (by kernel_rfl) (by kernel_rfl) (by kernel_rfl) trivial ?_
  refine GoJ.cond (t := (decide (n < (0 : Int)))) (by kernel_rfl) (fun h1 => ?_) (fun h1 => ?_)
  · replace h := h.1 h1
    refine GoJ.regV hT (cnt := 0) (ins := [o0, o0, o0]) (live := [0, 2, 3]) (ids := [0]) (σ' := ⟨[(0, (V.e (E.sc (S.dat (D.int .i64 n))))), (2, (V.e (E.sc (S.ptr 0 0)))), (3, (V.e (E.sc (S.dat (D.int .u64 (IntKind.u64.wrap (0 - (IntKind.u64.wrap n))))))))], [(some (Obj.box [(S.dat (D.bool false)), (S.dat (D.raw (.slice none 0 0)))]))], 19⟩) (obs := []) (by kernel_rfl) (by kernel_rfl) (by kernel_rfl) trivial ?_
    refine GoJ.seq ?_
    obtain ⟨r0, r1, h2, h3, h⟩ := h
    refine GoJ.regV hT (cnt := 1) (ins := [o0, o0, o0, o0, o0, (Or.frz, 1, 1), o0, o0, ((Or.call (V.e (E.agg [(S.dat (D.bool r0)), (S.dat (D.sl r1))])) [] []), 0, 0), o0]) (live := [2]) (ids := [0]) (σ' := ⟨[(2, (V.e (E.sc (S.ptr 0 0))))], [(some (Obj.box [(S.dat (D.bool r0)), (S.dat (D.sl r1))]))], 19⟩) (obs := [0 ≤ (32 : Int), FnD prog 71 [(V.e (E.sc (S.dat (D.sl [[(D.int .u32 (IntKind.u32.wrap (IntKind.u64.wrap (0 - (IntKind.u64.wrap n)))))], [(D.int .u32 (IntKind.u32.wrap ((IntKind.u64.wrap (0 - (IntKind.u64.wrap n))).fdiv (2 ^ (min (32 : Int).toNat IntKind.u64.bits)))))]])))), (V.e (E.sc (S.dat (D.bool (decide (n < (0 : Int)))))))] (V.e (E.agg [(S.dat (D.bool r0)), (S.dat (D.sl r1))])) []]) (by kernel_rfl) (by kernel_rfl) (by kernel_rfl) ⟨h2, h3, trivial⟩ ?_
    exact GoJ.retV hT func16 (ids := []) (r := (V.e (E.agg [(S.dat (D.bool r0)), (S.dat (D.sl r1))]))) (r' := (V.e (E.agg [(S.dat (D.bool r0)), (S.dat (D.sl r1))]))) (σ' := ⟨[], [], 19⟩) (by kernel_rfl) (by kernel_rfl) (by kernel_rfl) (by kernel_rfl) (by kernel_rfl) h
  · replace h := h.2 h1
    refine GoJ.skip ?_
    refine GoJ.seq ?_
    obtain ⟨r01, r11, h4, h5, h⟩ := h
    refine GoJ.regV hT (cnt := 1) (ins := [o0, o0, o0, o0, o0, (Or.frz, 1, 1), o0, o0, ((Or.call (V.e (E.agg [(S.dat (D.bool r01)), (S.dat (D.sl r11))])) [] []), 0, 0), o0]) (live := [2]) (ids := [0]) (σ' := ⟨[(2, (V.e (E.sc (S.ptr 0 0))))], [(some (Obj.box [(S.dat (D.bool r01)), (S.dat (D.sl r11))]))], 19⟩) (obs := [0 ≤ (32 : Int), FnD prog 71 [(V.e (E.sc (S.dat (D.sl [[(D.int .u32 (IntKind.u32.wrap (IntKind.u64.wrap n)))], [(D.int .u32 (IntKind.u32.wrap ((IntKind.u64.wrap n).fdiv (2 ^ (min (32 : Int).toNat IntKind.u64.bits)))))]])))), (V.e (E.sc (S.dat (D.bool (decide (n < (0 : Int)))))))] (V.e (E.agg [(S.dat (D.bool r01)), (S.dat (D.sl r11))])) []]) (by kernel_rfl) (by kernel_rfl) (by kernel_rfl) ⟨h4, h5, trivial⟩ ?_
    exact GoJ.retV hT func16 (ids := []) (r := (V.e (E.agg [(S.dat (D.bool r01)), (S.dat (D.sl r11))]))) (r' := (V.e (E.agg [(S.dat (D.bool r01)), (S.dat (D.sl r11))]))) (σ' := ⟨[], [], 19⟩) (by kernel_rfl) (by kernel_rfl) (by kernel_rfl) (by kernel_rfl) (by kernel_rfl) h

/- f88 torsion/torsionref01.less -/
def vc88 (a : List (List D)) (b : List (List D)) (R : V → Heap → Prop) : Prop :=
  (((a.length : Int) != (b.length : Int)) = true →
    R (V.e (E.sc (S.dat (D.bool (decide ((a.length : Int) < (b.length : Int))))))) []) ∧
  (((a.length : Int) != (b.length : Int)) = false →
    ∃ (J0 : Int → Prop) (μ0 : Int → Nat),
    J0 (IntKind.i64.wrap ((a.length : Int) - (1 : Int))) ∧ ∀ (i : Int), J0 i →
      ((decide (i ≥ (0 : Int))) = true →
        ∃ (vx : Int) (vx1 : Int),
        (0 ≤ i ∧ i < (a.length : Int)) ∧
        (a[(i).toNat]? = some [(D.int .u32 vx)]) ∧
        (0 ≤ i ∧ i < (b.length : Int)) ∧
        (b[(i).toNat]? = some [(D.int .u32 vx1)]) ∧
        (((vx != vx1) = true →
          R (V.e (E.sc (S.dat (D.bool (decide (vx < vx1)))))) []) ∧
        ((vx != vx1) = false →
          J0 (IntKind.i64.wrap (i - (1 : Int))) ∧ μ0 (IntKind.i64.wrap (i - (1 : Int))) < μ0 i))) ∧
      ((decide (i ≥ (0 : Int))) = false →
        R (V.e (E.sc (S.dat (D.bool false)))) []))

theorem vc88_ok (a : List (List D)) (b : List (List D)) {R : V → Heap → Prop} (h : vc88 a b R) : FnG prog 88 [(V.e (E.sc (S.dat (D.sl a)))), (V.e (E.sc (S.dat (D.sl b))))] [] R := by
  unfold vc88 at h
  refine FnG.of (m := 41) (c := _) func88 rfl (by kernel_rfl) ntmps88 (Nat.le_of_ble_eq_true rfl) ?_
  refine GoJ.seq ?_
  refine GoJ.regV hT (cnt := 0) (ins := [o0]) (live := [0, 1]) (ids := []) (σ' := ⟨[(0, (V.e (E.sc (S.dat (D.sl a))))), (1, (V.e (E.sc (S.dat (D.sl b)))))], [], 41⟩) (obs := []) (by kernel_rfl) (by kernel_rfl) (by kernel_rfl) trivial ?_
  refine GoJ.seq ?_
  refine GoJ.seq ?_
  refine GoJ.regV hT (cnt := 0) (ins := [o0, o0, o0, o0, o0]) (live := [0, 1, 10]) (ids := []) (σ' := ⟨[(0, (V.e (E.sc (S.dat (D.sl a))))), (1, (V.e (E.sc (S.dat (D.sl b))))), (10, (V.e (E.sc (S.dat (D.bool ((a.length : Int) != (b.length : Int)))))))], [], 41⟩) (obs := []) (by kernel_rfl) (by kernel_rfl) (by kernel_rfl) trivial ?_
  refine GoJ.cond (t := ((a.length : Int) != (b.length : Int))) (by kernel_rfl) (fun h1 => ?_) (fun h1 => ?_)
  · replace h := h.1 h1
    refine GoJ.seq ?_
    refine GoJ.regV hT (cnt := 0) (ins := [o0, o0, o0, o0, o0, o0]) (live := [4]) (ids := []) (σ' := ⟨[(4, (V.e (E.sc (S.dat (D.bool (decide ((a.length : Int) < (b.length : Int))))))))], [], 41⟩) (obs := []) (by kernel_rfl) (by kernel_rfl) (by kernel_rfl) trivial ?_
    exact GoJ.retV hT func88 (ids := []) (r := (V.e (E.sc (S.dat (D.bool (decide ((a.length : Int) < (b.length : Int)))))))) (r' := (V.e (E.sc (S.dat (D.bool (decide ((a.length : Int) < (b.length : Int)))))))) (σ' := ⟨[], [], 41⟩) (by kernel_rfl) (by kernel_rfl) (by kernel_rfl) (by kernel_rfl) (by kernel_rfl) h
  · replace h := h.2 h1
    refine GoJ.skip ?_
    refine GoJ.seq ?_
    refine GoJ.seq ?_
    refine GoJ.regV hT (cnt := 0) (ins := [o0, o0, o0, o0]) (live := [0, 1, 5]) (ids := []) (σ' := ⟨[(0, (V.e (E.sc (S.dat (D.sl a))))), (1, (V.e (E.sc (S.dat (D.sl b))))), (5, (V.e (E.sc (S.dat (D.int .i64 (IntKind.i64.wrap ((a.length : Int) - (1 : Int))))))))], [], 41⟩) (obs := []) (by kernel_rfl) (by kernel_rfl) (by kernel_rfl) trivial ?_
    refine GoJ.block ?_
    obtain ⟨J0, μ0, hJ0, h⟩ := h
    refine GoJ.loop (X := Int) (fun x => (fun (i : Int) => (⟨[(0, (V.e (E.sc (S.dat (D.sl a))))), (1, (V.e (E.sc (S.dat (D.sl b))))), (5, (V.e (E.sc (S.dat (D.int .i64 i)))))], [], 41⟩ : St)) (x)) (fun x => J0 (x)) (fun x => μ0 (x)) ((IntKind.i64.wrap ((a.length : Int) - (1 : Int)))) hJ0 ?_
    rintro i hJ0 ih0
    replace h := h i hJ0
    refine GoJ.seq ?_
    refine GoJ.seq ?_
    refine GoJ.regV hT (cnt := 0) (ins := [o0, o0]) (live := [0, 1, 5, 20]) (ids := []) (σ' := ⟨[(0, (V.e (E.sc (S.dat (D.sl a))))), (1, (V.e (E.sc (S.dat (D.sl b))))), (5, (V.e (E.sc (S.dat (D.int .i64 i))))), (20, (V.e (E.sc (S.dat (D.bool (decide (i ≥ (0 : Int))))))))], [], 41⟩) (obs := []) (by kernel_rfl) (by kernel_rfl) (by kernel_rfl) trivial ?_
    refine GoJ.cond (t := (decide (i ≥ (0 : Int)))) (by kernel_rfl) (fun h2 => ?_) (fun h2 => ?_)
    · replace h := h.1 h2
      refine GoJ.skip ?_
      refine GoJ.seq ?_
      refine GoJ.block ?_
      refine GoJ.seq ?_
      obtain ⟨vx, vx1, h3, h4, h5, h6, h⟩ := h
      refine GoJ.drawV hmix hT (cnt := 0) (ins := [⟨Or.none, 0, 0, [], [0], [], []⟩, ⟨Or.none, 0, 0, [], [5], [], []⟩, ⟨Or.none, 0, 0, [0, 1], [23, 24], [], []⟩, ⟨(Or.cells [(D.int .u32 vx)]), 0, 0, [0, 1, 2], [25], [], []⟩, ⟨Or.none, 0, 0, [], [1], [], []⟩, ⟨Or.none, 0, 0, [], [5], [], []⟩, ⟨Or.none, 0, 0, [4, 5], [27, 28], [], []⟩, ⟨(Or.cells [(D.int .u32 vx1)]), 0, 0, [4, 5, 6], [29], [], []⟩, ⟨Or.none, 0, 0, [0, 1, 2, 3, 4, 5, 6, 7], [26, 30], [], []⟩]) (live := [0, 1, 5, 31]) (ids := []) (σ' := ⟨[(0, (V.e (E.sc (S.dat (D.sl a))))), (1, (V.e (E.sc (S.dat (D.sl b))))), (5, (V.e (E.sc (S.dat (D.int .i64 i))))), (31, (V.e (E.sc (S.dat (D.bool (vx != vx1))))))], [], 41⟩) (obs := [0 ≤ i ∧ i < (a.length : Int), a[(i).toNat]? = some [(D.int .u32 vx)], 0 ≤ i ∧ i < (b.length : Int), b[(i).toNat]? = some [(D.int .u32 vx1)]]) (by kernel_rfl) (by kernel_rfl) (by kernel_rfl) ⟨h3, h4, h5, h6, trivial⟩ ?_
      refine GoJ.cond (t := (vx != vx1)) (by kernel_rfl) (fun h7 => ?_) (fun h7 => ?_)
      · replace h := h.1 h7
        refine GoJ.seq ?_
        refine GoJ.drawV hmix hT (cnt := 0) (ins := [⟨Or.none, 0, 0, [], [0], [], []⟩, ⟨Or.none, 0, 0, [], [5], [], []⟩, ⟨Or.none, 0, 0, [0, 1], [32, 33], [], []⟩, ⟨(Or.cells [(D.int .u32 vx)]), 0, 0, [0, 1, 2], [34], [], []⟩, ⟨Or.none, 0, 0, [], [1], [], []⟩, ⟨Or.none, 0, 0, [], [5], [], []⟩, ⟨Or.none, 0, 0, [4, 5], [36, 37], [], []⟩, ⟨(Or.cells [(D.int .u32 vx1)]), 0, 0, [4, 5, 6], [38], [], []⟩, ⟨Or.none, 0, 0, [0, 1, 2, 3, 4, 5, 6, 7], [35, 39], [], []⟩, ⟨Or.none, 0, 0, [0, 1, 2, 3, 4, 5, 6, 7, 8], [40], [], []⟩]) (live := [4]) (ids := []) (σ' := ⟨[(4, (V.e (E.sc (S.dat (D.bool (decide (vx < vx1)))))))], [], 41⟩) (obs := [0 ≤ i ∧ i < (a.length : Int), a[(i).toNat]? = some [(D.int .u32 vx)], 0 ≤ i ∧ i < (b.length : Int), b[(i).toNat]? = some [(D.int .u32 vx1)]]) (by kernel_rfl) (by kernel_rfl) (by kernel_rfl) ⟨h3, h4, h5, h6, trivial⟩ ?_
        exact GoJ.retV hT func88 (ids := []) (r := (V.e (E.sc (S.dat (D.bool (decide (vx < vx1))))))) (r' := (V.e (E.sc (S.dat (D.bool (decide (vx < vx1))))))) (σ' := ⟨[], [], 41⟩) (by kernel_rfl) (by kernel_rfl) (by kernel_rfl) (by kernel_rfl) (by kernel_rfl) h
      · replace h := h.2 h7
        refine GoJ.skip ?_
        refine GoJ.inBlock ?_
        refine GoJ.regV hT (cnt := 0) (ins := [o0, o0, o0]) (live := [0, 1, 5]) (ids := []) (σ' := ⟨[(0, (V.e (E.sc (S.dat (D.sl a))))), (1, (V.e (E.sc (S.dat (D.sl b))))), (5, (V.e (E.sc (S.dat (D.int .i64 (IntKind.i64.wrap (i - (1 : Int))))))))], [], 41⟩) (obs := []) (by kernel_rfl) (by kernel_rfl) (by kernel_rfl) trivial ?_
        exact ih0 ((IntKind.i64.wrap (i - (1 : Int)))) h.1 h.2
    · replace h := h.2 h2
      refine GoJ.exit rfl ?_
      refine GoJ.seq ?_
      refine GoJ.regV hT (cnt := 0) (ins := [o0]) (live := [4]) (ids := []) (σ' := ⟨[(4, (V.e (E.sc (S.dat (D.bool false)))))], [], 41⟩) (obs := []) (by kernel_rfl) (by kernel_rfl) (by kernel_rfl) trivial ?_
      exact GoJ.retV hT func88 (ids := []) (r := (V.e (E.sc (S.dat (D.bool false))))) (r' := (V.e (E.sc (S.dat (D.bool false))))) (σ' := ⟨[], [], 41⟩) (by kernel_rfl) (by kernel_rfl) (by kernel_rfl) (by kernel_rfl) (by kernel_rfl) h

/- f40 torsion/torsionref01.Same -/
def vc40 (a0 : Bool) (a1 : List (List D)) (b0 : Bool) (b1 : List (List D)) (R : V → Heap → Prop) : Prop :=
  ((a0 == b0) = true →
    ∃ (r : Bool),
    (FnD prog 88 [(V.e (E.sc (S.dat (D.sl a1)))), (V.e (E.sc (S.dat (D.sl b1))))] (V.e (E.sc (S.dat (D.bool r)))) []) ∧
    (((!r) = true →
      ∃ (r1 : Bool),
      (FnD prog 88 [(V.e (E.sc (S.dat (D.sl b1)))), (V.e (E.sc (S.dat (D.sl a1))))] (V.e (E.sc (S.dat (D.bool r1)))) []) ∧
      (R (V.e (E.sc (S.dat (D.bool (!r1))))) [])) ∧
    ((!r) = false →
      R (V.e (E.sc (S.dat (D.bool false)))) []))) ∧
  ((a0 == b0) = false →
    R (V.e (E.sc (S.dat (D.bool false)))) [])

theorem vc40_ok (a0 : Bool) (a1 : List (List D)) (b0 : Bool) (b1 : List (List D)) {R : V → Heap → Prop} (h : vc40 a0 a1 b0 b1 R) : FnG prog 40 [(V.e (E.agg [(S.dat (D.bool a0)), (S.dat (D.sl a1))])), (V.e (E.agg [(S.dat (D.bool b0)), (S.dat (D.sl b1))]))] [] R := by
  unfold vc40 at h
  refine FnG.of (m := 26) (c := _) func40 rfl (by kernel_rfl) ntmps40 (Nat.le_of_ble_eq_true rfl) ?_
  refine GoJ.seq ?_
  refine GoJ.regV hT (cnt := 2) (ins := [(Or.none, 0, 1), (Or.none, 1, 1), o0]) (live := [2, 3]) (ids := [0, 1]) (σ' := ⟨[(2, (V.e (E.sc (S.ptr 0 0)))), (3, (V.e (E.sc (S.ptr 1 0))))], [(some (Obj.box [(S.dat (D.bool a0)), (S.dat (D.sl a1))])), (some (Obj.box [(S.dat (D.bool b0)), (S.dat (D.sl b1))]))], 26⟩) (obs := []) (by kernel_rfl) (by kernel_rfl) (by kernel_rfl) trivial ?_
  refine GoJ.seq ?_
  rcases Bool.eq_false_or_eq_true (a0 == b0) with h1 | h1
  · replace h := h.1 h1
    obtain ⟨r, h2, h⟩ := h
    rcases Bool.eq_false_or_eq_true (!r) with h3 | h3
    · replace h := h.1 h3
      obtain ⟨r1, h4, h⟩ := h
      refine GoJ.regV hT (cnt := 0) (ins := [o0, o0, o0, o0, o0, ((Or.bool true), 0, 0), o0, o0, o0, o0, ((Or.call (V.e (E.sc (S.dat (D.bool r)))) [] []), 0, 0), o0, o0, ((Or.bool true), 0, 0), o0, o0, o0, o0, ((Or.call (V.e (E.sc (S.dat (D.bool r1)))) [] []), 0, 0), o0, o0, o0]) (live := [4]) (ids := []) (σ' := ⟨[(4, (V.e (E.sc (S.dat (D.bool (!r1))))))], [], 26⟩) (obs := [(a0 == b0) = true, FnD prog 88 [(V.e (E.sc (S.dat (D.sl a1)))), (V.e (E.sc (S.dat (D.sl b1))))] (V.e (E.sc (S.dat (D.bool r)))) [], (!r) = true, FnD prog 88 [(V.e (E.sc (S.dat (D.sl b1)))), (V.e (E.sc (S.dat (D.sl a1))))] (V.e (E.sc (S.dat (D.bool r1)))) []]) (by kernel_rfl) (by kernel_rfl) (by kernel_rfl) ⟨h1, h2, h3, h4, trivial⟩ ?_
      exact GoJ.retV hT func40 (ids := []) (r := (V.e (E.sc (S.dat (D.bool (!r1)))))) (r' := (V.e (E.sc (S.dat (D.bool (!r1)))))) (σ' := ⟨[], [], 26⟩) (by kernel_rfl) (by kernel_rfl) (by kernel_rfl) (by kernel_rfl) (by kernel_rfl) h
    · replace h := h.2 h3
      refine GoJ.regV hT (cnt := 0) (ins := [o0, o0, o0, o0, o0, ((Or.bool true), 0, 0), o0, o0, o0, o0, ((Or.call (V.e (E.sc (S.dat (D.bool r)))) [] []), 0, 0), o0, o0, ((Or.bool false), 0, 0), o0, o0, o0, o0, o0, o0, o0, o0]) (live := [4]) (ids := []) (σ' := ⟨[(4, (V.e (E.sc (S.dat (D.bool false)))))], [], 26⟩) (obs := [(a0 == b0) = true, FnD prog 88 [(V.e (E.sc (S.dat (D.sl a1)))), (V.e (E.sc (S.dat (D.sl b1))))] (V.e (E.sc (S.dat (D.bool r)))) [], (!r) = false]) (by kernel_rfl) (by kernel_rfl) (by kernel_rfl) ⟨h1, h2, h3, trivial⟩ ?_
      exact GoJ.retV hT func40 (ids := []) (r := (V.e (E.sc (S.dat (D.bool false))))) (r' := (V.e (E.sc (S.dat (D.bool false))))) (σ' := ⟨[], [], 26⟩) (by kernel_rfl) (by kernel_rfl) (by kernel_rfl) (by kernel_rfl) (by kernel_rfl) h
  · replace h := h.2 h1
    refine GoJ.regV hT (cnt := 0) (ins := [o0, o0, o0, o0, o0, ((Or.bool false), 0, 0), o0, o0, o0, o0, o0, o0, o0, o0, o0, o0, o0, o0, o0, o0, o0, o0]) (live := [4]) (ids := []) (σ' := ⟨[(4, (V.e (E.sc (S.dat (D.bool false)))))], [], 26⟩) (obs := [(a0 == b0) = false]) (by kernel_rfl) (by kernel_rfl) (by kernel_rfl) ⟨h1, trivial⟩ ?_
    exact GoJ.retV hT func40 (ids := []) (r := (V.e (E.sc (S.dat (D.bool false))))) (r' := (V.e (E.sc (S.dat (D.bool false))))) (σ' := ⟨[], [], 26⟩) (by kernel_rfl) (by kernel_rfl) (by kernel_rfl) (by kernel_rfl) (by kernel_rfl) h

/- f127 torsion/torsionref01.Valid -/
def vc127 (a0 : Bool) (a1 : List (List D)) (R : V → Heap → Prop) : Prop :=
  (((a1.length : Int) == (0 : Int)) = true →
    R (V.e (E.sc (S.dat (D.bool (!a0))))) []) ∧
  (((a1.length : Int) == (0 : Int)) = false →
    ∃ (vx : Int),
    (0 ≤ (IntKind.i64.wrap ((a1.length : Int) - (1 : Int))) ∧ (IntKind.i64.wrap ((a1.length : Int) - (1 : Int))) < (a1.length : Int)) ∧
    (a1[((IntKind.i64.wrap ((a1.length : Int) - (1 : Int)))).toNat]? = some [(D.int .u32 vx)]) ∧
    (R (V.e (E.sc (S.dat (D.bool (vx != (0 : Int)))))) []))

theorem vc127_ok (a0 : Bool) (a1 : List (List D)) {R : V → Heap → Prop} (h : vc127 a0 a1 R) : FnG prog 127 [(V.e (E.agg [(S.dat (D.bool a0)), (S.dat (D.sl a1))]))] [] R := by
  unfold vc127 at h
  refine FnG.of (m := 19) (c := _) func127 rfl (by kernel_rfl) ntmps127 (Nat.le_of_ble_eq_true rfl) ?_
  refine GoJ.seq ?_
  refine GoJ.regV hT (cnt := 1) (ins := [(Or.none, 0, 1), o0]) (live := [1]) (ids := [0]) (σ' := ⟨[(1, (V.e (E.sc (S.ptr 0 0))))], [(some (Obj.box [(S.dat (D.bool a0)), (S.dat (D.sl a1))]))], 19⟩) (obs := []) (by kernel_rfl) (by kernel_rfl) (by kernel_rfl) trivial ?_
  refine GoJ.seq ?_
  refine GoJ.seq ?_
  refine GoJ.regV hT (cnt := 0) (ins := [o0, o0, o0, o0]) (live := [1, 6]) (ids := [0]) (σ' := ⟨[(1, (V.e (E.sc (S.ptr 0 0)))), (6, (V.e (E.sc (S.dat (D.bool ((a1.length : Int) == (0 : Int)))))))], [(some (Obj.box [(S.dat (D.bool a0)), (S.dat (D.sl a1))]))], 19⟩) (obs := []) (by kernel_rfl) (by kernel_rfl) (by kernel_rfl) trivial ?_
  refine GoJ.cond (t := ((a1.length : Int) == (0 : Int))) (by kernel_rfl) (fun h1 => ?_) (fun h1 => ?_)
  · replace h := h.1 h1
    refine GoJ.seq ?_
    refine GoJ.regV hT (cnt := 0) (ins := [o0, o0, o0, o0]) (live := [2]) (ids := []) (σ' := ⟨[(2, (V.e (E.sc (S.dat (D.bool (!a0))))))], [], 19⟩) (obs := []) (by kernel_rfl) (by kernel_rfl) (by kernel_rfl) trivial ?_
    exact GoJ.retV hT func127 (ids := []) (r := (V.e (E.sc (S.dat (D.bool (!a0)))))) (r' := (V.e (E.sc (S.dat (D.bool (!a0)))))) (σ' := ⟨[], [], 19⟩) (by kernel_rfl) (by kernel_rfl) (by kernel_rfl) (by kernel_rfl) (by kernel_rfl) h
  · replace h := h.2 h1
    refine GoJ.skip ?_
    refine GoJ.seq ?_
    obtain ⟨vx, h2, h3, h⟩ := h
    refine GoJ.regV hT (cnt := 0) (ins := [o0, o0, o0, o0, o0, o0, o0, ((Or.cells [(D.int .u32 vx)]), 0, 0), o0, o0]) (live := [2]) (ids := []) (σ' := ⟨[(2, (V.e (E.sc (S.dat (D.bool (vx != (0 : Int)))))))], [], 19⟩) (obs := [0 ≤ (IntKind.i64.wrap ((a1.length : Int) - (1 : Int))) ∧ (IntKind.i64.wrap ((a1.length : Int) - (1 : Int))) < (a1.length : Int), a1[((IntKind.i64.wrap ((a1.length : Int) - (1 : Int)))).toNat]? = some [(D.int .u32 vx)]]) (by kernel_rfl) (by kernel_rfl) (by kernel_rfl) ⟨h2, h3, trivial⟩ ?_
    exact GoJ.retV hT func127 (ids := []) (r := (V.e (E.sc (S.dat (D.bool (vx != (0 : Int))))))) (r' := (V.e (E.sc (S.dat (D.bool (vx != (0 : Int))))))) (σ' := ⟨[], [], 19⟩) (by kernel_rfl) (by kernel_rfl) (by kernel_rfl) (by kernel_rfl) (by kernel_rfl) h

/- f92 torsion/torsionref01.Sign -/
def vc92 (a0 : Bool) (a1 : List (List D)) (R : V → Heap → Prop) : Prop :=
  (((a1.length : Int) == (0 : Int)) = true →
    R (V.e (E.sc (S.dat (D.int .i64 (0 : Int))))) []) ∧
  (((a1.length : Int) == (0 : Int)) = false →
    (a0 = true →
      R (V.e (E.sc (S.dat (D.int .i64 (-1 : Int))))) []) ∧
    (a0 = false →
      R (V.e (E.sc (S.dat (D.int .i64 (1 : Int))))) []))

theorem vc92_ok (a0 : Bool) (a1 : List (List D)) {R : V → Heap → Prop} (h : vc92 a0 a1 R) : FnG prog 92 [(V.e (E.agg [(S.dat (D.bool a0)), (S.dat (D.sl a1))]))] [] R := by
  unfold vc92 at h
  refine FnG.of (m := 9) (c := _) func92 rfl (by kernel_rfl) ntmps92 (Nat.le_of_ble_eq_true rfl) ?_
  refine GoJ.seq ?_
  refine GoJ.regV hT (cnt := 1) (ins := [(Or.none, 0, 1), o0]) (live := [1]) (ids := [0]) (σ' := ⟨[(1, (V.e (E.sc (S.ptr 0 0))))], [(some (Obj.box [(S.dat (D.bool a0)), (S.dat (D.sl a1))]))], 9⟩) (obs := []) (by kernel_rfl) (by kernel_rfl) (by kernel_rfl) trivial ?_
  refine GoJ.seq ?_
  refine GoJ.seq ?_
  refine GoJ.regV hT (cnt := 0) (ins := [o0, o0, o0, o0]) (live := [1, 6]) (ids := [0]) (σ' := ⟨[(1, (V.e (E.sc (S.ptr 0 0)))), (6, (V.e (E.sc (S.dat (D.bool ((a1.length : Int) == (0 : Int)))))))], [(some (Obj.box [(S.dat (D.bool a0)), (S.dat (D.sl a1))]))], 9⟩) (obs := []) (by kernel_rfl) (by kernel_rfl) (by kernel_rfl) trivial ?_
  refine GoJ.cond (t := ((a1.length : Int) == (0 : Int))) (by kernel_rfl) (fun h1 => ?_) (fun h1 => ?_)
  · replace h := h.1 h1
    refine GoJ.seq ?_
    refine GoJ.regV hT (cnt := 0) (ins := [o0]) (live := [2]) (ids := []) (σ' := ⟨[(2, (V.e (E.sc (S.dat (D.int .i64 (0 : Int))))))], [], 9⟩) (obs := []) (by kernel_rfl) (by kernel_rfl) (by kernel_rfl) trivial ?_
    exact GoJ.retV hT func92 (ids := []) (r := (V.e (E.sc (S.dat (D.int .i64 (0 : Int)))))) (r' := (V.e (E.sc (S.dat (D.int .i64 (0 : Int)))))) (σ' := ⟨[], [], 9⟩) (by kernel_rfl) (by kernel_rfl) (by kernel_rfl) (by kernel_rfl) (by kernel_rfl) h
  · replace h := h.2 h1
    refine GoJ.skip ?_
    refine GoJ.seq ?_
    refine GoJ.seq ?_
    refine GoJ.regV hT (cnt := 0) (ins := [o0, o0]) (live := [8]) (ids := []) (σ' := ⟨[(8, (V.e (E.sc (S.dat (D.bool a0)))))], [], 9⟩) (obs := []) (by kernel_rfl) (by kernel_rfl) (by kernel_rfl) trivial ?_
    refine GoJ.cond (t := a0) (by kernel_rfl) (fun h2 => ?_) (fun h2 => ?_)
    · replace h := h.1 h2
      refine GoJ.seq ?_
      refine GoJ.regV hT (cnt := 0) (ins := [o0]) (live := [2]) (ids := []) (σ' := ⟨[(2, (V.e (E.sc (S.dat (D.int .i64 (-1 : Int))))))], [], 9⟩) (obs := []) (by kernel_rfl) (by kernel_rfl) (by kernel_rfl) trivial ?_
      exact GoJ.retV hT func92 (ids := []) (r := (V.e (E.sc (S.dat (D.int .i64 (-1 : Int)))))) (r' := (V.e (E.sc (S.dat (D.int .i64 (-1 : Int)))))) (σ' := ⟨[], [], 9⟩) (by kernel_rfl) (by kernel_rfl) (by kernel_rfl) (by kernel_rfl) (by kernel_rfl) h
    · replace h := h.2 h2
      refine GoJ.skip ?_
      refine GoJ.seq ?_
      refine GoJ.regV hT (cnt := 0) (ins := [o0]) (live := [2]) (ids := []) (σ' := ⟨[(2, (V.e (E.sc (S.dat (D.int .i64 (1 : Int))))))], [], 9⟩) (obs := []) (by kernel_rfl) (by kernel_rfl) (by kernel_rfl) trivial ?_
      exact GoJ.retV hT func92 (ids := []) (r := (V.e (E.sc (S.dat (D.int .i64 (1 : Int)))))) (r' := (V.e (E.sc (S.dat (D.int .i64 (1 : Int)))))) (σ' := ⟨[], [], 9⟩) (by kernel_rfl) (by kernel_rfl) (by kernel_rfl) (by kernel_rfl) (by kernel_rfl) h

/- f104 torsion/torsionref01.Neg -/
def vc104 (a0 : Bool) (a1 : List (List D)) (R : V → Heap → Prop) : Prop :=
  ∃ (r0 : Bool) (r1 : List (List D)),
  (FnD prog 71 [(V.e (E.sc (S.dat (D.sl a1)))), (V.e (E.sc (S.dat (D.bool (!a0)))))] (V.e (E.agg [(S.dat (D.bool r0)), (S.dat (D.sl r1))])) []) ∧
  (R (V.e (E.agg [(S.dat (D.bool r0)), (S.dat (D.sl r1))])) [])

theorem vc104_ok (a0 : Bool) (a1 : List (List D)) {R : V → Heap → Prop} (h : vc104 a0 a1 R) : FnG prog 104 [(V.e (E.agg [(S.dat (D.bool a0)), (S.dat (D.sl a1))]))] [] R := by
  unfold vc104 at h
  refine FnG.of (m := 9) (c := _) func104 rfl (by kernel_rfl) ntmps104 (Nat.le_of_ble_eq_true rfl) ?_
  refine GoJ.seq ?_
  refine GoJ.regV hT (cnt := 2) (ins := [(Or.none, 0, 1), (Or.none, 1, 1)]) (live := [1, 2]) (ids := [0, 1]) (σ' := ⟨[(1, (V.e (E.sc (S.ptr 0 0)))), (2, (V.e (E.sc (S.ptr 1 0))))], [(some (Obj.box [(S.dat (D.bool a0)), (S.dat (D.sl a1))])), (some (Obj.box [(S.dat (D.bool false)), (S.dat (D.raw (.slice none 0 0)))]))], 9⟩) (obs := []) (by kernel_rfl) (by kernel_rfl) (by kernel_rfl) trivial ?_
  refine GoJ.seq ?_
  obtain ⟨r0, r1, h1, h⟩ := h
  refine GoJ.regV hT (cnt := 0) (ins := [o0, o0, o0, o0, o0, ((Or.call (V.e (E.agg [(S.dat (D.bool r0)), (S.dat (D.sl r1))])) [] []), 0, 0), o0]) (live := [2]) (ids := [1]) (σ' := ⟨[(2, (V.e (E.sc (S.ptr 0 0))))], [(some (Obj.box [(S.dat (D.bool r0)), (S.dat (D.sl r1))]))], 9⟩) (obs := [FnD prog 71 [(V.e (E.sc (S.dat (D.sl a1)))), (V.e (E.sc (S.dat (D.bool (!a0)))))] (V.e (E.agg [(S.dat (D.bool r0)), (S.dat (D.sl r1))])) []]) (by kernel_rfl) (by kernel_rfl) (by kernel_rfl) ⟨h1, trivial⟩ ?_
  exact GoJ.retV hT func104 (ids := []) (r := (V.e (E.agg [(S.dat (D.bool r0)), (S.dat (D.sl r1))]))) (r' := (V.e (E.agg [(S.dat (D.bool r0)), (S.dat (D.sl r1))]))) (σ' := ⟨[], [], 9⟩) (by kernel_rfl) (by kernel_rfl) (by kernel_rfl) (by kernel_rfl) (by kernel_rfl) h

/- f131 torsion/torsionref01.plus -/
def vc131 (a : List (List D)) (b : List (List D)) (R : V → Heap → Prop) : Prop :=
  ∃ (J0 : (List (List D)) → Int → Int → Prop) (μ0 : (List (List D)) → Int → Int → Nat),
  J0 ([] : List (List D)) (0 : Int) (0 : Int) ∧ ∀ (out : List (List D)) (carry : Int) (i : Int), J0 out carry i →
    ((decide (i < (a.length : Int))) = true →
      ∃ (vx : Int),
      (0 ≤ i ∧ i < (a.length : Int)) ∧
      (a[(i).toNat]? = some [(D.int .u32 vx)]) ∧
      (((decide (i < (b.length : Int))) = true →
        ∃ (vx1 : Int),
        (0 ≤ i ∧ i < (b.length : Int)) ∧
        (b[(i).toNat]? = some [(D.int .u32 vx1)]) ∧
        (((out.length + ([[(D.int .u32 (IntKind.u32.wrap (IntKind.u64.wrap ((IntKind.u64.wrap (carry + (IntKind.u64.wrap vx))) + (IntKind.u64.wrap vx1)))))]] : List (List D)).length) * 4 ≤ 140737488355328) ∧
        (((4294967296 : Int) ≠ 0) ∧
        (J0 (out ++ [[(D.int .u32 (IntKind.u32.wrap (IntKind.u64.wrap ((IntKind.u64.wrap (carry + (IntKind.u64.wrap vx))) + (IntKind.u64.wrap vx1)))))]]) (IntKind.u64.wrap ((IntKind.u64.wrap ((IntKind.u64.wrap (carry + (IntKind.u64.wrap vx))) + (IntKind.u64.wrap vx1))).tdiv (4294967296 : Int))) (IntKind.i64.wrap (i + (1 : Int))) ∧ μ0 (out ++ [[(D.int .u32 (IntKind.u32.wrap (IntKind.u64.wrap ((IntKind.u64.wrap (carry + (IntKind.u64.wrap vx))) + (IntKind.u64.wrap vx1)))))]]) (IntKind.u64.wrap ((IntKind.u64.wrap ((IntKind.u64.wrap (carry + (IntKind.u64.wrap vx))) + (IntKind.u64.wrap vx1))).tdiv (4294967296 : Int))) (IntKind.i64.wrap (i + (1 : Int))) < μ0 out carry i)))) ∧
      ((decide (i < (b.length : Int))) = false →
        ((out.length + ([[(D.int .u32 (IntKind.u32.wrap (IntKind.u64.wrap (carry + (IntKind.u64.wrap vx)))))]] : List (List D)).length) * 4 ≤ 140737488355328) ∧
        (((4294967296 : Int) ≠ 0) ∧
        (J0 (out ++ [[(D.int .u32 (IntKind.u32.wrap (IntKind.u64.wrap (carry + (IntKind.u64.wrap vx)))))]]) (IntKind.u64.wrap ((IntKind.u64.wrap (carry + (IntKind.u64.wrap vx))).tdiv (4294967296 : Int))) (IntKind.i64.wrap (i + (1 : Int))) ∧ μ0 (out ++ [[(D.int .u32 (IntKind.u32.wrap (IntKind.u64.wrap (carry + (IntKind.u64.wrap vx)))))]]) (IntKind.u64.wrap ((IntKind.u64.wrap (carry + (IntKind.u64.wrap vx))).tdiv (4294967296 : Int))) (IntKind.i64.wrap (i + (1 : Int))) < μ0 out carry i))))) ∧
    ((decide (i < (a.length : Int))) = false →
      ((decide (i < (b.length : Int))) = true →
        ∃ (vx2 : Int),
        (0 ≤ i ∧ i < (b.length : Int)) ∧
        (b[(i).toNat]? = some [(D.int .u32 vx2)]) ∧
        (((out.length + ([[(D.int .u32 (IntKind.u32.wrap (IntKind.u64.wrap (carry + (IntKind.u64.wrap vx2)))))]] : List (List D)).length) * 4 ≤ 140737488355328) ∧
        (((4294967296 : Int) ≠ 0) ∧
        (J0 (out ++ [[(D.int .u32 (IntKind.u32.wrap (IntKind.u64.wrap (carry + (IntKind.u64.wrap vx2)))))]]) (IntKind.u64.wrap ((IntKind.u64.wrap (carry + (IntKind.u64.wrap vx2))).tdiv (4294967296 : Int))) (IntKind.i64.wrap (i + (1 : Int))) ∧ μ0 (out ++ [[(D.int .u32 (IntKind.u32.wrap (IntKind.u64.wrap (carry + (IntKind.u64.wrap vx2)))))]]) (IntKind.u64.wrap ((IntKind.u64.wrap (carry + (IntKind.u64.wrap vx2))).tdiv (4294967296 : Int))) (IntKind.i64.wrap (i + (1 : Int))) < μ0 out carry i)))) ∧
      ((decide (i < (b.length : Int))) = false →
        ((decide (carry > (0 : Int))) = true →
          ((out.length + ([[(D.int .u32 (IntKind.u32.wrap carry))]] : List (List D)).length) * 4 ≤ 140737488355328) ∧
          (((4294967296 : Int) ≠ 0) ∧
          (J0 (out ++ [[(D.int .u32 (IntKind.u32.wrap carry))]]) (IntKind.u64.wrap (carry.tdiv (4294967296 : Int))) (IntKind.i64.wrap (i + (1 : Int))) ∧ μ0 (out ++ [[(D.int .u32 (IntKind.u32.wrap carry))]]) (IntKind.u64.wrap (carry.tdiv (4294967296 : Int))) (IntKind.i64.wrap (i + (1 : Int))) < μ0 out carry i))) ∧
        ((decide (carry > (0 : Int))) = false →
          R (V.e (E.sc (S.dat (D.sl out)))) [])))

theorem vc131_ok (a : List (List D)) (b : List (List D)) {R : V → Heap → Prop} (h : vc131 a b R) : FnG prog 131 [(V.e (E.sc (S.dat (D.sl a)))), (V.e (E.sc (S.dat (D.sl b))))] [] R := by
  unfold vc131 at h
  refine FnG.of (m := 55) (c := _) func131 rfl (by kernel_rfl) ntmps131 (Nat.le_of_ble_eq_true rfl) ?_
  refine GoJ.seq ?_
  refine GoJ.regV hT (cnt := 0) (ins := [o0]) (live := [0, 1]) (ids := []) (σ' := ⟨[(0, (V.e (E.sc (S.dat (D.sl a))))), (1, (V.e (E.sc (S.dat (D.sl b)))))], [], 55⟩) (obs := []) (by kernel_rfl) (by kernel_rfl) (by kernel_rfl) trivial ?_
  refine GoJ.seq ?_
  refine GoJ.regV hT (cnt := 1) (ins := [(Or.none, 0, 1), o0, o0]) (live := [0, 1, 5, 6]) (ids := [0]) (σ' := ⟨[(0, (V.e (E.sc (S.dat (D.sl a))))), (1, (V.e (E.sc (S.dat (D.sl b))))), (5, (V.e (E.sc (S.ref 0)))), (6, (V.e (E.sc (S.dat (D.int .u64 (0 : Int))))))], [(some (Obj.arr 1 ([] : List (List D))))], 55⟩) (obs := []) (by kernel_rfl) (by kernel_rfl) (by kernel_rfl) trivial ?_
  refine GoJ.seq ?_
  refine GoJ.seq ?_
  refine GoJ.regV hT (cnt := 0) (ins := [o0]) (live := [0, 1, 5, 6, 7]) (ids := [0]) (σ' := ⟨[(0, (V.e (E.sc (S.dat (D.sl a))))), (1, (V.e (E.sc (S.dat (D.sl b))))), (5, (V.e (E.sc (S.ref 0)))), (6, (V.e (E.sc (S.dat (D.int .u64 (0 : Int)))))), (7, (V.e (E.sc (S.dat (D.int .i64 (0 : Int))))))], [(some (Obj.arr 1 ([] : List (List D))))], 55⟩) (obs := []) (by kernel_rfl) (by kernel_rfl) (by kernel_rfl) trivial ?_
  refine GoJ.block ?_
  obtain ⟨J0, μ0, hJ0, h⟩ := h
  refine GoJ.loop (X := (List (List D)) × Int × Int) (fun x => (fun (out : List (List D)) (carry : Int) (i : Int) => (⟨[(0, (V.e (E.sc (S.dat (D.sl a))))), (1, (V.e (E.sc (S.dat (D.sl b))))), (5, (V.e (E.sc (S.ref 0)))), (6, (V.e (E.sc (S.dat (D.int .u64 carry))))), (7, (V.e (E.sc (S.dat (D.int .i64 i)))))], [(some (Obj.arr 1 out))], 55⟩ : St)) (x.1) (x.2.1) (x.2.2)) (fun x => J0 (x.1) (x.2.1) (x.2.2)) (fun x => μ0 (x.1) (x.2.1) (x.2.2)) (([] : List (List D)), (0 : Int), (0 : Int)) hJ0 ?_
  rintro ⟨out, carry, i⟩ hJ0 ih0
  replace h := h out carry i hJ0
  refine GoJ.seq ?_
  refine GoJ.seq ?_
  rcases Bool.eq_false_or_eq_true (decide (i < (a.length : Int))) with h1 | h1
  · replace h := h.1 h1
    refine GoJ.regV hT (cnt := 0) (ins := [o0, o0, o0, o0, ((Or.bool true), 0, 0), o0, o0, o0, o0, o0, o0, o0, o0, o0]) (live := [0, 1, 5, 6, 7, 22]) (ids := [0]) (σ' := ⟨[(0, (V.e (E.sc (S.dat (D.sl a))))), (1, (V.e (E.sc (S.dat (D.sl b))))), (5, (V.e (E.sc (S.ref 0)))), (6, (V.e (E.sc (S.dat (D.int .u64 carry))))), (7, (V.e (E.sc (S.dat (D.int .i64 i))))), (22, (V.e (E.sc (S.dat (D.bool true)))))], [(some (Obj.arr 1 out))], 55⟩) (obs := [(decide (i < (a.length : Int))) = true]) (by kernel_rfl) (by kernel_rfl) (by kernel_rfl) ⟨h1, trivial⟩ ?_
    refine GoJ.cond (t := true) (by kernel_rfl) (fun _ => ?_) (fun hf => nomatch hf)
    refine GoJ.skip ?_
    refine GoJ.seq ?_
    refine GoJ.block ?_
    refine GoJ.seq ?_
    refine GoJ.seq ?_
    refine GoJ.regV hT (cnt := 0) (ins := [o0, o0, o0, o0]) (live := [0, 1, 5, 6, 7, 28]) (ids := [0]) (σ' := ⟨[(0, (V.e (E.sc (S.dat (D.sl a))))), (1, (V.e (E.sc (S.dat (D.sl b))))), (5, (V.e (E.sc (S.ref 0)))), (6, (V.e (E.sc (S.dat (D.int .u64 carry))))), (7, (V.e (E.sc (S.dat (D.int .i64 i))))), (28, (V.e (E.sc (S.dat (D.bool (decide (i < (a.length : Int))))))))], [(some (Obj.arr 1 out))], 55⟩) (obs := []) (by kernel_rfl) (by kernel_rfl) (by kernel_rfl) trivial ?_
    refine GoJ.cond (t := (decide (i < (a.length : Int)))) (by kernel_rfl) (fun _ => ?_) (fun hf => nomatch hf.symm.trans h1)
    obtain ⟨vx, h2, h3, h⟩ := h
    refine GoJ.regV hT (cnt := 0) (ins := [o0, o0, o0, o0, ((Or.cells [(D.int .u32 vx)]), 0, 0), o0, o0, o0]) (live := [0, 1, 5, 6, 7]) (ids := [0]) (σ' := ⟨[(0, (V.e (E.sc (S.dat (D.sl a))))), (1, (V.e (E.sc (S.dat (D.sl b))))), (5, (V.e (E.sc (S.ref 0)))), (6, (V.e (E.sc (S.dat (D.int .u64 (IntKind.u64.wrap (carry + (IntKind.u64.wrap vx)))))))), (7, (V.e (E.sc (S.dat (D.int .i64 i)))))], [(some (Obj.arr 1 out))], 55⟩) (obs := [0 ≤ i ∧ i < (a.length : Int), a[(i).toNat]? = some [(D.int .u32 vx)]]) (by kernel_rfl) (by kernel_rfl) (by kernel_rfl) ⟨h2, h3, trivial⟩ ?_
    refine GoJ.seq ?_
    refine GoJ.seq ?_
    refine GoJ.regV hT (cnt := 0) (ins := [o0, o0, o0, o0]) (live := [0, 1, 5, 6, 7, 39]) (ids := [0]) (σ' := ⟨[(0, (V.e (E.sc (S.dat (D.sl a))))), (1, (V.e (E.sc (S.dat (D.sl b))))), (5, (V.e (E.sc (S.ref 0)))), (6, (V.e (E.sc (S.dat (D.int .u64 (IntKind.u64.wrap (carry + (IntKind.u64.wrap vx)))))))), (7, (V.e (E.sc (S.dat (D.int .i64 i))))), (39, (V.e (E.sc (S.dat (D.bool (decide (i < (b.length : Int))))))))], [(some (Obj.arr 1 out))], 55⟩) (obs := []) (by kernel_rfl) (by kernel_rfl) (by kernel_rfl) trivial ?_
    refine GoJ.cond (t := (decide (i < (b.length : Int)))) (by kernel_rfl) (fun h4 => ?_) (fun h4 => ?_)
    · replace h := h.1 h4
      obtain ⟨vx1, h5, h6, h⟩ := h
      refine GoJ.regV hT (cnt := 0) (ins := [o0, o0, o0, o0, ((Or.cells [(D.int .u32 vx1)]), 0, 0), o0, o0, o0]) (live := [0, 1, 5, 6, 7]) (ids := [0]) (σ' := ⟨[(0, (V.e (E.sc (S.dat (D.sl a))))), (1, (V.e (E.sc (S.dat (D.sl b))))), (5, (V.e (E.sc (S.ref 0)))), (6, (V.e (E.sc (S.dat (D.int .u64 (IntKind.u64.wrap ((IntKind.u64.wrap (carry + (IntKind.u64.wrap vx))) + (IntKind.u64.wrap vx1)))))))), (7, (V.e (E.sc (S.dat (D.int .i64 i)))))], [(some (Obj.arr 1 out))], 55⟩) (obs := [0 ≤ i ∧ i < (b.length : Int), b[(i).toNat]? = some [(D.int .u32 vx1)]]) (by kernel_rfl) (by kernel_rfl) (by kernel_rfl) ⟨h5, h6, trivial⟩ ?_
      refine GoJ.seq ?_
      obtain ⟨h7, h⟩ := h
      refine GoJ.regV hT (cnt := 2) (ins := [o0, o0, o0, (Or.none, 1, 1), (Or.none, 2, 1), o0]) (live := [0, 1, 5, 6, 7]) (ids := [2]) (σ' := ⟨[(0, (V.e (E.sc (S.dat (D.sl a))))), (1, (V.e (E.sc (S.dat (D.sl b))))), (5, (V.e (E.sc (S.ref 0)))), (6, (V.e (E.sc (S.dat (D.int .u64 (IntKind.u64.wrap ((IntKind.u64.wrap (carry + (IntKind.u64.wrap vx))) + (IntKind.u64.wrap vx1)))))))), (7, (V.e (E.sc (S.dat (D.int .i64 i)))))], [(some (Obj.arr 1 (out ++ [[(D.int .u32 (IntKind.u32.wrap (IntKind.u64.wrap ((IntKind.u64.wrap (carry + (IntKind.u64.wrap vx))) + (IntKind.u64.wrap vx1)))))]])))], 55⟩) (obs := [(out.length + ([[(D.int .u32 (IntKind.u32.wrap (IntKind.u64.wrap ((IntKind.u64.wrap (carry + (IntKind.u64.wrap vx))) + (IntKind.u64.wrap vx1)))))]] : List (List D)).length) * 4 ≤ 140737488355328]) (by kernel_rfl) (by kernel_rfl) (by kernel_rfl) ⟨h7, trivial⟩ ?_
      obtain ⟨h8, h⟩ := h
      refine GoJ.regV hT (cnt := 0) (ins := [o0, o0, o0]) (live := [0, 1, 5, 6, 7]) (ids := [0]) (σ' := ⟨[(0, (V.e (E.sc (S.dat (D.sl a))))), (1, (V.e (E.sc (S.dat (D.sl b))))), (5, (V.e (E.sc (S.ref 0)))), (6, (V.e (E.sc (S.dat (D.int .u64 (IntKind.u64.wrap ((IntKind.u64.wrap ((IntKind.u64.wrap (carry + (IntKind.u64.wrap vx))) + (IntKind.u64.wrap vx1))).tdiv (4294967296 : Int)))))))), (7, (V.e (E.sc (S.dat (D.int .i64 i)))))], [(some (Obj.arr 1 (out ++ [[(D.int .u32 (IntKind.u32.wrap (IntKind.u64.wrap ((IntKind.u64.wrap (carry + (IntKind.u64.wrap vx))) + (IntKind.u64.wrap vx1)))))]])))], 55⟩) (obs := [(4294967296 : Int) ≠ 0]) (by kernel_rfl) (by kernel_rfl) (by kernel_rfl) ⟨h8, trivial⟩ ?_
      refine GoJ.inBlock ?_
      refine GoJ.regV hT (cnt := 0) (ins := [o0, o0, o0]) (live := [0, 1, 5, 6, 7]) (ids := [0]) (σ' := ⟨[(0, (V.e (E.sc (S.dat (D.sl a))))), (1, (V.e (E.sc (S.dat (D.sl b))))), (5, (V.e (E.sc (S.ref 0)))), (6, (V.e (E.sc (S.dat (D.int .u64 (IntKind.u64.wrap ((IntKind.u64.wrap ((IntKind.u64.wrap (carry + (IntKind.u64.wrap vx))) + (IntKind.u64.wrap vx1))).tdiv (4294967296 : Int)))))))), (7, (V.e (E.sc (S.dat (D.int .i64 (IntKind.i64.wrap (i + (1 : Int))))))))], [(some (Obj.arr 1 (out ++ [[(D.int .u32 (IntKind.u32.wrap (IntKind.u64.wrap ((IntKind.u64.wrap (carry + (IntKind.u64.wrap vx))) + (IntKind.u64.wrap vx1)))))]])))], 55⟩) (obs := []) (by kernel_rfl) (by kernel_rfl) (by kernel_rfl) trivial ?_
      exact ih0 ((out ++ [[(D.int .u32 (IntKind.u32.wrap (IntKind.u64.wrap ((IntKind.u64.wrap (carry + (IntKind.u64.wrap vx))) + (IntKind.u64.wrap vx1)))))]]), (IntKind.u64.wrap ((IntKind.u64.wrap ((IntKind.u64.wrap (carry + (IntKind.u64.wrap vx))) + (IntKind.u64.wrap vx1))).tdiv (4294967296 : Int))), (IntKind.i64.wrap (i + (1 : Int)))) h.1 h.2
    · replace h := h.2 h4
      refine GoJ.skip ?_
      refine GoJ.seq ?_
      obtain ⟨h9, h⟩ := h
      refine GoJ.regV hT (cnt := 2) (ins := [o0, o0, o0, (Or.none, 1, 1), (Or.none, 2, 1), o0]) (live := [0, 1, 5, 6, 7]) (ids := [2]) (σ' := ⟨[(0, (V.e (E.sc (S.dat (D.sl a))))), (1, (V.e (E.sc (S.dat (D.sl b))))), (5, (V.e (E.sc (S.ref 0)))), (6, (V.e (E.sc (S.dat (D.int .u64 (IntKind.u64.wrap (carry + (IntKind.u64.wrap vx)))))))), (7, (V.e (E.sc (S.dat (D.int .i64 i)))))], [(some (Obj.arr 1 (out ++ [[(D.int .u32 (IntKind.u32.wrap (IntKind.u64.wrap (carry + (IntKind.u64.wrap vx)))))]])))], 55⟩) (obs := [(out.length + ([[(D.int .u32 (IntKind.u32.wrap (IntKind.u64.wrap (carry + (IntKind.u64.wrap vx)))))]] : List (List D)).length) * 4 ≤ 140737488355328]) (by kernel_rfl) (by kernel_rfl) (by kernel_rfl) ⟨h9, trivial⟩ ?_
      obtain ⟨h10, h⟩ := h
      refine GoJ.regV hT (cnt := 0) (ins := [o0, o0, o0]) (live := [0, 1, 5, 6, 7]) (ids := [0]) (σ' := ⟨[(0, (V.e (E.sc (S.dat (D.sl a))))), (1, (V.e (E.sc (S.dat (D.sl b))))), (5, (V.e (E.sc (S.ref 0)))), (6, (V.e (E.sc (S.dat (D.int .u64 (IntKind.u64.wrap ((IntKind.u64.wrap (carry + (IntKind.u64.wrap vx))).tdiv (4294967296 : Int)))))))), (7, (V.e (E.sc (S.dat (D.int .i64 i)))))], [(some (Obj.arr 1 (out ++ [[(D.int .u32 (IntKind.u32.wrap (IntKind.u64.wrap (carry + (IntKind.u64.wrap vx)))))]])))], 55⟩) (obs := [(4294967296 : Int) ≠ 0]) (by kernel_rfl) (by kernel_rfl) (by kernel_rfl) ⟨h10, trivial⟩ ?_
      refine GoJ.inBlock ?_
      refine GoJ.regV hT (cnt := 0) (ins := [o0, o0, o0]) (live := [0, 1, 5, 6, 7]) (ids := [0]) (σ' := ⟨[(0, (V.e (E.sc (S.dat (D.sl a))))), (1, (V.e (E.sc (S.dat (D.sl b))))), (5, (V.e (E.sc (S.ref 0)))), (6, (V.e (E.sc (S.dat (D.int .u64 (IntKind.u64.wrap ((IntKind.u64.wrap (carry + (IntKind.u64.wrap vx))).tdiv (4294967296 : Int)))))))), (7, (V.e (E.sc (S.dat (D.int .i64 (IntKind.i64.wrap (i + (1 : Int))))))))], [(some (Obj.arr 1 (out ++ [[(D.int .u32 (IntKind.u32.wrap (IntKind.u64.wrap (carry + (IntKind.u64.wrap vx)))))]])))], 55⟩) (obs := []) (by kernel_rfl) (by kernel_rfl) (by kernel_rfl) trivial ?_
      exact ih0 ((out ++ [[(D.int .u32 (IntKind.u32.wrap (IntKind.u64.wrap (carry + (IntKind.u64.wrap vx)))))]]), (IntKind.u64.wrap ((IntKind.u64.wrap (carry + (IntKind.u64.wrap vx))).tdiv (4294967296 : Int))), (IntKind.i64.wrap (i + (1 : Int)))) h.1 h.2
  · replace h := h.2 h1
    rcases Bool.eq_false_or_eq_true (decide (i < (b.length : Int))) with h11 | h11
    · replace h := h.1 h11
      refine GoJ.regV hT (cnt := 0) (ins := [o0, o0, o0, o0, ((Or.bool false), 0, 0), o0, o0, o0, o0, o0, ((Or.bool true), 0, 0), o0, o0, o0]) (live := [0, 1, 5, 6, 7, 22]) (ids := [0]) (σ' := ⟨[(0, (V.e (E.sc (S.dat (D.sl a))))), (1, (V.e (E.sc (S.dat (D.sl b))))), (5, (V.e (E.sc (S.ref 0)))), (6, (V.e (E.sc (S.dat (D.int .u64 carry))))), (7, (V.e (E.sc (S.dat (D.int .i64 i))))), (22, (V.e (E.sc (S.dat (D.bool true)))))], [(some (Obj.arr 1 out))], 55⟩) (obs := [(decide (i < (a.length : Int))) = false, (decide (i < (b.length : Int))) = true]) (by kernel_rfl) (by kernel_rfl) (by kernel_rfl) ⟨h1, h11, trivial⟩ ?_
      refine GoJ.cond (t := true) (by kernel_rfl) (fun _ => ?_) (fun hf => nomatch hf)
      refine GoJ.skip ?_
      refine GoJ.seq ?_
      refine GoJ.block ?_
      refine GoJ.seq ?_
      refine GoJ.seq ?_
      refine GoJ.regV hT (cnt := 0) (ins := [o0, o0, o0, o0]) (live := [0, 1, 5, 6, 7, 28]) (ids := [0]) (σ' := ⟨[(0, (V.e (E.sc (S.dat (D.sl a))))), (1, (V.e (E.sc (S.dat (D.sl b))))), (5, (V.e (E.sc (S.ref 0)))), (6, (V.e (E.sc (S.dat (D.int .u64 carry))))), (7, (V.e (E.sc (S.dat (D.int .i64 i))))), (28, (V.e (E.sc (S.dat (D.bool (decide (i < (a.length : Int))))))))], [(some (Obj.arr 1 out))], 55⟩) (obs := []) (by kernel_rfl) (by kernel_rfl) (by kernel_rfl) trivial ?_
      refine GoJ.cond (t := (decide (i < (a.length : Int)))) (by kernel_rfl) (fun hf => nomatch hf.symm.trans h1) (fun _ => ?_)
      refine GoJ.skip ?_
      refine GoJ.seq ?_
      refine GoJ.seq ?_
      refine GoJ.regV hT (cnt := 0) (ins := [o0, o0, o0, o0]) (live := [0, 1, 5, 6, 7, 39]) (ids := [0]) (σ' := ⟨[(0, (V.e (E.sc (S.dat (D.sl a))))), (1, (V.e (E.sc (S.dat (D.sl b))))), (5, (V.e (E.sc (S.ref 0)))), (6, (V.e (E.sc (S.dat (D.int .u64 carry))))), (7, (V.e (E.sc (S.dat (D.int .i64 i))))), (39, (V.e (E.sc (S.dat (D.bool (decide (i < (b.length : Int))))))))], [(some (Obj.arr 1 out))], 55⟩) (obs := []) (by kernel_rfl) (by kernel_rfl) (by kernel_rfl) trivial ?_
      refine GoJ.cond (t := (decide (i < (b.length : Int)))) (by kernel_rfl) (fun _ => ?_) (fun hf => nomatch hf.symm.trans h11)
      obtain ⟨vx2, h12, h13, h⟩ := h
      refine GoJ.regV hT (cnt := 0) (ins := [o0, o0, o0, o0, ((Or.cells [(D.int .u32 vx2)]), 0, 0), o0, o0, o0]) (live := [0, 1, 5, 6, 7]) (ids := [0]) (σ' := ⟨[(0, (V.e (E.sc (S.dat (D.sl a))))), (1, (V.e (E.sc (S.dat (D.sl b))))), (5, (V.e (E.sc (S.ref 0)))), (6, (V.e (E.sc (S.dat (D.int .u64 (IntKind.u64.wrap (carry + (IntKind.u64.wrap vx2)))))))), (7, (V.e (E.sc (S.dat (D.int .i64 i)))))], [(some (Obj.arr 1 out))], 55⟩) (obs := [0 ≤ i ∧ i < (b.length : Int), b[(i).toNat]? = some [(D.int .u32 vx2)]]) (by kernel_rfl) (by kernel_rfl) (by kernel_rfl) ⟨h12, h13, trivial⟩ ?_
      refine GoJ.seq ?_
      obtain ⟨h14, h⟩ := h
      refine GoJ.regV hT (cnt := 2) (ins := [o0, o0, o0, (Or.none, 1, 1), (Or.none, 2, 1), o0]) (live := [0, 1, 5, 6, 7]) (ids := [2]) (σ' := ⟨[(0, (V.e (E.sc (S.dat (D.sl a))))), (1, (V.e (E.sc (S.dat (D.sl b))))), (5, (V.e (E.sc (S.ref 0)))), (6, (V.e (E.sc (S.dat (D.int .u64 (IntKind.u64.wrap (carry + (IntKind.u64.wrap vx2)))))))), (7, (V.e (E.sc (S.dat (D.int .i64 i)))))], [(some (Obj.arr 1 (out ++ [[(D.int .u32 (IntKind.u32.wrap (IntKind.u64.wrap (carry + (IntKind.u64.wrap vx2)))))]])))], 55⟩) (obs := [(out.length + ([[(D.int .u32 (IntKind.u32.wrap (IntKind.u64.wrap (carry + (IntKind.u64.wrap vx2)))))]] : List (List D)).length) * 4 ≤ 140737488355328]) (by kernel_rfl) (by kernel_rfl) (by kernel_rfl) ⟨h14, trivial⟩ ?_
      obtain ⟨h15, h⟩ := h
      refine GoJ.regV hT (cnt := 0) (ins := [o0, o0, o0]) (live := [0, 1, 5, 6, 7]) (ids := [0]) (σ' := ⟨[(0, (V.e (E.sc (S.dat (D.sl a))))), (1, (V.e (E.sc (S.dat (D.sl b))))), (5, (V.e (E.sc (S.ref 0)))), (6, (V.e (E.sc (S.dat (D.int .u64 (IntKind.u64.wrap ((IntKind.u64.wrap (carry + (IntKind.u64.wrap vx2))).tdiv (4294967296 : Int)))))))), (7, (V.e (E.sc (S.dat (D.int .i64 i)))))], [(some (Obj.arr 1 (out ++ [[(D.int .u32 (IntKind.u32.wrap (IntKind.u64.wrap (carry + (IntKind.u64.wrap vx2)))))]])))], 55⟩) (obs := [(4294967296 : Int) ≠ 0]) (by kernel_rfl) (by kernel_rfl) (by kernel_rfl) ⟨h15, trivial⟩ ?_
      refine GoJ.inBlock ?_
      refine GoJ.regV hT (cnt := 0) (ins := [o0, o0, o0]) (live := [0, 1, 5, 6, 7]) (ids := [0]) (σ' := ⟨[(0, (V.e (E.sc (S.dat (D.sl a))))), (1, (V.e (E.sc (S.dat (D.sl b))))), (5, (V.e (E.sc (S.ref 0)))), (6, (V.e (E.sc (S.dat (D.int .u64 (IntKind.u64.wrap ((IntKind.u64.wrap (carry + (IntKind.u64.wrap vx2))).tdiv (4294967296 : Int)))))))), (7, (V.e (E.sc (S.dat (D.int .i64 (IntKind.i64.wrap (i + (1 : Int))))))))], [(some (Obj.arr 1 (out ++ [[(D.int .u32 (IntKind.u32.wrap (IntKind.u64.wrap (carry + (IntKind.u64.wrap vx2)))))]])))], 55⟩) (obs := []) (by kernel_rfl) (by kernel_rfl) (by kernel_rfl) trivial ?_
      exact ih0 ((out ++ [[(D.int .u32 (IntKind.u32.wrap (IntKind.u64.wrap (carry + (IntKind.u64.wrap vx2)))))]]), (IntKind.u64.wrap ((IntKind.u64.wrap (carry + (IntKind.u64.wrap vx2))).tdiv (4294967296 : Int))), (IntKind.i64.wrap (i + (1 : Int)))) h.1 h.2
    · replace h := h.2 h11
      refine GoJ.regV hT (cnt := 0) (ins := [o0, o0, o0, o0, ((Or.bool false), 0, 0), o0, o0, o0, o0, o0, ((Or.bool false), 0, 0), o0, o0, o0]) (live := [0, 1, 5, 6, 7, 22]) (ids := [0]) (σ' := ⟨[(0, (V.e (E.sc (S.dat (D.sl a))))), (1, (V.e (E.sc (S.dat (D.sl b))))), (5, (V.e (E.sc (S.ref 0)))), (6, (V.e (E.sc (S.dat (D.int .u64 carry))))), (7, (V.e (E.sc (S.dat (D.int .i64 i))))), (22, (V.e (E.sc (S.dat (D.bool (decide (carry > (0 : Int))))))))], [(some (Obj.arr 1 out))], 55⟩) (obs := [(decide (i < (a.length : Int))) = false, (decide (i < (b.length : Int))) = false]) (by kernel_rfl) (by kernel_rfl) (by kernel_rfl) ⟨h1, h11, trivial⟩ ?_
      refine GoJ.cond (t := (decide (carry > (0 : Int)))) (by kernel_rfl) (fun h16 => ?_) (fun h16 => ?_)
      · replace h := h.1 h16
        refine GoJ.skip ?_
        refine GoJ.seq ?_
        refine GoJ.block ?_
        refine GoJ.seq ?_
        refine GoJ.seq ?_
        refine GoJ.regV hT (cnt := 0) (ins := [o0, o0, o0, o0]) (live := [0, 1, 5, 6, 7, 28]) (ids := [0]) (σ' := ⟨[(0, (V.e (E.sc (S.dat (D.sl a))))), (1, (V.e (E.sc (S.dat (D.sl b))))), (5, (V.e (E.sc (S.ref 0)))), (6, (V.e (E.sc (S.dat (D.int .u64 carry))))), (7, (V.e (E.sc (S.dat (D.int .i64 i))))), (28, (V.e (E.sc (S.dat (D.bool (decide (i < (a.length : Int))))))))], [(some (Obj.arr 1 out))], 55⟩) (obs := []) (by kernel_rfl) (by kernel_rfl) (by kernel_rfl) trivial ?_
        refine GoJ.cond (t := (decide (i < (a.length : Int)))) (by kernel_rfl) (fun hf => nomatch hf.symm.trans h1) (fun _ => ?_)
        refine GoJ.skip ?_
        refine GoJ.seq ?_
        refine GoJ.seq ?_
        refine GoJ.regV hT (cnt := 0) (ins := [o0, o0, o0, o0]) (live := [0, 1, 5, 6, 7, 39]) (ids := [0]) (σ' := ⟨[(0, (V.e (E.sc (S.dat (D.sl a))))), (1, (V.e (E.sc (S.dat (D.sl b))))), (5, (V.e (E.sc (S.ref 0)))), (6, (V.e (E.sc (S.dat (D.int .u64 carry))))), (7, (V.e (E.sc (S.dat (D.int .i64 i))))), (39, (V.e (E.sc (S.dat (D.bool (decide (i < (b.length : Int))))))))], [(some (Obj.arr 1 out))], 55⟩) (obs := []) (by kernel_rfl) (by kernel_rfl) (by kernel_rfl) trivial ?_
        refine GoJ.cond (t := (decide (i < (b.length : Int)))) (by kernel_rfl) (fun hf => nomatch hf.symm.trans h11) (fun _ => ?_)
        refine GoJ.skip ?_
        refine GoJ.seq ?_
        obtain ⟨h17, h⟩ := h
        refine GoJ.regV hT (cnt := 2) (ins := [o0, o0, o0, (Or.none, 1, 1), (Or.none, 2, 1), o0]) (live := [0, 1, 5, 6, 7]) (ids := [2]) (σ' := ⟨[(0, (V.e (E.sc (S.dat (D.sl a))))), (1, (V.e (E.sc (S.dat (D.sl b))))), (5, (V.e (E.sc (S.ref 0)))), (6, (V.e (E.sc (S.dat (D.int .u64 carry))))), (7, (V.e (E.sc (S.dat (D.int .i64 i)))))], [(some (Obj.arr 1 (out ++ [[(D.int .u32 (IntKind.u32.wrap carry))]])))], 55⟩) (obs := [(out.length + ([[(D.int .u32 (IntKind.u32.wrap carry))]] : List (List D)).length) * 4 ≤ 140737488355328]) (by kernel_rfl) (by kernel_rfl) (by kernel_rfl) ⟨h17, trivial⟩ ?_
        obtain ⟨h18, h⟩ := h
        refine GoJ.regV hT (cnt := 0) (ins := [o0, o0, o0]) (live := [0, 1, 5, 6, 7]) (ids := [0]) (σ' := ⟨[(0, (V.e (E.sc (S.dat (D.sl a))))), (1, (V.e (E.sc (S.dat (D.sl b))))), (5, (V.e (E.sc (S.ref 0)))), (6, (V.e (E.sc (S.dat (D.int .u64 (IntKind.u64.wrap (carry.tdiv (4294967296 : Int)))))))), (7, (V.e (E.sc (S.dat (D.int .i64 i)))))], [(some (Obj.arr 1 (out ++ [[(D.int .u32 (IntKind.u32.wrap carry))]])))], 55⟩) (obs := [(4294967296 : Int) ≠ 0]) (by kernel_rfl) (by kernel_rfl) (by kernel_rfl) ⟨h18, trivial⟩ ?_
        refine GoJ.inBlock ?_
        refine GoJ.regV hT (cnt := 0) (ins := [o0, o0, o0]) (live := [0, 1, 5, 6, 7]) (ids := [0]) (σ' := ⟨[(0, (V.e (E.sc (S.dat (D.sl a))))), (1, (V.e (E.sc (S.dat (D.sl b))))), (5, (V.e (E.sc (S.ref 0)))), (6, (V.e (E.sc (S.dat (D.int .u64 (IntKind.u64.wrap (carry.tdiv (4294967296 : Int)))))))), (7, (V.e (E.sc (S.dat (D.int .i64 (IntKind.i64.wrap (i + (1 : Int))))))))], [(some (Obj.arr 1 (out ++ [[(D.int .u32 (IntKind.u32.wrap carry))]])))], 55⟩) (obs := []) (by kernel_rfl) (by kernel_rfl) (by kernel_rfl) trivial ?_
        exact ih0 ((out ++ [[(D.int .u32 (IntKind.u32.wrap carry))]]), (IntKind.u64.wrap (carry.tdiv (4294967296 : Int))), (IntKind.i64.wrap (i + (1 : Int)))) h.1 h.2
      · replace h := h.2 h16
        refine GoJ.exit rfl ?_
        refine GoJ.seq ?_
        refine GoJ.regV hT (cnt := 0) (ins := [o0, o0]) (live := [4]) (ids := [0]) (σ' := ⟨[(4, (V.e (E.sc (S.ref 0))))], [(some (Obj.arr 1 out))], 55⟩) (obs := []) (by kernel_rfl) (by kernel_rfl) (by kernel_rfl) trivial ?_
        refine GoJ.wk (xfreeze_ok (ids := [0]) (σ' := ⟨[(4, (V.e (E.sc (S.dat (D.sl out)))))], [none], 55⟩) (by kernel_rfl)) ?_
        exact GoJ.retV hT func131 (ids := []) (r := (V.e (E.sc (S.dat (D.sl out))))) (r' := (V.e (E.sc (S.dat (D.sl out))))) (σ' := ⟨[], [], 55⟩) (by kernel_rfl) (by kernel_rfl) (by kernel_rfl) (by kernel_rfl) (by kernel_rfl) h

/- f132 torsion/torsionref01.minus -/
def vc132 (a : List (List D)) (b : List (List D)) (R : V → Heap → Prop) : Prop :=
  ∃ (J0 : (List (List D)) → Int → Int → Prop) (μ0 : (List (List D)) → Int → Int → Nat),
  J0 ([] : List (List D)) (0 : Int) (0 : Int) ∧ ∀ (out : List (List D)) (borrow : Int) (i : Int), J0 out borrow i →
    ((decide (i < (a.length : Int))) = true →
      ∃ (vx : Int),
      (0 ≤ i ∧ i < (a.length : Int)) ∧
      (a[(i).toNat]? = some [(D.int .u32 vx)]) ∧
      (((decide (i < (b.length : Int))) = true →
        ∃ (vx1 : Int),
        (0 ≤ i ∧ i < (b.length : Int)) ∧
        (b[(i).toNat]? = some [(D.int .u32 vx1)]) ∧
        (((decide ((IntKind.i64.wrap ((IntKind.i64.wrap ((IntKind.i64.wrap vx) - borrow)) - (IntKind.i64.wrap vx1))) < (0 : Int))) = true →
          ((out.length + ([[(D.int .u32 (IntKind.u32.wrap (IntKind.i64.wrap ((IntKind.i64.wrap ((IntKind.i64.wrap ((IntKind.i64.wrap vx) - borrow)) - (IntKind.i64.wrap vx1))) + (4294967296 : Int)))))]] : List (List D)).length) * 4 ≤ 140737488355328) ∧
          (J0 (out ++ [[(D.int .u32 (IntKind.u32.wrap (IntKind.i64.wrap ((IntKind.i64.wrap ((IntKind.i64.wrap ((IntKind.i64.wrap vx) - borrow)) - (IntKind.i64.wrap vx1))) + (4294967296 : Int)))))]]) (1 : Int) (IntKind.i64.wrap (i + (1 : Int))) ∧ μ0 (out ++ [[(D.int .u32 (IntKind.u32.wrap (IntKind.i64.wrap ((IntKind.i64.wrap ((IntKind.i64.wrap ((IntKind.i64.wrap vx) - borrow)) - (IntKind.i64.wrap vx1))) + (4294967296 : Int)))))]]) (1 : Int) (IntKind.i64.wrap (i + (1 : Int))) < μ0 out borrow i)) ∧
        ((decide ((IntKind.i64.wrap ((IntKind.i64.wrap ((IntKind.i64.wrap vx) - borrow)) - (IntKind.i64.wrap vx1))) < (0 : Int))) = false →
          ((out.length + ([[(D.int .u32 (IntKind.u32.wrap (IntKind.i64.wrap ((IntKind.i64.wrap ((IntKind.i64.wrap vx) - borrow)) - (IntKind.i64.wrap vx1)))))]] : List (List D)).length) * 4 ≤ 140737488355328) ∧
          (J0 (out ++ [[(D.int .u32 (IntKind.u32.wrap (IntKind.i64.wrap ((IntKind.i64.wrap ((IntKind.i64.wrap vx) - borrow)) - (IntKind.i64.wrap vx1)))))]]) (0 : Int) (IntKind.i64.wrap (i + (1 : Int))) ∧ μ0 (out ++ [[(D.int .u32 (IntKind.u32.wrap (IntKind.i64.wrap ((IntKind.i64.wrap ((IntKind.i64.wrap vx) - borrow)) - (IntKind.i64.wrap vx1)))))]]) (0 : Int) (IntKind.i64.wrap (i + (1 : Int))) < μ0 out borrow i)))) ∧
      ((decide (i < (b.length : Int))) = false →
        ((decide ((IntKind.i64.wrap ((IntKind.i64.wrap vx) - borrow)) < (0 : Int))) = true →
          ((out.length + ([[(D.int .u32 (IntKind.u32.wrap (IntKind.i64.wrap ((IntKind.i64.wrap ((IntKind.i64.wrap vx) - borrow)) + (4294967296 : Int)))))]] : List (List D)).length) * 4 ≤ 140737488355328) ∧
          (J0 (out ++ [[(D.int .u32 (IntKind.u32.wrap (IntKind.i64.wrap ((IntKind.i64.wrap ((IntKind.i64.wrap vx) - borrow)) + (4294967296 : Int)))))]]) (1 : Int) (IntKind.i64.wrap (i + (1 : Int))) ∧ μ0 (out ++ [[(D.int .u32 (IntKind.u32.wrap (IntKind.i64.wrap ((IntKind.i64.wrap ((IntKind.i64.wrap vx) - borrow)) + (4294967296 : Int)))))]]) (1 : Int) (IntKind.i64.wrap (i + (1 : Int))) < μ0 out borrow i)) ∧
        ((decide ((IntKind.i64.wrap ((IntKind.i64.wrap vx) - borrow)) < (0 : Int))) = false →
          ((out.length + ([[(D.int .u32 (IntKind.u32.wrap (IntKind.i64.wrap ((IntKind.i64.wrap vx) - borrow))))]] : List (List D)).length) * 4 ≤ 140737488355328) ∧
          (J0 (out ++ [[(D.int .u32 (IntKind.u32.wrap (IntKind.i64.wrap ((IntKind.i64.wrap vx) - borrow))))]]) (0 : Int) (IntKind.i64.wrap (i + (1 : Int))) ∧ μ0 (out ++ [[(D.int .u32 (IntKind.u32.wrap (IntKind.i64.wrap ((IntKind.i64.wrap vx) - borrow))))]]) (0 : Int) (IntKind.i64.wrap (i + (1 : Int))) < μ0 out borrow i))))) ∧
    ((decide (i < (a.length : Int))) = false →
      R (V.e (E.sc (S.dat (D.sl out)))) [])

theorem vc132_ok (a : List (List D)) (b : List (List D)) {R : V → Heap → Prop} (h : vc132 a b R) : FnG prog 132 [(V.e (E.sc (S.dat (D.sl a)))), (V.e (E.sc (S.dat (D.sl b))))] [] R := by
  unfold vc132 at h
  refine FnG.of (m := 44) (c := _) func132 rfl (by kernel_rfl) ntmps132 (Nat.le_of_ble_eq_true rfl) ?_
  refine GoJ.seq ?_
  refine GoJ.regV hT (cnt := 0) (ins := [o0]) (live := [0, 1]) (ids := []) (σ' := ⟨[(0, (V.e (E.sc (S.dat (D.sl a))))), (1, (V.e (E.sc (S.dat (D.sl b)))))], [], 44⟩) (obs := []) (by kernel_rfl) (by kernel_rfl) (by kernel_rfl) trivial ?_
  refine GoJ.seq ?_
  refine GoJ.regV hT (cnt := 1) (ins := [(Or.none, 0, 1), o0, o0]) (live := [0, 1, 5, 6]) (ids := [0]) (σ' := ⟨[(0, (V.e (E.sc (S.dat (D.sl a))))), (1, (V.e (E.sc (S.dat (D.sl b))))), (5, (V.e (E.sc (S.ref 0)))), (6, (V.e (E.sc (S.dat (D.int .i64 (0 : Int))))))], [(some (Obj.arr 1 ([] : List (List D))))], 44⟩) (obs := []) (by kernel_rfl) (by kernel_rfl) (by kernel_rfl) trivial ?_
  refine GoJ.seq ?_
  refine GoJ.seq ?_
  refine GoJ.regV hT (cnt := 0) (ins := [o0]) (live := [0, 1, 5, 6, 7]) (ids := [0]) (σ' := ⟨[(0, (V.e (E.sc (S.dat (D.sl a))))), (1, (V.e (E.sc (S.dat (D.sl b))))), (5, (V.e (E.sc (S.ref 0)))), (6, (V.e (E.sc (S.dat (D.int .i64 (0 : Int)))))), (7, (V.e (E.sc (S.dat (D.int .i64 (0 : Int))))))], [(some (Obj.arr 1 ([] : List (List D))))], 44⟩) (obs := []) (by kernel_rfl) (by kernel_rfl) (by kernel_rfl) trivial ?_
  refine GoJ.block ?_
  obtain ⟨J0, μ0, hJ0, h⟩ := h
  refine GoJ.loop (X := (List (List D)) × Int × Int) (fun x => (fun (out : List (List D)) (borrow : Int) (i : Int) => (⟨[(0, (V.e (E.sc (S.dat (D.sl a))))), (1, (V.e (E.sc (S.dat (D.sl b))))), (5, (V.e (E.sc (S.ref 0)))), (6, (V.e (E.sc (S.dat (D.int .i64 borrow))))), (7, (V.e (E.sc (S.dat (D.int .i64 i)))))], [(some (Obj.arr 1 out))], 44⟩ : St)) (x.1) (x.2.1) (x.2.2)) (fun x => J0 (x.1) (x.2.1) (x.2.2)) (fun x => μ0 (x.1) (x.2.1) (x.2.2)) (([] : List (List D)), (0 : Int), (0 : Int)) hJ0 ?_
  rintro ⟨out, borrow, i⟩ hJ0 ih0
  replace h := h out borrow i hJ0
  refine GoJ.seq ?_
  refine GoJ.seq ?_
  refine GoJ.regV hT (cnt := 0) (ins := [o0, o0, o0, o0]) (live := [0, 1, 5, 6, 7, 13]) (ids := [0]) (σ' := ⟨[(0, (V.e (E.sc (S.dat (D.sl a))))), (1, (V.e (E.sc (S.dat (D.sl b))))), (5, (V.e (E.sc (S.ref 0)))), (6, (V.e (E.sc (S.dat (D.int .i64 borrow))))), (7, (V.e (E.sc (S.dat (D.int .i64 i))))), (13, (V.e (E.sc (S.dat (D.bool (decide (i < (a.length : Int))))))))], [(some (Obj.arr 1 out))], 44⟩) (obs := []) (by kernel_rfl) (by kernel_rfl) (by kernel_rfl) trivial ?_
  refine GoJ.cond (t := (decide (i < (a.length : Int)))) (by kernel_rfl) (fun h1 => ?_) (fun h1 => ?_)
  · replace h := h.1 h1
    refine GoJ.skip ?_
    refine GoJ.seq ?_
    refine GoJ.block ?_
    refine GoJ.seq ?_
    obtain ⟨vx, h2, h3, h⟩ := h
    refine GoJ.regV hT (cnt := 0) (ins := [o0, o0, o0, ((Or.cells [(D.int .u32 vx)]), 0, 0), o0, o0, o0, o0]) (live := [0, 1, 5, 7, 8]) (ids := [0]) (σ' := ⟨[(0, (V.e (E.sc (S.dat (D.sl a))))), (1, (V.e (E.sc (S.dat (D.sl b))))), (5, (V.e (E.sc (S.ref 0)))), (7, (V.e (E.sc (S.dat (D.int .i64 i))))), (8, (V.e (E.sc (S.dat (D.int .i64 (IntKind.i64.wrap ((IntKind.i64.wrap vx) - borrow)))))))], [(some (Obj.arr 1 out))], 44⟩) (obs := [0 ≤ i ∧ i < (a.length : Int), a[(i).toNat]? = some [(D.int .u32 vx)]]) (by kernel_rfl) (by kernel_rfl) (by kernel_rfl) ⟨h2, h3, trivial⟩ ?_
    refine GoJ.seq ?_
    refine GoJ.seq ?_
    refine GoJ.regV hT (cnt := 0) (ins := [o0, o0, o0, o0]) (live := [0, 1, 5, 7, 8, 26]) (ids := [0]) (σ' := ⟨[(0, (V.e (E.sc (S.dat (D.sl a))))), (1, (V.e (E.sc (S.dat (D.sl b))))), (5, (V.e (E.sc (S.ref 0)))), (7, (V.e (E.sc (S.dat (D.int .i64 i))))), (8, (V.e (E.sc (S.dat (D.int .i64 (IntKind.i64.wrap ((IntKind.i64.wrap vx) - borrow))))))), (26, (V.e (E.sc (S.dat (D.bool (decide (i < (b.length : Int))))))))], [(some (Obj.arr 1 out))], 44⟩) (obs := []) (by kernel_rfl) (by kernel_rfl) (by kernel_rfl) trivial ?_
    refine GoJ.cond (t := (decide (i < (b.length : Int)))) (by kernel_rfl) (fun h4 => ?_) (fun h4 => ?_)
    · replace h := h.1 h4
      obtain ⟨vx1, h5, h6, h⟩ := h
      refine GoJ.regV hT (cnt := 0) (ins := [o0, o0, o0, o0, ((Or.cells [(D.int .u32 vx1)]), 0, 0), o0, o0, o0]) (live := [0, 1, 5, 7, 8]) (ids := [0]) (σ' := ⟨[(0, (V.e (E.sc (S.dat (D.sl a))))), (1, (V.e (E.sc (S.dat (D.sl b))))), (5, (V.e (E.sc (S.ref 0)))), (7, (V.e (E.sc (S.dat (D.int .i64 i))))), (8, (V.e (E.sc (S.dat (D.int .i64 (IntKind.i64.wrap ((IntKind.i64.wrap ((IntKind.i64.wrap vx) - borrow)) - (IntKind.i64.wrap vx1))))))))], [(some (Obj.arr 1 out))], 44⟩) (obs := [0 ≤ i ∧ i < (b.length : Int), b[(i).toNat]? = some [(D.int .u32 vx1)]]) (by kernel_rfl) (by kernel_rfl) (by kernel_rfl) ⟨h5, h6, trivial⟩ ?_
      refine GoJ.seq ?_
      refine GoJ.regV hT (cnt := 0) (ins := [o0]) (live := [0, 1, 5, 6, 7, 8]) (ids := [0]) (σ' := ⟨[(0, (V.e (E.sc (S.dat (D.sl a))))), (1, (V.e (E.sc (S.dat (D.sl b))))), (5, (V.e (E.sc (S.ref 0)))), (6, (V.e (E.sc (S.dat (D.int .i64 (0 : Int)))))), (7, (V.e (E.sc (S.dat (D.int .i64 i))))), (8, (V.e (E.sc (S.dat (D.int .i64 (IntKind.i64.wrap ((IntKind.i64.wrap ((IntKind.i64.wrap vx) - borrow)) - (IntKind.i64.wrap vx1))))))))], [(some (Obj.arr 1 out))], 44⟩) (obs := []) (by kernel_rfl) (by kernel_rfl) (by kernel_rfl) trivial ?_
      refine GoJ.seq ?_
      refine GoJ.seq ?_
      refine GoJ.regV hT (cnt := 0) (ins := [o0, o0]) (live := [0, 1, 5, 6, 7, 8, 35]) (ids := [0]) (σ' := ⟨[(0, (V.e (E.sc (S.dat (D.sl a))))), (1, (V.e (E.sc (S.dat (D.sl b))))), (5, (V.e (E.sc (S.ref 0)))), (6, (V.e (E.sc (S.dat (D.int .i64 (0 : Int)))))), (7, (V.e (E.sc (S.dat (D.int .i64 i))))), (8, (V.e (E.sc (S.dat (D.int .i64 (IntKind.i64.wrap ((IntKind.i64.wrap ((IntKind.i64.wrap vx) - borrow)) - (IntKind.i64.wrap vx1)))))))), (35, (V.e (E.sc (S.dat (D.bool (decide ((IntKind.i64.wrap ((IntKind.i64.wrap ((IntKind.i64.wrap vx) - borrow)) - (IntKind.i64.wrap vx1))) < (0 : Int))))))))], [(some (Obj.arr 1 out))], 44⟩) (obs := []) (by kernel_rfl) (by kernel_rfl) (by kernel_rfl) trivial ?_
      refine GoJ.cond (t := (decide ((IntKind.i64.wrap ((IntKind.i64.wrap ((IntKind.i64.wrap vx) - borrow)) - (IntKind.i64.wrap vx1))) < (0 : Int)))) (by kernel_rfl) (fun h7 => ?_) (fun h7 => ?_)
      · replace h := h.1 h7
        refine GoJ.seq ?_
        refine GoJ.regV hT (cnt := 0) (ins := [o0, o0, o0]) (live := [0, 1, 5, 7, 8]) (ids := [0]) (σ' := ⟨[(0, (V.e (E.sc (S.dat (D.sl a))))), (1, (V.e (E.sc (S.dat (D.sl b))))), (5, (V.e (E.sc (S.ref 0)))), (7, (V.e (E.sc (S.dat (D.int .i64 i))))), (8, (V.e (E.sc (S.dat (D.int .i64 (IntKind.i64.wrap ((IntKind.i64.wrap ((IntKind.i64.wrap ((IntKind.i64.wrap vx) - borrow)) - (IntKind.i64.wrap vx1))) + (4294967296 : Int))))))))], [(some (Obj.arr 1 out))], 44⟩) (obs := []) (by kernel_rfl) (by kernel_rfl) (by kernel_rfl) trivial ?_
        refine GoJ.regV hT (cnt := 0) (ins := [o0]) (live := [0, 1, 5, 6, 7, 8]) (ids := [0]) (σ' := ⟨[(0, (V.e (E.sc (S.dat (D.sl a))))), (1, (V.e (E.sc (S.dat (D.sl b))))), (5, (V.e (E.sc (S.ref 0)))), (6, (V.e (E.sc (S.dat (D.int .i64 (1 : Int)))))), (7, (V.e (E.sc (S.dat (D.int .i64 i))))), (8, (V.e (E.sc (S.dat (D.int .i64 (IntKind.i64.wrap ((IntKind.i64.wrap ((IntKind.i64.wrap ((IntKind.i64.wrap vx) - borrow)) - (IntKind.i64.wrap vx1))) + (4294967296 : Int))))))))], [(some (Obj.arr 1 out))], 44⟩) (obs := []) (by kernel_rfl) (by kernel_rfl) (by kernel_rfl) trivial ?_
        obtain ⟨h8, h⟩ := h
        refine GoJ.regV hT (cnt := 2) (ins := [o0, o0, o0, (Or.none, 1, 1), (Or.none, 2, 1), o0]) (live := [0, 1, 5, 6, 7]) (ids := [2]) (σ' := ⟨[(0, (V.e (E.sc (S.dat (D.sl a))))), (1, (V.e (E.sc (S.dat (D.sl b))))), (5, (V.e (E.sc (S.ref 0)))), (6, (V.e (E.sc (S.dat (D.int .i64 (1 : Int)))))), (7, (V.e (E.sc (S.dat (D.int .i64 i)))))], [(some (Obj.arr 1 (out ++ [[(D.int .u32 (IntKind.u32.wrap (IntKind.i64.wrap ((IntKind.i64.wrap ((IntKind.i64.wrap ((IntKind.i64.wrap vx) - borrow)) - (IntKind.i64.wrap vx1))) + (4294967296 : Int)))))]])))], 44⟩) (obs := [(out.length + ([[(D.int .u32 (IntKind.u32.wrap (IntKind.i64.wrap ((IntKind.i64.wrap ((IntKind.i64.wrap ((IntKind.i64.wrap vx) - borrow)) - (IntKind.i64.wrap vx1))) + (4294967296 : Int)))))]] : List (List D)).length) * 4 ≤ 140737488355328]) (by kernel_rfl) (by kernel_rfl) (by kernel_rfl) ⟨h8, trivial⟩ ?_
        refine GoJ.inBlock ?_
        refine GoJ.regV hT (cnt := 0) (ins := [o0, o0, o0]) (live := [0, 1, 5, 6, 7]) (ids := [0]) (σ' := ⟨[(0, (V.e (E.sc (S.dat (D.sl a))))), (1, (V.e (E.sc (S.dat (D.sl b))))), (5, (V.e (E.sc (S.ref 0)))), (6, (V.e (E.sc (S.dat (D.int .i64 (1 : Int)))))), (7, (V.e (E.sc (S.dat (D.int .i64 (IntKind.i64.wrap (i + (1 : Int))))))))], [(some (Obj.arr 1 (out ++ [[(D.int .u32 (IntKind.u32.wrap (IntKind.i64.wrap ((IntKind.i64.wrap ((IntKind.i64.wrap ((IntKind.i64.wrap vx) - borrow)) - (IntKind.i64.wrap vx1))) + (4294967296 : Int)))))]])))], 44⟩) (obs := []) (by kernel_rfl) (by kernel_rfl) (by kernel_rfl) trivial ?_
        exact ih0 ((out ++ [[(D.int .u32 (IntKind.u32.wrap (IntKind.i64.wrap ((IntKind.i64.wrap ((IntKind.i64.wrap ((IntKind.i64.wrap vx) - borrow)) - (IntKind.i64.wrap vx1))) + (4294967296 : Int)))))]]), (1 : Int), (IntKind.i64.wrap (i + (1 : Int)))) h.1 h.2
      · replace h := h.2 h7
        refine GoJ.skip ?_
        obtain ⟨h9, h⟩ := h
        refine GoJ.regV hT (cnt := 2) (ins := [o0, o0, o0, (Or.none, 1, 1), (Or.none, 2, 1), o0]) (live := [0, 1, 5, 6, 7]) (ids := [2]) (σ' := ⟨[(0, (V.e (E.sc (S.dat (D.sl a))))), (1, (V.e (E.sc (S.dat (D.sl b))))), (5, (V.e (E.sc (S.ref 0)))), (6, (V.e (E.sc (S.dat (D.int .i64 (0 : Int)))))), (7, (V.e (E.sc (S.dat (D.int .i64 i)))))], [(some (Obj.arr 1 (out ++ [[(D.int .u32 (IntKind.u32.wrap (IntKind.i64.wrap ((IntKind.i64.wrap ((IntKind.i64.wrap vx) - borrow)) - (IntKind.i64.wrap vx1)))))]])))], 44⟩) (obs := [(out.length + ([[(D.int .u32 (IntKind.u32.wrap (IntKind.i64.wrap ((IntKind.i64.wrap ((IntKind.i64.wrap vx) - borrow)) - (IntKind.i64.wrap vx1)))))]] : List (List D)).length) * 4 ≤ 140737488355328]) (by kernel_rfl) (by kernel_rfl) (by kernel_rfl) ⟨h9, trivial⟩ ?_
        refine GoJ.inBlock ?_
        refine GoJ.regV hT (cnt := 0) (ins := [o0, o0, o0]) (live := [0, 1, 5, 6, 7]) (ids := [0]) (σ' := ⟨[(0, (V.e (E.sc (S.dat (D.sl a))))), (1, (V.e (E.sc (S.dat (D.sl b))))), (5, (V.e (E.sc (S.ref 0)))), (6, (V.e (E.sc (S.dat (D.int .i64 (0 : Int)))))), (7, (V.e (E.sc (S.dat (D.int .i64 (IntKind.i64.wrap (i + (1 : Int))))))))], [(some (Obj.arr 1 (out ++ [[(D.int .u32 (IntKind.u32.wrap (IntKind.i64.wrap ((IntKind.i64.wrap ((IntKind.i64.wrap vx) - borrow)) - (IntKind.i64.wrap vx1)))))]])))], 44⟩) (obs := []) (by kernel_rfl) (by kernel_rfl) (by kernel_rfl) trivial ?_
        exact ih0 ((out ++ [[(D.int .u32 (IntKind.u32.wrap (IntKind.i64.wrap ((IntKind.i64.wrap ((IntKind.i64.wrap vx) - borrow)) - (IntKind.i64.wrap vx1)))))]]), (0 : Int), (IntKind.i64.wrap (i + (1 : Int)))) h.1 h.2
    · replace h := h.2 h4
      refine GoJ.skip ?_
      refine GoJ.seq ?_
      refine GoJ.regV hT (cnt := 0) (ins := [o0]) (live := [0, 1, 5, 6, 7, 8]) (ids := [0]) (σ' := ⟨[(0, (V.e (E.sc (S.dat (D.sl a))))), (1, (V.e (E.sc (S.dat (D.sl b))))), (5, (V.e (E.sc (S.ref 0)))), (6, (V.e (E.sc (S.dat (D.int .i64 (0 : Int)))))), (7, (V.e (E.sc (S.dat (D.int .i64 i))))), (8, (V.e (E.sc (S.dat (D.int .i64 (IntKind.i64.wrap ((IntKind.i64.wrap vx) - borrow)))))))], [(some (Obj.arr 1 out))], 44⟩) (obs := []) (by kernel_rfl) (by kernel_rfl) (by kernel_rfl) trivial ?_
      refine GoJ.seq ?_
      refine GoJ.seq ?_
      refine GoJ.regV hT (cnt := 0) (ins := [o0, o0]) (live := [0, 1, 5, 6, 7, 8, 35]) (ids := [0]) (σ' := ⟨[(0, (V.e (E.sc (S.dat (D.sl a))))), (1, (V.e (E.sc (S.dat (D.sl b))))), (5, (V.e (E.sc (S.ref 0)))), (6, (V.e (E.sc (S.dat (D.int .i64 (0 : Int)))))), (7, (V.e (E.sc (S.dat (D.int .i64 i))))), (8, (V.e (E.sc (S.dat (D.int .i64 (IntKind.i64.wrap ((IntKind.i64.wrap vx) - borrow))))))), (35, (V.e (E.sc (S.dat (D.bool (decide ((IntKind.i64.wrap ((IntKind.i64.wrap vx) - borrow)) < (0 : Int))))))))], [(some (Obj.arr 1 out))], 44⟩) (obs := []) (by kernel_rfl) (by kernel_rfl) (by kernel_rfl) trivial ?_
      refine GoJ.cond (t := (decide ((IntKind.i64.wrap ((IntKind.i64.wrap vx) - borrow)) < (0 : Int)))) (by kernel_rfl) (fun h10 => ?_) (fun h10 => ?_)
      · replace h := h.1 h10
        refine GoJ.seq ?_
        refine GoJ.regV hT (cnt := 0) (ins := [o0, o0, o0]) (live := [0, 1, 5, 7, 8]) (ids := [0]) (σ' := ⟨[(0, (V.e (E.sc (S.dat (D.sl a))))), (1, (V.e (E.sc (S.dat (D.sl b))))), (5, (V.e (E.sc (S.ref 0)))), (7, (V.e (E.sc (S.dat (D.int .i64 i))))), (8, (V.e (E.sc (S.dat (D.int .i64 (IntKind.i64.wrap ((IntKind.i64.wrap ((IntKind.i64.wrap vx) - borrow)) + (4294967296 : Int))))))))], [(some (Obj.arr 1 out))], 44⟩) (obs := []) (by kernel_rfl) (by kernel_rfl) (by kernel_rfl) trivial ?_
        refine GoJ.regV hT (cnt := 0) (ins := [o0]) (live := [0, 1, 5, 6, 7, 8]) (ids := [0]) (σ' := ⟨[(0, (V.e (E.sc (S.dat (D.sl a))))), (1, (V.e (E.sc (S.dat (D.sl b))))), (5, (V.e (E.sc (S.ref 0)))), (6, (V.e (E.sc (S.dat (D.int .i64 (1 : Int)))))), (7, (V.e (E.sc (S.dat (D.int .i64 i))))), (8, (V.e (E.sc (S.dat (D.int .i64 (IntKind.i64.wrap ((IntKind.i64.wrap ((IntKind.i64.wrap vx) - borrow)) + (4294967296 : Int))))))))], [(some (Obj.arr 1 out))], 44⟩) (obs := []) (by kernel_rfl) (by kernel_rfl) (by kernel_rfl) trivial ?_
        obtain ⟨h11, h⟩ := h
        refine GoJ.regV hT (cnt := 2) (ins := [o0, o0, o0, (Or.none, 1, 1), (Or.none, 2, 1), o0]) (live := [0, 1, 5, 6, 7]) (ids := [2]) (σ' := ⟨[(0, (V.e (E.sc (S.dat (D.sl a))))), (1, (V.e (E.sc (S.dat (D.sl b))))), (5, (V.e (E.sc (S.ref 0)))), (6, (V.e (E.sc (S.dat (D.int .i64 (1 : Int)))))), (7, (V.e (E.sc (S.dat (D.int .i64 i)))))], [(some (Obj.arr 1 (out ++ [[(D.int .u32 (IntKind.u32.wrap (IntKind.i64.wrap ((IntKind.i64.wrap ((IntKind.i64.wrap vx) - borrow)) + (4294967296 : Int)))))]])))], 44⟩) (obs := [(out.length + ([[(D.int .u32 (IntKind.u32.wrap (IntKind.i64.wrap ((IntKind.i64.wrap ((IntKind.i64.wrap vx) - borrow)) + (4294967296 : Int)))))]] : List (List D)).length) * 4 ≤ 140737488355328]) (by kernel_rfl) (by kernel_rfl) (by kernel_rfl) ⟨h11, trivial⟩ ?_
        refine GoJ.inBlock ?_
        refine GoJ.regV hT (cnt := 0) (ins := [o0, o0, o0]) (live := [0, 1, 5, 6, 7]) (ids := [0]) (σ' := ⟨[(0, (V.e (E.sc (S.dat (D.sl a))))), (1, (V.e (E.sc (S.dat (D.sl b))))), (5, (V.e (E.sc (S.ref 0)))), (6, (V.e (E.sc (S.dat (D.int .i64 (1 : Int)))))), (7, (V.e (E.sc (S.dat (D.int .i64 (IntKind.i64.wrap (i + (1 : Int))))))))], [(some (Obj.arr 1 (out ++ [[(D.int .u32 (IntKind.u32.wrap (IntKind.i64.wrap ((IntKind.i64.wrap ((IntKind.i64.wrap vx) - borrow)) + (4294967296 : Int)))))]])))], 44⟩) (obs := []) (by kernel_rfl) (by kernel_rfl) (by kernel_rfl) trivial ?_
        exact ih0 ((out ++ [[(D.int .u32 (IntKind.u32.wrap (IntKind.i64.wrap ((IntKind.i64.wrap ((IntKind.i64.wrap vx) - borrow)) + (4294967296 : Int)))))]]), (1 : Int), (IntKind.i64.wrap (i + (1 : Int)))) h.1 h.2
      · replace h := h.2 h10
        refine GoJ.skip ?_
        obtain ⟨h12, h⟩ := h
        refine GoJ.regV hT (cnt := 2) (ins := [o0, o0, o0, (Or.none, 1, 1), (Or.none, 2, 1), o0]) (live := [0, 1, 5, 6, 7]) (ids := [2]) (σ' := ⟨[(0, (V.e (E.sc (S.dat (D.sl a))))), (1, (V.e (E.sc (S.dat (D.sl b))))), (5, (V.e (E.sc (S.ref 0)))), (6, (V.e (E.sc (S.dat (D.int .i64 (0 : Int)))))), (7, (V.e (E.sc (S.dat (D.int .i64 i)))))], [(some (Obj.arr 1 (out ++ [[(D.int .u32 (IntKind.u32.wrap (IntKind.i64.wrap ((IntKind.i64.wrap vx) - borrow))))]])))], 44⟩) (obs := [(out.length + ([[(D.int .u32 (IntKind.u32.wrap (IntKind.i64.wrap ((IntKind.i64.wrap vx) - borrow))))]] : List (List D)).length) * 4 ≤ 140737488355328]) (by kernel_rfl) (by kernel_rfl) (by kernel_rfl) ⟨h12, trivial⟩ ?_
        refine GoJ.inBlock ?_
        refine GoJ.regV hT (cnt := 0) (ins := [o0, o0, o0]) (live := [0, 1, 5, 6, 7]) (ids := [0]) (σ' := ⟨[(0, (V.e (E.sc (S.dat (D.sl a))))), (1, (V.e (E.sc (S.dat (D.sl b))))), (5, (V.e (E.sc (S.ref 0)))), (6, (V.e (E.sc (S.dat (D.int .i64 (0 : Int)))))), (7, (V.e (E.sc (S.dat (D.int .i64 (IntKind.i64.wrap (i + (1 : Int))))))))], [(some (Obj.arr 1 (out ++ [[(D.int .u32 (IntKind.u32.wrap (IntKind.i64.wrap ((IntKind.i64.wrap vx) - borrow))))]])))], 44⟩) (obs := []) (by kernel_rfl) (by kernel_rfl) (by kernel_rfl) trivial ?_
        exact ih0 ((out ++ [[(D.int .u32 (IntKind.u32.wrap (IntKind.i64.wrap ((IntKind.i64.wrap vx) - borrow))))]]), (0 : Int), (IntKind.i64.wrap (i + (1 : Int)))) h.1 h.2
  · replace h := h.2 h1
    refine GoJ.exit rfl ?_
    refine GoJ.seq ?_
    refine GoJ.regV hT (cnt := 0) (ins := [o0, o0]) (live := [4]) (ids := [0]) (σ' := ⟨[(4, (V.e (E.sc (S.ref 0))))], [(some (Obj.arr 1 out))], 44⟩) (obs := []) (by kernel_rfl) (by kernel_rfl) (by kernel_rfl) trivial ?_
    refine GoJ.wk (xfreeze_ok (ids := [0]) (σ' := ⟨[(4, (V.e (E.sc (S.dat (D.sl out)))))], [none], 44⟩) (by kernel_rfl)) ?_
    exact GoJ.retV hT func132 (ids := []) (r := (V.e (E.sc (S.dat (D.sl out))))) (r' := (V.e (E.sc (S.dat (D.sl out))))) (σ' := ⟨[], [], 44⟩) (by kernel_rfl) (by kernel_rfl) (by kernel_rfl) (by kernel_rfl) (by kernel_rfl) h

/- f82 torsion/torsionref01.Add -/
def vc82 (a0 : Bool) (a1 : List (List D)) (b0 : Bool) (b1 : List (List D)) (R : V → Heap → Prop) : Prop :=
  ((a0 == b0) = true →
    ∃ (r : List (List D)) (r0 : Bool) (r1 : List (List D)),
    (FnD prog 131 [(V.e (E.sc (S.dat (D.sl a1)))), (V.e (E.sc (S.dat (D.sl b1))))] (V.e (E.sc (S.dat (D.sl r)))) []) ∧
    (FnD prog 71 [(V.e (E.sc (S.dat (D.sl r)))), (V.e (E.sc (S.dat (D.bool a0))))] (V.e (E.agg [(S.dat (D.bool r0)), (S.dat (D.sl r1))])) []) ∧
    (R (V.e (E.agg [(S.dat (D.bool r0)), (S.dat (D.sl r1))])) [])) ∧
  ((a0 == b0) = false →
    ∃ (r2 : Bool),
    (FnD prog 88 [(V.e (E.sc (S.dat (D.sl a1)))), (V.e (E.sc (S.dat (D.sl b1))))] (V.e (E.sc (S.dat (D.bool r2)))) []) ∧
    ((r2 = true →
      ∃ (r3 : List (List D)) (r01 : Bool) (r11 : List (List D)),
      (FnD prog 132 [(V.e (E.sc (S.dat (D.sl b1)))), (V.e (E.sc (S.dat (D.sl a1))))] (V.e (E.sc (S.dat (D.sl r3)))) []) ∧
      (FnD prog 71 [(V.e (E.sc (S.dat (D.sl r3)))), (V.e (E.sc (S.dat (D.bool b0))))] (V.e (E.agg [(S.dat (D.bool r01)), (S.dat (D.sl r11))])) []) ∧
      (R (V.e (E.agg [(S.dat (D.bool r01)), (S.dat (D.sl r11))])) [])) ∧
    (r2 = false →
      ∃ (r4 : List (List D)) (r02 : Bool) (r12 : List (List D)),
      (FnD prog 132 [(V.e (E.sc (S.dat (D.sl a1)))), (V.e (E.sc (S.dat (D.sl b1))))] (V.e (E.sc (S.dat (D.sl r4)))) []) ∧
      (FnD prog 71 [(V.e (E.sc (S.dat (D.sl r4)))), (V.e (E.sc (S.dat (D.bool a0))))] (V.e (E.agg [(S.dat (D.bool r02)), (S.dat (D.sl r12))])) []) ∧
      (R (V.e (E.agg [(S.dat (D.bool r02)), (S.dat (D.sl r12))])) []))))

theorem vc82_ok (a0 : Bool) (a1 : List (List D)) (b0 : Bool) (b1 : List (List D)) {R : V → Heap → Prop} (h : vc82 a0 a1 b0 b1 R) : FnG prog 82 [(V.e (E.agg [(S.dat (D.bool a0)), (S.dat (D.sl a1))])), (V.e (E.agg [(S.dat (D.bool b0)), (S.dat (D.sl b1))]))] [] R := by
  unfold vc82 at h
  refine FnG.of (m := 39) (c := _) func82 rfl (by kernel_rfl) ntmps82 (Nat.le_of_ble_eq_true rfl) ?_
  refine GoJ.seq ?_
  refine GoJ.regV hT (cnt := 3) (ins := [(Or.none, 0, 1), (Or.none, 1, 1), (Or.none, 2, 1)]) (live := [2, 3, 4]) (ids := [0, 1, 2]) (σ' := ⟨[(2, (V.e (E.sc (S.ptr 0 0)))), (3, (V.e (E.sc (S.ptr 1 0)))), (4, (V.e (E.sc (S.ptr 2 0))))], [(some (Obj.box [(S.dat (D.bool a0)), (S.dat (D.sl a1))])), (some (Obj.box [(S.dat (D.bool b0)), (S.dat (D.sl b1))])), (some (Obj.box [(S.dat (D.bool false)), (S.dat (D.raw (.slice none 0 0)))]))], 39⟩) (obs := []) (by kernel_rfl) (by kernel_rfl) (by kernel_rfl) trivial ?_
  refine GoJ.seq ?_
  refine GoJ.seq ?_
  refine GoJ.regV hT (cnt := 0) (ins := [o0, o0, o0, o0, o0]) (live := [2, 3, 4, 9]) (ids := [0, 1, 2]) (σ' := ⟨[(2, (V.e (E.sc (S.ptr 0 0)))), (3, (V.e (E.sc (S.ptr 1 0)))), (4, (V.e (E.sc (S.ptr 2 0)))), (9, (V.e (E.sc (S.dat (D.bool (a0 == b0))))))], [(some (Obj.box [(S.dat (D.bool a0)), (S.dat (D.sl a1))])), (some (Obj.box [(S.dat (D.bool b0)), (S.dat (D.sl b1))])), (some (Obj.box [(S.dat (D.bool false)), (S.dat (D.raw (.slice none 0 0)))]))], 39⟩) (obs := []) (by kernel_rfl) (by kernel_rfl) (by kernel_rfl) trivial ?_
  refine GoJ.cond (t := (a0 == b0)) (by kernel_rfl) (fun h1 => ?_) (fun h1 => ?_)
  · replace h := h.1 h1
    refine GoJ.seq ?_
    obtain ⟨r, r0, r1, h2, h3, h⟩ := h
    refine GoJ.drawV hmix hT (cnt := 0) (ins := [⟨Or.none, 0, 0, [], [2], [], []⟩, ⟨Or.none, 0, 0, [0], [10], [], []⟩, ⟨Or.none, 0, 0, [], [3], [], []⟩, ⟨Or.none, 0, 0, [2], [12], [], []⟩, ⟨(Or.call (V.e (E.sc (S.dat (D.sl r)))) [] []), 0, 0, [0, 1, 2, 3], [11, 13], [], []⟩, ⟨Or.none, 0, 0, [], [2], [], []⟩, ⟨Or.none, 0, 0, [5], [15], [], []⟩, ⟨(Or.call (V.e (E.agg [(S.dat (D.bool r0)), (S.dat (D.sl r1))])) [] []), 0, 0, [0, 1, 2, 3, 4, 5, 6], [14, 16], [], []⟩, ⟨Or.none, 0, 0, [0, 1, 2, 3, 4, 5, 6, 7], [4, 17], [2], []⟩]) (live := [4]) (ids := [2]) (σ' := ⟨[(4, (V.e (E.sc (S.ptr 0 0))))], [(some (Obj.box [(S.dat (D.bool r0)), (S.dat (D.sl r1))]))], 39⟩) (obs := [FnD prog 131 [(V.e (E.sc (S.dat (D.sl a1)))), (V.e (E.sc (S.dat (D.sl b1))))] (V.e (E.sc (S.dat (D.sl r)))) [], FnD prog 71 [(V.e (E.sc (S.dat (D.sl r)))), (V.e (E.sc (S.dat (D.bool a0))))] (V.e (E.agg [(S.dat (D.bool r0)), (S.dat (D.sl r1))])) []]) (by kernel_rfl) (by kernel_rfl) (by kernel_rfl) ⟨h2, h3, trivial⟩ ?_
    exact GoJ.retV hT func82 (ids := []) (r := (V.e (E.agg [(S.dat (D.bool r0)), (S.dat (D.sl r1))]))) (r' := (V.e (E.agg [(S.dat (D.bool r0)), (S.dat (D.sl r1))]))) (σ' := ⟨[], [], 39⟩) (by kernel_rfl) (by kernel_rfl) (by kernel_rfl) (by kernel_rfl) (by kernel_rfl) h
  · replace h := h.2 h1
    refine GoJ.skip ?_
    refine GoJ.seq ?_
    refine GoJ.seq ?_
    obtain ⟨r2, h4, h⟩ := h
    refine GoJ.regV hT (cnt := 0) (ins := [o0, o0, o0, o0, ((Or.call (V.e (E.sc (S.dat (D.bool r2)))) [] []), 0, 0)]) (live := [2, 3, 4, 22]) (ids := [0, 1, 2]) (σ' := ⟨[(2, (V.e (E.sc (S.ptr 0 0)))), (3, (V.e (E.sc (S.ptr 1 0)))), (4, (V.e (E.sc (S.ptr 2 0)))), (22, (V.e (E.sc (S.dat (D.bool r2)))))], [(some (Obj.box [(S.dat (D.bool a0)), (S.dat (D.sl a1))])), (some (Obj.box [(S.dat (D.bool b0)), (S.dat (D.sl b1))])), (some (Obj.box [(S.dat (D.bool false)), (S.dat (D.raw (.slice none 0 0)))]))], 39⟩) (obs := [FnD prog 88 [(V.e (E.sc (S.dat (D.sl a1)))), (V.e (E.sc (S.dat (D.sl b1))))] (V.e (E.sc (S.dat (D.bool r2)))) []]) (by kernel_rfl) (by kernel_rfl) (by kernel_rfl) ⟨h4, trivial⟩ ?_
    refine GoJ.cond (t := r2) (by kernel_rfl) (fun h5 => ?_) (fun h5 => ?_)
    · replace h := h.1 h5
      refine GoJ.seq ?_
      obtain ⟨r3, r01, r11, h6, h7, h⟩ := h
      refine GoJ.drawV hmix hT (cnt := 0) (ins := [⟨Or.none, 0, 0, [], [3], [], []⟩, ⟨Or.none, 0, 0, [0], [23], [], []⟩, ⟨Or.none, 0, 0, [], [2], [], []⟩, ⟨Or.none, 0, 0, [2], [25], [], []⟩, ⟨(Or.call (V.e (E.sc (S.dat (D.sl r3)))) [] []), 0, 0, [0, 1, 2, 3], [24, 26], [], []⟩, ⟨Or.none, 0, 0, [], [3], [], []⟩, ⟨Or.none, 0, 0, [5], [28], [], []⟩, ⟨(Or.call (V.e (E.agg [(S.dat (D.bool r01)), (S.dat (D.sl r11))])) [] []), 0, 0, [0, 1, 2, 3, 4, 5, 6], [27, 29], [], []⟩, ⟨Or.none, 0, 0, [0, 1, 2, 3, 4, 5, 6, 7], [4, 30], [2], []⟩]) (live := [4]) (ids := [2]) (σ' := ⟨[(4, (V.e (E.sc (S.ptr 0 0))))], [(some (Obj.box [(S.dat (D.bool r01)), (S.dat (D.sl r11))]))], 39⟩) (obs := [FnD prog 132 [(V.e (E.sc (S.dat (D.sl b1)))), (V.e (E.sc (S.dat (D.sl a1))))] (V.e (E.sc (S.dat (D.sl r3)))) [], FnD prog 71 [(V.e (E.sc (S.dat (D.sl r3)))), (V.e (E.sc (S.dat (D.bool b0))))] (V.e (E.agg [(S.dat (D.bool r01)), (S.dat (D.sl r11))])) []]) (by kernel_rfl) (by kernel_rfl) (by kernel_rfl) ⟨h6, h7, trivial⟩ ?_
      exact GoJ.retV hT func82 (ids := []) (r := (V.e (E.agg [(S.dat (D.bool r01)), (S.dat (D.sl r11))]))) (r' := (V.e (E.agg [(S.dat (D.bool r01)), (S.dat (D.sl r11))]))) (σ' := ⟨[], [], 39⟩) (by kernel_rfl) (by kernel_rfl) (by kernel_rfl) (by kernel_rfl) (by kernel_rfl) h
    · replace h := h.2 h5
      refine GoJ.skip ?_
      refine GoJ.seq ?_
      obtain ⟨r4, r02, r12, h8, h9, h⟩ := h
      refine GoJ.drawV hmix hT (cnt := 0) (ins := [⟨Or.none, 0, 0, [], [2], [], []⟩, ⟨Or.none, 0, 0, [0], [31], [], []⟩, ⟨Or.none, 0, 0, [], [3], [], []⟩, ⟨Or.none, 0, 0, [2], [33], [], []⟩, ⟨(Or.call (V.e (E.sc (S.dat (D.sl r4)))) [] []), 0, 0, [0, 1, 2, 3], [32, 34], [], []⟩, ⟨Or.none, 0, 0, [], [2], [], []⟩, ⟨Or.none, 0, 0, [5], [36], [], []⟩, ⟨(Or.call (V.e (E.agg [(S.dat (D.bool r02)), (S.dat (D.sl r12))])) [] []), 0, 0, [0, 1, 2, 3, 4, 5, 6], [35, 37], [], []⟩, ⟨Or.none, 0, 0, [0, 1, 2, 3, 4, 5, 6, 7], [4, 38], [2], []⟩]) (live := [4]) (ids := [2]) (σ' := ⟨[(4, (V.e (E.sc (S.ptr 0 0))))], [(some (Obj.box [(S.dat (D.bool r02)), (S.dat (D.sl r12))]))], 39⟩) (obs := [FnD prog 132 [(V.e (E.sc (S.dat (D.sl a1)))), (V.e (E.sc (S.dat (D.sl b1))))] (V.e (E.sc (S.dat (D.sl r4)))) [], FnD prog 71 [(V.e (E.sc (S.dat (D.sl r4)))), (V.e (E.sc (S.dat (D.bool a0))))] (V.e (E.agg [(S.dat (D.bool r02)), (S.dat (D.sl r12))])) []]) (by kernel_rfl) (by kernel_rfl) (by kernel_rfl) ⟨h8, h9, trivial⟩ ?_
      exact GoJ.retV hT func82 (ids := []) (r := (V.e (E.agg [(S.dat (D.bool r02)), (S.dat (D.sl r12))]))) (r' := (V.e (E.agg [(S.dat (D.bool r02)), (S.dat (D.sl r12))]))) (σ' := ⟨[], [], 39⟩) (by kernel_rfl) (by kernel_rfl) (by kernel_rfl) (by kernel_rfl) (by kernel_rfl) h

/- f110 torsion/torsionref01.Mul -/
def vc110 (a0 : Bool) (a1 : List (List D)) (b0 : Bool) (b1 : List (List D)) (R : V → Heap → Prop) : Prop :=
  (0 ≤ (IntKind.i64.wrap ((IntKind.i64.wrap ((a1.length : Int) + (b1.length : Int))) + (1 : Int))) ∧ (IntKind.i64.wrap ((IntKind.i64.wrap ((a1.length : Int) + (b1.length : Int))) + (1 : Int))) ≤ (IntKind.i64.wrap ((IntKind.i64.wrap ((a1.length : Int) + (b1.length : Int))) + (1 : Int))) ∧ (IntKind.i64.wrap ((IntKind.i64.wrap ((a1.length : Int) + (b1.length : Int))) + (1 : Int))) * (4 : Nat) ≤ 281474976710656) ∧
  (∃ (J0 : (List (List D)) → Int → Prop) (μ0 : (List (List D)) → Int → Nat),
  J0 (List.replicate ((IntKind.i64.wrap ((IntKind.i64.wrap ((a1.length : Int) + (b1.length : Int))) + (1 : Int)))).toNat [(D.int .u32 (0 : Int))]) (0 : Int) ∧ ∀ (out : List (List D)) (i : Int), J0 out i →
    ((decide (i < (a1.length : Int))) = true →
      ∃ (J1 : (List (List D)) → Int → Int → Prop) (μ1 : (List (List D)) → Int → Int → Nat),
      J1 out (0 : Int) (0 : Int) ∧ ∀ (out1 : List (List D)) (carry : Int) (k : Int), J1 out1 carry k →
        ((decide (k < (b1.length : Int))) = true →
          ∃ (vx : Int),
          (0 ≤ (IntKind.i64.wrap (i + k)) ∧ (IntKind.i64.wrap (i + k)) < (out1.length : Int)) ∧
          (out1[((IntKind.i64.wrap (i + k))).toNat]? = some [(D.int .u32 vx)]) ∧
          (∃ (vx1 : Int) (vx2 : Int),
          (0 ≤ i ∧ i < (a1.length : Int)) ∧
          (a1[(i).toNat]? = some [(D.int .u32 vx1)]) ∧
          (0 ≤ k ∧ k < (b1.length : Int)) ∧
          (b1[(k).toNat]? = some [(D.int .u32 vx2)]) ∧
          (((4294967296 : Int) ≠ 0) ∧
          (J1 (out1.set ((IntKind.i64.wrap (i + k))).toNat [(D.int .u32 (IntKind.u32.wrap (IntKind.u64.wrap ((IntKind.u64.wrap (carry + (IntKind.u64.wrap vx))) + (IntKind.u64.wrap ((IntKind.u64.wrap vx1) * (IntKind.u64.wrap vx2)))))))]) (IntKind.u64.wrap ((IntKind.u64.wrap ((IntKind.u64.wrap (carry + (IntKind.u64.wrap vx))) + (IntKind.u64.wrap ((IntKind.u64.wrap vx1) * (IntKind.u64.wrap vx2))))).tdiv (4294967296 : Int))) (IntKind.i64.wrap (k + (1 : Int))) ∧ μ1 (out1.set ((IntKind.i64.wrap (i + k))).toNat [(D.int .u32 (IntKind.u32.wrap (IntKind.u64.wrap ((IntKind.u64.wrap (carry + (IntKind.u64.wrap vx))) + (IntKind.u64.wrap ((IntKind.u64.wrap vx1) * (IntKind.u64.wrap vx2)))))))]) (IntKind.u64.wrap ((IntKind.u64.wrap ((IntKind.u64.wrap (carry + (IntKind.u64.wrap vx))) + (IntKind.u64.wrap ((IntKind.u64.wrap vx1) * (IntKind.u64.wrap vx2))))).tdiv (4294967296 : Int))) (IntKind.i64.wrap (k + (1 : Int))) < μ1 out1 carry k)))) ∧
        ((decide (k < (b1.length : Int))) = false →
          ((decide (carry > (0 : Int))) = true →
            ∃ (vx3 : Int),
            (0 ≤ (IntKind.i64.wrap (i + k)) ∧ (IntKind.i64.wrap (i + k)) < (out1.length : Int)) ∧
            (out1[((IntKind.i64.wrap (i + k))).toNat]? = some [(D.int .u32 vx3)]) ∧
            (((4294967296 : Int) ≠ 0) ∧
            (J1 (out1.set ((IntKind.i64.wrap (i + k))).toNat [(D.int .u32 (IntKind.u32.wrap (IntKind.u64.wrap (carry + (IntKind.u64.wrap vx3)))))]) (IntKind.u64.wrap ((IntKind.u64.wrap (carry + (IntKind.u64.wrap vx3))).tdiv (4294967296 : Int))) (IntKind.i64.wrap (k + (1 : Int))) ∧ μ1 (out1.set ((IntKind.i64.wrap (i + k))).toNat [(D.int .u32 (IntKind.u32.wrap (IntKind.u64.wrap (carry + (IntKind.u64.wrap vx3)))))]) (IntKind.u64.wrap ((IntKind.u64.wrap (carry + (IntKind.u64.wrap vx3))).tdiv (4294967296 : Int))) (IntKind.i64.wrap (k + (1 : Int))) < μ1 out1 carry k))) ∧
          ((decide (carry > (0 : Int))) = false →
            J0 out1 (IntKind.i64.wrap (i + (1 : Int))) ∧ μ0 out1 (IntKind.i64.wrap (i + (1 : Int))) < μ0 out i))) ∧
    ((decide (i < (a1.length : Int))) = false →
      ∃ (r0 : Bool) (r1 : List (List D)),
      (FnD prog 71 [(V.e (E.sc (S.dat (D.sl out)))), (V.e (E.sc (S.dat (D.bool (!(a0 == b0))))))] (V.e (E.agg [(S.dat (D.bool r0)), (S.dat (D.sl r1))])) []) ∧
      (R (V.e (E.agg [(S.dat (D.bool r0)), (S.dat (D.sl r1))])) [])))

theorem vc110_ok (a0 : Bool) (a1 : List (List D)) (b0 : Bool) (b1 : List (List D)) {R : V → Heap → Prop} (h : vc110 a0 a1 b0 b1 R) : FnG prog 110 [(V.e (E.agg [(S.dat (D.bool a0)), (S.dat (D.sl a1))])), (V.e (E.agg [(S.dat (D.bool b0)), (S.dat (D.sl b1))]))] [] R := by
  unfold vc110 at h
  refine FnG.of (m := 81) (c := _) func110 rfl (by kernel_rfl) ntmps110 (Nat.le_of_ble_eq_true rfl) ?_
  refine GoJ.seq ?_
  refine GoJ.regV hT (cnt := 3) (ins := [(Or.none, 0, 1), (Or.none, 1, 1), (Or.none, 2, 1)]) (live := [2, 3, 4]) (ids := [0, 1, 2]) (σ' := ⟨[(2, (V.e (E.sc (S.ptr 0 0)))), (3, (V.e (E.sc (S.ptr 1 0)))), (4, (V.e (E.sc (S.ptr 2 0))))], [(some (Obj.box [(S.dat (D.bool a0)), (S.dat (D.sl a1))])), (some (Obj.box [(S.dat (D.bool b0)), (S.dat (D.sl b1))])), (some (Obj.box [(S.dat (D.bool false)), (S.dat (D.raw (.slice none 0 0)))]))], 81⟩) (obs := []) (by kernel_rfl) (by kernel_rfl) (by kernel_rfl) trivial ?_
  refine GoJ.seq ?_
  obtain ⟨h1, h⟩ := h
  refine GoJ.regV hT (cnt := 1) (ins := [o0, o0, o0, o0, o0, o0, o0, o0, (Or.none, 3, 1), o0]) (live := [2, 3, 4, 5]) (ids := [0, 1, 2, 3]) (σ' := ⟨[(2, (V.e (E.sc (S.ptr 0 0)))), (3, (V.e (E.sc (S.ptr 1 0)))), (4, (V.e (E.sc (S.ptr 2 0)))), (5, (V.e (E.sc (S.ref 3))))], [(some (Obj.box [(S.dat (D.bool a0)), (S.dat (D.sl a1))])), (some (Obj.box [(S.dat (D.bool b0)), (S.dat (D.sl b1))])), (some (Obj.box [(S.dat (D.bool false)), (S.dat (D.raw (.slice none 0 0)))])), (some (Obj.arr 1 (List.replicate ((IntKind.i64.wrap ((IntKind.i64.wrap ((a1.length : Int) + (b1.length : Int))) + (1 : Int)))).toNat [(D.int .u32 (0 : Int))])))], 81⟩) (obs := [0 ≤ (IntKind.i64.wrap ((IntKind.i64.wrap ((a1.length : Int) + (b1.length : Int))) + (1 : Int))) ∧ (IntKind.i64.wrap ((IntKind.i64.wrap ((a1.length : Int) + (b1.length : Int))) + (1 : Int))) ≤ (IntKind.i64.wrap ((IntKind.i64.wrap ((a1.length : Int) + (b1.length : Int))) + (1 : Int))) ∧ (IntKind.i64.wrap ((IntKind.i64.wrap ((a1.length : Int) + (b1.length : Int))) + (1 : Int))) * (4 : Nat) ≤ 281474976710656]) (by kernel_rfl) (by kernel_rfl) (by kernel_rfl) ⟨h1, trivial⟩ ?_
  refine GoJ.seq ?_
  refine GoJ.seq ?_
  refine GoJ.regV hT (cnt := 0) (ins := [o0]) (live := [2, 3, 4, 5, 6]) (ids := [0, 1, 2, 3]) (σ' := ⟨[(2, (V.e (E.sc (S.ptr 0 0)))), (3, (V.e (E.sc (S.ptr 1 0)))), (4, (V.e (E.sc (S.ptr 2 0)))), (5, (V.e (E.sc (S.ref 3)))), (6, (V.e (E.sc (S.dat (D.int .i64 (0 : Int))))))], [(some (Obj.box [(S.dat (D.bool a0)), (S.dat (D.sl a1))])), (some (Obj.box [(S.dat (D.bool b0)), (S.dat (D.sl b1))])), (some (Obj.box [(S.dat (D.bool false)), (S.dat (D.raw (.slice none 0 0)))])), (some (Obj.arr 1 (List.replicate ((IntKind.i64.wrap ((IntKind.i64.wrap ((a1.length : Int) + (b1.length : Int))) + (1 : Int)))).toNat [(D.int .u32 (0 : Int))])))], 81⟩) (obs := []) (by kernel_rfl) (by kernel_rfl) (by kernel_rfl) trivial ?_
  refine GoJ.block ?_
  obtain ⟨J0, μ0, hJ0, h⟩ := h
  refine GoJ.loop (X := (List (List D)) × Int) (fun x => (fun (out : List (List D)) (i : Int) => (⟨[(2, (V.e (E.sc (S.ptr 0 0)))), (3, (V.e (E.sc (S.ptr 1 0)))), (4, (V.e (E.sc (S.ptr 2 0)))), (5, (V.e (E.sc (S.ref 3)))), (6, (V.e (E.sc (S.dat (D.int .i64 i)))))], [(some (Obj.box [(S.dat (D.bool a0)), (S.dat (D.sl a1))])), (some (Obj.box [(S.dat (D.bool b0)), (S.dat (D.sl b1))])), (some (Obj.box [(S.dat (D.bool false)), (S.dat (D.raw (.slice none 0 0)))])), (some (Obj.arr 1 out))], 81⟩ : St)) (x.1) (x.2)) (fun x => J0 (x.1) (x.2)) (fun x => μ0 (x.1) (x.2)) ((List.replicate ((IntKind.i64.wrap ((IntKind.i64.wrap ((a1.length : Int) + (b1.length : Int))) + (1 : Int)))).toNat [(D.int .u32 (0 : Int))]), (0 : Int)) hJ0 ?_
  rintro ⟨out, i⟩ hJ0 ih0
  replace h := h out i hJ0
  refine GoJ.seq ?_
  refine GoJ.seq ?_
  refine GoJ.regV hT (cnt := 0) (ins := [o0, o0, o0, o0, o0]) (live := [2, 3, 4, 5, 6, 22]) (ids := [0, 1, 2, 3]) (σ' := ⟨[(2, (V.e (E.sc (S.ptr 0 0)))), (3, (V.e (E.sc (S.ptr 1 0)))), (4, (V.e (E.sc (S.ptr 2 0)))), (5, (V.e (E.sc (S.ref 3)))), (6, (V.e (E.sc (S.dat (D.int .i64 i))))), (22, (V.e (E.sc (S.dat (D.bool (decide (i < (a1.length : Int))))))))], [(some (Obj.box [(S.dat (D.bool a0)), (S.dat (D.sl a1))])), (some (Obj.box [(S.dat (D.bool b0)), (S.dat (D.sl b1))])), (some (Obj.box [(S.dat (D.bool false)), (S.dat (D.raw (.slice none 0 0)))])), (some (Obj.arr 1 out))], 81⟩) (obs := []) (by kernel_rfl) (by kernel_rfl) (by kernel_rfl) trivial ?_
  refine GoJ.cond (t := (decide (i < (a1.length : Int)))) (by kernel_rfl) (fun h2 => ?_) (fun h2 => ?_)
  · replace h := h.1 h2
    refine GoJ.skip ?_
    refine GoJ.seq ?_
    refine GoJ.block ?_
    refine GoJ.seq ?_
    refine GoJ.regV hT (cnt := 0) (ins := [o0]) (live := [2, 3, 4, 5, 6, 7]) (ids := [0, 1, 2, 3]) (σ' := ⟨[(2, (V.e (E.sc (S.ptr 0 0)))), (3, (V.e (E.sc (S.ptr 1 0)))), (4, (V.e (E.sc (S.ptr 2 0)))), (5, (V.e (E.sc (S.ref 3)))), (6, (V.e (E.sc (S.dat (D.int .i64 i))))), (7, (V.e (E.sc (S.dat (D.int .u64 (0 : Int))))))], [(some (Obj.box [(S.dat (D.bool a0)), (S.dat (D.sl a1))])), (some (Obj.box [(S.dat (D.bool b0)), (S.dat (D.sl b1))])), (some (Obj.box [(S.dat (D.bool false)), (S.dat (D.raw (.slice none 0 0)))])), (some (Obj.arr 1 out))], 81⟩) (obs := []) (by kernel_rfl) (by kernel_rfl) (by kernel_rfl) trivial ?_
    refine GoJ.seq ?_
    refine GoJ.regV hT (cnt := 0) (ins := [o0]) (live := [2, 3, 4, 5, 6, 7, 8]) (ids := [0, 1, 2, 3]) (σ' := ⟨[(2, (V.e (E.sc (S.ptr 0 0)))), (3, (V.e (E.sc (S.ptr 1 0)))), (4, (V.e (E.sc (S.ptr 2 0)))), (5, (V.e (E.sc (S.ref 3)))), (6, (V.e (E.sc (S.dat (D.int .i64 i))))), (7, (V.e (E.sc (S.dat (D.int .u64 (0 : Int)))))), (8, (V.e (E.sc (S.dat (D.int .i64 (0 : Int))))))], [(some (Obj.box [(S.dat (D.bool a0)), (S.dat (D.sl a1))])), (some (Obj.box [(S.dat (D.bool b0)), (S.dat (D.sl b1))])), (some (Obj.box [(S.dat (D.bool false)), (S.dat (D.raw (.slice none 0 0)))])), (some (Obj.arr 1 out))], 81⟩) (obs := []) (by kernel_rfl) (by kernel_rfl) (by kernel_rfl) trivial ?_
    refine GoJ.block ?_
    obtain ⟨J1, μ1, hJ1, h⟩ := h
    refine GoJ.loop (X := (List (List D)) × Int × Int) (fun x => (fun (out1 : List (List D)) (carry : Int) (k : Int) => (⟨[(2, (V.e (E.sc (S.ptr 0 0)))), (3, (V.e (E.sc (S.ptr 1 0)))), (4, (V.e (E.sc (S.ptr 2 0)))), (5, (V.e (E.sc (S.ref 3)))), (6, (V.e (E.sc (S.dat (D.int .i64 i))))), (7, (V.e (E.sc (S.dat (D.int .u64 carry))))), (8, (V.e (E.sc (S.dat (D.int .i64 k)))))], [(some (Obj.box [(S.dat (D.bool a0)), (S.dat (D.sl a1))])), (some (Obj.box [(S.dat (D.bool b0)), (S.dat (D.sl b1))])), (some (Obj.box [(S.dat (D.bool false)), (S.dat (D.raw (.slice none 0 0)))])), (some (Obj.arr 1 out1))], 81⟩ : St)) (x.1) (x.2.1) (x.2.2)) (fun x => J1 (x.1) (x.2.1) (x.2.2)) (fun x => μ1 (x.1) (x.2.1) (x.2.2)) (out, (0 : Int), (0 : Int)) hJ1 ?_
    rintro ⟨out1, carry, k⟩ hJ1 ih1
    replace h := h out1 carry k hJ1
    refine GoJ.seq ?_
    refine GoJ.seq ?_
    rcases Bool.eq_false_or_eq_true (decide (k < (b1.length : Int))) with h3 | h3
    · replace h := h.1 h3
      refine GoJ.regV hT (cnt := 0) (ins := [o0, o0, o0, o0, o0, ((Or.bool true), 0, 0), o0, o0, o0]) (live := [2, 3, 4, 5, 6, 7, 8, 33]) (ids := [0, 1, 2, 3]) (σ' := ⟨[(2, (V.e (E.sc (S.ptr 0 0)))), (3, (V.e (E.sc (S.ptr 1 0)))), (4, (V.e (E.sc (S.ptr 2 0)))), (5, (V.e (E.sc (S.ref 3)))), (6, (V.e (E.sc (S.dat (D.int .i64 i))))), (7, (V.e (E.sc (S.dat (D.int .u64 carry))))), (8, (V.e (E.sc (S.dat (D.int .i64 k))))), (33, (V.e (E.sc (S.dat (D.bool true)))))], [(some (Obj.box [(S.dat (D.bool a0)), (S.dat (D.sl a1))])), (some (Obj.box [(S.dat (D.bool b0)), (S.dat (D.sl b1))])), (some (Obj.box [(S.dat (D.bool false)), (S.dat (D.raw (.slice none 0 0)))])), (some (Obj.arr 1 out1))], 81⟩) (obs := [(decide (k < (b1.length : Int))) = true]) (by kernel_rfl) (by kernel_rfl) (by kernel_rfl) ⟨h3, trivial⟩ ?_
      refine GoJ.cond (t := true) (by kernel_rfl) (fun _ => ?_) (fun hf => nomatch hf)
      refine GoJ.skip ?_
      refine GoJ.seq ?_
      refine GoJ.block ?_
      refine GoJ.seq ?_
      obtain ⟨vx, h4, h5, h⟩ := h
      refine GoJ.regV hT (cnt := 0) (ins := [o0, o0, o0, o0, o0, o0, ((Or.cells [(D.int .u32 vx)]), 0, 0), o0, o0, o0]) (live := [2, 3, 4, 5, 6, 7, 8]) (ids := [0, 1, 2, 3]) (σ' := ⟨[(2, (V.e (E.sc (S.ptr 0 0)))), (3, (V.e (E.sc (S.ptr 1 0)))), (4, (V.e (E.sc (S.ptr 2 0)))), (5, (V.e (E.sc (S.ref 3)))), (6, (V.e (E.sc (S.dat (D.int .i64 i))))), (7, (V.e (E.sc (S.dat (D.int .u64 (IntKind.u64.wrap (carry + (IntKind.u64.wrap vx)))))))), (8, (V.e (E.sc (S.dat (D.int .i64 k)))))], [(some (Obj.box [(S.dat (D.bool a0)), (S.dat (D.sl a1))])), (some (Obj.box [(S.dat (D.bool b0)), (S.dat (D.sl b1))])), (some (Obj.box [(S.dat (D.bool false)), (S.dat (D.raw (.slice none 0 0)))])), (some (Obj.arr 1 out1))], 81⟩) (obs := [0 ≤ (IntKind.i64.wrap (i + k)) ∧ (IntKind.i64.wrap (i + k)) < (out1.length : Int), out1[((IntKind.i64.wrap (i + k))).toNat]? = some [(D.int .u32 vx)]]) (by kernel_rfl) (by kernel_rfl) (by kernel_rfl) ⟨h4, h5, trivial⟩ ?_
      refine GoJ.seq ?_
      refine GoJ.seq ?_
      refine GoJ.regV hT (cnt := 0) (ins := [o0, o0, o0, o0, o0]) (live := [2, 3, 4, 5, 6, 7, 8, 49]) (ids := [0, 1, 2, 3]) (σ' := ⟨[(2, (V.e (E.sc (S.ptr 0 0)))), (3, (V.e (E.sc (S.ptr 1 0)))), (4, (V.e (E.sc (S.ptr 2 0)))), (5, (V.e (E.sc (S.ref 3)))), (6, (V.e (E.sc (S.dat (D.int .i64 i))))), (7, (V.e (E.sc (S.dat (D.int .u64 (IntKind.u64.wrap (carry + (IntKind.u64.wrap vx)))))))), (8, (V.e (E.sc (S.dat (D.int .i64 k))))), (49, (V.e (E.sc (S.dat (D.bool (decide (k < (b1.length : Int))))))))], [(some (Obj.box [(S.dat (D.bool a0)), (S.dat (D.sl a1))])), (some (Obj.box [(S.dat (D.bool b0)), (S.dat (D.sl b1))])), (some (Obj.box [(S.dat (D.bool false)), (S.dat (D.raw (.slice none 0 0)))])), (some (Obj.arr 1 out1))], 81⟩) (obs := []) (by kernel_rfl) (by kernel_rfl) (by kernel_rfl) trivial ?_
      refine GoJ.cond (t := (decide (k < (b1.length : Int)))) (by kernel_rfl) (fun _ => ?_) (fun hf => nomatch hf.symm.trans h3)
      obtain ⟨vx1, vx2, h6, h7, h8, h9, h⟩ := h
      refine GoJ.drawV hmix hT (cnt := 0) (ins := [⟨Or.none, 0, 0, [], [7], [], []⟩, ⟨Or.none, 0, 0, [], [2], [], []⟩, ⟨Or.none, 0, 0, [1], [51], [], []⟩, ⟨Or.none, 0, 0, [], [6], [], []⟩, ⟨Or.none, 0, 0, [1, 2, 3], [52, 53], [], []⟩, ⟨(Or.cells [(D.int .u32 vx1)]), 0, 0, [1, 2, 3, 4], [54], [], []⟩, ⟨Or.none, 0, 0, [1, 2, 3, 4, 5], [55], [], []⟩, ⟨Or.none, 0, 0, [], [3], [], []⟩, ⟨Or.none, 0, 0, [7], [57], [], []⟩, ⟨Or.none, 0, 0, [], [8], [], []⟩, ⟨Or.none, 0, 0, [7, 8, 9], [58, 59], [], []⟩, ⟨(Or.cells [(D.int .u32 vx2)]), 0, 0, [7, 8, 9, 10], [60], [], []⟩, ⟨Or.none, 0, 0, [7, 8, 9, 10, 11], [61], [], []⟩, ⟨Or.none, 0, 0, [1, 2, 3, 4, 5, 6, 7, 8, 9, 10, 11, 12], [56, 62], [], []⟩, ⟨Or.none, 0, 0, [0, 1, 2, 3, 4, 5, 6, 7, 8, 9, 10, 11, 12, 13], [50, 63], [], []⟩, ⟨Or.none, 0, 0, [0, 1, 2, 3, 4, 5, 6, 7, 8, 9, 10, 11, 12, 13, 14], [64], [], []⟩]) (live := [2, 3, 4, 5, 6, 7, 8]) (ids := [0, 1, 2, 3]) (σ' := ⟨[(2, (V.e (E.sc (S.ptr 0 0)))), (3, (V.e (E.sc (S.ptr 1 0)))), (4, (V.e (E.sc (S.ptr 2 0)))), (5, (V.e (E.sc (S.ref 3)))), (6, (V.e (E.sc (S.dat (D.int .i64 i))))), (7, (V.e (E.sc (S.dat (D.int .u64 (IntKind.u64.wrap ((IntKind.u64.wrap (carry + (IntKind.u64.wrap vx))) + (IntKind.u64.wrap ((IntKind.u64.wrap vx1) * (IntKind.u64.wrap vx2)))))))))), (8, (V.e (E.sc (S.dat (D.int .i64 k)))))], [(some (Obj.box [(S.dat (D.bool a0)), (S.dat (D.sl a1))])), (some (Obj.box [(S.dat (D.bool b0)), (S.dat (D.sl b1))])), (some (Obj.box [(S.dat (D.bool false)), (S.dat (D.raw (.slice none 0 0)))])), (some (Obj.arr 1 out1))], 81⟩) (obs := [0 ≤ i ∧ i < (a1.length : Int), a1[(i).toNat]? = some [(D.int .u32 vx1)], 0 ≤ k ∧ k < (b1.length : Int), b1[(k).toNat]? = some [(D.int .u32 vx2)]]) (by kernel_rfl) (by kernel_rfl) (by kernel_rfl) ⟨h6, h7, h8, h9, trivial⟩ ?_
      refine GoJ.seq ?_
      refine GoJ.regV hT (cnt := 0) (ins := [o0, o0, o0, o0, o0, o0, o0, o0]) (live := [2, 3, 4, 5, 6, 7, 8]) (ids := [0, 1, 2, 3]) (σ' := ⟨[(2, (V.e (E.sc (S.ptr 0 0)))), (3, (V.e (E.sc (S.ptr 1 0)))), (4, (V.e (E.sc (S.ptr 2 0)))), (5, (V.e (E.sc (S.ref 3)))), (6, (V.e (E.sc (S.dat (D.int .i64 i))))), (7, (V.e (E.sc (S.dat (D.int .u64 (IntKind.u64.wrap ((IntKind.u64.wrap (carry + (IntKind.u64.wrap vx))) + (IntKind.u64.wrap ((IntKind.u64.wrap vx1) * (IntKind.u64.wrap vx2)))))))))), (8, (V.e (E.sc (S.dat (D.int .i64 k)))))], [(some (Obj.box [(S.dat (D.bool a0)), (S.dat (D.sl a1))])), (some (Obj.box [(S.dat (D.bool b0)), (S.dat (D.sl b1))])), (some (Obj.box [(S.dat (D.bool false)), (S.dat (D.raw (.slice none 0 0)))])), (some (Obj.arr 1 (out1.set ((IntKind.i64.wrap (i + k))).toNat [(D.int .u32 (IntKind.u32.wrap (IntKind.u64.wrap ((IntKind.u64.wrap (carry + (IntKind.u64.wrap vx))) + (IntKind.u64.wrap ((IntKind.u64.wrap vx1) * (IntKind.u64.wrap vx2)))))))])))], 81⟩) (obs := [0 ≤ (IntKind.i64.wrap (i + k)) ∧ (IntKind.i64.wrap (i + k)) < (out1.length : Int)]) (by kernel_rfl) (by kernel_rfl) (by kernel_rfl) ⟨h4, trivial⟩ ?_
      obtain ⟨h10, h⟩ := h
      refine GoJ.regV hT (cnt := 0) (ins := [o0, o0, o0]) (live := [2, 3, 4, 5, 6, 7, 8]) (ids := [0, 1, 2, 3]) (σ' := ⟨[(2, (V.e (E.sc (S.ptr 0 0)))), (3, (V.e (E.sc (S.ptr 1 0)))), (4, (V.e (E.sc (S.ptr 2 0)))), (5, (V.e (E.sc (S.ref 3)))), (6, (V.e (E.sc (S.dat (D.int .i64 i))))), (7, (V.e (E.sc (S.dat (D.int .u64 (IntKind.u64.wrap ((IntKind.u64.wrap ((IntKind.u64.wrap (carry + (IntKind.u64.wrap vx))) + (IntKind.u64.wrap ((IntKind.u64.wrap vx1) * (IntKind.u64.wrap vx2))))).tdiv (4294967296 : Int)))))))), (8, (V.e (E.sc (S.dat (D.int .i64 k)))))], [(some (Obj.box [(S.dat (D.bool a0)), (S.dat (D.sl a1))])), (some (Obj.box [(S.dat (D.bool b0)), (S.dat (D.sl b1))])), (some (Obj.box [(S.dat (D.bool false)), (S.dat (D.raw (.slice none 0 0)))])), (some (Obj.arr 1 (out1.set ((IntKind.i64.wrap (i + k))).toNat [(D.int .u32 (IntKind.u32.wrap (IntKind.u64.wrap ((IntKind.u64.wrap (carry + (IntKind.u64.wrap vx))) + (IntKind.u64.wrap ((IntKind.u64.wrap vx1) * (IntKind.u64.wrap vx2)))))))])))], 81⟩) (obs := [(4294967296 : Int) ≠ 0]) (by kernel_rfl) (by kernel_rfl) (by kernel_rfl) ⟨h10, trivial⟩ ?_
      refine GoJ.inBlock ?_
      refine GoJ.regV hT (cnt := 0) (ins := [o0, o0, o0]) (live := [2, 3, 4, 5, 6, 7, 8]) (ids := [0, 1, 2, 3]) (σ' := ⟨[(2, (V.e (E.sc (S.ptr 0 0)))), (3, (V.e (E.sc (S.ptr 1 0)))), (4, (V.e (E.sc (S.ptr 2 0)))), (5, (V.e (E.sc (S.ref 3)))), (6, (V.e (E.sc (S.dat (D.int .i64 i))))), (7, (V.e (E.sc (S.dat (D.int .u64 (IntKind.u64.wrap ((IntKind.u64.wrap ((IntKind.u64.wrap (carry + (IntKind.u64.wrap vx))) + (IntKind.u64.wrap ((IntKind.u64.wrap vx1) * (IntKind.u64.wrap vx2))))).tdiv (4294967296 : Int)))))))), (8, (V.e (E.sc (S.dat (D.int .i64 (IntKind.i64.wrap (k + (1 : Int))))))))], [(some (Obj.box [(S.dat (D.bool a0)), (S.dat (D.sl a1))])), (some (Obj.box [(S.dat (D.bool b0)), (S.dat (D.sl b1))])), (some (Obj.box [(S.dat (D.bool false)), (S.dat (D.raw (.slice none 0 0)))])), (some (Obj.arr 1 (out1.set ((IntKind.i64.wrap (i + k))).toNat [(D.int .u32 (IntKind.u32.wrap (IntKind.u64.wrap ((IntKind.u64.wrap (carry + (IntKind.u64.wrap vx))) + (IntKind.u64.wrap ((IntKind.u64.wrap vx1) * (IntKind.u64.wrap vx2)))))))])))], 81⟩) (obs := []) (by kernel_rfl) (by kernel_rfl) (by kernel_rfl) trivial ?_
      exact ih1 ((out1.set ((IntKind.i64.wrap (i + k))).toNat [(D.int .u32 (IntKind.u32.wrap (IntKind.u64.wrap ((IntKind.u64.wrap (carry + (IntKind.u64.wrap vx))) + (IntKind.u64.wrap ((IntKind.u64.wrap vx1) * (IntKind.u64.wrap vx2)))))))]), (IntKind.u64.wrap ((IntKind.u64.wrap ((IntKind.u64.wrap (carry + (IntKind.u64.wrap vx))) + (IntKind.u64.wrap ((IntKind.u64.wrap vx1) * (IntKind.u64.wrap vx2))))).tdiv (4294967296 : Int))), (IntKind.i64.wrap (k + (1 : Int)))) h.1 h.2
    · replace h := h.2 h3
      refine GoJ.regV hT (cnt := 0) (ins := [o0, o0, o0, o0, o0, ((Or.bool false), 0, 0), o0, o0, o0]) (live := [2, 3, 4, 5, 6, 7, 8, 33]) (ids := [0, 1, 2, 3]) (σ' := ⟨[(2, (V.e (E.sc (S.ptr 0 0)))), (3, (V.e (E.sc (S.ptr 1 0)))), (4, (V.e (E.sc (S.ptr 2 0)))), (5, (V.e (E.sc (S.ref 3)))), (6, (V.e (E.sc (S.dat (D.int .i64 i))))), (7, (V.e (E.sc (S.dat (D.int .u64 carry))))), (8, (V.e (E.sc (S.dat (D.int .i64 k))))), (33, (V.e (E.sc (S.dat (D.bool (decide (carry > (0 : Int))))))))], [(some (Obj.box [(S.dat (D.bool a0)), (S.dat (D.sl a1))])), (some (Obj.box [(S.dat (D.bool b0)), (S.dat (D.sl b1))])), (some (Obj.box [(S.dat (D.bool false)), (S.dat (D.raw (.slice none 0 0)))])), (some (Obj.arr 1 out1))], 81⟩) (obs := [(decide (k < (b1.length : Int))) = false]) (by kernel_rfl) (by kernel_rfl) (by kernel_rfl) ⟨h3, trivial⟩ ?_
      refine GoJ.cond (t := (decide (carry > (0 : Int)))) (by kernel_rfl) (fun h11 => ?_) (fun h11 => ?_)
      · replace h := h.1 h11
        refine GoJ.skip ?_
        refine GoJ.seq ?_
        refine GoJ.block ?_
        refine GoJ.seq ?_
        obtain ⟨vx3, h12, h13, h⟩ := h
        refine GoJ.regV hT (cnt := 0) (ins := [o0, o0, o0, o0, o0, o0, ((Or.cells [(D.int .u32 vx3)]), 0, 0), o0, o0, o0]) (live := [2, 3, 4, 5, 6, 7, 8]) (ids := [0, 1, 2, 3]) (σ' := ⟨[(2, (V.e (E.sc (S.ptr 0 0)))), (3, (V.e (E.sc (S.ptr 1 0)))), (4, (V.e (E.sc (S.ptr 2 0)))), (5, (V.e (E.sc (S.ref 3)))), (6, (V.e (E.sc (S.dat (D.int .i64 i))))), (7, (V.e (E.sc (S.dat (D.int .u64 (IntKind.u64.wrap (carry + (IntKind.u64.wrap vx3)))))))), (8, (V.e (E.sc (S.dat (D.int .i64 k)))))], [(some (Obj.box [(S.dat (D.bool a0)), (S.dat (D.sl a1))])), (some (Obj.box [(S.dat (D.bool b0)), (S.dat (D.sl b1))])), (some (Obj.box [(S.dat (D.bool false)), (S.dat (D.raw (.slice none 0 0)))])), (some (Obj.arr 1 out1))], 81⟩) (obs := [0 ≤ (IntKind.i64.wrap (i + k)) ∧ (IntKind.i64.wrap (i + k)) < (out1.length : Int), out1[((IntKind.i64.wrap (i + k))).toNat]? = some [(D.int .u32 vx3)]]) (by kernel_rfl) (by kernel_rfl) (by kernel_rfl) ⟨h12, h13, trivial⟩ ?_
        refine GoJ.seq ?_
        refine GoJ.seq ?_
        refine GoJ.regV hT (cnt := 0) (ins := [o0, o0, o0, o0, o0]) (live := [2, 3, 4, 5, 6, 7, 8, 49]) (ids := [0, 1, 2, 3]) (σ' := ⟨[(2, (V.e (E.sc (S.ptr 0 0)))), (3, (V.e (E.sc (S.ptr 1 0)))), (4, (V.e (E.sc (S.ptr 2 0)))), (5, (V.e (E.sc (S.ref 3)))), (6, (V.e (E.sc (S.dat (D.int .i64 i))))), (7, (V.e (E.sc (S.dat (D.int .u64 (IntKind.u64.wrap (carry + (IntKind.u64.wrap vx3)))))))), (8, (V.e (E.sc (S.dat (D.int .i64 k))))), (49, (V.e (E.sc (S.dat (D.bool (decide (k < (b1.length : Int))))))))], [(some (Obj.box [(S.dat (D.bool a0)), (S.dat (D.sl a1))])), (some (Obj.box [(S.dat (D.bool b0)), (S.dat (D.sl b1))])), (some (Obj.box [(S.dat (D.bool false)), (S.dat (D.raw (.slice none 0 0)))])), (some (Obj.arr 1 out1))], 81⟩) (obs := []) (by kernel_rfl) (by kernel_rfl) (by kernel_rfl) trivial ?_
        refine GoJ.cond (t := (decide (k < (b1.length : Int)))) (by kernel_rfl) (fun hf => nomatch hf.symm.trans h3) (fun _ => ?_)
        refine GoJ.skip ?_
        refine GoJ.seq ?_
        refine GoJ.regV hT (cnt := 0) (ins := [o0, o0, o0, o0, o0, o0, o0, o0]) (live := [2, 3, 4, 5, 6, 7, 8]) (ids := [0, 1, 2, 3]) (σ' := ⟨[(2, (V.e (E.sc (S.ptr 0 0)))), (3, (V.e (E.sc (S.ptr 1 0)))), (4, (V.e (E.sc (S.ptr 2 0)))), (5, (V.e (E.sc (S.ref 3)))), (6, (V.e (E.sc (S.dat (D.int .i64 i))))), (7, (V.e (E.sc (S.dat (D.int .u64 (IntKind.u64.wrap (carry + (IntKind.u64.wrap vx3)))))))), (8, (V.e (E.sc (S.dat (D.int .i64 k)))))], [(some (Obj.box [(S.dat (D.bool a0)), (S.dat (D.sl a1))])), (some (Obj.box [(S.dat (D.bool b0)), (S.dat (D.sl b1))])), (some (Obj.box [(S.dat (D.bool false)), (S.dat (D.raw (.slice none 0 0)))])), (some (Obj.arr 1 (out1.set ((IntKind.i64.wrap (i + k))).toNat [(D.int .u32 (IntKind.u32.wrap (IntKind.u64.wrap (carry + (IntKind.u64.wrap vx3)))))])))], 81⟩) (obs := [0 ≤ (IntKind.i64.wrap (i + k)) ∧ (IntKind.i64.wrap (i + k)) < (out1.length : Int)]) (by kernel_rfl) (by kernel_rfl) (by kernel_rfl) ⟨h12, trivial⟩ ?_
        obtain ⟨h14, h⟩ := h
        refine GoJ.regV hT (cnt := 0) (ins := [o0, o0, o0]) (live := [2, 3, 4, 5, 6, 7, 8]) (ids := [0, 1, 2, 3]) (σ' := ⟨[(2, (V.e (E.sc (S.ptr 0 0)))), (3, (V.e (E.sc (S.ptr 1 0)))), (4, (V.e (E.sc (S.ptr 2 0)))), (5, (V.e (E.sc (S.ref 3)))), (6, (V.e (E.sc (S.dat (D.int .i64 i))))), (7, (V.e (E.sc (S.dat (D.int .u64 (IntKind.u64.wrap ((IntKind.u64.wrap (carry + (IntKind.u64.wrap vx3))).tdiv (4294967296 : Int)))))))), (8, (V.e (E.sc (S.dat (D.int .i64 k)))))], [(some (Obj.box [(S.dat (D.bool a0)), (S.dat (D.sl a1))])), (some (Obj.box [(S.dat (D.bool b0)), (S.dat (D.sl b1))])), (some (Obj.box [(S.dat (D.bool false)), (S.dat (D.raw (.slice none 0 0)))])), (some (Obj.arr 1 (out1.set ((IntKind.i64.wrap (i + k))).toNat [(D.int .u32 (IntKind.u32.wrap (IntKind.u64.wrap (carry + (IntKind.u64.wrap vx3)))))])))], 81⟩) (obs := [(4294967296 : Int) ≠ 0]) (by kernel_rfl) (by kernel_rfl) (by kernel_rfl) ⟨h14, trivial⟩ ?_
        refine GoJ.inBlock ?_
        refine GoJ.regV hT (cnt := 0) (ins := [o0, o0, o0]) (live := [2, 3, 4, 5, 6, 7, 8]) (ids := [0, 1, 2, 3]) (σ' := ⟨[(2, (V.e (E.sc (S.ptr 0 0)))), (3, (V.e (E.sc (S.ptr 1 0)))), (4, (V.e (E.sc (S.ptr 2 0)))), (5, (V.e (E.sc (S.ref 3)))), (6, (V.e (E.sc (S.dat (D.int .i64 i))))), (7, (V.e (E.sc (S.dat (D.int .u64 (IntKind.u64.wrap ((IntKind.u64.wrap (carry + (IntKind.u64.wrap vx3))).tdiv (4294967296 : Int)))))))), (8, (V.e (E.sc (S.dat (D.int .i64 (IntKind.i64.wrap (k + (1 : Int))))))))], [(some (Obj.box [(S.dat (D.bool a0)), (S.dat (D.sl a1))])), (some (Obj.box [(S.dat (D.bool b0)), (S.dat (D.sl b1))])), (some (Obj.box [(S.dat (D.bool false)), (S.dat (D.raw (.slice none 0 0)))])), (some (Obj.arr 1 (out1.set ((IntKind.i64.wrap (i + k))).toNat [(D.int .u32 (IntKind.u32.wrap (IntKind.u64.wrap (carry + (IntKind.u64.wrap vx3)))))])))], 81⟩) (obs := []) (by kernel_rfl) (by kernel_rfl) (by kernel_rfl) trivial ?_
        exact ih1 ((out1.set ((IntKind.i64.wrap (i + k))).toNat [(D.int .u32 (IntKind.u32.wrap (IntKind.u64.wrap (carry + (IntKind.u64.wrap vx3)))))]), (IntKind.u64.wrap ((IntKind.u64.wrap (carry + (IntKind.u64.wrap vx3))).tdiv (4294967296 : Int))), (IntKind.i64.wrap (k + (1 : Int)))) h.1 h.2
      · replace h := h.2 h11
        refine GoJ.exit rfl ?_
        refine GoJ.inBlock ?_
        refine GoJ.regV hT (cnt := 0) (ins := [o0, o0, o0]) (live := [2, 3, 4, 5, 6]) (ids := [0, 1, 2, 3]) (σ' := ⟨[(2, (V.e (E.sc (S.ptr 0 0)))), (3, (V.e (E.sc (S.ptr 1 0)))), (4, (V.e (E.sc (S.ptr 2 0)))), (5, (V.e (E.sc (S.ref 3)))), (6, (V.e (E.sc (S.dat (D.int .i64 (IntKind.i64.wrap (i + (1 : Int))))))))], [(some (Obj.box [(S.dat (D.bool a0)), (S.dat (D.sl a1))])), (some (Obj.box [(S.dat (D.bool b0)), (S.dat (D.sl b1))])), (some (Obj.box [(S.dat (D.bool false)), (S.dat (D.raw (.slice none 0 0)))])), (some (Obj.arr 1 out1))], 81⟩) (obs := []) (by kernel_rfl) (by kernel_rfl) (by kernel_rfl) trivial ?_
        exact ih0 (out1, (IntKind.i64.wrap (i + (1 : Int)))) h.1 h.2
  · replace h := h.2 h2
    refine GoJ.exit rfl ?_
    refine GoJ.seq ?_
    refine GoJ.wk (xfreeze_ok (ids := [3]) (σ' := ⟨[(2, (V.e (E.sc (S.ptr 0 0)))), (3, (V.e (E.sc (S.ptr 1 0)))), (4, (V.e (E.sc (S.ptr 2 0)))), (5, (V.e (E.sc (S.dat (D.sl out))))), (6, (V.e (E.sc (S.dat (D.int .i64 i))))), (22, (V.e (E.sc (S.dat (D.bool (decide (i < (a1.length : Int))))))))], [(some (Obj.box [(S.dat (D.bool a0)), (S.dat (D.sl a1))])), (some (Obj.box [(S.dat (D.bool b0)), (S.dat (D.sl b1))])), (some (Obj.box [(S.dat (D.bool false)), (S.dat (D.raw (.slice none 0 0)))])), none], 81⟩) (by kernel_rfl)) ?_
    obtain ⟨r0, r1, h15, h⟩ := h
    refine GoJ.regV hT (cnt := 0) (ins := [o0, o0, o0, o0, o0, o0, ((Or.call (V.e (E.agg [(S.dat (D.bool r0)), (S.dat (D.sl r1))])) [] []), 0, 0), o0]) (live := [4]) (ids := [2]) (σ' := ⟨[(4, (V.e (E.sc (S.ptr 0 0))))], [(some (Obj.box [(S.dat (D.bool r0)), (S.dat (D.sl r1))]))], 81⟩) (obs := [FnD prog 71 [(V.e (E.sc (S.dat (D.sl out)))), (V.e (E.sc (S.dat (D.bool (!(a0 == b0))))))] (V.e (E.agg [(S.dat (D.bool r0)), (S.dat (D.sl r1))])) []]) (by kernel_rfl) (by kernel_rfl) (by kernel_rfl) ⟨h15, trivial⟩ ?_
    exact GoJ.retV hT func110 (ids := []) (r := (V.e (E.agg [(S.dat (D.bool r0)), (S.dat (D.sl r1))]))) (r' := (V.e (E.agg [(S.dat (D.bool r0)), (S.dat (D.sl r1))]))) (σ' := ⟨[], [], 81⟩) (by kernel_rfl) (by kernel_rfl) (by kernel_rfl) (by kernel_rfl) (by kernel_rfl) h

end Go.AM
