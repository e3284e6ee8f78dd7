/- What functions of the program come to: group Int. Printed by vc.py. -/
import Derived.Test.YtbodjgljjaafaaaVcTab

set_option maxRecDepth 100000
set_option linter.unusedVariables false

namespace Go.AM
open Go.Proofs.Try

/- f163 cmp.isNaN[int] -/
def vc163 (vx : Int) (R : V → Heap → Prop) : Prop :=
  R (V.e (E.sc (S.dat (D.bool (vx != vx))))) []

theorem vc163_ok (vx : Int) {R : V → Heap → Prop} (h : vc163 vx R) : FnG prog 163 [(V.e (E.sc (S.dat (D.int .i64 vx))))] [] R := by
  unfold vc163 at h
  refine FnG.of (m := 6) (c := _) func163 rfl (by kernel_rfl) ntmps163 (Nat.le_of_ble_eq_true rfl) ?_
  refine GoJ.seq ?_
  refine GoJ.regV hT (cnt := 0) (ins := [o0]) (live := [0]) (ids := []) (σ' := ⟨[(0, (V.e (E.sc (S.dat (D.int .i64 vx)))))], [], 6⟩) (obs := []) (by kernel_rfl) (by kernel_rfl) (by kernel_rfl) trivial ?_
  refine GoJ.seq ?_
  refine GoJ.regV hT (cnt := 0) (ins := [o0, o0, o0, o0]) (live := [2]) (ids := []) (σ' := ⟨[(2, (V.e (E.sc (S.dat (D.bool (vx != vx))))))], [], 6⟩) (obs := []) (by kernel_rfl) (by kernel_rfl) (by kernel_rfl) trivial ?_
  exact GoJ.retV hT func163 (ids := []) (r := (V.e (E.sc (S.dat (D.bool (vx != vx)))))) (r' := (V.e (E.sc (S.dat (D.bool (vx != vx)))))) (σ' := ⟨[], [], 6⟩) (by kernel_rfl) (by kernel_rfl) (by kernel_rfl) (by kernel_rfl) (by kernel_rfl) h

/- f164 cmp.isNaN[uint32] -/
def vc164 (vx : Int) (R : V → Heap → Prop) : Prop :=
  R (V.e (E.sc (S.dat (D.bool (vx != vx))))) []

theorem vc164_ok (vx : Int) {R : V → Heap → Prop} (h : vc164 vx R) : FnG prog 164 [(V.e (E.sc (S.dat (D.int .u32 vx))))] [] R := by
  unfold vc164 at h
  refine FnG.of (m := 6) (c := _) func164 rfl (by kernel_rfl) ntmps164 (Nat.le_of_ble_eq_true rfl) ?_
  refine GoJ.seq ?_
  refine GoJ.regV hT (cnt := 0) (ins := [o0]) (live := [0]) (ids := []) (σ' := ⟨[(0, (V.e (E.sc (S.dat (D.int .u32 vx)))))], [], 6⟩) (obs := []) (by kernel_rfl) (by kernel_rfl) (by kernel_rfl) trivial ?_
  refine GoJ.seq ?_
  refine GoJ.regV hT (cnt := 0) (ins := [o0, o0, o0, o0]) (live := [2]) (ids := []) (σ' := ⟨[(2, (V.e (E.sc (S.dat (D.bool (vx != vx))))))], [], 6⟩) (obs := []) (by kernel_rfl) (by kernel_rfl) (by kernel_rfl) trivial ?_
  exact GoJ.retV hT func164 (ids := []) (r := (V.e (E.sc (S.dat (D.bool (vx != vx)))))) (r' := (V.e (E.sc (S.dat (D.bool (vx != vx)))))) (σ' := ⟨[], [], 6⟩) (by kernel_rfl) (by kernel_rfl) (by kernel_rfl) (by kernel_rfl) (by kernel_rfl) h

/- f156 cmp.Compare[int] -/
def vc156 (vx : Int) (y : Int) (R : V → Heap → Prop) : Prop :=
  ∃ (r : Bool),
  (FnD prog 163 [(V.e (E.sc (S.dat (D.int .i64 vx))))] (V.e (E.sc (S.dat (D.bool r)))) []) ∧
  (∃ (r1 : Bool),
  (FnD prog 163 [(V.e (E.sc (S.dat (D.int .i64 y))))] (V.e (E.sc (S.dat (D.bool r1)))) []) ∧
  ((r = true →
    (r1 = true →
      R (V.e (E.sc (S.dat (D.int .i64 (0 : Int))))) []) ∧
    (r1 = false →
      R (V.e (E.sc (S.dat (D.int .i64 (-1 : Int))))) [])) ∧
  (r = false →
    (r1 = true →
      R (V.e (E.sc (S.dat (D.int .i64 (1 : Int))))) []) ∧
    (r1 = false →
      ((decide (vx < y)) = true →
        R (V.e (E.sc (S.dat (D.int .i64 (-1 : Int))))) []) ∧
      ((decide (vx < y)) = false →
        ((decide (vx > y)) = true →
          R (V.e (E.sc (S.dat (D.int .i64 (1 : Int))))) []) ∧
        ((decide (vx > y)) = false →
          R (V.e (E.sc (S.dat (D.int .i64 (0 : Int))))) []))))))

theorem vc156_ok (vx : Int) (y : Int) {R : V → Heap → Prop} (h : vc156 vx y R) : FnG prog 156 [(V.e (E.sc (S.dat (D.int .i64 vx)))), (V.e (E.sc (S.dat (D.int .i64 y))))] [] R := by
  unfold vc156 at h
  refine FnG.of (m := 20) (c := _) func156 rfl (by kernel_rfl) ntmps156 (Nat.le_of_ble_eq_true rfl) ?_
  refine GoJ.seq ?_
  refine GoJ.regV hT (cnt := 0) (ins := [o0]) (live := [0, 1]) (ids := []) (σ' := ⟨[(0, (V.e (E.sc (S.dat (D.int .i64 vx))))), (1, (V.e (E.sc (S.dat (D.int .i64 y)))))], [], 20⟩) (obs := []) (by kernel_rfl) (by kernel_rfl) (by kernel_rfl) trivial ?_
  refine GoJ.seq ?_
  obtain ⟨r, h1, h⟩ := h
  refine GoJ.regV hT (cnt := 0) (ins := [o0, ((Or.call (V.e (E.sc (S.dat (D.bool r)))) [] []), 0, 0), o0]) (live := [0, 1, 5]) (ids := []) (σ' := ⟨[(0, (V.e (E.sc (S.dat (D.int .i64 vx))))), (1, (V.e (E.sc (S.dat (D.int .i64 y))))), (5, (V.e (E.sc (S.dat (D.bool r)))))], [], 20⟩) (obs := [FnD prog 163 [(V.e (E.sc (S.dat (D.int .i64 vx))))] (V.e (E.sc (S.dat (D.bool r)))) []]) (by kernel_rfl) (by kernel_rfl) (by kernel_rfl) ⟨h1, trivial⟩ ?_
  refine GoJ.seq ?_
  obtain ⟨r1, h2, h⟩ := h
  refine GoJ.regV hT (cnt := 0) (ins := [o0, ((Or.call (V.e (E.sc (S.dat (D.bool r1)))) [] []), 0, 0), o0]) (live := [0, 1, 5, 6]) (ids := []) (σ' := ⟨[(0, (V.e (E.sc (S.dat (D.int .i64 vx))))), (1, (V.e (E.sc (S.dat (D.int .i64 y))))), (5, (V.e (E.sc (S.dat (D.bool r))))), (6, (V.e (E.sc (S.dat (D.bool r1)))))], [], 20⟩) (obs := [FnD prog 163 [(V.e (E.sc (S.dat (D.int .i64 y))))] (V.e (E.sc (S.dat (D.bool r1)))) []]) (by kernel_rfl) (by kernel_rfl) (by kernel_rfl) ⟨h2, trivial⟩ ?_
  refine GoJ.seq ?_
  refine GoJ.seq ?_
  refine GoJ.regV hT (cnt := 0) (ins := [o0]) (live := [0, 1, 6, 11]) (ids := []) (σ' := ⟨[(0, (V.e (E.sc (S.dat (D.int .i64 vx))))), (1, (V.e (E.sc (S.dat (D.int .i64 y))))), (6, (V.e (E.sc (S.dat (D.bool r1))))), (11, (V.e (E.sc (S.dat (D.bool r)))))], [], 20⟩) (obs := []) (by kernel_rfl) (by kernel_rfl) (by kernel_rfl) trivial ?_
  refine GoJ.cond (t := r) (by kernel_rfl) (fun h3 => ?_) (fun h3 => ?_)
  · replace h := h.1 h3
    refine GoJ.seq ?_
    refine GoJ.seq ?_
    refine GoJ.regV hT (cnt := 0) (ins := [o0]) (live := [12]) (ids := []) (σ' := ⟨[(12, (V.e (E.sc (S.dat (D.bool r1)))))], [], 20⟩) (obs := []) (by kernel_rfl) (by kernel_rfl) (by kernel_rfl) trivial ?_
    refine GoJ.cond (t := r1) (by kernel_rfl) (fun h4 => ?_) (fun h4 => ?_)
    · replace h := h.1 h4
      refine GoJ.seq ?_
      refine GoJ.regV hT (cnt := 0) (ins := [o0]) (live := [4]) (ids := []) (σ' := ⟨[(4, (V.e (E.sc (S.dat (D.int .i64 (0 : Int))))))], [], 20⟩) (obs := []) (by kernel_rfl) (by kernel_rfl) (by kernel_rfl) trivial ?_
      exact GoJ.retV hT func156 (ids := []) (r := (V.e (E.sc (S.dat (D.int .i64 (0 : Int)))))) (r' := (V.e (E.sc (S.dat (D.int .i64 (0 : Int)))))) (σ' := ⟨[], [], 20⟩) (by kernel_rfl) (by kernel_rfl) (by kernel_rfl) (by kernel_rfl) (by kernel_rfl) h
    · replace h := h.2 h4
      refine GoJ.skip ?_
      refine GoJ.seq ?_
      refine GoJ.regV hT (cnt := 0) (ins := [o0]) (live := [4]) (ids := []) (σ' := ⟨[(4, (V.e (E.sc (S.dat (D.int .i64 (-1 : Int))))))], [], 20⟩) (obs := []) (by kernel_rfl) (by kernel_rfl) (by kernel_rfl) trivial ?_
      exact GoJ.retV hT func156 (ids := []) (r := (V.e (E.sc (S.dat (D.int .i64 (-1 : Int)))))) (r' := (V.e (E.sc (S.dat (D.int .i64 (-1 : Int)))))) (σ' := ⟨[], [], 20⟩) (by kernel_rfl) (by kernel_rfl) (by kernel_rfl) (by kernel_rfl) (by kernel_rfl) h
  · replace h := h.2 h3
    refine GoJ.skip ?_
    refine GoJ.seq ?_
    refine GoJ.seq ?_
    refine GoJ.regV hT (cnt := 0) (ins := [o0]) (live := [0, 1, 13]) (ids := []) (σ' := ⟨[(0, (V.e (E.sc (S.dat (D.int .i64 vx))))), (1, (V.e (E.sc (S.dat (D.int .i64 y))))), (13, (V.e (E.sc (S.dat (D.bool r1)))))], [], 20⟩) (obs := []) (by kernel_rfl) (by kernel_rfl) (by kernel_rfl) trivial ?_
    refine GoJ.cond (t := r1) (by kernel_rfl) (fun h5 => ?_) (fun h5 => ?_)
    · replace h := h.1 h5
      refine GoJ.seq ?_
      refine GoJ.regV hT (cnt := 0) (ins := [o0]) (live := [4]) (ids := []) (σ' := ⟨[(4, (V.e (E.sc (S.dat (D.int .i64 (1 : Int))))))], [], 20⟩) (obs := []) (by kernel_rfl) (by kernel_rfl) (by kernel_rfl) trivial ?_
      exact GoJ.retV hT func156 (ids := []) (r := (V.e (E.sc (S.dat (D.int .i64 (1 : Int)))))) (r' := (V.e (E.sc (S.dat (D.int .i64 (1 : Int)))))) (σ' := ⟨[], [], 20⟩) (by kernel_rfl) (by kernel_rfl) (by kernel_rfl) (by kernel_rfl) (by kernel_rfl) h
    · replace h := h.2 h5
      refine GoJ.skip ?_
      refine GoJ.seq ?_
      refine GoJ.seq ?_
      refine GoJ.regV hT (cnt := 0) (ins := [o0, o0, o0]) (live := [0, 1, 16]) (ids := []) (σ' := ⟨[(0, (V.e (E.sc (S.dat (D.int .i64 vx))))), (1, (V.e (E.sc (S.dat (D.int .i64 y))))), (16, (V.e (E.sc (S.dat (D.bool (decide (vx < y)))))))], [], 20⟩) (obs := []) (by kernel_rfl) (by kernel_rfl) (by kernel_rfl) trivial ?_
      refine GoJ.cond (t := (decide (vx < y))) (by kernel_rfl) (fun h6 => ?_) (fun h6 => ?_)
      · replace h := h.1 h6
        refine GoJ.seq ?_
        refine GoJ.regV hT (cnt := 0) (ins := [o0]) (live := [4]) (ids := []) (σ' := ⟨[(4, (V.e (E.sc (S.dat (D.int .i64 (-1 : Int))))))], [], 20⟩) (obs := []) (by kernel_rfl) (by kernel_rfl) (by kernel_rfl) trivial ?_
        exact GoJ.retV hT func156 (ids := []) (r := (V.e (E.sc (S.dat (D.int .i64 (-1 : Int)))))) (r' := (V.e (E.sc (S.dat (D.int .i64 (-1 : Int)))))) (σ' := ⟨[], [], 20⟩) (by kernel_rfl) (by kernel_rfl) (by kernel_rfl) (by kernel_rfl) (by kernel_rfl) h
      · replace h := h.2 h6
        refine GoJ.skip ?_
        refine GoJ.seq ?_
        refine GoJ.seq ?_
        refine GoJ.regV hT (cnt := 0) (ins := [o0, o0, o0]) (live := [19]) (ids := []) (σ' := ⟨[(19, (V.e (E.sc (S.dat (D.bool (decide (vx > y)))))))], [], 20⟩) (obs := []) (by kernel_rfl) (by kernel_rfl) (by kernel_rfl) trivial ?_
        refine GoJ.cond (t := (decide (vx > y))) (by kernel_rfl) (fun h7 => ?_) (fun h7 => ?_)
        · replace h := h.1 h7
          refine GoJ.seq ?_
          refine GoJ.regV hT (cnt := 0) (ins := [o0]) (live := [4]) (ids := []) (σ' := ⟨[(4, (V.e (E.sc (S.dat (D.int .i64 (1 : Int))))))], [], 20⟩) (obs := []) (by kernel_rfl) (by kernel_rfl) (by kernel_rfl) trivial ?_
          exact GoJ.retV hT func156 (ids := []) (r := (V.e (E.sc (S.dat (D.int .i64 (1 : Int)))))) (r' := (V.e (E.sc (S.dat (D.int .i64 (1 : Int)))))) (σ' := ⟨[], [], 20⟩) (by kernel_rfl) (by kernel_rfl) (by kernel_rfl) (by kernel_rfl) (by kernel_rfl) h
        · replace h := h.2 h7
          refine GoJ.skip ?_
          refine GoJ.seq ?_
          refine GoJ.regV hT (cnt := 0) (ins := [o0]) (live := [4]) (ids := []) (σ' := ⟨[(4, (V.e (E.sc (S.dat (D.int .i64 (0 : Int))))))], [], 20⟩) (obs := []) (by kernel_rfl) (by kernel_rfl) (by kernel_rfl) trivial ?_
          exact GoJ.retV hT func156 (ids := []) (r := (V.e (E.sc (S.dat (D.int .i64 (0 : Int)))))) (r' := (V.e (E.sc (S.dat (D.int .i64 (0 : Int)))))) (σ' := ⟨[], [], 20⟩) (by kernel_rfl) (by kernel_rfl) (by kernel_rfl) (by kernel_rfl) (by kernel_rfl) h

/- f157 cmp.Compare[uint32] -/
def vc157 (vx : Int) (y : Int) (R : V → Heap → Prop) : Prop :=
  ∃ (r : Bool),
  (FnD prog 164 [(V.e (E.sc (S.dat (D.int .u32 vx))))] (V.e (E.sc (S.dat (D.bool r)))) []) ∧
  (∃ (r1 : Bool),
  (FnD prog 164 [(V.e (E.sc (S.dat (D.int .u32 y))))] (V.e (E.sc (S.dat (D.bool r1)))) []) ∧
  ((r = true →
    (r1 = true →
      R (V.e (E.sc (S.dat (D.int .i64 (0 : Int))))) []) ∧
    (r1 = false →
      R (V.e (E.sc (S.dat (D.int .i64 (-1 : Int))))) [])) ∧
  (r = false →
    (r1 = true →
      R (V.e (E.sc (S.dat (D.int .i64 (1 : Int))))) []) ∧
    (r1 = false →
      ((decide (vx < y)) = true →
        R (V.e (E.sc (S.dat (D.int .i64 (-1 : Int))))) []) ∧
      ((decide (vx < y)) = false →
        ((decide (vx > y)) = true →
          R (V.e (E.sc (S.dat (D.int .i64 (1 : Int))))) []) ∧
        ((decide (vx > y)) = false →
          R (V.e (E.sc (S.dat (D.int .i64 (0 : Int))))) []))))))

theorem vc157_ok (vx : Int) (y : Int) {R : V → Heap → Prop} (h : vc157 vx y R) : FnG prog 157 [(V.e (E.sc (S.dat (D.int .u32 vx)))), (V.e (E.sc (S.dat (D.int .u32 y))))] [] R := by
  unfold vc157 at h
  refine FnG.of (m := 20) (c := _) func157 rfl (by kernel_rfl) ntmps157 (Nat.le_of_ble_eq_true rfl) ?_
  refine GoJ.seq ?_
  refine GoJ.regV hT (cnt := 0) (ins := [o0]) (live := [0, 1]) (ids := []) (σ' := ⟨[(0, (V.e (E.sc (S.dat (D.int .u32 vx))))), (1, (V.e (E.sc (S.dat (D.int .u32 y)))))], [], 20⟩) (obs := []) (by kernel_rfl) (by kernel_rfl) (by kernel_rfl) trivial ?_
  refine GoJ.seq ?_
  obtain ⟨r, h1, h⟩ := h
  refine GoJ.regV hT (cnt := 0) (ins := [o0, ((Or.call (V.e (E.sc (S.dat (D.bool r)))) [] []), 0, 0), o0]) (live := [0, 1, 5]) (ids := []) (σ' := ⟨[(0, (V.e (E.sc (S.dat (D.int .u32 vx))))), (1, (V.e (E.sc (S.dat (D.int .u32 y))))), (5, (V.e (E.sc (S.dat (D.bool r)))))], [], 20⟩) (obs := [FnD prog 164 [(V.e (E.sc (S.dat (D.int .u32 vx))))] (V.e (E.sc (S.dat (D.bool r)))) []]) (by kernel_rfl) (by kernel_rfl) (by kernel_rfl) ⟨h1, trivial⟩ ?_
  refine GoJ.seq ?_
  obtain ⟨r1, h2, h⟩ := h
  refine GoJ.regV hT (cnt := 0) (ins := [o0, ((Or.call (V.e (E.sc (S.dat (D.bool r1)))) [] []), 0, 0), o0]) (live := [0, 1, 5, 6]) (ids := []) (σ' := ⟨[(0, (V.e (E.sc (S.dat (D.int .u32 vx))))), (1, (V.e (E.sc (S.dat (D.int .u32 y))))), (5, (V.e (E.sc (S.dat (D.bool r))))), (6, (V.e (E.sc (S.dat (D.bool r1)))))], [], 20⟩) (obs := [FnD prog 164 [(V.e (E.sc (S.dat (D.int .u32 y))))] (V.e (E.sc (S.dat (D.bool r1)))) []]) (by kernel_rfl) (by kernel_rfl) (by kernel_rfl) ⟨h2, trivial⟩ ?_
  refine GoJ.seq ?_
  refine GoJ.seq ?_
  refine GoJ.regV hT (cnt := 0) (ins := [o0]) (live := [0, 1, 6, 11]) (ids := []) (σ' := ⟨[(0, (V.e (E.sc (S.dat (D.int .u32 vx))))), (1, (V.e (E.sc (S.dat (D.int .u32 y))))), (6, (V.e (E.sc (S.dat (D.bool r1))))), (11, (V.e (E.sc (S.dat (D.bool r)))))], [], 20⟩) (obs := []) (by kernel_rfl) (by kernel_rfl) (by kernel_rfl) trivial ?_
  refine GoJ.cond (t := r) (by kernel_rfl) (fun h3 => ?_) (fun h3 => ?_)
  · replace h := h.1 h3
    refine GoJ.seq ?_
    refine GoJ.seq ?_
    refine GoJ.regV hT (cnt := 0) (ins := [o0]) (live := [12]) (ids := []) (σ' := ⟨[(12, (V.e (E.sc (S.dat (D.bool r1)))))], [], 20⟩) (obs := []) (by kernel_rfl) (by kernel_rfl) (by kernel_rfl) trivial ?_
    refine GoJ.cond (t := r1) (by kernel_rfl) (fun h4 => ?_) (fun h4 => ?_)
    · replace h := h.1 h4
      refine GoJ.seq ?_
      refine GoJ.regV hT (cnt := 0) (ins := [o0]) (live := [4]) (ids := []) (σ' := ⟨[(4, (V.e (E.sc (S.dat (D.int .i64 (0 : Int))))))], [], 20⟩) (obs := []) (by kernel_rfl) (by kernel_rfl) (by kernel_rfl) trivial ?_
      exact GoJ.retV hT func157 (ids := []) (r := (V.e (E.sc (S.dat (D.int .i64 (0 : Int)))))) (r' := (V.e (E.sc (S.dat (D.int .i64 (0 : Int)))))) (σ' := ⟨[], [], 20⟩) (by kernel_rfl) (by kernel_rfl) (by kernel_rfl) (by kernel_rfl) (by kernel_rfl) h
    · replace h := h.2 h4
      refine GoJ.skip ?_
      refine GoJ.seq ?_
      refine GoJ.regV hT (cnt := 0) (ins := [o0]) (live := [4]) (ids := []) (σ' := ⟨[(4, (V.e (E.sc (S.dat (D.int .i64 (-1 : Int))))))], [], 20⟩) (obs := []) (by kernel_rfl) (by kernel_rfl) (by kernel_rfl) trivial ?_
      exact GoJ.retV hT func157 (ids := []) (r := (V.e (E.sc (S.dat (D.int .i64 (-1 : Int)))))) (r' := (V.e (E.sc (S.dat (D.int .i64 (-1 : Int)))))) (σ' := ⟨[], [], 20⟩) (by kernel_rfl) (by kernel_rfl) (by kernel_rfl) (by kernel_rfl) (by kernel_rfl) h
  · replace h := h.2 h3
    refine GoJ.skip ?_
    refine GoJ.seq ?_
    refine GoJ.seq ?_
    refine GoJ.regV hT (cnt := 0) (ins := [o0]) (live := [0, 1, 13]) (ids := []) (σ' := ⟨[(0, (V.e (E.sc (S.dat (D.int .u32 vx))))), (1, (V.e (E.sc (S.dat (D.int .u32 y))))), (13, (V.e (E.sc (S.dat (D.bool r1)))))], [], 20⟩) (obs := []) (by kernel_rfl) (by kernel_rfl) (by kernel_rfl) trivial ?_
    refine GoJ.cond (t := r1) (by kernel_rfl) (fun h5 => ?_) (fun h5 => ?_)
    · replace h := h.1 h5
      refine GoJ.seq ?_
      refine GoJ.regV hT (cnt := 0) (ins := [o0]) (live := [4]) (ids := []) (σ' := ⟨[(4, (V.e (E.sc (S.dat (D.int .i64 (1 : Int))))))], [], 20⟩) (obs := []) (by kernel_rfl) (by kernel_rfl) (by kernel_rfl) trivial ?_
      exact GoJ.retV hT func157 (ids := []) (r := (V.e (E.sc (S.dat (D.int .i64 (1 : Int)))))) (r' := (V.e (E.sc (S.dat (D.int .i64 (1 : Int)))))) (σ' := ⟨[], [], 20⟩) (by kernel_rfl) (by kernel_rfl) (by kernel_rfl) (by kernel_rfl) (by kernel_rfl) h
    · replace h := h.2 h5
      refine GoJ.skip ?_
      refine GoJ.seq ?_
      refine GoJ.seq ?_
      refine GoJ.regV hT (cnt := 0) (ins := [o0, o0, o0]) (live := [0, 1, 16]) (ids := []) (σ' := ⟨[(0, (V.e (E.sc (S.dat (D.int .u32 vx))))), (1, (V.e (E.sc (S.dat (D.int .u32 y))))), (16, (V.e (E.sc (S.dat (D.bool (decide (vx < y)))))))], [], 20⟩) (obs := []) (by kernel_rfl) (by kernel_rfl) (by kernel_rfl) trivial ?_
      refine GoJ.cond (t := (decide (vx < y))) (by kernel_rfl) (fun h6 => ?_) (fun h6 => ?_)
      · replace h := h.1 h6
        refine GoJ.seq ?_
        refine GoJ.regV hT (cnt := 0) (ins := [o0]) (live := [4]) (ids := []) (σ' := ⟨[(4, (V.e (E.sc (S.dat (D.int .i64 (-1 : Int))))))], [], 20⟩) (obs := []) (by kernel_rfl) (by kernel_rfl) (by kernel_rfl) trivial ?_
        exact GoJ.retV hT func157 (ids := []) (r := (V.e (E.sc (S.dat (D.int .i64 (-1 : Int)))))) (r' := (V.e (E.sc (S.dat (D.int .i64 (-1 : Int)))))) (σ' := ⟨[], [], 20⟩) (by kernel_rfl) (by kernel_rfl) (by kernel_rfl) (by kernel_rfl) (by kernel_rfl) h
      · replace h := h.2 h6
        refine GoJ.skip ?_
        refine GoJ.seq ?_
        refine GoJ.seq ?_
        refine GoJ.regV hT (cnt := 0) (ins := [o0, o0, o0]) (live := [19]) (ids := []) (σ' := ⟨[(19, (V.e (E.sc (S.dat (D.bool (decide (vx > y)))))))], [], 20⟩) (obs := []) (by kernel_rfl) (by kernel_rfl) (by kernel_rfl) trivial ?_
        refine GoJ.cond (t := (decide (vx > y))) (by kernel_rfl) (fun h7 => ?_) (fun h7 => ?_)
        · replace h := h.1 h7
          refine GoJ.seq ?_
          refine GoJ.regV hT (cnt := 0) (ins := [o0]) (live := [4]) (ids := []) (σ' := ⟨[(4, (V.e (E.sc (S.dat (D.int .i64 (1 : Int))))))], [], 20⟩) (obs := []) (by kernel_rfl) (by kernel_rfl) (by kernel_rfl) trivial ?_
          exact GoJ.retV hT func157 (ids := []) (r := (V.e (E.sc (S.dat (D.int .i64 (1 : Int)))))) (r' := (V.e (E.sc (S.dat (D.int .i64 (1 : Int)))))) (σ' := ⟨[], [], 20⟩) (by kernel_rfl) (by kernel_rfl) (by kernel_rfl) (by kernel_rfl) (by kernel_rfl) h
        · replace h := h.2 h7
          refine GoJ.skip ?_
          refine GoJ.seq ?_
          refine GoJ.regV hT (cnt := 0) (ins := [o0]) (live := [4]) (ids := []) (σ' := ⟨[(4, (V.e (E.sc (S.dat (D.int .i64 (0 : Int))))))], [], 20⟩) (obs := []) (by kernel_rfl) (by kernel_rfl) (by kernel_rfl) trivial ?_
          exact GoJ.retV hT func157 (ids := []) (r := (V.e (E.sc (S.dat (D.int .i64 (0 : Int)))))) (r' := (V.e (E.sc (S.dat (D.int .i64 (0 : Int)))))) (σ' := ⟨[], [], 20⟩) (by kernel_rfl) (by kernel_rfl) (by kernel_rfl) (by kernel_rfl) (by kernel_rfl) h

/- f155 math/bits.Add32 -/
def vc155 (vx : Int) (y : Int) (carry : Int) (R : V → Heap → Prop) : Prop :=
  (0 ≤ (32 : Int)) ∧
  (R (V.tup [(E.sc (S.dat (D.int .u32 (IntKind.u32.wrap (IntKind.u64.wrap ((IntKind.u64.wrap ((IntKind.u64.wrap vx) + (IntKind.u64.wrap y))) + (IntKind.u64.wrap carry))))))), (E.sc (S.dat (D.int .u32 (IntKind.u32.wrap ((IntKind.u64.wrap ((IntKind.u64.wrap ((IntKind.u64.wrap vx) + (IntKind.u64.wrap y))) + (IntKind.u64.wrap carry))).fdiv (2 ^ (min (32 : Int).toNat IntKind.u64.bits)))))))]) [])

theorem vc155_ok (vx : Int) (y : Int) (carry : Int) {R : V → Heap → Prop} (h : vc155 vx y carry R) : FnG prog 155 [(V.e (E.sc (S.dat (D.int .u32 vx)))), (V.e (E.sc (S.dat (D.int .u32 y)))), (V.e (E.sc (S.dat (D.int .u32 carry))))] [] R := by
  unfold vc155 at h
  refine FnG.of (m := 22) (c := _) func155 rfl (by kernel_rfl) ntmps155 (Nat.le_of_ble_eq_true rfl) ?_
  refine GoJ.seq ?_
  refine GoJ.regV hT (cnt := 0) (ins := [o0, o0]) (live := [0, 1, 2]) (ids := []) (σ' := ⟨[(0, (V.e (E.sc (S.dat (D.int .u32 vx))))), (1, (V.e (E.sc (S.dat (D.int .u32 y))))), (2, (V.e (E.sc (S.dat (D.int .u32 carry)))))], [], 22⟩) (obs := []) (by kernel_rfl) (by kernel_rfl) (by kernel_rfl) trivial ?_
  refine GoJ.seq ?_
  refine GoJ.regV hT (cnt := 0) (ins := [o0, o0, o0, o0, o0, o0, o0, o0, o0]) (live := [8]) (ids := []) (σ' := ⟨[(8, (V.e (E.sc (S.dat (D.int .u64 (IntKind.u64.wrap ((IntKind.u64.wrap ((IntKind.u64.wrap vx) + (IntKind.u64.wrap y))) + (IntKind.u64.wrap carry))))))))], [], 22⟩) (obs := []) (by kernel_rfl) (by kernel_rfl) (by kernel_rfl) trivial ?_
  refine GoJ.seq ?_
  refine GoJ.regV hT (cnt := 0) (ins := [o0, o0, o0]) (live := [6, 8]) (ids := []) (σ' := ⟨[(6, (V.e (E.sc (S.dat (D.int .u32 (IntKind.u32.wrap (IntKind.u64.wrap ((IntKind.u64.wrap ((IntKind.u64.wrap vx) + (IntKind.u64.wrap y))) + (IntKind.u64.wrap carry))))))))), (8, (V.e (E.sc (S.dat (D.int .u64 (IntKind.u64.wrap ((IntKind.u64.wrap ((IntKind.u64.wrap vx) + (IntKind.u64.wrap y))) + (IntKind.u64.wrap carry))))))))], [], 22⟩) (obs := []) (by kernel_rfl) (by kernel_rfl) (by kernel_rfl) trivial ?_
  refine GoJ.seq ?_
  obtain ⟨h1, h⟩ := h
  refine GoJ.regV hT (cnt := 0) (ins := [o0, o0, o0, o0]) (live := [6, 7]) (ids := []) (σ' := ⟨[(6, (V.e (E.sc (S.dat (D.int .u32 (IntKind.u32.wrap (IntKind.u64.wrap ((IntKind.u64.wrap ((IntKind.u64.wrap vx) + (IntKind.u64.wrap y))) + (IntKind.u64.wrap carry))))))))), (7, (V.e (E.sc (S.dat (D.int .u32 (IntKind.u32.wrap ((IntKind.u64.wrap ((IntKind.u64.wrap ((IntKind.u64.wrap vx) + (IntKind.u64.wrap y))) + (IntKind.u64.wrap carry))).fdiv (2 ^ (min (32 : Int).toNat IntKind.u64.bits)))))))))], [], 22⟩) (obs := [0 ≤ (32 : Int)]) (by kernel_rfl) (by kernel_rfl) (by kernel_rfl) ⟨h1, trivial⟩ ?_
  exact GoJ.retV hT func155 (ids := []) (r := (V.tup [(E.sc (S.dat (D.int .u32 (IntKind.u32.wrap (IntKind.u64.wrap ((IntKind.u64.wrap ((IntKind.u64.wrap vx) + (IntKind.u64.wrap y))) + (IntKind.u64.wrap carry))))))), (E.sc (S.dat (D.int .u32 (IntKind.u32.wrap ((IntKind.u64.wrap ((IntKind.u64.wrap ((IntKind.u64.wrap vx) + (IntKind.u64.wrap y))) + (IntKind.u64.wrap carry))).fdiv (2 ^ (min (32 : Int).toNat IntKind.u64.bits)))))))])) (r' := (V.tup [(E.sc (S.dat (D.int .u32 (IntKind.u32.wrap (IntKind.u64.wrap ((IntKind.u64.wrap ((IntKind.u64.wrap vx) + (IntKind.u64.wrap y))) + (IntKind.u64.wrap carry))))))), (E.sc (S.dat (D.int .u32 (IntKind.u32.wrap ((IntKind.u64.wrap ((IntKind.u64.wrap ((IntKind.u64.wrap vx) + (IntKind.u64.wrap y))) + (IntKind.u64.wrap carry))).fdiv (2 ^ (min (32 : Int).toNat IntKind.u64.bits)))))))])) (σ' := ⟨[], [], 22⟩) (by kernel_rfl) (by kernel_rfl) (by kernel_rfl) (by kernel_rfl) (by kernel_rfl) h

/- f158 math/bits.Sub32 -/
def vc158 (vx : Int) (y : Int) (borrow : Int) (R : V → Heap → Prop) : Prop :=
  (0 ≤ (31 : Int)) ∧
  (R (V.tup [(E.sc (S.dat (D.int .u32 (IntKind.u32.wrap ((IntKind.u32.wrap (vx - y)) - borrow))))), (E.sc (S.dat (D.int .u32 ((bitsI .u32 (· ||| ·) (bitsI .u32 (· &&& ·) (bitsI .u32 (· ^^^ ·) (if IntKind.u32.signed then -1 else IntKind.u32.max) vx) y) (bitsI .u32 (· &&& ·) (bitsI .u32 (· ^^^ ·) (if IntKind.u32.signed then -1 else IntKind.u32.max) (bitsI .u32 (· ^^^ ·) vx y)) (IntKind.u32.wrap ((IntKind.u32.wrap (vx - y)) - borrow)))).fdiv (2 ^ (min (31 : Int).toNat IntKind.u32.bits))))))]) [])

theorem vc158_ok (vx : Int) (y : Int) (borrow : Int) {R : V → Heap → Prop} (h : vc158 vx y borrow R) : FnG prog 158 [(V.e (E.sc (S.dat (D.int .u32 vx)))), (V.e (E.sc (S.dat (D.int .u32 y)))), (V.e (E.sc (S.dat (D.int .u32 borrow))))] [] R := by
  unfold vc158 at h
  refine FnG.of (m := 25) (c := _) func158 rfl (by kernel_rfl) ntmps158 (Nat.le_of_ble_eq_true rfl) ?_
  refine GoJ.seq ?_
  refine GoJ.regV hT (cnt := 0) (ins := [o0, o0]) (live := [0, 1, 2]) (ids := []) (σ' := ⟨[(0, (V.e (E.sc (S.dat (D.int .u32 vx))))), (1, (V.e (E.sc (S.dat (D.int .u32 y))))), (2, (V.e (E.sc (S.dat (D.int .u32 borrow)))))], [], 25⟩) (obs := []) (by kernel_rfl) (by kernel_rfl) (by kernel_rfl) trivial ?_
  refine GoJ.seq ?_
  refine GoJ.regV hT (cnt := 0) (ins := [o0, o0, o0, o0, o0, o0]) (live := [0, 1, 6]) (ids := []) (σ' := ⟨[(0, (V.e (E.sc (S.dat (D.int .u32 vx))))), (1, (V.e (E.sc (S.dat (D.int .u32 y))))), (6, (V.e (E.sc (S.dat (D.int .u32 (IntKind.u32.wrap ((IntKind.u32.wrap (vx - y)) - borrow)))))))], [], 25⟩) (obs := []) (by kernel_rfl) (by kernel_rfl) (by kernel_rfl) trivial ?_
  refine GoJ.seq ?_
  obtain ⟨h1, h⟩ := h
  refine GoJ.regV hT (cnt := 0) (ins := [o0, o0, o0, o0, o0, o0, o0, o0, o0, o0, o0, o0, o0]) (live := [6, 7]) (ids := []) (σ' := ⟨[(6, (V.e (E.sc (S.dat (D.int .u32 (IntKind.u32.wrap ((IntKind.u32.wrap (vx - y)) - borrow))))))), (7, (V.e (E.sc (S.dat (D.int .u32 ((bitsI .u32 (· ||| ·) (bitsI .u32 (· &&& ·) (bitsI .u32 (· ^^^ ·) (if IntKind.u32.signed then -1 else IntKind.u32.max) vx) y) (bitsI .u32 (· &&& ·) (bitsI .u32 (· ^^^ ·) (if IntKind.u32.signed then -1 else IntKind.u32.max) (bitsI .u32 (· ^^^ ·) vx y)) (IntKind.u32.wrap ((IntKind.u32.wrap (vx - y)) - borrow)))).fdiv (2 ^ (min (31 : Int).toNat IntKind.u32.bits))))))))], [], 25⟩) (obs := [0 ≤ (31 : Int)]) (by kernel_rfl) (by kernel_rfl) (by kernel_rfl) ⟨h1, trivial⟩ ?_
  exact GoJ.retV hT func158 (ids := []) (r := (V.tup [(E.sc (S.dat (D.int .u32 (IntKind.u32.wrap ((IntKind.u32.wrap (vx - y)) - borrow))))), (E.sc (S.dat (D.int .u32 ((bitsI .u32 (· ||| ·) (bitsI .u32 (· &&& ·) (bitsI .u32 (· ^^^ ·) (if IntKind.u32.signed then -1 else IntKind.u32.max) vx) y) (bitsI .u32 (· &&& ·) (bitsI .u32 (· ^^^ ·) (if IntKind.u32.signed then -1 else IntKind.u32.max) (bitsI .u32 (· ^^^ ·) vx y)) (IntKind.u32.wrap ((IntKind.u32.wrap (vx - y)) - borrow)))).fdiv (2 ^ (min (31 : Int).toNat IntKind.u32.bits))))))])) (r' := (V.tup [(E.sc (S.dat (D.int .u32 (IntKind.u32.wrap ((IntKind.u32.wrap (vx - y)) - borrow))))), (E.sc (S.dat (D.int .u32 ((bitsI .u32 (· ||| ·) (bitsI .u32 (· &&& ·) (bitsI .u32 (· ^^^ ·) (if IntKind.u32.signed then -1 else IntKind.u32.max) vx) y) (bitsI .u32 (· &&& ·) (bitsI .u32 (· ^^^ ·) (if IntKind.u32.signed then -1 else IntKind.u32.max) (bitsI .u32 (· ^^^ ·) vx y)) (IntKind.u32.wrap ((IntKind.u32.wrap (vx - y)) - borrow)))).fdiv (2 ^ (min (31 : Int).toNat IntKind.u32.bits))))))])) (σ' := ⟨[], [], 25⟩) (by kernel_rfl) (by kernel_rfl) (by kernel_rfl) (by kernel_rfl) (by kernel_rfl) h

/- f144 torsion/integer.norm -/
def vc144 (mag : List (List D)) (neg : Bool) (R : V → Heap → Prop) : Prop :=
  ∃ (J0 : Int → Prop) (μ0 : Int → Nat),
  J0 (mag.length : Int) ∧ ∀ (n : Int), J0 n →
    ((decide (n > (0 : Int))) = true →
      ∃ (vx : Int),
      (0 ≤ (IntKind.i64.wrap (n - (1 : Int))) ∧ (IntKind.i64.wrap (n - (1 : Int))) < (mag.length : Int)) ∧
      (mag[((IntKind.i64.wrap (n - (1 : Int)))).toNat]? = some [(D.int .u32 vx)]) ∧
      (((vx != (0 : Int)) = true →
        (neg = true →
          (0 ≤ n ∧ n ≤ n ∧ n ≤ (mag.length : Int)) ∧
          (R (V.e (E.agg [(S.dat (D.bool (decide (n > (0 : Int))))), (S.dat (D.sl (mag.take (n).toNat)))])) [])) ∧
        (neg = false →
          (0 ≤ n ∧ n ≤ n ∧ n ≤ (mag.length : Int)) ∧
          (R (V.e (E.agg [(S.dat (D.bool false)), (S.dat (D.sl (mag.take (n).toNat)))])) []))) ∧
      ((vx != (0 : Int)) = false →
        J0 (IntKind.i64.wrap (n - (1 : Int))) ∧ μ0 (IntKind.i64.wrap (n - (1 : Int))) < μ0 n))) ∧
    ((decide (n > (0 : Int))) = false →
      (neg = true →
        (0 ≤ n ∧ n ≤ n ∧ n ≤ (mag.length : Int)) ∧
        (R (V.e (E.agg [(S.dat (D.bool (decide (n > (0 : Int))))), (S.dat (D.sl (mag.take (n).toNat)))])) [])) ∧
      (neg = false →
        (0 ≤ n ∧ n ≤ n ∧ n ≤ (mag.length : Int)) ∧
        (R (V.e (E.agg [(S.dat (D.bool false)), (S.dat (D.sl (mag.take (n).toNat)))])) [])))

theorem vc144_ok (mag : List (List D)) (neg : Bool) {R : V → Heap → Prop} (h : vc144 mag neg R) : FnG prog 144 [(V.e (E.sc (S.dat (D.sl mag)))), (V.e (E.sc (S.dat (D.bool neg))))] [] R := by
  unfold vc144 at h
  refine FnG.of (m := 28) (c := _) func144 rfl (by kernel_rfl) ntmps144 (Nat.le_of_ble_eq_true rfl) ?_
  refine GoJ.seq ?_
  refine GoJ.regV hT (cnt := 1) (ins := [(Or.none, 0, 1)]) (live := [0, 1, 4]) (ids := [0]) (σ' := ⟨[(0, (V.e (E.sc (S.dat (D.sl mag))))), (1, (V.e (E.sc (S.dat (D.bool neg))))), (4, (V.e (E.sc (S.ptr 0 0))))], [(some (Obj.box [(S.dat (D.bool false)), (S.dat (D.raw (.slice none 0 0)))]))], 28⟩) (obs := []) (by kernel_rfl) (by kernel_rfl) (by kernel_rfl) trivial ?_
  refine GoJ.scope ?_
  refine GoJ.seq ?_
  refine GoJ.regV hT (cnt := 0) (ins := [o0, o0, o0]) (live := [0, 1, 4, 5]) (ids := [0]) (σ' := ⟨[(0, (V.e (E.sc (S.dat (D.sl mag))))), (1, (V.e (E.sc (S.dat (D.bool neg))))), (4, (V.e (E.sc (S.ptr 0 0)))), (5, (V.e (E.sc (S.dat (D.int .i64 (mag.length : Int))))))], [(some (Obj.box [(S.dat (D.bool false)), (S.dat (D.raw (.slice none 0 0)))]))], 28⟩) (obs := []) (by kernel_rfl) (by kernel_rfl) (by kernel_rfl) trivial ?_
  refine GoJ.seq ?_
  refine GoJ.label ?_
  refine GoJ.seq ?_
  refine GoJ.block ?_
  obtain ⟨J0, μ0, hJ0, h⟩ := h
  refine GoJ.loop (X := Int) (fun x => (fun (n : Int) => (⟨[(0, (V.e (E.sc (S.dat (D.sl mag))))), (1, (V.e (E.sc (S.dat (D.bool neg))))), (4, (V.e (E.sc (S.ptr 0 0)))), (5, (V.e (E.sc (S.dat (D.int .i64 n)))))], [(some (Obj.box [(S.dat (D.bool false)), (S.dat (D.raw (.slice none 0 0)))]))], 28⟩ : St)) (x)) (fun x => J0 (x)) (fun x => μ0 (x)) ((mag.length : Int)) hJ0 ?_
  rintro n hJ0 ih0
  replace h := h n hJ0
  refine GoJ.seq ?_
  refine GoJ.seq ?_
  refine GoJ.regV hT (cnt := 0) (ins := [o0, o0]) (live := [0, 1, 4, 5, 9]) (ids := [0]) (σ' := ⟨[(0, (V.e (E.sc (S.dat (D.sl mag))))), (1, (V.e (E.sc (S.dat (D.bool neg))))), (4, (V.e (E.sc (S.ptr 0 0)))), (5, (V.e (E.sc (S.dat (D.int .i64 n))))), (9, (V.e (E.sc (S.dat (D.bool (decide (n > (0 : Int))))))))], [(some (Obj.box [(S.dat (D.bool false)), (S.dat (D.raw (.slice none 0 0)))]))], 28⟩) (obs := []) (by kernel_rfl) (by kernel_rfl) (by kernel_rfl) trivial ?_
  refine GoJ.cond (t := (decide (n > (0 : Int)))) (by kernel_rfl) (fun h1 => ?_) (fun h1 => ?_)
  · replace h := h.1 h1
    refine GoJ.skip ?_
    refine GoJ.block ?_
    refine GoJ.seq ?_
    refine GoJ.seq ?_
    obtain ⟨vx, h2, h3, h⟩ := h
    refine GoJ.regV hT (cnt := 0) (ins := [o0, o0, o0, o0, ((Or.cells [(D.int .u32 vx)]), 0, 0), o0]) (live := [0, 1, 4, 5, 15]) (ids := [0]) (σ' := ⟨[(0, (V.e (E.sc (S.dat (D.sl mag))))), (1, (V.e (E.sc (S.dat (D.bool neg))))), (4, (V.e (E.sc (S.ptr 0 0)))), (5, (V.e (E.sc (S.dat (D.int .i64 n))))), (15, (V.e (E.sc (S.dat (D.bool (vx != (0 : Int)))))))], [(some (Obj.box [(S.dat (D.bool false)), (S.dat (D.raw (.slice none 0 0)))]))], 28⟩) (obs := [0 ≤ (IntKind.i64.wrap (n - (1 : Int))) ∧ (IntKind.i64.wrap (n - (1 : Int))) < (mag.length : Int), mag[((IntKind.i64.wrap (n - (1 : Int)))).toNat]? = some [(D.int .u32 vx)]]) (by kernel_rfl) (by kernel_rfl) (by kernel_rfl) ⟨h2, h3, trivial⟩ ?_
    refine GoJ.cond (t := (vx != (0 : Int))) (by kernel_rfl) (fun h4 => ?_) (fun h4 => ?_)
    · replace h := h.1 h4
      refine GoJ.exit rfl ?_
      refine GoJ.seq ?_
      rcases Bool.eq_false_or_eq_true neg with h5 | h5
      · replace h := h.1 h5
        obtain ⟨h6, h⟩ := h
        refine GoJ.regV hT (cnt := 0) (ins := [o0, ((Or.bool true), 0, 0), o0, o0, o0, o0, o0, o0, o0, o0, o0]) (live := [4]) (ids := [0]) (σ' := ⟨[(4, (V.e (E.sc (S.ptr 0 0))))], [(some (Obj.box [(S.dat (D.bool (decide (n > (0 : Int))))), (S.dat (D.sl (mag.take (n).toNat)))]))], 28⟩) (obs := [neg = true, 0 ≤ n ∧ n ≤ n ∧ n ≤ (mag.length : Int)]) (by kernel_rfl) (by kernel_rfl) (by kernel_rfl) ⟨h5, h6, trivial⟩ ?_
        exact GoJ.retV hT func144 (ids := []) (r := (V.e (E.agg [(S.dat (D.bool (decide (n > (0 : Int))))), (S.dat (D.sl (mag.take (n).toNat)))]))) (r' := (V.e (E.agg [(S.dat (D.bool (decide (n > (0 : Int))))), (S.dat (D.sl (mag.take (n).toNat)))]))) (σ' := ⟨[], [], 28⟩) (by kernel_rfl) (by kernel_rfl) (by kernel_rfl) (by kernel_rfl) (by kernel_rfl) h
      · replace h := h.2 h5
        obtain ⟨h7, h⟩ := h
        refine GoJ.regV hT (cnt := 0) (ins := [o0, ((Or.bool false), 0, 0), o0, o0, o0, o0, o0, o0, o0, o0, o0]) (live := [4]) (ids := [0]) (σ' := ⟨[(4, (V.e (E.sc (S.ptr 0 0))))], [(some (Obj.box [(S.dat (D.bool false)), (S.dat (D.sl (mag.take (n).toNat)))]))], 28⟩) (obs := [neg = false, 0 ≤ n ∧ n ≤ n ∧ n ≤ (mag.length : Int)]) (by kernel_rfl) (by kernel_rfl) (by kernel_rfl) ⟨h5, h7, trivial⟩ ?_
        exact GoJ.retV hT func144 (ids := []) (r := (V.e (E.agg [(S.dat (D.bool false)), (S.dat (D.sl (mag.take (n).toNat)))]))) (r' := (V.e (E.agg [(S.dat (D.bool false)), (S.dat (D.sl (mag.take (n).toNat)))]))) (σ' := ⟨[], [], 28⟩) (by kernel_rfl) (by kernel_rfl) (by kernel_rfl) (by kernel_rfl) (by kernel_rfl) h
    · replace h := h.2 h4
      refine GoJ.skip ?_
      refine GoJ.regV hT (cnt := 0) (ins := [o0, o0, o0]) (live := [0, 1, 4, 5]) (ids := [0]) (σ' := ⟨[(0, (V.e (E.sc (S.dat (D.sl mag))))), (1, (V.e (E.sc (S.dat (D.bool neg))))), (4, (V.e (E.sc (S.ptr 0 0)))), (5, (V.e (E.sc (S.dat (D.int .i64 (IntKind.i64.wrap (n - (1 : Int))))))))], [(some (Obj.box [(S.dat (D.bool false)), (S.dat (D.raw (.slice none 0 0)))]))], 28⟩) (obs := []) (by kernel_rfl) (by kernel_rfl) (by kernel_rfl) trivial ?_
      refine GoJ.inBlock ?_
      exact ih0 ((IntKind.i64.wrap (n - (1 : Int)))) h.1 h.2
  · replace h := h.2 h1
    refine GoJ.exit rfl ?_
    refine GoJ.seq ?_
    rcases Bool.eq_false_or_eq_true neg with h8 | h8
    · replace h := h.1 h8
      obtain ⟨h9, h⟩ := h
      refine GoJ.regV hT (cnt := 0) (ins := [o0, ((Or.bool true), 0, 0), o0, o0, o0, o0, o0, o0, o0, o0, o0]) (live := [4]) (ids := [0]) (σ' := ⟨[(4, (V.e (E.sc (S.ptr 0 0))))], [(some (Obj.box [(S.dat (D.bool (decide (n > (0 : Int))))), (S.dat (D.sl (mag.take (n).toNat)))]))], 28⟩) (obs := [neg = true, 0 ≤ n ∧ n ≤ n ∧ n ≤ (mag.length : Int)]) (by kernel_rfl) (by kernel_rfl) (by kernel_rfl) ⟨h8, h9, trivial⟩ ?_
      exact GoJ.retV hT func144 (ids := []) (r := (V.e (E.agg [(S.dat (D.bool (decide (n > (0 : Int))))), (S.dat (D.sl (mag.take (n).toNat)))]))) (r' := (V.e (E.agg [(S.dat (D.bool (decide (n > (0 : Int))))), (S.dat (D.sl (mag.take (n).toNat)))]))) (σ' := ⟨[], [], 28⟩) (by kernel_rfl) (by kernel_rfl) (by kernel_rfl) (by kernel_rfl) (by kernel_rfl) h
    · replace h := h.2 h8
      obtain ⟨h10, h⟩ := h
      refine GoJ.regV hT (cnt := 0) (ins := [o0, ((Or.bool false), 0, 0), o0, o0, o0, o0, o0, o0, o0, o0, o0]) (live := [4]) (ids := [0]) (σ' := ⟨[(4, (V.e (E.sc (S.ptr 0 0))))], [(some (Obj.box [(S.dat (D.bool false)), (S.dat (D.sl (mag.take (n).toNat)))]))], 28⟩) (obs := [neg = false, 0 ≤ n ∧ n ≤ n ∧ n ≤ (mag.length : Int)]) (by kernel_rfl) (by kernel_rfl) (by kernel_rfl) ⟨h8, h10, trivial⟩ ?_
      exact GoJ.retV hT func144 (ids := []) (r := (V.e (E.agg [(S.dat (D.bool false)), (S.dat (D.sl (mag.take (n).toNat)))]))) (r' := (V.e (E.agg [(S.dat (D.bool false)), (S.dat (D.sl (mag.take (n).toNat)))]))) (σ' := ⟨[], [], 28⟩) (by kernel_rfl) (by kernel_rfl) (by kernel_rfl) (by kernel_rfl) (by kernel_rfl) h

/- f145 torsion/integer.plus -/
def vc145 (a : List (List D)) (b : List (List D)) (R : V → Heap → Prop) : Prop :=
  ((decide ((a.length : Int) < (b.length : Int))) = true →
    (0 ≤ (IntKind.i64.wrap ((b.length : Int) + (1 : Int))) ∧ (IntKind.i64.wrap ((b.length : Int) + (1 : Int))) ≤ (IntKind.i64.wrap ((b.length : Int) + (1 : Int))) ∧ (IntKind.i64.wrap ((b.length : Int) + (1 : Int))) * (4 : Nat) ≤ 281474976710656) ∧
    ((∀ y ∈ b, y.length = 1) ∧
    (∃ (J0 : (List (List D)) → Int → Int → Prop) (μ0 : (List (List D)) → Int → Int → Nat),
    J0 (b.take (List.replicate ((IntKind.i64.wrap ((b.length : Int) + (1 : Int)))).toNat [(D.int .u32 (0 : Int))]).length ++ (List.replicate ((IntKind.i64.wrap ((b.length : Int) + (1 : Int)))).toNat [(D.int .u32 (0 : Int))]).drop b.length) (0 : Int) (0 : Int) ∧ ∀ (out : List (List D)) (t25 : Int) (carry : Int), J0 out t25 carry →
      ((decide (t25 < (b.length : Int))) = true →
        ((decide (t25 < (a.length : Int))) = true →
          ∃ (vx : Int),
          (0 ≤ t25 ∧ t25 < (a.length : Int)) ∧
          (a[(t25).toNat]? = some [(D.int .u32 vx)]) ∧
          (∃ (vx1 : Int) (r : Int) (r1 : Int),
          (0 ≤ t25 ∧ t25 < (b.length : Int)) ∧
          (b[(t25).toNat]? = some [(D.int .u32 vx1)]) ∧
          (FnD prog 155 [(V.e (E.sc (S.dat (D.int .u32 vx1)))), (V.e (E.sc (S.dat (D.int .u32 vx)))), (V.e (E.sc (S.dat (D.int .u32 carry))))] (V.tup [(E.sc (S.dat (D.int .u32 r))), (E.sc (S.dat (D.int .u32 r1)))]) []) ∧
          (0 ≤ t25 ∧ t25 < (out.length : Int)) ∧
          (J0 (out.set (t25).toNat [(D.int .u32 r)]) (IntKind.i64.wrap (t25 + (1 : Int))) r1 ∧ μ0 (out.set (t25).toNat [(D.int .u32 r)]) (IntKind.i64.wrap (t25 + (1 : Int))) r1 < μ0 out t25 carry))) ∧
        ((decide (t25 < (a.length : Int))) = false →
          ∃ (vx2 : Int) (r2 : Int) (r3 : Int),
          (0 ≤ t25 ∧ t25 < (b.length : Int)) ∧
          (b[(t25).toNat]? = some [(D.int .u32 vx2)]) ∧
          (FnD prog 155 [(V.e (E.sc (S.dat (D.int .u32 vx2)))), (V.e (E.sc (S.dat (D.int .u32 (0 : Int))))), (V.e (E.sc (S.dat (D.int .u32 carry))))] (V.tup [(E.sc (S.dat (D.int .u32 r2))), (E.sc (S.dat (D.int .u32 r3)))]) []) ∧
          (0 ≤ t25 ∧ t25 < (out.length : Int)) ∧
          (J0 (out.set (t25).toNat [(D.int .u32 r2)]) (IntKind.i64.wrap (t25 + (1 : Int))) r3 ∧ μ0 (out.set (t25).toNat [(D.int .u32 r2)]) (IntKind.i64.wrap (t25 + (1 : Int))) r3 < μ0 out t25 carry))) ∧
      ((decide (t25 < (b.length : Int))) = false →
        (0 ≤ (b.length : Int) ∧ (b.length : Int) < (out.length : Int)) ∧
        (R (V.e (E.sc (S.dat (D.sl (out.set ((b.length : Int)).toNat [(D.int .u32 carry)]))))) []))))) ∧
  ((decide ((a.length : Int) < (b.length : Int))) = false →
    (0 ≤ (IntKind.i64.wrap ((a.length : Int) + (1 : Int))) ∧ (IntKind.i64.wrap ((a.length : Int) + (1 : Int))) ≤ (IntKind.i64.wrap ((a.length : Int) + (1 : Int))) ∧ (IntKind.i64.wrap ((a.length : Int) + (1 : Int))) * (4 : Nat) ≤ 281474976710656) ∧
    ((∀ y ∈ a, y.length = 1) ∧
    (∃ (J1 : (List (List D)) → Int → Int → Prop) (μ1 : (List (List D)) → Int → Int → Nat),
    J1 (a.take (List.replicate ((IntKind.i64.wrap ((a.length : Int) + (1 : Int)))).toNat [(D.int .u32 (0 : Int))]).length ++ (List.replicate ((IntKind.i64.wrap ((a.length : Int) + (1 : Int)))).toNat [(D.int .u32 (0 : Int))]).drop a.length) (0 : Int) (0 : Int) ∧ ∀ (out1 : List (List D)) (t251 : Int) (carry1 : Int), J1 out1 t251 carry1 →
      ((decide (t251 < (a.length : Int))) = true →
        ((decide (t251 < (b.length : Int))) = true →
          ∃ (vx3 : Int),
          (0 ≤ t251 ∧ t251 < (b.length : Int)) ∧
          (b[(t251).toNat]? = some [(D.int .u32 vx3)]) ∧
          (∃ (vx4 : Int) (r4 : Int) (r5 : Int),
          (0 ≤ t251 ∧ t251 < (a.length : Int)) ∧
          (a[(t251).toNat]? = some [(D.int .u32 vx4)]) ∧
          (FnD prog 155 [(V.e (E.sc (S.dat (D.int .u32 vx4)))), (V.e (E.sc (S.dat (D.int .u32 vx3)))), (V.e (E.sc (S.dat (D.int .u32 carry1))))] (V.tup [(E.sc (S.dat (D.int .u32 r4))), (E.sc (S.dat (D.int .u32 r5)))]) []) ∧
          (0 ≤ t251 ∧ t251 < (out1.length : Int)) ∧
          (J1 (out1.set (t251).toNat [(D.int .u32 r4)]) (IntKind.i64.wrap (t251 + (1 : Int))) r5 ∧ μ1 (out1.set (t251).toNat [(D.int .u32 r4)]) (IntKind.i64.wrap (t251 + (1 : Int))) r5 < μ1 out1 t251 carry1))) ∧
        ((decide (t251 < (b.length : Int))) = false →
          ∃ (vx5 : Int) (r6 : Int) (r7 : Int),
          (0 ≤ t251 ∧ t251 < (a.length : Int)) ∧
          (a[(t251).toNat]? = some [(D.int .u32 vx5)]) ∧
          (FnD prog 155 [(V.e (E.sc (S.dat (D.int .u32 vx5)))), (V.e (E.sc (S.dat (D.int .u32 (0 : Int))))), (V.e (E.sc (S.dat (D.int .u32 carry1))))] (V.tup [(E.sc (S.dat (D.int .u32 r6))), (E.sc (S.dat (D.int .u32 r7)))]) []) ∧
          (0 ≤ t251 ∧ t251 < (out1.length : Int)) ∧
          (J1 (out1.set (t251).toNat [(D.int .u32 r6)]) (IntKind.i64.wrap (t251 + (1 : Int))) r7 ∧ μ1 (out1.set (t251).toNat [(D.int .u32 r6)]) (IntKind.i64.wrap (t251 + (1 : Int))) r7 < μ1 out1 t251 carry1))) ∧
      ((decide (t251 < (a.length : Int))) = false →
        (0 ≤ (a.length : Int) ∧ (a.length : Int) < (out1.length : Int)) ∧
        (R (V.e (E.sc (S.dat (D.sl (out1.set ((a.length : Int)).toNat [(D.int .u32 carry1)]))))) [])))))

theorem vc145_ok (a : List (List D)) (b : List (List D)) {R : V → Heap → Prop} (h : vc145 a b R) : FnG prog 145 [(V.e (E.sc (S.dat (D.sl a)))), (V.e (E.sc (S.dat (D.sl b))))] [] R := by
  unfold vc145 at h
  refine FnG.of (m := 56) (c := _) func145 rfl (by kernel_rfl) ntmps145 (Nat.le_of_ble_eq_true rfl) ?_
  refine GoJ.seq ?_
  refine GoJ.regV hT (cnt := 0) (ins := [o0]) (live := [0, 1]) (ids := []) (σ' := ⟨[(0, (V.e (E.sc (S.dat (D.sl a))))), (1, (V.e (E.sc (S.dat (D.sl b)))))], [], 56⟩) (obs := []) (by kernel_rfl) (by kernel_rfl) (by kernel_rfl) trivial ?_
  refine GoJ.seq ?_
  refine GoJ.seq ?_
  refine GoJ.regV hT (cnt := 0) (ins := [o0, o0, o0, o0, o0]) (live := [0, 1, 13]) (ids := []) (σ' := ⟨[(0, (V.e (E.sc (S.dat (D.sl a))))), (1, (V.e (E.sc (S.dat (D.sl b))))), (13, (V.e (E.sc (S.dat (D.bool (decide ((a.length : Int) < (b.length : Int))))))))], [], 56⟩) (obs := []) (by kernel_rfl) (by kernel_rfl) (by kernel_rfl) trivial ?_
  refine GoJ.cond (t := (decide ((a.length : Int) < (b.length : Int)))) (by kernel_rfl) (fun h1 => ?_) (fun h1 => ?_)
  · replace h := h.1 h1
    refine GoJ.regV hT (cnt := 0) (ins := [o0, o0, o0, o0]) (live := [0, 1]) (ids := []) (σ' := ⟨[(0, (V.e (E.sc (S.dat (D.sl b))))), (1, (V.e (E.sc (S.dat (D.sl a)))))], [], 56⟩) (obs := []) (by kernel_rfl) (by kernel_rfl) (by kernel_rfl) trivial ?_
    refine GoJ.seq ?_
    obtain ⟨h2, h⟩ := h
    refine GoJ.regV hT (cnt := 1) (ins := [o0, o0, o0, (Or.none, 0, 1), o0]) (live := [0, 1, 5]) (ids := [0]) (σ' := ⟨[(0, (V.e (E.sc (S.dat (D.sl b))))), (1, (V.e (E.sc (S.dat (D.sl a))))), (5, (V.e (E.sc (S.ref 0))))], [(some (Obj.arr 1 (List.replicate ((IntKind.i64.wrap ((b.length : Int) + (1 : Int)))).toNat [(D.int .u32 (0 : Int))])))], 56⟩) (obs := [0 ≤ (IntKind.i64.wrap ((b.length : Int) + (1 : Int))) ∧ (IntKind.i64.wrap ((b.length : Int) + (1 : Int))) ≤ (IntKind.i64.wrap ((b.length : Int) + (1 : Int))) ∧ (IntKind.i64.wrap ((b.length : Int) + (1 : Int))) * (4 : Nat) ≤ 281474976710656]) (by kernel_rfl) (by kernel_rfl) (by kernel_rfl) ⟨h2, trivial⟩ ?_
    refine GoJ.seq ?_
    obtain ⟨h3, h⟩ := h
    refine GoJ.regV hT (cnt := 0) (ins := [o0, o0, o0]) (live := [0, 1, 5]) (ids := [0]) (σ' := ⟨[(0, (V.e (E.sc (S.dat (D.sl b))))), (1, (V.e (E.sc (S.dat (D.sl a))))), (5, (V.e (E.sc (S.ref 0))))], [(some (Obj.arr 1 (b.take (List.replicate ((IntKind.i64.wrap ((b.length : Int) + (1 : Int)))).toNat [(D.int .u32 (0 : Int))]).length ++ (List.replicate ((IntKind.i64.wrap ((b.length : Int) + (1 : Int)))).toNat [(D.int .u32 (0 : Int))]).drop b.length)))], 56⟩) (obs := [∀ y ∈ b, y.length = 1]) (by kernel_rfl) (by kernel_rfl) (by kernel_rfl) ⟨h3, trivial⟩ ?_
    refine GoJ.seq ?_
    refine GoJ.regV hT (cnt := 0) (ins := [o0]) (live := [0, 1, 5, 6]) (ids := [0]) (σ' := ⟨[(0, (V.e (E.sc (S.dat (D.sl b))))), (1, (V.e (E.sc (S.dat (D.sl a))))), (5, (V.e (E.sc (S.ref 0)))), (6, (V.e (E.sc (S.dat (D.int .u32 (0 : Int))))))], [(some (Obj.arr 1 (b.take (List.replicate ((IntKind.i64.wrap ((b.length : Int) + (1 : Int)))).toNat [(D.int .u32 (0 : Int))]).length ++ (List.replicate ((IntKind.i64.wrap ((b.length : Int) + (1 : Int)))).toNat [(D.int .u32 (0 : Int))]).drop b.length)))], 56⟩) (obs := []) (by kernel_rfl) (by kernel_rfl) (by kernel_rfl) trivial ?_
    refine GoJ.seq ?_
    refine GoJ.seq ?_
    refine GoJ.regV hT (cnt := 0) (ins := [o0, o0, o0]) (live := [0, 1, 5, 6, 24, 25]) (ids := [0]) (σ' := ⟨[(0, (V.e (E.sc (S.dat (D.sl b))))), (1, (V.e (E.sc (S.dat (D.sl a))))), (5, (V.e (E.sc (S.ref 0)))), (6, (V.e (E.sc (S.dat (D.int .u32 (0 : Int)))))), (24, (V.e (E.sc (S.dat (D.int .i64 (b.length : Int)))))), (25, (V.e (E.sc (S.dat (D.int .i64 (0 : Int))))))], [(some (Obj.arr 1 (b.take (List.replicate ((IntKind.i64.wrap ((b.length : Int) + (1 : Int)))).toNat [(D.int .u32 (0 : Int))]).length ++ (List.replicate ((IntKind.i64.wrap ((b.length : Int) + (1 : Int)))).toNat [(D.int .u32 (0 : Int))]).drop b.length)))], 56⟩) (obs := []) (by kernel_rfl) (by kernel_rfl) (by kernel_rfl) trivial ?_
    refine GoJ.block ?_
    obtain ⟨J0, μ0, hJ0, h⟩ := h
    refine GoJ.loop (X := (List (List D)) × Int × Int) (fun x => (fun (out : List (List D)) (t25 : Int) (carry : Int) => (⟨[(0, (V.e (E.sc (S.dat (D.sl b))))), (1, (V.e (E.sc (S.dat (D.sl a))))), (5, (V.e (E.sc (S.ref 0)))), (6, (V.e (E.sc (S.dat (D.int .u32 carry))))), (24, (V.e (E.sc (S.dat (D.int .i64 (b.length : Int)))))), (25, (V.e (E.sc (S.dat (D.int .i64 t25)))))], [(some (Obj.arr 1 out))], 56⟩ : St)) (x.1) (x.2.1) (x.2.2)) (fun x => J0 (x.1) (x.2.1) (x.2.2)) (fun x => μ0 (x.1) (x.2.1) (x.2.2)) ((b.take (List.replicate ((IntKind.i64.wrap ((b.length : Int) + (1 : Int)))).toNat [(D.int .u32 (0 : Int))]).length ++ (List.replicate ((IntKind.i64.wrap ((b.length : Int) + (1 : Int)))).toNat [(D.int .u32 (0 : Int))]).drop b.length), (0 : Int), (0 : Int)) hJ0 ?_
    rintro ⟨out, t25, carry⟩ hJ0 ih0
    replace h := h out t25 carry hJ0
    refine GoJ.seq ?_
    refine GoJ.regV hT (cnt := 0) (ins := [o0]) (live := [0, 1, 5, 6, 24, 25, 26]) (ids := [0]) (σ' := ⟨[(0, (V.e (E.sc (S.dat (D.sl b))))), (1, (V.e (E.sc (S.dat (D.sl a))))), (5, (V.e (E.sc (S.ref 0)))), (6, (V.e (E.sc (S.dat (D.int .u32 carry))))), (24, (V.e (E.sc (S.dat (D.int .i64 (b.length : Int)))))), (25, (V.e (E.sc (S.dat (D.int .i64 t25))))), (26, (V.e (E.sc (S.dat (D.bool (decide (t25 < (b.length : Int))))))))], [(some (Obj.arr 1 out))], 56⟩) (obs := []) (by kernel_rfl) (by kernel_rfl) (by kernel_rfl) trivial ?_
    refine GoJ.seq ?_
    refine GoJ.cond (t := (decide (t25 < (b.length : Int)))) (by kernel_rfl) (fun h4 => ?_) (fun h4 => ?_)
    · replace h := h.1 h4
      refine GoJ.skip ?_
      refine GoJ.seq ?_
      refine GoJ.block ?_
      refine GoJ.seq ?_
      refine GoJ.regV hT (cnt := 0) (ins := [o0, o0]) (live := [0, 1, 5, 6, 7, 24, 25]) (ids := [0]) (σ' := ⟨[(0, (V.e (E.sc (S.dat (D.sl b))))), (1, (V.e (E.sc (S.dat (D.sl a))))), (5, (V.e (E.sc (S.ref 0)))), (6, (V.e (E.sc (S.dat (D.int .u32 carry))))), (7, (V.e (E.sc (S.dat (D.int .i64 t25))))), (24, (V.e (E.sc (S.dat (D.int .i64 (b.length : Int)))))), (25, (V.e (E.sc (S.dat (D.int .i64 t25)))))], [(some (Obj.arr 1 out))], 56⟩) (obs := []) (by kernel_rfl) (by kernel_rfl) (by kernel_rfl) trivial ?_
      refine GoJ.seq ?_
      refine GoJ.regV hT (cnt := 0) (ins := [o0]) (live := [0, 1, 5, 6, 7, 8, 24, 25]) (ids := [0]) (σ' := ⟨[(0, (V.e (E.sc (S.dat (D.sl b))))), (1, (V.e (E.sc (S.dat (D.sl a))))), (5, (V.e (E.sc (S.ref 0)))), (6, (V.e (E.sc (S.dat (D.int .u32 carry))))), (7, (V.e (E.sc (S.dat (D.int .i64 t25))))), (8, (V.e (E.sc (S.dat (D.int .u32 (0 : Int)))))), (24, (V.e (E.sc (S.dat (D.int .i64 (b.length : Int)))))), (25, (V.e (E.sc (S.dat (D.int .i64 t25)))))], [(some (Obj.arr 1 out))], 56⟩) (obs := []) (by kernel_rfl) (by kernel_rfl) (by kernel_rfl) trivial ?_
      refine GoJ.seq ?_
      refine GoJ.seq ?_
      refine GoJ.regV hT (cnt := 0) (ins := [o0, o0, o0, o0]) (live := [0, 1, 5, 6, 7, 8, 24, 25, 31]) (ids := [0]) (σ' := ⟨[(0, (V.e (E.sc (S.dat (D.sl b))))), (1, (V.e (E.sc (S.dat (D.sl a))))), (5, (V.e (E.sc (S.ref 0)))), (6, (V.e (E.sc (S.dat (D.int .u32 carry))))), (7, (V.e (E.sc (S.dat (D.int .i64 t25))))), (8, (V.e (E.sc (S.dat (D.int .u32 (0 : Int)))))), (24, (V.e (E.sc (S.dat (D.int .i64 (b.length : Int)))))), (25, (V.e (E.sc (S.dat (D.int .i64 t25))))), (31, (V.e (E.sc (S.dat (D.bool (decide (t25 < (a.length : Int))))))))], [(some (Obj.arr 1 out))], 56⟩) (obs := []) (by kernel_rfl) (by kernel_rfl) (by kernel_rfl) trivial ?_
      refine GoJ.cond (t := (decide (t25 < (a.length : Int)))) (by kernel_rfl) (fun h5 => ?_) (fun h5 => ?_)
      · replace h := h.1 h5
        obtain ⟨vx, h6, h7, h⟩ := h
        refine GoJ.regV hT (cnt := 0) (ins := [o0, o0, o0, ((Or.cells [(D.int .u32 vx)]), 0, 0), o0]) (live := [0, 1, 5, 6, 7, 8, 24, 25]) (ids := [0]) (σ' := ⟨[(0, (V.e (E.sc (S.dat (D.sl b))))), (1, (V.e (E.sc (S.dat (D.sl a))))), (5, (V.e (E.sc (S.ref 0)))), (6, (V.e (E.sc (S.dat (D.int .u32 carry))))), (7, (V.e (E.sc (S.dat (D.int .i64 t25))))), (8, (V.e (E.sc (S.dat (D.int .u32 vx))))), (24, (V.e (E.sc (S.dat (D.int .i64 (b.length : Int)))))), (25, (V.e (E.sc (S.dat (D.int .i64 t25)))))], [(some (Obj.arr 1 out))], 56⟩) (obs := [0 ≤ t25 ∧ t25 < (a.length : Int), a[(t25).toNat]? = some [(D.int .u32 vx)]]) (by kernel_rfl) (by kernel_rfl) (by kernel_rfl) ⟨h6, h7, trivial⟩ ?_
        obtain ⟨vx1, r, r1, h8, h9, h10, h11, h⟩ := h
        refine GoJ.regV hT (cnt := 0) (ins := [o0, o0, o0, o0, o0, ((Or.cells [(D.int .u32 vx1)]), 0, 0), o0, o0, ((Or.call (V.tup [(E.sc (S.dat (D.int .u32 r))), (E.sc (S.dat (D.int .u32 r1)))]) [] []), 0, 0), o0, o0, o0, o0, o0, o0]) (live := [0, 1, 5, 6, 24, 25]) (ids := [0]) (σ' := ⟨[(0, (V.e (E.sc (S.dat (D.sl b))))), (1, (V.e (E.sc (S.dat (D.sl a))))), (5, (V.e (E.sc (S.ref 0)))), (6, (V.e (E.sc (S.dat (D.int .u32 r1))))), (24, (V.e (E.sc (S.dat (D.int .i64 (b.length : Int)))))), (25, (V.e (E.sc (S.dat (D.int .i64 t25)))))], [(some (Obj.arr 1 (out.set (t25).toNat [(D.int .u32 r)])))], 56⟩) (obs := [0 ≤ t25 ∧ t25 < (b.length : Int), b[(t25).toNat]? = some [(D.int .u32 vx1)], FnD prog 155 [(V.e (E.sc (S.dat (D.int .u32 vx1)))), (V.e (E.sc (S.dat (D.int .u32 vx)))), (V.e (E.sc (S.dat (D.int .u32 carry))))] (V.tup [(E.sc (S.dat (D.int .u32 r))), (E.sc (S.dat (D.int .u32 r1)))]) [], 0 ≤ t25 ∧ t25 < (out.length : Int)]) (by kernel_rfl) (by kernel_rfl) (by kernel_rfl) ⟨h8, h9, h10, h11, trivial⟩ ?_
        refine GoJ.inBlock ?_
        refine GoJ.regV hT (cnt := 0) (ins := [o0, o0]) (live := [0, 1, 5, 6, 24, 25]) (ids := [0]) (σ' := ⟨[(0, (V.e (E.sc (S.dat (D.sl b))))), (1, (V.e (E.sc (S.dat (D.sl a))))), (5, (V.e (E.sc (S.ref 0)))), (6, (V.e (E.sc (S.dat (D.int .u32 r1))))), (24, (V.e (E.sc (S.dat (D.int .i64 (b.length : Int)))))), (25, (V.e (E.sc (S.dat (D.int .i64 (IntKind.i64.wrap (t25 + (1 : Int))))))))], [(some (Obj.arr 1 (out.set (t25).toNat [(D.int .u32 r)])))], 56⟩) (obs := []) (by kernel_rfl) (by kernel_rfl) (by kernel_rfl) trivial ?_
        exact ih0 ((out.set (t25).toNat [(D.int .u32 r)]), (IntKind.i64.wrap (t25 + (1 : Int))), r1) h.1 h.2
      · replace h := h.2 h5
        refine GoJ.skip ?_
        obtain ⟨vx2, r2, r3, h12, h13, h14, h15, h⟩ := h
        refine GoJ.regV hT (cnt := 0) (ins := [o0, o0, o0, o0, o0, ((Or.cells [(D.int .u32 vx2)]), 0, 0), o0, o0, ((Or.call (V.tup [(E.sc (S.dat (D.int .u32 r2))), (E.sc (S.dat (D.int .u32 r3)))]) [] []), 0, 0), o0, o0, o0, o0, o0, o0]) (live := [0, 1, 5, 6, 24, 25]) (ids := [0]) (σ' := ⟨[(0, (V.e (E.sc (S.dat (D.sl b))))), (1, (V.e (E.sc (S.dat (D.sl a))))), (5, (V.e (E.sc (S.ref 0)))), (6, (V.e (E.sc (S.dat (D.int .u32 r3))))), (24, (V.e (E.sc (S.dat (D.int .i64 (b.length : Int)))))), (25, (V.e (E.sc (S.dat (D.int .i64 t25)))))], [(some (Obj.arr 1 (out.set (t25).toNat [(D.int .u32 r2)])))], 56⟩) (obs := [0 ≤ t25 ∧ t25 < (b.length : Int), b[(t25).toNat]? = some [(D.int .u32 vx2)], FnD prog 155 [(V.e (E.sc (S.dat (D.int .u32 vx2)))), (V.e (E.sc (S.dat (D.int .u32 (0 : Int))))), (V.e (E.sc (S.dat (D.int .u32 carry))))] (V.tup [(E.sc (S.dat (D.int .u32 r2))), (E.sc (S.dat (D.int .u32 r3)))]) [], 0 ≤ t25 ∧ t25 < (out.length : Int)]) (by kernel_rfl) (by kernel_rfl) (by kernel_rfl) ⟨h12, h13, h14, h15, trivial⟩ ?_
        refine GoJ.inBlock ?_
        refine GoJ.regV hT (cnt := 0) (ins := [o0, o0]) (live := [0, 1, 5, 6, 24, 25]) (ids := [0]) (σ' := ⟨[(0, (V.e (E.sc (S.dat (D.sl b))))), (1, (V.e (E.sc (S.dat (D.sl a))))), (5, (V.e (E.sc (S.ref 0)))), (6, (V.e (E.sc (S.dat (D.int .u32 r3))))), (24, (V.e (E.sc (S.dat (D.int .i64 (b.length : Int)))))), (25, (V.e (E.sc (S.dat (D.int .i64 (IntKind.i64.wrap (t25 + (1 : Int))))))))], [(some (Obj.arr 1 (out.set (t25).toNat [(D.int .u32 r2)])))], 56⟩) (obs := []) (by kernel_rfl) (by kernel_rfl) (by kernel_rfl) trivial ?_
        exact ih0 ((out.set (t25).toNat [(D.int .u32 r2)]), (IntKind.i64.wrap (t25 + (1 : Int))), r3) h.1 h.2
    · replace h := h.2 h4
      refine GoJ.exit rfl ?_
      refine GoJ.seq ?_
      obtain ⟨h16, h⟩ := h
      refine GoJ.regV hT (cnt := 0) (ins := [o0, o0, o0, o0, o0, o0]) (live := [5]) (ids := [0]) (σ' := ⟨[(5, (V.e (E.sc (S.ref 0))))], [(some (Obj.arr 1 (out.set ((b.length : Int)).toNat [(D.int .u32 carry)])))], 56⟩) (obs := [0 ≤ (b.length : Int) ∧ (b.length : Int) < (out.length : Int)]) (by kernel_rfl) (by kernel_rfl) (by kernel_rfl) ⟨h16, trivial⟩ ?_
      refine GoJ.seq ?_
      refine GoJ.regV hT (cnt := 0) (ins := [o0, o0]) (live := [4]) (ids := [0]) (σ' := ⟨[(4, (V.e (E.sc (S.ref 0))))], [(some (Obj.arr 1 (out.set ((b.length : Int)).toNat [(D.int .u32 carry)])))], 56⟩) (obs := []) (by kernel_rfl) (by kernel_rfl) (by kernel_rfl) trivial ?_
      refine GoJ.wk (xfreeze_ok (ids := [0]) (σ' := ⟨[(4, (V.e (E.sc (S.dat (D.sl (out.set ((b.length : Int)).toNat [(D.int .u32 carry)]))))))], [none], 56⟩) (by kernel_rfl)) ?_
      exact GoJ.retV hT func145 (ids := []) (r := (V.e (E.sc (S.dat (D.sl (out.set ((b.length : Int)).toNat [(D.int .u32 carry)])))))) (r' := (V.e (E.sc (S.dat (D.sl (out.set ((b.length : Int)).toNat [(D.int .u32 carry)])))))) (σ' := ⟨[], [], 56⟩) (by kernel_rfl) (by kernel_rfl) (by kernel_rfl) (by kernel_rfl) (by kernel_rfl) h
  · replace h := h.2 h1
    refine GoJ.skip ?_
    refine GoJ.seq ?_
    obtain ⟨h17, h⟩ := h
    refine GoJ.regV hT (cnt := 1) (ins := [o0, o0, o0, (Or.none, 0, 1), o0]) (live := [0, 1, 5]) (ids := [0]) (σ' := ⟨[(0, (V.e (E.sc (S.dat (D.sl a))))), (1, (V.e (E.sc (S.dat (D.sl b))))), (5, (V.e (E.sc (S.ref 0))))], [(some (Obj.arr 1 (List.replicate ((IntKind.i64.wrap ((a.length : Int) + (1 : Int)))).toNat [(D.int .u32 (0 : Int))])))], 56⟩) (obs := [0 ≤ (IntKind.i64.wrap ((a.length : Int) + (1 : Int))) ∧ (IntKind.i64.wrap ((a.length : Int) + (1 : Int))) ≤ (IntKind.i64.wrap ((a.length : Int) + (1 : Int))) ∧ (IntKind.i64.wrap ((a.length : Int) + (1 : Int))) * (4 : Nat) ≤ 281474976710656]) (by kernel_rfl) (by kernel_rfl) (by kernel_rfl) ⟨h17, trivial⟩ ?_
    refine GoJ.seq ?_
    obtain ⟨h18, h⟩ := h
    refine GoJ.regV hT (cnt := 0) (ins := [o0, o0, o0]) (live := [0, 1, 5]) (ids := [0]) (σ' := ⟨[(0, (V.e (E.sc (S.dat (D.sl a))))), (1, (V.e (E.sc (S.dat (D.sl b))))), (5, (V.e (E.sc (S.ref 0))))], [(some (Obj.arr 1 (a.take (List.replicate ((IntKind.i64.wrap ((a.length : Int) + (1 : Int)))).toNat [(D.int .u32 (0 : Int))]).length ++ (List.replicate ((IntKind.i64.wrap ((a.length : Int) + (1 : Int)))).toNat [(D.int .u32 (0 : Int))]).drop a.length)))], 56⟩) (obs := [∀ y ∈ a, y.length = 1]) (by kernel_rfl) (by kernel_rfl) (by kernel_rfl) ⟨h18, trivial⟩ ?_
    refine GoJ.seq ?_
    refine GoJ.regV hT (cnt := 0) (ins := [o0]) (live := [0, 1, 5, 6]) (ids := [0]) (σ' := ⟨[(0, (V.e (E.sc (S.dat (D.sl a))))), (1, (V.e (E.sc (S.dat (D.sl b))))), (5, (V.e (E.sc (S.ref 0)))), (6, (V.e (E.sc (S.dat (D.int .u32 (0 : Int))))))], [(some (Obj.arr 1 (a.take (List.replicate ((IntKind.i64.wrap ((a.length : Int) + (1 : Int)))).toNat [(D.int .u32 (0 : Int))]).length ++ (List.replicate ((IntKind.i64.wrap ((a.length : Int) + (1 : Int)))).toNat [(D.int .u32 (0 : Int))]).drop a.length)))], 56⟩) (obs := []) (by kernel_rfl) (by kernel_rfl) (by kernel_rfl) trivial ?_
    refine GoJ.seq ?_
    refine GoJ.seq ?_
    refine GoJ.regV hT (cnt := 0) (ins := [o0, o0, o0]) (live := [0, 1, 5, 6, 24, 25]) (ids := [0]) (σ' := ⟨[(0, (V.e (E.sc (S.dat (D.sl a))))), (1, (V.e (E.sc (S.dat (D.sl b))))), (5, (V.e (E.sc (S.ref 0)))), (6, (V.e (E.sc (S.dat (D.int .u32 (0 : Int)))))), (24, (V.e (E.sc (S.dat (D.int .i64 (a.length : Int)))))), (25, (V.e (E.sc (S.dat (D.int .i64 (0 : Int))))))], [(some (Obj.arr 1 (a.take (List.replicate ((IntKind.i64.wrap ((a.length : Int) + (1 : Int)))).toNat [(D.int .u32 (0 : Int))]).length ++ (List.replicate ((IntKind.i64.wrap ((a.length : Int) + (1 : Int)))).toNat [(D.int .u32 (0 : Int))]).drop a.length)))], 56⟩) (obs := []) (by kernel_rfl) (by kernel_rfl) (by kernel_rfl) trivial ?_
    refine GoJ.block ?_
    obtain ⟨J1, μ1, hJ1, h⟩ := h
    refine GoJ.loop (X := (List (List D)) × Int × Int) (fun x => (fun (out1 : List (List D)) (t251 : Int) (carry1 : Int) => (⟨[(0, (V.e (E.sc (S.dat (D.sl a))))), (1, (V.e (E.sc (S.dat (D.sl b))))), (5, (V.e (E.sc (S.ref 0)))), (6, (V.e (E.sc (S.dat (D.int .u32 carry1))))), (24, (V.e (E.sc (S.dat (D.int .i64 (a.length : Int)))))), (25, (V.e (E.sc (S.dat (D.int .i64 t251)))))], [(some (Obj.arr 1 out1))], 56⟩ : St)) (x.1) (x.2.1) (x.2.2)) (fun x => J1 (x.1) (x.2.1) (x.2.2)) (fun x => μ1 (x.1) (x.2.1) (x.2.2)) ((a.take (List.replicate ((IntKind.i64.wrap ((a.length : Int) + (1 : Int)))).toNat [(D.int .u32 (0 : Int))]).length ++ (List.replicate ((IntKind.i64.wrap ((a.length : Int) + (1 : Int)))).toNat [(D.int .u32 (0 : Int))]).drop a.length), (0 : Int), (0 : Int)) hJ1 ?_
    rintro ⟨out1, t251, carry1⟩ hJ1 ih1
    replace h := h out1 t251 carry1 hJ1
    refine GoJ.seq ?_
    refine GoJ.regV hT (cnt := 0) (ins := [o0]) (live := [0, 1, 5, 6, 24, 25, 26]) (ids := [0]) (σ' := ⟨[(0, (V.e (E.sc (S.dat (D.sl a))))), (1, (V.e (E.sc (S.dat (D.sl b))))), (5, (V.e (E.sc (S.ref 0)))), (6, (V.e (E.sc (S.dat (D.int .u32 carry1))))), (24, (V.e (E.sc (S.dat (D.int .i64 (a.length : Int)))))), (25, (V.e (E.sc (S.dat (D.int .i64 t251))))), (26, (V.e (E.sc (S.dat (D.bool (decide (t251 < (a.length : Int))))))))], [(some (Obj.arr 1 out1))], 56⟩) (obs := []) (by kernel_rfl) (by kernel_rfl) (by kernel_rfl) trivial ?_
    refine GoJ.seq ?_
    refine GoJ.cond (t := (decide (t251 < (a.length : Int)))) (by kernel_rfl) (fun h19 => ?_) (fun h19 => ?_)
    · replace h := h.1 h19
      refine GoJ.skip ?_
      refine GoJ.seq ?_
      refine GoJ.block ?_
      refine GoJ.seq ?_
      refine GoJ.regV hT (cnt := 0) (ins := [o0, o0]) (live := [0, 1, 5, 6, 7, 24, 25]) (ids := [0]) (σ' := ⟨[(0, (V.e (E.sc (S.dat (D.sl a))))), (1, (V.e (E.sc (S.dat (D.sl b))))), (5, (V.e (E.sc (S.ref 0)))), (6, (V.e (E.sc (S.dat (D.int .u32 carry1))))), (7, (V.e (E.sc (S.dat (D.int .i64 t251))))), (24, (V.e (E.sc (S.dat (D.int .i64 (a.length : Int)))))), (25, (V.e (E.sc (S.dat (D.int .i64 t251)))))], [(some (Obj.arr 1 out1))], 56⟩) (obs := []) (by kernel_rfl) (by kernel_rfl) (by kernel_rfl) trivial ?_
      refine GoJ.seq ?_
      refine GoJ.regV hT (cnt := 0) (ins := [o0]) (live := [0, 1, 5, 6, 7, 8, 24, 25]) (ids := [0]) (σ' := ⟨[(0, (V.e (E.sc (S.dat (D.sl a))))), (1, (V.e (E.sc (S.dat (D.sl b))))), (5, (V.e (E.sc (S.ref 0)))), (6, (V.e (E.sc (S.dat (D.int .u32 carry1))))), (7, (V.e (E.sc (S.dat (D.int .i64 t251))))), (8, (V.e (E.sc (S.dat (D.int .u32 (0 : Int)))))), (24, (V.e (E.sc (S.dat (D.int .i64 (a.length : Int)))))), (25, (V.e (E.sc (S.dat (D.int .i64 t251)))))], [(some (Obj.arr 1 out1))], 56⟩) (obs := []) (by kernel_rfl) (by kernel_rfl) (by kernel_rfl) trivial ?_
      refine GoJ.seq ?_
      refine GoJ.seq ?_
      refine GoJ.regV hT (cnt := 0) (ins := [o0, o0, o0, o0]) (live := [0, 1, 5, 6, 7, 8, 24, 25, 31]) (ids := [0]) (σ' := ⟨[(0, (V.e (E.sc (S.dat (D.sl a))))), (1, (V.e (E.sc (S.dat (D.sl b))))), (5, (V.e (E.sc (S.ref 0)))), (6, (V.e (E.sc (S.dat (D.int .u32 carry1))))), (7, (V.e (E.sc (S.dat (D.int .i64 t251))))), (8, (V.e (E.sc (S.dat (D.int .u32 (0 : Int)))))), (24, (V.e (E.sc (S.dat (D.int .i64 (a.length : Int)))))), (25, (V.e (E.sc (S.dat (D.int .i64 t251))))), (31, (V.e (E.sc (S.dat (D.bool (decide (t251 < (b.length : Int))))))))], [(some (Obj.arr 1 out1))], 56⟩) (obs := []) (by kernel_rfl) (by kernel_rfl) (by kernel_rfl) trivial ?_
      refine GoJ.cond (t := (decide (t251 < (b.length : Int)))) (by kernel_rfl) (fun h20 => ?_) (fun h20 => ?_)
      · replace h := h.1 h20
        obtain ⟨vx3, h21, h22, h⟩ := h
        refine GoJ.regV hT (cnt := 0) (ins := [o0, o0, o0, ((Or.cells [(D.int .u32 vx3)]), 0, 0), o0]) (live := [0, 1, 5, 6, 7, 8, 24, 25]) (ids := [0]) (σ' := ⟨[(0, (V.e (E.sc (S.dat (D.sl a))))), (1, (V.e (E.sc (S.dat (D.sl b))))), (5, (V.e (E.sc (S.ref 0)))), (6, (V.e (E.sc (S.dat (D.int .u32 carry1))))), (7, (V.e (E.sc (S.dat (D.int .i64 t251))))), (8, (V.e (E.sc (S.dat (D.int .u32 vx3))))), (24, (V.e (E.sc (S.dat (D.int .i64 (a.length : Int)))))), (25, (V.e (E.sc (S.dat (D.int .i64 t251)))))], [(some (Obj.arr 1 out1))], 56⟩) (obs := [0 ≤ t251 ∧ t251 < (b.length : Int), b[(t251).toNat]? = some [(D.int .u32 vx3)]]) (by kernel_rfl) (by kernel_rfl) (by kernel_rfl) ⟨h21, h22, trivial⟩ ?_
        obtain ⟨vx4, r4, r5, h23, h24, h25, h26, h⟩ := h
        refine GoJ.regV hT (cnt := 0) (ins := [o0, o0, o0, o0, o0, ((Or.cells [(D.int .u32 vx4)]), 0, 0), o0, o0, ((Or.call (V.tup [(E.sc (S.dat (D.int .u32 r4))), (E.sc (S.dat (D.int .u32 r5)))]) [] []), 0, 0), o0, o0, o0, o0, o0, o0]) (live := [0, 1, 5, 6, 24, 25]) (ids := [0]) (σ' := ⟨[(0, (V.e (E.sc (S.dat (D.sl a))))), (1, (V.e (E.sc (S.dat (D.sl b))))), (5, (V.e (E.sc (S.ref 0)))), (6, (V.e (E.sc (S.dat (D.int .u32 r5))))), (24, (V.e (E.sc (S.dat (D.int .i64 (a.length : Int)))))), (25, (V.e (E.sc (S.dat (D.int .i64 t251)))))], [(some (Obj.arr 1 (out1.set (t251).toNat [(D.int .u32 r4)])))], 56⟩) (obs := [0 ≤ t251 ∧ t251 < (a.length : Int), a[(t251).toNat]? = some [(D.int .u32 vx4)], FnD prog 155 [(V.e (E.sc (S.dat (D.int .u32 vx4)))), (V.e (E.sc (S.dat (D.int .u32 vx3)))), (V.e (E.sc (S.dat (D.int .u32 carry1))))] (V.tup [(E.sc (S.dat (D.int .u32 r4))), (E.sc (S.dat (D.int .u32 r5)))]) [], 0 ≤ t251 ∧ t251 < (out1.length : Int)]) (by kernel_rfl) (by kernel_rfl) (by kernel_rfl) ⟨h23, h24, h25, h26, trivial⟩ ?_
        refine GoJ.inBlock ?_
        refine GoJ.regV hT (cnt := 0) (ins := [o0, o0]) (live := [0, 1, 5, 6, 24, 25]) (ids := [0]) (σ' := ⟨[(0, (V.e (E.sc (S.dat (D.sl a))))), (1, (V.e (E.sc (S.dat (D.sl b))))), (5, (V.e (E.sc (S.ref 0)))), (6, (V.e (E.sc (S.dat (D.int .u32 r5))))), (24, (V.e (E.sc (S.dat (D.int .i64 (a.length : Int)))))), (25, (V.e (E.sc (S.dat (D.int .i64 (IntKind.i64.wrap (t251 + (1 : Int))))))))], [(some (Obj.arr 1 (out1.set (t251).toNat [(D.int .u32 r4)])))], 56⟩) (obs := []) (by kernel_rfl) (by kernel_rfl) (by kernel_rfl) trivial ?_
        exact ih1 ((out1.set (t251).toNat [(D.int .u32 r4)]), (IntKind.i64.wrap (t251 + (1 : Int))), r5) h.1 h.2
      · replace h := h.2 h20
        refine GoJ.skip ?_
        obtain ⟨vx5, r6, r7, h27, h28, h29, h30, h⟩ := h
        refine GoJ.regV hT (cnt := 0) (ins := [o0, o0, o0, o0, o0, ((Or.cells [(D.int .u32 vx5)]), 0, 0), o0, o0, ((Or.call (V.tup [(E.sc (S.dat (D.int .u32 r6))), (E.sc (S.dat (D.int .u32 r7)))]) [] []), 0, 0), o0, o0, o0, o0, o0, o0]) (live := [0, 1, 5, 6, 24, 25]) (ids := [0]) (σ' := ⟨[(0, (V.e (E.sc (S.dat (D.sl a))))), (1, (V.e (E.sc (S.dat (D.sl b))))), (5, (V.e (E.sc (S.ref 0)))), (6, (V.e (E.sc (S.dat (D.int .u32 r7))))), (24, (V.e (E.sc (S.dat (D.int .i64 (a.length : Int)))))), (25, (V.e (E.sc (S.dat (D.int .i64 t251)))))], [(some (Obj.arr 1 (out1.set (t251).toNat [(D.int .u32 r6)])))], 56⟩) (obs := [0 ≤ t251 ∧ t251 < (a.length : Int), a[(t251).toNat]? = some [(D.int .u32 vx5)], FnD prog 155 [(V.e (E.sc (S.dat (D.int .u32 vx5)))), (V.e (E.sc (S.dat (D.int .u32 (0 : Int))))), (V.e (E.sc (S.dat (D.int .u32 carry1))))] (V.tup [(E.sc (S.dat (D.int .u32 r6))), (E.sc (S.dat (D.int .u32 r7)))]) [], 0 ≤ t251 ∧ t251 < (out1.length : Int)]) (by kernel_rfl) (by kernel_rfl) (by kernel_rfl) ⟨h27, h28, h29, h30, trivial⟩ ?_
        refine GoJ.inBlock ?_
        refine GoJ.regV hT (cnt := 0) (ins := [o0, o0]) (live := [0, 1, 5, 6, 24, 25]) (ids := [0]) (σ' := ⟨[(0, (V.e (E.sc (S.dat (D.sl a))))), (1, (V.e (E.sc (S.dat (D.sl b))))), (5, (V.e (E.sc (S.ref 0)))), (6, (V.e (E.sc (S.dat (D.int .u32 r7))))), (24, (V.e (E.sc (S.dat (D.int .i64 (a.length : Int)))))), (25, (V.e (E.sc (S.dat (D.int .i64 (IntKind.i64.wrap (t251 + (1 : Int))))))))], [(some (Obj.arr 1 (out1.set (t251).toNat [(D.int .u32 r6)])))], 56⟩) (obs := []) (by kernel_rfl) (by kernel_rfl) (by kernel_rfl) trivial ?_
        exact ih1 ((out1.set (t251).toNat [(D.int .u32 r6)]), (IntKind.i64.wrap (t251 + (1 : Int))), r7) h.1 h.2
    · replace h := h.2 h19
      refine GoJ.exit rfl ?_
      refine GoJ.seq ?_
      obtain ⟨h31, h⟩ := h
      refine GoJ.regV hT (cnt := 0) (ins := [o0, o0, o0, o0, o0, o0]) (live := [5]) (ids := [0]) (σ' := ⟨[(5, (V.e (E.sc (S.ref 0))))], [(some (Obj.arr 1 (out1.set ((a.length : Int)).toNat [(D.int .u32 carry1)])))], 56⟩) (obs := [0 ≤ (a.length : Int) ∧ (a.length : Int) < (out1.length : Int)]) (by kernel_rfl) (by kernel_rfl) (by kernel_rfl) ⟨h31, trivial⟩ ?_
      refine GoJ.seq ?_
      refine GoJ.regV hT (cnt := 0) (ins := [o0, o0]) (live := [4]) (ids := [0]) (σ' := ⟨[(4, (V.e (E.sc (S.ref 0))))], [(some (Obj.arr 1 (out1.set ((a.length : Int)).toNat [(D.int .u32 carry1)])))], 56⟩) (obs := []) (by kernel_rfl) (by kernel_rfl) (by kernel_rfl) trivial ?_
      refine GoJ.wk (xfreeze_ok (ids := [0]) (σ' := ⟨[(4, (V.e (E.sc (S.dat (D.sl (out1.set ((a.length : Int)).toNat [(D.int .u32 carry1)]))))))], [none], 56⟩) (by kernel_rfl)) ?_
      exact GoJ.retV hT func145 (ids := []) (r := (V.e (E.sc (S.dat (D.sl (out1.set ((a.length : Int)).toNat [(D.int .u32 carry1)])))))) (r' := (V.e (E.sc (S.dat (D.sl (out1.set ((a.length : Int)).toNat [(D.int .u32 carry1)])))))) (σ' := ⟨[], [], 56⟩) (by kernel_rfl) (by kernel_rfl) (by kernel_rfl) (by kernel_rfl) (by kernel_rfl) h

/- f146 torsion/integer.compare -/
def vc146 (a : List (List D)) (b : List (List D)) (R : V → Heap → Prop) : Prop :=
  ∃ (r : Int),
  (FnD prog 156 [(V.e (E.sc (S.dat (D.int .i64 (a.length : Int))))), (V.e (E.sc (S.dat (D.int .i64 (b.length : Int)))))] (V.e (E.sc (S.dat (D.int .i64 r)))) []) ∧
  (((r != (0 : Int)) = true →
    R (V.e (E.sc (S.dat (D.int .i64 r)))) []) ∧
  ((r != (0 : Int)) = false →
    ∃ (J0 : Int → Prop) (μ0 : Int → Nat),
    J0 (IntKind.i64.wrap ((a.length : Int) - (1 : Int))) ∧ ∀ (i : Int), J0 i →
      ((decide (i ≥ (0 : Int))) = true →
        ∃ (vx : Int) (vx1 : Int) (r1 : Int),
        (0 ≤ i ∧ i < (a.length : Int)) ∧
        (a[(i).toNat]? = some [(D.int .u32 vx)]) ∧
        (0 ≤ i ∧ i < (b.length : Int)) ∧
        (b[(i).toNat]? = some [(D.int .u32 vx1)]) ∧
        (FnD prog 157 [(V.e (E.sc (S.dat (D.int .u32 vx)))), (V.e (E.sc (S.dat (D.int .u32 vx1))))] (V.e (E.sc (S.dat (D.int .i64 r1)))) []) ∧
        (((r1 != (0 : Int)) = true →
          R (V.e (E.sc (S.dat (D.int .i64 r1)))) []) ∧
        ((r1 != (0 : Int)) = false →
          J0 (IntKind.i64.wrap (i - (1 : Int))) ∧ μ0 (IntKind.i64.wrap (i - (1 : Int))) < μ0 i))) ∧
      ((decide (i ≥ (0 : Int))) = false →
        R (V.e (E.sc (S.dat (D.int .i64 (0 : Int))))) [])))

theorem vc146_ok (a : List (List D)) (b : List (List D)) {R : V → Heap → Prop} (h : vc146 a b R) : FnG prog 146 [(V.e (E.sc (S.dat (D.sl a)))), (V.e (E.sc (S.dat (D.sl b))))] [] R := by
  unfold vc146 at h
  refine FnG.of (m := 35) (c := _) func146 rfl (by kernel_rfl) ntmps146 (Nat.le_of_ble_eq_true rfl) ?_
  refine GoJ.seq ?_
  refine GoJ.regV hT (cnt := 0) (ins := [o0]) (live := [0, 1]) (ids := []) (σ' := ⟨[(0, (V.e (E.sc (S.dat (D.sl a))))), (1, (V.e (E.sc (S.dat (D.sl b)))))], [], 35⟩) (obs := []) (by kernel_rfl) (by kernel_rfl) (by kernel_rfl) trivial ?_
  refine GoJ.seq ?_
  refine GoJ.seq ?_
  obtain ⟨r, h1, h⟩ := h
  refine GoJ.regV hT (cnt := 0) (ins := [o0, o0, o0, o0, ((Or.call (V.e (E.sc (S.dat (D.int .i64 r)))) [] []), 0, 0), o0]) (live := [0, 1, 5]) (ids := []) (σ' := ⟨[(0, (V.e (E.sc (S.dat (D.sl a))))), (1, (V.e (E.sc (S.dat (D.sl b))))), (5, (V.e (E.sc (S.dat (D.int .i64 r)))))], [], 35⟩) (obs := [FnD prog 156 [(V.e (E.sc (S.dat (D.int .i64 (a.length : Int))))), (V.e (E.sc (S.dat (D.int .i64 (b.length : Int)))))] (V.e (E.sc (S.dat (D.int .i64 r)))) []]) (by kernel_rfl) (by kernel_rfl) (by kernel_rfl) ⟨h1, trivial⟩ ?_
  refine GoJ.seq ?_
  refine GoJ.regV hT (cnt := 0) (ins := [o0, o0]) (live := [0, 1, 5, 14]) (ids := []) (σ' := ⟨[(0, (V.e (E.sc (S.dat (D.sl a))))), (1, (V.e (E.sc (S.dat (D.sl b))))), (5, (V.e (E.sc (S.dat (D.int .i64 r))))), (14, (V.e (E.sc (S.dat (D.bool (r != (0 : Int)))))))], [], 35⟩) (obs := []) (by kernel_rfl) (by kernel_rfl) (by kernel_rfl) trivial ?_
  refine GoJ.cond (t := (r != (0 : Int))) (by kernel_rfl) (fun h2 => ?_) (fun h2 => ?_)
  · replace h := h.1 h2
    refine GoJ.seq ?_
    refine GoJ.regV hT (cnt := 0) (ins := [o0, o0]) (live := [4]) (ids := []) (σ' := ⟨[(4, (V.e (E.sc (S.dat (D.int .i64 r)))))], [], 35⟩) (obs := []) (by kernel_rfl) (by kernel_rfl) (by kernel_rfl) trivial ?_
    exact GoJ.retV hT func146 (ids := []) (r := (V.e (E.sc (S.dat (D.int .i64 r))))) (r' := (V.e (E.sc (S.dat (D.int .i64 r))))) (σ' := ⟨[], [], 35⟩) (by kernel_rfl) (by kernel_rfl) (by kernel_rfl) (by kernel_rfl) (by kernel_rfl) h
  · replace h := h.2 h2
    refine GoJ.skip ?_
    refine GoJ.seq ?_
    refine GoJ.seq ?_
    refine GoJ.regV hT (cnt := 0) (ins := [o0, o0, o0, o0]) (live := [0, 1, 6]) (ids := []) (σ' := ⟨[(0, (V.e (E.sc (S.dat (D.sl a))))), (1, (V.e (E.sc (S.dat (D.sl b))))), (6, (V.e (E.sc (S.dat (D.int .i64 (IntKind.i64.wrap ((a.length : Int) - (1 : Int))))))))], [], 35⟩) (obs := []) (by kernel_rfl) (by kernel_rfl) (by kernel_rfl) trivial ?_
    refine GoJ.block ?_
    obtain ⟨J0, μ0, hJ0, h⟩ := h
    refine GoJ.loop (X := Int) (fun x => (fun (i : Int) => (⟨[(0, (V.e (E.sc (S.dat (D.sl a))))), (1, (V.e (E.sc (S.dat (D.sl b))))), (6, (V.e (E.sc (S.dat (D.int .i64 i)))))], [], 35⟩ : St)) (x)) (fun x => J0 (x)) (fun x => μ0 (x)) ((IntKind.i64.wrap ((a.length : Int) - (1 : Int)))) hJ0 ?_
    rintro i hJ0 ih0
    replace h := h i hJ0
    refine GoJ.seq ?_
    refine GoJ.seq ?_
    refine GoJ.regV hT (cnt := 0) (ins := [o0, o0]) (live := [0, 1, 6, 20]) (ids := []) (σ' := ⟨[(0, (V.e (E.sc (S.dat (D.sl a))))), (1, (V.e (E.sc (S.dat (D.sl b))))), (6, (V.e (E.sc (S.dat (D.int .i64 i))))), (20, (V.e (E.sc (S.dat (D.bool (decide (i ≥ (0 : Int))))))))], [], 35⟩) (obs := []) (by kernel_rfl) (by kernel_rfl) (by kernel_rfl) trivial ?_
    refine GoJ.cond (t := (decide (i ≥ (0 : Int)))) (by kernel_rfl) (fun h3 => ?_) (fun h3 => ?_)
    · replace h := h.1 h3
      refine GoJ.skip ?_
      refine GoJ.seq ?_
      refine GoJ.block ?_
      refine GoJ.seq ?_
      obtain ⟨vx, vx1, r1, h4, h5, h6, h7, h8, h⟩ := h
      refine GoJ.drawV hmix hT (cnt := 0) (ins := [⟨Or.none, 0, 0, [], [0], [], []⟩, ⟨Or.none, 0, 0, [], [6], [], []⟩, ⟨Or.none, 0, 0, [0, 1], [23, 24], [], []⟩, ⟨(Or.cells [(D.int .u32 vx)]), 0, 0, [0, 1, 2], [25], [], []⟩, ⟨Or.none, 0, 0, [], [1], [], []⟩, ⟨Or.none, 0, 0, [], [6], [], []⟩, ⟨Or.none, 0, 0, [4, 5], [27, 28], [], []⟩, ⟨(Or.cells [(D.int .u32 vx1)]), 0, 0, [4, 5, 6], [29], [], []⟩, ⟨(Or.call (V.e (E.sc (S.dat (D.int .i64 r1)))) [] []), 0, 0, [0, 1, 2, 3, 4, 5, 6, 7], [26, 30], [], []⟩, ⟨Or.none, 0, 0, [0, 1, 2, 3, 4, 5, 6, 7, 8], [31], [], []⟩]) (live := [0, 1, 6, 7]) (ids := []) (σ' := ⟨[(0, (V.e (E.sc (S.dat (D.sl a))))), (1, (V.e (E.sc (S.dat (D.sl b))))), (6, (V.e (E.sc (S.dat (D.int .i64 i))))), (7, (V.e (E.sc (S.dat (D.int .i64 r1)))))], [], 35⟩) (obs := [0 ≤ i ∧ i < (a.length : Int), a[(i).toNat]? = some [(D.int .u32 vx)], 0 ≤ i ∧ i < (b.length : Int), b[(i).toNat]? = some [(D.int .u32 vx1)], FnD prog 157 [(V.e (E.sc (S.dat (D.int .u32 vx)))), (V.e (E.sc (S.dat (D.int .u32 vx1))))] (V.e (E.sc (S.dat (D.int .i64 r1)))) []]) (by kernel_rfl) (by kernel_rfl) (by kernel_rfl) ⟨h4, h5, h6, h7, h8, trivial⟩ ?_
      refine GoJ.seq ?_
      refine GoJ.regV hT (cnt := 0) (ins := [o0, o0]) (live := [0, 1, 6, 7, 33]) (ids := []) (σ' := ⟨[(0, (V.e (E.sc (S.dat (D.sl a))))), (1, (V.e (E.sc (S.dat (D.sl b))))), (6, (V.e (E.sc (S.dat (D.int .i64 i))))), (7, (V.e (E.sc (S.dat (D.int .i64 r1))))), (33, (V.e (E.sc (S.dat (D.bool (r1 != (0 : Int)))))))], [], 35⟩) (obs := []) (by kernel_rfl) (by kernel_rfl) (by kernel_rfl) trivial ?_
      refine GoJ.cond (t := (r1 != (0 : Int))) (by kernel_rfl) (fun h9 => ?_) (fun h9 => ?_)
      · replace h := h.1 h9
        refine GoJ.seq ?_
        refine GoJ.regV hT (cnt := 0) (ins := [o0, o0]) (live := [4]) (ids := []) (σ' := ⟨[(4, (V.e (E.sc (S.dat (D.int .i64 r1)))))], [], 35⟩) (obs := []) (by kernel_rfl) (by kernel_rfl) (by kernel_rfl) trivial ?_
        exact GoJ.retV hT func146 (ids := []) (r := (V.e (E.sc (S.dat (D.int .i64 r1))))) (r' := (V.e (E.sc (S.dat (D.int .i64 r1))))) (σ' := ⟨[], [], 35⟩) (by kernel_rfl) (by kernel_rfl) (by kernel_rfl) (by kernel_rfl) (by kernel_rfl) h
      · replace h := h.2 h9
        refine GoJ.skip ?_
        refine GoJ.inBlock ?_
        refine GoJ.regV hT (cnt := 0) (ins := [o0, o0, o0]) (live := [0, 1, 6]) (ids := []) (σ' := ⟨[(0, (V.e (E.sc (S.dat (D.sl a))))), (1, (V.e (E.sc (S.dat (D.sl b))))), (6, (V.e (E.sc (S.dat (D.int .i64 (IntKind.i64.wrap (i - (1 : Int))))))))], [], 35⟩) (obs := []) (by kernel_rfl) (by kernel_rfl) (by kernel_rfl) trivial ?_
        exact ih0 ((IntKind.i64.wrap (i - (1 : Int)))) h.1 h.2
    · replace h := h.2 h3
      refine GoJ.exit rfl ?_
      refine GoJ.seq ?_
      refine GoJ.regV hT (cnt := 0) (ins := [o0]) (live := [4]) (ids := []) (σ' := ⟨[(4, (V.e (E.sc (S.dat (D.int .i64 (0 : Int))))))], [], 35⟩) (obs := []) (by kernel_rfl) (by kernel_rfl) (by kernel_rfl) trivial ?_
      exact GoJ.retV hT func146 (ids := []) (r := (V.e (E.sc (S.dat (D.int .i64 (0 : Int)))))) (r' := (V.e (E.sc (S.dat (D.int .i64 (0 : Int)))))) (σ' := ⟨[], [], 35⟩) (by kernel_rfl) (by kernel_rfl) (by kernel_rfl) (by kernel_rfl) (by kernel_rfl) h

/- f147 torsion/integer.minus -/
def vc147 (a : List (List D)) (b : List (List D)) (R : V → Heap → Prop) : Prop :=
  (0 ≤ (a.length : Int) ∧ (a.length : Int) ≤ (a.length : Int) ∧ (a.length : Int) * (4 : Nat) ≤ 281474976710656) ∧
  (∃ (J0 : (List (List D)) → Int → Int → Prop) (μ0 : (List (List D)) → Int → Int → Nat),
  J0 (List.replicate ((a.length : Int)).toNat [(D.int .u32 (0 : Int))]) (0 : Int) (0 : Int) ∧ ∀ (out : List (List D)) (t14 : Int) (borrow : Int), J0 out t14 borrow →
    ((decide (t14 < (a.length : Int))) = true →
      ((decide (t14 < (b.length : Int))) = true →
        ∃ (vx : Int),
        (0 ≤ t14 ∧ t14 < (b.length : Int)) ∧
        (b[(t14).toNat]? = some [(D.int .u32 vx)]) ∧
        (∃ (vx1 : Int) (r : Int) (r1 : Int),
        (0 ≤ t14 ∧ t14 < (a.length : Int)) ∧
        (a[(t14).toNat]? = some [(D.int .u32 vx1)]) ∧
        (FnD prog 158 [(V.e (E.sc (S.dat (D.int .u32 vx1)))), (V.e (E.sc (S.dat (D.int .u32 vx)))), (V.e (E.sc (S.dat (D.int .u32 borrow))))] (V.tup [(E.sc (S.dat (D.int .u32 r))), (E.sc (S.dat (D.int .u32 r1)))]) []) ∧
        (0 ≤ t14 ∧ t14 < (out.length : Int)) ∧
        (J0 (out.set (t14).toNat [(D.int .u32 r)]) (IntKind.i64.wrap (t14 + (1 : Int))) r1 ∧ μ0 (out.set (t14).toNat [(D.int .u32 r)]) (IntKind.i64.wrap (t14 + (1 : Int))) r1 < μ0 out t14 borrow))) ∧
      ((decide (t14 < (b.length : Int))) = false →
        ∃ (vx2 : Int) (r2 : Int) (r3 : Int),
        (0 ≤ t14 ∧ t14 < (a.length : Int)) ∧
        (a[(t14).toNat]? = some [(D.int .u32 vx2)]) ∧
        (FnD prog 158 [(V.e (E.sc (S.dat (D.int .u32 vx2)))), (V.e (E.sc (S.dat (D.int .u32 (0 : Int))))), (V.e (E.sc (S.dat (D.int .u32 borrow))))] (V.tup [(E.sc (S.dat (D.int .u32 r2))), (E.sc (S.dat (D.int .u32 r3)))]) []) ∧
        (0 ≤ t14 ∧ t14 < (out.length : Int)) ∧
        (J0 (out.set (t14).toNat [(D.int .u32 r2)]) (IntKind.i64.wrap (t14 + (1 : Int))) r3 ∧ μ0 (out.set (t14).toNat [(D.int .u32 r2)]) (IntKind.i64.wrap (t14 + (1 : Int))) r3 < μ0 out t14 borrow))) ∧
    ((decide (t14 < (a.length : Int))) = false →
      R (V.e (E.sc (S.dat (D.sl out)))) []))

theorem vc147_ok (a : List (List D)) (b : List (List D)) {R : V → Heap → Prop} (h : vc147 a b R) : FnG prog 147 [(V.e (E.sc (S.dat (D.sl a)))), (V.e (E.sc (S.dat (D.sl b))))] [] R := by
  unfold vc147 at h
  refine FnG.of (m := 40) (c := _) func147 rfl (by kernel_rfl) ntmps147 (Nat.le_of_ble_eq_true rfl) ?_
  refine GoJ.seq ?_
  refine GoJ.regV hT (cnt := 0) (ins := [o0]) (live := [0, 1]) (ids := []) (σ' := ⟨[(0, (V.e (E.sc (S.dat (D.sl a))))), (1, (V.e (E.sc (S.dat (D.sl b)))))], [], 40⟩) (obs := []) (by kernel_rfl) (by kernel_rfl) (by kernel_rfl) trivial ?_
  refine GoJ.seq ?_
  obtain ⟨h1, h⟩ := h
  refine GoJ.regV hT (cnt := 1) (ins := [o0, o0, (Or.none, 0, 1), o0]) (live := [0, 1, 5]) (ids := [0]) (σ' := ⟨[(0, (V.e (E.sc (S.dat (D.sl a))))), (1, (V.e (E.sc (S.dat (D.sl b))))), (5, (V.e (E.sc (S.ref 0))))], [(some (Obj.arr 1 (List.replicate ((a.length : Int)).toNat [(D.int .u32 (0 : Int))])))], 40⟩) (obs := [0 ≤ (a.length : Int) ∧ (a.length : Int) ≤ (a.length : Int) ∧ (a.length : Int) * (4 : Nat) ≤ 281474976710656]) (by kernel_rfl) (by kernel_rfl) (by kernel_rfl) ⟨h1, trivial⟩ ?_
  refine GoJ.seq ?_
  refine GoJ.regV hT (cnt := 0) (ins := [o0]) (live := [0, 1, 5, 6]) (ids := [0]) (σ' := ⟨[(0, (V.e (E.sc (S.dat (D.sl a))))), (1, (V.e (E.sc (S.dat (D.sl b))))), (5, (V.e (E.sc (S.ref 0)))), (6, (V.e (E.sc (S.dat (D.int .u32 (0 : Int))))))], [(some (Obj.arr 1 (List.replicate ((a.length : Int)).toNat [(D.int .u32 (0 : Int))])))], 40⟩) (obs := []) (by kernel_rfl) (by kernel_rfl) (by kernel_rfl) trivial ?_
  refine GoJ.seq ?_
  refine GoJ.seq ?_
  refine GoJ.regV hT (cnt := 0) (ins := [o0, o0, o0]) (live := [0, 1, 5, 6, 13, 14]) (ids := [0]) (σ' := ⟨[(0, (V.e (E.sc (S.dat (D.sl a))))), (1, (V.e (E.sc (S.dat (D.sl b))))), (5, (V.e (E.sc (S.ref 0)))), (6, (V.e (E.sc (S.dat (D.int .u32 (0 : Int)))))), (13, (V.e (E.sc (S.dat (D.int .i64 (a.length : Int)))))), (14, (V.e (E.sc (S.dat (D.int .i64 (0 : Int))))))], [(some (Obj.arr 1 (List.replicate ((a.length : Int)).toNat [(D.int .u32 (0 : Int))])))], 40⟩) (obs := []) (by kernel_rfl) (by kernel_rfl) (by kernel_rfl) trivial ?_
  refine GoJ.block ?_
  obtain ⟨J0, μ0, hJ0, h⟩ := h
  refine GoJ.loop (X := (List (List D)) × Int × Int) (fun x => (fun (out : List (List D)) (t14 : Int) (borrow : Int) => (⟨[(0, (V.e (E.sc (S.dat (D.sl a))))), (1, (V.e (E.sc (S.dat (D.sl b))))), (5, (V.e (E.sc (S.ref 0)))), (6, (V.e (E.sc (S.dat (D.int .u32 borrow))))), (13, (V.e (E.sc (S.dat (D.int .i64 (a.length : Int)))))), (14, (V.e (E.sc (S.dat (D.int .i64 t14)))))], [(some (Obj.arr 1 out))], 40⟩ : St)) (x.1) (x.2.1) (x.2.2)) (fun x => J0 (x.1) (x.2.1) (x.2.2)) (fun x => μ0 (x.1) (x.2.1) (x.2.2)) ((List.replicate ((a.length : Int)).toNat [(D.int .u32 (0 : Int))]), (0 : Int), (0 : Int)) hJ0 ?_
  rintro ⟨out, t14, borrow⟩ hJ0 ih0
  replace h := h out t14 borrow hJ0
  refine GoJ.seq ?_
  refine GoJ.regV hT (cnt := 0) (ins := [o0]) (live := [0, 1, 5, 6, 13, 14, 15]) (ids := [0]) (σ' := ⟨[(0, (V.e (E.sc (S.dat (D.sl a))))), (1, (V.e (E.sc (S.dat (D.sl b))))), (5, (V.e (E.sc (S.ref 0)))), (6, (V.e (E.sc (S.dat (D.int .u32 borrow))))), (13, (V.e (E.sc (S.dat (D.int .i64 (a.length : Int)))))), (14, (V.e (E.sc (S.dat (D.int .i64 t14))))), (15, (V.e (E.sc (S.dat (D.bool (decide (t14 < (a.length : Int))))))))], [(some (Obj.arr 1 out))], 40⟩) (obs := []) (by kernel_rfl) (by kernel_rfl) (by kernel_rfl) trivial ?_
  refine GoJ.seq ?_
  refine GoJ.cond (t := (decide (t14 < (a.length : Int)))) (by kernel_rfl) (fun h2 => ?_) (fun h2 => ?_)
  · replace h := h.1 h2
    refine GoJ.skip ?_
    refine GoJ.seq ?_
    refine GoJ.block ?_
    refine GoJ.seq ?_
    refine GoJ.regV hT (cnt := 0) (ins := [o0, o0]) (live := [0, 1, 5, 6, 7, 13, 14]) (ids := [0]) (σ' := ⟨[(0, (V.e (E.sc (S.dat (D.sl a))))), (1, (V.e (E.sc (S.dat (D.sl b))))), (5, (V.e (E.sc (S.ref 0)))), (6, (V.e (E.sc (S.dat (D.int .u32 borrow))))), (7, (V.e (E.sc (S.dat (D.int .i64 t14))))), (13, (V.e (E.sc (S.dat (D.int .i64 (a.length : Int)))))), (14, (V.e (E.sc (S.dat (D.int .i64 t14)))))], [(some (Obj.arr 1 out))], 40⟩) (obs := []) (by kernel_rfl) (by kernel_rfl) (by kernel_rfl) trivial ?_
    refine GoJ.seq ?_
    refine GoJ.regV hT (cnt := 0) (ins := [o0]) (live := [0, 1, 5, 6, 7, 8, 13, 14]) (ids := [0]) (σ' := ⟨[(0, (V.e (E.sc (S.dat (D.sl a))))), (1, (V.e (E.sc (S.dat (D.sl b))))), (5, (V.e (E.sc (S.ref 0)))), (6, (V.e (E.sc (S.dat (D.int .u32 borrow))))), (7, (V.e (E.sc (S.dat (D.int .i64 t14))))), (8, (V.e (E.sc (S.dat (D.int .u32 (0 : Int)))))), (13, (V.e (E.sc (S.dat (D.int .i64 (a.length : Int)))))), (14, (V.e (E.sc (S.dat (D.int .i64 t14)))))], [(some (Obj.arr 1 out))], 40⟩) (obs := []) (by kernel_rfl) (by kernel_rfl) (by kernel_rfl) trivial ?_
    refine GoJ.seq ?_
    refine GoJ.seq ?_
    refine GoJ.regV hT (cnt := 0) (ins := [o0, o0, o0, o0]) (live := [0, 1, 5, 6, 7, 8, 13, 14, 20]) (ids := [0]) (σ' := ⟨[(0, (V.e (E.sc (S.dat (D.sl a))))), (1, (V.e (E.sc (S.dat (D.sl b))))), (5, (V.e (E.sc (S.ref 0)))), (6, (V.e (E.sc (S.dat (D.int .u32 borrow))))), (7, (V.e (E.sc (S.dat (D.int .i64 t14))))), (8, (V.e (E.sc (S.dat (D.int .u32 (0 : Int)))))), (13, (V.e (E.sc (S.dat (D.int .i64 (a.length : Int)))))), (14, (V.e (E.sc (S.dat (D.int .i64 t14))))), (20, (V.e (E.sc (S.dat (D.bool (decide (t14 < (b.length : Int))))))))], [(some (Obj.arr 1 out))], 40⟩) (obs := []) (by kernel_rfl) (by kernel_rfl) (by kernel_rfl) trivial ?_
    refine GoJ.cond (t := (decide (t14 < (b.length : Int)))) (by kernel_rfl) (fun h3 => ?_) (fun h3 => ?_)
    · replace h := h.1 h3
      obtain ⟨vx, h4, h5, h⟩ := h
      refine GoJ.regV hT (cnt := 0) (ins := [o0, o0, o0, ((Or.cells [(D.int .u32 vx)]), 0, 0), o0]) (live := [0, 1, 5, 6, 7, 8, 13, 14]) (ids := [0]) (σ' := ⟨[(0, (V.e (E.sc (S.dat (D.sl a))))), (1, (V.e (E.sc (S.dat (D.sl b))))), (5, (V.e (E.sc (S.ref 0)))), (6, (V.e (E.sc (S.dat (D.int .u32 borrow))))), (7, (V.e (E.sc (S.dat (D.int .i64 t14))))), (8, (V.e (E.sc (S.dat (D.int .u32 vx))))), (13, (V.e (E.sc (S.dat (D.int .i64 (a.length : Int)))))), (14, (V.e (E.sc (S.dat (D.int .i64 t14)))))], [(some (Obj.arr 1 out))], 40⟩) (obs := [0 ≤ t14 ∧ t14 < (b.length : Int), b[(t14).toNat]? = some [(D.int .u32 vx)]]) (by kernel_rfl) (by kernel_rfl) (by kernel_rfl) ⟨h4, h5, trivial⟩ ?_
      obtain ⟨vx1, r, r1, h6, h7, h8, h9, h⟩ := h
      refine GoJ.regV hT (cnt := 0) (ins := [o0, o0, o0, o0, o0, ((Or.cells [(D.int .u32 vx1)]), 0, 0), o0, o0, ((Or.call (V.tup [(E.sc (S.dat (D.int .u32 r))), (E.sc (S.dat (D.int .u32 r1)))]) [] []), 0, 0), o0, o0, o0, o0, o0, o0]) (live := [0, 1, 5, 6, 13, 14]) (ids := [0]) (σ' := ⟨[(0, (V.e (E.sc (S.dat (D.sl a))))), (1, (V.e (E.sc (S.dat (D.sl b))))), (5, (V.e (E.sc (S.ref 0)))), (6, (V.e (E.sc (S.dat (D.int .u32 r1))))), (13, (V.e (E.sc (S.dat (D.int .i64 (a.length : Int)))))), (14, (V.e (E.sc (S.dat (D.int .i64 t14)))))], [(some (Obj.arr 1 (out.set (t14).toNat [(D.int .u32 r)])))], 40⟩) (obs := [0 ≤ t14 ∧ t14 < (a.length : Int), a[(t14).toNat]? = some [(D.int .u32 vx1)], FnD prog 158 [(V.e (E.sc (S.dat (D.int .u32 vx1)))), (V.e (E.sc (S.dat (D.int .u32 vx)))), (V.e (E.sc (S.dat (D.int .u32 borrow))))] (V.tup [(E.sc (S.dat (D.int .u32 r))), (E.sc (S.dat (D.int .u32 r1)))]) [], 0 ≤ t14 ∧ t14 < (out.length : Int)]) (by kernel_rfl) (by kernel_rfl) (by kernel_rfl) ⟨h6, h7, h8, h9, trivial⟩ ?_
      refine GoJ.inBlock ?_
      refine GoJ.regV hT (cnt := 0) (ins := [o0, o0]) (live := [0, 1, 5, 6, 13, 14]) (ids := [0]) (σ' := ⟨[(0, (V.e (E.sc (S.dat (D.sl a))))), (1, (V.e (E.sc (S.dat (D.sl b))))), (5, (V.e (E.sc (S.ref 0)))), (6, (V.e (E.sc (S.dat (D.int .u32 r1))))), (13, (V.e (E.sc (S.dat (D.int .i64 (a.length : Int)))))), (14, (V.e (E.sc (S.dat (D.int .i64 (IntKind.i64.wrap (t14 + (1 : Int))))))))], [(some (Obj.arr 1 (out.set (t14).toNat [(D.int .u32 r)])))], 40⟩) (obs := []) (by kernel_rfl) (by kernel_rfl) (by kernel_rfl) trivial ?_
      exact ih0 ((out.set (t14).toNat [(D.int .u32 r)]), (IntKind.i64.wrap (t14 + (1 : Int))), r1) h.1 h.2
    · replace h := h.2 h3
      refine GoJ.skip ?_
      obtain ⟨vx2, r2, r3, h10, h11, h12, h13, h⟩ := h
      refine GoJ.regV hT (cnt := 0) (ins := [o0, o0, o0, o0, o0, ((Or.cells [(D.int .u32 vx2)]), 0, 0), o0, o0, ((Or.call (V.tup [(E.sc (S.dat (D.int .u32 r2))), (E.sc (S.dat (D.int .u32 r3)))]) [] []), 0, 0), o0, o0, o0, o0, o0, o0]) (live := [0, 1, 5, 6, 13, 14]) (ids := [0]) (σ' := ⟨[(0, (V.e (E.sc (S.dat (D.sl a))))), (1, (V.e (E.sc (S.dat (D.sl b))))), (5, (V.e (E.sc (S.ref 0)))), (6, (V.e (E.sc (S.dat (D.int .u32 r3))))), (13, (V.e (E.sc (S.dat (D.int .i64 (a.length : Int)))))), (14, (V.e (E.sc (S.dat (D.int .i64 t14)))))], [(some (Obj.arr 1 (out.set (t14).toNat [(D.int .u32 r2)])))], 40⟩) (obs := [0 ≤ t14 ∧ t14 < (a.length : Int), a[(t14).toNat]? = some [(D.int .u32 vx2)], FnD prog 158 [(V.e (E.sc (S.dat (D.int .u32 vx2)))), (V.e (E.sc (S.dat (D.int .u32 (0 : Int))))), (V.e (E.sc (S.dat (D.int .u32 borrow))))] (V.tup [(E.sc (S.dat (D.int .u32 r2))), (E.sc (S.dat (D.int .u32 r3)))]) [], 0 ≤ t14 ∧ t14 < (out.length : Int)]) (by kernel_rfl) (by kernel_rfl) (by kernel_rfl) ⟨h10, h11, h12, h13, trivial⟩ ?_
      refine GoJ.inBlock ?_
      refine GoJ.regV hT (cnt := 0) (ins := [o0, o0]) (live := [0, 1, 5, 6, 13, 14]) (ids := [0]) (σ' := ⟨[(0, (V.e (E.sc (S.dat (D.sl a))))), (1, (V.e (E.sc (S.dat (D.sl b))))), (5, (V.e (E.sc (S.ref 0)))), (6, (V.e (E.sc (S.dat (D.int .u32 r3))))), (13, (V.e (E.sc (S.dat (D.int .i64 (a.length : Int)))))), (14, (V.e (E.sc (S.dat (D.int .i64 (IntKind.i64.wrap (t14 + (1 : Int))))))))], [(some (Obj.arr 1 (out.set (t14).toNat [(D.int .u32 r2)])))], 40⟩) (obs := []) (by kernel_rfl) (by kernel_rfl) (by kernel_rfl) trivial ?_
      exact ih0 ((out.set (t14).toNat [(D.int .u32 r2)]), (IntKind.i64.wrap (t14 + (1 : Int))), r3) h.1 h.2
  · replace h := h.2 h2
    refine GoJ.exit rfl ?_
    refine GoJ.seq ?_
    refine GoJ.regV hT (cnt := 0) (ins := [o0, o0]) (live := [4]) (ids := [0]) (σ' := ⟨[(4, (V.e (E.sc (S.ref 0))))], [(some (Obj.arr 1 out))], 40⟩) (obs := []) (by kernel_rfl) (by kernel_rfl) (by kernel_rfl) trivial ?_
    refine GoJ.wk (xfreeze_ok (ids := [0]) (σ' := ⟨[(4, (V.e (E.sc (S.dat (D.sl out)))))], [none], 40⟩) (by kernel_rfl)) ?_
    exact GoJ.retV hT func147 (ids := []) (r := (V.e (E.sc (S.dat (D.sl out))))) (r' := (V.e (E.sc (S.dat (D.sl out))))) (σ' := ⟨[], [], 40⟩) (by kernel_rfl) (by kernel_rfl) (by kernel_rfl) (by kernel_rfl) (by kernel_rfl) h

/- f148 torsion/integer.Cmp -/
def vc148 (a0 : Bool) (a1 : List (List D)) (b0 : Bool) (b1 : List (List D)) (R : V → Heap → Prop) : Prop :=
  (a0 = true →
    ((!b0) = true →
      R (V.e (E.sc (S.dat (D.int .i64 (-1 : Int))))) []) ∧
    ((!b0) = false →
      (b0 = true →
        ((!a0) = true →
          R (V.e (E.sc (S.dat (D.int .i64 (1 : Int))))) []) ∧
        ((!a0) = false →
          ∃ (r : Int),
          (FnD prog 146 [(V.e (E.sc (S.dat (D.sl b1)))), (V.e (E.sc (S.dat (D.sl a1))))] (V.e (E.sc (S.dat (D.int .i64 r)))) []) ∧
          (R (V.e (E.sc (S.dat (D.int .i64 r)))) []))) ∧
      (b0 = false →
        ∃ (r1 : Int),
        (FnD prog 146 [(V.e (E.sc (S.dat (D.sl b1)))), (V.e (E.sc (S.dat (D.sl a1))))] (V.e (E.sc (S.dat (D.int .i64 r1)))) []) ∧
        (R (V.e (E.sc (S.dat (D.int .i64 r1)))) [])))) ∧
  (a0 = false →
    (b0 = true →
      ((!a0) = true →
        R (V.e (E.sc (S.dat (D.int .i64 (1 : Int))))) []) ∧
      ((!a0) = false →
        ∃ (r2 : Int),
        (FnD prog 146 [(V.e (E.sc (S.dat (D.sl a1)))), (V.e (E.sc (S.dat (D.sl b1))))] (V.e (E.sc (S.dat (D.int .i64 r2)))) []) ∧
        (R (V.e (E.sc (S.dat (D.int .i64 r2)))) []))) ∧
    (b0 = false →
      ∃ (r3 : Int),
      (FnD prog 146 [(V.e (E.sc (S.dat (D.sl a1)))), (V.e (E.sc (S.dat (D.sl b1))))] (V.e (E.sc (S.dat (D.int .i64 r3)))) []) ∧
      (R (V.e (E.sc (S.dat (D.int .i64 r3)))) [])))

theorem vc148_ok (a0 : Bool) (a1 : List (List D)) (b0 : Bool) (b1 : List (List D)) {R : V → Heap → Prop} (h : vc148 a0 a1 b0 b1 R) : FnG prog 148 [(V.e (E.agg [(S.dat (D.bool a0)), (S.dat (D.sl a1))])), (V.e (E.agg [(S.dat (D.bool b0)), (S.dat (D.sl b1))]))] [] R := by
  unfold vc148 at h
  refine FnG.of (m := 34) (c := _) func148 rfl (by kernel_rfl) ntmps148 (Nat.le_of_ble_eq_true rfl) ?_
  refine GoJ.seq ?_
  refine GoJ.regV hT (cnt := 2) (ins := [(Or.none, 0, 1), (Or.none, 1, 1), o0]) (live := [2, 3]) (ids := [0, 1]) (σ' := ⟨[(2, (V.e (E.sc (S.ptr 0 0)))), (3, (V.e (E.sc (S.ptr 1 0))))], [(some (Obj.box [(S.dat (D.bool a0)), (S.dat (D.sl a1))])), (some (Obj.box [(S.dat (D.bool b0)), (S.dat (D.sl b1))]))], 34⟩) (obs := []) (by kernel_rfl) (by kernel_rfl) (by kernel_rfl) trivial ?_
  refine GoJ.seq ?_
  refine GoJ.block ?_
  refine GoJ.seq ?_
  rcases Bool.eq_false_or_eq_true a0 with h1 | h1
  · replace h := h.1 h1
    refine GoJ.regV hT (cnt := 0) (ins := [o0, o0, ((Or.bool true), 0, 0), o0, o0, o0, o0, o0]) (live := [2, 3, 5]) (ids := [0, 1]) (σ' := ⟨[(2, (V.e (E.sc (S.ptr 0 0)))), (3, (V.e (E.sc (S.ptr 1 0)))), (5, (V.e (E.sc (S.dat (D.bool (!b0))))))], [(some (Obj.box [(S.dat (D.bool a0)), (S.dat (D.sl a1))])), (some (Obj.box [(S.dat (D.bool b0)), (S.dat (D.sl b1))]))], 34⟩) (obs := [a0 = true]) (by kernel_rfl) (by kernel_rfl) (by kernel_rfl) ⟨h1, trivial⟩ ?_
    refine GoJ.cond (t := (!b0)) (by kernel_rfl) (fun h2 => ?_) (fun h2 => ?_)
    · replace h := h.1 h2
      refine GoJ.seq ?_
      refine GoJ.regV hT (cnt := 0) (ins := [o0]) (live := [4]) (ids := []) (σ' := ⟨[(4, (V.e (E.sc (S.dat (D.int .i64 (-1 : Int))))))], [], 34⟩) (obs := []) (by kernel_rfl) (by kernel_rfl) (by kernel_rfl) trivial ?_
      exact GoJ.retV hT func148 (ids := []) (r := (V.e (E.sc (S.dat (D.int .i64 (-1 : Int)))))) (r' := (V.e (E.sc (S.dat (D.int .i64 (-1 : Int)))))) (σ' := ⟨[], [], 34⟩) (by kernel_rfl) (by kernel_rfl) (by kernel_rfl) (by kernel_rfl) (by kernel_rfl) h
    · replace h := h.2 h2
      refine GoJ.seq ?_
      rcases Bool.eq_false_or_eq_true b0 with h3 | h3
      · replace h := h.1 h3
        refine GoJ.regV hT (cnt := 0) (ins := [o0, o0, ((Or.bool true), 0, 0), o0, o0, o0, o0, o0]) (live := [2, 3, 13]) (ids := [0, 1]) (σ' := ⟨[(2, (V.e (E.sc (S.ptr 0 0)))), (3, (V.e (E.sc (S.ptr 1 0)))), (13, (V.e (E.sc (S.dat (D.bool (!a0))))))], [(some (Obj.box [(S.dat (D.bool a0)), (S.dat (D.sl a1))])), (some (Obj.box [(S.dat (D.bool b0)), (S.dat (D.sl b1))]))], 34⟩) (obs := [b0 = true]) (by kernel_rfl) (by kernel_rfl) (by kernel_rfl) ⟨h3, trivial⟩ ?_
        refine GoJ.cond (t := (!a0)) (by kernel_rfl) (fun h4 => ?_) (fun h4 => ?_)
        · replace h := h.1 h4
          refine GoJ.seq ?_
          refine GoJ.regV hT (cnt := 0) (ins := [o0]) (live := [4]) (ids := []) (σ' := ⟨[(4, (V.e (E.sc (S.dat (D.int .i64 (1 : Int))))))], [], 34⟩) (obs := []) (by kernel_rfl) (by kernel_rfl) (by kernel_rfl) trivial ?_
          exact GoJ.retV hT func148 (ids := []) (r := (V.e (E.sc (S.dat (D.int .i64 (1 : Int)))))) (r' := (V.e (E.sc (S.dat (D.int .i64 (1 : Int)))))) (σ' := ⟨[], [], 34⟩) (by kernel_rfl) (by kernel_rfl) (by kernel_rfl) (by kernel_rfl) (by kernel_rfl) h
        · replace h := h.2 h4
          refine GoJ.seq ?_
          refine GoJ.regV hT (cnt := 0) (ins := [o0, o0, o0]) (live := [2, 3, 21]) (ids := [0, 1]) (σ' := ⟨[(2, (V.e (E.sc (S.ptr 0 0)))), (3, (V.e (E.sc (S.ptr 1 0)))), (21, (V.e (E.sc (S.dat (D.bool a0)))))], [(some (Obj.box [(S.dat (D.bool a0)), (S.dat (D.sl a1))])), (some (Obj.box [(S.dat (D.bool b0)), (S.dat (D.sl b1))]))], 34⟩) (obs := []) (by kernel_rfl) (by kernel_rfl) (by kernel_rfl) trivial ?_
          refine GoJ.cond (t := a0) (by kernel_rfl) (fun _ => ?_) (fun hf => nomatch hf.symm.trans h1)
          refine GoJ.seq ?_
          obtain ⟨r, h5, h⟩ := h
          refine GoJ.regV hT (cnt := 0) (ins := [o0, o0, o0, o0, ((Or.call (V.e (E.sc (S.dat (D.int .i64 r)))) [] []), 0, 0), o0]) (live := [4]) (ids := []) (σ' := ⟨[(4, (V.e (E.sc (S.dat (D.int .i64 r)))))], [], 34⟩) (obs := [FnD prog 146 [(V.e (E.sc (S.dat (D.sl b1)))), (V.e (E.sc (S.dat (D.sl a1))))] (V.e (E.sc (S.dat (D.int .i64 r)))) []]) (by kernel_rfl) (by kernel_rfl) (by kernel_rfl) ⟨h5, trivial⟩ ?_
          exact GoJ.retV hT func148 (ids := []) (r := (V.e (E.sc (S.dat (D.int .i64 r))))) (r' := (V.e (E.sc (S.dat (D.int .i64 r))))) (σ' := ⟨[], [], 34⟩) (by kernel_rfl) (by kernel_rfl) (by kernel_rfl) (by kernel_rfl) (by kernel_rfl) h
      · replace h := h.2 h3
        refine GoJ.regV hT (cnt := 0) (ins := [o0, o0, ((Or.bool false), 0, 0), o0, o0, o0, o0, o0]) (live := [2, 3, 13]) (ids := [0, 1]) (σ' := ⟨[(2, (V.e (E.sc (S.ptr 0 0)))), (3, (V.e (E.sc (S.ptr 1 0)))), (13, (V.e (E.sc (S.dat (D.bool false)))))], [(some (Obj.box [(S.dat (D.bool a0)), (S.dat (D.sl a1))])), (some (Obj.box [(S.dat (D.bool b0)), (S.dat (D.sl b1))]))], 34⟩) (obs := [b0 = false]) (by kernel_rfl) (by kernel_rfl) (by kernel_rfl) ⟨h3, trivial⟩ ?_
        refine GoJ.cond (t := false) (by kernel_rfl) (fun hf => nomatch hf) (fun _ => ?_)
        refine GoJ.seq ?_
        refine GoJ.regV hT (cnt := 0) (ins := [o0, o0, o0]) (live := [2, 3, 21]) (ids := [0, 1]) (σ' := ⟨[(2, (V.e (E.sc (S.ptr 0 0)))), (3, (V.e (E.sc (S.ptr 1 0)))), (21, (V.e (E.sc (S.dat (D.bool a0)))))], [(some (Obj.box [(S.dat (D.bool a0)), (S.dat (D.sl a1))])), (some (Obj.box [(S.dat (D.bool b0)), (S.dat (D.sl b1))]))], 34⟩) (obs := []) (by kernel_rfl) (by kernel_rfl) (by kernel_rfl) trivial ?_
        refine GoJ.cond (t := a0) (by kernel_rfl) (fun _ => ?_) (fun hf => nomatch hf.symm.trans h1)
        refine GoJ.seq ?_
        obtain ⟨r1, h6, h⟩ := h
        refine GoJ.regV hT (cnt := 0) (ins := [o0, o0, o0, o0, ((Or.call (V.e (E.sc (S.dat (D.int .i64 r1)))) [] []), 0, 0), o0]) (live := [4]) (ids := []) (σ' := ⟨[(4, (V.e (E.sc (S.dat (D.int .i64 r1)))))], [], 34⟩) (obs := [FnD prog 146 [(V.e (E.sc (S.dat (D.sl b1)))), (V.e (E.sc (S.dat (D.sl a1))))] (V.e (E.sc (S.dat (D.int .i64 r1)))) []]) (by kernel_rfl) (by kernel_rfl) (by kernel_rfl) ⟨h6, trivial⟩ ?_
        exact GoJ.retV hT func148 (ids := []) (r := (V.e (E.sc (S.dat (D.int .i64 r1))))) (r' := (V.e (E.sc (S.dat (D.int .i64 r1))))) (σ' := ⟨[], [], 34⟩) (by kernel_rfl) (by kernel_rfl) (by kernel_rfl) (by kernel_rfl) (by kernel_rfl) h
  · replace h := h.2 h1
    refine GoJ.regV hT (cnt := 0) (ins := [o0, o0, ((Or.bool false), 0, 0), o0, o0, o0, o0, o0]) (live := [2, 3, 5]) (ids := [0, 1]) (σ' := ⟨[(2, (V.e (E.sc (S.ptr 0 0)))), (3, (V.e (E.sc (S.ptr 1 0)))), (5, (V.e (E.sc (S.dat (D.bool false)))))], [(some (Obj.box [(S.dat (D.bool a0)), (S.dat (D.sl a1))])), (some (Obj.box [(S.dat (D.bool b0)), (S.dat (D.sl b1))]))], 34⟩) (obs := [a0 = false]) (by kernel_rfl) (by kernel_rfl) (by kernel_rfl) ⟨h1, trivial⟩ ?_
    refine GoJ.cond (t := false) (by kernel_rfl) (fun hf => nomatch hf) (fun _ => ?_)
    refine GoJ.seq ?_
    rcases Bool.eq_false_or_eq_true b0 with h7 | h7
    · replace h := h.1 h7
      refine GoJ.regV hT (cnt := 0) (ins := [o0, o0, ((Or.bool true), 0, 0), o0, o0, o0, o0, o0]) (live := [2, 3, 13]) (ids := [0, 1]) (σ' := ⟨[(2, (V.e (E.sc (S.ptr 0 0)))), (3, (V.e (E.sc (S.ptr 1 0)))), (13, (V.e (E.sc (S.dat (D.bool (!a0))))))], [(some (Obj.box [(S.dat (D.bool a0)), (S.dat (D.sl a1))])), (some (Obj.box [(S.dat (D.bool b0)), (S.dat (D.sl b1))]))], 34⟩) (obs := [b0 = true]) (by kernel_rfl) (by kernel_rfl) (by kernel_rfl) ⟨h7, trivial⟩ ?_
      refine GoJ.cond (t := (!a0)) (by kernel_rfl) (fun h8 => ?_) (fun h8 => ?_)
      · replace h := h.1 h8
        refine GoJ.seq ?_
        refine GoJ.regV hT (cnt := 0) (ins := [o0]) (live := [4]) (ids := []) (σ' := ⟨[(4, (V.e (E.sc (S.dat (D.int .i64 (1 : Int))))))], [], 34⟩) (obs := []) (by kernel_rfl) (by kernel_rfl) (by kernel_rfl) trivial ?_
        exact GoJ.retV hT func148 (ids := []) (r := (V.e (E.sc (S.dat (D.int .i64 (1 : Int)))))) (r' := (V.e (E.sc (S.dat (D.int .i64 (1 : Int)))))) (σ' := ⟨[], [], 34⟩) (by kernel_rfl) (by kernel_rfl) (by kernel_rfl) (by kernel_rfl) (by kernel_rfl) h
      · replace h := h.2 h8
        refine GoJ.seq ?_
        refine GoJ.regV hT (cnt := 0) (ins := [o0, o0, o0]) (live := [2, 3, 21]) (ids := [0, 1]) (σ' := ⟨[(2, (V.e (E.sc (S.ptr 0 0)))), (3, (V.e (E.sc (S.ptr 1 0)))), (21, (V.e (E.sc (S.dat (D.bool a0)))))], [(some (Obj.box [(S.dat (D.bool a0)), (S.dat (D.sl a1))])), (some (Obj.box [(S.dat (D.bool b0)), (S.dat (D.sl b1))]))], 34⟩) (obs := []) (by kernel_rfl) (by kernel_rfl) (by kernel_rfl) trivial ?_
        refine GoJ.cond (t := a0) (by kernel_rfl) (fun hf => nomatch hf.symm.trans h1) (fun _ => ?_)
        refine GoJ.skip ?_
        refine GoJ.inBlock ?_
        refine GoJ.seq ?_
        obtain ⟨r2, h9, h⟩ := h
        refine GoJ.regV hT (cnt := 0) (ins := [o0, o0, o0, o0, ((Or.call (V.e (E.sc (S.dat (D.int .i64 r2)))) [] []), 0, 0), o0]) (live := [4]) (ids := []) (σ' := ⟨[(4, (V.e (E.sc (S.dat (D.int .i64 r2)))))], [], 34⟩) (obs := [FnD prog 146 [(V.e (E.sc (S.dat (D.sl a1)))), (V.e (E.sc (S.dat (D.sl b1))))] (V.e (E.sc (S.dat (D.int .i64 r2)))) []]) (by kernel_rfl) (by kernel_rfl) (by kernel_rfl) ⟨h9, trivial⟩ ?_
        exact GoJ.retV hT func148 (ids := []) (r := (V.e (E.sc (S.dat (D.int .i64 r2))))) (r' := (V.e (E.sc (S.dat (D.int .i64 r2))))) (σ' := ⟨[], [], 34⟩) (by kernel_rfl) (by kernel_rfl) (by kernel_rfl) (by kernel_rfl) (by kernel_rfl) h
    · replace h := h.2 h7
      refine GoJ.regV hT (cnt := 0) (ins := [o0, o0, ((Or.bool false), 0, 0), o0, o0, o0, o0, o0]) (live := [2, 3, 13]) (ids := [0, 1]) (σ' := ⟨[(2, (V.e (E.sc (S.ptr 0 0)))), (3, (V.e (E.sc (S.ptr 1 0)))), (13, (V.e (E.sc (S.dat (D.bool false)))))], [(some (Obj.box [(S.dat (D.bool a0)), (S.dat (D.sl a1))])), (some (Obj.box [(S.dat (D.bool b0)), (S.dat (D.sl b1))]))], 34⟩) (obs := [b0 = false]) (by kernel_rfl) (by kernel_rfl) (by kernel_rfl) ⟨h7, trivial⟩ ?_
      refine GoJ.cond (t := false) (by kernel_rfl) (fun hf => nomatch hf) (fun _ => ?_)
      refine GoJ.seq ?_
      refine GoJ.regV hT (cnt := 0) (ins := [o0, o0, o0]) (live := [2, 3, 21]) (ids := [0, 1]) (σ' := ⟨[(2, (V.e (E.sc (S.ptr 0 0)))), (3, (V.e (E.sc (S.ptr 1 0)))), (21, (V.e (E.sc (S.dat (D.bool a0)))))], [(some (Obj.box [(S.dat (D.bool a0)), (S.dat (D.sl a1))])), (some (Obj.box [(S.dat (D.bool b0)), (S.dat (D.sl b1))]))], 34⟩) (obs := []) (by kernel_rfl) (by kernel_rfl) (by kernel_rfl) trivial ?_
      refine GoJ.cond (t := a0) (by kernel_rfl) (fun hf => nomatch hf.symm.trans h1) (fun _ => ?_)
      refine GoJ.skip ?_
      refine GoJ.inBlock ?_
      refine GoJ.seq ?_
      obtain ⟨r3, h10, h⟩ := h
      refine GoJ.regV hT (cnt := 0) (ins := [o0, o0, o0, o0, ((Or.call (V.e (E.sc (S.dat (D.int .i64 r3)))) [] []), 0, 0), o0]) (live := [4]) (ids := []) (σ' := ⟨[(4, (V.e (E.sc (S.dat (D.int .i64 r3)))))], [], 34⟩) (obs := [FnD prog 146 [(V.e (E.sc (S.dat (D.sl a1)))), (V.e (E.sc (S.dat (D.sl b1))))] (V.e (E.sc (S.dat (D.int .i64 r3)))) []]) (by kernel_rfl) (by kernel_rfl) (by kernel_rfl) ⟨h10, trivial⟩ ?_
      exact GoJ.retV hT func148 (ids := []) (r := (V.e (E.sc (S.dat (D.int .i64 r3))))) (r' := (V.e (E.sc (S.dat (D.int .i64 r3))))) (σ' := ⟨[], [], 34⟩) (by kernel_rfl) (by kernel_rfl) (by kernel_rfl) (by kernel_rfl) (by kernel_rfl) h

/- f91 torsion/integer.Sign -/
def vc91 (a0 : Bool) (a1 : List (List D)) (R : V → Heap → Prop) : Prop :=
  (((a1.length : Int) == (0 : Int)) = true →
    R (V.e (E.sc (S.dat (D.int .i64 (0 : Int))))) []) ∧
  (((a1.length : Int) == (0 : Int)) = false →
    (a0 = true →
      R (V.e (E.sc (S.dat (D.int .i64 (-1 : Int))))) []) ∧
    (a0 = false →
      R (V.e (E.sc (S.dat (D.int .i64 (1 : Int))))) []))

theorem vc91_ok (a0 : Bool) (a1 : List (List D)) {R : V → Heap → Prop} (h : vc91 a0 a1 R) : FnG prog 91 [(V.e (E.agg [(S.dat (D.bool a0)), (S.dat (D.sl a1))]))] [] R := by
  unfold vc91 at h
  refine FnG.of (m := 11) (c := _) func91 rfl (by kernel_rfl) ntmps91 (Nat.le_of_ble_eq_true rfl) ?_
  refine GoJ.seq ?_
  refine GoJ.regV hT (cnt := 1) (ins := [(Or.none, 0, 1), o0]) (live := [1]) (ids := [0]) (σ' := ⟨[(1, (V.e (E.sc (S.ptr 0 0))))], [(some (Obj.box [(S.dat (D.bool a0)), (S.dat (D.sl a1))]))], 11⟩) (obs := []) (by kernel_rfl) (by kernel_rfl) (by kernel_rfl) trivial ?_
  refine GoJ.seq ?_
  refine GoJ.block ?_
  refine GoJ.seq ?_
  refine GoJ.regV hT (cnt := 0) (ins := [o0, o0, o0, o0, o0]) (live := [1, 3]) (ids := [0]) (σ' := ⟨[(1, (V.e (E.sc (S.ptr 0 0)))), (3, (V.e (E.sc (S.dat (D.bool ((a1.length : Int) == (0 : Int)))))))], [(some (Obj.box [(S.dat (D.bool a0)), (S.dat (D.sl a1))]))], 11⟩) (obs := []) (by kernel_rfl) (by kernel_rfl) (by kernel_rfl) trivial ?_
  refine GoJ.cond (t := ((a1.length : Int) == (0 : Int))) (by kernel_rfl) (fun h1 => ?_) (fun h1 => ?_)
  · replace h := h.1 h1
    refine GoJ.seq ?_
    refine GoJ.regV hT (cnt := 0) (ins := [o0]) (live := [2]) (ids := []) (σ' := ⟨[(2, (V.e (E.sc (S.dat (D.int .i64 (0 : Int))))))], [], 11⟩) (obs := []) (by kernel_rfl) (by kernel_rfl) (by kernel_rfl) trivial ?_
    exact GoJ.retV hT func91 (ids := []) (r := (V.e (E.sc (S.dat (D.int .i64 (0 : Int)))))) (r' := (V.e (E.sc (S.dat (D.int .i64 (0 : Int)))))) (σ' := ⟨[], [], 11⟩) (by kernel_rfl) (by kernel_rfl) (by kernel_rfl) (by kernel_rfl) (by kernel_rfl) h
  · replace h := h.2 h1
    refine GoJ.seq ?_
    refine GoJ.regV hT (cnt := 0) (ins := [o0, o0, o0]) (live := [8]) (ids := []) (σ' := ⟨[(8, (V.e (E.sc (S.dat (D.bool a0)))))], [], 11⟩) (obs := []) (by kernel_rfl) (by kernel_rfl) (by kernel_rfl) trivial ?_
    refine GoJ.cond (t := a0) (by kernel_rfl) (fun h2 => ?_) (fun h2 => ?_)
    · replace h := h.1 h2
      refine GoJ.seq ?_
      refine GoJ.regV hT (cnt := 0) (ins := [o0]) (live := [2]) (ids := []) (σ' := ⟨[(2, (V.e (E.sc (S.dat (D.int .i64 (-1 : Int))))))], [], 11⟩) (obs := []) (by kernel_rfl) (by kernel_rfl) (by kernel_rfl) trivial ?_
      exact GoJ.retV hT func91 (ids := []) (r := (V.e (E.sc (S.dat (D.int .i64 (-1 : Int)))))) (r' := (V.e (E.sc (S.dat (D.int .i64 (-1 : Int)))))) (σ' := ⟨[], [], 11⟩) (by kernel_rfl) (by kernel_rfl) (by kernel_rfl) (by kernel_rfl) (by kernel_rfl) h
    · replace h := h.2 h2
      refine GoJ.skip ?_
      refine GoJ.inBlock ?_
      refine GoJ.seq ?_
      refine GoJ.regV hT (cnt := 0) (ins := [o0]) (live := [2]) (ids := []) (σ' := ⟨[(2, (V.e (E.sc (S.dat (D.int .i64 (1 : Int))))))], [], 11⟩) (obs := []) (by kernel_rfl) (by kernel_rfl) (by kernel_rfl) trivial ?_
      exact GoJ.retV hT func91 (ids := []) (r := (V.e (E.sc (S.dat (D.int .i64 (1 : Int)))))) (r' := (V.e (E.sc (S.dat (D.int .i64 (1 : Int)))))) (σ' := ⟨[], [], 11⟩) (by kernel_rfl) (by kernel_rfl) (by kernel_rfl) (by kernel_rfl) (by kernel_rfl) h

/- f100 torsion/integer.Neg -/
def vc100 (a0 : Bool) (a1 : List (List D)) (R : V → Heap → Prop) : Prop :=
  ((!a0) = true →
    R (V.e (E.agg [(S.dat (D.bool (decide ((a1.length : Int) > (0 : Int))))), (S.dat (D.sl a1))])) []) ∧
  ((!a0) = false →
    R (V.e (E.agg [(S.dat (D.bool false)), (S.dat (D.sl a1))])) [])

theorem vc100_ok (a0 : Bool) (a1 : List (List D)) {R : V → Heap → Prop} (h : vc100 a0 a1 R) : FnG prog 100 [(V.e (E.agg [(S.dat (D.bool a0)), (S.dat (D.sl a1))]))] [] R := by
  unfold vc100 at h
  refine FnG.of (m := 15) (c := _) func100 rfl (by kernel_rfl) ntmps100 (Nat.le_of_ble_eq_true rfl) ?_
  refine GoJ.seq ?_
  refine GoJ.regV hT (cnt := 2) (ins := [(Or.none, 0, 1), (Or.none, 1, 1)]) (live := [1, 2]) (ids := [0, 1]) (σ' := ⟨[(1, (V.e (E.sc (S.ptr 0 0)))), (2, (V.e (E.sc (S.ptr 1 0))))], [(some (Obj.box [(S.dat (D.bool a0)), (S.dat (D.sl a1))])), (some (Obj.box [(S.dat (D.bool false)), (S.dat (D.raw (.slice none 0 0)))]))], 15⟩) (obs := []) (by kernel_rfl) (by kernel_rfl) (by kernel_rfl) trivial ?_
  refine GoJ.seq ?_
  rcases Bool.eq_false_or_eq_true (!a0) with h1 | h1
  · replace h := h.1 h1
    refine GoJ.regV hT (cnt := 0) (ins := [o0, o0, o0, ((Or.bool true), 0, 0), o0, o0, o0, o0, o0, o0, o0, o0, o0]) (live := [2]) (ids := [1]) (σ' := ⟨[(2, (V.e (E.sc (S.ptr 0 0))))], [(some (Obj.box [(S.dat (D.bool (decide ((a1.length : Int) > (0 : Int))))), (S.dat (D.sl a1))]))], 15⟩) (obs := [(!a0) = true]) (by kernel_rfl) (by kernel_rfl) (by kernel_rfl) ⟨h1, trivial⟩ ?_
    exact GoJ.retV hT func100 (ids := []) (r := (V.e (E.agg [(S.dat (D.bool (decide ((a1.length : Int) > (0 : Int))))), (S.dat (D.sl a1))]))) (r' := (V.e (E.agg [(S.dat (D.bool (decide ((a1.length : Int) > (0 : Int))))), (S.dat (D.sl a1))]))) (σ' := ⟨[], [], 15⟩) (by kernel_rfl) (by kernel_rfl) (by kernel_rfl) (by kernel_rfl) (by kernel_rfl) h
  · replace h := h.2 h1
    refine GoJ.regV hT (cnt := 0) (ins := [o0, o0, o0, ((Or.bool false), 0, 0), o0, o0, o0, o0, o0, o0, o0, o0, o0]) (live := [2]) (ids := [1]) (σ' := ⟨[(2, (V.e (E.sc (S.ptr 0 0))))], [(some (Obj.box [(S.dat (D.bool false)), (S.dat (D.sl a1))]))], 15⟩) (obs := [(!a0) = false]) (by kernel_rfl) (by kernel_rfl) (by kernel_rfl) ⟨h1, trivial⟩ ?_
    exact GoJ.retV hT func100 (ids := []) (r := (V.e (E.agg [(S.dat (D.bool false)), (S.dat (D.sl a1))]))) (r' := (V.e (E.agg [(S.dat (D.bool false)), (S.dat (D.sl a1))]))) (σ' := ⟨[], [], 15⟩) (by kernel_rfl) (by kernel_rfl) (by kernel_rfl) (by kernel_rfl) (by kernel_rfl) h

/- f106 torsion/integer.Add -/
def vc106 (a0 : Bool) (a1 : List (List D)) (b0 : Bool) (b1 : List (List D)) (R : V → Heap → Prop) : Prop :=
  ((a0 == b0) = true →
    ∃ (r : List (List D)) (r0 : Bool) (r1 : List (List D)),
    (FnD prog 145 [(V.e (E.sc (S.dat (D.sl a1)))), (V.e (E.sc (S.dat (D.sl b1))))] (V.e (E.sc (S.dat (D.sl r)))) []) ∧
    (FnD prog 144 [(V.e (E.sc (S.dat (D.sl r)))), (V.e (E.sc (S.dat (D.bool a0))))] (V.e (E.agg [(S.dat (D.bool r0)), (S.dat (D.sl r1))])) []) ∧
    (R (V.e (E.agg [(S.dat (D.bool r0)), (S.dat (D.sl r1))])) [])) ∧
  ((a0 == b0) = false →
    ∃ (r2 : Int),
    (FnD prog 146 [(V.e (E.sc (S.dat (D.sl a1)))), (V.e (E.sc (S.dat (D.sl b1))))] (V.e (E.sc (S.dat (D.int .i64 r2)))) []) ∧
    (((decide (r2 < (0 : Int))) = true →
      ∃ (r3 : List (List D)) (r01 : Bool) (r11 : List (List D)),
      (FnD prog 147 [(V.e (E.sc (S.dat (D.sl b1)))), (V.e (E.sc (S.dat (D.sl a1))))] (V.e (E.sc (S.dat (D.sl r3)))) []) ∧
      (FnD prog 144 [(V.e (E.sc (S.dat (D.sl r3)))), (V.e (E.sc (S.dat (D.bool b0))))] (V.e (E.agg [(S.dat (D.bool r01)), (S.dat (D.sl r11))])) []) ∧
      (R (V.e (E.agg [(S.dat (D.bool r01)), (S.dat (D.sl r11))])) [])) ∧
    ((decide (r2 < (0 : Int))) = false →
      ∃ (r4 : List (List D)) (r02 : Bool) (r12 : List (List D)),
      (FnD prog 147 [(V.e (E.sc (S.dat (D.sl a1)))), (V.e (E.sc (S.dat (D.sl b1))))] (V.e (E.sc (S.dat (D.sl r4)))) []) ∧
      (FnD prog 144 [(V.e (E.sc (S.dat (D.sl r4)))), (V.e (E.sc (S.dat (D.bool a0))))] (V.e (E.agg [(S.dat (D.bool r02)), (S.dat (D.sl r12))])) []) ∧
      (R (V.e (E.agg [(S.dat (D.bool r02)), (S.dat (D.sl r12))])) []))))

theorem vc106_ok (a0 : Bool) (a1 : List (List D)) (b0 : Bool) (b1 : List (List D)) {R : V → Heap → Prop} (h : vc106 a0 a1 b0 b1 R) : FnG prog 106 [(V.e (E.agg [(S.dat (D.bool a0)), (S.dat (D.sl a1))])), (V.e (E.agg [(S.dat (D.bool b0)), (S.dat (D.sl b1))]))] [] R := by
  unfold vc106 at h
  refine FnG.of (m := 42) (c := _) func106 rfl (by kernel_rfl) ntmps106 (Nat.le_of_ble_eq_true rfl) ?_
  refine GoJ.seq ?_
  refine GoJ.regV hT (cnt := 3) (ins := [(Or.none, 0, 1), (Or.none, 1, 1), (Or.none, 2, 1)]) (live := [2, 3, 4]) (ids := [0, 1, 2]) (σ' := ⟨[(2, (V.e (E.sc (S.ptr 0 0)))), (3, (V.e (E.sc (S.ptr 1 0)))), (4, (V.e (E.sc (S.ptr 2 0))))], [(some (Obj.box [(S.dat (D.bool a0)), (S.dat (D.sl a1))])), (some (Obj.box [(S.dat (D.bool b0)), (S.dat (D.sl b1))])), (some (Obj.box [(S.dat (D.bool false)), (S.dat (D.raw (.slice none 0 0)))]))], 42⟩) (obs := []) (by kernel_rfl) (by kernel_rfl) (by kernel_rfl) trivial ?_
  refine GoJ.seq ?_
  refine GoJ.block ?_
  refine GoJ.seq ?_
  refine GoJ.regV hT (cnt := 0) (ins := [o0, o0, o0, o0, o0, o0]) (live := [2, 3, 4, 5]) (ids := [0, 1, 2]) (σ' := ⟨[(2, (V.e (E.sc (S.ptr 0 0)))), (3, (V.e (E.sc (S.ptr 1 0)))), (4, (V.e (E.sc (S.ptr 2 0)))), (5, (V.e (E.sc (S.dat (D.bool (a0 == b0))))))], [(some (Obj.box [(S.dat (D.bool a0)), (S.dat (D.sl a1))])), (some (Obj.box [(S.dat (D.bool b0)), (S.dat (D.sl b1))])), (some (Obj.box [(S.dat (D.bool false)), (S.dat (D.raw (.slice none 0 0)))]))], 42⟩) (obs := []) (by kernel_rfl) (by kernel_rfl) (by kernel_rfl) trivial ?_
  refine GoJ.cond (t := (a0 == b0)) (by kernel_rfl) (fun h1 => ?_) (fun h1 => ?_)
  · replace h := h.1 h1
    refine GoJ.seq ?_
    obtain ⟨r, r0, r1, h2, h3, h⟩ := h
    refine GoJ.drawV hmix hT (cnt := 0) (ins := [⟨Or.none, 0, 0, [], [2], [], []⟩, ⟨Or.none, 0, 0, [0], [11], [], []⟩, ⟨Or.none, 0, 0, [], [3], [], []⟩, ⟨Or.none, 0, 0, [2], [13], [], []⟩, ⟨(Or.call (V.e (E.sc (S.dat (D.sl r)))) [] []), 0, 0, [0, 1, 2, 3], [12, 14], [], []⟩, ⟨Or.none, 0, 0, [], [2], [], []⟩, ⟨Or.none, 0, 0, [5], [16], [], []⟩, ⟨(Or.call (V.e (E.agg [(S.dat (D.bool r0)), (S.dat (D.sl r1))])) [] []), 0, 0, [0, 1, 2, 3, 4, 5, 6], [15, 17], [], []⟩, ⟨Or.none, 0, 0, [0, 1, 2, 3, 4, 5, 6, 7], [4, 18], [2], []⟩]) (live := [4]) (ids := [2]) (σ' := ⟨[(4, (V.e (E.sc (S.ptr 0 0))))], [(some (Obj.box [(S.dat (D.bool r0)), (S.dat (D.sl r1))]))], 42⟩) (obs := [FnD prog 145 [(V.e (E.sc (S.dat (D.sl a1)))), (V.e (E.sc (S.dat (D.sl b1))))] (V.e (E.sc (S.dat (D.sl r)))) [], FnD prog 144 [(V.e (E.sc (S.dat (D.sl r)))), (V.e (E.sc (S.dat (D.bool a0))))] (V.e (E.agg [(S.dat (D.bool r0)), (S.dat (D.sl r1))])) []]) (by kernel_rfl) (by kernel_rfl) (by kernel_rfl) ⟨h2, h3, trivial⟩ ?_
    exact GoJ.retV hT func106 (ids := []) (r := (V.e (E.agg [(S.dat (D.bool r0)), (S.dat (D.sl r1))]))) (r' := (V.e (E.agg [(S.dat (D.bool r0)), (S.dat (D.sl r1))]))) (σ' := ⟨[], [], 42⟩) (by kernel_rfl) (by kernel_rfl) (by kernel_rfl) (by kernel_rfl) (by kernel_rfl) h
  · replace h := h.2 h1
    refine GoJ.seq ?_
    obtain ⟨r2, h4, h⟩ := h
    refine GoJ.regV hT (cnt := 0) (ins := [o0, o0, o0, o0, ((Or.call (V.e (E.sc (S.dat (D.int .i64 r2)))) [] []), 0, 0), o0, o0]) (live := [2, 3, 4, 19]) (ids := [0, 1, 2]) (σ' := ⟨[(2, (V.e (E.sc (S.ptr 0 0)))), (3, (V.e (E.sc (S.ptr 1 0)))), (4, (V.e (E.sc (S.ptr 2 0)))), (19, (V.e (E.sc (S.dat (D.bool (decide (r2 < (0 : Int))))))))], [(some (Obj.box [(S.dat (D.bool a0)), (S.dat (D.sl a1))])), (some (Obj.box [(S.dat (D.bool b0)), (S.dat (D.sl b1))])), (some (Obj.box [(S.dat (D.bool false)), (S.dat (D.raw (.slice none 0 0)))]))], 42⟩) (obs := [FnD prog 146 [(V.e (E.sc (S.dat (D.sl a1)))), (V.e (E.sc (S.dat (D.sl b1))))] (V.e (E.sc (S.dat (D.int .i64 r2)))) []]) (by kernel_rfl) (by kernel_rfl) (by kernel_rfl) ⟨h4, trivial⟩ ?_
    refine GoJ.cond (t := (decide (r2 < (0 : Int)))) (by kernel_rfl) (fun h5 => ?_) (fun h5 => ?_)
    · replace h := h.1 h5
      refine GoJ.seq ?_
      obtain ⟨r3, r01, r11, h6, h7, h⟩ := h
      refine GoJ.drawV hmix hT (cnt := 0) (ins := [⟨Or.none, 0, 0, [], [3], [], []⟩, ⟨Or.none, 0, 0, [0], [26], [], []⟩, ⟨Or.none, 0, 0, [], [2], [], []⟩, ⟨Or.none, 0, 0, [2], [28], [], []⟩, ⟨(Or.call (V.e (E.sc (S.dat (D.sl r3)))) [] []), 0, 0, [0, 1, 2, 3], [27, 29], [], []⟩, ⟨Or.none, 0, 0, [], [3], [], []⟩, ⟨Or.none, 0, 0, [5], [31], [], []⟩, ⟨(Or.call (V.e (E.agg [(S.dat (D.bool r01)), (S.dat (D.sl r11))])) [] []), 0, 0, [0, 1, 2, 3, 4, 5, 6], [30, 32], [], []⟩, ⟨Or.none, 0, 0, [0, 1, 2, 3, 4, 5, 6, 7], [4, 33], [2], []⟩]) (live := [4]) (ids := [2]) (σ' := ⟨[(4, (V.e (E.sc (S.ptr 0 0))))], [(some (Obj.box [(S.dat (D.bool r01)), (S.dat (D.sl r11))]))], 42⟩) (obs := [FnD prog 147 [(V.e (E.sc (S.dat (D.sl b1)))), (V.e (E.sc (S.dat (D.sl a1))))] (V.e (E.sc (S.dat (D.sl r3)))) [], FnD prog 144 [(V.e (E.sc (S.dat (D.sl r3)))), (V.e (E.sc (S.dat (D.bool b0))))] (V.e (E.agg [(S.dat (D.bool r01)), (S.dat (D.sl r11))])) []]) (by kernel_rfl) (by kernel_rfl) (by kernel_rfl) ⟨h6, h7, trivial⟩ ?_
      exact GoJ.retV hT func106 (ids := []) (r := (V.e (E.agg [(S.dat (D.bool r01)), (S.dat (D.sl r11))]))) (r' := (V.e (E.agg [(S.dat (D.bool r01)), (S.dat (D.sl r11))]))) (σ' := ⟨[], [], 42⟩) (by kernel_rfl) (by kernel_rfl) (by kernel_rfl) (by kernel_rfl) (by kernel_rfl) h
    · replace h := h.2 h5
      refine GoJ.skip ?_
      refine GoJ.inBlock ?_
      refine GoJ.seq ?_
      obtain ⟨r4, r02, r12, h8, h9, h⟩ := h
      refine GoJ.drawV hmix hT (cnt := 0) (ins := [⟨Or.none, 0, 0, [], [2], [], []⟩, ⟨Or.none, 0, 0, [0], [34], [], []⟩, ⟨Or.none, 0, 0, [], [3], [], []⟩, ⟨Or.none, 0, 0, [2], [36], [], []⟩, ⟨(Or.call (V.e (E.sc (S.dat (D.sl r4)))) [] []), 0, 0, [0, 1, 2, 3], [35, 37], [], []⟩, ⟨Or.none, 0, 0, [], [2], [], []⟩, ⟨Or.none, 0, 0, [5], [39], [], []⟩, ⟨(Or.call (V.e (E.agg [(S.dat (D.bool r02)), (S.dat (D.sl r12))])) [] []), 0, 0, [0, 1, 2, 3, 4, 5, 6], [38, 40], [], []⟩, ⟨Or.none, 0, 0, [0, 1, 2, 3, 4, 5, 6, 7], [4, 41], [2], []⟩]) (live := [4]) (ids := [2]) (σ' := ⟨[(4, (V.e (E.sc (S.ptr 0 0))))], [(some (Obj.box [(S.dat (D.bool r02)), (S.dat (D.sl r12))]))], 42⟩) (obs := [FnD prog 147 [(V.e (E.sc (S.dat (D.sl a1)))), (V.e (E.sc (S.dat (D.sl b1))))] (V.e (E.sc (S.dat (D.sl r4)))) [], FnD prog 144 [(V.e (E.sc (S.dat (D.sl r4)))), (V.e (E.sc (S.dat (D.bool a0))))] (V.e (E.agg [(S.dat (D.bool r02)), (S.dat (D.sl r12))])) []]) (by kernel_rfl) (by kernel_rfl) (by kernel_rfl) ⟨h8, h9, trivial⟩ ?_
      exact GoJ.retV hT func106 (ids := []) (r := (V.e (E.agg [(S.dat (D.bool r02)), (S.dat (D.sl r12))]))) (r' := (V.e (E.agg [(S.dat (D.bool r02)), (S.dat (D.sl r12))]))) (σ' := ⟨[], [], 42⟩) (by kernel_rfl) (by kernel_rfl) (by kernel_rfl) (by kernel_rfl) (by kernel_rfl) h

/- f108 torsion/integer.Of -/
def vc108 (n : Int) (R : V → Heap → Prop) : Prop :=
  ((decide (n < (0 : Int))) = true →
    ∃ (r0 : Bool) (r1 : List (List D)),
    (0 ≤ (32 : Int)) ∧
    (FnD prog 144 [(V.e (E.sc (S.dat (D.sl [[(D.int .u32 (IntKind.u32.wrap (IntKind.u64.wrap (0 - (IntKind.u64.wrap n)))))], [(D.int .u32 (IntKind.u32.wrap ((IntKind.u64.wrap (0 - (IntKind.u64.wrap n))).fdiv (2 ^ (min (32 : Int).toNat IntKind.u64.bits)))))]])))), (V.e (E.sc (S.dat (D.bool (decide (n < (0 : Int)))))))] (V.e (E.agg [(S.dat (D.bool r0)), (S.dat (D.sl r1))])) []) ∧
    (R (V.e (E.agg [(S.dat (D.bool r0)), (S.dat (D.sl r1))])) [])) ∧
  ((decide (n < (0 : Int))) = false →
    ∃ (r01 : Bool) (r11 : List (List D)),
    (0 ≤ (32 : Int)) ∧
    (FnD prog 144 [(V.e (E.sc (S.dat (D.sl [[(D.int .u32 (IntKind.u32.wrap (IntKind.u64.wrap n)))], [(D.int .u32 (IntKind.u32.wrap ((IntKind.u64.wrap n).fdiv (2 ^ (min (32 : Int).toNat IntKind.u64.bits)))))]])))), (V.e (E.sc (S.dat (D.bool (decide (n < (0 : Int)))))))] (V.e (E.agg [(S.dat (D.bool r01)), (S.dat (D.sl r11))])) []) ∧
    (R (V.e (E.agg [(S.dat (D.bool r01)), (S.dat (D.sl r11))])) []))

theorem vc108_ok (n : Int) {R : V → Heap → Prop} (h : vc108 n R) : FnG prog 108 [(V.e (E.sc (S.dat (D.int .i64 n))))] [] R := by
  unfold vc108 at h
  refine FnG.of (m := 19) (c := _) func108 rfl (by kernel_rfl) ntmps108 (Nat.le_of_ble_eq_true rfl) ?_
  refine GoJ.seq ?_
  refine GoJ.regV hT (cnt := 1) (ins := [(Or.none, 0, 1)]) (live := [0, 2]) (ids := [0]) (σ' := ⟨[(0, (V.e (E.sc (S.dat (D.int .i64 n))))), (2, (V.e (E.sc (S.ptr 0 0))))], [(some (Obj.box [(S.dat (D.bool false)), (S.dat (D.raw (.slice none 0 0)))]))], 19⟩) (obs := []) (by kernel_rfl) (by kernel_rfl) (by kernel_rfl) trivial ?_
  refine GoJ.seq ?_
  refine GoJ.regV hT (cnt := 0) (ins := [o0, o0, o0]) (live := [0, 2, 3]) (ids := [0]) (σ' := ⟨[(0, (V.e (E.sc (S.dat (D.int .i64 n))))), (2, (V.e (E.sc (S.ptr 0 0)))), (3, (V.e (E.sc (S.dat (D.int .u64 (IntKind.u64.wrap n))))))], [(some (Obj.box [(S.dat (D.bool false)), (S.dat (D.raw (.slice none 0 0)))]))], 19⟩) (obs := []) (by kernel_rfl) (by kernel_rfl) (by kernel_rfl) trivial ?_
  refine GoJ.seq ?_
  refine GoJ.seq ?_
  refine GoJ.regV hT (cnt := 0) (ins := [o0, o0]) (live := [0, 2, 3, 7]) (ids := [0]) (σ' := ⟨[(0, (V.e (E.sc (S.dat (D.int .i64 n))))), (2, (V.e (E.sc (S.ptr 0 0)))), (3, (V.e (E.sc (S.dat (D.int .u64 (IntKind.u64.wrap n)))))), (7, (V.e (E.sc (S.dat (D.bool (decide (n < (0 : Int))))))))], [(some (Obj.box [(S.dat (D.bool false)), (S.dat (D.raw (.slice none 0 0)))]))], 19⟩) (obs := []) (by kernel_rfl) (by kernel_rfl) (by kernel_rfl) trivial ?_
  refine GoJ.cond (t := (decide (n < (0 : Int)))) (by kernel_rfl) (fun h1 => ?_) (fun h1 => ?_)
  · replace h := h.1 h1
    refine GoJ.regV hT (cnt := 0) (ins := [o0, o0, o0]) (live := [0, 2, 3]) (ids := [0]) (σ' := ⟨[(0, (V.e (E.sc (S.dat (D.int .i64 n))))), (2, (V.e (E.sc (S.ptr 0 0)))), (3, (V.e (E.sc (S.dat (D.int .u64 (IntKind.u64.wrap (0 - (IntKind.u64.wrap n))))))))], [(some (Obj.box [(S.dat (D.bool false)), (S.dat (D.raw (.slice none 0 0)))]))], 19⟩) (obs := []) (by kernel_rfl) (by kernel_rfl) (by kernel_rfl) trivial ?_
    refine GoJ.seq ?_
    obtain ⟨r0, r1, h2, h3, h⟩ := h
    refine GoJ.regV hT (cnt := 1) (ins := [o0, o0, o0, o0, o0, (Or.frz, 1, 1), o0, o0, ((Or.call (V.e (E.agg [(S.dat (D.bool r0)), (S.dat (D.sl r1))])) [] []), 0, 0), o0]) (live := [2]) (ids := [0]) (σ' := ⟨[(2, (V.e (E.sc (S.ptr 0 0))))], [(some (Obj.box [(S.dat (D.bool r0)), (S.dat (D.sl r1))]))], 19⟩) (obs := [0 ≤ (32 : Int), FnD prog 144 [(V.e (E.sc (S.dat (D.sl [[(D.int .u32 (IntKind.u32.wrap (IntKind.u64.wrap (0 - (IntKind.u64.wrap n)))))], [(D.int .u32 (IntKind.u32.wrap ((IntKind.u64.wrap (0 - (IntKind.u64.wrap n))).fdiv (2 ^ (min (32 : Int).toNat IntKind.u64.bits)))))]])))), (V.e (E.sc (S.dat (D.bool (decide (n < (0 : Int)))))))] (V.e (E.agg [(S.dat (D.bool r0)), (S.dat (D.sl r1))])) []]) (by kernel_rfl) (by kernel_rfl) (by kernel_rfl) ⟨h2, h3, trivial⟩ ?_
    exact GoJ.retV hT func108 (ids := []) (r := (V.e (E.agg [(S.dat (D.bool r0)), (S.dat (D.sl r1))]))) (r' := (V.e (E.agg [(S.dat (D.bool r0)), (S.dat (D.sl r1))]))) (σ' := ⟨[], [], 19⟩) (by kernel_rfl) (by kernel_rfl) (by kernel_rfl) (by kernel_rfl) (by kernel_rfl) h
  · replace h := h.2 h1
    refine GoJ.skip ?_
    refine GoJ.seq ?_
    obtain ⟨r01, r11, h4, h5, h⟩ := h
    refine GoJ.regV hT (cnt := 1) (ins := [o0, o0, o0, o0, o0, (Or.frz, 1, 1), o0, o0, ((Or.call (V.e (E.agg [(S.dat (D.bool r01)), (S.dat (D.sl r11))])) [] []), 0, 0), o0]) (live := [2]) (ids := [0]) (σ' := ⟨[(2, (V.e (E.sc (S.ptr 0 0))))], [(some (Obj.box [(S.dat (D.bool r01)), (S.dat (D.sl r11))]))], 19⟩) (obs := [0 ≤ (32 : Int), FnD prog 144 [(V.e (E.sc (S.dat (D.sl [[(D.int .u32 (IntKind.u32.wrap (IntKind.u64.wrap n)))], [(D.int .u32 (IntKind.u32.wrap ((IntKind.u64.wrap n).fdiv (2 ^ (min (32 : Int).toNat IntKind.u64.bits)))))]])))), (V.e (E.sc (S.dat (D.bool (decide (n < (0 : Int)))))))] (V.e (E.agg [(S.dat (D.bool r01)), (S.dat (D.sl r11))])) []]) (by kernel_rfl) (by kernel_rfl) (by kernel_rfl) ⟨h4, h5, trivial⟩ ?_
    exact GoJ.retV hT func108 (ids := []) (r := (V.e (E.agg [(S.dat (D.bool r01)), (S.dat (D.sl r11))]))) (r' := (V.e (E.agg [(S.dat (D.bool r01)), (S.dat (D.sl r11))]))) (σ' := ⟨[], [], 19⟩) (by kernel_rfl) (by kernel_rfl) (by kernel_rfl) (by kernel_rfl) (by kernel_rfl) h

/- f109 torsion/integer.Sub -/
def vc109 (a0 : Bool) (a1 : List (List D)) (b0 : Bool) (b1 : List (List D)) (R : V → Heap → Prop) : Prop :=
  ∃ (r0 : Bool) (r1 : List (List D)) (r01 : Bool) (r11 : List (List D)),
  (FnD prog 100 [(V.e (E.agg [(S.dat (D.bool b0)), (S.dat (D.sl b1))]))] (V.e (E.agg [(S.dat (D.bool r0)), (S.dat (D.sl r1))])) []) ∧
  (FnD prog 106 [(V.e (E.agg [(S.dat (D.bool a0)), (S.dat (D.sl a1))])), (V.e (E.agg [(S.dat (D.bool r0)), (S.dat (D.sl r1))]))] (V.e (E.agg [(S.dat (D.bool r01)), (S.dat (D.sl r11))])) []) ∧
  (R (V.e (E.agg [(S.dat (D.bool r01)), (S.dat (D.sl r11))])) [])

theorem vc109_ok (a0 : Bool) (a1 : List (List D)) (b0 : Bool) (b1 : List (List D)) {R : V → Heap → Prop} (h : vc109 a0 a1 b0 b1 R) : FnG prog 109 [(V.e (E.agg [(S.dat (D.bool a0)), (S.dat (D.sl a1))])), (V.e (E.agg [(S.dat (D.bool b0)), (S.dat (D.sl b1))]))] [] R := by
  unfold vc109 at h
  refine FnG.of (m := 9) (c := _) func109 rfl (by kernel_rfl) ntmps109 (Nat.le_of_ble_eq_true rfl) ?_
  refine GoJ.seq ?_
  refine GoJ.regV hT (cnt := 3) (ins := [(Or.none, 0, 1), (Or.none, 1, 1), (Or.none, 2, 1)]) (live := [2, 3, 4]) (ids := [0, 1, 2]) (σ' := ⟨[(2, (V.e (E.sc (S.ptr 0 0)))), (3, (V.e (E.sc (S.ptr 1 0)))), (4, (V.e (E.sc (S.ptr 2 0))))], [(some (Obj.box [(S.dat (D.bool a0)), (S.dat (D.sl a1))])), (some (Obj.box [(S.dat (D.bool b0)), (S.dat (D.sl b1))])), (some (Obj.box [(S.dat (D.bool false)), (S.dat (D.raw (.slice none 0 0)))]))], 9⟩) (obs := []) (by kernel_rfl) (by kernel_rfl) (by kernel_rfl) trivial ?_
  refine GoJ.seq ?_
  obtain ⟨r0, r1, r01, r11, h1, h2, h⟩ := h
  refine GoJ.drawV hmix hT (cnt := 0) (ins := [⟨Or.none, 0, 0, [], [2], [], []⟩, ⟨Or.none, 0, 0, [], [3], [], []⟩, ⟨(Or.call (V.e (E.agg [(S.dat (D.bool r0)), (S.dat (D.sl r1))])) [] []), 0, 0, [1], [6], [], []⟩, ⟨(Or.call (V.e (E.agg [(S.dat (D.bool r01)), (S.dat (D.sl r11))])) [] []), 0, 0, [0, 1, 2], [5, 7], [], []⟩, ⟨Or.none, 0, 0, [0, 1, 2, 3], [4, 8], [2], []⟩]) (live := [4]) (ids := [2]) (σ' := ⟨[(4, (V.e (E.sc (S.ptr 0 0))))], [(some (Obj.box [(S.dat (D.bool r01)), (S.dat (D.sl r11))]))], 9⟩) (obs := [FnD prog 100 [(V.e (E.agg [(S.dat (D.bool b0)), (S.dat (D.sl b1))]))] (V.e (E.agg [(S.dat (D.bool r0)), (S.dat (D.sl r1))])) [], FnD prog 106 [(V.e (E.agg [(S.dat (D.bool a0)), (S.dat (D.sl a1))])), (V.e (E.agg [(S.dat (D.bool r0)), (S.dat (D.sl r1))]))] (V.e (E.agg [(S.dat (D.bool r01)), (S.dat (D.sl r11))])) []]) (by kernel_rfl) (by kernel_rfl) (by kernel_rfl) ⟨h1, h2, trivial⟩ ?_
  exact GoJ.retV hT func109 (ids := []) (r := (V.e (E.agg [(S.dat (D.bool r01)), (S.dat (D.sl r11))]))) (r' := (V.e (E.agg [(S.dat (D.bool r01)), (S.dat (D.sl r11))]))) (σ' := ⟨[], [], 9⟩) (by kernel_rfl) (by kernel_rfl) (by kernel_rfl) (by kernel_rfl) (by kernel_rfl) h

/- f113 torsion/integer.Mul -/
def vc113 (a0 : Bool) (a1 : List (List D)) (b0 : Bool) (b1 : List (List D)) (R : V → Heap → Prop) : Prop :=
  (0 ≤ (IntKind.i64.wrap ((a1.length : Int) + (b1.length : Int))) ∧ (IntKind.i64.wrap ((a1.length : Int) + (b1.length : Int))) ≤ (IntKind.i64.wrap ((a1.length : Int) + (b1.length : Int))) ∧ (IntKind.i64.wrap ((a1.length : Int) + (b1.length : Int))) * (4 : Nat) ≤ 281474976710656) ∧
  (∃ (J0 : (List (List D)) → Int → Prop) (μ0 : (List (List D)) → Int → Nat),
  J0 (List.replicate ((IntKind.i64.wrap ((a1.length : Int) + (b1.length : Int)))).toNat [(D.int .u32 (0 : Int))]) (0 : Int) ∧ ∀ (out : List (List D)) (t22 : Int), J0 out t22 →
    ((decide (t22 < (a1.length : Int))) = true →
      ∃ (vx : Int),
      (0 ≤ t22 ∧ t22 < (a1.length : Int)) ∧
      (a1[(t22).toNat]? = some [(D.int .u32 vx)]) ∧
      (∃ (J1 : (List (List D)) → Int → Int → Prop) (μ1 : (List (List D)) → Int → Int → Nat),
      J1 out (0 : Int) (0 : Int) ∧ ∀ (out1 : List (List D)) (t30 : Int) (carry : Int), J1 out1 t30 carry →
        ((decide (t30 < (b1.length : Int))) = true →
          ∃ (vx1 : Int),
          (0 ≤ t30 ∧ t30 < (b1.length : Int)) ∧
          (b1[(t30).toNat]? = some [(D.int .u32 vx1)]) ∧
          (∃ (vx2 : Int),
          (0 ≤ (IntKind.i64.wrap (t22 + t30)) ∧ (IntKind.i64.wrap (t22 + t30)) < (out1.length : Int)) ∧
          (out1[((IntKind.i64.wrap (t22 + t30))).toNat]? = some [(D.int .u32 vx2)]) ∧
          ((0 ≤ (32 : Int)) ∧
          (J1 (out1.set ((IntKind.i64.wrap (t22 + t30))).toNat [(D.int .u32 (IntKind.u32.wrap (IntKind.u64.wrap (carry + (IntKind.u64.wrap ((IntKind.u64.wrap ((IntKind.u64.wrap vx) * (IntKind.u64.wrap vx1))) + (IntKind.u64.wrap vx2)))))))]) (IntKind.i64.wrap (t30 + (1 : Int))) ((IntKind.u64.wrap (carry + (IntKind.u64.wrap ((IntKind.u64.wrap ((IntKind.u64.wrap vx) * (IntKind.u64.wrap vx1))) + (IntKind.u64.wrap vx2))))).fdiv (2 ^ (min (32 : Int).toNat IntKind.u64.bits))) ∧ μ1 (out1.set ((IntKind.i64.wrap (t22 + t30))).toNat [(D.int .u32 (IntKind.u32.wrap (IntKind.u64.wrap (carry + (IntKind.u64.wrap ((IntKind.u64.wrap ((IntKind.u64.wrap vx) * (IntKind.u64.wrap vx1))) + (IntKind.u64.wrap vx2)))))))]) (IntKind.i64.wrap (t30 + (1 : Int))) ((IntKind.u64.wrap (carry + (IntKind.u64.wrap ((IntKind.u64.wrap ((IntKind.u64.wrap vx) * (IntKind.u64.wrap vx1))) + (IntKind.u64.wrap vx2))))).fdiv (2 ^ (min (32 : Int).toNat IntKind.u64.bits))) < μ1 out1 t30 carry)))) ∧
        ((decide (t30 < (b1.length : Int))) = false →
          (0 ≤ (IntKind.i64.wrap (t22 + (b1.length : Int))) ∧ (IntKind.i64.wrap (t22 + (b1.length : Int))) < (out1.length : Int)) ∧
          (J0 (out1.set ((IntKind.i64.wrap (t22 + (b1.length : Int)))).toNat [(D.int .u32 (IntKind.u32.wrap carry))]) (IntKind.i64.wrap (t22 + (1 : Int))) ∧ μ0 (out1.set ((IntKind.i64.wrap (t22 + (b1.length : Int)))).toNat [(D.int .u32 (IntKind.u32.wrap carry))]) (IntKind.i64.wrap (t22 + (1 : Int))) < μ0 out t22)))) ∧
    ((decide (t22 < (a1.length : Int))) = false →
      ∃ (r0 : Bool) (r1 : List (List D)),
      (FnD prog 144 [(V.e (E.sc (S.dat (D.sl out)))), (V.e (E.sc (S.dat (D.bool (!(a0 == b0))))))] (V.e (E.agg [(S.dat (D.bool r0)), (S.dat (D.sl r1))])) []) ∧
      (R (V.e (E.agg [(S.dat (D.bool r0)), (S.dat (D.sl r1))])) [])))

theorem vc113_ok (a0 : Bool) (a1 : List (List D)) (b0 : Bool) (b1 : List (List D)) {R : V → Heap → Prop} (h : vc113 a0 a1 b0 b1 R) : FnG prog 113 [(V.e (E.agg [(S.dat (D.bool a0)), (S.dat (D.sl a1))])), (V.e (E.agg [(S.dat (D.bool b0)), (S.dat (D.sl b1))]))] [] R := by
  unfold vc113 at h
  refine FnG.of (m := 77) (c := _) func113 rfl (by kernel_rfl) ntmps113 (Nat.le_of_ble_eq_true rfl) ?_
  refine GoJ.seq ?_
  refine GoJ.regV hT (cnt := 3) (ins := [(Or.none, 0, 1), (Or.none, 1, 1), (Or.none, 2, 1)]) (live := [2, 3, 4]) (ids := [0, 1, 2]) (σ' := ⟨[(2, (V.e (E.sc (S.ptr 0 0)))), (3, (V.e (E.sc (S.ptr 1 0)))), (4, (V.e (E.sc (S.ptr 2 0))))], [(some (Obj.box [(S.dat (D.bool a0)), (S.dat (D.sl a1))])), (some (Obj.box [(S.dat (D.bool b0)), (S.dat (D.sl b1))])), (some (Obj.box [(S.dat (D.bool false)), (S.dat (D.raw (.slice none 0 0)))]))], 77⟩) (obs := []) (by kernel_rfl) (by kernel_rfl) (by kernel_rfl) trivial ?_
  refine GoJ.seq ?_
  obtain ⟨h1, h⟩ := h
  refine GoJ.regV hT (cnt := 1) (ins := [o0, o0, o0, o0, o0, o0, o0, (Or.none, 3, 1), o0]) (live := [2, 3, 4, 5]) (ids := [0, 1, 2, 3]) (σ' := ⟨[(2, (V.e (E.sc (S.ptr 0 0)))), (3, (V.e (E.sc (S.ptr 1 0)))), (4, (V.e (E.sc (S.ptr 2 0)))), (5, (V.e (E.sc (S.ref 3))))], [(some (Obj.box [(S.dat (D.bool a0)), (S.dat (D.sl a1))])), (some (Obj.box [(S.dat (D.bool b0)), (S.dat (D.sl b1))])), (some (Obj.box [(S.dat (D.bool false)), (S.dat (D.raw (.slice none 0 0)))])), (some (Obj.arr 1 (List.replicate ((IntKind.i64.wrap ((a1.length : Int) + (b1.length : Int)))).toNat [(D.int .u32 (0 : Int))])))], 77⟩) (obs := [0 ≤ (IntKind.i64.wrap ((a1.length : Int) + (b1.length : Int))) ∧ (IntKind.i64.wrap ((a1.length : Int) + (b1.length : Int))) ≤ (IntKind.i64.wrap ((a1.length : Int) + (b1.length : Int))) ∧ (IntKind.i64.wrap ((a1.length : Int) + (b1.length : Int))) * (4 : Nat) ≤ 281474976710656]) (by kernel_rfl) (by kernel_rfl) (by kernel_rfl) ⟨h1, trivial⟩ ?_
  refine GoJ.seq ?_
  refine GoJ.seq ?_
  refine GoJ.regV hT (cnt := 0) (ins := [o0, o0, o0, o0]) (live := [2, 3, 4, 5, 20, 21, 22]) (ids := [0, 1, 2, 3]) (σ' := ⟨[(2, (V.e (E.sc (S.ptr 0 0)))), (3, (V.e (E.sc (S.ptr 1 0)))), (4, (V.e (E.sc (S.ptr 2 0)))), (5, (V.e (E.sc (S.ref 3)))), (20, (V.e (E.sc (S.dat (D.sl a1))))), (21, (V.e (E.sc (S.dat (D.int .i64 (a1.length : Int)))))), (22, (V.e (E.sc (S.dat (D.int .i64 (0 : Int))))))], [(some (Obj.box [(S.dat (D.bool a0)), (S.dat (D.sl a1))])), (some (Obj.box [(S.dat (D.bool b0)), (S.dat (D.sl b1))])), (some (Obj.box [(S.dat (D.bool false)), (S.dat (D.raw (.slice none 0 0)))])), (some (Obj.arr 1 (List.replicate ((IntKind.i64.wrap ((a1.length : Int) + (b1.length : Int)))).toNat [(D.int .u32 (0 : Int))])))], 77⟩) (obs := []) (by kernel_rfl) (by kernel_rfl) (by kernel_rfl) trivial ?_
  refine GoJ.block ?_
  obtain ⟨J0, μ0, hJ0, h⟩ := h
  refine GoJ.loop (X := (List (List D)) × Int) (fun x => (fun (out : List (List D)) (t22 : Int) => (⟨[(2, (V.e (E.sc (S.ptr 0 0)))), (3, (V.e (E.sc (S.ptr 1 0)))), (4, (V.e (E.sc (S.ptr 2 0)))), (5, (V.e (E.sc (S.ref 3)))), (20, (V.e (E.sc (S.dat (D.sl a1))))), (21, (V.e (E.sc (S.dat (D.int .i64 (a1.length : Int)))))), (22, (V.e (E.sc (S.dat (D.int .i64 t22)))))], [(some (Obj.box [(S.dat (D.bool a0)), (S.dat (D.sl a1))])), (some (Obj.box [(S.dat (D.bool b0)), (S.dat (D.sl b1))])), (some (Obj.box [(S.dat (D.bool false)), (S.dat (D.raw (.slice none 0 0)))])), (some (Obj.arr 1 out))], 77⟩ : St)) (x.1) (x.2)) (fun x => J0 (x.1) (x.2)) (fun x => μ0 (x.1) (x.2)) ((List.replicate ((IntKind.i64.wrap ((a1.length : Int) + (b1.length : Int)))).toNat [(D.int .u32 (0 : Int))]), (0 : Int)) hJ0 ?_
  rintro ⟨out, t22⟩ hJ0 ih0
  replace h := h out t22 hJ0
  refine GoJ.seq ?_
  refine GoJ.regV hT (cnt := 0) (ins := [o0]) (live := [2, 3, 4, 5, 20, 21, 22, 23]) (ids := [0, 1, 2, 3]) (σ' := ⟨[(2, (V.e (E.sc (S.ptr 0 0)))), (3, (V.e (E.sc (S.ptr 1 0)))), (4, (V.e (E.sc (S.ptr 2 0)))), (5, (V.e (E.sc (S.ref 3)))), (20, (V.e (E.sc (S.dat (D.sl a1))))), (21, (V.e (E.sc (S.dat (D.int .i64 (a1.length : Int)))))), (22, (V.e (E.sc (S.dat (D.int .i64 t22))))), (23, (V.e (E.sc (S.dat (D.bool (decide (t22 < (a1.length : Int))))))))], [(some (Obj.box [(S.dat (D.bool a0)), (S.dat (D.sl a1))])), (some (Obj.box [(S.dat (D.bool b0)), (S.dat (D.sl b1))])), (some (Obj.box [(S.dat (D.bool false)), (S.dat (D.raw (.slice none 0 0)))])), (some (Obj.arr 1 out))], 77⟩) (obs := []) (by kernel_rfl) (by kernel_rfl) (by kernel_rfl) trivial ?_
  refine GoJ.seq ?_
  refine GoJ.cond (t := (decide (t22 < (a1.length : Int)))) (by kernel_rfl) (fun h2 => ?_) (fun h2 => ?_)
  · replace h := h.1 h2
    refine GoJ.skip ?_
    refine GoJ.seq ?_
    refine GoJ.block ?_
    refine GoJ.seq ?_
    obtain ⟨vx, h3, h4, h⟩ := h
    refine GoJ.regV hT (cnt := 0) (ins := [o0, o0, ((Or.cells [(D.int .u32 vx)]), 0, 0), o0, o0]) (live := [2, 3, 4, 5, 6, 7, 20, 21, 22]) (ids := [0, 1, 2, 3]) (σ' := ⟨[(2, (V.e (E.sc (S.ptr 0 0)))), (3, (V.e (E.sc (S.ptr 1 0)))), (4, (V.e (E.sc (S.ptr 2 0)))), (5, (V.e (E.sc (S.ref 3)))), (6, (V.e (E.sc (S.dat (D.int .i64 t22))))), (7, (V.e (E.sc (S.dat (D.int .u32 vx))))), (20, (V.e (E.sc (S.dat (D.sl a1))))), (21, (V.e (E.sc (S.dat (D.int .i64 (a1.length : Int)))))), (22, (V.e (E.sc (S.dat (D.int .i64 t22)))))], [(some (Obj.box [(S.dat (D.bool a0)), (S.dat (D.sl a1))])), (some (Obj.box [(S.dat (D.bool b0)), (S.dat (D.sl b1))])), (some (Obj.box [(S.dat (D.bool false)), (S.dat (D.raw (.slice none 0 0)))])), (some (Obj.arr 1 out))], 77⟩) (obs := [0 ≤ t22 ∧ t22 < (a1.length : Int), a1[(t22).toNat]? = some [(D.int .u32 vx)]]) (by kernel_rfl) (by kernel_rfl) (by kernel_rfl) ⟨h3, h4, trivial⟩ ?_
    refine GoJ.seq ?_
    refine GoJ.regV hT (cnt := 0) (ins := [o0]) (live := [2, 3, 4, 5, 6, 7, 8, 20, 21, 22]) (ids := [0, 1, 2, 3]) (σ' := ⟨[(2, (V.e (E.sc (S.ptr 0 0)))), (3, (V.e (E.sc (S.ptr 1 0)))), (4, (V.e (E.sc (S.ptr 2 0)))), (5, (V.e (E.sc (S.ref 3)))), (6, (V.e (E.sc (S.dat (D.int .i64 t22))))), (7, (V.e (E.sc (S.dat (D.int .u32 vx))))), (8, (V.e (E.sc (S.dat (D.int .u64 (0 : Int)))))), (20, (V.e (E.sc (S.dat (D.sl a1))))), (21, (V.e (E.sc (S.dat (D.int .i64 (a1.length : Int)))))), (22, (V.e (E.sc (S.dat (D.int .i64 t22)))))], [(some (Obj.box [(S.dat (D.bool a0)), (S.dat (D.sl a1))])), (some (Obj.box [(S.dat (D.bool b0)), (S.dat (D.sl b1))])), (some (Obj.box [(S.dat (D.bool false)), (S.dat (D.raw (.slice none 0 0)))])), (some (Obj.arr 1 out))], 77⟩) (obs := []) (by kernel_rfl) (by kernel_rfl) (by kernel_rfl) trivial ?_
    refine GoJ.seq ?_
    refine GoJ.seq ?_
    refine GoJ.regV hT (cnt := 0) (ins := [o0, o0, o0, o0]) (live := [2, 3, 4, 5, 6, 7, 8, 20, 21, 22, 28, 29, 30]) (ids := [0, 1, 2, 3]) (σ' := ⟨[(2, (V.e (E.sc (S.ptr 0 0)))), (3, (V.e (E.sc (S.ptr 1 0)))), (4, (V.e (E.sc (S.ptr 2 0)))), (5, (V.e (E.sc (S.ref 3)))), (6, (V.e (E.sc (S.dat (D.int .i64 t22))))), (7, (V.e (E.sc (S.dat (D.int .u32 vx))))), (8, (V.e (E.sc (S.dat (D.int .u64 (0 : Int)))))), (20, (V.e (E.sc (S.dat (D.sl a1))))), (21, (V.e (E.sc (S.dat (D.int .i64 (a1.length : Int)))))), (22, (V.e (E.sc (S.dat (D.int .i64 t22))))), (28, (V.e (E.sc (S.dat (D.sl b1))))), (29, (V.e (E.sc (S.dat (D.int .i64 (b1.length : Int)))))), (30, (V.e (E.sc (S.dat (D.int .i64 (0 : Int))))))], [(some (Obj.box [(S.dat (D.bool a0)), (S.dat (D.sl a1))])), (some (Obj.box [(S.dat (D.bool b0)), (S.dat (D.sl b1))])), (some (Obj.box [(S.dat (D.bool false)), (S.dat (D.raw (.slice none 0 0)))])), (some (Obj.arr 1 out))], 77⟩) (obs := []) (by kernel_rfl) (by kernel_rfl) (by kernel_rfl) trivial ?_
    refine GoJ.block ?_
    obtain ⟨J1, μ1, hJ1, h⟩ := h
    refine GoJ.loop (X := (List (List D)) × Int × Int) (fun x => (fun (out1 : List (List D)) (t30 : Int) (carry : Int) => (⟨[(2, (V.e (E.sc (S.ptr 0 0)))), (3, (V.e (E.sc (S.ptr 1 0)))), (4, (V.e (E.sc (S.ptr 2 0)))), (5, (V.e (E.sc (S.ref 3)))), (6, (V.e (E.sc (S.dat (D.int .i64 t22))))), (7, (V.e (E.sc (S.dat (D.int .u32 vx))))), (8, (V.e (E.sc (S.dat (D.int .u64 carry))))), (20, (V.e (E.sc (S.dat (D.sl a1))))), (21, (V.e (E.sc (S.dat (D.int .i64 (a1.length : Int)))))), (22, (V.e (E.sc (S.dat (D.int .i64 t22))))), (28, (V.e (E.sc (S.dat (D.sl b1))))), (29, (V.e (E.sc (S.dat (D.int .i64 (b1.length : Int)))))), (30, (V.e (E.sc (S.dat (D.int .i64 t30)))))], [(some (Obj.box [(S.dat (D.bool a0)), (S.dat (D.sl a1))])), (some (Obj.box [(S.dat (D.bool b0)), (S.dat (D.sl b1))])), (some (Obj.box [(S.dat (D.bool false)), (S.dat (D.raw (.slice none 0 0)))])), (some (Obj.arr 1 out1))], 77⟩ : St)) (x.1) (x.2.1) (x.2.2)) (fun x => J1 (x.1) (x.2.1) (x.2.2)) (fun x => μ1 (x.1) (x.2.1) (x.2.2)) (out, (0 : Int), (0 : Int)) hJ1 ?_
    rintro ⟨out1, t30, carry⟩ hJ1 ih1
    replace h := h out1 t30 carry hJ1
    refine GoJ.seq ?_
    refine GoJ.regV hT (cnt := 0) (ins := [o0]) (live := [2, 3, 4, 5, 6, 7, 8, 20, 21, 22, 28, 29, 30, 31]) (ids := [0, 1, 2, 3]) (σ' := ⟨[(2, (V.e (E.sc (S.ptr 0 0)))), (3, (V.e (E.sc (S.ptr 1 0)))), (4, (V.e (E.sc (S.ptr 2 0)))), (5, (V.e (E.sc (S.ref 3)))), (6, (V.e (E.sc (S.dat (D.int .i64 t22))))), (7, (V.e (E.sc (S.dat (D.int .u32 vx))))), (8, (V.e (E.sc (S.dat (D.int .u64 carry))))), (20, (V.e (E.sc (S.dat (D.sl a1))))), (21, (V.e (E.sc (S.dat (D.int .i64 (a1.length : Int)))))), (22, (V.e (E.sc (S.dat (D.int .i64 t22))))), (28, (V.e (E.sc (S.dat (D.sl b1))))), (29, (V.e (E.sc (S.dat (D.int .i64 (b1.length : Int)))))), (30, (V.e (E.sc (S.dat (D.int .i64 t30))))), (31, (V.e (E.sc (S.dat (D.bool (decide (t30 < (b1.length : Int))))))))], [(some (Obj.box [(S.dat (D.bool a0)), (S.dat (D.sl a1))])), (some (Obj.box [(S.dat (D.bool b0)), (S.dat (D.sl b1))])), (some (Obj.box [(S.dat (D.bool false)), (S.dat (D.raw (.slice none 0 0)))])), (some (Obj.arr 1 out1))], 77⟩) (obs := []) (by kernel_rfl) (by kernel_rfl) (by kernel_rfl) trivial ?_
    refine GoJ.seq ?_
    refine GoJ.cond (t := (decide (t30 < (b1.length : Int)))) (by kernel_rfl) (fun h5 => ?_) (fun h5 => ?_)
    · replace h := h.1 h5
      refine GoJ.skip ?_
      refine GoJ.seq ?_
      refine GoJ.block ?_
      refine GoJ.seq ?_
      obtain ⟨vx1, h6, h7, h⟩ := h
      refine GoJ.regV hT (cnt := 0) (ins := [o0, o0, ((Or.cells [(D.int .u32 vx1)]), 0, 0), o0, o0]) (live := [2, 3, 4, 5, 6, 7, 8, 9, 10, 20, 21, 22, 28, 29, 30]) (ids := [0, 1, 2, 3]) (σ' := ⟨[(2, (V.e (E.sc (S.ptr 0 0)))), (3, (V.e (E.sc (S.ptr 1 0)))), (4, (V.e (E.sc (S.ptr 2 0)))), (5, (V.e (E.sc (S.ref 3)))), (6, (V.e (E.sc (S.dat (D.int .i64 t22))))), (7, (V.e (E.sc (S.dat (D.int .u32 vx))))), (8, (V.e (E.sc (S.dat (D.int .u64 carry))))), (9, (V.e (E.sc (S.dat (D.int .i64 t30))))), (10, (V.e (E.sc (S.dat (D.int .u32 vx1))))), (20, (V.e (E.sc (S.dat (D.sl a1))))), (21, (V.e (E.sc (S.dat (D.int .i64 (a1.length : Int)))))), (22, (V.e (E.sc (S.dat (D.int .i64 t22))))), (28, (V.e (E.sc (S.dat (D.sl b1))))), (29, (V.e (E.sc (S.dat (D.int .i64 (b1.length : Int)))))), (30, (V.e (E.sc (S.dat (D.int .i64 t30)))))], [(some (Obj.box [(S.dat (D.bool a0)), (S.dat (D.sl a1))])), (some (Obj.box [(S.dat (D.bool b0)), (S.dat (D.sl b1))])), (some (Obj.box [(S.dat (D.bool false)), (S.dat (D.raw (.slice none 0 0)))])), (some (Obj.arr 1 out1))], 77⟩) (obs := [0 ≤ t30 ∧ t30 < (b1.length : Int), b1[(t30).toNat]? = some [(D.int .u32 vx1)]]) (by kernel_rfl) (by kernel_rfl) (by kernel_rfl) ⟨h6, h7, trivial⟩ ?_
      refine GoJ.seq ?_
      obtain ⟨vx2, h8, h9, h⟩ := h
      refine GoJ.regV hT (cnt := 0) (ins := [o0, o0, o0, o0, o0, o0, o0, o0, o0, o0, o0, ((Or.cells [(D.int .u32 vx2)]), 0, 0), o0, o0, o0, o0]) (live := [2, 3, 4, 5, 6, 7, 8, 9, 20, 21, 22, 28, 29, 30]) (ids := [0, 1, 2, 3]) (σ' := ⟨[(2, (V.e (E.sc (S.ptr 0 0)))), (3, (V.e (E.sc (S.ptr 1 0)))), (4, (V.e (E.sc (S.ptr 2 0)))), (5, (V.e (E.sc (S.ref 3)))), (6, (V.e (E.sc (S.dat (D.int .i64 t22))))), (7, (V.e (E.sc (S.dat (D.int .u32 vx))))), (8, (V.e (E.sc (S.dat (D.int .u64 (IntKind.u64.wrap (carry + (IntKind.u64.wrap ((IntKind.u64.wrap ((IntKind.u64.wrap vx) * (IntKind.u64.wrap vx1))) + (IntKind.u64.wrap vx2)))))))))), (9, (V.e (E.sc (S.dat (D.int .i64 t30))))), (20, (V.e (E.sc (S.dat (D.sl a1))))), (21, (V.e (E.sc (S.dat (D.int .i64 (a1.length : Int)))))), (22, (V.e (E.sc (S.dat (D.int .i64 t22))))), (28, (V.e (E.sc (S.dat (D.sl b1))))), (29, (V.e (E.sc (S.dat (D.int .i64 (b1.length : Int)))))), (30, (V.e (E.sc (S.dat (D.int .i64 t30)))))], [(some (Obj.box [(S.dat (D.bool a0)), (S.dat (D.sl a1))])), (some (Obj.box [(S.dat (D.bool b0)), (S.dat (D.sl b1))])), (some (Obj.box [(S.dat (D.bool false)), (S.dat (D.raw (.slice none 0 0)))])), (some (Obj.arr 1 out1))], 77⟩) (obs := [0 ≤ (IntKind.i64.wrap (t22 + t30)) ∧ (IntKind.i64.wrap (t22 + t30)) < (out1.length : Int), out1[((IntKind.i64.wrap (t22 + t30))).toNat]? = some [(D.int .u32 vx2)]]) (by kernel_rfl) (by kernel_rfl) (by kernel_rfl) ⟨h8, h9, trivial⟩ ?_
      refine GoJ.seq ?_
      refine GoJ.regV hT (cnt := 0) (ins := [o0, o0, o0, o0, o0, o0, o0, o0]) (live := [2, 3, 4, 5, 6, 7, 8, 20, 21, 22, 28, 29, 30]) (ids := [0, 1, 2, 3]) (σ' := ⟨[(2, (V.e (E.sc (S.ptr 0 0)))), (3, (V.e (E.sc (S.ptr 1 0)))), (4, (V.e (E.sc (S.ptr 2 0)))), (5, (V.e (E.sc (S.ref 3)))), (6, (V.e (E.sc (S.dat (D.int .i64 t22))))), (7, (V.e (E.sc (S.dat (D.int .u32 vx))))), (8, (V.e (E.sc (S.dat (D.int .u64 (IntKind.u64.wrap (carry + (IntKind.u64.wrap ((IntKind.u64.wrap ((IntKind.u64.wrap vx) * (IntKind.u64.wrap vx1))) + (IntKind.u64.wrap vx2)))))))))), (20, (V.e (E.sc (S.dat (D.sl a1))))), (21, (V.e (E.sc (S.dat (D.int .i64 (a1.length : Int)))))), (22, (V.e (E.sc (S.dat (D.int .i64 t22))))), (28, (V.e (E.sc (S.dat (D.sl b1))))), (29, (V.e (E.sc (S.dat (D.int .i64 (b1.length : Int)))))), (30, (V.e (E.sc (S.dat (D.int .i64 t30)))))], [(some (Obj.box [(S.dat (D.bool a0)), (S.dat (D.sl a1))])), (some (Obj.box [(S.dat (D.bool b0)), (S.dat (D.sl b1))])), (some (Obj.box [(S.dat (D.bool false)), (S.dat (D.raw (.slice none 0 0)))])), (some (Obj.arr 1 (out1.set ((IntKind.i64.wrap (t22 + t30))).toNat [(D.int .u32 (IntKind.u32.wrap (IntKind.u64.wrap (carry + (IntKind.u64.wrap ((IntKind.u64.wrap ((IntKind.u64.wrap vx) * (IntKind.u64.wrap vx1))) + (IntKind.u64.wrap vx2)))))))])))], 77⟩) (obs := [0 ≤ (IntKind.i64.wrap (t22 + t30)) ∧ (IntKind.i64.wrap (t22 + t30)) < (out1.length : Int)]) (by kernel_rfl) (by kernel_rfl) (by kernel_rfl) ⟨h8, trivial⟩ ?_
      obtain ⟨h10, h⟩ := h
      refine GoJ.regV hT (cnt := 0) (ins := [o0, o0, o0]) (live := [2, 3, 4, 5, 6, 7, 8, 20, 21, 22, 28, 29, 30]) (ids := [0, 1, 2, 3]) (σ' := ⟨[(2, (V.e (E.sc (S.ptr 0 0)))), (3, (V.e (E.sc (S.ptr 1 0)))), (4, (V.e (E.sc (S.ptr 2 0)))), (5, (V.e (E.sc (S.ref 3)))), (6, (V.e (E.sc (S.dat (D.int .i64 t22))))), (7, (V.e (E.sc (S.dat (D.int .u32 vx))))), (8, (V.e (E.sc (S.dat (D.int .u64 ((IntKind.u64.wrap (carry + (IntKind.u64.wrap ((IntKind.u64.wrap ((IntKind.u64.wrap vx) * (IntKind.u64.wrap vx1))) + (IntKind.u64.wrap vx2))))).fdiv (2 ^ (min (32 : Int).toNat IntKind.u64.bits)))))))), (20, (V.e (E.sc (S.dat (D.sl a1))))), (21, (V.e (E.sc (S.dat (D.int .i64 (a1.length : Int)))))), (22, (V.e (E.sc (S.dat (D.int .i64 t22))))), (28, (V.e (E.sc (S.dat (D.sl b1))))), (29, (V.e (E.sc (S.dat (D.int .i64 (b1.length : Int)))))), (30, (V.e (E.sc (S.dat (D.int .i64 t30)))))], [(some (Obj.box [(S.dat (D.bool a0)), (S.dat (D.sl a1))])), (some (Obj.box [(S.dat (D.bool b0)), (S.dat (D.sl b1))])), (some (Obj.box [(S.dat (D.bool false)), (S.dat (D.raw (.slice none 0 0)))])), (some (Obj.arr 1 (out1.set ((IntKind.i64.wrap (t22 + t30))).toNat [(D.int .u32 (IntKind.u32.wrap (IntKind.u64.wrap (carry + (IntKind.u64.wrap ((IntKind.u64.wrap ((IntKind.u64.wrap vx) * (IntKind.u64.wrap vx1))) + (IntKind.u64.wrap vx2)))))))])))], 77⟩) (obs := [0 ≤ (32 : Int)]) (by kernel_rfl) (by kernel_rfl) (by kernel_rfl) ⟨h10, trivial⟩ ?_
      refine GoJ.inBlock ?_
      refine GoJ.regV hT (cnt := 0) (ins := [o0, o0]) (live := [2, 3, 4, 5, 6, 7, 8, 20, 21, 22, 28, 29, 30]) (ids := [0, 1, 2, 3]) (σ' := ⟨[(2, (V.e (E.sc (S.ptr 0 0)))), (3, (V.e (E.sc (S.ptr 1 0)))), (4, (V.e (E.sc (S.ptr 2 0)))), (5, (V.e (E.sc (S.ref 3)))), (6, (V.e (E.sc (S.dat (D.int .i64 t22))))), (7, (V.e (E.sc (S.dat (D.int .u32 vx))))), (8, (V.e (E.sc (S.dat (D.int .u64 ((IntKind.u64.wrap (carry + (IntKind.u64.wrap ((IntKind.u64.wrap ((IntKind.u64.wrap vx) * (IntKind.u64.wrap vx1))) + (IntKind.u64.wrap vx2))))).fdiv (2 ^ (min (32 : Int).toNat IntKind.u64.bits)))))))), (20, (V.e (E.sc (S.dat (D.sl a1))))), (21, (V.e (E.sc (S.dat (D.int .i64 (a1.length : Int)))))), (22, (V.e (E.sc (S.dat (D.int .i64 t22))))), (28, (V.e (E.sc (S.dat (D.sl b1))))), (29, (V.e (E.sc (S.dat (D.int .i64 (b1.length : Int)))))), (30, (V.e (E.sc (S.dat (D.int .i64 (IntKind.i64.wrap (t30 + (1 : Int))))))))], [(some (Obj.box [(S.dat (D.bool a0)), (S.dat (D.sl a1))])), (some (Obj.box [(S.dat (D.bool b0)), (S.dat (D.sl b1))])), (some (Obj.box [(S.dat (D.bool false)), (S.dat (D.raw (.slice none 0 0)))])), (some (Obj.arr 1 (out1.set ((IntKind.i64.wrap (t22 + t30))).toNat [(D.int .u32 (IntKind.u32.wrap (IntKind.u64.wrap (carry + (IntKind.u64.wrap ((IntKind.u64.wrap ((IntKind.u64.wrap vx) * (IntKind.u64.wrap vx1))) + (IntKind.u64.wrap vx2)))))))])))], 77⟩) (obs := []) (by kernel_rfl) (by kernel_rfl) (by kernel_rfl) trivial ?_
      exact ih1 ((out1.set ((IntKind.i64.wrap (t22 + t30))).toNat [(D.int .u32 (IntKind.u32.wrap (IntKind.u64.wrap (carry + (IntKind.u64.wrap ((IntKind.u64.wrap ((IntKind.u64.wrap vx) * (IntKind.u64.wrap vx1))) + (IntKind.u64.wrap vx2)))))))]), (IntKind.i64.wrap (t30 + (1 : Int))), ((IntKind.u64.wrap (carry + (IntKind.u64.wrap ((IntKind.u64.wrap ((IntKind.u64.wrap vx) * (IntKind.u64.wrap vx1))) + (IntKind.u64.wrap vx2))))).fdiv (2 ^ (min (32 : Int).toNat IntKind.u64.bits)))) h.1 h.2
    · replace h := h.2 h5
      refine GoJ.exit rfl ?_
      obtain ⟨h11, h⟩ := h
      refine GoJ.regV hT (cnt := 0) (ins := [o0, o0, o0, o0, o0, o0, o0, o0, o0, o0]) (live := [2, 3, 4, 5, 20, 21, 22]) (ids := [0, 1, 2, 3]) (σ' := ⟨[(2, (V.e (E.sc (S.ptr 0 0)))), (3, (V.e (E.sc (S.ptr 1 0)))), (4, (V.e (E.sc (S.ptr 2 0)))), (5, (V.e (E.sc (S.ref 3)))), (20, (V.e (E.sc (S.dat (D.sl a1))))), (21, (V.e (E.sc (S.dat (D.int .i64 (a1.length : Int)))))), (22, (V.e (E.sc (S.dat (D.int .i64 t22)))))], [(some (Obj.box [(S.dat (D.bool a0)), (S.dat (D.sl a1))])), (some (Obj.box [(S.dat (D.bool b0)), (S.dat (D.sl b1))])), (some (Obj.box [(S.dat (D.bool false)), (S.dat (D.raw (.slice none 0 0)))])), (some (Obj.arr 1 (out1.set ((IntKind.i64.wrap (t22 + (b1.length : Int)))).toNat [(D.int .u32 (IntKind.u32.wrap carry))])))], 77⟩) (obs := [0 ≤ (IntKind.i64.wrap (t22 + (b1.length : Int))) ∧ (IntKind.i64.wrap (t22 + (b1.length : Int))) < (out1.length : Int)]) (by kernel_rfl) (by kernel_rfl) (by kernel_rfl) ⟨h11, trivial⟩ ?_
      refine GoJ.inBlock ?_
      refine GoJ.regV hT (cnt := 0) (ins := [o0, o0]) (live := [2, 3, 4, 5, 20, 21, 22]) (ids := [0, 1, 2, 3]) (σ' := ⟨[(2, (V.e (E.sc (S.ptr 0 0)))), (3, (V.e (E.sc (S.ptr 1 0)))), (4, (V.e (E.sc (S.ptr 2 0)))), (5, (V.e (E.sc (S.ref 3)))), (20, (V.e (E.sc (S.dat (D.sl a1))))), (21, (V.e (E.sc (S.dat (D.int .i64 (a1.length : Int)))))), (22, (V.e (E.sc (S.dat (D.int .i64 (IntKind.i64.wrap (t22 + (1 : Int))))))))], [(some (Obj.box [(S.dat (D.bool a0)), (S.dat (D.sl a1))])), (some (Obj.box [(S.dat (D.bool b0)), (S.dat (D.sl b1))])), (some (Obj.box [(S.dat (D.bool false)), (S.dat (D.raw (.slice none 0 0)))])), (some (Obj.arr 1 (out1.set ((IntKind.i64.wrap (t22 + (b1.length : Int)))).toNat [(D.int .u32 (IntKind.u32.wrap carry))])))], 77⟩) (obs := []) (by kernel_rfl) (by kernel_rfl) (by kernel_rfl) trivial ?_
      exact ih0 ((out1.set ((IntKind.i64.wrap (t22 + (b1.length : Int)))).toNat [(D.int .u32 (IntKind.u32.wrap carry))]), (IntKind.i64.wrap (t22 + (1 : Int)))) h.1 h.2
  · replace h := h.2 h2
    refine GoJ.exit rfl ?_
    refine GoJ.seq ?_
    refine GoJ.wk (xfreeze_ok (ids := [3]) (σ' := ⟨[(2, (V.e (E.sc (S.ptr 0 0)))), (3, (V.e (E.sc (S.ptr 1 0)))), (4, (V.e (E.sc (S.ptr 2 0)))), (5, (V.e (E.sc (S.dat (D.sl out))))), (20, (V.e (E.sc (S.dat (D.sl a1))))), (21, (V.e (E.sc (S.dat (D.int .i64 (a1.length : Int)))))), (22, (V.e (E.sc (S.dat (D.int .i64 t22))))), (23, (V.e (E.sc (S.dat (D.bool (decide (t22 < (a1.length : Int))))))))], [(some (Obj.box [(S.dat (D.bool a0)), (S.dat (D.sl a1))])), (some (Obj.box [(S.dat (D.bool b0)), (S.dat (D.sl b1))])), (some (Obj.box [(S.dat (D.bool false)), (S.dat (D.raw (.slice none 0 0)))])), none], 77⟩) (by kernel_rfl)) ?_
    obtain ⟨r0, r1, h12, h⟩ := h
    refine GoJ.regV hT (cnt := 0) (ins := [o0, o0, o0, o0, o0, o0, ((Or.call (V.e (E.agg [(S.dat (D.bool r0)), (S.dat (D.sl r1))])) [] []), 0, 0), o0]) (live := [4]) (ids := [2]) (σ' := ⟨[(4, (V.e (E.sc (S.ptr 0 0))))], [(some (Obj.box [(S.dat (D.bool r0)), (S.dat (D.sl r1))]))], 77⟩) (obs := [FnD prog 144 [(V.e (E.sc (S.dat (D.sl out)))), (V.e (E.sc (S.dat (D.bool (!(a0 == b0))))))] (V.e (E.agg [(S.dat (D.bool r0)), (S.dat (D.sl r1))])) []]) (by kernel_rfl) (by kernel_rfl) (by kernel_rfl) ⟨h12, trivial⟩ ?_
    exact GoJ.retV hT func113 (ids := []) (r := (V.e (E.agg [(S.dat (D.bool r0)), (S.dat (D.sl r1))]))) (r' := (V.e (E.agg [(S.dat (D.bool r0)), (S.dat (D.sl r1))]))) (σ' := ⟨[], [], 77⟩) (by kernel_rfl) (by kernel_rfl) (by kernel_rfl) (by kernel_rfl) (by kernel_rfl) h

end Go.AM
