/- Integers, rows and matrices as the program holds them; digits to the base 2^32. -/
import Derived.Test.YtipnbapgfbghgaaGreatA1
import Derived.Test.YtipnbapgfbghgaaGreatProg
import Derived.KernelRfl
namespace Go.AM
def val : List Nat → Nat
  | [] => 0
  | x :: l => x + 4294967296 * val l
def digsF : Nat → Nat → List Nat
  | 0, _ => []
  | f + 1, n => if n = 0 then [] else n % 4294967296 :: digsF f (n / 4294967296)
def digs (n : Nat) : List Nat := digsF n n
theorem val_digsF : ∀ f n, n ≤ f → val (digsF f n) = n
  | 0, n, h => by have : n = 0 := by omega
                  subst this; rfl
  | f + 1, n, h => by
    unfold digsF
    split
    · rename_i h0; subst h0; rfl
    · rename_i h0
      simp only [val]
      rw [val_digsF f (n / 4294967296) (by have := Nat.div_lt_self (n := n) (k := 4294967296) (by omega) (by decide); omega)]
      exact Nat.mod_add_div n 4294967296
theorem val_digs (n : Nat) : val (digs n) = n := val_digsF n n (Nat.le_refl n)
theorem digsF_lt : ∀ f n, ∀ x ∈ digsF f n, x < 4294967296
  | 0, n, x, h => by simp [digsF] at h
  | f + 1, n, x, h => by
    unfold digsF at h
    split at h
    · simp at h
    · simp only [List.mem_cons] at h
      rcases h with rfl | h
      · exact Nat.mod_lt _ (by decide)
      · exact digsF_lt f _ x h
theorem digs_lt (n : Nat) : ∀ x ∈ digs n, x < 4294967296 := digsF_lt n n
def canon (l : List Nat) : Prop := ∀ x, l.getLast? = some x → x ≠ 0
theorem canon_tail {x : Nat} {l : List Nat} (h : canon (x :: l)) : canon l := fun y hy => h y (by
  cases l with
  | nil => simp at hy
  | cons z t => simpa [List.getLast?_cons_cons] using hy)
theorem val_eq_zero : ∀ {l : List Nat}, canon l → val l = 0 → l = []
  | [], _, _ => rfl
  | x :: l, hc, h => by
    simp only [val] at h
    have h1 : x = 0 := by omega
    have h2 : val l = 0 := by
      rcases Nat.eq_zero_or_pos (val l) with h2 | h2
      · exact h2
      · omega
    have h3 := val_eq_zero (canon_tail hc) h2
    subst h3; subst h1
    exact absurd rfl (hc 0 (by simp))
theorem digsF_val : ∀ (l : List Nat) f, (∀ x ∈ l, x < 4294967296) → canon l → val l ≤ f → digsF f (val l) = l
  | [], f, _, _, _ => by cases f <;> simp [digsF, val]
  | x :: l, f, hx, hc, hf => by
    have hv : val (x :: l) ≠ 0 := fun h => by have := val_eq_zero hc h; simp at this
    cases f with
    | zero => omega
    | succ f =>
      have hxl := hx x (by simp)
      have h1 : (x + 4294967296 * val l) % 4294967296 = x := by rw [Nat.add_mul_mod_self_left, Nat.mod_eq_of_lt hxl]
      have h2 : (x + 4294967296 * val l) / 4294967296 = val l := by rw [Nat.add_mul_div_left _ _ (by decide), Nat.div_eq_of_lt hxl, Nat.zero_add]
      simp only [val] at hv hf ⊢
      unfold digsF
      rw [if_neg hv, h1, h2, digsF_val l f (fun y hy => hx y (by simp [hy])) (canon_tail hc) (by omega)]
theorem digs_val {l : List Nat} (hx : ∀ x ∈ l, x < 4294967296) (hc : canon l) : digs (val l) = l := digsF_val l _ hx hc (Nat.le_refl _)
theorem digsF_canon : ∀ f n, n ≤ f → canon (digsF f n)
  | 0, n, _, x, h => by simp [digsF] at h
  | f + 1, n, hn, x, h => by
    unfold digsF at h
    split at h
    · simp at h
    · rename_i h0
      have hlt : n / 4294967296 < n := Nat.div_lt_self (by omega) (by decide)
      rw [List.getLast?_cons] at h
      cases hd : (digsF f (n / 4294967296)).getLast? with
      | some y =>
        rw [hd] at h; simp only [Option.getD_some, Option.some.injEq] at h; subst h
        exact digsF_canon f (n / 4294967296) (by omega) y hd
      | none =>
        rw [hd] at h; simp only [Option.getD_none, Option.some.injEq] at h; subst h
        have hnil : digsF f (n / 4294967296) = [] := List.getLast?_eq_none_iff.1 hd
        have hz : n / 4294967296 = 0 := by have := val_digsF f (n / 4294967296) (by omega); rw [hnil] at this; exact this.symm
        have := Nat.mod_add_div n 4294967296
        rw [hz] at this
        omega
theorem digs_canon (n : Nat) : canon (digs n) := digsF_canon n n (Nat.le_refl n)
theorem digs_zero : digs 0 = [] := rfl
theorem digs_nil {n : Nat} : digs n = [] ↔ n = 0 := ⟨fun h => by have := val_digs n; rw [h] at this; exact this.symm, fun h => by subst h; rfl⟩
theorem val_append : ∀ a b : List Nat, val (a ++ b) = val a + 4294967296 ^ a.length * val b
  | [], b => by simp [val]
  | x :: a, b => by
    simp only [List.cons_append, val, val_append a b, List.length_cons, Nat.pow_succ, Nat.mul_add]
    rw [Nat.mul_comm (4294967296 ^ a.length) 4294967296, Nat.mul_assoc]; omega
theorem val_lt : ∀ {l : List Nat}, (∀ x ∈ l, x < 4294967296) → val l < 4294967296 ^ l.length
  | [], _ => by simp [val]
  | x :: l, h => by
    have h1 := h x (by simp)
    have h2 := val_lt (l := l) fun y hy => h y (by simp [hy])
    simp only [val, List.length_cons, Nat.pow_succ]
    have : 4294967296 * (val l + 1) ≤ 4294967296 * 4294967296 ^ l.length := Nat.mul_le_mul_left _ h2
    rw [Nat.mul_comm (4294967296 ^ l.length)]
    generalize 4294967296 ^ l.length = q at *
    omega
theorem digs_len {n k : Nat} (h : n < 4294967296 ^ k) : (digs n).length ≤ k := by
  rcases Nat.lt_or_ge k (digs n).length with hlt | hge
  · exfalso
    have hv := val_digs n
    have hc := digs_canon n
    obtain ⟨q, hq⟩ : ∃ q, (digs n).length = q + 1 := ⟨(digs n).length - 1, by omega⟩
    have hsplit : digs n = (digs n).take q ++ (digs n).drop q := (List.take_append_drop _ _).symm
    have hdl : ((digs n).drop q).length = 1 := by simp [hq]
    obtain ⟨x, hx⟩ := List.length_eq_one_iff.1 hdl
    have hx0 : x ≠ 0 := hc x (by rw [hsplit, hx]; simp)
    rw [hsplit, val_append, hx] at hv
    simp only [val, Nat.mul_zero, Nat.add_zero, List.length_take] at hv
    have h1 : 4294967296 ^ k ≤ 4294967296 ^ q := Nat.pow_le_pow_right (by decide) (by omega)
    rw [Nat.min_eq_left (by omega)] at hv
    have h2 : 4294967296 ^ q * 1 ≤ 4294967296 ^ q * x := Nat.mul_le_mul_left _ (by omega)
    omega
  · exact hge
def lim (l : List Nat) : DL := l.map fun (x : Nat) => [D.int .u32 (x : Int)]
theorem lim_length (l : List Nat) : (lim l).length = l.length := by simp [lim]
theorem lim_take (l : List Nat) (n : Nat) : (lim l).take n = lim (l.take n) := by simp [lim, List.map_take]
theorem lim_get {l : List Nat} {i : Nat} (h : i < l.length) : (lim l)[i]? = some [D.int .u32 (l[i] : Nat)] := by simp [lim, h]
theorem lim_one (l : List Nat) : ∀ y ∈ lim l, y.length = 1 := fun y hy => by
  simp only [lim, List.mem_map] at hy
  obtain ⟨x, _, rfl⟩ := hy; rfl
theorem lim_set (l : List Nat) (i x : Nat) : (lim l).set i [D.int .u32 (x : Int)] = lim (l.set i x) := by simp [lim, List.map_set]
theorem lim_append (a b : List Nat) : lim (a ++ b) = lim a ++ lim b := by simp [lim]
theorem lim_rep (n : Nat) : List.replicate n [D.int .u32 (0 : Int)] = lim (List.replicate n 0) := by simp [lim]
def cI (z : Int) : List D := [D.bool (decide (z < 0)), D.sl (lim (digs z.natAbs))]
def eI (z : Int) : V := .e (.agg [.dat (.bool (decide (z < 0))), .dat (.sl (lim (digs z.natAbs)))])
def row (r : List Int) : DL := r.map cI
def rows (m : List (List Int)) : DL := m.map fun r => [D.sl (row r)]
def vi (n : Int) : V := .e (.sc (.dat (.int .i64 n)))
def vb (b : Bool) : V := .e (.sc (.dat (.bool b)))
def vs (l : DL) : V := .e (.sc (.dat (.sl l)))
def eM (r c : Int) (m : List (List Int)) : V := .e (.agg [.dat (.int .i64 r), .dat (.int .i64 c), .dat (.sl (rows m))])
theorem row_length (r : List Int) : (row r).length = r.length := by simp [row]
theorem rows_length (m : List (List Int)) : (rows m).length = m.length := by simp [rows]
theorem row_get {r : List Int} {i : Nat} (h : i < r.length) : (row r)[i]? = some (cI r[i]) := by simp [row, h]
theorem rows_get {m : List (List Int)} {i : Nat} (h : i < m.length) : (rows m)[i]? = some [D.sl (row m[i])] := by simp [rows, h]
theorem w64 {n : Int} (h : -9223372036854775808 ≤ n) (h' : n ≤ 9223372036854775807) : IntKind.i64.wrap n = n := IntWalk.i64_in n ⟨h, h'⟩
abbrev Out (r : V) : V → Heap → Prop := fun r' h' => r' = r ∧ h' = []
theorem out2 {b b' : Bool} {l l' : DL} (h1 : b = b') (h2 : l = l') : Out (.e (.agg [.dat (.bool b'), .dat (.sl l')])) (V.e (E.agg [S.dat (D.bool b), S.dat (D.sl l)])) [] := by subst h1; subst h2; exact ⟨rfl, rfl⟩
theorem outs {l l' : DL} (h2 : l = l') : Out (vs l') (V.e (E.sc (S.dat (D.sl l)))) [] := by subst h2; exact ⟨rfl, rfl⟩
theorem outb {b b' : Bool} (h1 : b = b') : Out (vb b') (V.e (E.sc (S.dat (D.bool b)))) [] := by subst h1; exact ⟨rfl, rfl⟩
theorem outi {b b' : Int} (h1 : b = b') : Out (vi b') (V.e (E.sc (S.dat (D.int .i64 b)))) [] := by subst h1; exact ⟨rfl, rfl⟩
theorem take_digs {l : List Nat} (hB : ∀ x ∈ l, x < 4294967296) {n : Nat} (hv : val (l.take n) = val l) (hx : ∀ x, (l.take n).getLast? = some x → x ≠ 0) : l.take n = digs (val l) := by
  rw [← hv]
  exact (digs_val (fun x h => hB x (List.mem_of_mem_take h)) hx).symm
theorem val_take_pred {l : List Nat} {n : Nat} (hn : n < l.length) (h0 : l[n] = 0) : val (l.take (n + 1)) = val (l.take n) := by
  rw [List.take_add_one, List.getElem?_eq_getElem hn, h0, val_append]; simp [val]
theorem getLast_take {l : List Nat} {n : Nat} (hn : n < l.length) : (l.take (n + 1)).getLast? = some l[n] := by
  rw [List.take_add_one, List.getElem?_eq_getElem hn, Option.toList_some, List.getLast?_append]; rfl
end Go.AM
/- The types of the program that the functions use. -/
set_option maxRecDepth 100000
set_option linter.unusedVariables false
namespace Go.AM
open Go.Proofs.Tryz
def tab : Tab := [(2, ⟨.int .i64, 1, 8, [.int .i64 0]⟩),
  (3, ⟨.int .i64, 1, 8, [.int .i64 0]⟩),
  (4, ⟨.bool, 1, 1, [.bool false]⟩),
  (5, ⟨.int .u8, 1, 1, [.int .u8 0]⟩),
  (22, ⟨.slice 25, 1, 24, [.slice none 0 0]⟩),
  (24, ⟨.struct [(0, 5), (1, 5), (2, 22)], 3, 32, [.int .u8 0, .int .u8 0, .slice none 0 0]⟩),
  (25, ⟨.int .i8, 1, 1, [.int .i8 0]⟩),
  (27, ⟨.slice 57, 1, 24, [.slice none 0 0]⟩),
  (29, ⟨.struct [(0, 3), (1, 3), (2, 27)], 3, 40, [.int .i64 0, .int .i64 0, .slice none 0 0]⟩),
  (32, ⟨.struct [(0, 29), (3, 29), (6, 29), (9, 29), (12, 3), (13, 3), (14, 4)], 15, 184, [.int .i64 0, .int .i64 0, .slice none 0 0, .int .i64 0, .int .i64 0, .slice none 0 0, .int .i64 0, .int .i64 0, .slice none 0 0, .int .i64 0, .int .i64 0, .slice none 0 0, .int .i64 0, .int .i64 0, .bool false]⟩),
  (43, ⟨.struct [(0, 29), (3, 29), (6, 29)], 9, 120, [.int .i64 0, .int .i64 0, .slice none 0 0, .int .i64 0, .int .i64 0, .slice none 0 0, .int .i64 0, .int .i64 0, .slice none 0 0]⟩),
  (51, ⟨.struct [(0, 5), (1, 5), (2, 5), (3, 25)], 4, 4, [.int .u8 0, .int .u8 0, .int .u8 0, .int .i8 0]⟩),
  (52, ⟨.slice 29, 1, 24, [.slice none 0 0]⟩),
  (53, ⟨.slice 91, 1, 24, [.slice none 0 0]⟩),
  (55, ⟨.struct [(0, 4), (1, 53)], 2, 32, [.bool false, .slice none 0 0]⟩),
  (57, ⟨.slice 55, 1, 24, [.slice none 0 0]⟩),
  (61, ⟨.slice 2, 1, 24, [.slice none 0 0]⟩),
  (65, ⟨.other, 1, 8, [.nilFunc]⟩),
  (66, ⟨.array 5 65, 5, 40, [.nilFunc, .nilFunc, .nilFunc, .nilFunc, .nilFunc]⟩),
  (80, ⟨.struct [(0, 29), (3, 29), (6, 29)], 9, 120, [.int .i64 0, .int .i64 0, .slice none 0 0, .int .i64 0, .int .i64 0, .slice none 0 0, .int .i64 0, .int .i64 0, .slice none 0 0]⟩),
  (90, ⟨.int .u64, 1, 8, [.int .u64 0]⟩),
  (91, ⟨.int .u32, 1, 4, [.int .u32 0]⟩),
  (104, ⟨.slice 55, 1, 24, [.slice none 0 0]⟩),
  (115, ⟨.array 2 3, 2, 16, [.int .i64 0, .int .i64 0]⟩)]
theorem hT : TOK prog tab := by
  show tab.all (fun x => tiB prog x.1 x.2) = true
  kernel_rfl
abbrev dI (n : Int) : D := .int .i64 n
abbrev dU (n : Int) : D := .int .u32 n
abbrev dB (b : Bool) : D := .bool b
abbrev dL (l : DL) : D := .sl l
abbrev sD (d : D) : S := .dat d
abbrev eD (d : D) : E := .sc (.dat d)
abbrev vA (l : List S) : V := .e (.agg l)
abbrev vD (d : D) : V := V.e (E.sc (S.dat d))
abbrev FnO (P : Program) (k : FuncId) (args : List V) (h : Heap) (r : V) (objs : Heap) : Prop := FnG P k args h (fun x y => x = r ∧ y = objs)
abbrev vP (o k : Nat) : V := V.e (E.sc (S.ptr o k))
abbrev vR (o : Nat) : V := V.e (E.sc (S.ref o))
abbrev o0 : In := (Or.none, 0, 0)
end Go.AM
/- What functions of the program come to: group Int. Printed by vc.py. -/
set_option maxRecDepth 100000
set_option linter.unusedVariables false
namespace Go.AM
open Go.Proofs.Tryz
def vc131 (vx : Int) (R : V → Heap → Prop) : Prop :=
 R (vD (dB (vx != vx))) []
theorem vc131_ok (vx : Int) {R : V → Heap → Prop} (h : vc131 vx R) : FnG prog 131 [vD (dI vx)] [] R :=
  FnG.vcg hT func131 ntmps131 (.r0 [0] <| .r0 [2] <| .ret [])
    (by kernel_rfl) (by kernel_rfl) (by kernel_rfl) h
def vc132 (vx : Int) (R : V → Heap → Prop) : Prop :=
 R (vD (dB (vx != vx))) []
theorem vc132_ok (vx : Int) {R : V → Heap → Prop} (h : vc132 vx R) : FnG prog 132 [vD (dU vx)] [] R :=
  FnG.vcg hT func132 ntmps132 (.r0 [0] <| .r0 [2] <| .ret [])
    (by kernel_rfl) (by kernel_rfl) (by kernel_rfl) h
def vc124 (vx y : Int) (R : V → Heap → Prop) : Prop :=
 ∃ (r : Bool),
 (FnD prog 131 [vD (dI vx)] (vD (dB r)) []) ∧
 (∃ (r1 : Bool),
 (FnD prog 131 [vD (dI y)] (vD (dB r1)) []) ∧
 ((r = true →
 (r1 = true →
 R (vD (dI (0 : Int))) []) ∧
 (r1 = false →
 R (vD (dI (-1 : Int))) [])) ∧
 (r = false →
 (r1 = true →
 R (vD (dI (1 : Int))) []) ∧
 (r1 = false →
 (decide (vx < y) = true →
 R (vD (dI (-1 : Int))) []) ∧
 (decide (vx < y) = false →
 (decide (vx > y) = true →
 R (vD (dI (1 : Int))) []) ∧
 (decide (vx > y) = false →
 R (vD (dI (0 : Int))) []))))))
theorem vc124_ok (vx y : Int) {R : V → Heap → Prop} (h : vc124 vx y R) : FnG prog 124 [vD (dI vx), vD (dI y)] [] R :=
  FnG.vcg hT func124 ntmps124 (.r0 [0, 1] <| .exb fun r => .reg 0 [(1, Or.call (vD (dB r)) [] [], 0, 0)] [0, 1, 5] [] [] <| .exb fun r1 => .reg 0 [(1, Or.call (vD (dB r1)) [] [], 0, 0)] [0, 1, 5, 6] [] [] <| .r0 [0, 1, 6, 11] <| .c2 (.r0 [12] <| .c2 (.r0 [4] <| .ret []) (.r0 [4] <| .ret [])) (.r0 [0, 1, 13] <| .c2 (.r0 [4] <| .ret []) (.r0 [0, 1, 16] <| .c2 (.r0 [4] <| .ret []) (.r0 [19] <| .c2 (.r0 [4] <| .ret []) (.r0 [4] <| .ret [])))))
    (by kernel_rfl) (by kernel_rfl) (by kernel_rfl) h
def vc125 (vx y : Int) (R : V → Heap → Prop) : Prop :=
 ∃ (r : Bool),
 (FnD prog 132 [vD (dU vx)] (vD (dB r)) []) ∧
 (∃ (r1 : Bool),
 (FnD prog 132 [vD (dU y)] (vD (dB r1)) []) ∧
 ((r = true →
 (r1 = true →
 R (vD (dI (0 : Int))) []) ∧
 (r1 = false →
 R (vD (dI (-1 : Int))) [])) ∧
 (r = false →
 (r1 = true →
 R (vD (dI (1 : Int))) []) ∧
 (r1 = false →
 (decide (vx < y) = true →
 R (vD (dI (-1 : Int))) []) ∧
 (decide (vx < y) = false →
 (decide (vx > y) = true →
 R (vD (dI (1 : Int))) []) ∧
 (decide (vx > y) = false →
 R (vD (dI (0 : Int))) []))))))
theorem vc125_ok (vx y : Int) {R : V → Heap → Prop} (h : vc125 vx y R) : FnG prog 125 [vD (dU vx), vD (dU y)] [] R :=
  FnG.vcg hT func125 ntmps125 (.r0 [0, 1] <| .exb fun r => .reg 0 [(1, Or.call (vD (dB r)) [] [], 0, 0)] [0, 1, 5] [] [] <| .exb fun r1 => .reg 0 [(1, Or.call (vD (dB r1)) [] [], 0, 0)] [0, 1, 5, 6] [] [] <| .r0 [0, 1, 6, 11] <| .c2 (.r0 [12] <| .c2 (.r0 [4] <| .ret []) (.r0 [4] <| .ret [])) (.r0 [0, 1, 13] <| .c2 (.r0 [4] <| .ret []) (.r0 [0, 1, 16] <| .c2 (.r0 [4] <| .ret []) (.r0 [19] <| .c2 (.r0 [4] <| .ret []) (.r0 [4] <| .ret [])))))
    (by kernel_rfl) (by kernel_rfl) (by kernel_rfl) h
def vc130 (vx y carry : Int) (R : V → Heap → Prop) : Prop :=
 (0 ≤ (32 : Int)) ∧
 (R (V.tup [eD (dU (IntKind.u32.wrap (IntKind.u64.wrap ((IntKind.u64.wrap ((IntKind.u64.wrap vx) + (IntKind.u64.wrap y))) + (IntKind.u64.wrap carry))))), eD (dU (IntKind.u32.wrap ((IntKind.u64.wrap ((IntKind.u64.wrap ((IntKind.u64.wrap vx) + (IntKind.u64.wrap y))) + (IntKind.u64.wrap carry))).fdiv (2 ^ (min (32 : Int).toNat IntKind.u64.bits)))))]) [])
theorem vc130_ok (vx y carry : Int) {R : V → Heap → Prop} (h : vc130 vx y carry R) : FnG prog 130 [vD (dU vx), vD (dU y), vD (dU carry)] [] R :=
  FnG.vcg hT func130 ntmps130 (.r0 [0, 1, 2] <| .r0 [8] <| .r0 [6, 8] <| .r0 [6, 7] <| .ret [])
    (by kernel_rfl) (by kernel_rfl) (by kernel_rfl) h
def vc129 (vx y borrow : Int) (R : V → Heap → Prop) : Prop :=
 (0 ≤ (31 : Int)) ∧
 (R (V.tup [eD (dU (IntKind.u32.wrap ((IntKind.u32.wrap (vx - y)) - borrow))), eD (dU ((bitsI .u32 (· ||| ·) (bitsI .u32 (· &&& ·) (bitsI .u32 (· ^^^ ·) (if IntKind.u32.signed then -1 else IntKind.u32.max) vx) y) (bitsI .u32 (· &&& ·) (bitsI .u32 (· ^^^ ·) (if IntKind.u32.signed then -1 else IntKind.u32.max) (bitsI .u32 (· ^^^ ·) vx y)) (IntKind.u32.wrap ((IntKind.u32.wrap (vx - y)) - borrow)))).fdiv (2 ^ (min (31 : Int).toNat IntKind.u32.bits))))]) [])
theorem vc129_ok (vx y borrow : Int) {R : V → Heap → Prop} (h : vc129 vx y borrow R) : FnG prog 129 [vD (dU vx), vD (dU y), vD (dU borrow)] [] R :=
  FnG.vcg hT func129 ntmps129 (.r0 [0, 1, 2] <| .r0 [0, 1, 6] <| .r0 [6, 7] <| .ret [])
    (by kernel_rfl) (by kernel_rfl) (by kernel_rfl) h
def vc92 (mag : DL) (neg : Bool) (R : V → Heap → Prop) : Prop :=
 ∃ (J0 : Int → Prop) (μ0 : Int → Nat),
 J0 (mag.length : Int) ∧ ∀ (n : Int), J0 n →
 (decide (n > (0 : Int)) = true →
 ∃ (vx : Int),
 (0 ≤ (IntKind.i64.wrap (n - (1 : Int))) ∧ (IntKind.i64.wrap (n - (1 : Int))) < (mag.length : Int)) ∧
 (mag[((IntKind.i64.wrap (n - (1 : Int)))).toNat]? = some [dU vx]) ∧
 (((vx != (0 : Int)) = true →
 (neg = true →
 (0 ≤ n ∧ n ≤ n ∧ n ≤ (mag.length : Int)) ∧
 (R (vA [sD (dB (decide (n > (0 : Int)))), sD (dL (mag.take (n).toNat))]) [])) ∧
 (neg = false →
 (0 ≤ n ∧ n ≤ n ∧ n ≤ (mag.length : Int)) ∧
 (R (vA [sD (dB false), sD (dL (mag.take (n).toNat))]) []))) ∧
 ((vx != (0 : Int)) = false →
 J0 (IntKind.i64.wrap (n - (1 : Int))) ∧ μ0 (IntKind.i64.wrap (n - (1 : Int))) < μ0 n))) ∧
 (decide (n > (0 : Int)) = false →
 (neg = true →
 (0 ≤ n ∧ n ≤ n ∧ n ≤ (mag.length : Int)) ∧
 (R (vA [sD (dB (decide (n > (0 : Int)))), sD (dL (mag.take (n).toNat))]) [])) ∧
 (neg = false →
 (0 ≤ n ∧ n ≤ n ∧ n ≤ (mag.length : Int)) ∧
 (R (vA [sD (dB false), sD (dL (mag.take (n).toNat))]) [])))
theorem vc92_ok (mag : DL) (neg : Bool) {R : V → Heap → Prop} (h : vc92 mag neg R) : FnG prog 92 [vD (dL mag), vD (dB neg)] [] R :=
  FnG.vcg hT func92 ntmps92 (.reg 1 [(0, Or.none, 0, 1)] [0, 1, 4] [0] [] <| .r1 [0, 1, 4, 5] [0] <| .lp [.i] (fun n => ⟨[(0, vD (dL mag)), (1, vD (dB neg)), (4, vP 0 0), (5, vD (dI n))], [some (Obj.box [sD (dB false), sD (D.raw (.slice none 0 0))])], 28⟩) [.i (mag.length : Int)] <| .fi fun n => .beg <| .r1 [0, 1, 4, 5, 9] [0] <| .c2 (.ex fun vx => .reg 0 [(4, Or.cells [dU vx], 0, 0)] [0, 1, 4, 5, 15] [0] [] <| .c2 (.spl neg (.reg 0 [(1, Or.bool true, 0, 0)] [4] [0] [.old 0] <| .ret []) (.reg 0 [(1, Or.bool false, 0, 0)] [4] [0] [.old 0] <| .ret [])) (.r1 [0, 1, 4, 5] [0] <| .bk 0 [.i (IntKind.i64.wrap (n - (1 : Int)))])) (.spl neg (.reg 0 [(1, Or.bool true, 0, 0)] [4] [0] [.old 0] <| .ret []) (.reg 0 [(1, Or.bool false, 0, 0)] [4] [0] [.old 0] <| .ret [])))
    (by kernel_rfl) (by kernel_rfl) (by kernel_rfl) h
def vc120 (a b : DL) (R : V → Heap → Prop) : Prop :=
 (decide ((a.length : Int) < (b.length : Int)) = true →
 (0 ≤ (IntKind.i64.wrap ((b.length : Int) + (1 : Int))) ∧ (IntKind.i64.wrap ((b.length : Int) + (1 : Int))) ≤ (IntKind.i64.wrap ((b.length : Int) + (1 : Int))) ∧ (IntKind.i64.wrap ((b.length : Int) + (1 : Int))) * (4 : Nat) ≤ 281474976710656) ∧
 ((∀ y ∈ b, y.length = 1) ∧
 (∃ (J0 : (DL) → Int → Int → Prop) (μ0 : (DL) → Int → Int → Nat),
 J0 (b.take (List.replicate ((IntKind.i64.wrap ((b.length : Int) + (1 : Int)))).toNat [dU (0 : Int)]).length ++ (List.replicate ((IntKind.i64.wrap ((b.length : Int) + (1 : Int)))).toNat [dU (0 : Int)]).drop b.length) (0 : Int) (0 : Int) ∧ ∀ (out : DL) (t25 carry : Int), J0 out t25 carry →
 (decide (t25 < (b.length : Int)) = true →
 (decide (t25 < (a.length : Int)) = true →
 ∃ (vx : Int),
 (0 ≤ t25 ∧ t25 < (a.length : Int)) ∧
 (a[(t25).toNat]? = some [dU vx]) ∧
 (∃ (vx1 r r1 : Int),
 (0 ≤ t25 ∧ t25 < (b.length : Int)) ∧
 (b[(t25).toNat]? = some [dU vx1]) ∧
 (FnD prog 130 [vD (dU vx1), vD (dU vx), vD (dU carry)] (V.tup [eD (dU r), eD (dU r1)]) []) ∧
 (0 ≤ t25 ∧ t25 < (out.length : Int)) ∧
 (J0 (out.set (t25).toNat [dU r]) (IntKind.i64.wrap (t25 + (1 : Int))) r1 ∧ μ0 (out.set (t25).toNat [dU r]) (IntKind.i64.wrap (t25 + (1 : Int))) r1 < μ0 out t25 carry))) ∧
 (decide (t25 < (a.length : Int)) = false →
 ∃ (vx2 r2 r3 : Int),
 (0 ≤ t25 ∧ t25 < (b.length : Int)) ∧
 (b[(t25).toNat]? = some [dU vx2]) ∧
 (FnD prog 130 [vD (dU vx2), vD (dU (0 : Int)), vD (dU carry)] (V.tup [eD (dU r2), eD (dU r3)]) []) ∧
 (0 ≤ t25 ∧ t25 < (out.length : Int)) ∧
 (J0 (out.set (t25).toNat [dU r2]) (IntKind.i64.wrap (t25 + (1 : Int))) r3 ∧ μ0 (out.set (t25).toNat [dU r2]) (IntKind.i64.wrap (t25 + (1 : Int))) r3 < μ0 out t25 carry))) ∧
 (decide (t25 < (b.length : Int)) = false →
 (0 ≤ (b.length : Int) ∧ (b.length : Int) < (out.length : Int)) ∧
 (R (vD (dL (out.set ((b.length : Int)).toNat [dU carry]))) []))))) ∧
 (decide ((a.length : Int) < (b.length : Int)) = false →
 (0 ≤ (IntKind.i64.wrap ((a.length : Int) + (1 : Int))) ∧ (IntKind.i64.wrap ((a.length : Int) + (1 : Int))) ≤ (IntKind.i64.wrap ((a.length : Int) + (1 : Int))) ∧ (IntKind.i64.wrap ((a.length : Int) + (1 : Int))) * (4 : Nat) ≤ 281474976710656) ∧
 ((∀ y ∈ a, y.length = 1) ∧
 (∃ (J1 : (DL) → Int → Int → Prop) (μ1 : (DL) → Int → Int → Nat),
 J1 (a.take (List.replicate ((IntKind.i64.wrap ((a.length : Int) + (1 : Int)))).toNat [dU (0 : Int)]).length ++ (List.replicate ((IntKind.i64.wrap ((a.length : Int) + (1 : Int)))).toNat [dU (0 : Int)]).drop a.length) (0 : Int) (0 : Int) ∧ ∀ (out1 : DL) (t251 carry1 : Int), J1 out1 t251 carry1 →
 (decide (t251 < (a.length : Int)) = true →
 (decide (t251 < (b.length : Int)) = true →
 ∃ (vx3 : Int),
 (0 ≤ t251 ∧ t251 < (b.length : Int)) ∧
 (b[(t251).toNat]? = some [dU vx3]) ∧
 (∃ (vx4 r4 r5 : Int),
 (0 ≤ t251 ∧ t251 < (a.length : Int)) ∧
 (a[(t251).toNat]? = some [dU vx4]) ∧
 (FnD prog 130 [vD (dU vx4), vD (dU vx3), vD (dU carry1)] (V.tup [eD (dU r4), eD (dU r5)]) []) ∧
 (0 ≤ t251 ∧ t251 < (out1.length : Int)) ∧
 (J1 (out1.set (t251).toNat [dU r4]) (IntKind.i64.wrap (t251 + (1 : Int))) r5 ∧ μ1 (out1.set (t251).toNat [dU r4]) (IntKind.i64.wrap (t251 + (1 : Int))) r5 < μ1 out1 t251 carry1))) ∧
 (decide (t251 < (b.length : Int)) = false →
 ∃ (vx5 r6 r7 : Int),
 (0 ≤ t251 ∧ t251 < (a.length : Int)) ∧
 (a[(t251).toNat]? = some [dU vx5]) ∧
 (FnD prog 130 [vD (dU vx5), vD (dU (0 : Int)), vD (dU carry1)] (V.tup [eD (dU r6), eD (dU r7)]) []) ∧
 (0 ≤ t251 ∧ t251 < (out1.length : Int)) ∧
 (J1 (out1.set (t251).toNat [dU r6]) (IntKind.i64.wrap (t251 + (1 : Int))) r7 ∧ μ1 (out1.set (t251).toNat [dU r6]) (IntKind.i64.wrap (t251 + (1 : Int))) r7 < μ1 out1 t251 carry1))) ∧
 (decide (t251 < (a.length : Int)) = false →
 (0 ≤ (a.length : Int) ∧ (a.length : Int) < (out1.length : Int)) ∧
 (R (vD (dL (out1.set ((a.length : Int)).toNat [dU carry1]))) [])))))
theorem vc120_ok (a b : DL) {R : V → Heap → Prop} (h : vc120 a b R) : FnG prog 120 [vD (dL a), vD (dL b)] [] R :=
  FnG.vcg hT func120 ntmps120 (.r0 [0, 1] <| .r0 [0, 1, 13] <| .c2 (.r0 [0, 1] <| .reg 1 [(3, Or.none, 0, 1)] [0, 1, 5] [0] [] <| .r1 [0, 1, 5] [0] <| .r1 [0, 1, 5, 6] [0] <| .r1 [0, 1, 5, 6, 24, 25] [0] <| .lp [.l, .i, .i] (fun out t25 carry => ⟨[(0, vD (dL b)), (1, vD (dL a)), (5, vR 0), (6, vD (dU carry)), (24, vD (dI (b.length : Int))), (25, vD (dI t25))], [some (Obj.arr 1 out)], 56⟩) [.l (b.take (List.replicate ((IntKind.i64.wrap ((b.length : Int) + (1 : Int)))).toNat [dU (0 : Int)]).length ++ (List.replicate ((IntKind.i64.wrap ((b.length : Int) + (1 : Int)))).toNat [dU (0 : Int)]).drop b.length), .i (0 : Int), .i (0 : Int)] <| .fl fun out => .fi fun t25 => .fi fun carry => .beg <| .r1 [0, 1, 5, 6, 24, 25, 26] [0] <| .c2 (.r1 [0, 1, 5, 6, 7, 24, 25] [0] <| .r1 [0, 1, 5, 6, 7, 8, 24, 25] [0] <| .r1 [0, 1, 5, 6, 7, 8, 24, 25, 31] [0] <| .c2 (.ex fun vx => .reg 0 [(3, Or.cells [dU vx], 0, 0)] [0, 1, 5, 6, 7, 8, 24, 25] [0] [] <| .ex fun vx1 => .ex fun r => .ex fun r1 => .reg 0 [(5, Or.cells [dU vx1], 0, 0), (8, Or.call (V.tup [eD (dU r), eD (dU r1)]) [] [], 0, 0)] [0, 1, 5, 6, 24, 25] [0] [] <| .r1 [0, 1, 5, 6, 24, 25] [0] <| .bk 0 [.l (out.set (t25).toNat [dU r]), .i (IntKind.i64.wrap (t25 + (1 : Int))), .i r1]) (.ex fun vx2 => .ex fun r2 => .ex fun r3 => .reg 0 [(5, Or.cells [dU vx2], 0, 0), (8, Or.call (V.tup [eD (dU r2), eD (dU r3)]) [] [], 0, 0)] [0, 1, 5, 6, 24, 25] [0] [] <| .r1 [0, 1, 5, 6, 24, 25] [0] <| .bk 0 [.l (out.set (t25).toNat [dU r2]), .i (IntKind.i64.wrap (t25 + (1 : Int))), .i r3])) (.r1 [5] [0] <| .r1 [4] [0] <| .frz [0] <| .ret [])) (.reg 1 [(3, Or.none, 0, 1)] [0, 1, 5] [0] [] <| .r1 [0, 1, 5] [0] <| .r1 [0, 1, 5, 6] [0] <| .r1 [0, 1, 5, 6, 24, 25] [0] <| .lp [.l, .i, .i] (fun out1 t251 carry1 => ⟨[(0, vD (dL a)), (1, vD (dL b)), (5, vR 0), (6, vD (dU carry1)), (24, vD (dI (a.length : Int))), (25, vD (dI t251))], [some (Obj.arr 1 out1)], 56⟩) [.l (a.take (List.replicate ((IntKind.i64.wrap ((a.length : Int) + (1 : Int)))).toNat [dU (0 : Int)]).length ++ (List.replicate ((IntKind.i64.wrap ((a.length : Int) + (1 : Int)))).toNat [dU (0 : Int)]).drop a.length), .i (0 : Int), .i (0 : Int)] <| .fl fun out1 => .fi fun t251 => .fi fun carry1 => .beg <| .r1 [0, 1, 5, 6, 24, 25, 26] [0] <| .c2 (.r1 [0, 1, 5, 6, 7, 24, 25] [0] <| .r1 [0, 1, 5, 6, 7, 8, 24, 25] [0] <| .r1 [0, 1, 5, 6, 7, 8, 24, 25, 31] [0] <| .c2 (.ex fun vx3 => .reg 0 [(3, Or.cells [dU vx3], 0, 0)] [0, 1, 5, 6, 7, 8, 24, 25] [0] [] <| .ex fun vx4 => .ex fun r4 => .ex fun r5 => .reg 0 [(5, Or.cells [dU vx4], 0, 0), (8, Or.call (V.tup [eD (dU r4), eD (dU r5)]) [] [], 0, 0)] [0, 1, 5, 6, 24, 25] [0] [] <| .r1 [0, 1, 5, 6, 24, 25] [0] <| .bk 0 [.l (out1.set (t251).toNat [dU r4]), .i (IntKind.i64.wrap (t251 + (1 : Int))), .i r5]) (.ex fun vx5 => .ex fun r6 => .ex fun r7 => .reg 0 [(5, Or.cells [dU vx5], 0, 0), (8, Or.call (V.tup [eD (dU r6), eD (dU r7)]) [] [], 0, 0)] [0, 1, 5, 6, 24, 25] [0] [] <| .r1 [0, 1, 5, 6, 24, 25] [0] <| .bk 0 [.l (out1.set (t251).toNat [dU r6]), .i (IntKind.i64.wrap (t251 + (1 : Int))), .i r7])) (.r1 [5] [0] <| .r1 [4] [0] <| .frz [0] <| .ret [])))
    (by kernel_rfl) (by kernel_rfl) (by kernel_rfl) h
def vc113 (a b : DL) (R : V → Heap → Prop) : Prop :=
 ∃ (r : Int),
 (FnD prog 124 [vD (dI (a.length : Int)), vD (dI (b.length : Int))] (vD (dI r)) []) ∧
 (((r != (0 : Int)) = true →
 R (vD (dI r)) []) ∧
 ((r != (0 : Int)) = false →
 ∃ (J0 : Int → Prop) (μ0 : Int → Nat),
 J0 (IntKind.i64.wrap ((a.length : Int) - (1 : Int))) ∧ ∀ (i : Int), J0 i →
 (decide (i ≥ (0 : Int)) = true →
 ∃ (vx vx1 r1 : Int),
 (0 ≤ i ∧ i < (a.length : Int)) ∧
 (a[(i).toNat]? = some [dU vx]) ∧
 (0 ≤ i ∧ i < (b.length : Int)) ∧
 (b[(i).toNat]? = some [dU vx1]) ∧
 (FnD prog 125 [vD (dU vx), vD (dU vx1)] (vD (dI r1)) []) ∧
 (((r1 != (0 : Int)) = true →
 R (vD (dI r1)) []) ∧
 ((r1 != (0 : Int)) = false →
 J0 (IntKind.i64.wrap (i - (1 : Int))) ∧ μ0 (IntKind.i64.wrap (i - (1 : Int))) < μ0 i))) ∧
 (decide (i ≥ (0 : Int)) = false →
 R (vD (dI (0 : Int))) [])))
theorem vc113_ok (a b : DL) {R : V → Heap → Prop} (h : vc113 a b R) : FnG prog 113 [vD (dL a), vD (dL b)] [] R :=
  FnG.vcg hT func113 ntmps113 (.r0 [0, 1] <| .ex fun r => .reg 0 [(4, Or.call (vD (dI r)) [] [], 0, 0)] [0, 1, 5] [] [] <| .r0 [0, 1, 5, 14] <| .c2 (.r0 [4] <| .ret []) (.r0 [0, 1, 6] <| .lp [.i] (fun i => ⟨[(0, vD (dL a)), (1, vD (dL b)), (6, vD (dI i))], [], 35⟩) [.i (IntKind.i64.wrap ((a.length : Int) - (1 : Int)))] <| .fi fun i => .beg <| .r0 [0, 1, 6, 20] <| .c2 (.ex fun vx => .ex fun vx1 => .ex fun r1 => .drw 0 [(3, (Or.cells [dU vx], 0, 0), []), (7, (Or.cells [dU vx1], 0, 0), []), (8, (Or.call (vD (dI r1)) [] [], 0, 0), [])] [0, 1, 6, 7] [] [] <| .r0 [0, 1, 6, 7, 33] <| .c2 (.r0 [4] <| .ret []) (.r0 [0, 1, 6] <| .bk 0 [.i (IntKind.i64.wrap (i - (1 : Int)))])) (.r0 [4] <| .ret [])))
    (by kernel_rfl) (by kernel_rfl) (by kernel_rfl) h
def vc119 (a b : DL) (R : V → Heap → Prop) : Prop :=
 (0 ≤ (a.length : Int) ∧ (a.length : Int) ≤ (a.length : Int) ∧ (a.length : Int) * (4 : Nat) ≤ 281474976710656) ∧
 (∃ (J0 : (DL) → Int → Int → Prop) (μ0 : (DL) → Int → Int → Nat),
 J0 (List.replicate ((a.length : Int)).toNat [dU (0 : Int)]) (0 : Int) (0 : Int) ∧ ∀ (out : DL) (t14 borrow : Int), J0 out t14 borrow →
 (decide (t14 < (a.length : Int)) = true →
 (decide (t14 < (b.length : Int)) = true →
 ∃ (vx : Int),
 (0 ≤ t14 ∧ t14 < (b.length : Int)) ∧
 (b[(t14).toNat]? = some [dU vx]) ∧
 (∃ (vx1 r r1 : Int),
 (0 ≤ t14 ∧ t14 < (a.length : Int)) ∧
 (a[(t14).toNat]? = some [dU vx1]) ∧
 (FnD prog 129 [vD (dU vx1), vD (dU vx), vD (dU borrow)] (V.tup [eD (dU r), eD (dU r1)]) []) ∧
 (0 ≤ t14 ∧ t14 < (out.length : Int)) ∧
 (J0 (out.set (t14).toNat [dU r]) (IntKind.i64.wrap (t14 + (1 : Int))) r1 ∧ μ0 (out.set (t14).toNat [dU r]) (IntKind.i64.wrap (t14 + (1 : Int))) r1 < μ0 out t14 borrow))) ∧
 (decide (t14 < (b.length : Int)) = false →
 ∃ (vx2 r2 r3 : Int),
 (0 ≤ t14 ∧ t14 < (a.length : Int)) ∧
 (a[(t14).toNat]? = some [dU vx2]) ∧
 (FnD prog 129 [vD (dU vx2), vD (dU (0 : Int)), vD (dU borrow)] (V.tup [eD (dU r2), eD (dU r3)]) []) ∧
 (0 ≤ t14 ∧ t14 < (out.length : Int)) ∧
 (J0 (out.set (t14).toNat [dU r2]) (IntKind.i64.wrap (t14 + (1 : Int))) r3 ∧ μ0 (out.set (t14).toNat [dU r2]) (IntKind.i64.wrap (t14 + (1 : Int))) r3 < μ0 out t14 borrow))) ∧
 (decide (t14 < (a.length : Int)) = false →
 R (vD (dL out)) []))
theorem vc119_ok (a b : DL) {R : V → Heap → Prop} (h : vc119 a b R) : FnG prog 119 [vD (dL a), vD (dL b)] [] R :=
  FnG.vcg hT func119 ntmps119 (.r0 [0, 1] <| .reg 1 [(2, Or.none, 0, 1)] [0, 1, 5] [0] [] <| .r1 [0, 1, 5, 6] [0] <| .r1 [0, 1, 5, 6, 13, 14] [0] <| .lp [.l, .i, .i] (fun out t14 borrow => ⟨[(0, vD (dL a)), (1, vD (dL b)), (5, vR 0), (6, vD (dU borrow)), (13, vD (dI (a.length : Int))), (14, vD (dI t14))], [some (Obj.arr 1 out)], 40⟩) [.l (List.replicate ((a.length : Int)).toNat [dU (0 : Int)]), .i (0 : Int), .i (0 : Int)] <| .fl fun out => .fi fun t14 => .fi fun borrow => .beg <| .r1 [0, 1, 5, 6, 13, 14, 15] [0] <| .c2 (.r1 [0, 1, 5, 6, 7, 13, 14] [0] <| .r1 [0, 1, 5, 6, 7, 8, 13, 14] [0] <| .r1 [0, 1, 5, 6, 7, 8, 13, 14, 20] [0] <| .c2 (.ex fun vx => .reg 0 [(3, Or.cells [dU vx], 0, 0)] [0, 1, 5, 6, 7, 8, 13, 14] [0] [] <| .ex fun vx1 => .ex fun r => .ex fun r1 => .reg 0 [(5, Or.cells [dU vx1], 0, 0), (8, Or.call (V.tup [eD (dU r), eD (dU r1)]) [] [], 0, 0)] [0, 1, 5, 6, 13, 14] [0] [] <| .r1 [0, 1, 5, 6, 13, 14] [0] <| .bk 0 [.l (out.set (t14).toNat [dU r]), .i (IntKind.i64.wrap (t14 + (1 : Int))), .i r1]) (.ex fun vx2 => .ex fun r2 => .ex fun r3 => .reg 0 [(5, Or.cells [dU vx2], 0, 0), (8, Or.call (V.tup [eD (dU r2), eD (dU r3)]) [] [], 0, 0)] [0, 1, 5, 6, 13, 14] [0] [] <| .r1 [0, 1, 5, 6, 13, 14] [0] <| .bk 0 [.l (out.set (t14).toNat [dU r2]), .i (IntKind.i64.wrap (t14 + (1 : Int))), .i r3])) (.r1 [4] [0] <| .frz [0] <| .ret []))
    (by kernel_rfl) (by kernel_rfl) (by kernel_rfl) h
def vc86 (a0 : Bool) (a1 : DL) (b0 : Bool) (b1 : DL) (R : V → Heap → Prop) : Prop :=
 (a0 = true →
 ((!b0) = true →
 R (vD (dI (-1 : Int))) []) ∧
 ((!b0) = false →
 (b0 = true →
 ((!a0) = true →
 R (vD (dI (1 : Int))) []) ∧
 ((!a0) = false →
 ∃ (r : Int),
 (FnD prog 113 [vD (dL b1), vD (dL a1)] (vD (dI r)) []) ∧
 (R (vD (dI r)) []))) ∧
 (b0 = false →
 ∃ (r1 : Int),
 (FnD prog 113 [vD (dL b1), vD (dL a1)] (vD (dI r1)) []) ∧
 (R (vD (dI r1)) [])))) ∧
 (a0 = false →
 (b0 = true →
 ((!a0) = true →
 R (vD (dI (1 : Int))) []) ∧
 ((!a0) = false →
 ∃ (r2 : Int),
 (FnD prog 113 [vD (dL a1), vD (dL b1)] (vD (dI r2)) []) ∧
 (R (vD (dI r2)) []))) ∧
 (b0 = false →
 ∃ (r3 : Int),
 (FnD prog 113 [vD (dL a1), vD (dL b1)] (vD (dI r3)) []) ∧
 (R (vD (dI r3)) [])))
theorem vc86_ok (a0 : Bool) (a1 : DL) (b0 : Bool) (b1 : DL) {R : V → Heap → Prop} (h : vc86 a0 a1 b0 b1 R) : FnG prog 86 [vA [sD (dB a0), sD (dL a1)], vA [sD (dB b0), sD (dL b1)]] [] R :=
  FnG.vcg hT func86 ntmps86 (.reg 2 [(0, Or.none, 0, 1), (1, Or.none, 1, 1)] [2, 3] [0, 1] [] <| .spl a0 (.reg 0 [(2, Or.bool true, 0, 0)] [2, 3, 5] [0, 1] [.old 0] <| .c2 (.r0 [4] <| .ret []) (.spl b0 (.reg 0 [(2, Or.bool true, 0, 0)] [2, 3, 13] [0, 1] [.old 0] <| .c2 (.r0 [4] <| .ret []) (.r1 [2, 3, 21] [0, 1] <| .ct true (some 3) <| .ex fun r => .reg 0 [(4, Or.call (vD (dI r)) [] [], 0, 0)] [4] [] [] <| .ret [])) (.reg 0 [(2, Or.bool false, 0, 0)] [2, 3, 13] [0, 1] [.old 0] <| .ct false none <| .r1 [2, 3, 21] [0, 1] <| .ct true (some 2) <| .ex fun r1 => .reg 0 [(4, Or.call (vD (dI r1)) [] [], 0, 0)] [4] [] [] <| .ret []))) (.reg 0 [(2, Or.bool false, 0, 0)] [2, 3, 5] [0, 1] [.old 0] <| .ct false none <| .spl b0 (.reg 0 [(2, Or.bool true, 0, 0)] [2, 3, 13] [0, 1] [.old 0] <| .c2 (.r0 [4] <| .ret []) (.r1 [2, 3, 21] [0, 1] <| .ct false (some 2) <| .ex fun r2 => .reg 0 [(4, Or.call (vD (dI r2)) [] [], 0, 0)] [4] [] [] <| .ret [])) (.reg 0 [(2, Or.bool false, 0, 0)] [2, 3, 13] [0, 1] [.old 0] <| .ct false none <| .r1 [2, 3, 21] [0, 1] <| .ct false (some 1) <| .ex fun r3 => .reg 0 [(4, Or.call (vD (dI r3)) [] [], 0, 0)] [4] [] [] <| .ret [])))
    (by kernel_rfl) (by kernel_rfl) (by kernel_rfl) h
def vc83 (a0 : Bool) (a1 : DL) (R : V → Heap → Prop) : Prop :=
 (((a1.length : Int) == (0 : Int)) = true →
 R (vD (dI (0 : Int))) []) ∧
 (((a1.length : Int) == (0 : Int)) = false →
 (a0 = true →
 R (vD (dI (-1 : Int))) []) ∧
 (a0 = false →
 R (vD (dI (1 : Int))) []))
theorem vc83_ok (a0 : Bool) (a1 : DL) {R : V → Heap → Prop} (h : vc83 a0 a1 R) : FnG prog 83 [vA [sD (dB a0), sD (dL a1)]] [] R :=
  FnG.vcg hT func83 ntmps83 (.reg 1 [(0, Or.none, 0, 1)] [1] [0] [] <| .r1 [1, 3] [0] <| .c2 (.r0 [2] <| .ret []) (.r0 [8] <| .c2 (.r0 [2] <| .ret []) (.r0 [2] <| .ret [])))
    (by kernel_rfl) (by kernel_rfl) (by kernel_rfl) h
def vc95 (a0 : Bool) (a1 : DL) (R : V → Heap → Prop) : Prop :=
 ((!a0) = true →
 R (vA [sD (dB (decide ((a1.length : Int) > (0 : Int)))), sD (dL a1)]) []) ∧
 ((!a0) = false →
 R (vA [sD (dB false), sD (dL a1)]) [])
theorem vc95_ok (a0 : Bool) (a1 : DL) {R : V → Heap → Prop} (h : vc95 a0 a1 R) : FnG prog 95 [vA [sD (dB a0), sD (dL a1)]] [] R :=
  FnG.vcg hT func95 ntmps95 (.reg 2 [(0, Or.none, 0, 1), (1, Or.none, 1, 1)] [1, 2] [0, 1] [] <| .spl ((!a0)) (.reg 0 [(3, Or.bool true, 0, 0)] [2] [1] [.old 0] <| .ret []) (.reg 0 [(3, Or.bool false, 0, 0)] [2] [1] [.old 0] <| .ret []))
    (by kernel_rfl) (by kernel_rfl) (by kernel_rfl) h
def vc99 (a0 : Bool) (a1 : DL) (b0 : Bool) (b1 : DL) (R : V → Heap → Prop) : Prop :=
 ((a0 == b0) = true →
 ∃ (r : DL) (r0 : Bool) (r1 : DL),
 (FnD prog 120 [vD (dL a1), vD (dL b1)] (vD (dL r)) []) ∧
 (FnD prog 92 [vD (dL r), vD (dB a0)] (vA [sD (dB r0), sD (dL r1)]) []) ∧
 (R (vA [sD (dB r0), sD (dL r1)]) [])) ∧
 ((a0 == b0) = false →
 ∃ (r2 : Int),
 (FnD prog 113 [vD (dL a1), vD (dL b1)] (vD (dI r2)) []) ∧
 ((decide (r2 < (0 : Int)) = true →
 ∃ (r3 : DL) (r01 : Bool) (r11 : DL),
 (FnD prog 119 [vD (dL b1), vD (dL a1)] (vD (dL r3)) []) ∧
 (FnD prog 92 [vD (dL r3), vD (dB b0)] (vA [sD (dB r01), sD (dL r11)]) []) ∧
 (R (vA [sD (dB r01), sD (dL r11)]) [])) ∧
 (decide (r2 < (0 : Int)) = false →
 ∃ (r4 : DL) (r02 : Bool) (r12 : DL),
 (FnD prog 119 [vD (dL a1), vD (dL b1)] (vD (dL r4)) []) ∧
 (FnD prog 92 [vD (dL r4), vD (dB a0)] (vA [sD (dB r02), sD (dL r12)]) []) ∧
 (R (vA [sD (dB r02), sD (dL r12)]) []))))
theorem vc99_ok (a0 : Bool) (a1 : DL) (b0 : Bool) (b1 : DL) {R : V → Heap → Prop} (h : vc99 a0 a1 b0 b1 R) : FnG prog 99 [vA [sD (dB a0), sD (dL a1)], vA [sD (dB b0), sD (dL b1)]] [] R :=
  FnG.vcg hT func99 ntmps99 (.reg 3 [(0, Or.none, 0, 1), (1, Or.none, 1, 1), (2, Or.none, 2, 1)] [2, 3, 4] [0, 1, 2] [] <| .r1 [2, 3, 4, 5] [0, 1, 2] <| .c2 (.exl fun r => .exb fun r0 => .exl fun r1 => .drw 0 [(4, (Or.call (vD (dL r)) [] [], 0, 0), []), (7, (Or.call (vA [sD (dB r0), sD (dL r1)]) [] [], 0, 0), []), (8, (Or.none, 0, 0), [2])] [4] [2] [] <| .ret []) (.ex fun r2 => .reg 0 [(4, Or.call (vD (dI r2)) [] [], 0, 0)] [2, 3, 4, 19] [0, 1, 2] [] <| .c2 (.exl fun r3 => .exb fun r01 => .exl fun r11 => .drw 0 [(4, (Or.call (vD (dL r3)) [] [], 0, 0), []), (7, (Or.call (vA [sD (dB r01), sD (dL r11)]) [] [], 0, 0), []), (8, (Or.none, 0, 0), [2])] [4] [2] [] <| .ret []) (.exl fun r4 => .exb fun r02 => .exl fun r12 => .drw 0 [(4, (Or.call (vD (dL r4)) [] [], 0, 0), []), (7, (Or.call (vA [sD (dB r02), sD (dL r12)]) [] [], 0, 0), []), (8, (Or.none, 0, 0), [2])] [4] [2] [] <| .ret [])))
    (by kernel_rfl) (by kernel_rfl) (by kernel_rfl) h
def vc63 (n : Int) (R : V → Heap → Prop) : Prop :=
 (decide (n < (0 : Int)) = true →
 ∃ (r0 : Bool) (r1 : DL),
 (0 ≤ (32 : Int)) ∧
 (FnD prog 92 [vD (dL [[dU (IntKind.u32.wrap (IntKind.u64.wrap (0 - (IntKind.u64.wrap n))))], [dU (IntKind.u32.wrap ((IntKind.u64.wrap (0 - (IntKind.u64.wrap n))).fdiv (2 ^ (min (32 : Int).toNat IntKind.u64.bits))))]]), vD (dB (decide (n < (0 : Int))))] (vA [sD (dB r0), sD (dL r1)]) []) ∧
 (R (vA [sD (dB r0), sD (dL r1)]) [])) ∧
 (decide (n < (0 : Int)) = false →
 ∃ (r01 : Bool) (r11 : DL),
 (0 ≤ (32 : Int)) ∧
 (FnD prog 92 [vD (dL [[dU (IntKind.u32.wrap (IntKind.u64.wrap n))], [dU (IntKind.u32.wrap ((IntKind.u64.wrap n).fdiv (2 ^ (min (32 : Int).toNat IntKind.u64.bits))))]]), vD (dB (decide (n < (0 : Int))))] (vA [sD (dB r01), sD (dL r11)]) []) ∧
 (R (vA [sD (dB r01), sD (dL r11)]) []))
theorem vc63_ok (n : Int) {R : V → Heap → Prop} (h : vc63 n R) : FnG prog 63 [vD (dI n)] [] R :=
  FnG.vcg hT func63 ntmps63 (.reg 1 [(0, Or.none, 0, 1)] [0, 2] [0] [] <| .r1 [0, 2, 3] [0] <| .r1 [0, 2, 3, 7] [0] <| .c2 (.r1 [0, 2, 3] [0] <| .exb fun r0 => .exl fun r1 => .reg 1 [(5, Or.frz, 1, 1), (8, Or.call (vA [sD (dB r0), sD (dL r1)]) [] [], 0, 0)] [2] [0] [] <| .ret []) (.exb fun r01 => .exl fun r11 => .reg 1 [(5, Or.frz, 1, 1), (8, Or.call (vA [sD (dB r01), sD (dL r11)]) [] [], 0, 0)] [2] [0] [] <| .ret []))
    (by kernel_rfl) (by kernel_rfl) (by kernel_rfl) h
def vc97 (a0 : Bool) (a1 : DL) (b0 : Bool) (b1 : DL) (R : V → Heap → Prop) : Prop :=
 ∃ (r0 : Bool) (r1 : DL) (r01 : Bool) (r11 : DL),
 (FnD prog 95 [vA [sD (dB b0), sD (dL b1)]] (vA [sD (dB r0), sD (dL r1)]) []) ∧
 (FnD prog 99 [vA [sD (dB a0), sD (dL a1)], vA [sD (dB r0), sD (dL r1)]] (vA [sD (dB r01), sD (dL r11)]) []) ∧
 (R (vA [sD (dB r01), sD (dL r11)]) [])
theorem vc97_ok (a0 : Bool) (a1 : DL) (b0 : Bool) (b1 : DL) {R : V → Heap → Prop} (h : vc97 a0 a1 b0 b1 R) : FnG prog 97 [vA [sD (dB a0), sD (dL a1)], vA [sD (dB b0), sD (dL b1)]] [] R :=
  FnG.vcg hT func97 ntmps97 (.reg 3 [(0, Or.none, 0, 1), (1, Or.none, 1, 1), (2, Or.none, 2, 1)] [2, 3, 4] [0, 1, 2] [] <| .exb fun r0 => .exl fun r1 => .exb fun r01 => .exl fun r11 => .drw 0 [(2, (Or.call (vA [sD (dB r0), sD (dL r1)]) [] [], 0, 0), []), (3, (Or.call (vA [sD (dB r01), sD (dL r11)]) [] [], 0, 0), []), (4, (Or.none, 0, 0), [2])] [4] [2] [] <| .ret [])
    (by kernel_rfl) (by kernel_rfl) (by kernel_rfl) h
def vc98 (a0 : Bool) (a1 : DL) (b0 : Bool) (b1 : DL) (R : V → Heap → Prop) : Prop :=
 (0 ≤ (IntKind.i64.wrap ((a1.length : Int) + (b1.length : Int))) ∧ (IntKind.i64.wrap ((a1.length : Int) + (b1.length : Int))) ≤ (IntKind.i64.wrap ((a1.length : Int) + (b1.length : Int))) ∧ (IntKind.i64.wrap ((a1.length : Int) + (b1.length : Int))) * (4 : Nat) ≤ 281474976710656) ∧
 (∃ (J0 : (DL) → Int → Prop) (μ0 : (DL) → Int → Nat),
 J0 (List.replicate ((IntKind.i64.wrap ((a1.length : Int) + (b1.length : Int)))).toNat [dU (0 : Int)]) (0 : Int) ∧ ∀ (out : DL) (t22 : Int), J0 out t22 →
 (decide (t22 < (a1.length : Int)) = true →
 ∃ (vx : Int),
 (0 ≤ t22 ∧ t22 < (a1.length : Int)) ∧
 (a1[(t22).toNat]? = some [dU vx]) ∧
 (∃ (J1 : (DL) → Int → Int → Prop) (μ1 : (DL) → Int → Int → Nat),
 J1 out (0 : Int) (0 : Int) ∧ ∀ (out1 : DL) (t30 carry : Int), J1 out1 t30 carry →
 (decide (t30 < (b1.length : Int)) = true →
 ∃ (vx1 : Int),
 (0 ≤ t30 ∧ t30 < (b1.length : Int)) ∧
 (b1[(t30).toNat]? = some [dU vx1]) ∧
 (∃ (vx2 : Int),
 (0 ≤ (IntKind.i64.wrap (t22 + t30)) ∧ (IntKind.i64.wrap (t22 + t30)) < (out1.length : Int)) ∧
 (out1[((IntKind.i64.wrap (t22 + t30))).toNat]? = some [dU vx2]) ∧
 ((0 ≤ (32 : Int)) ∧
 (J1 (out1.set ((IntKind.i64.wrap (t22 + t30))).toNat [dU (IntKind.u32.wrap (IntKind.u64.wrap (carry + (IntKind.u64.wrap ((IntKind.u64.wrap ((IntKind.u64.wrap vx) * (IntKind.u64.wrap vx1))) + (IntKind.u64.wrap vx2))))))]) (IntKind.i64.wrap (t30 + (1 : Int))) ((IntKind.u64.wrap (carry + (IntKind.u64.wrap ((IntKind.u64.wrap ((IntKind.u64.wrap vx) * (IntKind.u64.wrap vx1))) + (IntKind.u64.wrap vx2))))).fdiv (2 ^ (min (32 : Int).toNat IntKind.u64.bits))) ∧ μ1 (out1.set ((IntKind.i64.wrap (t22 + t30))).toNat [dU (IntKind.u32.wrap (IntKind.u64.wrap (carry + (IntKind.u64.wrap ((IntKind.u64.wrap ((IntKind.u64.wrap vx) * (IntKind.u64.wrap vx1))) + (IntKind.u64.wrap vx2))))))]) (IntKind.i64.wrap (t30 + (1 : Int))) ((IntKind.u64.wrap (carry + (IntKind.u64.wrap ((IntKind.u64.wrap ((IntKind.u64.wrap vx) * (IntKind.u64.wrap vx1))) + (IntKind.u64.wrap vx2))))).fdiv (2 ^ (min (32 : Int).toNat IntKind.u64.bits))) < μ1 out1 t30 carry)))) ∧
 (decide (t30 < (b1.length : Int)) = false →
 (0 ≤ (IntKind.i64.wrap (t22 + (b1.length : Int))) ∧ (IntKind.i64.wrap (t22 + (b1.length : Int))) < (out1.length : Int)) ∧
 (J0 (out1.set ((IntKind.i64.wrap (t22 + (b1.length : Int)))).toNat [dU (IntKind.u32.wrap carry)]) (IntKind.i64.wrap (t22 + (1 : Int))) ∧ μ0 (out1.set ((IntKind.i64.wrap (t22 + (b1.length : Int)))).toNat [dU (IntKind.u32.wrap carry)]) (IntKind.i64.wrap (t22 + (1 : Int))) < μ0 out t22)))) ∧
 (decide (t22 < (a1.length : Int)) = false →
 ∃ (r0 : Bool) (r1 : DL),
 (FnD prog 92 [vD (dL out), vD (dB (!(a0 == b0)))] (vA [sD (dB r0), sD (dL r1)]) []) ∧
 (R (vA [sD (dB r0), sD (dL r1)]) [])))
theorem vc98_ok (a0 : Bool) (a1 : DL) (b0 : Bool) (b1 : DL) {R : V → Heap → Prop} (h : vc98 a0 a1 b0 b1 R) : FnG prog 98 [vA [sD (dB a0), sD (dL a1)], vA [sD (dB b0), sD (dL b1)]] [] R :=
  FnG.vcg hT func98 ntmps98 (.reg 3 [(0, Or.none, 0, 1), (1, Or.none, 1, 1), (2, Or.none, 2, 1)] [2, 3, 4] [0, 1, 2] [] <| .reg 1 [(7, Or.none, 3, 1)] [2, 3, 4, 5] [0, 1, 2, 3] [] <| .r1 [2, 3, 4, 5, 20, 21, 22] [0, 1, 2, 3] <| .lp [.l, .i] (fun out t22 => ⟨[(2, vP 0 0), (3, vP 1 0), (4, vP 2 0), (5, vR 3), (20, vD (dL a1)), (21, vD (dI (a1.length : Int))), (22, vD (dI t22))], [some (Obj.box [sD (dB a0), sD (dL a1)]), some (Obj.box [sD (dB b0), sD (dL b1)]), some (Obj.box [sD (dB false), sD (D.raw (.slice none 0 0))]), some (Obj.arr 1 out)], 77⟩) [.l (List.replicate ((IntKind.i64.wrap ((a1.length : Int) + (b1.length : Int)))).toNat [dU (0 : Int)]), .i (0 : Int)] <| .fl fun out => .fi fun t22 => .beg <| .r1 [2, 3, 4, 5, 20, 21, 22, 23] [0, 1, 2, 3] <| .c2 (.ex fun vx => .reg 0 [(2, Or.cells [dU vx], 0, 0)] [2, 3, 4, 5, 6, 7, 20, 21, 22] [0, 1, 2, 3] [] <| .r1 [2, 3, 4, 5, 6, 7, 8, 20, 21, 22] [0, 1, 2, 3] <| .r1 [2, 3, 4, 5, 6, 7, 8, 20, 21, 22, 28, 29, 30] [0, 1, 2, 3] <| .lp [.l, .i, .i] (fun out1 t30 carry => ⟨[(2, vP 0 0), (3, vP 1 0), (4, vP 2 0), (5, vR 3), (6, vD (dI t22)), (7, vD (dU vx)), (8, vD (D.int .u64 carry)), (20, vD (dL a1)), (21, vD (dI (a1.length : Int))), (22, vD (dI t22)), (28, vD (dL b1)), (29, vD (dI (b1.length : Int))), (30, vD (dI t30))], [some (Obj.box [sD (dB a0), sD (dL a1)]), some (Obj.box [sD (dB b0), sD (dL b1)]), some (Obj.box [sD (dB false), sD (D.raw (.slice none 0 0))]), some (Obj.arr 1 out1)], 77⟩) [.l out, .i (0 : Int), .i (0 : Int)] <| .fl fun out1 => .fi fun t30 => .fi fun carry => .beg <| .r1 [2, 3, 4, 5, 6, 7, 8, 20, 21, 22, 28, 29, 30, 31] [0, 1, 2, 3] <| .c2 (.ex fun vx1 => .reg 0 [(2, Or.cells [dU vx1], 0, 0)] [2, 3, 4, 5, 6, 7, 8, 9, 10, 20, 21, 22, 28, 29, 30] [0, 1, 2, 3] [] <| .ex fun vx2 => .reg 0 [(11, Or.cells [dU vx2], 0, 0)] [2, 3, 4, 5, 6, 7, 8, 9, 20, 21, 22, 28, 29, 30] [0, 1, 2, 3] [] <| .reg 0 [] [2, 3, 4, 5, 6, 7, 8, 20, 21, 22, 28, 29, 30] [0, 1, 2, 3] [.old 1] <| .r1 [2, 3, 4, 5, 6, 7, 8, 20, 21, 22, 28, 29, 30] [0, 1, 2, 3] <| .r1 [2, 3, 4, 5, 6, 7, 8, 20, 21, 22, 28, 29, 30] [0, 1, 2, 3] <| .bk 0 [.l (out1.set ((IntKind.i64.wrap (t22 + t30))).toNat [dU (IntKind.u32.wrap (IntKind.u64.wrap (carry + (IntKind.u64.wrap ((IntKind.u64.wrap ((IntKind.u64.wrap vx) * (IntKind.u64.wrap vx1))) + (IntKind.u64.wrap vx2))))))]), .i (IntKind.i64.wrap (t30 + (1 : Int))), .i ((IntKind.u64.wrap (carry + (IntKind.u64.wrap ((IntKind.u64.wrap ((IntKind.u64.wrap vx) * (IntKind.u64.wrap vx1))) + (IntKind.u64.wrap vx2))))).fdiv (2 ^ (min (32 : Int).toNat IntKind.u64.bits)))]) (.r1 [2, 3, 4, 5, 20, 21, 22] [0, 1, 2, 3] <| .r1 [2, 3, 4, 5, 20, 21, 22] [0, 1, 2, 3] <| .bk 1 [.l (out1.set ((IntKind.i64.wrap (t22 + (b1.length : Int)))).toNat [dU (IntKind.u32.wrap carry)]), .i (IntKind.i64.wrap (t22 + (1 : Int)))])) (.frz [3] <| .exb fun r0 => .exl fun r1 => .reg 0 [(6, Or.call (vA [sD (dB r0), sD (dL r1)]) [] [], 0, 0)] [4] [2] [] <| .ret []))
    (by kernel_rfl) (by kernel_rfl) (by kernel_rfl) h
end Go.AM
/- What functions of the program come to: group Ref. Printed by vc.py. -/
set_option maxRecDepth 100000
set_option linter.unusedVariables false
namespace Go.AM
open Go.Proofs.Tryz
def vc56 (raw : DL) (neg : Bool) (R : V → Heap → Prop) : Prop :=
 ∃ (J0 : Int → Prop) (μ0 : Int → Nat),
 J0 (raw.length : Int) ∧ ∀ (n : Int), J0 n →
 (decide (n > (0 : Int)) = true →
 ∃ (vx : Int),
 (0 ≤ (IntKind.i64.wrap (n - (1 : Int))) ∧ (IntKind.i64.wrap (n - (1 : Int))) < (raw.length : Int)) ∧
 (raw[((IntKind.i64.wrap (n - (1 : Int)))).toNat]? = some [dU vx]) ∧
 (((vx == (0 : Int)) = true →
 J0 (IntKind.i64.wrap (n - (1 : Int))) ∧ μ0 (IntKind.i64.wrap (n - (1 : Int))) < μ0 n) ∧
 ((vx == (0 : Int)) = false →
 (neg = true →
 (0 ≤ n ∧ n ≤ (raw.length : Int)) ∧
 (∀ y ∈ (raw.take (n).toNat), y.length = 1) ∧
 ((([] : DL).length + ((raw.take (n).toNat) : DL).length) * 4 ≤ 140737488355328) ∧
 (R (vA [sD (dB (decide (n > (0 : Int)))), sD (dL (([] : DL) ++ (raw.take (n).toNat)))]) [])) ∧
 (neg = false →
 (0 ≤ n ∧ n ≤ (raw.length : Int)) ∧
 (∀ y ∈ (raw.take (n).toNat), y.length = 1) ∧
 ((([] : DL).length + ((raw.take (n).toNat) : DL).length) * 4 ≤ 140737488355328) ∧
 (R (vA [sD (dB false), sD (dL (([] : DL) ++ (raw.take (n).toNat)))]) []))))) ∧
 (decide (n > (0 : Int)) = false →
 (neg = true →
 (0 ≤ n ∧ n ≤ (raw.length : Int)) ∧
 (∀ y ∈ (raw.take (n).toNat), y.length = 1) ∧
 ((([] : DL).length + ((raw.take (n).toNat) : DL).length) * 4 ≤ 140737488355328) ∧
 (R (vA [sD (dB (decide (n > (0 : Int)))), sD (dL (([] : DL) ++ (raw.take (n).toNat)))]) [])) ∧
 (neg = false →
 (0 ≤ n ∧ n ≤ (raw.length : Int)) ∧
 (∀ y ∈ (raw.take (n).toNat), y.length = 1) ∧
 ((([] : DL).length + ((raw.take (n).toNat) : DL).length) * 4 ≤ 140737488355328) ∧
 (R (vA [sD (dB false), sD (dL (([] : DL) ++ (raw.take (n).toNat)))]) [])))
theorem vc56_ok (raw : DL) (neg : Bool) {R : V → Heap → Prop} (h : vc56 raw neg R) : FnG prog 56 [vD (dL raw), vD (dB neg)] [] R :=
  FnG.vcg hT func56 ntmps56 (.reg 1 [(0, Or.none, 0, 1)] [0, 1, 4] [0] [] <| .r1 [0, 1, 4, 5] [0] <| .lp [.i] (fun n => ⟨[(0, vD (dL raw)), (1, vD (dB neg)), (4, vP 0 0), (5, vD (dI n))], [some (Obj.box [sD (dB false), sD (D.raw (.slice none 0 0))])], 31⟩) [.i (raw.length : Int)] <| .fi fun n => .beg <| .spl ((decide (n > (0 : Int)))) (.ex fun vx => .reg 0 [(2, Or.bool true, 0, 0), (7, Or.cells [dU vx], 0, 0)] [0, 1, 4, 5, 17] [0] [.old 0] <| .c2 (.r1 [0, 1, 4, 5] [0] <| .bk 0 [.i (IntKind.i64.wrap (n - (1 : Int)))]) (.spl neg (.reg 2 [(1, Or.bool true, 0, 0), (5, Or.none, 1, 1), (9, Or.none, 2, 1)] [4] [0, 2] [.old 0] <| .frz [1] <| .ret []) (.reg 2 [(1, Or.bool false, 0, 0), (5, Or.none, 1, 1), (9, Or.none, 2, 1)] [4] [0, 2] [.old 0] <| .frz [1] <| .ret []))) (.reg 0 [(2, Or.bool false, 0, 0)] [0, 1, 4, 5, 17] [0] [.old 0] <| .ct false none <| .spl neg (.reg 2 [(1, Or.bool true, 0, 0), (5, Or.none, 1, 1), (9, Or.none, 2, 1)] [4] [0, 2] [.old 0] <| .frz [1] <| .ret []) (.reg 2 [(1, Or.bool false, 0, 0), (5, Or.none, 1, 1), (9, Or.none, 2, 1)] [4] [0, 2] [.old 0] <| .frz [1] <| .ret [])))
    (by kernel_rfl) (by kernel_rfl) (by kernel_rfl) h
def vc25 (n : Int) (R : V → Heap → Prop) : Prop :=
 (decide (n < (0 : Int)) = true →
 ∃ (r0 : Bool) (r1 : DL),
 (0 ≤ (32 : Int)) ∧
 (FnD prog 56 [vD (dL [[dU (IntKind.u32.wrap (IntKind.u64.wrap (0 - (IntKind.u64.wrap n))))], [dU (IntKind.u32.wrap ((IntKind.u64.wrap (0 - (IntKind.u64.wrap n))).fdiv (2 ^ (min (32 : Int).toNat IntKind.u64.bits))))]]), vD (dB (decide (n < (0 : Int))))] (vA [sD (dB r0), sD (dL r1)]) []) ∧
 (R (vA [sD (dB r0), sD (dL r1)]) [])) ∧
 (decide (n < (0 : Int)) = false →
 ∃ (r01 : Bool) (r11 : DL),
 (0 ≤ (32 : Int)) ∧
 (FnD prog 56 [vD (dL [[dU (IntKind.u32.wrap (IntKind.u64.wrap n))], [dU (IntKind.u32.wrap ((IntKind.u64.wrap n).fdiv (2 ^ (min (32 : Int).toNat IntKind.u64.bits))))]]), vD (dB (decide (n < (0 : Int))))] (vA [sD (dB r01), sD (dL r11)]) []) ∧
 (R (vA [sD (dB r01), sD (dL r11)]) []))
theorem vc25_ok (n : Int) {R : V → Heap → Prop} (h : vc25 n R) : FnG prog 25 [vD (dI n)] [] R :=
  FnG.vcg hT func25 ntmps25 (.reg 1 [(0, Or.none, 0, 1)] [0, 2] [0] [] <| .r1 [0, 2, 3] [0] <| .r1 [0, 2, 3, 7] [0] <| .c2 (.r1 [0, 2, 3] [0] <| .exb fun r0 => .exl fun r1 => .reg 1 [(5, Or.frz, 1, 1), (8, Or.call (vA [sD (dB r0), sD (dL r1)]) [] [], 0, 0)] [2] [0] [] <| .ret []) (.exb fun r01 => .exl fun r11 => .reg 1 [(5, Or.frz, 1, 1), (8, Or.call (vA [sD (dB r01), sD (dL r11)]) [] [], 0, 0)] [2] [0] [] <| .ret []))
    (by kernel_rfl) (by kernel_rfl) (by kernel_rfl) h
def vc58 (a b : DL) (R : V → Heap → Prop) : Prop :=
 (((a.length : Int) != (b.length : Int)) = true →
 R (vD (dB (decide ((a.length : Int) < (b.length : Int))))) []) ∧
 (((a.length : Int) != (b.length : Int)) = false →
 ∃ (J0 : Int → Prop) (μ0 : Int → Nat),
 J0 (IntKind.i64.wrap ((a.length : Int) - (1 : Int))) ∧ ∀ (i : Int), J0 i →
 (decide (i ≥ (0 : Int)) = true →
 ∃ (vx vx1 : Int),
 (0 ≤ i ∧ i < (a.length : Int)) ∧
 (a[(i).toNat]? = some [dU vx]) ∧
 (0 ≤ i ∧ i < (b.length : Int)) ∧
 (b[(i).toNat]? = some [dU vx1]) ∧
 (((vx != vx1) = true →
 R (vD (dB (decide (vx < vx1)))) []) ∧
 ((vx != vx1) = false →
 J0 (IntKind.i64.wrap (i - (1 : Int))) ∧ μ0 (IntKind.i64.wrap (i - (1 : Int))) < μ0 i))) ∧
 (decide (i ≥ (0 : Int)) = false →
 R (vD (dB false)) []))
theorem vc58_ok (a b : DL) {R : V → Heap → Prop} (h : vc58 a b R) : FnG prog 58 [vD (dL a), vD (dL b)] [] R :=
  FnG.vcg hT func58 ntmps58 (.r0 [0, 1] <| .r0 [0, 1, 10] <| .c2 (.r0 [4] <| .ret []) (.r0 [0, 1, 5] <| .lp [.i] (fun i => ⟨[(0, vD (dL a)), (1, vD (dL b)), (5, vD (dI i))], [], 41⟩) [.i (IntKind.i64.wrap ((a.length : Int) - (1 : Int)))] <| .fi fun i => .beg <| .r0 [0, 1, 5, 20] <| .c2 (.ex fun vx => .ex fun vx1 => .drw 0 [(3, (Or.cells [dU vx], 0, 0), []), (7, (Or.cells [dU vx1], 0, 0), [])] [0, 1, 5, 31] [] [] <| .c2 (.drw 0 [(3, (Or.cells [dU vx], 0, 0), []), (7, (Or.cells [dU vx1], 0, 0), [])] [4] [] [.old 4, .old 3, .old 2, .old 1] <| .ret []) (.r0 [0, 1, 5] <| .bk 0 [.i (IntKind.i64.wrap (i - (1 : Int)))])) (.r0 [4] <| .ret [])))
    (by kernel_rfl) (by kernel_rfl) (by kernel_rfl) h
def vc88 (a0 : Bool) (a1 : DL) (b0 : Bool) (b1 : DL) (R : V → Heap → Prop) : Prop :=
 ((a0 == b0) = true →
 ∃ (r : Bool),
 (FnD prog 58 [vD (dL a1), vD (dL b1)] (vD (dB r)) []) ∧
 (((!r) = true →
 ∃ (r1 : Bool),
 (FnD prog 58 [vD (dL b1), vD (dL a1)] (vD (dB r1)) []) ∧
 (R (vD (dB (!r1))) [])) ∧
 ((!r) = false →
 R (vD (dB false)) []))) ∧
 ((a0 == b0) = false →
 R (vD (dB false)) [])
theorem vc88_ok (a0 : Bool) (a1 : DL) (b0 : Bool) (b1 : DL) {R : V → Heap → Prop} (h : vc88 a0 a1 b0 b1 R) : FnG prog 88 [vA [sD (dB a0), sD (dL a1)], vA [sD (dB b0), sD (dL b1)]] [] R :=
  FnG.vcg hT func88 ntmps88 (.reg 2 [(0, Or.none, 0, 1), (1, Or.none, 1, 1)] [2, 3] [0, 1] [] <| .spl ((a0 == b0)) (.exb fun r => .ob (FnD prog 58 [vD (dL a1), vD (dL b1)] (vD (dB r)) []) <| .spl ((!r)) (.exb fun r1 => .reg 0 [(5, Or.bool true, 0, 0), (10, Or.call (vD (dB r)) [] [], 0, 0), (13, Or.bool true, 0, 0), (18, Or.call (vD (dB r1)) [] [], 0, 0)] [4] [] [.old 2, .old 1, .old 0] <| .ret []) (.reg 0 [(5, Or.bool true, 0, 0), (10, Or.call (vD (dB r)) [] [], 0, 0), (13, Or.bool false, 0, 0)] [4] [] [.old 2, .old 1, .old 0] <| .ret [])) (.reg 0 [(5, Or.bool false, 0, 0)] [4] [] [.old 0] <| .ret []))
    (by kernel_rfl) (by kernel_rfl) (by kernel_rfl) h
def vc101 (a0 : Bool) (a1 : DL) (R : V → Heap → Prop) : Prop :=
 (((a1.length : Int) == (0 : Int)) = true →
 R (vD (dB (!a0))) []) ∧
 (((a1.length : Int) == (0 : Int)) = false →
 ∃ (vx : Int),
 (0 ≤ (IntKind.i64.wrap ((a1.length : Int) - (1 : Int))) ∧ (IntKind.i64.wrap ((a1.length : Int) - (1 : Int))) < (a1.length : Int)) ∧
 (a1[((IntKind.i64.wrap ((a1.length : Int) - (1 : Int)))).toNat]? = some [dU vx]) ∧
 (R (vD (dB (vx != (0 : Int)))) []))
theorem vc101_ok (a0 : Bool) (a1 : DL) {R : V → Heap → Prop} (h : vc101 a0 a1 R) : FnG prog 101 [vA [sD (dB a0), sD (dL a1)]] [] R :=
  FnG.vcg hT func101 ntmps101 (.reg 1 [(0, Or.none, 0, 1)] [1] [0] [] <| .r1 [1, 6] [0] <| .c2 (.r0 [2] <| .ret []) (.ex fun vx => .reg 0 [(7, Or.cells [dU vx], 0, 0)] [2] [] [] <| .ret []))
    (by kernel_rfl) (by kernel_rfl) (by kernel_rfl) h
def vc41 (a0 : Bool) (a1 : DL) (R : V → Heap → Prop) : Prop :=
 (((a1.length : Int) == (0 : Int)) = true →
 R (vD (dI (0 : Int))) []) ∧
 (((a1.length : Int) == (0 : Int)) = false →
 (a0 = true →
 R (vD (dI (-1 : Int))) []) ∧
 (a0 = false →
 R (vD (dI (1 : Int))) []))
theorem vc41_ok (a0 : Bool) (a1 : DL) {R : V → Heap → Prop} (h : vc41 a0 a1 R) : FnG prog 41 [vA [sD (dB a0), sD (dL a1)]] [] R :=
  FnG.vcg hT func41 ntmps41 (.reg 1 [(0, Or.none, 0, 1)] [1] [0] [] <| .r1 [1, 6] [0] <| .c2 (.r0 [2] <| .ret []) (.r0 [8] <| .c2 (.r0 [2] <| .ret []) (.r0 [2] <| .ret [])))
    (by kernel_rfl) (by kernel_rfl) (by kernel_rfl) h
def vc52 (a0 : Bool) (a1 : DL) (R : V → Heap → Prop) : Prop :=
 ∃ (r0 : Bool) (r1 : DL),
 (FnD prog 56 [vD (dL a1), vD (dB (!a0))] (vA [sD (dB r0), sD (dL r1)]) []) ∧
 (R (vA [sD (dB r0), sD (dL r1)]) [])
theorem vc52_ok (a0 : Bool) (a1 : DL) {R : V → Heap → Prop} (h : vc52 a0 a1 R) : FnG prog 52 [vA [sD (dB a0), sD (dL a1)]] [] R :=
  FnG.vcg hT func52 ntmps52 (.reg 2 [(0, Or.none, 0, 1), (1, Or.none, 1, 1)] [1, 2] [0, 1] [] <| .exb fun r0 => .exl fun r1 => .reg 0 [(5, Or.call (vA [sD (dB r0), sD (dL r1)]) [] [], 0, 0)] [2] [1] [] <| .ret [])
    (by kernel_rfl) (by kernel_rfl) (by kernel_rfl) h
def vc57 (a b : DL) (R : V → Heap → Prop) : Prop :=
 ∃ (J0 : (DL) → Int → Int → Prop) (μ0 : (DL) → Int → Int → Nat),
 J0 ([] : DL) (0 : Int) (0 : Int) ∧ ∀ (out : DL) (carry i : Int), J0 out carry i →
 (decide (i < (a.length : Int)) = true →
 ∃ (vx : Int),
 (0 ≤ i ∧ i < (a.length : Int)) ∧
 (a[(i).toNat]? = some [dU vx]) ∧
 ((decide (i < (b.length : Int)) = true →
 ∃ (vx1 : Int),
 (0 ≤ i ∧ i < (b.length : Int)) ∧
 (b[(i).toNat]? = some [dU vx1]) ∧
 (((out.length + ([[dU (IntKind.u32.wrap (IntKind.u64.wrap ((IntKind.u64.wrap (carry + (IntKind.u64.wrap vx))) + (IntKind.u64.wrap vx1))))]] : DL).length) * 4 ≤ 140737488355328) ∧
 (((4294967296 : Int) ≠ 0) ∧
 (J0 (out ++ [[dU (IntKind.u32.wrap (IntKind.u64.wrap ((IntKind.u64.wrap (carry + (IntKind.u64.wrap vx))) + (IntKind.u64.wrap vx1))))]]) (IntKind.u64.wrap ((IntKind.u64.wrap ((IntKind.u64.wrap (carry + (IntKind.u64.wrap vx))) + (IntKind.u64.wrap vx1))).tdiv (4294967296 : Int))) (IntKind.i64.wrap (i + (1 : Int))) ∧ μ0 (out ++ [[dU (IntKind.u32.wrap (IntKind.u64.wrap ((IntKind.u64.wrap (carry + (IntKind.u64.wrap vx))) + (IntKind.u64.wrap vx1))))]]) (IntKind.u64.wrap ((IntKind.u64.wrap ((IntKind.u64.wrap (carry + (IntKind.u64.wrap vx))) + (IntKind.u64.wrap vx1))).tdiv (4294967296 : Int))) (IntKind.i64.wrap (i + (1 : Int))) < μ0 out carry i)))) ∧
 (decide (i < (b.length : Int)) = false →
 ((out.length + ([[dU (IntKind.u32.wrap (IntKind.u64.wrap (carry + (IntKind.u64.wrap vx))))]] : DL).length) * 4 ≤ 140737488355328) ∧
 (((4294967296 : Int) ≠ 0) ∧
 (J0 (out ++ [[dU (IntKind.u32.wrap (IntKind.u64.wrap (carry + (IntKind.u64.wrap vx))))]]) (IntKind.u64.wrap ((IntKind.u64.wrap (carry + (IntKind.u64.wrap vx))).tdiv (4294967296 : Int))) (IntKind.i64.wrap (i + (1 : Int))) ∧ μ0 (out ++ [[dU (IntKind.u32.wrap (IntKind.u64.wrap (carry + (IntKind.u64.wrap vx))))]]) (IntKind.u64.wrap ((IntKind.u64.wrap (carry + (IntKind.u64.wrap vx))).tdiv (4294967296 : Int))) (IntKind.i64.wrap (i + (1 : Int))) < μ0 out carry i))))) ∧
 (decide (i < (a.length : Int)) = false →
 (decide (i < (b.length : Int)) = true →
 ∃ (vx2 : Int),
 (0 ≤ i ∧ i < (b.length : Int)) ∧
 (b[(i).toNat]? = some [dU vx2]) ∧
 (((out.length + ([[dU (IntKind.u32.wrap (IntKind.u64.wrap (carry + (IntKind.u64.wrap vx2))))]] : DL).length) * 4 ≤ 140737488355328) ∧
 (((4294967296 : Int) ≠ 0) ∧
 (J0 (out ++ [[dU (IntKind.u32.wrap (IntKind.u64.wrap (carry + (IntKind.u64.wrap vx2))))]]) (IntKind.u64.wrap ((IntKind.u64.wrap (carry + (IntKind.u64.wrap vx2))).tdiv (4294967296 : Int))) (IntKind.i64.wrap (i + (1 : Int))) ∧ μ0 (out ++ [[dU (IntKind.u32.wrap (IntKind.u64.wrap (carry + (IntKind.u64.wrap vx2))))]]) (IntKind.u64.wrap ((IntKind.u64.wrap (carry + (IntKind.u64.wrap vx2))).tdiv (4294967296 : Int))) (IntKind.i64.wrap (i + (1 : Int))) < μ0 out carry i)))) ∧
 (decide (i < (b.length : Int)) = false →
 (decide (carry > (0 : Int)) = true →
 ((out.length + ([[dU (IntKind.u32.wrap carry)]] : DL).length) * 4 ≤ 140737488355328) ∧
 (((4294967296 : Int) ≠ 0) ∧
 (J0 (out ++ [[dU (IntKind.u32.wrap carry)]]) (IntKind.u64.wrap (carry.tdiv (4294967296 : Int))) (IntKind.i64.wrap (i + (1 : Int))) ∧ μ0 (out ++ [[dU (IntKind.u32.wrap carry)]]) (IntKind.u64.wrap (carry.tdiv (4294967296 : Int))) (IntKind.i64.wrap (i + (1 : Int))) < μ0 out carry i))) ∧
 (decide (carry > (0 : Int)) = false →
 R (vD (dL out)) [])))
theorem vc57_ok (a b : DL) {R : V → Heap → Prop} (h : vc57 a b R) : FnG prog 57 [vD (dL a), vD (dL b)] [] R :=
  FnG.vcg hT func57 ntmps57 (.r0 [0, 1] <| .reg 1 [(0, Or.none, 0, 1)] [0, 1, 5, 6] [0] [] <| .r1 [0, 1, 5, 6, 7] [0] <| .lp [.l, .i, .i] (fun out carry i => ⟨[(0, vD (dL a)), (1, vD (dL b)), (5, vR 0), (6, vD (D.int .u64 carry)), (7, vD (dI i))], [some (Obj.arr 1 out)], 55⟩) [.l ([] : DL), .i (0 : Int), .i (0 : Int)] <| .fl fun out => .fi fun carry => .fi fun i => .beg <| .spl ((decide (i < (a.length : Int)))) (.reg 0 [(4, Or.bool true, 0, 0)] [0, 1, 5, 6, 7, 22] [0] [.old 0] <| .ct true none <| .r1 [0, 1, 5, 6, 7, 28] [0] <| .ct true (some 0) <| .ex fun vx => .reg 0 [(4, Or.cells [dU vx], 0, 0)] [0, 1, 5, 6, 7] [0] [] <| .r1 [0, 1, 5, 6, 7, 39] [0] <| .c2 (.ex fun vx1 => .reg 0 [(4, Or.cells [dU vx1], 0, 0)] [0, 1, 5, 6, 7] [0] [] <| .reg 2 [(3, Or.none, 1, 1), (4, Or.none, 2, 1)] [0, 1, 5, 6, 7] [2] [] <| .r1 [0, 1, 5, 6, 7] [0] <| .r1 [0, 1, 5, 6, 7] [0] <| .bk 0 [.l (out ++ [[dU (IntKind.u32.wrap (IntKind.u64.wrap ((IntKind.u64.wrap (carry + (IntKind.u64.wrap vx))) + (IntKind.u64.wrap vx1))))]]), .i (IntKind.u64.wrap ((IntKind.u64.wrap ((IntKind.u64.wrap (carry + (IntKind.u64.wrap vx))) + (IntKind.u64.wrap vx1))).tdiv (4294967296 : Int))), .i (IntKind.i64.wrap (i + (1 : Int)))]) (.reg 2 [(3, Or.none, 1, 1), (4, Or.none, 2, 1)] [0, 1, 5, 6, 7] [2] [] <| .r1 [0, 1, 5, 6, 7] [0] <| .r1 [0, 1, 5, 6, 7] [0] <| .bk 0 [.l (out ++ [[dU (IntKind.u32.wrap (IntKind.u64.wrap (carry + (IntKind.u64.wrap vx))))]]), .i (IntKind.u64.wrap ((IntKind.u64.wrap (carry + (IntKind.u64.wrap vx))).tdiv (4294967296 : Int))), .i (IntKind.i64.wrap (i + (1 : Int)))])) (.spl ((decide (i < (b.length : Int)))) (.reg 0 [(4, Or.bool false, 0, 0), (10, Or.bool true, 0, 0)] [0, 1, 5, 6, 7, 22] [0] [.old 1, .old 0] <| .ct true none <| .r1 [0, 1, 5, 6, 7, 28] [0] <| .ct false (some 1) <| .r1 [0, 1, 5, 6, 7, 39] [0] <| .ct true (some 0) <| .ex fun vx2 => .reg 0 [(4, Or.cells [dU vx2], 0, 0)] [0, 1, 5, 6, 7] [0] [] <| .reg 2 [(3, Or.none, 1, 1), (4, Or.none, 2, 1)] [0, 1, 5, 6, 7] [2] [] <| .r1 [0, 1, 5, 6, 7] [0] <| .r1 [0, 1, 5, 6, 7] [0] <| .bk 0 [.l (out ++ [[dU (IntKind.u32.wrap (IntKind.u64.wrap (carry + (IntKind.u64.wrap vx2))))]]), .i (IntKind.u64.wrap ((IntKind.u64.wrap (carry + (IntKind.u64.wrap vx2))).tdiv (4294967296 : Int))), .i (IntKind.i64.wrap (i + (1 : Int)))]) (.reg 0 [(4, Or.bool false, 0, 0), (10, Or.bool false, 0, 0)] [0, 1, 5, 6, 7, 22] [0] [.old 1, .old 0] <| .c2 (.r1 [0, 1, 5, 6, 7, 28] [0] <| .ct false (some 2) <| .r1 [0, 1, 5, 6, 7, 39] [0] <| .ct false (some 1) <| .reg 2 [(3, Or.none, 1, 1), (4, Or.none, 2, 1)] [0, 1, 5, 6, 7] [2] [] <| .r1 [0, 1, 5, 6, 7] [0] <| .r1 [0, 1, 5, 6, 7] [0] <| .bk 0 [.l (out ++ [[dU (IntKind.u32.wrap carry)]]), .i (IntKind.u64.wrap (carry.tdiv (4294967296 : Int))), .i (IntKind.i64.wrap (i + (1 : Int)))]) (.r1 [4] [0] <| .frz [0] <| .ret []))))
    (by kernel_rfl) (by kernel_rfl) (by kernel_rfl) h
def vc59 (a b : DL) (R : V → Heap → Prop) : Prop :=
 ∃ (J0 : (DL) → Int → Int → Prop) (μ0 : (DL) → Int → Int → Nat),
 J0 ([] : DL) (0 : Int) (0 : Int) ∧ ∀ (out : DL) (borrow i : Int), J0 out borrow i →
 (decide (i < (a.length : Int)) = true →
 ∃ (vx : Int),
 (0 ≤ i ∧ i < (a.length : Int)) ∧
 (a[(i).toNat]? = some [dU vx]) ∧
 ((decide (i < (b.length : Int)) = true →
 ∃ (vx1 : Int),
 (0 ≤ i ∧ i < (b.length : Int)) ∧
 (b[(i).toNat]? = some [dU vx1]) ∧
 (((decide ((IntKind.i64.wrap ((IntKind.i64.wrap ((IntKind.i64.wrap vx) - borrow)) - (IntKind.i64.wrap vx1))) < (0 : Int))) = true →
 ((out.length + ([[dU (IntKind.u32.wrap (IntKind.i64.wrap ((IntKind.i64.wrap ((IntKind.i64.wrap ((IntKind.i64.wrap vx) - borrow)) - (IntKind.i64.wrap vx1))) + (4294967296 : Int))))]] : DL).length) * 4 ≤ 140737488355328) ∧
 (J0 (out ++ [[dU (IntKind.u32.wrap (IntKind.i64.wrap ((IntKind.i64.wrap ((IntKind.i64.wrap ((IntKind.i64.wrap vx) - borrow)) - (IntKind.i64.wrap vx1))) + (4294967296 : Int))))]]) (1 : Int) (IntKind.i64.wrap (i + (1 : Int))) ∧ μ0 (out ++ [[dU (IntKind.u32.wrap (IntKind.i64.wrap ((IntKind.i64.wrap ((IntKind.i64.wrap ((IntKind.i64.wrap vx) - borrow)) - (IntKind.i64.wrap vx1))) + (4294967296 : Int))))]]) (1 : Int) (IntKind.i64.wrap (i + (1 : Int))) < μ0 out borrow i)) ∧
 ((decide ((IntKind.i64.wrap ((IntKind.i64.wrap ((IntKind.i64.wrap vx) - borrow)) - (IntKind.i64.wrap vx1))) < (0 : Int))) = false →
 ((out.length + ([[dU (IntKind.u32.wrap (IntKind.i64.wrap ((IntKind.i64.wrap ((IntKind.i64.wrap vx) - borrow)) - (IntKind.i64.wrap vx1))))]] : DL).length) * 4 ≤ 140737488355328) ∧
 (J0 (out ++ [[dU (IntKind.u32.wrap (IntKind.i64.wrap ((IntKind.i64.wrap ((IntKind.i64.wrap vx) - borrow)) - (IntKind.i64.wrap vx1))))]]) (0 : Int) (IntKind.i64.wrap (i + (1 : Int))) ∧ μ0 (out ++ [[dU (IntKind.u32.wrap (IntKind.i64.wrap ((IntKind.i64.wrap ((IntKind.i64.wrap vx) - borrow)) - (IntKind.i64.wrap vx1))))]]) (0 : Int) (IntKind.i64.wrap (i + (1 : Int))) < μ0 out borrow i)))) ∧
 (decide (i < (b.length : Int)) = false →
 ((decide ((IntKind.i64.wrap ((IntKind.i64.wrap vx) - borrow)) < (0 : Int))) = true →
 ((out.length + ([[dU (IntKind.u32.wrap (IntKind.i64.wrap ((IntKind.i64.wrap ((IntKind.i64.wrap vx) - borrow)) + (4294967296 : Int))))]] : DL).length) * 4 ≤ 140737488355328) ∧
 (J0 (out ++ [[dU (IntKind.u32.wrap (IntKind.i64.wrap ((IntKind.i64.wrap ((IntKind.i64.wrap vx) - borrow)) + (4294967296 : Int))))]]) (1 : Int) (IntKind.i64.wrap (i + (1 : Int))) ∧ μ0 (out ++ [[dU (IntKind.u32.wrap (IntKind.i64.wrap ((IntKind.i64.wrap ((IntKind.i64.wrap vx) - borrow)) + (4294967296 : Int))))]]) (1 : Int) (IntKind.i64.wrap (i + (1 : Int))) < μ0 out borrow i)) ∧
 ((decide ((IntKind.i64.wrap ((IntKind.i64.wrap vx) - borrow)) < (0 : Int))) = false →
 ((out.length + ([[dU (IntKind.u32.wrap (IntKind.i64.wrap ((IntKind.i64.wrap vx) - borrow)))]] : DL).length) * 4 ≤ 140737488355328) ∧
 (J0 (out ++ [[dU (IntKind.u32.wrap (IntKind.i64.wrap ((IntKind.i64.wrap vx) - borrow)))]]) (0 : Int) (IntKind.i64.wrap (i + (1 : Int))) ∧ μ0 (out ++ [[dU (IntKind.u32.wrap (IntKind.i64.wrap ((IntKind.i64.wrap vx) - borrow)))]]) (0 : Int) (IntKind.i64.wrap (i + (1 : Int))) < μ0 out borrow i))))) ∧
 (decide (i < (a.length : Int)) = false →
 R (vD (dL out)) [])
theorem vc59_ok (a b : DL) {R : V → Heap → Prop} (h : vc59 a b R) : FnG prog 59 [vD (dL a), vD (dL b)] [] R :=
  FnG.vcg hT func59 ntmps59 (.r0 [0, 1] <| .reg 1 [(0, Or.none, 0, 1)] [0, 1, 5, 6] [0] [] <| .r1 [0, 1, 5, 6, 7] [0] <| .lp [.l, .i, .i] (fun out borrow i => ⟨[(0, vD (dL a)), (1, vD (dL b)), (5, vR 0), (6, vD (dI borrow)), (7, vD (dI i))], [some (Obj.arr 1 out)], 44⟩) [.l ([] : DL), .i (0 : Int), .i (0 : Int)] <| .fl fun out => .fi fun borrow => .fi fun i => .beg <| .r1 [0, 1, 5, 6, 7, 13] [0] <| .c2 (.ex fun vx => .reg 0 [(3, Or.cells [dU vx], 0, 0)] [0, 1, 5, 7, 8] [0] [] <| .r1 [0, 1, 5, 7, 8, 26] [0] <| .c2 (.ex fun vx1 => .reg 0 [(4, Or.cells [dU vx1], 0, 0)] [0, 1, 5, 7, 8] [0] [] <| .r1 [0, 1, 5, 6, 7, 8] [0] <| .r1 [0, 1, 5, 6, 7, 8, 35] [0] <| .c2 (.r1 [0, 1, 5, 7, 8] [0] <| .r1 [0, 1, 5, 6, 7, 8] [0] <| .reg 2 [(3, Or.none, 1, 1), (4, Or.none, 2, 1)] [0, 1, 5, 6, 7] [2] [] <| .r1 [0, 1, 5, 6, 7] [0] <| .bk 0 [.l (out ++ [[dU (IntKind.u32.wrap (IntKind.i64.wrap ((IntKind.i64.wrap ((IntKind.i64.wrap ((IntKind.i64.wrap vx) - borrow)) - (IntKind.i64.wrap vx1))) + (4294967296 : Int))))]]), .i (1 : Int), .i (IntKind.i64.wrap (i + (1 : Int)))]) (.reg 2 [(3, Or.none, 1, 1), (4, Or.none, 2, 1)] [0, 1, 5, 6, 7] [2] [] <| .r1 [0, 1, 5, 6, 7] [0] <| .bk 0 [.l (out ++ [[dU (IntKind.u32.wrap (IntKind.i64.wrap ((IntKind.i64.wrap ((IntKind.i64.wrap vx) - borrow)) - (IntKind.i64.wrap vx1))))]]), .i (0 : Int), .i (IntKind.i64.wrap (i + (1 : Int)))])) (.r1 [0, 1, 5, 6, 7, 8] [0] <| .r1 [0, 1, 5, 6, 7, 8, 35] [0] <| .c2 (.r1 [0, 1, 5, 7, 8] [0] <| .r1 [0, 1, 5, 6, 7, 8] [0] <| .reg 2 [(3, Or.none, 1, 1), (4, Or.none, 2, 1)] [0, 1, 5, 6, 7] [2] [] <| .r1 [0, 1, 5, 6, 7] [0] <| .bk 0 [.l (out ++ [[dU (IntKind.u32.wrap (IntKind.i64.wrap ((IntKind.i64.wrap ((IntKind.i64.wrap vx) - borrow)) + (4294967296 : Int))))]]), .i (1 : Int), .i (IntKind.i64.wrap (i + (1 : Int)))]) (.reg 2 [(3, Or.none, 1, 1), (4, Or.none, 2, 1)] [0, 1, 5, 6, 7] [2] [] <| .r1 [0, 1, 5, 6, 7] [0] <| .bk 0 [.l (out ++ [[dU (IntKind.u32.wrap (IntKind.i64.wrap ((IntKind.i64.wrap vx) - borrow)))]]), .i (0 : Int), .i (IntKind.i64.wrap (i + (1 : Int)))]))) (.r1 [4] [0] <| .frz [0] <| .ret []))
    (by kernel_rfl) (by kernel_rfl) (by kernel_rfl) h
def vc24 (a0 : Bool) (a1 : DL) (b0 : Bool) (b1 : DL) (R : V → Heap → Prop) : Prop :=
 ((a0 == b0) = true →
 ∃ (r : DL) (r0 : Bool) (r1 : DL),
 (FnD prog 57 [vD (dL a1), vD (dL b1)] (vD (dL r)) []) ∧
 (FnD prog 56 [vD (dL r), vD (dB a0)] (vA [sD (dB r0), sD (dL r1)]) []) ∧
 (R (vA [sD (dB r0), sD (dL r1)]) [])) ∧
 ((a0 == b0) = false →
 ∃ (r2 : Bool),
 (FnD prog 58 [vD (dL a1), vD (dL b1)] (vD (dB r2)) []) ∧
 ((r2 = true →
 ∃ (r3 : DL) (r01 : Bool) (r11 : DL),
 (FnD prog 59 [vD (dL b1), vD (dL a1)] (vD (dL r3)) []) ∧
 (FnD prog 56 [vD (dL r3), vD (dB b0)] (vA [sD (dB r01), sD (dL r11)]) []) ∧
 (R (vA [sD (dB r01), sD (dL r11)]) [])) ∧
 (r2 = false →
 ∃ (r4 : DL) (r02 : Bool) (r12 : DL),
 (FnD prog 59 [vD (dL a1), vD (dL b1)] (vD (dL r4)) []) ∧
 (FnD prog 56 [vD (dL r4), vD (dB a0)] (vA [sD (dB r02), sD (dL r12)]) []) ∧
 (R (vA [sD (dB r02), sD (dL r12)]) []))))
theorem vc24_ok (a0 : Bool) (a1 : DL) (b0 : Bool) (b1 : DL) {R : V → Heap → Prop} (h : vc24 a0 a1 b0 b1 R) : FnG prog 24 [vA [sD (dB a0), sD (dL a1)], vA [sD (dB b0), sD (dL b1)]] [] R :=
  FnG.vcg hT func24 ntmps24 (.reg 3 [(0, Or.none, 0, 1), (1, Or.none, 1, 1), (2, Or.none, 2, 1)] [2, 3, 4] [0, 1, 2] [] <| .r1 [2, 3, 4, 9] [0, 1, 2] <| .c2 (.exl fun r => .exb fun r0 => .exl fun r1 => .drw 0 [(4, (Or.call (vD (dL r)) [] [], 0, 0), []), (7, (Or.call (vA [sD (dB r0), sD (dL r1)]) [] [], 0, 0), []), (8, (Or.none, 0, 0), [2])] [4] [2] [] <| .ret []) (.exb fun r2 => .reg 0 [(4, Or.call (vD (dB r2)) [] [], 0, 0)] [2, 3, 4, 22] [0, 1, 2] [] <| .c2 (.exl fun r3 => .exb fun r01 => .exl fun r11 => .drw 0 [(4, (Or.call (vD (dL r3)) [] [], 0, 0), []), (7, (Or.call (vA [sD (dB r01), sD (dL r11)]) [] [], 0, 0), []), (8, (Or.none, 0, 0), [2])] [4] [2] [] <| .ret []) (.exl fun r4 => .exb fun r02 => .exl fun r12 => .drw 0 [(4, (Or.call (vD (dL r4)) [] [], 0, 0), []), (7, (Or.call (vA [sD (dB r02), sD (dL r12)]) [] [], 0, 0), []), (8, (Or.none, 0, 0), [2])] [4] [2] [] <| .ret [])))
    (by kernel_rfl) (by kernel_rfl) (by kernel_rfl) h
def vc91 (a0 : Bool) (a1 : DL) (b0 : Bool) (b1 : DL) (R : V → Heap → Prop) : Prop :=
 (0 ≤ (IntKind.i64.wrap ((IntKind.i64.wrap ((a1.length : Int) + (b1.length : Int))) + (1 : Int))) ∧ (IntKind.i64.wrap ((IntKind.i64.wrap ((a1.length : Int) + (b1.length : Int))) + (1 : Int))) ≤ (IntKind.i64.wrap ((IntKind.i64.wrap ((a1.length : Int) + (b1.length : Int))) + (1 : Int))) ∧ (IntKind.i64.wrap ((IntKind.i64.wrap ((a1.length : Int) + (b1.length : Int))) + (1 : Int))) * (4 : Nat) ≤ 281474976710656) ∧
 (∃ (J0 : (DL) → Int → Prop) (μ0 : (DL) → Int → Nat),
 J0 (List.replicate ((IntKind.i64.wrap ((IntKind.i64.wrap ((a1.length : Int) + (b1.length : Int))) + (1 : Int)))).toNat [dU (0 : Int)]) (0 : Int) ∧ ∀ (out : DL) (i : Int), J0 out i →
 (decide (i < (a1.length : Int)) = true →
 ∃ (J1 : (DL) → Int → Int → Prop) (μ1 : (DL) → Int → Int → Nat),
 J1 out (0 : Int) (0 : Int) ∧ ∀ (out1 : DL) (carry k : Int), J1 out1 carry k →
 (decide (k < (b1.length : Int)) = true →
 ∃ (vx : Int),
 (0 ≤ (IntKind.i64.wrap (i + k)) ∧ (IntKind.i64.wrap (i + k)) < (out1.length : Int)) ∧
 (out1[((IntKind.i64.wrap (i + k))).toNat]? = some [dU vx]) ∧
 (∃ (vx1 vx2 : Int),
 (0 ≤ i ∧ i < (a1.length : Int)) ∧
 (a1[(i).toNat]? = some [dU vx1]) ∧
 (0 ≤ k ∧ k < (b1.length : Int)) ∧
 (b1[(k).toNat]? = some [dU vx2]) ∧
 (((4294967296 : Int) ≠ 0) ∧
 (J1 (out1.set ((IntKind.i64.wrap (i + k))).toNat [dU (IntKind.u32.wrap (IntKind.u64.wrap ((IntKind.u64.wrap (carry + (IntKind.u64.wrap vx))) + (IntKind.u64.wrap ((IntKind.u64.wrap vx1) * (IntKind.u64.wrap vx2))))))]) (IntKind.u64.wrap ((IntKind.u64.wrap ((IntKind.u64.wrap (carry + (IntKind.u64.wrap vx))) + (IntKind.u64.wrap ((IntKind.u64.wrap vx1) * (IntKind.u64.wrap vx2))))).tdiv (4294967296 : Int))) (IntKind.i64.wrap (k + (1 : Int))) ∧ μ1 (out1.set ((IntKind.i64.wrap (i + k))).toNat [dU (IntKind.u32.wrap (IntKind.u64.wrap ((IntKind.u64.wrap (carry + (IntKind.u64.wrap vx))) + (IntKind.u64.wrap ((IntKind.u64.wrap vx1) * (IntKind.u64.wrap vx2))))))]) (IntKind.u64.wrap ((IntKind.u64.wrap ((IntKind.u64.wrap (carry + (IntKind.u64.wrap vx))) + (IntKind.u64.wrap ((IntKind.u64.wrap vx1) * (IntKind.u64.wrap vx2))))).tdiv (4294967296 : Int))) (IntKind.i64.wrap (k + (1 : Int))) < μ1 out1 carry k)))) ∧
 (decide (k < (b1.length : Int)) = false →
 (decide (carry > (0 : Int)) = true →
 ∃ (vx3 : Int),
 (0 ≤ (IntKind.i64.wrap (i + k)) ∧ (IntKind.i64.wrap (i + k)) < (out1.length : Int)) ∧
 (out1[((IntKind.i64.wrap (i + k))).toNat]? = some [dU vx3]) ∧
 (((4294967296 : Int) ≠ 0) ∧
 (J1 (out1.set ((IntKind.i64.wrap (i + k))).toNat [dU (IntKind.u32.wrap (IntKind.u64.wrap (carry + (IntKind.u64.wrap vx3))))]) (IntKind.u64.wrap ((IntKind.u64.wrap (carry + (IntKind.u64.wrap vx3))).tdiv (4294967296 : Int))) (IntKind.i64.wrap (k + (1 : Int))) ∧ μ1 (out1.set ((IntKind.i64.wrap (i + k))).toNat [dU (IntKind.u32.wrap (IntKind.u64.wrap (carry + (IntKind.u64.wrap vx3))))]) (IntKind.u64.wrap ((IntKind.u64.wrap (carry + (IntKind.u64.wrap vx3))).tdiv (4294967296 : Int))) (IntKind.i64.wrap (k + (1 : Int))) < μ1 out1 carry k))) ∧
 (decide (carry > (0 : Int)) = false →
 J0 out1 (IntKind.i64.wrap (i + (1 : Int))) ∧ μ0 out1 (IntKind.i64.wrap (i + (1 : Int))) < μ0 out i))) ∧
 (decide (i < (a1.length : Int)) = false →
 ∃ (r0 : Bool) (r1 : DL),
 (FnD prog 56 [vD (dL out), vD (dB (!(a0 == b0)))] (vA [sD (dB r0), sD (dL r1)]) []) ∧
 (R (vA [sD (dB r0), sD (dL r1)]) [])))
theorem vc91_ok (a0 : Bool) (a1 : DL) (b0 : Bool) (b1 : DL) {R : V → Heap → Prop} (h : vc91 a0 a1 b0 b1 R) : FnG prog 91 [vA [sD (dB a0), sD (dL a1)], vA [sD (dB b0), sD (dL b1)]] [] R :=
  FnG.vcg hT func91 ntmps91 (.reg 3 [(0, Or.none, 0, 1), (1, Or.none, 1, 1), (2, Or.none, 2, 1)] [2, 3, 4] [0, 1, 2] [] <| .reg 1 [(8, Or.none, 3, 1)] [2, 3, 4, 5] [0, 1, 2, 3] [] <| .r1 [2, 3, 4, 5, 6] [0, 1, 2, 3] <| .lp [.l, .i] (fun out i => ⟨[(2, vP 0 0), (3, vP 1 0), (4, vP 2 0), (5, vR 3), (6, vD (dI i))], [some (Obj.box [sD (dB a0), sD (dL a1)]), some (Obj.box [sD (dB b0), sD (dL b1)]), some (Obj.box [sD (dB false), sD (D.raw (.slice none 0 0))]), some (Obj.arr 1 out)], 81⟩) [.l (List.replicate ((IntKind.i64.wrap ((IntKind.i64.wrap ((a1.length : Int) + (b1.length : Int))) + (1 : Int)))).toNat [dU (0 : Int)]), .i (0 : Int)] <| .fl fun out => .fi fun i => .beg <| .r1 [2, 3, 4, 5, 6, 22] [0, 1, 2, 3] <| .c2 (.r1 [2, 3, 4, 5, 6, 7] [0, 1, 2, 3] <| .r1 [2, 3, 4, 5, 6, 7, 8] [0, 1, 2, 3] <| .lp [.l, .i, .i] (fun out1 carry k => ⟨[(2, vP 0 0), (3, vP 1 0), (4, vP 2 0), (5, vR 3), (6, vD (dI i)), (7, vD (D.int .u64 carry)), (8, vD (dI k))], [some (Obj.box [sD (dB a0), sD (dL a1)]), some (Obj.box [sD (dB b0), sD (dL b1)]), some (Obj.box [sD (dB false), sD (D.raw (.slice none 0 0))]), some (Obj.arr 1 out1)], 81⟩) [.l out, .i (0 : Int), .i (0 : Int)] <| .fl fun out1 => .fi fun carry => .fi fun k => .beg <| .spl ((decide (k < (b1.length : Int)))) (.reg 0 [(5, Or.bool true, 0, 0)] [2, 3, 4, 5, 6, 7, 8, 33] [0, 1, 2, 3] [.old 0] <| .ct true none <| .ex fun vx => .reg 0 [(6, Or.cells [dU vx], 0, 0)] [2, 3, 4, 5, 6, 7, 8] [0, 1, 2, 3] [] <| .r1 [2, 3, 4, 5, 6, 7, 8, 49] [0, 1, 2, 3] <| .ct true (some 2) <| .ex fun vx1 => .ex fun vx2 => .drw 0 [(5, (Or.cells [dU vx1], 0, 0), []), (11, (Or.cells [dU vx2], 0, 0), [])] [2, 3, 4, 5, 6, 7, 8] [0, 1, 2, 3] [] <| .reg 0 [] [2, 3, 4, 5, 6, 7, 8] [0, 1, 2, 3] [.old 5] <| .r1 [2, 3, 4, 5, 6, 7, 8] [0, 1, 2, 3] <| .r1 [2, 3, 4, 5, 6, 7, 8] [0, 1, 2, 3] <| .bk 0 [.l (out1.set ((IntKind.i64.wrap (i + k))).toNat [dU (IntKind.u32.wrap (IntKind.u64.wrap ((IntKind.u64.wrap (carry + (IntKind.u64.wrap vx))) + (IntKind.u64.wrap ((IntKind.u64.wrap vx1) * (IntKind.u64.wrap vx2))))))]), .i (IntKind.u64.wrap ((IntKind.u64.wrap ((IntKind.u64.wrap (carry + (IntKind.u64.wrap vx))) + (IntKind.u64.wrap ((IntKind.u64.wrap vx1) * (IntKind.u64.wrap vx2))))).tdiv (4294967296 : Int))), .i (IntKind.i64.wrap (k + (1 : Int)))]) (.reg 0 [(5, Or.bool false, 0, 0)] [2, 3, 4, 5, 6, 7, 8, 33] [0, 1, 2, 3] [.old 0] <| .c2 (.ex fun vx3 => .reg 0 [(6, Or.cells [dU vx3], 0, 0)] [2, 3, 4, 5, 6, 7, 8] [0, 1, 2, 3] [] <| .r1 [2, 3, 4, 5, 6, 7, 8, 49] [0, 1, 2, 3] <| .ct false (some 3) <| .reg 0 [] [2, 3, 4, 5, 6, 7, 8] [0, 1, 2, 3] [.old 1] <| .r1 [2, 3, 4, 5, 6, 7, 8] [0, 1, 2, 3] <| .r1 [2, 3, 4, 5, 6, 7, 8] [0, 1, 2, 3] <| .bk 0 [.l (out1.set ((IntKind.i64.wrap (i + k))).toNat [dU (IntKind.u32.wrap (IntKind.u64.wrap (carry + (IntKind.u64.wrap vx3))))]), .i (IntKind.u64.wrap ((IntKind.u64.wrap (carry + (IntKind.u64.wrap vx3))).tdiv (4294967296 : Int))), .i (IntKind.i64.wrap (k + (1 : Int)))]) (.r1 [2, 3, 4, 5, 6] [0, 1, 2, 3] <| .bk 1 [.l out1, .i (IntKind.i64.wrap (i + (1 : Int)))]))) (.frz [3] <| .exb fun r0 => .exl fun r1 => .reg 0 [(6, Or.call (vA [sD (dB r0), sD (dL r1)]) [] [], 0, 0)] [4] [2] [] <| .ret []))
    (by kernel_rfl) (by kernel_rfl) (by kernel_rfl) h
end Go.AM
/- What the functions of package integer, and of its reference, answer: digits without zeros at the end, Of. -/
namespace Go.AM
open Go.Proofs.Tryz
theorem getLast_take_int {l : List Nat} {n : Int} (h0 : 0 < n) (h1 : n ≤ (l.length : Int)) : (l.take n.toNat).getLast? = some (l[(n - 1).toNat]'(by omega)) := by
  have hlt : (n - 1).toNat < l.length := by omega
  have := getLast_take hlt
  rwa [show (n - 1).toNat + 1 = n.toNat by omega] at this
theorem take_zero_int {l : List Nat} {n : Int} (h : n = 0) : l.take n.toNat = [] := by subst h; rfl
theorem stop_digs {l : List Nat} (hB : ∀ x ∈ l, x < 4294967296) {n : Int} (h0 : 0 ≤ n) (h1 : n ≤ (l.length : Int)) (hv : val (l.take n.toNat) = val l) (hx : ∀ (h : 0 < n), l[(n - 1).toNat]'(by omega) ≠ 0) :
    l.take n.toNat = digs (val l) ∧ decide (n > 0) = decide (0 < val l) := by
  have h2 : l.take n.toNat = digs (val l) := take_digs hB hv fun x hl => by
    by_cases hn : 0 < n
    · rw [getLast_take_int hn h1, Option.some.injEq] at hl; subst hl; exact hx hn
    · rw [take_zero_int (by omega)] at hl; simp at hl
  refine ⟨h2, ?_⟩
  rw [decide_eq_decide]
  constructor
  · intro hn
    apply Nat.pos_of_ne_zero
    intro hz
    rw [hz, digs_zero] at h2
    have : (l.take n.toNat).length = 0 := by rw [h2]; rfl
    rw [List.length_take] at this; omega
  · intro hp
    apply Classical.byContradiction
    intro hn
    rw [take_zero_int (by omega)] at hv
    simp only [val] at hv; omega
theorem pred_take {l : List Nat} {n : Int} (h0 : 0 < n) (h1 : n ≤ (l.length : Int)) (hz : l[(n - 1).toNat]'(by omega) = 0) (hv : val (l.take n.toNat) = val l) : val (l.take (n - 1).toNat) = val l := by
  have hlt : (n - 1).toNat < l.length := by omega
  rw [← hv, show n.toNat = (n - 1).toNat + 1 by omega, val_take_pred hlt hz]
theorem norm_ok (l : List Nat) (neg : Bool) (hB : ∀ x ∈ l, x < 4294967296) (hl : l.length ≤ 1099511627776) :
    FnD prog 92 [vs (lim l), vb neg] (V.e (E.agg [S.dat (D.bool (neg && decide (0 < val l))), S.dat (D.sl (lim (digs (val l))))])) [] := by
  refine vc92_ok (lim l) neg (R := Out _) ?_
  unfold vc92
  refine ⟨fun n => 0 ≤ n ∧ n ≤ (l.length : Int) ∧ val (l.take n.toNat) = val l, fun n => n.toNat, ⟨by omega, by simp [lim_length], by simp [lim_length]⟩, fun n ⟨h0, h1, h2⟩ => ⟨fun hc => ?_, fun hc => ?_⟩⟩
  · simp only [gt_iff_lt, decide_eq_true_eq] at hc
    have hw : IntKind.i64.wrap (n - 1) = n - 1 := w64 (by omega) (by omega)
    have hlt : (n - 1).toNat < l.length := by omega
    rw [hw]
    refine ⟨(l[(n - 1).toNat] : Nat), ⟨by omega, by rw [lim_length]; omega⟩, lim_get hlt, fun hx => ?_, fun hx => ?_⟩
    · have hx' : l[(n - 1).toNat] ≠ 0 := by simpa using hx
      obtain ⟨g1, g2⟩ := stop_digs hB h0 h1 h2 fun _ => hx'
      refine ⟨fun hn => ⟨⟨h0, Int.le_refl _, by rw [lim_length]; exact h1⟩, ?_⟩, fun hn => ⟨⟨h0, Int.le_refl _, by rw [lim_length]; exact h1⟩, ?_⟩⟩
      · subst hn; exact out2 (by simpa using g2) (by rw [lim_take, g1])
      · subst hn; exact out2 rfl (by rw [lim_take, g1])
    · have hx' : l[(n - 1).toNat] = 0 := by simpa using hx
      exact ⟨⟨by omega, by omega, pred_take hc h1 hx' h2⟩, by show (n - 1).toNat < n.toNat; omega⟩
  · simp only [gt_iff_lt, decide_eq_false_iff_not] at hc
    obtain ⟨g1, g2⟩ := stop_digs hB h0 h1 h2 fun h => absurd h hc
    refine ⟨fun hn => ⟨⟨h0, Int.le_refl _, by rw [lim_length]; exact h1⟩, ?_⟩, fun hn => ⟨⟨h0, Int.le_refl _, by rw [lim_length]; exact h1⟩, ?_⟩⟩
    · subst hn; exact out2 (by simpa using g2) (by rw [lim_take, g1])
    · subst hn; exact out2 rfl (by rw [lim_take, g1])
theorem made_ok (l : List Nat) (neg : Bool) (hB : ∀ x ∈ l, x < 4294967296) (hl : l.length ≤ 1099511627776) :
    FnD prog 56 [vs (lim l), vb neg] (V.e (E.agg [S.dat (D.bool (neg && decide (0 < val l))), S.dat (D.sl (lim (digs (val l))))])) [] := by
  refine vc56_ok (lim l) neg (R := Out _) ?_
  unfold vc56
  refine ⟨fun n => 0 ≤ n ∧ n ≤ (l.length : Int) ∧ val (l.take n.toNat) = val l, fun n => n.toNat, ⟨by omega, by simp [lim_length], by simp [lim_length]⟩, fun n ⟨h0, h1, h2⟩ => ?_⟩
  have hone : ∀ y ∈ (lim l).take n.toNat, y.length = 1 := fun y hy => lim_one l y (List.mem_of_mem_take hy)
  have hsz : (([] : DL).length + ((lim l).take n.toNat).length) * 4 ≤ 140737488355328 := by
    simp only [List.length_nil, List.length_take, lim_length]; omega
  have h1' : n ≤ ((lim l).length : Int) := by rw [lim_length]; exact h1
  refine ⟨fun hc => ?_, fun hc => ?_⟩
  · simp only [gt_iff_lt, decide_eq_true_eq] at hc
    have hw : IntKind.i64.wrap (n - 1) = n - 1 := w64 (by omega) (by omega)
    have hlt : (n - 1).toNat < l.length := by omega
    rw [hw]
    refine ⟨(l[(n - 1).toNat] : Nat), ⟨by omega, by rw [lim_length]; omega⟩, lim_get hlt, fun hx => ?_, fun hx => ?_⟩
    · have hx' : l[(n - 1).toNat] = 0 := by simpa using hx
      exact ⟨⟨by omega, by omega, pred_take hc h1 hx' h2⟩, by show (n - 1).toNat < n.toNat; omega⟩
    · have hx' : l[(n - 1).toNat] ≠ 0 := by simpa using hx
      obtain ⟨g1, g2⟩ := stop_digs hB h0 h1 h2 fun _ => hx'
      refine ⟨fun hn => ⟨⟨h0, h1'⟩, hone, hsz, ?_⟩, fun hn => ⟨⟨h0, h1'⟩, hone, hsz, ?_⟩⟩
      · subst hn; exact out2 (by simpa using g2) (by rw [List.nil_append, lim_take, g1])
      · subst hn; exact out2 rfl (by rw [List.nil_append, lim_take, g1])
  · simp only [gt_iff_lt, decide_eq_false_iff_not] at hc
    obtain ⟨g1, g2⟩ := stop_digs hB h0 h1 h2 fun h => absurd h hc
    refine ⟨fun hn => ⟨⟨h0, h1'⟩, hone, hsz, ?_⟩, fun hn => ⟨⟨h0, h1'⟩, hone, hsz, ?_⟩⟩
    · subst hn; exact out2 (by simpa using g2) (by rw [List.nil_append, lim_take, g1])
    · subst hn; exact out2 rfl (by rw [List.nil_append, lim_take, g1])
theorem sgn_eI (m : Nat) (neg : Bool) : V.e (E.agg [S.dat (D.bool (neg && decide (0 < m))), S.dat (D.sl (lim (digs m)))]) = eI (if neg then -(m : Int) else m) := by
  unfold eI
  cases neg with
  | true => simp
  | false => simp
theorem norm_eI (l : List Nat) (neg : Bool) (hB : ∀ x ∈ l, x < 4294967296) (hl : l.length ≤ 1099511627776) : FnD prog 92 [vs (lim l), vb neg] (eI (if neg then -(val l : Int) else val l)) [] :=
  sgn_eI (val l) neg ▸ norm_ok l neg hB hl
theorem made_eI (l : List Nat) (neg : Bool) (hB : ∀ x ∈ l, x < 4294967296) (hl : l.length ≤ 1099511627776) : FnD prog 56 [vs (lim l), vb neg] (eI (if neg then -(val l : Int) else val l)) [] :=
  sgn_eI (val l) neg ▸ made_ok l neg hB hl
end Go.AM
/- What the functions of package integer, and of its reference, answer: sums and differences of absolute values. -/
namespace Go.AM
open Go.Proofs.Tryz
theorem wu32 (n : Int) : IntKind.u32.wrap n = n % 4294967296 := rfl
theorem wu64 {n : Int} (h : 0 ≤ n) (h' : n < 18446744073709551616) : IntKind.u64.wrap n = n := by
  show n % 18446744073709551616 = n
  omega
theorem wu64' (n : Int) : IntKind.u64.wrap n = n % 18446744073709551616 := rfl
theorem sh32 {n : Int} : n.fdiv (2 ^ (min (32 : Int).toNat IntKind.u64.bits)) = n / 4294967296 := by
  have : (2 : Int) ^ (min (32 : Int).toNat IntKind.u64.bits) = 4294967296 := by decide
  rw [this, Int.fdiv_eq_ediv_of_nonneg _ (by decide)]
def vu (n : Int) : V := .e (.sc (.dat (.int .u32 n)))
def vu2 (a b : Int) : V := .tup [.sc (.dat (.int .u32 a)), .sc (.dat (.int .u32 b))]
theorem outu2 {a a' b b' : Int} (h1 : a = a') (h2 : b = b') : Out (vu2 a' b') (V.tup [E.sc (S.dat (D.int .u32 a)), E.sc (S.dat (D.int .u32 b))]) [] := by subst h1; subst h2; exact ⟨rfl, rfl⟩
theorem add32_ok (x y c : Nat) (hx : x < 4294967296) (hy : y < 4294967296) (hc : c ≤ 1) :
    FnD prog 130 [vu x, vu y, vu c] (vu2 (((x + y + c) % 4294967296 : Nat) : Int) (((x + y + c) / 4294967296 : Nat) : Int)) [] := by
  refine vc130_ok x y c (R := Out _) ?_
  unfold vc130
  have e1 : IntKind.u64.wrap (x : Int) = x := wu64 (by omega) (by omega)
  have e2 : IntKind.u64.wrap (y : Int) = y := wu64 (by omega) (by omega)
  have e3 : IntKind.u64.wrap (c : Int) = c := wu64 (by omega) (by omega)
  have e4 : IntKind.u64.wrap ((x : Int) + y) = x + y := wu64 (by omega) (by omega)
  have e5 : IntKind.u64.wrap ((x : Int) + y + c) = x + y + c := wu64 (by omega) (by omega)
  rw [e1, e2, e3, e4, e5, sh32, wu32, wu32]
  exact ⟨by decide, outu2 (by omega) (by omega)⟩
theorem bits_top (w : BitVec 32) : ((IntKind.u32.wrap (w.toNat : Int)).fdiv (2 ^ (min (31 : Int).toNat IntKind.u32.bits))) = if w.msb then 1 else 0 := by
  have h1 : (2 : Int) ^ (min (31 : Int).toNat IntKind.u32.bits) = 2147483648 := by decide
  rw [h1, Int.fdiv_eq_ediv_of_nonneg _ (by decide), wu32, BitVec.msb_eq_decide]
  have := w.isLt
  simp only [decide_eq_true_eq]
  split <;> omega
theorem ofInt_nat (x : Nat) : BitVec.ofInt 32 (x : Int) = BitVec.ofNat 32 x := by
  apply BitVec.eq_of_toNat_eq
  simp [BitVec.toNat_ofNat]
theorem msb_nat {x : Nat} (h : x < 4294967296) : (BitVec.ofNat 32 x).msb = decide (2147483648 ≤ x) := by
  rw [BitVec.msb_eq_decide, BitVec.toNat_ofNat, Nat.mod_eq_of_lt h]
theorem bits_of (f : BitVec 32 → BitVec 32 → BitVec 32) (x y : Int) : BitVec.ofInt 32 (bitsI .u32 f x y) = f (BitVec.ofInt 32 x) (BitVec.ofInt 32 y) := by
  have h : bitsI .u32 f x y = ((f (BitVec.ofInt 32 x) (BitVec.ofInt 32 y)).toNat : Int) := by
    have hlt := (f (BitVec.ofInt 32 x) (BitVec.ofInt 32 y)).isLt
    show IntKind.u32.wrap (((f (BitVec.ofInt 32 x) (BitVec.ofInt 32 y)).toNat : Nat) : Int) = _
    rw [wu32]
    have hlt' : (f (BitVec.ofInt 32 x) (BitVec.ofInt 32 y)).toNat < 4294967296 := hlt
    generalize (f (BitVec.ofInt 32 x) (BitVec.ofInt 32 y)).toNat = q at hlt'
    show (q : Int) % 4294967296 = q
    omega
  rw [h, ofInt_nat]
  simp
theorem sub32_ok (x y c : Nat) (hx : x < 4294967296) (hy : y < 4294967296) (hc : c ≤ 1) :
    FnD prog 129 [vu x, vu y, vu c] (vu2 (((x : Int) - y - c) % 4294967296) (if x < y + c then 1 else 0)) [] := by
  refine vc129_ok x y c (R := Out _) ?_
  unfold vc129
  have hd : IntKind.u32.wrap (IntKind.u32.wrap ((x : Int) - y) - c) = ((x : Int) - y - c) % 4294967296 := by
    rw [wu32, wu32]; omega
  rw [hd]
  obtain ⟨d, hdd⟩ : ∃ d : Nat, ((x : Int) - y - c) % 4294967296 = (d : Int) := ⟨(((x : Int) - y - c) % 4294967296).toNat, by omega⟩
  have hdl : d < 4294967296 := by omega
  refine ⟨by decide, outu2 rfl ?_⟩
  rw [hdd]
  have hm : (if IntKind.u32.signed then (-1 : Int) else IntKind.u32.max) = 4294967295 := by decide
  rw [hm]
  have hnot : ∀ w : BitVec 32, (BitVec.ofInt 32 4294967295 ^^^ w) = ~~~ w := fun w => by
    have : BitVec.ofInt 32 4294967295 = BitVec.allOnes 32 := by decide
    rw [this, BitVec.allOnes_xor]
  let an : BitVec 32 → BitVec 32 → BitVec 32 := fun a b => a &&& b
  let xo : BitVec 32 → BitVec 32 → BitVec 32 := fun a b => a ^^^ b
  show ((IntKind.u32.wrap ((((BitVec.ofInt 32 (bitsI .u32 an (bitsI .u32 xo 4294967295 x) y)) ||| (BitVec.ofInt 32 (bitsI .u32 an (bitsI .u32 xo 4294967295 (bitsI .u32 xo x y)) d)) : BitVec 32).toNat : Nat) : Int)).fdiv (2 ^ (min (31 : Int).toNat IntKind.u32.bits))) = _
  rw [bits_top]
  rw [bits_of an, bits_of xo, bits_of an, bits_of xo, bits_of xo]
  simp only [an, xo, hnot, BitVec.msb_or, BitVec.msb_and, BitVec.msb_xor, BitVec.msb_not, ofInt_nat, msb_nat hx, msb_nat hy, msb_nat hdl]
  by_cases a1 : 2147483648 ≤ x <;> by_cases a2 : 2147483648 ≤ y <;> by_cases a3 : 2147483648 ≤ d <;> simp [a1, a2, a3] <;> omega
end Go.AM
/- What the functions of package integer, and of its reference, answer: sums of absolute values. -/
namespace Go.AM
open Go.Proofs.Tryz
def padD : Nat → Nat → List Nat
  | 0, _ => []
  | k + 1, v => v % 4294967296 :: padD k (v / 4294967296)
theorem padD_length : ∀ k v, (padD k v).length = k
  | 0, _ => rfl
  | k + 1, v => by simp [padD, padD_length k]
theorem padD_lt : ∀ k v, ∀ x ∈ padD k v, x < 4294967296
  | 0, _, x, h => by simp [padD] at h
  | k + 1, v, x, h => by
    simp only [padD, List.mem_cons] at h
    rcases h with rfl | h
    · exact Nat.mod_lt _ (by decide)
    · exact padD_lt k _ x h
theorem padD_val : ∀ (l : List Nat), (∀ x ∈ l, x < 4294967296) → l = padD l.length (val l)
  | [], _ => rfl
  | x :: l, h => by
    have hx := h x (by simp)
    have h1 : (x + 4294967296 * val l) % 4294967296 = x := by omega
    have h2 : (x + 4294967296 * val l) / 4294967296 = val l := by omega
    simp only [List.length_cons, padD, val]
    rw [h1, h2, ← padD_val l fun y hy => h y (by simp [hy])]
theorem val_padD : ∀ k v, v < 4294967296 ^ k → val (padD k v) = v
  | 0, v, h => by simp at h; subst h; rfl
  | k + 1, v, h => by
    simp only [padD, val]
    rw [val_padD k (v / 4294967296) ?_]
    · omega
    · rw [Nat.pow_succ, Nat.mul_comm] at h
      exact Nat.div_lt_of_lt_mul h
def dg (l : List Nat) (i : Nat) : Nat := l.getD i 0
theorem dg_lt {l : List Nat} (h : ∀ x ∈ l, x < 4294967296) (i : Nat) : dg l i < 4294967296 := by
  unfold dg
  rcases Nat.lt_or_ge i l.length with hi | hi
  · rw [List.getD_eq_getElem?_getD, List.getElem?_eq_getElem hi]; exact h _ (List.getElem_mem hi)
  · rw [List.getD_eq_getElem?_getD, List.getElem?_eq_none hi]; decide
theorem dg_get {l : List Nat} {i : Nat} (h : i < l.length) : l[i] = dg l i := by
  unfold dg; rw [List.getD_eq_getElem?_getD, List.getElem?_eq_getElem h]; rfl
theorem dg_out {l : List Nat} {i : Nat} (h : l.length ≤ i) : dg l i = 0 := by
  unfold dg; rw [List.getD_eq_getElem?_getD, List.getElem?_eq_none h]; rfl
def low (l : List Nat) (i : Nat) : Nat := val (l.take i)
theorem low_zero (l : List Nat) : low l 0 = 0 := rfl
theorem low_succ (l : List Nat) (i : Nat) : low l (i + 1) = low l i + 4294967296 ^ i * dg l i := by
  unfold low
  rcases Nat.lt_or_ge i l.length with h | h
  · rw [List.take_add_one, List.getElem?_eq_getElem h, Option.toList_some, val_append, dg_get h, List.length_take, Nat.min_eq_left (by omega)]
    simp [val]
  · rw [List.take_of_length_le (by omega), List.take_of_length_le h, dg_out h]; simp
theorem low_all {l : List Nat} {i : Nat} (h : l.length ≤ i) : low l i = val l := by unfold low; rw [List.take_of_length_le h]
theorem low_set (l : List Nat) (i x : Nat) (j : Nat) (h : j ≤ i) : low (l.set i x) j = low l j := by
  unfold low; rw [List.take_set_of_le h]
theorem dg_set {l : List Nat} {i x : Nat} (h : i < l.length) : dg (l.set i x) i = x := by
  unfold dg; rw [List.getD_eq_getElem?_getD]; simp [h]
theorem low_set_succ {l : List Nat} {i x : Nat} (h : i < l.length) : low (l.set i x) (i + 1) = low l i + 4294967296 ^ i * x := by
  rw [low_succ, low_set l i x i (Nat.le_refl _), dg_set h]
theorem set_lt {l : List Nat} {i x : Nat} (h : ∀ y ∈ l, y < 4294967296) (hx : x < 4294967296) : ∀ y ∈ l.set i x, y < 4294967296 := fun y hy => by
  rcases List.mem_or_eq_of_mem_set hy with h1 | rfl
  · exact h y h1
  · exact hx
theorem lim_getI {l : List Nat} {i : Int} (h0 : 0 ≤ i) (h : i < (l.length : Int)) : (lim l)[i.toNat]? = some [D.int .u32 ((dg l i.toNat : Nat) : Int)] := by
  have hi : i.toNat < l.length := by omega
  rw [lim_get hi, dg_get hi]
theorem carry_step (p l s c : Nat) (a b q : Nat) (h : l + p * c = q) (hs : s = a + b + c) : l + p * (s % 4294967296) + p * 4294967296 * (s / 4294967296) = q + p * a + p * b := by
  have h1 : p * (s % 4294967296) + p * 4294967296 * (s / 4294967296) = p * s := by
    rw [Nat.mul_assoc, ← Nat.mul_add, Nat.mod_add_div]
  subst hs
  rw [Nat.add_assoc, h1, ← h]
  simp only [Nat.mul_add]; omega
def plusVC (a b : DL) (R : V → Heap → Prop) : Prop :=
    (0 ≤ (IntKind.i64.wrap ((a.length : Int) + (1 : Int))) ∧ (IntKind.i64.wrap ((a.length : Int) + (1 : Int))) ≤ (IntKind.i64.wrap ((a.length : Int) + (1 : Int))) ∧ (IntKind.i64.wrap ((a.length : Int) + (1 : Int))) * (4 : Nat) ≤ 281474976710656) ∧
    ((∀ y ∈ a, y.length = 1) ∧
    (∃ (J1 : (DL) → Int → Int → Prop) (μ1 : (DL) → Int → Int → Nat),
    J1 (a.take (List.replicate ((IntKind.i64.wrap ((a.length : Int) + (1 : Int)))).toNat [(D.int .u32 (0 : Int))]).length ++ (List.replicate ((IntKind.i64.wrap ((a.length : Int) + (1 : Int)))).toNat [(D.int .u32 (0 : Int))]).drop a.length) (0 : Int) (0 : Int) ∧ ∀ (out1 : DL) (t251 : Int) (carry1 : Int), J1 out1 t251 carry1 →
      ((decide (t251 < (a.length : Int))) = true →
        ((decide (t251 < (b.length : Int))) = true →
          ∃ (vx3 : Int),
          (0 ≤ t251 ∧ t251 < (b.length : Int)) ∧
          (b[(t251).toNat]? = some [(D.int .u32 vx3)]) ∧
          (∃ (vx4 : Int) (r4 : Int) (r5 : Int),
          (0 ≤ t251 ∧ t251 < (a.length : Int)) ∧
          (a[(t251).toNat]? = some [(D.int .u32 vx4)]) ∧
          (FnD prog 130 [(V.e (E.sc (S.dat (D.int .u32 vx4)))), (V.e (E.sc (S.dat (D.int .u32 vx3)))), (V.e (E.sc (S.dat (D.int .u32 carry1))))] (V.tup [(E.sc (S.dat (D.int .u32 r4))), (E.sc (S.dat (D.int .u32 r5)))]) []) ∧
          (0 ≤ t251 ∧ t251 < (out1.length : Int)) ∧
          (J1 (out1.set (t251).toNat [(D.int .u32 r4)]) (IntKind.i64.wrap (t251 + (1 : Int))) r5 ∧ μ1 (out1.set (t251).toNat [(D.int .u32 r4)]) (IntKind.i64.wrap (t251 + (1 : Int))) r5 < μ1 out1 t251 carry1))) ∧
        ((decide (t251 < (b.length : Int))) = false →
          ∃ (vx5 : Int) (r6 : Int) (r7 : Int),
          (0 ≤ t251 ∧ t251 < (a.length : Int)) ∧
          (a[(t251).toNat]? = some [(D.int .u32 vx5)]) ∧
          (FnD prog 130 [(V.e (E.sc (S.dat (D.int .u32 vx5)))), (V.e (E.sc (S.dat (D.int .u32 (0 : Int))))), (V.e (E.sc (S.dat (D.int .u32 carry1))))] (V.tup [(E.sc (S.dat (D.int .u32 r6))), (E.sc (S.dat (D.int .u32 r7)))]) []) ∧
          (0 ≤ t251 ∧ t251 < (out1.length : Int)) ∧
          (J1 (out1.set (t251).toNat [(D.int .u32 r6)]) (IntKind.i64.wrap (t251 + (1 : Int))) r7 ∧ μ1 (out1.set (t251).toNat [(D.int .u32 r6)]) (IntKind.i64.wrap (t251 + (1 : Int))) r7 < μ1 out1 t251 carry1))) ∧
      ((decide (t251 < (a.length : Int))) = false →
        (0 ≤ (a.length : Int) ∧ (a.length : Int) < (out1.length : Int)) ∧
        (R (V.e (E.sc (S.dat (D.sl (out1.set ((a.length : Int)).toNat [(D.int .u32 carry1)]))))) []))))
theorem plusVC_ok {a b : List Nat} (ha : ∀ x ∈ a, x < 4294967296) (hb : ∀ x ∈ b, x < 4294967296) (hl : a.length ≤ 1099511627776) (hab : b.length ≤ a.length) : plusVC (lim a) (lim b) (Out (vs (lim (padD (a.length + 1) (val a + val b))))) := by
  unfold plusVC
  simp only [lim_length]
  have hw : IntKind.i64.wrap ((a.length : Int) + 1) = ((a.length + 1 : Nat) : Int) := by rw [w64 (by omega) (by omega)]; simp
  rw [hw]
  refine ⟨⟨by omega, by omega, by omega⟩, lim_one a, fun out t c => ∃ (o : List Nat) (i k : Nat), out = lim o ∧ t = (i : Int) ∧ c = (k : Int) ∧ o.length = a.length + 1 ∧ (∀ x ∈ o, x < 4294967296) ∧ i ≤ a.length ∧ k ≤ 1 ∧ low o i + 4294967296 ^ i * k = low a i + low b i,
    fun _ t _ => ((a.length : Int) - t).toNat, ⟨a ++ [0], 0, 0, ?_, rfl, rfl, by simp, ?_, by omega, by omega, by simp [low_zero]⟩, ?_⟩
  · simp only [Int.toNat_natCast, List.length_replicate]
    rw [List.take_of_length_le (by rw [lim_length]; omega), List.drop_replicate, Nat.add_sub_cancel_left, lim_append]; rfl
  · intro x hx
    rcases List.mem_append.1 hx with h | h
    · exact ha x h
    · simp at h; omega
  · rintro _ _ _ ⟨o, i, k, rfl, rfl, rfl, hol, hod, hia, hk, hinv⟩
    have step : i < a.length → ∀ (x y : Nat), x = dg a i → y = dg b i →
        FnD prog 130 [vu x, vu y, vu k] (vu2 (((x + y + k) % 4294967296 : Nat) : Int) (((x + y + k) / 4294967296 : Nat) : Int)) [] ∧ (0 ≤ (i : Int) ∧ (i : Int) < ((lim o).length : Int)) ∧
        ((∃ (o' : List Nat) (i' k' : Nat), (lim o).set (i : Int).toNat [D.int .u32 (((x + y + k) % 4294967296 : Nat) : Int)] = lim o' ∧ IntKind.i64.wrap ((i : Int) + 1) = (i' : Int) ∧ (((x + y + k) / 4294967296 : Nat) : Int) = (k' : Int) ∧ o'.length = a.length + 1 ∧ (∀ x ∈ o', x < 4294967296) ∧ i' ≤ a.length ∧ k' ≤ 1 ∧
          low o' i' + 4294967296 ^ i' * k' = low a i' + low b i') ∧ ((a.length : Int) - IntKind.i64.wrap ((i : Int) + 1)).toNat < ((a.length : Int) - (i : Int)).toNat) := fun hi x y hx hy => by
      have hxl : x < 4294967296 := hx ▸ dg_lt ha i
      have hyl : y < 4294967296 := hy ▸ dg_lt hb i
      have hwi : IntKind.i64.wrap ((i : Int) + 1) = ((i + 1 : Nat) : Int) := by rw [w64 (by omega) (by omega)]; simp
      refine ⟨add32_ok x y k hxl hyl hk, ⟨by omega, by rw [lim_length]; omega⟩, ⟨o.set i ((x + y + k) % 4294967296), i + 1, (x + y + k) / 4294967296, by rw [Int.toNat_natCast, lim_set], hwi, rfl, by simp [hol], set_lt hod (Nat.mod_lt _ (by decide)), by omega, by omega, ?_⟩, by rw [hwi]; omega⟩
      rw [low_set_succ (by omega), low_succ a, low_succ b, Nat.pow_succ, ← hx, ← hy]
      have := carry_step (4294967296 ^ i) (low o i) (x + y + k) k x y _ hinv rfl
      omega
    refine ⟨fun hc => ⟨fun hd => ?_, fun hd => ?_⟩, fun hc => ?_⟩
    · have hi : i < a.length := by simpa using hc
      have hib : i < b.length := by simpa using hd
      obtain ⟨s1, s2, s3⟩ := step hi _ _ rfl rfl
      exact ⟨(dg b i : Nat), ⟨by omega, by omega⟩, by simpa using lim_getI (l := b) (i := (i : Int)) (by omega) (by omega), (dg a i : Nat), _, _, ⟨by omega, by omega⟩, by simpa using lim_getI (l := a) (i := (i : Int)) (by omega) (by omega), s1, s2, s3⟩
    · have hi : i < a.length := by simpa using hc
      have hib : b.length ≤ i := by simpa using hd
      obtain ⟨s1, s2, s3⟩ := step hi _ 0 rfl (dg_out hib).symm
      exact ⟨(dg a i : Nat), _, _, ⟨by omega, by omega⟩, by simpa using lim_getI (l := a) (i := (i : Int)) (by omega) (by omega), s1, s2, s3⟩
    · have hi : i = a.length := by have : a.length ≤ i := by simpa using hc
                                   omega
      subst hi
      refine ⟨⟨by omega, by rw [lim_length]; omega⟩, outs ?_⟩
      rw [Int.toNat_natCast, lim_set]
      congr 1
      have hv : val (o.set a.length k) = val a + val b := by
        rw [← low_all (l := o.set a.length k) (i := a.length + 1) (by simp [hol]), low_set_succ (by omega), hinv, low_all (Nat.le_refl _), low_all hab]
      have := padD_val (o.set a.length k) (set_lt hod (by omega))
      rw [hv, List.length_set, hol] at this
      exact this
theorem plus_ok {a b : List Nat} (ha : ∀ x ∈ a, x < 4294967296) (hb : ∀ x ∈ b, x < 4294967296) (hla : a.length ≤ 1099511627776) (hlb : b.length ≤ 1099511627776) :
    FnD prog 120 [vs (lim a), vs (lim b)] (vs (lim (padD (max a.length b.length + 1) (val a + val b)))) [] := by
  refine vc120_ok (lim a) (lim b) (R := Out _) ?_
  unfold vc120
  refine ⟨fun hc => ?_, fun hc => ?_⟩
  · have h : a.length < b.length := by simpa [lim_length] using hc
    have := plusVC_ok hb ha hlb (by omega)
    rw [Nat.max_eq_right (by omega), Nat.add_comm (val a)]
    exact this
  · have h : b.length ≤ a.length := by simpa [lim_length] using hc
    rw [Nat.max_eq_left h]
    exact plusVC_ok ha hb hla h
end Go.AM
/- What the functions of package integer, and of its reference, answer: differences of absolute values, comparing. -/
namespace Go.AM
open Go.Proofs.Tryz
theorem borrow_step (p la lo lb k k' x y d : Nat) (h : la + p * k = lo + lb) (hs : x + 4294967296 * k' = d + y + k) : la + p * x + p * 4294967296 * k' = lo + p * d + (lb + p * y) := by
  have h1 : p * x + p * 4294967296 * k' = p * d + p * y + p * k := by
    rw [Nat.mul_assoc, ← Nat.mul_add, hs]; simp only [Nat.mul_add]
  omega
theorem borrow_end {n la lo lb k : Nat} (hk : k ≤ 1) (h : la + n * k = lo + lb) (hlo : lo < n) (hle : lb ≤ la) : lo = la - lb := by
  have : k = 0 ∨ k = 1 := by omega
  rcases this with rfl | rfl
  · omega
  · exfalso; omega
theorem minus_ok {a b : List Nat} (ha : ∀ x ∈ a, x < 4294967296) (hb : ∀ x ∈ b, x < 4294967296) (hl : a.length ≤ 1099511627776) (hab : b.length ≤ a.length) (hle : val b ≤ val a) :
    FnD prog 119 [vs (lim a), vs (lim b)] (vs (lim (padD a.length (val a - val b)))) [] := by
  refine vc119_ok (lim a) (lim b) (R := Out _) ?_
  unfold vc119
  simp only [lim_length]
  refine ⟨⟨by omega, by omega, by omega⟩, fun out t c => ∃ (o : List Nat) (i k : Nat), out = lim o ∧ t = (i : Int) ∧ c = (k : Int) ∧ o.length = a.length ∧ (∀ x ∈ o, x < 4294967296) ∧ i ≤ a.length ∧ k ≤ 1 ∧ low a i + 4294967296 ^ i * k = low o i + low b i,
    fun _ t _ => ((a.length : Int) - t).toNat, ⟨List.replicate a.length 0, 0, 0, by rw [Int.toNat_natCast, lim_rep], rfl, rfl, by simp, fun x hx => by rw [List.eq_of_mem_replicate hx]; decide, by omega, by omega, by simp [low_zero]⟩, ?_⟩
  rintro _ _ _ ⟨o, i, k, rfl, rfl, rfl, hol, hod, hia, hk, hinv⟩
  have step : i < a.length → ∀ (x y : Nat), x = dg a i → y = dg b i →
      FnD prog 129 [vu x, vu y, vu k] (vu2 (((x : Int) - y - k) % 4294967296) (if x < y + k then 1 else 0)) [] ∧ (0 ≤ (i : Int) ∧ (i : Int) < ((lim o).length : Int)) ∧
      ((∃ (o' : List Nat) (i' k' : Nat), (lim o).set (i : Int).toNat [D.int .u32 (((x : Int) - y - k) % 4294967296)] = lim o' ∧ IntKind.i64.wrap ((i : Int) + 1) = (i' : Int) ∧ (if x < y + k then (1 : Int) else 0) = (k' : Int) ∧ o'.length = a.length ∧ (∀ x ∈ o', x < 4294967296) ∧ i' ≤ a.length ∧ k' ≤ 1 ∧
        low a i' + 4294967296 ^ i' * k' = low o' i' + low b i') ∧ ((a.length : Int) - IntKind.i64.wrap ((i : Int) + 1)).toNat < ((a.length : Int) - (i : Int)).toNat) := fun hi x y hx hy => by
    have hxl : x < 4294967296 := hx ▸ dg_lt ha i
    have hyl : y < 4294967296 := hy ▸ dg_lt hb i
    have hwi : IntKind.i64.wrap ((i : Int) + 1) = ((i + 1 : Nat) : Int) := by rw [w64 (by omega) (by omega)]; simp
    obtain ⟨d, hd⟩ : ∃ d : Nat, ((x : Int) - y - k) % 4294967296 = (d : Int) := ⟨(((x : Int) - y - k) % 4294967296).toNat, by omega⟩
    have hdl : d < 4294967296 := by omega
    refine ⟨sub32_ok x y k hxl hyl hk, ⟨by omega, by rw [lim_length]; omega⟩, ⟨o.set i d, i + 1, if x < y + k then 1 else 0, by rw [hd, Int.toNat_natCast, lim_set], hwi, by split <;> rfl, by simp [hol], set_lt hod hdl, by omega, by split <;> omega, ?_⟩, by rw [hwi]; omega⟩
    rw [low_set_succ (by omega), low_succ a, low_succ b, Nat.pow_succ, ← hx, ← hy]
    exact borrow_step (4294967296 ^ i) _ _ _ k _ x y d hinv (by split <;> omega)
  refine ⟨fun hc => ⟨fun hd => ?_, fun hd => ?_⟩, fun hc => ?_⟩
  · have hi : i < a.length := by simpa using hc
    have hib : i < b.length := by simpa using hd
    obtain ⟨s1, s2, s3⟩ := step hi _ _ rfl rfl
    exact ⟨(dg b i : Nat), ⟨by omega, by omega⟩, by simpa using lim_getI (l := b) (i := (i : Int)) (by omega) (by omega), (dg a i : Nat), _, _, ⟨by omega, by omega⟩, by simpa using lim_getI (l := a) (i := (i : Int)) (by omega) (by omega), s1, s2, s3⟩
  · have hi : i < a.length := by simpa using hc
    have hib : b.length ≤ i := by simpa using hd
    obtain ⟨s1, s2, s3⟩ := step hi _ 0 rfl (dg_out hib).symm
    exact ⟨(dg a i : Nat), _, _, ⟨by omega, by omega⟩, by simpa using lim_getI (l := a) (i := (i : Int)) (by omega) (by omega), s1, s2, s3⟩
  · have hi : i = a.length := by have : a.length ≤ i := by simpa using hc
                                 omega
    subst hi
    refine outs ?_
    congr 1
    have hv : val o = val a - val b := by
      rw [low_all (Nat.le_refl _), low_all hab, low_all (by omega)] at hinv
      exact borrow_end hk hinv (by rw [← hol]; exact val_lt hod) hle
    have := padD_val o hod
    rw [hv, hol] at this
    exact this
theorem isNaN_int (x : Int) : FnD prog 131 [vi x] (vb false) [] := by
  refine vc131_ok x (R := Out _) ?_
  unfold vc131
  exact outb (by simp)
theorem isNaN_u32 (x : Int) : FnD prog 132 [vu x] (vb false) [] := by
  refine vc132_ok x (R := Out _) ?_
  unfold vc132
  exact outb (by simp)
def cmpI (x y : Int) : Int := if x < y then -1 else if x > y then 1 else 0
theorem compareInt_ok (x y : Int) : FnD prog 124 [vi x, vi y] (vi (cmpI x y)) [] := by
  refine vc124_ok x y (R := Out _) ?_
  unfold vc124
  refine ⟨false, isNaN_int x, false, isNaN_int y, by simp, fun _ => ⟨by simp, fun _ => ⟨fun h => ?_, fun h => ⟨fun h2 => ?_, fun h2 => ?_⟩⟩⟩⟩
  · exact outi (by simp only [decide_eq_true_eq] at h; simp [cmpI, h])
  · exact outi (by simp only [decide_eq_true_eq, decide_eq_false_iff_not] at h h2; simp [cmpI, h, h2])
  · exact outi (by simp only [decide_eq_false_iff_not] at h h2; simp [cmpI, h, h2])
theorem compareU32_ok (x y : Int) : FnD prog 125 [vu x, vu y] (vi (cmpI x y)) [] := by
  refine vc125_ok x y (R := Out _) ?_
  unfold vc125
  refine ⟨false, isNaN_u32 x, false, isNaN_u32 y, by simp, fun _ => ⟨by simp, fun _ => ⟨fun h => ?_, fun h => ⟨fun h2 => ?_, fun h2 => ?_⟩⟩⟩⟩
  · exact outi (by simp only [decide_eq_true_eq] at h; simp [cmpI, h])
  · exact outi (by simp only [decide_eq_true_eq, decide_eq_false_iff_not] at h h2; simp [cmpI, h, h2])
  · exact outi (by simp only [decide_eq_false_iff_not] at h h2; simp [cmpI, h, h2])
theorem val_lt_of_len {a b : List Nat} (ha : ∀ x ∈ a, x < 4294967296) (hb : canon b) (h : a.length < b.length) : val a < val b := by
  have h1 := val_lt ha
  obtain ⟨q, hq⟩ : ∃ q, b.length = q + 1 := ⟨b.length - 1, by omega⟩
  have hsplit : b = b.take q ++ b.drop q := (List.take_append_drop _ _).symm
  have hdl : (b.drop q).length = 1 := by simp [hq]
  obtain ⟨x, hx⟩ := List.length_eq_one_iff.1 hdl
  have hx0 : x ≠ 0 := hb x (by rw [hsplit, hx]; simp)
  have hv : val b = val (b.take q) + 4294967296 ^ q * x := by
    conv => lhs; rw [hsplit, val_append, hx]
    simp [val, hq]
  have h2 : 4294967296 ^ a.length ≤ 4294967296 ^ q := Nat.pow_le_pow_right (by decide) (by omega)
  have h3 : 4294967296 ^ q * 1 ≤ 4294967296 ^ q * x := Nat.mul_le_mul_left _ (by omega)
  omega
theorem val_lt_of_dg {a b : List Nat} (ha : ∀ x ∈ a, x < 4294967296) {i : Nat} (hl : a.length = b.length) (hi : i < a.length) (hd : dg a i < dg b i) (hs : ∀ j, i < j → dg a j = dg b j) : val a < val b := by
  have key : ∀ n, low a (i + 1 + n) < low b (i + 1 + n) := by
    intro n
    induction n with
    | zero =>
      rw [Nat.add_zero, low_succ, low_succ]
      have h1 : low a i < 4294967296 ^ i := by
        have := val_lt (l := a.take i) fun x hx => ha x (List.mem_of_mem_take hx)
        rw [List.length_take, Nat.min_eq_left (by omega)] at this
        exact this
      have h2 : 4294967296 ^ i * (dg a i + 1) ≤ 4294967296 ^ i * dg b i := Nat.mul_le_mul_left _ hd
      rw [Nat.mul_add, Nat.mul_one] at h2
      omega
    | succ n ih =>
      rw [← Nat.add_assoc, low_succ, low_succ, hs _ (by omega)]
      omega
  have := key a.length
  rwa [low_all (by omega), low_all (by omega)] at this
theorem val_eq_of_dg {a b : List Nat} (hl : a.length = b.length) (hs : ∀ j, dg a j = dg b j) : val a = val b := by
  have key : ∀ n, low a n = low b n := by
    intro n
    induction n with
    | zero => rfl
    | succ n ih => rw [low_succ, low_succ, ih, hs]
  have := key a.length
  rwa [low_all (Nat.le_refl _), low_all (by omega)] at this
theorem compare_ok {a b : List Nat} (ha : ∀ x ∈ a, x < 4294967296) (hb : ∀ x ∈ b, x < 4294967296) (ca : canon a) (cb : canon b) (hla : a.length ≤ 1099511627776) :
    FnD prog 113 [vs (lim a), vs (lim b)] (vi (cmpI (val a) (val b))) [] := by
  refine vc113_ok (lim a) (lim b) (R := Out _) ?_
  unfold vc113
  simp only [lim_length]
  refine ⟨_, compareInt_ok _ _, fun hc => ?_, fun hc => ?_⟩
  · refine outi ?_
    have hc : cmpI (a.length : Int) (b.length : Int) ≠ 0 := by simpa using hc
    unfold cmpI at hc ⊢
    by_cases h1 : a.length < b.length
    · have := val_lt_of_len ha cb h1
      rw [if_pos (by omega), if_pos (by omega)]
    · by_cases h2 : b.length < a.length
      · have := val_lt_of_len hb ca h2
        rw [if_neg (by omega), if_pos (by omega), if_neg (by omega), if_pos (by omega)]
      · rw [if_neg (by omega), if_neg (by omega)] at hc; exact absurd rfl hc
  · have hlen : a.length = b.length := by
      have hc : cmpI (a.length : Int) (b.length : Int) = 0 := by simpa using hc
      unfold cmpI at hc
      split at hc
      · simp at hc
      · split at hc
        · simp at hc
        · omega
    refine ⟨fun i => -1 ≤ i ∧ i < (a.length : Int) ∧ ∀ j : Nat, i < (j : Int) → dg a j = dg b j, fun i => (i + 1).toNat, ?_, fun i ⟨h0, h1, h2⟩ => ⟨fun hi => ?_, fun hi => ?_⟩⟩
    · rw [w64 (by omega) (by omega)]
      exact ⟨by omega, by omega, fun j hj => by rw [dg_out (by omega), dg_out (by omega)]⟩
    · have hi : 0 ≤ i := by simpa using hi
      have hw : IntKind.i64.wrap (i - 1) = i - 1 := w64 (by omega) (by omega)
      refine ⟨(dg a i.toNat : Nat), (dg b i.toNat : Nat), _, ⟨hi, by omega⟩, lim_getI hi h1, ⟨hi, by omega⟩, lim_getI hi (by omega), compareU32_ok _ _, fun hc => ?_, fun hc => ?_⟩
      · refine outi ?_
        have hc : cmpI (dg a i.toNat : Nat) (dg b i.toNat : Nat) ≠ 0 := by simpa using hc
        have hs : ∀ j, i.toNat < j → dg a j = dg b j := fun j hj => h2 j (by omega)
        unfold cmpI at hc ⊢
        by_cases g1 : dg a i.toNat < dg b i.toNat
        · have := val_lt_of_dg ha hlen (by omega) g1 hs
          rw [if_pos (by omega), if_pos (by omega)]
        · by_cases g2 : dg b i.toNat < dg a i.toNat
          · have := val_lt_of_dg hb hlen.symm (by omega) g2 fun j hj => (hs j hj).symm
            rw [if_neg (by omega), if_pos (by omega), if_neg (by omega), if_pos (by omega)]
          · rw [if_neg (by omega), if_neg (by omega)] at hc; exact absurd rfl hc
      · have hc : cmpI (dg a i.toNat : Nat) (dg b i.toNat : Nat) = 0 := by simpa using hc
        have heq : dg a i.toNat = dg b i.toNat := by
          unfold cmpI at hc
          split at hc
          · simp at hc
          · split at hc
            · simp at hc
            · omega
        rw [hw]
        refine ⟨⟨by omega, by omega, fun j hj => ?_⟩, by show (i - 1 + 1).toNat < (i + 1).toNat; omega⟩
        by_cases hji : j = i.toNat
        · subst hji; exact heq
        · exact h2 j (by omega)
    · have hi : i < 0 := by simpa using hi
      have hv := val_eq_of_dg hlen fun j => h2 j (by omega)
      exact outi (by simp [cmpI, hv])
theorem less_ok {a b : List Nat} (ha : ∀ x ∈ a, x < 4294967296) (hb : ∀ x ∈ b, x < 4294967296) (ca : canon a) (cb : canon b) (hla : a.length ≤ 1099511627776) :
    FnD prog 58 [vs (lim a), vs (lim b)] (vb (decide (val a < val b))) [] := by
  refine vc58_ok (lim a) (lim b) (R := Out _) ?_
  unfold vc58
  simp only [lim_length]
  refine ⟨fun hc => ?_, fun hc => ?_⟩
  · refine outb ?_
    have hc : a.length ≠ b.length := by
      have : ¬ ((a.length : Int) = (b.length : Int)) := by simpa using hc
      omega
    rw [decide_eq_decide]
    rcases Nat.lt_or_gt_of_ne hc with h | h
    · have := val_lt_of_len ha cb h; omega
    · have := val_lt_of_len hb ca h; omega
  · have hlen : a.length = b.length := by
      have : (a.length : Int) = (b.length : Int) := by simpa using hc
      omega
    refine ⟨fun i => -1 ≤ i ∧ i < (a.length : Int) ∧ ∀ j : Nat, i < (j : Int) → dg a j = dg b j, fun i => (i + 1).toNat, ?_, fun i ⟨h0, h1, h2⟩ => ⟨fun hi => ?_, fun hi => ?_⟩⟩
    · rw [w64 (by omega) (by omega)]
      exact ⟨by omega, by omega, fun j hj => by rw [dg_out (by omega), dg_out (by omega)]⟩
    · have hi : 0 ≤ i := by simpa using hi
      have hw : IntKind.i64.wrap (i - 1) = i - 1 := w64 (by omega) (by omega)
      refine ⟨(dg a i.toNat : Nat), (dg b i.toNat : Nat), ⟨hi, by omega⟩, lim_getI hi h1, ⟨hi, by omega⟩, lim_getI hi (by omega), fun hc => ?_, fun hc => ?_⟩
      · refine outb ?_
        have hc : dg a i.toNat ≠ dg b i.toNat := by
          intro h
          rw [h] at hc; simp at hc
        have hs : ∀ j, i.toNat < j → dg a j = dg b j := fun j hj => h2 j (by omega)
        rw [decide_eq_decide]
        rcases Nat.lt_or_gt_of_ne hc with g | g
        · have := val_lt_of_dg ha hlen (by omega) g hs; omega
        · have := val_lt_of_dg hb hlen.symm (by omega) g fun j hj => (hs j hj).symm; omega
      · have heq : dg a i.toNat = dg b i.toNat := by
          have : ((dg a i.toNat : Nat) : Int) = (dg b i.toNat : Nat) := by simpa using hc
          omega
        rw [hw]
        refine ⟨⟨by omega, by omega, fun j hj => ?_⟩, by show (i - 1 + 1).toNat < (i + 1).toNat; omega⟩
        by_cases hji : j = i.toNat
        · subst hji; exact heq
        · exact h2 j (by omega)
    · have hi : i < 0 := by simpa using hi
      have hv := val_eq_of_dg hlen fun j => h2 j (by omega)
      exact outb (by simp [hv])
end Go.AM
/- What the functions of package integer, and of its reference, answer: over the integers. -/
namespace Go.AM
open Go.Proofs.Tryz
def Sz (z : Int) : Prop := (digs z.natAbs).length ≤ 1073741824
theorem Sz.of_lt {z : Int} (k : Nat) (hk : k ≤ 1073741824) (h : z.natAbs < 4294967296 ^ k) : Sz z := Nat.le_trans (digs_len h) hk
abbrev dz (z : Int) : List Nat := digs z.natAbs
theorem oute {z z' : Int} (h : z = z') : Out (eI z') (V.e (E.agg [S.dat (D.bool (decide (z < 0))), S.dat (D.sl (lim (digs z.natAbs)))])) [] := by subst h; exact ⟨rfl, rfl⟩
theorem sum_fits {a b : List Nat} (ha : ∀ x ∈ a, x < 4294967296) (hb : ∀ x ∈ b, x < 4294967296) : val a + val b < 4294967296 ^ (max a.length b.length + 1) := by
  have h1 := val_lt ha
  have h2 := val_lt hb
  have h3 : 4294967296 ^ a.length ≤ 4294967296 ^ max a.length b.length := Nat.pow_le_pow_right (by decide) (Nat.le_max_left _ _)
  have h4 : 4294967296 ^ b.length ≤ 4294967296 ^ max a.length b.length := Nat.pow_le_pow_right (by decide) (Nat.le_max_right _ _)
  rw [Nat.pow_succ]
  generalize 4294967296 ^ max a.length b.length = q at *
  omega
theorem diff_fits {a : List Nat} (ha : ∀ x ∈ a, x < 4294967296) (v : Nat) : val a - v < 4294967296 ^ a.length := Nat.lt_of_le_of_lt (Nat.sub_le _ _) (val_lt ha)
theorem len_le_of_val {a b : List Nat} (ha : ∀ x ∈ a, x < 4294967296) (cb : canon b) (h : val b ≤ val a) : b.length ≤ a.length := by
  apply Classical.byContradiction
  intro hn
  have := val_lt_of_len ha cb (by omega)
  omega
theorem sign_ok (z : Int) : FnD prog 83 [eI z] (vi (if z = 0 then 0 else if z < 0 then -1 else 1)) [] := by
  refine vc83_ok _ _ (R := Out _) ?_
  unfold vc83
  simp only [lim_length]
  have hnil : (dz z).length = 0 ↔ z = 0 := by rw [List.length_eq_zero_iff, digs_nil]; omega
  refine ⟨fun h => outi ?_, fun h => ⟨fun h2 => outi ?_, fun h2 => outi ?_⟩⟩
  · have : (dz z).length = 0 := by have h : ((dz z).length : Int) = 0 := by simpa using h
                                   omega
    rw [if_pos (hnil.1 this)]
  all_goals
    have : ¬ z = 0 := fun hz => by
      have h : ¬ ((dz z).length : Int) = 0 := by simpa using h
      exact h (by rw [hnil.2 hz]; rfl)
    rw [if_neg this]
  · rw [if_pos (by simpa using h2)]
  · rw [if_neg (by simpa using h2)]
theorem rsign_ok (z : Int) : FnD prog 41 [eI z] (vi (if z = 0 then 0 else if z < 0 then -1 else 1)) [] := by
  refine vc41_ok _ _ (R := Out _) ?_
  unfold vc41
  simp only [lim_length]
  have hnil : (dz z).length = 0 ↔ z = 0 := by rw [List.length_eq_zero_iff, digs_nil]; omega
  refine ⟨fun h => outi ?_, fun h => ⟨fun h2 => outi ?_, fun h2 => outi ?_⟩⟩
  · have : (dz z).length = 0 := by have h : ((dz z).length : Int) = 0 := by simpa using h
                                   omega
    rw [if_pos (hnil.1 this)]
  all_goals
    have : ¬ z = 0 := fun hz => by
      have h : ¬ ((dz z).length : Int) = 0 := by simpa using h
      exact h (by rw [hnil.2 hz]; rfl)
    rw [if_neg this]
  · rw [if_pos (by simpa using h2)]
  · rw [if_neg (by simpa using h2)]
theorem neg_ok (z : Int) : FnD prog 95 [eI z] (eI (-z)) [] := by
  refine vc95_ok _ _ (R := Out _) ?_
  unfold vc95
  simp only [lim_length]
  have hnil : (dz z).length = 0 ↔ z = 0 := by rw [List.length_eq_zero_iff, digs_nil]; omega
  have hab : (-z).natAbs = z.natAbs := by omega
  refine ⟨fun h => ?_, fun h => ?_⟩
  · have h : 0 ≤ z := by simpa using h
    have := out2 (b := decide (((dz z).length : Int) > 0)) (b' := decide (-z < 0)) (l := lim (dz z)) (l' := lim (dz (-z))) (by
      rw [decide_eq_decide]
      constructor
      · intro h1; have : ¬ z = 0 := fun hz => by have := hnil.2 hz; omega
        omega
      · intro h1; have : ¬ (dz z).length = 0 := fun hl => by have := hnil.1 hl; omega
        omega) (by show lim (digs z.natAbs) = lim (digs (-z).natAbs); rw [hab])
    exact this
  · have h : z < 0 := by simpa using h
    exact out2 (b := false) (b' := decide (-z < 0)) (l := lim (dz z)) (l' := lim (dz (-z))) (by
      rw [eq_comm, decide_eq_false_iff_not]; omega) (by show lim (digs z.natAbs) = lim (digs (-z).natAbs); rw [hab])
theorem norm_z {l : List Nat} {neg : Bool} {z : Int} (hB : ∀ x ∈ l, x < 4294967296) (hl : l.length ≤ 1099511627776) (hz : (if neg then -(val l : Int) else val l) = z) :
    FnD prog 92 [vs (lim l), vb neg] (eI z) [] := hz ▸ norm_eI l neg hB hl
theorem made_z {l : List Nat} {neg : Bool} {z : Int} (hB : ∀ x ∈ l, x < 4294967296) (hl : l.length ≤ 1099511627776) (hz : (if neg then -(val l : Int) else val l) = z) :
    FnD prog 56 [vs (lim l), vb neg] (eI z) [] := hz ▸ made_eI l neg hB hl
theorem add_ok {x y : Int} (hx : Sz x) (hy : Sz y) : FnD prog 99 [eI x, eI y] (eI (x + y)) [] := by
  refine vc99_ok _ _ _ _ (R := Out _) ?_
  unfold vc99
  have ax := digs_lt x.natAbs
  have ay := digs_lt y.natAbs
  have cx := digs_canon x.natAbs
  have cy := digs_canon y.natAbs
  have vx := val_digs x.natAbs
  have vy := val_digs y.natAbs
  unfold Sz at hx hy
  refine ⟨fun h => ?_, fun h => ?_⟩
  · have h : (x < 0 ↔ y < 0) := by simpa using h
    refine ⟨_, decide (x + y < 0), lim (dz (x + y)), plus_ok ax ay (by omega) (by omega), norm_z (padD_lt _ _) (by rw [padD_length]; omega) ?_, oute rfl⟩
    rw [val_padD _ _ (sum_fits ax ay), vx, vy]
    by_cases h1 : x < 0
    · rw [if_pos (by simpa using h1)]; omega
    · rw [if_neg (by simpa using h1)]; omega
  · have h : ¬ (x < 0 ↔ y < 0) := by simpa using h
    refine ⟨_, compare_ok ax ay cx cy (by omega), fun hc => ?_, fun hc => ?_⟩
    · have hlt : x.natAbs < y.natAbs := by
        rw [vx, vy] at hc
        unfold cmpI at hc
        simp only [decide_eq_true_eq] at hc
        split at hc
        · omega
        · split at hc <;> omega
      have hle : val (dz x) ≤ val (dz y) := by rw [vx, vy]; omega
      refine ⟨_, decide (x + y < 0), lim (dz (x + y)), minus_ok ay ax (by omega) (len_le_of_val ay cx hle) hle, norm_z (padD_lt _ _) (by rw [padD_length]; omega) ?_, oute rfl⟩
      rw [val_padD _ _ (diff_fits ay _), vx, vy]
      by_cases h1 : y < 0
      · rw [if_pos (by simpa using h1)]; omega
      · rw [if_neg (by simpa using h1)]; omega
    · have hge : y.natAbs ≤ x.natAbs := by
        rw [vx, vy] at hc
        unfold cmpI at hc
        simp only [decide_eq_false_iff_not] at hc
        split at hc
        · omega
        · split at hc <;> omega
      have hle : val (dz y) ≤ val (dz x) := by rw [vx, vy]; omega
      refine ⟨_, decide (x + y < 0), lim (dz (x + y)), minus_ok ax ay (by omega) (len_le_of_val ax cy hle) hle, norm_z (padD_lt _ _) (by rw [padD_length]; omega) ?_, oute rfl⟩
      rw [val_padD _ _ (diff_fits ax _), vx, vy]
      by_cases h1 : x < 0
      · rw [if_pos (by simpa using h1)]; omega
      · rw [if_neg (by simpa using h1)]; omega
theorem Sz.neg {z : Int} (h : Sz z) : Sz (-z) := by unfold Sz at *; rwa [Int.natAbs_neg]
theorem sub_ok {x y : Int} (hx : Sz x) (hy : Sz y) : FnD prog 97 [eI x, eI y] (eI (x - y)) [] := by
  refine vc97_ok _ _ _ _ (R := Out _) ?_
  unfold vc97
  exact ⟨_, _, _, _, neg_ok y, add_ok hx hy.neg, oute (by omega)⟩
theorem cmp_ok {x y : Int} (hx : Sz x) (hy : Sz y) : FnD prog 86 [eI x, eI y] (vi (cmpI x y)) [] := by
  refine vc86_ok _ _ _ _ (R := Out _) ?_
  unfold vc86
  have ax := digs_lt x.natAbs
  have ay := digs_lt y.natAbs
  have cx := digs_canon x.natAbs
  have cy := digs_canon y.natAbs
  have vx := val_digs x.natAbs
  have vy := val_digs y.natAbs
  unfold Sz at hx hy
  have c1 := compare_ok ax ay cx cy (by omega)
  have c2 := compare_ok ay ax cy cx (by omega)
  refine ⟨fun h1 => ⟨fun h2 => outi ?_, fun h2 => ⟨fun h3 => ⟨fun h4 => ?_, fun h4 => ⟨_, c2, outi ?_⟩⟩, fun h3 => ?_⟩⟩, fun h1 => ⟨fun h2 => ⟨fun h3 => outi ?_, fun h3 => ?_⟩, fun h2 => ⟨_, c1, outi ?_⟩⟩⟩
  · have a1 : x < 0 := by simpa using h1
    have a2 : 0 ≤ y := by simpa using h2
    unfold cmpI; rw [if_pos (by omega)]
  · rw [h1] at h4; simp at h4
  · have a1 : x < 0 := by simpa using h1
    have a2 : y < 0 := by simpa using h3
    rw [vx, vy]; unfold cmpI
    repeat' split
    all_goals omega
  · rw [h3] at h2; simp at h2
  · have a1 : 0 ≤ x := by simpa using h1
    have a2 : y < 0 := by simpa using h2
    unfold cmpI; rw [if_neg (by omega), if_pos (by omega)]
  · rw [h1] at h3; simp at h3
  · have a1 : 0 ≤ x := by simpa using h1
    have a2 : 0 ≤ y := by simpa using h2
    rw [vx, vy]; unfold cmpI
    repeat' split
    all_goals omega
theorem of_digits (n : Int) (h0 : -9223372036854775808 ≤ n) (h1 : n ≤ 9223372036854775807) :
    (IntKind.u64.wrap n).fdiv (2 ^ (min (32 : Int).toNat IntKind.u64.bits)) = (IntKind.u64.wrap n) / 4294967296 ∧ (0 ≤ n → IntKind.u64.wrap n = n) ∧ (n < 0 → IntKind.u64.wrap (0 - IntKind.u64.wrap n) = -n) := by
  refine ⟨sh32, fun h => wu64 h (by omega), fun h => ?_⟩
  rw [wu64', wu64']; omega
theorem val2 (a b : Nat) : val [a, b] = a + 4294967296 * b := by simp [val]
theorem of_ok (n : Int) (h0 : -9223372036854775808 ≤ n) (h1 : n ≤ 9223372036854775807) : FnD prog 63 [.e (.sc (.dat (.int .i64 n)))] (eI n) [] := by
  refine vc63_ok n (R := Out _) ?_
  unfold vc63
  obtain ⟨_, p2, p3⟩ := of_digits n h0 h1
  have key : ∀ (m : Nat) (neg : Bool), m < 18446744073709551616 → ∀ z : Int, (if neg then -(m : Int) else m) = z →
      FnD prog 92 [vs [[D.int .u32 (IntKind.u32.wrap (m : Int))], [D.int .u32 (IntKind.u32.wrap ((m : Int) / 4294967296))]], vb neg] (eI z) [] := fun m neg hm z hz => by
    have e1 : IntKind.u32.wrap (m : Int) = ((m % 4294967296 : Nat) : Int) := by rw [wu32]; omega
    have e2 : IntKind.u32.wrap ((m : Int) / 4294967296) = ((m / 4294967296 : Nat) : Int) := by rw [wu32]; omega
    rw [e1, e2]
    exact norm_z (l := [m % 4294967296, m / 4294967296]) (fun x hx => by
      simp only [List.mem_cons, List.not_mem_nil, or_false] at hx
      rcases hx with rfl | rfl <;> omega) (by simp) (by rw [val2, Nat.mod_add_div]; exact hz)
  refine ⟨fun h => ?_, fun h => ?_⟩
  · have hn : n < 0 := by simpa using h
    refine ⟨decide (n < 0), lim (dz n), by decide, ?_, oute rfl⟩
    rw [p3 hn, sh32]
    have := key (-n).toNat (decide (n < 0)) (by omega) n (by rw [if_pos h]; omega)
    rw [Int.toNat_of_nonneg (by omega)] at this
    exact this
  · have hn : 0 ≤ n := by simpa using h
    refine ⟨decide (n < 0), lim (dz n), by decide, ?_, oute rfl⟩
    rw [p2 hn, sh32]
    have := key n.toNat (decide (n < 0)) (by omega) n (by rw [if_neg (by simp [h])]; omega)
    rw [Int.toNat_of_nonneg (by omega)] at this
    exact this
theorem rof_ok (n : Int) (h0 : -9223372036854775808 ≤ n) (h1 : n ≤ 9223372036854775807) : FnD prog 25 [.e (.sc (.dat (.int .i64 n)))] (eI n) [] := by
  refine vc25_ok n (R := Out _) ?_
  unfold vc25
  obtain ⟨_, p2, p3⟩ := of_digits n h0 h1
  have key : ∀ (m : Nat) (neg : Bool), m < 18446744073709551616 → ∀ z : Int, (if neg then -(m : Int) else m) = z →
      FnD prog 56 [vs [[D.int .u32 (IntKind.u32.wrap (m : Int))], [D.int .u32 (IntKind.u32.wrap ((m : Int) / 4294967296))]], vb neg] (eI z) [] := fun m neg hm z hz => by
    have e1 : IntKind.u32.wrap (m : Int) = ((m % 4294967296 : Nat) : Int) := by rw [wu32]; omega
    have e2 : IntKind.u32.wrap ((m : Int) / 4294967296) = ((m / 4294967296 : Nat) : Int) := by rw [wu32]; omega
    rw [e1, e2]
    exact made_z (l := [m % 4294967296, m / 4294967296]) (fun x hx => by
      simp only [List.mem_cons, List.not_mem_nil, or_false] at hx
      rcases hx with rfl | rfl <;> omega) (by simp) (by rw [val2, Nat.mod_add_div]; exact hz)
  refine ⟨fun h => ?_, fun h => ?_⟩
  · have hn : n < 0 := by simpa using h
    refine ⟨decide (n < 0), lim (dz n), by decide, ?_, oute rfl⟩
    rw [p3 hn, sh32]
    have := key (-n).toNat (decide (n < 0)) (by omega) n (by rw [if_pos h]; omega)
    rw [Int.toNat_of_nonneg (by omega)] at this
    exact this
  · have hn : 0 ≤ n := by simpa using h
    refine ⟨decide (n < 0), lim (dz n), by decide, ?_, oute rfl⟩
    rw [p2 hn, sh32]
    have := key n.toNat (decide (n < 0)) (by omega) n (by rw [if_neg (by simp [h])]; omega)
    rw [Int.toNat_of_nonneg (by omega)] at this
    exact this
theorem rneg_ok {z : Int} (hz : Sz z) : FnD prog 52 [eI z] (eI (-z)) [] := by
  refine vc52_ok _ _ (R := Out _) ?_
  unfold vc52
  unfold Sz at hz
  refine ⟨decide (-z < 0), lim (dz (-z)), made_z (l := dz z) (digs_lt _) (by show (digs z.natAbs).length ≤ _; omega) ?_, oute rfl⟩
  rw [val_digs]
  by_cases h : z < 0
  · rw [if_neg (by simp; exact h)]; omega
  · rw [if_pos (by simp; omega)]; omega
theorem rsame_ok {x y : Int} (hx : Sz x) (hy : Sz y) : FnD prog 88 [eI x, eI y] (vb (decide (x = y))) [] := by
  refine vc88_ok _ _ _ _ (R := Out _) ?_
  unfold vc88
  have ax := digs_lt x.natAbs
  have ay := digs_lt y.natAbs
  have cx := digs_canon x.natAbs
  have cy := digs_canon y.natAbs
  have vx := val_digs x.natAbs
  have vy := val_digs y.natAbs
  unfold Sz at hx hy
  have c1 := less_ok ax ay cx cy (by omega)
  have c2 := less_ok ay ax cy cx (by omega)
  rw [vx, vy] at c1 c2
  refine ⟨fun h => ⟨_, c1, fun h1 => ⟨_, c2, outb ?_⟩, fun h1 => outb ?_⟩, fun h => outb ?_⟩
  · have h : (x < 0 ↔ y < 0) := by simpa using h
    have h1 : ¬ x.natAbs < y.natAbs := by simpa using h1
    by_cases e : x = y
    · subst e; simp
    · have : y.natAbs < x.natAbs := by omega
      simp [e, this]
  · have h1 : x.natAbs < y.natAbs := by simpa using h1
    rw [eq_comm, decide_eq_false_iff_not]; omega
  · have h : ¬ (x < 0 ↔ y < 0) := by simpa using h
    rw [eq_comm, decide_eq_false_iff_not]; omega
end Go.AM
