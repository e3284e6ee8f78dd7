/- Integers, rows and matrices as the program holds them; digits to the base 2^32. -/
import Derived.Test.YtbodjgljjaafaaaAmDv
namespace Go.AM

def val : List Nat → Nat
  | [] => 0
  | x :: l => x + 4294967296 * val l

def digsF : Nat → Nat → List Nat
  | 0, _ => []
  | f + 1, n => if n = 0 then [] else n % 4294967296 :: digsF f (n / 4294967296)

/-- The digits of n, lowest first, the highest not 0. -/
def digs (n : Nat) : List Nat := digsF n n

theorem val_digsF : ∀ f n, n ≤ f → val (digsF f n) = n
  | 0, n, h => by have : n = 0 := by omega
                  subst this; rfl
  | f + 1, n, h => by
    unfold digsF
    split
    · rename_i h0; subst h0; rfl
    · rename_i h0
      simp only [val]
      rw [val_digsF f (n / 4294967296) (by have := Nat.div_lt_self (n := n) (k := 4294967296) (by omega) (by decide); omega)]
      exact Nat.mod_add_div n 4294967296

theorem val_digs (n : Nat) : val (digs n) = n := val_digsF n n (Nat.le_refl n)

theorem digsF_lt : ∀ f n, ∀ x ∈ digsF f n, x < 4294967296
  | 0, n, x, h => by simp [digsF] at h
  | f + 1, n, x, h => by
    unfold digsF at h
    split at h
    · simp at h
    · simp only [List.mem_cons] at h
      rcases h with rfl | h
      · exact Nat.mod_lt _ (by decide)
      · exact digsF_lt f _ x h

theorem digs_lt (n : Nat) : ∀ x ∈ digs n, x < 4294967296 := digsF_lt n n

/-- No digit 0 at the high end. -/
def canon (l : List Nat) : Prop := ∀ x, l.getLast? = some x → x ≠ 0

theorem canon_tail {x : Nat} {l : List Nat} (h : canon (x :: l)) : canon l := fun y hy => h y (by
  cases l with
  | nil => simp at hy
  | cons z t => simpa [List.getLast?_cons_cons] using hy)

theorem val_eq_zero : ∀ {l : List Nat}, canon l → val l = 0 → l = []
  | [], _, _ => rfl
  | x :: l, hc, h => by
    simp only [val] at h
    have h1 : x = 0 := by omega
    have h2 : val l = 0 := by
      rcases Nat.eq_zero_or_pos (val l) with h2 | h2
      · exact h2
      · omega
    have h3 := val_eq_zero (canon_tail hc) h2
    subst h3; subst h1
    exact absurd rfl (hc 0 (by simp))

theorem digsF_val : ∀ (l : List Nat) f, (∀ x ∈ l, x < 4294967296) → canon l → val l ≤ f → digsF f (val l) = l
  | [], f, _, _, _ => by cases f <;> simp [digsF, val]
  | x :: l, f, hx, hc, hf => by
    have hv : val (x :: l) ≠ 0 := fun h => by have := val_eq_zero hc h; simp at this
    cases f with
    | zero => omega
    | succ f =>
      have hxl := hx x (by simp)
      have h1 : (x + 4294967296 * val l) % 4294967296 = x := by rw [Nat.add_mul_mod_self_left, Nat.mod_eq_of_lt hxl]
      have h2 : (x + 4294967296 * val l) / 4294967296 = val l := by rw [Nat.add_mul_div_left _ _ (by decide), Nat.div_eq_of_lt hxl, Nat.zero_add]
      simp only [val] at hv hf ⊢
      unfold digsF
      rw [if_neg hv, h1, h2, digsF_val l f (fun y hy => hx y (by simp [hy])) (canon_tail hc) (by omega)]

theorem digs_val {l : List Nat} (hx : ∀ x ∈ l, x < 4294967296) (hc : canon l) : digs (val l) = l := digsF_val l _ hx hc (Nat.le_refl _)

theorem digsF_canon : ∀ f n, n ≤ f → canon (digsF f n)
  | 0, n, _, x, h => by simp [digsF] at h
  | f + 1, n, hn, x, h => by
    unfold digsF at h
    split at h
    · simp at h
    · rename_i h0
      have hlt : n / 4294967296 < n := Nat.div_lt_self (by omega) (by decide)
      rw [List.getLast?_cons] at h
      cases hd : (digsF f (n / 4294967296)).getLast? with
      | some y =>
        rw [hd] at h; simp only [Option.getD_some, Option.some.injEq] at h; subst h
        exact digsF_canon f (n / 4294967296) (by omega) y hd
      | none =>
        rw [hd] at h; simp only [Option.getD_none, Option.some.injEq] at h; subst h
        have hnil : digsF f (n / 4294967296) = [] := List.getLast?_eq_none_iff.1 hd
        have hz : n / 4294967296 = 0 := by have := val_digsF f (n / 4294967296) (by omega); rw [hnil] at this; exact this.symm
        have := Nat.mod_add_div n 4294967296
        rw [hz] at this
        omega

theorem digs_canon (n : Nat) : canon (digs n) := digsF_canon n n (Nat.le_refl n)

theorem digs_zero : digs 0 = [] := rfl

theorem digs_nil {n : Nat} : digs n = [] ↔ n = 0 := ⟨fun h => by have := val_digs n; rw [h] at this; exact this.symm, fun h => by subst h; rfl⟩

theorem val_append : ∀ a b : List Nat, val (a ++ b) = val a + 4294967296 ^ a.length * val b
  | [], b => by simp [val]
  | x :: a, b => by
    simp only [List.cons_append, val, val_append a b, List.length_cons, Nat.pow_succ, Nat.mul_add]
    rw [Nat.mul_comm (4294967296 ^ a.length) 4294967296, Nat.mul_assoc]; omega

theorem val_lt : ∀ {l : List Nat}, (∀ x ∈ l, x < 4294967296) → val l < 4294967296 ^ l.length
  | [], _ => by simp [val]
  | x :: l, h => by
    have h1 := h x (by simp)
    have h2 := val_lt (l := l) fun y hy => h y (by simp [hy])
    simp only [val, List.length_cons, Nat.pow_succ]
    have : 4294967296 * (val l + 1) ≤ 4294967296 * 4294967296 ^ l.length := Nat.mul_le_mul_left _ h2
    rw [Nat.mul_comm (4294967296 ^ l.length)]
    generalize 4294967296 ^ l.length = q at *
    omega

theorem digs_len {n k : Nat} (h : n < 4294967296 ^ k) : (digs n).length ≤ k := by
  rcases Nat.lt_or_ge k (digs n).length with hlt | hge
  · exfalso
    have hv := val_digs n
    have hc := digs_canon n
    obtain ⟨q, hq⟩ : ∃ q, (digs n).length = q + 1 := ⟨(digs n).length - 1, by omega⟩
    have hsplit : digs n = (digs n).take q ++ (digs n).drop q := (List.take_append_drop _ _).symm
    have hdl : ((digs n).drop q).length = 1 := by simp [hq]
    obtain ⟨x, hx⟩ := List.length_eq_one_iff.1 hdl
    have hx0 : x ≠ 0 := hc x (by rw [hsplit, hx]; simp)
    rw [hsplit, val_append, hx] at hv
    simp only [val, Nat.mul_zero, Nat.add_zero, List.length_take] at hv
    have h1 : 4294967296 ^ k ≤ 4294967296 ^ q := Nat.pow_le_pow_right (by decide) (by omega)
    rw [Nat.min_eq_left (by omega)] at hv
    have h2 : 4294967296 ^ q * 1 ≤ 4294967296 ^ q * x := Nat.mul_le_mul_left _ (by omega)
    omega
  · exact hge

/-! ### Encodings -/

def lim (l : List Nat) : List (List D) := l.map fun (x : Nat) => [D.int .u32 (x : Int)]

theorem lim_length (l : List Nat) : (lim l).length = l.length := by simp [lim]
theorem lim_take (l : List Nat) (n : Nat) : (lim l).take n = lim (l.take n) := by simp [lim, List.map_take]
theorem lim_drop (l : List Nat) (n : Nat) : (lim l).drop n = lim (l.drop n) := by simp [lim, List.map_drop]
theorem lim_get {l : List Nat} {i : Nat} (h : i < l.length) : (lim l)[i]? = some [D.int .u32 (l[i] : Nat)] := by simp [lim, h]
theorem lim_one (l : List Nat) : ∀ y ∈ lim l, y.length = 1 := fun y hy => by
  simp only [lim, List.mem_map] at hy
  obtain ⟨x, _, rfl⟩ := hy; rfl
theorem lim_set (l : List Nat) (i x : Nat) : (lim l).set i [D.int .u32 (x : Int)] = lim (l.set i x) := by simp [lim, List.map_set]
theorem lim_append (a b : List Nat) : lim (a ++ b) = lim a ++ lim b := by simp [lim]
theorem lim_rep (n : Nat) : List.replicate n [D.int .u32 (0 : Int)] = lim (List.replicate n 0) := by simp [lim]
theorem lim_nil : lim [] = [] := rfl

def cI (z : Int) : List D := [D.bool (decide (z < 0)), D.sl (lim (digs z.natAbs))]
/-- An integer, as a value. -/
def eI (z : Int) : V := .e (.agg [.dat (.bool (decide (z < 0))), .dat (.sl (lim (digs z.natAbs)))])
def row (r : List Int) : List (List D) := r.map cI
def rows (m : List (List Int)) : List (List D) := m.map fun r => [D.sl (row r)]
def vi (n : Int) : V := .e (.sc (.dat (.int .i64 n)))
def vb (b : Bool) : V := .e (.sc (.dat (.bool b)))
def vs (l : List (List D)) : V := .e (.sc (.dat (.sl l)))
/-- A matrix, as a value. -/
def eM (r c : Int) (m : List (List Int)) : V := .e (.agg [.dat (.int .i64 r), .dat (.int .i64 c), .dat (.sl (rows m))])

theorem row_length (r : List Int) : (row r).length = r.length := by simp [row]
theorem rows_length (m : List (List Int)) : (rows m).length = m.length := by simp [rows]
theorem row_get {r : List Int} {i : Nat} (h : i < r.length) : (row r)[i]? = some (cI r[i]) := by simp [row, h]
theorem rows_get {m : List (List Int)} {i : Nat} (h : i < m.length) : (rows m)[i]? = some [D.sl (row m[i])] := by simp [rows, h]

theorem w64 {n : Int} (h : -9223372036854775808 ≤ n) (h' : n ≤ 9223372036854775807) : IntKind.i64.wrap n = n := IntWalk.i64_in n ⟨h, h'⟩

/-- The result, and nothing left. -/
abbrev Out (r : V) : V → Heap → Prop := fun r' h' => r' = r ∧ h' = []

theorem out2 {b b' : Bool} {l l' : List (List D)} (h1 : b = b') (h2 : l = l') : Out (.e (.agg [.dat (.bool b'), .dat (.sl l')])) (V.e (E.agg [S.dat (D.bool b), S.dat (D.sl l)])) [] := by subst h1; subst h2; exact ⟨rfl, rfl⟩
theorem outs {l l' : List (List D)} (h2 : l = l') : Out (vs l') (V.e (E.sc (S.dat (D.sl l)))) [] := by subst h2; exact ⟨rfl, rfl⟩
theorem outb {b b' : Bool} (h1 : b = b') : Out (vb b') (V.e (E.sc (S.dat (D.bool b)))) [] := by subst h1; exact ⟨rfl, rfl⟩
theorem outi {b b' : Int} (h1 : b = b') : Out (vi b') (V.e (E.sc (S.dat (D.int .i64 b)))) [] := by subst h1; exact ⟨rfl, rfl⟩

/-- What a list of digits comes to, without the zeros at its end. -/
theorem take_digs {l : List Nat} (hB : ∀ x ∈ l, x < 4294967296) {n : Nat} (hv : val (l.take n) = val l) (hx : ∀ x, (l.take n).getLast? = some x → x ≠ 0) : l.take n = digs (val l) := by
  rw [← hv]
  exact (digs_val (fun x h => hB x (List.mem_of_mem_take h)) hx).symm

theorem val_take_pred {l : List Nat} {n : Nat} (hn : n < l.length) (h0 : l[n] = 0) : val (l.take (n + 1)) = val (l.take n) := by
  rw [List.take_add_one, List.getElem?_eq_getElem hn, h0, val_append]; simp [val]

theorem getLast_take {l : List Nat} {n : Nat} (hn : n < l.length) : (l.take (n + 1)).getLast? = some l[n] := by
  rw [List.take_add_one, List.getElem?_eq_getElem hn, Option.toList_some, List.getLast?_append]; rfl

end Go.AM
