/- What the functions of package integer, and of its reference, answer: sums of absolute values. -/
import Derived.Test.YtbodjgljjaafaaaLawB
namespace Go.AM
open Go.Proofs.Try

/-- k digits of v. -/
def padD : Nat → Nat → List Nat
  | 0, _ => []
  | k + 1, v => v % 4294967296 :: padD k (v / 4294967296)

theorem padD_length : ∀ k v, (padD k v).length = k
  | 0, _ => rfl
  | k + 1, v => by simp [padD, padD_length k]

theorem padD_lt : ∀ k v, ∀ x ∈ padD k v, x < 4294967296
  | 0, _, x, h => by simp [padD] at h
  | k + 1, v, x, h => by
    simp only [padD, List.mem_cons] at h
    rcases h with rfl | h
    · exact Nat.mod_lt _ (by decide)
    · exact padD_lt k _ x h

theorem padD_val : ∀ (l : List Nat), (∀ x ∈ l, x < 4294967296) → l = padD l.length (val l)
  | [], _ => rfl
  | x :: l, h => by
    have hx := h x (by simp)
    have h1 : (x + 4294967296 * val l) % 4294967296 = x := by omega
    have h2 : (x + 4294967296 * val l) / 4294967296 = val l := by omega
    simp only [List.length_cons, padD, val]
    rw [h1, h2, ← padD_val l fun y hy => h y (by simp [hy])]

theorem val_padD : ∀ k v, v < 4294967296 ^ k → val (padD k v) = v
  | 0, v, h => by simp at h; subst h; rfl
  | k + 1, v, h => by
    simp only [padD, val]
    rw [val_padD k (v / 4294967296) ?_]
    · omega
    · rw [Nat.pow_succ, Nat.mul_comm] at h
      exact Nat.div_lt_of_lt_mul h

/-- digit i, 0 beyond the end -/
def dg (l : List Nat) (i : Nat) : Nat := l.getD i 0

theorem dg_lt {l : List Nat} (h : ∀ x ∈ l, x < 4294967296) (i : Nat) : dg l i < 4294967296 := by
  unfold dg
  rcases Nat.lt_or_ge i l.length with hi | hi
  · rw [List.getD_eq_getElem?_getD, List.getElem?_eq_getElem hi]; exact h _ (List.getElem_mem hi)
  · rw [List.getD_eq_getElem?_getD, List.getElem?_eq_none hi]; decide

theorem dg_get {l : List Nat} {i : Nat} (h : i < l.length) : l[i] = dg l i := by
  unfold dg; rw [List.getD_eq_getElem?_getD, List.getElem?_eq_getElem h]; rfl

theorem dg_out {l : List Nat} {i : Nat} (h : l.length ≤ i) : dg l i = 0 := by
  unfold dg; rw [List.getD_eq_getElem?_getD, List.getElem?_eq_none h]; rfl

/-- the value of the digits below i -/
def low (l : List Nat) (i : Nat) : Nat := val (l.take i)

theorem low_zero (l : List Nat) : low l 0 = 0 := rfl

theorem low_succ (l : List Nat) (i : Nat) : low l (i + 1) = low l i + 4294967296 ^ i * dg l i := by
  unfold low
  rcases Nat.lt_or_ge i l.length with h | h
  · rw [List.take_add_one, List.getElem?_eq_getElem h, Option.toList_some, val_append, dg_get h, List.length_take, Nat.min_eq_left (by omega)]
    simp [val]
  · rw [List.take_of_length_le (by omega), List.take_of_length_le h, dg_out h]; simp

theorem low_all {l : List Nat} {i : Nat} (h : l.length ≤ i) : low l i = val l := by unfold low; rw [List.take_of_length_le h]

theorem low_set (l : List Nat) (i x : Nat) (j : Nat) (h : j ≤ i) : low (l.set i x) j = low l j := by
  unfold low; rw [List.take_set_of_le h]

theorem dg_set {l : List Nat} {i x : Nat} (h : i < l.length) : dg (l.set i x) i = x := by
  unfold dg; rw [List.getD_eq_getElem?_getD]; simp [h]

theorem low_set_succ {l : List Nat} {i x : Nat} (h : i < l.length) : low (l.set i x) (i + 1) = low l i + 4294967296 ^ i * x := by
  rw [low_succ, low_set l i x i (Nat.le_refl _), dg_set h]

theorem set_lt {l : List Nat} {i x : Nat} (h : ∀ y ∈ l, y < 4294967296) (hx : x < 4294967296) : ∀ y ∈ l.set i x, y < 4294967296 := fun y hy => by
  rcases List.mem_or_eq_of_mem_set hy with h1 | rfl
  · exact h y h1
  · exact hx

theorem lim_getI {l : List Nat} {i : Int} (h0 : 0 ≤ i) (h : i < (l.length : Int)) : (lim l)[i.toNat]? = some [D.int .u32 ((dg l i.toNat : Nat) : Int)] := by
  have hi : i.toNat < l.length := by omega
  rw [lim_get hi, dg_get hi]

/-- One step of a sum with carry. -/
theorem carry_step (p l s c : Nat) (a b q : Nat) (h : l + p * c = q) (hs : s = a + b + c) : l + p * (s % 4294967296) + p * 4294967296 * (s / 4294967296) = q + p * a + p * b := by
  have h1 : p * (s % 4294967296) + p * 4294967296 * (s / 4294967296) = p * s := by
    rw [Nat.mul_assoc, ← Nat.mul_add, Nat.mod_add_div]
  subst hs
  rw [Nat.add_assoc, h1, ← h]
  simp only [Nat.mul_add]; omega

/-- The loop of integer.plus: b is not the longer one. -/
def plusVC (a b : List (List D)) (R : V → Heap → Prop) : Prop :=
    (0 ≤ (IntKind.i64.wrap ((a.length : Int) + (1 : Int))) ∧ (IntKind.i64.wrap ((a.length : Int) + (1 : Int))) ≤ (IntKind.i64.wrap ((a.length : Int) + (1 : Int))) ∧ (IntKind.i64.wrap ((a.length : Int) + (1 : Int))) * (4 : Nat) ≤ 281474976710656) ∧
    ((∀ y ∈ a, y.length = 1) ∧
    (∃ (J1 : (List (List D)) → Int → Int → Prop) (μ1 : (List (List D)) → Int → Int → Nat),
    J1 (a.take (List.replicate ((IntKind.i64.wrap ((a.length : Int) + (1 : Int)))).toNat [(D.int .u32 (0 : Int))]).length ++ (List.replicate ((IntKind.i64.wrap ((a.length : Int) + (1 : Int)))).toNat [(D.int .u32 (0 : Int))]).drop a.length) (0 : Int) (0 : Int) ∧ ∀ (out1 : List (List D)) (t251 : Int) (carry1 : Int), J1 out1 t251 carry1 →
      ((decide (t251 < (a.length : Int))) = true →
        ((decide (t251 < (b.length : Int))) = true →
          ∃ (vx3 : Int),
          (0 ≤ t251 ∧ t251 < (b.length : Int)) ∧
          (b[(t251).toNat]? = some [(D.int .u32 vx3)]) ∧
          (∃ (vx4 : Int) (r4 : Int) (r5 : Int),
          (0 ≤ t251 ∧ t251 < (a.length : Int)) ∧
          (a[(t251).toNat]? = some [(D.int .u32 vx4)]) ∧
          (FnD prog 155 [(V.e (E.sc (S.dat (D.int .u32 vx4)))), (V.e (E.sc (S.dat (D.int .u32 vx3)))), (V.e (E.sc (S.dat (D.int .u32 carry1))))] (V.tup [(E.sc (S.dat (D.int .u32 r4))), (E.sc (S.dat (D.int .u32 r5)))]) []) ∧
          (0 ≤ t251 ∧ t251 < (out1.length : Int)) ∧
          (J1 (out1.set (t251).toNat [(D.int .u32 r4)]) (IntKind.i64.wrap (t251 + (1 : Int))) r5 ∧ μ1 (out1.set (t251).toNat [(D.int .u32 r4)]) (IntKind.i64.wrap (t251 + (1 : Int))) r5 < μ1 out1 t251 carry1))) ∧
        ((decide (t251 < (b.length : Int))) = false →
          ∃ (vx5 : Int) (r6 : Int) (r7 : Int),
          (0 ≤ t251 ∧ t251 < (a.length : Int)) ∧
          (a[(t251).toNat]? = some [(D.int .u32 vx5)]) ∧
          (FnD prog 155 [(V.e (E.sc (S.dat (D.int .u32 vx5)))), (V.e (E.sc (S.dat (D.int .u32 (0 : Int))))), (V.e (E.sc (S.dat (D.int .u32 carry1))))] (V.tup [(E.sc (S.dat (D.int .u32 r6))), (E.sc (S.dat (D.int .u32 r7)))]) []) ∧
          (0 ≤ t251 ∧ t251 < (out1.length : Int)) ∧
          (J1 (out1.set (t251).toNat [(D.int .u32 r6)]) (IntKind.i64.wrap (t251 + (1 : Int))) r7 ∧ μ1 (out1.set (t251).toNat [(D.int .u32 r6)]) (IntKind.i64.wrap (t251 + (1 : Int))) r7 < μ1 out1 t251 carry1))) ∧
      ((decide (t251 < (a.length : Int))) = false →
        (0 ≤ (a.length : Int) ∧ (a.length : Int) < (out1.length : Int)) ∧
        (R (V.e (E.sc (S.dat (D.sl (out1.set ((a.length : Int)).toNat [(D.int .u32 carry1)]))))) []))))

theorem plusVC_ok {a b : List Nat} (ha : ∀ x ∈ a, x < 4294967296) (hb : ∀ x ∈ b, x < 4294967296) (hl : a.length ≤ 1099511627776) (hab : b.length ≤ a.length) : plusVC (lim a) (lim b) (Out (vs (lim (padD (a.length + 1) (val a + val b))))) := by
  unfold plusVC
  simp only [lim_length]
  have hw : IntKind.i64.wrap ((a.length : Int) + 1) = ((a.length + 1 : Nat) : Int) := by rw [w64 (by omega) (by omega)]; simp
  rw [hw]
  refine ⟨⟨by omega, by omega, by omega⟩, lim_one a, fun out t c => ∃ (o : List Nat) (i k : Nat), out = lim o ∧ t = (i : Int) ∧ c = (k : Int) ∧ o.length = a.length + 1 ∧ (∀ x ∈ o, x < 4294967296) ∧ i ≤ a.length ∧ k ≤ 1 ∧ low o i + 4294967296 ^ i * k = low a i + low b i,
    fun _ t _ => ((a.length : Int) - t).toNat, ⟨a ++ [0], 0, 0, ?_, rfl, rfl, by simp, ?_, by omega, by omega, by simp [low_zero]⟩, ?_⟩
  · simp only [Int.toNat_natCast, List.length_replicate]
    rw [List.take_of_length_le (by rw [lim_length]; omega), List.drop_replicate, Nat.add_sub_cancel_left, lim_append]; rfl
  · intro x hx
    rcases List.mem_append.1 hx with h | h
    · exact ha x h
    · simp at h; omega
  · rintro _ _ _ ⟨o, i, k, rfl, rfl, rfl, hol, hod, hia, hk, hinv⟩
    have step : i < a.length → ∀ (x y : Nat), x = dg a i → y = dg b i →
        FnD prog 155 [vu x, vu y, vu k] (vu2 (((x + y + k) % 4294967296 : Nat) : Int) (((x + y + k) / 4294967296 : Nat) : Int)) [] ∧ (0 ≤ (i : Int) ∧ (i : Int) < ((lim o).length : Int)) ∧
        ((∃ (o' : List Nat) (i' k' : Nat), (lim o).set (i : Int).toNat [D.int .u32 (((x + y + k) % 4294967296 : Nat) : Int)] = lim o' ∧ IntKind.i64.wrap ((i : Int) + 1) = (i' : Int) ∧ (((x + y + k) / 4294967296 : Nat) : Int) = (k' : Int) ∧ o'.length = a.length + 1 ∧ (∀ x ∈ o', x < 4294967296) ∧ i' ≤ a.length ∧ k' ≤ 1 ∧
          low o' i' + 4294967296 ^ i' * k' = low a i' + low b i') ∧ ((a.length : Int) - IntKind.i64.wrap ((i : Int) + 1)).toNat < ((a.length : Int) - (i : Int)).toNat) := fun hi x y hx hy => by
      have hxl : x < 4294967296 := hx ▸ dg_lt ha i
      have hyl : y < 4294967296 := hy ▸ dg_lt hb i
      have hwi : IntKind.i64.wrap ((i : Int) + 1) = ((i + 1 : Nat) : Int) := by rw [w64 (by omega) (by omega)]; simp
      refine ⟨add32_ok x y k hxl hyl hk, ⟨by omega, by rw [lim_length]; omega⟩, ⟨o.set i ((x + y + k) % 4294967296), i + 1, (x + y + k) / 4294967296, by rw [Int.toNat_natCast, lim_set], hwi, rfl, by simp [hol], set_lt hod (Nat.mod_lt _ (by decide)), by omega, by omega, ?_⟩, by rw [hwi]; omega⟩
      rw [low_set_succ (by omega), low_succ a, low_succ b, Nat.pow_succ, ← hx, ← hy]
      have := carry_step (4294967296 ^ i) (low o i) (x + y + k) k x y _ hinv rfl
      omega
    refine ⟨fun hc => ⟨fun hd => ?_, fun hd => ?_⟩, fun hc => ?_⟩
    · have hi : i < a.length := by simpa using hc
      have hib : i < b.length := by simpa using hd
      obtain ⟨s1, s2, s3⟩ := step hi _ _ rfl rfl
      exact ⟨(dg b i : Nat), ⟨by omega, by omega⟩, by simpa using lim_getI (l := b) (i := (i : Int)) (by omega) (by omega), (dg a i : Nat), _, _, ⟨by omega, by omega⟩, by simpa using lim_getI (l := a) (i := (i : Int)) (by omega) (by omega), s1, s2, s3⟩
    · have hi : i < a.length := by simpa using hc
      have hib : b.length ≤ i := by simpa using hd
      obtain ⟨s1, s2, s3⟩ := step hi _ 0 rfl (dg_out hib).symm
      exact ⟨(dg a i : Nat), _, _, ⟨by omega, by omega⟩, by simpa using lim_getI (l := a) (i := (i : Int)) (by omega) (by omega), s1, s2, s3⟩
    · have hi : i = a.length := by have : a.length ≤ i := by simpa using hc
                                   omega
      subst hi
      refine ⟨⟨by omega, by rw [lim_length]; omega⟩, outs ?_⟩
      rw [Int.toNat_natCast, lim_set]
      congr 1
      have hv : val (o.set a.length k) = val a + val b := by
        rw [← low_all (l := o.set a.length k) (i := a.length + 1) (by simp [hol]), low_set_succ (by omega), hinv, low_all (Nat.le_refl _), low_all hab]
      have := padD_val (o.set a.length k) (set_lt hod (by omega))
      rw [hv, List.length_set, hol] at this
      exact this

theorem plus_ok {a b : List Nat} (ha : ∀ x ∈ a, x < 4294967296) (hb : ∀ x ∈ b, x < 4294967296) (hla : a.length ≤ 1099511627776) (hlb : b.length ≤ 1099511627776) :
    FnD prog 145 [vs (lim a), vs (lim b)] (vs (lim (padD (max a.length b.length + 1) (val a + val b)))) [] := by
  refine vc145_ok (lim a) (lim b) (R := Out _) ?_
  unfold vc145
  refine ⟨fun hc => ?_, fun hc => ?_⟩
  · have h : a.length < b.length := by simpa [lim_length] using hc
    have := plusVC_ok hb ha hlb (by omega)
    rw [Nat.max_eq_right (by omega), Nat.add_comm (val a)]
    exact this
  · have h : b.length ≤ a.length := by simpa [lim_length] using hc
    rw [Nat.max_eq_left h]
    exact plusVC_ok ha hb hla h

end Go.AM
