/- What the functions of package integer, and of its reference, answer: differences of absolute values, comparing. -/
import Derived.Test.YtbodjgljjaafaaaLawC
namespace Go.AM
open Go.Proofs.Try

/-- One step of a difference with borrow. -/
theorem borrow_step (p la lo lb k k' x y d : Nat) (h : la + p * k = lo + lb) (hs : x + 4294967296 * k' = d + y + k) : la + p * x + p * 4294967296 * k' = lo + p * d + (lb + p * y) := by
  have h1 : p * x + p * 4294967296 * k' = p * d + p * y + p * k := by
    rw [Nat.mul_assoc, ← Nat.mul_add, hs]; simp only [Nat.mul_add]
  omega

theorem borrow_end {n la lo lb k : Nat} (hk : k ≤ 1) (h : la + n * k = lo + lb) (hlo : lo < n) (hle : lb ≤ la) : lo = la - lb := by
  have : k = 0 ∨ k = 1 := by omega
  rcases this with rfl | rfl
  · omega
  · exfalso; omega

theorem minus_ok {a b : List Nat} (ha : ∀ x ∈ a, x < 4294967296) (hb : ∀ x ∈ b, x < 4294967296) (hl : a.length ≤ 1099511627776) (hab : b.length ≤ a.length) (hle : val b ≤ val a) :
    FnD prog 147 [vs (lim a), vs (lim b)] (vs (lim (padD a.length (val a - val b)))) [] := by
  refine vc147_ok (lim a) (lim b) (R := Out _) ?_
  unfold vc147
  simp only [lim_length]
  refine ⟨⟨by omega, by omega, by omega⟩, fun out t c => ∃ (o : List Nat) (i k : Nat), out = lim o ∧ t = (i : Int) ∧ c = (k : Int) ∧ o.length = a.length ∧ (∀ x ∈ o, x < 4294967296) ∧ i ≤ a.length ∧ k ≤ 1 ∧ low a i + 4294967296 ^ i * k = low o i + low b i,
    fun _ t _ => ((a.length : Int) - t).toNat, ⟨List.replicate a.length 0, 0, 0, by rw [Int.toNat_natCast, lim_rep], rfl, rfl, by simp, fun x hx => by rw [List.eq_of_mem_replicate hx]; decide, by omega, by omega, by simp [low_zero]⟩, ?_⟩
  rintro _ _ _ ⟨o, i, k, rfl, rfl, rfl, hol, hod, hia, hk, hinv⟩
  have step : i < a.length → ∀ (x y : Nat), x = dg a i → y = dg b i →
      FnD prog 158 [vu x, vu y, vu k] (vu2 (((x : Int) - y - k) % 4294967296) (if x < y + k then 1 else 0)) [] ∧ (0 ≤ (i : Int) ∧ (i : Int) < ((lim o).length : Int)) ∧
      ((∃ (o' : List Nat) (i' k' : Nat), (lim o).set (i : Int).toNat [D.int .u32 (((x : Int) - y - k) % 4294967296)] = lim o' ∧ IntKind.i64.wrap ((i : Int) + 1) = (i' : Int) ∧ (if x < y + k then (1 : Int) else 0) = (k' : Int) ∧ o'.length = a.length ∧ (∀ x ∈ o', x < 4294967296) ∧ i' ≤ a.length ∧ k' ≤ 1 ∧
        low a i' + 4294967296 ^ i' * k' = low o' i' + low b i') ∧ ((a.length : Int) - IntKind.i64.wrap ((i : Int) + 1)).toNat < ((a.length : Int) - (i : Int)).toNat) := fun hi x y hx hy => by
    have hxl : x < 4294967296 := hx ▸ dg_lt ha i
    have hyl : y < 4294967296 := hy ▸ dg_lt hb i
    have hwi : IntKind.i64.wrap ((i : Int) + 1) = ((i + 1 : Nat) : Int) := by rw [w64 (by omega) (by omega)]; simp
    obtain ⟨d, hd⟩ : ∃ d : Nat, ((x : Int) - y - k) % 4294967296 = (d : Int) := ⟨(((x : Int) - y - k) % 4294967296).toNat, by omega⟩
    have hdl : d < 4294967296 := by omega
    refine ⟨sub32_ok x y k hxl hyl hk, ⟨by omega, by rw [lim_length]; omega⟩, ⟨o.set i d, i + 1, if x < y + k then 1 else 0, by rw [hd, Int.toNat_natCast, lim_set], hwi, by split <;> rfl, by simp [hol], set_lt hod hdl, by omega, by split <;> omega, ?_⟩, by rw [hwi]; omega⟩
    rw [low_set_succ (by omega), low_succ a, low_succ b, Nat.pow_succ, ← hx, ← hy]
    exact borrow_step (4294967296 ^ i) _ _ _ k _ x y d hinv (by split <;> omega)
  refine ⟨fun hc => ⟨fun hd => ?_, fun hd => ?_⟩, fun hc => ?_⟩
  · have hi : i < a.length := by simpa using hc
    have hib : i < b.length := by simpa using hd
    obtain ⟨s1, s2, s3⟩ := step hi _ _ rfl rfl
    exact ⟨(dg b i : Nat), ⟨by omega, by omega⟩, by simpa using lim_getI (l := b) (i := (i : Int)) (by omega) (by omega), (dg a i : Nat), _, _, ⟨by omega, by omega⟩, by simpa using lim_getI (l := a) (i := (i : Int)) (by omega) (by omega), s1, s2, s3⟩
  · have hi : i < a.length := by simpa using hc
    have hib : b.length ≤ i := by simpa using hd
    obtain ⟨s1, s2, s3⟩ := step hi _ 0 rfl (dg_out hib).symm
    exact ⟨(dg a i : Nat), _, _, ⟨by omega, by omega⟩, by simpa using lim_getI (l := a) (i := (i : Int)) (by omega) (by omega), s1, s2, s3⟩
  · have hi : i = a.length := by have : a.length ≤ i := by simpa using hc
                                 omega
    subst hi
    refine outs ?_
    congr 1
    have hv : val o = val a - val b := by
      rw [low_all (Nat.le_refl _), low_all hab, low_all (by omega)] at hinv
      exact borrow_end hk hinv (by rw [← hol]; exact val_lt hod) hle
    have := padD_val o hod
    rw [hv, hol] at this
    exact this

/-! ### Comparing -/

theorem isNaN_int (x : Int) : FnD prog 163 [vi x] (vb false) [] := by
  refine vc163_ok x (R := Out _) ?_
  unfold vc163
  exact outb (by simp)

theorem isNaN_u32 (x : Int) : FnD prog 164 [vu x] (vb false) [] := by
  refine vc164_ok x (R := Out _) ?_
  unfold vc164
  exact outb (by simp)

def cmpI (x y : Int) : Int := if x < y then -1 else if x > y then 1 else 0

theorem compareInt_ok (x y : Int) : FnD prog 156 [vi x, vi y] (vi (cmpI x y)) [] := by
  refine vc156_ok x y (R := Out _) ?_
  unfold vc156
  refine ⟨false, isNaN_int x, false, isNaN_int y, by simp, fun _ => ⟨by simp, fun _ => ⟨fun h => ?_, fun h => ⟨fun h2 => ?_, fun h2 => ?_⟩⟩⟩⟩
  · exact outi (by simp only [decide_eq_true_eq] at h; simp [cmpI, h])
  · exact outi (by simp only [decide_eq_true_eq, decide_eq_false_iff_not] at h h2; simp [cmpI, h, h2])
  · exact outi (by simp only [decide_eq_false_iff_not] at h h2; simp [cmpI, h, h2])

theorem compareU32_ok (x y : Int) : FnD prog 157 [vu x, vu y] (vi (cmpI x y)) [] := by
  refine vc157_ok x y (R := Out _) ?_
  unfold vc157
  refine ⟨false, isNaN_u32 x, false, isNaN_u32 y, by simp, fun _ => ⟨by simp, fun _ => ⟨fun h => ?_, fun h => ⟨fun h2 => ?_, fun h2 => ?_⟩⟩⟩⟩
  · exact outi (by simp only [decide_eq_true_eq] at h; simp [cmpI, h])
  · exact outi (by simp only [decide_eq_true_eq, decide_eq_false_iff_not] at h h2; simp [cmpI, h, h2])
  · exact outi (by simp only [decide_eq_false_iff_not] at h h2; simp [cmpI, h, h2])

/-- A longer list of digits without zeros at the end is the greater number. -/
theorem val_lt_of_len {a b : List Nat} (ha : ∀ x ∈ a, x < 4294967296) (hb : canon b) (h : a.length < b.length) : val a < val b := by
  have h1 := val_lt ha
  obtain ⟨q, hq⟩ : ∃ q, b.length = q + 1 := ⟨b.length - 1, by omega⟩
  have hsplit : b = b.take q ++ b.drop q := (List.take_append_drop _ _).symm
  have hdl : (b.drop q).length = 1 := by simp [hq]
  obtain ⟨x, hx⟩ := List.length_eq_one_iff.1 hdl
  have hx0 : x ≠ 0 := hb x (by rw [hsplit, hx]; simp)
  have hv : val b = val (b.take q) + 4294967296 ^ q * x := by
    conv => lhs; rw [hsplit, val_append, hx]
    simp [val, hq]
  have h2 : 4294967296 ^ a.length ≤ 4294967296 ^ q := Nat.pow_le_pow_right (by decide) (by omega)
  have h3 : 4294967296 ^ q * 1 ≤ 4294967296 ^ q * x := Nat.mul_le_mul_left _ (by omega)
  omega

/-- The highest digit that differs decides. -/
theorem val_lt_of_dg {a b : List Nat} (ha : ∀ x ∈ a, x < 4294967296) {i : Nat} (hl : a.length = b.length) (hi : i < a.length) (hd : dg a i < dg b i) (hs : ∀ j, i < j → dg a j = dg b j) : val a < val b := by
  have key : ∀ n, low a (i + 1 + n) < low b (i + 1 + n) := by
    intro n
    induction n with
    | zero =>
      rw [Nat.add_zero, low_succ, low_succ]
      have h1 : low a i < 4294967296 ^ i := by
        have := val_lt (l := a.take i) fun x hx => ha x (List.mem_of_mem_take hx)
        rw [List.length_take, Nat.min_eq_left (by omega)] at this
        exact this
      have h2 : 4294967296 ^ i * (dg a i + 1) ≤ 4294967296 ^ i * dg b i := Nat.mul_le_mul_left _ hd
      rw [Nat.mul_add, Nat.mul_one] at h2
      omega
    | succ n ih =>
      rw [← Nat.add_assoc, low_succ, low_succ, hs _ (by omega)]
      omega
  have := key a.length
  rwa [low_all (by omega), low_all (by omega)] at this

theorem val_eq_of_dg {a b : List Nat} (hl : a.length = b.length) (hs : ∀ j, dg a j = dg b j) : val a = val b := by
  have key : ∀ n, low a n = low b n := by
    intro n
    induction n with
    | zero => rfl
    | succ n ih => rw [low_succ, low_succ, ih, hs]
  have := key a.length
  rwa [low_all (Nat.le_refl _), low_all (by omega)] at this

theorem compare_ok {a b : List Nat} (ha : ∀ x ∈ a, x < 4294967296) (hb : ∀ x ∈ b, x < 4294967296) (ca : canon a) (cb : canon b) (hla : a.length ≤ 1099511627776) :
    FnD prog 146 [vs (lim a), vs (lim b)] (vi (cmpI (val a) (val b))) [] := by
  refine vc146_ok (lim a) (lim b) (R := Out _) ?_
  unfold vc146
  simp only [lim_length]
  refine ⟨_, compareInt_ok _ _, fun hc => ?_, fun hc => ?_⟩
  · refine outi ?_
    have hc : cmpI (a.length : Int) (b.length : Int) ≠ 0 := by simpa using hc
    unfold cmpI at hc ⊢
    by_cases h1 : a.length < b.length
    · have := val_lt_of_len ha cb h1
      rw [if_pos (by omega), if_pos (by omega)]
    · by_cases h2 : b.length < a.length
      · have := val_lt_of_len hb ca h2
        rw [if_neg (by omega), if_pos (by omega), if_neg (by omega), if_pos (by omega)]
      · rw [if_neg (by omega), if_neg (by omega)] at hc; exact absurd rfl hc
  · have hlen : a.length = b.length := by
      have hc : cmpI (a.length : Int) (b.length : Int) = 0 := by simpa using hc
      unfold cmpI at hc
      split at hc
      · simp at hc
      · split at hc
        · simp at hc
        · omega
    refine ⟨fun i => -1 ≤ i ∧ i < (a.length : Int) ∧ ∀ j : Nat, i < (j : Int) → dg a j = dg b j, fun i => (i + 1).toNat, ?_, fun i ⟨h0, h1, h2⟩ => ⟨fun hi => ?_, fun hi => ?_⟩⟩
    · rw [w64 (by omega) (by omega)]
      exact ⟨by omega, by omega, fun j hj => by rw [dg_out (by omega), dg_out (by omega)]⟩
    · have hi : 0 ≤ i := by simpa using hi
      have hw : IntKind.i64.wrap (i - 1) = i - 1 := w64 (by omega) (by omega)
      refine ⟨(dg a i.toNat : Nat), (dg b i.toNat : Nat), _, ⟨hi, by omega⟩, lim_getI hi h1, ⟨hi, by omega⟩, lim_getI hi (by omega), compareU32_ok _ _, fun hc => ?_, fun hc => ?_⟩
      · refine outi ?_
        have hc : cmpI (dg a i.toNat : Nat) (dg b i.toNat : Nat) ≠ 0 := by simpa using hc
        have hs : ∀ j, i.toNat < j → dg a j = dg b j := fun j hj => h2 j (by omega)
        unfold cmpI at hc ⊢
        by_cases g1 : dg a i.toNat < dg b i.toNat
        · have := val_lt_of_dg ha hlen (by omega) g1 hs
          rw [if_pos (by omega), if_pos (by omega)]
        · by_cases g2 : dg b i.toNat < dg a i.toNat
          · have := val_lt_of_dg hb hlen.symm (by omega) g2 fun j hj => (hs j hj).symm
            rw [if_neg (by omega), if_pos (by omega), if_neg (by omega), if_pos (by omega)]
          · rw [if_neg (by omega), if_neg (by omega)] at hc; exact absurd rfl hc
      · have hc : cmpI (dg a i.toNat : Nat) (dg b i.toNat : Nat) = 0 := by simpa using hc
        have heq : dg a i.toNat = dg b i.toNat := by
          unfold cmpI at hc
          split at hc
          · simp at hc
          · split at hc
            · simp at hc
            · omega
        rw [hw]
        refine ⟨⟨by omega, by omega, fun j hj => ?_⟩, by show (i - 1 + 1).toNat < (i + 1).toNat; omega⟩
        by_cases hji : j = i.toNat
        · subst hji; exact heq
        · exact h2 j (by omega)
    · have hi : i < 0 := by simpa using hi
      have hv := val_eq_of_dg hlen fun j => h2 j (by omega)
      exact outi (by simp [cmpI, hv])

theorem less_ok {a b : List Nat} (ha : ∀ x ∈ a, x < 4294967296) (hb : ∀ x ∈ b, x < 4294967296) (ca : canon a) (cb : canon b) (hla : a.length ≤ 1099511627776) :
    FnD prog 88 [vs (lim a), vs (lim b)] (vb (decide (val a < val b))) [] := by
  refine vc88_ok (lim a) (lim b) (R := Out _) ?_
  unfold vc88
  simp only [lim_length]
  refine ⟨fun hc => ?_, fun hc => ?_⟩
  · refine outb ?_
    have hc : a.length ≠ b.length := by
      have : ¬ ((a.length : Int) = (b.length : Int)) := by simpa using hc
      omega
    rw [decide_eq_decide]
    rcases Nat.lt_or_gt_of_ne hc with h | h
    · have := val_lt_of_len ha cb h; omega
    · have := val_lt_of_len hb ca h; omega
  · have hlen : a.length = b.length := by
      have : (a.length : Int) = (b.length : Int) := by simpa using hc
      omega
    refine ⟨fun i => -1 ≤ i ∧ i < (a.length : Int) ∧ ∀ j : Nat, i < (j : Int) → dg a j = dg b j, fun i => (i + 1).toNat, ?_, fun i ⟨h0, h1, h2⟩ => ⟨fun hi => ?_, fun hi => ?_⟩⟩
    · rw [w64 (by omega) (by omega)]
      exact ⟨by omega, by omega, fun j hj => by rw [dg_out (by omega), dg_out (by omega)]⟩
    · have hi : 0 ≤ i := by simpa using hi
      have hw : IntKind.i64.wrap (i - 1) = i - 1 := w64 (by omega) (by omega)
      refine ⟨(dg a i.toNat : Nat), (dg b i.toNat : Nat), ⟨hi, by omega⟩, lim_getI hi h1, ⟨hi, by omega⟩, lim_getI hi (by omega), fun hc => ?_, fun hc => ?_⟩
      · refine outb ?_
        have hc : dg a i.toNat ≠ dg b i.toNat := by
          intro h
          rw [h] at hc; simp at hc
        have hs : ∀ j, i.toNat < j → dg a j = dg b j := fun j hj => h2 j (by omega)
        rw [decide_eq_decide]
        rcases Nat.lt_or_gt_of_ne hc with g | g
        · have := val_lt_of_dg ha hlen (by omega) g hs; omega
        · have := val_lt_of_dg hb hlen.symm (by omega) g fun j hj => (hs j hj).symm; omega
      · have heq : dg a i.toNat = dg b i.toNat := by
          have : ((dg a i.toNat : Nat) : Int) = (dg b i.toNat : Nat) := by simpa using hc
          omega
        rw [hw]
        refine ⟨⟨by omega, by omega, fun j hj => ?_⟩, by show (i - 1 + 1).toNat < (i + 1).toNat; omega⟩
        by_cases hji : j = i.toNat
        · subst hji; exact heq
        · exact h2 j (by omega)
    · have hi : i < 0 := by simpa using hi
      have hv := val_eq_of_dg hlen fun j => h2 j (by omega)
      exact outb (by simp [hv])

end Go.AM
