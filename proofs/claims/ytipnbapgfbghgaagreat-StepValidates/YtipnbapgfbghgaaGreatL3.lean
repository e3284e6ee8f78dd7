/- What the functions of package integer, and of its reference, answer: the reference's sums, products. -/
import Derived.Test.YtipnbapgfbghgaaGreatL2
namespace Go.AM
open Go.Proofs.Tryz
theorem td32 {n : Int} (h : 0 ≤ n) : n.tdiv 4294967296 = n / 4294967296 := Int.tdiv_eq_ediv_of_nonneg h
theorem lim_snoc (o : List Nat) (x : Nat) : lim o ++ [[D.int .u32 (x : Int)]] = lim (o ++ [x]) := by simp [lim]
theorem snoc_lt {o : List Nat} {x : Nat} (h : ∀ y ∈ o, y < 4294967296) (hx : x < 4294967296) : ∀ y ∈ o ++ [x], y < 4294967296 := fun y hy => by
  rcases List.mem_append.1 hy with h1 | h1
  · exact h y h1
  · simp only [List.mem_singleton] at h1; subst h1; exact hx
theorem val_snoc (o : List Nat) (x : Nat) : val (o ++ [x]) = val o + 4294967296 ^ o.length * x := by rw [val_append]; simp [val]
def sumLen (a b : List Nat) : Nat := if val a + val b < 4294967296 ^ max a.length b.length then max a.length b.length else max a.length b.length + 1
theorem rplus_ok {a b : List Nat} (ha : ∀ x ∈ a, x < 4294967296) (hb : ∀ x ∈ b, x < 4294967296) (hla : a.length ≤ 1099511627776) (hlb : b.length ≤ 1099511627776) :
    FnD prog 57 [vs (lim a), vs (lim b)] (vs (lim (padD (sumLen a b) (val a + val b)))) [] := by
  refine vc57_ok (lim a) (lim b) (R := Out _) ?_
  unfold vc57
  simp only [lim_length]
  refine ⟨fun out c t => ∃ (o : List Nat) (i k : Nat), out = lim o ∧ t = (i : Int) ∧ c = (k : Int) ∧ o.length = i ∧ (∀ x ∈ o, x < 4294967296) ∧ i ≤ max a.length b.length + 1 ∧ k ≤ 1 ∧ (i = max a.length b.length + 1 → k = 0 ∧ 4294967296 ^ max a.length b.length ≤ val a + val b) ∧ val o + 4294967296 ^ i * k = low a i + low b i,
    fun _ _ t => ((max a.length b.length : Nat) + 2 - t).toNat, ⟨[], 0, 0, rfl, rfl, rfl, rfl, fun x hx => by simp at hx, by omega, by omega, fun h => by omega, by simp [val, low_zero]⟩, ?_⟩
  rintro _ _ _ ⟨o, i, k, rfl, rfl, rfl, hol, hod, hia, hk, hlast, hinv⟩
  have hwi : IntKind.i64.wrap ((i : Int) + 1) = ((i + 1 : Nat) : Int) := by rw [w64 (by omega) (by omega)]; simp
  have step : (i < max a.length b.length ∨ 0 < k) → ∀ (x y s : Nat), x = dg a i → y = dg b i → s = k + x + y →
      (((lim o).length + ([[D.int .u32 (IntKind.u32.wrap (s : Int))]] : DL).length) * 4 ≤ 140737488355328) ∧ ((4294967296 : Int) ≠ 0) ∧
      ((∃ (o' : List Nat) (i' k' : Nat), lim o ++ [[D.int .u32 (IntKind.u32.wrap (s : Int))]] = lim o' ∧ IntKind.i64.wrap ((i : Int) + 1) = (i' : Int) ∧ IntKind.u64.wrap ((s : Int).tdiv 4294967296) = (k' : Int) ∧ o'.length = i' ∧ (∀ x ∈ o', x < 4294967296) ∧ i' ≤ max a.length b.length + 1 ∧ k' ≤ 1 ∧
        (i' = max a.length b.length + 1 → k' = 0 ∧ 4294967296 ^ max a.length b.length ≤ val a + val b) ∧ val o' + 4294967296 ^ i' * k' = low a i' + low b i') ∧
        (((max a.length b.length : Nat) : Int) + 2 - IntKind.i64.wrap ((i : Int) + 1)).toNat < (((max a.length b.length : Nat) : Int) + 2 - (i : Int)).toNat) := fun hgo x y s hx hy hs => by
    have hxl : x < 4294967296 := hx ▸ dg_lt ha i
    have hyl : y < 4294967296 := hy ▸ dg_lt hb i
    have hiM : i ≤ max a.length b.length := by
      rcases Nat.lt_or_ge i (max a.length b.length + 1) with h | h
      · omega
      · have := (hlast (by omega)).1; omega
    have e1 : IntKind.u32.wrap (s : Int) = ((s % 4294967296 : Nat) : Int) := by rw [wu32]; omega
    have e2 : IntKind.u64.wrap ((s : Int).tdiv 4294967296) = ((s / 4294967296 : Nat) : Int) := by rw [td32 (by omega), wu64 (by omega) (by omega)]; omega
    rw [e1, e2, hwi, lim_snoc]
    refine ⟨by simp only [lim_length, List.length_singleton]; omega, by decide, ⟨_, i + 1, _, rfl, rfl, rfl, by simp [hol], snoc_lt hod (Nat.mod_lt _ (by decide)), by omega, by omega, fun hl => ?_, ?_⟩, by omega⟩
    · have hi : i = max a.length b.length := by omega
      have ha0 : dg a i = 0 := dg_out (by omega)
      have hb0 : dg b i = 0 := dg_out (by omega)
      have hk0 : 0 < k := by rcases hgo with h | h <;> omega
      rw [low_all (by omega), low_all (by omega), hi] at hinv
      have h1 : 4294967296 ^ max a.length b.length * 1 ≤ 4294967296 ^ max a.length b.length * k := Nat.mul_le_mul_left _ hk0
      exact ⟨by omega, by omega⟩
    · rw [val_snoc, hol, low_succ a, low_succ b, Nat.pow_succ, ← hx, ← hy]
      have := carry_step (4294967296 ^ i) (val o) s k x y _ hinv (by omega)
      omega
  refine ⟨fun hc => ?_, fun hc => ?_⟩
  · have hi : i < a.length := by simpa using hc
    refine ⟨(dg a i : Nat), ⟨by omega, by omega⟩, by simpa using lim_getI (l := a) (i := (i : Int)) (by omega) (by omega), fun hd => ?_, fun hd => ?_⟩
    · have hib : i < b.length := by simpa using hd
      have hxl := dg_lt ha i
      have hyl := dg_lt hb i
      have e : IntKind.u64.wrap (IntKind.u64.wrap ((k : Int) + IntKind.u64.wrap ((dg a i : Nat) : Int)) + IntKind.u64.wrap ((dg b i : Nat) : Int)) = ((k + dg a i + dg b i : Nat) : Int) := by
        rw [wu64 (n := ((dg a i : Nat) : Int)) (by omega) (by omega), wu64 (n := ((dg b i : Nat) : Int)) (by omega) (by omega), wu64 (n := (k : Int) + _) (by omega) (by omega), wu64 (by omega) (by omega)]; omega
      refine ⟨(dg b i : Nat), ⟨by omega, by omega⟩, by simpa using lim_getI (l := b) (i := (i : Int)) (by omega) (by omega), ?_⟩
      rw [e]
      exact step (.inl (by omega)) _ _ _ rfl rfl rfl
    · have hib : b.length ≤ i := by simpa using hd
      have hxl := dg_lt ha i
      have e : IntKind.u64.wrap ((k : Int) + IntKind.u64.wrap ((dg a i : Nat) : Int)) = ((k + dg a i + 0 : Nat) : Int) := by
        rw [wu64 (n := ((dg a i : Nat) : Int)) (by omega) (by omega), wu64 (by omega) (by omega)]; omega
      rw [e]
      exact step (.inl (by omega)) _ 0 _ rfl (dg_out hib).symm rfl
  · have hi : a.length ≤ i := by simpa using hc
    refine ⟨fun hd => ?_, fun hd => ⟨fun he => ?_, fun he => ?_⟩⟩
    · have hib : i < b.length := by simpa using hd
      have hyl := dg_lt hb i
      have e : IntKind.u64.wrap ((k : Int) + IntKind.u64.wrap ((dg b i : Nat) : Int)) = ((k + 0 + dg b i : Nat) : Int) := by
        rw [wu64 (n := ((dg b i : Nat) : Int)) (by omega) (by omega), wu64 (by omega) (by omega)]; omega
      refine ⟨(dg b i : Nat), ⟨by omega, by omega⟩, by simpa using lim_getI (l := b) (i := (i : Int)) (by omega) (by omega), ?_⟩
      rw [e]
      exact step (.inl (by omega)) 0 _ _ (dg_out hi).symm rfl rfl
    · have hib : b.length ≤ i := by simpa using hd
      have hk0 : 0 < k := by simpa using he
      exact step (.inr hk0) 0 0 k (dg_out hi).symm (dg_out hib).symm rfl
    · have hib : b.length ≤ i := by simpa using hd
      have hk0 : k = 0 := by have : ¬ (k : Int) > 0 := by simpa using he
                             omega
      subst hk0
      refine outs ?_
      rw [low_all hi, low_all hib] at hinv
      have hv : val o = val a + val b := by omega
      congr 1
      have hlen : o.length = sumLen a b := by
        unfold sumLen
        split
        · rename_i h
          have : i ≠ max a.length b.length + 1 := fun h2 => by have := (hlast h2).2; omega
          omega
        · rename_i h
          have : i ≠ max a.length b.length := fun h2 => by
            have h3 := val_lt hod
            rw [hol, h2] at h3; omega
          omega
      have := padD_val o hod
      rw [hv, hlen] at this
      exact this
theorem sumLen_le (a b : List Nat) : sumLen a b ≤ max a.length b.length + 1 := by unfold sumLen; split <;> omega
theorem sumLen_fits {a b : List Nat} (ha : ∀ x ∈ a, x < 4294967296) (hb : ∀ x ∈ b, x < 4294967296) : val a + val b < 4294967296 ^ sumLen a b := by
  unfold sumLen
  split
  · assumption
  · exact sum_fits ha hb
theorem wi64 {n : Int} (h0 : -9000000000000000000 ≤ n) (h1 : n ≤ 9000000000000000000) : IntKind.i64.wrap n = n := w64 (by omega) (by omega)
theorem rminus_ok {a b : List Nat} (ha : ∀ x ∈ a, x < 4294967296) (hb : ∀ x ∈ b, x < 4294967296) (hl : a.length ≤ 1099511627776) (hab : b.length ≤ a.length) (hle : val b ≤ val a) :
    FnD prog 59 [vs (lim a), vs (lim b)] (vs (lim (padD a.length (val a - val b)))) [] := by
  refine vc59_ok (lim a) (lim b) (R := Out _) ?_
  unfold vc59
  simp only [lim_length]
  refine ⟨fun out c t => ∃ (o : List Nat) (i k : Nat), out = lim o ∧ t = (i : Int) ∧ c = (k : Int) ∧ o.length = i ∧ (∀ x ∈ o, x < 4294967296) ∧ i ≤ a.length ∧ k ≤ 1 ∧ low a i + 4294967296 ^ i * k = val o + low b i,
    fun _ _ t => ((a.length : Int) - t).toNat, ⟨[], 0, 0, rfl, rfl, rfl, rfl, fun x hx => by simp at hx, by omega, by omega, by simp [val, low_zero]⟩, ?_⟩
  rintro _ _ _ ⟨o, i, k, rfl, rfl, rfl, hol, hod, hia, hk, hinv⟩
  have step : i < a.length → ∀ (x y d k' : Nat), x = dg a i → y = dg b i → x + 4294967296 * k' = d + y + k → d < 4294967296 → k' ≤ 1 →
      (((lim o).length + ([[D.int .u32 (d : Int)]] : DL).length) * 4 ≤ 140737488355328) ∧
      ((∃ (o' : List Nat) (i' k'' : Nat), lim o ++ [[D.int .u32 (d : Int)]] = lim o' ∧ IntKind.i64.wrap ((i : Int) + 1) = (i' : Int) ∧ (k' : Int) = (k'' : Int) ∧ o'.length = i' ∧ (∀ x ∈ o', x < 4294967296) ∧ i' ≤ a.length ∧ k'' ≤ 1 ∧ low a i' + 4294967296 ^ i' * k'' = val o' + low b i') ∧
        ((a.length : Int) - IntKind.i64.wrap ((i : Int) + 1)).toNat < ((a.length : Int) - (i : Int)).toNat) := fun hi x y d k' hx hy hs hd hk' => by
    have hwi : IntKind.i64.wrap ((i : Int) + 1) = ((i + 1 : Nat) : Int) := by rw [w64 (by omega) (by omega)]; simp
    rw [hwi, lim_snoc]
    refine ⟨by simp only [lim_length, List.length_singleton]; omega, ⟨_, i + 1, k', rfl, rfl, rfl, by simp [hol], snoc_lt hod hd, by omega, hk', ?_⟩, by omega⟩
    rw [val_snoc, hol, low_succ a, low_succ b, Nat.pow_succ, ← hx, ← hy]
    exact borrow_step (4294967296 ^ i) _ _ _ k _ x y d hinv hs
  refine ⟨fun hc => ?_, fun hc => ?_⟩
  · have hi : i < a.length := by simpa using hc
    have hxl := dg_lt ha i
    have hyl := dg_lt hb i
    have e1 : IntKind.i64.wrap ((dg a i : Nat) : Int) = (dg a i : Nat) := wi64 (by omega) (by omega)
    have e2 : IntKind.i64.wrap (((dg a i : Nat) : Int) - k) = ((dg a i : Nat) : Int) - k := wi64 (by omega) (by omega)
    refine ⟨(dg a i : Nat), ⟨by omega, by omega⟩, by simpa using lim_getI (l := a) (i := (i : Int)) (by omega) (by omega), fun hd => ?_, fun hd => ?_⟩
    · have e3 : IntKind.i64.wrap ((dg b i : Nat) : Int) = (dg b i : Nat) := wi64 (by omega) (by omega)
      have e4 : IntKind.i64.wrap (((dg a i : Nat) : Int) - k - (dg b i : Nat)) = ((dg a i : Nat) : Int) - k - (dg b i : Nat) := wi64 (by omega) (by omega)
      have e5 : IntKind.i64.wrap (((dg a i : Nat) : Int) - k - (dg b i : Nat) + 4294967296) = ((dg a i : Nat) : Int) - k - (dg b i : Nat) + 4294967296 := wi64 (by omega) (by omega)
      rw [e1, e2]
      have hib : i < b.length := by simpa using hd
      refine ⟨(dg b i : Nat), ⟨by omega, by omega⟩, by simpa using lim_getI (l := b) (i := (i : Int)) (by omega) (by omega), ?_⟩
      rw [e3, e4, e5]
      refine ⟨fun hn => ?_, fun hn => ?_⟩
      · have hn : ((dg a i : Nat) : Int) - k - (dg b i : Nat) < 0 := by simpa using hn
        have e6 : IntKind.u32.wrap (((dg a i : Nat) : Int) - k - (dg b i : Nat) + 4294967296) = ((dg a i + 4294967296 - k - dg b i : Nat) : Int) := by rw [wu32]; omega
        rw [e6]
        exact step hi _ _ _ 1 rfl rfl (by omega) (by omega) (by omega)
      · have hn : ¬ ((dg a i : Nat) : Int) - k - (dg b i : Nat) < 0 := by simpa using hn
        have e6 : IntKind.u32.wrap (((dg a i : Nat) : Int) - k - (dg b i : Nat)) = ((dg a i - k - dg b i : Nat) : Int) := by rw [wu32]; omega
        rw [e6]
        exact step hi _ _ _ 0 rfl rfl (by omega) (by omega) (by omega)
    · have hib : b.length ≤ i := by simpa using hd
      have e5 : IntKind.i64.wrap (((dg a i : Nat) : Int) - k + 4294967296) = ((dg a i : Nat) : Int) - k + 4294967296 := wi64 (by omega) (by omega)
      rw [e1, e2, e5]
      refine ⟨fun hn => ?_, fun hn => ?_⟩
      · have hn : ((dg a i : Nat) : Int) - k < 0 := by simpa using hn
        have e6 : IntKind.u32.wrap (((dg a i : Nat) : Int) - k + 4294967296) = ((dg a i + 4294967296 - k : Nat) : Int) := by rw [wu32]; omega
        rw [e6]
        exact step hi _ 0 _ 1 rfl (dg_out hib).symm (by omega) (by omega) (by omega)
      · have hn : ¬ ((dg a i : Nat) : Int) - k < 0 := by simpa using hn
        have e6 : IntKind.u32.wrap (((dg a i : Nat) : Int) - k) = ((dg a i - k : Nat) : Int) := by rw [wu32]; omega
        rw [e6]
        exact step hi _ 0 _ 0 rfl (dg_out hib).symm (by omega) (by omega) (by omega)
  · have hi : i = a.length := by have : a.length ≤ i := by simpa using hc
                                 omega
    subst hi
    refine outs ?_
    congr 1
    have hv : val o = val a - val b := by
      rw [low_all (Nat.le_refl _), low_all hab] at hinv
      exact borrow_end hk hinv (by rw [← hol]; exact val_lt hod) hle
    have := padD_val o hod
    rw [hv, hol] at this
    exact this
theorem radd_ok {x y : Int} (hx : Sz x) (hy : Sz y) : FnD prog 24 [eI x, eI y] (eI (x + y)) [] := by
  refine vc24_ok _ _ _ _ (R := Out _) ?_
  unfold vc24
  have ax := digs_lt x.natAbs
  have ay := digs_lt y.natAbs
  have cx := digs_canon x.natAbs
  have cy := digs_canon y.natAbs
  have vx := val_digs x.natAbs
  have vy := val_digs y.natAbs
  unfold Sz at hx hy
  refine ⟨fun h => ?_, fun h => ?_⟩
  · have h : (x < 0 ↔ y < 0) := by simpa using h
    have hsl := sumLen_le (dz x) (dz y)
    refine ⟨_, decide (x + y < 0), lim (dz (x + y)), rplus_ok ax ay (by omega) (by omega), made_z (padD_lt _ _) (by rw [padD_length]; simp only [dz] at hsl; omega) ?_, oute rfl⟩
    rw [val_padD _ _ (sumLen_fits ax ay), vx, vy]
    by_cases h1 : x < 0
    · rw [if_pos (by simpa using h1)]; omega
    · rw [if_neg (by simpa using h1)]; omega
  · have h : ¬ (x < 0 ↔ y < 0) := by simpa using h
    refine ⟨_, less_ok ax ay cx cy (by omega), fun hc => ?_, fun hc => ?_⟩
    · have hlt : x.natAbs < y.natAbs := by rw [vx, vy] at hc; simpa using hc
      have hle : val (dz x) ≤ val (dz y) := by rw [vx, vy]; omega
      refine ⟨_, decide (x + y < 0), lim (dz (x + y)), rminus_ok ay ax (by omega) (len_le_of_val ay cx hle) hle, made_z (padD_lt _ _) (by rw [padD_length]; omega) ?_, oute rfl⟩
      rw [val_padD _ _ (diff_fits ay _), vx, vy]
      by_cases h1 : y < 0
      · rw [if_pos (by simpa using h1)]; omega
      · rw [if_neg (by simpa using h1)]; omega
    · have hge : y.natAbs ≤ x.natAbs := by
        rw [vx, vy] at hc
        simpa using hc
      have hle : val (dz y) ≤ val (dz x) := by rw [vx, vy]; omega
      refine ⟨_, decide (x + y < 0), lim (dz (x + y)), rminus_ok ax ay (by omega) (len_le_of_val ax cy hle) hle, made_z (padD_lt _ _) (by rw [padD_length]; omega) ?_, oute rfl⟩
      rw [val_padD _ _ (diff_fits ax _), vx, vy]
      by_cases h1 : x < 0
      · rw [if_pos (by simpa using h1)]; omega
      · rw [if_neg (by simpa using h1)]; omega
end Go.AM
/- What the functions of package integer, and of its reference, answer: products. -/
namespace Go.AM
open Go.Proofs.Tryz
theorem val_set : ∀ {o : List Nat} {j : Nat} (x : Nat), j < o.length → val (o.set j x) + 4294967296 ^ j * dg o j = val o + 4294967296 ^ j * x
  | [], j, x, h => by simp at h
  | y :: o, 0, x, _ => by simp [val, dg]; omega
  | y :: o, j + 1, x, h => by
    have ih := val_set (o := o) (j := j) x (by simpa using h)
    have hd : dg (y :: o) (j + 1) = dg o j := by simp [dg]
    rw [List.set_cons_succ, hd]
    simp only [val, Nat.pow_succ]
    have e1 : 4294967296 ^ j * 4294967296 * dg o j = 4294967296 * (4294967296 ^ j * dg o j) := by rw [Nat.mul_comm (4294967296 ^ j), Nat.mul_assoc]
    have e2 : 4294967296 ^ j * 4294967296 * x = 4294967296 * (4294967296 ^ j * x) := by rw [Nat.mul_comm (4294967296 ^ j), Nat.mul_assoc]
    rw [e1, e2]; omega
theorem dg_set_ne {o : List Nat} {i j x : Nat} (h : i ≠ j) : dg (o.set i x) j = dg o j := by
  simp [dg, List.getElem?_set_ne h]
theorem val_rep0 : ∀ n, val (List.replicate n 0) = 0
  | 0 => rfl
  | n + 1 => by simp [List.replicate_succ, val, val_rep0 n]
theorem dg_rep0 (n j : Nat) : dg (List.replicate n 0) j = 0 := by
  unfold dg
  rw [List.getD_eq_getElem?_getD, List.getElem?_replicate]
  split <;> rfl
theorem dig_bound {x y d c : Nat} (hx : x < 4294967296) (hy : y < 4294967296) (hd : d < 4294967296) (hc : c < 4294967296) : x * y ≤ 18446744065119617025 ∧ (c + x * y + d) / 4294967296 < 4294967296 ∧ c + x * y + d < 18446744073709551616 := by
  have h : x * y ≤ 4294967295 * 4294967295 := Nat.mul_le_mul (by omega) (by omega)
  refine ⟨by omega, by omega, by omega⟩
theorem mul_step {p v v' c d s L X bl t x y : Nat} (hset : v' + p * d = v + p * (s % 4294967296)) (hs : s = c + x * y + d) (hinv : v + p * c = L + X * bl) (hp : p * (x * y) = X * t) :
    v' + p * 4294967296 * (s / 4294967296) = L + X * (bl + t) := by
  have h1 : p * (s % 4294967296) + p * 4294967296 * (s / 4294967296) = p * s := by rw [Nat.mul_assoc, ← Nat.mul_add, Nat.mod_add_div]
  have h2 : p * s = p * c + p * (x * y) + p * d := by subst hs; simp only [Nat.mul_add]
  rw [Nat.mul_add]
  omega
theorem mul_ok {x y : Int} (hx : Sz x) (hy : Sz y) : FnD prog 98 [eI x, eI y] (eI (x * y)) [] := by
  refine vc98_ok _ _ _ _ (R := Out _) ?_
  unfold vc98
  obtain ⟨a, hae⟩ : ∃ a, a = digs x.natAbs := ⟨_, rfl⟩
  obtain ⟨b, hbe⟩ : ∃ b, b = digs y.natAbs := ⟨_, rfl⟩
  have ha : ∀ z ∈ a, z < 4294967296 := hae ▸ digs_lt x.natAbs
  have hb : ∀ z ∈ b, z < 4294967296 := hbe ▸ digs_lt y.natAbs
  have va : val a = x.natAbs := hae ▸ val_digs _
  have vb' : val b = y.natAbs := hbe ▸ val_digs _
  have hla : a.length ≤ 1073741824 := hae ▸ hx
  have hlb : b.length ≤ 1073741824 := hbe ▸ hy
  rw [← hae, ← hbe]
  simp only [lim_length]
  have hw : IntKind.i64.wrap ((a.length : Int) + (b.length : Int)) = ((a.length + b.length : Nat) : Int) := by rw [w64 (by omega) (by omega)]; simp
  rw [hw]
  refine ⟨⟨by omega, by omega, by omega⟩, fun out t => ∃ (o : List Nat) (i : Nat), out = lim o ∧ t = (i : Int) ∧ o.length = a.length + b.length ∧ (∀ z ∈ o, z < 4294967296) ∧ i ≤ a.length ∧ (∀ j, i + b.length ≤ j → dg o j = 0) ∧ val o = low a i * val b,
    fun _ t => ((a.length : Int) - t).toNat, ⟨List.replicate (a.length + b.length) 0, 0, by rw [Int.toNat_natCast, lim_rep], rfl, by simp, fun z hz => by rw [List.eq_of_mem_replicate hz]; decide, by omega, fun j _ => dg_rep0 _ j, by simp [low_zero, val_rep0]⟩, ?_⟩
  rintro _ _ ⟨o, i, rfl, rfl, hol, hod, hia, hzero, hinv⟩
  refine ⟨fun hc => ?_, fun hc => ?_⟩
  · have hi : i < a.length := by simpa using hc
    have hxl := dg_lt ha i
    refine ⟨(dg a i : Nat), ⟨by omega, by omega⟩, by simpa using lim_getI (l := a) (i := (i : Int)) (by omega) (by omega),
      fun out t c => ∃ (o1 : List Nat) (k cc : Nat), out = lim o1 ∧ t = (k : Int) ∧ c = (cc : Int) ∧ o1.length = a.length + b.length ∧ (∀ z ∈ o1, z < 4294967296) ∧ k ≤ b.length ∧ cc < 4294967296 ∧ (∀ j, i + b.length ≤ j → dg o1 j = 0) ∧
        val o1 + 4294967296 ^ (i + k) * cc = low a i * val b + 4294967296 ^ i * dg a i * low b k,
      fun _ t _ => ((b.length : Int) - t).toNat, ⟨o, 0, 0, rfl, rfl, rfl, hol, hod, by omega, by omega, hzero, by simp [low_zero, hinv]⟩, ?_⟩
    rintro _ _ _ ⟨o1, k, cc, rfl, rfl, rfl, hol1, hod1, hkb, hcc, hz1, hinv1⟩
    have hik : IntKind.i64.wrap ((i : Int) + (k : Int)) = ((i + k : Nat) : Int) := by rw [w64 (by omega) (by omega)]; simp
    refine ⟨fun hd => ?_, fun hd => ?_⟩
    · have hk : k < b.length := by simpa using hd
      have hyl := dg_lt hb k
      have hdl := dg_lt hod1 (i + k)
      obtain ⟨g1, g2, g3⟩ := dig_bound hxl hyl hdl hcc
      refine ⟨(dg b k : Nat), ⟨by omega, by omega⟩, by simpa using lim_getI (l := b) (i := (k : Int)) (by omega) (by omega), (dg o1 (i + k) : Nat), ?_, ?_, by decide, ?_⟩
      · rw [hik, lim_length]; omega
      · have := lim_getI (l := o1) (i := ((i + k : Nat) : Int)) (by omega) (by omega)
        rw [hik]; rw [Int.toNat_natCast] at *; exact this
      · have e0 : ((dg a i : Nat) : Int) * ((dg b k : Nat) : Int) = ((dg a i * dg b k : Nat) : Int) := by simp
        have e : IntKind.u64.wrap ((cc : Int) + IntKind.u64.wrap (IntKind.u64.wrap (IntKind.u64.wrap ((dg a i : Nat) : Int) * IntKind.u64.wrap ((dg b k : Nat) : Int)) + IntKind.u64.wrap ((dg o1 (i + k) : Nat) : Int))) = ((cc + dg a i * dg b k + dg o1 (i + k) : Nat) : Int) := by
          rw [wu64 (n := ((dg a i : Nat) : Int)) (by omega) (by omega), wu64 (n := ((dg b k : Nat) : Int)) (by omega) (by omega), wu64 (n := ((dg o1 (i + k) : Nat) : Int)) (by omega) (by omega), e0]
          generalize dg a i * dg b k = q at *
          rw [wu64 (n := (q : Int)) (by omega) (by omega), wu64 (n := (q : Int) + _) (by omega) (by omega), wu64 (by omega) (by omega)]; omega
        have hk1 : IntKind.i64.wrap ((k : Int) + 1) = ((k + 1 : Nat) : Int) := by rw [w64 (by omega) (by omega)]; simp
        rw [e, hik, sh32, wu32, hk1]
        refine ⟨⟨o1.set (i + k) ((cc + dg a i * dg b k + dg o1 (i + k)) % 4294967296), k + 1, (cc + dg a i * dg b k + dg o1 (i + k)) / 4294967296, ?_, rfl, by omega, by simp [hol1], set_lt hod1 (Nat.mod_lt _ (by decide)), by omega, g2, fun j hj => ?_, ?_⟩, by show ((b.length : Int) - ((k + 1 : Nat) : Int)).toNat < ((b.length : Int) - (k : Int)).toNat; omega⟩
        · rw [Int.toNat_natCast, ← lim_set]; congr 2
        · rw [dg_set_ne (by omega)]; exact hz1 j hj
        · have hset := val_set (o := o1) (j := i + k) ((cc + dg a i * dg b k + dg o1 (i + k)) % 4294967296) (by omega)
          rw [show i + (k + 1) = i + k + 1 by omega, Nat.pow_succ (m := i + k), low_succ b]
          have hp : 4294967296 ^ (i + k) * (dg a i * dg b k) = 4294967296 ^ i * dg a i * (4294967296 ^ k * dg b k) := by
            rw [Nat.pow_add]; simp only [Nat.mul_assoc, Nat.mul_left_comm]
          exact mul_step hset rfl hinv1 hp
    · have hk : k = b.length := by have : b.length ≤ k := by simpa using hd
                                   omega
      subst hk
      have hi1 : IntKind.i64.wrap ((i : Int) + 1) = ((i + 1 : Nat) : Int) := by rw [w64 (by omega) (by omega)]; simp
      rw [hik, hi1]
      have hcc' : IntKind.u32.wrap (cc : Int) = (cc : Int) := by rw [wu32]; omega
      rw [hcc']
      refine ⟨by rw [lim_length]; omega, ⟨o1.set (i + b.length) cc, i + 1, by rw [Int.toNat_natCast, lim_set], rfl, by simp [hol1], set_lt hod1 hcc, by omega, fun j hj => by rw [dg_set_ne (by omega)]; exact hz1 j (by omega), ?_⟩, by show ((a.length : Int) - ((i + 1 : Nat) : Int)).toNat < ((a.length : Int) - (i : Int)).toNat; omega⟩
      have hset := val_set (o := o1) (j := i + b.length) cc (by omega)
      rw [hz1 (i + b.length) (Nat.le_refl _), Nat.mul_zero, Nat.add_zero] at hset
      rw [hset, hinv1, low_succ, low_all (Nat.le_refl _), Nat.add_mul]
  · have hi : i = a.length := by have : a.length ≤ i := by simpa using hc
                                 omega
    subst hi
    rw [low_all (Nat.le_refl _)] at hinv
    refine ⟨decide (x * y < 0), lim (dz (x * y)), norm_z hod (by omega) ?_, oute rfl⟩
    rw [hinv, va, vb', Int.natCast_mul]
    by_cases h1 : x < 0 <;> by_cases h2 : y < 0
    · rw [if_neg (by simp [h1, h2]), show ((x.natAbs : Nat) : Int) = -x by omega, show ((y.natAbs : Nat) : Int) = -y by omega, Int.neg_mul_neg]
    · rw [if_pos (by simp [h1, h2]), show ((x.natAbs : Nat) : Int) = -x by omega, show ((y.natAbs : Nat) : Int) = y by omega, Int.neg_mul, Int.neg_neg]
    · rw [if_pos (by simp [h1, h2]), show ((x.natAbs : Nat) : Int) = x by omega, show ((y.natAbs : Nat) : Int) = -y by omega, Int.mul_neg, Int.neg_neg]
    · rw [if_neg (by simp [h1, h2]), show ((x.natAbs : Nat) : Int) = x by omega, show ((y.natAbs : Nat) : Int) = y by omega]
end Go.AM
/- What the functions of package integer, and of its reference, answer: the reference's products, differences. -/
namespace Go.AM
open Go.Proofs.Tryz
theorem rmul_ok {x y : Int} (hx : Sz x) (hy : Sz y) : FnD prog 91 [eI x, eI y] (eI (x * y)) [] := by
  refine vc91_ok _ _ _ _ (R := Out _) ?_
  unfold vc91
  obtain ⟨a, hae⟩ : ∃ a, a = digs x.natAbs := ⟨_, rfl⟩
  obtain ⟨b, hbe⟩ : ∃ b, b = digs y.natAbs := ⟨_, rfl⟩
  have ha : ∀ z ∈ a, z < 4294967296 := hae ▸ digs_lt x.natAbs
  have hb : ∀ z ∈ b, z < 4294967296 := hbe ▸ digs_lt y.natAbs
  have va : val a = x.natAbs := hae ▸ val_digs _
  have vb' : val b = y.natAbs := hbe ▸ val_digs _
  have hla : a.length ≤ 1073741824 := hae ▸ hx
  have hlb : b.length ≤ 1073741824 := hbe ▸ hy
  rw [← hae, ← hbe]
  simp only [lim_length]
  have hw0 : IntKind.i64.wrap ((a.length : Int) + (b.length : Int)) = ((a.length + b.length : Nat) : Int) := by rw [w64 (by omega) (by omega)]; simp
  have hw : IntKind.i64.wrap (((a.length + b.length : Nat) : Int) + 1) = ((a.length + b.length + 1 : Nat) : Int) := by rw [w64 (by omega) (by omega)]; simp
  rw [hw0, hw]
  refine ⟨⟨by omega, by omega, by omega⟩, fun out t => ∃ (o : List Nat) (i : Nat), out = lim o ∧ t = (i : Int) ∧ o.length = a.length + b.length + 1 ∧ (∀ z ∈ o, z < 4294967296) ∧ i ≤ a.length ∧ (∀ j, i + b.length ≤ j → dg o j = 0) ∧ val o = low a i * val b,
    fun _ t => ((a.length : Int) - t).toNat, ⟨List.replicate (a.length + b.length + 1) 0, 0, by rw [Int.toNat_natCast, lim_rep], rfl, by simp, fun z hz => by rw [List.eq_of_mem_replicate hz]; decide, by omega, fun j _ => dg_rep0 _ j, by simp [low_zero, val_rep0]⟩, ?_⟩
  rintro _ _ ⟨o, i, rfl, rfl, hol, hod, hia, hzero, hinv⟩
  refine ⟨fun hc => ?_, fun hc => ?_⟩
  · have hi : i < a.length := by simpa using hc
    have hxl := dg_lt ha i
    refine ⟨fun out c t => ∃ (o1 : List Nat) (k cc : Nat), out = lim o1 ∧ t = (k : Int) ∧ c = (cc : Int) ∧ o1.length = a.length + b.length + 1 ∧ (∀ z ∈ o1, z < 4294967296) ∧ k ≤ b.length + 1 ∧ cc < 4294967296 ∧ (k = b.length + 1 → cc = 0) ∧ (∀ j, i + b.length + 1 ≤ j → dg o1 j = 0) ∧ (k ≤ b.length → dg o1 (i + b.length) = 0) ∧
        val o1 + 4294967296 ^ (i + k) * cc = low a i * val b + 4294967296 ^ i * dg a i * low b k,
      fun _ _ t => ((b.length : Int) + 2 - t).toNat, ⟨o, 0, 0, rfl, rfl, rfl, hol, hod, by omega, by omega, fun h => by omega, fun j hj => hzero j (by omega), fun _ => hzero _ (by omega), by simp [low_zero, hinv]⟩, ?_⟩
    rintro _ _ _ ⟨o1, k, cc, rfl, rfl, rfl, hol1, hod1, hkb, hcc, hlast, hz1, hz2, hinv1⟩
    have hik : IntKind.i64.wrap ((i : Int) + (k : Int)) = ((i + k : Nat) : Int) := by rw [w64 (by omega) (by omega)]; simp
    have hk1 : IntKind.i64.wrap ((k : Int) + 1) = ((k + 1 : Nat) : Int) := by rw [w64 (by omega) (by omega)]; simp
    have hi1 : IntKind.i64.wrap ((i : Int) + 1) = ((i + 1 : Nat) : Int) := by rw [w64 (by omega) (by omega)]; simp
    rw [hik, hk1, hi1]
    have step : k ≤ b.length → ∀ s : Nat, s = cc + dg a i * dg b k + dg o1 (i + k) → s / 4294967296 < 4294967296 → (k = b.length → s / 4294967296 = 0) →
        (∃ (o2 : List Nat) (k2 c2 : Nat), (lim o1).set ((i + k : Nat) : Int).toNat [D.int .u32 ((s % 4294967296 : Nat) : Int)] = lim o2 ∧ ((k + 1 : Nat) : Int) = (k2 : Int) ∧ ((s / 4294967296 : Nat) : Int) = (c2 : Int) ∧ o2.length = a.length + b.length + 1 ∧ (∀ z ∈ o2, z < 4294967296) ∧ k2 ≤ b.length + 1 ∧ c2 < 4294967296 ∧ (k2 = b.length + 1 → c2 = 0) ∧
          (∀ j, i + b.length + 1 ≤ j → dg o2 j = 0) ∧ (k2 ≤ b.length → dg o2 (i + b.length) = 0) ∧ val o2 + 4294967296 ^ (i + k2) * c2 = low a i * val b + 4294967296 ^ i * dg a i * low b k2) ∧
        ((b.length : Int) + 2 - ((k + 1 : Nat) : Int)).toNat < ((b.length : Int) + 2 - (k : Int)).toNat := fun hkl s hs hsb hsl => by
      refine ⟨⟨o1.set (i + k) (s % 4294967296), k + 1, s / 4294967296, by rw [Int.toNat_natCast, lim_set], rfl, rfl, by simp [hol1], set_lt hod1 (Nat.mod_lt _ (by decide)), by omega, hsb, fun h => hsl (by omega), fun j hj => by rw [dg_set_ne (by omega)]; exact hz1 j hj, fun h => by rw [dg_set_ne (by omega)]; exact hz2 hkl, ?_⟩, by omega⟩
      have hset := val_set (o := o1) (j := i + k) (s % 4294967296) (by omega)
      rw [show i + (k + 1) = i + k + 1 by omega, Nat.pow_succ (m := i + k), low_succ b]
      have hp : 4294967296 ^ (i + k) * (dg a i * dg b k) = 4294967296 ^ i * dg a i * (4294967296 ^ k * dg b k) := by
        rw [Nat.pow_add]; simp only [Nat.mul_assoc, Nat.mul_left_comm]
      exact mul_step hset hs hinv1 hp
    refine ⟨fun hd => ?_, fun hd => ⟨fun he => ?_, fun he => ?_⟩⟩
    · have hk : k < b.length := by simpa using hd
      have hyl := dg_lt hb k
      have hdl := dg_lt hod1 (i + k)
      obtain ⟨g1, g2, g3⟩ := dig_bound hxl hyl hdl hcc
      refine ⟨(dg o1 (i + k) : Nat), ?_, ?_, (dg a i : Nat), (dg b k : Nat), ⟨by omega, by omega⟩, by simpa using lim_getI (l := a) (i := (i : Int)) (by omega) (by omega), ⟨by omega, by omega⟩, by simpa using lim_getI (l := b) (i := (k : Int)) (by omega) (by omega), by decide, ?_⟩
      · rw [lim_length]; omega
      · have := lim_getI (l := o1) (i := ((i + k : Nat) : Int)) (by omega) (by omega)
        rw [Int.toNat_natCast] at *; exact this
      · have e0 : ((dg a i : Nat) : Int) * ((dg b k : Nat) : Int) = ((dg a i * dg b k : Nat) : Int) := by simp
        obtain ⟨s, hs⟩ : ∃ s, s = cc + dg a i * dg b k + dg o1 (i + k) := ⟨_, rfl⟩
        rw [← hs] at g2 g3
        have e : IntKind.u64.wrap (IntKind.u64.wrap ((cc : Int) + IntKind.u64.wrap ((dg o1 (i + k) : Nat) : Int)) + IntKind.u64.wrap (IntKind.u64.wrap ((dg a i : Nat) : Int) * IntKind.u64.wrap ((dg b k : Nat) : Int))) = (s : Int) := by
          rw [wu64 (n := ((dg a i : Nat) : Int)) (by omega) (by omega), wu64 (n := ((dg b k : Nat) : Int)) (by omega) (by omega), wu64 (n := ((dg o1 (i + k) : Nat) : Int)) (by omega) (by omega), e0]
          generalize dg a i * dg b k = q at *
          rw [wu64 (n := (cc : Int) + _) (by omega) (by omega), wu64 (n := (q : Int)) (by omega) (by omega), wu64 (by omega) (by omega)]; omega
        have e2 : IntKind.u64.wrap ((s : Int).tdiv 4294967296) = ((s / 4294967296 : Nat) : Int) := by rw [td32 (by omega), wu64 (by omega) (by omega)]; omega
        have e3 : IntKind.u32.wrap (s : Int) = ((s % 4294967296 : Nat) : Int) := by rw [wu32]; omega
        rw [e, e2, e3]
        exact step (by omega) s hs g2 (fun h => by omega)
    · have hk : b.length ≤ k := by simpa using hd
      have hc0 : 0 < cc := by simpa using he
      have hkeq : k = b.length := by
        rcases Nat.lt_or_ge b.length k with h | h
        · have := hlast (by omega); omega
        · omega
      have hd0 : dg o1 (i + k) = 0 := by rw [hkeq]; exact hz2 (by omega)
      refine ⟨0, ?_, ?_, by decide, ?_⟩
      · rw [lim_length]; omega
      · have := lim_getI (l := o1) (i := ((i + k : Nat) : Int)) (by omega) (by omega)
        rw [Int.toNat_natCast] at *; rw [hd0] at this; exact this
      · have e : IntKind.u64.wrap ((cc : Int) + IntKind.u64.wrap 0) = (cc : Int) := by
          rw [wu64 (n := 0) (by omega) (by omega), wu64 (by omega) (by omega)]; omega
        have e2 : IntKind.u64.wrap ((cc : Int).tdiv 4294967296) = ((cc / 4294967296 : Nat) : Int) := by rw [td32 (by omega), wu64 (by omega) (by omega)]; omega
        have e3 : IntKind.u32.wrap (cc : Int) = ((cc % 4294967296 : Nat) : Int) := by rw [wu32]; omega
        rw [e, e2, e3]
        exact step (by omega) cc (by rw [hd0, dg_out hk]; simp) (by omega) (fun _ => by omega)
    · have hk : b.length ≤ k := by simpa using hd
      have hc0 : cc = 0 := by have : ¬ (cc : Int) > 0 := by simpa using he
                              omega
      subst hc0
      refine ⟨⟨o1, i + 1, rfl, rfl, hol1, hod1, by omega, fun j hj => hz1 j (by omega), ?_⟩, by show ((a.length : Int) - ((i + 1 : Nat) : Int)).toNat < ((a.length : Int) - (i : Int)).toNat; omega⟩
      rw [Nat.mul_zero, Nat.add_zero, low_all hk] at hinv1
      rw [hinv1, low_succ, Nat.add_mul]
  · have hi : i = a.length := by have : a.length ≤ i := by simpa using hc
                                 omega
    subst hi
    rw [low_all (Nat.le_refl _)] at hinv
    refine ⟨decide (x * y < 0), lim (dz (x * y)), made_z hod (by omega) ?_, oute rfl⟩
    rw [hinv, va, vb', Int.natCast_mul]
    by_cases h1 : x < 0 <;> by_cases h2 : y < 0
    · rw [if_neg (by simp [h1, h2]), show ((x.natAbs : Nat) : Int) = -x by omega, show ((y.natAbs : Nat) : Int) = -y by omega, Int.neg_mul_neg]
    · rw [if_pos (by simp [h1, h2]), show ((x.natAbs : Nat) : Int) = -x by omega, show ((y.natAbs : Nat) : Int) = y by omega, Int.neg_mul, Int.neg_neg]
    · rw [if_pos (by simp [h1, h2]), show ((x.natAbs : Nat) : Int) = x by omega, show ((y.natAbs : Nat) : Int) = -y by omega, Int.mul_neg, Int.neg_neg]
    · rw [if_neg (by simp [h1, h2]), show ((x.natAbs : Nat) : Int) = x by omega, show ((y.natAbs : Nat) : Int) = y by omega]
theorem rvalid_ok (z : Int) (hz : Sz z) : FnD prog 101 [eI z] (vb true) [] := by
  refine vc101_ok _ _ (R := Out _) ?_
  unfold vc101
  simp only [lim_length]
  unfold Sz at hz
  refine ⟨fun h => outb ?_, fun h => ?_⟩
  · have h0 : (dz z).length = 0 := by have : ((dz z).length : Int) = 0 := by simpa using h
                                      omega
    have : z = 0 := by have := digs_nil.1 (List.length_eq_zero_iff.1 h0); omega
    subst this; rfl
  · have h0 : 0 < (dz z).length := by
      have : ¬ ((dz z).length : Int) = 0 := by simpa using h
      omega
    have hw : IntKind.i64.wrap (((dz z).length : Int) - 1) = (((dz z).length - 1 : Nat) : Int) := by
      simp only [dz] at *
      rw [w64 (by omega) (by omega)]; omega
    rw [hw]
    refine ⟨(dg (dz z) ((dz z).length - 1) : Nat), ⟨by omega, by simp only [dz] at h0 ⊢; omega⟩, ?_, outb ?_⟩
    · have := lim_getI (l := dz z) (i := (((dz z).length - 1 : Nat) : Int)) (by omega) (by simp only [dz] at h0 ⊢; omega)
      rw [Int.toNat_natCast] at *; exact this
    · have hc := digs_canon z.natAbs (dg (dz z) ((dz z).length - 1)) (by
        rw [List.getLast?_eq_getElem?, List.getElem?_eq_getElem (by simp only [dz] at h0; omega), dg_get (by simp only [dz] at h0; omega)])
      simp; exact hc
end Go.AM
/- What functions of the program come to: group Mat. Printed by vc.py. -/
set_option maxRecDepth 100000
set_option linter.unusedVariables false
namespace Go.AM
open Go.Proofs.Tryz
def vc106 (a0 a1 : Int) (a2 : DL) (R : V → Heap → Prop) : Prop :=
 R (vA [sD (dI a0), sD (dI a1)]) []
theorem vc106_ok (a0 a1 : Int) (a2 : DL) {R : V → Heap → Prop} (h : vc106 a0 a1 a2 R) : FnG prog 106 [vA [sD (dI a0), sD (dI a1), sD (dL a2)]] [] R :=
  FnG.vcg hT func106 ntmps106 (.reg 2 [(0, Or.none, 0, 1), (1, Or.none, 1, 1)] [1, 2] [0, 1] [] <| .r1 [2] [1] <| .ret [])
    (by kernel_rfl) (by kernel_rfl) (by kernel_rfl) h
def vc61 (rows cols : Int) (f : FuncId) (fc : List D) (R : V → Heap → Prop) : Prop :=
 (0 ≤ rows ∧ rows ≤ rows ∧ rows * (24 : Nat) ≤ 281474976710656) ∧
 (∃ (J0 : (DLL) → Int → Prop) (μ0 : (DLL) → Int → Nat),
 J0 (List.replicate (rows).toNat ([] : DL)) (0 : Int) ∧ ∀ (o2 : DLL) (t16 : Int), J0 o2 t16 →
 (decide (t16 < rows) = true →
 (0 ≤ cols ∧ cols ≤ cols ∧ cols * (32 : Nat) ≤ 281474976710656) ∧
 (0 ≤ t16 ∧ t16 < (o2.length : Int)) ∧
 (∃ (J1 : (DLL) → Int → Prop) (μ1 : (DLL) → Int → Nat),
 J1 (o2.set (t16).toNat (List.replicate (cols).toNat [dB false, dL ([] : DL)])) (0 : Int) ∧ ∀ (o21 : DLL) (t26 : Int), J1 o21 t26 →
 (decide (t26 < cols) = true →
 ∃ (r0 : Bool) (r1 : DL),
 (0 ≤ t16 ∧ t16 < (o21.length : Int)) ∧
 (FnD prog f ([vD (dI t16), vD (dI t26)] ++ fc.map dV) (vA [sD (dB r0), sD (dL r1)]) []) ∧
 (∃ l, o21[(t16).toNat]? = some l ∧ 0 ≤ t26 ∧ t26 < (l.length : Int)) ∧
 (J1 (o21.modify (t16).toNat (fun qz => qz.set (t26).toNat [dB r0, dL r1])) (IntKind.i64.wrap (t26 + (1 : Int))) ∧ μ1 (o21.modify (t16).toNat (fun qz => qz.set (t26).toNat [dB r0, dL r1])) (IntKind.i64.wrap (t26 + (1 : Int))) < μ1 o21 t26)) ∧
 (decide (t26 < cols) = false →
 J0 o21 (IntKind.i64.wrap (t16 + (1 : Int))) ∧ μ0 o21 (IntKind.i64.wrap (t16 + (1 : Int))) < μ0 o2 t16))) ∧
 (decide (t16 < rows) = false →
 R (vA [sD (dI rows), sD (dI cols), sD (dL (matD o2))]) []))
theorem vc61_ok (rows cols : Int) (f : FuncId) (fc : List D) {R : V → Heap → Prop} (h : vc61 rows cols f fc R) : FnG prog 61 [vD (dI rows), vD (dI cols), vD (D.fn (.func f) fc)] [] R :=
  FnG.vcg hT func61 ntmps61 (.reg 1 [(0, Or.none, 0, 1)] [0, 1, 2, 6] [0] [] <| .reg 2 [(3, Or.none, 1, 1), (5, Or.none, 2, 1)] [0, 1, 2, 6, 7] [0, 2, 1] [] <| .r1 [1, 2, 6, 7, 15, 16] [0, 1, 2] <| .lp [.m, .i] (fun o2 t16 => ⟨[(1, vD (dI cols)), (2, vD (D.fn (.func f) fc)), (6, vP 0 0), (7, vP 1 0), (15, vD (dI rows)), (16, vD (dI t16))], [some (Obj.box [sD (dI (0 : Int)), sD (dI (0 : Int)), sD (D.raw (.slice none 0 0))]), some (Obj.box [sD (dI rows), sD (dI cols), S.ref 2]), some (Obj.mat 2 o2)], 43⟩) [.m (List.replicate (rows).toNat ([] : DL)), .i (0 : Int)] <| .fm fun o2 => .fi fun t16 => .beg <| .r1 [1, 2, 6, 7, 15, 16, 17] [0, 1, 2] <| .c2 (.r1 [1, 2, 6, 7, 8, 15, 16] [0, 1, 2] <| .drw 2 [(4, (Or.none, 3, 1), [3]), (6, (Or.none, 4, 1), [2, 3, 4])] [1, 2, 6, 7, 8, 15, 16] [0, 1, 2, 4] [] <| .fwd [] [1] <| .viw [1, 2, 6, 7, 8, 15, 16] [0, 1, 3] <| .r1 [1, 2, 6, 7, 8, 15, 16, 25, 26] [0, 1, 2] <| .lp [.m, .i] (fun o21 t26 => ⟨[(1, vD (dI cols)), (2, vD (D.fn (.func f) fc)), (6, vP 0 0), (7, vP 1 0), (8, vD (dI t16)), (15, vD (dI rows)), (16, vD (dI t16)), (25, vD (dI cols)), (26, vD (dI t26))], [some (Obj.box [sD (dI (0 : Int)), sD (dI (0 : Int)), sD (D.raw (.slice none 0 0))]), some (Obj.box [sD (dI rows), sD (dI cols), S.ref 2]), some (Obj.mat 2 o21)], 43⟩) [.m (o2.set (t16).toNat (List.replicate (cols).toNat [dB false, dL ([] : DL)])), .i (0 : Int)] <| .fm fun o21 => .fi fun t26 => .beg <| .r1 [1, 2, 6, 7, 8, 15, 16, 25, 26, 27] [0, 1, 2] <| .c2 (.r1 [1, 2, 6, 7, 8, 9, 15, 16, 25, 26] [0, 1, 2] <| .exb fun r0 => .exl fun r1 => .drw 0 [(9, (Or.call (vA [sD (dB r0), sD (dL r1)]) [] [], 0, 0), []), (11, (Or.none, 0, 0), [2])] [1, 2, 6, 7, 8, 15, 16, 25, 26] [0, 1, 2] [] <| .r1 [1, 2, 6, 7, 8, 15, 16, 25, 26] [0, 1, 2] <| .bk 0 [.m (o21.modify (t16).toNat (fun qz => qz.set (t26).toNat [dB r0, dL r1])), .i (IntKind.i64.wrap (t26 + (1 : Int)))]) (.r1 [1, 2, 6, 7, 15, 16] [0, 1, 2] <| .bk 1 [.m o21, .i (IntKind.i64.wrap (t16 + (1 : Int)))])) (.r1 [6] [0, 2] <| .frz [1] <| .ret []))
    (by kernel_rfl) (by kernel_rfl) (by kernel_rfl) h
def vc122 (a b : DL) (out0 : Bool) (out1 : DL) (f : FuncId) (fc : List D) (R : V → Heap → Prop) : Prop :=
 ∃ (J0 : Bool → (DL) → Int → Prop) (μ0 : Bool → (DL) → Int → Nat),
 J0 out0 out1 (0 : Int) ∧ ∀ (out01 : Bool) (out11 : DL) (t12 : Int), J0 out01 out11 t12 →
 (decide (t12 < (a.length : Int)) = true →
 ∃ (x0 : Bool) (x1 : DL) (x01 : Bool) (x11 : DL) (r0 : Bool) (r1 : DL),
 (0 ≤ t12 ∧ t12 < (a.length : Int)) ∧
 (a[(t12).toNat]? = some [dB x0, dL x1]) ∧
 (0 ≤ t12 ∧ t12 < (b.length : Int)) ∧
 (b[(t12).toNat]? = some [dB x01, dL x11]) ∧
 (FnD prog f ([vA [sD (dB out01), sD (dL out11)], vA [sD (dB x0), sD (dL x1)], vA [sD (dB x01), sD (dL x11)]] ++ fc.map dV) (vA [sD (dB r0), sD (dL r1)]) []) ∧
 (J0 r0 r1 (IntKind.i64.wrap (t12 + (1 : Int))) ∧ μ0 r0 r1 (IntKind.i64.wrap (t12 + (1 : Int))) < μ0 out01 out11 t12)) ∧
 (decide (t12 < (a.length : Int)) = false →
 R (vA [sD (dB out01), sD (dL out11)]) [])
theorem vc122_ok (a b : DL) (out0 : Bool) (out1 : DL) (f : FuncId) (fc : List D) {R : V → Heap → Prop} (h : vc122 a b out0 out1 f fc R) : FnG prog 122 [vD (dL a), vD (dL b), vA [sD (dB out0), sD (dL out1)], vD (D.fn (.func f) fc)] [] R :=
  FnG.vcg hT func122 ntmps122 (.reg 2 [(0, Or.none, 0, 1), (1, Or.none, 1, 1)] [0, 1, 3, 6, 8] [0, 1] [] <| .r1 [0, 1, 3, 6, 8, 11, 12] [0, 1] <| .lp [.b, .l, .i] (fun out01 out11 t12 => ⟨[(0, vD (dL a)), (1, vD (dL b)), (3, vD (D.fn (.func f) fc)), (6, vP 0 0), (8, vP 1 0), (11, vD (dI (a.length : Int))), (12, vD (dI t12))], [some (Obj.box [sD (dB out01), sD (dL out11)]), some (Obj.box [sD (dB false), sD (D.raw (.slice none 0 0))])], 28⟩) [.b out0, .l out1, .i (0 : Int)] <| .fb fun out01 => .fl fun out11 => .fi fun t12 => .beg <| .r1 [0, 1, 3, 6, 8, 11, 12, 13] [0, 1] <| .c2 (.r1 [0, 1, 3, 6, 8, 9, 11, 12] [0, 1] <| .exb fun x0 => .exl fun x1 => .exb fun x01 => .exl fun x11 => .exb fun r0 => .exl fun r1 => .drw 0 [(5, (Or.cells [dB x0, dL x1], 0, 0), []), (9, (Or.cells [dB x01, dL x11], 0, 0), []), (10, (Or.call (vA [sD (dB r0), sD (dL r1)]) [] [], 0, 0), []), (11, (Or.none, 0, 0), [0])] [0, 1, 3, 6, 8, 11, 12] [0, 1] [] <| .r1 [0, 1, 3, 6, 8, 11, 12] [0, 1] <| .bk 0 [.b r0, .l r1, .i (IntKind.i64.wrap (t12 + (1 : Int)))]) (.r1 [8] [1] <| .ret []))
    (by kernel_rfl) (by kernel_rfl) (by kernel_rfl) h
def vc123 (sum0 : Bool) (sum1 : DL) (x0 : Bool) (x1 : DL) (y0 : Bool) (y1 : DL) (R : V → Heap → Prop) : Prop :=
 ∃ (r : Int),
 (FnD prog 83 [vA [sD (dB x0), sD (dL x1)]] (vD (dI r)) []) ∧
 (((r == (0 : Int)) = true →
 R (vA [sD (dB sum0), sD (dL sum1)]) []) ∧
 ((r == (0 : Int)) = false →
 ∃ (r1 : Int),
 (FnD prog 83 [vA [sD (dB y0), sD (dL y1)]] (vD (dI r1)) []) ∧
 (((r1 == (0 : Int)) = true →
 R (vA [sD (dB sum0), sD (dL sum1)]) []) ∧
 ((r1 == (0 : Int)) = false →
 ∃ (r0 : Bool) (r11 : DL) (r01 : Bool) (r12 : DL),
 (FnD prog 98 [vA [sD (dB x0), sD (dL x1)], vA [sD (dB y0), sD (dL y1)]] (vA [sD (dB r0), sD (dL r11)]) []) ∧
 (FnD prog 99 [vA [sD (dB sum0), sD (dL sum1)], vA [sD (dB r0), sD (dL r11)]] (vA [sD (dB r01), sD (dL r12)]) []) ∧
 (R (vA [sD (dB r01), sD (dL r12)]) [])))))
theorem vc123_ok (sum0 : Bool) (sum1 : DL) (x0 : Bool) (x1 : DL) (y0 : Bool) (y1 : DL) {R : V → Heap → Prop} (h : vc123 sum0 sum1 x0 x1 y0 y1 R) : FnG prog 123 [vA [sD (dB sum0), sD (dL sum1)], vA [sD (dB x0), sD (dL x1)], vA [sD (dB y0), sD (dL y1)]] [] R :=
  FnG.vcg hT func123 ntmps123 (.reg 4 [(0, Or.none, 0, 1), (1, Or.none, 1, 1), (2, Or.none, 2, 1), (3, Or.none, 3, 1)] [3, 4, 5, 6] [0, 1, 2, 3] [] <| .ex fun r => .ob (FnD prog 83 [vA [sD (dB x0), sD (dL x1)]] (vD (dI r)) []) <| .spl ((r == (0 : Int))) (.reg 0 [(1, Or.call (vD (dI r)) [] [], 0, 0), (3, Or.bool true, 0, 0)] [3, 4, 5, 6, 14] [0, 1, 2, 3] [.old 1, .old 0] <| .ct true none <| .r1 [6] [3] <| .ret []) (.ex fun r1 => .reg 0 [(1, Or.call (vD (dI r)) [] [], 0, 0), (3, Or.bool false, 0, 0), (5, Or.call (vD (dI r1)) [] [], 0, 0)] [3, 4, 5, 6, 14] [0, 1, 2, 3] [.old 1, .old 0] <| .c2 (.r1 [6] [3] <| .ret []) (.exb fun r0 => .exl fun r11 => .exb fun r01 => .exl fun r12 => .drw 0 [(3, (Or.call (vA [sD (dB r0), sD (dL r11)]) [] [], 0, 0), []), (4, (Or.call (vA [sD (dB r01), sD (dL r12)]) [] [], 0, 0), []), (5, (Or.none, 0, 0), [3])] [6] [3] [] <| .ret [])))
    (by kernel_rfl) (by kernel_rfl) (by kernel_rfl) h
def vc105 (a b : DL) (R : V → Heap → Prop) : Prop :=
 ∃ (r0 : Bool) (r1 : DL),
 (FnD prog 122 [vD (dL a), vD (dL b), vA [sD (dB false), sD (dL ([] : DL))], vD (D.fn (.func 123) ([] : List D))] (vA [sD (dB r0), sD (dL r1)]) []) ∧
 (R (vA [sD (dB r0), sD (dL r1)]) [])
theorem vc105_ok (a b : DL) {R : V → Heap → Prop} (h : vc105 a b R) : FnG prog 105 [vD (dL a), vD (dL b)] [] R :=
  FnG.vcg hT func105 ntmps105 (.reg 1 [(0, Or.none, 0, 1)] [0, 1, 4] [0] [] <| .exb fun r0 => .exl fun r1 => .reg 0 [(3, Or.call (vA [sD (dB r0), sD (dL r1)]) [] [], 0, 0)] [4] [0] [] <| .ret [])
    (by kernel_rfl) (by kernel_rfl) (by kernel_rfl) h
def vc104 (i j : Int) (c00 c01 : Int) (c02 : DL) (c10 c11 : Int) (c12 : DL) (R : V → Heap → Prop) : Prop :=
 ∃ (vx vx1 : DL) (r0 : Bool) (r1 : DL),
 (0 ≤ i ∧ i < (c02.length : Int)) ∧
 (c02[(i).toNat]? = some [dL vx]) ∧
 (0 ≤ j ∧ j < (c12.length : Int)) ∧
 (c12[(j).toNat]? = some [dL vx1]) ∧
 (FnD prog 105 [vD (dL vx), vD (dL vx1)] (vA [sD (dB r0), sD (dL r1)]) []) ∧
 (R (vA [sD (dB r0), sD (dL r1)]) [])
theorem vc104_ok (i j : Int) (c00 c01 : Int) (c02 : DL) (c10 c11 : Int) (c12 : DL) {R : V → Heap → Prop} (h : vc104 i j c00 c01 c02 c10 c11 c12 R) : FnG prog 104 [vD (dI i), vD (dI j), vD (D.box [dI c00, dI c01, dL c02]), vD (D.box [dI c10, dI c11, dL c12])] [] R :=
  FnG.vcg hT func104 ntmps104 (.reg 1 [(0, Or.none, 0, 1)] [0, 1, 2, 3, 6] [0] [] <| .exl fun vx => .exl fun vx1 => .exb fun r0 => .exl fun r1 => .drw 0 [(4, (Or.cells [dL vx], 0, 0), []), (9, (Or.cells [dL vx1], 0, 0), []), (10, (Or.call (vA [sD (dB r0), sD (dL r1)]) [] [], 0, 0), []), (11, (Or.none, 0, 0), [0])] [6] [0] [] <| .ret [])
    (by kernel_rfl) (by kernel_rfl) (by kernel_rfl) h
def vc79 (a0 a1 : Int) (a2 : DL) (b0 b1 : Int) (b2 : DL) (R : V → Heap → Prop) : Prop :=
 ((a1 != b0) = true →
 R (V.tup [E.agg [sD (dI (0 : Int)), sD (dI (0 : Int)), sD (dL ([] : DL))], eD (dI (50 : Int))]) []) ∧
 ((a1 != b0) = false →
 ∃ (r0 r1 : Int) (r2 : DL),
 (FnD prog 103 [vA [sD (dI b0), sD (dI b1), sD (dL b2)]] (vA [sD (dI r0), sD (dI r1), sD (dL r2)]) []) ∧
 (∃ (r01 r11 : Int) (r21 : DL),
 (FnD prog 61 [vD (dI a0), vD (dI b1), vD (D.fn (.func 104) [D.box [dI a0, dI a1, dL a2], D.box [dI r0, dI r1, dL r2]])] (vA [sD (dI r01), sD (dI r11), sD (dL r21)]) []) ∧
 (R (V.tup [E.agg [sD (dI r01), sD (dI r11), sD (dL r21)], eD (dI (0 : Int))]) [])))
theorem vc79_ok (a0 a1 : Int) (a2 : DL) (b0 b1 : Int) (b2 : DL) {R : V → Heap → Prop} (h : vc79 a0 a1 a2 b0 b1 b2 R) : FnG prog 79 [vA [sD (dI a0), sD (dI a1), sD (dL a2)], vA [sD (dI b0), sD (dI b1), sD (dL b2)]] [] R :=
  FnG.vcg hT func79 ntmps79 (.reg 3 [(0, Or.none, 0, 1), (1, Or.none, 1, 1), (2, Or.none, 2, 1)] [2, 3, 4] [0, 1, 2] [] <| .r1 [2, 3, 4, 11] [0, 1, 2] <| .c2 (.r1 [4, 5] [2] <| .nrm [4, 5] [0] <| .ret []) (.ex fun r0 => .ex fun r1 => .exl fun r2 => .reg 1 [(1, Or.call (vA [sD (dI r0), sD (dI r1), sD (dL r2)]) [] [], 0, 0), (2, Or.none, 3, 1)] [2, 3, 4, 6] [0, 1, 2, 3] [] <| .frz [0, 3] <| .ex fun r01 => .ex fun r11 => .exl fun r21 => .reg 0 [(5, Or.call (vA [sD (dI r01), sD (dI r11), sD (dL r21)]) [] [], 0, 0)] [4, 5] [2] [] <| .ret []))
    (by kernel_rfl) (by kernel_rfl) (by kernel_rfl) h
def vc121 (i j : Int) (c00 c01 : Int) (c02 : DL) (R : V → Heap → Prop) : Prop :=
 ∃ (vx : DL) (x0 : Bool) (x1 : DL),
 (0 ≤ j ∧ j < (c02.length : Int)) ∧
 (c02[(j).toNat]? = some [dL vx]) ∧
 (0 ≤ i ∧ i < (vx.length : Int)) ∧
 (vx[(i).toNat]? = some [dB x0, dL x1]) ∧
 (R (vA [sD (dB x0), sD (dL x1)]) [])
theorem vc121_ok (i j : Int) (c00 c01 : Int) (c02 : DL) {R : V → Heap → Prop} (h : vc121 i j c00 c01 c02 R) : FnG prog 121 [vD (dI i), vD (dI j), vD (D.box [dI c00, dI c01, dL c02])] [] R :=
  FnG.vcg hT func121 ntmps121 (.reg 1 [(0, Or.none, 0, 1)] [0, 1, 2, 5] [0] [] <| .exl fun vx => .exb fun x0 => .exl fun x1 => .reg 0 [(4, Or.cells [dL vx], 0, 0), (7, Or.cells [dB x0, dL x1], 0, 0)] [5] [0] [] <| .ret [])
    (by kernel_rfl) (by kernel_rfl) (by kernel_rfl) h
def vc103 (a0 a1 : Int) (a2 : DL) (R : V → Heap → Prop) : Prop :=
 ∃ (r0 r1 : Int) (r2 : DL),
 (FnD prog 61 [vD (dI a1), vD (dI a0), vD (D.fn (.func 121) [D.box [dI a0, dI a1, dL a2]])] (vA [sD (dI r0), sD (dI r1), sD (dL r2)]) []) ∧
 (R (vA [sD (dI r0), sD (dI r1), sD (dL r2)]) [])
theorem vc103_ok (a0 a1 : Int) (a2 : DL) {R : V → Heap → Prop} (h : vc103 a0 a1 a2 R) : FnG prog 103 [vA [sD (dI a0), sD (dI a1), sD (dL a2)]] [] R :=
  FnG.vcg hT func103 ntmps103 (.reg 2 [(0, Or.none, 0, 1), (1, Or.none, 1, 1)] [1, 2] [0, 1] [] <| .frz [0] <| .ex fun r0 => .ex fun r1 => .exl fun r2 => .reg 0 [(5, Or.call (vA [sD (dI r0), sD (dI r1), sD (dL r2)]) [] [], 0, 0)] [2] [1] [] <| .ret [])
    (by kernel_rfl) (by kernel_rfl) (by kernel_rfl) h
def vc62 (i j : Int) (R : V → Heap → Prop) : Prop :=
 ((i == j) = true →
 ∃ (r0 : Bool) (r1 : DL),
 (FnD prog 63 [vD (dI (1 : Int))] (vA [sD (dB r0), sD (dL r1)]) []) ∧
 (R (vA [sD (dB r0), sD (dL r1)]) [])) ∧
 ((i == j) = false →
 R (vA [sD (dB false), sD (dL ([] : DL))]) [])
theorem vc62_ok (i j : Int) {R : V → Heap → Prop} (h : vc62 i j R) : FnG prog 62 [vD (dI i), vD (dI j)] [] R :=
  FnG.vcg hT func62 ntmps62 (.reg 1 [(0, Or.none, 0, 1)] [0, 1, 4] [0] [] <| .r1 [4, 7] [0] <| .c2 (.exb fun r0 => .exl fun r1 => .reg 0 [(0, Or.call (vA [sD (dB r0), sD (dL r1)]) [] [], 0, 0)] [4] [0] [] <| .ret []) (.r1 [4] [0] <| .nrm [4] [0] <| .ret []))
    (by kernel_rfl) (by kernel_rfl) (by kernel_rfl) h
def vc28 (n : Int) (R : V → Heap → Prop) : Prop :=
 ∃ (r0 r1 : Int) (r2 : DL),
 (FnD prog 61 [vD (dI n), vD (dI n), vD (D.fn (.func 62) ([] : List D))] (vA [sD (dI r0), sD (dI r1), sD (dL r2)]) []) ∧
 (R (vA [sD (dI r0), sD (dI r1), sD (dL r2)]) [])
theorem vc28_ok (n : Int) {R : V → Heap → Prop} (h : vc28 n R) : FnG prog 28 [vD (dI n)] [] R :=
  FnG.vcg hT func28 ntmps28 (.reg 1 [(0, Or.none, 0, 1)] [0, 2] [0] [] <| .ex fun r0 => .ex fun r1 => .exl fun r2 => .reg 0 [(2, Or.call (vA [sD (dI r0), sD (dI r1), sD (dL r2)]) [] [], 0, 0)] [2] [0] [] <| .ret [])
    (by kernel_rfl) (by kernel_rfl) (by kernel_rfl) h
def vc76 (s : DL) (f : FuncId) (fc : List D) (R : V → Heap → Prop) : Prop :=
 ∃ (r : Int),
 (FnD prog 102 [vD (dL s), vD (D.fn (.func f) fc)] (vD (dI r)) []) ∧
 (R (vD (dB (decide (r ≥ (0 : Int))))) [])
theorem vc76_ok (s : DL) (f : FuncId) (fc : List D) {R : V → Heap → Prop} (h : vc76 s f fc R) : FnG prog 76 [vD (dL s), vD (D.fn (.func f) fc)] [] R :=
  FnG.vcg hT func76 ntmps76 (.r0 [0, 1] <| .ex fun r => .reg 0 [(2, Or.call (vD (dI r)) [] [], 0, 0)] [4] [] [] <| .ret [])
    (by kernel_rfl) (by kernel_rfl) (by kernel_rfl) h
def vc102 (s : DL) (f : FuncId) (fc : List D) (R : V → Heap → Prop) : Prop :=
 ∃ (J0 : Int → Prop) (μ0 : Int → Nat),
 J0 (0 : Int) ∧ ∀ (t8 : Int), J0 t8 →
 (decide (t8 < (s.length : Int)) = true →
 ∃ (x0 : Bool) (x1 : DL) (r : Bool),
 (0 ≤ t8 ∧ t8 < (s.length : Int)) ∧
 (s[(t8).toNat]? = some [dB x0, dL x1]) ∧
 (FnD prog f ([vA [sD (dB x0), sD (dL x1)]] ++ fc.map dV) (vD (dB r)) []) ∧
 ((r = true →
 R (vD (dI t8)) []) ∧
 (r = false →
 J0 (IntKind.i64.wrap (t8 + (1 : Int))) ∧ μ0 (IntKind.i64.wrap (t8 + (1 : Int))) < μ0 t8))) ∧
 (decide (t8 < (s.length : Int)) = false →
 R (vD (dI (-1 : Int))) [])
theorem vc102_ok (s : DL) (f : FuncId) (fc : List D) {R : V → Heap → Prop} (h : vc102 s f fc R) : FnG prog 102 [vD (dL s), vD (D.fn (.func f) fc)] [] R :=
  FnG.vcg hT func102 ntmps102 (.r0 [0, 1] <| .r0 [0, 1, 7, 8] <| .lp [.i] (fun t8 => ⟨[(0, vD (dL s)), (1, vD (D.fn (.func f) fc)), (7, vD (dI (s.length : Int))), (8, vD (dI t8))], [], 19⟩) [.i (0 : Int)] <| .fi fun t8 => .beg <| .r0 [0, 1, 7, 8, 9] <| .c2 (.r0 [0, 1, 5, 7, 8] <| .exb fun x0 => .exl fun x1 => .exb fun r => .reg 0 [(4, Or.cells [dB x0, dL x1], 0, 0), (5, Or.call (vD (dB r)) [] [], 0, 0)] [0, 1, 5, 7, 8, 16] [] [] <| .c2 (.r0 [4] <| .ret []) (.r0 [0, 1, 7, 8] <| .bk 0 [.i (IntKind.i64.wrap (t8 + (1 : Int)))])) (.r0 [4] <| .ret []))
    (by kernel_rfl) (by kernel_rfl) (by kernel_rfl) h
def vc77 (x0 : Bool) (x1 : DL) (R : V → Heap → Prop) : Prop :=
 ∃ (r : Bool),
 (FnD prog 78 [vA [sD (dB x0), sD (dL x1)]] (vD (dB r)) []) ∧
 (R (vD (dB (!r))) [])
theorem vc77_ok (x0 : Bool) (x1 : DL) {R : V → Heap → Prop} (h : vc77 x0 x1 R) : FnG prog 77 [vA [sD (dB x0), sD (dL x1)]] [] R :=
  FnG.vcg hT func77 ntmps77 (.reg 1 [(0, Or.none, 0, 1)] [1] [0] [] <| .exb fun r => .reg 0 [(1, Or.call (vD (dB r)) [] [], 0, 0)] [2] [] [] <| .ret [])
    (by kernel_rfl) (by kernel_rfl) (by kernel_rfl) h
def vc78 (a0 : Bool) (a1 : DL) (R : V → Heap → Prop) : Prop :=
 (((a1.length : Int) == (0 : Int)) = true →
 ((!a0) = true →
 R (vD (dB true)) []) ∧
 ((!a0) = false →
 (decide ((a1.length : Int) > (0 : Int)) = true →
 ∃ (vx : Int),
 (0 ≤ (IntKind.i64.wrap ((a1.length : Int) - (1 : Int))) ∧ (IntKind.i64.wrap ((a1.length : Int) - (1 : Int))) < (a1.length : Int)) ∧
 (a1[((IntKind.i64.wrap ((a1.length : Int) - (1 : Int)))).toNat]? = some [dU vx]) ∧
 (R (vD (dB (vx != (0 : Int)))) [])) ∧
 (decide ((a1.length : Int) > (0 : Int)) = false →
 R (vD (dB false)) []))) ∧
 (((a1.length : Int) == (0 : Int)) = false →
 (decide ((a1.length : Int) > (0 : Int)) = true →
 ∃ (vx1 : Int),
 (0 ≤ (IntKind.i64.wrap ((a1.length : Int) - (1 : Int))) ∧ (IntKind.i64.wrap ((a1.length : Int) - (1 : Int))) < (a1.length : Int)) ∧
 (a1[((IntKind.i64.wrap ((a1.length : Int) - (1 : Int)))).toNat]? = some [dU vx1]) ∧
 (R (vD (dB (vx1 != (0 : Int)))) [])) ∧
 (decide ((a1.length : Int) > (0 : Int)) = false →
 R (vD (dB false)) []))
theorem vc78_ok (a0 : Bool) (a1 : DL) {R : V → Heap → Prop} (h : vc78 a0 a1 R) : FnG prog 78 [vA [sD (dB a0), sD (dL a1)]] [] R :=
  FnG.vcg hT func78 ntmps78 (.reg 1 [(0, Or.none, 0, 1)] [1] [0] [] <| .r1 [1, 3] [0] <| .spl (((a1.length : Int) == (0 : Int))) (.spl ((!a0)) (.reg 0 [(2, Or.bool true, 0, 0), (7, Or.bool true, 0, 0)] [2] [] [.old 1, .old 0] <| .ret []) (.spl ((decide ((a1.length : Int) > (0 : Int)))) (.ex fun vx => .reg 0 [(2, Or.bool true, 0, 0), (7, Or.bool false, 0, 0), (10, Or.bool true, 0, 0), (16, Or.cells [dU vx], 0, 0)] [2] [] [.old 2, .old 1, .old 0] <| .ret []) (.reg 0 [(2, Or.bool true, 0, 0), (7, Or.bool false, 0, 0), (10, Or.bool false, 0, 0)] [2] [] [.old 2, .old 1, .old 0] <| .ret []))) (.spl ((decide ((a1.length : Int) > (0 : Int)))) (.ex fun vx1 => .reg 0 [(2, Or.bool false, 0, 0), (10, Or.bool true, 0, 0), (16, Or.cells [dU vx1], 0, 0)] [2] [] [.old 1, .old 0] <| .ret []) (.reg 0 [(2, Or.bool false, 0, 0), (10, Or.bool false, 0, 0)] [2] [] [.old 1, .old 0] <| .ret [])))
    (by kernel_rfl) (by kernel_rfl) (by kernel_rfl) h
def vc43 (a0 a1 : Int) (a2 : DL) (R : V → Heap → Prop) : Prop :=
 (decide (a0 < (0 : Int)) = true →
 R (vD (dB false)) []) ∧
 (decide (a0 < (0 : Int)) = false →
 (decide (a1 < (0 : Int)) = true →
 R (vD (dB false)) []) ∧
 (decide (a1 < (0 : Int)) = false →
 (((a2.length : Int) != a0) = true →
 R (vD (dB false)) []) ∧
 (((a2.length : Int) != a0) = false →
 ∃ (J0 : Int → Prop) (μ0 : Int → Nat),
 J0 (0 : Int) ∧ ∀ (t24 : Int), J0 t24 →
 (decide (t24 < (a2.length : Int)) = true →
 ∃ (vx : DL),
 (0 ≤ t24 ∧ t24 < (a2.length : Int)) ∧
 (a2[(t24).toNat]? = some [dL vx]) ∧
 ((((vx.length : Int) != a1) = true →
 R (vD (dB false)) []) ∧
 (((vx.length : Int) != a1) = false →
 ∃ (r : Bool),
 (FnD prog 76 [vD (dL vx), vD (D.fn (.func 77) ([] : List D))] (vD (dB r)) []) ∧
 ((r = true →
 R (vD (dB false)) []) ∧
 (r = false →
 J0 (IntKind.i64.wrap (t24 + (1 : Int))) ∧ μ0 (IntKind.i64.wrap (t24 + (1 : Int))) < μ0 t24))))) ∧
 (decide (t24 < (a2.length : Int)) = false →
 R (vD (dB true)) []))))
theorem vc43_ok (a0 a1 : Int) (a2 : DL) {R : V → Heap → Prop} (h : vc43 a0 a1 a2 R) : FnG prog 43 [vA [sD (dI a0), sD (dI a1), sD (dL a2)]] [] R :=
  FnG.vcg hT func43 ntmps43 (.reg 1 [(0, Or.none, 0, 1)] [1] [0] [] <| .spl ((decide (a0 < (0 : Int)))) (.reg 0 [(3, Or.bool true, 0, 0)] [1, 20] [0] [.old 0] <| .ct true none <| .r0 [2] <| .ret []) (.spl ((decide (a1 < (0 : Int)))) (.reg 0 [(3, Or.bool false, 0, 0), (8, Or.bool true, 0, 0)] [1, 20] [0] [.old 1, .old 0] <| .ct true none <| .r0 [2] <| .ret []) (.reg 0 [(3, Or.bool false, 0, 0), (8, Or.bool false, 0, 0)] [1, 20] [0] [.old 1, .old 0] <| .c2 (.r0 [2] <| .ret []) (.r1 [1, 22, 23, 24] [0] <| .lp [.i] (fun t24 => ⟨[(1, vP 0 0), (22, vD (dL a2)), (23, vD (dI (a2.length : Int))), (24, vD (dI t24))], [some (Obj.box [sD (dI a0), sD (dI a1), sD (dL a2)])], 38⟩) [.i (0 : Int)] <| .fi fun t24 => .beg <| .r1 [1, 22, 23, 24, 25] [0] <| .c2 (.exl fun vx => .reg 0 [(1, Or.cells [dL vx], 0, 0)] [1, 4, 22, 23, 24] [0] [] <| .spl (((vx.length : Int) != a1)) (.reg 0 [(5, Or.bool true, 0, 0)] [1, 22, 23, 24, 36] [0] [.old 0] <| .ct true none <| .r0 [2] <| .ret []) (.exb fun r => .reg 0 [(5, Or.bool false, 0, 0), (7, Or.call (vD (dB r)) [] [], 0, 0)] [1, 22, 23, 24, 36] [0] [.old 0] <| .c2 (.r0 [2] <| .ret []) (.r1 [1, 22, 23, 24] [0] <| .bk 0 [.i (IntKind.i64.wrap (t24 + (1 : Int)))]))) (.r0 [2] <| .ret [])))))
    (by kernel_rfl) (by kernel_rfl) (by kernel_rfl) h
def vc81 (s : DL) (f : FuncId) (fc : List D) (R : V → Heap → Prop) : Prop :=
 ∃ (r : Int),
 (FnD prog 111 [vD (dL s), vD (D.fn (.func f) fc)] (vD (dI r)) []) ∧
 (R (vD (dB (decide (r ≥ (0 : Int))))) [])
theorem vc81_ok (s : DL) (f : FuncId) (fc : List D) {R : V → Heap → Prop} (h : vc81 s f fc R) : FnG prog 81 [vD (dL s), vD (D.fn (.func f) fc)] [] R :=
  FnG.vcg hT func81 ntmps81 (.r0 [0, 1] <| .ex fun r => .reg 0 [(2, Or.call (vD (dI r)) [] [], 0, 0)] [4] [] [] <| .ret [])
    (by kernel_rfl) (by kernel_rfl) (by kernel_rfl) h
def vc111 (s : DL) (f : FuncId) (fc : List D) (R : V → Heap → Prop) : Prop :=
 ∃ (J0 : Int → Prop) (μ0 : Int → Nat),
 J0 (0 : Int) ∧ ∀ (t8 : Int), J0 t8 →
 (decide (t8 < (s.length : Int)) = true →
 ∃ (x0 : Bool) (x1 : DL) (r : Bool),
 (0 ≤ t8 ∧ t8 < (s.length : Int)) ∧
 (s[(t8).toNat]? = some [dB x0, dL x1]) ∧
 (FnD prog f ([vA [sD (dB x0), sD (dL x1)]] ++ fc.map dV) (vD (dB r)) []) ∧
 ((r = true →
 R (vD (dI t8)) []) ∧
 (r = false →
 J0 (IntKind.i64.wrap (t8 + (1 : Int))) ∧ μ0 (IntKind.i64.wrap (t8 + (1 : Int))) < μ0 t8))) ∧
 (decide (t8 < (s.length : Int)) = false →
 R (vD (dI (-1 : Int))) [])
theorem vc111_ok (s : DL) (f : FuncId) (fc : List D) {R : V → Heap → Prop} (h : vc111 s f fc R) : FnG prog 111 [vD (dL s), vD (D.fn (.func f) fc)] [] R :=
  FnG.vcg hT func111 ntmps111 (.r0 [0, 1] <| .r0 [0, 1, 7, 8] <| .lp [.i] (fun t8 => ⟨[(0, vD (dL s)), (1, vD (D.fn (.func f) fc)), (7, vD (dI (s.length : Int))), (8, vD (dI t8))], [], 19⟩) [.i (0 : Int)] <| .fi fun t8 => .beg <| .r0 [0, 1, 7, 8, 9] <| .c2 (.r0 [0, 1, 5, 7, 8] <| .exb fun x0 => .exl fun x1 => .exb fun r => .reg 0 [(4, Or.cells [dB x0, dL x1], 0, 0), (5, Or.call (vD (dB r)) [] [], 0, 0)] [0, 1, 5, 7, 8, 16] [] [] <| .c2 (.r0 [4] <| .ret []) (.r0 [0, 1, 7, 8] <| .bk 0 [.i (IntKind.i64.wrap (t8 + (1 : Int)))])) (.r0 [4] <| .ret []))
    (by kernel_rfl) (by kernel_rfl) (by kernel_rfl) h
def vc82 (x0 : Bool) (x1 : DL) (R : V → Heap → Prop) : Prop :=
 ∃ (r : Int),
 (FnD prog 83 [vA [sD (dB x0), sD (dL x1)]] (vD (dI r)) []) ∧
 (R (vD (dB (r != (0 : Int)))) [])
theorem vc82_ok (x0 : Bool) (x1 : DL) {R : V → Heap → Prop} (h : vc82 x0 x1 R) : FnG prog 82 [vA [sD (dB x0), sD (dL x1)]] [] R :=
  FnG.vcg hT func82 ntmps82 (.reg 1 [(0, Or.none, 0, 1)] [1] [0] [] <| .ex fun r => .reg 0 [(1, Or.call (vD (dI r)) [] [], 0, 0)] [2] [] [] <| .ret [])
    (by kernel_rfl) (by kernel_rfl) (by kernel_rfl) h
def vc46 (v : DL) (R : V → Heap → Prop) : Prop :=
 ∃ (r : Bool),
 (FnD prog 81 [vD (dL v), vD (D.fn (.func 82) ([] : List D))] (vD (dB r)) []) ∧
 (R (vD (dB (!r))) [])
theorem vc46_ok (v : DL) {R : V → Heap → Prop} (h : vc46 v R) : FnG prog 46 [vD (dL v)] [] R :=
  FnG.vcg hT func46 ntmps46 (.r0 [0] <| .exb fun r => .reg 0 [(1, Or.call (vD (dB r)) [] [], 0, 0)] [2] [] [] <| .ret [])
    (by kernel_rfl) (by kernel_rfl) (by kernel_rfl) h
def vc110 (a0 : Bool) (a1 : DL) (b0 : Bool) (b1 : DL) (R : V → Heap → Prop) : Prop :=
 ∃ (r : Int),
 (FnD prog 86 [vA [sD (dB a0), sD (dL a1)], vA [sD (dB b0), sD (dL b1)]] (vD (dI r)) []) ∧
 (R (vD (dB (r == (0 : Int)))) [])
theorem vc110_ok (a0 : Bool) (a1 : DL) (b0 : Bool) (b1 : DL) {R : V → Heap → Prop} (h : vc110 a0 a1 b0 b1 R) : FnG prog 110 [vA [sD (dB a0), sD (dL a1)], vA [sD (dB b0), sD (dL b1)]] [] R :=
  FnG.vcg hT func110 ntmps110 (.reg 2 [(0, Or.none, 0, 1), (1, Or.none, 1, 1)] [2, 3] [0, 1] [] <| .ex fun r => .reg 0 [(2, Or.call (vD (dI r)) [] [], 0, 0)] [4] [] [] <| .ret [])
    (by kernel_rfl) (by kernel_rfl) (by kernel_rfl) h
def vc108 (r s : DL) (R : V → Heap → Prop) : Prop :=
 ∃ (r1 : Bool),
 (FnD prog 109 [vD (dL r), vD (dL s), vD (D.fn (.func 110) ([] : List D))] (vD (dB r1)) []) ∧
 (R (vD (dB r1)) [])
theorem vc108_ok (r s : DL) {R : V → Heap → Prop} (h : vc108 r s R) : FnG prog 108 [vD (dL r), vD (dL s)] [] R :=
  FnG.vcg hT func108 ntmps108 (.r0 [0, 1] <| .exb fun r1 => .reg 0 [(2, Or.call (vD (dB r1)) [] [], 0, 0)] [4] [] [] <| .ret [])
    (by kernel_rfl) (by kernel_rfl) (by kernel_rfl) h
def vc107 (s1 s2 : DL) (eq : FuncId) (eqc : List D) (R : V → Heap → Prop) : Prop :=
 (((s1.length : Int) != (s2.length : Int)) = true →
 R (vD (dB false)) []) ∧
 (((s1.length : Int) != (s2.length : Int)) = false →
 ∃ (J0 : Int → Prop) (μ0 : Int → Nat),
 J0 (0 : Int) ∧ ∀ (t17 : Int), J0 t17 →
 (decide (t17 < (s1.length : Int)) = true →
 ∃ (vx : DL),
 (0 ≤ t17 ∧ t17 < (s1.length : Int)) ∧
 (s1[(t17).toNat]? = some [dL vx]) ∧
 (∃ (vx1 : DL),
 (0 ≤ t17 ∧ t17 < (s2.length : Int)) ∧
 (s2[(t17).toNat]? = some [dL vx1]) ∧
 (∃ (r : Bool),
 (FnD prog eq ([vD (dL vx), vD (dL vx1)] ++ eqc.map dV) (vD (dB r)) []) ∧
 (((!r) = true →
 R (vD (dB false)) []) ∧
 ((!r) = false →
 J0 (IntKind.i64.wrap (t17 + (1 : Int))) ∧ μ0 (IntKind.i64.wrap (t17 + (1 : Int))) < μ0 t17))))) ∧
 (decide (t17 < (s1.length : Int)) = false →
 R (vD (dB true)) []))
theorem vc107_ok (s1 s2 : DL) (eq : FuncId) (eqc : List D) {R : V → Heap → Prop} (h : vc107 s1 s2 eq eqc R) : FnG prog 107 [vD (dL s1), vD (dL s2), vD (D.fn (.func eq) eqc)] [] R :=
  FnG.vcg hT func107 ntmps107 (.r0 [0, 1, 2] <| .r0 [0, 1, 2, 14] <| .c2 (.r0 [6] <| .ret []) (.r0 [1, 2, 15, 16, 17] <| .lp [.i] (fun t17 => ⟨[(1, vD (dL s2)), (2, vD (D.fn (.func eq) eqc)), (15, vD (dL s1)), (16, vD (dI (s1.length : Int))), (17, vD (dI t17))], [], 32⟩) [.i (0 : Int)] <| .fi fun t17 => .beg <| .r0 [1, 2, 15, 16, 17, 18] <| .c2 (.exl fun vx => .reg 0 [(2, Or.cells [dL vx], 0, 0)] [1, 2, 7, 8, 15, 16, 17] [] [] <| .exl fun vx1 => .reg 0 [(3, Or.cells [dL vx1], 0, 0)] [1, 2, 8, 9, 15, 16, 17] [] [] <| .exb fun r => .reg 0 [(3, Or.call (vD (dB r)) [] [], 0, 0)] [1, 2, 15, 16, 17, 30] [] [] <| .c2 (.r0 [6] <| .ret []) (.r0 [1, 2, 15, 16, 17] <| .bk 0 [.i (IntKind.i64.wrap (t17 + (1 : Int)))])) (.r0 [6] <| .ret [])))
    (by kernel_rfl) (by kernel_rfl) (by kernel_rfl) h
def vc109 (s1 s2 : DL) (eq : FuncId) (eqc : List D) (R : V → Heap → Prop) : Prop :=
 (((s1.length : Int) != (s2.length : Int)) = true →
 R (vD (dB false)) []) ∧
 (((s1.length : Int) != (s2.length : Int)) = false →
 ∃ (J0 : Int → Prop) (μ0 : Int → Nat),
 J0 (0 : Int) ∧ ∀ (t17 : Int), J0 t17 →
 (decide (t17 < (s1.length : Int)) = true →
 ∃ (x0 : Bool) (x1 : DL),
 (0 ≤ t17 ∧ t17 < (s1.length : Int)) ∧
 (s1[(t17).toNat]? = some [dB x0, dL x1]) ∧
 (∃ (x01 : Bool) (x11 : DL),
 (0 ≤ t17 ∧ t17 < (s2.length : Int)) ∧
 (s2[(t17).toNat]? = some [dB x01, dL x11]) ∧
 (∃ (r : Bool),
 (FnD prog eq ([vA [sD (dB x0), sD (dL x1)], vA [sD (dB x01), sD (dL x11)]] ++ eqc.map dV) (vD (dB r)) []) ∧
 (((!r) = true →
 R (vD (dB false)) []) ∧
 ((!r) = false →
 J0 (IntKind.i64.wrap (t17 + (1 : Int))) ∧ μ0 (IntKind.i64.wrap (t17 + (1 : Int))) < μ0 t17))))) ∧
 (decide (t17 < (s1.length : Int)) = false →
 R (vD (dB true)) []))
theorem vc109_ok (s1 s2 : DL) (eq : FuncId) (eqc : List D) {R : V → Heap → Prop} (h : vc109 s1 s2 eq eqc R) : FnG prog 109 [vD (dL s1), vD (dL s2), vD (D.fn (.func eq) eqc)] [] R :=
  FnG.vcg hT func109 ntmps109 (.r0 [0, 1, 2] <| .r0 [0, 1, 2, 14] <| .c2 (.r0 [6] <| .ret []) (.r0 [1, 2, 15, 16, 17] <| .lp [.i] (fun t17 => ⟨[(1, vD (dL s2)), (2, vD (D.fn (.func eq) eqc)), (15, vD (dL s1)), (16, vD (dI (s1.length : Int))), (17, vD (dI t17))], [], 32⟩) [.i (0 : Int)] <| .fi fun t17 => .beg <| .r0 [1, 2, 15, 16, 17, 18] <| .c2 (.exb fun x0 => .exl fun x1 => .reg 1 [(2, Or.cells [dB x0, dL x1], 0, 0), (3, Or.none, 0, 1)] [1, 2, 7, 8, 15, 16, 17] [0] [] <| .exb fun x01 => .exl fun x11 => .reg 1 [(3, Or.cells [dB x01, dL x11], 0, 0), (4, Or.none, 1, 1)] [1, 2, 8, 9, 15, 16, 17] [0, 1] [] <| .exb fun r => .reg 0 [(3, Or.call (vD (dB r)) [] [], 0, 0)] [1, 2, 15, 16, 17, 30] [] [] <| .c2 (.r0 [6] <| .ret []) (.r0 [1, 2, 15, 16, 17] <| .bk 0 [.i (IntKind.i64.wrap (t17 + (1 : Int)))])) (.r0 [6] <| .ret [])))
    (by kernel_rfl) (by kernel_rfl) (by kernel_rfl) h
def vc80 (a0 a1 : Int) (a2 : DL) (b0 b1 : Int) (b2 : DL) (R : V → Heap → Prop) : Prop :=
 ∃ (r0 r1 : Int) (r01 r11 : Int),
 (FnD prog 106 [vA [sD (dI a0), sD (dI a1), sD (dL a2)]] (vA [sD (dI r0), sD (dI r1)]) []) ∧
 (FnD prog 106 [vA [sD (dI b0), sD (dI b1), sD (dL b2)]] (vA [sD (dI r01), sD (dI r11)]) []) ∧
 (((r0 == r01 && r1 == r11) = true →
 ∃ (r : Bool),
 (FnD prog 107 [vD (dL a2), vD (dL b2), vD (D.fn (.func 108) ([] : List D))] (vD (dB r)) []) ∧
 (R (vD (dB r)) [])) ∧
 ((r0 == r01 && r1 == r11) = false →
 R (vD (dB false)) []))
theorem vc80_ok (a0 a1 : Int) (a2 : DL) (b0 b1 : Int) (b2 : DL) {R : V → Heap → Prop} (h : vc80 a0 a1 a2 b0 b1 b2 R) : FnG prog 80 [vA [sD (dI a0), sD (dI a1), sD (dL a2)], vA [sD (dI b0), sD (dI b1), sD (dL b2)]] [] R :=
  FnG.vcg hT func80 ntmps80 (.reg 2 [(0, Or.none, 0, 1), (1, Or.none, 1, 1)] [2, 3] [0, 1] [] <| .ex fun r0 => .ex fun r1 => .ex fun r01 => .ex fun r11 => .ob (FnD prog 106 [vA [sD (dI a0), sD (dI a1), sD (dL a2)]] (vA [sD (dI r0), sD (dI r1)]) []) <| .ob (FnD prog 106 [vA [sD (dI b0), sD (dI b1), sD (dL b2)]] (vA [sD (dI r01), sD (dI r11)]) []) <| .spl ((r0 == r01 && r1 == r11)) (.exb fun r => .drw 0 [(1, (Or.call (vA [sD (dI r0), sD (dI r1)]) [] [], 0, 0), []), (3, (Or.call (vA [sD (dI r01), sD (dI r11)]) [] [], 0, 0), []), (5, (Or.bool true, 0, 0), []), (10, (Or.call (vD (dB r)) [] [], 0, 0), [])] [4] [] [.old 2, .old 1, .old 0] <| .ret []) (.drw 0 [(1, (Or.call (vA [sD (dI r0), sD (dI r1)]) [] [], 0, 0), []), (3, (Or.call (vA [sD (dI r01), sD (dI r11)]) [] [], 0, 0), []), (5, (Or.bool false, 0, 0), [])] [4] [] [.old 2, .old 1, .old 0] <| .ret []))
    (by kernel_rfl) (by kernel_rfl) (by kernel_rfl) h
end Go.AM
/- What functions of the program come to: group R5. Printed by vc.py. -/
set_option maxRecDepth 100000
set_option linter.unusedVariables false
namespace Go.AM
open Go.Proofs.Tryz
def vc60 (rows cols : Int) (R : V → Heap → Prop) : Prop :=
 ∃ (J0 : (DLL) → Int → Prop) (μ0 : (DLL) → Int → Nat),
 J0 ([] : DLL) (0 : Int) ∧ ∀ (a : DLL) (i : Int), J0 a i →
 (decide (i < rows) = true →
 (0 ≤ cols ∧ cols ≤ cols ∧ cols * (32 : Nat) ≤ 281474976710656) ∧
 ((a.length + ([List.replicate (cols).toNat [dB false, dL ([] : DL)]] : DLL).length) * 24 ≤ 140737488355328) ∧
 (J0 (a ++ [List.replicate (cols).toNat [dB false, dL ([] : DL)]]) (IntKind.i64.wrap (i + (1 : Int))) ∧ μ0 (a ++ [List.replicate (cols).toNat [dB false, dL ([] : DL)]]) (IntKind.i64.wrap (i + (1 : Int))) < μ0 a i)) ∧
 (decide (i < rows) = false →
 R (vA [sD (dI rows), sD (dI cols), S.ref 0]) [some (Obj.mat 2 a)])
theorem vc60_ok (rows cols : Int) {R : V → Heap → Prop} (h : vc60 rows cols R) : FnG prog 60 [vD (dI rows), vD (dI cols)] [] R :=
  FnG.vcg hT func60 ntmps60 (.reg 1 [(0, Or.none, 0, 1)] [0, 1, 4] [0] [] <| .reg 1 [(0, Or.bool true, 1, 1)] [0, 1, 4, 5] [0, 1] [] <| .r1 [0, 1, 4, 5, 6] [0, 1] <| .lp [.m, .i] (fun a i => ⟨[(0, vD (dI rows)), (1, vD (dI cols)), (4, vP 0 0), (5, vR 1), (6, vD (dI i))], [some (Obj.box [sD (dI (0 : Int)), sD (dI (0 : Int)), sD (D.raw (.slice none 0 0))]), some (Obj.mat 2 a)], 22⟩) [.m ([] : DLL), .i (0 : Int)] <| .fm fun a => .fi fun i => .beg <| .r1 [0, 1, 4, 5, 6, 10] [0, 1] <| .c2 (.reg 3 [(2, Or.none, 2, 1), (3, Or.bool true, 3, 1), (4, Or.none, 4, 1)] [0, 1, 4, 5, 6] [0, 4] [] <| .r1 [0, 1, 4, 5, 6] [0, 1] <| .bk 0 [.m (a ++ [List.replicate (cols).toNat [dB false, dL ([] : DL)]]), .i (IntKind.i64.wrap (i + (1 : Int)))]) (.r1 [4] [0, 1] <| .ret [1]))
    (by kernel_rfl) (by kernel_rfl) (by kernel_rfl) h
def vc30 (n : Int) (R : V → Heap → Prop) : Prop :=
 ∃ (r0 r1 : Int) (rrows : DLL),
 (FnD prog 60 [vD (dI n), vD (dI n)] (vA [sD (dI r0), sD (dI r1), S.ref 0]) [some (Obj.mat 2 rrows)]) ∧
 (∃ (J0 : (DLL) → Int → Prop) (μ0 : (DLL) → Int → Nat),
 J0 rrows (0 : Int) ∧ ∀ (o2 : DLL) (i : Int), J0 o2 i →
 (decide (i < n) = true →
 ∃ (r01 : Bool) (r11 : DL),
 (0 ≤ i ∧ i < (o2.length : Int)) ∧
 (FnD prog 25 [vD (dI (1 : Int))] (vA [sD (dB r01), sD (dL r11)]) []) ∧
 (∃ l, o2[(i).toNat]? = some l ∧ 0 ≤ i ∧ i < (l.length : Int)) ∧
 (J0 (o2.modify (i).toNat (fun qz => qz.set (i).toNat [dB r01, dL r11])) (IntKind.i64.wrap (i + (1 : Int))) ∧ μ0 (o2.modify (i).toNat (fun qz => qz.set (i).toNat [dB r01, dL r11])) (IntKind.i64.wrap (i + (1 : Int))) < μ0 o2 i)) ∧
 (decide (i < n) = false →
 R (vA [sD (dI r0), sD (dI r1), S.ref 0]) [some (Obj.mat 2 o2)]))
theorem vc30_ok (n : Int) {R : V → Heap → Prop} (h : vc30 n R) : FnG prog 30 [vD (dI n)] [] R :=
  FnG.vcg hT func30 ntmps30 (.reg 1 [(0, Or.none, 0, 1)] [0, 2] [0] [] <| .ex fun r0 => .ex fun r1 => .exm fun rrows => .reg 2 [(2, Or.call (vA [sD (dI r0), sD (dI r1), S.ref 0]) [some (Obj.mat 2 rrows)] [], 1, 1), (3, Or.none, 2, 1)] [0, 2, 3] [0, 2, 1] [] <| .r1 [0, 2, 3, 4] [0, 1, 2] <| .lp [.m, .i] (fun o2 i => ⟨[(0, vD (dI n)), (2, vP 0 0), (3, vP 1 0), (4, vD (dI i))], [some (Obj.box [sD (dI (0 : Int)), sD (dI (0 : Int)), sD (D.raw (.slice none 0 0))]), some (Obj.box [sD (dI r0), sD (dI r1), S.ref 2]), some (Obj.mat 2 o2)], 22⟩) [.m rrows, .i (0 : Int)] <| .fm fun o2 => .fi fun i => .beg <| .r1 [0, 2, 3, 4, 10] [0, 1, 2] <| .c2 (.exb fun r01 => .exl fun r11 => .drw 0 [(6, (Or.call (vA [sD (dB r01), sD (dL r11)]) [] [], 0, 0), []), (8, (Or.none, 0, 0), [2])] [0, 2, 3, 4] [0, 1, 2] [] <| .r1 [0, 2, 3, 4] [0, 1, 2] <| .bk 0 [.m (o2.modify (i).toNat (fun qz => qz.set (i).toNat [dB r01, dL r11])), .i (IntKind.i64.wrap (i + (1 : Int)))]) (.r1 [2] [0, 2] <| .ret [1]))
    (by kernel_rfl) (by kernel_rfl) (by kernel_rfl) h
def vc71 (v : DL) (R : V → Heap → Prop) : Prop :=
 ∃ (J0 : Int → Prop) (μ0 : Int → Nat),
 J0 (0 : Int) ∧ ∀ (i : Int), J0 i →
 (decide (i < (v.length : Int)) = true →
 ∃ (x0 : Bool) (x1 : DL) (r : Bool),
 (0 ≤ i ∧ i < (v.length : Int)) ∧
 (v[(i).toNat]? = some [dB x0, dL x1]) ∧
 (FnD prog 101 [vA [sD (dB x0), sD (dL x1)]] (vD (dB r)) []) ∧
 (((!r) = true →
 R (vD (dB false)) []) ∧
 ((!r) = false →
 J0 (IntKind.i64.wrap (i + (1 : Int))) ∧ μ0 (IntKind.i64.wrap (i + (1 : Int))) < μ0 i))) ∧
 (decide (i < (v.length : Int)) = false →
 R (vD (dB true)) [])
theorem vc71_ok (v : DL) {R : V → Heap → Prop} (h : vc71 v R) : FnG prog 71 [vD (dL v)] [] R :=
  FnG.vcg hT func71 ntmps71 (.r0 [0] <| .r0 [0, 3] <| .lp [.i] (fun i => ⟨[(0, vD (dL v)), (3, vD (dI i))], [], 16⟩) [.i (0 : Int)] <| .fi fun i => .beg <| .r0 [0, 3, 7] <| .c2 (.exb fun x0 => .exl fun x1 => .exb fun r => .reg 0 [(3, Or.cells [dB x0, dL x1], 0, 0), (4, Or.call (vD (dB r)) [] [], 0, 0)] [0, 3, 15] [] [] <| .c2 (.r0 [2] <| .ret []) (.r0 [0, 3] <| .bk 0 [.i (IntKind.i64.wrap (i + (1 : Int)))])) (.r0 [2] <| .ret []))
    (by kernel_rfl) (by kernel_rfl) (by kernel_rfl) h
def vc35 (a0 a1 : Int) (a2 : DL) (R : V → Heap → Prop) : Prop :=
 (decide (a0 < (0 : Int)) = true →
 R (vD (dB false)) []) ∧
 (decide (a0 < (0 : Int)) = false →
 (decide (a1 < (0 : Int)) = true →
 R (vD (dB false)) []) ∧
 (decide (a1 < (0 : Int)) = false →
 (((a2.length : Int) != a0) = true →
 R (vD (dB false)) []) ∧
 (((a2.length : Int) != a0) = false →
 ∃ (J0 : Int → Prop) (μ0 : Int → Nat),
 J0 (0 : Int) ∧ ∀ (i : Int), J0 i →
 (decide (i < (a2.length : Int)) = true →
 ∃ (vx : DL),
 (0 ≤ i ∧ i < (a2.length : Int)) ∧
 (a2[(i).toNat]? = some [dL vx]) ∧
 ((((vx.length : Int) != a1) = true →
 R (vD (dB false)) []) ∧
 (((vx.length : Int) != a1) = false →
 ∃ (r : Bool),
 (FnD prog 71 [vD (dL vx)] (vD (dB r)) []) ∧
 (((!r) = true →
 R (vD (dB false)) []) ∧
 ((!r) = false →
 J0 (IntKind.i64.wrap (i + (1 : Int))) ∧ μ0 (IntKind.i64.wrap (i + (1 : Int))) < μ0 i))))) ∧
 (decide (i < (a2.length : Int)) = false →
 R (vD (dB true)) []))))
theorem vc35_ok (a0 a1 : Int) (a2 : DL) {R : V → Heap → Prop} (h : vc35 a0 a1 a2 R) : FnG prog 35 [vA [sD (dI a0), sD (dI a1), sD (dL a2)]] [] R :=
  FnG.vcg hT func35 ntmps35 (.reg 1 [(0, Or.none, 0, 1)] [1] [0] [] <| .spl ((decide (a0 < (0 : Int)))) (.reg 0 [(3, Or.bool true, 0, 0)] [1, 19] [0] [.old 0] <| .ct true none <| .r0 [2] <| .ret []) (.spl ((decide (a1 < (0 : Int)))) (.reg 0 [(3, Or.bool false, 0, 0), (8, Or.bool true, 0, 0)] [1, 19] [0] [.old 1, .old 0] <| .ct true none <| .r0 [2] <| .ret []) (.reg 0 [(3, Or.bool false, 0, 0), (8, Or.bool false, 0, 0)] [1, 19] [0] [.old 1, .old 0] <| .c2 (.r0 [2] <| .ret []) (.r1 [1, 3] [0] <| .lp [.i] (fun i => ⟨[(1, vP 0 0), (3, vD (dI i))], [some (Obj.box [sD (dI a0), sD (dI a1), sD (dL a2)])], 45⟩) [.i (0 : Int)] <| .fi fun i => .beg <| .r1 [1, 3, 24] [0] <| .c2 (.exl fun vx => .ob (0 ≤ i ∧ i < (a2.length : Int)) <| .ob (a2[(i).toNat]? = some [dL vx]) <| .spl (((vx.length : Int) != a1)) (.drw 0 [(4, (Or.cells [dL vx], 0, 0), []), (9, (Or.bool true, 0, 0), [])] [1, 3, 44] [0] [.old 2, .old 1, .old 0] <| .ct true none <| .r0 [2] <| .ret []) (.exb fun r => .drw 0 [(4, (Or.cells [dL vx], 0, 0), []), (9, (Or.bool false, 0, 0), []), (14, (Or.cells [dL vx], 0, 0), []), (15, (Or.call (vD (dB r)) [] [], 0, 0), [])] [1, 3, 44] [0] [.old 2, .old 1, .old 0, .old 2, .old 1] <| .c2 (.r0 [2] <| .ret []) (.r1 [1, 3] [0] <| .bk 0 [.i (IntKind.i64.wrap (i + (1 : Int)))]))) (.r0 [2] <| .ret [])))))
    (by kernel_rfl) (by kernel_rfl) (by kernel_rfl) h
def vc36 (a0 a1 : Int) (a2 : DL) (rows cols : Int) (R : V → Heap → Prop) : Prop :=
 ((a0 == rows) = true →
 ((a1 == cols) = true →
 ∃ (r : Bool),
 (FnD prog 35 [vA [sD (dI a0), sD (dI a1), sD (dL a2)]] (vD (dB r)) []) ∧
 (R (vD (dB r)) [])) ∧
 ((a1 == cols) = false →
 R (vD (dB false)) [])) ∧
 ((a0 == rows) = false →
 R (vD (dB false)) [])
theorem vc36_ok (a0 a1 : Int) (a2 : DL) (rows cols : Int) {R : V → Heap → Prop} (h : vc36 a0 a1 a2 rows cols R) : FnG prog 36 [vA [sD (dI a0), sD (dI a1), sD (dL a2)], vD (dI rows), vD (dI cols)] [] R :=
  FnG.vcg hT func36 ntmps36 (.reg 1 [(0, Or.none, 0, 1)] [1, 2, 3] [0] [] <| .spl ((a0 == rows)) (.spl ((a1 == cols)) (.exb fun r => .reg 0 [(4, Or.bool true, 0, 0), (10, Or.bool true, 0, 0), (12, Or.call (vD (dB r)) [] [], 0, 0)] [6] [] [.old 1, .old 0] <| .ret []) (.reg 0 [(4, Or.bool true, 0, 0), (10, Or.bool false, 0, 0)] [6] [] [.old 1, .old 0] <| .ret [])) (.reg 0 [(4, Or.bool false, 0, 0)] [6] [] [.old 0] <| .ret []))
    (by kernel_rfl) (by kernel_rfl) (by kernel_rfl) h
def vc48 (a b : DL) (R : V → Heap → Prop) : Prop :=
 (((a.length : Int) != (b.length : Int)) = true →
 R (vD (dB false)) []) ∧
 (((a.length : Int) != (b.length : Int)) = false →
 ∃ (J0 : Int → Prop) (μ0 : Int → Nat),
 J0 (0 : Int) ∧ ∀ (i : Int), J0 i →
 (decide (i < (a.length : Int)) = true →
 ∃ (x0 : Bool) (x1 : DL) (x01 : Bool) (x11 : DL) (r : Bool),
 (0 ≤ i ∧ i < (a.length : Int)) ∧
 (a[(i).toNat]? = some [dB x0, dL x1]) ∧
 (0 ≤ i ∧ i < (b.length : Int)) ∧
 (b[(i).toNat]? = some [dB x01, dL x11]) ∧
 (FnD prog 88 [vA [sD (dB x0), sD (dL x1)], vA [sD (dB x01), sD (dL x11)]] (vD (dB r)) []) ∧
 (((!r) = true →
 R (vD (dB false)) []) ∧
 ((!r) = false →
 J0 (IntKind.i64.wrap (i + (1 : Int))) ∧ μ0 (IntKind.i64.wrap (i + (1 : Int))) < μ0 i))) ∧
 (decide (i < (a.length : Int)) = false →
 R (vD (dB true)) []))
theorem vc48_ok (a b : DL) {R : V → Heap → Prop} (h : vc48 a b R) : FnG prog 48 [vD (dL a), vD (dL b)] [] R :=
  FnG.vcg hT func48 ntmps48 (.r0 [0, 1] <| .r0 [0, 1, 10] <| .c2 (.r0 [4] <| .ret []) (.r0 [0, 1, 5] <| .lp [.i] (fun i => ⟨[(0, vD (dL a)), (1, vD (dL b)), (5, vD (dI i))], [], 27⟩) [.i (0 : Int)] <| .fi fun i => .beg <| .r0 [0, 1, 5, 14] <| .c2 (.exb fun x0 => .exl fun x1 => .exb fun x01 => .exl fun x11 => .exb fun r => .drw 0 [(3, (Or.cells [dB x0, dL x1], 0, 0), []), (7, (Or.cells [dB x01, dL x11], 0, 0), []), (8, (Or.call (vD (dB r)) [] [], 0, 0), [])] [0, 1, 5, 26] [] [] <| .c2 (.r0 [4] <| .ret []) (.r0 [0, 1, 5] <| .bk 0 [.i (IntKind.i64.wrap (i + (1 : Int)))])) (.r0 [4] <| .ret [])))
    (by kernel_rfl) (by kernel_rfl) (by kernel_rfl) h
def vc22 (a0 a1 : Int) (a2 : DL) (b0 b1 : Int) (b2 : DL) (R : V → Heap → Prop) : Prop :=
 ((a0 != b0) = true →
 R (vD (dB false)) []) ∧
 ((a0 != b0) = false →
 ((a1 != b1) = true →
 R (vD (dB false)) []) ∧
 ((a1 != b1) = false →
 (((a2.length : Int) != (b2.length : Int)) = true →
 R (vD (dB false)) []) ∧
 (((a2.length : Int) != (b2.length : Int)) = false →
 ∃ (J0 : Int → Prop) (μ0 : Int → Nat),
 J0 (0 : Int) ∧ ∀ (i : Int), J0 i →
 (decide (i < (a2.length : Int)) = true →
 ∃ (vx vx1 : DL) (r : Bool),
 (0 ≤ i ∧ i < (a2.length : Int)) ∧
 (a2[(i).toNat]? = some [dL vx]) ∧
 (0 ≤ i ∧ i < (b2.length : Int)) ∧
 (b2[(i).toNat]? = some [dL vx1]) ∧
 (FnD prog 48 [vD (dL vx), vD (dL vx1)] (vD (dB r)) []) ∧
 (((!r) = true →
 R (vD (dB false)) []) ∧
 ((!r) = false →
 J0 (IntKind.i64.wrap (i + (1 : Int))) ∧ μ0 (IntKind.i64.wrap (i + (1 : Int))) < μ0 i))) ∧
 (decide (i < (a2.length : Int)) = false →
 R (vD (dB true)) []))))
theorem vc22_ok (a0 a1 : Int) (a2 : DL) (b0 b1 : Int) (b2 : DL) {R : V → Heap → Prop} (h : vc22 a0 a1 a2 b0 b1 b2 R) : FnG prog 22 [vA [sD (dI a0), sD (dI a1), sD (dL a2)], vA [sD (dI b0), sD (dI b1), sD (dL b2)]] [] R :=
  FnG.vcg hT func22 ntmps22 (.reg 2 [(0, Or.none, 0, 1), (1, Or.none, 1, 1)] [2, 3] [0, 1] [] <| .spl ((a0 != b0)) (.reg 0 [(5, Or.bool true, 0, 0)] [2, 3, 26] [0, 1] [.old 0] <| .ct true none <| .r0 [4] <| .ret []) (.spl ((a1 != b1)) (.reg 0 [(5, Or.bool false, 0, 0), (12, Or.bool true, 0, 0)] [2, 3, 26] [0, 1] [.old 1, .old 0] <| .ct true none <| .r0 [4] <| .ret []) (.reg 0 [(5, Or.bool false, 0, 0), (12, Or.bool false, 0, 0)] [2, 3, 26] [0, 1] [.old 1, .old 0] <| .c2 (.r0 [4] <| .ret []) (.r1 [2, 3, 5] [0, 1] <| .lp [.i] (fun i => ⟨[(2, vP 0 0), (3, vP 1 0), (5, vD (dI i))], [some (Obj.box [sD (dI a0), sD (dI a1), sD (dL a2)]), some (Obj.box [sD (dI b0), sD (dI b1), sD (dL b2)])], 46⟩) [.i (0 : Int)] <| .fi fun i => .beg <| .r1 [2, 3, 5, 31] [0, 1] <| .c2 (.exl fun vx => .exl fun vx1 => .exb fun r => .drw 0 [(4, (Or.cells [dL vx], 0, 0), []), (9, (Or.cells [dL vx1], 0, 0), []), (10, (Or.call (vD (dB r)) [] [], 0, 0), [])] [2, 3, 5, 45] [0, 1] [] <| .c2 (.r0 [4] <| .ret []) (.r1 [2, 3, 5] [0, 1] <| .bk 0 [.i (IntKind.i64.wrap (i + (1 : Int)))])) (.r0 [4] <| .ret [])))))
    (by kernel_rfl) (by kernel_rfl) (by kernel_rfl) h
def vc75 (a0 a1 : Int) (a2 : DL) (k0 : Bool) (k1 : DL) (R : V → Heap → Prop) : Prop :=
 ∃ (r0 r1 : Int) (rrows : DLL),
 (FnD prog 60 [vD (dI a0), vD (dI a1)] (vA [sD (dI r0), sD (dI r1), S.ref 0]) [some (Obj.mat 2 rrows)]) ∧
 (∃ (J0 : (DLL) → Int → Prop) (μ0 : (DLL) → Int → Nat),
 J0 rrows (0 : Int) ∧ ∀ (o4 : DLL) (i : Int), J0 o4 i →
 (decide (i < a0) = true →
 ∃ (J1 : (DLL) → Int → Prop) (μ1 : (DLL) → Int → Nat),
 J1 o4 (0 : Int) ∧ ∀ (o41 : DLL) (j : Int), J1 o41 j →
 (decide (j < a1) = true →
 ∃ (vx : DL) (x0 : Bool) (x1 : DL) (r01 : Bool) (r11 : DL),
 (0 ≤ i ∧ i < (o41.length : Int)) ∧
 (0 ≤ i ∧ i < (a2.length : Int)) ∧
 (a2[(i).toNat]? = some [dL vx]) ∧
 (0 ≤ j ∧ j < (vx.length : Int)) ∧
 (vx[(j).toNat]? = some [dB x0, dL x1]) ∧
 (FnD prog 91 [vA [sD (dB x0), sD (dL x1)], vA [sD (dB k0), sD (dL k1)]] (vA [sD (dB r01), sD (dL r11)]) []) ∧
 (∃ l, o41[(i).toNat]? = some l ∧ 0 ≤ j ∧ j < (l.length : Int)) ∧
 (J1 (o41.modify (i).toNat (fun qz => qz.set (j).toNat [dB r01, dL r11])) (IntKind.i64.wrap (j + (1 : Int))) ∧ μ1 (o41.modify (i).toNat (fun qz => qz.set (j).toNat [dB r01, dL r11])) (IntKind.i64.wrap (j + (1 : Int))) < μ1 o41 j)) ∧
 (decide (j < a1) = false →
 J0 o41 (IntKind.i64.wrap (i + (1 : Int))) ∧ μ0 o41 (IntKind.i64.wrap (i + (1 : Int))) < μ0 o4 i)) ∧
 (decide (i < a0) = false →
 R (vA [sD (dI r0), sD (dI r1), S.ref 0]) [some (Obj.mat 2 o4)]))
theorem vc75_ok (a0 a1 : Int) (a2 : DL) (k0 : Bool) (k1 : DL) {R : V → Heap → Prop} (h : vc75 a0 a1 a2 k0 k1 R) : FnG prog 75 [vA [sD (dI a0), sD (dI a1), sD (dL a2)], vA [sD (dB k0), sD (dL k1)]] [] R :=
  FnG.vcg hT func75 ntmps75 (.reg 3 [(0, Or.none, 0, 1), (1, Or.none, 1, 1), (2, Or.none, 2, 1)] [2, 3, 4] [0, 1, 2] [] <| .ex fun r0 => .ex fun r1 => .exm fun rrows => .reg 2 [(4, Or.call (vA [sD (dI r0), sD (dI r1), S.ref 0]) [some (Obj.mat 2 rrows)] [], 3, 1), (5, Or.none, 4, 1)] [2, 3, 4, 5] [0, 1, 2, 4, 3] [] <| .r1 [2, 3, 4, 5, 6] [0, 1, 2, 3, 4] <| .lp [.m, .i] (fun o4 i => ⟨[(2, vP 0 0), (3, vP 1 0), (4, vP 2 0), (5, vP 3 0), (6, vD (dI i))], [some (Obj.box [sD (dI a0), sD (dI a1), sD (dL a2)]), some (Obj.box [sD (dB k0), sD (dL k1)]), some (Obj.box [sD (dI (0 : Int)), sD (dI (0 : Int)), sD (D.raw (.slice none 0 0))]), some (Obj.box [sD (dI r0), sD (dI r1), S.ref 4]), some (Obj.mat 2 o4)], 43⟩) [.m rrows, .i (0 : Int)] <| .fm fun o4 => .fi fun i => .beg <| .r1 [2, 3, 4, 5, 6, 16] [0, 1, 2, 3, 4] <| .c2 (.r1 [2, 3, 4, 5, 6, 7] [0, 1, 2, 3, 4] <| .lp [.m, .i] (fun o41 j => ⟨[(2, vP 0 0), (3, vP 1 0), (4, vP 2 0), (5, vP 3 0), (6, vD (dI i)), (7, vD (dI j))], [some (Obj.box [sD (dI a0), sD (dI a1), sD (dL a2)]), some (Obj.box [sD (dB k0), sD (dL k1)]), some (Obj.box [sD (dI (0 : Int)), sD (dI (0 : Int)), sD (D.raw (.slice none 0 0))]), some (Obj.box [sD (dI r0), sD (dI r1), S.ref 4]), some (Obj.mat 2 o41)], 43⟩) [.m o4, .i (0 : Int)] <| .fm fun o41 => .fi fun j => .beg <| .r1 [2, 3, 4, 5, 6, 7, 22] [0, 1, 2, 3, 4] <| .c2 (.exl fun vx => .exb fun x0 => .exl fun x1 => .exb fun r01 => .exl fun r11 => .drw 0 [(10, (Or.cells [dL vx], 0, 0), []), (13, (Or.cells [dB x0, dL x1], 0, 0), []), (15, (Or.call (vA [sD (dB r01), sD (dL r11)]) [] [], 0, 0), []), (17, (Or.none, 0, 0), [4])] [2, 3, 4, 5, 6, 7] [0, 1, 2, 3, 4] [] <| .r1 [2, 3, 4, 5, 6, 7] [0, 1, 2, 3, 4] <| .bk 0 [.m (o41.modify (i).toNat (fun qz => qz.set (j).toNat [dB r01, dL r11])), .i (IntKind.i64.wrap (j + (1 : Int)))]) (.r1 [2, 3, 4, 5, 6] [0, 1, 2, 3, 4] <| .bk 1 [.m o41, .i (IntKind.i64.wrap (i + (1 : Int)))])) (.r1 [4] [2, 4] <| .ret [1]))
    (by kernel_rfl) (by kernel_rfl) (by kernel_rfl) h
def vc72 (a0 a1 : Int) (a2 : DL) (b0 b1 : Int) (b2 : DL) (R : V → Heap → Prop) : Prop :=
 ((a1 != b0) = true →
 R (V.tup [E.agg [sD (dI (0 : Int)), sD (dI (0 : Int)), sD (dL ([] : DL))], eD (dI (50 : Int))]) []) ∧
 ((a1 != b0) = false →
 ∃ (r0 r1 : Int) (rrows : DLL),
 (FnD prog 60 [vD (dI a0), vD (dI b1)] (vA [sD (dI r0), sD (dI r1), S.ref 0]) [some (Obj.mat 2 rrows)]) ∧
 (∃ (J0 : (DLL) → Int → Prop) (μ0 : (DLL) → Int → Nat),
 J0 rrows (0 : Int) ∧ ∀ (o4 : DLL) (i : Int), J0 o4 i →
 (decide (i < a0) = true →
 ∃ (J1 : (DLL) → Int → Prop) (μ1 : (DLL) → Int → Nat),
 J1 o4 (0 : Int) ∧ ∀ (o41 : DLL) (j : Int), J1 o41 j →
 (decide (j < b1) = true →
 ∃ (J2 : (DLL) → Int → Prop) (μ2 : (DLL) → Int → Nat),
 J2 o41 (0 : Int) ∧ ∀ (o42 : DLL) (k : Int), J2 o42 k →
 (decide (k < a1) = true →
 ∃ (x0 : Bool) (x1 vx : DL) (x01 : Bool) (x11 vx1 : DL) (x02 : Bool) (x12 : DL) (r01 : Bool) (r11 : DL) (r02 : Bool) (r12 : DL),
 (0 ≤ i ∧ i < (o42.length : Int)) ∧
 (∃ l, o42[(i).toNat]? = some l ∧ 0 ≤ j ∧ j < (l.length : Int)) ∧
 (at2 o42 (i).toNat (j).toNat = some [dB x0, dL x1]) ∧
 (0 ≤ i ∧ i < (a2.length : Int)) ∧
 (a2[(i).toNat]? = some [dL vx]) ∧
 (0 ≤ k ∧ k < (vx.length : Int)) ∧
 (vx[(k).toNat]? = some [dB x01, dL x11]) ∧
 (0 ≤ k ∧ k < (b2.length : Int)) ∧
 (b2[(k).toNat]? = some [dL vx1]) ∧
 (0 ≤ j ∧ j < (vx1.length : Int)) ∧
 (vx1[(j).toNat]? = some [dB x02, dL x12]) ∧
 (FnD prog 91 [vA [sD (dB x01), sD (dL x11)], vA [sD (dB x02), sD (dL x12)]] (vA [sD (dB r01), sD (dL r11)]) []) ∧
 (FnD prog 24 [vA [sD (dB x0), sD (dL x1)], vA [sD (dB r01), sD (dL r11)]] (vA [sD (dB r02), sD (dL r12)]) []) ∧
 (J2 (o42.modify (i).toNat (fun qz => qz.set (j).toNat [dB r02, dL r12])) (IntKind.i64.wrap (k + (1 : Int))) ∧ μ2 (o42.modify (i).toNat (fun qz => qz.set (j).toNat [dB r02, dL r12])) (IntKind.i64.wrap (k + (1 : Int))) < μ2 o42 k)) ∧
 (decide (k < a1) = false →
 J1 o42 (IntKind.i64.wrap (j + (1 : Int))) ∧ μ1 o42 (IntKind.i64.wrap (j + (1 : Int))) < μ1 o41 j)) ∧
 (decide (j < b1) = false →
 J0 o41 (IntKind.i64.wrap (i + (1 : Int))) ∧ μ0 o41 (IntKind.i64.wrap (i + (1 : Int))) < μ0 o4 i)) ∧
 (decide (i < a0) = false →
 R (V.tup [E.agg [sD (dI r0), sD (dI r1), sD (dL (matD o4))], eD (dI (0 : Int))]) [])))
theorem vc72_ok (a0 a1 : Int) (a2 : DL) (b0 b1 : Int) (b2 : DL) {R : V → Heap → Prop} (h : vc72 a0 a1 a2 b0 b1 b2 R) : FnG prog 72 [vA [sD (dI a0), sD (dI a1), sD (dL a2)], vA [sD (dI b0), sD (dI b1), sD (dL b2)]] [] R :=
  FnG.vcg hT func72 ntmps72 (.reg 3 [(0, Or.none, 0, 1), (1, Or.none, 1, 1), (2, Or.none, 2, 1)] [2, 3, 4] [0, 1, 2] [] <| .r1 [2, 3, 4, 14] [0, 1, 2] <| .c2 (.r1 [4, 5] [2] <| .nrm [4, 5] [0] <| .ret []) (.ex fun r0 => .ex fun r1 => .exm fun rrows => .reg 2 [(4, Or.call (vA [sD (dI r0), sD (dI r1), S.ref 0]) [some (Obj.mat 2 rrows)] [], 3, 1), (5, Or.none, 4, 1)] [2, 3, 4, 6] [0, 1, 2, 4, 3] [] <| .r1 [2, 3, 4, 6, 7] [0, 1, 2, 3, 4] <| .lp [.m, .i] (fun o4 i => ⟨[(2, vP 0 0), (3, vP 1 0), (4, vP 2 0), (6, vP 3 0), (7, vD (dI i))], [some (Obj.box [sD (dI a0), sD (dI a1), sD (dL a2)]), some (Obj.box [sD (dI b0), sD (dI b1), sD (dL b2)]), some (Obj.box [sD (dI (0 : Int)), sD (dI (0 : Int)), sD (D.raw (.slice none 0 0))]), some (Obj.box [sD (dI r0), sD (dI r1), S.ref 4]), some (Obj.mat 2 o4)], 73⟩) [.m rrows, .i (0 : Int)] <| .fm fun o4 => .fi fun i => .beg <| .r1 [2, 3, 4, 6, 7, 24] [0, 1, 2, 3, 4] <| .c2 (.r1 [2, 3, 4, 6, 7, 8] [0, 1, 2, 3, 4] <| .lp [.m, .i] (fun o41 j => ⟨[(2, vP 0 0), (3, vP 1 0), (4, vP 2 0), (6, vP 3 0), (7, vD (dI i)), (8, vD (dI j))], [some (Obj.box [sD (dI a0), sD (dI a1), sD (dL a2)]), some (Obj.box [sD (dI b0), sD (dI b1), sD (dL b2)]), some (Obj.box [sD (dI (0 : Int)), sD (dI (0 : Int)), sD (D.raw (.slice none 0 0))]), some (Obj.box [sD (dI r0), sD (dI r1), S.ref 4]), some (Obj.mat 2 o41)], 73⟩) [.m o4, .i (0 : Int)] <| .fm fun o41 => .fi fun j => .beg <| .r1 [2, 3, 4, 6, 7, 8, 30] [0, 1, 2, 3, 4] <| .c2 (.r1 [2, 3, 4, 6, 7, 8, 9] [0, 1, 2, 3, 4] <| .lp [.m, .i] (fun o42 k => ⟨[(2, vP 0 0), (3, vP 1 0), (4, vP 2 0), (6, vP 3 0), (7, vD (dI i)), (8, vD (dI j)), (9, vD (dI k))], [some (Obj.box [sD (dI a0), sD (dI a1), sD (dL a2)]), some (Obj.box [sD (dI b0), sD (dI b1), sD (dL b2)]), some (Obj.box [sD (dI (0 : Int)), sD (dI (0 : Int)), sD (D.raw (.slice none 0 0))]), some (Obj.box [sD (dI r0), sD (dI r1), S.ref 4]), some (Obj.mat 2 o42)], 73⟩) [.m o41, .i (0 : Int)] <| .fm fun o42 => .fi fun k => .beg <| .r1 [2, 3, 4, 6, 7, 8, 9, 36] [0, 1, 2, 3, 4] <| .c2 (.exb fun x0 => .exl fun x1 => .exl fun vx => .exb fun x01 => .exl fun x11 => .exl fun vx1 => .exb fun x02 => .exl fun x12 => .exb fun r01 => .exl fun r11 => .exb fun r02 => .exl fun r12 => .drw 0 [(13, (Or.cells [dB x0, dL x1], 0, 0), []), (18, (Or.cells [dL vx], 0, 0), []), (21, (Or.cells [dB x01, dL x11], 0, 0), []), (26, (Or.cells [dL vx1], 0, 0), []), (29, (Or.cells [dB x02, dL x12], 0, 0), []), (30, (Or.call (vA [sD (dB r01), sD (dL r11)]) [] [], 0, 0), []), (31, (Or.call (vA [sD (dB r02), sD (dL r12)]) [] [], 0, 0), []), (33, (Or.none, 0, 0), [4])] [2, 3, 4, 6, 7, 8, 9] [0, 1, 2, 3, 4] [.new, .old 0, .new, .new, .new, .new, .new, .new, .new, .new, .new, .new, .new, .new, .old 11] <| .r1 [2, 3, 4, 6, 7, 8, 9] [0, 1, 2, 3, 4] <| .bk 0 [.m (o42.modify (i).toNat (fun qz => qz.set (j).toNat [dB r02, dL r12])), .i (IntKind.i64.wrap (k + (1 : Int)))]) (.r1 [2, 3, 4, 6, 7, 8] [0, 1, 2, 3, 4] <| .bk 1 [.m o42, .i (IntKind.i64.wrap (j + (1 : Int)))])) (.r1 [2, 3, 4, 6, 7] [0, 1, 2, 3, 4] <| .bk 1 [.m o41, .i (IntKind.i64.wrap (i + (1 : Int)))])) (.r1 [4, 5] [2, 4] <| .frz [1] <| .ret [])))
    (by kernel_rfl) (by kernel_rfl) (by kernel_rfl) h
def vc37 (a0 a1 : Int) (a2 : DL) (b0 b1 : Int) (b2 : DL) (R : V → Heap → Prop) : Prop :=
 ∃ (r0 r1 : Int) (r2 : DL) (r : Int),
 (FnD prog 72 [vA [sD (dI a0), sD (dI a1), sD (dL a2)], vA [sD (dI b0), sD (dI b1), sD (dL b2)]] (V.tup [E.agg [sD (dI r0), sD (dI r1), sD (dL r2)], eD (dI r)]) []) ∧
 (R (vA [sD (dI r0), sD (dI r1), sD (dL r2)]) [])
theorem vc37_ok (a0 a1 : Int) (a2 : DL) (b0 b1 : Int) (b2 : DL) {R : V → Heap → Prop} (h : vc37 a0 a1 a2 b0 b1 b2 R) : FnG prog 37 [vA [sD (dI a0), sD (dI a1), sD (dL a2)], vA [sD (dI b0), sD (dI b1), sD (dL b2)]] [] R :=
  FnG.vcg hT func37 ntmps37 (.reg 3 [(0, Or.none, 0, 1), (1, Or.none, 1, 1), (2, Or.none, 2, 1)] [2, 3, 4] [0, 1, 2] [] <| .ex fun r0 => .ex fun r1 => .exl fun r2 => .ex fun r => .reg 1 [(2, Or.call (V.tup [E.agg [sD (dI r0), sD (dI r1), sD (dL r2)], eD (dI r)]) [] [], 0, 0), (6, Or.none, 3, 1)] [4, 5] [2, 3] [] <| .r1 [4] [0] <| .ret [])
    (by kernel_rfl) (by kernel_rfl) (by kernel_rfl) h
def vc42 (a0 a1 : Int) (a2 : DL) (R : V → Heap → Prop) : Prop :=
 ∃ (r0 : Bool) (r1 : DL) (r01 r11 : Int) (rrows : DLL),
 (FnD prog 25 [vD (dI (1 : Int))] (vA [sD (dB r0), sD (dL r1)]) []) ∧
 (FnD prog 75 [vA [sD (dI a0), sD (dI a1), sD (dL a2)], vA [sD (dB r0), sD (dL r1)]] (vA [sD (dI r01), sD (dI r11), S.ref 0]) [some (Obj.mat 2 rrows)]) ∧
 (R (vA [sD (dI r01), sD (dI r11), S.ref 0]) [some (Obj.mat 2 rrows)])
theorem vc42_ok (a0 a1 : Int) (a2 : DL) {R : V → Heap → Prop} (h : vc42 a0 a1 a2 R) : FnG prog 42 [vA [sD (dI a0), sD (dI a1), sD (dL a2)]] [] R :=
  FnG.vcg hT func42 ntmps42 (.reg 2 [(0, Or.none, 0, 1), (1, Or.none, 1, 1)] [1, 2] [0, 1] [] <| .exb fun r0 => .exl fun r1 => .ex fun r01 => .ex fun r11 => .exm fun rrows => .drw 1 [(1, (Or.call (vA [sD (dB r0), sD (dL r1)]) [] [], 0, 0), []), (2, (Or.call (vA [sD (dI r01), sD (dI r11), S.ref 0]) [some (Obj.mat 2 rrows)] [], 2, 1), [2]), (3, (Or.none, 0, 0), [1])] [2] [1, 2] [] <| .ret [1])
    (by kernel_rfl) (by kernel_rfl) (by kernel_rfl) h
def vc27 (rows cols : Int) (v : DL) (R : V → Heap → Prop) : Prop :=
 ∃ (r0 r1 : Int) (rrows : DLL),
 (FnD prog 60 [vD (dI (if (16 : Int) < (if (0 : Int) > rows then (0 : Int) else rows) then (16 : Int) else (if (0 : Int) > rows then (0 : Int) else rows))), vD (dI (if (16 : Int) < (if (0 : Int) > cols then (0 : Int) else cols) then (16 : Int) else (if (0 : Int) > cols then (0 : Int) else cols)))] (vA [sD (dI r0), sD (dI r1), S.ref 0]) [some (Obj.mat 2 rrows)]) ∧
 (∃ (J0 : (DLL) → Int → Prop) (μ0 : (DLL) → Int → Nat),
 J0 rrows (0 : Int) ∧ ∀ (o2 : DLL) (i : Int), J0 o2 i →
 (decide (i < r0) = true →
 ∃ (J1 : (DLL) → Int → Prop) (μ1 : (DLL) → Int → Nat),
 J1 o2 (0 : Int) ∧ ∀ (o21 : DLL) (j : Int), J1 o21 j →
 (decide (j < r1) = true →
 ((decide ((IntKind.i64.wrap ((IntKind.i64.wrap (i * r1)) + j)) < (v.length : Int))) = true →
 ∃ (vx : Int) (r01 : Bool) (r11 : DL),
 (0 ≤ i ∧ i < (o21.length : Int)) ∧
 (0 ≤ (IntKind.i64.wrap ((IntKind.i64.wrap (i * r1)) + j)) ∧ (IntKind.i64.wrap ((IntKind.i64.wrap (i * r1)) + j)) < (v.length : Int)) ∧
 (v[((IntKind.i64.wrap ((IntKind.i64.wrap (i * r1)) + j))).toNat]? = some [D.int .i8 vx]) ∧
 ((10 : Int) ≠ 0) ∧
 (FnD prog 25 [vD (dI (IntKind.i64.wrap (vx.tmod (10 : Int))))] (vA [sD (dB r01), sD (dL r11)]) []) ∧
 (∃ l, o21[(i).toNat]? = some l ∧ 0 ≤ j ∧ j < (l.length : Int)) ∧
 (J1 (o21.modify (i).toNat (fun qz => qz.set (j).toNat [dB r01, dL r11])) (IntKind.i64.wrap (j + (1 : Int))) ∧ μ1 (o21.modify (i).toNat (fun qz => qz.set (j).toNat [dB r01, dL r11])) (IntKind.i64.wrap (j + (1 : Int))) < μ1 o21 j)) ∧
 ((decide ((IntKind.i64.wrap ((IntKind.i64.wrap (i * r1)) + j)) < (v.length : Int))) = false →
 J0 o21 (IntKind.i64.wrap (i + (1 : Int))) ∧ μ0 o21 (IntKind.i64.wrap (i + (1 : Int))) < μ0 o2 i)) ∧
 (decide (j < r1) = false →
 J0 o21 (IntKind.i64.wrap (i + (1 : Int))) ∧ μ0 o21 (IntKind.i64.wrap (i + (1 : Int))) < μ0 o2 i)) ∧
 (decide (i < r0) = false →
 R (vA [sD (dI r0), sD (dI r1), S.ref 0]) [some (Obj.mat 2 o2)]))
theorem vc27_ok (rows cols : Int) (v : DL) {R : V → Heap → Prop} (h : vc27 rows cols v R) : FnG prog 27 [vD (dI rows), vD (dI cols), vD (dL v)] [] R :=
  FnG.vcg hT func27 ntmps27 (.reg 1 [(0, Or.none, 0, 1)] [0, 1, 2, 6] [0] [] <| .ex fun r0 => .ex fun r1 => .exm fun rrows => .reg 2 [(6, Or.call (vA [sD (dI r0), sD (dI r1), S.ref 0]) [some (Obj.mat 2 rrows)] [], 1, 1), (7, Or.none, 2, 1)] [2, 6, 7] [0, 2, 1] [] <| .r1 [2, 6, 7, 8] [0, 1, 2] <| .lp [.m, .i] (fun o2 i => ⟨[(2, vD (dL v)), (6, vP 0 0), (7, vP 1 0), (8, vD (dI i))], [some (Obj.box [sD (dI (0 : Int)), sD (dI (0 : Int)), sD (D.raw (.slice none 0 0))]), some (Obj.box [sD (dI r0), sD (dI r1), S.ref 2]), some (Obj.mat 2 o2)], 60⟩) [.m rrows, .i (0 : Int)] <| .fm fun o2 => .fi fun i => .beg <| .r1 [2, 6, 7, 8, 20] [0, 1, 2] <| .c2 (.r1 [2, 6, 7, 8, 9] [0, 1, 2] <| .lp [.m, .i] (fun o21 j => ⟨[(2, vD (dL v)), (6, vP 0 0), (7, vP 1 0), (8, vD (dI i)), (9, vD (dI j))], [some (Obj.box [sD (dI (0 : Int)), sD (dI (0 : Int)), sD (D.raw (.slice none 0 0))]), some (Obj.box [sD (dI r0), sD (dI r1), S.ref 2]), some (Obj.mat 2 o21)], 60⟩) [.m o2, .i (0 : Int)] <| .fm fun o21 => .fi fun j => .beg <| .spl ((decide (j < r1))) (.reg 0 [(4, Or.bool true, 0, 0)] [2, 6, 7, 8, 9, 37] [0, 1, 2] [.old 0] <| .c2 (.ex fun vx => .exb fun r01 => .exl fun r11 => .drw 0 [(14, (Or.cells [D.int .i8 vx], 0, 0), []), (17, (Or.call (vA [sD (dB r01), sD (dL r11)]) [] [], 0, 0), []), (19, (Or.none, 0, 0), [2])] [2, 6, 7, 8, 9] [0, 1, 2] [] <| .r1 [2, 6, 7, 8, 9] [0, 1, 2] <| .bk 0 [.m (o21.modify (i).toNat (fun qz => qz.set (j).toNat [dB r01, dL r11])), .i (IntKind.i64.wrap (j + (1 : Int)))]) (.r1 [2, 6, 7, 8] [0, 1, 2] <| .bk 1 [.m o21, .i (IntKind.i64.wrap (i + (1 : Int)))])) (.reg 0 [(4, Or.bool false, 0, 0)] [2, 6, 7, 8, 9, 37] [0, 1, 2] [.old 0] <| .ct false none <| .r1 [2, 6, 7, 8] [0, 1, 2] <| .bk 1 [.m o21, .i (IntKind.i64.wrap (i + (1 : Int)))])) (.r1 [6] [0, 2] <| .ret [1]))
    (by kernel_rfl) (by kernel_rfl) (by kernel_rfl) h
def vc9 (x0 x1 : Int) (x2 : DL) (R : V → Heap → Prop) : Prop :=
 ∃ (r0 r1 : Int) (rrows : DLL),
 ((5 : Int) ≠ 0) ∧
 (FnD prog 27 [vD (dI (IntKind.i64.wrap (x0.tmod (5 : Int)))), vD (dI (IntKind.i64.wrap (x1.tmod (5 : Int)))), vD (dL x2)] (vA [sD (dI r0), sD (dI r1), S.ref 0]) [some (Obj.mat 2 rrows)]) ∧
 (R (vA [sD (dI r0), sD (dI r1), S.ref 0]) [some (Obj.mat 2 rrows)])
theorem vc9_ok (x0 x1 : Int) (x2 : DL) {R : V → Heap → Prop} (h : vc9 x0 x1 x2 R) : FnG prog 9 [vA [sD (D.int .u8 x0), sD (D.int .u8 x1), sD (dL x2)]] [] R :=
  FnG.vcg hT func9 ntmps9 (.reg 2 [(0, Or.none, 0, 1), (1, Or.none, 1, 1)] [1, 2] [0, 1] [] <| .ex fun r0 => .ex fun r1 => .exm fun rrows => .reg 1 [(10, Or.call (vA [sD (dI r0), sD (dI r1), S.ref 0]) [some (Obj.mat 2 rrows)] [], 2, 1)] [2] [1, 2] [.new, .old 0] <| .ret [1])
    (by kernel_rfl) (by kernel_rfl) (by kernel_rfl) h
def vc26 (rows cols : Int) (l : DL) (R : V → Heap → Prop) : Prop :=
 ∃ (r0 r1 : Int) (rrows : DLL),
 (FnD prog 60 [vD (dI rows), vD (dI cols)] (vA [sD (dI r0), sD (dI r1), S.ref 0]) [some (Obj.mat 2 rrows)]) ∧
 (∃ (J0 : (DLL) → Int → Prop) (μ0 : (DLL) → Int → Nat),
 J0 rrows (0 : Int) ∧ ∀ (o2 : DLL) (i : Int), J0 o2 i →
 (decide (i < rows) = true →
 ∃ (J1 : (DLL) → Int → Prop) (μ1 : (DLL) → Int → Nat),
 J1 o2 (0 : Int) ∧ ∀ (o21 : DLL) (j : Int), J1 o21 j →
 (decide (j < cols) = true →
 ((decide ((IntKind.i64.wrap ((IntKind.i64.wrap (i * cols)) + j)) < (l.length : Int))) = true →
 ∃ (vx : Int) (r01 : Bool) (r11 : DL),
 (0 ≤ i ∧ i < (o21.length : Int)) ∧
 (0 ≤ (IntKind.i64.wrap ((IntKind.i64.wrap (i * cols)) + j)) ∧ (IntKind.i64.wrap ((IntKind.i64.wrap (i * cols)) + j)) < (l.length : Int)) ∧
 (l[((IntKind.i64.wrap ((IntKind.i64.wrap (i * cols)) + j))).toNat]? = some [dI vx]) ∧
 (FnD prog 25 [vD (dI vx)] (vA [sD (dB r01), sD (dL r11)]) []) ∧
 (∃ l, o21[(i).toNat]? = some l ∧ 0 ≤ j ∧ j < (l.length : Int)) ∧
 (J1 (o21.modify (i).toNat (fun qz => qz.set (j).toNat [dB r01, dL r11])) (IntKind.i64.wrap (j + (1 : Int))) ∧ μ1 (o21.modify (i).toNat (fun qz => qz.set (j).toNat [dB r01, dL r11])) (IntKind.i64.wrap (j + (1 : Int))) < μ1 o21 j)) ∧
 ((decide ((IntKind.i64.wrap ((IntKind.i64.wrap (i * cols)) + j)) < (l.length : Int))) = false →
 J0 o21 (IntKind.i64.wrap (i + (1 : Int))) ∧ μ0 o21 (IntKind.i64.wrap (i + (1 : Int))) < μ0 o2 i)) ∧
 (decide (j < cols) = false →
 J0 o21 (IntKind.i64.wrap (i + (1 : Int))) ∧ μ0 o21 (IntKind.i64.wrap (i + (1 : Int))) < μ0 o2 i)) ∧
 (decide (i < rows) = false →
 R (vA [sD (dI r0), sD (dI r1), S.ref 0]) [some (Obj.mat 2 o2)]))
theorem vc26_ok (rows cols : Int) (l : DL) {R : V → Heap → Prop} (h : vc26 rows cols l R) : FnG prog 26 [vD (dI rows), vD (dI cols), vD (dL l)] [] R :=
  FnG.vcg hT func26 ntmps26 (.reg 1 [(0, Or.none, 0, 1)] [0, 1, 2, 6] [0] [] <| .ex fun r0 => .ex fun r1 => .exm fun rrows => .reg 2 [(2, Or.call (vA [sD (dI r0), sD (dI r1), S.ref 0]) [some (Obj.mat 2 rrows)] [], 1, 1), (3, Or.none, 2, 1)] [0, 1, 2, 6, 7] [0, 2, 1] [] <| .r1 [0, 1, 2, 6, 7, 8] [0, 1, 2] <| .lp [.m, .i] (fun o2 i => ⟨[(0, vD (dI rows)), (1, vD (dI cols)), (2, vD (dL l)), (6, vP 0 0), (7, vP 1 0), (8, vD (dI i))], [some (Obj.box [sD (dI (0 : Int)), sD (dI (0 : Int)), sD (D.raw (.slice none 0 0))]), some (Obj.box [sD (dI r0), sD (dI r1), S.ref 2]), some (Obj.mat 2 o2)], 50⟩) [.m rrows, .i (0 : Int)] <| .fm fun o2 => .fi fun i => .beg <| .r1 [0, 1, 2, 6, 7, 8, 15] [0, 1, 2] <| .c2 (.r1 [0, 1, 2, 6, 7, 8, 9] [0, 1, 2] <| .lp [.m, .i] (fun o21 j => ⟨[(0, vD (dI rows)), (1, vD (dI cols)), (2, vD (dL l)), (6, vP 0 0), (7, vP 1 0), (8, vD (dI i)), (9, vD (dI j))], [some (Obj.box [sD (dI (0 : Int)), sD (dI (0 : Int)), sD (D.raw (.slice none 0 0))]), some (Obj.box [sD (dI r0), sD (dI r1), S.ref 2]), some (Obj.mat 2 o21)], 50⟩) [.m o2, .i (0 : Int)] <| .fm fun o21 => .fi fun j => .beg <| .spl ((decide (j < cols))) (.reg 0 [(3, Or.bool true, 0, 0)] [0, 1, 2, 6, 7, 8, 9, 30] [0, 1, 2] [.old 0] <| .c2 (.ex fun vx => .exb fun r01 => .exl fun r11 => .drw 0 [(13, (Or.cells [dI vx], 0, 0), []), (14, (Or.call (vA [sD (dB r01), sD (dL r11)]) [] [], 0, 0), []), (16, (Or.none, 0, 0), [2])] [0, 1, 2, 6, 7, 8, 9] [0, 1, 2] [] <| .r1 [0, 1, 2, 6, 7, 8, 9] [0, 1, 2] <| .bk 0 [.m (o21.modify (i).toNat (fun qz => qz.set (j).toNat [dB r01, dL r11])), .i (IntKind.i64.wrap (j + (1 : Int)))]) (.r1 [0, 1, 2, 6, 7, 8] [0, 1, 2] <| .bk 1 [.m o21, .i (IntKind.i64.wrap (i + (1 : Int)))])) (.reg 0 [(3, Or.bool false, 0, 0)] [0, 1, 2, 6, 7, 8, 9, 30] [0, 1, 2] [.old 0] <| .ct false none <| .r1 [0, 1, 2, 6, 7, 8] [0, 1, 2] <| .bk 1 [.m o21, .i (IntKind.i64.wrap (i + (1 : Int)))])) (.r1 [6] [0, 2] <| .ret [1]))
    (by kernel_rfl) (by kernel_rfl) (by kernel_rfl) h
end Go.AM
/- What the functions of package matrix, and of its reference, answer: tables, validity, comparing. -/
namespace Go.AM
open Go.Proofs.Tryz
def Mx (r c : Nat) (m : List (List Int)) : Prop := m.length = r ∧ ∀ x ∈ m, x.length = c
def SzR (r : List Int) : Prop := ∀ z ∈ r, Sz z
def SzM (m : List (List Int)) : Prop := ∀ r ∈ m, SzR r
def tableR (c : Nat) (g : Nat → Int) : List Int := (List.range c).map g
def table (r c : Nat) (g : Nat → Nat → Int) : List (List Int) := (List.range r).map fun i => tableR c (g i)
theorem table_mx (r c : Nat) (g : Nat → Nat → Int) : Mx r c (table r c g) := ⟨by simp [table], fun x hx => by
  simp only [table, List.mem_map] at hx
  obtain ⟨i, _, rfl⟩ := hx; simp [tableR]⟩
def el (m : List (List Int)) (i j : Nat) : Int := (m.getD i []).getD j 0
def elr (r : List Int) (j : Nat) : Int := r.getD j 0
theorem row_getI {r : List Int} {i : Int} (h0 : 0 ≤ i) (h : i < (r.length : Int)) : (row r)[i.toNat]? = some (cI (elr r i.toNat)) := by
  have hi : i.toNat < r.length := by omega
  rw [row_get hi]; simp [elr, List.getElem?_eq_getElem hi]
theorem rows_getI {m : List (List Int)} {i : Int} (h0 : 0 ≤ i) (h : i < (m.length : Int)) : (rows m)[i.toNat]? = some [D.sl (row (m.getD i.toNat []))] := by
  have hi : i.toNat < m.length := by omega
  rw [rows_get hi]; simp [List.getElem?_eq_getElem hi]
theorem row_getN {r : List Int} {i : Nat} (h : i < r.length) : (row r)[(i : Int).toNat]? = some (cI (elr r i)) := by
  have := row_getI (r := r) (i := (i : Int)) (by omega) (by omega)
  rwa [Int.toNat_natCast] at this ⊢
theorem rows_getN {m : List (List Int)} {i : Nat} (h : i < m.length) : (rows m)[(i : Int).toNat]? = some [D.sl (row (m.getD i []))] := by
  have := rows_getI (m := m) (i := (i : Int)) (by omega) (by omega)
  rwa [Int.toNat_natCast] at this ⊢
theorem inc64 {i : Nat} (h : i ≤ 4611686018427387904) : IntKind.i64.wrap ((i : Int) + 1) = ((i + 1 : Nat) : Int) := by rw [w64 (by omega) (by omega)]; simp
def part (r c : Nat) (g : Nat → Nat → Int) (i : Nat) : DLL := (List.range r).map fun k => if k < i then row (tableR c (g k)) else []
theorem part_all (r c : Nat) (g : Nat → Nat → Int) : matD (part r c g r) = rows (table r c g) := by
  unfold matD part rows table
  rw [List.map_map, List.map_map]
  apply List.map_congr_left
  intro k hk
  simp [List.mem_range.1 hk]
theorem cI_zero : cI 0 = [D.bool false, D.sl ([] : DL)] := rfl
theorem part_set (r c : Nat) (g : Nat → Nat → Int) (i : Nat) (hi : i < r) : (part r c g i).set i (row (tableR c (g i))) = part r c g (i + 1) := by
  apply List.ext_getElem?
  intro k
  unfold part
  by_cases hk : k = i
  · subst hk; simp [hi]
  · rw [List.getElem?_set_ne (Ne.symm hk)]
    simp only [List.getElem?_map]
    by_cases hkr : k < r
    · simp only [List.getElem?_range hkr, Option.map_some]
      congr 1
      by_cases h1 : k < i
      · rw [if_pos h1, if_pos (by omega)]
      · rw [if_neg h1, if_neg (by omega)]
    · rw [List.getElem?_eq_none (by simpa using hkr)]; rfl
def partR (c : Nat) (g : Nat → Int) (j : Nat) : List Int := (List.range c).map fun k => if k < j then g k else 0
theorem partR_all (c : Nat) (g : Nat → Int) : partR c g c = tableR c g := by
  unfold partR tableR
  apply List.map_congr_left
  intro k hk
  simp [List.mem_range.1 hk]
theorem partR_zero (c : Nat) (g : Nat → Int) : row (partR c g 0) = List.replicate c [D.bool false, D.sl ([] : DL)] := by
  unfold partR row
  rw [List.map_map]
  have : (cI ∘ fun k => if k < 0 then g k else (0 : Int)) = fun _ => [D.bool false, D.sl ([] : DL)] := by funext k; simp [cI_zero]
  rw [this, List.map_const']; simp
theorem partR_set (c : Nat) (g : Nat → Int) (j : Nat) (hj : j < c) : (row (partR c g j)).set j (cI (g j)) = row (partR c g (j + 1)) := by
  apply List.ext_getElem?
  intro k
  unfold partR row
  by_cases hk : k = j
  · subst hk; simp [hj]
  · rw [List.getElem?_set_ne (Ne.symm hk)]
    simp only [List.getElem?_map]
    by_cases hkr : k < c
    · simp only [List.getElem?_range hkr, Option.map_some]
      congr 1
      by_cases h1 : k < j
      · rw [if_pos h1, if_pos (by omega)]
      · rw [if_neg h1, if_neg (by omega)]
    · rw [List.getElem?_eq_none (by simpa using hkr)]; rfl
theorem build_ok {r c : Nat} (hr : r ≤ 4294967296) (hc : c ≤ 4294967296) {f : FuncId} {fc : List D} {g : Nat → Nat → Int}
    (hf : ∀ i j : Nat, i < r → j < c → FnD prog f ([vi i, vi j] ++ fc.map dV) (eI (g i j)) []) :
    FnD prog 61 [vi r, vi c, .e (.sc (.dat (.fn (.func f) fc)))] (eM r c (table r c g)) [] := by
  refine vc61_ok r c f fc (R := Out _) ?_
  unfold vc61
  refine ⟨⟨by omega, by omega, by omega⟩, fun o t => ∃ i : Nat, t = (i : Int) ∧ i ≤ r ∧ o = part r c g i, fun _ t => ((r : Int) - t).toNat, ⟨0, rfl, by omega, ?_⟩, ?_⟩
  · unfold part
    rw [Int.toNat_natCast]
    have : (fun k => if k < 0 then row (tableR c (g k)) else ([] : DL)) = fun _ => [] := by funext k; simp
    rw [this, List.map_const']; simp
  rintro _ _ ⟨i, rfl, hi, rfl⟩
  have hlen : ∀ i, (part r c g i).length = r := fun i => by simp [part]
  refine ⟨fun h => ?_, fun h => ?_⟩
  · have hir : i < r := by simpa using h
    refine ⟨⟨by omega, by omega, by omega⟩, ⟨by omega, by rw [hlen]; omega⟩, fun o t => ∃ j : Nat, t = (j : Int) ∧ j ≤ c ∧ o = (part r c g i).set i (row (partR c (g i) j)), fun _ t => ((c : Int) - t).toNat, ⟨0, rfl, by omega, ?_⟩, ?_⟩
    · rw [Int.toNat_natCast, Int.toNat_natCast, partR_zero]
    rintro _ _ ⟨j, rfl, hj, rfl⟩
    refine ⟨fun h2 => ?_, fun h2 => ?_⟩
    · have hjc : j < c := by simpa using h2
      refine ⟨decide (g i j < 0), lim (dz (g i j)), ⟨by omega, by simp [hlen]; omega⟩, hf i j hir hjc, ⟨row (partR c (g i) j), by rw [Int.toNat_natCast]; simp [hlen, hir], by omega, by simp [row_length, partR]; omega⟩, ?_⟩
      rw [inc64 (by omega)]
      refine ⟨⟨j + 1, rfl, by omega, ?_⟩, by show ((c : Int) - ((j + 1 : Nat) : Int)).toNat < ((c : Int) - (j : Int)).toNat; omega⟩
      rw [Int.toNat_natCast, Int.toNat_natCast]
      have e1 : ((part r c g i).set i (row (partR c (g i) j))).modify i (fun q => q.set j [D.bool (decide (g i j < 0)), D.sl (lim (dz (g i j)))]) = (part r c g i).set i ((row (partR c (g i) j)).set j (cI (g i j))) := by
        apply List.ext_getElem?
        intro k
        rw [List.getElem?_modify]
        by_cases hk : i = k
        · subst hk; simp [hlen, hir]; rfl
        · simp [hk, List.getElem?_set_ne hk]
      rw [e1, partR_set c (g i) j hjc]
    · have hjc : j = c := by have : c ≤ j := by simpa using h2
                             omega
      subst hjc
      rw [inc64 (by omega)]
      refine ⟨⟨i + 1, rfl, by omega, ?_⟩, by show ((r : Int) - ((i + 1 : Nat) : Int)).toNat < ((r : Int) - (i : Int)).toNat; omega⟩
      rw [partR_all, part_set r j g i hir]
  · have hir : i = r := by have : r ≤ i := by simpa using h
                           omega
    subst hir
    rw [part_all]
    exact ⟨rfl, rfl⟩
theorem validVec_ok {r : List Int} (hr : SzR r) (hl : r.length ≤ 4294967296) : FnD prog 71 [vs (row r)] (vb true) [] := by
  refine vc71_ok (row r) (R := Out _) ?_
  unfold vc71
  simp only [row_length]
  refine ⟨fun t => ∃ i : Nat, t = (i : Int) ∧ i ≤ r.length, fun t => ((r.length : Int) - t).toNat, ⟨0, rfl, by omega⟩, ?_⟩
  rintro _ ⟨i, rfl, hi⟩
  refine ⟨fun h => ?_, fun h => outb rfl⟩
  have hir : i < r.length := by simpa using h
  refine ⟨decide (elr r i < 0), lim (dz (elr r i)), true, ⟨by omega, by omega⟩, row_getN hir, rvalid_ok _ (hr _ ?_), fun h2 => by simp at h2, fun _ => ?_⟩
  · simp [elr, List.getElem?_eq_getElem hir]
  · rw [inc64 (by omega)]
    exact ⟨⟨i + 1, rfl, by omega⟩, by show ((r.length : Int) - ((i + 1 : Nat) : Int)).toNat < ((r.length : Int) - (i : Int)).toNat; omega⟩
theorem getD_mem {α : Type} {l : List α} {i : Nat} {d : α} (h : i < l.length) : l.getD i d ∈ l := by
  rw [List.getD_eq_getElem?_getD, List.getElem?_eq_getElem h]; exact List.getElem_mem h
theorem rvalidM_ok {r c : Nat} {m : List (List Int)} (hm : Mx r c m) (hs : SzM m) (hr : r ≤ 4294967296) (hc : c ≤ 4294967296) : FnD prog 35 [eM r c m] (vb true) [] := by
  obtain ⟨h1, h2⟩ := hm
  refine vc35_ok _ _ _ (R := Out _) ?_
  unfold vc35
  simp only [rows_length]
  refine ⟨fun h => ?_, fun _ => ⟨fun h => ?_, fun _ => ⟨fun h => ?_, fun _ => ⟨fun t => ∃ i : Nat, t = (i : Int) ∧ i ≤ m.length, fun t => ((m.length : Int) - t).toNat, ⟨0, rfl, by omega⟩, ?_⟩⟩⟩⟩
  · simp at h; omega
  · simp at h; omega
  · simp [h1] at h
  rintro _ ⟨i, rfl, hi⟩
  refine ⟨fun h => ?_, fun h => outb rfl⟩
  have hir : i < m.length := by simpa using h
  have hin : m.getD i [] ∈ m := getD_mem hir
  have hlen := h2 _ hin
  refine ⟨row (m.getD i []), ⟨by omega, by omega⟩, by simpa using rows_getI (m := m) (i := (i : Int)) (by omega) (by omega), fun h3 => ?_, fun _ => ⟨true, validVec_ok (hs _ hin) (by omega), fun h4 => by simp at h4, fun _ => ?_⟩⟩
  · rw [row_length, hlen] at h3; simp at h3
  · rw [inc64 (by omega)]
    exact ⟨⟨i + 1, rfl, by omega⟩, by show ((m.length : Int) - ((i + 1 : Nat) : Int)).toNat < ((m.length : Int) - (i : Int)).toNat; omega⟩
end Go.AM
/- What the functions of package matrix, and of its reference, answer: comparing, transposing, multiplying. -/
namespace Go.AM
open Go.Proofs.Tryz
theorem elr_mem {r : List Int} {i : Nat} (h : i < r.length) : elr r i ∈ r := getD_mem h
theorem list_ext {a b : List Int} (hl : a.length = b.length) (h : ∀ k, k < a.length → elr a k = elr b k) : a = b := by
  apply List.ext_getElem hl
  intro i h1 h2
  have := h i h1
  simpa [elr, List.getElem?_eq_getElem h1, List.getElem?_eq_getElem h2] using this
theorem lists_ext {a b : List (List Int)} (hl : a.length = b.length) (h : ∀ k, k < a.length → a.getD k [] = b.getD k []) : a = b := by
  apply List.ext_getElem hl
  intro i h1 h2
  have := h i h1
  simpa [List.getElem?_eq_getElem h1, List.getElem?_eq_getElem h2] using this
theorem sameVec_ok {a b : List Int} (ha : SzR a) (hb : SzR b) (hl : a.length ≤ 4294967296) : FnD prog 48 [vs (row a), vs (row b)] (vb (decide (a = b))) [] := by
  refine vc48_ok _ _ (R := Out _) ?_
  unfold vc48
  simp only [row_length]
  refine ⟨fun h => outb ?_, fun h => ?_⟩
  · have h : ¬ ((a.length : Int) = (b.length : Int)) := by simpa using h
    rw [eq_comm, decide_eq_false_iff_not]
    intro e; subst e; exact h rfl
  · have hlen : a.length = b.length := by
      have : (a.length : Int) = (b.length : Int) := by simpa using h
      omega
    refine ⟨fun t => ∃ i : Nat, t = (i : Int) ∧ i ≤ a.length ∧ ∀ k, k < i → elr a k = elr b k, fun t => ((a.length : Int) - t).toNat, ⟨0, rfl, by omega, fun k hk => by omega⟩, ?_⟩
    rintro _ ⟨i, rfl, hi, hinv⟩
    refine ⟨fun h2 => ?_, fun h2 => outb ?_⟩
    · have hia : i < a.length := by simpa using h2
      have hib : i < b.length := by omega
      refine ⟨_, _, _, _, decide (elr a i = elr b i), ⟨by omega, by omega⟩, row_getN hia, ⟨by omega, by omega⟩, row_getN hib, rsame_ok (ha _ (elr_mem hia)) (hb _ (elr_mem hib)), fun h3 => outb ?_, fun h3 => ?_⟩
      · rw [eq_comm, decide_eq_false_iff_not]
        intro e; subst e; simp at h3
      · have he : elr a i = elr b i := by simpa using h3
        rw [inc64 (by omega)]
        refine ⟨⟨i + 1, rfl, by omega, fun k hk => ?_⟩, by show ((a.length : Int) - ((i + 1 : Nat) : Int)).toNat < ((a.length : Int) - (i : Int)).toNat; omega⟩
        by_cases hki : k = i
        · subst hki; exact he
        · exact hinv k (by omega)
    · have hia : i = a.length := by have : a.length ≤ i := by simpa using h2
                                    omega
      have : a = b := list_ext hlen fun k hk => hinv k (by omega)
      simp [this]
theorem same_ok {r c r' c' : Int} {a b : List (List Int)} (ha : SzM a) (hb : SzM b) (hl : a.length ≤ 4294967296) (hc : ∀ x ∈ a, x.length ≤ 4294967296) :
    FnD prog 22 [eM r c a, eM r' c' b] (vb (decide (r = r' ∧ c = c' ∧ a = b))) [] := by
  refine vc22_ok _ _ _ _ _ _ (R := Out _) ?_
  unfold vc22
  simp only [rows_length]
  refine ⟨fun h => outb ?_, fun h => ⟨fun h2 => outb ?_, fun h2 => ⟨fun h3 => outb ?_, fun h3 => ?_⟩⟩⟩
  · have h : ¬ r = r' := by simpa using h
    simp [h]
  · have h2 : ¬ c = c' := by simpa using h2
    simp [h2]
  · have h3 : ¬ ((a.length : Int) = (b.length : Int)) := by simpa using h3
    rw [eq_comm, decide_eq_false_iff_not]
    rintro ⟨_, _, e⟩; subst e; exact h3 rfl
  · have h : r = r' := by simpa using h
    have h2 : c = c' := by simpa using h2
    have hlen : a.length = b.length := by
      have : (a.length : Int) = (b.length : Int) := by simpa using h3
      omega
    refine ⟨fun t => ∃ i : Nat, t = (i : Int) ∧ i ≤ a.length ∧ ∀ k, k < i → a.getD k [] = b.getD k [], fun t => ((a.length : Int) - t).toNat, ⟨0, rfl, by omega, fun k hk => by omega⟩, ?_⟩
    rintro _ ⟨i, rfl, hi, hinv⟩
    refine ⟨fun h4 => ?_, fun h4 => outb ?_⟩
    · have hia : i < a.length := by simpa using h4
      have hib : i < b.length := by omega
      refine ⟨_, _, decide (a.getD i [] = b.getD i []), ⟨by omega, by omega⟩, rows_getN hia, ⟨by omega, by omega⟩, rows_getN hib, sameVec_ok (ha _ (getD_mem hia)) (hb _ (getD_mem hib)) (hc _ (getD_mem hia)), fun h5 => outb ?_, fun h5 => ?_⟩
      · rw [eq_comm, decide_eq_false_iff_not]
        rintro ⟨_, _, e⟩; subst e; simp at h5
      · have he : a.getD i [] = b.getD i [] := by simpa using h5
        rw [inc64 (by omega)]
        refine ⟨⟨i + 1, rfl, by omega, fun k hk => ?_⟩, by show ((a.length : Int) - ((i + 1 : Nat) : Int)).toNat < ((a.length : Int) - (i : Int)).toNat; omega⟩
        by_cases hki : k = i
        · subst hki; exact he
        · exact hinv k (by omega)
    · have hia : i = a.length := by have : a.length ≤ i := by simpa using h4
                                    omega
      have : a = b := lists_ext hlen fun k hk => hinv k (by omega)
      simp [this, h, h2]
theorem sized_ok {r c : Nat} {m : List (List Int)} (hm : Mx r c m) (hs : SzM m) (hr : r ≤ 4294967296) (hc : c ≤ 4294967296) (r' c' : Int) :
    FnD prog 36 [eM r c m, vi r', vi c'] (vb (decide ((r : Int) = r' ∧ (c : Int) = c'))) [] := by
  refine vc36_ok _ _ _ _ _ (R := Out _) ?_
  unfold vc36
  refine ⟨fun h => ⟨fun h2 => ⟨true, rvalidM_ok hm hs hr hc, outb ?_⟩, fun h2 => outb ?_⟩, fun h => outb ?_⟩
  · have h : (r : Int) = r' := by simpa using h
    have h2 : (c : Int) = c' := by simpa using h2
    simp [h, h2]
  · have h2 : ¬ (c : Int) = c' := by simpa using h2
    simp [h2]
  · have h : ¬ (r : Int) = r' := by simpa using h
    simp [h]
theorem el_mem {r c : Nat} {m : List (List Int)} (hm : Mx r c m) {i j : Nat} (hi : i < r) (_hj : j < c) : (m.getD i []).length = c ∧ m.getD i [] ∈ m := by
  have h1 : i < m.length := by rw [hm.1]; exact hi
  exact ⟨hm.2 _ (getD_mem h1), getD_mem h1⟩
theorem read_el {r c : Nat} {m : List (List Int)} (hm : Mx r c m) {i j : Nat} (hi : i < r) (hj : j < c) :
    (rows m)[(i : Int).toNat]? = some [D.sl (row (m.getD i []))] ∧ (row (m.getD i []))[(j : Int).toNat]? = some (cI (el m i j)) ∧ ((j : Int) < ((row (m.getD i [])).length : Int)) ∧ ((i : Int) < ((rows m).length : Int)) := by
  have h1 : i < m.length := by rw [hm.1]; exact hi
  have h2 := (el_mem hm hi hj).1
  refine ⟨rows_getN h1, row_getN (by omega), by rw [row_length]; omega, by rw [rows_length]; omega⟩
theorem transpose_ok {r c : Nat} {m : List (List Int)} (hm : Mx r c m) (hr : r ≤ 4294967296) (hc : c ≤ 4294967296) : FnD prog 103 [eM r c m] (eM c r (table c r fun i j => el m j i)) [] := by
  refine vc103_ok _ _ _ (R := Out _) ?_
  unfold vc103
  refine ⟨_, _, _, build_ok hc hr (g := fun i j => el m j i) fun i j hi hj => ?_, rfl, rfl⟩
  refine vc121_ok _ _ _ _ _ (R := Out _) ?_
  unfold vc121
  obtain ⟨e1, e2, e3, e4⟩ := read_el hm hj hi
  exact ⟨_, _, _, ⟨by omega, e4⟩, e1, ⟨by omega, e3⟩, e2, rfl, rfl⟩
def dsum (f g : Nat → Int) : Nat → Int
  | 0 => 0
  | n + 1 => dsum f g n + f n * g n
def BdR (K : Nat) (r : List Int) : Prop := ∀ z ∈ r, z.natAbs ≤ K
def BdM (K : Nat) (m : List (List Int)) : Prop := ∀ r ∈ m, BdR K r
theorem sz_of {z : Int} (h : z.natAbs ≤ 497323236409786642155382248146820840100456150797347717440463976893159497012533375533056) : Sz z :=
  Sz.of_lt 10 (by decide) (Nat.lt_of_le_of_lt h (by decide))
theorem BdR.sz {K : Nat} {r : List Int} (h : BdR K r) (hK : K ≤ 497323236409786642155382248146820840100456150797347717440463976893159497012533375533056) : SzR r := fun z hz => sz_of (Nat.le_trans (h z hz) hK)
theorem BdM.sz {K : Nat} {m : List (List Int)} (h : BdM K m) (hK : K ≤ 497323236409786642155382248146820840100456150797347717440463976893159497012533375533056) : SzM m := fun r hr => (h r hr).sz hK
theorem mul_natAbs_le {x y : Int} {K L : Nat} (hx : x.natAbs ≤ K) (hy : y.natAbs ≤ L) : (x * y).natAbs ≤ K * L := by rw [Int.natAbs_mul]; exact Nat.mul_le_mul hx hy
theorem dsum_le {f g : Nat → Int} {K L : Nat} : ∀ n, (∀ k, k < n → (f k).natAbs ≤ K) → (∀ k, k < n → (g k).natAbs ≤ L) → (dsum f g n).natAbs ≤ n * (K * L)
  | 0, _, _ => by simp [dsum]
  | n + 1, hf, hg => by
    have h1 := dsum_le n (fun k hk => hf k (by omega)) fun k hk => hg k (by omega)
    have h2 := mul_natAbs_le (hf n (by omega)) (hg n (by omega))
    have h3 := Int.natAbs_add_le (dsum f g n) (f n * g n)
    simp only [dsum]
    rw [Nat.add_mul]; omega
theorem dstep_ok {s x y : Int} (hs : Sz s) (hx : Sz x) (hy : Sz y) (hp : Sz (x * y)) : FnD prog 123 [eI s, eI x, eI y] (eI (s + x * y)) [] := by
  refine vc123_ok _ _ _ _ _ _ (R := Out _) ?_
  unfold vc123
  refine ⟨_, sign_ok x, fun h => oute ?_, fun h => ⟨_, sign_ok y, fun h2 => oute ?_, fun h2 => ⟨_, _, _, _, mul_ok hx hy, add_ok hs hp, oute rfl⟩⟩⟩
  · have hx0 : x = 0 := by
      apply Classical.byContradiction
      intro hn
      rw [if_neg hn] at h
      by_cases h1 : x < 0
      · rw [if_pos h1] at h; simp at h
      · rw [if_neg h1] at h; simp at h
    subst hx0; simp
  · have hy0 : y = 0 := by
      apply Classical.byContradiction
      intro hn
      rw [if_neg hn] at h2
      by_cases h1 : y < 0
      · rw [if_pos h1] at h2; simp at h2
      · rw [if_neg h1] at h2; simp at h2
    subst hy0; simp
end Go.AM
/- What the functions of package matrix answer: products, sums, new matrices. -/
namespace Go.AM
open Go.Proofs.Tryz
def eME (r c : Int) (m : List (List Int)) (e : Int) : V := .tup [.agg [.dat (.int .i64 r), .dat (.int .i64 c), .dat (.sl (rows m))], .sc (.dat (.int .i64 e))]
theorem table_congr {r c : Nat} {f g : Nat → Nat → Int} (h : ∀ i j, i < r → j < c → f i j = g i j) : table r c f = table r c g := by
  unfold table tableR
  apply List.map_congr_left
  intro i hi
  apply List.map_congr_left
  intro j hj
  exact h i j (List.mem_range.1 hi) (List.mem_range.1 hj)
theorem getD_table {r c : Nat} {g : Nat → Nat → Int} {i : Nat} (hi : i < r) : (table r c g).getD i [] = tableR c (g i) := by simp [table, hi]
theorem elr_tableR {c : Nat} {g : Nat → Int} {j : Nat} (hj : j < c) : elr (tableR c g) j = g j := by simp [elr, tableR, hj]
theorem el_table {r c : Nat} {g : Nat → Nat → Int} {i j : Nat} (hi : i < r) (hj : j < c) : el (table r c g) i j = g i j := by
  unfold el
  rw [getD_table hi]
  exact elr_tableR hj
theorem table_bd {r c K : Nat} {g : Nat → Nat → Int} (h : ∀ i j, i < r → j < c → (g i j).natAbs ≤ K) : BdM K (table r c g) := fun x hx z hz => by
  simp only [table, List.mem_map, List.mem_range] at hx
  obtain ⟨i, hi, rfl⟩ := hx
  simp only [tableR, List.mem_map, List.mem_range] at hz
  obtain ⟨j, hj, rfl⟩ := hz
  exact h i j hi hj
theorem el_bd {r c K : Nat} {m : List (List Int)} (hm : Mx r c m) (hb : BdM K m) {i j : Nat} (hi : i < r) (hj : j < c) : (el m i j).natAbs ≤ K := by
  obtain ⟨h1, h2⟩ := el_mem hm hi hj
  exact hb _ h2 _ (getD_mem (by omega))
theorem mx_table {r c : Nat} {m : List (List Int)} (hm : Mx r c m) : m = table r c (el m) := by
  refine lists_ext (by rw [hm.1]; simp [table]) fun k hk => ?_
  rw [hm.1] at hk
  rw [getD_table hk]
  by_cases hc : c = 0
  · subst hc
    have h1 : k < m.length := by rw [hm.1]; exact hk
    have := hm.2 _ (getD_mem (d := []) h1)
    rw [List.length_eq_zero_iff] at this
    rw [this]; rfl
  · refine list_ext (by rw [(el_mem hm hk (j := 0) (by omega)).1]; simp [tableR]) fun j hj => ?_
    rw [(el_mem hm hk (j := 0) (by omega)).1] at hj
    rw [elr_tableR hj]; rfl
theorem dsum_congr {f f' g g' : Nat → Int} : ∀ n, (∀ k, k < n → f k = f' k) → (∀ k, k < n → g k = g' k) → dsum f g n = dsum f' g' n
  | 0, _, _ => rfl
  | n + 1, h1, h2 => by
    simp only [dsum]
    rw [dsum_congr n (fun k hk => h1 k (by omega)) fun k hk => h2 k (by omega), h1 n (by omega), h2 n (by omega)]
def mmul (r n c : Nat) (a b : List (List Int)) : List (List Int) := table r c fun i j => dsum (fun k => el a i k) (fun k => el b k j) n
def delta (i j : Nat) : Int := if i = j then 1 else 0
theorem mident_ok {n : Nat} (hn : n ≤ 4294967296) : FnD prog 28 [vi n] (eM n n (table n n delta)) [] := by
  refine vc28_ok _ (R := Out _) ?_
  unfold vc28
  refine ⟨_, _, _, build_ok hn hn (g := delta) fun i j hi hj => ?_, rfl, rfl⟩
  refine vc62_ok _ _ (R := Out _) ?_
  unfold vc62
  refine ⟨fun h => ?_, fun h => ?_⟩
  · have : i = j := by have : (i : Int) = (j : Int) := by simpa using h
                       omega
    subst this
    refine ⟨_, _, of_ok 1 (by omega) (by omega), ?_⟩
    simp only [delta, if_true]; exact ⟨rfl, rfl⟩
  · have : i ≠ j := by have : ¬ (i : Int) = (j : Int) := by simpa using h
                       omega
    simp only [delta, if_neg this]; exact ⟨rfl, rfl⟩
end Go.AM
/- What the functions of package matrix answer: searching, validity, picking, blocks. -/
namespace Go.AM
open Go.Proofs.Tryz
def ints (r : List Int) : DL := r.map fun n => [D.int .i64 n]
theorem ints_length (r : List Int) : (ints r).length = r.length := by simp [ints]
theorem ints_getN {r : List Int} {i : Nat} (h : i < r.length) : (ints r)[(i : Int).toNat]? = some [D.int .i64 (elr r i)] := by
  rw [Int.toNat_natCast]; simp [ints, elr, h]
def firstI (p : Int → Bool) (r : List Int) : Int := if r.any p then (r.findIdx p : Nat) else -1
theorem elr_get {r : List Int} {i : Nat} (h : i < r.length) : elr r i = r[i] := by simp [elr, h]
theorem firstI_at {p : Int → Bool} {r : List Int} {i : Nat} (h : i < r.length) (hp : p (elr r i) = true) (hn : ∀ k, k < i → p (elr r k) = false) : firstI p r = (i : Int) := by
  have h1 : r.any p = true := List.any_eq_true.2 ⟨elr r i, elr_mem h, hp⟩
  have h2 : r.findIdx p = i := by
    rw [List.findIdx_eq h]
    refine ⟨by rw [← elr_get h]; exact hp, fun j hj => ?_⟩
    have := hn j hj
    rw [elr_get (by omega)] at this
    exact this
  unfold firstI
  rw [h1, h2]; rfl
theorem firstI_none {p : Int → Bool} {r : List Int} (hn : ∀ k, k < r.length → p (elr r k) = false) : firstI p r = -1 := by
  unfold firstI
  rw [if_neg]
  intro h
  obtain ⟨z, hz, hp⟩ := List.any_eq_true.1 h
  obtain ⟨k, hk, rfl⟩ := List.getElem_of_mem hz
  have := hn k hk
  rw [elr_get hk, hp] at this
  simp at this
theorem firstI_any (p : Int → Bool) (r : List Int) : decide (firstI p r ≥ 0) = r.any p := by
  unfold firstI
  cases h : r.any p <;> simp
theorem index126_ok {r : List Int} {f : FuncId} {fc : List D} {p : Int → Bool} (hl : r.length ≤ 4294967296) (hf : ∀ k, k < r.length → FnD prog f ([eI (elr r k)] ++ fc.map dV) (vb (p (elr r k))) []) :
    FnD prog 102 [vs (row r), .e (.sc (.dat (.fn (.func f) fc)))] (vi (firstI p r)) [] := by
  refine vc102_ok _ _ _ (R := Out _) ?_
  unfold vc102
  simp only [row_length]
  refine ⟨fun t => ∃ i : Nat, t = (i : Int) ∧ i ≤ r.length ∧ ∀ k, k < i → p (elr r k) = false, fun t => ((r.length : Int) - t).toNat, ⟨0, rfl, by omega, fun k hk => by omega⟩, ?_⟩
  rintro _ ⟨i, rfl, hi, hinv⟩
  refine ⟨fun h => ?_, fun h => outi ?_⟩
  · have hir : i < r.length := by simpa using h
    refine ⟨_, _, p (elr r i), ⟨by omega, by omega⟩, row_getN hir, hf i hir, fun h2 => outi ?_, fun h2 => ?_⟩
    · exact (firstI_at hir h2 hinv).symm
    · rw [inc64 (by omega)]
      refine ⟨⟨i + 1, rfl, by omega, fun k hk => ?_⟩, by show ((r.length : Int) - ((i + 1 : Nat) : Int)).toNat < ((r.length : Int) - (i : Int)).toNat; omega⟩
      by_cases hki : k = i
      · subst hki; exact h2
      · exact hinv k (by omega)
  · have hir : i = r.length := by have : r.length ≤ i := by simpa using h
                                  omega
    exact (firstI_none fun k hk => hinv k (by omega)).symm
theorem contains72_ok {r : List Int} {f : FuncId} {fc : List D} {p : Int → Bool} (hl : r.length ≤ 4294967296) (hf : ∀ k, k < r.length → FnD prog f ([eI (elr r k)] ++ fc.map dV) (vb (p (elr r k))) []) :
    FnD prog 76 [vs (row r), .e (.sc (.dat (.fn (.func f) fc)))] (vb (r.any p)) [] := by
  refine vc76_ok _ _ _ (R := Out _) ?_
  unfold vc76
  exact ⟨_, index126_ok hl hf, outb (firstI_any p r)⟩
theorem index134_ok {r : List Int} {f : FuncId} {fc : List D} {p : Int → Bool} (hl : r.length ≤ 4294967296) (hf : ∀ k, k < r.length → FnD prog f ([eI (elr r k)] ++ fc.map dV) (vb (p (elr r k))) []) :
    FnD prog 111 [vs (row r), .e (.sc (.dat (.fn (.func f) fc)))] (vi (firstI p r)) [] := by
  refine vc111_ok _ _ _ (R := Out _) ?_
  unfold vc111
  simp only [row_length]
  refine ⟨fun t => ∃ i : Nat, t = (i : Int) ∧ i ≤ r.length ∧ ∀ k, k < i → p (elr r k) = false, fun t => ((r.length : Int) - t).toNat, ⟨0, rfl, by omega, fun k hk => by omega⟩, ?_⟩
  rintro _ ⟨i, rfl, hi, hinv⟩
  refine ⟨fun h => ?_, fun h => outi ?_⟩
  · have hir : i < r.length := by simpa using h
    refine ⟨_, _, p (elr r i), ⟨by omega, by omega⟩, row_getN hir, hf i hir, fun h2 => outi ?_, fun h2 => ?_⟩
    · exact (firstI_at hir h2 hinv).symm
    · rw [inc64 (by omega)]
      refine ⟨⟨i + 1, rfl, by omega, fun k hk => ?_⟩, by show ((r.length : Int) - ((i + 1 : Nat) : Int)).toNat < ((r.length : Int) - (i : Int)).toNat; omega⟩
      by_cases hki : k = i
      · subst hki; exact h2
      · exact hinv k (by omega)
  · have hir : i = r.length := by have : r.length ≤ i := by simpa using h
                                  omega
    exact (firstI_none fun k hk => hinv k (by omega)).symm
theorem contains89_ok {r : List Int} {f : FuncId} {fc : List D} {p : Int → Bool} (hl : r.length ≤ 4294967296) (hf : ∀ k, k < r.length → FnD prog f ([eI (elr r k)] ++ fc.map dV) (vb (p (elr r k))) []) :
    FnD prog 81 [vs (row r), .e (.sc (.dat (.fn (.func f) fc)))] (vb (r.any p)) [] := by
  refine vc81_ok _ _ _ (R := Out _) ?_
  unfold vc81
  exact ⟨_, index134_ok hl hf, outb (firstI_any p r)⟩
theorem ivalid_ok {z : Int} (hz : Sz z) : FnD prog 78 [eI z] (vb true) [] := by
  refine vc78_ok _ _ (R := Out _) ?_
  unfold vc78
  obtain ⟨a, hae⟩ : ∃ a, a = digs z.natAbs := ⟨_, rfl⟩
  have hl : a.length ≤ 1073741824 := hae ▸ hz
  have hcan : canon a := hae ▸ digs_canon z.natAbs
  have hnil : a = [] ↔ z = 0 := by rw [hae, digs_nil]; omega
  rw [← hae]
  simp only [lim_length]
  refine ⟨fun h => ⟨fun _ => outb rfl, fun h2 => ?_⟩, fun h => ⟨fun h2 => ?_, fun h2 => ?_⟩⟩
  · exfalso
    have h0 : a.length = 0 := by have : (a.length : Int) = 0 := by simpa using h
                                 omega
    have hz0 := hnil.1 (List.length_eq_zero_iff.1 h0)
    subst hz0; simp at h2
  · have h0 : 0 < a.length := by have : (a.length : Int) > 0 := by simpa using h2
                                 omega
    have hw : IntKind.i64.wrap ((a.length : Int) - 1) = ((a.length - 1 : Nat) : Int) := by rw [w64 (by omega) (by omega)]; omega
    rw [hw]
    refine ⟨(dg a (a.length - 1) : Nat), ⟨by omega, by omega⟩, ?_, outb ?_⟩
    · have := lim_getI (l := a) (i := ((a.length - 1 : Nat) : Int)) (by omega) (by omega)
      rw [Int.toNat_natCast] at *; exact this
    · have hc := hcan (dg a (a.length - 1)) (by rw [List.getLast?_eq_getElem?, List.getElem?_eq_getElem (by omega), dg_get (by omega)])
      simp; exact hc
  · exfalso
    have h1 : ¬ (a.length : Int) > 0 := by simpa using h2
    have h3 : ¬ (a.length : Int) = 0 := by simpa using h
    omega
theorem mvalid_ok {r c : Nat} {m : List (List Int)} (hm : Mx r c m) (hs : SzM m) (hr : r ≤ 4294967296) (hc : c ≤ 4294967296) : FnD prog 43 [eM r c m] (vb true) [] := by
  obtain ⟨h1, h2⟩ := hm
  refine vc43_ok _ _ _ (R := Out _) ?_
  unfold vc43
  simp only [rows_length]
  refine ⟨fun h => ?_, fun _ => ⟨fun h => ?_, fun _ => ⟨fun h => ?_, fun _ => ⟨fun t => ∃ i : Nat, t = (i : Int) ∧ i ≤ m.length, fun t => ((m.length : Int) - t).toNat, ⟨0, rfl, by omega⟩, ?_⟩⟩⟩⟩
  · simp at h; omega
  · simp at h; omega
  · simp [h1] at h
  rintro _ ⟨i, rfl, hi⟩
  refine ⟨fun h => ?_, fun h => outb rfl⟩
  have hir : i < m.length := by simpa using h
  have hin : m.getD i [] ∈ m := getD_mem hir
  have hlen := h2 _ hin
  refine ⟨_, ⟨by omega, by omega⟩, rows_getN hir, fun h3 => ?_, fun _ => ⟨false, ?_, fun h4 => by simp at h4, fun _ => ?_⟩⟩
  · rw [row_length, hlen] at h3; simp at h3
  · have := contains72_ok (r := m.getD i []) (f := 77) (fc := []) (p := fun _ => false) (by omega) fun k hk => by
      refine vc77_ok _ _ (R := Out _) ?_
      unfold vc77
      exact ⟨true, ivalid_ok (hs _ hin _ (elr_mem hk)), outb rfl⟩
    have e : (m.getD i []).any (fun _ => false) = false := by simp
    rw [e] at this
    exact this
  · rw [inc64 (by omega)]
    exact ⟨⟨i + 1, rfl, by omega⟩, by show ((m.length : Int) - ((i + 1 : Nat) : Int)).toNat < ((m.length : Int) - (i : Int)).toNat; omega⟩
theorem mzero_ok {r : List Int} (hl : r.length ≤ 4294967296) : FnD prog 46 [vs (row r)] (vb (!r.any fun z => decide (z ≠ 0))) [] := by
  refine vc46_ok _ (R := Out _) ?_
  unfold vc46
  refine ⟨_, contains89_ok (r := r) (f := 82) (fc := []) (p := fun z => decide (z ≠ 0)) hl fun k hk => ?_, outb rfl⟩
  refine vc82_ok _ _ (R := Out _) ?_
  unfold vc82
  refine ⟨_, sign_ok _, outb ?_⟩
  by_cases h : elr r k = 0
  · simp [h]
  · by_cases h2 : elr r k < 0
    · simp [h, h2]
    · simp [h, h2]
end Go.AM
/- What the functions of package matrix answer: sums, differences, multiples. -/
namespace Go.AM
open Go.Proofs.Tryz
theorem size_ok (r c : Int) (m : List (List Int)) : FnD prog 106 [eM r c m] (V.e (E.agg [S.dat (D.int .i64 r), S.dat (D.int .i64 c)])) [] := by
  refine vc106_ok _ _ _ (R := Out _) ?_
  exact ⟨rfl, rfl⟩
end Go.AM
