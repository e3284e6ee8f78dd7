/- What the functions of package integer, and of its reference, answer: the reference's sums, products. -/
import Derived.Test.YtbodjgljjaafaaaLawE
namespace Go.AM
open Go.Proofs.Try

theorem td32 {n : Int} (h : 0 ≤ n) : n.tdiv 4294967296 = n / 4294967296 := Int.tdiv_eq_ediv_of_nonneg h

theorem lim_snoc (o : List Nat) (x : Nat) : lim o ++ [[D.int .u32 (x : Int)]] = lim (o ++ [x]) := by simp [lim]

theorem snoc_lt {o : List Nat} {x : Nat} (h : ∀ y ∈ o, y < 4294967296) (hx : x < 4294967296) : ∀ y ∈ o ++ [x], y < 4294967296 := fun y hy => by
  rcases List.mem_append.1 hy with h1 | h1
  · exact h y h1
  · simp only [List.mem_singleton] at h1; subst h1; exact hx

theorem val_snoc (o : List Nat) (x : Nat) : val (o ++ [x]) = val o + 4294967296 ^ o.length * x := by rw [val_append]; simp [val]

/-- How many digits the reference gives a sum. -/
def sumLen (a b : List Nat) : Nat := if val a + val b < 4294967296 ^ max a.length b.length then max a.length b.length else max a.length b.length + 1

theorem rplus_ok {a b : List Nat} (ha : ∀ x ∈ a, x < 4294967296) (hb : ∀ x ∈ b, x < 4294967296) (hla : a.length ≤ 1099511627776) (hlb : b.length ≤ 1099511627776) :
    FnD prog 131 [vs (lim a), vs (lim b)] (vs (lim (padD (sumLen a b) (val a + val b)))) [] := by
  refine vc131_ok (lim a) (lim b) (R := Out _) ?_
  unfold vc131
  simp only [lim_length]
  refine ⟨fun out c t => ∃ (o : List Nat) (i k : Nat), out = lim o ∧ t = (i : Int) ∧ c = (k : Int) ∧ o.length = i ∧ (∀ x ∈ o, x < 4294967296) ∧ i ≤ max a.length b.length + 1 ∧ k ≤ 1 ∧ (i = max a.length b.length + 1 → k = 0 ∧ 4294967296 ^ max a.length b.length ≤ val a + val b) ∧ val o + 4294967296 ^ i * k = low a i + low b i,
    fun _ _ t => ((max a.length b.length : Nat) + 2 - t).toNat, ⟨[], 0, 0, rfl, rfl, rfl, rfl, fun x hx => by simp at hx, by omega, by omega, fun h => by omega, by simp [val, low_zero]⟩, ?_⟩
  rintro _ _ _ ⟨o, i, k, rfl, rfl, rfl, hol, hod, hia, hk, hlast, hinv⟩
  have hwi : IntKind.i64.wrap ((i : Int) + 1) = ((i + 1 : Nat) : Int) := by rw [w64 (by omega) (by omega)]; simp
  have step : (i < max a.length b.length ∨ 0 < k) → ∀ (x y s : Nat), x = dg a i → y = dg b i → s = k + x + y →
      (((lim o).length + ([[D.int .u32 (IntKind.u32.wrap (s : Int))]] : List (List D)).length) * 4 ≤ 140737488355328) ∧ ((4294967296 : Int) ≠ 0) ∧
      ((∃ (o' : List Nat) (i' k' : Nat), lim o ++ [[D.int .u32 (IntKind.u32.wrap (s : Int))]] = lim o' ∧ IntKind.i64.wrap ((i : Int) + 1) = (i' : Int) ∧ IntKind.u64.wrap ((s : Int).tdiv 4294967296) = (k' : Int) ∧ o'.length = i' ∧ (∀ x ∈ o', x < 4294967296) ∧ i' ≤ max a.length b.length + 1 ∧ k' ≤ 1 ∧
        (i' = max a.length b.length + 1 → k' = 0 ∧ 4294967296 ^ max a.length b.length ≤ val a + val b) ∧ val o' + 4294967296 ^ i' * k' = low a i' + low b i') ∧
        (((max a.length b.length : Nat) : Int) + 2 - IntKind.i64.wrap ((i : Int) + 1)).toNat < (((max a.length b.length : Nat) : Int) + 2 - (i : Int)).toNat) := fun hgo x y s hx hy hs => by
    have hxl : x < 4294967296 := hx ▸ dg_lt ha i
    have hyl : y < 4294967296 := hy ▸ dg_lt hb i
    have hiM : i ≤ max a.length b.length := by
      rcases Nat.lt_or_ge i (max a.length b.length + 1) with h | h
      · omega
      · have := (hlast (by omega)).1; omega
    have e1 : IntKind.u32.wrap (s : Int) = ((s % 4294967296 : Nat) : Int) := by rw [wu32]; omega
    have e2 : IntKind.u64.wrap ((s : Int).tdiv 4294967296) = ((s / 4294967296 : Nat) : Int) := by rw [td32 (by omega), wu64 (by omega) (by omega)]; omega
    rw [e1, e2, hwi, lim_snoc]
    refine ⟨by simp only [lim_length, List.length_singleton]; omega, by decide, ⟨_, i + 1, _, rfl, rfl, rfl, by simp [hol], snoc_lt hod (Nat.mod_lt _ (by decide)), by omega, by omega, fun hl => ?_, ?_⟩, by omega⟩
    · have hi : i = max a.length b.length := by omega
      have ha0 : dg a i = 0 := dg_out (by omega)
      have hb0 : dg b i = 0 := dg_out (by omega)
      have hk0 : 0 < k := by rcases hgo with h | h <;> omega
      rw [low_all (by omega), low_all (by omega), hi] at hinv
      have h1 : 4294967296 ^ max a.length b.length * 1 ≤ 4294967296 ^ max a.length b.length * k := Nat.mul_le_mul_left _ hk0
      exact ⟨by omega, by omega⟩
    · rw [val_snoc, hol, low_succ a, low_succ b, Nat.pow_succ, ← hx, ← hy]
      have := carry_step (4294967296 ^ i) (val o) s k x y _ hinv (by omega)
      omega
  refine ⟨fun hc => ?_, fun hc => ?_⟩
  · have hi : i < a.length := by simpa using hc
    refine ⟨(dg a i : Nat), ⟨by omega, by omega⟩, by simpa using lim_getI (l := a) (i := (i : Int)) (by omega) (by omega), fun hd => ?_, fun hd => ?_⟩
    · have hib : i < b.length := by simpa using hd
      have hxl := dg_lt ha i
      have hyl := dg_lt hb i
      have e : IntKind.u64.wrap (IntKind.u64.wrap ((k : Int) + IntKind.u64.wrap ((dg a i : Nat) : Int)) + IntKind.u64.wrap ((dg b i : Nat) : Int)) = ((k + dg a i + dg b i : Nat) : Int) := by
        rw [wu64 (n := ((dg a i : Nat) : Int)) (by omega) (by omega), wu64 (n := ((dg b i : Nat) : Int)) (by omega) (by omega), wu64 (n := (k : Int) + _) (by omega) (by omega), wu64 (by omega) (by omega)]; omega
      refine ⟨(dg b i : Nat), ⟨by omega, by omega⟩, by simpa using lim_getI (l := b) (i := (i : Int)) (by omega) (by omega), ?_⟩
      rw [e]
      exact step (.inl (by omega)) _ _ _ rfl rfl rfl
    · have hib : b.length ≤ i := by simpa using hd
      have hxl := dg_lt ha i
      have e : IntKind.u64.wrap ((k : Int) + IntKind.u64.wrap ((dg a i : Nat) : Int)) = ((k + dg a i + 0 : Nat) : Int) := by
        rw [wu64 (n := ((dg a i : Nat) : Int)) (by omega) (by omega), wu64 (by omega) (by omega)]; omega
      rw [e]
      exact step (.inl (by omega)) _ 0 _ rfl (dg_out hib).symm rfl
  · have hi : a.length ≤ i := by simpa using hc
    refine ⟨fun hd => ?_, fun hd => ⟨fun he => ?_, fun he => ?_⟩⟩
    · have hib : i < b.length := by simpa using hd
      have hyl := dg_lt hb i
      have e : IntKind.u64.wrap ((k : Int) + IntKind.u64.wrap ((dg b i : Nat) : Int)) = ((k + 0 + dg b i : Nat) : Int) := by
        rw [wu64 (n := ((dg b i : Nat) : Int)) (by omega) (by omega), wu64 (by omega) (by omega)]; omega
      refine ⟨(dg b i : Nat), ⟨by omega, by omega⟩, by simpa using lim_getI (l := b) (i := (i : Int)) (by omega) (by omega), ?_⟩
      rw [e]
      exact step (.inl (by omega)) 0 _ _ (dg_out hi).symm rfl rfl
    · have hib : b.length ≤ i := by simpa using hd
      have hk0 : 0 < k := by simpa using he
      exact step (.inr hk0) 0 0 k (dg_out hi).symm (dg_out hib).symm rfl
    · have hib : b.length ≤ i := by simpa using hd
      have hk0 : k = 0 := by have : ¬ (k : Int) > 0 := by simpa using he
                             omega
      subst hk0
      refine outs ?_
      rw [low_all hi, low_all hib] at hinv
      have hv : val o = val a + val b := by omega
      congr 1
      have hlen : o.length = sumLen a b := by
        unfold sumLen
        split
        · rename_i h
          have : i ≠ max a.length b.length + 1 := fun h2 => by have := (hlast h2).2; omega
          omega
        · rename_i h
          have : i ≠ max a.length b.length := fun h2 => by
            have h3 := val_lt hod
            rw [hol, h2] at h3; omega
          omega
      have := padD_val o hod
      rw [hv, hlen] at this
      exact this

theorem sumLen_le (a b : List Nat) : sumLen a b ≤ max a.length b.length + 1 := by unfold sumLen; split <;> omega

theorem sumLen_fits {a b : List Nat} (ha : ∀ x ∈ a, x < 4294967296) (hb : ∀ x ∈ b, x < 4294967296) : val a + val b < 4294967296 ^ sumLen a b := by
  unfold sumLen
  split
  · assumption
  · exact sum_fits ha hb

theorem wi64 {n : Int} (h0 : -9000000000000000000 ≤ n) (h1 : n ≤ 9000000000000000000) : IntKind.i64.wrap n = n := w64 (by omega) (by omega)

theorem rminus_ok {a b : List Nat} (ha : ∀ x ∈ a, x < 4294967296) (hb : ∀ x ∈ b, x < 4294967296) (hl : a.length ≤ 1099511627776) (hab : b.length ≤ a.length) (hle : val b ≤ val a) :
    FnD prog 132 [vs (lim a), vs (lim b)] (vs (lim (padD a.length (val a - val b)))) [] := by
  refine vc132_ok (lim a) (lim b) (R := Out _) ?_
  unfold vc132
  simp only [lim_length]
  refine ⟨fun out c t => ∃ (o : List Nat) (i k : Nat), out = lim o ∧ t = (i : Int) ∧ c = (k : Int) ∧ o.length = i ∧ (∀ x ∈ o, x < 4294967296) ∧ i ≤ a.length ∧ k ≤ 1 ∧ low a i + 4294967296 ^ i * k = val o + low b i,
    fun _ _ t => ((a.length : Int) - t).toNat, ⟨[], 0, 0, rfl, rfl, rfl, rfl, fun x hx => by simp at hx, by omega, by omega, by simp [val, low_zero]⟩, ?_⟩
  rintro _ _ _ ⟨o, i, k, rfl, rfl, rfl, hol, hod, hia, hk, hinv⟩
  have step : i < a.length → ∀ (x y d k' : Nat), x = dg a i → y = dg b i → x + 4294967296 * k' = d + y + k → d < 4294967296 → k' ≤ 1 →
      (((lim o).length + ([[D.int .u32 (d : Int)]] : List (List D)).length) * 4 ≤ 140737488355328) ∧
      ((∃ (o' : List Nat) (i' k'' : Nat), lim o ++ [[D.int .u32 (d : Int)]] = lim o' ∧ IntKind.i64.wrap ((i : Int) + 1) = (i' : Int) ∧ (k' : Int) = (k'' : Int) ∧ o'.length = i' ∧ (∀ x ∈ o', x < 4294967296) ∧ i' ≤ a.length ∧ k'' ≤ 1 ∧ low a i' + 4294967296 ^ i' * k'' = val o' + low b i') ∧
        ((a.length : Int) - IntKind.i64.wrap ((i : Int) + 1)).toNat < ((a.length : Int) - (i : Int)).toNat) := fun hi x y d k' hx hy hs hd hk' => by
    have hwi : IntKind.i64.wrap ((i : Int) + 1) = ((i + 1 : Nat) : Int) := by rw [w64 (by omega) (by omega)]; simp
    rw [hwi, lim_snoc]
    refine ⟨by simp only [lim_length, List.length_singleton]; omega, ⟨_, i + 1, k', rfl, rfl, rfl, by simp [hol], snoc_lt hod hd, by omega, hk', ?_⟩, by omega⟩
    rw [val_snoc, hol, low_succ a, low_succ b, Nat.pow_succ, ← hx, ← hy]
    exact borrow_step (4294967296 ^ i) _ _ _ k _ x y d hinv hs
  refine ⟨fun hc => ?_, fun hc => ?_⟩
  · have hi : i < a.length := by simpa using hc
    have hxl := dg_lt ha i
    have hyl := dg_lt hb i
    have e1 : IntKind.i64.wrap ((dg a i : Nat) : Int) = (dg a i : Nat) := wi64 (by omega) (by omega)
    have e2 : IntKind.i64.wrap (((dg a i : Nat) : Int) - k) = ((dg a i : Nat) : Int) - k := wi64 (by omega) (by omega)
    refine ⟨(dg a i : Nat), ⟨by omega, by omega⟩, by simpa using lim_getI (l := a) (i := (i : Int)) (by omega) (by omega), fun hd => ?_, fun hd => ?_⟩
    · have e3 : IntKind.i64.wrap ((dg b i : Nat) : Int) = (dg b i : Nat) := wi64 (by omega) (by omega)
      have e4 : IntKind.i64.wrap (((dg a i : Nat) : Int) - k - (dg b i : Nat)) = ((dg a i : Nat) : Int) - k - (dg b i : Nat) := wi64 (by omega) (by omega)
      have e5 : IntKind.i64.wrap (((dg a i : Nat) : Int) - k - (dg b i : Nat) + 4294967296) = ((dg a i : Nat) : Int) - k - (dg b i : Nat) + 4294967296 := wi64 (by omega) (by omega)
      rw [e1, e2]
      have hib : i < b.length := by simpa using hd
      refine ⟨(dg b i : Nat), ⟨by omega, by omega⟩, by simpa using lim_getI (l := b) (i := (i : Int)) (by omega) (by omega), ?_⟩
      rw [e3, e4, e5]
      refine ⟨fun hn => ?_, fun hn => ?_⟩
      · have hn : ((dg a i : Nat) : Int) - k - (dg b i : Nat) < 0 := by simpa using hn
        have e6 : IntKind.u32.wrap (((dg a i : Nat) : Int) - k - (dg b i : Nat) + 4294967296) = ((dg a i + 4294967296 - k - dg b i : Nat) : Int) := by rw [wu32]; omega
        rw [e6]
        exact step hi _ _ _ 1 rfl rfl (by omega) (by omega) (by omega)
      · have hn : ¬ ((dg a i : Nat) : Int) - k - (dg b i : Nat) < 0 := by simpa using hn
        have e6 : IntKind.u32.wrap (((dg a i : Nat) : Int) - k - (dg b i : Nat)) = ((dg a i - k - dg b i : Nat) : Int) := by rw [wu32]; omega
        rw [e6]
        exact step hi _ _ _ 0 rfl rfl (by omega) (by omega) (by omega)
    · have hib : b.length ≤ i := by simpa using hd
      have e5 : IntKind.i64.wrap (((dg a i : Nat) : Int) - k + 4294967296) = ((dg a i : Nat) : Int) - k + 4294967296 := wi64 (by omega) (by omega)
      rw [e1, e2, e5]
      refine ⟨fun hn => ?_, fun hn => ?_⟩
      · have hn : ((dg a i : Nat) : Int) - k < 0 := by simpa using hn
        have e6 : IntKind.u32.wrap (((dg a i : Nat) : Int) - k + 4294967296) = ((dg a i + 4294967296 - k : Nat) : Int) := by rw [wu32]; omega
        rw [e6]
        exact step hi _ 0 _ 1 rfl (dg_out hib).symm (by omega) (by omega) (by omega)
      · have hn : ¬ ((dg a i : Nat) : Int) - k < 0 := by simpa using hn
        have e6 : IntKind.u32.wrap (((dg a i : Nat) : Int) - k) = ((dg a i - k : Nat) : Int) := by rw [wu32]; omega
        rw [e6]
        exact step hi _ 0 _ 0 rfl (dg_out hib).symm (by omega) (by omega) (by omega)
  · have hi : i = a.length := by have : a.length ≤ i := by simpa using hc
                                 omega
    subst hi
    refine outs ?_
    congr 1
    have hv : val o = val a - val b := by
      rw [low_all (Nat.le_refl _), low_all hab] at hinv
      exact borrow_end hk hinv (by rw [← hol]; exact val_lt hod) hle
    have := padD_val o hod
    rw [hv, hol] at this
    exact this

theorem radd_ok {x y : Int} (hx : Sz x) (hy : Sz y) : FnD prog 82 [eI x, eI y] (eI (x + y)) [] := by
  refine vc82_ok _ _ _ _ (R := Out _) ?_
  unfold vc82
  have ax := digs_lt x.natAbs
  have ay := digs_lt y.natAbs
  have cx := digs_canon x.natAbs
  have cy := digs_canon y.natAbs
  have vx := val_digs x.natAbs
  have vy := val_digs y.natAbs
  unfold Sz at hx hy
  refine ⟨fun h => ?_, fun h => ?_⟩
  · have h : (x < 0 ↔ y < 0) := by simpa using h
    have hsl := sumLen_le (dz x) (dz y)
    refine ⟨_, decide (x + y < 0), lim (dz (x + y)), rplus_ok ax ay (by omega) (by omega), made_z (padD_lt _ _) (by rw [padD_length]; simp only [dz] at hsl; omega) ?_, oute rfl⟩
    rw [val_padD _ _ (sumLen_fits ax ay), vx, vy]
    by_cases h1 : x < 0
    · rw [if_pos (by simpa using h1)]; omega
    · rw [if_neg (by simpa using h1)]; omega
  · have h : ¬ (x < 0 ↔ y < 0) := by simpa using h
    refine ⟨_, less_ok ax ay cx cy (by omega), fun hc => ?_, fun hc => ?_⟩
    · have hlt : x.natAbs < y.natAbs := by rw [vx, vy] at hc; simpa using hc
      have hle : val (dz x) ≤ val (dz y) := by rw [vx, vy]; omega
      refine ⟨_, decide (x + y < 0), lim (dz (x + y)), rminus_ok ay ax (by omega) (len_le_of_val ay cx hle) hle, made_z (padD_lt _ _) (by rw [padD_length]; omega) ?_, oute rfl⟩
      rw [val_padD _ _ (diff_fits ay _), vx, vy]
      by_cases h1 : y < 0
      · rw [if_pos (by simpa using h1)]; omega
      · rw [if_neg (by simpa using h1)]; omega
    · have hge : y.natAbs ≤ x.natAbs := by
        rw [vx, vy] at hc
        simpa using hc
      have hle : val (dz y) ≤ val (dz x) := by rw [vx, vy]; omega
      refine ⟨_, decide (x + y < 0), lim (dz (x + y)), rminus_ok ax ay (by omega) (len_le_of_val ax cy hle) hle, made_z (padD_lt _ _) (by rw [padD_length]; omega) ?_, oute rfl⟩
      rw [val_padD _ _ (diff_fits ax _), vx, vy]
      by_cases h1 : x < 0
      · rw [if_pos (by simpa using h1)]; omega
      · rw [if_neg (by simpa using h1)]; omega

end Go.AM
