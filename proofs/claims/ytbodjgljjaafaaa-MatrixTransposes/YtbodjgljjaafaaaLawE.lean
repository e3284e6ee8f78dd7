/- What the functions of package integer, and of its reference, answer: over the integers. -/
import Derived.Test.YtbodjgljjaafaaaLawD
namespace Go.AM
open Go.Proofs.Try

/-- Not too long. -/
def Sz (z : Int) : Prop := (digs z.natAbs).length ≤ 1073741824

theorem Sz.of_lt {z : Int} (k : Nat) (hk : k ≤ 1073741824) (h : z.natAbs < 4294967296 ^ k) : Sz z := Nat.le_trans (digs_len h) hk

abbrev dz (z : Int) : List Nat := digs z.natAbs

theorem oute {z z' : Int} (h : z = z') : Out (eI z') (V.e (E.agg [S.dat (D.bool (decide (z < 0))), S.dat (D.sl (lim (digs z.natAbs)))])) [] := by subst h; exact ⟨rfl, rfl⟩

theorem pad_val {a b k : Nat} (h : b < 4294967296 ^ k) (ha : a = b) : val (padD k a) = b := by subst ha; exact val_padD k a h

theorem sum_fits {a b : List Nat} (ha : ∀ x ∈ a, x < 4294967296) (hb : ∀ x ∈ b, x < 4294967296) : val a + val b < 4294967296 ^ (max a.length b.length + 1) := by
  have h1 := val_lt ha
  have h2 := val_lt hb
  have h3 : 4294967296 ^ a.length ≤ 4294967296 ^ max a.length b.length := Nat.pow_le_pow_right (by decide) (Nat.le_max_left _ _)
  have h4 : 4294967296 ^ b.length ≤ 4294967296 ^ max a.length b.length := Nat.pow_le_pow_right (by decide) (Nat.le_max_right _ _)
  rw [Nat.pow_succ]
  generalize 4294967296 ^ max a.length b.length = q at *
  omega

theorem diff_fits {a : List Nat} (ha : ∀ x ∈ a, x < 4294967296) (v : Nat) : val a - v < 4294967296 ^ a.length := Nat.lt_of_le_of_lt (Nat.sub_le _ _) (val_lt ha)

theorem len_le_of_val {a b : List Nat} (ha : ∀ x ∈ a, x < 4294967296) (cb : canon b) (h : val b ≤ val a) : b.length ≤ a.length := by
  apply Classical.byContradiction
  intro hn
  have := val_lt_of_len ha cb (by omega)
  omega

theorem sign_ok (z : Int) : FnD prog 91 [eI z] (vi (if z = 0 then 0 else if z < 0 then -1 else 1)) [] := by
  refine vc91_ok _ _ (R := Out _) ?_
  unfold vc91
  simp only [lim_length]
  have hnil : (dz z).length = 0 ↔ z = 0 := by rw [List.length_eq_zero_iff, digs_nil]; omega
  refine ⟨fun h => outi ?_, fun h => ⟨fun h2 => outi ?_, fun h2 => outi ?_⟩⟩
  · have : (dz z).length = 0 := by have h : ((dz z).length : Int) = 0 := by simpa using h
                                   omega
    rw [if_pos (hnil.1 this)]
  all_goals
    have : ¬ z = 0 := fun hz => by
      have h : ¬ ((dz z).length : Int) = 0 := by simpa using h
      exact h (by rw [hnil.2 hz]; rfl)
    rw [if_neg this]
  · rw [if_pos (by simpa using h2)]
  · rw [if_neg (by simpa using h2)]

theorem rsign_ok (z : Int) : FnD prog 92 [eI z] (vi (if z = 0 then 0 else if z < 0 then -1 else 1)) [] := by
  refine vc92_ok _ _ (R := Out _) ?_
  unfold vc92
  simp only [lim_length]
  have hnil : (dz z).length = 0 ↔ z = 0 := by rw [List.length_eq_zero_iff, digs_nil]; omega
  refine ⟨fun h => outi ?_, fun h => ⟨fun h2 => outi ?_, fun h2 => outi ?_⟩⟩
  · have : (dz z).length = 0 := by have h : ((dz z).length : Int) = 0 := by simpa using h
                                   omega
    rw [if_pos (hnil.1 this)]
  all_goals
    have : ¬ z = 0 := fun hz => by
      have h : ¬ ((dz z).length : Int) = 0 := by simpa using h
      exact h (by rw [hnil.2 hz]; rfl)
    rw [if_neg this]
  · rw [if_pos (by simpa using h2)]
  · rw [if_neg (by simpa using h2)]

theorem neg_ok (z : Int) : FnD prog 100 [eI z] (eI (-z)) [] := by
  refine vc100_ok _ _ (R := Out _) ?_
  unfold vc100
  simp only [lim_length]
  have hnil : (dz z).length = 0 ↔ z = 0 := by rw [List.length_eq_zero_iff, digs_nil]; omega
  have hab : (-z).natAbs = z.natAbs := by omega
  refine ⟨fun h => ?_, fun h => ?_⟩
  · have h : 0 ≤ z := by simpa using h
    have := out2 (b := decide (((dz z).length : Int) > 0)) (b' := decide (-z < 0)) (l := lim (dz z)) (l' := lim (dz (-z))) (by
      rw [decide_eq_decide]
      constructor
      · intro h1; have : ¬ z = 0 := fun hz => by have := hnil.2 hz; omega
        omega
      · intro h1; have : ¬ (dz z).length = 0 := fun hl => by have := hnil.1 hl; omega
        omega) (by show lim (digs z.natAbs) = lim (digs (-z).natAbs); rw [hab])
    exact this
  · have h : z < 0 := by simpa using h
    exact out2 (b := false) (b' := decide (-z < 0)) (l := lim (dz z)) (l' := lim (dz (-z))) (by
      rw [eq_comm, decide_eq_false_iff_not]; omega) (by show lim (digs z.natAbs) = lim (digs (-z).natAbs); rw [hab])

theorem norm_z {l : List Nat} {neg : Bool} {z : Int} (hB : ∀ x ∈ l, x < 4294967296) (hl : l.length ≤ 1099511627776) (hz : (if neg then -(val l : Int) else val l) = z) :
    FnD prog 144 [vs (lim l), vb neg] (eI z) [] := hz ▸ norm_eI l neg hB hl

theorem made_z {l : List Nat} {neg : Bool} {z : Int} (hB : ∀ x ∈ l, x < 4294967296) (hl : l.length ≤ 1099511627776) (hz : (if neg then -(val l : Int) else val l) = z) :
    FnD prog 71 [vs (lim l), vb neg] (eI z) [] := hz ▸ made_eI l neg hB hl

theorem add_ok {x y : Int} (hx : Sz x) (hy : Sz y) : FnD prog 106 [eI x, eI y] (eI (x + y)) [] := by
  refine vc106_ok _ _ _ _ (R := Out _) ?_
  unfold vc106
  have ax := digs_lt x.natAbs
  have ay := digs_lt y.natAbs
  have cx := digs_canon x.natAbs
  have cy := digs_canon y.natAbs
  have vx := val_digs x.natAbs
  have vy := val_digs y.natAbs
  unfold Sz at hx hy
  refine ⟨fun h => ?_, fun h => ?_⟩
  · have h : (x < 0 ↔ y < 0) := by simpa using h
    refine ⟨_, decide (x + y < 0), lim (dz (x + y)), plus_ok ax ay (by omega) (by omega), norm_z (padD_lt _ _) (by rw [padD_length]; omega) ?_, oute rfl⟩
    rw [val_padD _ _ (sum_fits ax ay), vx, vy]
    by_cases h1 : x < 0
    · rw [if_pos (by simpa using h1)]; omega
    · rw [if_neg (by simpa using h1)]; omega
  · have h : ¬ (x < 0 ↔ y < 0) := by simpa using h
    refine ⟨_, compare_ok ax ay cx cy (by omega), fun hc => ?_, fun hc => ?_⟩
    · have hlt : x.natAbs < y.natAbs := by
        rw [vx, vy] at hc
        unfold cmpI at hc
        simp only [decide_eq_true_eq] at hc
        split at hc
        · omega
        · split at hc <;> omega
      have hle : val (dz x) ≤ val (dz y) := by rw [vx, vy]; omega
      refine ⟨_, decide (x + y < 0), lim (dz (x + y)), minus_ok ay ax (by omega) (len_le_of_val ay cx hle) hle, norm_z (padD_lt _ _) (by rw [padD_length]; omega) ?_, oute rfl⟩
      rw [val_padD _ _ (diff_fits ay _), vx, vy]
      by_cases h1 : y < 0
      · rw [if_pos (by simpa using h1)]; omega
      · rw [if_neg (by simpa using h1)]; omega
    · have hge : y.natAbs ≤ x.natAbs := by
        rw [vx, vy] at hc
        unfold cmpI at hc
        simp only [decide_eq_false_iff_not] at hc
        split at hc
        · omega
        · split at hc <;> omega
      have hle : val (dz y) ≤ val (dz x) := by rw [vx, vy]; omega
      refine ⟨_, decide (x + y < 0), lim (dz (x + y)), minus_ok ax ay (by omega) (len_le_of_val ax cy hle) hle, norm_z (padD_lt _ _) (by rw [padD_length]; omega) ?_, oute rfl⟩
      rw [val_padD _ _ (diff_fits ax _), vx, vy]
      by_cases h1 : x < 0
      · rw [if_pos (by simpa using h1)]; omega
      · rw [if_neg (by simpa using h1)]; omega

theorem Sz.neg {z : Int} (h : Sz z) : Sz (-z) := by unfold Sz at *; rwa [Int.natAbs_neg]

theorem sub_ok {x y : Int} (hx : Sz x) (hy : Sz y) : FnD prog 109 [eI x, eI y] (eI (x - y)) [] := by
  refine vc109_ok _ _ _ _ (R := Out _) ?_
  unfold vc109
  exact ⟨_, _, _, _, neg_ok y, add_ok hx hy.neg, oute (by omega)⟩

theorem cmp_ok {x y : Int} (hx : Sz x) (hy : Sz y) : FnD prog 148 [eI x, eI y] (vi (cmpI x y)) [] := by
  refine vc148_ok _ _ _ _ (R := Out _) ?_
  unfold vc148
  have ax := digs_lt x.natAbs
  have ay := digs_lt y.natAbs
  have cx := digs_canon x.natAbs
  have cy := digs_canon y.natAbs
  have vx := val_digs x.natAbs
  have vy := val_digs y.natAbs
  unfold Sz at hx hy
  have c1 := compare_ok ax ay cx cy (by omega)
  have c2 := compare_ok ay ax cy cx (by omega)
  refine ⟨fun h1 => ⟨fun h2 => outi ?_, fun h2 => ⟨fun h3 => ⟨fun h4 => ?_, fun h4 => ⟨_, c2, outi ?_⟩⟩, fun h3 => ?_⟩⟩, fun h1 => ⟨fun h2 => ⟨fun h3 => outi ?_, fun h3 => ?_⟩, fun h2 => ⟨_, c1, outi ?_⟩⟩⟩
  · have a1 : x < 0 := by simpa using h1
    have a2 : 0 ≤ y := by simpa using h2
    unfold cmpI; rw [if_pos (by omega)]
  · rw [h1] at h4; simp at h4
  · have a1 : x < 0 := by simpa using h1
    have a2 : y < 0 := by simpa using h3
    rw [vx, vy]; unfold cmpI
    repeat' split
    all_goals omega
  · rw [h3] at h2; simp at h2
  · have a1 : 0 ≤ x := by simpa using h1
    have a2 : y < 0 := by simpa using h2
    unfold cmpI; rw [if_neg (by omega), if_pos (by omega)]
  · rw [h1] at h3; simp at h3
  · have a1 : 0 ≤ x := by simpa using h1
    have a2 : 0 ≤ y := by simpa using h2
    rw [vx, vy]; unfold cmpI
    repeat' split
    all_goals omega

/-- The two digits of an integer of 64 bits. -/
theorem of_digits (n : Int) (h0 : -9223372036854775808 ≤ n) (h1 : n ≤ 9223372036854775807) :
    (IntKind.u64.wrap n).fdiv (2 ^ (min (32 : Int).toNat IntKind.u64.bits)) = (IntKind.u64.wrap n) / 4294967296 ∧ (0 ≤ n → IntKind.u64.wrap n = n) ∧ (n < 0 → IntKind.u64.wrap (0 - IntKind.u64.wrap n) = -n) := by
  refine ⟨sh32, fun h => wu64 h (by omega), fun h => ?_⟩
  rw [wu64', wu64']; omega

theorem val2 (a b : Nat) : val [a, b] = a + 4294967296 * b := by simp [val]

theorem of_ok (n : Int) (h0 : -9223372036854775808 ≤ n) (h1 : n ≤ 9223372036854775807) : FnD prog 108 [.e (.sc (.dat (.int .i64 n)))] (eI n) [] := by
  refine vc108_ok n (R := Out _) ?_
  unfold vc108
  obtain ⟨_, p2, p3⟩ := of_digits n h0 h1
  have key : ∀ (m : Nat) (neg : Bool), m < 18446744073709551616 → ∀ z : Int, (if neg then -(m : Int) else m) = z →
      FnD prog 144 [vs [[D.int .u32 (IntKind.u32.wrap (m : Int))], [D.int .u32 (IntKind.u32.wrap ((m : Int) / 4294967296))]], vb neg] (eI z) [] := fun m neg hm z hz => by
    have e1 : IntKind.u32.wrap (m : Int) = ((m % 4294967296 : Nat) : Int) := by rw [wu32]; omega
    have e2 : IntKind.u32.wrap ((m : Int) / 4294967296) = ((m / 4294967296 : Nat) : Int) := by rw [wu32]; omega
    rw [e1, e2]
    exact norm_z (l := [m % 4294967296, m / 4294967296]) (fun x hx => by
      simp only [List.mem_cons, List.not_mem_nil, or_false] at hx
      rcases hx with rfl | rfl <;> omega) (by simp) (by rw [val2, Nat.mod_add_div]; exact hz)
  refine ⟨fun h => ?_, fun h => ?_⟩
  · have hn : n < 0 := by simpa using h
    refine ⟨decide (n < 0), lim (dz n), by decide, ?_, oute rfl⟩
    rw [p3 hn, sh32]
    have := key (-n).toNat (decide (n < 0)) (by omega) n (by rw [if_pos h]; omega)
    rw [Int.toNat_of_nonneg (by omega)] at this
    exact this
  · have hn : 0 ≤ n := by simpa using h
    refine ⟨decide (n < 0), lim (dz n), by decide, ?_, oute rfl⟩
    rw [p2 hn, sh32]
    have := key n.toNat (decide (n < 0)) (by omega) n (by rw [if_neg (by simp [h])]; omega)
    rw [Int.toNat_of_nonneg (by omega)] at this
    exact this

theorem rof_ok (n : Int) (h0 : -9223372036854775808 ≤ n) (h1 : n ≤ 9223372036854775807) : FnD prog 16 [.e (.sc (.dat (.int .i64 n)))] (eI n) [] := by
  refine vc16_ok n (R := Out _) ?_
  unfold vc16
  obtain ⟨_, p2, p3⟩ := of_digits n h0 h1
  have key : ∀ (m : Nat) (neg : Bool), m < 18446744073709551616 → ∀ z : Int, (if neg then -(m : Int) else m) = z →
      FnD prog 71 [vs [[D.int .u32 (IntKind.u32.wrap (m : Int))], [D.int .u32 (IntKind.u32.wrap ((m : Int) / 4294967296))]], vb neg] (eI z) [] := fun m neg hm z hz => by
    have e1 : IntKind.u32.wrap (m : Int) = ((m % 4294967296 : Nat) : Int) := by rw [wu32]; omega
    have e2 : IntKind.u32.wrap ((m : Int) / 4294967296) = ((m / 4294967296 : Nat) : Int) := by rw [wu32]; omega
    rw [e1, e2]
    exact made_z (l := [m % 4294967296, m / 4294967296]) (fun x hx => by
      simp only [List.mem_cons, List.not_mem_nil, or_false] at hx
      rcases hx with rfl | rfl <;> omega) (by simp) (by rw [val2, Nat.mod_add_div]; exact hz)
  refine ⟨fun h => ?_, fun h => ?_⟩
  · have hn : n < 0 := by simpa using h
    refine ⟨decide (n < 0), lim (dz n), by decide, ?_, oute rfl⟩
    rw [p3 hn, sh32]
    have := key (-n).toNat (decide (n < 0)) (by omega) n (by rw [if_pos h]; omega)
    rw [Int.toNat_of_nonneg (by omega)] at this
    exact this
  · have hn : 0 ≤ n := by simpa using h
    refine ⟨decide (n < 0), lim (dz n), by decide, ?_, oute rfl⟩
    rw [p2 hn, sh32]
    have := key n.toNat (decide (n < 0)) (by omega) n (by rw [if_neg (by simp [h])]; omega)
    rw [Int.toNat_of_nonneg (by omega)] at this
    exact this

theorem rneg_ok {z : Int} (hz : Sz z) : FnD prog 104 [eI z] (eI (-z)) [] := by
  refine vc104_ok _ _ (R := Out _) ?_
  unfold vc104
  unfold Sz at hz
  refine ⟨decide (-z < 0), lim (dz (-z)), made_z (l := dz z) (digs_lt _) (by show (digs z.natAbs).length ≤ _; omega) ?_, oute rfl⟩
  rw [val_digs]
  by_cases h : z < 0
  · rw [if_neg (by simp; exact h)]; omega
  · rw [if_pos (by simp; omega)]; omega

theorem rsame_ok {x y : Int} (hx : Sz x) (hy : Sz y) : FnD prog 40 [eI x, eI y] (vb (decide (x = y))) [] := by
  refine vc40_ok _ _ _ _ (R := Out _) ?_
  unfold vc40
  have ax := digs_lt x.natAbs
  have ay := digs_lt y.natAbs
  have cx := digs_canon x.natAbs
  have cy := digs_canon y.natAbs
  have vx := val_digs x.natAbs
  have vy := val_digs y.natAbs
  unfold Sz at hx hy
  have c1 := less_ok ax ay cx cy (by omega)
  have c2 := less_ok ay ax cy cx (by omega)
  rw [vx, vy] at c1 c2
  refine ⟨fun h => ⟨_, c1, fun h1 => ⟨_, c2, outb ?_⟩, fun h1 => outb ?_⟩, fun h => outb ?_⟩
  · have h : (x < 0 ↔ y < 0) := by simpa using h
    have h1 : ¬ x.natAbs < y.natAbs := by simpa using h1
    by_cases e : x = y
    · subst e; simp
    · have : y.natAbs < x.natAbs := by omega
      simp [e, this]
  · have h1 : x.natAbs < y.natAbs := by simpa using h1
    rw [eq_comm, decide_eq_false_iff_not]; omega
  · have h : ¬ (x < 0 ↔ y < 0) := by simpa using h
    rw [eq_comm, decide_eq_false_iff_not]; omega

end Go.AM
