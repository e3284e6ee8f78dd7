/- What the functions of package integer, and of its reference, answer: products. -/
import Derived.Test.YtbodjgljjaafaaaLawF
namespace Go.AM
open Go.Proofs.Try

/-- One digit changed. -/
theorem val_set : ∀ {o : List Nat} {j : Nat} (x : Nat), j < o.length → val (o.set j x) + 4294967296 ^ j * dg o j = val o + 4294967296 ^ j * x
  | [], j, x, h => by simp at h
  | y :: o, 0, x, _ => by simp [val, dg]; omega
  | y :: o, j + 1, x, h => by
    have ih := val_set (o := o) (j := j) x (by simpa using h)
    have hd : dg (y :: o) (j + 1) = dg o j := by simp [dg]
    rw [List.set_cons_succ, hd]
    simp only [val, Nat.pow_succ]
    have e1 : 4294967296 ^ j * 4294967296 * dg o j = 4294967296 * (4294967296 ^ j * dg o j) := by rw [Nat.mul_comm (4294967296 ^ j), Nat.mul_assoc]
    have e2 : 4294967296 ^ j * 4294967296 * x = 4294967296 * (4294967296 ^ j * x) := by rw [Nat.mul_comm (4294967296 ^ j), Nat.mul_assoc]
    rw [e1, e2]; omega

theorem dg_set_ne {o : List Nat} {i j x : Nat} (h : i ≠ j) : dg (o.set i x) j = dg o j := by
  simp [dg, List.getElem?_set_ne h]

theorem val_rep0 : ∀ n, val (List.replicate n 0) = 0
  | 0 => rfl
  | n + 1 => by simp [List.replicate_succ, val, val_rep0 n]

theorem dg_rep0 (n j : Nat) : dg (List.replicate n 0) j = 0 := by
  unfold dg
  rw [List.getD_eq_getElem?_getD, List.getElem?_replicate]
  split <;> rfl

/-- A product of digits, a digit and a carry. -/
theorem dig_bound {x y d c : Nat} (hx : x < 4294967296) (hy : y < 4294967296) (hd : d < 4294967296) (hc : c < 4294967296) : x * y ≤ 18446744065119617025 ∧ (c + x * y + d) / 4294967296 < 4294967296 ∧ c + x * y + d < 18446744073709551616 := by
  have h : x * y ≤ 4294967295 * 4294967295 := Nat.mul_le_mul (by omega) (by omega)
  refine ⟨by omega, by omega, by omega⟩

/-- One step of the inner loop. -/
theorem mul_step {p v v' c d s L X bl t x y : Nat} (hset : v' + p * d = v + p * (s % 4294967296)) (hs : s = c + x * y + d) (hinv : v + p * c = L + X * bl) (hp : p * (x * y) = X * t) :
    v' + p * 4294967296 * (s / 4294967296) = L + X * (bl + t) := by
  have h1 : p * (s % 4294967296) + p * 4294967296 * (s / 4294967296) = p * s := by rw [Nat.mul_assoc, ← Nat.mul_add, Nat.mod_add_div]
  have h2 : p * s = p * c + p * (x * y) + p * d := by subst hs; simp only [Nat.mul_add]
  rw [Nat.mul_add]
  omega

theorem mul_ok {x y : Int} (hx : Sz x) (hy : Sz y) : FnD prog 113 [eI x, eI y] (eI (x * y)) [] := by
  refine vc113_ok _ _ _ _ (R := Out _) ?_
  unfold vc113
  obtain ⟨a, hae⟩ : ∃ a, a = digs x.natAbs := ⟨_, rfl⟩
  obtain ⟨b, hbe⟩ : ∃ b, b = digs y.natAbs := ⟨_, rfl⟩
  have ha : ∀ z ∈ a, z < 4294967296 := hae ▸ digs_lt x.natAbs
  have hb : ∀ z ∈ b, z < 4294967296 := hbe ▸ digs_lt y.natAbs
  have va : val a = x.natAbs := hae ▸ val_digs _
  have vb' : val b = y.natAbs := hbe ▸ val_digs _
  have hla : a.length ≤ 1073741824 := hae ▸ hx
  have hlb : b.length ≤ 1073741824 := hbe ▸ hy
  rw [← hae, ← hbe]
  simp only [lim_length]
  have hw : IntKind.i64.wrap ((a.length : Int) + (b.length : Int)) = ((a.length + b.length : Nat) : Int) := by rw [w64 (by omega) (by omega)]; simp
  rw [hw]
  refine ⟨⟨by omega, by omega, by omega⟩, fun out t => ∃ (o : List Nat) (i : Nat), out = lim o ∧ t = (i : Int) ∧ o.length = a.length + b.length ∧ (∀ z ∈ o, z < 4294967296) ∧ i ≤ a.length ∧ (∀ j, i + b.length ≤ j → dg o j = 0) ∧ val o = low a i * val b,
    fun _ t => ((a.length : Int) - t).toNat, ⟨List.replicate (a.length + b.length) 0, 0, by rw [Int.toNat_natCast, lim_rep], rfl, by simp, fun z hz => by rw [List.eq_of_mem_replicate hz]; decide, by omega, fun j _ => dg_rep0 _ j, by simp [low_zero, val_rep0]⟩, ?_⟩
  rintro _ _ ⟨o, i, rfl, rfl, hol, hod, hia, hzero, hinv⟩
  refine ⟨fun hc => ?_, fun hc => ?_⟩
  · have hi : i < a.length := by simpa using hc
    have hxl := dg_lt ha i
    refine ⟨(dg a i : Nat), ⟨by omega, by omega⟩, by simpa using lim_getI (l := a) (i := (i : Int)) (by omega) (by omega),
      fun out t c => ∃ (o1 : List Nat) (k cc : Nat), out = lim o1 ∧ t = (k : Int) ∧ c = (cc : Int) ∧ o1.length = a.length + b.length ∧ (∀ z ∈ o1, z < 4294967296) ∧ k ≤ b.length ∧ cc < 4294967296 ∧ (∀ j, i + b.length ≤ j → dg o1 j = 0) ∧
        val o1 + 4294967296 ^ (i + k) * cc = low a i * val b + 4294967296 ^ i * dg a i * low b k,
      fun _ t _ => ((b.length : Int) - t).toNat, ⟨o, 0, 0, rfl, rfl, rfl, hol, hod, by omega, by omega, hzero, by simp [low_zero, hinv]⟩, ?_⟩
    rintro _ _ _ ⟨o1, k, cc, rfl, rfl, rfl, hol1, hod1, hkb, hcc, hz1, hinv1⟩
    have hik : IntKind.i64.wrap ((i : Int) + (k : Int)) = ((i + k : Nat) : Int) := by rw [w64 (by omega) (by omega)]; simp
    refine ⟨fun hd => ?_, fun hd => ?_⟩
    · have hk : k < b.length := by simpa using hd
      have hyl := dg_lt hb k
      have hdl := dg_lt hod1 (i + k)
      obtain ⟨g1, g2, g3⟩ := dig_bound hxl hyl hdl hcc
      refine ⟨(dg b k : Nat), ⟨by omega, by omega⟩, by simpa using lim_getI (l := b) (i := (k : Int)) (by omega) (by omega), (dg o1 (i + k) : Nat), ?_, ?_, by decide, ?_⟩
      · rw [hik, lim_length]; omega
      · have := lim_getI (l := o1) (i := ((i + k : Nat) : Int)) (by omega) (by omega)
        rw [hik]; rw [Int.toNat_natCast] at *; exact this
      · have e0 : ((dg a i : Nat) : Int) * ((dg b k : Nat) : Int) = ((dg a i * dg b k : Nat) : Int) := by simp
        have e : IntKind.u64.wrap ((cc : Int) + IntKind.u64.wrap (IntKind.u64.wrap (IntKind.u64.wrap ((dg a i : Nat) : Int) * IntKind.u64.wrap ((dg b k : Nat) : Int)) + IntKind.u64.wrap ((dg o1 (i + k) : Nat) : Int))) = ((cc + dg a i * dg b k + dg o1 (i + k) : Nat) : Int) := by
          rw [wu64 (n := ((dg a i : Nat) : Int)) (by omega) (by omega), wu64 (n := ((dg b k : Nat) : Int)) (by omega) (by omega), wu64 (n := ((dg o1 (i + k) : Nat) : Int)) (by omega) (by omega), e0]
          generalize dg a i * dg b k = q at *
          rw [wu64 (n := (q : Int)) (by omega) (by omega), wu64 (n := (q : Int) + _) (by omega) (by omega), wu64 (by omega) (by omega)]; omega
        have hk1 : IntKind.i64.wrap ((k : Int) + 1) = ((k + 1 : Nat) : Int) := by rw [w64 (by omega) (by omega)]; simp
        rw [e, hik, sh32, wu32, hk1]
        refine ⟨⟨o1.set (i + k) ((cc + dg a i * dg b k + dg o1 (i + k)) % 4294967296), k + 1, (cc + dg a i * dg b k + dg o1 (i + k)) / 4294967296, ?_, rfl, by omega, by simp [hol1], set_lt hod1 (Nat.mod_lt _ (by decide)), by omega, g2, fun j hj => ?_, ?_⟩, by show ((b.length : Int) - ((k + 1 : Nat) : Int)).toNat < ((b.length : Int) - (k : Int)).toNat; omega⟩
        · rw [Int.toNat_natCast, ← lim_set]; congr 2
        · rw [dg_set_ne (by omega)]; exact hz1 j hj
        · have hset := val_set (o := o1) (j := i + k) ((cc + dg a i * dg b k + dg o1 (i + k)) % 4294967296) (by omega)
          rw [show i + (k + 1) = i + k + 1 by omega, Nat.pow_succ (m := i + k), low_succ b]
          have hp : 4294967296 ^ (i + k) * (dg a i * dg b k) = 4294967296 ^ i * dg a i * (4294967296 ^ k * dg b k) := by
            rw [Nat.pow_add]; simp only [Nat.mul_assoc, Nat.mul_left_comm, Nat.mul_comm]
          exact mul_step hset rfl hinv1 hp
    · have hk : k = b.length := by have : b.length ≤ k := by simpa using hd
                                   omega
      subst hk
      have hi1 : IntKind.i64.wrap ((i : Int) + 1) = ((i + 1 : Nat) : Int) := by rw [w64 (by omega) (by omega)]; simp
      rw [hik, hi1]
      have hcc' : IntKind.u32.wrap (cc : Int) = (cc : Int) := by rw [wu32]; omega
      rw [hcc']
      refine ⟨by rw [lim_length]; omega, ⟨o1.set (i + b.length) cc, i + 1, by rw [Int.toNat_natCast, lim_set], rfl, by simp [hol1], set_lt hod1 hcc, by omega, fun j hj => by rw [dg_set_ne (by omega)]; exact hz1 j (by omega), ?_⟩, by show ((a.length : Int) - ((i + 1 : Nat) : Int)).toNat < ((a.length : Int) - (i : Int)).toNat; omega⟩
      have hset := val_set (o := o1) (j := i + b.length) cc (by omega)
      rw [hz1 (i + b.length) (Nat.le_refl _), Nat.mul_zero, Nat.add_zero] at hset
      rw [hset, hinv1, low_succ, low_all (Nat.le_refl _), Nat.add_mul]
  · have hi : i = a.length := by have : a.length ≤ i := by simpa using hc
                                 omega
    subst hi
    rw [low_all (Nat.le_refl _)] at hinv
    refine ⟨decide (x * y < 0), lim (dz (x * y)), norm_z hod (by omega) ?_, oute rfl⟩
    rw [hinv, va, vb', Int.natCast_mul]
    by_cases h1 : x < 0 <;> by_cases h2 : y < 0
    · rw [if_neg (by simp [h1, h2]), show ((x.natAbs : Nat) : Int) = -x by omega, show ((y.natAbs : Nat) : Int) = -y by omega, Int.neg_mul_neg]
    · rw [if_pos (by simp [h1, h2]), show ((x.natAbs : Nat) : Int) = -x by omega, show ((y.natAbs : Nat) : Int) = y by omega, Int.neg_mul, Int.neg_neg]
    · rw [if_pos (by simp [h1, h2]), show ((x.natAbs : Nat) : Int) = x by omega, show ((y.natAbs : Nat) : Int) = -y by omega, Int.mul_neg, Int.neg_neg]
    · rw [if_neg (by simp [h1, h2]), show ((x.natAbs : Nat) : Int) = x by omega, show ((y.natAbs : Nat) : Int) = y by omega]

end Go.AM
