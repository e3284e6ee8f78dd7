/- What the functions of package integer, and of its reference, answer: the reference's products, differences. -/
import Derived.Test.YtbodjgljjaafaaaLawG
namespace Go.AM
open Go.Proofs.Try

theorem rmul_ok {x y : Int} (hx : Sz x) (hy : Sz y) : FnD prog 110 [eI x, eI y] (eI (x * y)) [] := by
  refine vc110_ok _ _ _ _ (R := Out _) ?_
  unfold vc110
  obtain ⟨a, hae⟩ : ∃ a, a = digs x.natAbs := ⟨_, rfl⟩
  obtain ⟨b, hbe⟩ : ∃ b, b = digs y.natAbs := ⟨_, rfl⟩
  have ha : ∀ z ∈ a, z < 4294967296 := hae ▸ digs_lt x.natAbs
  have hb : ∀ z ∈ b, z < 4294967296 := hbe ▸ digs_lt y.natAbs
  have va : val a = x.natAbs := hae ▸ val_digs _
  have vb' : val b = y.natAbs := hbe ▸ val_digs _
  have hla : a.length ≤ 1073741824 := hae ▸ hx
  have hlb : b.length ≤ 1073741824 := hbe ▸ hy
  rw [← hae, ← hbe]
  simp only [lim_length]
  have hw0 : IntKind.i64.wrap ((a.length : Int) + (b.length : Int)) = ((a.length + b.length : Nat) : Int) := by rw [w64 (by omega) (by omega)]; simp
  have hw : IntKind.i64.wrap (((a.length + b.length : Nat) : Int) + 1) = ((a.length + b.length + 1 : Nat) : Int) := by rw [w64 (by omega) (by omega)]; simp
  rw [hw0, hw]
  refine ⟨⟨by omega, by omega, by omega⟩, fun out t => ∃ (o : List Nat) (i : Nat), out = lim o ∧ t = (i : Int) ∧ o.length = a.length + b.length + 1 ∧ (∀ z ∈ o, z < 4294967296) ∧ i ≤ a.length ∧ (∀ j, i + b.length ≤ j → dg o j = 0) ∧ val o = low a i * val b,
    fun _ t => ((a.length : Int) - t).toNat, ⟨List.replicate (a.length + b.length + 1) 0, 0, by rw [Int.toNat_natCast, lim_rep], rfl, by simp, fun z hz => by rw [List.eq_of_mem_replicate hz]; decide, by omega, fun j _ => dg_rep0 _ j, by simp [low_zero, val_rep0]⟩, ?_⟩
  rintro _ _ ⟨o, i, rfl, rfl, hol, hod, hia, hzero, hinv⟩
  refine ⟨fun hc => ?_, fun hc => ?_⟩
  · have hi : i < a.length := by simpa using hc
    have hxl := dg_lt ha i
    refine ⟨fun out c t => ∃ (o1 : List Nat) (k cc : Nat), out = lim o1 ∧ t = (k : Int) ∧ c = (cc : Int) ∧ o1.length = a.length + b.length + 1 ∧ (∀ z ∈ o1, z < 4294967296) ∧ k ≤ b.length + 1 ∧ cc < 4294967296 ∧ (k = b.length + 1 → cc = 0) ∧ (∀ j, i + b.length + 1 ≤ j → dg o1 j = 0) ∧ (k ≤ b.length → dg o1 (i + b.length) = 0) ∧
        val o1 + 4294967296 ^ (i + k) * cc = low a i * val b + 4294967296 ^ i * dg a i * low b k,
      fun _ _ t => ((b.length : Int) + 2 - t).toNat, ⟨o, 0, 0, rfl, rfl, rfl, hol, hod, by omega, by omega, fun h => by omega, fun j hj => hzero j (by omega), fun _ => hzero _ (by omega), by simp [low_zero, hinv]⟩, ?_⟩
    rintro _ _ _ ⟨o1, k, cc, rfl, rfl, rfl, hol1, hod1, hkb, hcc, hlast, hz1, hz2, hinv1⟩
    have hik : IntKind.i64.wrap ((i : Int) + (k : Int)) = ((i + k : Nat) : Int) := by rw [w64 (by omega) (by omega)]; simp
    have hk1 : IntKind.i64.wrap ((k : Int) + 1) = ((k + 1 : Nat) : Int) := by rw [w64 (by omega) (by omega)]; simp
    have hi1 : IntKind.i64.wrap ((i : Int) + 1) = ((i + 1 : Nat) : Int) := by rw [w64 (by omega) (by omega)]; simp
    rw [hik, hk1, hi1]
    have step : k ≤ b.length → ∀ s : Nat, s = cc + dg a i * dg b k + dg o1 (i + k) → s / 4294967296 < 4294967296 → (k = b.length → s / 4294967296 = 0) →
        (∃ (o2 : List Nat) (k2 c2 : Nat), (lim o1).set ((i + k : Nat) : Int).toNat [D.int .u32 ((s % 4294967296 : Nat) : Int)] = lim o2 ∧ ((k + 1 : Nat) : Int) = (k2 : Int) ∧ ((s / 4294967296 : Nat) : Int) = (c2 : Int) ∧ o2.length = a.length + b.length + 1 ∧ (∀ z ∈ o2, z < 4294967296) ∧ k2 ≤ b.length + 1 ∧ c2 < 4294967296 ∧ (k2 = b.length + 1 → c2 = 0) ∧
          (∀ j, i + b.length + 1 ≤ j → dg o2 j = 0) ∧ (k2 ≤ b.length → dg o2 (i + b.length) = 0) ∧ val o2 + 4294967296 ^ (i + k2) * c2 = low a i * val b + 4294967296 ^ i * dg a i * low b k2) ∧
        ((b.length : Int) + 2 - ((k + 1 : Nat) : Int)).toNat < ((b.length : Int) + 2 - (k : Int)).toNat := fun hkl s hs hsb hsl => by
      refine ⟨⟨o1.set (i + k) (s % 4294967296), k + 1, s / 4294967296, by rw [Int.toNat_natCast, lim_set], rfl, rfl, by simp [hol1], set_lt hod1 (Nat.mod_lt _ (by decide)), by omega, hsb, fun h => hsl (by omega), fun j hj => by rw [dg_set_ne (by omega)]; exact hz1 j hj, fun h => by rw [dg_set_ne (by omega)]; exact hz2 hkl, ?_⟩, by omega⟩
      have hset := val_set (o := o1) (j := i + k) (s % 4294967296) (by omega)
      rw [show i + (k + 1) = i + k + 1 by omega, Nat.pow_succ (m := i + k), low_succ b]
      have hp : 4294967296 ^ (i + k) * (dg a i * dg b k) = 4294967296 ^ i * dg a i * (4294967296 ^ k * dg b k) := by
        rw [Nat.pow_add]; simp only [Nat.mul_assoc, Nat.mul_left_comm]
      exact mul_step hset hs hinv1 hp
    refine ⟨fun hd => ?_, fun hd => ⟨fun he => ?_, fun he => ?_⟩⟩
    · have hk : k < b.length := by simpa using hd
      have hyl := dg_lt hb k
      have hdl := dg_lt hod1 (i + k)
      obtain ⟨g1, g2, g3⟩ := dig_bound hxl hyl hdl hcc
      refine ⟨(dg o1 (i + k) : Nat), ?_, ?_, (dg a i : Nat), (dg b k : Nat), ⟨by omega, by omega⟩, by simpa using lim_getI (l := a) (i := (i : Int)) (by omega) (by omega), ⟨by omega, by omega⟩, by simpa using lim_getI (l := b) (i := (k : Int)) (by omega) (by omega), by decide, ?_⟩
      · rw [lim_length]; omega
      · have := lim_getI (l := o1) (i := ((i + k : Nat) : Int)) (by omega) (by omega)
        rw [Int.toNat_natCast] at *; exact this
      · have e0 : ((dg a i : Nat) : Int) * ((dg b k : Nat) : Int) = ((dg a i * dg b k : Nat) : Int) := by simp
        obtain ⟨s, hs⟩ : ∃ s, s = cc + dg a i * dg b k + dg o1 (i + k) := ⟨_, rfl⟩
        rw [← hs] at g2 g3
        have e : IntKind.u64.wrap (IntKind.u64.wrap ((cc : Int) + IntKind.u64.wrap ((dg o1 (i + k) : Nat) : Int)) + IntKind.u64.wrap (IntKind.u64.wrap ((dg a i : Nat) : Int) * IntKind.u64.wrap ((dg b k : Nat) : Int))) = (s : Int) := by
          rw [wu64 (n := ((dg a i : Nat) : Int)) (by omega) (by omega), wu64 (n := ((dg b k : Nat) : Int)) (by omega) (by omega), wu64 (n := ((dg o1 (i + k) : Nat) : Int)) (by omega) (by omega), e0]
          generalize dg a i * dg b k = q at *
          rw [wu64 (n := (cc : Int) + _) (by omega) (by omega), wu64 (n := (q : Int)) (by omega) (by omega), wu64 (by omega) (by omega)]; omega
        have e2 : IntKind.u64.wrap ((s : Int).tdiv 4294967296) = ((s / 4294967296 : Nat) : Int) := by rw [td32 (by omega), wu64 (by omega) (by omega)]; omega
        have e3 : IntKind.u32.wrap (s : Int) = ((s % 4294967296 : Nat) : Int) := by rw [wu32]; omega
        rw [e, e2, e3]
        exact step (by omega) s hs g2 (fun h => by omega)
    · have hk : b.length ≤ k := by simpa using hd
      have hc0 : 0 < cc := by simpa using he
      have hkeq : k = b.length := by
        rcases Nat.lt_or_ge b.length k with h | h
        · have := hlast (by omega); omega
        · omega
      have hd0 : dg o1 (i + k) = 0 := by rw [hkeq]; exact hz2 (by omega)
      refine ⟨0, ?_, ?_, by decide, ?_⟩
      · rw [lim_length]; omega
      · have := lim_getI (l := o1) (i := ((i + k : Nat) : Int)) (by omega) (by omega)
        rw [Int.toNat_natCast] at *; rw [hd0] at this; exact this
      · have e : IntKind.u64.wrap ((cc : Int) + IntKind.u64.wrap 0) = (cc : Int) := by
          rw [wu64 (n := 0) (by omega) (by omega), wu64 (by omega) (by omega)]; omega
        have e2 : IntKind.u64.wrap ((cc : Int).tdiv 4294967296) = ((cc / 4294967296 : Nat) : Int) := by rw [td32 (by omega), wu64 (by omega) (by omega)]; omega
        have e3 : IntKind.u32.wrap (cc : Int) = ((cc % 4294967296 : Nat) : Int) := by rw [wu32]; omega
        rw [e, e2, e3]
        exact step (by omega) cc (by rw [hd0, dg_out hk]; simp) (by omega) (fun _ => by omega)
    · have hk : b.length ≤ k := by simpa using hd
      have hc0 : cc = 0 := by have : ¬ (cc : Int) > 0 := by simpa using he
                              omega
      subst hc0
      refine ⟨⟨o1, i + 1, rfl, rfl, hol1, hod1, by omega, fun j hj => hz1 j (by omega), ?_⟩, by show ((a.length : Int) - ((i + 1 : Nat) : Int)).toNat < ((a.length : Int) - (i : Int)).toNat; omega⟩
      rw [Nat.mul_zero, Nat.add_zero, low_all hk] at hinv1
      rw [hinv1, low_succ, Nat.add_mul]
  · have hi : i = a.length := by have : a.length ≤ i := by simpa using hc
                                 omega
    subst hi
    rw [low_all (Nat.le_refl _)] at hinv
    refine ⟨decide (x * y < 0), lim (dz (x * y)), made_z hod (by omega) ?_, oute rfl⟩
    rw [hinv, va, vb', Int.natCast_mul]
    by_cases h1 : x < 0 <;> by_cases h2 : y < 0
    · rw [if_neg (by simp [h1, h2]), show ((x.natAbs : Nat) : Int) = -x by omega, show ((y.natAbs : Nat) : Int) = -y by omega, Int.neg_mul_neg]
    · rw [if_pos (by simp [h1, h2]), show ((x.natAbs : Nat) : Int) = -x by omega, show ((y.natAbs : Nat) : Int) = y by omega, Int.neg_mul, Int.neg_neg]
    · rw [if_pos (by simp [h1, h2]), show ((x.natAbs : Nat) : Int) = x by omega, show ((y.natAbs : Nat) : Int) = -y by omega, Int.mul_neg, Int.neg_neg]
    · rw [if_neg (by simp [h1, h2]), show ((x.natAbs : Nat) : Int) = x by omega, show ((y.natAbs : Nat) : Int) = y by omega]

theorem rvalid_ok (z : Int) (hz : Sz z) : FnD prog 127 [eI z] (vb true) [] := by
  refine vc127_ok _ _ (R := Out _) ?_
  unfold vc127
  simp only [lim_length]
  unfold Sz at hz
  refine ⟨fun h => outb ?_, fun h => ?_⟩
  · have h0 : (dz z).length = 0 := by have : ((dz z).length : Int) = 0 := by simpa using h
                                      omega
    have : z = 0 := by have := digs_nil.1 (List.length_eq_zero_iff.1 h0); omega
    subst this; rfl
  · have h0 : 0 < (dz z).length := by
      have : ¬ ((dz z).length : Int) = 0 := by simpa using h
      omega
    have hw : IntKind.i64.wrap (((dz z).length : Int) - 1) = (((dz z).length - 1 : Nat) : Int) := by
      simp only [dz] at *
      rw [w64 (by omega) (by omega)]; omega
    rw [hw]
    refine ⟨(dg (dz z) ((dz z).length - 1) : Nat), ⟨by omega, by simp only [dz] at h0 ⊢; omega⟩, ?_, outb ?_⟩
    · have := lim_getI (l := dz z) (i := (((dz z).length - 1 : Nat) : Int)) (by omega) (by simp only [dz] at h0 ⊢; omega)
      rw [Int.toNat_natCast] at *; exact this
    · have hc := digs_canon z.natAbs (dg (dz z) ((dz z).length - 1)) (by
        rw [List.getLast?_eq_getElem?, List.getElem?_eq_getElem (by simp only [dz] at h0; omega), dg_get (by simp only [dz] at h0; omega)])
      simp; exact hc

end Go.AM
