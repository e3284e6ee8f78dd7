/- integer.long: the end of a round. -/
import Derived.Test.YtipnbapgfbghgaaGreatL5
namespace Go.AM
open Go.Proofs.Tryz
theorem mS_snoc {g u y : Nat} : ∀ (us vs : List Nat) (c bo : Nat), us.length = vs.length →
    mS g c bo (us ++ [u]) (vs ++ [y]) = ((mS g c bo us vs).1 ++ [sbD u (((mS g c bo us vs).2.1 + g * y) % 4294967296) (mS g c bo us vs).2.2],
      ((mS g c bo us vs).2.1 + g * y) / 4294967296, sbB u (((mS g c bo us vs).2.1 + g * y) % 4294967296) (mS g c bo us vs).2.2)
  | [], [], _, _, _ => rfl
  | [], _ :: _, _, _, h => by simp at h
  | _ :: _, [], _, _, h => by simp at h
  | a :: us, b :: vs, c, bo, h => by
    simp only [List.cons_append, mS]
    rw [mS_snoc us vs _ _ (by simpa using h)]
theorem mS_carry {g : Nat} (hg : g ≤ 4294967296) : ∀ (us vs : List Nat) (c bo : Nat), us.length = vs.length → (∀ y ∈ vs, y < 4294967296) → c < 4294967296 → (mS g c bo us vs).2.1 < 4294967296
  | [], [], _, _, _, _, hc => hc
  | [], _ :: _, _, _, h, _, _ => by simp at h
  | _ :: _, [], _, _, h, _, _ => by simp at h
  | a :: us, b :: vs, c, bo, h, hv, hc => by
    simp only [mS]
    refine mS_carry hg us vs _ _ (by simpa using h) (fun y hy => hv y (by simp [hy])) ?_
    have h1 := hv b (by simp)
    have h2 : g * b ≤ 4294967296 * 4294967295 := Nat.mul_le_mul hg (by omega)
    omega
theorem aB_snoc {u y : Nat} : ∀ (us vs : List Nat) (c : Nat), us.length = vs.length →
    aB c (us ++ [u]) (vs ++ [y]) = ((aB c us vs).1 ++ [(u + y + (aB c us vs).2) % 4294967296], (u + y + (aB c us vs).2) / 4294967296)
  | [], [], _, _ => rfl
  | [], _ :: _, _, h => by simp at h
  | _ :: _, [], _, h => by simp at h
  | a :: us, b :: vs, c, h => by
    simp only [List.cons_append, aB]
    rw [aB_snoc us vs _ (by simpa using h)]
theorem set_mid {α : Type} (A B : List α) (x y : α) : (A ++ x :: B).set A.length y = A ++ y :: B := by simp
theorem lim_mid (A B : List Nat) (x : Nat) : (lim (A ++ x :: B))[A.length]? = some [D.int .u32 (x : Int)] := by
  have := lim_get (l := A ++ x :: B) (i := A.length) (by simp)
  rw [this]; simp
theorem lim_setmid (A B : List Nat) (x y : Nat) : (lim (A ++ x :: B)).set A.length [D.int .u32 (y : Int)] = lim (A ++ y :: B) := by
  rw [lim_set, set_mid]
theorem top_bit {u c b : Nat} (hu : u < 4294967296) (hc : c < 4294967296) (hb : b ≤ 1) :
    ((((IntKind.u64.wrap (IntKind.u64.wrap ((u : Int) - (c : Int)) - (b : Int))).fdiv (2 ^ (min (63 : Int).toNat IntKind.u64.bits))) == (1 : Int)) = decide (u < c + b)) := by
  rw [sub_word hu hc hb, sub_high hu hc hb]
  unfold sbB
  split
  · rename_i h; rw [decide_eq_true h]; rfl
  · rename_i h; rw [decide_eq_false h]; rfl
theorem tail_ok {pre seg post vs qs : List Nat} {ut g W v : Nat} (hn : seg.length = vs.length) (hu : ∀ x ∈ pre ++ seg ++ ut :: post, x < 4294967296) (hv : ∀ x ∈ vs, x < 4294967296)
    (hW : W = val seg + ut * 4294967296 ^ seg.length) (hvv : v = val vs) (hv0 : 0 < v) (h1 : W / v ≤ g) (h2 : g ≤ W / v + 1) (hgB : g ≤ 4294967296) (hd : W / v < 4294967296)
    (hq : pre.length < qs.length) (hlen : (pre ++ seg ++ ut :: post).length ≤ 4294967296) (hql : qs.length ≤ 4294967296)
    {J0 : (DL) → (DL) → Int → Prop} {μ0 : (DL) → (DL) → Int → Nat}
    (hJ : ∀ R : List Nat, R.length = vs.length → (∀ x ∈ R, x < 4294967296) → val R = W % v →
      J0 (lim (qs.set pre.length (W / v))) (lim (pre ++ R ++ 0 :: post)) (IntKind.i64.wrap ((pre.length : Int) - 1)) ∧
      μ0 (lim (qs.set pre.length (W / v))) (lim (pre ++ R ++ 0 :: post)) (IntKind.i64.wrap ((pre.length : Int) - 1)) < μ0 (lim qs) (lim (pre ++ seg ++ ut :: post)) (pre.length : Int)) :
    tailP (lim vs) (pre.length : Int) (lim (pre ++ seg ++ ut :: post)) (lim qs) (g : Int) J0 μ0 := by
  have hut : ut < 4294967296 := hu ut (by simp)
  have hseg : ∀ x ∈ seg, x < 4294967296 := fun x hx => hu x (by simp [hx])
  obtain ⟨kr1, kr2⟩ := knuth_round (us := seg) (vs := vs) (ut := ut) (g := g) hn hseg hv hW hvv hv0 h1 h2
  have hl : pre.length + seg.length + 1 + post.length ≤ 4294967296 := by simp only [List.length_append, List.length_cons] at hlen; omega
  unfold tailP
  simp only [lim_length]
  refine ⟨fun u1 t carry borrow => ∃ sk rem vk vrem : List Nat, sk.length = vk.length ∧ rem.length = vrem.length ∧ seg = sk ++ rem ∧ vs = vk ++ vrem ∧ t = (sk.length : Int) ∧ u1 = lim (pre ++ (mS g 0 0 sk vk).1 ++ rem ++ ut :: post) ∧
    carry = (((mS g 0 0 sk vk).2.1 : Nat) : Int) ∧ borrow = (((mS g 0 0 sk vk).2.2 : Nat) : Int), fun _ t _ _ => ((vs.length : Int) - t).toNat, ⟨[], seg, [], vs, rfl, hn, rfl, rfl, rfl, by simp [mS], rfl, rfl⟩, ?_⟩
  rintro _ _ _ _ ⟨sk, rem, vk, vrem, l1, l2, rfl, rfl, rfl, rfl, rfl, rfl⟩
  have hsk : ∀ x ∈ sk, x < 4294967296 := fun x hx => hseg x (by simp [hx])
  have hvk : ∀ x ∈ vk, x < 4294967296 := fun x hx => hv x (by simp [hx])
  obtain ⟨_, m2, m3, m4⟩ := mS_val (g := g) sk vk 0 0 l1 hsk (by omega)
  have mc := mS_carry hgB sk vk 0 0 l1 hvk (by omega)
  simp only [List.length_append] at hl hn
  refine ⟨fun h => ?_, fun h => ?_⟩
  · have hk : sk.length < (vk ++ vrem).length := by have h' := of_decide_eq_true h; omega
    simp only [List.length_append] at hk
    obtain ⟨u, rem', rfl⟩ : ∃ u rem', rem = u :: rem' := by
      cases rem with
      | nil => simp at l2; omega
      | cons x l => exact ⟨x, l, rfl⟩
    obtain ⟨y, vrem', rfl⟩ : ∃ y vrem', vrem = y :: vrem' := by
      cases vrem with
      | nil => simp at l2
      | cons x l => exact ⟨x, l, rfl⟩
    have hu0 : u < 4294967296 := hseg u (by simp)
    have hy0 : y < 4294967296 := hv y (by simp)
    simp only [List.length_cons] at hl hn l2 hk
    have hgy : g * y ≤ 4294967296 * 4294967295 := Nat.mul_le_mul hgB (by omega)
    generalize hC : (mS g 0 0 sk vk).2.1 = C at mc
    generalize hB : (mS g 0 0 sk vk).2.2 = Bo at m2
    generalize hDs : (mS g 0 0 sk vk).1 = Ds at m3 m4
    have e1 : IntKind.u64.wrap (y : Int) = (y : Int) := wu64 (by omega) (by omega)
    have e2 : IntKind.u64.wrap ((g : Int) * (y : Int)) = ((g * y : Nat) : Int) := by rw [← Int.natCast_mul]; exact wu64 (by omega) (by omega)
    have e3 : IntKind.u64.wrap ((C : Int) + ((g * y : Nat) : Int)) = ((C + g * y : Nat) : Int) := by rw [← Int.natCast_add]; exact wu64 (by omega) (by omega)
    have e4 : IntKind.u32.wrap ((C + g * y : Nat) : Int) = (((C + g * y) % 4294967296 : Nat) : Int) := by rw [wu32]; omega
    have e5 : IntKind.u64.wrap (((C + g * y) % 4294967296 : Nat) : Int) = (((C + g * y) % 4294967296 : Nat) : Int) := wu64 (by omega) (by omega)
    have e6 : IntKind.u64.wrap (u : Int) = (u : Int) := wu64 (by omega) (by omega)
    have e7 : (((C + g * y : Nat) : Int)).fdiv (2 ^ (min (32 : Int).toNat IntKind.u64.bits)) = (((C + g * y) / 4294967296 : Nat) : Int) := by
      have : ((2 : Int) ^ (min (32 : Int).toNat IntKind.u64.bits)) = 4294967296 := by decide
      rw [this, Int.fdiv_eq_ediv_of_nonneg _ (by decide)]; omega
    have ei : IntKind.i64.wrap ((pre.length : Int) + (sk.length : Int)) = (((pre ++ Ds).length : Nat) : Int) := by
      rw [w64 (by omega) (by omega), List.length_append, m4]; omega
    have hlo : (C + g * y) % 4294967296 < 4294967296 := Nat.mod_lt _ (by decide)
    refine ⟨(y : Int), ⟨by omega, by simp only [List.length_append, List.length_cons]; omega⟩, ?_, (u : Int), ⟨?_, ?_⟩, ?_, by decide, ?_⟩
    · rw [Int.toNat_natCast, show sk.length = vk.length from l1]; exact lim_mid _ _ _
    · rw [ei]; omega
    · rw [ei]; simp only [lim_length, List.length_append, List.length_cons]; omega
    · rw [ei, Int.toNat_natCast]
      rw [show pre ++ Ds ++ u :: rem' ++ ut :: post = pre ++ Ds ++ u :: (rem' ++ ut :: post) by simp]
      exact lim_mid _ _ _
    · rw [ei, Int.toNat_natCast, e1, e2, e3, e4, e5, e6, e7, sub_word hu0 hlo m2, sub_low hu0 hlo m2, sub_high hu0 hlo m2]
      rw [show pre ++ Ds ++ u :: rem' ++ ut :: post = pre ++ Ds ++ u :: (rem' ++ ut :: post) by simp, lim_setmid]
      have es := mS_snoc (g := g) (u := u) (y := y) sk vk 0 0 l1
      rw [hC, hB, hDs] at es
      refine ⟨⟨sk ++ [u], rem', vk ++ [y], vrem', by simp [l1], by omega, by simp, by simp, ?_, ?_, ?_, ?_⟩, ?_⟩
      · rw [w64 (by omega) (by omega)]; simp
      · rw [es]; simp
      · rw [es]
      · rw [es]
      · rw [w64 (by omega) (by omega)]; simp only [List.length_append, List.length_cons]; omega
  · have hk : (vk ++ vrem).length ≤ sk.length := by have h' := of_decide_eq_false h; omega
    simp only [List.length_append] at hk
    obtain rfl : vrem = [] := List.length_eq_zero_iff.1 (by omega)
    obtain rfl : rem = [] := List.length_eq_zero_iff.1 (by simpa using l2)
    simp only [List.append_nil] at *
    generalize hC : (mS g 0 0 sk vk).2.1 = C at *
    generalize hB : (mS g 0 0 sk vk).2.2 = Bo at *
    generalize hDs : (mS g 0 0 sk vk).1 = Ds at *
    have ei : IntKind.i64.wrap ((pre.length : Int) + (vk.length : Int)) = (((pre ++ Ds).length : Nat) : Int) := by
      rw [w64 (by omega) (by omega), List.length_append, m4]; omega
    have e6 : IntKind.u64.wrap (ut : Int) = (ut : Int) := wu64 (by omega) (by omega)
    refine ⟨(ut : Int), ⟨?_, ?_⟩, ?_, by decide, fun h => ?_, fun h => ?_⟩
    · rw [ei]; omega
    · rw [ei]; simp only [lim_length, List.length_append, List.length_cons]; omega
    · rw [ei, Int.toNat_natCast]; exact lim_mid _ _ _
    · rw [e6, top_bit hut mc m2] at h
      obtain ⟨k1, k2, k3, k4⟩ := kr2 (by simpa using h)
      have es : IntKind.u32.wrap (IntKind.u64.wrap (IntKind.u64.wrap ((ut : Int) - (C : Int)) - (Bo : Int))) = ((4294967295 : Nat) : Int) := by
        rw [sub_word hut mc m2, wu32]; omega
      rw [e6, es, ei, Int.toNat_natCast, lim_setmid]
      refine ⟨fun u2 t c => ∃ sk2 rem vk2 vrem : List Nat, sk2.length = vk2.length ∧ rem.length = vrem.length ∧ Ds = sk2 ++ rem ∧ vk = vk2 ++ vrem ∧ t = (sk2.length : Int) ∧ u2 = lim (pre ++ (aB 0 sk2 vk2).1 ++ rem ++ 4294967295 :: post) ∧
        c = (((aB 0 sk2 vk2).2 : Nat) : Int), fun _ t _ => ((vk.length : Int) - t).toNat, ⟨[], Ds, [], vk, rfl, by omega, rfl, rfl, rfl, by simp [aB], rfl⟩, ?_⟩
      rintro _ _ _ ⟨sk2, rem, vk2, vrem, l3, l4, rfl, rfl, rfl, rfl, rfl⟩
      obtain ⟨_, a2, a3, a4⟩ := aB_val sk2 vk2 0 l3 (fun x hx => m3 x (by simp [hx])) (fun x hx => hv x (by simp [hx])) (by omega)
      simp only [List.length_append] at m4 hk l1 hl
      refine ⟨fun h => ?_, fun h => ?_⟩
      · have hk2 : sk2.length < (vk2 ++ vrem).length := by have h' := of_decide_eq_true h; omega
        simp only [List.length_append] at hk2
        obtain ⟨u, rem', rfl⟩ : ∃ u rem', rem = u :: rem' := by
          cases rem with
          | nil => simp at l4; omega
          | cons x l => exact ⟨x, l, rfl⟩
        obtain ⟨y, vrem', rfl⟩ : ∃ y vrem', vrem = y :: vrem' := by
          cases vrem with
          | nil => simp at l4
          | cons x l => exact ⟨x, l, rfl⟩
        have hu0 : u < 4294967296 := m3 u (by simp)
        have hy0 : y < 4294967296 := hv y (by simp)
        simp only [List.length_cons] at m4 hk l1 hl l4 hk2
        generalize hDa : (aB 0 sk2 vk2).1 = Da at a3 a4
        generalize hCa : (aB 0 sk2 vk2).2 = Ca at a2
        have ej : IntKind.i64.wrap ((pre.length : Int) + (sk2.length : Int)) = (((pre ++ Da).length : Nat) : Int) := by
          rw [w64 (by omega) (by omega), List.length_append, a4]; omega
        refine ⟨(y : Int), ⟨by omega, by simp only [List.length_append, List.length_cons]; omega⟩, ?_, (u : Int), _, _, ⟨?_, ?_⟩, ?_, add32_ok u y Ca hu0 hy0 a2, ?_⟩
        · rw [Int.toNat_natCast, show sk2.length = vk2.length from l3]; exact lim_mid _ _ _
        · rw [ej]; omega
        · rw [ej]; simp only [lim_length, List.length_append, List.length_cons]; omega
        · rw [ej, Int.toNat_natCast]
          rw [show pre ++ Da ++ u :: rem' ++ 4294967295 :: post = pre ++ Da ++ u :: (rem' ++ 4294967295 :: post) by simp]
          exact lim_mid _ _ _
        · rw [ej, Int.toNat_natCast]
          rw [show pre ++ Da ++ u :: rem' ++ 4294967295 :: post = pre ++ Da ++ u :: (rem' ++ 4294967295 :: post) by simp, lim_setmid]
          have es := aB_snoc (u := u) (y := y) sk2 vk2 0 l3
          rw [hDa, hCa] at es
          refine ⟨⟨sk2 ++ [u], rem', vk2 ++ [y], vrem', by simp [l3], by omega, by simp, by simp, ?_, ?_, ?_⟩, ?_⟩
          · rw [w64 (by omega) (by omega)]; simp
          · rw [es]; simp
          · rw [es]
          · rw [w64 (by omega) (by omega)]; simp only [List.length_append, List.length_cons]; omega
      · have hk2 : (vk2 ++ vrem).length ≤ sk2.length := by have h' := of_decide_eq_false h; omega
        simp only [List.length_append] at hk2
        obtain rfl : vrem = [] := List.length_eq_zero_iff.1 (by omega)
        obtain rfl : rem = [] := List.length_eq_zero_iff.1 (by simpa using l4)
        simp only [List.append_nil] at *
        have ej : (pre ++ sk2).length = (pre ++ (aB 0 sk2 vk2).1).length := by rw [List.length_append, List.length_append, a4]
        refine ⟨((4294967295 : Nat) : Int), ⟨?_, ?_⟩, ?_, ⟨by omega, by omega⟩, ?_⟩
        · rw [ej]; omega
        · rw [ej]; simp only [lim_length, List.length_append, List.length_cons]; omega
        · rw [ej]; exact lim_mid _ _ _
        · have e8 : IntKind.u32.wrap (((4294967295 : Nat) : Int) + ((((aB 0 sk2 vk2).2) : Nat) : Int)) = ((0 : Nat) : Int) := by rw [k3, wu32]; decide
          have e9 : IntKind.u32.wrap (IntKind.u64.wrap ((g : Int) - 1)) = ((W / v : Nat) : Int) := by
            have hk1 := k1
            generalize W / v = Q at hk1 hd
            rw [wu64 (by omega) (by omega), wu32]; omega
          rw [ej, Int.toNat_natCast, e8, e9, lim_setmid, lim_set]
          exact hJ _ (by omega) a3 k4
    · rw [e6, top_bit hut mc m2] at h
      have hge : ¬ ut < C + Bo := by simpa using h
      obtain ⟨k1, k2, k3⟩ := kr1 (by omega)
      have es : IntKind.u32.wrap (IntKind.u64.wrap (IntKind.u64.wrap ((ut : Int) - (C : Int)) - (Bo : Int))) = ((0 : Nat) : Int) := by
        rw [sub_word hut mc m2, wu32]; omega
      have e9 : IntKind.u32.wrap (g : Int) = ((W / v : Nat) : Int) := by
        have hk1 := k1
        generalize W / v = Q at hk1 hd
        rw [wu32]; omega
      rw [e6, es, ei, Int.toNat_natCast, Int.toNat_natCast, e9, lim_setmid, lim_set]
      exact ⟨⟨by omega, by omega⟩, hJ _ (by omega) m3 k2⟩
end Go.AM
/- integer.long: a round. -/
namespace Go.AM
open Go.Proofs.Tryz
theorem val_two (l : List Nat) (x y : Nat) : val (l ++ [x, y]) = val l + 4294967296 ^ l.length * (x + 4294967296 * y) := by
  rw [val_append]; simp [val]
set_option maxRecDepth 100000 in
theorem round_ok {pre lows lowv post qs : List Nat} {ut u2 lo v1 v2 W V : Nat} (hl : lows.length = lowv.length) (hu : ∀ x ∈ pre ++ (lows ++ [u2, lo]) ++ ut :: post, x < 4294967296) (hv : ∀ x ∈ lowv ++ [v2, v1], x < 4294967296)
    (hv1 : 2147483648 ≤ v1) (hW : W = val (lows ++ [u2, lo]) + ut * 4294967296 ^ (lows ++ [u2, lo]).length) (hV : V = val (lowv ++ [v2, v1])) (hlt : W < V * 4294967296)
    (hq : pre.length < qs.length) (hlen : (pre ++ (lows ++ [u2, lo]) ++ ut :: post).length ≤ 4294967296) (hql : qs.length ≤ 4294967296)
    {J0 : (DL) → (DL) → Int → Prop} {μ0 : (DL) → (DL) → Int → Nat}
    (hJ : ∀ R : List Nat, R.length = (lowv ++ [v2, v1]).length → (∀ x ∈ R, x < 4294967296) → val R = W % V →
      J0 (lim (qs.set pre.length (W / V))) (lim (pre ++ R ++ 0 :: post)) (IntKind.i64.wrap ((pre.length : Int) - 1)) ∧
      μ0 (lim (qs.set pre.length (W / V))) (lim (pre ++ R ++ 0 :: post)) (IntKind.i64.wrap ((pre.length : Int) - 1)) < μ0 (lim qs) (lim (pre ++ (lows ++ [u2, lo]) ++ ut :: post)) (pre.length : Int)) :
    roundP (lim (lowv ++ [v2, v1])) (lim (pre ++ (lows ++ [u2, lo]) ++ ut :: post)) (lim qs) (pre.length : Int) J0 μ0 := by
  have hut : ut < 4294967296 := hu ut (by simp)
  have hlo : lo < 4294967296 := hu lo (by simp)
  have hu2 : u2 < 4294967296 := hu u2 (by simp)
  have hv1b : v1 < 4294967296 := hv v1 (by simp)
  have hv2 : v2 < 4294967296 := hv v2 (by simp)
  have hwr : val lows < 4294967296 ^ lows.length := val_lt fun x hx => hu x (by simp [hx])
  have hvr : val lowv < 4294967296 ^ lows.length := by rw [hl]; exact val_lt fun x hx => hv x (by simp [hx])
  have hWe : W = ((ut * 4294967296 + lo) * 4294967296 + u2) * 4294967296 ^ lows.length + val lows := by
    rw [hW, val_two]
    simp only [List.length_append, List.length_cons, List.length_nil, Nat.zero_add, Nat.pow_succ]
    generalize 4294967296 ^ lows.length = P
    have a1 : ut * (P * 4294967296 * 4294967296) = ut * 4294967296 * 4294967296 * P := by
      rw [Nat.mul_assoc P, Nat.mul_comm P, ← Nat.mul_assoc, ← Nat.mul_assoc]
    have a2 : ((ut * 4294967296 + lo) * 4294967296 + u2) * P = ut * 4294967296 * 4294967296 * P + (u2 + 4294967296 * lo) * P := by
      rw [← Nat.add_mul]; exact congrArg (· * P) (by omega)
    rw [a1, a2, Nat.mul_comm P]
    omega
  have hVe : V = (v1 * 4294967296 + v2) * 4294967296 ^ lows.length + val lowv := by
    rw [hV, val_two, ← hl]
    generalize 4294967296 ^ lows.length = P
    rw [Nat.mul_comm P, show v2 + 4294967296 * v1 = v1 * 4294967296 + v2 by omega]
    omega
  have hP : 0 < 4294967296 ^ lows.length := Nat.pow_pos (by decide)
  have hV0 : 0 < V := by
    have : 0 < (v1 * 4294967296 + v2) * 4294967296 ^ lows.length := Nat.mul_pos (by omega) hP
    omega
  have hdig : W / V < 4294967296 := by rw [Nat.div_lt_iff_lt_mul hV0, Nat.mul_comm]; exact hlt
  have tl : ∀ g : Nat, W / V ≤ g → g ≤ W / V + 1 → g ≤ 4294967296 → tailP (lim (lowv ++ [v2, v1])) (pre.length : Int) (lim (pre ++ (lows ++ [u2, lo]) ++ ut :: post)) (lim qs) (g : Int) J0 μ0 := fun g h1 h2 h3 =>
    tail_ok (v := V) (W := W) (by simp [hl]) hu hv hW hV hV0 h1 h2 h3 hdig hq hlen hql hJ
  obtain ⟨f1, f2, f3, f4, f5⟩ := guess_first (v1 := v1) (v2 := v2) (vr := val lowv) (P := 4294967296 ^ lows.length) (u2 := u2) (wr := val lows) (hi := ut) (lo := lo) hv1 hv2 hvr hlo hu2 rfl rfl (by rw [← hWe, ← hVe]; exact hlt) hwr
  rw [← hWe, ← hVe] at f5
  have dec : ∀ {g r : Nat}, g * v1 + r = ut * 4294967296 + lo → (4294967296 ≤ g ∨ r * 4294967296 + u2 < g * v2) → W / V < g := fun {g r} h1 h2 => by
    have := guess_dec (v1 := v1) (v2 := v2) (vr := val lowv) (P := 4294967296 ^ lows.length) (u2 := u2) (wr := val lows) h1 hwr (by rw [← hWe, ← hVe]; exact hlt) h2
    rwa [← hWe, ← hVe] at this
  have gend : ∀ {g r : Nat}, g * v1 + r = ut * 4294967296 + lo → g ≤ 4294967296 → (4294967296 ≤ r ∨ g * v2 ≤ r * 4294967296 + u2) → g ≤ W / V + 1 := fun {g r} h1 h2 h3 => by
    have := guess_end (v1 := v1) (v2 := v2) (vr := val lowv) (P := 4294967296 ^ lows.length) (u2 := u2) (wr := val lows) h1 hv1 hv2 hvr h2 h3
    rwa [← hWe, ← hVe] at this
  clear hWe hVe
  generalize W / V = Q at *
  have L1 : (lim (lowv ++ [v2, v1])).length = lows.length + 2 := by rw [lim_length]; simp [hl]
  have L2 : (lim (pre ++ (lows ++ [u2, lo]) ++ ut :: post)).length = pre.length + lows.length + 3 + post.length := by rw [lim_length]; simp; omega
  have hlen' : pre.length + lows.length + 3 + post.length ≤ 4294967296 := by rw [lim_length] at L2; omega
  have g0 : (lim (pre ++ (lows ++ [u2, lo]) ++ ut :: post))[pre.length + (lows.length + 2)]? = some [dU (ut : Int)] := by
    have := lim_mid (pre ++ (lows ++ [u2, lo])) post ut
    simpa using this
  have g1 : (lim (pre ++ (lows ++ [u2, lo]) ++ ut :: post))[pre.length + (lows.length + 1)]? = some [dU (lo : Int)] := by
    have := lim_mid (pre ++ (lows ++ [u2])) (ut :: post) lo
    simpa using this
  have g2 : (lim (pre ++ (lows ++ [u2, lo]) ++ ut :: post))[pre.length + lows.length]? = some [dU (u2 : Int)] := by
    have := lim_mid (pre ++ lows) (lo :: ut :: post) u2
    simpa using this
  have k1 : (lim (lowv ++ [v2, v1]))[lows.length + 1]? = some [dU (v1 : Int)] := by
    have := lim_mid (lowv ++ [v2]) [] v1
    simpa [hl] using this
  have k2 : (lim (lowv ++ [v2, v1]))[lows.length]? = some [dU (v2 : Int)] := by
    have := lim_mid lowv [v1] v2
    rw [hl]; simpa using this
  generalize hvl : lim (lowv ++ [v2, v1]) = vl at *
  generalize hul : lim (pre ++ (lows ++ [u2, lo]) ++ ut :: post) = ul at *
  unfold roundP
  have i0 : IntKind.i64.wrap ((pre.length : Int) + (vl.length : Int)) = ((pre.length + (lows.length + 2) : Nat) : Int) := by rw [L1, w64 (by omega) (by omega)]; omega
  have i1 : IntKind.i64.wrap (((pre.length + (lows.length + 2) : Nat) : Int) - 1) = ((pre.length + (lows.length + 1) : Nat) : Int) := by rw [w64 (by omega) (by omega)]; omega
  have i2 : IntKind.i64.wrap (((pre.length + (lows.length + 2) : Nat) : Int) - 2) = ((pre.length + lows.length : Nat) : Int) := by rw [w64 (by omega) (by omega)]; omega
  have i3 : IntKind.i64.wrap ((vl.length : Int) - 1) = ((lows.length + 1 : Nat) : Int) := by rw [L1, w64 (by omega) (by omega)]; omega
  have i4 : IntKind.i64.wrap ((vl.length : Int) - 2) = ((lows.length : Nat) : Int) := by rw [L1, w64 (by omega) (by omega)]; omega
  have e1 : IntKind.u64.wrap (v1 : Int) = (v1 : Int) := wu64 (by omega) (by omega)
  have e1' : IntKind.u64.wrap (v2 : Int) = (v2 : Int) := wu64 (by omega) (by omega)
  have e2 : IntKind.u64.wrap (ut : Int) = (ut : Int) := wu64 (by omega) (by omega)
  have e3 : IntKind.u64.wrap (u2 : Int) = (u2 : Int) := wu64 (by omega) (by omega)
  have e4 : bitsI .u64 (· ||| ·) (IntKind.u64.wrap ((ut : Int) * 2 ^ (min (32 : Int).toNat IntKind.u64.bits))) (IntKind.u64.wrap (lo : Int)) = ((ut * 4294967296 + lo : Nat) : Int) := by
    rw [shl32 hut, wu64 (n := (lo : Int)) (by omega) (by omega), or32 hut hlo]
  have e5 : (((ut * 4294967296 + lo : Nat) : Int).tdiv (v1 : Int)) = (((ut * 4294967296 + lo) / v1 : Nat) : Int) := by rw [Int.tdiv_eq_ediv_of_nonneg (by omega)]; rfl
  have e6 : (((ut * 4294967296 + lo : Nat) : Int).tmod (v1 : Int)) = (((ut * 4294967296 + lo) % v1 : Nat) : Int) := by rw [Int.tmod_eq_emod_of_nonneg (by omega)]; rfl
  refine ⟨(ut : Int), (lo : Int), ?_, ?_, by decide, ?_, ?_, (v1 : Int), ?_, ?_, ?_, ?_⟩
  · rw [i0]; omega
  · rw [i0, Int.toNat_natCast]; exact g0
  · rw [i0, i1]; omega
  · rw [i0, i1, Int.toNat_natCast]; exact g1
  · rw [i3]; omega
  · rw [i3, Int.toNat_natCast]; exact k1
  · rw [e1]; omega
  refine ⟨fun guess rest => ∃ g r : Nat, guess = (g : Int) ∧ rest = (r : Int) ∧ g * v1 + r = ut * 4294967296 + lo ∧ Q ≤ g ∧ g ≤ 4294967297 ∧ r < 4294967296, fun guess _ => guess.toNat, ?_, ?_⟩
  · rw [e2, e4, e1, e5, e6]
    generalize (ut * 4294967296 + lo) / v1 = g at *
    generalize (ut * 4294967296 + lo) % v1 = r at *
    exact ⟨g, r, wu64 (by omega) (by omega), rfl, f1, f5, f4, by omega⟩
  clear f1 f2 f3 f4 f5 e4 e5 e6
  rintro _ _ ⟨g, r, rfl, rfl, hg, hge, hgB, hr⟩
  have rr : IntKind.u64.wrap ((r : Int) + (v1 : Int)) = ((r + v1 : Nat) : Int) := by rw [wu64 (by omega) (by omega)]; omega
  rw [e1, rr]
  have less : (4294967296 ≤ g ∨ r * 4294967296 + u2 < g * v2) → IntKind.u64.wrap ((g : Int) - 1) = ((g - 1 : Nat) : Int) ∧ (g - 1) * v1 + (r + v1) = ut * 4294967296 + lo ∧ Q ≤ g - 1 ∧ 1 ≤ g := fun h => by
    have h1 := dec hg h
    have h2 : (g - 1) * v1 + v1 = g * v1 := by
      rw [show g = (g - 1) + 1 by omega, Nat.add_mul (g - 1) 1 v1, Nat.one_mul]; rfl
    exact ⟨by rw [wu64 (by omega) (by omega)]; omega, by omega, by omega, by omega⟩
  have stop : (4294967296 ≤ g ∨ r * 4294967296 + u2 < g * v2) → decide (((r + v1 : Nat) : Int) > 4294967295) = true → tailP vl (pre.length : Int) ul (lim qs) (IntKind.u64.wrap ((g : Int) - 1)) J0 μ0 := fun h h2 => by
    obtain ⟨a1, a2, a3, a4⟩ := less h
    have h3 : 4294967296 ≤ r + v1 := by have : ((r + v1 : Nat) : Int) > 4294967295 := by simpa using h2
                                        omega
    rw [a1]
    exact tl (g - 1) a3 (gend a2 (by omega) (.inl h3)) (by omega)
  have goon : (4294967296 ≤ g ∨ r * 4294967296 + u2 < g * v2) → decide (((r + v1 : Nat) : Int) > 4294967295) = false →
      (∃ g' r' : Nat, IntKind.u64.wrap ((g : Int) - 1) = (g' : Int) ∧ ((r + v1 : Nat) : Int) = (r' : Int) ∧ g' * v1 + r' = ut * 4294967296 + lo ∧ Q ≤ g' ∧ g' ≤ 4294967297 ∧ r' < 4294967296) ∧ (IntKind.u64.wrap ((g : Int) - 1)).toNat < ((g : Int)).toNat := fun h h2 => by
    obtain ⟨a1, a2, a3, a4⟩ := less h
    have h3 : r + v1 < 4294967296 := by have : ¬ ((r + v1 : Nat) : Int) > 4294967295 := by simpa using h2
                                        omega
    exact ⟨⟨g - 1, r + v1, a1, rfl, a2, a3, by omega, h3⟩, by rw [a1]; omega⟩
  refine ⟨fun h => ?_, fun h => ?_⟩
  · have hb : 4294967296 ≤ g := by have : (g : Int) > 4294967295 := by simpa using h
                                   omega
    exact ⟨fun h2 => stop (.inl hb) h2, fun h2 => goon (.inl hb) h2⟩
  · have hb : g < 4294967296 := by have : ¬ (g : Int) > 4294967295 := by simpa using h
                                   omega
    have e7 : IntKind.u64.wrap ((g : Int) * (v2 : Int)) = ((g * v2 : Nat) : Int) := by
      have : g * v2 ≤ 4294967295 * 4294967295 := Nat.mul_le_mul (by omega) (by omega)
      rw [← Int.natCast_mul]; exact wu64 (by omega) (by omega)
    have e8 : bitsI .u64 (· ||| ·) (IntKind.u64.wrap ((r : Int) * 2 ^ (min (32 : Int).toNat IntKind.u64.bits))) (u2 : Int) = ((r * 4294967296 + u2 : Nat) : Int) := by
      rw [shl32 hr, or32 hr hu2]
    refine ⟨(v2 : Int), (u2 : Int), ?_, ?_, ?_, ?_, ?_⟩
    · rw [i4]; omega
    · rw [i4, Int.toNat_natCast]; exact k2
    · rw [i0, i2]; omega
    · rw [i0, i2, Int.toNat_natCast]; exact g2
    rw [e1', e3, e7, e8]
    refine ⟨fun h2 => ?_, fun h2 => ?_⟩
    · have hc : r * 4294967296 + u2 < g * v2 := by have : ((g * v2 : Nat) : Int) > ((r * 4294967296 + u2 : Nat) : Int) := by simpa using h2
                                                   omega
      exact ⟨fun h3 => stop (.inr hc) h3, fun h3 => goon (.inr hc) h3⟩
    · have hc : g * v2 ≤ r * 4294967296 + u2 := by have : ¬ ((g * v2 : Nat) : Int) > ((r * 4294967296 + u2 : Nat) : Int) := by simpa using h2
                                                   omega
      exact tl g hge (gend hg (by omega) (.inr hc)) (by omega)
end Go.AM
/- integer.long: what it answers. -/
namespace Go.AM
open Go.Proofs.Tryz
def padK : Nat → Nat → List Nat
  | 0, _ => []
  | m + 1, q => q % 4294967296 :: padK m (q / 4294967296)
theorem padK_len : ∀ (m q : Nat), (padK m q).length = m
  | 0, _ => rfl
  | m + 1, q => by simp [padK, padK_len m]
theorem padK_lt : ∀ (m q : Nat), ∀ x ∈ padK m q, x < 4294967296
  | 0, _, x, h => by simp [padK] at h
  | m + 1, q, x, h => by
    simp only [padK, List.mem_cons] at h
    rcases h with rfl | h
    · exact Nat.mod_lt _ (by decide)
    · exact padK_lt m _ x h
theorem padK_val : ∀ (m q : Nat), q < 4294967296 ^ m → val (padK m q) = q
  | 0, q, h => by simp at h; subst h; rfl
  | m + 1, q, h => by
    rw [Nat.pow_succ] at h
    simp only [padK, val]
    rw [padK_val m _ ((Nat.div_lt_iff_lt_mul (by decide)).2 h)]
    have := Nat.div_add_mod q 4294967296
    omega
theorem padK_of : ∀ {l : List Nat}, (∀ x ∈ l, x < 4294967296) → padK l.length (val l) = l
  | [], _ => rfl
  | x :: l, h => by
    have hx := h x (by simp)
    simp only [List.length_cons, padK, val]
    rw [show (x + 4294967296 * val l) % 4294967296 = x by omega, show (x + 4294967296 * val l) / 4294967296 = val l by omega, padK_of fun y hy => h y (by simp [hy])]
theorem split2 {α : Type} {l : List α} (h : 2 ≤ l.length) : ∃ p x y, l = p ++ [x, y] ∧ p.length + 2 = l.length := by
  refine ⟨l.take (l.length - 2), l[l.length - 2], l[l.length - 1], ?_, by rw [List.length_take]; omega⟩
  have h1 := List.take_append_drop (l.length - 2) l
  have h2 : l.drop (l.length - 2) = [l[l.length - 2], l[l.length - 1]] := by
    rw [List.drop_eq_getElem_cons (by omega)]
    congr 1
    rw [List.drop_eq_getElem_cons (by omega)]
    have e : l.length - 2 + 1 = l.length - 1 := by omega
    congr 1
    · simp only [e]
    · exact List.drop_eq_nil_iff.2 (by omega)
  rw [h2] at h1
  exact h1.symm
theorem shR_get (k : Nat) : ∀ (l : List Nat) (c : Nat) (h : c + 1 < l.length), (shR k l)[c]? = some (l[c] / 2 ^ k + (l[c + 1] * 2 ^ (32 - k)) % 4294967296)
  | [], c, h => by simp at h
  | [x], c, h => by simp at h
  | x :: y :: l, 0, h => rfl
  | x :: y :: l, c + 1, h => by
    have := shR_get k (y :: l) c (by simpa using h)
    simpa [shR] using this
theorem shR_lt {k : Nat} (hk : k ≤ 32) {l : List Nat} (hl : ∀ x ∈ l, x < 4294967296) : ∀ z ∈ shR k l, z < 4294967296 := fun z hz => by
  obtain ⟨c, hc⟩ := List.mem_iff_getElem?.1 hz
  have hcl : c < (shR k l).length := by
    rcases Nat.lt_or_ge c (shR k l).length with h | h
    · exact h
    · rw [List.getElem?_eq_none h] at hc; simp at hc
  rw [shR_len] at hcl
  rw [shR_get k l c (by omega), Option.some.injEq] at hc
  subst hc
  have h1 : l[c] < 4294967296 := hl _ (List.getElem_mem _)
  have h2 : l[c] / 2 ^ k < 2 ^ (32 - k) := by
    rw [Nat.div_lt_iff_lt_mul (Nat.pow_pos (by decide)), ← Nat.pow_add, show 32 - k + k = 32 by omega]; exact h1
  have := lo_add (k := 32 - k) (by omega) h2 l[c + 1]
  omega
end Go.AM
/- integer.long: what it answers; integer.divide, integer.DivMod. -/
namespace Go.AM
open Go.Proofs.Tryz
theorem split3 {α : Type} {l : List α} {i n : Nat} (h : i + n < l.length) : ∃ pre seg ut post, l = pre ++ seg ++ ut :: post ∧ pre.length = i ∧ seg.length = n := by
  refine ⟨l.take i, (l.drop i).take n, l[i + n], l.drop (i + n + 1), ?_, by rw [List.length_take]; omega, by rw [List.length_take, List.length_drop]; omega⟩
  have h1 : (l.drop i).drop n = l[i + n] :: l.drop (i + n + 1) := by rw [List.drop_drop, List.drop_eq_getElem_cons h]
  rw [← h1, List.append_assoc, List.take_append_drop, List.take_append_drop]
theorem drop_set1 {l : List Nat} {i d : Nat} (h : i < l.length) : (l.set i d).drop i = d :: l.drop (i + 1) := by
  apply List.ext_getElem?
  intro c
  rw [List.getElem?_drop]
  match c with
  | 0 => simp [h]
  | c + 1 => rw [List.getElem?_set_ne (by omega), List.getElem?_cons_succ, List.getElem?_drop]; congr 1; omega
theorem fill_set {l : List Nat} {c : Nat} (h : c < l.length) : (l.take c ++ List.replicate (l.length - c) 0).set c l[c] = l.take (c + 1) ++ List.replicate (l.length - (c + 1)) 0 := by
  rw [List.set_append_right _ _ (by rw [List.length_take]; omega), List.length_take, Nat.min_eq_left (by omega), Nat.sub_self,
    show l.length - c = (l.length - (c + 1)) + 1 by omega, List.replicate_succ, List.set_cons_zero]
  have : l.take (c + 1) = l.take c ++ [l[c]] := by rw [List.take_add_one, List.getElem?_eq_getElem h]; rfl
  rw [this, List.append_assoc]; rfl
theorem lg1 {V N P S X : Nat} (hVN : V ≤ N) (h : S + P * (N * 4294967296 * X) < V * (P * 4294967296)) : X = 0 := by
  rcases Nat.eq_zero_or_pos X with h0 | h0
  · exact h0
  · exfalso
    have h1 : P * (N * 4294967296 * 1) ≤ P * (N * 4294967296 * X) := Nat.mul_le_mul_left _ (Nat.mul_le_mul_left _ h0)
    have h2 : V * (P * 4294967296) ≤ N * (P * 4294967296) := Nat.mul_le_mul_right _ hVN
    have h3 : N * (P * 4294967296) = P * (N * 4294967296 * 1) := by rw [Nat.mul_one, Nat.mul_left_comm]
    omega
theorem lg2 {V P S W : Nat} (h : S + P * W < V * (P * 4294967296)) : W < V * 4294967296 := by
  apply Classical.byContradiction
  intro hc
  have h1 : P * (V * 4294967296) ≤ P * W := Nat.mul_le_mul_left _ (by omega)
  have h2 : P * (V * 4294967296) = V * (P * 4294967296) := by rw [Nat.mul_left_comm]
  omega
theorem lg3 (a S P N ut X : Nat) : a + P * S + P * N * (ut + 4294967296 * X) = a + P * (S + ut * N) + P * (N * 4294967296 * X) := by
  simp only [Nat.mul_add, Nat.mul_assoc, Nat.mul_comm, Nat.mul_left_comm]
  omega
theorem lg4 {Qo P V W a : Nat} : Qo * (P * 4294967296) * V + (a + P * W) = (W / V + 4294967296 * Qo) * P * V + (a + P * (W % V)) := by
  have hWdm := Nat.div_add_mod W V
  generalize W / V = d at *
  generalize W % V = md at *
  have a1 : Qo * (P * 4294967296) * V = 4294967296 * Qo * P * V := by rw [Nat.mul_comm P, ← Nat.mul_assoc, Nat.mul_comm Qo]
  have a2 : P * W = d * P * V + P * md := by
    rw [← hWdm, Nat.mul_add]
    congr 1
    rw [Nat.mul_comm V d, ← Nat.mul_assoc, Nat.mul_comm P d]
  rw [Nat.add_mul, Nat.add_mul, a1, a2]
  omega
theorem lg5 {V P W a : Nat} (ha : a < P) (hV : 0 < V) : a + P * (W % V) < V * P := by
  have h1 : P * (W % V + 1) ≤ P * V := Nat.mul_le_mul_left _ (Nat.mod_lt W hV)
  rw [Nat.mul_add P _ 1, Nat.mul_one] at h1
  rw [Nat.mul_comm V P]
  omega
theorem wdec {p : Nat} (h : p ≤ 4294967296) : IntKind.i64.wrap ((p : Int) - 1) = (p : Int) - 1 := w64 (by omega) (by omega)
theorem len3 {pre seg R post : List Nat} {ut x : Nat} (h : R.length = seg.length) : (pre ++ R ++ x :: post).length = (pre ++ seg ++ ut :: post).length := by simp [h]
theorem dec_lt (p : Nat) : ((p : Int) - 1 + 1).toNat < ((p : Int) + 1).toNat := by omega
def J0L (m n U V : Nat) (q u : DL) (i : Int) : Prop := ∃ (j : Nat) (qs ws : List Nat), i = (j : Int) - 1 ∧ j ≤ m ∧ q = lim qs ∧ u = lim ws ∧ qs.length = m ∧ ws.length = m + n ∧
  (∀ x ∈ qs, x < 4294967296) ∧ (∀ x ∈ ws, x < 4294967296) ∧ U = val (qs.drop j) * 4294967296 ^ j * V + val ws ∧ val ws < V * 4294967296 ^ j
def μ0L (_ _ : DL) (i : Int) : Nat := (i + 1).toNat
theorem J0_round {m n U V v1 v2 : Nat} {lowv : List Nat} (hmn : m + n ≤ 2147483648) (hn : lowv.length + 2 = n) (dV : ∀ x ∈ lowv ++ [v2, v1], x < 4294967296) (hv1 : 2147483648 ≤ v1) (vV : val (lowv ++ [v2, v1]) = V) (hVN : V ≤ 4294967296 ^ n) (hV0 : 0 < V)
    {q u : DL} {i : Int} (hJ : J0L m n U V q u i) (hi : decide (i ≥ 0) = true) : roundP (lim (lowv ++ [v2, v1])) u q i (J0L m n U V) μ0L := by
  obtain ⟨j, qs, ws, rfl, hj, rfl, rfl, lq, lw, dq, dw, hU', hlt'⟩ := hJ
  have hj1 : 1 ≤ j := by have := of_decide_eq_true hi; omega
  obtain ⟨i, rfl⟩ : ∃ i, j = i + 1 := ⟨j - 1, by omega⟩
  rw [show (((i + 1 : Nat) : Int) - 1) = (i : Int) by omega]
  obtain ⟨pre, seg, ut, post, rfl, rfl, hseg⟩ := split3 (l := ws) (i := i) (n := n) (by omega)
  obtain ⟨lows, u2, lo, rfl, lowsl⟩ := split2 (l := seg) (by omega)
  have hqi : pre.length < qs.length := by omega
  have hpm : pre.length ≤ m := by omega
  have hqB : qs.length ≤ 4294967296 := by omega
  have hpB : pre.length ≤ 4294967296 := by omega
  have hwB : (pre ++ (lows ++ [u2, lo]) ++ ut :: post).length ≤ 4294967296 := by omega
  have hll : lows.length = lowv.length := by omega
  have hsl : (lowv ++ [v2, v1]).length = (lows ++ [u2, lo]).length := by simp [hll]
  have hpre := val_lt (l := pre) fun x hx => dw x (by simp [hx])
  have vws : val (pre ++ (lows ++ [u2, lo]) ++ ut :: post) = val pre + 4294967296 ^ pre.length * (val (lows ++ [u2, lo]) + ut * 4294967296 ^ (lows ++ [u2, lo]).length) + 4294967296 ^ pre.length * (4294967296 ^ n * 4294967296 * val post) := by
    rw [val_append, val_append, List.length_append, hseg, Nat.pow_add]
    exact lg3 _ _ _ _ _ _
  obtain ⟨W, hW⟩ : ∃ W, W = val (lows ++ [u2, lo]) + ut * 4294967296 ^ (lows ++ [u2, lo]).length := ⟨_, rfl⟩
  rw [← hW] at vws
  rw [Nat.pow_succ] at hlt' hU'
  have hpost : val post = 0 := lg1 (V := V) (N := 4294967296 ^ n) (P := 4294967296 ^ pre.length) (S := val pre + 4294967296 ^ pre.length * W) hVN (by rw [← vws]; exact hlt')
  rw [hpost, Nat.mul_zero, Nat.mul_zero, Nat.add_zero] at vws
  have hWV : W < V * 4294967296 := lg2 (P := 4294967296 ^ pre.length) (S := val pre) (by rw [← vws]; exact hlt')
  have hdig : W / V < 4294967296 := by rw [Nat.div_lt_iff_lt_mul hV0, Nat.mul_comm]; exact hWV
  refine round_ok (J0 := J0L m n U V) (μ0 := μ0L) (W := W) (V := V) hll dw dV hv1 hW vV.symm hWV hqi hwB hqB fun R hR dR vR => ?_
  have vnew : val (pre ++ R ++ 0 :: post) = val pre + 4294967296 ^ pre.length * (W % V) := by
    rw [val_append, val_append, vR]; simp [val, hpost]
  rw [wdec hpB]
  refine ⟨⟨pre.length, qs.set pre.length (W / V), pre ++ R ++ 0 :: post, rfl, hpm, rfl, rfl, (List.length_set ..).trans lq, (len3 (hR.trans hsl)).trans lw, fun x hx => ?_, fun x hx => ?_, ?_, ?_⟩, dec_lt _⟩
  · rcases List.mem_or_eq_of_mem_set hx with h | rfl
    · exact dq x h
    · exact hdig
  · simp only [List.mem_append, List.mem_cons] at hx
    rcases hx with (h | h) | rfl | h
    · exact dw x (by simp [h])
    · exact dR x h
    · decide
    · exact dw x (by simp [h])
  · rw [drop_set1 hqi, hU', vws, vnew]
    exact lg4
  · rw [vnew]
    exact lg5 hpre hV0
theorem J0_end {m n U V : Nat} (hV0 : 0 < V) {q u : DL} {i : Int} (hJ : J0L m n U V q u i) (hi : decide (i ≥ 0) = false) : q = lim (padK m (U / V)) ∧ u = lim (padK (m + n) (U % V)) := by
  obtain ⟨j, qs, ws, rfl, hj, rfl, rfl, lq, lw, dq, dw, hU', hlt'⟩ := hJ
  have hj0 : j = 0 := by have := of_decide_eq_false hi; omega
  subst hj0
  rw [Nat.pow_zero, Nat.mul_one] at hU' hlt'
  simp only [List.drop_zero] at hU'
  have u1 : val qs = U / V ∧ val ws = U % V := by
    rw [hU']
    constructor
    · rw [Nat.mul_comm, Nat.mul_add_div hV0, Nat.div_eq_of_lt hlt', Nat.add_zero]
    · rw [Nat.mul_comm, Nat.mul_add_mod, Nat.mod_eq_of_lt hlt']
  exact ⟨by rw [← u1.1, ← lq, padK_of dq], by rw [← u1.2, ← lw, padK_of dw]⟩
theorem back_val {k x y : Nat} (hk : k ≤ 31) (x1 : x < 4294967296) (x2 : y < 4294967296) :
    bitsI .u32 (· ||| ·) (((x : Nat) : Int).fdiv (2 ^ (min (k : Int).toNat IntKind.u32.bits))) (IntKind.u32.wrap ((IntKind.u64.wrap ((IntKind.u64.wrap ((y : Nat) : Int)) * 2 ^ (min (32 : Int).toNat IntKind.u64.bits))).fdiv (2 ^ (min (k : Int).toNat IntKind.u64.bits)))) =
      ((x / 2 ^ k + (y * 2 ^ (32 - k)) % 4294967296 : Nat) : Int) := by
  have hpk : 0 < 2 ^ k := Nat.pow_pos (by decide)
  have h2 : x / 2 ^ k < 2 ^ (32 - k) := by
    rw [Nat.div_lt_iff_lt_mul hpk, ← Nat.pow_add, show 32 - k + k = 32 by omega]; exact x1
  have g2 := orC (k := 32 - k) (c := x / 2 ^ k) (x := y) (by omega) h2
  have g3 : (((y * 4294967296 : Nat) : Int)).fdiv (2 ^ (min (k : Int).toNat IntKind.u64.bits)) = ((y * 2 ^ (32 - k) : Nat) : Int) := by
    have hb : IntKind.u64.bits = 64 := rfl
    rw [hb, Int.toNat_natCast, Nat.min_eq_left (by omega), show ((2 : Int) ^ k) = ((2 ^ k : Nat) : Int) by simp]
    rw [Int.fdiv_eq_ediv_of_nonneg _ (by omega)]
    have : y * 4294967296 = y * 2 ^ (32 - k) * 2 ^ k := by rw [Nat.mul_assoc, ← Nat.pow_add, show 32 - k + k = 32 by omega]
    rw [this, ← Int.natCast_ediv, Nat.mul_div_cancel _ hpk]
  rw [u32_shr _ _ (by omega), wu64 (n := ((y : Nat) : Int)) (by omega) (by omega), shl32 x2, g3]
  have g4 : IntKind.u32.wrap ((y * 2 ^ (32 - k) : Nat) : Int) = (((y * 2 ^ (32 - k)) % 4294967296 : Nat) : Int) := by rw [wu32]; omega
  rw [g4, g2, Nat.add_comm]
def backP (v u q : DL) (r : Int) (R : V → Heap → Prop) : Prop :=
  (∃ (J8 : (DL) → Int → Prop) (μ8 : (DL) → Int → Nat),
  J8 (List.replicate ((v.length : Int)).toNat [(dU (0 : Int))]) (0 : Int) ∧ ∀ (r7 : DL) (t228 : Int), J8 r7 t228 →
    ((decide (t228 < (v.length : Int))) = true →
      ∃ (vx24 : Int) (vx25 : Int),
      (0 ≤ t228 ∧ t228 < (u.length : Int)) ∧
      (u[(t228).toNat]? = some [(dU vx24)]) ∧
      (0 ≤ r) ∧
      (0 ≤ (IntKind.i64.wrap (t228 + (1 : Int))) ∧ (IntKind.i64.wrap (t228 + (1 : Int))) < (u.length : Int)) ∧
      (u[((IntKind.i64.wrap (t228 + (1 : Int)))).toNat]? = some [(dU vx25)]) ∧
      (0 ≤ (32 : Int)) ∧
      (0 ≤ t228 ∧ t228 < (r7.length : Int)) ∧
      (J8 (r7.set (t228).toNat [(dU (bitsI .u32 (· ||| ·) (vx24.fdiv (2 ^ (min r.toNat IntKind.u32.bits))) (IntKind.u32.wrap ((IntKind.u64.wrap ((IntKind.u64.wrap vx25) * 2 ^ (min (32 : Int).toNat IntKind.u64.bits))).fdiv (2 ^ (min r.toNat IntKind.u64.bits))))))]) (IntKind.i64.wrap (t228 + (1 : Int))) ∧ μ8 (r7.set (t228).toNat [(dU (bitsI .u32 (· ||| ·) (vx24.fdiv (2 ^ (min r.toNat IntKind.u32.bits))) (IntKind.u32.wrap ((IntKind.u64.wrap ((IntKind.u64.wrap vx25) * 2 ^ (min (32 : Int).toNat IntKind.u64.bits))).fdiv (2 ^ (min r.toNat IntKind.u64.bits))))))]) (IntKind.i64.wrap (t228 + (1 : Int))) < μ8 r7 t228)) ∧
    ((decide (t228 < (v.length : Int))) = false →
      R (V.tup [(eD (dL q)), (eD (dL r7))]) []))
theorem shback_ok {us SR : List Nat} {n N k : Nat} {v : DL} {q : DL} {R : V → Heap → Prop} (hv : v.length = n) (lr : us.length = N) (hN : n + 1 ≤ N) (hNB : N ≤ 2147483648) (dr : ∀ x ∈ us, x < 4294967296) (hk31 : k ≤ 31)
    (hSRe : SR = shR k (us.take (n + 1))) (hR : R (V.tup [(eD (dL q)), (eD (dL (lim SR)))]) []) : backP v (lim us) q (k : Int) R := by
  have lt1 : (us.take (n + 1)).length = n + 1 := by rw [List.length_take]; omega
  have lSR : SR.length = n := by rw [hSRe, shR_len, lt1]; omega
  have hSR : ∀ c : Nat, c < n → ∀ x y, us[c]? = some x → us[c + 1]? = some y → SR[c]? = some (x / 2 ^ k + (y * 2 ^ (32 - k)) % 4294967296) := fun c hc x y hx hy => by
    rw [hSRe, shR_get k _ c (by omega)]
    simp only [List.getElem_take]
    rw [List.getElem?_eq_getElem (by omega), Option.some.injEq] at hx hy
    rw [hx, hy]
  clear hSRe lt1
  have lw' : (lim us).length = N := by rw [lim_length]; exact lr
  unfold backP
  rw [hv]
  refine ⟨fun r t => ∃ c : Nat, t = (c : Int) ∧ c ≤ n ∧ r = lim (SR.take c ++ List.replicate (SR.length - c) 0), fun _ t => ((n : Int) - t).toNat, ⟨0, rfl, by omega, ?_⟩, ?_⟩
  · rw [Int.toNat_natCast, lim_rep, lSR]; simp
  rintro _ _ ⟨c, rfl, hc, rfl⟩
  refine ⟨fun h => ?_, fun h => ?_⟩
  · have hc1 : c < n := by have := of_decide_eq_true h; omega
    have ec : IntKind.i64.wrap ((c : Int) + 1) = ((c + 1 : Nat) : Int) := by rw [w64 (by omega) (by omega)]; omega
    have x1 := dr _ (List.getElem_mem (l := us) (n := c) (by omega))
    have x2 := dr _ (List.getElem_mem (l := us) (n := c + 1) (by omega))
    have hx : us[c]? = some us[c] := List.getElem?_eq_getElem (by omega)
    have hy : us[c + 1]? = some us[c + 1] := List.getElem?_eq_getElem (by omega)
    have gx : (lim us)[c]? = some [dU ((us[c] : Nat) : Int)] := lim_get (by omega)
    have gy : (lim us)[c + 1]? = some [dU ((us[c + 1] : Nat) : Int)] := lim_get (by omega)
    generalize us[c] = x at *
    generalize us[c + 1] = y at *
    have g1 := hSR c hc1 x y hx hy
    have hval := back_val (k := k) hk31 x1 x2
    have hcS : c < SR.length := by omega
    rw [List.getElem?_eq_getElem hcS, Option.some.injEq] at g1
    rw [← g1] at hval
    have hl : (lim (SR.take c ++ List.replicate (SR.length - c) 0)).length = SR.length := by rw [lim_length, List.length_append, List.length_take, List.length_replicate]; omega
    refine ⟨(x : Int), (y : Int), ⟨by omega, by omega⟩, ?_, by omega, ?_, ?_, by decide, ⟨by omega, by omega⟩, ?_⟩
    · rw [Int.toNat_natCast]; exact gx
    · rw [ec]; omega
    · rw [ec, Int.toNat_natCast]; exact gy
    · rw [hval, ec, Int.toNat_natCast, lim_set, fill_set hcS]
      exact ⟨⟨c + 1, rfl, by omega, rfl⟩, by show ((n : Int) - ((c + 1 : Nat) : Int)).toNat < ((n : Int) - (c : Int)).toNat; omega⟩
  · have hc1 : c = n := by have := of_decide_eq_false h; omega
    subst hc1
    rw [← lSR, List.take_length, Nat.sub_self, List.replicate_zero, List.append_nil]
    exact hR
set_option maxRecDepth 100000 in
set_option maxHeartbeats 2000000 in
theorem long_ok {A D : Nat} (lA : (digs A).length ≤ 1073741823) (hn : 2 ≤ (digs D).length) (hle : D ≤ A) :
    ∃ ql rl : List Nat, (∀ z ∈ ql, z < 4294967296) ∧ (∀ z ∈ rl, z < 4294967296) ∧ ql.length ≤ 1073741824 ∧ rl.length ≤ 1073741824 ∧ val ql = A / D ∧ val rl = A % D ∧
      FnD prog 128 [vs (lim (digs A)), vs (lim (digs D))] (.tup [eD (dL (lim ql)), eD (dL (lim rl))]) [] := by
  have ba := digs_lt A
  have bb := digs_lt D
  have va := val_digs A
  have vb' := val_digs D
  have cb := digs_canon D
  have hlen : (digs D).length ≤ (digs A).length := by
    rcases Nat.lt_or_ge (digs A).length (digs D).length with h | h
    · have := val_lt_of_len ba cb h
      omega
    · exact h
  generalize digs A = a at *
  generalize digs D = b at *
  obtain ⟨bl, top, rfl⟩ : ∃ bl top, b = bl ++ [top] := ⟨b.dropLast, b.getLast (by intro h; subst h; simp at hn), (List.dropLast_concat_getLast _).symm⟩
  have htop0 : top ≠ 0 := cb top (by simp)
  have htopB : top < 4294967296 := bb top (by simp)
  have hbl : ∀ x ∈ bl, x < 4294967296 := fun x hx => bb x (by simp [hx])
  have hn1 : 1 ≤ bl.length := by simp at hn; omega
  obtain ⟨z1, z2⟩ := lz_top htop0 htopB
  have hble := blen_le (x := top) (k := 32) htopB
  have hbl1 : 1 ≤ blen top := by unfold blen; rw [if_neg htop0]; omega
  have hb2 := (blen_bounds htop0).2
  have hlz := lz32_ok htopB
  obtain ⟨k, hk⟩ : ∃ k, k = 32 - blen top := ⟨_, rfl⟩
  rw [← hk] at z1 z2 hlz
  have hk31 : k ≤ 31 := by omega
  have hpk : 0 < 2 ^ k := Nat.pow_pos (by decide)
  have hk2 : 2 ^ k ≤ 2147483648 := by have := Nat.pow_le_pow_right (n := 2) (by decide) hk31; simpa using this
  have htk : (top + 1) * 2 ^ k ≤ 4294967296 := by
    have h1 : (top + 1) * 2 ^ k ≤ 2 ^ blen top * 2 ^ k := Nat.mul_le_mul_right _ hb2
    rw [← Nat.pow_add, show blen top + k = 32 by omega] at h1
    simpa using h1
  have sA := shift_ok (l := a) (k := k) ba (by omega) hk31
  have sB := shift_ok (l := bl ++ [top]) (k := k) bb (by omega) hk31
  have lSA := shG_len k a 0
  have lSB := shG_len k (bl ++ [top]) 0
  have vSA := shG_val k a 0
  have vSB := shG_val k (bl ++ [top]) 0
  have dSA := shG_dig (k := k) (by omega) a 0 hpk ba
  have dSB := shG_dig (k := k) (by omega) (bl ++ [top]) 0 hpk bb
  rw [va, Nat.add_zero] at vSA
  rw [vb', Nat.add_zero] at vSB
  generalize shG k 0 a = SA at *
  generalize shG k 0 (bl ++ [top]) = SB at *
  have vD' : val bl + 4294967296 ^ bl.length * top = D := by rw [← vb', val_append]; simp [val]
  have hvbl := val_lt hbl
  have hn2 : (bl ++ [top]).length = bl.length + 1 := by simp
  rw [hn2] at hlen lSB hn
  have hSBs : SB = SB.take (bl.length + 1) ++ SB.drop (bl.length + 1) := (List.take_append_drop _ _).symm
  have lV : (SB.take (bl.length + 1)).length = bl.length + 1 := by rw [List.length_take]; omega
  have dV : ∀ x ∈ SB.take (bl.length + 1), x < 4294967296 := fun x hx => dSB x (List.mem_of_mem_take hx)
  have hDk : D * 2 ^ k < 4294967296 ^ bl.length * 4294967296 ∧ 2147483648 * 4294967296 ^ bl.length ≤ D * 2 ^ k := by
    generalize 4294967296 ^ bl.length = N at hvbl vD'
    constructor
    · have h1 : D + 1 ≤ N * (top + 1) := by rw [Nat.mul_add, Nat.mul_one]; omega
      have h2 : (D + 1) * 2 ^ k ≤ N * (top + 1) * 2 ^ k := Nat.mul_le_mul_right _ h1
      rw [Nat.mul_assoc] at h2
      have h3 : N * ((top + 1) * 2 ^ k) ≤ N * 4294967296 := Nat.mul_le_mul_left _ htk
      rw [Nat.add_mul D 1, Nat.one_mul] at h2
      omega
    · have h1 : N * top * 2 ^ k ≤ D * 2 ^ k := Nat.mul_le_mul_right _ (by omega)
      have h2 : N * 2147483648 ≤ N * (top * 2 ^ k) := Nat.mul_le_mul_left _ z1
      rw [Nat.mul_assoc] at h1
      omega
  obtain ⟨hDk1, hDk2⟩ := hDk
  have vV : val (SB.take (bl.length + 1)) = D * 2 ^ k := by
    have h1 := congrArg val hSBs
    rw [val_append, lV, vSB, Nat.pow_succ] at h1
    rcases Nat.eq_zero_or_pos (val (SB.drop (bl.length + 1))) with h0 | h0
    · rw [h0, Nat.mul_zero, Nat.add_zero] at h1; exact h1.symm
    · have : 4294967296 ^ bl.length * 4294967296 * 1 ≤ 4294967296 ^ bl.length * 4294967296 * val (SB.drop (bl.length + 1)) := Nat.mul_le_mul_left _ h0
      omega
  obtain ⟨VS, hVS⟩ : ∃ VS, VS = SB.take (bl.length + 1) := ⟨_, rfl⟩
  rw [← hVS] at vV lV dV
  obtain ⟨lowv, v2, v1, rfl, lowl⟩ := split2 (l := VS) (by omega)
  rw [lV] at lowl
  have hv1b : v1 < 4294967296 := dV v1 (by simp)
  have hv2b : v2 < 4294967296 := dV v2 (by simp)
  have hlowv := val_lt (l := lowv) fun x hx => dV x (by simp [hx])
  have ebl : bl.length = lowv.length + 1 := by omega
  have hv1 : 2147483648 ≤ v1 := by
    rw [val_two] at vV
    rw [ebl, Nat.pow_succ] at hDk2
    rw [← vV] at hDk2
    generalize 4294967296 ^ lowv.length = P at *
    apply Classical.byContradiction
    intro hc
    have h1 : P * (v2 + 4294967296 * v1 + 1) ≤ P * (4294967296 * 2147483648) := Nat.mul_le_mul_left _ (by omega)
    rw [Nat.mul_add P _ 1, Nat.mul_one] at h1
    omega
  obtain ⟨V, hV⟩ : ∃ V, V = D * 2 ^ k := ⟨_, rfl⟩
  rw [← hV] at vV hDk1 hDk2
  have hV0 : 0 < V := by
    have : 0 < 4294967296 ^ bl.length := Nat.pow_pos (by decide)
    omega
  obtain ⟨m, hm⟩ : ∃ m, a.length = bl.length + m := ⟨a.length - bl.length, by omega⟩
  have hm1 : 1 ≤ m := by omega
  obtain ⟨U, hU⟩ : ∃ U, U = A * 2 ^ k := ⟨_, rfl⟩
  have hA := val_lt ba
  rw [va, hm] at hA
  have hUlt : U < V * 4294967296 ^ m := by
    rw [Nat.pow_add] at hA
    have h1 : A * 2 ^ k < 4294967296 ^ bl.length * 4294967296 ^ m * 2 ^ k := Nat.mul_lt_mul_of_pos_right hA hpk
    have h2 : 4294967296 ^ bl.length * 4294967296 ^ m * 2 ^ k ≤ 4294967296 ^ bl.length * 4294967296 ^ m * 2147483648 := Nat.mul_le_mul_left _ hk2
    have h3 : 2147483648 * 4294967296 ^ bl.length * 4294967296 ^ m ≤ V * 4294967296 ^ m := Nat.mul_le_mul_right _ hDk2
    rw [Nat.mul_comm _ 2147483648, ← Nat.mul_assoc] at h2
    omega
  have hdiv : U / V = A / D := by rw [hU, hV]; exact Nat.mul_div_mul_right _ _ hpk
  have hmod : U % V = A % D * 2 ^ k := by rw [hU, hV]; exact Nat.mul_mod_mul_right _ _ _
  have hD0 : 0 < D := by
    rcases Nat.eq_zero_or_pos D with h | h
    · rw [h, Nat.zero_mul] at hV; omega
    · exact h
  have hXV : U % V < V := Nat.mod_lt _ hV0
  have hXn : U % V < 4294967296 ^ bl.length * 4294967296 := by omega
  have hq : val (padK m (U / V)) = U / V := padK_val _ _ (by rw [Nat.div_lt_iff_lt_mul hV0, Nat.mul_comm]; exact hUlt)
  have hle2 : 4294967296 ^ bl.length * 4294967296 ≤ 4294967296 ^ (m + (bl.length + 1)) := by rw [← Nat.pow_succ]; exact Nat.pow_le_pow_right (by decide) (by omega)
  have hr := padK_val (m + (bl.length + 1)) (U % V) (by omega)
  have lr := padK_len (m + (bl.length + 1)) (U % V)
  have dr := padK_lt (m + (bl.length + 1)) (U % V)
  obtain ⟨us, hus⟩ : ∃ us, us = padK (m + (bl.length + 1)) (U % V) := ⟨_, rfl⟩
  rw [← hus] at hr lr dr
  have lt1 : (us.take (bl.length + 2)).length = bl.length + 2 := by rw [List.length_take]; omega
  have dt1 : ∀ x ∈ us.take (bl.length + 2), x < 4294967296 := fun x hx => dr x (List.mem_of_mem_take hx)
  have vtake : ∀ j, bl.length + 1 ≤ j → j ≤ us.length → val (us.take j) = U % V := fun j h1 h2 => by
    have h3 := congrArg val (List.take_append_drop j us)
    rw [val_append, hr, List.length_take, Nat.min_eq_left h2] at h3
    rcases Nat.eq_zero_or_pos (val (us.drop j)) with h0 | h0
    · rw [h0, Nat.mul_zero, Nat.add_zero] at h3; exact h3
    · have h4 : 4294967296 ^ (bl.length + 1) ≤ 4294967296 ^ j := Nat.pow_le_pow_right (by decide) h1
      rw [Nat.pow_succ] at h4
      have : 4294967296 ^ j * 1 ≤ 4294967296 ^ j * val (us.drop j) := Nat.mul_le_mul_left _ h0
      omega
  have hrv : val (shR k (us.take (bl.length + 2))) = A % D := by
    obtain ⟨x, l, hxl⟩ : ∃ x l, us.take (bl.length + 2) = x :: l := by
      cases h : us.take (bl.length + 2) with
      | nil => rw [h] at lt1; simp at lt1
      | cons x l => exact ⟨x, l, rfl⟩
    have h1 := shR_val (k := k) (by omega) l x
    have h2 : (x :: l).getLast (by simp) = 0 := by
      have e1 := vtake (bl.length + 1) (by omega) (by omega)
      have e2 := vtake (bl.length + 2) (by omega) (by omega)
      have e3 : us.take (bl.length + 2) = us.take (bl.length + 1) ++ [(x :: l).getLast (by simp)] := by
        have g1 : us.take (bl.length + 1) = (x :: l).dropLast := by
          rw [← hxl, List.dropLast_eq_take, List.take_take, lt1]; congr 1; omega
        rw [g1, List.dropLast_concat_getLast, hxl]
      rw [e3, val_append, e1] at e2
      simp only [val, Nat.mul_zero, Nat.add_zero] at e2
      have g2 : 0 < 4294967296 ^ (us.take (bl.length + 1)).length := Nat.pow_pos (by decide)
      have g3 : 4294967296 ^ (us.take (bl.length + 1)).length * (x :: l).getLast (by simp) = 0 := by omega
      rcases Nat.mul_eq_zero.1 g3 with h | h
      · omega
      · exact h
    rw [h2, Nat.zero_div, Nat.mul_zero, Nat.add_zero, ← hxl, vtake _ (by omega) (by omega), hmod, Nat.mul_div_cancel _ hpk] at h1
    exact h1
  refine ⟨padK m (U / V), shR k (us.take (bl.length + 2)), padK_lt _ _, shR_lt (by omega) dt1, by rw [padK_len]; omega, by rw [shR_len, lt1]; omega, by rw [hq, hdiv], hrv, ?_⟩
  refine vc128_ok _ _ (R := Out _) ?_
  unfold vc128
  have e0 : (lim (bl ++ [top])).length = bl.length + 1 := by rw [lim_length]; simp
  have ev : (lim SB).take (((lim (bl ++ [top])).length : Int)).toNat = lim (lowv ++ [v2, v1]) := by rw [e0, Int.toNat_natCast, lim_take, hVS]
  have ei : IntKind.i64.wrap (((lim (bl ++ [top])).length : Int) - 1) = (bl.length : Int) := by rw [e0, w64 (by omega) (by omega)]; omega
  have lv : (lim (lowv ++ [v2, v1])).length = bl.length + 1 := by rw [lim_length]; omega
  have lSA' : (lim SA).length = m + (bl.length + 1) := by rw [lim_length]; omega
  have lSB' : (lim SB).length = bl.length + 2 := by rw [lim_length]; omega
  have em : IntKind.i64.wrap (((lim SA).length : Int) - ((lim (lowv ++ [v2, v1])).length : Int)) = (m : Int) := by rw [lSA', lv, w64 (by omega) (by omega)]; omega
  refine ⟨(top : Int), (k : Int), ?_, ?_, hlz, lim SA, lim SB, sA, sB, ?_⟩
  · rw [ei, e0]; omega
  · rw [ei, Int.toNat_natCast]; exact lim_mid bl [] top
  rw [ev]
  refine ⟨?_, ?_, J0L m (bl.length + 1) U V, μ0L, ?_, fun q u i hJ => ⟨fun h => ?_, fun h => ?_⟩⟩
  · rw [e0, lSB']; omega
  · rw [em]; omega
  · rw [em]
    refine ⟨m, List.replicate m 0, SA, ?_, Nat.le_refl _, ?_, rfl, by simp, by omega, fun x hx => by rw [List.eq_of_mem_replicate hx]; decide, dSA, ?_, ?_⟩
    · rw [w64 (by omega) (by omega)]
    · rw [Int.toNat_natCast]; exact lim_rep m
    · rw [vSA, ← hU, List.drop_of_length_le (by simp)]; simp [val]
    · rw [vSA, ← hU]; exact hUlt
  · exact J0_round (by omega) lowl dV hv1 vV (by rw [Nat.pow_succ]; omega) hV0 hJ h
  · obtain ⟨rfl, rfl⟩ := J0_end hV0 hJ h
    rw [← hus]
    exact ⟨by rw [lv]; omega, shback_ok lv lr (by omega) (by omega) dr hk31 rfl ⟨rfl, rfl⟩⟩
theorem idivmod_ok {x y : Int} {L : Nat} (hy : y ≠ 0) (hx : x.natAbs * 4294967296 < 4294967296 ^ L) (hy2 : y.natAbs * 4294967296 < 4294967296 ^ L) (hL : L ≤ 1073741824) :
    FnD prog 96 [eI x, eI y] (.tup [ei (x / y), ei (x % y), eD (dI 0)]) [] := by
  have len : ∀ {z : Int}, z.natAbs * 4294967296 < 4294967296 ^ L → (digs z.natAbs).length ≤ 1073741823 := fun {z} h => by
    obtain ⟨M, rfl⟩ : ∃ M, L = M + 1 := ⟨L - 1, by
      rcases Nat.eq_zero_or_pos L with h0 | h0
      · subst h0
        have h1 : y.natAbs * 4294967296 < 1 := by simpa using hy2
        omega
      · omega⟩
    rw [Nat.pow_succ] at h
    have := digs_len (n := z.natAbs) (k := M) (Nat.lt_of_mul_lt_mul_right h)
    omega
  obtain ⟨ql, rl, h1, h2, h3, h4, h5, h6, h7⟩ := divide_of (A := x.natAbs) (D := y.natAbs) (by omega) (len hx) (len hy2) (fun a b => long_ok (len hx) a b)
  exact divmod_of hy hx hy2 hL h7 h1 h2 h3 h4 h5 h6
end Go.AM
/- What functions of the program come to: group Sa. Printed by vc.py. -/
set_option maxRecDepth 100000
set_option linter.unusedVariables false
namespace Go.AM
open Go.Proofs.Tryz
def vc29 (p0 p1 : Int) (p2 : DL) (p3 p4 : Int) (p5 : DL) (p6 p7 : Int) (p8 : DL) (p9 p10 : Int) (p11 : DL) (p12 p13 : Int) (p14 : Bool) (R : V → Heap → Prop) : Prop :=
 (decide (p12 ≥ p0) = true →
 R (vD (dB true)) []) ∧
 (decide (p12 ≥ p0) = false →
 R (vD (dB (decide (p13 ≥ p1)))) [])
theorem vc29_ok (p0 p1 : Int) (p2 : DL) (p3 p4 : Int) (p5 : DL) (p6 p7 : Int) (p8 : DL) (p9 p10 : Int) (p11 : DL) (p12 p13 : Int) (p14 : Bool) {R : V → Heap → Prop} (h : vc29 p0 p1 p2 p3 p4 p5 p6 p7 p8 p9 p10 p11 p12 p13 p14 R) : FnG prog 29 [vA [sD (dI p0), sD (dI p1), sD (dL p2), sD (dI p3), sD (dI p4), sD (dL p5), sD (dI p6), sD (dI p7), sD (dL p8), sD (dI p9), sD (dI p10), sD (dL p11), sD (dI p12), sD (dI p13), sD (dB p14)]] [] R :=
  FnG.vcg hT func29 ntmps29 (.reg 1 [(0, Or.none, 0, 1)] [1] [0] [] <| .spl ((decide (p12 ≥ p0))) (.reg 0 [(6, Or.bool true, 0, 0)] [2] [] [.old 0] <| .ret []) (.reg 0 [(6, Or.bool false, 0, 0)] [2] [] [.old 0] <| .ret []))
    (by kernel_rfl) (by kernel_rfl) (by kernel_rfl) h
def vc31 (p0 p1 : Int) (p2 : DL) (p3 p4 : Int) (p5 : DL) (p6 p7 : Int) (p8 : DL) (p9 p10 : Int) (p11 : DL) (p12 p13 : Int) (p14 : Bool) (R : V → Heap → Prop) : Prop :=
 (decide (p12 ≥ p0) = true →
 R (vD (dB true)) []) ∧
 (decide (p12 ≥ p0) = false →
 R (vD (dB (decide (p13 ≥ p1)))) [])
theorem vc31_ok (p0 p1 : Int) (p2 : DL) (p3 p4 : Int) (p5 : DL) (p6 p7 : Int) (p8 : DL) (p9 p10 : Int) (p11 : DL) (p12 p13 : Int) (p14 : Bool) {R : V → Heap → Prop} (h : vc31 p0 p1 p2 p3 p4 p5 p6 p7 p8 p9 p10 p11 p12 p13 p14 R) : FnG prog 31 [vA [sD (dI p0), sD (dI p1), sD (dL p2), sD (dI p3), sD (dI p4), sD (dL p5), sD (dI p6), sD (dI p7), sD (dL p8), sD (dI p9), sD (dI p10), sD (dL p11), sD (dI p12), sD (dI p13), sD (dB p14)]] [] R :=
  FnG.vcg hT func31 ntmps31 (.reg 1 [(0, Or.none, 0, 1)] [1] [0] [] <| .spl ((decide (p12 ≥ p0))) (.reg 0 [(6, Or.bool true, 0, 0)] [2] [] [.old 0] <| .ret []) (.reg 0 [(6, Or.bool false, 0, 0)] [2] [] [.old 0] <| .ret []))
    (by kernel_rfl) (by kernel_rfl) (by kernel_rfl) h
def vc10 (a0 a1 : Int) (a2 : DL) (R : V → Heap → Prop) : Prop :=
 ∃ (r0 r1 : Int) (r2 : DL) (r01 r11 : Int) (r21 : DL),
 (FnD prog 28 [vD (dI a0)] (vA [sD (dI r0), sD (dI r1), sD (dL r2)]) []) ∧
 (FnD prog 28 [vD (dI a0)] (vA [sD (dI r01), sD (dI r11), sD (dL r21)]) []) ∧
 (∃ (r : Bool),
 (FnD prog 29 [vA [sD (dI a0), sD (dI a1), sD (dL a2), sD (dI a0), sD (dI a1), sD (dL a2), sD (dI r0), sD (dI r1), sD (dL r2), sD (dI r01), sD (dI r11), sD (dL r21), sD (dI (0 : Int)), sD (dI (0 : Int)), sD (dB false)]] (vD (dB r)) []) ∧
 (R (vA [sD (dI a0), sD (dI a1), sD (dL a2), sD (dI a0), sD (dI a1), sD (dL a2), sD (dI r0), sD (dI r1), sD (dL r2), sD (dI r01), sD (dI r11), sD (dL r21), sD (dI (0 : Int)), sD (dI (0 : Int)), sD (dB r)]) []))
theorem vc10_ok (a0 a1 : Int) (a2 : DL) {R : V → Heap → Prop} (h : vc10 a0 a1 a2 R) : FnG prog 10 [vA [sD (dI a0), sD (dI a1), sD (dL a2)]] [] R :=
  FnG.vcg hT func10 ntmps10 (.reg 2 [(0, Or.none, 0, 1), (1, Or.none, 1, 1)] [1, 2] [0, 1] [] <| .ex fun r0 => .ex fun r1 => .exl fun r2 => .ex fun r01 => .ex fun r11 => .exl fun r21 => .drw 1 [(4, (Or.call (vA [sD (dI r0), sD (dI r1), sD (dL r2)]) [] [], 0, 0), []), (7, (Or.call (vA [sD (dI r01), sD (dI r11), sD (dL r21)]) [] [], 0, 0), []), (9, (Or.none, 2, 1), [2]), (10, (Or.none, 0, 0), [2])] [2, 3] [1, 2] [] <| .exb fun r => .reg 0 [(1, Or.call (vD (dB r)) [] [], 0, 0)] [2, 3] [0, 1] [] <| .r1 [2] [0] <| .ret [])
    (by kernel_rfl) (by kernel_rfl) (by kernel_rfl) h
def vc12 (a0 a1 : Int) (a2 : DL) (R : V → Heap → Prop) : Prop :=
 ∃ (r0 r1 : Int) (rrows : DLL) (r01 r11 : Int) (rrows1 : DLL),
 (FnD prog 30 [vD (dI a0)] (vA [sD (dI r0), sD (dI r1), S.ref 0]) [some (Obj.mat 2 rrows)]) ∧
 (FnD prog 30 [vD (dI a0)] (vA [sD (dI r01), sD (dI r11), S.ref 0]) [some (Obj.mat 2 rrows1)]) ∧
 (∃ (r : Bool),
 (FnD prog 31 [vA [sD (dI a0), sD (dI a1), sD (dL a2), sD (dI a0), sD (dI a1), sD (dL a2), sD (dI r0), sD (dI r1), sD (dL (matD rrows)), sD (dI r01), sD (dI r11), sD (dL (matD rrows1)), sD (dI (0 : Int)), sD (dI (0 : Int)), sD (dB false)]] (vD (dB r)) []) ∧
 (R (vA [sD (dI a0), sD (dI a1), sD (dL a2), sD (dI a0), sD (dI a1), sD (dL a2), sD (dI r0), sD (dI r1), sD (dL (matD rrows)), sD (dI r01), sD (dI r11), sD (dL (matD rrows1)), sD (dI (0 : Int)), sD (dI (0 : Int)), sD (dB r)]) []))
theorem vc12_ok (a0 a1 : Int) (a2 : DL) {R : V → Heap → Prop} (h : vc12 a0 a1 a2 R) : FnG prog 12 [vA [sD (dI a0), sD (dI a1), sD (dL a2)]] [] R :=
  FnG.vcg hT func12 ntmps12 (.reg 2 [(0, Or.none, 0, 1), (1, Or.none, 1, 1)] [1, 2] [0, 1] [] <| .ex fun r0 => .ex fun r1 => .exm fun rrows => .ex fun r01 => .ex fun r11 => .exm fun rrows1 => .drw 3 [(4, (Or.call (vA [sD (dI r0), sD (dI r1), S.ref 0]) [some (Obj.mat 2 rrows)] [], 2, 1), [2]), (7, (Or.call (vA [sD (dI r01), sD (dI r11), S.ref 0]) [some (Obj.mat 2 rrows1)] [], 3, 1), [3]), (9, (Or.none, 4, 1), [4]), (10, (Or.none, 0, 0), [4])] [2, 3] [1, 4, 2, 3] [] <| .frz [2] <| .frz [3] <| .exb fun r => .reg 0 [(1, Or.call (vD (dB r)) [] [], 0, 0)] [2, 3] [0, 1] [] <| .r1 [2] [0] <| .ret [])
    (by kernel_rfl) (by kernel_rfl) (by kernel_rfl) h
def vc94 (p0 p1 : Int) (p2 : DL) (p3 p4 : Int) (p5 : DL) (p6 p7 : Int) (p8 : DL) (p9 p10 : Int) (p11 : DL) (p12 p13 : Int) (p14 : Bool) (i : Int) (R : V → Heap → Prop) : Prop :=
 ∃ (vx : DL) (x0 : Bool) (x1 : DL),
 (0 ≤ i ∧ i < (p5.length : Int)) ∧
 (p5[(i).toNat]? = some [dL vx]) ∧
 (0 ≤ p13 ∧ p13 < (vx.length : Int)) ∧
 (vx[(p13).toNat]? = some [dB x0, dL x1]) ∧
 (R (vA [sD (dB x0), sD (dL x1)]) [])
theorem vc94_ok (p0 p1 : Int) (p2 : DL) (p3 p4 : Int) (p5 : DL) (p6 p7 : Int) (p8 : DL) (p9 p10 : Int) (p11 : DL) (p12 p13 : Int) (p14 : Bool) (i : Int) {R : V → Heap → Prop} (h : vc94 p0 p1 p2 p3 p4 p5 p6 p7 p8 p9 p10 p11 p12 p13 p14 i R) : FnG prog 94 [vD (D.box [dI p0, dI p1, dL p2, dI p3, dI p4, dL p5, dI p6, dI p7, dL p8, dI p9, dI p10, dL p11, dI p12, dI p13, dB p14]), vD (dI i)] [] R :=
  FnG.vcg hT func94 ntmps94 (.reg 1 [(0, Or.none, 0, 1)] [0, 1, 4] [0] [] <| .exl fun vx => .exb fun x0 => .exl fun x1 => .drw 0 [(7, (Or.cells [dL vx], 0, 0), []), (13, (Or.cells [dB x0, dL x1], 0, 0), []), (14, (Or.none, 0, 0), [0])] [4] [0] [] <| .ret [])
    (by kernel_rfl) (by kernel_rfl) (by kernel_rfl) h
def vc94o (p0 p1 : Int) (p2 : DL) (p3 p4 : Int) (p5 : DLL) (p6 p7 : Int) (p8 : DLL) (p9 p10 : Int) (p11 : DLL) (p12 p13 : Int) (p14 : Bool) (i : Int) (R : V → Heap → Prop) : Prop :=
 ∃ (x0 : Bool) (x1 : DL),
 (0 ≤ i ∧ i < (p5.length : Int)) ∧
 (∃ l, p5[(i).toNat]? = some l ∧ 0 ≤ p13 ∧ p13 < (l.length : Int)) ∧
 (at2 p5 (i).toNat (p13).toNat = some [dB x0, dL x1]) ∧
 (R (vA [sD (dB x0), sD (dL x1)]) [some (Obj.box [sD (dI p0), sD (dI p1), sD (dL p2), sD (dI p3), sD (dI p4), S.ref 1, sD (dI p6), sD (dI p7), S.ref 2, sD (dI p9), sD (dI p10), S.ref 3, sD (dI p12), sD (dI p13), sD (dB p14)]), some (Obj.mat 2 p5), some (Obj.mat 2 p8), some (Obj.mat 2 p11)])
theorem vc94o_ok (p0 p1 : Int) (p2 : DL) (p3 p4 : Int) (p5 : DLL) (p6 p7 : Int) (p8 : DLL) (p9 p10 : Int) (p11 : DLL) (p12 p13 : Int) (p14 : Bool) (i : Int) {R : V → Heap → Prop} (h : vc94o p0 p1 p2 p3 p4 p5 p6 p7 p8 p9 p10 p11 p12 p13 p14 i R) : FnG prog 94 [V.e (E.sc (S.ptr 0 0)), vD (dI i)] [some (Obj.box [sD (dI p0), sD (dI p1), sD (dL p2), sD (dI p3), sD (dI p4), S.ref 1, sD (dI p6), sD (dI p7), S.ref 2, sD (dI p9), sD (dI p10), S.ref 3, sD (dI p12), sD (dI p13), sD (dB p14)]), some (Obj.mat 2 p5), some (Obj.mat 2 p8), some (Obj.mat 2 p11)] R :=
  FnG.vcg hT func94 ntmps94 (.reg 1 [(0, Or.none, 4, 1)] [0, 1, 4] [0, 1, 2, 3, 4] [] <| .exb fun x0 => .exl fun x1 => .drw 0 [(13, (Or.cells [dB x0, dL x1], 0, 0), []), (14, (Or.none, 0, 0), [4])] [4] [0, 1, 2, 3, 4] [] <| .ret [0, 1, 2, 3])
    (by kernel_rfl) (by kernel_rfl) (by kernel_rfl) h
def vc93 (p0 p1 : Int) (p2 : DL) (p3 p4 : Int) (p5 : DL) (p6 p7 : Int) (p8 : DL) (p9 p10 : Int) (p11 : DL) (p12 p13 : Int) (p14 : Bool) (R : V → Heap → Prop) : Prop :=
 ∃ (J0 : Int → Int → Prop) (μ0 : Int → Int → Nat),
 J0 (-1 : Int) p12 ∧ ∀ (best i : Int), J0 best i →
 (decide (i < p3) = true →
 ∃ (r0 : Bool) (r1 : DL) (r01 : Bool) (r11 : DL),
 (FnD prog 94 [vD (D.box [dI p0, dI p1, dL p2, dI p3, dI p4, dL p5, dI p6, dI p7, dL p8, dI p9, dI p10, dL p11, dI p12, dI p13, dB p14]), vD (dI i)] (vA [sD (dB r0), sD (dL r1)]) []) ∧
 (FnD prog 117 [vA [sD (dB r0), sD (dL r1)]] (vA [sD (dB r01), sD (dL r11)]) []) ∧
 (∃ (r : Int),
 (FnD prog 83 [vA [sD (dB r01), sD (dL r11)]] (vD (dI r)) []) ∧
 ((decide (r > (0 : Int)) = true →
 (decide (best < (0 : Int)) = true →
 J0 i (IntKind.i64.wrap (i + (1 : Int))) ∧ μ0 i (IntKind.i64.wrap (i + (1 : Int))) < μ0 best i) ∧
 (decide (best < (0 : Int)) = false →
 ∃ (r02 : Bool) (r12 : DL) (r03 : Bool) (r13 : DL) (r2 : Int),
 (FnD prog 94 [vD (D.box [dI p0, dI p1, dL p2, dI p3, dI p4, dL p5, dI p6, dI p7, dL p8, dI p9, dI p10, dL p11, dI p12, dI p13, dB p14]), vD (dI best)] (vA [sD (dB r02), sD (dL r12)]) []) ∧
 (FnD prog 117 [vA [sD (dB r02), sD (dL r12)]] (vA [sD (dB r03), sD (dL r13)]) []) ∧
 (FnD prog 86 [vA [sD (dB r01), sD (dL r11)], vA [sD (dB r03), sD (dL r13)]] (vD (dI r2)) []) ∧
 ((decide (r2 < (0 : Int)) = true →
 J0 i (IntKind.i64.wrap (i + (1 : Int))) ∧ μ0 i (IntKind.i64.wrap (i + (1 : Int))) < μ0 best i) ∧
 (decide (r2 < (0 : Int)) = false →
 J0 best (IntKind.i64.wrap (i + (1 : Int))) ∧ μ0 best (IntKind.i64.wrap (i + (1 : Int))) < μ0 best i)))) ∧
 (decide (r > (0 : Int)) = false →
 J0 best (IntKind.i64.wrap (i + (1 : Int))) ∧ μ0 best (IntKind.i64.wrap (i + (1 : Int))) < μ0 best i)))) ∧
 (decide (i < p3) = false →
 R (vD (dI best)) [])
theorem vc93_ok (p0 p1 : Int) (p2 : DL) (p3 p4 : Int) (p5 : DL) (p6 p7 : Int) (p8 : DL) (p9 p10 : Int) (p11 : DL) (p12 p13 : Int) (p14 : Bool) {R : V → Heap → Prop} (h : vc93 p0 p1 p2 p3 p4 p5 p6 p7 p8 p9 p10 p11 p12 p13 p14 R) : FnG prog 93 [vD (D.box [dI p0, dI p1, dL p2, dI p3, dI p4, dL p5, dI p6, dI p7, dL p8, dI p9, dI p10, dL p11, dI p12, dI p13, dB p14])] [] R :=
  FnG.vcg hT func93 ntmps93 (.r0 [0] <| .r0 [0, 3] <| .r0 [0, 3, 4] <| .lp [.i, .i] (fun best i => ⟨[(0, vD (D.box [dI p0, dI p1, dL p2, dI p3, dI p4, dL p5, dI p6, dI p7, dL p8, dI p9, dI p10, dL p11, dI p12, dI p13, dB p14])), (3, vD (dI best)), (4, vD (dI i))], [], 41⟩) [.i (-1 : Int), .i p12] <| .fi fun best => .fi fun i => .beg <| .r0 [0, 3, 4, 16] <| .c2 (.exb fun r0 => .exl fun r1 => .exb fun r01 => .exl fun r11 => .reg 1 [(2, Or.call (vA [sD (dB r0), sD (dL r1)]) [] [], 0, 0), (3, Or.call (vA [sD (dB r01), sD (dL r11)]) [] [], 0, 0), (4, Or.none, 0, 1)] [0, 3, 4, 5] [0] [] <| .ex fun r => .ob (FnD prog 83 [vA [sD (dB r01), sD (dL r11)]] (vD (dI r)) []) <| .spl ((decide (r > (0 : Int)))) (.spl ((decide (best < (0 : Int)))) (.drw 0 [(1, (Or.call (vD (dI r)) [] [], 0, 0), []), (3, (Or.bool true, 0, 0), []), (6, (Or.bool true, 0, 0), [])] [0, 3, 4, 38] [] [.old 2, .old 1, .old 0] <| .ct true none <| .r0 [0, 3, 4] <| .r0 [0, 3, 4] <| .bk 0 [.i i, .i (IntKind.i64.wrap (i + (1 : Int)))]) (.exb fun r02 => .exl fun r12 => .exb fun r03 => .exl fun r13 => .ex fun r2 => .drw 0 [(1, (Or.call (vD (dI r)) [] [], 0, 0), []), (3, (Or.bool true, 0, 0), []), (6, (Or.bool false, 0, 0), []), (10, (Or.call (vA [sD (dB r02), sD (dL r12)]) [] [], 0, 0), []), (11, (Or.call (vA [sD (dB r03), sD (dL r13)]) [] [], 0, 0), []), (12, (Or.call (vD (dI r2)) [] [], 0, 0), [])] [0, 3, 4, 38] [] [.old 2, .old 1, .old 0] <| .c2 (.r0 [0, 3, 4] <| .r0 [0, 3, 4] <| .bk 0 [.i i, .i (IntKind.i64.wrap (i + (1 : Int)))]) (.r0 [0, 3, 4] <| .bk 0 [.i best, .i (IntKind.i64.wrap (i + (1 : Int)))]))) (.drw 0 [(1, (Or.call (vD (dI r)) [] [], 0, 0), []), (3, (Or.bool false, 0, 0), [])] [0, 3, 4, 38] [] [.old 1, .old 0] <| .ct false none <| .r0 [0, 3, 4] <| .bk 0 [.i best, .i (IntKind.i64.wrap (i + (1 : Int)))])) (.r0 [2] <| .ret []))
    (by kernel_rfl) (by kernel_rfl) (by kernel_rfl) h
def vc64 (p0 p1 : Int) (p2 : DL) (p3 p4 : Int) (p5 : DLL) (p6 p7 : Int) (p8 : DLL) (p9 p10 : Int) (p11 : DLL) (p12 p13 : Int) (p14 : Bool) (R : V → Heap → Prop) : Prop :=
 ∃ (r : Int),
 (FnD prog 93 [vD (D.box [dI p0, dI p1, dL p2, dI p3, dI p4, dL (matD p5), dI p6, dI p7, dL (matD p8), dI p9, dI p10, dL (matD p11), dI p12, dI p13, dB p14])] (vD (dI r)) []) ∧
 ((decide (r ≥ (0 : Int)) = true →
 R (vD (dB false)) [some (Obj.box [sD (dI p0), sD (dI p1), sD (dL p2), sD (dI p3), sD (dI p4), S.ref 1, sD (dI p6), sD (dI p7), S.ref 2, sD (dI p9), sD (dI p10), S.ref 3, sD (dI p12), sD (dI p13), sD (dB p14)]), some (Obj.mat 2 p5), some (Obj.mat 2 p8), some (Obj.mat 2 p11)]) ∧
 (decide (r ≥ (0 : Int)) = false →
 R (vD (dB true)) [some (Obj.box [sD (dI p0), sD (dI p1), sD (dL p2), sD (dI p3), sD (dI p4), S.ref 1, sD (dI p6), sD (dI p7), S.ref 2, sD (dI p9), sD (dI p10), S.ref 3, sD (dI p12), sD (dI (IntKind.i64.wrap (p13 + (1 : Int)))), sD (dB p14)]), some (Obj.mat 2 p5), some (Obj.mat 2 p8), some (Obj.mat 2 p11)]))
theorem vc64_ok (p0 p1 : Int) (p2 : DL) (p3 p4 : Int) (p5 : DLL) (p6 p7 : Int) (p8 : DLL) (p9 p10 : Int) (p11 : DLL) (p12 p13 : Int) (p14 : Bool) {R : V → Heap → Prop} (h : vc64 p0 p1 p2 p3 p4 p5 p6 p7 p8 p9 p10 p11 p12 p13 p14 R) : FnG prog 64 [V.e (E.sc (S.ptr 0 0))] [some (Obj.box [sD (dI p0), sD (dI p1), sD (dL p2), sD (dI p3), sD (dI p4), S.ref 1, sD (dI p6), sD (dI p7), S.ref 2, sD (dI p9), sD (dI p10), S.ref 3, sD (dI p12), sD (dI p13), sD (dB p14)]), some (Obj.mat 2 p5), some (Obj.mat 2 p8), some (Obj.mat 2 p11)] R :=
  FnG.vcg hT func64 ntmps64 (.r1 [0] [0, 1, 2, 3] <| .ex fun r => .reg 0 [(1, Or.callB [1, 2, 3] [0] (vD (dI r)), 0, 0)] [0, 5] [0, 1, 2, 3] [] <| .c2 (.r1 [2] [0, 1, 2, 3] <| .ret [0, 1, 2, 3]) (.r1 [] [0, 1, 2, 3] <| .r1 [2] [0, 1, 2, 3] <| .ret [0, 1, 2, 3]))
    (by kernel_rfl) (by kernel_rfl) (by kernel_rfl) h
def vc65 (p0 p1 : Int) (p2 : DL) (p3 p4 : Int) (p5 : DLL) (p6 p7 : Int) (p8 : DLL) (p9 p10 : Int) (p11 : DLL) (p12 p13 : Int) (p14 : Bool) (R : V → Heap → Prop) : Prop :=
 ∃ (r : Int),
 (FnD prog 93 [vD (D.box [dI p0, dI p1, dL p2, dI p3, dI p4, dL (matD p5), dI p6, dI p7, dL (matD p8), dI p9, dI p10, dL (matD p11), dI p12, dI p13, dB p14])] (vD (dI r)) []) ∧
 (((r == p12) = true →
 R (vD (dB false)) [some (Obj.box [sD (dI p0), sD (dI p1), sD (dL p2), sD (dI p3), sD (dI p4), S.ref 4, sD (dI p6), sD (dI p7), S.ref 5, sD (dI p9), sD (dI p10), S.ref 3, sD (dI p12), sD (dI p13), sD (dB p14)]), some (Obj.fwd (S.ref 4)), some (Obj.fwd (S.ref 5)), some (Obj.mat 2 p11), some (Obj.mat 2 p5), some (Obj.mat 2 p8)]) ∧
 ((r == p12) = false →
 (0 ≤ p12 ∧ p12 < (p5.length : Int)) ∧
 (0 ≤ r ∧ r < (p5.length : Int)) ∧
 ((p12).toNat = (p12).toNat) ∧
 ((r).toNat = (r).toNat) ∧
 ((0 ≤ p12 ∧ p12 < (p8.length : Int)) ∧
 (0 ≤ r ∧ r < (p8.length : Int)) ∧
 (∃ (J0 : (DLL) → Int → Prop) (μ0 : (DLL) → Int → Nat),
 J0 p11 (0 : Int) ∧ ∀ (o3 : DLL) (t82 : Int), J0 o3 t82 →
 (decide (t82 < (p11.length : Int)) = true →
 (0 ≤ t82 ∧ t82 < (o3.length : Int)) ∧
 (∃ (x0 : Bool) (x1 : DL) (x01 : Bool) (x11 : DL),
 (∃ l, o3[(t82).toNat]? = some l ∧ 0 ≤ p12 ∧ p12 < (l.length : Int)) ∧
 (at2 o3 (t82).toNat (p12).toNat = some [dB x0, dL x1]) ∧
 (∃ l, o3[(t82).toNat]? = some l ∧ 0 ≤ r ∧ r < (l.length : Int)) ∧
 (at2 o3 (t82).toNat (r).toNat = some [dB x01, dL x11]) ∧
 (∃ l, (o3.modify (t82).toNat (fun qz => qz.set (r).toNat [dB x0, dL x1]))[(t82).toNat]? = some l ∧ 0 ≤ p12 ∧ p12 < (l.length : Int)) ∧
 (J0 ((o3.modify (t82).toNat (fun qz => qz.set (r).toNat [dB x0, dL x1])).modify (t82).toNat (fun qz => qz.set (p12).toNat [dB x01, dL x11])) (IntKind.i64.wrap (t82 + (1 : Int))) ∧ μ0 ((o3.modify (t82).toNat (fun qz => qz.set (r).toNat [dB x0, dL x1])).modify (t82).toNat (fun qz => qz.set (p12).toNat [dB x01, dL x11])) (IntKind.i64.wrap (t82 + (1 : Int))) < μ0 o3 t82))) ∧
 (decide (t82 < (p11.length : Int)) = false →
 R (vD (dB true)) [some (Obj.box [sD (dI p0), sD (dI p1), sD (dL p2), sD (dI p3), sD (dI p4), S.ref 4, sD (dI p6), sD (dI p7), S.ref 5, sD (dI p9), sD (dI p10), S.ref 3, sD (dI p12), sD (dI p13), sD (dB p14)]), some (Obj.fwd (S.ref 4)), some (Obj.fwd (S.ref 5)), some (Obj.mat 2 o3), some (Obj.mat 2 (swapR p5 ((r).toNat) ((p12).toNat))), some (Obj.mat 2 (swapR p8 ((r).toNat) ((p12).toNat)))])))))
theorem vc65_ok (p0 p1 : Int) (p2 : DL) (p3 p4 : Int) (p5 : DLL) (p6 p7 : Int) (p8 : DLL) (p9 p10 : Int) (p11 : DLL) (p12 p13 : Int) (p14 : Bool) {R : V → Heap → Prop} (h : vc65 p0 p1 p2 p3 p4 p5 p6 p7 p8 p9 p10 p11 p12 p13 p14 R) : FnG prog 65 [V.e (E.sc (S.ptr 0 0))] [some (Obj.box [sD (dI p0), sD (dI p1), sD (dL p2), sD (dI p3), sD (dI p4), S.ref 1, sD (dI p6), sD (dI p7), S.ref 2, sD (dI p9), sD (dI p10), S.ref 3, sD (dI p12), sD (dI p13), sD (dB p14)]), some (Obj.mat 2 p5), some (Obj.mat 2 p8), some (Obj.mat 2 p11)] R :=
  FnG.vcg hT func65 ntmps65 (.r1 [0] [0, 1, 2, 3] <| .ex fun r => .drw 0 [(1, (Or.callB [1, 2, 3] [0] (vD (dI r)), 0, 0), [])] [0, 3, 4] [0, 1, 2, 3] [] <| .r1 [0, 3, 4, 15] [0, 1, 2, 3] <| .c2 (.r1 [2] [0, 1, 2, 3] <| .mv 1 <| .mv 2 <| .fwd [] [0] <| .ret [0, 1, 2, 3, 4, 5]) (.drw 1 [(29, (Or.none, 0, 0), [1]), (31, (Or.none, 4, 1), [1, 4])] [0, 3, 4] [0, 1, 2, 3, 4] [.new, .new, .old 0, .old 1] <| .fwd [] [0] <| .drw 1 [(29, (Or.none, 0, 0), [2]), (31, (Or.none, 5, 1), [2, 5])] [0, 3, 4] [0, 1, 2, 3, 4, 5] [.new, .new, .old 0, .old 1, .old 3, .old 2] <| .fwd [] [0] <| .r1 [3, 4, 80, 81, 82] [0, 1, 2, 3, 4, 5] <| .fwd [] [] <| .lp [.m, .i] (fun o3 t82 => ⟨[(3, vD (dI r)), (4, vD (dI p12)), (80, vR 3), (81, vD (dI (p11.length : Int))), (82, vD (dI t82))], [some (Obj.box [sD (dI p0), sD (dI p1), sD (dL p2), sD (dI p3), sD (dI p4), S.ref 4, sD (dI p6), sD (dI p7), S.ref 5, sD (dI p9), sD (dI p10), S.ref 3, sD (dI p12), sD (dI p13), sD (dB p14)]), some (Obj.fwd (S.ref 4)), some (Obj.fwd (S.ref 5)), some (Obj.mat 2 o3), some (Obj.mat 2 (swapR p5 ((r).toNat) ((p12).toNat))), some (Obj.mat 2 (swapR p8 ((r).toNat) ((p12).toNat)))], 101⟩) [.m p11, .i (0 : Int)] <| .fm fun o3 => .fi fun t82 => .beg <| .r1 [3, 4, 80, 81, 82, 83] [0, 1, 2, 3, 4, 5] <| .fwd [] [] <| .c2 (.r1 [3, 4, 6, 80, 81, 82] [0, 1, 2, 3, 4, 5] <| .fwd [] [] <| .exb fun x0 => .exl fun x1 => .exb fun x01 => .exl fun x11 => .drw 0 [(7, (Or.cells [dB x0, dL x1], 0, 0), []), (11, (Or.cells [dB x01, dL x11], 0, 0), []), (13, (Or.none, 0, 0), [3]), (15, (Or.none, 0, 0), [3])] [3, 4, 80, 81, 82] [0, 1, 2, 3, 4, 5] [.new, .new, .new, .new, .old 1] <| .fwd [] [] <| .r1 [3, 4, 80, 81, 82] [0, 1, 2, 3, 4, 5] <| .fwd [] [] <| .bk 0 [.m ((o3.modify (t82).toNat (fun qz => qz.set (r).toNat [dB x0, dL x1])).modify (t82).toNat (fun qz => qz.set (p12).toNat [dB x01, dL x11])), .i (IntKind.i64.wrap (t82 + (1 : Int)))]) (.r1 [2] [0, 1, 2, 3, 4, 5] <| .fwd [] [] <| .ret [0, 1, 2, 3, 4, 5])))
    (by kernel_rfl) (by kernel_rfl) (by kernel_rfl) h
def vc66 (p0 p1 : Int) (p2 : DL) (p3 p4 : Int) (p5 : DLL) (p6 p7 : Int) (p8 : DLL) (p9 p10 : Int) (p11 : DLL) (p12 p13 : Int) (p14 : Bool) (R : V → Heap → Prop) : Prop :=
 ∃ (r : Bool) (r1 : DL) (b b1 : Int) (b2 : DL) (b3 b4 : Int) (b5 b6 : Int) (b7 b8 : Int) (b9 b10 : Int) (b11 : Bool) (m m1 m2 : DLL) (r2 : Int),
 (FnO prog 94 [V.e (E.sc (S.ptr 0 0)), vD (dI p12)] [some (Obj.box [sD (dI p0), sD (dI p1), sD (dL p2), sD (dI p3), sD (dI p4), S.ref 1, sD (dI p6), sD (dI p7), S.ref 2, sD (dI p9), sD (dI p10), S.ref 3, sD (dI p12), sD (dI p13), sD (dB p14)]), some (Obj.mat 2 p5), some (Obj.mat 2 p8), some (Obj.mat 2 p11)] (vA [sD (dB r), sD (dL r1)]) [some (Obj.box [sD (dI b), sD (dI b1), sD (dL b2), sD (dI b3), sD (dI b4), S.ref 1, sD (dI b5), sD (dI b6), S.ref 2, sD (dI b7), sD (dI b8), S.ref 3, sD (dI b9), sD (dI b10), sD (dB b11)]), some (Obj.mat 2 m), some (Obj.mat 2 m1), some (Obj.mat 2 m2)]) ∧
 (FnD prog 83 [vA [sD (dB r), sD (dL r1)]] (vD (dI r2)) []) ∧
 ((decide (r2 > (0 : Int)) = true →
 R (vD (dB false)) [some (Obj.box [sD (dI b), sD (dI b1), sD (dL b2), sD (dI b3), sD (dI b4), S.ref 1, sD (dI b5), sD (dI b6), S.ref 2, sD (dI b7), sD (dI b8), S.ref 3, sD (dI b9), sD (dI b10), sD (dB b11)]), some (Obj.mat 2 m), some (Obj.mat 2 m1), some (Obj.mat 2 m2)]) ∧
 (decide (r2 > (0 : Int)) = false →
 (0 ≤ (0 : Int) ∧ (0 : Int) < ((2 : Nat) : Int)) ∧
 ((0 ≤ b9 ∧ b9 < (m.length : Int)) ∧
 (∃ (J0 : (DLL) → Int → Prop) (μ0 : (DLL) → Int → Nat),
 J0 m (0 : Int) ∧ ∀ (o1 : DLL) (t40 : Int), J0 o1 t40 →
 ((decide (t40 < ((m.getD (b9).toNat ([] : DL)).length : Int))) = true →
 ∃ (x0 : Bool) (x1 : DL),
 (∃ l, o1[(b9).toNat]? = some l ∧ 0 ≤ t40 ∧ t40 < (l.length : Int)) ∧
 (at2 o1 (b9).toNat (t40).toNat = some [dB x0, dL x1]) ∧
 (∃ (r0 : Bool) (r11 : DL),
 (0 ≤ b9 ∧ b9 < (o1.length : Int)) ∧
 (FnD prog 95 [vA [sD (dB x0), sD (dL x1)]] (vA [sD (dB r0), sD (dL r11)]) []) ∧
 (J0 (o1.modify (b9).toNat (fun qz => qz.set (t40).toNat [dB r0, dL r11])) (IntKind.i64.wrap (t40 + (1 : Int))) ∧ μ0 (o1.modify (b9).toNat (fun qz => qz.set (t40).toNat [dB r0, dL r11])) (IntKind.i64.wrap (t40 + (1 : Int))) < μ0 o1 t40))) ∧
 ((decide (t40 < ((m.getD (b9).toNat ([] : DL)).length : Int))) = false →
 (0 ≤ (1 : Int) ∧ (1 : Int) < ((2 : Nat) : Int)) ∧
 ((0 ≤ b9 ∧ b9 < (m1.length : Int)) ∧
 (∃ (J1 : (DLL) → Int → Prop) (μ1 : (DLL) → Int → Nat),
 J1 m1 (0 : Int) ∧ ∀ (o2 : DLL) (t401 : Int), J1 o2 t401 →
 ((decide (t401 < ((m1.getD (b9).toNat ([] : DL)).length : Int))) = true →
 ∃ (x01 : Bool) (x11 : DL),
 (∃ l, o2[(b9).toNat]? = some l ∧ 0 ≤ t401 ∧ t401 < (l.length : Int)) ∧
 (at2 o2 (b9).toNat (t401).toNat = some [dB x01, dL x11]) ∧
 (∃ (r01 : Bool) (r12 : DL),
 (0 ≤ b9 ∧ b9 < (o2.length : Int)) ∧
 (FnD prog 95 [vA [sD (dB x01), sD (dL x11)]] (vA [sD (dB r01), sD (dL r12)]) []) ∧
 (J1 (o2.modify (b9).toNat (fun qz => qz.set (t401).toNat [dB r01, dL r12])) (IntKind.i64.wrap (t401 + (1 : Int))) ∧ μ1 (o2.modify (b9).toNat (fun qz => qz.set (t401).toNat [dB r01, dL r12])) (IntKind.i64.wrap (t401 + (1 : Int))) < μ1 o2 t401))) ∧
 ((decide (t401 < ((m1.getD (b9).toNat ([] : DL)).length : Int))) = false →
 ∃ (J2 : (DLL) → Int → Prop) (μ2 : (DLL) → Int → Nat),
 J2 m2 (0 : Int) ∧ ∀ (o3 : DLL) (t65 : Int), J2 o3 t65 →
 (decide (t65 < (m2.length : Int)) = true →
 (0 ≤ t65 ∧ t65 < (o3.length : Int)) ∧
 (∃ (x02 : Bool) (x12 : DL) (r02 : Bool) (r13 : DL),
 (∃ l, o3[(t65).toNat]? = some l ∧ 0 ≤ b9 ∧ b9 < (l.length : Int)) ∧
 (at2 o3 (t65).toNat (b9).toNat = some [dB x02, dL x12]) ∧
 (FnD prog 95 [vA [sD (dB x02), sD (dL x12)]] (vA [sD (dB r02), sD (dL r13)]) []) ∧
 (J2 (o3.modify (t65).toNat (fun qz => qz.set (b9).toNat [dB r02, dL r13])) (IntKind.i64.wrap (t65 + (1 : Int))) ∧ μ2 (o3.modify (t65).toNat (fun qz => qz.set (b9).toNat [dB r02, dL r13])) (IntKind.i64.wrap (t65 + (1 : Int))) < μ2 o3 t65))) ∧
 (decide (t65 < (m2.length : Int)) = false →
 R (vD (dB true)) [some (Obj.box [sD (dI b), sD (dI b1), sD (dL b2), sD (dI b3), sD (dI b4), S.ref 1, sD (dI b5), sD (dI b6), S.ref 2, sD (dI b7), sD (dI b8), S.ref 3, sD (dI b9), sD (dI b10), sD (dB b11)]), some (Obj.mat 2 o1), some (Obj.mat 2 o2), some (Obj.mat 2 o3)])))))))))
theorem vc66_ok (p0 p1 : Int) (p2 : DL) (p3 p4 : Int) (p5 : DLL) (p6 p7 : Int) (p8 : DLL) (p9 p10 : Int) (p11 : DLL) (p12 p13 : Int) (p14 : Bool) {R : V → Heap → Prop} (h : vc66 p0 p1 p2 p3 p4 p5 p6 p7 p8 p9 p10 p11 p12 p13 p14 R) : FnG prog 66 [V.e (E.sc (S.ptr 0 0))] [some (Obj.box [sD (dI p0), sD (dI p1), sD (dL p2), sD (dI p3), sD (dI p4), S.ref 1, sD (dI p6), sD (dI p7), S.ref 2, sD (dI p9), sD (dI p10), S.ref 3, sD (dI p12), sD (dI p13), sD (dB p14)]), some (Obj.mat 2 p5), some (Obj.mat 2 p8), some (Obj.mat 2 p11)] R :=
  FnG.vcg hT func66 ntmps66 (.r1 [0] [0, 1, 2, 3] <| .exb fun r => .exl fun r1 => .ex fun b => .ex fun b1 => .exl fun b2 => .ex fun b3 => .ex fun b4 => .ex fun b5 => .ex fun b6 => .ex fun b7 => .ex fun b8 => .ex fun b9 => .ex fun b10 => .exb fun b11 => .exm fun m => .exm fun m1 => .exm fun m2 => .ex fun r2 => .reg 0 [(5, Or.callO [0, 1, 2, 3] (vA [sD (dB r), sD (dL r1)]) [some (Obj.box [sD (dI b), sD (dI b1), sD (dL b2), sD (dI b3), sD (dI b4), S.ref 1, sD (dI b5), sD (dI b6), S.ref 2, sD (dI b7), sD (dI b8), S.ref 3, sD (dI b9), sD (dI b10), sD (dB b11)]), some (Obj.mat 2 m), some (Obj.mat 2 m1), some (Obj.mat 2 m2)], 0, 0), (6, Or.call (vD (dI r2)) [] [], 0, 0)] [0, 16] [0, 1, 2, 3] [] <| .c2 (.r1 [2] [0, 1, 2, 3] <| .ret [0, 1, 2, 3]) (.drw 1 [(8, (Or.none, 4, 1), [4])] [0, 25, 26, 27] [0, 1, 2, 3, 4] [] <| .lp1 <| .r1 [0, 25, 26, 27, 28] [0, 1, 2, 3, 4] <| .ct true none <| .reg 1 [(2, Or.none, 5, 1)] [0, 4, 25, 26, 27] [0, 1, 2, 3, 5, 4] [] <| .drw 0 [] [0, 4, 25, 26, 27, 38, 39, 40] [0, 1, 2, 3, 4, 5] [] <| .lp [.m, .i] (fun o1 t40 => ⟨[(0, vP 0 0), (4, vP 4 0), (25, V.e (E.sc (S.refb 5 2))), (26, vD (dI (2 : Int))), (27, vD (dI (0 : Int))), (38, V.e (E.sc (S.row 1 (b9).toNat))), (39, vD (dI ((m.getD (b9).toNat ([] : DL)).length : Int))), (40, vD (dI t40))], [some (Obj.box [sD (dI b), sD (dI b1), sD (dL b2), sD (dI b3), sD (dI b4), S.ref 1, sD (dI b5), sD (dI b6), S.ref 2, sD (dI b7), sD (dI b8), S.ref 3, sD (dI b9), sD (dI b10), sD (dB b11)]), some (Obj.mat 2 o1), some (Obj.mat 2 m1), some (Obj.mat 2 m2), some (Obj.box [sD (dI b3), sD (dI b4), S.ref 1]), some (Obj.box [sD (dI b3), sD (dI b4), S.ref 1, sD (dI b5), sD (dI b6), S.ref 2])], 84⟩) [.m m, .i (0 : Int)] <| .fm fun o1 => .fi fun t40 => .beg <| .r1 [0, 4, 25, 26, 27, 38, 39, 40, 41] [0, 1, 2, 3, 4, 5] <| .c2 (.exb fun x0 => .exl fun x1 => .reg 1 [(2, Or.cells [dB x0, dL x1], 0, 0), (3, Or.none, 6, 1)] [0, 4, 5, 6, 25, 26, 27, 38, 39, 40] [0, 1, 2, 3, 4, 6, 5] [] <| .exb fun r0 => .exl fun r11 => .drw 0 [(10, (Or.call (vA [sD (dB r0), sD (dL r11)]) [] [], 0, 0), []), (12, (Or.none, 0, 0), [1])] [0, 4, 25, 26, 27, 38, 39, 40] [0, 1, 2, 3, 4, 6] [.new, .new, .old 3] <| .r1 [0, 4, 25, 26, 27, 38, 39, 40] [0, 1, 2, 3, 4, 5] <| .bk 0 [.m (o1.modify (b9).toNat (fun qz => qz.set (t40).toNat [dB r0, dL r11])), .i (IntKind.i64.wrap (t40 + (1 : Int)))]) (.r1 [0, 25, 26, 27] [0, 1, 2, 3, 5] <| .lp1 <| .r1 [0, 25, 26, 27, 28] [0, 1, 2, 3, 4] <| .ct true none <| .reg 1 [(2, Or.none, 5, 1)] [0, 4, 25, 26, 27] [0, 1, 2, 3, 5, 4] [] <| .drw 0 [] [0, 4, 25, 26, 27, 38, 39, 40] [0, 1, 2, 3, 4, 5] [] <| .lp [.m, .i] (fun o2 t401 => ⟨[(0, vP 0 0), (4, vP 4 0), (25, V.e (E.sc (S.refb 5 2))), (26, vD (dI (2 : Int))), (27, vD (dI (1 : Int))), (38, V.e (E.sc (S.row 2 (b9).toNat))), (39, vD (dI ((m1.getD (b9).toNat ([] : DL)).length : Int))), (40, vD (dI t401))], [some (Obj.box [sD (dI b), sD (dI b1), sD (dL b2), sD (dI b3), sD (dI b4), S.ref 1, sD (dI b5), sD (dI b6), S.ref 2, sD (dI b7), sD (dI b8), S.ref 3, sD (dI b9), sD (dI b10), sD (dB b11)]), some (Obj.mat 2 o1), some (Obj.mat 2 o2), some (Obj.mat 2 m2), some (Obj.box [sD (dI b5), sD (dI b6), S.ref 2]), some (Obj.box [sD (dI b3), sD (dI b4), S.ref 1, sD (dI b5), sD (dI b6), S.ref 2])], 84⟩) [.m m1, .i (0 : Int)] <| .fm fun o2 => .fi fun t401 => .beg <| .r1 [0, 4, 25, 26, 27, 38, 39, 40, 41] [0, 1, 2, 3, 4, 5] <| .c2 (.exb fun x01 => .exl fun x11 => .reg 1 [(2, Or.cells [dB x01, dL x11], 0, 0), (3, Or.none, 6, 1)] [0, 4, 5, 6, 25, 26, 27, 38, 39, 40] [0, 1, 2, 3, 4, 6, 5] [] <| .exb fun r01 => .exl fun r12 => .drw 0 [(10, (Or.call (vA [sD (dB r01), sD (dL r12)]) [] [], 0, 0), []), (12, (Or.none, 0, 0), [2])] [0, 4, 25, 26, 27, 38, 39, 40] [0, 1, 2, 3, 4, 6] [.new, .new, .old 3] <| .r1 [0, 4, 25, 26, 27, 38, 39, 40] [0, 1, 2, 3, 4, 5] <| .bk 0 [.m (o2.modify (b9).toNat (fun qz => qz.set (t401).toNat [dB r01, dL r12])), .i (IntKind.i64.wrap (t401 + (1 : Int)))]) (.r1 [0, 25, 26, 27] [0, 1, 2, 3, 5] <| .lp1 <| .r1 [0, 25, 26, 27, 28] [0, 1, 2, 3, 4] <| .ct false none <| .r1 [0, 63, 64, 65] [0, 1, 2, 3] <| .lp [.m, .i] (fun o3 t65 => ⟨[(0, vP 0 0), (63, vR 3), (64, vD (dI (m2.length : Int))), (65, vD (dI t65))], [some (Obj.box [sD (dI b), sD (dI b1), sD (dL b2), sD (dI b3), sD (dI b4), S.ref 1, sD (dI b5), sD (dI b6), S.ref 2, sD (dI b7), sD (dI b8), S.ref 3, sD (dI b9), sD (dI b10), sD (dB b11)]), some (Obj.mat 2 o1), some (Obj.mat 2 o2), some (Obj.mat 2 o3)], 84⟩) [.m m2, .i (0 : Int)] <| .fm fun o3 => .fi fun t65 => .beg <| .r1 [0, 63, 64, 65, 66] [0, 1, 2, 3] <| .c2 (.r1 [0, 8, 63, 64, 65] [0, 1, 2, 3] <| .exb fun x02 => .exl fun x12 => .exb fun r02 => .exl fun r13 => .drw 0 [(11, (Or.cells [dB x02, dL x12], 0, 0), []), (12, (Or.call (vA [sD (dB r02), sD (dL r13)]) [] [], 0, 0), []), (14, (Or.none, 0, 0), [3])] [0, 63, 64, 65] [0, 1, 2, 3] [.new, .new, .new, .old 2] <| .r1 [0, 63, 64, 65] [0, 1, 2, 3] <| .bk 0 [.m (o3.modify (t65).toNat (fun qz => qz.set (b9).toNat [dB r02, dL r13])), .i (IntKind.i64.wrap (t65 + (1 : Int)))]) (.r1 [2] [0, 1, 2, 3] <| .ret [0, 1, 2, 3])))))
    (by kernel_rfl) (by kernel_rfl) (by kernel_rfl) h
def vc67 (p0 p1 : Int) (p2 : DL) (p3 p4 : Int) (p5 : DLL) (p6 p7 : Int) (p8 : DLL) (p9 p10 : Int) (p11 : DLL) (p12 p13 : Int) (p14 : Bool) (R : V → Heap → Prop) : Prop :=
 ∃ (J0 : Int → Int → Int → Int → Int → Bool → (DL) → Int → Int → Int → Int → Int → (DLL) → (DLL) → (DLL) → Int → Prop) (μ0 : Int → Int → Int → Int → Int → Bool → (DL) → Int → Int → Int → Int → Int → (DLL) → (DLL) → (DLL) → Int → Nat),
 J0 p0 p1 p10 p12 p13 p14 p2 p3 p4 p6 p7 p9 p5 p8 p11 (0 : Int) ∧ ∀ (p01 p15 : Int) (p101 p121 p131 : Int) (p141 : Bool) (p21 : DL) (p31 p41 : Int) (p61 p71 p91 : Int) (o1 o2 o3 : DLL) (t23 : Int), J0 p01 p15 p101 p121 p131 p141 p21 p31 p41 p61 p71 p91 o1 o2 o3 t23 →
 (decide (t23 < p3) = true →
 ∃ (r : Bool) (r1 : DL) (b b1 : Int) (b2 : DL) (b3 b4 : Int) (b5 b6 : Int) (b7 b8 : Int) (b9 b10 : Int) (b11 : Bool) (m m1 m2 : DLL) (r2 : Bool) (r3 : DL) (b12 b13 : Int) (b14 : DL) (b15 b16 : Int) (b17 b18 : Int) (b19 b20 : Int) (b21 b22 : Int) (b23 : Bool) (m3 m4 m5 : DLL) (r0 : Bool) (r11 : DL) (r01 : Bool) (r12 : DL) (r4 : Int),
 (FnO prog 94 [V.e (E.sc (S.ptr 0 0)), vD (dI t23)] [some (Obj.box [sD (dI p01), sD (dI p15), sD (dL p21), sD (dI p31), sD (dI p41), S.ref 1, sD (dI p61), sD (dI p71), S.ref 2, sD (dI p91), sD (dI p101), S.ref 3, sD (dI p121), sD (dI p131), sD (dB p141)]), some (Obj.mat 2 o1), some (Obj.mat 2 o2), some (Obj.mat 2 o3)] (vA [sD (dB r), sD (dL r1)]) [some (Obj.box [sD (dI b), sD (dI b1), sD (dL b2), sD (dI b3), sD (dI b4), S.ref 1, sD (dI b5), sD (dI b6), S.ref 2, sD (dI b7), sD (dI b8), S.ref 3, sD (dI b9), sD (dI b10), sD (dB b11)]), some (Obj.mat 2 m), some (Obj.mat 2 m1), some (Obj.mat 2 m2)]) ∧
 (FnO prog 94 [V.e (E.sc (S.ptr 0 0)), vD (dI p12)] [some (Obj.box [sD (dI b), sD (dI b1), sD (dL b2), sD (dI b3), sD (dI b4), S.ref 1, sD (dI b5), sD (dI b6), S.ref 2, sD (dI b7), sD (dI b8), S.ref 3, sD (dI b9), sD (dI b10), sD (dB b11)]), some (Obj.mat 2 m), some (Obj.mat 2 m1), some (Obj.mat 2 m2)] (vA [sD (dB r2), sD (dL r3)]) [some (Obj.box [sD (dI b12), sD (dI b13), sD (dL b14), sD (dI b15), sD (dI b16), S.ref 1, sD (dI b17), sD (dI b18), S.ref 2, sD (dI b19), sD (dI b20), S.ref 3, sD (dI b21), sD (dI b22), sD (dB b23)]), some (Obj.mat 2 m3), some (Obj.mat 2 m4), some (Obj.mat 2 m5)]) ∧
 (FnD prog 96 [vA [sD (dB r), sD (dL r1)], vA [sD (dB r2), sD (dL r3)]] (V.tup [E.agg [sD (dB r0), sD (dL r11)], E.agg [sD (dB r01), sD (dL r12)], eD (dI r4)]) []) ∧
 (((t23 == p12) = true →
 J0 b12 b13 b20 b21 b22 b23 b14 b15 b16 b17 b18 b19 m3 m4 m5 (IntKind.i64.wrap (t23 + (1 : Int))) ∧ μ0 b12 b13 b20 b21 b22 b23 b14 b15 b16 b17 b18 b19 m3 m4 m5 (IntKind.i64.wrap (t23 + (1 : Int))) < μ0 p01 p15 p101 p121 p131 p141 p21 p31 p41 p61 p71 p91 o1 o2 o3 t23) ∧
 ((t23 == p12) = false →
 ∃ (r5 : Int),
 (FnD prog 83 [vA [sD (dB r0), sD (dL r11)]] (vD (dI r5)) []) ∧
 (((r5 == (0 : Int)) = true →
 J0 b12 b13 b20 b21 b22 b23 b14 b15 b16 b17 b18 b19 m3 m4 m5 (IntKind.i64.wrap (t23 + (1 : Int))) ∧ μ0 b12 b13 b20 b21 b22 b23 b14 b15 b16 b17 b18 b19 m3 m4 m5 (IntKind.i64.wrap (t23 + (1 : Int))) < μ0 p01 p15 p101 p121 p131 p141 p21 p31 p41 p61 p71 p91 o1 o2 o3 t23) ∧
 ((r5 == (0 : Int)) = false →
 (0 ≤ (0 : Int) ∧ (0 : Int) < ((2 : Nat) : Int)) ∧
 ((0 ≤ p12 ∧ p12 < (m3.length : Int)) ∧
 (∃ (J1 : (DLL) → Int → Prop) (μ1 : (DLL) → Int → Nat),
 J1 m3 (0 : Int) ∧ ∀ (o11 : DLL) (t65 : Int), J1 o11 t65 →
 ((decide (t65 < ((m3.getD (p12).toNat ([] : DL)).length : Int))) = true →
 ∃ (x0 : Bool) (x1 : DL),
 (∃ l, o11[(p12).toNat]? = some l ∧ 0 ≤ t65 ∧ t65 < (l.length : Int)) ∧
 (at2 o11 (p12).toNat (t65).toNat = some [dB x0, dL x1]) ∧
 (∃ (x01 : Bool) (x11 : DL) (r02 : Bool) (r13 : DL) (r03 : Bool) (r14 : DL),
 (0 ≤ t23 ∧ t23 < (o11.length : Int)) ∧
 (∃ l, o11[(t23).toNat]? = some l ∧ 0 ≤ t65 ∧ t65 < (l.length : Int)) ∧
 (at2 o11 (t23).toNat (t65).toNat = some [dB x01, dL x11]) ∧
 (FnD prog 98 [vA [sD (dB r0), sD (dL r11)], vA [sD (dB x0), sD (dL x1)]] (vA [sD (dB r02), sD (dL r13)]) []) ∧
 (FnD prog 97 [vA [sD (dB x01), sD (dL x11)], vA [sD (dB r02), sD (dL r13)]] (vA [sD (dB r03), sD (dL r14)]) []) ∧
 (J1 (o11.modify (t23).toNat (fun qz => qz.set (t65).toNat [dB r03, dL r14])) (IntKind.i64.wrap (t65 + (1 : Int))) ∧ μ1 (o11.modify (t23).toNat (fun qz => qz.set (t65).toNat [dB r03, dL r14])) (IntKind.i64.wrap (t65 + (1 : Int))) < μ1 o11 t65))) ∧
 ((decide (t65 < ((m3.getD (p12).toNat ([] : DL)).length : Int))) = false →
 (0 ≤ (1 : Int) ∧ (1 : Int) < ((2 : Nat) : Int)) ∧
 ((0 ≤ p12 ∧ p12 < (m4.length : Int)) ∧
 (∃ (J2 : (DLL) → Int → Prop) (μ2 : (DLL) → Int → Nat),
 J2 m4 (0 : Int) ∧ ∀ (o21 : DLL) (t651 : Int), J2 o21 t651 →
 ((decide (t651 < ((m4.getD (p12).toNat ([] : DL)).length : Int))) = true →
 ∃ (x02 : Bool) (x12 : DL),
 (∃ l, o21[(p12).toNat]? = some l ∧ 0 ≤ t651 ∧ t651 < (l.length : Int)) ∧
 (at2 o21 (p12).toNat (t651).toNat = some [dB x02, dL x12]) ∧
 (∃ (x03 : Bool) (x13 : DL) (r04 : Bool) (r15 : DL) (r05 : Bool) (r16 : DL),
 (0 ≤ t23 ∧ t23 < (o21.length : Int)) ∧
 (∃ l, o21[(t23).toNat]? = some l ∧ 0 ≤ t651 ∧ t651 < (l.length : Int)) ∧
 (at2 o21 (t23).toNat (t651).toNat = some [dB x03, dL x13]) ∧
 (FnD prog 98 [vA [sD (dB r0), sD (dL r11)], vA [sD (dB x02), sD (dL x12)]] (vA [sD (dB r04), sD (dL r15)]) []) ∧
 (FnD prog 97 [vA [sD (dB x03), sD (dL x13)], vA [sD (dB r04), sD (dL r15)]] (vA [sD (dB r05), sD (dL r16)]) []) ∧
 (J2 (o21.modify (t23).toNat (fun qz => qz.set (t651).toNat [dB r05, dL r16])) (IntKind.i64.wrap (t651 + (1 : Int))) ∧ μ2 (o21.modify (t23).toNat (fun qz => qz.set (t651).toNat [dB r05, dL r16])) (IntKind.i64.wrap (t651 + (1 : Int))) < μ2 o21 t651))) ∧
 ((decide (t651 < ((m4.getD (p12).toNat ([] : DL)).length : Int))) = false →
 ∃ (J3 : (DLL) → Int → Prop) (μ3 : (DLL) → Int → Nat),
 J3 m5 (0 : Int) ∧ ∀ (o31 : DLL) (t97 : Int), J3 o31 t97 →
 (decide (t97 < (m5.length : Int)) = true →
 (0 ≤ t97 ∧ t97 < (o31.length : Int)) ∧
 (∃ (x04 : Bool) (x14 : DL) (x05 : Bool) (x15 : DL) (r06 : Bool) (r17 : DL) (r07 : Bool) (r18 : DL),
 (∃ l, o31[(t97).toNat]? = some l ∧ 0 ≤ p12 ∧ p12 < (l.length : Int)) ∧
 (at2 o31 (t97).toNat (p12).toNat = some [dB x04, dL x14]) ∧
 (∃ l, o31[(t97).toNat]? = some l ∧ 0 ≤ t23 ∧ t23 < (l.length : Int)) ∧
 (at2 o31 (t97).toNat (t23).toNat = some [dB x05, dL x15]) ∧
 (FnD prog 98 [vA [sD (dB r0), sD (dL r11)], vA [sD (dB x05), sD (dL x15)]] (vA [sD (dB r06), sD (dL r17)]) []) ∧
 (FnD prog 99 [vA [sD (dB x04), sD (dL x14)], vA [sD (dB r06), sD (dL r17)]] (vA [sD (dB r07), sD (dL r18)]) []) ∧
 (J3 (o31.modify (t97).toNat (fun qz => qz.set (p12).toNat [dB r07, dL r18])) (IntKind.i64.wrap (t97 + (1 : Int))) ∧ μ3 (o31.modify (t97).toNat (fun qz => qz.set (p12).toNat [dB r07, dL r18])) (IntKind.i64.wrap (t97 + (1 : Int))) < μ3 o31 t97))) ∧
 (decide (t97 < (m5.length : Int)) = false →
 R (vD (dB true)) [some (Obj.box [sD (dI b12), sD (dI b13), sD (dL b14), sD (dI b15), sD (dI b16), S.ref 1, sD (dI b17), sD (dI b18), S.ref 2, sD (dI b19), sD (dI b20), S.ref 3, sD (dI b21), sD (dI b22), sD (dB b23)]), some (Obj.mat 2 o11), some (Obj.mat 2 o21), some (Obj.mat 2 o31)])))))))))))) ∧
 (decide (t23 < p3) = false →
 R (vD (dB false)) [some (Obj.box [sD (dI p01), sD (dI p15), sD (dL p21), sD (dI p31), sD (dI p41), S.ref 1, sD (dI p61), sD (dI p71), S.ref 2, sD (dI p91), sD (dI p101), S.ref 3, sD (dI p121), sD (dI p131), sD (dB p141)]), some (Obj.mat 2 o1), some (Obj.mat 2 o2), some (Obj.mat 2 o3)])
theorem vc67_ok (p0 p1 : Int) (p2 : DL) (p3 p4 : Int) (p5 : DLL) (p6 p7 : Int) (p8 : DLL) (p9 p10 : Int) (p11 : DLL) (p12 p13 : Int) (p14 : Bool) {R : V → Heap → Prop} (h : vc67 p0 p1 p2 p3 p4 p5 p6 p7 p8 p9 p10 p11 p12 p13 p14 R) : FnG prog 67 [V.e (E.sc (S.ptr 0 0))] [some (Obj.box [sD (dI p0), sD (dI p1), sD (dL p2), sD (dI p3), sD (dI p4), S.ref 1, sD (dI p6), sD (dI p7), S.ref 2, sD (dI p9), sD (dI p10), S.ref 3, sD (dI p12), sD (dI p13), sD (dB p14)]), some (Obj.mat 2 p5), some (Obj.mat 2 p8), some (Obj.mat 2 p11)] R :=
  FnG.vcg hT func67 ntmps67 (.r1 [0] [0, 1, 2, 3] <| .r1 [0, 3] [0, 1, 2, 3] <| .r1 [0, 3, 22, 23] [0, 1, 2, 3] <| .lp [.i, .i, .i, .i, .i, .b, .l, .i, .i, .i, .i, .i, .m, .m, .m, .i] (fun p01 p15 p101 p121 p131 p141 p21 p31 p41 p61 p71 p91 o1 o2 o3 t23 => ⟨[(0, vP 0 0), (3, vD (dI p12)), (22, vD (dI p3)), (23, vD (dI t23))], [some (Obj.box [sD (dI p01), sD (dI p15), sD (dL p21), sD (dI p31), sD (dI p41), S.ref 1, sD (dI p61), sD (dI p71), S.ref 2, sD (dI p91), sD (dI p101), S.ref 3, sD (dI p121), sD (dI p131), sD (dB p141)]), some (Obj.mat 2 o1), some (Obj.mat 2 o2), some (Obj.mat 2 o3)], 117⟩) [.i p0, .i p1, .i p10, .i p12, .i p13, .b p14, .l p2, .i p3, .i p4, .i p6, .i p7, .i p9, .m p5, .m p8, .m p11, .i (0 : Int)] <| .fi fun p01 => .fi fun p15 => .fi fun p101 => .fi fun p121 => .fi fun p131 => .fb fun p141 => .fl fun p21 => .fi fun p31 => .fi fun p41 => .fi fun p61 => .fi fun p71 => .fi fun p91 => .fm fun o1 => .fm fun o2 => .fm fun o3 => .fi fun t23 => .beg <| .r1 [0, 3, 22, 23, 24] [0, 1, 2, 3] <| .c2 (.r1 [0, 3, 4, 22, 23] [0, 1, 2, 3] <| .exb fun r => .exl fun r1 => .ex fun b => .ex fun b1 => .exl fun b2 => .ex fun b3 => .ex fun b4 => .ex fun b5 => .ex fun b6 => .ex fun b7 => .ex fun b8 => .ex fun b9 => .ex fun b10 => .exb fun b11 => .exm fun m => .exm fun m1 => .exm fun m2 => .exb fun r2 => .exl fun r3 => .ex fun b12 => .ex fun b13 => .exl fun b14 => .ex fun b15 => .ex fun b16 => .ex fun b17 => .ex fun b18 => .ex fun b19 => .ex fun b20 => .ex fun b21 => .ex fun b22 => .exb fun b23 => .exm fun m3 => .exm fun m4 => .exm fun m5 => .exb fun r0 => .exl fun r11 => .exb fun r01 => .exl fun r12 => .ex fun r4 => .reg 2 [(2, Or.callO [0, 1, 2, 3] (vA [sD (dB r), sD (dL r1)]) [some (Obj.box [sD (dI b), sD (dI b1), sD (dL b2), sD (dI b3), sD (dI b4), S.ref 1, sD (dI b5), sD (dI b6), S.ref 2, sD (dI b7), sD (dI b8), S.ref 3, sD (dI b9), sD (dI b10), sD (dB b11)]), some (Obj.mat 2 m), some (Obj.mat 2 m1), some (Obj.mat 2 m2)], 0, 0), (5, Or.callO [0, 1, 2, 3] (vA [sD (dB r2), sD (dL r3)]) [some (Obj.box [sD (dI b12), sD (dI b13), sD (dL b14), sD (dI b15), sD (dI b16), S.ref 1, sD (dI b17), sD (dI b18), S.ref 2, sD (dI b19), sD (dI b20), S.ref 3, sD (dI b21), sD (dI b22), sD (dB b23)]), some (Obj.mat 2 m3), some (Obj.mat 2 m4), some (Obj.mat 2 m5)], 0, 0), (6, Or.call (V.tup [E.agg [sD (dB r0), sD (dL r11)], E.agg [sD (dB r01), sD (dL r12)], eD (dI r4)]) [] [], 0, 0), (11, Or.none, 4, 1), (12, Or.none, 5, 1)] [0, 3, 4, 5, 22, 23] [0, 1, 2, 3, 4] [] <| .spl ((t23 == p12)) (.reg 0 [(3, Or.bool true, 0, 0)] [0, 3, 4, 5, 22, 23, 44] [0, 1, 2, 3, 4] [.old 0] <| .ct true none <| .r1 [0, 3, 22, 23] [0, 1, 2, 3] <| .bk 0 [.i b12, .i b13, .i b20, .i b21, .i b22, .b b23, .l b14, .i b15, .i b16, .i b17, .i b18, .i b19, .m m3, .m m4, .m m5, .i (IntKind.i64.wrap (t23 + (1 : Int)))]) (.ex fun r5 => .reg 0 [(3, Or.bool false, 0, 0), (5, Or.call (vD (dI r5)) [] [], 0, 0)] [0, 3, 4, 5, 22, 23, 44] [0, 1, 2, 3, 4] [.old 0] <| .c2 (.r1 [0, 3, 22, 23] [0, 1, 2, 3] <| .bk 0 [.i b12, .i b13, .i b20, .i b21, .i b22, .b b23, .l b14, .i b15, .i b16, .i b17, .i b18, .i b19, .m m3, .m m4, .m m5, .i (IntKind.i64.wrap (t23 + (1 : Int)))]) (.drw 1 [(8, (Or.none, 5, 1), [5])] [0, 3, 4, 5, 53, 54, 55] [0, 1, 2, 3, 4, 5] [] <| .lp1 <| .r1 [0, 3, 4, 5, 53, 54, 55, 56] [0, 1, 2, 3, 4, 5] <| .ct true none <| .reg 1 [(2, Or.none, 6, 1)] [0, 3, 4, 5, 9, 53, 54, 55] [0, 1, 2, 3, 4, 6, 5] [] <| .r1 [0, 3, 4, 5, 9, 53, 54, 55, 63, 64, 65] [0, 1, 2, 3, 4, 5, 6] <| .lp [.m, .i] (fun o11 t65 => ⟨[(0, vP 0 0), (3, vD (dI p12)), (4, vD (dI t23)), (5, vP 4 0), (9, vP 5 0), (53, V.e (E.sc (S.refb 6 2))), (54, vD (dI (2 : Int))), (55, vD (dI (0 : Int))), (63, V.e (E.sc (S.row 1 (p12).toNat))), (64, vD (dI ((m3.getD (p12).toNat ([] : DL)).length : Int))), (65, vD (dI t65))], [some (Obj.box [sD (dI b12), sD (dI b13), sD (dL b14), sD (dI b15), sD (dI b16), S.ref 1, sD (dI b17), sD (dI b18), S.ref 2, sD (dI b19), sD (dI b20), S.ref 3, sD (dI b21), sD (dI b22), sD (dB b23)]), some (Obj.mat 2 o11), some (Obj.mat 2 m4), some (Obj.mat 2 m5), some (Obj.box [sD (dB r0), sD (dL r11)]), some (Obj.box [sD (dI b15), sD (dI b16), S.ref 1]), some (Obj.box [sD (dI b15), sD (dI b16), S.ref 1, sD (dI b17), sD (dI b18), S.ref 2])], 117⟩) [.m m3, .i (0 : Int)] <| .fm fun o11 => .fi fun t65 => .beg <| .r1 [0, 3, 4, 5, 9, 53, 54, 55, 63, 64, 65, 66] [0, 1, 2, 3, 4, 5, 6] <| .c2 (.exb fun x0 => .exl fun x1 => .reg 1 [(2, Or.cells [dB x0, dL x1], 0, 0), (3, Or.none, 7, 1)] [0, 3, 4, 5, 9, 10, 11, 53, 54, 55, 63, 64, 65] [0, 1, 2, 3, 4, 5, 7, 6] [] <| .exb fun x01 => .exl fun x11 => .exb fun r02 => .exl fun r13 => .exb fun r03 => .exl fun r14 => .drw 0 [(13, (Or.cells [dB x01, dL x11], 0, 0), []), (16, (Or.call (vA [sD (dB r02), sD (dL r13)]) [] [], 0, 0), []), (17, (Or.call (vA [sD (dB r03), sD (dL r14)]) [] [], 0, 0), []), (19, (Or.none, 0, 0), [1])] [0, 3, 4, 5, 9, 53, 54, 55, 63, 64, 65] [0, 1, 2, 3, 4, 5, 7] [.new, .old 0, .new, .new, .new, .new, .old 3] <| .r1 [0, 3, 4, 5, 9, 53, 54, 55, 63, 64, 65] [0, 1, 2, 3, 4, 5, 6] <| .bk 0 [.m (o11.modify (t23).toNat (fun qz => qz.set (t65).toNat [dB r03, dL r14])), .i (IntKind.i64.wrap (t65 + (1 : Int)))]) (.r1 [0, 3, 4, 5, 53, 54, 55] [0, 1, 2, 3, 4, 6] <| .lp1 <| .r1 [0, 3, 4, 5, 53, 54, 55, 56] [0, 1, 2, 3, 4, 5] <| .ct true none <| .reg 1 [(2, Or.none, 6, 1)] [0, 3, 4, 5, 9, 53, 54, 55] [0, 1, 2, 3, 4, 6, 5] [] <| .r1 [0, 3, 4, 5, 9, 53, 54, 55, 63, 64, 65] [0, 1, 2, 3, 4, 5, 6] <| .lp [.m, .i] (fun o21 t651 => ⟨[(0, vP 0 0), (3, vD (dI p12)), (4, vD (dI t23)), (5, vP 4 0), (9, vP 5 0), (53, V.e (E.sc (S.refb 6 2))), (54, vD (dI (2 : Int))), (55, vD (dI (1 : Int))), (63, V.e (E.sc (S.row 2 (p12).toNat))), (64, vD (dI ((m4.getD (p12).toNat ([] : DL)).length : Int))), (65, vD (dI t651))], [some (Obj.box [sD (dI b12), sD (dI b13), sD (dL b14), sD (dI b15), sD (dI b16), S.ref 1, sD (dI b17), sD (dI b18), S.ref 2, sD (dI b19), sD (dI b20), S.ref 3, sD (dI b21), sD (dI b22), sD (dB b23)]), some (Obj.mat 2 o11), some (Obj.mat 2 o21), some (Obj.mat 2 m5), some (Obj.box [sD (dB r0), sD (dL r11)]), some (Obj.box [sD (dI b17), sD (dI b18), S.ref 2]), some (Obj.box [sD (dI b15), sD (dI b16), S.ref 1, sD (dI b17), sD (dI b18), S.ref 2])], 117⟩) [.m m4, .i (0 : Int)] <| .fm fun o21 => .fi fun t651 => .beg <| .r1 [0, 3, 4, 5, 9, 53, 54, 55, 63, 64, 65, 66] [0, 1, 2, 3, 4, 5, 6] <| .c2 (.exb fun x02 => .exl fun x12 => .reg 1 [(2, Or.cells [dB x02, dL x12], 0, 0), (3, Or.none, 7, 1)] [0, 3, 4, 5, 9, 10, 11, 53, 54, 55, 63, 64, 65] [0, 1, 2, 3, 4, 5, 7, 6] [] <| .exb fun x03 => .exl fun x13 => .exb fun r04 => .exl fun r15 => .exb fun r05 => .exl fun r16 => .drw 0 [(13, (Or.cells [dB x03, dL x13], 0, 0), []), (16, (Or.call (vA [sD (dB r04), sD (dL r15)]) [] [], 0, 0), []), (17, (Or.call (vA [sD (dB r05), sD (dL r16)]) [] [], 0, 0), []), (19, (Or.none, 0, 0), [2])] [0, 3, 4, 5, 9, 53, 54, 55, 63, 64, 65] [0, 1, 2, 3, 4, 5, 7] [.new, .old 0, .new, .new, .new, .new, .old 3] <| .r1 [0, 3, 4, 5, 9, 53, 54, 55, 63, 64, 65] [0, 1, 2, 3, 4, 5, 6] <| .bk 0 [.m (o21.modify (t23).toNat (fun qz => qz.set (t651).toNat [dB r05, dL r16])), .i (IntKind.i64.wrap (t651 + (1 : Int)))]) (.r1 [0, 3, 4, 5, 53, 54, 55] [0, 1, 2, 3, 4, 6] <| .lp1 <| .r1 [0, 3, 4, 5, 53, 54, 55, 56] [0, 1, 2, 3, 4, 5] <| .ct false none <| .r1 [3, 4, 5, 95, 96, 97] [0, 1, 2, 3, 4] <| .lp [.m, .i] (fun o31 t97 => ⟨[(3, vD (dI p12)), (4, vD (dI t23)), (5, vP 4 0), (95, vR 3), (96, vD (dI (m5.length : Int))), (97, vD (dI t97))], [some (Obj.box [sD (dI b12), sD (dI b13), sD (dL b14), sD (dI b15), sD (dI b16), S.ref 1, sD (dI b17), sD (dI b18), S.ref 2, sD (dI b19), sD (dI b20), S.ref 3, sD (dI b21), sD (dI b22), sD (dB b23)]), some (Obj.mat 2 o11), some (Obj.mat 2 o21), some (Obj.mat 2 o31), some (Obj.box [sD (dB r0), sD (dL r11)])], 117⟩) [.m m5, .i (0 : Int)] <| .fm fun o31 => .fi fun t97 => .beg <| .r1 [3, 4, 5, 95, 96, 97, 98] [0, 1, 2, 3, 4] <| .c2 (.r1 [3, 4, 5, 13, 95, 96, 97] [0, 1, 2, 3, 4] <| .exb fun x04 => .exl fun x14 => .exb fun x05 => .exl fun x15 => .exb fun r06 => .exl fun r17 => .exb fun r07 => .exl fun r18 => .drw 0 [(5, (Or.cells [dB x04, dL x14], 0, 0), []), (10, (Or.cells [dB x05, dL x15], 0, 0), []), (11, (Or.call (vA [sD (dB r06), sD (dL r17)]) [] [], 0, 0), []), (12, (Or.call (vA [sD (dB r07), sD (dL r18)]) [] [], 0, 0), []), (14, (Or.none, 0, 0), [3])] [3, 4, 5, 95, 96, 97] [0, 1, 2, 3, 4] [.new, .new, .new, .new, .new, .new, .old 5] <| .r1 [3, 4, 5, 95, 96, 97] [0, 1, 2, 3, 4] <| .bk 0 [.m (o31.modify (t97).toNat (fun qz => qz.set (p12).toNat [dB r07, dL r18])), .i (IntKind.i64.wrap (t97 + (1 : Int)))]) (.r1 [2] [0, 1, 2, 3] <| .ret [0, 1, 2, 3])))))) (.r1 [2] [0, 1, 2, 3] <| .ret [0, 1, 2, 3]))
    (by kernel_rfl) (by kernel_rfl) (by kernel_rfl) h
def vc68 (p0 p1 : Int) (p2 : DL) (p3 p4 : Int) (p5 : DLL) (p6 p7 : Int) (p8 : DLL) (p9 p10 : Int) (p11 : DLL) (p12 p13 : Int) (p14 : Bool) (R : V → Heap → Prop) : Prop :=
 R (vD (dB true)) [some (Obj.box [sD (dI p0), sD (dI p1), sD (dL p2), sD (dI p3), sD (dI p4), S.ref 1, sD (dI p6), sD (dI p7), S.ref 2, sD (dI p9), sD (dI p10), S.ref 3, sD (dI (IntKind.i64.wrap (p12 + (1 : Int)))), sD (dI (IntKind.i64.wrap (p13 + (1 : Int)))), sD (dB p14)]), some (Obj.mat 2 p5), some (Obj.mat 2 p8), some (Obj.mat 2 p11)]
theorem vc68_ok (p0 p1 : Int) (p2 : DL) (p3 p4 : Int) (p5 : DLL) (p6 p7 : Int) (p8 : DLL) (p9 p10 : Int) (p11 : DLL) (p12 p13 : Int) (p14 : Bool) {R : V → Heap → Prop} (h : vc68 p0 p1 p2 p3 p4 p5 p6 p7 p8 p9 p10 p11 p12 p13 p14 R) : FnG prog 68 [V.e (E.sc (S.ptr 0 0))] [some (Obj.box [sD (dI p0), sD (dI p1), sD (dL p2), sD (dI p3), sD (dI p4), S.ref 1, sD (dI p6), sD (dI p7), S.ref 2, sD (dI p9), sD (dI p10), S.ref 3, sD (dI p12), sD (dI p13), sD (dB p14)]), some (Obj.mat 2 p5), some (Obj.mat 2 p8), some (Obj.mat 2 p11)] R :=
  FnG.vcg hT func68 ntmps68 (.r1 [0] [0, 1, 2, 3] <| .r1 [0] [0, 1, 2, 3] <| .r1 [] [0, 1, 2, 3] <| .r1 [2] [0, 1, 2, 3] <| .ret [0, 1, 2, 3])
    (by kernel_rfl) (by kernel_rfl) (by kernel_rfl) h
def vc33  (R : V → Heap → Prop) : Prop :=
 R (vA [sD (D.fn (.func 64) ([] : List D)), sD (D.fn (.func 65) ([] : List D)), sD (D.fn (.func 66) ([] : List D)), sD (D.fn (.func 67) ([] : List D)), sD (D.fn (.func 68) ([] : List D))]) []
theorem vc33_ok  {R : V → Heap → Prop} (h : vc33  R) : FnG prog 33 [] [] R :=
  FnG.vcg hT func33 ntmps33 (.reg 1 [(0, Or.none, 0, 1)] [0] [0] [] <| .r1 [0] [0] <| .ret [])
    (by kernel_rfl) (by kernel_rfl) (by kernel_rfl) h
def vc32 (a0 a1 : Int) (a2 : DL) (R : V → Heap → Prop) : Prop :=
 (0 ≤ (a2.length : Int) ∧ (a2.length : Int) ≤ (a2.length : Int) ∧ (a2.length : Int) * (24 : Nat) ≤ 281474976710656) ∧
 (∃ (J0 : (DLL) → Int → Prop) (μ0 : (DLL) → Int → Nat),
 J0 (List.replicate ((a2.length : Int)).toNat ([] : DL)) (0 : Int) ∧ ∀ (rows : DLL) (t13 : Int), J0 rows t13 →
 (decide (t13 < (a2.length : Int)) = true →
 ∃ (vx : DL),
 (0 ≤ t13 ∧ t13 < (a2.length : Int)) ∧
 (a2[(t13).toNat]? = some [dL vx]) ∧
 ((0 ≤ (vx.length : Int) ∧ (vx.length : Int) ≤ (vx.length : Int) ∧ (vx.length : Int) * (32 : Nat) ≤ 281474976710656) ∧
 (0 ≤ t13 ∧ t13 < (rows.length : Int)) ∧
 ((0 ≤ t13 ∧ t13 < ((rows.set (t13).toNat (List.replicate ((vx.length : Int)).toNat [dB false, dL ([] : DL)])).length : Int)) ∧
 (∀ y ∈ vx, y.length = 2) ∧
 (J0 ((rows.set (t13).toNat (List.replicate ((vx.length : Int)).toNat [dB false, dL ([] : DL)])).set (t13).toNat (vx.take ((rows.set (t13).toNat (List.replicate ((vx.length : Int)).toNat [dB false, dL ([] : DL)])).getD (t13).toNat ([] : DL)).length ++ ((rows.set (t13).toNat (List.replicate ((vx.length : Int)).toNat [dB false, dL ([] : DL)])).getD (t13).toNat ([] : DL)).drop vx.length)) (IntKind.i64.wrap (t13 + (1 : Int))) ∧ μ0 ((rows.set (t13).toNat (List.replicate ((vx.length : Int)).toNat [dB false, dL ([] : DL)])).set (t13).toNat (vx.take ((rows.set (t13).toNat (List.replicate ((vx.length : Int)).toNat [dB false, dL ([] : DL)])).getD (t13).toNat ([] : DL)).length ++ ((rows.set (t13).toNat (List.replicate ((vx.length : Int)).toNat [dB false, dL ([] : DL)])).getD (t13).toNat ([] : DL)).drop vx.length)) (IntKind.i64.wrap (t13 + (1 : Int))) < μ0 rows t13)))) ∧
 (decide (t13 < (a2.length : Int)) = false →
 R (vA [sD (dI a0), sD (dI a1), S.ref 0]) [some (Obj.mat 2 rows)]))
theorem vc32_ok (a0 a1 : Int) (a2 : DL) {R : V → Heap → Prop} (h : vc32 a0 a1 a2 R) : FnG prog 32 [vA [sD (dI a0), sD (dI a1), sD (dL a2)]] [] R :=
  FnG.vcg hT func32 ntmps32 (.reg 2 [(0, Or.none, 0, 1), (1, Or.none, 1, 1)] [1, 2] [0, 1] [] <| .reg 1 [(3, Or.none, 2, 1)] [1, 2, 3] [0, 1, 2] [] <| .r1 [1, 2, 3, 11, 12, 13] [0, 1, 2] <| .lp [.m, .i] (fun rows t13 => ⟨[(1, vP 0 0), (2, vP 1 0), (3, vR 2), (11, vD (dL a2)), (12, vD (dI (a2.length : Int))), (13, vD (dI t13))], [some (Obj.box [sD (dI a0), sD (dI a1), sD (dL a2)]), some (Obj.box [sD (dI (0 : Int)), sD (dI (0 : Int)), sD (D.raw (.slice none 0 0))]), some (Obj.mat 2 rows)], 34⟩) [.m (List.replicate ((a2.length : Int)).toNat ([] : DL)), .i (0 : Int)] <| .fm fun rows => .fi fun t13 => .beg <| .r1 [1, 2, 3, 11, 12, 13, 14] [0, 1, 2] <| .c2 (.exl fun vx => .reg 0 [(2, Or.cells [dL vx], 0, 0)] [1, 2, 3, 4, 5, 11, 12, 13] [0, 1, 2] [] <| .reg 2 [(4, Or.none, 3, 1), (6, Or.none, 4, 1)] [1, 2, 3, 4, 5, 11, 12, 13] [0, 1, 2, 4] [] <| .fwd [3] [] <| .viw [1, 2, 3, 4, 5, 11, 12, 13] [0, 1, 3] <| .r1 [1, 2, 3, 11, 12, 13] [0, 1, 2] <| .r1 [1, 2, 3, 11, 12, 13] [0, 1, 2] <| .bk 0 [.m ((rows.set (t13).toNat (List.replicate ((vx.length : Int)).toNat [dB false, dL ([] : DL)])).set (t13).toNat (vx.take ((rows.set (t13).toNat (List.replicate ((vx.length : Int)).toNat [dB false, dL ([] : DL)])).getD (t13).toNat ([] : DL)).length ++ ((rows.set (t13).toNat (List.replicate ((vx.length : Int)).toNat [dB false, dL ([] : DL)])).getD (t13).toNat ([] : DL)).drop vx.length)), .i (IntKind.i64.wrap (t13 + (1 : Int)))]) (.r1 [1, 2] [0, 1, 2] <| .r1 [2] [1, 2] <| .ret [1]))
    (by kernel_rfl) (by kernel_rfl) (by kernel_rfl) h
end Go.AM
/- Package step: element, least. -/
namespace Go.AM
open Go.Proofs.Tryz
def pD (r c : Nat) (A m u v : List (List Int)) (t k : Nat) (b : Bool) : List D :=
  [dI r, dI c, dL (rows A), dI r, dI c, dL (rows m), dI r, dI r, dL (rows u), dI r, dI r, dL (rows v), dI t, dI k, dB b]
theorem element_ok {r c : Nat} {A m u v : List (List Int)} {t k i : Nat} {b : Bool} (hm : Mx r c m) (hi : i < r) (hk : k < c) :
    FnD prog 94 [vD (D.box (pD r c A m u v t k b)), vi i] (eI (el m i k)) [] := by
  refine vc94_ok _ _ _ _ _ _ _ _ _ _ _ _ _ _ _ _ (R := Out _) ?_
  unfold vc94
  obtain ⟨e1, e2, e3, e4⟩ := read_el hm hi hk
  have hlen : ((rows m).length : Int) = (r : Int) := by rw [rows_length, hm.1]
  exact ⟨_, _, _, ⟨by omega, by rw [hlen]; omega⟩, e1, ⟨by omega, e3⟩, e2, rfl, rfl⟩
theorem pleast_ok {r c : Nat} {A m u v : List (List Int)} {t k : Nat} {b : Bool} (hm : Mx r c m) (hs : ∀ i j, i < r → j < c → Sz (el m i j)) (hk : k < c) (ht : t ≤ r) (hr : r ≤ 4294967296) :
    FnD prog 93 [vD (D.box (pD r c A m u v t k b))] (vi (lsF m k t (r - t))) [] := by
  refine vc93_ok _ _ _ _ _ _ _ _ _ _ _ _ _ _ _ (R := Out _) ?_
  unfold vc93
  refine ⟨fun best i => ∃ n : Nat, i = ((t + n : Nat) : Int) ∧ t + n ≤ r ∧ best = lsF m k t n, fun _ i => ((r : Int) - i).toNat, ⟨0, rfl, ht, rfl⟩, ?_⟩
  rintro _ _ ⟨n, rfl, hn, rfl⟩
  refine ⟨fun h => ?_, fun h => outi ?_⟩
  · have hnr : t + n < r := by have := of_decide_eq_true h; omega
    have hnext : ∀ b, b = lsS m k (lsF m k t n) (t + n) → (∃ n' : Nat, IntKind.i64.wrap (((t + n : Nat) : Int) + 1) = ((t + n' : Nat) : Int) ∧ t + n' ≤ r ∧ b = lsF m k t n') ∧ ((r : Int) - IntKind.i64.wrap (((t + n : Nat) : Int) + 1)).toNat < ((r : Int) - ((t + n : Nat) : Int)).toNat :=
      fun b hb => by
        rw [inc64 (by omega)]
        exact ⟨⟨n + 1, rfl, by omega, hb⟩, by omega⟩
    have szn : ∀ {z : Int}, Sz z → Sz ((z.natAbs : Nat) : Int) := fun h => by unfold Sz at *; rwa [Int.natAbs_natCast]
    have hsign := sign_ok (((el m (t + n) k).natAbs : Nat) : Int)
    have s1 := hs _ _ hnr hk
    refine ⟨_, _, _, _, element_ok hm hnr hk, abs_ok _, _, hsign, fun h0 => ?_, fun h0 => hnext _ ?_⟩
    · have hne : el m (t + n) k ≠ 0 := fun hc => by rw [hc] at h0; simp at h0
      refine ⟨fun hb => hnext _ ?_, fun hb => ?_⟩
      · have hb' := of_decide_eq_true hb
        unfold lsS; rw [if_pos ⟨hne, .inl hb'⟩]
      · have hb' := of_decide_eq_false hb
        rcases lsF_ok (m := m) (c := k) (top := t) n with ⟨g1, _⟩ | ⟨p, g1, g2, g3, g4, _⟩
        · rw [g1] at hb'; exact absurd (by decide) hb'
        · have hpr : p < r := by omega
          have s2 := hs _ _ hpr hk
          have hcmp := cmp_ok (szn s1) (szn s2)
          have cm : decide (cmpI (((el m (t + n) k).natAbs : Nat) : Int) (((el m p k).natAbs : Nat) : Int) < 0) = decide ((el m (t + n) k).natAbs < (el m p k).natAbs) := by
            unfold cmpI
            by_cases hlt : (el m (t + n) k).natAbs < (el m p k).natAbs
            · have : (((el m (t + n) k).natAbs : Nat) : Int) < (((el m p k).natAbs : Nat) : Int) := by omega
              simp [hlt, this]
            · have : ¬ (((el m (t + n) k).natAbs : Nat) : Int) < (((el m p k).natAbs : Nat) : Int) := by omega
              rw [decide_eq_false hlt]
              simp only [this, if_false]
              split <;> decide
          have hst : lsS m k (p : Int) (t + n) = if (el m (t + n) k).natAbs < (el m p k).natAbs then ((t + n : Nat) : Int) else (p : Int) := by
            unfold lsS
            rw [Int.toNat_natCast]
            by_cases hlt : (el m (t + n) k).natAbs < (el m p k).natAbs
            · rw [if_pos ⟨hne, .inr hlt⟩, if_pos hlt]
            · rw [if_neg (fun ⟨_, b⟩ => b.elim (fun b => absurd b (by omega)) hlt), if_neg hlt]
          rw [g1] at hnext ⊢
          rw [hst] at hnext
          refine ⟨_, _, _, _, _, element_ok hm hpr hk, abs_ok _, hcmp, ?_⟩
          rw [cm]
          refine ⟨fun hl => hnext _ ?_, fun hl => hnext _ ?_⟩
          · rw [if_pos (by simpa using hl)]
          · rw [if_neg (by simpa using hl)]
    · have hne : el m (t + n) k = 0 := by
        apply Classical.byContradiction
        intro hc
        have hpos : 0 < (((el m (t + n) k).natAbs : Nat) : Int) := by omega
        rw [if_neg (by omega), if_neg (by omega)] at h0
        simp at h0
      unfold lsS; rw [if_neg (by simp [hne])]
  · have hnr : r ≤ t + n := by have := of_decide_eq_false h; omega
    rw [show r - t = n by omega]
end Go.AM
/- torsionref12.Form: what it answers. -/
namespace Go.AM
open Go.Proofs.Tryz
def unlim : DL → Nat
  | [.int _ n] :: l => n.toNat + 4294967296 * unlim l
  | _ => 0
def msr (o : DLL) (i j : Nat) : Nat :=
  match at2 o i j with
  | some [_, .sl l] => unlim l
  | _ => 0
theorem at2_el {r c : Nat} {m : List (List Int)} (hm : Mx r c m) {i j : Nat} (hi : i < r) (hj : j < c) : at2 (om m) i j = some (cI (el m i j)) := by
  conv => lhs; rw [mx_table hm]
  exact at2_om hi hj
theorem at2_elN {r c : Nat} {m : List (List Int)} (hm : Mx r c m) {i j : Nat} (hi : i < r) (hj : j < c) : at2 (om m) (i : Int).toNat (j : Int).toNat = some (cI (el m i j)) := by
  rw [Int.toNat_natCast, Int.toNat_natCast]; exact at2_el hm hi hj
theorem omx_in {r c : Nat} {m : List (List Int)} (hm : Mx r c m) {i j : Nat} (hi : i < r) (hj : j < c) : ∃ l, (om m)[(i : Int).toNat]? = some l ∧ 0 ≤ (j : Int) ∧ (j : Int) < (l.length : Int) := by
  conv => rw [mx_table hm]
  exact om_in hi hj
theorem omx_len {r c : Nat} {m : List (List Int)} (hm : Mx r c m) : (om m).length = r := by rw [om_length]; exact hm.1
structure FCx (r cc K L : Nat) (a : List (List Int)) (FL : List Opz) : Prop where
  hm : Mx r cc a
  bd : ∀ d e, d ++ e = FL → BdM K (apL r cc d a) ∧ BdM K (apL r r d (table r r delta)) ∧ BdM K (apCL r d (table r r delta))
  nx : ∀ d o e, d ++ o :: e = FL → vO r o = true ∧ o.z.natAbs ≤ K
  big : K * K * 4294967296 < 4294967296 ^ L
  hL : L ≤ 1073741824
  hr : r ≤ 4294967296
  hc : cc ≤ 4294967296
def eHer (r c : Int) (h u v : List (List Int)) : V := .e (.agg [.dat (.int .i64 r), .dat (.int .i64 c), .dat (.sl (rows h)), .dat (.int .i64 r), .dat (.int .i64 r), .dat (.sl (rows u)), .dat (.int .i64 r), .dat (.int .i64 r), .dat (.sl (rows v))])
end Go.AM
/- Package step: the five steps on a state of one's own. -/
namespace Go.AM
open Go.Proofs.Tryz
def pH (r c : Nat) (A m u v : List (List Int)) (t k : Nat) (b : Bool) : Heap :=
  [some (.box [sD (dI r), sD (dI c), sD (dL (rows A)), sD (dI r), sD (dI c), .ref 1, sD (dI r), sD (dI r), .ref 2, sD (dI r), sD (dI r), .ref 3, sD (dI t), sD (dI k), sD (dB b)]), some (.mat 2 (om m)), some (.mat 2 (om u)), some (.mat 2 (om v))]
def pHs (r c : Nat) (A m u v : List (List Int)) (t k : Nat) (b : Bool) : Heap :=
  [some (.box [sD (dI r), sD (dI c), sD (dL (rows A)), sD (dI r), sD (dI c), .ref 4, sD (dI r), sD (dI r), .ref 5, sD (dI r), sD (dI r), .ref 3, sD (dI t), sD (dI k), sD (dB b)]), some (.fwd (.ref 4)), some (.fwd (.ref 5)), some (.mat 2 (om v)), some (.mat 2 (om m)), some (.mat 2 (om u))]
structure PCx (r c K L : Nat) (m u v : List (List Int)) (t k : Nat) : Prop where
  hm : Mx r c m
  hu : Mx r r u
  hv : Mx r r v
  km : BdM K m
  ku : BdM K u
  kv : BdM K v
  ht : t < r
  hk : k < c
  big : K * K * 4294967296 < 4294967296 ^ L
  hL : L ≤ 1073741824
  hr : r ≤ 4294967296
  hc : c ≤ 4294967296
theorem kk_le (K : Nat) : K ≤ K * K := by
  rcases Nat.eq_zero_or_pos K with h | h
  · omega
  · have := Nat.mul_le_mul_left K h; omega
section
variable {r c K L : Nat} {A m u v : List (List Int)} {t k : Nat} (C : PCx r c K L m u v t k) {b : Bool}
include C
theorem PCx.sz2 {y : Int} (h : y.natAbs ≤ K * K) : Sz y := by
  refine Sz.of_lt L C.hL (Nat.lt_of_le_of_lt (Nat.le_trans h (Nat.le_mul_of_pos_right _ (by decide))) C.big)
theorem PCx.sz {y : Int} (h : y.natAbs ≤ K) : Sz y := C.sz2 (Nat.le_trans h (kk_le K))
theorem PCx.lt {y : Int} (h : y.natAbs ≤ K) : y.natAbs * 4294967296 < 4294967296 ^ L := by
  exact Nat.lt_of_le_of_lt (Nat.mul_le_mul_right _ (Nat.le_trans h (kk_le K))) C.big
theorem pelemO {i : Nat} (hi : i < r) : FnO prog 94 [vP 0 0, vi i] (pH r c A m u v t k b) (eI (el m i k)) (pH r c A m u v t k b) := by
  refine vc94o_ok _ _ _ _ _ _ _ _ _ _ _ _ _ _ _ _ (R := fun x y => x = eI (el m i k) ∧ y = pH r c A m u v t k b) ?_
  unfold vc94o
  exact ⟨_, _, ⟨by omega, by rw [omx_len C.hm]; omega⟩, omx_in C.hm hi C.hk, at2_elN C.hm hi C.hk, rfl, rfl⟩
theorem pls : FnD prog 93 [vD (D.box [dI r, dI c, dL (rows A), dI r, dI c, dL (matD (om m)), dI r, dI r, dL (matD (om u)), dI r, dI r, dL (matD (om v)), dI t, dI k, dB b])] (vi (lsF m k t (r - t))) [] := by
  rw [matD_om, matD_om, matD_om]
  exact pleast_ok C.hm (fun _ _ hi hj => C.sz (el_bd C.hm C.km hi hj)) C.hk (Nat.le_of_lt C.ht) C.hr
theorem skip_ok : FnO prog 64 [vP 0 0] (pH r c A m u v t k b) (vD (dB (decide (lsF m k t (r - t) < 0)))) (pH r c A m u v t (if lsF m k t (r - t) < 0 then k + 1 else k) b) := by
  refine vc64_ok _ _ _ _ _ _ _ _ _ _ _ _ _ _ _ (R := fun x y => x = vD (dB (decide (lsF m k t (r - t) < 0))) ∧ y = pH r c A m u v t (if lsF m k t (r - t) < 0 then k + 1 else k) b) ?_
  unfold vc64
  have hk := C.hk; have hc := C.hc
  refine ⟨_, pls C, fun h => ?_, fun h => ?_⟩
  · have : ¬ lsF m k t (r - t) < 0 := by have := of_decide_eq_true h; omega
    exact ⟨by rw [decide_eq_false this], by rw [if_neg this]; rfl⟩
  · have : lsF m k t (r - t) < 0 := by have := of_decide_eq_false h; omega
    rw [inc64 (by omega)]
    exact ⟨by rw [decide_eq_true this], by rw [if_pos this]; rfl⟩
theorem advance_ok : FnO prog 68 [vP 0 0] (pH r c A m u v t k b) (vD (dB true)) (pH r c A m u v (t + 1) (k + 1) b) := by
  refine vc68_ok _ _ _ _ _ _ _ _ _ _ _ _ _ _ _ (R := fun x y => x = vD (dB true) ∧ y = pH r c A m u v (t + 1) (k + 1) b) ?_
  unfold vc68
  have hk := C.hk; have hc := C.hc; have ht := C.ht; have hr := C.hr
  rw [inc64 (by omega), inc64 (by omega)]
  exact ⟨rfl, rfl⟩
theorem exch_no (h0 : lsF m k t (r - t) = (t : Int)) : FnO prog 65 [vP 0 0] (pH r c A m u v t k b) (vD (dB false)) (pHs r c A m u v t k b) := by
  refine vc65_ok _ _ _ _ _ _ _ _ _ _ _ _ _ _ _ (R := fun x y => x = vD (dB false) ∧ y = pHs r c A m u v t k b) ?_
  unfold vc65
  refine ⟨_, pls C, fun h => ⟨rfl, rfl⟩, fun h => ?_⟩
  rw [h0] at h; simp at h
theorem exch_yes {i : Nat} (h0 : lsF m k t (r - t) = (i : Int)) (hi : i < r) (hne : i ≠ t) :
    FnO prog 65 [vP 0 0] (pH r c A m u v t k b) (vD (dB true)) (pHs r c A (apO r c (swapO i t) m) (apO r r (swapO i t) u) (apC r (swapO i t) v) t k b) := by
  refine vc65_ok _ _ _ _ _ _ _ _ _ _ _ _ _ _ _ (R := fun x y => x = vD (dB true) ∧ y = pHs r c A (apO r c (swapO i t) m) (apO r r (swapO i t) u) (apC r (swapO i t) v) t k b) ?_
  unfold vc65
  have ht := C.ht; have hr := C.hr; have hv := C.hv
  have hvO := vO_swap hi ht hne
  refine ⟨_, pls C, fun h => ?_, fun h => ?_⟩
  · exfalso; have := eq_of_beq h; omega
  rw [h0]
  have lm : (om m).length = r := omx_len C.hm
  have lu : (om u).length = r := omx_len C.hu
  have lv : (om v).length = r := omx_len C.hv
  refine ⟨⟨by omega, by omega⟩, ⟨by omega, by omega⟩, rfl, rfl, ⟨by omega, by omega⟩, ⟨by omega, by omega⟩, ?_⟩
  refine ⟨fun a t' => ∃ n : Nat, t' = (n : Int) ∧ n ≤ r ∧ a = om (table r r (cP (swapO i t) (el v) n)), fun _ t' => ((r : Int) - t').toNat, ⟨0, rfl, by omega, cP_zero hv⟩, ?_⟩
  rintro _ _ ⟨n, rfl, hn, rfl⟩
  refine ⟨fun h2 => ?_, fun h2 => ?_⟩
  · have hnr : n < r := by rw [lv] at h2; simpa using h2
    have e1 : (om (table r r (cP (swapO i t) (el v) n))).modify (n : Int).toNat (fun q => q.set (i : Int).toNat (cI (el v n t))) = om (table r r fun a b => if a = n ∧ b = i then el v n t else cP (swapO i t) (el v) n a b) := by
      rw [Int.toNat_natCast, Int.toNat_natCast]; exact om_set hnr hi
    have e2 : cP (swapO i t) (el v) n (n : Int).toNat (i : Int).toNat = el v n i := by rw [Int.toNat_natCast, Int.toNat_natCast]; exact cP_at
    have e3 : cP (swapO i t) (el v) n (n : Int).toNat (t : Int).toNat = el v n t := by rw [Int.toNat_natCast, Int.toNat_natCast]; exact cP_at
    have a1 := at2_om (r := r) (c := r) (g := cP (swapO i t) (el v) n) (i := (n : Int).toNat) (j := (i : Int).toNat) (by omega) (by omega)
    have a2 := at2_om (r := r) (c := r) (g := cP (swapO i t) (el v) n) (i := (n : Int).toNat) (j := (t : Int).toNat) (by omega) (by omega)
    rw [e2] at a1
    rw [e3] at a2
    refine ⟨⟨by omega, by rw [om_len]; omega⟩, _, _, _, _, om_in hnr ht, a2, om_in hnr hi, a1, ?_⟩
    have e1' : (om (table r r (cP (swapO i t) (el v) n))).modify (n : Int).toNat (fun q => q.set (i : Int).toNat [dB (decide (el v n t < 0)), dL (lim (digs (el v n t).natAbs))]) = om (table r r fun a b => if a = n ∧ b = i then el v n t else cP (swapO i t) (el v) n a b) := e1
    rw [e1', inc64 (by omega)]
    refine ⟨om_in hnr ht, ⟨n + 1, rfl, by omega, ?_⟩, by show ((r : Int) - ((n + 1 : Nat) : Int)).toNat < ((r : Int) - (n : Int)).toNat; omega⟩
    rw [Int.toNat_natCast, Int.toNat_natCast]
    refine Eq.trans (om_set hnr ht) ?_
    congr 1
    refine table_congr fun a b _ _ => ?_
    unfold cP colF
    simp only [if_true]
    by_cases ha : a = n
    · subst ha
      by_cases hb : b = t
      · subst hb
        simp [Ne.symm hne]
      · by_cases hb' : b = i
        · subst hb'; simp [hne]
        · simp [hb, hb']
    · by_cases ha' : a < n
      · simp [ha, ha', show a < n + 1 by omega]
      · simp [ha, ha', show ¬ a < n + 1 by omega]
  · have hnr : n = r := by rw [lv] at h2; have : r ≤ n := by simpa using h2
                           omega
    subst hnr
    have s1 := swapR_om hvO rfl C.hm
    have s2 := swapR_om hvO rfl C.hu
    rw [Int.toNat_natCast, Int.toNat_natCast]
    dsimp only at s1 s2
    rw [s1, s2, cP_all]
    exact ⟨rfl, rfl⟩
theorem neg_no (h0 : 0 < el m t k) : FnO prog 66 [vP 0 0] (pH r c A m u v t k b) (vD (dB false)) (pH r c A m u v t k b) := by
  refine vc66_ok _ _ _ _ _ _ _ _ _ _ _ _ _ _ _ (R := fun x y => x = vD (dB false) ∧ y = pH r c A m u v t k b) ?_
  unfold vc66
  refine ⟨_, _, _, _, _, _, _, _, _, _, _, _, _, _, _, _, _, _, pelemO C C.ht, sign_ok _, fun h => ⟨rfl, rfl⟩, fun h => ?_⟩
  rw [if_neg (by omega), if_neg (by omega)] at h
  simp at h
theorem neg_yes (h0 : el m t k < 0) : FnO prog 66 [vP 0 0] (pH r c A m u v t k b) (vD (dB true)) (pH r c A (apO r c (negO t) m) (apO r r (negO t) u) (apC r (negO t) v) t k b) := by
  refine vc66_ok _ _ _ _ _ _ _ _ _ _ _ _ _ _ _ (R := fun x y => x = vD (dB true) ∧ y = pH r c A (apO r c (negO t) m) (apO r r (negO t) u) (apC r (negO t) v) t k b) ?_
  unfold vc66
  have ht := C.ht; have hr := C.hr; have hc := C.hc
  have lm : (om m).length = r := omx_len C.hm
  have lu : (om u).length = r := omx_len C.hu
  have lv : (om v).length = r := omx_len C.hv
  have rl : ∀ {c' : Nat} {x : List (List Int)}, Mx r c' x → (((om x).getD (t : Int).toNat ([] : DL)).length : Int) = (c' : Int) := fun {c' x} hx => by
    rw [Int.toNat_natCast]
    conv => lhs; rw [mx_table hx]
    simp [om, table, ht, row, tableR]
  refine ⟨_, _, _, _, _, _, _, _, _, _, _, _, _, _, _, _, _, _, pelemO C C.ht, sign_ok _, fun h => ?_, fun h => ?_⟩
  · rw [if_neg (by omega), if_pos h0] at h
    simp at h
  refine ⟨⟨by decide, by decide⟩, ⟨by omega, by omega⟩, ?_⟩
  refine ⟨fun a t' => ∃ n : Nat, t' = (n : Int) ∧ n ≤ c ∧ a = om (table r c (rF (negO t) (el m) n)), fun _ t' => ((c : Int) - t').toNat, ⟨0, rfl, by omega, rF_zero C.hm⟩, ?_⟩
  rintro _ _ ⟨n, rfl, hn, rfl⟩
  refine ⟨fun h2 => ?_, fun h2 => ?_⟩
  · have hnc : n < c := by rw [rl C.hm] at h2; simpa using h2
    have e : rF (negO t) (el m) n t n = el m t n := by unfold rF; rw [if_neg (by simp)]
    have e2 : opF (negO t) (el m) t n = - el m t n := by simp [opF]
    have a1 := rowM_in (r := r) (c := c) (g := rF (negO t) (el m) n) ht hnc
    rw [e] at a1
    have f1 := neg_ok (el m t n)
    rw [← e2] at f1
    refine ⟨_, _, om_in ht hnc, a1, _, _, ⟨by omega, by rw [om_len]; omega⟩, f1, ?_⟩
    rw [inc64 (by omega)]
    refine ⟨⟨n + 1, rfl, by omega, ?_⟩, by show ((c : Int) - ((n + 1 : Nat) : Int)).toNat < ((c : Int) - (n : Int)).toNat; omega⟩
    rw [Int.toNat_natCast, Int.toNat_natCast]
    exact rF_step (o := negO t) ht hnc
  have hnc : n = c := by rw [rl C.hm] at h2; have : c ≤ n := by simpa using h2
                         omega
  subst hnc
  refine ⟨⟨by decide, by decide⟩, ⟨by omega, by omega⟩, ?_⟩
  refine ⟨fun a t' => ∃ n : Nat, t' = (n : Int) ∧ n ≤ r ∧ a = om (table r r (rF (negO t) (el u) n)), fun _ t' => ((r : Int) - t').toNat, ⟨0, rfl, by omega, rF_zero C.hu⟩, ?_⟩
  rintro _ _ ⟨p, rfl, hp, rfl⟩
  refine ⟨fun h2 => ?_, fun h2 => ?_⟩
  · have hnc : p < r := by rw [rl C.hu] at h2; simpa using h2
    have e : rF (negO t) (el u) p t p = el u t p := by unfold rF; rw [if_neg (by simp)]
    have e2 : opF (negO t) (el u) t p = - el u t p := by simp [opF]
    have a1 := rowM_in (r := r) (c := r) (g := rF (negO t) (el u) p) ht hnc
    rw [e] at a1
    have f1 := neg_ok (el u t p)
    rw [← e2] at f1
    refine ⟨_, _, om_in ht hnc, a1, _, _, ⟨by omega, by rw [om_len]; omega⟩, f1, ?_⟩
    rw [inc64 (by omega)]
    refine ⟨⟨p + 1, rfl, by omega, ?_⟩, by show ((r : Int) - ((p + 1 : Nat) : Int)).toNat < ((r : Int) - (p : Int)).toNat; omega⟩
    rw [Int.toNat_natCast, Int.toNat_natCast]
    exact rF_step (o := negO t) ht hnc
  have hpr : p = r := by rw [rl C.hu] at h2; have : r ≤ p := by simpa using h2
                         omega
  subst hpr
  refine ⟨fun a t' => ∃ q : Nat, t' = (q : Int) ∧ q ≤ p ∧ a = om (table p p (cP (negO t) (el v) q)), fun _ t' => ((p : Int) - t').toNat, ⟨0, rfl, by omega, cP_zero C.hv⟩, ?_⟩
  rintro _ _ ⟨q, rfl, hq, rfl⟩
  refine ⟨fun h2 => ?_, fun h2 => ?_⟩
  · have hqr : q < p := by rw [lv] at h2; simpa using h2
    have a1 := rowM_in (r := p) (c := p) (g := cP (negO t) (el v) q) hqr ht
    rw [cP_at] at a1
    refine ⟨⟨by omega, by rw [om_len]; omega⟩, _, _, _, _, om_in hqr ht, a1, neg_ok (el v q t), ?_⟩
    rw [inc64 (by omega)]
    refine ⟨⟨q + 1, rfl, by omega, ?_⟩, by show ((p : Int) - ((q + 1 : Nat) : Int)).toNat < ((p : Int) - (q : Int)).toNat; omega⟩
    rw [Int.toNat_natCast, Int.toNat_natCast]
    exact cP_one hqr ht (by simp [colF]) fun b _ hb => by simp [colF, hb]
  · have hqr : q = p := by rw [lv] at h2; have : p ≤ q := by simpa using h2
                           omega
    subst hqr
    rw [rF_all (o := negO t) (by simp), rF_all (o := negO t) (by simp), cP_all]
    exact ⟨rfl, rfl⟩
end
end Go.AM
