/- Package step: reduce; copied. -/
import Derived.Test.YtipnbapgfbghgaaGreatL6
namespace Go.AM
open Go.Proofs.Tryz
section
variable {r c K L : Nat} {A m u v : List (List Int)} {t k : Nat} (C : PCx r c K L m u v t k) {b : Bool}
def Rd0 (r c : Nat) (A m u v : List (List Int)) (t k : Nat) (b : Bool) (N : Nat) (p0 p1 p10 p12 p13 : Int) (p14 : Bool) (p2 : DL) (p3 p4 p6 p7 p9 : Int) (o1 o2 o3 : DLL) (z : Int) : Prop :=
  (p0 = r ∧ p1 = c ∧ p10 = r ∧ p12 = t ∧ p13 = k ∧ b = p14 ∧ p2 = rows A ∧ p3 = r ∧ p4 = c ∧ p6 = r ∧ p7 = r ∧ p9 = r ∧ o1 = om m ∧ o2 = om u ∧ o3 = om v) ∧ ∃ n : Nat, z = (n : Int) ∧ n ≤ N
abbrev rdm (r : Nat) (_ _ _ _ _ : Int) (_ : Bool) (_ : DL) (_ _ _ _ _ : Int) (_ _ _ : DLL) (z : Int) : Nat := ((r : Int) - z).toNat
theorem rsg {q : Int} : ((if q = 0 then (0 : Int) else if q < 0 then -1 else 1) == 0) = decide (q = 0) := by
  by_cases h : q = 0
  · simp [h]
  · rw [if_neg h, decide_eq_false h]
    split <;> decide
include C
theorem PCx.dm {i : Nat} (hi : i < r) (hy : el m t k ≠ 0) : FnD prog 96 [eI (el m i k), eI (el m t k)] (.tup [ei (el m i k / el m t k), ei (el m i k % el m t k), eD (dI 0)]) [] :=
  idivmod_ok hy (C.lt (el_bd C.hm C.km hi C.hk)) (C.lt (el_bd C.hm C.km C.ht C.hk)) C.hL
theorem red_no (h0 : el m t k ≠ 0) (hz : ∀ i, i < r → i ≠ t → el m i k / el m t k = 0) : FnO prog 67 [vP 0 0] (pH r c A m u v t k b) (vD (dB false)) (pH r c A m u v t k b) := by
  refine vc67_ok _ _ _ _ _ _ _ _ _ _ _ _ _ _ _ (R := fun x y => x = vD (dB false) ∧ y = pH r c A m u v t k b) ?_
  unfold vc67
  have hr := C.hr
  refine ⟨Rd0 r c A m u v t k b r, rdm r, ⟨⟨rfl, rfl, rfl, rfl, rfl, rfl, rfl, rfl, rfl, rfl, rfl, rfl, rfl, rfl, rfl⟩, 0, rfl, by omega⟩, ?_⟩
  rintro _ _ _ _ _ _ _ _ _ _ _ _ _ _ _ _ ⟨⟨rfl, rfl, rfl, rfl, rfl, rfl, rfl, rfl, rfl, rfl, rfl, rfl, rfl, rfl, rfl⟩, n, rfl, hn⟩
  refine ⟨fun h => ?_, fun h => ⟨rfl, rfl⟩⟩
  have hnr : n < r := by simpa using h
  have nx : Rd0 r c A m u v t k b r r c r t k b (rows A) r c r r r (om m) (om u) (om v) (IntKind.i64.wrap ((n : Int) + 1)) ∧ rdm r r c r t k b (rows A) r c r r r (om m) (om u) (om v) (IntKind.i64.wrap ((n : Int) + 1)) < rdm r r c r t k b (rows A) r c r r r (om m) (om u) (om v) (n : Int) := by
    rw [inc64 (by omega)]
    exact ⟨⟨⟨rfl, rfl, rfl, rfl, rfl, rfl, rfl, rfl, rfl, rfl, rfl, rfl, rfl, rfl, rfl⟩, n + 1, rfl, by omega⟩, by show ((r : Int) - ((n + 1 : Nat) : Int)).toNat < ((r : Int) - (n : Int)).toNat; omega⟩
  refine ⟨_, _, _, _, _, _, _, _, _, _, _, _, _, _, _, _, _, _, _, _, _, _, _, _, _, _, _, _, _, _, _, _, _, _, _, _, _, _, _, pelemO C hnr, pelemO C C.ht, C.dm hnr h0, fun _ => nx, fun h2 => ?_⟩
  have hne : n ≠ t := by intro hc; subst hc; simp at h2
  refine ⟨_, sign_ok _, fun _ => nx, fun h3 => ?_⟩
  rw [rsg, decide_eq_true (hz n hnr hne)] at h3
  exact absurd h3 (by decide)
theorem red_yes (h0 : el m t k ≠ 0) {i : Nat} (hi : i < r) (hne : i ≠ t) (hq : el m i k / el m t k ≠ 0) (hz : ∀ j, j < i → j ≠ t → el m j k / el m t k = 0) :
    FnO prog 67 [vP 0 0] (pH r c A m u v t k b) (vD (dB true)) (pH r c A (apO r c (addO i t (-(el m i k / el m t k))) m) (apO r r (addO i t (-(el m i k / el m t k))) u) (apC r (addO i t (-(el m i k / el m t k))) v) t k b) := by
  generalize ho : addO i t (-(el m i k / el m t k)) = o
  have oi : o.i = i := by rw [← ho]
  have oj : o.j = t := by rw [← ho]
  have ok : o.k = 3 := by rw [← ho]
  have oz : el m i k / el m t k = - o.z := by rw [← ho]; simp
  refine vc67_ok _ _ _ _ _ _ _ _ _ _ _ _ _ _ _ (R := fun x y => x = vD (dB true) ∧ y = pH r c A (apO r c o m) (apO r r o u) (apC r o v) t k b) ?_
  unfold vc67
  have hr := C.hr; have ht := C.ht; have hc := C.hc
  have lm : (om m).length = r := omx_len C.hm
  have lu : (om u).length = r := omx_len C.hu
  have lv : (om v).length = r := omx_len C.hv
  have hqK : (el m i k / el m t k).natAbs ≤ K := by
    have h1 := Int.natAbs_ediv_le_natAbs (el m i k) (el m t k)
    have h2 := el_bd C.hm C.km hi C.hk
    omega
  have szq : Sz (el m i k / el m t k) := C.sz hqK
  have szm : ∀ {y : Int}, y.natAbs ≤ K → Sz y ∧ Sz (el m i k / el m t k * y) := fun {y} hy => ⟨C.sz hy, C.sz2 (by rw [Int.natAbs_mul]; exact Nat.mul_le_mul hqK hy)⟩
  have rl : ∀ {c' : Nat} {x : List (List Int)}, Mx r c' x → (((om x).getD (t : Int).toNat ([] : DL)).length : Int) = (c' : Int) := fun {c' x} hx => by
    rw [Int.toNat_natCast]
    conv => lhs; rw [mx_table hx]
    simp [om, table, ht, row, tableR]
  refine ⟨Rd0 r c A m u v t k b i, rdm r, ⟨⟨rfl, rfl, rfl, rfl, rfl, rfl, rfl, rfl, rfl, rfl, rfl, rfl, rfl, rfl, rfl⟩, 0, rfl, by omega⟩, ?_⟩
  rintro _ _ _ _ _ _ _ _ _ _ _ _ _ _ _ _ ⟨⟨rfl, rfl, rfl, rfl, rfl, rfl, rfl, rfl, rfl, rfl, rfl, rfl, rfl, rfl, rfl⟩, n, rfl, hn⟩
  refine ⟨fun h => ?_, fun h => by exfalso; have : r ≤ n := by simpa using h
                                   omega⟩
  have hnr : n < r := by omega
  have nx : n < i → Rd0 r c A m u v t k b i r c r t k b (rows A) r c r r r (om m) (om u) (om v) (IntKind.i64.wrap ((n : Int) + 1)) ∧ rdm r r c r t k b (rows A) r c r r r (om m) (om u) (om v) (IntKind.i64.wrap ((n : Int) + 1)) < rdm r r c r t k b (rows A) r c r r r (om m) (om u) (om v) (n : Int) := fun hni => by
    rw [inc64 (by omega)]
    exact ⟨⟨⟨rfl, rfl, rfl, rfl, rfl, rfl, rfl, rfl, rfl, rfl, rfl, rfl, rfl, rfl, rfl⟩, n + 1, rfl, by omega⟩, by show ((r : Int) - ((n + 1 : Nat) : Int)).toNat < ((r : Int) - (n : Int)).toNat; omega⟩
  refine ⟨_, _, _, _, _, _, _, _, _, _, _, _, _, _, _, _, _, _, _, _, _, _, _, _, _, _, _, _, _, _, _, _, _, _, _, _, _, _, _, pelemO C hnr, pelemO C C.ht, C.dm hnr h0, fun h2 => ?_, fun h2 => ?_⟩
  · have hnt : n = t := by have := eq_of_beq h2; omega
    exact nx (by omega)
  have hnt : n ≠ t := by intro hc; subst hc; simp at h2
  refine ⟨_, sign_ok _, fun h3 => ?_, fun h3 => ?_⟩
  · rw [rsg] at h3
    have h4 := of_decide_eq_true h3
    refine nx ?_
    rcases Nat.lt_or_ge n i with h5 | h5
    · exact h5
    · exact absurd (by rw [show i = n by omega]; exact h4) hq
  have hni : n = i := by
    rcases Nat.lt_or_ge n i with h5 | h5
    · rw [rsg, decide_eq_true (hz n h5 hnt)] at h3; exact absurd h3 (by decide)
    · omega
  subst hni
  clear h h2 h3 nx hn
  refine ⟨⟨by decide, by decide⟩, ⟨by omega, by omega⟩, ?_⟩
  refine ⟨fun a t' => ∃ n : Nat, t' = (n : Int) ∧ n ≤ c ∧ a = om (table r c (rF o (el m) n)), fun _ t' => ((c : Int) - t').toNat, ⟨0, rfl, by omega, rF_zero C.hm⟩, ?_⟩
  rintro _ _ ⟨p, rfl, hp, rfl⟩
  refine ⟨fun h2 => ?_, fun h2 => ?_⟩
  · have hpc : p < c := by rw [rl C.hm] at h2; simpa using h2
    have e : rF o (el m) p n p = el m n p := by unfold rF; rw [if_neg (by simp)]
    have e' : rF o (el m) p t p = el m t p := by unfold rF; rw [if_neg (by simp)]
    have e2 : opF o (el m) n p = el m n p - el m n k / el m t k * el m t p := by
      rw [oz]; simp only [opF, ok, oi, oj, if_neg (show ¬ (3 : Nat) = 1 by decide), if_neg (show ¬ (3 : Nat) = 2 by decide), if_true]
      rw [Int.neg_mul, Int.sub_neg]
    have a1 := rowM_in (r := r) (c := c) (g := rF o (el m) p) hi hpc
    have a2 := rowM_in (r := r) (c := c) (g := rF o (el m) p) ht hpc
    rw [e] at a1
    rw [e'] at a2
    have s1 := szm (el_bd C.hm C.km ht hpc)
    have f1 := mul_ok szq s1.1
    have f2 := sub_ok (szm (el_bd C.hm C.km hi hpc)).1 s1.2
    rw [← e2] at f2
    refine ⟨_, _, om_in ht hpc, a2, _, _, _, _, _, _, ⟨by omega, by rw [om_len]; omega⟩, om_in hi hpc, a1, f1, f2, ?_⟩
    rw [inc64 (by omega)]
    refine ⟨⟨p + 1, rfl, by omega, ?_⟩, by show ((c : Int) - ((p + 1 : Nat) : Int)).toNat < ((c : Int) - (p : Int)).toNat; omega⟩
    have := rF_step (r := r) (c := c) (o := o) (f := el m) (t := p) (by omega) hpc
    rw [oi] at this
    rw [Int.toNat_natCast, Int.toNat_natCast]
    exact this
  have hpc : p = c := by rw [rl C.hm] at h2; have : c ≤ p := by simpa using h2
                         omega
  subst hpc
  refine ⟨⟨by decide, by decide⟩, ⟨by omega, by omega⟩, ?_⟩
  refine ⟨fun a t' => ∃ n : Nat, t' = (n : Int) ∧ n ≤ r ∧ a = om (table r r (rF o (el u) n)), fun _ t' => ((r : Int) - t').toNat, ⟨0, rfl, by omega, rF_zero C.hu⟩, ?_⟩
  rintro _ _ ⟨x, rfl, hx, rfl⟩
  refine ⟨fun h2 => ?_, fun h2 => ?_⟩
  · have hxc : x < r := by rw [rl C.hu] at h2; simpa using h2
    have e : rF o (el u) x n x = el u n x := by unfold rF; rw [if_neg (by simp)]
    have e' : rF o (el u) x t x = el u t x := by unfold rF; rw [if_neg (by simp)]
    have e2 : opF o (el u) n x = el u n x - el m n k / el m t k * el u t x := by
      rw [oz]; simp only [opF, ok, oi, oj, if_neg (show ¬ (3 : Nat) = 1 by decide), if_neg (show ¬ (3 : Nat) = 2 by decide), if_true]
      rw [Int.neg_mul, Int.sub_neg]
    have a1 := rowM_in (r := r) (c := r) (g := rF o (el u) x) hi hxc
    have a2 := rowM_in (r := r) (c := r) (g := rF o (el u) x) ht hxc
    rw [e] at a1
    rw [e'] at a2
    have s1 := szm (el_bd C.hu C.ku ht hxc)
    have f1 := mul_ok szq s1.1
    have f2 := sub_ok (szm (el_bd C.hu C.ku hi hxc)).1 s1.2
    rw [← e2] at f2
    refine ⟨_, _, om_in ht hxc, a2, _, _, _, _, _, _, ⟨by omega, by rw [om_len]; omega⟩, om_in hi hxc, a1, f1, f2, ?_⟩
    rw [inc64 (by omega)]
    refine ⟨⟨x + 1, rfl, by omega, ?_⟩, by show ((r : Int) - ((x + 1 : Nat) : Int)).toNat < ((r : Int) - (x : Int)).toNat; omega⟩
    have := rF_step (r := r) (c := r) (o := o) (f := el u) (t := x) (by omega) hxc
    rw [oi] at this
    rw [Int.toNat_natCast, Int.toNat_natCast]
    exact this
  have hxr : x = r := by rw [rl C.hu] at h2; have : r ≤ x := by simpa using h2
                         omega
  subst hxr
  refine ⟨fun a t' => ∃ q : Nat, t' = (q : Int) ∧ q ≤ x ∧ a = om (table x x (cP o (el v) q)), fun _ t' => ((x : Int) - t').toNat, ⟨0, rfl, by omega, cP_zero C.hv⟩, ?_⟩
  rintro _ _ ⟨q, rfl, hq', rfl⟩
  refine ⟨fun h2 => ?_, fun h2 => ?_⟩
  · have hqr : q < x := by rw [lv] at h2; simpa using h2
    have a1 := rowM_in (r := x) (c := x) (g := cP o (el v) q) hqr ht
    have a2 := rowM_in (r := x) (c := x) (g := cP o (el v) q) hqr hi
    rw [cP_at] at a1 a2
    have s1 := szm (el_bd C.hv C.kv hqr hi)
    have f1 := mul_ok szq s1.1
    have f2 := add_ok (szm (el_bd C.hv C.kv hqr ht)).1 s1.2
    refine ⟨⟨by omega, by rw [om_len]; omega⟩, _, _, _, _, _, _, _, _, om_in hqr ht, a1, om_in hqr hi, a2, f1, f2, ?_⟩
    rw [inc64 (by omega)]
    refine ⟨⟨q + 1, rfl, by omega, ?_⟩, by show ((x : Int) - ((q + 1 : Nat) : Int)).toNat < ((x : Int) - (q : Int)).toNat; omega⟩
    rw [Int.toNat_natCast, Int.toNat_natCast]
    refine cP_one hqr ht ?_ fun b _ hb => ?_
    · rw [oz]; simp only [colF, ok, oi, oj, if_neg (show ¬ (3 : Nat) = 1 by decide), if_neg (show ¬ (3 : Nat) = 2 by decide), if_true]
      rw [Int.neg_mul, Int.sub_eq_add_neg]
    · simp only [colF, ok, oj, if_neg (show ¬ (3 : Nat) = 1 by decide), if_neg (show ¬ (3 : Nat) = 2 by decide), if_neg hb]
  · have hqr : q = x := by rw [lv] at h2; have : x ≤ q := by simpa using h2
                           omega
    subst hqr
    rw [rF_all (by rw [ok]; decide), rF_all (by rw [ok]; decide), cP_all]
    exact ⟨rfl, rfl⟩
end
theorem pcopied_ok {r c : Nat} {m : List (List Int)} (hm : Mx r c m) (hr : r ≤ 4294967296) (hc : c ≤ 4294967296) : FnD prog 32 [eM r c m] (vA [sD (dI r), sD (dI c), .ref 0]) [some (.mat 2 (om m))] := by
  refine vc32_ok _ _ _ (R := fun x y => x = vA [sD (dI r), sD (dI c), .ref 0] ∧ y = [some (.mat 2 (om m))]) ?_
  unfold vc32
  have hlen : ((rows m).length : Int) = (r : Int) := by rw [rows_length, hm.1]
  rw [hlen]
  refine ⟨⟨by omega, by omega, by omega⟩, ?_⟩
  refine ⟨fun x t => ∃ n : Nat, t = (n : Int) ∧ n ≤ r ∧ x = (om m).take n ++ List.replicate (r - n) [], fun _ t => ((r : Int) - t).toNat, ⟨0, rfl, by omega, by simp⟩, ?_⟩
  rintro _ _ ⟨n, rfl, hn, rfl⟩
  refine ⟨fun h => ?_, fun h => ?_⟩
  · have hnr : n < r := by simpa using h
    have hnm : n < m.length := by rw [hm.1]; exact hnr
    have hnl : (m[n]).length = c := hm.2 _ (List.getElem_mem _)
    have hl : (List.take n (om m)).length = n := by rw [List.length_take, om_length, hm.1]; omega
    have hg : ∀ x : DL, ((om m).take n ++ List.replicate (r - n) []).set n x = (om m).take n ++ x :: List.replicate (r - (n + 1)) [] := fun x => by
      rw [List.set_append_right _ _ (by omega), hl, Nat.sub_self, show r - n = (r - (n + 1)) + 1 by omega, List.replicate_succ, List.set_cons_zero]
    refine ⟨row m[n], ⟨by omega, by omega⟩, ?_, ⟨by omega, by omega, by rw [row_length]; omega⟩, ⟨by omega, ?_⟩, ⟨by omega, ?_⟩, ?_, ?_⟩
    · rw [Int.toNat_natCast]; simp [rows, hnm]
    · rw [List.length_append, hl, List.length_replicate]; omega
    · rw [List.length_set, List.length_append, hl, List.length_replicate]; omega
    · intro y hy; simp only [row, List.mem_map] at hy; obtain ⟨z, _, rfl⟩ := hy; rfl
    · rw [inc64 (by omega), Int.toNat_natCast, Int.toNat_natCast, hg]
      refine ⟨⟨n + 1, rfl, by omega, ?_⟩, by show ((r : Int) - ((n + 1 : Nat) : Int)).toNat < ((r : Int) - (n : Int)).toNat; omega⟩
      have h1 : (List.take n (om m) ++ List.replicate (row m[n]).length [dB false, dL ([] : DL)] :: List.replicate (r - (n + 1)) []).getD n ([] : DL) = List.replicate (row m[n]).length [dB false, dL ([] : DL)] := by
        rw [List.getD_eq_getElem?_getD, List.getElem?_append_right (by omega), hl, Nat.sub_self]; rfl
      rw [h1, List.length_replicate, List.take_length, List.drop_of_length_le (by rw [List.length_replicate]; exact Nat.le_refl _), List.append_nil, List.set_append_right _ _ (by omega), hl, Nat.sub_self, List.set_cons_zero]
      rw [List.take_add_one, List.append_assoc]
      simp [om, hnm]
  · have hnr : n = r := by have : r ≤ n := by simpa using h
                           omega
    subst hnr
    rw [Nat.sub_self, List.replicate_zero, List.append_nil, List.take_of_length_le (by rw [om_length, hm.1]; exact Nat.le_refl _)]
    exact ⟨rfl, rfl⟩
end Go.AM
/- torsionref12.Form: what it answers. -/
namespace Go.AM
open Go.Proofs.Tryz
section
variable {r cc K L : Nat} {a : List (List Int)} {FL : List Opz}
def m0 (cc : Nat) (_ _ _ _ _ _ : Int) (_ _ _ : DLL) (_ c : Int) : Nat := ((cc : Int) - c).toNat
def m1 (r : Nat) (_ _ _ _ _ _ : Int) (_ _ _ : DLL) (i : Int) : Nat := ((r : Int) - i).toNat
def m2 (ii k : Nat) (_ _ _ _ _ _ : Int) (o3 _ _ : DLL) : Nat := msr o3 ii k
theorem sgn_ne {z : Int} : ((if z = 0 then (0 : Int) else if z < 0 then -1 else 1) != 0) = true ↔ z ≠ 0 := by
  split
  · rename_i h; simp [h]
  · rename_i h; split <;> simp [h]
theorem sgn_lt {z : Int} : decide ((if z = 0 then (0 : Int) else if z < 0 then -1 else 1) < 0) = true ↔ z < 0 := by
  split
  · rename_i h; simp [h]
  · split
    · rename_i h; simp [h]
    · rename_i h; simp [h]
variable (C : FCx r cc K L a FL)
include C
end
end Go.AM
/- What functions of the program come to: group Sc. Printed by vc.py. -/
set_option maxRecDepth 100000
set_option linter.unusedVariables false
namespace Go.AM
open Go.Proofs.Tryz
def vc69 (p0 p1 : Int) (p2 : DL) (p3 p4 : Int) (p5 : DL) (p6 p7 : Int) (p8 : DL) (p9 p10 : Int) (p11 : DL) (p12 p13 : Int) (p14 : Bool) (R : V → Heap → Prop) : Prop :=
 ∃ (J0 : Int → Int → Prop) (μ0 : Int → Int → Nat),
 J0 (-1 : Int) p12 ∧ ∀ (best i : Int), J0 best i →
 (decide (i < p3) = true →
 ∃ (vx : DL) (x0 : Bool) (x1 : DL) (r0 : Bool) (r1 : DL),
 (0 ≤ i ∧ i < (p5.length : Int)) ∧
 (p5[(i).toNat]? = some [dL vx]) ∧
 (0 ≤ p13 ∧ p13 < (vx.length : Int)) ∧
 (vx[(p13).toNat]? = some [dB x0, dL x1]) ∧
 (FnD prog 100 [vA [sD (dB x0), sD (dL x1)]] (vA [sD (dB r0), sD (dL r1)]) []) ∧
 (∃ (r : Int),
 (FnD prog 41 [vA [sD (dB r0), sD (dL r1)]] (vD (dI r)) []) ∧
 (((r != (0 : Int)) = true →
 (decide (best < (0 : Int)) = true →
 J0 i (IntKind.i64.wrap (i + (1 : Int))) ∧ μ0 i (IntKind.i64.wrap (i + (1 : Int))) < μ0 best i) ∧
 (decide (best < (0 : Int)) = false →
 ∃ (vx1 : DL) (x01 : Bool) (x11 : DL) (r01 : Bool) (r11 : DL) (r2 : Int),
 (0 ≤ best ∧ best < (p5.length : Int)) ∧
 (p5[(best).toNat]? = some [dL vx1]) ∧
 (0 ≤ p13 ∧ p13 < (vx1.length : Int)) ∧
 (vx1[(p13).toNat]? = some [dB x01, dL x11]) ∧
 (FnD prog 100 [vA [sD (dB x01), sD (dL x11)]] (vA [sD (dB r01), sD (dL r11)]) []) ∧
 (FnD prog 74 [vA [sD (dB r0), sD (dL r1)], vA [sD (dB r01), sD (dL r11)]] (vD (dI r2)) []) ∧
 ((decide (r2 < (0 : Int)) = true →
 J0 i (IntKind.i64.wrap (i + (1 : Int))) ∧ μ0 i (IntKind.i64.wrap (i + (1 : Int))) < μ0 best i) ∧
 (decide (r2 < (0 : Int)) = false →
 J0 best (IntKind.i64.wrap (i + (1 : Int))) ∧ μ0 best (IntKind.i64.wrap (i + (1 : Int))) < μ0 best i)))) ∧
 ((r != (0 : Int)) = false →
 J0 best (IntKind.i64.wrap (i + (1 : Int))) ∧ μ0 best (IntKind.i64.wrap (i + (1 : Int))) < μ0 best i)))) ∧
 (decide (i < p3) = false →
 R (vD (dI best)) [])
theorem vc69_ok (p0 p1 : Int) (p2 : DL) (p3 p4 : Int) (p5 : DL) (p6 p7 : Int) (p8 : DL) (p9 p10 : Int) (p11 : DL) (p12 p13 : Int) (p14 : Bool) {R : V → Heap → Prop} (h : vc69 p0 p1 p2 p3 p4 p5 p6 p7 p8 p9 p10 p11 p12 p13 p14 R) : FnG prog 69 [vA [sD (dI p0), sD (dI p1), sD (dL p2), sD (dI p3), sD (dI p4), sD (dL p5), sD (dI p6), sD (dI p7), sD (dL p8), sD (dI p9), sD (dI p10), sD (dL p11), sD (dI p12), sD (dI p13), sD (dB p14)]] [] R :=
  FnG.vcg hT func69 ntmps69 (.reg 1 [(0, Or.none, 0, 1)] [1] [0] [] <| .r1 [1, 3] [0] <| .r1 [1, 3, 4] [0] <| .lp [.i, .i] (fun best i => ⟨[(1, vP 0 0), (3, vD (dI best)), (4, vD (dI i))], [some (Obj.box [sD (dI p0), sD (dI p1), sD (dL p2), sD (dI p3), sD (dI p4), sD (dL p5), sD (dI p6), sD (dI p7), sD (dL p8), sD (dI p9), sD (dI p10), sD (dL p11), sD (dI p12), sD (dI p13), sD (dB p14)])], 51⟩) [.i (-1 : Int), .i p12] <| .fi fun best => .fi fun i => .beg <| .r1 [1, 3, 4, 12] [0] <| .c2 (.exl fun vx => .exb fun x0 => .exl fun x1 => .exb fun r0 => .exl fun r1 => .drw 1 [(5, (Or.cells [dL vx], 0, 0), []), (9, (Or.cells [dB x0, dL x1], 0, 0), []), (10, (Or.call (vA [sD (dB r0), sD (dL r1)]) [] [], 0, 0), []), (11, (Or.none, 1, 1), [1]), (12, (Or.none, 0, 0), [1])] [1, 3, 4, 5] [0, 1] [] <| .ex fun r => .ob (FnD prog 41 [vA [sD (dB r0), sD (dL r1)]] (vD (dI r)) []) <| .spl ((r != (0 : Int))) (.spl ((decide (best < (0 : Int)))) (.drw 0 [(1, (Or.call (vD (dI r)) [] [], 0, 0), []), (3, (Or.bool true, 0, 0), []), (6, (Or.bool true, 0, 0), [])] [1, 3, 4, 48] [0] [.old 2, .old 1, .old 0] <| .ct true none <| .r1 [1, 3, 4] [0] <| .r1 [1, 3, 4] [0] <| .bk 0 [.i i, .i (IntKind.i64.wrap (i + (1 : Int)))]) (.exl fun vx1 => .exb fun x01 => .exl fun x11 => .exb fun r01 => .exl fun r11 => .ex fun r2 => .drw 0 [(1, (Or.call (vD (dI r)) [] [], 0, 0), []), (3, (Or.bool true, 0, 0), []), (6, (Or.bool false, 0, 0), []), (13, (Or.cells [dL vx1], 0, 0), []), (17, (Or.cells [dB x01, dL x11], 0, 0), []), (18, (Or.call (vA [sD (dB r01), sD (dL r11)]) [] [], 0, 0), []), (19, (Or.call (vD (dI r2)) [] [], 0, 0), [])] [1, 3, 4, 48] [0] [.old 2, .old 1, .old 0] <| .c2 (.r1 [1, 3, 4] [0] <| .r1 [1, 3, 4] [0] <| .bk 0 [.i i, .i (IntKind.i64.wrap (i + (1 : Int)))]) (.r1 [1, 3, 4] [0] <| .bk 0 [.i best, .i (IntKind.i64.wrap (i + (1 : Int)))]))) (.drw 0 [(1, (Or.call (vD (dI r)) [] [], 0, 0), []), (3, (Or.bool false, 0, 0), [])] [1, 3, 4, 48] [0] [.old 1, .old 0] <| .ct false none <| .r1 [1, 3, 4] [0] <| .bk 0 [.i best, .i (IntKind.i64.wrap (i + (1 : Int)))])) (.r0 [2] <| .ret []))
    (by kernel_rfl) (by kernel_rfl) (by kernel_rfl) h
def vc70 (p0 p1 : Int) (p2 : DL) (p3 p4 : Int) (p5 : DL) (p6 p7 : Int) (p8 : DL) (p9 p10 : Int) (p11 : DL) (p12 p13 : Int) (p14 : Bool) (R : V → Heap → Prop) : Prop :=
 ∃ (vx : DL) (x0 : Bool) (x1 : DL),
 (0 ≤ p12 ∧ p12 < (p5.length : Int)) ∧
 (p5[(p12).toNat]? = some [dL vx]) ∧
 (0 ≤ p13 ∧ p13 < (vx.length : Int)) ∧
 (vx[(p13).toNat]? = some [dB x0, dL x1]) ∧
 (∃ (J0 : Int → Prop) (μ0 : Int → Nat),
 J0 (0 : Int) ∧ ∀ (k : Int), J0 k →
 (decide (k < p3) = true →
 ∃ (vx1 : DL) (x01 : Bool) (x11 : DL),
 (0 ≤ k ∧ k < (p5.length : Int)) ∧
 (p5[(k).toNat]? = some [dL vx1]) ∧
 (0 ≤ p13 ∧ p13 < (vx1.length : Int)) ∧
 (vx1[(p13).toNat]? = some [dB x01, dL x11]) ∧
 ((decide (k > p12) = true →
 ∃ (r : Int),
 (FnD prog 41 [vA [sD (dB x01), sD (dL x11)]] (vD (dI r)) []) ∧
 (((r != (0 : Int)) = true →
 R (vD (dI k)) []) ∧
 ((r != (0 : Int)) = false →
 (decide (k < p12) = true →
 ∃ (r1 : Int),
 (FnD prog 41 [vA [sD (dB x01), sD (dL x11)]] (vD (dI r1)) []) ∧
 ((decide (r1 < (0 : Int)) = true →
 R (vD (dI k)) []) ∧
 (decide (r1 < (0 : Int)) = false →
 ∃ (r2 : Int),
 (FnD prog 74 [vA [sD (dB x01), sD (dL x11)], vA [sD (dB x0), sD (dL x1)]] (vD (dI r2)) []) ∧
 ((decide (r2 ≥ (0 : Int)) = true →
 R (vD (dI k)) []) ∧
 (decide (r2 ≥ (0 : Int)) = false →
 J0 (IntKind.i64.wrap (k + (1 : Int))) ∧ μ0 (IntKind.i64.wrap (k + (1 : Int))) < μ0 k))))) ∧
 (decide (k < p12) = false →
 J0 (IntKind.i64.wrap (k + (1 : Int))) ∧ μ0 (IntKind.i64.wrap (k + (1 : Int))) < μ0 k)))) ∧
 (decide (k > p12) = false →
 (decide (k < p12) = true →
 ∃ (r3 : Int),
 (FnD prog 41 [vA [sD (dB x01), sD (dL x11)]] (vD (dI r3)) []) ∧
 ((decide (r3 < (0 : Int)) = true →
 R (vD (dI k)) []) ∧
 (decide (r3 < (0 : Int)) = false →
 ∃ (r4 : Int),
 (FnD prog 74 [vA [sD (dB x01), sD (dL x11)], vA [sD (dB x0), sD (dL x1)]] (vD (dI r4)) []) ∧
 ((decide (r4 ≥ (0 : Int)) = true →
 R (vD (dI k)) []) ∧
 (decide (r4 ≥ (0 : Int)) = false →
 J0 (IntKind.i64.wrap (k + (1 : Int))) ∧ μ0 (IntKind.i64.wrap (k + (1 : Int))) < μ0 k))))) ∧
 (decide (k < p12) = false →
 J0 (IntKind.i64.wrap (k + (1 : Int))) ∧ μ0 (IntKind.i64.wrap (k + (1 : Int))) < μ0 k)))) ∧
 (decide (k < p3) = false →
 R (vD (dI (-1 : Int))) []))
theorem vc70_ok (p0 p1 : Int) (p2 : DL) (p3 p4 : Int) (p5 : DL) (p6 p7 : Int) (p8 : DL) (p9 p10 : Int) (p11 : DL) (p12 p13 : Int) (p14 : Bool) {R : V → Heap → Prop} (h : vc70 p0 p1 p2 p3 p4 p5 p6 p7 p8 p9 p10 p11 p12 p13 p14 R) : FnG prog 70 [vA [sD (dI p0), sD (dI p1), sD (dL p2), sD (dI p3), sD (dI p4), sD (dL p5), sD (dI p6), sD (dI p7), sD (dL p8), sD (dI p9), sD (dI p10), sD (dL p11), sD (dI p12), sD (dI p13), sD (dB p14)]] [] R :=
  FnG.vcg hT func70 ntmps70 (.reg 1 [(0, Or.none, 0, 1)] [1] [0] [] <| .exl fun vx => .exb fun x0 => .exl fun x1 => .drw 1 [(6, (Or.cells [dL vx], 0, 0), []), (10, (Or.cells [dB x0, dL x1], 0, 0), []), (11, (Or.none, 1, 1), [1]), (12, (Or.none, 0, 0), [1])] [1, 3] [0, 1] [] <| .r1 [1, 3, 4] [0, 1] <| .lp [.i] (fun k => ⟨[(1, vP 0 0), (3, vP 1 0), (4, vD (dI k))], [some (Obj.box [sD (dI p0), sD (dI p1), sD (dL p2), sD (dI p3), sD (dI p4), sD (dL p5), sD (dI p6), sD (dI p7), sD (dL p8), sD (dI p9), sD (dI p10), sD (dL p11), sD (dI p12), sD (dI p13), sD (dB p14)]), some (Obj.box [sD (dB x0), sD (dL x1)])], 61⟩) [.i (0 : Int)] <| .fi fun k => .beg <| .r1 [1, 3, 4, 21] [0, 1] <| .c2 (.exl fun vx1 => .exb fun x01 => .exl fun x11 => .drw 1 [(5, (Or.cells [dL vx1], 0, 0), []), (9, (Or.cells [dB x01, dL x11], 0, 0), []), (10, (Or.none, 2, 1), [2]), (11, (Or.none, 0, 0), [2])] [1, 3, 4, 5] [0, 1, 2] [] <| .spl ((decide (k > p12))) (.ex fun r => .ob (FnD prog 41 [vA [sD (dB x01), sD (dL x11)]] (vD (dI r)) []) <| .spl ((r != (0 : Int))) (.reg 0 [(4, Or.bool true, 0, 0), (6, Or.call (vD (dI r)) [] [], 0, 0), (9, Or.bool true, 0, 0)] [1, 3, 4, 59] [0, 1] [.old 2, .old 1, .old 0] <| .ct true none <| .r0 [2] <| .ret []) (.spl ((decide (k < p12))) (.ex fun r1 => .ob (FnD prog 41 [vA [sD (dB x01), sD (dL x11)]] (vD (dI r1)) []) <| .spl ((decide (r1 < (0 : Int)))) (.reg 0 [(4, Or.bool true, 0, 0), (6, Or.call (vD (dI r)) [] [], 0, 0), (9, Or.bool false, 0, 0), (14, Or.bool true, 0, 0), (16, Or.call (vD (dI r1)) [] [], 0, 0), (18, Or.bool true, 0, 0)] [1, 3, 4, 59] [0, 1] [.old 5, .old 4, .old 3, .old 2, .old 1, .old 0] <| .ct true none <| .r0 [2] <| .ret []) (.ex fun r2 => .reg 0 [(4, Or.bool true, 0, 0), (6, Or.call (vD (dI r)) [] [], 0, 0), (9, Or.bool false, 0, 0), (14, Or.bool true, 0, 0), (16, Or.call (vD (dI r1)) [] [], 0, 0), (18, Or.bool false, 0, 0), (21, Or.call (vD (dI r2)) [] [], 0, 0)] [1, 3, 4, 59] [0, 1] [.old 5, .old 4, .old 3, .old 2, .old 1, .old 0] <| .c2 (.r0 [2] <| .ret []) (.r1 [1, 3, 4] [0, 1] <| .bk 0 [.i (IntKind.i64.wrap (k + (1 : Int)))]))) (.reg 0 [(4, Or.bool true, 0, 0), (6, Or.call (vD (dI r)) [] [], 0, 0), (9, Or.bool false, 0, 0), (14, Or.bool false, 0, 0)] [1, 3, 4, 59] [0, 1] [.old 3, .old 2, .old 1, .old 0] <| .ct false none <| .r1 [1, 3, 4] [0, 1] <| .bk 0 [.i (IntKind.i64.wrap (k + (1 : Int)))]))) (.spl ((decide (k < p12))) (.ex fun r3 => .ob (FnD prog 41 [vA [sD (dB x01), sD (dL x11)]] (vD (dI r3)) []) <| .spl ((decide (r3 < (0 : Int)))) (.reg 0 [(4, Or.bool false, 0, 0), (14, Or.bool true, 0, 0), (16, Or.call (vD (dI r3)) [] [], 0, 0), (18, Or.bool true, 0, 0)] [1, 3, 4, 59] [0, 1] [.old 3, .old 2, .old 1, .old 0] <| .ct true none <| .r0 [2] <| .ret []) (.ex fun r4 => .reg 0 [(4, Or.bool false, 0, 0), (14, Or.bool true, 0, 0), (16, Or.call (vD (dI r3)) [] [], 0, 0), (18, Or.bool false, 0, 0), (21, Or.call (vD (dI r4)) [] [], 0, 0)] [1, 3, 4, 59] [0, 1] [.old 3, .old 2, .old 1, .old 0] <| .c2 (.r0 [2] <| .ret []) (.r1 [1, 3, 4] [0, 1] <| .bk 0 [.i (IntKind.i64.wrap (k + (1 : Int)))]))) (.reg 0 [(4, Or.bool false, 0, 0), (14, Or.bool false, 0, 0)] [1, 3, 4, 59] [0, 1] [.old 1, .old 0] <| .ct false none <| .r1 [1, 3, 4] [0, 1] <| .bk 0 [.i (IntKind.i64.wrap (k + (1 : Int)))]))) (.r0 [2] <| .ret []))
    (by kernel_rfl) (by kernel_rfl) (by kernel_rfl) h
def vc34 (p0 p1 : Int) (p2 : DL) (p3 p4 : Int) (p5 : DL) (p6 p7 : Int) (p8 : DL) (p9 p10 : Int) (p11 : DL) (p12 p13 : Int) (p14 : Bool) (R : V → Heap → Prop) : Prop :=
 ∃ (r0 r1 : Int) (rrows : DLL) (r01 r11 : Int) (rrows1 : DLL) (r02 r12 : Int) (rrows2 : DLL),
 (FnD prog 42 [vA [sD (dI p3), sD (dI p4), sD (dL p5)]] (vA [sD (dI r0), sD (dI r1), S.ref 0]) [some (Obj.mat 2 rrows)]) ∧
 (FnD prog 42 [vA [sD (dI p6), sD (dI p7), sD (dL p8)]] (vA [sD (dI r01), sD (dI r11), S.ref 0]) [some (Obj.mat 2 rrows1)]) ∧
 (FnD prog 42 [vA [sD (dI p9), sD (dI p10), sD (dL p11)]] (vA [sD (dI r02), sD (dI r12), S.ref 0]) [some (Obj.mat 2 rrows2)]) ∧
 (∃ (r : Int),
 (FnD prog 69 [vA [sD (dI p0), sD (dI p1), sD (dL p2), sD (dI p3), sD (dI p4), sD (dL p5), sD (dI p6), sD (dI p7), sD (dL p8), sD (dI p9), sD (dI p10), sD (dL p11), sD (dI p12), sD (dI p13), sD (dB p14)]] (vD (dI r)) []) ∧
 ((decide (r < (0 : Int)) = true →
 ∃ (r2 : Bool),
 (FnD prog 31 [vA [sD (dI p0), sD (dI p1), sD (dL p2), sD (dI r0), sD (dI r1), sD (dL (matD rrows)), sD (dI r01), sD (dI r11), sD (dL (matD rrows1)), sD (dI r02), sD (dI r12), sD (dL (matD rrows2)), sD (dI p12), sD (dI (IntKind.i64.wrap (p13 + (1 : Int)))), sD (dB p14)]] (vD (dB r2)) []) ∧
 (R (vA [sD (dI p0), sD (dI p1), sD (dL p2), sD (dI r0), sD (dI r1), sD (dL (matD rrows)), sD (dI r01), sD (dI r11), sD (dL (matD rrows1)), sD (dI r02), sD (dI r12), sD (dL (matD rrows2)), sD (dI p12), sD (dI (IntKind.i64.wrap (p13 + (1 : Int)))), sD (dB r2)]) [])) ∧
 (decide (r < (0 : Int)) = false →
 ((r != p12) = true →
 ∃ (b b1 : Int) (b2 b3 : Int) (b4 b5 : Int) (m m1 m2 : DLL),
 (FnO prog 53 [V.e (E.sc (S.ptr 0 0)), vD (dI r), vD (dI p12)] [some (Obj.box [sD (dI r0), sD (dI r1), S.ref 1, sD (dI r01), sD (dI r11), S.ref 2, sD (dI r02), sD (dI r12), S.ref 3]), some (Obj.mat 2 rrows), some (Obj.mat 2 rrows1), some (Obj.mat 2 rrows2)] (V.tup []) [some (Obj.box [sD (dI b), sD (dI b1), S.ref 4, sD (dI b2), sD (dI b3), S.ref 5, sD (dI b4), sD (dI b5), S.ref 3]), some (Obj.fwd (S.ref 4)), some (Obj.fwd (S.ref 5)), some (Obj.mat 2 m), some (Obj.mat 2 m1), some (Obj.mat 2 m2)]) ∧
 (∃ (r3 : Bool),
 (FnD prog 31 [vA [sD (dI p0), sD (dI p1), sD (dL p2), sD (dI b), sD (dI b1), sD (dL (matD m1)), sD (dI b2), sD (dI b3), sD (dL (matD m2)), sD (dI b4), sD (dI b5), sD (dL (matD m)), sD (dI p12), sD (dI p13), sD (dB p14)]] (vD (dB r3)) []) ∧
 (R (vA [sD (dI p0), sD (dI p1), sD (dL p2), sD (dI b), sD (dI b1), sD (dL (matD m1)), sD (dI b2), sD (dI b3), sD (dL (matD m2)), sD (dI b4), sD (dI b5), sD (dL (matD m)), sD (dI p12), sD (dI p13), sD (dB r3)]) []))) ∧
 ((r != p12) = false →
 ∃ (vx : DL) (x0 : Bool) (x1 : DL) (r4 : Int),
 (0 ≤ p12 ∧ p12 < (p5.length : Int)) ∧
 (p5[(p12).toNat]? = some [dL vx]) ∧
 (0 ≤ p13 ∧ p13 < (vx.length : Int)) ∧
 (vx[(p13).toNat]? = some [dB x0, dL x1]) ∧
 (FnD prog 41 [vA [sD (dB x0), sD (dL x1)]] (vD (dI r4)) []) ∧
 ((decide (r4 < (0 : Int)) = true →
 ∃ (b6 b7 : Int) (b8 b9 : Int) (b10 b11 : Int) (m3 m4 m5 : DLL),
 (FnO prog 54 [V.e (E.sc (S.ptr 0 0)), vD (dI p12)] [some (Obj.box [sD (dI r0), sD (dI r1), S.ref 1, sD (dI r01), sD (dI r11), S.ref 2, sD (dI r02), sD (dI r12), S.ref 3]), some (Obj.mat 2 rrows), some (Obj.mat 2 rrows1), some (Obj.mat 2 rrows2)] (V.tup []) [some (Obj.box [sD (dI b6), sD (dI b7), S.ref 1, sD (dI b8), sD (dI b9), S.ref 2, sD (dI b10), sD (dI b11), S.ref 3]), some (Obj.mat 2 m3), some (Obj.mat 2 m4), some (Obj.mat 2 m5)]) ∧
 (∃ (r5 : Bool),
 (FnD prog 31 [vA [sD (dI p0), sD (dI p1), sD (dL p2), sD (dI b6), sD (dI b7), sD (dL (matD m3)), sD (dI b8), sD (dI b9), sD (dL (matD m4)), sD (dI b10), sD (dI b11), sD (dL (matD m5)), sD (dI p12), sD (dI p13), sD (dB p14)]] (vD (dB r5)) []) ∧
 (R (vA [sD (dI p0), sD (dI p1), sD (dL p2), sD (dI b6), sD (dI b7), sD (dL (matD m3)), sD (dI b8), sD (dI b9), sD (dL (matD m4)), sD (dI b10), sD (dI b11), sD (dL (matD m5)), sD (dI p12), sD (dI p13), sD (dB r5)]) []))) ∧
 (decide (r4 < (0 : Int)) = false →
 ∃ (r6 : Int),
 (FnD prog 70 [vA [sD (dI p0), sD (dI p1), sD (dL p2), sD (dI p3), sD (dI p4), sD (dL p5), sD (dI p6), sD (dI p7), sD (dL p8), sD (dI p9), sD (dI p10), sD (dL p11), sD (dI p12), sD (dI p13), sD (dB p14)]] (vD (dI r6)) []) ∧
 ((decide (r6 < (0 : Int)) = true →
 ∃ (r7 : Bool),
 (FnD prog 31 [vA [sD (dI p0), sD (dI p1), sD (dL p2), sD (dI r0), sD (dI r1), sD (dL (matD rrows)), sD (dI r01), sD (dI r11), sD (dL (matD rrows1)), sD (dI r02), sD (dI r12), sD (dL (matD rrows2)), sD (dI (IntKind.i64.wrap (p12 + (1 : Int)))), sD (dI (IntKind.i64.wrap (p13 + (1 : Int)))), sD (dB p14)]] (vD (dB r7)) []) ∧
 (R (vA [sD (dI p0), sD (dI p1), sD (dL p2), sD (dI r0), sD (dI r1), sD (dL (matD rrows)), sD (dI r01), sD (dI r11), sD (dL (matD rrows1)), sD (dI r02), sD (dI r12), sD (dL (matD rrows2)), sD (dI (IntKind.i64.wrap (p12 + (1 : Int)))), sD (dI (IntKind.i64.wrap (p13 + (1 : Int)))), sD (dB r7)]) [])) ∧
 (decide (r6 < (0 : Int)) = false →
 ∃ (vx1 : DL) (x01 : Bool) (x11 : DL) (r03 : Bool) (r13 : DL) (r04 : Bool) (r14 : DL) (b12 b13 : Int) (b14 b15 : Int) (b16 b17 : Int) (m6 m7 m8 : DLL),
 (0 ≤ r6 ∧ r6 < (p5.length : Int)) ∧
 (p5[(r6).toNat]? = some [dL vx1]) ∧
 (0 ≤ p13 ∧ p13 < (vx1.length : Int)) ∧
 (vx1[(p13).toNat]? = some [dB x01, dL x11]) ∧
 (FnD prog 55 [vA [sD (dB x01), sD (dL x11)], vA [sD (dB x0), sD (dL x1)]] (vA [sD (dB r03), sD (dL r13)]) []) ∧
 (FnD prog 52 [vA [sD (dB r03), sD (dL r13)]] (vA [sD (dB r04), sD (dL r14)]) []) ∧
 (FnO prog 51 [V.e (E.sc (S.ptr 0 0)), vD (dI r6), vD (dI p12), vA [sD (dB r04), sD (dL r14)]] [some (Obj.box [sD (dI r0), sD (dI r1), S.ref 1, sD (dI r01), sD (dI r11), S.ref 2, sD (dI r02), sD (dI r12), S.ref 3]), some (Obj.mat 2 rrows), some (Obj.mat 2 rrows1), some (Obj.mat 2 rrows2)] (V.tup []) [some (Obj.box [sD (dI b12), sD (dI b13), S.ref 1, sD (dI b14), sD (dI b15), S.ref 2, sD (dI b16), sD (dI b17), S.ref 3]), some (Obj.mat 2 m6), some (Obj.mat 2 m7), some (Obj.mat 2 m8)]) ∧
 (∃ (r8 : Bool),
 (FnD prog 31 [vA [sD (dI p0), sD (dI p1), sD (dL p2), sD (dI b12), sD (dI b13), sD (dL (matD m6)), sD (dI b14), sD (dI b15), sD (dL (matD m7)), sD (dI b16), sD (dI b17), sD (dL (matD m8)), sD (dI p12), sD (dI p13), sD (dB p14)]] (vD (dB r8)) []) ∧
 (R (vA [sD (dI p0), sD (dI p1), sD (dL p2), sD (dI b12), sD (dI b13), sD (dL (matD m6)), sD (dI b14), sD (dI b15), sD (dL (matD m7)), sD (dI b16), sD (dI b17), sD (dL (matD m8)), sD (dI p12), sD (dI p13), sD (dB r8)]) []))))))))))
theorem vc34_ok (p0 p1 : Int) (p2 : DL) (p3 p4 : Int) (p5 : DL) (p6 p7 : Int) (p8 : DL) (p9 p10 : Int) (p11 : DL) (p12 p13 : Int) (p14 : Bool) {R : V → Heap → Prop} (h : vc34 p0 p1 p2 p3 p4 p5 p6 p7 p8 p9 p10 p11 p12 p13 p14 R) : FnG prog 34 [vA [sD (dI p0), sD (dI p1), sD (dL p2), sD (dI p3), sD (dI p4), sD (dL p5), sD (dI p6), sD (dI p7), sD (dL p8), sD (dI p9), sD (dI p10), sD (dL p11), sD (dI p12), sD (dI p13), sD (dB p14)]] [] R :=
  FnG.vcg hT func34 ntmps34 (.reg 2 [(0, Or.none, 0, 1), (1, Or.none, 1, 1)] [1, 2] [0, 1] [] <| .ex fun r0 => .ex fun r1 => .exm fun rrows => .ex fun r01 => .ex fun r11 => .exm fun rrows1 => .ex fun r02 => .ex fun r12 => .exm fun rrows2 => .drw 4 [(2, (Or.call (vA [sD (dI r0), sD (dI r1), S.ref 0]) [some (Obj.mat 2 rrows)] [], 2, 1), [2]), (5, (Or.call (vA [sD (dI r01), sD (dI r11), S.ref 0]) [some (Obj.mat 2 rrows1)] [], 3, 1), [3]), (8, (Or.call (vA [sD (dI r02), sD (dI r12), S.ref 0]) [some (Obj.mat 2 rrows2)] [], 4, 1), [4]), (10, (Or.none, 5, 1), [5])] [1, 2, 3] [0, 1, 5, 2, 3, 4] [] <| .r1 [1, 2, 3, 4] [0, 1, 2, 3, 4, 5] <| .ex fun r => .reg 0 [(1, Or.call (vD (dI r)) [] [], 0, 0)] [1, 2, 3, 4, 5] [0, 1, 2, 3, 4, 5] [] <| .r1 [1, 2, 3, 4, 5, 60] [0, 1, 2, 3, 4, 5] <| .c2 (.r1 [1, 2, 3] [0, 1, 2, 3, 4, 5] <| .r1 [1, 2, 3] [0, 1, 2, 3, 4, 5] <| .r1 [1, 2, 3] [0, 1, 2, 3, 4, 5] <| .r1 [1, 2] [0, 1, 3, 4, 5] <| .frz [2] <| .frz [3] <| .frz [4] <| .exb fun r2 => .reg 0 [(1, Or.call (vD (dB r2)) [] [], 0, 0)] [1, 2] [0, 1] [] <| .r1 [2] [1] <| .ret []) (.r1 [1, 2, 3, 4, 5, 67] [0, 1, 2, 3, 4, 5] <| .c2 (.ex fun b => .ex fun b1 => .ex fun b2 => .ex fun b3 => .ex fun b4 => .ex fun b5 => .exm fun m => .exm fun m1 => .exm fun m2 => .reg 2 [(3, Or.callO [2, 3, 4, 5] (V.tup []) [some (Obj.box [sD (dI b), sD (dI b1), S.ref 4, sD (dI b2), sD (dI b3), S.ref 5, sD (dI b4), sD (dI b5), S.ref 3]), some (Obj.fwd (S.ref 4)), some (Obj.fwd (S.ref 5)), some (Obj.mat 2 m), some (Obj.mat 2 m1), some (Obj.mat 2 m2)], 6, 2)] [1, 2, 3] [0, 1, 2, 6, 7, 5] [] <| .r1 [1, 2, 3] [0, 1, 2, 3, 4, 5] <| .r1 [1, 2, 3] [0, 1, 2, 3, 4, 5] <| .r1 [1, 2] [0, 1, 3, 4, 5] <| .frz [2] <| .frz [3] <| .frz [4] <| .exb fun r3 => .reg 0 [(1, Or.call (vD (dB r3)) [] [], 0, 0)] [1, 2] [0, 1] [] <| .r1 [2] [1] <| .ret []) (.exl fun vx => .exb fun x0 => .exl fun x1 => .ex fun r4 => .drw 0 [(5, (Or.cells [dL vx], 0, 0), []), (9, (Or.cells [dB x0, dL x1], 0, 0), []), (10, (Or.call (vD (dI r4)) [] [], 0, 0), [])] [1, 2, 3, 4, 75] [0, 1, 2, 3, 4, 5] [] <| .c2 (.ex fun b6 => .ex fun b7 => .ex fun b8 => .ex fun b9 => .ex fun b10 => .ex fun b11 => .exm fun m3 => .exm fun m4 => .exm fun m5 => .reg 0 [(2, Or.callO [2, 3, 4, 5] (V.tup []) [some (Obj.box [sD (dI b6), sD (dI b7), S.ref 1, sD (dI b8), sD (dI b9), S.ref 2, sD (dI b10), sD (dI b11), S.ref 3]), some (Obj.mat 2 m3), some (Obj.mat 2 m4), some (Obj.mat 2 m5)], 0, 0)] [1, 2, 3] [0, 1, 2, 3, 4, 5] [] <| .r1 [1, 2, 3] [0, 1, 2, 3, 4, 5] <| .r1 [1, 2, 3] [0, 1, 2, 3, 4, 5] <| .r1 [1, 2] [0, 1, 3, 4, 5] <| .frz [2] <| .frz [3] <| .frz [4] <| .exb fun r5 => .reg 0 [(1, Or.call (vD (dB r5)) [] [], 0, 0)] [1, 2] [0, 1] [] <| .r1 [2] [1] <| .ret []) (.ex fun r6 => .reg 0 [(1, Or.call (vD (dI r6)) [] [], 0, 0)] [1, 2, 3, 4, 6] [0, 1, 2, 3, 4, 5] [] <| .r1 [1, 2, 3, 4, 6, 25] [0, 1, 2, 3, 4, 5] <| .c2 (.r1 [1, 2, 3] [0, 1, 2, 3, 4, 5] <| .r1 [1, 2, 3] [0, 1, 2, 3, 4, 5] <| .r1 [1, 2, 3] [0, 1, 2, 3, 4, 5] <| .r1 [1, 2, 3] [0, 1, 2, 3, 4, 5] <| .r1 [1, 2] [0, 1, 3, 4, 5] <| .frz [2] <| .frz [3] <| .frz [4] <| .exb fun r7 => .reg 0 [(1, Or.call (vD (dB r7)) [] [], 0, 0)] [1, 2] [0, 1] [] <| .r1 [2] [1] <| .ret []) (.exl fun vx1 => .exb fun x01 => .exl fun x11 => .exb fun r03 => .exl fun r13 => .exb fun r04 => .exl fun r14 => .ex fun b12 => .ex fun b13 => .ex fun b14 => .ex fun b15 => .ex fun b16 => .ex fun b17 => .exm fun m6 => .exm fun m7 => .exm fun m8 => .drw 0 [(8, (Or.cells [dL vx1], 0, 0), []), (12, (Or.cells [dB x01, dL x11], 0, 0), []), (18, (Or.cells [dL vx], 0, 0), []), (22, (Or.cells [dB x0, dL x1], 0, 0), []), (23, (Or.call (vA [sD (dB r03), sD (dL r13)]) [] [], 0, 0), []), (24, (Or.call (vA [sD (dB r04), sD (dL r14)]) [] [], 0, 0), []), (25, (Or.callO [2, 3, 4, 5] (V.tup []) [some (Obj.box [sD (dI b12), sD (dI b13), S.ref 1, sD (dI b14), sD (dI b15), S.ref 2, sD (dI b16), sD (dI b17), S.ref 3]), some (Obj.mat 2 m6), some (Obj.mat 2 m7), some (Obj.mat 2 m8)], 0, 0), [2, 3, 4, 5])] [1, 2, 3] [0, 1, 2, 3, 4, 5] [.new, .new, .new, .new, .old 11, .old 10, .old 9, .old 8] <| .r1 [1, 2, 3] [0, 1, 2, 3, 4, 5] <| .r1 [1, 2, 3] [0, 1, 2, 3, 4, 5] <| .r1 [1, 2] [0, 1, 3, 4, 5] <| .frz [2] <| .frz [3] <| .frz [4] <| .exb fun r8 => .reg 0 [(1, Or.call (vD (dB r8)) [] [], 0, 0)] [1, 2] [0, 1] [] <| .r1 [2] [1] <| .ret [])))))
    (by kernel_rfl) (by kernel_rfl) (by kernel_rfl) h
def vc14 (p0 p1 : Int) (p2 : DL) (p3 p4 : Int) (p5 : DL) (p6 p7 : Int) (p8 : DL) (p9 p10 : Int) (p11 : DL) (p12 p13 : Int) (p14 : Bool) (budget : Int) (R : V → Heap → Prop) : Prop :=
 ∃ (J0 : Int → Int → Int → (DL) → Int → Int → Bool → (DL) → Int → Int → (DL) → Int → Int → (DL) → Int → Int → Prop) (μ0 : Int → Int → Int → (DL) → Int → Int → Bool → (DL) → Int → Int → (DL) → Int → Int → (DL) → Int → Int → Nat),
 J0 p0 p1 p10 p11 p12 p13 p14 p2 p3 p4 p5 p6 p7 p8 p9 (0 : Int) ∧ ∀ (p01 p15 p101 : Int) (p111 : DL) (p121 p131 : Int) (p141 : Bool) (p21 : DL) (p31 p41 : Int) (p51 : DL) (p61 p71 : Int) (p81 : DL) (p91 n : Int), J0 p01 p15 p101 p111 p121 p131 p141 p21 p31 p41 p51 p61 p71 p81 p91 n →
 (decide (n < budget) = true →
 ((!p141) = true →
 ∃ (r0 r1 : Int) (r2 : DL) (r3 r4 : Int) (r5 : DL) (r6 r7 : Int) (r8 : DL) (r9 r10 : Int) (r11 : DL) (r12 r13 : Int) (r14 : Bool),
 (FnD prog 34 [vA [sD (dI p01), sD (dI p15), sD (dL p21), sD (dI p31), sD (dI p41), sD (dL p51), sD (dI p61), sD (dI p71), sD (dL p81), sD (dI p91), sD (dI p101), sD (dL p111), sD (dI p121), sD (dI p131), sD (dB p141)]] (vA [sD (dI r0), sD (dI r1), sD (dL r2), sD (dI r3), sD (dI r4), sD (dL r5), sD (dI r6), sD (dI r7), sD (dL r8), sD (dI r9), sD (dI r10), sD (dL r11), sD (dI r12), sD (dI r13), sD (dB r14)]) []) ∧
 (J0 r0 r1 r10 r11 r12 r13 r14 r2 r3 r4 r5 r6 r7 r8 r9 (IntKind.i64.wrap (n + (1 : Int))) ∧ μ0 r0 r1 r10 r11 r12 r13 r14 r2 r3 r4 r5 r6 r7 r8 r9 (IntKind.i64.wrap (n + (1 : Int))) < μ0 p01 p15 p101 p111 p121 p131 p141 p21 p31 p41 p51 p61 p71 p81 p91 n)) ∧
 ((!p141) = false →
 R (vA [sD (dI p01), sD (dI p15), sD (dL p21), sD (dI p31), sD (dI p41), sD (dL p51), sD (dI p61), sD (dI p71), sD (dL p81), sD (dI p91), sD (dI p101), sD (dL p111), sD (dI p121), sD (dI p131), sD (dB p141)]) [])) ∧
 (decide (n < budget) = false →
 R (vA [sD (dI p01), sD (dI p15), sD (dL p21), sD (dI p31), sD (dI p41), sD (dL p51), sD (dI p61), sD (dI p71), sD (dL p81), sD (dI p91), sD (dI p101), sD (dL p111), sD (dI p121), sD (dI p131), sD (dB p141)]) [])
theorem vc14_ok (p0 p1 : Int) (p2 : DL) (p3 p4 : Int) (p5 : DL) (p6 p7 : Int) (p8 : DL) (p9 p10 : Int) (p11 : DL) (p12 p13 : Int) (p14 : Bool) (budget : Int) {R : V → Heap → Prop} (h : vc14 p0 p1 p2 p3 p4 p5 p6 p7 p8 p9 p10 p11 p12 p13 p14 budget R) : FnG prog 14 [vA [sD (dI p0), sD (dI p1), sD (dL p2), sD (dI p3), sD (dI p4), sD (dL p5), sD (dI p6), sD (dI p7), sD (dL p8), sD (dI p9), sD (dI p10), sD (dL p11), sD (dI p12), sD (dI p13), sD (dB p14)], vD (dI budget)] [] R :=
  FnG.vcg hT func14 ntmps14 (.reg 2 [(0, Or.none, 0, 1), (1, Or.none, 1, 1)] [1, 2, 4] [0, 1] [] <| .r1 [1, 2, 4, 5] [0, 1] <| .lp [.i, .i, .i, .l, .i, .i, .b, .l, .i, .i, .l, .i, .i, .l, .i, .i] (fun p01 p15 p101 p111 p121 p131 p141 p21 p31 p41 p51 p61 p71 p81 p91 n => ⟨[(1, vD (dI budget)), (2, vP 0 0), (4, vP 1 0), (5, vD (dI n))], [some (Obj.box [sD (dI p01), sD (dI p15), sD (dL p21), sD (dI p31), sD (dI p41), sD (dL p51), sD (dI p61), sD (dI p71), sD (dL p81), sD (dI p91), sD (dI p101), sD (dL p111), sD (dI p121), sD (dI p131), sD (dB p141)]), some (Obj.box [sD (dI (0 : Int)), sD (dI (0 : Int)), sD (D.raw (.slice none 0 0)), sD (dI (0 : Int)), sD (dI (0 : Int)), sD (D.raw (.slice none 0 0)), sD (dI (0 : Int)), sD (dI (0 : Int)), sD (D.raw (.slice none 0 0)), sD (dI (0 : Int)), sD (dI (0 : Int)), sD (D.raw (.slice none 0 0)), sD (dI (0 : Int)), sD (dI (0 : Int)), sD (dB false)])], 19⟩) [.i p0, .i p1, .i p10, .l p11, .i p12, .i p13, .b p14, .l p2, .i p3, .i p4, .l p5, .i p6, .i p7, .l p8, .i p9, .i (0 : Int)] <| .fi fun p01 => .fi fun p15 => .fi fun p101 => .fl fun p111 => .fi fun p121 => .fi fun p131 => .fb fun p141 => .fl fun p21 => .fi fun p31 => .fi fun p41 => .fl fun p51 => .fi fun p61 => .fi fun p71 => .fl fun p81 => .fi fun p91 => .fi fun n => .beg <| .spl ((decide (n < budget))) (.reg 0 [(3, Or.bool true, 0, 0)] [1, 2, 4, 5, 13] [0, 1] [.old 0] <| .c2 (.ex fun r0 => .ex fun r1 => .exl fun r2 => .ex fun r3 => .ex fun r4 => .exl fun r5 => .ex fun r6 => .ex fun r7 => .exl fun r8 => .ex fun r9 => .ex fun r10 => .exl fun r11 => .ex fun r12 => .ex fun r13 => .exb fun r14 => .reg 0 [(1, Or.call (vA [sD (dI r0), sD (dI r1), sD (dL r2), sD (dI r3), sD (dI r4), sD (dL r5), sD (dI r6), sD (dI r7), sD (dL r8), sD (dI r9), sD (dI r10), sD (dL r11), sD (dI r12), sD (dI r13), sD (dB r14)]) [] [], 0, 0)] [1, 2, 4, 5] [0, 1] [] <| .r1 [1, 2, 4, 5] [0, 1] <| .bk 0 [.i r0, .i r1, .i r10, .l r11, .i r12, .i r13, .b r14, .l r2, .i r3, .i r4, .l r5, .i r6, .i r7, .l r8, .i r9, .i (IntKind.i64.wrap (n + (1 : Int)))]) (.r1 [4] [1] <| .ret [])) (.reg 0 [(3, Or.bool false, 0, 0)] [1, 2, 4, 5, 13] [0, 1] [.old 0] <| .ct false none <| .r1 [4] [1] <| .ret []))
    (by kernel_rfl) (by kernel_rfl) (by kernel_rfl) h
def vc11 (p0 p1 : Int) (p2 : DL) (p3 p4 : Int) (p5 : DL) (p6 p7 : Int) (p8 : DL) (p9 p10 : Int) (p11 : DL) (p12 p13 : Int) (p14 : Bool) (q0 q1 : Int) (q2 : DL) (q3 q4 : Int) (q5 : DL) (q6 q7 : Int) (q8 : DL) (q9 q10 : Int) (q11 : DL) (q12 q13 : Int) (q14 : Bool) (R : V → Heap → Prop) : Prop :=
 ∃ (r : Bool),
 (FnD prog 22 [vA [sD (dI p0), sD (dI p1), sD (dL p2)], vA [sD (dI q0), sD (dI q1), sD (dL q2)]] (vD (dB r)) []) ∧
 ((r = true →
 ∃ (r1 : Bool),
 (FnD prog 22 [vA [sD (dI p3), sD (dI p4), sD (dL p5)], vA [sD (dI q3), sD (dI q4), sD (dL q5)]] (vD (dB r1)) []) ∧
 ((r1 = true →
 ∃ (r2 : Bool),
 (FnD prog 22 [vA [sD (dI p6), sD (dI p7), sD (dL p8)], vA [sD (dI q6), sD (dI q7), sD (dL q8)]] (vD (dB r2)) []) ∧
 ((r2 = true →
 ∃ (r3 : Bool),
 (FnD prog 22 [vA [sD (dI p9), sD (dI p10), sD (dL p11)], vA [sD (dI q9), sD (dI q10), sD (dL q11)]] (vD (dB r3)) []) ∧
 ((r3 = true →
 ((p12 == q12) = true →
 ((p13 == q13) = true →
 R (vD (dB (p14 == q14))) []) ∧
 ((p13 == q13) = false →
 R (vD (dB false)) [])) ∧
 ((p12 == q12) = false →
 R (vD (dB false)) [])) ∧
 (r3 = false →
 R (vD (dB false)) []))) ∧
 (r2 = false →
 R (vD (dB false)) []))) ∧
 (r1 = false →
 R (vD (dB false)) []))) ∧
 (r = false →
 R (vD (dB false)) []))
theorem vc11_ok (p0 p1 : Int) (p2 : DL) (p3 p4 : Int) (p5 : DL) (p6 p7 : Int) (p8 : DL) (p9 p10 : Int) (p11 : DL) (p12 p13 : Int) (p14 : Bool) (q0 q1 : Int) (q2 : DL) (q3 q4 : Int) (q5 : DL) (q6 q7 : Int) (q8 : DL) (q9 q10 : Int) (q11 : DL) (q12 q13 : Int) (q14 : Bool) {R : V → Heap → Prop} (h : vc11 p0 p1 p2 p3 p4 p5 p6 p7 p8 p9 p10 p11 p12 p13 p14 q0 q1 q2 q3 q4 q5 q6 q7 q8 q9 q10 q11 q12 q13 q14 R) : FnG prog 11 [vA [sD (dI p0), sD (dI p1), sD (dL p2), sD (dI p3), sD (dI p4), sD (dL p5), sD (dI p6), sD (dI p7), sD (dL p8), sD (dI p9), sD (dI p10), sD (dL p11), sD (dI p12), sD (dI p13), sD (dB p14)], vA [sD (dI q0), sD (dI q1), sD (dL q2), sD (dI q3), sD (dI q4), sD (dL q5), sD (dI q6), sD (dI q7), sD (dL q8), sD (dI q9), sD (dI q10), sD (dL q11), sD (dI q12), sD (dI q13), sD (dB q14)]] [] R :=
  FnG.vcg hT func11 ntmps11 (.reg 2 [(0, Or.none, 0, 1), (1, Or.none, 1, 1)] [2, 3] [0, 1] [] <| .exb fun r => .ob (FnD prog 22 [vA [sD (dI p0), sD (dI p1), sD (dL p2)], vA [sD (dI q0), sD (dI q1), sD (dL q2)]] (vD (dB r)) []) <| .spl r (.exb fun r1 => .ob (FnD prog 22 [vA [sD (dI p3), sD (dI p4), sD (dL p5)], vA [sD (dI q3), sD (dI q4), sD (dL q5)]] (vD (dB r1)) []) <| .spl r1 (.exb fun r2 => .ob (FnD prog 22 [vA [sD (dI p6), sD (dI p7), sD (dL p8)], vA [sD (dI q6), sD (dI q7), sD (dL q8)]] (vD (dB r2)) []) <| .spl r2 (.exb fun r3 => .ob (FnD prog 22 [vA [sD (dI p9), sD (dI p10), sD (dL p11)], vA [sD (dI q9), sD (dI q10), sD (dL q11)]] (vD (dB r3)) []) <| .spl r3 (.spl ((p12 == q12)) (.spl ((p13 == q13)) (.reg 0 [(4, Or.call (vD (dB r)) [] [], 0, 0), (5, Or.bool true, 0, 0), (10, Or.call (vD (dB r1)) [] [], 0, 0), (12, Or.bool true, 0, 0), (17, Or.call (vD (dB r2)) [] [], 0, 0), (19, Or.bool true, 0, 0), (24, Or.call (vD (dB r3)) [] [], 0, 0), (26, Or.bool true, 0, 0), (33, Or.bool true, 0, 0), (40, Or.bool true, 0, 0)] [4] [] [.old 9, .old 8, .old 7, .old 6, .old 5, .old 4, .old 3, .old 2, .old 1, .old 0] <| .ret []) (.reg 0 [(4, Or.call (vD (dB r)) [] [], 0, 0), (5, Or.bool true, 0, 0), (10, Or.call (vD (dB r1)) [] [], 0, 0), (12, Or.bool true, 0, 0), (17, Or.call (vD (dB r2)) [] [], 0, 0), (19, Or.bool true, 0, 0), (24, Or.call (vD (dB r3)) [] [], 0, 0), (26, Or.bool true, 0, 0), (33, Or.bool true, 0, 0), (40, Or.bool false, 0, 0)] [4] [] [.old 9, .old 8, .old 7, .old 6, .old 5, .old 4, .old 3, .old 2, .old 1, .old 0] <| .ret [])) (.reg 0 [(4, Or.call (vD (dB r)) [] [], 0, 0), (5, Or.bool true, 0, 0), (10, Or.call (vD (dB r1)) [] [], 0, 0), (12, Or.bool true, 0, 0), (17, Or.call (vD (dB r2)) [] [], 0, 0), (19, Or.bool true, 0, 0), (24, Or.call (vD (dB r3)) [] [], 0, 0), (26, Or.bool true, 0, 0), (33, Or.bool false, 0, 0)] [4] [] [.old 8, .old 7, .old 6, .old 5, .old 4, .old 3, .old 2, .old 1, .old 0] <| .ret [])) (.reg 0 [(4, Or.call (vD (dB r)) [] [], 0, 0), (5, Or.bool true, 0, 0), (10, Or.call (vD (dB r1)) [] [], 0, 0), (12, Or.bool true, 0, 0), (17, Or.call (vD (dB r2)) [] [], 0, 0), (19, Or.bool true, 0, 0), (24, Or.call (vD (dB r3)) [] [], 0, 0), (26, Or.bool false, 0, 0)] [4] [] [.old 7, .old 6, .old 5, .old 4, .old 3, .old 2, .old 1, .old 0] <| .ret [])) (.reg 0 [(4, Or.call (vD (dB r)) [] [], 0, 0), (5, Or.bool true, 0, 0), (10, Or.call (vD (dB r1)) [] [], 0, 0), (12, Or.bool true, 0, 0), (17, Or.call (vD (dB r2)) [] [], 0, 0), (19, Or.bool false, 0, 0)] [4] [] [.old 5, .old 4, .old 3, .old 2, .old 1, .old 0] <| .ret [])) (.reg 0 [(4, Or.call (vD (dB r)) [] [], 0, 0), (5, Or.bool true, 0, 0), (10, Or.call (vD (dB r1)) [] [], 0, 0), (12, Or.bool false, 0, 0)] [4] [] [.old 3, .old 2, .old 1, .old 0] <| .ret [])) (.reg 0 [(4, Or.call (vD (dB r)) [] [], 0, 0), (5, Or.bool false, 0, 0)] [4] [] [.old 1, .old 0] <| .ret []))
    (by kernel_rfl) (by kernel_rfl) (by kernel_rfl) h
def vc15 (a0 a1 : Int) (a2 : DL) (R : V → Heap → Prop) : Prop :=
 ∃ (r0 r1 : Int) (r2 : DL) (r3 r4 : Int) (r5 : DL) (r6 r7 : Int) (r8 : DL) (r9 r10 : Int) (r11 : DL) (r12 r13 : Int) (r14 : Bool),
 (FnD prog 10 [vA [sD (dI a0), sD (dI a1), sD (dL a2)]] (vA [sD (dI r0), sD (dI r1), sD (dL r2), sD (dI r3), sD (dI r4), sD (dL r5), sD (dI r6), sD (dI r7), sD (dL r8), sD (dI r9), sD (dI r10), sD (dL r11), sD (dI r12), sD (dI r13), sD (dB r14)]) []) ∧
 (∃ (J0 : Int → Int → Int → (DL) → Int → Int → Bool → (DL) → Int → Int → (DL) → Int → Int → (DL) → Int → Int → Prop) (μ0 : Int → Int → Int → (DL) → Int → Int → Bool → (DL) → Int → Int → (DL) → Int → Int → (DL) → Int → Int → Nat),
 J0 r0 r1 r10 r11 r12 r13 r14 r2 r3 r4 r5 r6 r7 r8 r9 (0 : Int) ∧ ∀ (p0 p1 p10 : Int) (p11 : DL) (p12 p13 : Int) (p14 : Bool) (p2 : DL) (p3 p4 : Int) (p5 : DL) (p6 p7 : Int) (p8 : DL) (p9 n : Int), J0 p0 p1 p10 p11 p12 p13 p14 p2 p3 p4 p5 p6 p7 p8 p9 n →
 ((!p14) = true →
 ∃ (r01 r15 : Int) (r21 : DL) (r31 r41 : Int) (r51 : DL) (r61 r71 : Int) (r81 : DL) (r91 r101 : Int) (r111 : DL) (r121 r131 : Int) (r141 : Bool),
 (FnD prog 13 [vA [sD (dI p0), sD (dI p1), sD (dL p2), sD (dI p3), sD (dI p4), sD (dL p5), sD (dI p6), sD (dI p7), sD (dL p8), sD (dI p9), sD (dI p10), sD (dL p11), sD (dI p12), sD (dI p13), sD (dB p14)], vD (dI (1 : Int))] (vA [sD (dI r01), sD (dI r15), sD (dL r21), sD (dI r31), sD (dI r41), sD (dL r51), sD (dI r61), sD (dI r71), sD (dL r81), sD (dI r91), sD (dI r101), sD (dL r111), sD (dI r121), sD (dI r131), sD (dB r141)]) []) ∧
 (J0 r01 r15 r101 r111 r121 r131 r141 r21 r31 r41 r51 r61 r71 r81 r91 (IntKind.i64.wrap (n + (1 : Int))) ∧ μ0 r01 r15 r101 r111 r121 r131 r141 r21 r31 r41 r51 r61 r71 r81 r91 (IntKind.i64.wrap (n + (1 : Int))) < μ0 p0 p1 p10 p11 p12 p13 p14 p2 p3 p4 p5 p6 p7 p8 p9 n)) ∧
 ((!p14) = false →
 R (vD (dI n)) []))
theorem vc15_ok (a0 a1 : Int) (a2 : DL) {R : V → Heap → Prop} (h : vc15 a0 a1 a2 R) : FnG prog 15 [vA [sD (dI a0), sD (dI a1), sD (dL a2)]] [] R :=
  FnG.vcg hT func15 ntmps15 (.reg 1 [(0, Or.none, 0, 1)] [1] [0] [] <| .r1 [1, 3] [0] <| .ex fun r0 => .ex fun r1 => .exl fun r2 => .ex fun r3 => .ex fun r4 => .exl fun r5 => .ex fun r6 => .ex fun r7 => .exl fun r8 => .ex fun r9 => .ex fun r10 => .exl fun r11 => .ex fun r12 => .ex fun r13 => .exb fun r14 => .reg 1 [(1, Or.call (vA [sD (dI r0), sD (dI r1), sD (dL r2), sD (dI r3), sD (dI r4), sD (dL r5), sD (dI r6), sD (dI r7), sD (dL r8), sD (dI r9), sD (dI r10), sD (dL r11), sD (dI r12), sD (dI r13), sD (dB r14)]) [] [], 0, 0), (2, Or.none, 1, 1)] [3, 4] [1] [] <| .lp [.i, .i, .i, .l, .i, .i, .b, .l, .i, .i, .l, .i, .i, .l, .i, .i] (fun p0 p1 p10 p11 p12 p13 p14 p2 p3 p4 p5 p6 p7 p8 p9 n => ⟨[(3, vD (dI n)), (4, vP 0 0)], [some (Obj.box [sD (dI p0), sD (dI p1), sD (dL p2), sD (dI p3), sD (dI p4), sD (dL p5), sD (dI p6), sD (dI p7), sD (dL p8), sD (dI p9), sD (dI p10), sD (dL p11), sD (dI p12), sD (dI p13), sD (dB p14)])], 16⟩) [.i r0, .i r1, .i r10, .l r11, .i r12, .i r13, .b r14, .l r2, .i r3, .i r4, .l r5, .i r6, .i r7, .l r8, .i r9, .i (0 : Int)] <| .fi fun p0 => .fi fun p1 => .fi fun p10 => .fl fun p11 => .fi fun p12 => .fi fun p13 => .fb fun p14 => .fl fun p2 => .fi fun p3 => .fi fun p4 => .fl fun p5 => .fi fun p6 => .fi fun p7 => .fl fun p8 => .fi fun p9 => .fi fun n => .beg <| .r1 [3, 4, 9] [0] <| .c2 (.ex fun r01 => .ex fun r15 => .exl fun r21 => .ex fun r31 => .ex fun r41 => .exl fun r51 => .ex fun r61 => .ex fun r71 => .exl fun r81 => .ex fun r91 => .ex fun r101 => .exl fun r111 => .ex fun r121 => .ex fun r131 => .exb fun r141 => .reg 0 [(1, Or.call (vA [sD (dI r01), sD (dI r15), sD (dL r21), sD (dI r31), sD (dI r41), sD (dL r51), sD (dI r61), sD (dI r71), sD (dL r81), sD (dI r91), sD (dI r101), sD (dL r111), sD (dI r121), sD (dI r131), sD (dB r141)]) [] [], 0, 0)] [3, 4] [0] [] <| .r0 [3, 14] <| .reg 1 [(0, Or.none, 0, 1)] [3, 4] [0] [] <| .r1 [3, 4] [0] <| .bk 0 [.i r01, .i r15, .i r101, .l r111, .i r121, .i r131, .b r141, .l r21, .i r31, .i r41, .l r51, .i r61, .i r71, .l r81, .i r91, .i (IntKind.i64.wrap (n + (1 : Int)))]) (.r0 [2] <| .ret []))
    (by kernel_rfl) (by kernel_rfl) (by kernel_rfl) h
def vc20 (p0 p1 : Int) (p2 : DL) (p3 p4 : Int) (p5 : DL) (p6 p7 : Int) (p8 : DL) (p9 p10 : Int) (p11 : DL) (p12 p13 : Int) (p14 : Bool) (R : V → Heap → Prop) : Prop :=
 ∃ (r : Bool),
 (FnD prog 29 [vA [sD (dI p0), sD (dI p1), sD (dL p2), sD (dI p3), sD (dI p4), sD (dL p5), sD (dI p6), sD (dI p7), sD (dL p8), sD (dI p9), sD (dI p10), sD (dL p11), sD (dI p12), sD (dI p13), sD (dB p14)]] (vD (dB r)) []) ∧
 (((!r) = true →
 R (V.tup [E.agg [sD (dI (0 : Int)), sD (dI (0 : Int)), sD (dL ([] : DL)), sD (dI (0 : Int)), sD (dI (0 : Int)), sD (dL ([] : DL)), sD (dI (0 : Int)), sD (dI (0 : Int)), sD (dL ([] : DL))], eD (dI (210 : Int))]) []) ∧
 ((!r) = false →
 R (V.tup [E.agg [sD (dI p3), sD (dI p4), sD (dL p5), sD (dI p6), sD (dI p7), sD (dL p8), sD (dI p9), sD (dI p10), sD (dL p11)], eD (dI (0 : Int))]) []))
theorem vc20_ok (p0 p1 : Int) (p2 : DL) (p3 p4 : Int) (p5 : DL) (p6 p7 : Int) (p8 : DL) (p9 p10 : Int) (p11 : DL) (p12 p13 : Int) (p14 : Bool) {R : V → Heap → Prop} (h : vc20 p0 p1 p2 p3 p4 p5 p6 p7 p8 p9 p10 p11 p12 p13 p14 R) : FnG prog 20 [vA [sD (dI p0), sD (dI p1), sD (dL p2), sD (dI p3), sD (dI p4), sD (dL p5), sD (dI p6), sD (dI p7), sD (dL p8), sD (dI p9), sD (dI p10), sD (dL p11), sD (dI p12), sD (dI p13), sD (dB p14)]] [] R :=
  FnG.vcg hT func20 ntmps20 (.reg 2 [(0, Or.none, 0, 1), (1, Or.none, 1, 1)] [1, 2] [0, 1] [] <| .exb fun r => .reg 0 [(1, Or.call (vD (dB r)) [] [], 0, 0)] [1, 2, 6] [0, 1] [] <| .c2 (.r1 [2, 3] [1] <| .nrm [2, 3] [0] <| .ret []) (.r1 [2, 3] [1] <| .ret []))
    (by kernel_rfl) (by kernel_rfl) (by kernel_rfl) h
end Go.AM
/- What functions of the program come to: group Sd. Printed by vc.py. -/
set_option maxRecDepth 100000
set_option linter.unusedVariables false
namespace Go.AM
open Go.Proofs.Tryz
def vc38 (a0 a1 : Int) (a2 : DL) (rows cols : Int) (R : V → Heap → Prop) : Prop :=
 ∃ (J0 : (DL) → Int → Prop) (μ0 : (DL) → Int → Nat),
 J0 ([] : DL) (0 : Int) ∧ ∀ (o3 : DL) (i : Int), J0 o3 i →
 (decide (i < rows) = true →
 ∃ (vx : DL),
 (0 ≤ i ∧ i < (a2.length : Int)) ∧
 (a2[(i).toNat]? = some [dL vx]) ∧
 (0 ≤ cols ∧ cols ≤ (vx.length : Int)) ∧
 ((o3.length + ([[dL (vx.take (cols).toNat)]] : DL).length) * 24 ≤ 140737488355328) ∧
 (J0 (o3 ++ [[dL (vx.take (cols).toNat)]]) (IntKind.i64.wrap (i + (1 : Int))) ∧ μ0 (o3 ++ [[dL (vx.take (cols).toNat)]]) (IntKind.i64.wrap (i + (1 : Int))) < μ0 o3 i)) ∧
 (decide (i < rows) = false →
 R (vA [sD (dI rows), sD (dI cols), sD (dL o3)]) [])
theorem vc38_ok (a0 a1 : Int) (a2 : DL) (rows cols : Int) {R : V → Heap → Prop} (h : vc38 a0 a1 a2 rows cols R) : FnG prog 38 [vA [sD (dI a0), sD (dI a1), sD (dL a2)], vD (dI rows), vD (dI cols)] [] R :=
  FnG.vcg hT func38 ntmps38 (.reg 2 [(0, Or.none, 0, 1), (1, Or.none, 1, 1)] [1, 2, 3, 6] [0, 1] [] <| .reg 1 [(3, Or.none, 2, 1)] [1, 2, 3, 6, 7] [0, 1, 2] [] <| .r1 [1, 2, 3, 6, 7, 8] [0, 1, 2] <| .ado [] [2] 1 <| .lp [.l, .i] (fun o3 i => ⟨[(1, vD (dI rows)), (2, vD (dI cols)), (3, vP 0 0), (6, vP 1 0), (7, vP 2 0), (8, vD (dI i))], [some (Obj.box [sD (dI a0), sD (dI a1), sD (dL a2)]), some (Obj.box [sD (dI (0 : Int)), sD (dI (0 : Int)), sD (D.raw (.slice none 0 0))]), some (Obj.box [sD (dI rows), sD (dI cols), S.ref 3]), some (Obj.arr 1 o3)], 30⟩) [.l ([] : DL), .i (0 : Int)] <| .fl fun o3 => .fi fun i => .beg <| .r1 [1, 2, 3, 6, 7, 8, 14] [0, 1, 2, 3] <| .c2 (.exl fun vx => .drw 2 [(6, (Or.cells [dL vx], 0, 0), []), (9, (Or.none, 4, 1), [4]), (10, (Or.none, 5, 1), [3, 5]), (12, (Or.none, 0, 0), [2])] [1, 2, 3, 6, 7, 8] [0, 1, 2, 5] [] <| .r1 [1, 2, 3, 6, 7, 8] [0, 1, 2, 3] <| .bk 0 [.l (o3 ++ [[dL (vx.take (cols).toNat)]]), .i (IntKind.i64.wrap (i + (1 : Int)))]) (.r1 [6] [1, 3] <| .frz [1] <| .ret []))
    (by kernel_rfl) (by kernel_rfl) (by kernel_rfl) h
def vc39 (h0 h1 : Int) (h2 : DL) (R : V → Heap → Prop) : Prop :=
 ∃ (r : Bool),
 (FnD prog 35 [vA [sD (dI h0), sD (dI h1), sD (dL h2)]] (vD (dB r)) []) ∧
 (((!r) = true →
 R (vD (dB false)) []) ∧
 ((!r) = false →
 ∃ (J0 : Int → Int → Prop) (μ0 : Int → Int → Nat),
 J0 (-1 : Int) (0 : Int) ∧ ∀ (last i : Int), J0 last i →
 (decide (i < h0) = true →
 ∃ (vx : DL) (r1 : Int),
 (0 ≤ i ∧ i < (h2.length : Int)) ∧
 (h2[(i).toNat]? = some [dL vx]) ∧
 (FnD prog 73 [vD (dL vx)] (vD (dI r1)) []) ∧
 ((decide (r1 < (0 : Int)) = true →
 J0 h1 (IntKind.i64.wrap (i + (1 : Int))) ∧ μ0 h1 (IntKind.i64.wrap (i + (1 : Int))) < μ0 last i) ∧
 (decide (r1 < (0 : Int)) = false →
 (decide (r1 ≤ last) = true →
 R (vD (dB false)) []) ∧
 (decide (r1 ≤ last) = false →
 ∃ (x0 : Bool) (x1 : DL) (r2 : Int),
 (0 ≤ r1 ∧ r1 < (vx.length : Int)) ∧
 (vx[(r1).toNat]? = some [dB x0, dL x1]) ∧
 (FnD prog 41 [vA [sD (dB x0), sD (dL x1)]] (vD (dI r2)) []) ∧
 ((decide (r2 ≤ (0 : Int)) = true →
 R (vD (dB false)) []) ∧
 (decide (r2 ≤ (0 : Int)) = false →
 ∃ (J1 : Int → Prop) (μ1 : Int → Nat),
 J1 (0 : Int) ∧ ∀ (k : Int), J1 k →
 (decide (k < i) = true →
 ∃ (vx1 : DL) (x01 : Bool) (x11 : DL) (r3 : Int),
 (0 ≤ k ∧ k < (h2.length : Int)) ∧
 (h2[(k).toNat]? = some [dL vx1]) ∧
 (0 ≤ r1 ∧ r1 < (vx1.length : Int)) ∧
 (vx1[(r1).toNat]? = some [dB x01, dL x11]) ∧
 (FnD prog 41 [vA [sD (dB x01), sD (dL x11)]] (vD (dI r3)) []) ∧
 ((decide (r3 < (0 : Int)) = true →
 R (vD (dB false)) []) ∧
 (decide (r3 < (0 : Int)) = false →
 ∃ (r4 : Int),
 (FnD prog 74 [vA [sD (dB x01), sD (dL x11)], vA [sD (dB x0), sD (dL x1)]] (vD (dI r4)) []) ∧
 ((decide (r4 ≥ (0 : Int)) = true →
 R (vD (dB false)) []) ∧
 (decide (r4 ≥ (0 : Int)) = false →
 J1 (IntKind.i64.wrap (k + (1 : Int))) ∧ μ1 (IntKind.i64.wrap (k + (1 : Int))) < μ1 k))))) ∧
 (decide (k < i) = false →
 J0 r1 (IntKind.i64.wrap (i + (1 : Int))) ∧ μ0 r1 (IntKind.i64.wrap (i + (1 : Int))) < μ0 last i))))))) ∧
 (decide (i < h0) = false →
 R (vD (dB true)) [])))
theorem vc39_ok (h0 h1 : Int) (h2 : DL) {R : V → Heap → Prop} (h : vc39 h0 h1 h2 R) : FnG prog 39 [vA [sD (dI h0), sD (dI h1), sD (dL h2)]] [] R :=
  FnG.vcg hT func39 ntmps39 (.reg 1 [(0, Or.none, 0, 1)] [1] [0] [] <| .exb fun r => .reg 0 [(1, Or.call (vD (dB r)) [] [], 0, 0)] [1, 3] [0] [] <| .r1 [1, 11] [0] <| .c2 (.r0 [2] <| .ret []) (.r1 [1, 4] [0] <| .r1 [1, 4, 5] [0] <| .lp [.i, .i] (fun last i => ⟨[(1, vP 0 0), (4, vD (dI last)), (5, vD (dI i))], [some (Obj.box [sD (dI h0), sD (dI h1), sD (dL h2)])], 79⟩) [.i (-1 : Int), .i (0 : Int)] <| .fi fun last => .fi fun i => .beg <| .r1 [1, 4, 5, 15] [0] <| .c2 (.exl fun vx => .ex fun r1 => .reg 0 [(4, Or.cells [dL vx], 0, 0), (5, Or.call (vD (dI r1)) [] [], 0, 0)] [1, 4, 5, 6] [0] [] <| .r1 [1, 4, 5, 6, 25] [0] <| .c2 (.r1 [1, 4, 5] [0] <| .r1 [1, 4, 5] [0] <| .bk 0 [.i h1, .i (IntKind.i64.wrap (i + (1 : Int)))]) (.spl ((decide (r1 ≤ last))) (.reg 0 [(3, Or.bool true, 0, 0)] [1, 5, 6, 42] [0] [.old 0] <| .ct true none <| .r0 [2] <| .ret []) (.exb fun x0 => .exl fun x1 => .ex fun r2 => .reg 0 [(3, Or.bool false, 0, 0), (8, Or.cells [dL vx], 0, 0), (11, Or.cells [dB x0, dL x1], 0, 0), (12, Or.call (vD (dI r2)) [] [], 0, 0)] [1, 5, 6, 42] [0] [.old 0, .old 4, .old 3] <| .c2 (.r0 [2] <| .ret []) (.r1 [1, 5, 6, 7] [0] <| .lp [.i] (fun k => ⟨[(1, vP 0 0), (5, vD (dI i)), (6, vD (dI r1)), (7, vD (dI k))], [some (Obj.box [sD (dI h0), sD (dI h1), sD (dL h2)])], 79⟩) [.i (0 : Int)] <| .fi fun k => .beg <| .r1 [1, 5, 6, 7, 45] [0] <| .c2 (.exl fun vx1 => .exb fun x01 => .exl fun x11 => .ex fun r3 => .ob (0 ≤ k ∧ k < (h2.length : Int)) <| .ob (h2[(k).toNat]? = some [dL vx1]) <| .ob (0 ≤ r1 ∧ r1 < (vx1.length : Int)) <| .ob (vx1[(r1).toNat]? = some [dB x01, dL x11]) <| .ob (FnD prog 41 [vA [sD (dB x01), sD (dL x11)]] (vD (dI r3)) []) <| .spl ((decide (r3 < (0 : Int)))) (.drw 0 [(4, (Or.cells [dL vx1], 0, 0), []), (7, (Or.cells [dB x01, dL x11], 0, 0), []), (8, (Or.call (vD (dI r3)) [] [], 0, 0), []), (10, (Or.bool true, 0, 0), [])] [1, 5, 6, 7, 77] [0] [.old 5, .old 4, .old 3, .old 2, .old 1, .old 0] <| .ct true none <| .r0 [2] <| .ret []) (.ex fun r4 => .drw 0 [(4, (Or.cells [dL vx1], 0, 0), []), (7, (Or.cells [dB x01, dL x11], 0, 0), []), (8, (Or.call (vD (dI r3)) [] [], 0, 0), []), (10, (Or.bool false, 0, 0), []), (15, (Or.cells [dL vx1], 0, 0), []), (18, (Or.cells [dB x01, dL x11], 0, 0), []), (23, (Or.cells [dL vx], 0, 0), []), (26, (Or.cells [dB x0, dL x1], 0, 0), []), (27, (Or.call (vD (dI r4)) [] [], 0, 0), [])] [1, 5, 6, 7, 77] [0] [.old 5, .old 4, .old 3, .old 2, .old 1, .old 0, .old 5, .old 4, .old 3, .old 2, .old 15, .old 14, .old 10, .old 9] <| .c2 (.r0 [2] <| .ret []) (.r1 [1, 5, 6, 7] [0] <| .bk 0 [.i (IntKind.i64.wrap (k + (1 : Int)))]))) (.r1 [1, 4, 5] [0] <| .r1 [1, 4, 5] [0] <| .bk 1 [.i r1, .i (IntKind.i64.wrap (i + (1 : Int)))]))))) (.r0 [2] <| .ret [])))
    (by kernel_rfl) (by kernel_rfl) (by kernel_rfl) h
def vc73 (v : DL) (R : V → Heap → Prop) : Prop :=
 ∃ (J0 : Int → Prop) (μ0 : Int → Nat),
 J0 (0 : Int) ∧ ∀ (c : Int), J0 c →
 (decide (c < (v.length : Int)) = true →
 ∃ (x0 : Bool) (x1 : DL) (r : Int),
 (0 ≤ c ∧ c < (v.length : Int)) ∧
 (v[(c).toNat]? = some [dB x0, dL x1]) ∧
 (FnD prog 41 [vA [sD (dB x0), sD (dL x1)]] (vD (dI r)) []) ∧
 (((r != (0 : Int)) = true →
 R (vD (dI c)) []) ∧
 ((r != (0 : Int)) = false →
 J0 (IntKind.i64.wrap (c + (1 : Int))) ∧ μ0 (IntKind.i64.wrap (c + (1 : Int))) < μ0 c))) ∧
 (decide (c < (v.length : Int)) = false →
 R (vD (dI (-1 : Int))) [])
theorem vc73_ok (v : DL) {R : V → Heap → Prop} (h : vc73 v R) : FnG prog 73 [vD (dL v)] [] R :=
  FnG.vcg hT func73 ntmps73 (.r0 [0] <| .r0 [0, 3] <| .lp [.i] (fun c => ⟨[(0, vD (dL v)), (3, vD (dI c))], [], 17⟩) [.i (0 : Int)] <| .fi fun c => .beg <| .r0 [0, 3, 7] <| .c2 (.exb fun x0 => .exl fun x1 => .ex fun r => .reg 0 [(3, Or.cells [dB x0, dL x1], 0, 0), (4, Or.call (vD (dI r)) [] [], 0, 0)] [0, 3, 15] [] [] <| .c2 (.r0 [2] <| .ret []) (.r0 [0, 3] <| .bk 0 [.i (IntKind.i64.wrap (c + (1 : Int)))])) (.r0 [2] <| .ret []))
    (by kernel_rfl) (by kernel_rfl) (by kernel_rfl) h
def vc74 (a0 : Bool) (a1 : DL) (b0 : Bool) (b1 : DL) (R : V → Heap → Prop) : Prop :=
 ∃ (r0 : Bool) (r1 : DL) (r : Int),
 (FnD prog 90 [vA [sD (dB a0), sD (dL a1)], vA [sD (dB b0), sD (dL b1)]] (vA [sD (dB r0), sD (dL r1)]) []) ∧
 (FnD prog 41 [vA [sD (dB r0), sD (dL r1)]] (vD (dI r)) []) ∧
 (R (vD (dI r)) [])
theorem vc74_ok (a0 : Bool) (a1 : DL) (b0 : Bool) (b1 : DL) {R : V → Heap → Prop} (h : vc74 a0 a1 b0 b1 R) : FnG prog 74 [vA [sD (dB a0), sD (dL a1)], vA [sD (dB b0), sD (dL b1)]] [] R :=
  FnG.vcg hT func74 ntmps74 (.reg 2 [(0, Or.none, 0, 1), (1, Or.none, 1, 1)] [2, 3] [0, 1] [] <| .exb fun r0 => .exl fun r1 => .ex fun r => .reg 0 [(2, Or.call (vA [sD (dB r0), sD (dL r1)]) [] [], 0, 0), (3, Or.call (vD (dI r)) [] [], 0, 0)] [4] [] [] <| .ret [])
    (by kernel_rfl) (by kernel_rfl) (by kernel_rfl) h
def vc40 (h0 h1 : Int) (h2 : DL) (R : V → Heap → Prop) : Prop :=
 ∃ (J0 : Int → Int → Prop) (μ0 : Int → Int → Nat),
 J0 (0 : Int) (0 : Int) ∧ ∀ (n i : Int), J0 n i →
 (decide (i < h0) = true →
 ∃ (vx : DL) (r : Int),
 (0 ≤ i ∧ i < (h2.length : Int)) ∧
 (h2[(i).toNat]? = some [dL vx]) ∧
 (FnD prog 73 [vD (dL vx)] (vD (dI r)) []) ∧
 ((decide (r ≥ (0 : Int)) = true →
 J0 (IntKind.i64.wrap (n + (1 : Int))) (IntKind.i64.wrap (i + (1 : Int))) ∧ μ0 (IntKind.i64.wrap (n + (1 : Int))) (IntKind.i64.wrap (i + (1 : Int))) < μ0 n i) ∧
 (decide (r ≥ (0 : Int)) = false →
 J0 n (IntKind.i64.wrap (i + (1 : Int))) ∧ μ0 n (IntKind.i64.wrap (i + (1 : Int))) < μ0 n i))) ∧
 (decide (i < h0) = false →
 R (vD (dI n)) [])
theorem vc40_ok (h0 h1 : Int) (h2 : DL) {R : V → Heap → Prop} (h : vc40 h0 h1 h2 R) : FnG prog 40 [vA [sD (dI h0), sD (dI h1), sD (dL h2)]] [] R :=
  FnG.vcg hT func40 ntmps40 (.reg 1 [(0, Or.none, 0, 1)] [1] [0] [] <| .r1 [1, 3] [0] <| .r1 [1, 3, 4] [0] <| .lp [.i, .i] (fun n i => ⟨[(1, vP 0 0), (3, vD (dI n)), (4, vD (dI i))], [some (Obj.box [sD (dI h0), sD (dI h1), sD (dL h2)])], 21⟩) [.i (0 : Int), .i (0 : Int)] <| .fi fun n => .fi fun i => .beg <| .r1 [1, 3, 4, 8] [0] <| .c2 (.exl fun vx => .ex fun r => .reg 0 [(4, Or.cells [dL vx], 0, 0), (5, Or.call (vD (dI r)) [] [], 0, 0)] [1, 3, 4, 17] [0] [] <| .c2 (.r1 [1, 3, 4] [0] <| .r1 [1, 3, 4] [0] <| .bk 0 [.i (IntKind.i64.wrap (n + (1 : Int))), .i (IntKind.i64.wrap (i + (1 : Int)))]) (.r1 [1, 3, 4] [0] <| .bk 0 [.i n, .i (IntKind.i64.wrap (i + (1 : Int)))])) (.r0 [2] <| .ret []))
    (by kernel_rfl) (by kernel_rfl) (by kernel_rfl) h
def vc100 (a0 : Bool) (a1 : DL) (R : V → Heap → Prop) : Prop :=
 ∃ (r0 : Bool) (r1 : DL),
 (FnD prog 56 [vD (dL a1), vD (dB false)] (vA [sD (dB r0), sD (dL r1)]) []) ∧
 (R (vA [sD (dB r0), sD (dL r1)]) [])
theorem vc100_ok (a0 : Bool) (a1 : DL) {R : V → Heap → Prop} (h : vc100 a0 a1 R) : FnG prog 100 [vA [sD (dB a0), sD (dL a1)]] [] R :=
  FnG.vcg hT func100 ntmps100 (.reg 2 [(0, Or.none, 0, 1), (1, Or.none, 1, 1)] [1, 2] [0, 1] [] <| .exb fun r0 => .exl fun r1 => .reg 0 [(2, Or.call (vA [sD (dB r0), sD (dL r1)]) [] [], 0, 0)] [2] [1] [] <| .ret [])
    (by kernel_rfl) (by kernel_rfl) (by kernel_rfl) h
def vc17 (p0 p1 : Int) (p2 : DL) (p3 p4 : Int) (p5 : DL) (p6 p7 : Int) (p8 : DL) (p9 p10 : Int) (p11 : DL) (p12 p13 : Int) (p14 : Bool) (R : V → Heap → Prop) : Prop :=
 ∃ (r : Bool),
 (FnD prog 35 [vA [sD (dI p0), sD (dI p1), sD (dL p2)]] (vD (dB r)) []) ∧
 (((!r) = true →
 R (vD (dB false)) []) ∧
 ((!r) = false →
 ∃ (r1 : Bool),
 (FnD prog 36 [vA [sD (dI p3), sD (dI p4), sD (dL p5)], vD (dI p0), vD (dI p1)] (vD (dB r1)) []) ∧
 (∃ (r2 : Bool),
 (FnD prog 36 [vA [sD (dI p6), sD (dI p7), sD (dL p8)], vD (dI p0), vD (dI p0)] (vD (dB r2)) []) ∧
 (∃ (r3 : Bool),
 (FnD prog 36 [vA [sD (dI p9), sD (dI p10), sD (dL p11)], vD (dI p0), vD (dI p0)] (vD (dB r3)) []) ∧
 (((!r1) = true →
 R (vD (dB false)) []) ∧
 ((!r1) = false →
 ((!r2) = true →
 R (vD (dB false)) []) ∧
 ((!r2) = false →
 ((!r3) = true →
 R (vD (dB false)) []) ∧
 ((!r3) = false →
 (decide (p12 < (0 : Int)) = true →
 R (vD (dB false)) []) ∧
 (decide (p12 < (0 : Int)) = false →
 (decide (p12 > p0) = true →
 R (vD (dB false)) []) ∧
 (decide (p12 > p0) = false →
 (decide (p13 < p12) = true →
 R (vD (dB false)) []) ∧
 (decide (p13 < p12) = false →
 (decide (p13 > p1) = true →
 R (vD (dB false)) []) ∧
 (decide (p13 > p1) = false →
 ∃ (r4 : Bool),
 (FnD prog 31 [vA [sD (dI p0), sD (dI p1), sD (dL p2), sD (dI p3), sD (dI p4), sD (dL p5), sD (dI p6), sD (dI p7), sD (dL p8), sD (dI p9), sD (dI p10), sD (dL p11), sD (dI p12), sD (dI p13), sD (dB p14)]] (vD (dB r4)) []) ∧
 (((!(p14 == r4)) = true →
 R (vD (dB false)) []) ∧
 ((!(p14 == r4)) = false →
 ∃ (r0 r11 : Int) (r21 : DL) (r5 : Bool),
 (FnD prog 37 [vA [sD (dI p6), sD (dI p7), sD (dL p8)], vA [sD (dI p0), sD (dI p1), sD (dL p2)]] (vA [sD (dI r0), sD (dI r11), sD (dL r21)]) []) ∧
 (FnD prog 22 [vA [sD (dI r0), sD (dI r11), sD (dL r21)], vA [sD (dI p3), sD (dI p4), sD (dL p5)]] (vD (dB r5)) []) ∧
 (((!r5) = true →
 R (vD (dB false)) []) ∧
 ((!r5) = false →
 ∃ (r01 r12 : Int) (r22 : DL) (r02 r13 : Int) (r23 : DL) (r6 : Bool),
 (FnD prog 37 [vA [sD (dI p6), sD (dI p7), sD (dL p8)], vA [sD (dI p9), sD (dI p10), sD (dL p11)]] (vA [sD (dI r01), sD (dI r12), sD (dL r22)]) []) ∧
 (FnD prog 30 [vD (dI p0)] (vA [sD (dI r02), sD (dI r13), sD (dL r23)]) []) ∧
 (FnD prog 22 [vA [sD (dI r01), sD (dI r12), sD (dL r22)], vA [sD (dI r02), sD (dI r13), sD (dL r23)]] (vD (dB r6)) []) ∧
 (((!r6) = true →
 R (vD (dB false)) []) ∧
 ((!r6) = false →
 ∃ (r03 r14 : Int) (r24 : DL),
 (FnD prog 38 [vA [sD (dI p3), sD (dI p4), sD (dL p5)], vD (dI p12), vD (dI p13)] (vA [sD (dI r03), sD (dI r14), sD (dL r24)]) []) ∧
 (∃ (r7 : Bool),
 (FnD prog 39 [vA [sD (dI r03), sD (dI r14), sD (dL r24)]] (vD (dB r7)) []) ∧
 (((!r7) = true →
 R (vD (dB false)) []) ∧
 ((!r7) = false →
 ∃ (r8 : Int),
 (FnD prog 40 [vA [sD (dI r03), sD (dI r14), sD (dL r24)]] (vD (dI r8)) []) ∧
 (((r8 != p12) = true →
 R (vD (dB false)) []) ∧
 ((r8 != p12) = false →
 ∃ (J0 : Int → Prop) (μ0 : Int → Nat),
 J0 p12 ∧ ∀ (i : Int), J0 i →
 (decide (i < p0) = true →
 ∃ (J1 : Int → Prop) (μ1 : Int → Nat),
 J1 (0 : Int) ∧ ∀ (c : Int), J1 c →
 (decide (c < p13) = true →
 ∃ (vx : DL) (x0 : Bool) (x1 : DL) (r9 : Int),
 (0 ≤ i ∧ i < (p5.length : Int)) ∧
 (p5[(i).toNat]? = some [dL vx]) ∧
 (0 ≤ c ∧ c < (vx.length : Int)) ∧
 (vx[(c).toNat]? = some [dB x0, dL x1]) ∧
 (FnD prog 41 [vA [sD (dB x0), sD (dL x1)]] (vD (dI r9)) []) ∧
 (((r9 != (0 : Int)) = true →
 R (vD (dB false)) []) ∧
 ((r9 != (0 : Int)) = false →
 J1 (IntKind.i64.wrap (c + (1 : Int))) ∧ μ1 (IntKind.i64.wrap (c + (1 : Int))) < μ1 c))) ∧
 (decide (c < p13) = false →
 J0 (IntKind.i64.wrap (i + (1 : Int))) ∧ μ0 (IntKind.i64.wrap (i + (1 : Int))) < μ0 i)) ∧
 (decide (i < p0) = false →
 R (vD (dB true)) []))))))))))))))))))))))))
theorem vc17_ok (p0 p1 : Int) (p2 : DL) (p3 p4 : Int) (p5 : DL) (p6 p7 : Int) (p8 : DL) (p9 p10 : Int) (p11 : DL) (p12 p13 : Int) (p14 : Bool) {R : V → Heap → Prop} (h : vc17 p0 p1 p2 p3 p4 p5 p6 p7 p8 p9 p10 p11 p12 p13 p14 R) : FnG prog 17 [vA [sD (dI p0), sD (dI p1), sD (dL p2), sD (dI p3), sD (dI p4), sD (dL p5), sD (dI p6), sD (dI p7), sD (dL p8), sD (dI p9), sD (dI p10), sD (dL p11), sD (dI p12), sD (dI p13), sD (dB p14)]] [] R :=
  FnG.vcg hT func17 ntmps17 (.reg 1 [(0, Or.none, 0, 1)] [1] [0] [] <| .exb fun r => .reg 0 [(2, Or.call (vD (dB r)) [] [], 0, 0)] [1, 3] [0] [] <| .r1 [1, 16] [0] <| .c2 (.r0 [2] <| .ret []) (.r1 [1, 4] [0] <| .exb fun r1 => .reg 0 [(6, Or.call (vD (dB r1)) [] [], 0, 0)] [1, 4, 5] [0] [] <| .exb fun r2 => .reg 0 [(4, Or.call (vD (dB r2)) [] [], 0, 0)] [1, 4, 5, 6] [0] [] <| .exb fun r3 => .reg 0 [(4, Or.call (vD (dB r3)) [] [], 0, 0)] [1, 4, 5, 6, 7] [0] [] <| .spl ((!r1)) (.drw 0 [(2, (Or.bool true, 0, 0), [])] [1, 4, 79] [0] [.old 0] <| .ct true none <| .r0 [2] <| .ret []) (.spl ((!r2)) (.drw 0 [(2, (Or.bool false, 0, 0), []), (6, (Or.bool true, 0, 0), [])] [1, 4, 79] [0] [.old 1, .old 0] <| .ct true none <| .r0 [2] <| .ret []) (.spl ((!r3)) (.drw 0 [(2, (Or.bool false, 0, 0), []), (6, (Or.bool false, 0, 0), []), (10, (Or.bool true, 0, 0), [])] [1, 4, 79] [0] [.old 2, .old 1, .old 0] <| .ct true none <| .r0 [2] <| .ret []) (.spl ((decide (p12 < (0 : Int)))) (.drw 0 [(2, (Or.bool false, 0, 0), []), (6, (Or.bool false, 0, 0), []), (10, (Or.bool false, 0, 0), []), (15, (Or.bool true, 0, 0), [])] [1, 4, 79] [0] [.old 3, .old 2, .old 1, .old 0] <| .ct true none <| .r0 [2] <| .ret []) (.spl ((decide (p12 > p0))) (.drw 0 [(2, (Or.bool false, 0, 0), []), (6, (Or.bool false, 0, 0), []), (10, (Or.bool false, 0, 0), []), (15, (Or.bool false, 0, 0), []), (21, (Or.bool true, 0, 0), [])] [1, 4, 79] [0] [.old 4, .old 3, .old 2, .old 1, .old 0] <| .ct true none <| .r0 [2] <| .ret []) (.spl ((decide (p13 < p12))) (.drw 0 [(2, (Or.bool false, 0, 0), []), (6, (Or.bool false, 0, 0), []), (10, (Or.bool false, 0, 0), []), (15, (Or.bool false, 0, 0), []), (21, (Or.bool false, 0, 0), []), (28, (Or.bool true, 0, 0), [])] [1, 4, 79] [0] [.old 5, .old 4, .old 3, .old 2, .old 1, .old 0] <| .ct true none <| .r0 [2] <| .ret []) (.spl ((decide (p13 > p1))) (.drw 0 [(2, (Or.bool false, 0, 0), []), (6, (Or.bool false, 0, 0), []), (10, (Or.bool false, 0, 0), []), (15, (Or.bool false, 0, 0), []), (21, (Or.bool false, 0, 0), []), (28, (Or.bool false, 0, 0), []), (36, (Or.bool true, 0, 0), [])] [1, 4, 79] [0] [.old 6, .old 5, .old 4, .old 3, .old 2, .old 1, .old 0] <| .ct true none <| .r0 [2] <| .ret []) (.exb fun r4 => .drw 0 [(2, (Or.bool false, 0, 0), []), (6, (Or.bool false, 0, 0), []), (10, (Or.bool false, 0, 0), []), (15, (Or.bool false, 0, 0), []), (21, (Or.bool false, 0, 0), []), (28, (Or.bool false, 0, 0), []), (36, (Or.bool false, 0, 0), []), (40, (Or.call (vD (dB r4)) [] [], 0, 0), [])] [1, 4, 79] [0] [.old 6, .old 5, .old 4, .old 3, .old 2, .old 1, .old 0] <| .c2 (.r0 [2] <| .ret []) (.ex fun r0 => .ex fun r11 => .exl fun r21 => .exb fun r5 => .ob (FnD prog 37 [vA [sD (dI p6), sD (dI p7), sD (dL p8)], vA [sD (dI p0), sD (dI p1), sD (dL p2)]] (vA [sD (dI r0), sD (dI r11), sD (dL r21)]) []) <| .ob (FnD prog 22 [vA [sD (dI r0), sD (dI r11), sD (dL r21)], vA [sD (dI p3), sD (dI p4), sD (dL p5)]] (vD (dB r5)) []) <| .spl ((!r5)) (.drw 0 [(4, (Or.call (vA [sD (dI r0), sD (dI r11), sD (dL r21)]) [] [], 0, 0), []), (7, (Or.call (vD (dB r5)) [] [], 0, 0), []), (9, (Or.bool true, 0, 0), [])] [1, 4, 99] [0] [.old 2, .old 1, .old 0] <| .ct true none <| .r0 [2] <| .ret []) (.ex fun r01 => .ex fun r12 => .exl fun r22 => .ex fun r02 => .ex fun r13 => .exl fun r23 => .exb fun r6 => .drw 0 [(4, (Or.call (vA [sD (dI r0), sD (dI r11), sD (dL r21)]) [] [], 0, 0), []), (7, (Or.call (vD (dB r5)) [] [], 0, 0), []), (9, (Or.bool false, 0, 0), []), (14, (Or.call (vA [sD (dI r01), sD (dI r12), sD (dL r22)]) [] [], 0, 0), []), (16, (Or.call (vA [sD (dI r02), sD (dI r13), sD (dL r23)]) [] [], 0, 0), []), (17, (Or.call (vD (dB r6)) [] [], 0, 0), [])] [1, 4, 99] [0] [.old 2, .old 1, .old 0] <| .c2 (.r0 [2] <| .ret []) (.ex fun r03 => .ex fun r14 => .exl fun r24 => .reg 1 [(6, Or.call (vA [sD (dI r03), sD (dI r14), sD (dL r24)]) [] [], 0, 0), (7, Or.none, 1, 1)] [1, 4, 8] [0, 1] [] <| .exb fun r7 => .reg 0 [(1, Or.call (vD (dB r7)) [] [], 0, 0)] [1, 4, 8, 9] [0, 1] [] <| .spl ((!r7)) (.drw 0 [(2, (Or.bool true, 0, 0), [])] [1, 4, 117] [0] [.old 0] <| .ct true none <| .r0 [2] <| .ret []) (.ex fun r8 => .drw 0 [(2, (Or.bool false, 0, 0), []), (4, (Or.call (vD (dI r8)) [] [], 0, 0), [])] [1, 4, 117] [0] [.old 0] <| .c2 (.r0 [2] <| .ret []) (.r1 [1, 4, 10] [0] <| .lp [.i] (fun i => ⟨[(1, vP 0 0), (4, vD (dI p0)), (10, vD (dI i))], [some (Obj.box [sD (dI p0), sD (dI p1), sD (dL p2), sD (dI p3), sD (dI p4), sD (dL p5), sD (dI p6), sD (dI p7), sD (dL p8), sD (dI p9), sD (dI p10), sD (dL p11), sD (dI p12), sD (dI p13), sD (dB p14)])], 142⟩) [.i p12] <| .fi fun i => .beg <| .r1 [1, 4, 10, 122] [0] <| .c2 (.r1 [1, 4, 10, 11] [0] <| .lp [.i] (fun c => ⟨[(1, vP 0 0), (4, vD (dI p0)), (10, vD (dI i)), (11, vD (dI c))], [some (Obj.box [sD (dI p0), sD (dI p1), sD (dL p2), sD (dI p3), sD (dI p4), sD (dL p5), sD (dI p6), sD (dI p7), sD (dL p8), sD (dI p9), sD (dI p10), sD (dL p11), sD (dI p12), sD (dI p13), sD (dB p14)])], 142⟩) [.i (0 : Int)] <| .fi fun c => .beg <| .r1 [1, 4, 10, 11, 128] [0] <| .c2 (.exl fun vx => .exb fun x0 => .exl fun x1 => .ex fun r9 => .reg 0 [(5, Or.cells [dL vx], 0, 0), (8, Or.cells [dB x0, dL x1], 0, 0), (9, Or.call (vD (dI r9)) [] [], 0, 0)] [1, 4, 10, 11, 141] [0] [] <| .c2 (.r0 [2] <| .ret []) (.r1 [1, 4, 10, 11] [0] <| .bk 0 [.i (IntKind.i64.wrap (c + (1 : Int)))])) (.r1 [1, 4, 10] [0] <| .bk 1 [.i (IntKind.i64.wrap (i + (1 : Int)))])) (.r0 [2] <| .ret [])))))))))))))))
    (by kernel_rfl) (by kernel_rfl) (by kernel_rfl) h
def vc21 (a0 a1 : Int) (a2 : DL) (f0 f1 : Int) (f2 : DL) (f3 f4 : Int) (f5 : DL) (f6 f7 : Int) (f8 : DL) (R : V → Heap → Prop) : Prop :=
 ∃ (r : Bool),
 (FnD prog 35 [vA [sD (dI a0), sD (dI a1), sD (dL a2)]] (vD (dB r)) []) ∧
 (∃ (r1 : Bool),
 (FnD prog 39 [vA [sD (dI f0), sD (dI f1), sD (dL f2)]] (vD (dB r1)) []) ∧
 (((!r) = true →
 R (vD (dB false)) []) ∧
 ((!r) = false →
 ((!r1) = true →
 R (vD (dB false)) []) ∧
 ((!r1) = false →
 ((f0 != a0) = true →
 R (vD (dB false)) []) ∧
 ((f0 != a0) = false →
 ((f1 != a1) = true →
 R (vD (dB false)) []) ∧
 ((f1 != a1) = false →
 ∃ (r2 : Bool),
 (FnD prog 36 [vA [sD (dI f3), sD (dI f4), sD (dL f5)], vD (dI a0), vD (dI a0)] (vD (dB r2)) []) ∧
 (∃ (r3 : Bool),
 (FnD prog 36 [vA [sD (dI f6), sD (dI f7), sD (dL f8)], vD (dI a0), vD (dI a0)] (vD (dB r3)) []) ∧
 ((r2 = true →
 (r3 = true →
 ∃ (r0 r11 : Int) (r21 : DL) (r4 : Bool),
 (FnD prog 37 [vA [sD (dI f3), sD (dI f4), sD (dL f5)], vA [sD (dI a0), sD (dI a1), sD (dL a2)]] (vA [sD (dI r0), sD (dI r11), sD (dL r21)]) []) ∧
 (FnD prog 22 [vA [sD (dI r0), sD (dI r11), sD (dL r21)], vA [sD (dI f0), sD (dI f1), sD (dL f2)]] (vD (dB r4)) []) ∧
 ((r4 = true →
 ∃ (r01 r12 : Int) (r22 : DL) (r02 r13 : Int) (r23 : DL) (r5 : Bool),
 (FnD prog 37 [vA [sD (dI f3), sD (dI f4), sD (dL f5)], vA [sD (dI f6), sD (dI f7), sD (dL f8)]] (vA [sD (dI r01), sD (dI r12), sD (dL r22)]) []) ∧
 (FnD prog 30 [vD (dI a0)] (vA [sD (dI r02), sD (dI r13), sD (dL r23)]) []) ∧
 (FnD prog 22 [vA [sD (dI r01), sD (dI r12), sD (dL r22)], vA [sD (dI r02), sD (dI r13), sD (dL r23)]] (vD (dB r5)) []) ∧
 (R (vD (dB r5)) [])) ∧
 (r4 = false →
 R (vD (dB false)) []))) ∧
 (r3 = false →
 R (vD (dB false)) [])) ∧
 (r2 = false →
 R (vD (dB false)) [])))))))))
theorem vc21_ok (a0 a1 : Int) (a2 : DL) (f0 f1 : Int) (f2 : DL) (f3 f4 : Int) (f5 : DL) (f6 f7 : Int) (f8 : DL) {R : V → Heap → Prop} (h : vc21 a0 a1 a2 f0 f1 f2 f3 f4 f5 f6 f7 f8 R) : FnG prog 21 [vA [sD (dI a0), sD (dI a1), sD (dL a2)], vA [sD (dI f0), sD (dI f1), sD (dL f2), sD (dI f3), sD (dI f4), sD (dL f5), sD (dI f6), sD (dI f7), sD (dL f8)]] [] R :=
  FnG.vcg hT func21 ntmps21 (.reg 2 [(0, Or.none, 0, 1), (1, Or.none, 1, 1)] [2, 3] [0, 1] [] <| .exb fun r => .reg 0 [(1, Or.call (vD (dB r)) [] [], 0, 0)] [2, 3, 5] [0, 1] [] <| .exb fun r1 => .reg 0 [(2, Or.call (vD (dB r1)) [] [], 0, 0)] [2, 3, 5, 6] [0, 1] [] <| .spl ((!r)) (.reg 0 [(2, Or.bool true, 0, 0)] [2, 3, 35] [0, 1] [.old 0] <| .ct true none <| .r0 [4] <| .ret []) (.spl ((!r1)) (.reg 0 [(2, Or.bool false, 0, 0), (6, Or.bool true, 0, 0)] [2, 3, 35] [0, 1] [.old 1, .old 0] <| .ct true none <| .r0 [4] <| .ret []) (.spl ((f0 != a0)) (.reg 0 [(2, Or.bool false, 0, 0), (6, Or.bool false, 0, 0), (14, Or.bool true, 0, 0)] [2, 3, 35] [0, 1] [.old 2, .old 1, .old 0] <| .ct true none <| .r0 [4] <| .ret []) (.reg 0 [(2, Or.bool false, 0, 0), (6, Or.bool false, 0, 0), (14, Or.bool false, 0, 0)] [2, 3, 35] [0, 1] [.old 2, .old 1, .old 0] <| .c2 (.r0 [4] <| .ret []) (.exb fun r2 => .reg 0 [(6, Or.call (vD (dB r2)) [] [], 0, 0)] [2, 3, 7] [0, 1] [] <| .exb fun r3 => .reg 0 [(6, Or.call (vD (dB r3)) [] [], 0, 0)] [2, 3, 7, 8] [0, 1] [] <| .spl r2 (.spl r3 (.ex fun r0 => .ex fun r11 => .exl fun r21 => .exb fun r4 => .ob (FnD prog 37 [vA [sD (dI f3), sD (dI f4), sD (dL f5)], vA [sD (dI a0), sD (dI a1), sD (dL a2)]] (vA [sD (dI r0), sD (dI r11), sD (dL r21)]) []) <| .ob (FnD prog 22 [vA [sD (dI r0), sD (dI r11), sD (dL r21)], vA [sD (dI f0), sD (dI f1), sD (dL f2)]] (vD (dB r4)) []) <| .spl r4 (.ex fun r01 => .ex fun r12 => .exl fun r22 => .ex fun r02 => .ex fun r13 => .exl fun r23 => .exb fun r5 => .drw 0 [(1, (Or.bool true, 0, 0), []), (4, (Or.bool true, 0, 0), []), (8, (Or.call (vA [sD (dI r0), sD (dI r11), sD (dL r21)]) [] [], 0, 0), []), (11, (Or.call (vD (dB r4)) [] [], 0, 0), []), (13, (Or.bool true, 0, 0), []), (18, (Or.call (vA [sD (dI r01), sD (dI r12), sD (dL r22)]) [] [], 0, 0), []), (21, (Or.call (vA [sD (dI r02), sD (dI r13), sD (dL r23)]) [] [], 0, 0), []), (22, (Or.call (vD (dB r5)) [] [], 0, 0), [])] [4] [] [.old 4, .old 3, .old 2, .old 1, .old 0] <| .ret []) (.drw 0 [(1, (Or.bool true, 0, 0), []), (4, (Or.bool true, 0, 0), []), (8, (Or.call (vA [sD (dI r0), sD (dI r11), sD (dL r21)]) [] [], 0, 0), []), (11, (Or.call (vD (dB r4)) [] [], 0, 0), []), (13, (Or.bool false, 0, 0), [])] [4] [] [.old 4, .old 3, .old 2, .old 1, .old 0] <| .ret [])) (.drw 0 [(1, (Or.bool true, 0, 0), []), (4, (Or.bool false, 0, 0), [])] [4] [] [.old 1, .old 0] <| .ret [])) (.drw 0 [(1, (Or.bool false, 0, 0), [])] [4] [] [.old 0] <| .ret []))))))
    (by kernel_rfl) (by kernel_rfl) (by kernel_rfl) h
end Go.AM
/- torsionref21: the least row, the first open row; copies; numbers. -/
namespace Go.AM
open Go.Proofs.Tryz
theorem rabs_ok {x : Int} (hx : Sz x) : FnD prog 100 [eI x] (eI ((x.natAbs : Nat) : Int)) [] := by
  refine vc100_ok _ _ (R := Out _) ?_
  unfold vc100
  unfold Sz at hx
  have h := made_eI (digs x.natAbs) false (digs_lt _) (by omega)
  rw [val_digs] at h
  exact ⟨_, _, h, rfl, rfl⟩
theorem rcmp_ok {x y : Int} (hx : Sz x) (hy : Sz y) : FnD prog 74 [eI x, eI y] (vi (if x - y = 0 then 0 else if x - y < 0 then -1 else 1)) [] := by
  refine vc74_ok _ _ _ _ (R := Out _) ?_
  unfold vc74
  exact ⟨_, _, _, rsub_ok hx hy, rsign_ok _, rfl, rfl⟩
theorem rcopied_ok {r c : Nat} {a : List (List Int)} (ha : Mx r c a) (hs : ∀ i j, i < r → j < c → Sz (el a i j)) (hr : r ≤ 4294967296) (hc : c ≤ 4294967296) :
    FnD prog 42 [eM r c a] (eMo r c) (oM a) := by
  have scale : FnD prog 75 [eM r c a, eI 1] (eMo r c) (oM (table r c fun i j => el a i j * 1)) := by
    refine vc75_ok _ _ _ _ _ (R := OutM r c _) ?_
    unfold vc75
    obtain ⟨f, hf⟩ : ∃ f : Nat → Nat → Int, f = fun i j => el a i j * 1 := ⟨_, rfl⟩
    refine ⟨_, _, _, rnew_ok hr hc, fun o t => ∃ i : Nat, t = (i : Int) ∧ i ≤ r ∧ o = om (table r c (gF f i 0)), fun _ t => ((r : Int) - t).toNat, ⟨0, rfl, by omega, gF_zero f⟩, ?_⟩
    rintro _ _ ⟨i, rfl, hi, rfl⟩
    refine ⟨fun h => ?_, fun h => outM ?_⟩
    · have hir : i < r := by simpa using h
      refine ⟨fun o t => ∃ j : Nat, t = (j : Int) ∧ j ≤ c ∧ o = om (table r c (gF f i j)), fun _ t => ((c : Int) - t).toNat, ⟨0, rfl, by omega, rfl⟩, ?_⟩
      rintro _ _ ⟨j, rfl, hj, rfl⟩
      refine ⟨fun h2 => ?_, fun h2 => ?_⟩
      · have hjc : j < c := by simpa using h2
        obtain ⟨e1, e2, e3, e4⟩ := read_el ha hir hjc
        refine ⟨_, _, _, decide (f i j < 0), lim (dz (f i j)), ⟨by omega, by rw [om_len]; omega⟩, ⟨by omega, e4⟩, e1, ⟨by omega, e3⟩, e2, ?_, om_in hir hjc, ?_⟩
        · subst hf; exact rmul_ok (hs i j hir hjc) (sz_le (K := 1) (by decide) (by decide))
        rw [inc64 (by omega)]
        refine ⟨⟨j + 1, rfl, by omega, ?_⟩, by show ((c : Int) - ((j + 1 : Nat) : Int)).toNat < ((c : Int) - (j : Int)).toNat; omega⟩
        rw [Int.toNat_natCast, Int.toNat_natCast]
        exact gF_step hir hjc
      · have hjc : c ≤ j := by simpa using h2
        rw [inc64 (by omega)]
        exact ⟨⟨i + 1, rfl, by omega, gF_next fun b h1 h2 => by omega⟩, by show ((r : Int) - ((i + 1 : Nat) : Int)).toNat < ((r : Int) - (i : Int)).toNat; omega⟩
    · have hir : i = r := by have : r ≤ i := by simpa using h
                             omega
      subst hir
      subst hf
      exact gF_all
  refine vc42_ok _ _ _ (R := OutM r c _) ?_
  unfold vc42
  refine ⟨_, _, _, _, _, rof_ok 1 (by decide) (by decide), scale, outM ?_⟩
  congr 1
  refine Eq.trans (table_congr fun i j _ _ => ?_) (mx_table ha).symm
  rw [Int.mul_one]
def eP (r c : Nat) (A m u v : List (List Int)) (t k : Nat) (b : Bool) : V :=
  vA [sD (dI r), sD (dI c), sD (dL (rows A)), sD (dI r), sD (dI c), sD (dL (rows m)), sD (dI r), sD (dI r), sD (dL (rows u)), sD (dI r), sD (dI r), sD (dL (rows v)), sD (dI t), sD (dI k), sD (dB b)]
def finB (r c t k : Nat) : Bool := decide (r ≤ t) || decide (c ≤ k)
theorem fin_ok {r c : Nat} {A m u v : List (List Int)} {t k : Nat} {b : Bool} : FnD prog 29 [eP r c A m u v t k b] (vb (finB r c t k)) [] := by
  refine vc29_ok _ _ _ _ _ _ _ _ _ _ _ _ _ _ _ (R := Out _) ?_
  unfold vc29
  refine ⟨fun h => outb ?_, fun h => outb ?_⟩
  · have : r ≤ t := by simpa using h
    simp [finB, this]
  · have : ¬ r ≤ t := by simpa using h
    simp [finB, this]
theorem rfin_ok {r c : Nat} {A m u v : List (List Int)} {t k : Nat} {b : Bool} : FnD prog 31 [eP r c A m u v t k b] (vb (finB r c t k)) [] := by
  refine vc31_ok _ _ _ _ _ _ _ _ _ _ _ _ _ _ _ (R := Out _) ?_
  unfold vc31
  refine ⟨fun h => outb ?_, fun h => outb ?_⟩
  · have : r ≤ t := by simpa using h
    simp [finB, this]
  · have : ¬ r ≤ t := by simpa using h
    simp [finB, this]
theorem natAbs_sub_lt {a b : Nat} : decide ((if (a : Int) - (b : Int) = 0 then (0 : Int) else if (a : Int) - (b : Int) < 0 then -1 else 1) < 0) = decide (a < b) := by
  by_cases h : a < b
  · rw [decide_eq_true h, sgn_lt.2 (by omega)]
  · rw [decide_eq_false h, decide_eq_false]
    intro hc
    have := sgn_lt.1 (decide_eq_true hc)
    omega
section
variable {r c K L : Nat} {A m u v : List (List Int)} {t k : Nat} (C : PCx r c K L m u v t k) {b : Bool}
include C
theorem rls : FnD prog 69 [eP r c A m u v t k b] (vi (lsF m k t (r - t))) [] := by
  refine vc69_ok _ _ _ _ _ _ _ _ _ _ _ _ _ _ _ (R := Out _) ?_
  unfold vc69
  have hm := C.hm; have hk := C.hk; have ht := C.ht; have hr := C.hr
  have hs : ∀ i, i < r → Sz (el m i k) := fun i hi => C.sz (el_bd C.hm C.km hi hk)
  have szn : ∀ {z : Int}, Sz z → Sz ((z.natAbs : Nat) : Int) := fun h => by unfold Sz at *; rwa [Int.natAbs_natCast]
  refine ⟨fun best i => ∃ n : Nat, i = ((t + n : Nat) : Int) ∧ t + n ≤ r ∧ best = lsF m k t n, fun _ i => ((r : Int) - i).toNat, ⟨0, rfl, Nat.le_of_lt ht, rfl⟩, ?_⟩
  rintro _ _ ⟨n, rfl, hn, rfl⟩
  refine ⟨fun h => ?_, fun h => outi ?_⟩
  · have hnr : t + n < r := by have := of_decide_eq_true h; omega
    have hnext : ∀ b, b = lsS m k (lsF m k t n) (t + n) → (∃ n' : Nat, IntKind.i64.wrap (((t + n : Nat) : Int) + 1) = ((t + n' : Nat) : Int) ∧ t + n' ≤ r ∧ b = lsF m k t n') ∧ ((r : Int) - IntKind.i64.wrap (((t + n : Nat) : Int) + 1)).toNat < ((r : Int) - ((t + n : Nat) : Int)).toNat :=
      fun b hb => by
        rw [inc64 (by omega)]
        exact ⟨⟨n + 1, rfl, by omega, hb⟩, by omega⟩
    obtain ⟨e1, e2, e3, e4⟩ := read_el hm hnr hk
    refine ⟨_, _, _, _, _, ⟨by omega, e4⟩, e1, ⟨by omega, e3⟩, e2, rabs_ok (hs _ hnr), _, rsign_ok _, fun h0 => ?_, fun h0 => hnext _ ?_⟩
    · have hne : el m (t + n) k ≠ 0 := fun hc => by rw [hc] at h0; simp at h0
      refine ⟨fun hb => hnext _ ?_, fun hb => ?_⟩
      · have hb' := of_decide_eq_true hb
        unfold lsS; rw [if_pos ⟨hne, .inl hb'⟩]
      · have hb' := of_decide_eq_false hb
        rcases lsF_ok (m := m) (c := k) (top := t) n with ⟨g1, _⟩ | ⟨p, g1, g2, g3, g4, _⟩
        · rw [g1] at hb'; exact absurd (by decide) hb'
        · have hpr : p < r := by omega
          have hst : lsS m k (p : Int) (t + n) = if (el m (t + n) k).natAbs < (el m p k).natAbs then ((t + n : Nat) : Int) else (p : Int) := by
            unfold lsS
            rw [Int.toNat_natCast]
            by_cases hlt : (el m (t + n) k).natAbs < (el m p k).natAbs
            · rw [if_pos ⟨hne, .inr hlt⟩, if_pos hlt]
            · rw [if_neg (fun ⟨_, b⟩ => b.elim (fun b => absurd b (by omega)) hlt), if_neg hlt]
          rw [g1] at hnext ⊢
          rw [hst] at hnext
          obtain ⟨d1, d2, d3, d4⟩ := read_el hm hpr hk
          refine ⟨_, _, _, _, _, _, ⟨by omega, d4⟩, d1, ⟨by omega, d3⟩, d2, rabs_ok (hs _ hpr), rcmp_ok (szn (hs _ hnr)) (szn (hs _ hpr)), ?_⟩
          rw [natAbs_sub_lt]
          refine ⟨fun hl => hnext _ ?_, fun hl => hnext _ ?_⟩
          · rw [if_pos (by simpa using hl)]
          · rw [if_neg (by simpa using hl)]
    · have hne : el m (t + n) k = 0 := by
        apply Classical.byContradiction
        intro hc
        have := (sgn_ne (z := (((el m (t + n) k).natAbs : Nat) : Int))).2 (by omega)
        rw [this] at h0; simp at h0
      unfold lsS; rw [if_neg (by simp [hne])]
  · have hnr : r ≤ t + n := by have := of_decide_eq_false h; omega
    rw [show r - t = n by omega]
def opI (r k t : Nat) (m : List (List Int)) : Int := match opnL k t m (List.range r) with
  | some i => (i : Int)
  | none => -1
omit C in
theorem opnL_some {i : Nat} (hi : i < r) (h : i ≠ t ∧ el m i k / el m t k ≠ 0) (hb : ∀ j, j < i → ¬ (j ≠ t ∧ el m j k / el m t k ≠ 0)) : opnL k t m (List.range r) = some i := by
  unfold opnL
  refine List.find?_range_eq_some.2 ⟨by simp [h.1, h.2], List.mem_range.2 hi, fun j hj => ?_⟩
  have := hb j hj
  simp only [not_and, Decidable.not_not] at this
  by_cases hjt : j = t
  · simp [hjt]
  · simp [this hjt]
omit C in
theorem opnL_none (hb : ∀ j, j < r → ¬ (j ≠ t ∧ el m j k / el m t k ≠ 0)) : opnL k t m (List.range r) = none := by
  unfold opnL
  refine List.find?_range_eq_none.2 fun j hj => ?_
  have := hb j hj
  simp only [not_and, Decidable.not_not] at this
  by_cases hjt : j = t
  · simp [hjt]
  · simp [this hjt]
omit C in
theorem opnL_inv {i : Nat} (h : opnL k t m (List.range r) = some i) : i < r ∧ i ≠ t ∧ el m i k / el m t k ≠ 0 ∧ ∀ j, j < i → j ≠ t → el m j k / el m t k = 0 := by
  unfold opnL at h
  obtain ⟨h1, h2, h3⟩ := List.find?_range_eq_some.1 h
  simp only [Bool.and_eq_true, decide_eq_true_eq] at h1
  refine ⟨List.mem_range.1 h2, h1.1, h1.2, fun j hj hjt => ?_⟩
  have := h3 j hj
  simp [hjt] at this
  exact this
omit C in
theorem div_ne_pos {x p : Int} (hp : 0 < p) : x / p ≠ 0 ↔ x < 0 ∨ p ≤ x := by
  constructor
  · intro h
    apply Classical.byContradiction
    intro hc
    exact h (Int.ediv_eq_zero_of_lt (by omega) (by omega))
  · intro h hc
    have h1 := Int.emod_add_mul_ediv x p
    rw [hc, Int.mul_zero, Int.add_zero] at h1
    have h2 := Int.emod_nonneg x (show p ≠ 0 by omega)
    have h3 := Int.emod_lt_of_pos x hp
    omega
theorem ropen_ok (hp : 0 < el m t k) (h4 : ∀ i, t ≤ i → i < r → el m i k ≠ 0 → (el m t k).natAbs ≤ (el m i k).natAbs) :
    FnD prog 70 [eP r c A m u v t k b] (vi (opI r k t m)) [] := by
  refine vc70_ok _ _ _ _ _ _ _ _ _ _ _ _ _ _ _ (R := Out _) ?_
  unfold vc70
  have hm := C.hm; have hk := C.hk; have ht := C.ht; have hr := C.hr
  have hs : ∀ i, i < r → Sz (el m i k) := fun i hi => C.sz (el_bd C.hm C.km hi hk)
  obtain ⟨e1, e2, e3, e4⟩ := read_el hm ht hk
  refine ⟨_, _, _, ⟨by omega, e4⟩, e1, ⟨by omega, e3⟩, e2, fun k' => ∃ n : Nat, k' = (n : Int) ∧ n ≤ r ∧ ∀ j, j < n → ¬ (j ≠ t ∧ el m j k / el m t k ≠ 0), fun k' => ((r : Int) - k').toNat, ⟨0, rfl, by omega, fun j hj => by omega⟩, ?_⟩
  rintro _ ⟨n, rfl, hn, hb⟩
  refine ⟨fun h => ?_, fun h => outi ?_⟩
  · have hnr : n < r := by simpa using h
    obtain ⟨d1, d2, d3, d4⟩ := read_el hm hnr hk
    have found : n ≠ t → el m n k / el m t k ≠ 0 → Out (vi (opI r k t m)) (vD (dI (n : Int))) [] := fun g1 g2 => outi (by
      unfold opI; rw [opnL_some hnr ⟨g1, g2⟩ hb])
    have nx : (n ≠ t → el m n k / el m t k = 0) → (∃ n' : Nat, IntKind.i64.wrap ((n : Int) + 1) = (n' : Int) ∧ n' ≤ r ∧ ∀ j, j < n' → ¬ (j ≠ t ∧ el m j k / el m t k ≠ 0)) ∧ ((r : Int) - IntKind.i64.wrap ((n : Int) + 1)).toNat < ((r : Int) - (n : Int)).toNat := fun g => by
      rw [inc64 (by omega)]
      refine ⟨⟨n + 1, rfl, by omega, fun j hj => ?_⟩, by omega⟩
      by_cases hjn : j = n
      · subst hjn; exact fun hc => hc.2 (g hc.1)
      · exact hb j (by omega)
    refine ⟨_, _, _, ⟨by omega, d4⟩, d1, ⟨by omega, d3⟩, d2, fun g1 => ⟨_, rsign_ok _, fun g2 => ?_, fun g2 => ⟨fun g3 => ?_, fun _ => nx fun _ => ?_⟩⟩, fun g1 => ⟨fun g3 => ⟨_, rsign_ok _, fun g4 => ?_, fun g4 => ⟨_, rcmp_ok (hs _ hnr) (hs _ ht), fun g5 => ?_, fun g5 => ?_⟩⟩, fun g3 => nx fun hnt => ?_⟩⟩
    · have hnt : t < n := by have := of_decide_eq_true g1; omega
      have hne := sgn_ne.1 g2
      have := h4 n (by omega) hnr hne
      exact found (by omega) ((div_ne_pos hp).2 (by omega))
    · exfalso
      have := of_decide_eq_true g1
      have := of_decide_eq_true g3
      omega
    · have hz : el m n k = 0 := by
        apply Classical.byContradiction
        intro hc
        rw [sgn_ne.2 hc] at g2; simp at g2
      rw [hz, Int.zero_ediv]
    · have hnt : n < t := by have := of_decide_eq_true g3; omega
      exact found (by omega) ((div_ne_pos hp).2 (.inl (sgn_lt.1 g4)))
    · have hnt : n < t := by have := of_decide_eq_true g3; omega
      refine found (by omega) ((div_ne_pos hp).2 (.inr ?_))
      have h5 := of_decide_eq_true g5
      apply Classical.byContradiction
      intro hc
      have := of_decide_eq_true ((sgn_lt (z := el m n k - el m t k)).2 (by omega))
      omega
    · refine nx fun _ => ?_
      apply Classical.byContradiction
      intro hc
      rcases (div_ne_pos hp).1 hc with h5 | h5
      · rw [sgn_lt.2 h5] at g4; simp at g4
      · have h6 := of_decide_eq_false g5
        have h7 : ¬ (if el m n k - el m t k = 0 then (0 : Int) else if el m n k - el m t k < 0 then -1 else 1) < 0 := fun h8 => by
          have := sgn_lt.1 (decide_eq_true h8)
          omega
        omega
    · exfalso
      have := of_decide_eq_false g1
      have := of_decide_eq_false g3
      omega
  · have hnr : n = r := by have : r ≤ n := by simpa using h
                           omega
    subst hnr
    unfold opI; rw [opnL_none hb]
end
end Go.AM
/- What functions of the program come to: group Sb. Printed by vc.py. -/
set_option maxRecDepth 100000
set_option linter.unusedVariables false
namespace Go.AM
open Go.Proofs.Tryz
def vc13 (p0 p1 : Int) (p2 : DL) (p3 p4 : Int) (p5 : DL) (p6 p7 : Int) (p8 : DL) (p9 p10 : Int) (p11 : DL) (p12 p13 : Int) (p14 : Bool) (budget : Int) (R : V → Heap → Prop) : Prop :=
 (decide (budget ≤ (0 : Int)) = true →
 R (vA [sD (dI p0), sD (dI p1), sD (dL p2), sD (dI p3), sD (dI p4), sD (dL p5), sD (dI p6), sD (dI p7), sD (dL p8), sD (dI p9), sD (dI p10), sD (dL p11), sD (dI p12), sD (dI p13), sD (dB p14)]) []) ∧
 (decide (budget ≤ (0 : Int)) = false →
 (p14 = true →
 R (vA [sD (dI p0), sD (dI p1), sD (dL p2), sD (dI p3), sD (dI p4), sD (dL p5), sD (dI p6), sD (dI p7), sD (dL p8), sD (dI p9), sD (dI p10), sD (dL p11), sD (dI p12), sD (dI p13), sD (dB p14)]) []) ∧
 (p14 = false →
 ∃ (r0 r1 : Int) (rrows : DLL) (r01 r11 : Int) (rrows1 : DLL) (r02 r12 : Int) (rrows2 : DLL),
 (FnD prog 32 [vA [sD (dI p3), sD (dI p4), sD (dL p5)]] (vA [sD (dI r0), sD (dI r1), S.ref 0]) [some (Obj.mat 2 rrows)]) ∧
 (FnD prog 32 [vA [sD (dI p6), sD (dI p7), sD (dL p8)]] (vA [sD (dI r01), sD (dI r11), S.ref 0]) [some (Obj.mat 2 rrows1)]) ∧
 (FnD prog 32 [vA [sD (dI p9), sD (dI p10), sD (dL p11)]] (vA [sD (dI r02), sD (dI r12), S.ref 0]) [some (Obj.mat 2 rrows2)]) ∧
 ((FnD prog 33 [] (vA [sD (D.fn (.func 64) ([] : List D)), sD (D.fn (.func 65) ([] : List D)), sD (D.fn (.func 66) ([] : List D)), sD (D.fn (.func 67) ([] : List D)), sD (D.fn (.func 68) ([] : List D))]) []) ∧
 (∃ (J0 : Int → Int → Int → Int → Int → Bool → (DL) → Int → Int → Int → Int → Int → (DLL) → (DLL) → (DLL) → Int → Prop) (μ0 : Int → Int → Int → Int → Int → Bool → (DL) → Int → Int → Int → Int → Int → (DLL) → (DLL) → (DLL) → Int → Nat),
 J0 p0 p1 r12 p12 p13 p14 p2 r0 r1 r01 r11 r02 rrows rrows1 rrows2 budget ∧ ∀ (p01 p15 : Int) (p101 p121 p131 : Int) (p141 : Bool) (p21 : DL) (p31 p41 : Int) (p61 p71 p91 : Int) (o3 o4 o5 : DLL) (budget1 : Int), J0 p01 p15 p101 p121 p131 p141 p21 p31 p41 p61 p71 p91 o3 o4 o5 budget1 →
 (decide (budget1 > (0 : Int)) = true →
 ((!p141) = true →
 (0 ≤ (0 : Int) ∧ (0 : Int) < ((5 : Nat) : Int)) ∧
 (∃ (r : Bool) (b b1 : Int) (b2 : DL) (b3 b4 : Int) (b5 b6 : Int) (b7 b8 : Int) (b9 b10 : Int) (b11 : Bool) (m m1 m2 : DLL),
 (FnO prog 64 [V.e (E.sc (S.ptr 0 0))] [some (Obj.box [sD (dI p01), sD (dI p15), sD (dL p21), sD (dI p31), sD (dI p41), S.ref 1, sD (dI p61), sD (dI p71), S.ref 2, sD (dI p91), sD (dI p101), S.ref 3, sD (dI p121), sD (dI p131), sD (dB p141)]), some (Obj.mat 2 o3), some (Obj.mat 2 o4), some (Obj.mat 2 o5)] (vD (dB r)) [some (Obj.box [sD (dI b), sD (dI b1), sD (dL b2), sD (dI b3), sD (dI b4), S.ref 1, sD (dI b5), sD (dI b6), S.ref 2, sD (dI b7), sD (dI b8), S.ref 3, sD (dI b9), sD (dI b10), sD (dB b11)]), some (Obj.mat 2 m), some (Obj.mat 2 m1), some (Obj.mat 2 m2)]) ∧
 ((r = true →
 ∃ (r2 : Bool),
 (FnD prog 29 [vA [sD (dI b), sD (dI b1), sD (dL b2), sD (dI b3), sD (dI b4), sD (dL (matD m)), sD (dI b5), sD (dI b6), sD (dL (matD m1)), sD (dI b7), sD (dI b8), sD (dL (matD m2)), sD (dI b9), sD (dI b10), sD (dB b11)]] (vD (dB r2)) []) ∧
 (J0 b b1 b8 b9 b10 r2 b2 b3 b4 b5 b6 b7 m m1 m2 (IntKind.i64.wrap (budget1 - (1 : Int))) ∧ μ0 b b1 b8 b9 b10 r2 b2 b3 b4 b5 b6 b7 m m1 m2 (IntKind.i64.wrap (budget1 - (1 : Int))) < μ0 p01 p15 p101 p121 p131 p141 p21 p31 p41 p61 p71 p91 o3 o4 o5 budget1)) ∧
 (r = false →
 (0 ≤ (1 : Int) ∧ (1 : Int) < ((5 : Nat) : Int)) ∧
 (∃ (r3 : Bool) (b12 b13 : Int) (b14 : DL) (b15 b16 : Int) (b17 b18 : Int) (b19 b20 : Int) (b21 b22 : Int) (b23 : Bool) (m3 m4 m5 : DLL),
 (FnO prog 65 [V.e (E.sc (S.ptr 0 0))] [some (Obj.box [sD (dI b), sD (dI b1), sD (dL b2), sD (dI b3), sD (dI b4), S.ref 1, sD (dI b5), sD (dI b6), S.ref 2, sD (dI b7), sD (dI b8), S.ref 3, sD (dI b9), sD (dI b10), sD (dB b11)]), some (Obj.mat 2 m), some (Obj.mat 2 m1), some (Obj.mat 2 m2)] (vD (dB r3)) [some (Obj.box [sD (dI b12), sD (dI b13), sD (dL b14), sD (dI b15), sD (dI b16), S.ref 4, sD (dI b17), sD (dI b18), S.ref 5, sD (dI b19), sD (dI b20), S.ref 3, sD (dI b21), sD (dI b22), sD (dB b23)]), some (Obj.fwd (S.ref 4)), some (Obj.fwd (S.ref 5)), some (Obj.mat 2 m3), some (Obj.mat 2 m4), some (Obj.mat 2 m5)]) ∧
 ((r3 = true →
 ∃ (r4 : Bool),
 (FnD prog 29 [vA [sD (dI b12), sD (dI b13), sD (dL b14), sD (dI b15), sD (dI b16), sD (dL (matD m4)), sD (dI b17), sD (dI b18), sD (dL (matD m5)), sD (dI b19), sD (dI b20), sD (dL (matD m3)), sD (dI b21), sD (dI b22), sD (dB b23)]] (vD (dB r4)) []) ∧
 (J0 b12 b13 b20 b21 b22 r4 b14 b15 b16 b17 b18 b19 m4 m5 m3 (IntKind.i64.wrap (budget1 - (1 : Int))) ∧ μ0 b12 b13 b20 b21 b22 r4 b14 b15 b16 b17 b18 b19 m4 m5 m3 (IntKind.i64.wrap (budget1 - (1 : Int))) < μ0 p01 p15 p101 p121 p131 p141 p21 p31 p41 p61 p71 p91 o3 o4 o5 budget1)) ∧
 (r3 = false →
 (0 ≤ (2 : Int) ∧ (2 : Int) < ((5 : Nat) : Int)) ∧
 (∃ (r5 : Bool) (b24 b25 : Int) (b26 : DL) (b27 b28 : Int) (b29 b30 : Int) (b31 b32 : Int) (b33 b34 : Int) (b35 : Bool) (m6 m7 m8 : DLL),
 (FnO prog 66 [V.e (E.sc (S.ptr 0 0))] [some (Obj.box [sD (dI b12), sD (dI b13), sD (dL b14), sD (dI b15), sD (dI b16), S.ref 1, sD (dI b17), sD (dI b18), S.ref 2, sD (dI b19), sD (dI b20), S.ref 3, sD (dI b21), sD (dI b22), sD (dB b23)]), some (Obj.mat 2 m4), some (Obj.mat 2 m5), some (Obj.mat 2 m3)] (vD (dB r5)) [some (Obj.box [sD (dI b24), sD (dI b25), sD (dL b26), sD (dI b27), sD (dI b28), S.ref 1, sD (dI b29), sD (dI b30), S.ref 2, sD (dI b31), sD (dI b32), S.ref 3, sD (dI b33), sD (dI b34), sD (dB b35)]), some (Obj.mat 2 m6), some (Obj.mat 2 m7), some (Obj.mat 2 m8)]) ∧
 ((r5 = true →
 ∃ (r6 : Bool),
 (FnD prog 29 [vA [sD (dI b24), sD (dI b25), sD (dL b26), sD (dI b27), sD (dI b28), sD (dL (matD m6)), sD (dI b29), sD (dI b30), sD (dL (matD m7)), sD (dI b31), sD (dI b32), sD (dL (matD m8)), sD (dI b33), sD (dI b34), sD (dB b35)]] (vD (dB r6)) []) ∧
 (J0 b24 b25 b32 b33 b34 r6 b26 b27 b28 b29 b30 b31 m6 m7 m8 (IntKind.i64.wrap (budget1 - (1 : Int))) ∧ μ0 b24 b25 b32 b33 b34 r6 b26 b27 b28 b29 b30 b31 m6 m7 m8 (IntKind.i64.wrap (budget1 - (1 : Int))) < μ0 p01 p15 p101 p121 p131 p141 p21 p31 p41 p61 p71 p91 o3 o4 o5 budget1)) ∧
 (r5 = false →
 (0 ≤ (3 : Int) ∧ (3 : Int) < ((5 : Nat) : Int)) ∧
 (∃ (r7 : Bool) (b36 b37 : Int) (b38 : DL) (b39 b40 : Int) (b41 b42 : Int) (b43 b44 : Int) (b45 b46 : Int) (b47 : Bool) (m9 m10 m11 : DLL),
 (FnO prog 67 [V.e (E.sc (S.ptr 0 0))] [some (Obj.box [sD (dI b24), sD (dI b25), sD (dL b26), sD (dI b27), sD (dI b28), S.ref 1, sD (dI b29), sD (dI b30), S.ref 2, sD (dI b31), sD (dI b32), S.ref 3, sD (dI b33), sD (dI b34), sD (dB b35)]), some (Obj.mat 2 m6), some (Obj.mat 2 m7), some (Obj.mat 2 m8)] (vD (dB r7)) [some (Obj.box [sD (dI b36), sD (dI b37), sD (dL b38), sD (dI b39), sD (dI b40), S.ref 1, sD (dI b41), sD (dI b42), S.ref 2, sD (dI b43), sD (dI b44), S.ref 3, sD (dI b45), sD (dI b46), sD (dB b47)]), some (Obj.mat 2 m9), some (Obj.mat 2 m10), some (Obj.mat 2 m11)]) ∧
 ((r7 = true →
 ∃ (r8 : Bool),
 (FnD prog 29 [vA [sD (dI b36), sD (dI b37), sD (dL b38), sD (dI b39), sD (dI b40), sD (dL (matD m9)), sD (dI b41), sD (dI b42), sD (dL (matD m10)), sD (dI b43), sD (dI b44), sD (dL (matD m11)), sD (dI b45), sD (dI b46), sD (dB b47)]] (vD (dB r8)) []) ∧
 (J0 b36 b37 b44 b45 b46 r8 b38 b39 b40 b41 b42 b43 m9 m10 m11 (IntKind.i64.wrap (budget1 - (1 : Int))) ∧ μ0 b36 b37 b44 b45 b46 r8 b38 b39 b40 b41 b42 b43 m9 m10 m11 (IntKind.i64.wrap (budget1 - (1 : Int))) < μ0 p01 p15 p101 p121 p131 p141 p21 p31 p41 p61 p71 p91 o3 o4 o5 budget1)) ∧
 (r7 = false →
 (0 ≤ (4 : Int) ∧ (4 : Int) < ((5 : Nat) : Int)) ∧
 (∃ (r9 : Bool) (b48 b49 : Int) (b50 : DL) (b51 b52 : Int) (b53 b54 : Int) (b55 b56 : Int) (b57 b58 : Int) (b59 : Bool) (m12 m13 m14 : DLL),
 (FnO prog 68 [V.e (E.sc (S.ptr 0 0))] [some (Obj.box [sD (dI b36), sD (dI b37), sD (dL b38), sD (dI b39), sD (dI b40), S.ref 1, sD (dI b41), sD (dI b42), S.ref 2, sD (dI b43), sD (dI b44), S.ref 3, sD (dI b45), sD (dI b46), sD (dB b47)]), some (Obj.mat 2 m9), some (Obj.mat 2 m10), some (Obj.mat 2 m11)] (vD (dB r9)) [some (Obj.box [sD (dI b48), sD (dI b49), sD (dL b50), sD (dI b51), sD (dI b52), S.ref 1, sD (dI b53), sD (dI b54), S.ref 2, sD (dI b55), sD (dI b56), S.ref 3, sD (dI b57), sD (dI b58), sD (dB b59)]), some (Obj.mat 2 m12), some (Obj.mat 2 m13), some (Obj.mat 2 m14)]) ∧
 ((r9 = true →
 ∃ (r10 : Bool),
 (FnD prog 29 [vA [sD (dI b48), sD (dI b49), sD (dL b50), sD (dI b51), sD (dI b52), sD (dL (matD m12)), sD (dI b53), sD (dI b54), sD (dL (matD m13)), sD (dI b55), sD (dI b56), sD (dL (matD m14)), sD (dI b57), sD (dI b58), sD (dB b59)]] (vD (dB r10)) []) ∧
 (J0 b48 b49 b56 b57 b58 r10 b50 b51 b52 b53 b54 b55 m12 m13 m14 (IntKind.i64.wrap (budget1 - (1 : Int))) ∧ μ0 b48 b49 b56 b57 b58 r10 b50 b51 b52 b53 b54 b55 m12 m13 m14 (IntKind.i64.wrap (budget1 - (1 : Int))) < μ0 p01 p15 p101 p121 p131 p141 p21 p31 p41 p61 p71 p91 o3 o4 o5 budget1)) ∧
 (r9 = false →
 ∃ (r13 : Bool),
 (FnD prog 29 [vA [sD (dI b48), sD (dI b49), sD (dL b50), sD (dI b51), sD (dI b52), sD (dL (matD m12)), sD (dI b53), sD (dI b54), sD (dL (matD m13)), sD (dI b55), sD (dI b56), sD (dL (matD m14)), sD (dI b57), sD (dI b58), sD (dB b59)]] (vD (dB r13)) []) ∧
 (J0 b48 b49 b56 b57 b58 r13 b50 b51 b52 b53 b54 b55 m12 m13 m14 (IntKind.i64.wrap (budget1 - (1 : Int))) ∧ μ0 b48 b49 b56 b57 b58 r13 b50 b51 b52 b53 b54 b55 m12 m13 m14 (IntKind.i64.wrap (budget1 - (1 : Int))) < μ0 p01 p15 p101 p121 p131 p141 p21 p31 p41 p61 p71 p91 o3 o4 o5 budget1))))))))))))))))) ∧
 ((!p141) = false →
 R (vA [sD (dI p01), sD (dI p15), sD (dL p21), sD (dI p31), sD (dI p41), sD (dL (matD o3)), sD (dI p61), sD (dI p71), sD (dL (matD o4)), sD (dI p91), sD (dI p101), sD (dL (matD o5)), sD (dI p121), sD (dI p131), sD (dB p141)]) [])) ∧
 (decide (budget1 > (0 : Int)) = false →
 R (vA [sD (dI p01), sD (dI p15), sD (dL p21), sD (dI p31), sD (dI p41), sD (dL (matD o3)), sD (dI p61), sD (dI p71), sD (dL (matD o4)), sD (dI p91), sD (dI p101), sD (dL (matD o5)), sD (dI p121), sD (dI p131), sD (dB p141)]) [])))))
theorem vc13_ok (p0 p1 : Int) (p2 : DL) (p3 p4 : Int) (p5 : DL) (p6 p7 : Int) (p8 : DL) (p9 p10 : Int) (p11 : DL) (p12 p13 : Int) (p14 : Bool) (budget : Int) {R : V → Heap → Prop} (h : vc13 p0 p1 p2 p3 p4 p5 p6 p7 p8 p9 p10 p11 p12 p13 p14 budget R) : FnG prog 13 [vA [sD (dI p0), sD (dI p1), sD (dL p2), sD (dI p3), sD (dI p4), sD (dL p5), sD (dI p6), sD (dI p7), sD (dL p8), sD (dI p9), sD (dI p10), sD (dL p11), sD (dI p12), sD (dI p13), sD (dB p14)], vD (dI budget)] [] R :=
  FnG.vcg hT func13 ntmps13 (.reg 2 [(0, Or.none, 0, 1), (1, Or.none, 1, 1)] [1, 2, 4] [0, 1] [] <| .spl ((decide (budget ≤ (0 : Int)))) (.reg 0 [(2, Or.bool true, 0, 0)] [1, 2, 4, 13] [0, 1] [.old 0] <| .ct true none <| .r1 [4] [1] <| .ret []) (.reg 0 [(2, Or.bool false, 0, 0)] [1, 2, 4, 13] [0, 1] [.old 0] <| .c2 (.r1 [4] [1] <| .ret []) (.ex fun r0 => .ex fun r1 => .exm fun rrows => .ex fun r01 => .ex fun r11 => .exm fun rrows1 => .ex fun r02 => .ex fun r12 => .exm fun rrows2 => .drw 3 [(2, (Or.call (vA [sD (dI r0), sD (dI r1), S.ref 0]) [some (Obj.mat 2 rrows)] [], 2, 1), [2]), (5, (Or.call (vA [sD (dI r01), sD (dI r11), S.ref 0]) [some (Obj.mat 2 rrows1)] [], 3, 1), [3]), (8, (Or.call (vA [sD (dI r02), sD (dI r12), S.ref 0]) [some (Obj.mat 2 rrows2)] [], 4, 1), [4]), (10, (Or.none, 0, 0), [0]), (12, (Or.none, 0, 0), [0]), (14, (Or.none, 0, 0), [0])] [1, 2, 4] [0, 1, 2, 3, 4] [] <| .reg 1 [(0, Or.call (vA [sD (D.fn (.func 64) ([] : List D)), sD (D.fn (.func 65) ([] : List D)), sD (D.fn (.func 66) ([] : List D)), sD (D.fn (.func 67) ([] : List D)), sD (D.fn (.func 68) ([] : List D))]) [] [], 0, 0), (1, Or.none, 5, 1)] [1, 2, 4, 5] [0, 1, 5, 2, 3, 4] [] <| .lp [.i, .i, .i, .i, .i, .b, .l, .i, .i, .i, .i, .i, .m, .m, .m, .i] (fun p01 p15 p101 p121 p131 p141 p21 p31 p41 p61 p71 p91 o3 o4 o5 budget1 => ⟨[(1, vD (dI budget1)), (2, vP 0 0), (4, vP 1 0), (5, vP 2 0)], [some (Obj.box [sD (dI p01), sD (dI p15), sD (dL p21), sD (dI p31), sD (dI p41), S.ref 3, sD (dI p61), sD (dI p71), S.ref 4, sD (dI p91), sD (dI p101), S.ref 5, sD (dI p121), sD (dI p131), sD (dB p141)]), some (Obj.box [sD (dI (0 : Int)), sD (dI (0 : Int)), sD (D.raw (.slice none 0 0)), sD (dI (0 : Int)), sD (dI (0 : Int)), sD (D.raw (.slice none 0 0)), sD (dI (0 : Int)), sD (dI (0 : Int)), sD (D.raw (.slice none 0 0)), sD (dI (0 : Int)), sD (dI (0 : Int)), sD (D.raw (.slice none 0 0)), sD (dI (0 : Int)), sD (dI (0 : Int)), sD (dB false)]), some (Obj.box [sD (D.fn (.func 64) ([] : List D)), sD (D.fn (.func 65) ([] : List D)), sD (D.fn (.func 66) ([] : List D)), sD (D.fn (.func 67) ([] : List D)), sD (D.fn (.func 68) ([] : List D))]), some (Obj.mat 2 o3), some (Obj.mat 2 o4), some (Obj.mat 2 o5)], 48⟩) [.i p0, .i p1, .i r12, .i p12, .i p13, .b p14, .l p2, .i r0, .i r1, .i r01, .i r11, .i r02, .m rrows, .m rrows1, .m rrows2, .i budget] <| .fi fun p01 => .fi fun p15 => .fi fun p101 => .fi fun p121 => .fi fun p131 => .fb fun p141 => .fl fun p21 => .fi fun p31 => .fi fun p41 => .fi fun p61 => .fi fun p71 => .fi fun p91 => .fm fun o3 => .fm fun o4 => .fm fun o5 => .fi fun budget1 => .beg <| .spl ((decide (budget1 > (0 : Int)))) (.reg 0 [(2, Or.bool true, 0, 0)] [1, 2, 4, 5, 34] [0, 1, 2, 3, 4, 5] [.old 0] <| .c2 (.r1 [1, 2, 4, 5, 37, 38] [0, 1, 2, 3, 4, 5] <| .lp1 <| .r1 [1, 2, 4, 5, 37, 38, 39] [0, 1, 2, 3, 4, 5] <| .ct true none <| .r1 [1, 2, 4, 5, 7, 37, 38] [0, 1, 2, 3, 4, 5] <| .exb fun r => .ex fun b => .ex fun b1 => .exl fun b2 => .ex fun b3 => .ex fun b4 => .ex fun b5 => .ex fun b6 => .ex fun b7 => .ex fun b8 => .ex fun b9 => .ex fun b10 => .exb fun b11 => .exm fun m => .exm fun m1 => .exm fun m2 => .reg 0 [(1, Or.callO [0, 3, 4, 5] (vD (dB r)) [some (Obj.box [sD (dI b), sD (dI b1), sD (dL b2), sD (dI b3), sD (dI b4), S.ref 1, sD (dI b5), sD (dI b6), S.ref 2, sD (dI b7), sD (dI b8), S.ref 3, sD (dI b9), sD (dI b10), sD (dB b11)]), some (Obj.mat 2 m), some (Obj.mat 2 m1), some (Obj.mat 2 m2)], 0, 0)] [1, 2, 4, 5, 37, 38, 42] [0, 1, 2, 3, 4, 5] [] <| .c2 (.exb fun r2 => .reg 0 [(1, Or.callB [3, 4, 5] [] (vD (dB r2)), 0, 0)] [1, 2, 4, 5] [0, 1, 2, 3, 4, 5] [] <| .r1 [1, 2, 4, 5] [0, 1, 2, 3, 4, 5] <| .bk 0 [.i b, .i b1, .i b8, .i b9, .i b10, .b r2, .l b2, .i b3, .i b4, .i b5, .i b6, .i b7, .m m, .m m1, .m m2, .i (IntKind.i64.wrap (budget1 - (1 : Int)))]) (.r1 [1, 2, 4, 5, 37, 38] [0, 1, 2, 3, 4, 5] <| .lp1 <| .r1 [1, 2, 4, 5, 37, 38, 39] [0, 1, 2, 3, 4, 5] <| .ct true none <| .r1 [1, 2, 4, 5, 7, 37, 38] [0, 1, 2, 3, 4, 5] <| .exb fun r3 => .ex fun b12 => .ex fun b13 => .exl fun b14 => .ex fun b15 => .ex fun b16 => .ex fun b17 => .ex fun b18 => .ex fun b19 => .ex fun b20 => .ex fun b21 => .ex fun b22 => .exb fun b23 => .exm fun m3 => .exm fun m4 => .exm fun m5 => .reg 2 [(1, Or.callO [0, 3, 4, 5] (vD (dB r3)) [some (Obj.box [sD (dI b12), sD (dI b13), sD (dL b14), sD (dI b15), sD (dI b16), S.ref 4, sD (dI b17), sD (dI b18), S.ref 5, sD (dI b19), sD (dI b20), S.ref 3, sD (dI b21), sD (dI b22), sD (dB b23)]), some (Obj.fwd (S.ref 4)), some (Obj.fwd (S.ref 5)), some (Obj.mat 2 m3), some (Obj.mat 2 m4), some (Obj.mat 2 m5)], 6, 2)] [1, 2, 4, 5, 37, 38, 42] [0, 1, 2, 6, 7, 5] [] <| .c2 (.exb fun r4 => .reg 0 [(1, Or.callB [3, 4, 5] [] (vD (dB r4)), 0, 0)] [1, 2, 4, 5] [0, 1, 2, 3, 4, 5] [] <| .r1 [1, 2, 4, 5] [0, 1, 2, 3, 4, 5] <| .bk 0 [.i b12, .i b13, .i b20, .i b21, .i b22, .b r4, .l b14, .i b15, .i b16, .i b17, .i b18, .i b19, .m m4, .m m5, .m m3, .i (IntKind.i64.wrap (budget1 - (1 : Int)))]) (.r1 [1, 2, 4, 5, 37, 38] [0, 1, 2, 3, 4, 5] <| .lp1 <| .r1 [1, 2, 4, 5, 37, 38, 39] [0, 1, 2, 3, 4, 5] <| .ct true none <| .r1 [1, 2, 4, 5, 7, 37, 38] [0, 1, 2, 3, 4, 5] <| .exb fun r5 => .ex fun b24 => .ex fun b25 => .exl fun b26 => .ex fun b27 => .ex fun b28 => .ex fun b29 => .ex fun b30 => .ex fun b31 => .ex fun b32 => .ex fun b33 => .ex fun b34 => .exb fun b35 => .exm fun m6 => .exm fun m7 => .exm fun m8 => .reg 0 [(1, Or.callO [0, 3, 4, 5] (vD (dB r5)) [some (Obj.box [sD (dI b24), sD (dI b25), sD (dL b26), sD (dI b27), sD (dI b28), S.ref 1, sD (dI b29), sD (dI b30), S.ref 2, sD (dI b31), sD (dI b32), S.ref 3, sD (dI b33), sD (dI b34), sD (dB b35)]), some (Obj.mat 2 m6), some (Obj.mat 2 m7), some (Obj.mat 2 m8)], 0, 0)] [1, 2, 4, 5, 37, 38, 42] [0, 1, 2, 3, 4, 5] [] <| .c2 (.exb fun r6 => .reg 0 [(1, Or.callB [3, 4, 5] [] (vD (dB r6)), 0, 0)] [1, 2, 4, 5] [0, 1, 2, 3, 4, 5] [] <| .r1 [1, 2, 4, 5] [0, 1, 2, 3, 4, 5] <| .bk 0 [.i b24, .i b25, .i b32, .i b33, .i b34, .b r6, .l b26, .i b27, .i b28, .i b29, .i b30, .i b31, .m m6, .m m7, .m m8, .i (IntKind.i64.wrap (budget1 - (1 : Int)))]) (.r1 [1, 2, 4, 5, 37, 38] [0, 1, 2, 3, 4, 5] <| .lp1 <| .r1 [1, 2, 4, 5, 37, 38, 39] [0, 1, 2, 3, 4, 5] <| .ct true none <| .r1 [1, 2, 4, 5, 7, 37, 38] [0, 1, 2, 3, 4, 5] <| .exb fun r7 => .ex fun b36 => .ex fun b37 => .exl fun b38 => .ex fun b39 => .ex fun b40 => .ex fun b41 => .ex fun b42 => .ex fun b43 => .ex fun b44 => .ex fun b45 => .ex fun b46 => .exb fun b47 => .exm fun m9 => .exm fun m10 => .exm fun m11 => .reg 0 [(1, Or.callO [0, 3, 4, 5] (vD (dB r7)) [some (Obj.box [sD (dI b36), sD (dI b37), sD (dL b38), sD (dI b39), sD (dI b40), S.ref 1, sD (dI b41), sD (dI b42), S.ref 2, sD (dI b43), sD (dI b44), S.ref 3, sD (dI b45), sD (dI b46), sD (dB b47)]), some (Obj.mat 2 m9), some (Obj.mat 2 m10), some (Obj.mat 2 m11)], 0, 0)] [1, 2, 4, 5, 37, 38, 42] [0, 1, 2, 3, 4, 5] [] <| .c2 (.exb fun r8 => .reg 0 [(1, Or.callB [3, 4, 5] [] (vD (dB r8)), 0, 0)] [1, 2, 4, 5] [0, 1, 2, 3, 4, 5] [] <| .r1 [1, 2, 4, 5] [0, 1, 2, 3, 4, 5] <| .bk 0 [.i b36, .i b37, .i b44, .i b45, .i b46, .b r8, .l b38, .i b39, .i b40, .i b41, .i b42, .i b43, .m m9, .m m10, .m m11, .i (IntKind.i64.wrap (budget1 - (1 : Int)))]) (.r1 [1, 2, 4, 5, 37, 38] [0, 1, 2, 3, 4, 5] <| .lp1 <| .r1 [1, 2, 4, 5, 37, 38, 39] [0, 1, 2, 3, 4, 5] <| .ct true none <| .r1 [1, 2, 4, 5, 7, 37, 38] [0, 1, 2, 3, 4, 5] <| .exb fun r9 => .ex fun b48 => .ex fun b49 => .exl fun b50 => .ex fun b51 => .ex fun b52 => .ex fun b53 => .ex fun b54 => .ex fun b55 => .ex fun b56 => .ex fun b57 => .ex fun b58 => .exb fun b59 => .exm fun m12 => .exm fun m13 => .exm fun m14 => .reg 0 [(1, Or.callO [0, 3, 4, 5] (vD (dB r9)) [some (Obj.box [sD (dI b48), sD (dI b49), sD (dL b50), sD (dI b51), sD (dI b52), S.ref 1, sD (dI b53), sD (dI b54), S.ref 2, sD (dI b55), sD (dI b56), S.ref 3, sD (dI b57), sD (dI b58), sD (dB b59)]), some (Obj.mat 2 m12), some (Obj.mat 2 m13), some (Obj.mat 2 m14)], 0, 0)] [1, 2, 4, 5, 37, 38, 42] [0, 1, 2, 3, 4, 5] [] <| .c2 (.exb fun r10 => .reg 0 [(1, Or.callB [3, 4, 5] [] (vD (dB r10)), 0, 0)] [1, 2, 4, 5] [0, 1, 2, 3, 4, 5] [] <| .r1 [1, 2, 4, 5] [0, 1, 2, 3, 4, 5] <| .bk 0 [.i b48, .i b49, .i b56, .i b57, .i b58, .b r10, .l b50, .i b51, .i b52, .i b53, .i b54, .i b55, .m m12, .m m13, .m m14, .i (IntKind.i64.wrap (budget1 - (1 : Int)))]) (.r1 [1, 2, 4, 5, 37, 38] [0, 1, 2, 3, 4, 5] <| .lp1 <| .r1 [1, 2, 4, 5, 37, 38, 39] [0, 1, 2, 3, 4, 5] <| .ct false none <| .exb fun r13 => .reg 0 [(1, Or.callB [3, 4, 5] [] (vD (dB r13)), 0, 0)] [1, 2, 4, 5] [0, 1, 2, 3, 4, 5] [] <| .r1 [1, 2, 4, 5] [0, 1, 2, 3, 4, 5] <| .bk 0 [.i b48, .i b49, .i b56, .i b57, .i b58, .b r13, .l b50, .i b51, .i b52, .i b53, .i b54, .i b55, .m m12, .m m13, .m m14, .i (IntKind.i64.wrap (budget1 - (1 : Int)))])))))) (.r1 [4] [1, 3, 4, 5] <| .frz [1, 2, 3] <| .ret [])) (.reg 0 [(2, Or.bool false, 0, 0)] [1, 2, 4, 5, 34] [0, 1, 2, 3, 4, 5] [.old 0] <| .ct false none <| .r1 [4] [1, 3, 4, 5] <| .frz [1, 2, 3] <| .ret []))))
    (by kernel_rfl) (by kernel_rfl) (by kernel_rfl) h
end Go.AM
/- Package step: Start, Step. -/
namespace Go.AM
open Go.Proofs.Tryz
abbrev idM (r : Nat) : List (List Int) := table r r delta
def eS (r c : Nat) (A : List (List Int)) (s : PS) : V := eP r c A (apL r c s.d A) (apL r r s.d (idM r)) (apCL r s.d (idM r)) s.t s.k (s.fin r c)
structure PSx (r c N L : Nat) (A : List (List Int)) : Prop where
  hm : Mx r c A
  km : BdM N A
  N1 : 1 ≤ N
  big : (N * qB r N c) * (N * qB r N c) * 4294967296 < 4294967296 ^ L
  hL : L ≤ 1073741824
  hr : r ≤ 4294967296
  hc : c ≤ 4294967296
theorem idM_bd (r : Nat) : BdM 1 (idM r) := table_bd fun i j _ _ => by unfold delta; split <;> decide
theorem finB_eq (r c : Nat) (s : PS) : s.fin r c = finB r c s.t s.k := rfl
theorem apCL_snoc {n : Nat} (d : List Opz) (o : Opz) (m : List (List Int)) : apCL n (d ++ [o]) m = apC n o (apCL n d m) := by rw [apCL_append]; rfl
section
variable {r c N L : Nat} {A : List (List Int)} (X : PSx r c N L A)
include X
theorem PSx.sz {y : Int} (h : y.natAbs ≤ N * qB r N c) : Sz y := by
  refine Sz.of_lt L X.hL (Nat.lt_of_le_of_lt (Nat.le_trans (Nat.le_trans h (kk_le _)) (Nat.le_mul_of_pos_right _ (by decide))) X.big)
theorem PSx.bds {s : PS} (h : PInv r c N A s) : BdM (N * qB r N c) (apL r c s.d A) ∧ BdM (N * qB r N c) (apL r r s.d (idM r)) ∧ BdM (N * qB r N c) (apCL r s.d (idM r)) := by
  have h1 : gL s.d * 1 ≤ N * qB r N c := by
    have := Nat.mul_le_mul X.N1 h.ge
    rw [Nat.mul_one]; rwa [Nat.one_mul] at this
  refine ⟨(apL_g h.va X.hm X.km).mono ?_, (apL_g h.va (table_mx _ _ _) (idM_bd r)).mono h1, (apCL_g h.va (table_mx _ _ _) (idM_bd r)).mono h1⟩
  rw [Nat.mul_comm]; exact Nat.mul_le_mul_left _ h.ge
theorem PSx.px {s : PS} (h : PInv r c N A s) (ht : s.t < r) (hk : s.k < c) : PCx r c (N * qB r N c) L (apL r c s.d A) (apL r r s.d (idM r)) (apCL r s.d (idM r)) s.t s.k := by
  obtain ⟨h1, h2, h3⟩ := X.bds h
  exact ⟨apL_mx _ X.hm, apL_mx _ (table_mx _ _ _), apCL_mx _ (table_mx _ _ _), h1, h2, h3, ht, hk, X.big, X.hL, X.hr, X.hc⟩
theorem pstart_ok : FnD prog 10 [eM r c A] (eS r c A ⟨[], 0, 0⟩) [] := by
  refine vc10_ok _ _ _ (R := Out _) ?_
  unfold vc10
  exact ⟨_, _, _, _, _, _, mident_ok X.hr, mident_ok X.hr, _, fin_ok (t := 0) (k := 0), rfl, rfl⟩
theorem rstart_ok : FnD prog 12 [eM r c A] (eS r c A ⟨[], 0, 0⟩) [] := by
  refine vc12_ok _ _ _ (R := Out _) ?_
  unfold vc12
  refine ⟨_, _, _, _, _, _, rident_ok X.hr, rident_ok X.hr, ?_⟩
  rw [matD_om]
  exact ⟨_, rfin_ok (t := 0) (k := 0), rfl, rfl⟩
omit X in
def Sp0 (r c N : Nat) (A : List (List Int)) (S : PS) (p0 p1 p10 p12 p13 : Int) (p14 : Bool) (p2 : DL) (p3 p4 p6 p7 p9 : Int) (o3 o4 o5 : DLL) (z : Int) : Prop :=
  ∃ (s : PS) (n : Nat), (p0 = r ∧ p1 = c ∧ p10 = r ∧ p12 = s.t ∧ p13 = s.k ∧ p14 = finB r c s.t s.k ∧ p2 = rows A ∧ p3 = r ∧ p4 = c ∧ p6 = r ∧ p7 = r ∧ p9 = r ∧ o3 = om (apL r c s.d A) ∧ o4 = om (apL r r s.d (idM r)) ∧ o5 = om (apCL r s.d (idM r)) ∧ z = (n : Int)) ∧
    n ≤ 4611686018427387904 ∧ PInv r c N A s ∧ s.run r c A n = S
omit X in
abbrev Spm (_ _ _ _ _ : Int) (_ : Bool) (_ : DL) (_ _ _ _ _ : Int) (_ _ _ : DLL) (z : Int) : Nat := z.toNat
set_option maxRecDepth 100000 in
theorem pstep_ok {s0 : PS} (h0 : PInv r c N A s0) {n0 : Int} (hn0 : n0 ≤ 4611686018427387904) : FnD prog 13 [eS r c A s0, vi n0] (eS r c A (s0.run r c A n0.toNat)) [] := by
  refine vc13_ok _ _ _ _ _ _ _ _ _ _ _ _ _ _ _ _ (R := Out _) ?_
  unfold vc13
  refine ⟨fun h => ?_, fun h => ⟨fun hf => ?_, fun hf => ?_⟩⟩
  · have h1 : n0 ≤ 0 := by simpa using h
    rw [show n0.toNat = 0 by omega]
    exact ⟨rfl, rfl⟩
  · rw [PS.run_fin hf]
    exact ⟨rfl, rfl⟩
  have hn : 0 < n0 := by have := of_decide_eq_false h; omega
  clear h
  have hr := X.hr; have hc := X.hc
  refine ⟨_, _, _, _, _, _, _, _, _, pcopied_ok (apL_mx _ X.hm) hr hc, pcopied_ok (apL_mx _ (table_mx _ _ _)) hr hr, pcopied_ok (apCL_mx _ (table_mx _ _ _)) hr hr, vc33_ok (R := Out _) (by unfold vc33; exact ⟨rfl, rfl⟩), ?_⟩
  refine ⟨Sp0 r c N A (s0.run r c A n0.toNat), Spm, ⟨s0, n0.toNat, ⟨rfl, rfl, rfl, rfl, rfl, rfl, rfl, rfl, rfl, rfl, rfl, rfl, rfl, rfl, rfl, by omega⟩, by omega, h0, rfl⟩, ?_⟩
  generalize s0.run r c A n0.toNat = S
  clear hf h0 hn hn0
  rintro _ _ _ _ _ _ _ _ _ _ _ _ _ _ _ _ ⟨s, n, ⟨rfl, rfl, rfl, rfl, rfl, rfl, rfl, rfl, rfl, rfl, rfl, rfl, rfl, rfl, rfl, rfl⟩, hn, hi, hS⟩
  have done : s.run r c A n = s → (fun x y => Out (eS r c A S) x y) (vA [(sD (dI r)), (sD (dI c)), (sD (dL (rows A))), (sD (dI r)), (sD (dI c)), (sD (dL (matD (om (apL r c s.d A))))), (sD (dI r)), (sD (dI r)), (sD (dL (matD (om (apL r r s.d (idM r)))))), (sD (dI r)), (sD (dI r)), (sD (dL (matD (om (apCL r s.d (idM r)))))), (sD (dI s.t)), (sD (dI s.k)), (sD (dB (finB r c s.t s.k)))]) [] := fun h => by
    rw [← hS, h, matD_om, matD_om, matD_om]
    exact ⟨rfl, rfl⟩
  refine ⟨fun h => ⟨fun h2 => ?_, fun h2 => ?_⟩, fun h => ?_⟩
  rotate_left
  · have hf : s.fin r c = true := by rw [finB_eq]; simpa using h2
    exact done (PS.run_fin hf n)
  · have : n = 0 := by have := of_decide_eq_false h; omega
    subst this
    exact done rfl
  have hf : s.fin r c = false := by rw [finB_eq]; simpa using h2
  obtain ⟨n, rfl⟩ : ∃ n', n = n' + 1 := ⟨n - 1, by have := of_decide_eq_true h; omega⟩
  have htk : s.t < r ∧ s.k < c := by
    have hf' := hf
    simp only [PS.fin, Bool.or_eq_false_iff, decide_eq_false_iff_not] at hf'
    omega
  obtain ⟨ht, hk⟩ := htk
  have hrun : (s.next r c A).run r c A n = S := by
    rw [← hS]; simp only [PS.run, hf]; rfl
  have hinv := hi.next X.hm X.km ht hk
  have P := X.px hi ht hk
  have hw : IntKind.i64.wrap (((n + 1 : Nat) : Int) - 1) = (n : Int) := by rw [w64 (by omega) (by omega)]; omega
  have hnx := nx_ok (cc := c) (a := A) ht
  clear h h2 hf done hS
  rw [hw]
  have nx : ∀ s', PInv r c N A s' → s'.run r c A n = S → Sp0 r c N A S r c r s'.t s'.k (finB r c s'.t s'.k) (rows A) r c r r r (om (apL r c s'.d A)) (om (apL r r s'.d (idM r))) (om (apCL r s'.d (idM r))) (n : Int) ∧ (n : Int).toNat < ((n + 1 : Nat) : Int).toNat :=
    fun s' g1 g2 => ⟨⟨s', n, ⟨rfl, rfl, rfl, rfl, rfl, rfl, rfl, rfl, rfl, rfl, rfl, rfl, rfl, rfl, rfl, rfl⟩, by omega, g1, g2⟩, by omega⟩
  have fin' : ∀ {m u v : List (List Int)} {t k : Nat} {b : Bool}, FnD prog 29 [vA [(sD (dI r)), (sD (dI c)), (sD (dL (rows A))), (sD (dI r)), (sD (dI c)), (sD (dL (matD (om m)))), (sD (dI r)), (sD (dI r)), (sD (dL (matD (om u)))), (sD (dI r)), (sD (dI r)), (sD (dL (matD (om v)))), (sD (dI t)), (sD (dI k)), (sD (dB b))]] (vb (finB r c t k)) [] := fun {m u v t k b} => by
    rw [matD_om, matD_om, matD_om]; exact fin_ok
  generalize hs' : s.next r c A = s' at hnx hrun hinv
  clear hs'
  refine ⟨⟨by decide, by decide⟩, ?_⟩
  have hskip := skip_ok P (A := A) (b := finB r c s.t s.k)
  cases hnx with
  | skip g1 g2 =>
    rw [decide_eq_true g1, if_pos g1] at hskip
    exact ⟨_, _, _, _, _, _, _, _, _, _, _, _, _, _, _, _, hskip, fun _ => ⟨_, fin', nx _ hinv hrun⟩, fun h => absurd h (by decide)⟩
  | swap p g0 g1 g2 g3 g4 =>
    have gn : ¬ lsF (apL r c s.d A) s.k s.t (r - s.t) < 0 := by rw [g0]; omega
    rw [decide_eq_false gn, if_neg gn] at hskip
    have h2 := exch_yes P (A := A) (b := finB r c s.t s.k) g0 g2 (by omega)
    rw [← apL_snoc, ← apL_snoc, ← apCL_snoc] at h2
    refine ⟨_, _, _, _, _, _, _, _, _, _, _, _, _, _, _, _, hskip, fun h => absurd h (by decide), fun _ => ⟨⟨by decide, by decide⟩, ?_⟩⟩
    exact ⟨_, _, _, _, _, _, _, _, _, _, _, _, _, _, _, _, h2, fun _ => ⟨_, fin', nx _ hinv hrun⟩, fun h => absurd h (by decide)⟩
  | neg g0 g1 g4 =>
    have gn : ¬ lsF (apL r c s.d A) s.k s.t (r - s.t) < 0 := by rw [g0]; omega
    rw [decide_eq_false gn, if_neg gn] at hskip
    have h2 := exch_no P (A := A) (b := finB r c s.t s.k) g0
    have h3 := neg_yes P (A := A) (b := finB r c s.t s.k) g1
    rw [← apL_snoc, ← apL_snoc, ← apCL_snoc] at h3
    refine ⟨_, _, _, _, _, _, _, _, _, _, _, _, _, _, _, _, hskip, fun h => absurd h (by decide), fun _ => ⟨⟨by decide, by decide⟩, ?_⟩⟩
    refine ⟨_, _, _, _, _, _, _, _, _, _, _, _, _, _, _, _, h2, fun h => absurd h (by decide), fun _ => ⟨⟨by decide, by decide⟩, ?_⟩⟩
    exact ⟨_, _, _, _, _, _, _, _, _, _, _, _, _, _, _, _, h3, fun _ => ⟨_, fin', nx _ hinv hrun⟩, fun h => absurd h (by decide)⟩
  | add i g0 g1 g4 ho hir hne hq =>
    have gn : ¬ lsF (apL r c s.d A) s.k s.t (r - s.t) < 0 := by rw [g0]; omega
    rw [decide_eq_false gn, if_neg gn] at hskip
    have h2 := exch_no P (A := A) (b := finB r c s.t s.k) g0
    have h3 := neg_no P (A := A) (b := finB r c s.t s.k) g1
    have h4 := red_yes P (A := A) (b := finB r c s.t s.k) (by omega) hir hne hq (opnL_inv ho).2.2.2
    rw [← apL_snoc, ← apL_snoc, ← apCL_snoc] at h4
    refine ⟨_, _, _, _, _, _, _, _, _, _, _, _, _, _, _, _, hskip, fun h => absurd h (by decide), fun _ => ⟨⟨by decide, by decide⟩, ?_⟩⟩
    refine ⟨_, _, _, _, _, _, _, _, _, _, _, _, _, _, _, _, h2, fun h => absurd h (by decide), fun _ => ⟨⟨by decide, by decide⟩, ?_⟩⟩
    refine ⟨_, _, _, _, _, _, _, _, _, _, _, _, _, _, _, _, h3, fun h => absurd h (by decide), fun _ => ⟨⟨by decide, by decide⟩, ?_⟩⟩
    exact ⟨_, _, _, _, _, _, _, _, _, _, _, _, _, _, _, _, h4, fun _ => ⟨_, fin', nx _ hinv hrun⟩, fun h => absurd h (by decide)⟩
  | adv g0 g1 ho hz =>
    have gn : ¬ lsF (apL r c s.d A) s.k s.t (r - s.t) < 0 := by rw [g0]; omega
    rw [decide_eq_false gn, if_neg gn] at hskip
    have h2 := exch_no P (A := A) (b := finB r c s.t s.k) g0
    have h3 := neg_no P (A := A) (b := finB r c s.t s.k) g1
    have h4 := red_no P (A := A) (b := finB r c s.t s.k) (by omega) hz
    have h5 := advance_ok P (A := A) (b := finB r c s.t s.k)
    refine ⟨_, _, _, _, _, _, _, _, _, _, _, _, _, _, _, _, hskip, fun h => absurd h (by decide), fun _ => ⟨⟨by decide, by decide⟩, ?_⟩⟩
    refine ⟨_, _, _, _, _, _, _, _, _, _, _, _, _, _, _, _, h2, fun h => absurd h (by decide), fun _ => ⟨⟨by decide, by decide⟩, ?_⟩⟩
    refine ⟨_, _, _, _, _, _, _, _, _, _, _, _, _, _, _, _, h3, fun h => absurd h (by decide), fun _ => ⟨⟨by decide, by decide⟩, ?_⟩⟩
    refine ⟨_, _, _, _, _, _, _, _, _, _, _, _, _, _, _, _, h4, fun h => absurd h (by decide), fun _ => ⟨⟨by decide, by decide⟩, ?_⟩⟩
    exact ⟨_, _, _, _, _, _, _, _, _, _, _, _, _, _, _, _, h5, fun _ => ⟨_, fin', nx _ hinv hrun⟩, fun h => absurd h (by decide)⟩
end
end Go.AM
/- torsionref21: next, Step, Cost, Same; package step: Cost. -/
namespace Go.AM
open Go.Proofs.Tryz
section
variable {r c N L : Nat} {A : List (List Int)} (X : PSx r c N L A)
include X
theorem rnext_ok {s : PS} (hi : PInv r c N A s) (ht : s.t < r) (hk : s.k < c) {b : Bool} :
    FnD prog 34 [eP r c A (apL r c s.d A) (apL r r s.d (idM r)) (apCL r s.d (idM r)) s.t s.k b] (eS r c A (s.next r c A)) [] := by
  refine vc34_ok _ _ _ _ _ _ _ _ _ _ _ _ _ _ _ (R := Out _) ?_
  unfold vc34
  have P := X.px hi ht hk
  have hr := X.hr; have hc := X.hc
  have hm := P.hm
  have sz : ∀ {y : Int}, y.natAbs ≤ N * qB r N c → Sz y := fun h => X.sz h
  have rfin' : ∀ {m u v : List (List Int)} {t k : Nat} {b : Bool}, FnD prog 31 [vA [(sD (dI r)), (sD (dI c)), (sD (dL (rows A))), (sD (dI r)), (sD (dI c)), (sD (dL (matD (om m)))), (sD (dI r)), (sD (dI r)), (sD (dL (matD (om u)))), (sD (dI r)), (sD (dI r)), (sD (dL (matD (om v)))), (sD (dI t)), (sD (dI k)), (sD (dB b))]] (vb (finB r c t k)) [] := fun {m u v t k b} => by
    rw [matD_om, matD_om, matD_om]; exact rfin_ok
  have out : ∀ s', s' = s.next r c A → (fun x y => Out (eS r c A (s.next r c A)) x y) (vA [(sD (dI r)), (sD (dI c)), (sD (dL (rows A))), (sD (dI r)), (sD (dI c)), (sD (dL (matD (om (apL r c s'.d A))))), (sD (dI r)), (sD (dI r)), (sD (dL (matD (om (apL r r s'.d (idM r)))))), (sD (dI r)), (sD (dI r)), (sD (dL (matD (om (apCL r s'.d (idM r)))))), (sD (dI s'.t)), (sD (dI s'.k)), (sD (dB (finB r c s'.t s'.k)))]) [] := fun s' h => by
    rw [← h, matD_om, matD_om, matD_om]
    exact ⟨rfl, rfl⟩
  have ls := rls P (A := A) (b := b)
  refine ⟨_, _, _, _, _, _, _, _, _, rcopied_ok P.hm (fun _ _ h1 h2 => sz (el_bd P.hm P.km h1 h2)) hr hc, rcopied_ok P.hu (fun _ _ h1 h2 => sz (el_bd P.hu P.ku h1 h2)) hr hr, rcopied_ok P.hv (fun _ _ h1 h2 => sz (el_bd P.hv P.kv h1 h2)) hr hr, _, ls, ?_⟩
  have hnx := nx_ok (cc := c) (a := A) ht
  generalize s.next r c A = s' at hnx out ⊢
  cases hnx with
  | skip g1 g2 =>
    refine ⟨fun _ => ?_, fun h => absurd g1 (of_decide_eq_false h)⟩
    rw [inc64 (by omega)]
    exact ⟨_, rfin', out _ rfl⟩
  | swap p g0 g1 g2 g3 g4 =>
    refine ⟨fun h => ?_, fun _ => ⟨fun _ => ?_, fun h => ?_⟩⟩
    · have := of_decide_eq_true h; rw [g0] at this; omega
    · have h2 := wswap_ok (vO_swap g2 ht (by omega)) rfl P.hm P.hu P.hv hr
      rw [← apL_snoc, ← apL_snoc, ← apCL_snoc] at h2
      rw [g0]
      exact ⟨_, _, _, _, _, _, _, _, _, h2, _, rfin', out _ rfl⟩
    · rw [g0] at h
      have : (p : Int) = (s.t : Int) := by simpa using h
      omega
  | neg g0 g1 g4 =>
    obtain ⟨d1, d2, d3, d4⟩ := read_el hm ht hk
    refine ⟨fun h => ?_, fun _ => ⟨fun h => ?_, fun h => ?_⟩⟩
    · have := of_decide_eq_true h; rw [g0] at this; omega
    · rw [g0] at h; simp at h
    refine ⟨_, _, _, _, ⟨by omega, d4⟩, d1, ⟨by omega, d3⟩, d2, rsign_ok _, fun h => ?_, fun h => ?_⟩
    · have h2 := wneg_gen (vO_neg ht) rfl P.hm P.hu P.hv P.km P.ku P.kv (fun y hy => sz hy) hr hc
      rw [← apL_snoc, ← apL_snoc, ← apCL_snoc] at h2
      exact ⟨_, _, _, _, _, _, _, _, _, h2, _, rfin', out _ rfl⟩
    · rw [sgn_lt.2 g1] at h; simp at h
  | add i g0 g1 g4 ho hir hne hq =>
    obtain ⟨d1, d2, d3, d4⟩ := read_el hm ht hk
    obtain ⟨f1, f2, f3, f4⟩ := read_el hm hir hk
    refine ⟨fun h => ?_, fun _ => ⟨fun h => ?_, fun h => ?_⟩⟩
    · have := of_decide_eq_true h; rw [g0] at this; omega
    · rw [g0] at h; simp at h
    refine ⟨_, _, _, _, ⟨by omega, d4⟩, d1, ⟨by omega, d3⟩, d2, rsign_ok _, fun h => ?_, fun h => ?_⟩
    · have := sgn_lt.1 h; omega
    have hop := ropen_ok P (A := A) (b := b) g1 g4
    have e : opI r s.k s.t (apL r c s.d A) = (i : Int) := by unfold opI; rw [ho]
    rw [e] at hop
    have hqK : (el (apL r c s.d A) i s.k / el (apL r c s.d A) s.t s.k).natAbs ≤ N * qB r N c := by
      have h1 := Int.natAbs_ediv_le_natAbs (el (apL r c s.d A) i s.k) (el (apL r c s.d A) s.t s.k)
      exact Nat.le_trans h1 (el_bd P.hm P.km hir hk)
    have hzK : (-(el (apL r c s.d A) i s.k / el (apL r c s.d A) s.t s.k)).natAbs ≤ N * qB r N c := by rw [Int.natAbs_neg]; exact hqK
    have h2 := wadd_gen (vO_add (z := -(el (apL r c s.d A) i s.k / el (apL r c s.d A) s.t s.k)) hir ht hne) rfl P.hm P.hu P.hv P.km P.ku P.kv (sz hzK) (fun y hy => ⟨sz hy, P.sz2 (by rw [Int.natAbs_mul]; exact Nat.mul_le_mul hzK hy)⟩) hr hc
    rw [← apL_snoc, ← apL_snoc, ← apCL_snoc] at h2
    refine ⟨_, hop, fun h => ?_, fun _ => ?_⟩
    · have := of_decide_eq_true h; omega
    exact ⟨_, _, _, _, _, _, _, _, _, _, _, _, _, _, _, _, ⟨by omega, f4⟩, f1, ⟨by omega, f3⟩, f2,
      floor_ok (by omega) (P.lt (el_bd P.hm P.km hir hk)) (P.lt (el_bd P.hm P.km ht hk)) P.hL, rneg_ok (sz hqK), h2, _, rfin', out _ rfl⟩
  | adv g0 g1 ho hz =>
    obtain ⟨d1, d2, d3, d4⟩ := read_el hm ht hk
    refine ⟨fun h => ?_, fun _ => ⟨fun h => ?_, fun h => ?_⟩⟩
    · have := of_decide_eq_true h; rw [g0] at this; omega
    · rw [g0] at h; simp at h
    refine ⟨_, _, _, _, ⟨by omega, d4⟩, d1, ⟨by omega, d3⟩, d2, rsign_ok _, fun h => ?_, fun h => ?_⟩
    · have := sgn_lt.1 h; omega
    have hle : ∀ i, s.t ≤ i → i < r → el (apL r c s.d A) i s.k ≠ 0 → (el (apL r c s.d A) s.t s.k).natAbs ≤ (el (apL r c s.d A) i s.k).natAbs := fun i a1 a2 a3 => by
      rcases lsF_ok (m := apL r c s.d A) (c := s.k) (top := s.t) (r - s.t) with ⟨b1, _⟩ | ⟨p, b1, _, _, _, b5⟩
      · rw [b1] at g0; omega
      · have hpt : p = s.t := by rw [b1] at g0; omega
        subst hpt
        exact b5 i a1 (by omega) a3
    have hop := ropen_ok P (A := A) (b := b) g1 hle
    have e : opI r s.k s.t (apL r c s.d A) = -1 := by unfold opI; rw [ho]
    rw [e] at hop
    refine ⟨_, hop, fun _ => ?_, fun h => absurd h (by decide)⟩
    rw [inc64 (by omega), inc64 (by omega)]
    exact ⟨_, rfin', out _ rfl⟩
omit X in
def St0 (r c N : Nat) (A : List (List Int)) (p0 p1 p10 : Int) (p11 : DL) (p12 p13 : Int) (p14 : Bool) (p2 : DL) (p3 p4 : Int) (p5 : DL) (p6 p7 : Int) (p8 : DL) (p9 : Int) (s : PS) : Prop :=
  (p0 = r ∧ p1 = c ∧ p10 = r ∧ p11 = rows (apCL r s.d (idM r)) ∧ p12 = s.t ∧ p13 = s.k ∧ p14 = s.fin r c ∧ p2 = rows A ∧ p3 = r ∧ p4 = c ∧ p5 = rows (apL r c s.d A) ∧ p6 = r ∧ p7 = r ∧ p8 = rows (apL r r s.d (idM r)) ∧ p9 = r) ∧ PInv r c N A s
theorem rstep_ok {s0 : PS} (h0 : PInv r c N A s0) {n0 : Int} (hn0 : n0 ≤ 4611686018427387904) : FnD prog 14 [eS r c A s0, vi n0] (eS r c A (s0.run r c A n0.toNat)) [] := by
  refine vc14_ok _ _ _ _ _ _ _ _ _ _ _ _ _ _ _ _ (R := Out _) ?_
  unfold vc14
  refine ⟨fun p0 p1 p10 p11 p12 p13 p14 p2 p3 p4 p5 p6 p7 p8 p9 z => ∃ (s : PS) (n : Nat), St0 r c N A p0 p1 p10 p11 p12 p13 p14 p2 p3 p4 p5 p6 p7 p8 p9 s ∧ z = (n : Int) ∧ n ≤ n0.toNat ∧ s.run r c A (n0.toNat - n) = s0.run r c A n0.toNat,
    fun _ _ _ _ _ _ _ _ _ _ _ _ _ _ _ z => (n0 - z).toNat, ⟨s0, 0, ⟨⟨rfl, rfl, rfl, rfl, rfl, rfl, rfl, rfl, rfl, rfl, rfl, rfl, rfl, rfl, rfl⟩, h0⟩, rfl, by omega, rfl⟩, ?_⟩
  rintro _ _ _ _ _ _ _ _ _ _ _ _ _ _ _ _ ⟨s, n, ⟨⟨rfl, rfl, rfl, rfl, rfl, rfl, rfl, rfl, rfl, rfl, rfl, rfl, rfl, rfl, rfl⟩, hi⟩, rfl, hn, hS⟩
  generalize s0.run r c A n0.toNat = S at hS ⊢
  have done : s.run r c A (n0.toNat - n) = s → (fun x y => Out (eS r c A S) x y) (eS r c A s) [] := fun h => by
    rw [← hS, h]; exact ⟨rfl, rfl⟩
  refine ⟨fun h => ⟨fun h2 => ?_, fun h2 => ?_⟩, fun h => ?_⟩
  rotate_left
  · have hf : s.fin r c = true := by simpa using h2
    exact done (PS.run_fin hf _)
  · have : n0.toNat - n = 0 := by have := of_decide_eq_false h; omega
    exact done (by rw [this]; rfl)
  have hf : s.fin r c = false := by simpa using h2
  have hlt : (n : Int) < n0 := of_decide_eq_true h
  have hf' := hf
  simp only [PS.fin, Bool.or_eq_false_iff, decide_eq_false_iff_not] at hf'
  have hnx := rnext_ok X hi (by omega) (by omega) (b := s.fin r c)
  refine ⟨_, _, _, _, _, _, _, _, _, _, _, _, _, _, _, hnx, ?_⟩
  rw [inc64 (by omega)]
  refine ⟨⟨s.next r c A, n + 1, ⟨⟨rfl, rfl, rfl, rfl, rfl, rfl, rfl, rfl, rfl, rfl, rfl, rfl, rfl, rfl, rfl⟩, hi.next X.hm X.km (by omega) (by omega)⟩, rfl, by omega, ?_⟩, by show (n0 - ((n + 1 : Nat) : Int)).toNat < (n0 - (n : Int)).toNat; omega⟩
  rw [← hS]
  rw [show n0.toNat - n = (n0.toNat - (n + 1)) + 1 by omega]
  simp only [PS.run, hf]
  rfl
def IsCost (r c : Nat) (A : List (List Int)) (n : Nat) : Prop := (PS.run r c A n ⟨[], 0, 0⟩).fin r c = true ∧ ∀ k, k < n → (PS.run r c A k ⟨[], 0, 0⟩).fin r c = false
omit X in
theorem least_nat {p : Nat → Bool} : ∀ n, p n = true → ∃ k, k ≤ n ∧ p k = true ∧ ∀ j, j < k → p j = false
  | n, h => by
    by_cases he : ∃ j, j < n ∧ p j = true
    · obtain ⟨j, hj, hp⟩ := he
      obtain ⟨k, hk, h1, h2⟩ := least_nat j hp
      exact ⟨k, by omega, h1, h2⟩
    · refine ⟨n, Nat.le_refl _, h, fun j hj => ?_⟩
      cases hp : p j with
      | false => rfl
      | true => exact absurd ⟨j, hj, hp⟩ he
termination_by n => n
theorem pcost_ok {T : Nat} (hT : IsCost r c A T) (hTs : T ≤ 4611686018427387904) : FnD prog 15 [eM r c A] (vi T) [] := by
  refine vc15_ok _ _ _ (R := Out _) ?_
  unfold vc15
  refine ⟨_, _, _, _, _, _, _, _, _, _, _, _, _, _, _, pstart_ok X, ?_⟩
  refine ⟨fun p0 p1 p10 p11 p12 p13 p14 p2 p3 p4 p5 p6 p7 p8 p9 z => ∃ n : Nat, St0 r c N A p0 p1 p10 p11 p12 p13 p14 p2 p3 p4 p5 p6 p7 p8 p9 (PS.run r c A n ⟨[], 0, 0⟩) ∧ z = (n : Int) ∧ n ≤ T,
    fun _ _ _ _ _ _ _ _ _ _ _ _ _ _ _ z => ((T : Int) - z).toNat, ⟨0, ⟨⟨rfl, rfl, rfl, rfl, rfl, rfl, rfl, rfl, rfl, rfl, rfl, rfl, rfl, rfl, rfl⟩, PInv.start X.hm X.km⟩, rfl, by omega⟩, ?_⟩
  rintro _ _ _ _ _ _ _ _ _ _ _ _ _ _ _ _ ⟨n, ⟨⟨rfl, rfl, rfl, rfl, rfl, rfl, rfl, rfl, rfl, rfl, rfl, rfl, rfl, rfl, rfl⟩, hi⟩, rfl, hn⟩
  refine ⟨fun h => ?_, fun h => outi ?_⟩
  · have hf : (PS.run r c A n ⟨[], 0, 0⟩).fin r c = false := by simpa using h
    have hlt : n < T := by
      rcases Nat.lt_or_ge n T with h1 | h1
      · exact h1
      · rw [show n = T by omega, hT.1] at hf; exact absurd hf (by decide)
    have h1 := pstep_ok X hi (n0 := 1) (by decide)
    rw [show (1 : Int).toNat = 1 from rfl, ← PS.run_add] at h1
    refine ⟨_, _, _, _, _, _, _, _, _, _, _, _, _, _, _, h1, ?_⟩
    rw [inc64 (by omega)]
    exact ⟨⟨n + 1, ⟨⟨rfl, rfl, rfl, rfl, rfl, rfl, rfl, rfl, rfl, rfl, rfl, rfl, rfl, rfl, rfl⟩, PInv.run X.hm X.km _ (PInv.start X.hm X.km)⟩, rfl, by omega⟩, by show ((T : Int) - ((n + 1 : Nat) : Int)).toNat < ((T : Int) - (n : Int)).toNat; omega⟩
  · have hf : (PS.run r c A n ⟨[], 0, 0⟩).fin r c = true := by simpa using h
    have : n = T := by
      rcases Nat.lt_or_ge n T with h1 | h1
      · rw [hT.2 n h1] at hf; exact absurd hf (by decide)
      · omega
    rw [this]
end
theorem psame_ok {r c : Nat} {A m u v : List (List Int)} {t k : Nat} {b : Bool} (hA : Mx r c A) (hm : Mx r c m) (hu : Mx r r u) (hv : Mx r r v) (sA : SzM A) (sm : SzM m) (su : SzM u) (sv : SzM v) (hr : r ≤ 4294967296) (hc : c ≤ 4294967296) :
    FnD prog 11 [eP r c A m u v t k b, eP r c A m u v t k b] (vb true) [] := by
  refine vc11_ok _ _ _ _ _ _ _ _ _ _ _ _ _ _ _ _ _ _ _ _ _ _ _ _ _ _ _ _ _ _ (R := Out _) ?_
  unfold vc11
  have same : ∀ {c' : Nat} {x : List (List Int)}, Mx r c' x → SzM x → c' ≤ 4294967296 → FnD prog 22 [eM r c' x, eM r c' x] (vb true) [] := fun {c' x} hx sx hc' => by
    have := same_ok (r := r) (c := c') (r' := r) (c' := c') sx sx (by rw [hx.1]; exact hr) fun y hy => by rw [hx.2 y hy]; exact hc'
    rw [show decide ((r : Int) = r ∧ (c' : Int) = c' ∧ x = x) = true from decide_eq_true ⟨rfl, rfl, rfl⟩] at this
    exact this
  refine ⟨_, same hA sA hc, fun _ => ⟨_, same hm sm hc, fun _ => ⟨_, same hu su hr, fun _ => ⟨_, same hv sv hr, fun _ => ⟨fun _ => ⟨fun _ => outb ?_, fun h => ?_⟩, fun h => ?_⟩, fun h => absurd h (by decide)⟩, fun h => absurd h (by decide)⟩, fun h => absurd h (by decide)⟩, fun h => absurd h (by decide)⟩
  · simp
  · simp at h
  · simp at h
end Go.AM
