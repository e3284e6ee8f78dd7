/- Hermite normal forms in small steps, in plain Lean: the steps, how much they let the elements grow, that they end. -/
import Derived.Test.YtipnbapgfbghgaaGreatL3
namespace Go.AM
def opnL (c top : Nat) (m : List (List Int)) (l : List Nat) : Option Nat := l.find? fun i => decide (i ≠ top) && decide (el m i c / el m top c ≠ 0)
def nx1 (r c top : Nat) (m : List (List Int)) : Option Opz × Nat × Nat :=
  if lsF m c top (r - top) < 0 then (none, top, c + 1)
  else if lsF m c top (r - top) ≠ (top : Int) then (some (swapO (lsF m c top (r - top)).toNat top), top, c)
  else if el m top c < 0 then (some (negO top), top, c)
  else match opnL c top m (List.range r) with
    | some i => (some (addO i top (-(el m i c / el m top c))), top, c)
    | none => (none, top + 1, c + 1)
structure PS where
  d : List Opz
  t : Nat
  k : Nat
def PS.fin (r cc : Nat) (s : PS) : Bool := decide (r ≤ s.t) || decide (cc ≤ s.k)
def PS.next (r cc : Nat) (a : List (List Int)) (s : PS) : PS := ⟨s.d ++ (nx1 r s.k s.t (apL r cc s.d a)).1.toList, (nx1 r s.k s.t (apL r cc s.d a)).2.1, (nx1 r s.k s.t (apL r cc s.d a)).2.2⟩
def PS.run (r cc : Nat) (a : List (List Int)) : Nat → PS → PS
  | 0, s => s
  | n + 1, s => if s.fin r cc then s else PS.run r cc a n (s.next r cc a)
theorem PS.run_fin {r cc : Nat} {a : List (List Int)} {s : PS} (h : s.fin r cc = true) : ∀ n, s.run r cc a n = s
  | 0 => rfl
  | n + 1 => by simp [PS.run, h]
theorem PS.run_add {r cc : Nat} {a : List (List Int)} : ∀ (n k : Nat) (s : PS), s.run r cc a (n + k) = (s.run r cc a n).run r cc a k
  | 0, k, s => by rw [Nat.zero_add]; rfl
  | n + 1, k, s => by
    rw [show n + 1 + k = (n + k) + 1 by omega]
    simp only [PS.run]
    split
    · rename_i h; rw [PS.run_fin h]
    · exact PS.run_add n k _
def prodF : Nat → (Nat → Nat) → Nat
  | 0, _ => 1
  | n + 1, f => prodF n f * f n
theorem prodF_congr : ∀ {n : Nat} {f g : Nat → Nat}, (∀ i, i < n → f i = g i) → prodF n f = prodF n g
  | 0, _, _, _ => rfl
  | n + 1, f, g, h => by simp only [prodF]; rw [prodF_congr fun i hi => h i (by omega), h n (by omega)]
theorem prodF_pos : ∀ {n : Nat} {f : Nat → Nat}, (∀ i, i < n → 1 ≤ f i) → 1 ≤ prodF n f
  | 0, _, _ => Nat.le_refl _
  | n + 1, f, h => Nat.mul_le_mul (prodF_pos fun i hi => h i (by omega)) (h n (by omega))
theorem prodF_le : ∀ {n K : Nat} {f : Nat → Nat}, (∀ i, i < n → f i ≤ K) → prodF n f ≤ K ^ n
  | 0, _, _, _ => Nat.le_refl _
  | n + 1, K, f, h => by rw [Nat.pow_succ]; exact Nat.mul_le_mul (prodF_le fun i hi => h i (by omega)) (h n (by omega))
theorem prodF_one : ∀ {n k : Nat} {f g : Nat → Nat}, k < n → (∀ i, i < n → i ≠ k → g i = f i) → prodF n f * g k = prodF n g * f k
  | 0, _, _, _, h, _ => by omega
  | n + 1, k, f, g, h, he => by
    simp only [prodF]
    by_cases hk : k = n
    · subst hk
      rw [prodF_congr fun i hi => he i (by omega) (by omega)]
      rw [Nat.mul_assoc, Nat.mul_assoc, Nat.mul_comm (f k)]
    · have := prodF_one (n := n) (k := k) (f := f) (g := g) (by omega) fun i hi => he i (by omega)
      rw [he n (by omega) (Ne.symm hk), Nat.mul_right_comm, this, Nat.mul_right_comm]
theorem prodF_mul {n k x : Nat} {f g : Nat → Nat} (hk : k < n) (he : ∀ i, i < n → i ≠ k → g i = f i) (hg : x * g k ≤ f k) (hp : ∀ i, i < n → 1 ≤ g i) : x * prodF n g ≤ prodF n f := by
  have h1 := prodF_one hk he
  have h2 : x * g k * prodF n g ≤ f k * prodF n g := Nat.mul_le_mul_right _ hg
  rw [Nat.mul_comm (f k), ← h1, Nat.mul_right_comm] at h2
  exact Nat.le_of_mul_le_mul_right h2 (hp k hk)
theorem prodF_swap {n i t : Nat} {f g : Nat → Nat} (hi : i < n) (ht : t < n) (h1 : g i = f t) (h2 : g t = f i) (he : ∀ j, j < n → j ≠ i → j ≠ t → g j = f j) (hp : ∀ j, j < n → 1 ≤ f j) : prodF n g = prodF n f := by
  by_cases hit : i = t
  · subst hit
    exact prodF_congr fun j hj => by
      by_cases h : j = i
      · rw [h]; exact h1
      · exact he j hj h h
  · -- over the one where i has been replaced
    have a1 := prodF_one (n := n) (k := i) (f := f) (g := fun j => if j = i then f t else f j) hi fun j _ hj => by simp [hj]
    have a2 := prodF_one (n := n) (k := t) (f := fun j => if j = i then f t else f j) (g := g) ht fun j hj hjt => by
      by_cases h : j = i
      · simp [h, h1]
      · simp [h, he j hj h hjt]
    simp only [if_pos, if_neg (Ne.symm hit)] at a1 a2
    rw [h2, ← a1] at a2
    exact (Nat.eq_of_mul_eq_mul_right (hp t ht) a2).symm
theorem ls_top {m : List (List Int)} {c top : Nat} (h0 : el m top c ≠ 0) : ∀ n, (∀ i, top ≤ i → i < top + (n + 1) → el m i c ≠ 0 → (el m top c).natAbs ≤ (el m i c).natAbs) → lsF m c top (n + 1) = (top : Int)
  | 0, _ => by simp [lsF, lsS, h0]
  | n + 1, h => by
    rw [lsF, ls_top h0 n fun i h1 h2 h3 => h i h1 (by omega) h3]
    unfold lsS
    rw [if_neg]
    rintro ⟨h1, h2 | h2⟩
    · omega
    · rw [Int.toNat_natCast] at h2
      have := h (top + (n + 1)) (by omega) (by omega) h1
      omega
def wE (N : Nat) (x : Int) : Nat := if 0 ≤ x then x.natAbs + 1 else x.natAbs + 2 * N + 1
def psi (r c N : Nat) (m : List (List Int)) : Nat := prodF r fun i => wE N (el m i c)
theorem wE_pos (N : Nat) (x : Int) : 1 ≤ wE N x := by unfold wE; split <;> omega
theorem psi_pos {r c N : Nat} {m : List (List Int)} : 1 ≤ psi r c N m := prodF_pos fun _ _ => wE_pos _ _
theorem psi_le {r c N : Nat} {m : List (List Int)} (h : ColB r c N m) : psi r c N m ≤ (3 * N + 1) ^ r := prodF_le fun i hi => by
  have := h i hi
  unfold wE; split <;> omega
section
variable {r cc c top : Nat} {m : List (List Int)} {N : Nat} (hc : c < cc) (hA : ColB r c N m)
include hc hA
theorem swap_col {i : Nat} (ht : top < r) (hi : i < r) : ColB r c N (apO r cc (swapO i top) m) ∧ psi r c N (apO r cc (swapO i top) m) = psi r c N m := by
  have e : ∀ a, a < r → el (apO r cc (swapO i top) m) a c = if a = i then el m top c else if a = top then el m i c else el m a c := fun a ha => el_swap ha hc
  refine ⟨fun a ha => ?_, ?_⟩
  · rw [e a ha]
    split
    · exact hA _ ht
    · split
      · exact hA _ hi
      · exact hA a ha
  · refine prodF_swap hi ht ?_ ?_ (fun j hj h1 h2 => ?_) fun _ _ => wE_pos _ _
    · rw [e i hi, if_pos rfl]
    · rw [e top ht]
      by_cases h : top = i
      · rw [if_pos h, h]
      · rw [if_neg h, if_pos rfl]
    · rw [e j hj, if_neg h1, if_neg h2]
theorem neg_col (ht : top < r) (hn : el m top c < 0) : ColB r c N (apO r cc (negO top) m) ∧ psi r c N (apO r cc (negO top) m) ≤ psi r c N m := by
  have e : ∀ a, a < r → el (apO r cc (negO top) m) a c = if a = top then - el m a c else el m a c := fun a ha => by rw [el_apO ha hc]; simp [opF]
  refine ⟨fun a ha => ?_, ?_⟩
  · rw [e a ha]
    split
    · rw [Int.natAbs_neg]; exact hA a ha
    · exact hA a ha
  · have := prodF_mul (x := 1) (n := r) (k := top) (f := fun i => wE N (el m i c)) (g := fun i => wE N (el (apO r cc (negO top) m) i c)) ht (fun i hi h => by rw [e i hi, if_neg h])
      (by rw [e top ht, if_pos rfl, Nat.one_mul]; unfold wE; rw [if_pos (by omega), if_neg (by omega)]; omega) fun _ _ => wE_pos _ _
    rw [Nat.one_mul] at this
    exact this
theorem add_col {i : Nat} (ht : top < r) (hi : i < r) (hp : 0 < el m top c) :
    ColB r c N (apO r cc (addO i top (-(el m i c / el m top c))) m) ∧ gO (addO i top (-(el m i c / el m top c))) * psi r c N (apO r cc (addO i top (-(el m i c / el m top c))) m) ≤ psi r c N m ∧
    el (apO r cc (addO i top (-(el m i c / el m top c))) m) i c = el m i c % el m top c ∧ (∀ a, a < r → a ≠ i → el (apO r cc (addO i top (-(el m i c / el m top c))) m) a c = el m a c) := by
  have e : ∀ a, a < r → el (apO r cc (addO i top (-(el m i c / el m top c))) m) a c = if a = i then el m a c + -(el m i c / el m top c) * el m top c else el m a c := fun a ha => el_add ha hc
  have ei : el (apO r cc (addO i top (-(el m i c / el m top c))) m) i c = el m i c % el m top c := by rw [e i hi, if_pos rfl]; exact mod_eq _ _
  have eo : ∀ a, a < r → a ≠ i → el (apO r cc (addO i top (-(el m i c / el m top c))) m) a c = el m a c := fun a ha h => by rw [e a ha, if_neg h]
  have h1 := Int.emod_nonneg (el m i c) (by omega : el m top c ≠ 0)
  have h2 := Int.emod_lt_of_pos (el m i c) hp
  refine ⟨fun a ha => ?_, ?_, ei, eo⟩
  · by_cases h : a = i
    · rw [h, ei]; have := hA top ht; omega
    · rw [eo a ha h]; exact hA a ha
  · refine prodF_mul (n := r) (k := i) (f := fun j => wE N (el m j c)) (g := fun j => wE N (el (apO r cc (addO i top (-(el m i c / el m top c))) m) j c)) hi (fun j hj h => by rw [eo j hj h]) ?_ fun _ _ => wE_pos _ _
    rw [ei]
    simp only [gO, if_pos, Int.natAbs_neg]
    have hw : wE N (el m i c % el m top c) = (el m i c % el m top c).natAbs + 1 := by unfold wE; rw [if_pos h1]
    rw [hw]
    unfold wE
    split
    · rename_i hx; exact eu_num0 hx hp
    · have := eu_num (x := el m i c) (y := el m top c) (by omega)
      have := hA top ht
      omega
end
end Go.AM
/- Hermite normal forms in small steps, in plain Lean: what holds at every step; the steps end. -/
namespace Go.AM
def qB (r N : Nat) : Nat → Nat
  | 0 => 1
  | k + 1 => qB r N k * (3 * (N * qB r N k) + 1) ^ r
theorem qB_pos (r N : Nat) : ∀ k, 1 ≤ qB r N k
  | 0 => Nat.le_refl _
  | k + 1 => Nat.mul_le_mul (qB_pos r N k) (Nat.pow_pos (by omega))
theorem qB_step (r N k : Nat) : qB r N k ≤ qB r N (k + 1) := by
  have := Nat.mul_le_mul_left (qB r N k) (show 1 ≤ (3 * (N * qB r N k) + 1) ^ r from Nat.pow_pos (by omega))
  simpa [qB] using this
theorem qB_mono (r N : Nat) {j k : Nat} (h : j ≤ k) : qB r N j ≤ qB r N k := by
  obtain ⟨n, rfl⟩ : ∃ n, k = j + n := ⟨k - j, by omega⟩
  clear h
  induction n with
  | zero => exact Nat.le_refl _
  | succ n ih => exact Nat.le_trans ih (qB_step r N (j + n))
structure PInv (r cc N : Nat) (a : List (List Int)) (s : PS) : Prop where
  va : ∀ o ∈ s.d, vO r o = true
  kc : s.k ≤ cc
  tk : s.t ≤ s.k
  tr : s.t ≤ r
  cb : s.k < cc → ColB r s.k (N * qB r N s.k) (apL r cc s.d a)
  gr : s.k < cc → gL s.d * psi r s.k (N * qB r N s.k) (apL r cc s.d a) ≤ qB r N (s.k + 1)
  ge : gL s.d ≤ qB r N cc
section
variable {r cc N : Nat} {a : List (List Int)}
theorem apL_snoc (d : List Opz) (o : Opz) (m : List (List Int)) : apL r cc (d ++ [o]) m = apO r cc o (apL r cc d m) := apL_append d [o] m
theorem gL_snoc (d : List Opz) (o : Opz) : gL (d ++ [o]) = gL d * gO o := by rw [gL_append]; simp [gL]
theorem PInv.start (hm : Mx r cc a) (km : BdM N a) : PInv r cc N a ⟨[], 0, 0⟩ := by
  refine ⟨fun o h => by simp at h, Nat.zero_le _, Nat.le_refl _, Nat.zero_le _, fun h => ?_, fun h => ?_, by simp only [gL]; exact qB_pos _ _ _⟩
  · simp only [qB, Nat.mul_one, apL]; exact colB_of hm km h
  · simp only [qB, Nat.mul_one, apL, gL, Nat.one_mul]
    exact psi_le (colB_of hm km h)
theorem PInv.col (hm : Mx r cc a) (km : BdM N a) {s : PS} (h : PInv r cc N a s) (hk : s.k < cc) {t' : Nat} (ht : t' ≤ s.k + 1) (hr : t' ≤ r) : PInv r cc N a ⟨s.d, t', s.k + 1⟩ := by
  have hg : gL s.d ≤ qB r N (s.k + 1) := by
    have h1 := h.gr hk
    have h2 := Nat.mul_le_mul_left (gL s.d) (psi_pos (r := r) (c := s.k) (N := N * qB r N s.k) (m := apL r cc s.d a))
    omega
  have hb : BdM (N * qB r N (s.k + 1)) (apL r cc s.d a) := (apL_g h.va hm km).mono (by rw [Nat.mul_comm]; exact Nat.mul_le_mul_left _ hg)
  have hcb : s.k + 1 < cc → ColB r (s.k + 1) (N * qB r N (s.k + 1)) (apL r cc s.d a) := fun h2 => colB_of (apL_mx _ hm) hb h2
  exact ⟨h.va, by show s.k + 1 ≤ cc; omega, ht, hr, hcb, fun h2 => Nat.mul_le_mul hg (psi_le (hcb h2)), h.ge⟩
theorem PInv.op {s : PS} (h : PInv r cc N a s) (hk : s.k < cc) {o : Opz} (hv : vO r o = true) (hc : ColB r s.k (N * qB r N s.k) (apO r cc o (apL r cc s.d a)))
    (hp : gO o * psi r s.k (N * qB r N s.k) (apO r cc o (apL r cc s.d a)) ≤ psi r s.k (N * qB r N s.k) (apL r cc s.d a)) : PInv r cc N a ⟨s.d ++ [o], s.t, s.k⟩ := by
  have hg : gL s.d * gO o * psi r s.k (N * qB r N s.k) (apO r cc o (apL r cc s.d a)) ≤ qB r N (s.k + 1) := by
    rw [Nat.mul_assoc]
    exact Nat.le_trans (Nat.mul_le_mul_left _ hp) (h.gr hk)
  refine ⟨fun x hx => ?_, h.kc, h.tk, h.tr, fun _ => by rw [apL_snoc]; exact hc, fun _ => by rw [apL_snoc, gL_snoc]; exact hg, ?_⟩
  · rcases List.mem_append.1 hx with h1 | h1
    · exact h.va x h1
    · simp only [List.mem_singleton] at h1; subst h1; exact hv
  · rw [gL_snoc]
    have h2 := Nat.mul_le_mul_left (gL s.d * gO o) (psi_pos (r := r) (c := s.k) (N := N * qB r N s.k) (m := apO r cc o (apL r cc s.d a)))
    rw [Nat.mul_one] at h2
    exact Nat.le_trans h2 (Nat.le_trans hg (qB_mono r N hk))
inductive NxS (r cc : Nat) (a : List (List Int)) (s : PS) : PS → Prop where
  | skip (h : lsF (apL r cc s.d a) s.k s.t (r - s.t) < 0) (hz : ∀ i, s.t ≤ i → i < r → el (apL r cc s.d a) i s.k = 0) : NxS r cc a s ⟨s.d, s.t, s.k + 1⟩
  | swap (p : Nat) (h : lsF (apL r cc s.d a) s.k s.t (r - s.t) = (p : Int)) (h1 : s.t < p) (h2 : p < r) (h3 : el (apL r cc s.d a) p s.k ≠ 0)
      (h4 : ∀ i, s.t ≤ i → i < r → el (apL r cc s.d a) i s.k ≠ 0 → (el (apL r cc s.d a) p s.k).natAbs ≤ (el (apL r cc s.d a) i s.k).natAbs) : NxS r cc a s ⟨s.d ++ [swapO p s.t], s.t, s.k⟩
  | neg (h : lsF (apL r cc s.d a) s.k s.t (r - s.t) = (s.t : Int)) (hn : el (apL r cc s.d a) s.t s.k < 0)
      (h4 : ∀ i, s.t ≤ i → i < r → el (apL r cc s.d a) i s.k ≠ 0 → (el (apL r cc s.d a) s.t s.k).natAbs ≤ (el (apL r cc s.d a) i s.k).natAbs) : NxS r cc a s ⟨s.d ++ [negO s.t], s.t, s.k⟩
  | add (i : Nat) (h : lsF (apL r cc s.d a) s.k s.t (r - s.t) = (s.t : Int)) (hp : 0 < el (apL r cc s.d a) s.t s.k)
      (h4 : ∀ i, s.t ≤ i → i < r → el (apL r cc s.d a) i s.k ≠ 0 → (el (apL r cc s.d a) s.t s.k).natAbs ≤ (el (apL r cc s.d a) i s.k).natAbs)
      (ho : opnL s.k s.t (apL r cc s.d a) (List.range r) = some i) (hi : i < r) (hne : i ≠ s.t) (hq : el (apL r cc s.d a) i s.k / el (apL r cc s.d a) s.t s.k ≠ 0) :
      NxS r cc a s ⟨s.d ++ [addO i s.t (-(el (apL r cc s.d a) i s.k / el (apL r cc s.d a) s.t s.k))], s.t, s.k⟩
  | adv (h : lsF (apL r cc s.d a) s.k s.t (r - s.t) = (s.t : Int)) (hp : 0 < el (apL r cc s.d a) s.t s.k)
      (ho : opnL s.k s.t (apL r cc s.d a) (List.range r) = none) (hz : ∀ i, i < r → i ≠ s.t → el (apL r cc s.d a) i s.k / el (apL r cc s.d a) s.t s.k = 0) : NxS r cc a s ⟨s.d, s.t + 1, s.k + 1⟩
theorem nx_ok {s : PS} (ht : s.t < r) : NxS r cc a s (s.next r cc a) := by
  unfold PS.next nx1
  rcases lsF_ok (m := apL r cc s.d a) (c := s.k) (top := s.t) (r - s.t) with ⟨h1, h2⟩ | ⟨p, h1, h2, h3, h4, h5⟩
  · have h0 : lsF (apL r cc s.d a) s.k s.t (r - s.t) < 0 := by rw [h1]; decide
    simp only [if_pos h0, Option.toList_none, List.append_nil]
    exact .skip h0 fun i g1 g2 => h2 i g1 (by omega)
  · have hnn : ¬ lsF (apL r cc s.d a) s.k s.t (r - s.t) < 0 := by rw [h1]; omega
    have h6 : ∀ i, s.t ≤ i → i < r → el (apL r cc s.d a) i s.k ≠ 0 → (el (apL r cc s.d a) p s.k).natAbs ≤ (el (apL r cc s.d a) i s.k).natAbs := fun i g1 g2 g3 => h5 i g1 (by omega) g3
    simp only [if_neg hnn]
    by_cases hp : p = s.t
    · subst hp
      have he : ¬ lsF (apL r cc s.d a) s.k s.t (r - s.t) ≠ (s.t : Int) := by rw [h1]; simp
      simp only [if_neg he]
      by_cases hn : el (apL r cc s.d a) s.t s.k < 0
      · simp only [if_pos hn, Option.toList_some]
        exact .neg h1 hn h6
      · have hp0 : 0 < el (apL r cc s.d a) s.t s.k := by omega
        simp only [if_neg hn]
        cases ho : opnL s.k s.t (apL r cc s.d a) (List.range r) with
        | none =>
          simp only [Option.toList_none, List.append_nil]
          refine .adv h1 hp0 ho fun i hi hne => ?_
          have := List.find?_eq_none.1 ho i (List.mem_range.2 hi)
          simp only [Bool.and_eq_true, decide_eq_true_eq, not_and, Decidable.not_not] at this
          exact this hne
        | some i =>
          simp only [Option.toList_some]
          have h7 := List.find?_some ho
          have h8 := List.mem_of_find?_eq_some ho
          simp only [Bool.and_eq_true, decide_eq_true_eq] at h7
          exact .add i h1 hp0 h6 ho (List.mem_range.1 h8) h7.1 h7.2
    · have he : lsF (apL r cc s.d a) s.k s.t (r - s.t) ≠ (s.t : Int) := by rw [h1]; omega
      have htn : (lsF (apL r cc s.d a) s.k s.t (r - s.t)).toNat = p := by rw [h1]; rfl
      simp only [if_pos he, htn, Option.toList_some]
      exact .swap p h1 (by omega) (by omega) h4 h6
theorem PInv.next (hm : Mx r cc a) (km : BdM N a) {s : PS} (h : PInv r cc N a s) (ht : s.t < r) (hk : s.k < cc) : PInv r cc N a (s.next r cc a) := by
  have hn := nx_ok (cc := cc) (a := a) ht
  have hcb := h.cb hk
  generalize s.next r cc a = s' at hn ⊢
  cases hn with
  | skip h1 hz => exact h.col hm km hk (by have := h.tk; omega) h.tr
  | swap p h0 h1 h2 h3 h4 =>
    obtain ⟨c1, c2⟩ := swap_col hk hcb ht h2
    exact h.op hk (vO_swap h2 ht (by omega)) c1 (by simp only [gO, if_neg (show ¬ (1 : Nat) = 3 by decide), Nat.one_mul]; exact Nat.le_of_eq c2)
  | neg h0 h1 h4 =>
    obtain ⟨c1, c2⟩ := neg_col hk hcb ht h1
    exact h.op hk (vO_neg ht) c1 (by simp only [gO, if_neg (show ¬ (2 : Nat) = 3 by decide), Nat.one_mul]; exact c2)
  | add i h0 hp h4 ho hi hne hq =>
    obtain ⟨c1, c2, _, _⟩ := add_col hk hcb ht hi hp
    exact h.op hk (vO_add hi ht hne) c1 c2
  | adv h0 hp ho hz => exact h.col hm km hk (by have := h.tk; omega) ht
theorem PInv.run (hm : Mx r cc a) (km : BdM N a) : ∀ (n : Nat) {s : PS}, PInv r cc N a s → PInv r cc N a (s.run r cc a n)
  | 0, _, h => h
  | n + 1, s, h => by
    simp only [PS.run]
    split
    · exact h
    · rename_i hf
      simp only [PS.fin, Bool.or_eq_true, decide_eq_true_eq, not_or] at hf
      exact PInv.run hm km n (h.next hm km (by omega) (by omega))
def flg (r cc : Nat) (a : List (List Int)) (s : PS) : Nat :=
  if lsF (apL r cc s.d a) s.k s.t (r - s.t) ≠ (s.t : Int) then 2 else if el (apL r cc s.d a) s.t s.k < 0 then 1 else 0
theorem flg_le {s : PS} : flg r cc a s ≤ 2 := by unfold flg; split <;> (try split) <;> omega
end
end Go.AM
/- Division of integers: integer.DivMod, given what integer.divide answers. -/
namespace Go.AM
open Go.Proofs.Tryz
theorem divmod_of {x y : Int} {L : Nat} {ql rl : List Nat} (hy : y ≠ 0) (hx : x.natAbs * 4294967296 < 4294967296 ^ L) (hy2 : y.natAbs * 4294967296 < 4294967296 ^ L) (hL : L ≤ 1073741824)
    (h167 : FnD prog 118 [vs (lim (digs x.natAbs)), vs (lim (digs y.natAbs))] (.tup [eD (dL (lim ql)), eD (dL (lim rl))]) []) (bq : ∀ z ∈ ql, z < 4294967296) (br : ∀ z ∈ rl, z < 4294967296) (lq : ql.length ≤ 1073741824) (lr : rl.length ≤ 1073741824)
    (hq : val ql = x.natAbs / y.natAbs) (hr : val rl = x.natAbs % y.natAbs) :
    FnD prog 96 [eI x, eI y] (.tup [ei (x / y), ei (x % y), eD (dI 0)]) [] := by
  have hsz : ∀ {z : Int}, z.natAbs < 4294967296 ^ L → Sz z := fun h => Sz.of_lt L hL h
  have mk : ∀ l : List Nat, (∀ z ∈ l, z < 4294967296) → l.length ≤ 1073741824 → FnD prog 92 [vs (lim l), vb false] (eI ((val l : Nat) : Int)) [] := fun l h1 h2 => by
    have := norm_eI l false h1 (by omega)
    simpa using this
  have mq := mk ql bq lq
  have mr := mk rl br lr
  rw [hq] at mq
  rw [hr] at mr
  have hY : 0 < y.natAbs := by omega
  have hdm := Nat.div_add_mod x.natAbs y.natAbs
  have hml := Nat.mod_lt x.natAbs hY
  have hqle : x.natAbs / y.natAbs ≤ x.natAbs := Nat.div_le_self _ _
  have hcast : ((y.natAbs : Nat) : Int) * ((x.natAbs / y.natAbs : Nat) : Int) + ((x.natAbs % y.natAbs : Nat) : Int) = ((x.natAbs : Nat) : Int) := by
    rw [← Int.natCast_mul, ← Int.natCast_add, hdm]
  generalize hQ : x.natAbs / y.natAbs = Q at *
  generalize hM : x.natAbs % y.natAbs = M at *
  clear hdm hQ hM
  have hlM : ((lim (digs M)).length : Int) > 0 ↔ 0 < M := by
    rw [lim_length]
    constructor
    · intro h
      rcases Nat.eq_zero_or_pos M with h0 | h0
      · subst h0; rw [digs_zero] at h; simp at h
      · exact h0
    · intro h
      have : (digs M).length ≠ 0 := fun e => by have := digs_nil.1 (List.length_eq_zero_iff.1 e); omega
      omega
  have ly := digs_len (n := y.natAbs) (k := L) (by omega)
  refine vc96_ok _ _ _ _ (R := Out _) ?_
  unfold vc96
  refine ⟨fun h => ?_, fun _ => ⟨_, _, h167, _, _, _, _, mq, mr, fun hneg => ?_, fun hneg => ?_⟩⟩
  · exfalso
    rw [lim_length] at h
    have h0 : (digs y.natAbs).length = 0 := by simpa using (natEq _ 0).symm.trans h
    have := digs_nil.1 (List.length_eq_zero_iff.1 h0)
    omega
  · have hx0 : x < 0 := by simpa using hneg
    simp only [Int.natAbs_natCast]
    refine ⟨fun hp => ?_, fun hp => ?_⟩
    · have hM0 : 0 < M := hlM.1 (by simpa using hp)
      have f1 := of_ok 1 (by decide) (by decide)
      have f2 := add_ok (x := (Q : Int)) (y := 1) (hsz (by rw [Int.natAbs_natCast]; omega)) (Sz.of_lt 1 (by decide) (by decide))
      have f3 := minus_ok (a := digs y.natAbs) (b := digs M) (digs_lt _) (digs_lt _) (by omega) (len_le_of_val (digs_lt _) (digs_canon _) (by rw [val_digs, val_digs]; omega)) (by rw [val_digs, val_digs]; omega)
      rw [val_digs, val_digs] at f3
      have f4 := mk (padD (digs y.natAbs).length (y.natAbs - M)) (padD_lt _ _) (by rw [padD_length]; omega)
      rw [val_padD _ _ (by have := val_lt (digs_lt y.natAbs); rw [val_digs] at this; omega), Int.natCast_sub (by omega)] at f4
      refine ⟨_, _, _, _, f1, f2, _, _, _, f3, f4, fun hs => ?_, fun hs => ?_⟩
      · have hy0 : ¬ y < 0 := by
          intro hy0
          simp [hx0, hy0] at hs
        have := ediv_uniq (a := x) (b := y) (q := -((Q : Int) + 1)) (r := ((y.natAbs : Nat) : Int) - M) hy (by
          have e : ((y.natAbs : Nat) : Int) = y := by omega
          rw [e] at hcast ⊢
          rw [Int.mul_neg, Int.mul_add, Int.mul_one]; omega) (by omega) (by omega)
        exact ⟨_, _, neg_ok ((Q : Int) + 1), out3 this.1.symm this.2.symm⟩
      · have hy0 : y < 0 := by
          apply Classical.byContradiction
          intro hy0
          simp [hx0, hy0] at hs
        have := ediv_uniq (a := x) (b := y) (q := (Q : Int) + 1) (r := ((y.natAbs : Nat) : Int) - M) hy (by
          have e : ((y.natAbs : Nat) : Int) = -y := by omega
          rw [e] at hcast ⊢
          rw [Int.neg_mul] at hcast
          rw [Int.mul_add, Int.mul_one]; omega) (by omega) (by omega)
        exact out3 this.1.symm this.2.symm
    · have hM0 : M = 0 := by
        have : ¬ 0 < M := fun h => by
          have := hlM.2 h
          simp only [decide_eq_false_iff_not] at hp
          exact hp this
        omega
      subst hM0
      refine ⟨fun hs => ?_, fun hs => ?_⟩
      · have hy0 : ¬ y < 0 := by
          intro hy0
          simp [hx0, hy0] at hs
        have := ediv_uniq (a := x) (b := y) (q := -(Q : Int)) (r := ((0 : Nat) : Int)) hy (by
          have e : ((y.natAbs : Nat) : Int) = y := by omega
          rw [e] at hcast
          rw [Int.mul_neg]; omega) (by omega) (by omega)
        exact ⟨_, _, neg_ok (Q : Int), out3 this.1.symm this.2.symm⟩
      · have hy0 : y < 0 := by
          apply Classical.byContradiction
          intro hy0
          simp [hx0, hy0] at hs
        have := ediv_uniq (a := x) (b := y) (q := (Q : Int)) (r := ((0 : Nat) : Int)) hy (by
          have e : ((y.natAbs : Nat) : Int) = -y := by omega
          rw [e, Int.neg_mul] at hcast
          omega) (by omega) (by omega)
        exact out3 this.1.symm this.2.symm
  · have hx0 : ¬ x < 0 := by simpa using hneg
    refine ⟨fun hs => ?_, fun hs => ?_⟩
    · have hy0 : y < 0 := by
        apply Classical.byContradiction
        intro hy0
        simp [hx0, hy0] at hs
      have := ediv_uniq (a := x) (b := y) (q := -(Q : Int)) (r := (M : Int)) hy (by
        have e : ((y.natAbs : Nat) : Int) = -y := by omega
        rw [e, Int.neg_mul] at hcast
        rw [Int.mul_neg]; omega) (by omega) (by omega)
      exact ⟨_, _, neg_ok (Q : Int), out3 this.1.symm this.2.symm⟩
    · have hy0 : ¬ y < 0 := by
        intro hy0
        simp [hx0, hy0] at hs
      have := ediv_uniq (a := x) (b := y) (q := (Q : Int)) (r := (M : Int)) hy (by
        have e : ((y.natAbs : Nat) : Int) = y := by omega
        rw [e] at hcast
        omega) (by omega) (by omega)
      exact out3 this.1.symm this.2.symm
end Go.AM
/- Division of integers: integer.divide, given what integer.long answers. -/
namespace Go.AM
open Go.Proofs.Tryz
theorem divide_of {A D : Nat} (hD : 0 < D) (lA : (digs A).length ≤ 1073741823) (lD : (digs D).length ≤ 1073741823)
    (h170 : 2 ≤ (digs D).length → D ≤ A → ∃ ql rl : List Nat, (∀ z ∈ ql, z < 4294967296) ∧ (∀ z ∈ rl, z < 4294967296) ∧ ql.length ≤ 1073741824 ∧ rl.length ≤ 1073741824 ∧ val ql = A / D ∧ val rl = A % D ∧
      FnD prog 128 [vs (lim (digs A)), vs (lim (digs D))] (.tup [eD (dL (lim ql)), eD (dL (lim rl))]) []) :
    ∃ ql rl : List Nat, (∀ z ∈ ql, z < 4294967296) ∧ (∀ z ∈ rl, z < 4294967296) ∧ ql.length ≤ 1073741824 ∧ rl.length ≤ 1073741824 ∧ val ql = A / D ∧ val rl = A % D ∧
      FnD prog 118 [vs (lim (digs A)), vs (lim (digs D))] (.tup [eD (dL (lim ql)), eD (dL (lim rl))]) [] := by
  have hcmp := compare_ok (a := digs A) (b := digs D) (digs_lt _) (digs_lt _) (digs_canon _) (digs_canon _) (by omega)
  rw [val_digs, val_digs] at hcmp
  have hc : decide (cmpI (A : Int) (D : Int) < 0) = decide (A < D) := by
    unfold cmpI
    by_cases h : A < D
    · have : (A : Int) < (D : Int) := by omega
      simp [h, this]
    · have : ¬ (A : Int) < (D : Int) := by omega
      rw [decide_eq_false h]
      simp only [this, if_false]
      split <;> decide
  rcases Nat.lt_or_ge A D with hlt | hge
  · refine ⟨[], digs A, by simp, digs_lt _, by simp, by omega, by rw [Nat.div_eq_of_lt hlt]; rfl, by rw [val_digs, Nat.mod_eq_of_lt hlt], ?_⟩
    refine vc118_ok _ _ (R := Out _) ?_
    unfold vc118
    refine ⟨_, hcmp, fun _ => ⟨_, clone_ok (lim_one _) (by rw [lim_length]; omega), rfl, rfl⟩, fun h => ?_⟩
    rw [hc] at h
    simp [hlt] at h
  · have hn : ¬ A < D := by omega
    by_cases h1 : (digs D).length = 1
    · obtain ⟨d, hd⟩ : ∃ d, digs D = [d] := List.length_eq_one_iff.1 h1
      have hdv : D = d := by have := val_digs D; rw [hd] at this; simpa [val] using this.symm
      have hdl := digs_lt D d (by rw [hd]; simp)
      subst hdv
      obtain ⟨e1, e2⟩ := sQ_div (d := D) hD (digs A)
      rw [val_digs] at e1 e2
      have hr := sQ_lt (d := D) hD (digs A)
      have h169 := short_ok (l := digs A) (d := D) (digs_lt A) (by omega) hD hdl
      refine ⟨(sQ D (digs A)).1, [(sQ D (digs A)).2], sQ_dig hD _ (digs_lt A), fun z hz => by simp at hz; omega, by rw [sQ_len]; omega, by simp, e1, by simp [val, e2], ?_⟩
      refine vc118_ok _ _ (R := Out _) ?_
      unfold vc118
      refine ⟨_, hcmp, fun h => ?_, fun _ => ⟨fun _ => ⟨(D : Int), _, _, ⟨by decide, by rw [lim_length, h1]; decide⟩, by rw [hd]; rfl, h169, rfl, rfl⟩, fun h => ?_⟩⟩
      · rw [hc] at h; simp [hn] at h
      · rw [lim_length, h1] at h; simp at h
    · have h0 : (digs D).length ≠ 0 := fun e => by have := digs_nil.1 (List.length_eq_zero_iff.1 e); omega
      obtain ⟨ql, rl, b1, b2, b3, b4, b5, b6, h⟩ := h170 (by omega) hge
      refine ⟨ql, rl, b1, b2, b3, b4, b5, b6, ?_⟩
      refine vc118_ok _ _ (R := Out _) ?_
      unfold vc118
      refine ⟨_, hcmp, fun h => ?_, fun _ => ⟨fun h => ?_, fun _ => ⟨_, _, h, rfl, rfl⟩⟩⟩
      · rw [hc] at h; simp [hn] at h
      · rw [lim_length] at h
        exact absurd (by simpa using (natEq _ 1).symm.trans h) h1
end Go.AM
/- Long division in plain Lean: the rest is shifted back. -/
namespace Go.AM
def shR (k : Nat) : List Nat → List Nat
  | x :: y :: l => (x / 2 ^ k + (y * 2 ^ (32 - k)) % 4294967296) :: shR k (y :: l)
  | _ => []
theorem shR_len (k : Nat) : ∀ l : List Nat, (shR k l).length = l.length - 1
  | [] => rfl
  | [_] => rfl
  | _ :: y :: l => by simp [shR, shR_len k (y :: l)]
theorem shR_val {k : Nat} (hk : k ≤ 32) : ∀ (l : List Nat) (x : Nat), val (shR k (x :: l)) + 4294967296 ^ l.length * ((x :: l).getLast (by simp) / 2 ^ k) = val (x :: l) / 2 ^ k
  | [], x => by simp [shR, val]
  | y :: l, x => by
    have ih := shR_val hk l y
    have hp : 0 < 2 ^ k := Nat.pow_pos (by decide)
    have e : (4294967296 : Nat) = 2 ^ k * 2 ^ (32 - k) := by rw [← Nat.pow_add, show k + (32 - k) = 32 by omega]
    have hT : val (y :: l) % 2 ^ k = y % 2 ^ k := by
      simp only [val]
      rw [e, Nat.mul_assoc, Nat.add_mul_mod_self_left]
    have hlo : (y * 2 ^ (32 - k)) % 4294967296 = (y % 2 ^ k) * 2 ^ (32 - k) := by
      conv => lhs; rw [e]
      rw [Nat.mul_mod_mul_right]
    have hdm := Nat.div_add_mod (val (y :: l)) (2 ^ k)
    rw [hT] at hdm
    have hval : val (x :: y :: l) / 2 ^ k = x / 2 ^ k + 2 ^ (32 - k) * val (y :: l) := by
      show (x + 4294967296 * val (y :: l)) / 2 ^ k = _
      conv => lhs; rw [e]
      rw [Nat.mul_assoc, Nat.add_mul_div_left _ _ hp]
    have h3 : 2 ^ (32 - k) * val (y :: l) = 4294967296 * (val (y :: l) / 2 ^ k) + (y % 2 ^ k) * 2 ^ (32 - k) := by
      conv => lhs; rw [← hdm]
      rw [Nat.mul_add, ← Nat.mul_assoc, Nat.mul_comm (2 ^ (32 - k)) (2 ^ k), ← e, Nat.mul_comm (2 ^ (32 - k)) (y % 2 ^ k)]
    have hl : (x :: y :: l).getLast (by simp) = (y :: l).getLast (by simp) := rfl
    rw [hval, h3, ← ih, hl]
    simp only [shR, val, hlo, List.length_cons, Nat.pow_succ]
    rw [Nat.mul_add, Nat.mul_comm (4294967296 ^ l.length) 4294967296, Nat.mul_assoc 4294967296]
    omega
end Go.AM
/- Long division: the words of a round, one by one. -/
namespace Go.AM
theorem sub_word {u lo bo : Nat} (hu : u < 4294967296) (hl : lo < 4294967296) (hb : bo ≤ 1) :
    IntKind.u64.wrap (IntKind.u64.wrap ((u : Int) - (lo : Int)) - (bo : Int)) = (((u + 18446744073709551616 - lo - bo) % 18446744073709551616 : Nat) : Int) := by
  rw [wu64', wu64']; omega
theorem sub_low {u lo bo : Nat} (hu : u < 4294967296) (hl : lo < 4294967296) (hb : bo ≤ 1) :
    IntKind.u32.wrap (((u + 18446744073709551616 - lo - bo) % 18446744073709551616 : Nat) : Int) = ((sbD u lo bo : Nat) : Int) := by
  rw [wu32]; unfold sbD; omega
theorem sub_high {u lo bo : Nat} (hu : u < 4294967296) (hl : lo < 4294967296) (hb : bo ≤ 1) :
    ((((u + 18446744073709551616 - lo - bo) % 18446744073709551616 : Nat) : Int)).fdiv (2 ^ (min (63 : Int).toNat IntKind.u64.bits)) = ((sbB u lo bo : Nat) : Int) := by
  have : ((2 : Int) ^ (min (63 : Int).toNat IntKind.u64.bits)) = 9223372036854775808 := by decide
  rw [this, Int.fdiv_eq_ediv_of_nonneg _ (by decide)]
  unfold sbB
  split <;> omega
end Go.AM
/- integer.long: the end of a round. -/
namespace Go.AM
open Go.Proofs.Tryz
theorem mS_snoc {g u y : Nat} : ∀ (us vs : List Nat) (c bo : Nat), us.length = vs.length →
    mS g c bo (us ++ [u]) (vs ++ [y]) = ((mS g c bo us vs).1 ++ [sbD u (((mS g c bo us vs).2.1 + g * y) % 4294967296) (mS g c bo us vs).2.2],
      ((mS g c bo us vs).2.1 + g * y) / 4294967296, sbB u (((mS g c bo us vs).2.1 + g * y) % 4294967296) (mS g c bo us vs).2.2)
  | [], [], _, _, _ => rfl
  | [], _ :: _, _, _, h => by simp at h
  | _ :: _, [], _, _, h => by simp at h
  | a :: us, b :: vs, c, bo, h => by
    simp only [List.cons_append, mS]
    rw [mS_snoc us vs _ _ (by simpa using h)]
theorem mS_carry {g : Nat} (hg : g ≤ 4294967296) : ∀ (us vs : List Nat) (c bo : Nat), us.length = vs.length → (∀ y ∈ vs, y < 4294967296) → c < 4294967296 → (mS g c bo us vs).2.1 < 4294967296
  | [], [], _, _, _, _, hc => hc
  | [], _ :: _, _, _, h, _, _ => by simp at h
  | _ :: _, [], _, _, h, _, _ => by simp at h
  | a :: us, b :: vs, c, bo, h, hv, hc => by
    simp only [mS]
    refine mS_carry hg us vs _ _ (by simpa using h) (fun y hy => hv y (by simp [hy])) ?_
    have h1 := hv b (by simp)
    have h2 : g * b ≤ 4294967296 * 4294967295 := Nat.mul_le_mul hg (by omega)
    omega
theorem aB_snoc {u y : Nat} : ∀ (us vs : List Nat) (c : Nat), us.length = vs.length →
    aB c (us ++ [u]) (vs ++ [y]) = ((aB c us vs).1 ++ [(u + y + (aB c us vs).2) % 4294967296], (u + y + (aB c us vs).2) / 4294967296)
  | [], [], _, _ => rfl
  | [], _ :: _, _, h => by simp at h
  | _ :: _, [], _, h => by simp at h
  | a :: us, b :: vs, c, h => by
    simp only [List.cons_append, aB]
    rw [aB_snoc us vs _ (by simpa using h)]
theorem set_mid {α : Type} (A B : List α) (x y : α) : (A ++ x :: B).set A.length y = A ++ y :: B := by simp
theorem lim_mid (A B : List Nat) (x : Nat) : (lim (A ++ x :: B))[A.length]? = some [D.int .u32 (x : Int)] := by
  have := lim_get (l := A ++ x :: B) (i := A.length) (by simp)
  rw [this]; simp
theorem lim_setmid (A B : List Nat) (x y : Nat) : (lim (A ++ x :: B)).set A.length [D.int .u32 (y : Int)] = lim (A ++ y :: B) := by
  rw [lim_set, set_mid]
theorem top_bit {u c b : Nat} (hu : u < 4294967296) (hc : c < 4294967296) (hb : b ≤ 1) :
    ((((IntKind.u64.wrap (IntKind.u64.wrap ((u : Int) - (c : Int)) - (b : Int))).fdiv (2 ^ (min (63 : Int).toNat IntKind.u64.bits))) == (1 : Int)) = decide (u < c + b)) := by
  rw [sub_word hu hc hb, sub_high hu hc hb]
  unfold sbB
  split
  · rename_i h; rw [decide_eq_true h]; rfl
  · rename_i h; rw [decide_eq_false h]; rfl
theorem tail_ok {pre seg post vs qs : List Nat} {ut g W v : Nat} (hn : seg.length = vs.length) (hu : ∀ x ∈ pre ++ seg ++ ut :: post, x < 4294967296) (hv : ∀ x ∈ vs, x < 4294967296)
    (hW : W = val seg + ut * 4294967296 ^ seg.length) (hvv : v = val vs) (hv0 : 0 < v) (h1 : W / v ≤ g) (h2 : g ≤ W / v + 1) (hgB : g ≤ 4294967296) (hd : W / v < 4294967296)
    (hq : pre.length < qs.length) (hlen : (pre ++ seg ++ ut :: post).length ≤ 4294967296) (hql : qs.length ≤ 4294967296)
    {J0 : (DL) → (DL) → Int → Prop} {μ0 : (DL) → (DL) → Int → Nat}
    (hJ : ∀ R : List Nat, R.length = vs.length → (∀ x ∈ R, x < 4294967296) → val R = W % v →
      J0 (lim (qs.set pre.length (W / v))) (lim (pre ++ R ++ 0 :: post)) (IntKind.i64.wrap ((pre.length : Int) - 1)) ∧
      μ0 (lim (qs.set pre.length (W / v))) (lim (pre ++ R ++ 0 :: post)) (IntKind.i64.wrap ((pre.length : Int) - 1)) < μ0 (lim qs) (lim (pre ++ seg ++ ut :: post)) (pre.length : Int)) :
    tailP (lim vs) (pre.length : Int) (lim (pre ++ seg ++ ut :: post)) (lim qs) (g : Int) J0 μ0 := by
  have hut : ut < 4294967296 := hu ut (by simp)
  have hseg : ∀ x ∈ seg, x < 4294967296 := fun x hx => hu x (by simp [hx])
  obtain ⟨kr1, kr2⟩ := knuth_round (us := seg) (vs := vs) (ut := ut) (g := g) hn hseg hv hW hvv hv0 h1 h2
  have hl : pre.length + seg.length + 1 + post.length ≤ 4294967296 := by simp only [List.length_append, List.length_cons] at hlen; omega
  unfold tailP
  simp only [lim_length]
  refine ⟨fun u1 t carry borrow => ∃ sk rem vk vrem : List Nat, sk.length = vk.length ∧ rem.length = vrem.length ∧ seg = sk ++ rem ∧ vs = vk ++ vrem ∧ t = (sk.length : Int) ∧ u1 = lim (pre ++ (mS g 0 0 sk vk).1 ++ rem ++ ut :: post) ∧
    carry = (((mS g 0 0 sk vk).2.1 : Nat) : Int) ∧ borrow = (((mS g 0 0 sk vk).2.2 : Nat) : Int), fun _ t _ _ => ((vs.length : Int) - t).toNat, ⟨[], seg, [], vs, rfl, hn, rfl, rfl, rfl, by simp [mS], rfl, rfl⟩, ?_⟩
  rintro _ _ _ _ ⟨sk, rem, vk, vrem, l1, l2, rfl, rfl, rfl, rfl, rfl, rfl⟩
  have hsk : ∀ x ∈ sk, x < 4294967296 := fun x hx => hseg x (by simp [hx])
  have hvk : ∀ x ∈ vk, x < 4294967296 := fun x hx => hv x (by simp [hx])
  obtain ⟨_, m2, m3, m4⟩ := mS_val (g := g) sk vk 0 0 l1 hsk (by omega)
  have mc := mS_carry hgB sk vk 0 0 l1 hvk (by omega)
  simp only [List.length_append] at hl hn
  refine ⟨fun h => ?_, fun h => ?_⟩
  · have hk : sk.length < (vk ++ vrem).length := by have h' := of_decide_eq_true h; omega
    simp only [List.length_append] at hk
    obtain ⟨u, rem', rfl⟩ : ∃ u rem', rem = u :: rem' := by
      cases rem with
      | nil => simp at l2; omega
      | cons x l => exact ⟨x, l, rfl⟩
    obtain ⟨y, vrem', rfl⟩ : ∃ y vrem', vrem = y :: vrem' := by
      cases vrem with
      | nil => simp at l2
      | cons x l => exact ⟨x, l, rfl⟩
    have hu0 : u < 4294967296 := hseg u (by simp)
    have hy0 : y < 4294967296 := hv y (by simp)
    simp only [List.length_cons] at hl hn l2 hk
    have hgy : g * y ≤ 4294967296 * 4294967295 := Nat.mul_le_mul hgB (by omega)
    generalize hC : (mS g 0 0 sk vk).2.1 = C at mc
    generalize hB : (mS g 0 0 sk vk).2.2 = Bo at m2
    generalize hDs : (mS g 0 0 sk vk).1 = Ds at m3 m4
    have e1 : IntKind.u64.wrap (y : Int) = (y : Int) := wu64 (by omega) (by omega)
    have e2 : IntKind.u64.wrap ((g : Int) * (y : Int)) = ((g * y : Nat) : Int) := by rw [← Int.natCast_mul]; exact wu64 (by omega) (by omega)
    have e3 : IntKind.u64.wrap ((C : Int) + ((g * y : Nat) : Int)) = ((C + g * y : Nat) : Int) := by rw [← Int.natCast_add]; exact wu64 (by omega) (by omega)
    have e4 : IntKind.u32.wrap ((C + g * y : Nat) : Int) = (((C + g * y) % 4294967296 : Nat) : Int) := by rw [wu32]; omega
    have e5 : IntKind.u64.wrap (((C + g * y) % 4294967296 : Nat) : Int) = (((C + g * y) % 4294967296 : Nat) : Int) := wu64 (by omega) (by omega)
    have e6 : IntKind.u64.wrap (u : Int) = (u : Int) := wu64 (by omega) (by omega)
    have e7 : (((C + g * y : Nat) : Int)).fdiv (2 ^ (min (32 : Int).toNat IntKind.u64.bits)) = (((C + g * y) / 4294967296 : Nat) : Int) := by
      have : ((2 : Int) ^ (min (32 : Int).toNat IntKind.u64.bits)) = 4294967296 := by decide
      rw [this, Int.fdiv_eq_ediv_of_nonneg _ (by decide)]; omega
    have ei : IntKind.i64.wrap ((pre.length : Int) + (sk.length : Int)) = (((pre ++ Ds).length : Nat) : Int) := by
      rw [w64 (by omega) (by omega), List.length_append, m4]; omega
    have hlo : (C + g * y) % 4294967296 < 4294967296 := Nat.mod_lt _ (by decide)
    refine ⟨(y : Int), ⟨by omega, by simp only [List.length_append, List.length_cons]; omega⟩, ?_, (u : Int), ⟨?_, ?_⟩, ?_, by decide, ?_⟩
    · rw [Int.toNat_natCast, show sk.length = vk.length from l1]; exact lim_mid _ _ _
    · rw [ei]; omega
    · rw [ei]; simp only [lim_length, List.length_append, List.length_cons]; omega
    · rw [ei, Int.toNat_natCast]
      rw [show pre ++ Ds ++ u :: rem' ++ ut :: post = pre ++ Ds ++ u :: (rem' ++ ut :: post) by simp]
      exact lim_mid _ _ _
    · rw [ei, Int.toNat_natCast, e1, e2, e3, e4, e5, e6, e7, sub_word hu0 hlo m2, sub_low hu0 hlo m2, sub_high hu0 hlo m2]
      rw [show pre ++ Ds ++ u :: rem' ++ ut :: post = pre ++ Ds ++ u :: (rem' ++ ut :: post) by simp, lim_setmid]
      have es := mS_snoc (g := g) (u := u) (y := y) sk vk 0 0 l1
      rw [hC, hB, hDs] at es
      refine ⟨⟨sk ++ [u], rem', vk ++ [y], vrem', by simp [l1], by omega, by simp, by simp, ?_, ?_, ?_, ?_⟩, ?_⟩
      · rw [w64 (by omega) (by omega)]; simp
      · rw [es]; simp
      · rw [es]
      · rw [es]
      · rw [w64 (by omega) (by omega)]; simp only [List.length_append, List.length_cons]; omega
  · have hk : (vk ++ vrem).length ≤ sk.length := by have h' := of_decide_eq_false h; omega
    simp only [List.length_append] at hk
    obtain rfl : vrem = [] := List.length_eq_zero_iff.1 (by omega)
    obtain rfl : rem = [] := List.length_eq_zero_iff.1 (by simpa using l2)
    simp only [List.append_nil] at *
    generalize hC : (mS g 0 0 sk vk).2.1 = C at *
    generalize hB : (mS g 0 0 sk vk).2.2 = Bo at *
    generalize hDs : (mS g 0 0 sk vk).1 = Ds at *
    have ei : IntKind.i64.wrap ((pre.length : Int) + (vk.length : Int)) = (((pre ++ Ds).length : Nat) : Int) := by
      rw [w64 (by omega) (by omega), List.length_append, m4]; omega
    have e6 : IntKind.u64.wrap (ut : Int) = (ut : Int) := wu64 (by omega) (by omega)
    refine ⟨(ut : Int), ⟨?_, ?_⟩, ?_, by decide, fun h => ?_, fun h => ?_⟩
    · rw [ei]; omega
    · rw [ei]; simp only [lim_length, List.length_append, List.length_cons]; omega
    · rw [ei, Int.toNat_natCast]; exact lim_mid _ _ _
    · rw [e6, top_bit hut mc m2] at h
      obtain ⟨k1, k2, k3, k4⟩ := kr2 (by simpa using h)
      have es : IntKind.u32.wrap (IntKind.u64.wrap (IntKind.u64.wrap ((ut : Int) - (C : Int)) - (Bo : Int))) = ((4294967295 : Nat) : Int) := by
        rw [sub_word hut mc m2, wu32]; omega
      rw [e6, es, ei, Int.toNat_natCast, lim_setmid]
      refine ⟨fun u2 t c => ∃ sk2 rem vk2 vrem : List Nat, sk2.length = vk2.length ∧ rem.length = vrem.length ∧ Ds = sk2 ++ rem ∧ vk = vk2 ++ vrem ∧ t = (sk2.length : Int) ∧ u2 = lim (pre ++ (aB 0 sk2 vk2).1 ++ rem ++ 4294967295 :: post) ∧
        c = (((aB 0 sk2 vk2).2 : Nat) : Int), fun _ t _ => ((vk.length : Int) - t).toNat, ⟨[], Ds, [], vk, rfl, by omega, rfl, rfl, rfl, by simp [aB], rfl⟩, ?_⟩
      rintro _ _ _ ⟨sk2, rem, vk2, vrem, l3, l4, rfl, rfl, rfl, rfl, rfl⟩
      obtain ⟨_, a2, a3, a4⟩ := aB_val sk2 vk2 0 l3 (fun x hx => m3 x (by simp [hx])) (fun x hx => hv x (by simp [hx])) (by omega)
      simp only [List.length_append] at m4 hk l1 hl
      refine ⟨fun h => ?_, fun h => ?_⟩
      · have hk2 : sk2.length < (vk2 ++ vrem).length := by have h' := of_decide_eq_true h; omega
        simp only [List.length_append] at hk2
        obtain ⟨u, rem', rfl⟩ : ∃ u rem', rem = u :: rem' := by
          cases rem with
          | nil => simp at l4; omega
          | cons x l => exact ⟨x, l, rfl⟩
        obtain ⟨y, vrem', rfl⟩ : ∃ y vrem', vrem = y :: vrem' := by
          cases vrem with
          | nil => simp at l4
          | cons x l => exact ⟨x, l, rfl⟩
        have hu0 : u < 4294967296 := m3 u (by simp)
        have hy0 : y < 4294967296 := hv y (by simp)
        simp only [List.length_cons] at m4 hk l1 hl l4 hk2
        generalize hDa : (aB 0 sk2 vk2).1 = Da at a3 a4
        generalize hCa : (aB 0 sk2 vk2).2 = Ca at a2
        have ej : IntKind.i64.wrap ((pre.length : Int) + (sk2.length : Int)) = (((pre ++ Da).length : Nat) : Int) := by
          rw [w64 (by omega) (by omega), List.length_append, a4]; omega
        refine ⟨(y : Int), ⟨by omega, by simp only [List.length_append, List.length_cons]; omega⟩, ?_, (u : Int), _, _, ⟨?_, ?_⟩, ?_, add32_ok u y Ca hu0 hy0 a2, ?_⟩
        · rw [Int.toNat_natCast, show sk2.length = vk2.length from l3]; exact lim_mid _ _ _
        · rw [ej]; omega
        · rw [ej]; simp only [lim_length, List.length_append, List.length_cons]; omega
        · rw [ej, Int.toNat_natCast]
          rw [show pre ++ Da ++ u :: rem' ++ 4294967295 :: post = pre ++ Da ++ u :: (rem' ++ 4294967295 :: post) by simp]
          exact lim_mid _ _ _
        · rw [ej, Int.toNat_natCast]
          rw [show pre ++ Da ++ u :: rem' ++ 4294967295 :: post = pre ++ Da ++ u :: (rem' ++ 4294967295 :: post) by simp, lim_setmid]
          have es := aB_snoc (u := u) (y := y) sk2 vk2 0 l3
          rw [hDa, hCa] at es
          refine ⟨⟨sk2 ++ [u], rem', vk2 ++ [y], vrem', by simp [l3], by omega, by simp, by simp, ?_, ?_, ?_⟩, ?_⟩
          · rw [w64 (by omega) (by omega)]; simp
          · rw [es]; simp
          · rw [es]
          · rw [w64 (by omega) (by omega)]; simp only [List.length_append, List.length_cons]; omega
      · have hk2 : (vk2 ++ vrem).length ≤ sk2.length := by have h' := of_decide_eq_false h; omega
        simp only [List.length_append] at hk2
        obtain rfl : vrem = [] := List.length_eq_zero_iff.1 (by omega)
        obtain rfl : rem = [] := List.length_eq_zero_iff.1 (by simpa using l4)
        simp only [List.append_nil] at *
        have ej : (pre ++ sk2).length = (pre ++ (aB 0 sk2 vk2).1).length := by rw [List.length_append, List.length_append, a4]
        refine ⟨((4294967295 : Nat) : Int), ⟨?_, ?_⟩, ?_, ⟨by omega, by omega⟩, ?_⟩
        · rw [ej]; omega
        · rw [ej]; simp only [lim_length, List.length_append, List.length_cons]; omega
        · rw [ej]; exact lim_mid _ _ _
        · have e8 : IntKind.u32.wrap (((4294967295 : Nat) : Int) + ((((aB 0 sk2 vk2).2) : Nat) : Int)) = ((0 : Nat) : Int) := by rw [k3, wu32]; decide
          have e9 : IntKind.u32.wrap (IntKind.u64.wrap ((g : Int) - 1)) = ((W / v : Nat) : Int) := by
            have hk1 := k1
            generalize W / v = Q at hk1 hd
            rw [wu64 (by omega) (by omega), wu32]; omega
          rw [ej, Int.toNat_natCast, e8, e9, lim_setmid, lim_set]
          exact hJ _ (by omega) a3 k4
    · rw [e6, top_bit hut mc m2] at h
      have hge : ¬ ut < C + Bo := by simpa using h
      obtain ⟨k1, k2, k3⟩ := kr1 (by omega)
      have es : IntKind.u32.wrap (IntKind.u64.wrap (IntKind.u64.wrap ((ut : Int) - (C : Int)) - (Bo : Int))) = ((0 : Nat) : Int) := by
        rw [sub_word hut mc m2, wu32]; omega
      have e9 : IntKind.u32.wrap (g : Int) = ((W / v : Nat) : Int) := by
        have hk1 := k1
        generalize W / v = Q at hk1 hd
        rw [wu32]; omega
      rw [e6, es, ei, Int.toNat_natCast, Int.toNat_natCast, e9, lim_setmid, lim_set]
      exact ⟨⟨by omega, by omega⟩, hJ _ (by omega) m3 k2⟩
end Go.AM
/- integer.long: a round. -/
namespace Go.AM
open Go.Proofs.Tryz
theorem val_two (l : List Nat) (x y : Nat) : val (l ++ [x, y]) = val l + 4294967296 ^ l.length * (x + 4294967296 * y) := by
  rw [val_append]; simp [val]
set_option maxRecDepth 100000 in
theorem round_ok {pre lows lowv post qs : List Nat} {ut u2 lo v1 v2 W V : Nat} (hl : lows.length = lowv.length) (hu : ∀ x ∈ pre ++ (lows ++ [u2, lo]) ++ ut :: post, x < 4294967296) (hv : ∀ x ∈ lowv ++ [v2, v1], x < 4294967296)
    (hv1 : 2147483648 ≤ v1) (hW : W = val (lows ++ [u2, lo]) + ut * 4294967296 ^ (lows ++ [u2, lo]).length) (hV : V = val (lowv ++ [v2, v1])) (hlt : W < V * 4294967296)
    (hq : pre.length < qs.length) (hlen : (pre ++ (lows ++ [u2, lo]) ++ ut :: post).length ≤ 4294967296) (hql : qs.length ≤ 4294967296)
    {J0 : (DL) → (DL) → Int → Prop} {μ0 : (DL) → (DL) → Int → Nat}
    (hJ : ∀ R : List Nat, R.length = (lowv ++ [v2, v1]).length → (∀ x ∈ R, x < 4294967296) → val R = W % V →
      J0 (lim (qs.set pre.length (W / V))) (lim (pre ++ R ++ 0 :: post)) (IntKind.i64.wrap ((pre.length : Int) - 1)) ∧
      μ0 (lim (qs.set pre.length (W / V))) (lim (pre ++ R ++ 0 :: post)) (IntKind.i64.wrap ((pre.length : Int) - 1)) < μ0 (lim qs) (lim (pre ++ (lows ++ [u2, lo]) ++ ut :: post)) (pre.length : Int)) :
    roundP (lim (lowv ++ [v2, v1])) (lim (pre ++ (lows ++ [u2, lo]) ++ ut :: post)) (lim qs) (pre.length : Int) J0 μ0 := by
  have hut : ut < 4294967296 := hu ut (by simp)
  have hlo : lo < 4294967296 := hu lo (by simp)
  have hu2 : u2 < 4294967296 := hu u2 (by simp)
  have hv1b : v1 < 4294967296 := hv v1 (by simp)
  have hv2 : v2 < 4294967296 := hv v2 (by simp)
  have hwr : val lows < 4294967296 ^ lows.length := val_lt fun x hx => hu x (by simp [hx])
  have hvr : val lowv < 4294967296 ^ lows.length := by rw [hl]; exact val_lt fun x hx => hv x (by simp [hx])
  have hWe : W = ((ut * 4294967296 + lo) * 4294967296 + u2) * 4294967296 ^ lows.length + val lows := by
    rw [hW, val_two]
    simp only [List.length_append, List.length_cons, List.length_nil, Nat.zero_add, Nat.pow_succ]
    generalize 4294967296 ^ lows.length = P
    have a1 : ut * (P * 4294967296 * 4294967296) = ut * 4294967296 * 4294967296 * P := by
      rw [Nat.mul_assoc P, Nat.mul_comm P, ← Nat.mul_assoc, ← Nat.mul_assoc]
    have a2 : ((ut * 4294967296 + lo) * 4294967296 + u2) * P = ut * 4294967296 * 4294967296 * P + (u2 + 4294967296 * lo) * P := by
      rw [← Nat.add_mul]; exact congrArg (· * P) (by omega)
    rw [a1, a2, Nat.mul_comm P]
    omega
  have hVe : V = (v1 * 4294967296 + v2) * 4294967296 ^ lows.length + val lowv := by
    rw [hV, val_two, ← hl]
    generalize 4294967296 ^ lows.length = P
    rw [Nat.mul_comm P, show v2 + 4294967296 * v1 = v1 * 4294967296 + v2 by omega]
    omega
  have hP : 0 < 4294967296 ^ lows.length := Nat.pow_pos (by decide)
  have hV0 : 0 < V := by
    have : 0 < (v1 * 4294967296 + v2) * 4294967296 ^ lows.length := Nat.mul_pos (by omega) hP
    omega
  have hdig : W / V < 4294967296 := by rw [Nat.div_lt_iff_lt_mul hV0, Nat.mul_comm]; exact hlt
  have tl : ∀ g : Nat, W / V ≤ g → g ≤ W / V + 1 → g ≤ 4294967296 → tailP (lim (lowv ++ [v2, v1])) (pre.length : Int) (lim (pre ++ (lows ++ [u2, lo]) ++ ut :: post)) (lim qs) (g : Int) J0 μ0 := fun g h1 h2 h3 =>
    tail_ok (v := V) (W := W) (by simp [hl]) hu hv hW hV hV0 h1 h2 h3 hdig hq hlen hql hJ
  obtain ⟨f1, f2, f3, f4, f5⟩ := guess_first (v1 := v1) (v2 := v2) (vr := val lowv) (P := 4294967296 ^ lows.length) (u2 := u2) (wr := val lows) (hi := ut) (lo := lo) hv1 hv2 hvr hlo hu2 rfl rfl (by rw [← hWe, ← hVe]; exact hlt) hwr
  rw [← hWe, ← hVe] at f5
  have dec : ∀ {g r : Nat}, g * v1 + r = ut * 4294967296 + lo → (4294967296 ≤ g ∨ r * 4294967296 + u2 < g * v2) → W / V < g := fun {g r} h1 h2 => by
    have := guess_dec (v1 := v1) (v2 := v2) (vr := val lowv) (P := 4294967296 ^ lows.length) (u2 := u2) (wr := val lows) h1 hwr (by rw [← hWe, ← hVe]; exact hlt) h2
    rwa [← hWe, ← hVe] at this
  have gend : ∀ {g r : Nat}, g * v1 + r = ut * 4294967296 + lo → g ≤ 4294967296 → (4294967296 ≤ r ∨ g * v2 ≤ r * 4294967296 + u2) → g ≤ W / V + 1 := fun {g r} h1 h2 h3 => by
    have := guess_end (v1 := v1) (v2 := v2) (vr := val lowv) (P := 4294967296 ^ lows.length) (u2 := u2) (wr := val lows) h1 hv1 hv2 hvr h2 h3
    rwa [← hWe, ← hVe] at this
  clear hWe hVe
  generalize W / V = Q at *
  have L1 : (lim (lowv ++ [v2, v1])).length = lows.length + 2 := by rw [lim_length]; simp [hl]
  have L2 : (lim (pre ++ (lows ++ [u2, lo]) ++ ut :: post)).length = pre.length + lows.length + 3 + post.length := by rw [lim_length]; simp; omega
  have hlen' : pre.length + lows.length + 3 + post.length ≤ 4294967296 := by rw [lim_length] at L2; omega
  have g0 : (lim (pre ++ (lows ++ [u2, lo]) ++ ut :: post))[pre.length + (lows.length + 2)]? = some [dU (ut : Int)] := by
    have := lim_mid (pre ++ (lows ++ [u2, lo])) post ut
    simpa using this
  have g1 : (lim (pre ++ (lows ++ [u2, lo]) ++ ut :: post))[pre.length + (lows.length + 1)]? = some [dU (lo : Int)] := by
    have := lim_mid (pre ++ (lows ++ [u2])) (ut :: post) lo
    simpa using this
  have g2 : (lim (pre ++ (lows ++ [u2, lo]) ++ ut :: post))[pre.length + lows.length]? = some [dU (u2 : Int)] := by
    have := lim_mid (pre ++ lows) (lo :: ut :: post) u2
    simpa using this
  have k1 : (lim (lowv ++ [v2, v1]))[lows.length + 1]? = some [dU (v1 : Int)] := by
    have := lim_mid (lowv ++ [v2]) [] v1
    simpa [hl] using this
  have k2 : (lim (lowv ++ [v2, v1]))[lows.length]? = some [dU (v2 : Int)] := by
    have := lim_mid lowv [v1] v2
    rw [hl]; simpa using this
  generalize hvl : lim (lowv ++ [v2, v1]) = vl at *
  generalize hul : lim (pre ++ (lows ++ [u2, lo]) ++ ut :: post) = ul at *
  unfold roundP
  have i0 : IntKind.i64.wrap ((pre.length : Int) + (vl.length : Int)) = ((pre.length + (lows.length + 2) : Nat) : Int) := by rw [L1, w64 (by omega) (by omega)]; omega
  have i1 : IntKind.i64.wrap (((pre.length + (lows.length + 2) : Nat) : Int) - 1) = ((pre.length + (lows.length + 1) : Nat) : Int) := by rw [w64 (by omega) (by omega)]; omega
  have i2 : IntKind.i64.wrap (((pre.length + (lows.length + 2) : Nat) : Int) - 2) = ((pre.length + lows.length : Nat) : Int) := by rw [w64 (by omega) (by omega)]; omega
  have i3 : IntKind.i64.wrap ((vl.length : Int) - 1) = ((lows.length + 1 : Nat) : Int) := by rw [L1, w64 (by omega) (by omega)]; omega
  have i4 : IntKind.i64.wrap ((vl.length : Int) - 2) = ((lows.length : Nat) : Int) := by rw [L1, w64 (by omega) (by omega)]; omega
  have e1 : IntKind.u64.wrap (v1 : Int) = (v1 : Int) := wu64 (by omega) (by omega)
  have e1' : IntKind.u64.wrap (v2 : Int) = (v2 : Int) := wu64 (by omega) (by omega)
  have e2 : IntKind.u64.wrap (ut : Int) = (ut : Int) := wu64 (by omega) (by omega)
  have e3 : IntKind.u64.wrap (u2 : Int) = (u2 : Int) := wu64 (by omega) (by omega)
  have e4 : bitsI .u64 (· ||| ·) (IntKind.u64.wrap ((ut : Int) * 2 ^ (min (32 : Int).toNat IntKind.u64.bits))) (IntKind.u64.wrap (lo : Int)) = ((ut * 4294967296 + lo : Nat) : Int) := by
    rw [shl32 hut, wu64 (n := (lo : Int)) (by omega) (by omega), or32 hut hlo]
  have e5 : (((ut * 4294967296 + lo : Nat) : Int).tdiv (v1 : Int)) = (((ut * 4294967296 + lo) / v1 : Nat) : Int) := by rw [Int.tdiv_eq_ediv_of_nonneg (by omega)]; rfl
  have e6 : (((ut * 4294967296 + lo : Nat) : Int).tmod (v1 : Int)) = (((ut * 4294967296 + lo) % v1 : Nat) : Int) := by rw [Int.tmod_eq_emod_of_nonneg (by omega)]; rfl
  refine ⟨(ut : Int), (lo : Int), ?_, ?_, by decide, ?_, ?_, (v1 : Int), ?_, ?_, ?_, ?_⟩
  · rw [i0]; omega
  · rw [i0, Int.toNat_natCast]; exact g0
  · rw [i0, i1]; omega
  · rw [i0, i1, Int.toNat_natCast]; exact g1
  · rw [i3]; omega
  · rw [i3, Int.toNat_natCast]; exact k1
  · rw [e1]; omega
  refine ⟨fun guess rest => ∃ g r : Nat, guess = (g : Int) ∧ rest = (r : Int) ∧ g * v1 + r = ut * 4294967296 + lo ∧ Q ≤ g ∧ g ≤ 4294967297 ∧ r < 4294967296, fun guess _ => guess.toNat, ?_, ?_⟩
  · rw [e2, e4, e1, e5, e6]
    generalize (ut * 4294967296 + lo) / v1 = g at *
    generalize (ut * 4294967296 + lo) % v1 = r at *
    exact ⟨g, r, wu64 (by omega) (by omega), rfl, f1, f5, f4, by omega⟩
  clear f1 f2 f3 f4 f5 e4 e5 e6
  rintro _ _ ⟨g, r, rfl, rfl, hg, hge, hgB, hr⟩
  have rr : IntKind.u64.wrap ((r : Int) + (v1 : Int)) = ((r + v1 : Nat) : Int) := by rw [wu64 (by omega) (by omega)]; omega
  rw [e1, rr]
  have less : (4294967296 ≤ g ∨ r * 4294967296 + u2 < g * v2) → IntKind.u64.wrap ((g : Int) - 1) = ((g - 1 : Nat) : Int) ∧ (g - 1) * v1 + (r + v1) = ut * 4294967296 + lo ∧ Q ≤ g - 1 ∧ 1 ≤ g := fun h => by
    have h1 := dec hg h
    have h2 : (g - 1) * v1 + v1 = g * v1 := by
      rw [show g = (g - 1) + 1 by omega, Nat.add_mul (g - 1) 1 v1, Nat.one_mul]; rfl
    exact ⟨by rw [wu64 (by omega) (by omega)]; omega, by omega, by omega, by omega⟩
  have stop : (4294967296 ≤ g ∨ r * 4294967296 + u2 < g * v2) → decide (((r + v1 : Nat) : Int) > 4294967295) = true → tailP vl (pre.length : Int) ul (lim qs) (IntKind.u64.wrap ((g : Int) - 1)) J0 μ0 := fun h h2 => by
    obtain ⟨a1, a2, a3, a4⟩ := less h
    have h3 : 4294967296 ≤ r + v1 := by have : ((r + v1 : Nat) : Int) > 4294967295 := by simpa using h2
                                        omega
    rw [a1]
    exact tl (g - 1) a3 (gend a2 (by omega) (.inl h3)) (by omega)
  have goon : (4294967296 ≤ g ∨ r * 4294967296 + u2 < g * v2) → decide (((r + v1 : Nat) : Int) > 4294967295) = false →
      (∃ g' r' : Nat, IntKind.u64.wrap ((g : Int) - 1) = (g' : Int) ∧ ((r + v1 : Nat) : Int) = (r' : Int) ∧ g' * v1 + r' = ut * 4294967296 + lo ∧ Q ≤ g' ∧ g' ≤ 4294967297 ∧ r' < 4294967296) ∧ (IntKind.u64.wrap ((g : Int) - 1)).toNat < ((g : Int)).toNat := fun h h2 => by
    obtain ⟨a1, a2, a3, a4⟩ := less h
    have h3 : r + v1 < 4294967296 := by have : ¬ ((r + v1 : Nat) : Int) > 4294967295 := by simpa using h2
                                        omega
    exact ⟨⟨g - 1, r + v1, a1, rfl, a2, a3, by omega, h3⟩, by rw [a1]; omega⟩
  refine ⟨fun h => ?_, fun h => ?_⟩
  · have hb : 4294967296 ≤ g := by have : (g : Int) > 4294967295 := by simpa using h
                                   omega
    exact ⟨fun h2 => stop (.inl hb) h2, fun h2 => goon (.inl hb) h2⟩
  · have hb : g < 4294967296 := by have : ¬ (g : Int) > 4294967295 := by simpa using h
                                   omega
    have e7 : IntKind.u64.wrap ((g : Int) * (v2 : Int)) = ((g * v2 : Nat) : Int) := by
      have : g * v2 ≤ 4294967295 * 4294967295 := Nat.mul_le_mul (by omega) (by omega)
      rw [← Int.natCast_mul]; exact wu64 (by omega) (by omega)
    have e8 : bitsI .u64 (· ||| ·) (IntKind.u64.wrap ((r : Int) * 2 ^ (min (32 : Int).toNat IntKind.u64.bits))) (u2 : Int) = ((r * 4294967296 + u2 : Nat) : Int) := by
      rw [shl32 hr, or32 hr hu2]
    refine ⟨(v2 : Int), (u2 : Int), ?_, ?_, ?_, ?_, ?_⟩
    · rw [i4]; omega
    · rw [i4, Int.toNat_natCast]; exact k2
    · rw [i0, i2]; omega
    · rw [i0, i2, Int.toNat_natCast]; exact g2
    rw [e1', e3, e7, e8]
    refine ⟨fun h2 => ?_, fun h2 => ?_⟩
    · have hc : r * 4294967296 + u2 < g * v2 := by have : ((g * v2 : Nat) : Int) > ((r * 4294967296 + u2 : Nat) : Int) := by simpa using h2
                                                   omega
      exact ⟨fun h3 => stop (.inr hc) h3, fun h3 => goon (.inr hc) h3⟩
    · have hc : g * v2 ≤ r * 4294967296 + u2 := by have : ¬ ((g * v2 : Nat) : Int) > ((r * 4294967296 + u2 : Nat) : Int) := by simpa using h2
                                                   omega
      exact tl g hge (gend hg (by omega) (.inr hc)) (by omega)
end Go.AM
/- integer.long: what it answers. -/
namespace Go.AM
open Go.Proofs.Tryz
def padK : Nat → Nat → List Nat
  | 0, _ => []
  | m + 1, q => q % 4294967296 :: padK m (q / 4294967296)
theorem padK_len : ∀ (m q : Nat), (padK m q).length = m
  | 0, _ => rfl
  | m + 1, q => by simp [padK, padK_len m]
theorem padK_lt : ∀ (m q : Nat), ∀ x ∈ padK m q, x < 4294967296
  | 0, _, x, h => by simp [padK] at h
  | m + 1, q, x, h => by
    simp only [padK, List.mem_cons] at h
    rcases h with rfl | h
    · exact Nat.mod_lt _ (by decide)
    · exact padK_lt m _ x h
theorem padK_val : ∀ (m q : Nat), q < 4294967296 ^ m → val (padK m q) = q
  | 0, q, h => by simp at h; subst h; rfl
  | m + 1, q, h => by
    rw [Nat.pow_succ] at h
    simp only [padK, val]
    rw [padK_val m _ ((Nat.div_lt_iff_lt_mul (by decide)).2 h)]
    have := Nat.div_add_mod q 4294967296
    omega
theorem padK_of : ∀ {l : List Nat}, (∀ x ∈ l, x < 4294967296) → padK l.length (val l) = l
  | [], _ => rfl
  | x :: l, h => by
    have hx := h x (by simp)
    simp only [List.length_cons, padK, val]
    rw [show (x + 4294967296 * val l) % 4294967296 = x by omega, show (x + 4294967296 * val l) / 4294967296 = val l by omega, padK_of fun y hy => h y (by simp [hy])]
theorem split2 {α : Type} {l : List α} (h : 2 ≤ l.length) : ∃ p x y, l = p ++ [x, y] ∧ p.length + 2 = l.length := by
  refine ⟨l.take (l.length - 2), l[l.length - 2], l[l.length - 1], ?_, by rw [List.length_take]; omega⟩
  have h1 := List.take_append_drop (l.length - 2) l
  have h2 : l.drop (l.length - 2) = [l[l.length - 2], l[l.length - 1]] := by
    rw [List.drop_eq_getElem_cons (by omega)]
    congr 1
    rw [List.drop_eq_getElem_cons (by omega)]
    have e : l.length - 2 + 1 = l.length - 1 := by omega
    congr 1
    · simp only [e]
    · exact List.drop_eq_nil_iff.2 (by omega)
  rw [h2] at h1
  exact h1.symm
theorem shR_get (k : Nat) : ∀ (l : List Nat) (c : Nat) (h : c + 1 < l.length), (shR k l)[c]? = some (l[c] / 2 ^ k + (l[c + 1] * 2 ^ (32 - k)) % 4294967296)
  | [], c, h => by simp at h
  | [x], c, h => by simp at h
  | x :: y :: l, 0, h => rfl
  | x :: y :: l, c + 1, h => by
    have := shR_get k (y :: l) c (by simpa using h)
    simpa [shR] using this
theorem shR_lt {k : Nat} (hk : k ≤ 32) {l : List Nat} (hl : ∀ x ∈ l, x < 4294967296) : ∀ z ∈ shR k l, z < 4294967296 := fun z hz => by
  obtain ⟨c, hc⟩ := List.mem_iff_getElem?.1 hz
  have hcl : c < (shR k l).length := by
    rcases Nat.lt_or_ge c (shR k l).length with h | h
    · exact h
    · rw [List.getElem?_eq_none h] at hc; simp at hc
  rw [shR_len] at hcl
  rw [shR_get k l c (by omega), Option.some.injEq] at hc
  subst hc
  have h1 : l[c] < 4294967296 := hl _ (List.getElem_mem _)
  have h2 : l[c] / 2 ^ k < 2 ^ (32 - k) := by
    rw [Nat.div_lt_iff_lt_mul (Nat.pow_pos (by decide)), ← Nat.pow_add, show 32 - k + k = 32 by omega]; exact h1
  have := lo_add (k := 32 - k) (by omega) h2 l[c + 1]
  omega
end Go.AM
/- integer.long: what it answers; integer.divide, integer.DivMod. -/
namespace Go.AM
open Go.Proofs.Tryz
theorem split3 {α : Type} {l : List α} {i n : Nat} (h : i + n < l.length) : ∃ pre seg ut post, l = pre ++ seg ++ ut :: post ∧ pre.length = i ∧ seg.length = n := by
  refine ⟨l.take i, (l.drop i).take n, l[i + n], l.drop (i + n + 1), ?_, by rw [List.length_take]; omega, by rw [List.length_take, List.length_drop]; omega⟩
  have h1 : (l.drop i).drop n = l[i + n] :: l.drop (i + n + 1) := by rw [List.drop_drop, List.drop_eq_getElem_cons h]
  rw [← h1, List.append_assoc, List.take_append_drop, List.take_append_drop]
theorem drop_set1 {l : List Nat} {i d : Nat} (h : i < l.length) : (l.set i d).drop i = d :: l.drop (i + 1) := by
  apply List.ext_getElem?
  intro c
  rw [List.getElem?_drop]
  match c with
  | 0 => simp [h]
  | c + 1 => rw [List.getElem?_set_ne (by omega), List.getElem?_cons_succ, List.getElem?_drop]; congr 1; omega
theorem fill_set {l : List Nat} {c : Nat} (h : c < l.length) : (l.take c ++ List.replicate (l.length - c) 0).set c l[c] = l.take (c + 1) ++ List.replicate (l.length - (c + 1)) 0 := by
  rw [List.set_append_right _ _ (by rw [List.length_take]; omega), List.length_take, Nat.min_eq_left (by omega), Nat.sub_self,
    show l.length - c = (l.length - (c + 1)) + 1 by omega, List.replicate_succ, List.set_cons_zero]
  have : l.take (c + 1) = l.take c ++ [l[c]] := by rw [List.take_add_one, List.getElem?_eq_getElem h]; rfl
  rw [this, List.append_assoc]; rfl
theorem lg1 {V N P S X : Nat} (hVN : V ≤ N) (h : S + P * (N * 4294967296 * X) < V * (P * 4294967296)) : X = 0 := by
  rcases Nat.eq_zero_or_pos X with h0 | h0
  · exact h0
  · exfalso
    have h1 : P * (N * 4294967296 * 1) ≤ P * (N * 4294967296 * X) := Nat.mul_le_mul_left _ (Nat.mul_le_mul_left _ h0)
    have h2 : V * (P * 4294967296) ≤ N * (P * 4294967296) := Nat.mul_le_mul_right _ hVN
    have h3 : N * (P * 4294967296) = P * (N * 4294967296 * 1) := by rw [Nat.mul_one, Nat.mul_left_comm]
    omega
theorem lg2 {V P S W : Nat} (h : S + P * W < V * (P * 4294967296)) : W < V * 4294967296 := by
  apply Classical.byContradiction
  intro hc
  have h1 : P * (V * 4294967296) ≤ P * W := Nat.mul_le_mul_left _ (by omega)
  have h2 : P * (V * 4294967296) = V * (P * 4294967296) := by rw [Nat.mul_left_comm]
  omega
theorem lg3 (a S P N ut X : Nat) : a + P * S + P * N * (ut + 4294967296 * X) = a + P * (S + ut * N) + P * (N * 4294967296 * X) := by
  simp only [Nat.mul_add, Nat.mul_assoc, Nat.mul_comm, Nat.mul_left_comm]
  omega
theorem lg4 {Qo P V W a : Nat} : Qo * (P * 4294967296) * V + (a + P * W) = (W / V + 4294967296 * Qo) * P * V + (a + P * (W % V)) := by
  have hWdm := Nat.div_add_mod W V
  generalize W / V = d at *
  generalize W % V = md at *
  have a1 : Qo * (P * 4294967296) * V = 4294967296 * Qo * P * V := by rw [Nat.mul_comm P, ← Nat.mul_assoc, Nat.mul_comm Qo]
  have a2 : P * W = d * P * V + P * md := by
    rw [← hWdm, Nat.mul_add]
    congr 1
    rw [Nat.mul_comm V d, ← Nat.mul_assoc, Nat.mul_comm P d]
  rw [Nat.add_mul, Nat.add_mul, a1, a2]
  omega
theorem lg5 {V P W a : Nat} (ha : a < P) (hV : 0 < V) : a + P * (W % V) < V * P := by
  have h1 : P * (W % V + 1) ≤ P * V := Nat.mul_le_mul_left _ (Nat.mod_lt W hV)
  rw [Nat.mul_add P _ 1, Nat.mul_one] at h1
  rw [Nat.mul_comm V P]
  omega
theorem wdec {p : Nat} (h : p ≤ 4294967296) : IntKind.i64.wrap ((p : Int) - 1) = (p : Int) - 1 := w64 (by omega) (by omega)
theorem len3 {pre seg R post : List Nat} {ut x : Nat} (h : R.length = seg.length) : (pre ++ R ++ x :: post).length = (pre ++ seg ++ ut :: post).length := by simp [h]
theorem dec_lt (p : Nat) : ((p : Int) - 1 + 1).toNat < ((p : Int) + 1).toNat := by omega
def J0L (m n U V : Nat) (q u : DL) (i : Int) : Prop := ∃ (j : Nat) (qs ws : List Nat), i = (j : Int) - 1 ∧ j ≤ m ∧ q = lim qs ∧ u = lim ws ∧ qs.length = m ∧ ws.length = m + n ∧
  (∀ x ∈ qs, x < 4294967296) ∧ (∀ x ∈ ws, x < 4294967296) ∧ U = val (qs.drop j) * 4294967296 ^ j * V + val ws ∧ val ws < V * 4294967296 ^ j
def μ0L (_ _ : DL) (i : Int) : Nat := (i + 1).toNat
theorem J0_round {m n U V v1 v2 : Nat} {lowv : List Nat} (hmn : m + n ≤ 2147483648) (hn : lowv.length + 2 = n) (dV : ∀ x ∈ lowv ++ [v2, v1], x < 4294967296) (hv1 : 2147483648 ≤ v1) (vV : val (lowv ++ [v2, v1]) = V) (hVN : V ≤ 4294967296 ^ n) (hV0 : 0 < V)
    {q u : DL} {i : Int} (hJ : J0L m n U V q u i) (hi : decide (i ≥ 0) = true) : roundP (lim (lowv ++ [v2, v1])) u q i (J0L m n U V) μ0L := by
  obtain ⟨j, qs, ws, rfl, hj, rfl, rfl, lq, lw, dq, dw, hU', hlt'⟩ := hJ
  have hj1 : 1 ≤ j := by have := of_decide_eq_true hi; omega
  obtain ⟨i, rfl⟩ : ∃ i, j = i + 1 := ⟨j - 1, by omega⟩
  rw [show (((i + 1 : Nat) : Int) - 1) = (i : Int) by omega]
  obtain ⟨pre, seg, ut, post, rfl, rfl, hseg⟩ := split3 (l := ws) (i := i) (n := n) (by omega)
  obtain ⟨lows, u2, lo, rfl, lowsl⟩ := split2 (l := seg) (by omega)
  have hqi : pre.length < qs.length := by omega
  have hpm : pre.length ≤ m := by omega
  have hqB : qs.length ≤ 4294967296 := by omega
  have hpB : pre.length ≤ 4294967296 := by omega
  have hwB : (pre ++ (lows ++ [u2, lo]) ++ ut :: post).length ≤ 4294967296 := by omega
  have hll : lows.length = lowv.length := by omega
  have hsl : (lowv ++ [v2, v1]).length = (lows ++ [u2, lo]).length := by simp [hll]
  have hpre := val_lt (l := pre) fun x hx => dw x (by simp [hx])
  have vws : val (pre ++ (lows ++ [u2, lo]) ++ ut :: post) = val pre + 4294967296 ^ pre.length * (val (lows ++ [u2, lo]) + ut * 4294967296 ^ (lows ++ [u2, lo]).length) + 4294967296 ^ pre.length * (4294967296 ^ n * 4294967296 * val post) := by
    rw [val_append, val_append, List.length_append, hseg, Nat.pow_add]
    exact lg3 _ _ _ _ _ _
  obtain ⟨W, hW⟩ : ∃ W, W = val (lows ++ [u2, lo]) + ut * 4294967296 ^ (lows ++ [u2, lo]).length := ⟨_, rfl⟩
  rw [← hW] at vws
  rw [Nat.pow_succ] at hlt' hU'
  have hpost : val post = 0 := lg1 (V := V) (N := 4294967296 ^ n) (P := 4294967296 ^ pre.length) (S := val pre + 4294967296 ^ pre.length * W) hVN (by rw [← vws]; exact hlt')
  rw [hpost, Nat.mul_zero, Nat.mul_zero, Nat.add_zero] at vws
  have hWV : W < V * 4294967296 := lg2 (P := 4294967296 ^ pre.length) (S := val pre) (by rw [← vws]; exact hlt')
  have hdig : W / V < 4294967296 := by rw [Nat.div_lt_iff_lt_mul hV0, Nat.mul_comm]; exact hWV
  refine round_ok (J0 := J0L m n U V) (μ0 := μ0L) (W := W) (V := V) hll dw dV hv1 hW vV.symm hWV hqi hwB hqB fun R hR dR vR => ?_
  have vnew : val (pre ++ R ++ 0 :: post) = val pre + 4294967296 ^ pre.length * (W % V) := by
    rw [val_append, val_append, vR]; simp [val, hpost]
  rw [wdec hpB]
  refine ⟨⟨pre.length, qs.set pre.length (W / V), pre ++ R ++ 0 :: post, rfl, hpm, rfl, rfl, (List.length_set ..).trans lq, (len3 (hR.trans hsl)).trans lw, fun x hx => ?_, fun x hx => ?_, ?_, ?_⟩, dec_lt _⟩
  · rcases List.mem_or_eq_of_mem_set hx with h | rfl
    · exact dq x h
    · exact hdig
  · simp only [List.mem_append, List.mem_cons] at hx
    rcases hx with (h | h) | rfl | h
    · exact dw x (by simp [h])
    · exact dR x h
    · decide
    · exact dw x (by simp [h])
  · rw [drop_set1 hqi, hU', vws, vnew]
    exact lg4
  · rw [vnew]
    exact lg5 hpre hV0
theorem J0_end {m n U V : Nat} (hV0 : 0 < V) {q u : DL} {i : Int} (hJ : J0L m n U V q u i) (hi : decide (i ≥ 0) = false) : q = lim (padK m (U / V)) ∧ u = lim (padK (m + n) (U % V)) := by
  obtain ⟨j, qs, ws, rfl, hj, rfl, rfl, lq, lw, dq, dw, hU', hlt'⟩ := hJ
  have hj0 : j = 0 := by have := of_decide_eq_false hi; omega
  subst hj0
  rw [Nat.pow_zero, Nat.mul_one] at hU' hlt'
  simp only [List.drop_zero] at hU'
  have u1 : val qs = U / V ∧ val ws = U % V := by
    rw [hU']
    constructor
    · rw [Nat.mul_comm, Nat.mul_add_div hV0, Nat.div_eq_of_lt hlt', Nat.add_zero]
    · rw [Nat.mul_comm, Nat.mul_add_mod, Nat.mod_eq_of_lt hlt']
  exact ⟨by rw [← u1.1, ← lq, padK_of dq], by rw [← u1.2, ← lw, padK_of dw]⟩
theorem back_val {k x y : Nat} (hk : k ≤ 31) (x1 : x < 4294967296) (x2 : y < 4294967296) :
    bitsI .u32 (· ||| ·) (((x : Nat) : Int).fdiv (2 ^ (min (k : Int).toNat IntKind.u32.bits))) (IntKind.u32.wrap ((IntKind.u64.wrap ((IntKind.u64.wrap ((y : Nat) : Int)) * 2 ^ (min (32 : Int).toNat IntKind.u64.bits))).fdiv (2 ^ (min (k : Int).toNat IntKind.u64.bits)))) =
      ((x / 2 ^ k + (y * 2 ^ (32 - k)) % 4294967296 : Nat) : Int) := by
  have hpk : 0 < 2 ^ k := Nat.pow_pos (by decide)
  have h2 : x / 2 ^ k < 2 ^ (32 - k) := by
    rw [Nat.div_lt_iff_lt_mul hpk, ← Nat.pow_add, show 32 - k + k = 32 by omega]; exact x1
  have g2 := orC (k := 32 - k) (c := x / 2 ^ k) (x := y) (by omega) h2
  have g3 : (((y * 4294967296 : Nat) : Int)).fdiv (2 ^ (min (k : Int).toNat IntKind.u64.bits)) = ((y * 2 ^ (32 - k) : Nat) : Int) := by
    have hb : IntKind.u64.bits = 64 := rfl
    rw [hb, Int.toNat_natCast, Nat.min_eq_left (by omega), show ((2 : Int) ^ k) = ((2 ^ k : Nat) : Int) by simp]
    rw [Int.fdiv_eq_ediv_of_nonneg _ (by omega)]
    have : y * 4294967296 = y * 2 ^ (32 - k) * 2 ^ k := by rw [Nat.mul_assoc, ← Nat.pow_add, show 32 - k + k = 32 by omega]
    rw [this, ← Int.natCast_ediv, Nat.mul_div_cancel _ hpk]
  rw [u32_shr _ _ (by omega), wu64 (n := ((y : Nat) : Int)) (by omega) (by omega), shl32 x2, g3]
  have g4 : IntKind.u32.wrap ((y * 2 ^ (32 - k) : Nat) : Int) = (((y * 2 ^ (32 - k)) % 4294967296 : Nat) : Int) := by rw [wu32]; omega
  rw [g4, g2, Nat.add_comm]
def backP (v u q : DL) (r : Int) (R : V → Heap → Prop) : Prop :=
  (∃ (J8 : (DL) → Int → Prop) (μ8 : (DL) → Int → Nat),
  J8 (List.replicate ((v.length : Int)).toNat [(dU (0 : Int))]) (0 : Int) ∧ ∀ (r7 : DL) (t228 : Int), J8 r7 t228 →
    ((decide (t228 < (v.length : Int))) = true →
      ∃ (vx24 : Int) (vx25 : Int),
      (0 ≤ t228 ∧ t228 < (u.length : Int)) ∧
      (u[(t228).toNat]? = some [(dU vx24)]) ∧
      (0 ≤ r) ∧
      (0 ≤ (IntKind.i64.wrap (t228 + (1 : Int))) ∧ (IntKind.i64.wrap (t228 + (1 : Int))) < (u.length : Int)) ∧
      (u[((IntKind.i64.wrap (t228 + (1 : Int)))).toNat]? = some [(dU vx25)]) ∧
      (0 ≤ (32 : Int)) ∧
      (0 ≤ t228 ∧ t228 < (r7.length : Int)) ∧
      (J8 (r7.set (t228).toNat [(dU (bitsI .u32 (· ||| ·) (vx24.fdiv (2 ^ (min r.toNat IntKind.u32.bits))) (IntKind.u32.wrap ((IntKind.u64.wrap ((IntKind.u64.wrap vx25) * 2 ^ (min (32 : Int).toNat IntKind.u64.bits))).fdiv (2 ^ (min r.toNat IntKind.u64.bits))))))]) (IntKind.i64.wrap (t228 + (1 : Int))) ∧ μ8 (r7.set (t228).toNat [(dU (bitsI .u32 (· ||| ·) (vx24.fdiv (2 ^ (min r.toNat IntKind.u32.bits))) (IntKind.u32.wrap ((IntKind.u64.wrap ((IntKind.u64.wrap vx25) * 2 ^ (min (32 : Int).toNat IntKind.u64.bits))).fdiv (2 ^ (min r.toNat IntKind.u64.bits))))))]) (IntKind.i64.wrap (t228 + (1 : Int))) < μ8 r7 t228)) ∧
    ((decide (t228 < (v.length : Int))) = false →
      R (V.tup [(eD (dL q)), (eD (dL r7))]) []))
theorem shback_ok {us SR : List Nat} {n N k : Nat} {v : DL} {q : DL} {R : V → Heap → Prop} (hv : v.length = n) (lr : us.length = N) (hN : n + 1 ≤ N) (hNB : N ≤ 2147483648) (dr : ∀ x ∈ us, x < 4294967296) (hk31 : k ≤ 31)
    (hSRe : SR = shR k (us.take (n + 1))) (hR : R (V.tup [(eD (dL q)), (eD (dL (lim SR)))]) []) : backP v (lim us) q (k : Int) R := by
  have lt1 : (us.take (n + 1)).length = n + 1 := by rw [List.length_take]; omega
  have lSR : SR.length = n := by rw [hSRe, shR_len, lt1]; omega
  have hSR : ∀ c : Nat, c < n → ∀ x y, us[c]? = some x → us[c + 1]? = some y → SR[c]? = some (x / 2 ^ k + (y * 2 ^ (32 - k)) % 4294967296) := fun c hc x y hx hy => by
    rw [hSRe, shR_get k _ c (by omega)]
    simp only [List.getElem_take]
    rw [List.getElem?_eq_getElem (by omega), Option.some.injEq] at hx hy
    rw [hx, hy]
  clear hSRe lt1
  have lw' : (lim us).length = N := by rw [lim_length]; exact lr
  unfold backP
  rw [hv]
  refine ⟨fun r t => ∃ c : Nat, t = (c : Int) ∧ c ≤ n ∧ r = lim (SR.take c ++ List.replicate (SR.length - c) 0), fun _ t => ((n : Int) - t).toNat, ⟨0, rfl, by omega, ?_⟩, ?_⟩
  · rw [Int.toNat_natCast, lim_rep, lSR]; simp
  rintro _ _ ⟨c, rfl, hc, rfl⟩
  refine ⟨fun h => ?_, fun h => ?_⟩
  · have hc1 : c < n := by have := of_decide_eq_true h; omega
    have ec : IntKind.i64.wrap ((c : Int) + 1) = ((c + 1 : Nat) : Int) := by rw [w64 (by omega) (by omega)]; omega
    have x1 := dr _ (List.getElem_mem (l := us) (n := c) (by omega))
    have x2 := dr _ (List.getElem_mem (l := us) (n := c + 1) (by omega))
    have hx : us[c]? = some us[c] := List.getElem?_eq_getElem (by omega)
    have hy : us[c + 1]? = some us[c + 1] := List.getElem?_eq_getElem (by omega)
    have gx : (lim us)[c]? = some [dU ((us[c] : Nat) : Int)] := lim_get (by omega)
    have gy : (lim us)[c + 1]? = some [dU ((us[c + 1] : Nat) : Int)] := lim_get (by omega)
    generalize us[c] = x at *
    generalize us[c + 1] = y at *
    have g1 := hSR c hc1 x y hx hy
    have hval := back_val (k := k) hk31 x1 x2
    have hcS : c < SR.length := by omega
    rw [List.getElem?_eq_getElem hcS, Option.some.injEq] at g1
    rw [← g1] at hval
    have hl : (lim (SR.take c ++ List.replicate (SR.length - c) 0)).length = SR.length := by rw [lim_length, List.length_append, List.length_take, List.length_replicate]; omega
    refine ⟨(x : Int), (y : Int), ⟨by omega, by omega⟩, ?_, by omega, ?_, ?_, by decide, ⟨by omega, by omega⟩, ?_⟩
    · rw [Int.toNat_natCast]; exact gx
    · rw [ec]; omega
    · rw [ec, Int.toNat_natCast]; exact gy
    · rw [hval, ec, Int.toNat_natCast, lim_set, fill_set hcS]
      exact ⟨⟨c + 1, rfl, by omega, rfl⟩, by show ((n : Int) - ((c + 1 : Nat) : Int)).toNat < ((n : Int) - (c : Int)).toNat; omega⟩
  · have hc1 : c = n := by have := of_decide_eq_false h; omega
    subst hc1
    rw [← lSR, List.take_length, Nat.sub_self, List.replicate_zero, List.append_nil]
    exact hR
set_option maxRecDepth 100000 in
set_option maxHeartbeats 2000000 in
theorem long_ok {A D : Nat} (lA : (digs A).length ≤ 1073741823) (hn : 2 ≤ (digs D).length) (hle : D ≤ A) :
    ∃ ql rl : List Nat, (∀ z ∈ ql, z < 4294967296) ∧ (∀ z ∈ rl, z < 4294967296) ∧ ql.length ≤ 1073741824 ∧ rl.length ≤ 1073741824 ∧ val ql = A / D ∧ val rl = A % D ∧
      FnD prog 128 [vs (lim (digs A)), vs (lim (digs D))] (.tup [eD (dL (lim ql)), eD (dL (lim rl))]) [] := by
  have ba := digs_lt A
  have bb := digs_lt D
  have va := val_digs A
  have vb' := val_digs D
  have cb := digs_canon D
  have hlen : (digs D).length ≤ (digs A).length := by
    rcases Nat.lt_or_ge (digs A).length (digs D).length with h | h
    · have := val_lt_of_len ba cb h
      omega
    · exact h
  generalize digs A = a at *
  generalize digs D = b at *
  obtain ⟨bl, top, rfl⟩ : ∃ bl top, b = bl ++ [top] := ⟨b.dropLast, b.getLast (by intro h; subst h; simp at hn), (List.dropLast_concat_getLast _).symm⟩
  have htop0 : top ≠ 0 := cb top (by simp)
  have htopB : top < 4294967296 := bb top (by simp)
  have hbl : ∀ x ∈ bl, x < 4294967296 := fun x hx => bb x (by simp [hx])
  have hn1 : 1 ≤ bl.length := by simp at hn; omega
  obtain ⟨z1, z2⟩ := lz_top htop0 htopB
  have hble := blen_le (x := top) (k := 32) htopB
  have hbl1 : 1 ≤ blen top := by unfold blen; rw [if_neg htop0]; omega
  have hb2 := (blen_bounds htop0).2
  have hlz := lz32_ok htopB
  obtain ⟨k, hk⟩ : ∃ k, k = 32 - blen top := ⟨_, rfl⟩
  rw [← hk] at z1 z2 hlz
  have hk31 : k ≤ 31 := by omega
  have hpk : 0 < 2 ^ k := Nat.pow_pos (by decide)
  have hk2 : 2 ^ k ≤ 2147483648 := by have := Nat.pow_le_pow_right (n := 2) (by decide) hk31; simpa using this
  have htk : (top + 1) * 2 ^ k ≤ 4294967296 := by
    have h1 : (top + 1) * 2 ^ k ≤ 2 ^ blen top * 2 ^ k := Nat.mul_le_mul_right _ hb2
    rw [← Nat.pow_add, show blen top + k = 32 by omega] at h1
    simpa using h1
  have sA := shift_ok (l := a) (k := k) ba (by omega) hk31
  have sB := shift_ok (l := bl ++ [top]) (k := k) bb (by omega) hk31
  have lSA := shG_len k a 0
  have lSB := shG_len k (bl ++ [top]) 0
  have vSA := shG_val k a 0
  have vSB := shG_val k (bl ++ [top]) 0
  have dSA := shG_dig (k := k) (by omega) a 0 hpk ba
  have dSB := shG_dig (k := k) (by omega) (bl ++ [top]) 0 hpk bb
  rw [va, Nat.add_zero] at vSA
  rw [vb', Nat.add_zero] at vSB
  generalize shG k 0 a = SA at *
  generalize shG k 0 (bl ++ [top]) = SB at *
  have vD' : val bl + 4294967296 ^ bl.length * top = D := by rw [← vb', val_append]; simp [val]
  have hvbl := val_lt hbl
  have hn2 : (bl ++ [top]).length = bl.length + 1 := by simp
  rw [hn2] at hlen lSB hn
  have hSBs : SB = SB.take (bl.length + 1) ++ SB.drop (bl.length + 1) := (List.take_append_drop _ _).symm
  have lV : (SB.take (bl.length + 1)).length = bl.length + 1 := by rw [List.length_take]; omega
  have dV : ∀ x ∈ SB.take (bl.length + 1), x < 4294967296 := fun x hx => dSB x (List.mem_of_mem_take hx)
  have hDk : D * 2 ^ k < 4294967296 ^ bl.length * 4294967296 ∧ 2147483648 * 4294967296 ^ bl.length ≤ D * 2 ^ k := by
    generalize 4294967296 ^ bl.length = N at hvbl vD'
    constructor
    · have h1 : D + 1 ≤ N * (top + 1) := by rw [Nat.mul_add, Nat.mul_one]; omega
      have h2 : (D + 1) * 2 ^ k ≤ N * (top + 1) * 2 ^ k := Nat.mul_le_mul_right _ h1
      rw [Nat.mul_assoc] at h2
      have h3 : N * ((top + 1) * 2 ^ k) ≤ N * 4294967296 := Nat.mul_le_mul_left _ htk
      rw [Nat.add_mul D 1, Nat.one_mul] at h2
      omega
    · have h1 : N * top * 2 ^ k ≤ D * 2 ^ k := Nat.mul_le_mul_right _ (by omega)
      have h2 : N * 2147483648 ≤ N * (top * 2 ^ k) := Nat.mul_le_mul_left _ z1
      rw [Nat.mul_assoc] at h1
      omega
  obtain ⟨hDk1, hDk2⟩ := hDk
  have vV : val (SB.take (bl.length + 1)) = D * 2 ^ k := by
    have h1 := congrArg val hSBs
    rw [val_append, lV, vSB, Nat.pow_succ] at h1
    rcases Nat.eq_zero_or_pos (val (SB.drop (bl.length + 1))) with h0 | h0
    · rw [h0, Nat.mul_zero, Nat.add_zero] at h1; exact h1.symm
    · have : 4294967296 ^ bl.length * 4294967296 * 1 ≤ 4294967296 ^ bl.length * 4294967296 * val (SB.drop (bl.length + 1)) := Nat.mul_le_mul_left _ h0
      omega
  obtain ⟨VS, hVS⟩ : ∃ VS, VS = SB.take (bl.length + 1) := ⟨_, rfl⟩
  rw [← hVS] at vV lV dV
  obtain ⟨lowv, v2, v1, rfl, lowl⟩ := split2 (l := VS) (by omega)
  rw [lV] at lowl
  have hv1b : v1 < 4294967296 := dV v1 (by simp)
  have hv2b : v2 < 4294967296 := dV v2 (by simp)
  have hlowv := val_lt (l := lowv) fun x hx => dV x (by simp [hx])
  have ebl : bl.length = lowv.length + 1 := by omega
  have hv1 : 2147483648 ≤ v1 := by
    rw [val_two] at vV
    rw [ebl, Nat.pow_succ] at hDk2
    rw [← vV] at hDk2
    generalize 4294967296 ^ lowv.length = P at *
    apply Classical.byContradiction
    intro hc
    have h1 : P * (v2 + 4294967296 * v1 + 1) ≤ P * (4294967296 * 2147483648) := Nat.mul_le_mul_left _ (by omega)
    rw [Nat.mul_add P _ 1, Nat.mul_one] at h1
    omega
  obtain ⟨V, hV⟩ : ∃ V, V = D * 2 ^ k := ⟨_, rfl⟩
  rw [← hV] at vV hDk1 hDk2
  have hV0 : 0 < V := by
    have : 0 < 4294967296 ^ bl.length := Nat.pow_pos (by decide)
    omega
  obtain ⟨m, hm⟩ : ∃ m, a.length = bl.length + m := ⟨a.length - bl.length, by omega⟩
  have hm1 : 1 ≤ m := by omega
  obtain ⟨U, hU⟩ : ∃ U, U = A * 2 ^ k := ⟨_, rfl⟩
  have hA := val_lt ba
  rw [va, hm] at hA
  have hUlt : U < V * 4294967296 ^ m := by
    rw [Nat.pow_add] at hA
    have h1 : A * 2 ^ k < 4294967296 ^ bl.length * 4294967296 ^ m * 2 ^ k := Nat.mul_lt_mul_of_pos_right hA hpk
    have h2 : 4294967296 ^ bl.length * 4294967296 ^ m * 2 ^ k ≤ 4294967296 ^ bl.length * 4294967296 ^ m * 2147483648 := Nat.mul_le_mul_left _ hk2
    have h3 : 2147483648 * 4294967296 ^ bl.length * 4294967296 ^ m ≤ V * 4294967296 ^ m := Nat.mul_le_mul_right _ hDk2
    rw [Nat.mul_comm _ 2147483648, ← Nat.mul_assoc] at h2
    omega
  have hdiv : U / V = A / D := by rw [hU, hV]; exact Nat.mul_div_mul_right _ _ hpk
  have hmod : U % V = A % D * 2 ^ k := by rw [hU, hV]; exact Nat.mul_mod_mul_right _ _ _
  have hD0 : 0 < D := by
    rcases Nat.eq_zero_or_pos D with h | h
    · rw [h, Nat.zero_mul] at hV; omega
    · exact h
  have hXV : U % V < V := Nat.mod_lt _ hV0
  have hXn : U % V < 4294967296 ^ bl.length * 4294967296 := by omega
  have hq : val (padK m (U / V)) = U / V := padK_val _ _ (by rw [Nat.div_lt_iff_lt_mul hV0, Nat.mul_comm]; exact hUlt)
  have hle2 : 4294967296 ^ bl.length * 4294967296 ≤ 4294967296 ^ (m + (bl.length + 1)) := by rw [← Nat.pow_succ]; exact Nat.pow_le_pow_right (by decide) (by omega)
  have hr := padK_val (m + (bl.length + 1)) (U % V) (by omega)
  have lr := padK_len (m + (bl.length + 1)) (U % V)
  have dr := padK_lt (m + (bl.length + 1)) (U % V)
  obtain ⟨us, hus⟩ : ∃ us, us = padK (m + (bl.length + 1)) (U % V) := ⟨_, rfl⟩
  rw [← hus] at hr lr dr
  have lt1 : (us.take (bl.length + 2)).length = bl.length + 2 := by rw [List.length_take]; omega
  have dt1 : ∀ x ∈ us.take (bl.length + 2), x < 4294967296 := fun x hx => dr x (List.mem_of_mem_take hx)
  have vtake : ∀ j, bl.length + 1 ≤ j → j ≤ us.length → val (us.take j) = U % V := fun j h1 h2 => by
    have h3 := congrArg val (List.take_append_drop j us)
    rw [val_append, hr, List.length_take, Nat.min_eq_left h2] at h3
    rcases Nat.eq_zero_or_pos (val (us.drop j)) with h0 | h0
    · rw [h0, Nat.mul_zero, Nat.add_zero] at h3; exact h3
    · have h4 : 4294967296 ^ (bl.length + 1) ≤ 4294967296 ^ j := Nat.pow_le_pow_right (by decide) h1
      rw [Nat.pow_succ] at h4
      have : 4294967296 ^ j * 1 ≤ 4294967296 ^ j * val (us.drop j) := Nat.mul_le_mul_left _ h0
      omega
  have hrv : val (shR k (us.take (bl.length + 2))) = A % D := by
    obtain ⟨x, l, hxl⟩ : ∃ x l, us.take (bl.length + 2) = x :: l := by
      cases h : us.take (bl.length + 2) with
      | nil => rw [h] at lt1; simp at lt1
      | cons x l => exact ⟨x, l, rfl⟩
    have h1 := shR_val (k := k) (by omega) l x
    have h2 : (x :: l).getLast (by simp) = 0 := by
      have e1 := vtake (bl.length + 1) (by omega) (by omega)
      have e2 := vtake (bl.length + 2) (by omega) (by omega)
      have e3 : us.take (bl.length + 2) = us.take (bl.length + 1) ++ [(x :: l).getLast (by simp)] := by
        have g1 : us.take (bl.length + 1) = (x :: l).dropLast := by
          rw [← hxl, List.dropLast_eq_take, List.take_take, lt1]; congr 1; omega
        rw [g1, List.dropLast_concat_getLast, hxl]
      rw [e3, val_append, e1] at e2
      simp only [val, Nat.mul_zero, Nat.add_zero] at e2
      have g2 : 0 < 4294967296 ^ (us.take (bl.length + 1)).length := Nat.pow_pos (by decide)
      have g3 : 4294967296 ^ (us.take (bl.length + 1)).length * (x :: l).getLast (by simp) = 0 := by omega
      rcases Nat.mul_eq_zero.1 g3 with h | h
      · omega
      · exact h
    rw [h2, Nat.zero_div, Nat.mul_zero, Nat.add_zero, ← hxl, vtake _ (by omega) (by omega), hmod, Nat.mul_div_cancel _ hpk] at h1
    exact h1
  refine ⟨padK m (U / V), shR k (us.take (bl.length + 2)), padK_lt _ _, shR_lt (by omega) dt1, by rw [padK_len]; omega, by rw [shR_len, lt1]; omega, by rw [hq, hdiv], hrv, ?_⟩
  refine vc128_ok _ _ (R := Out _) ?_
  unfold vc128
  have e0 : (lim (bl ++ [top])).length = bl.length + 1 := by rw [lim_length]; simp
  have ev : (lim SB).take (((lim (bl ++ [top])).length : Int)).toNat = lim (lowv ++ [v2, v1]) := by rw [e0, Int.toNat_natCast, lim_take, hVS]
  have ei : IntKind.i64.wrap (((lim (bl ++ [top])).length : Int) - 1) = (bl.length : Int) := by rw [e0, w64 (by omega) (by omega)]; omega
  have lv : (lim (lowv ++ [v2, v1])).length = bl.length + 1 := by rw [lim_length]; omega
  have lSA' : (lim SA).length = m + (bl.length + 1) := by rw [lim_length]; omega
  have lSB' : (lim SB).length = bl.length + 2 := by rw [lim_length]; omega
  have em : IntKind.i64.wrap (((lim SA).length : Int) - ((lim (lowv ++ [v2, v1])).length : Int)) = (m : Int) := by rw [lSA', lv, w64 (by omega) (by omega)]; omega
  refine ⟨(top : Int), (k : Int), ?_, ?_, hlz, lim SA, lim SB, sA, sB, ?_⟩
  · rw [ei, e0]; omega
  · rw [ei, Int.toNat_natCast]; exact lim_mid bl [] top
  rw [ev]
  refine ⟨?_, ?_, J0L m (bl.length + 1) U V, μ0L, ?_, fun q u i hJ => ⟨fun h => ?_, fun h => ?_⟩⟩
  · rw [e0, lSB']; omega
  · rw [em]; omega
  · rw [em]
    refine ⟨m, List.replicate m 0, SA, ?_, Nat.le_refl _, ?_, rfl, by simp, by omega, fun x hx => by rw [List.eq_of_mem_replicate hx]; decide, dSA, ?_, ?_⟩
    · rw [w64 (by omega) (by omega)]
    · rw [Int.toNat_natCast]; exact lim_rep m
    · rw [vSA, ← hU, List.drop_of_length_le (by simp)]; simp [val]
    · rw [vSA, ← hU]; exact hUlt
  · exact J0_round (by omega) lowl dV hv1 vV (by rw [Nat.pow_succ]; omega) hV0 hJ h
  · obtain ⟨rfl, rfl⟩ := J0_end hV0 hJ h
    rw [← hus]
    exact ⟨by rw [lv]; omega, shback_ok lv lr (by omega) (by omega) dr hk31 rfl ⟨rfl, rfl⟩⟩
theorem idivmod_ok {x y : Int} {L : Nat} (hy : y ≠ 0) (hx : x.natAbs * 4294967296 < 4294967296 ^ L) (hy2 : y.natAbs * 4294967296 < 4294967296 ^ L) (hL : L ≤ 1073741824) :
    FnD prog 96 [eI x, eI y] (.tup [ei (x / y), ei (x % y), eD (dI 0)]) [] := by
  have len : ∀ {z : Int}, z.natAbs * 4294967296 < 4294967296 ^ L → (digs z.natAbs).length ≤ 1073741823 := fun {z} h => by
    obtain ⟨M, rfl⟩ : ∃ M, L = M + 1 := ⟨L - 1, by
      rcases Nat.eq_zero_or_pos L with h0 | h0
      · subst h0
        have h1 : y.natAbs * 4294967296 < 1 := by simpa using hy2
        omega
      · omega⟩
    rw [Nat.pow_succ] at h
    have := digs_len (n := z.natAbs) (k := M) (Nat.lt_of_mul_lt_mul_right h)
    omega
  obtain ⟨ql, rl, h1, h2, h3, h4, h5, h6, h7⟩ := divide_of (A := x.natAbs) (D := y.natAbs) (by omega) (len hx) (len hy2) (fun a b => long_ok (len hx) a b)
  exact divmod_of hy hx hy2 hL h7 h1 h2 h3 h4 h5 h6
end Go.AM
/- What functions of the program come to: group Sa. Printed by vc.py. -/
set_option maxRecDepth 100000
set_option linter.unusedVariables false
namespace Go.AM
open Go.Proofs.Tryz
def vc29 (p0 p1 : Int) (p2 : DL) (p3 p4 : Int) (p5 : DL) (p6 p7 : Int) (p8 : DL) (p9 p10 : Int) (p11 : DL) (p12 p13 : Int) (p14 : Bool) (R : V → Heap → Prop) : Prop :=
 (decide (p12 ≥ p0) = true →
 R (vD (dB true)) []) ∧
 (decide (p12 ≥ p0) = false →
 R (vD (dB (decide (p13 ≥ p1)))) [])
theorem vc29_ok (p0 p1 : Int) (p2 : DL) (p3 p4 : Int) (p5 : DL) (p6 p7 : Int) (p8 : DL) (p9 p10 : Int) (p11 : DL) (p12 p13 : Int) (p14 : Bool) {R : V → Heap → Prop} (h : vc29 p0 p1 p2 p3 p4 p5 p6 p7 p8 p9 p10 p11 p12 p13 p14 R) : FnG prog 29 [vA [sD (dI p0), sD (dI p1), sD (dL p2), sD (dI p3), sD (dI p4), sD (dL p5), sD (dI p6), sD (dI p7), sD (dL p8), sD (dI p9), sD (dI p10), sD (dL p11), sD (dI p12), sD (dI p13), sD (dB p14)]] [] R :=
  FnG.vcg hT func29 ntmps29 (.reg 1 [(0, Or.none, 0, 1)] [1] [0] [] <| .spl ((decide (p12 ≥ p0))) (.reg 0 [(6, Or.bool true, 0, 0)] [2] [] [.old 0] <| .ret []) (.reg 0 [(6, Or.bool false, 0, 0)] [2] [] [.old 0] <| .ret []))
    (by kernel_rfl) (by kernel_rfl) (by kernel_rfl) h
def vc31 (p0 p1 : Int) (p2 : DL) (p3 p4 : Int) (p5 : DL) (p6 p7 : Int) (p8 : DL) (p9 p10 : Int) (p11 : DL) (p12 p13 : Int) (p14 : Bool) (R : V → Heap → Prop) : Prop :=
 (decide (p12 ≥ p0) = true →
 R (vD (dB true)) []) ∧
 (decide (p12 ≥ p0) = false →
 R (vD (dB (decide (p13 ≥ p1)))) [])
theorem vc31_ok (p0 p1 : Int) (p2 : DL) (p3 p4 : Int) (p5 : DL) (p6 p7 : Int) (p8 : DL) (p9 p10 : Int) (p11 : DL) (p12 p13 : Int) (p14 : Bool) {R : V → Heap → Prop} (h : vc31 p0 p1 p2 p3 p4 p5 p6 p7 p8 p9 p10 p11 p12 p13 p14 R) : FnG prog 31 [vA [sD (dI p0), sD (dI p1), sD (dL p2), sD (dI p3), sD (dI p4), sD (dL p5), sD (dI p6), sD (dI p7), sD (dL p8), sD (dI p9), sD (dI p10), sD (dL p11), sD (dI p12), sD (dI p13), sD (dB p14)]] [] R :=
  FnG.vcg hT func31 ntmps31 (.reg 1 [(0, Or.none, 0, 1)] [1] [0] [] <| .spl ((decide (p12 ≥ p0))) (.reg 0 [(6, Or.bool true, 0, 0)] [2] [] [.old 0] <| .ret []) (.reg 0 [(6, Or.bool false, 0, 0)] [2] [] [.old 0] <| .ret []))
    (by kernel_rfl) (by kernel_rfl) (by kernel_rfl) h
def vc10 (a0 a1 : Int) (a2 : DL) (R : V → Heap → Prop) : Prop :=
 ∃ (r0 r1 : Int) (r2 : DL) (r01 r11 : Int) (r21 : DL),
 (FnD prog 28 [vD (dI a0)] (vA [sD (dI r0), sD (dI r1), sD (dL r2)]) []) ∧
 (FnD prog 28 [vD (dI a0)] (vA [sD (dI r01), sD (dI r11), sD (dL r21)]) []) ∧
 (∃ (r : Bool),
 (FnD prog 29 [vA [sD (dI a0), sD (dI a1), sD (dL a2), sD (dI a0), sD (dI a1), sD (dL a2), sD (dI r0), sD (dI r1), sD (dL r2), sD (dI r01), sD (dI r11), sD (dL r21), sD (dI (0 : Int)), sD (dI (0 : Int)), sD (dB false)]] (vD (dB r)) []) ∧
 (R (vA [sD (dI a0), sD (dI a1), sD (dL a2), sD (dI a0), sD (dI a1), sD (dL a2), sD (dI r0), sD (dI r1), sD (dL r2), sD (dI r01), sD (dI r11), sD (dL r21), sD (dI (0 : Int)), sD (dI (0 : Int)), sD (dB r)]) []))
theorem vc10_ok (a0 a1 : Int) (a2 : DL) {R : V → Heap → Prop} (h : vc10 a0 a1 a2 R) : FnG prog 10 [vA [sD (dI a0), sD (dI a1), sD (dL a2)]] [] R :=
  FnG.vcg hT func10 ntmps10 (.reg 2 [(0, Or.none, 0, 1), (1, Or.none, 1, 1)] [1, 2] [0, 1] [] <| .ex fun r0 => .ex fun r1 => .exl fun r2 => .ex fun r01 => .ex fun r11 => .exl fun r21 => .drw 1 [(4, (Or.call (vA [sD (dI r0), sD (dI r1), sD (dL r2)]) [] [], 0, 0), []), (7, (Or.call (vA [sD (dI r01), sD (dI r11), sD (dL r21)]) [] [], 0, 0), []), (9, (Or.none, 2, 1), [2]), (10, (Or.none, 0, 0), [2])] [2, 3] [1, 2] [] <| .exb fun r => .reg 0 [(1, Or.call (vD (dB r)) [] [], 0, 0)] [2, 3] [0, 1] [] <| .r1 [2] [0] <| .ret [])
    (by kernel_rfl) (by kernel_rfl) (by kernel_rfl) h
def vc12 (a0 a1 : Int) (a2 : DL) (R : V → Heap → Prop) : Prop :=
 ∃ (r0 r1 : Int) (rrows : DLL) (r01 r11 : Int) (rrows1 : DLL),
 (FnD prog 30 [vD (dI a0)] (vA [sD (dI r0), sD (dI r1), S.ref 0]) [some (Obj.mat 2 rrows)]) ∧
 (FnD prog 30 [vD (dI a0)] (vA [sD (dI r01), sD (dI r11), S.ref 0]) [some (Obj.mat 2 rrows1)]) ∧
 (∃ (r : Bool),
 (FnD prog 31 [vA [sD (dI a0), sD (dI a1), sD (dL a2), sD (dI a0), sD (dI a1), sD (dL a2), sD (dI r0), sD (dI r1), sD (dL (matD rrows)), sD (dI r01), sD (dI r11), sD (dL (matD rrows1)), sD (dI (0 : Int)), sD (dI (0 : Int)), sD (dB false)]] (vD (dB r)) []) ∧
 (R (vA [sD (dI a0), sD (dI a1), sD (dL a2), sD (dI a0), sD (dI a1), sD (dL a2), sD (dI r0), sD (dI r1), sD (dL (matD rrows)), sD (dI r01), sD (dI r11), sD (dL (matD rrows1)), sD (dI (0 : Int)), sD (dI (0 : Int)), sD (dB r)]) []))
theorem vc12_ok (a0 a1 : Int) (a2 : DL) {R : V → Heap → Prop} (h : vc12 a0 a1 a2 R) : FnG prog 12 [vA [sD (dI a0), sD (dI a1), sD (dL a2)]] [] R :=
  FnG.vcg hT func12 ntmps12 (.reg 2 [(0, Or.none, 0, 1), (1, Or.none, 1, 1)] [1, 2] [0, 1] [] <| .ex fun r0 => .ex fun r1 => .exm fun rrows => .ex fun r01 => .ex fun r11 => .exm fun rrows1 => .drw 3 [(4, (Or.call (vA [sD (dI r0), sD (dI r1), S.ref 0]) [some (Obj.mat 2 rrows)] [], 2, 1), [2]), (7, (Or.call (vA [sD (dI r01), sD (dI r11), S.ref 0]) [some (Obj.mat 2 rrows1)] [], 3, 1), [3]), (9, (Or.none, 4, 1), [4]), (10, (Or.none, 0, 0), [4])] [2, 3] [1, 4, 2, 3] [] <| .frz [2] <| .frz [3] <| .exb fun r => .reg 0 [(1, Or.call (vD (dB r)) [] [], 0, 0)] [2, 3] [0, 1] [] <| .r1 [2] [0] <| .ret [])
    (by kernel_rfl) (by kernel_rfl) (by kernel_rfl) h
def vc94 (p0 p1 : Int) (p2 : DL) (p3 p4 : Int) (p5 : DL) (p6 p7 : Int) (p8 : DL) (p9 p10 : Int) (p11 : DL) (p12 p13 : Int) (p14 : Bool) (i : Int) (R : V → Heap → Prop) : Prop :=
 ∃ (vx : DL) (x0 : Bool) (x1 : DL),
 (0 ≤ i ∧ i < (p5.length : Int)) ∧
 (p5[(i).toNat]? = some [dL vx]) ∧
 (0 ≤ p13 ∧ p13 < (vx.length : Int)) ∧
 (vx[(p13).toNat]? = some [dB x0, dL x1]) ∧
 (R (vA [sD (dB x0), sD (dL x1)]) [])
theorem vc94_ok (p0 p1 : Int) (p2 : DL) (p3 p4 : Int) (p5 : DL) (p6 p7 : Int) (p8 : DL) (p9 p10 : Int) (p11 : DL) (p12 p13 : Int) (p14 : Bool) (i : Int) {R : V → Heap → Prop} (h : vc94 p0 p1 p2 p3 p4 p5 p6 p7 p8 p9 p10 p11 p12 p13 p14 i R) : FnG prog 94 [vD (D.box [dI p0, dI p1, dL p2, dI p3, dI p4, dL p5, dI p6, dI p7, dL p8, dI p9, dI p10, dL p11, dI p12, dI p13, dB p14]), vD (dI i)] [] R :=
  FnG.vcg hT func94 ntmps94 (.reg 1 [(0, Or.none, 0, 1)] [0, 1, 4] [0] [] <| .exl fun vx => .exb fun x0 => .exl fun x1 => .drw 0 [(7, (Or.cells [dL vx], 0, 0), []), (13, (Or.cells [dB x0, dL x1], 0, 0), []), (14, (Or.none, 0, 0), [0])] [4] [0] [] <| .ret [])
    (by kernel_rfl) (by kernel_rfl) (by kernel_rfl) h
def vc94o (p0 p1 : Int) (p2 : DL) (p3 p4 : Int) (p5 : DLL) (p6 p7 : Int) (p8 : DLL) (p9 p10 : Int) (p11 : DLL) (p12 p13 : Int) (p14 : Bool) (i : Int) (R : V → Heap → Prop) : Prop :=
 ∃ (x0 : Bool) (x1 : DL),
 (0 ≤ i ∧ i < (p5.length : Int)) ∧
 (∃ l, p5[(i).toNat]? = some l ∧ 0 ≤ p13 ∧ p13 < (l.length : Int)) ∧
 (at2 p5 (i).toNat (p13).toNat = some [dB x0, dL x1]) ∧
 (R (vA [sD (dB x0), sD (dL x1)]) [some (Obj.box [sD (dI p0), sD (dI p1), sD (dL p2), sD (dI p3), sD (dI p4), S.ref 1, sD (dI p6), sD (dI p7), S.ref 2, sD (dI p9), sD (dI p10), S.ref 3, sD (dI p12), sD (dI p13), sD (dB p14)]), some (Obj.mat 2 p5), some (Obj.mat 2 p8), some (Obj.mat 2 p11)])
theorem vc94o_ok (p0 p1 : Int) (p2 : DL) (p3 p4 : Int) (p5 : DLL) (p6 p7 : Int) (p8 : DLL) (p9 p10 : Int) (p11 : DLL) (p12 p13 : Int) (p14 : Bool) (i : Int) {R : V → Heap → Prop} (h : vc94o p0 p1 p2 p3 p4 p5 p6 p7 p8 p9 p10 p11 p12 p13 p14 i R) : FnG prog 94 [V.e (E.sc (S.ptr 0 0)), vD (dI i)] [some (Obj.box [sD (dI p0), sD (dI p1), sD (dL p2), sD (dI p3), sD (dI p4), S.ref 1, sD (dI p6), sD (dI p7), S.ref 2, sD (dI p9), sD (dI p10), S.ref 3, sD (dI p12), sD (dI p13), sD (dB p14)]), some (Obj.mat 2 p5), some (Obj.mat 2 p8), some (Obj.mat 2 p11)] R :=
  FnG.vcg hT func94 ntmps94 (.reg 1 [(0, Or.none, 4, 1)] [0, 1, 4] [0, 1, 2, 3, 4] [] <| .exb fun x0 => .exl fun x1 => .drw 0 [(13, (Or.cells [dB x0, dL x1], 0, 0), []), (14, (Or.none, 0, 0), [4])] [4] [0, 1, 2, 3, 4] [] <| .ret [0, 1, 2, 3])
    (by kernel_rfl) (by kernel_rfl) (by kernel_rfl) h
def vc93 (p0 p1 : Int) (p2 : DL) (p3 p4 : Int) (p5 : DL) (p6 p7 : Int) (p8 : DL) (p9 p10 : Int) (p11 : DL) (p12 p13 : Int) (p14 : Bool) (R : V → Heap → Prop) : Prop :=
 ∃ (J0 : Int → Int → Prop) (μ0 : Int → Int → Nat),
 J0 (-1 : Int) p12 ∧ ∀ (best i : Int), J0 best i →
 (decide (i < p3) = true →
 ∃ (r0 : Bool) (r1 : DL) (r01 : Bool) (r11 : DL),
 (FnD prog 94 [vD (D.box [dI p0, dI p1, dL p2, dI p3, dI p4, dL p5, dI p6, dI p7, dL p8, dI p9, dI p10, dL p11, dI p12, dI p13, dB p14]), vD (dI i)] (vA [sD (dB r0), sD (dL r1)]) []) ∧
 (FnD prog 117 [vA [sD (dB r0), sD (dL r1)]] (vA [sD (dB r01), sD (dL r11)]) []) ∧
 (∃ (r : Int),
 (FnD prog 83 [vA [sD (dB r01), sD (dL r11)]] (vD (dI r)) []) ∧
 ((decide (r > (0 : Int)) = true →
 (decide (best < (0 : Int)) = true →
 J0 i (IntKind.i64.wrap (i + (1 : Int))) ∧ μ0 i (IntKind.i64.wrap (i + (1 : Int))) < μ0 best i) ∧
 (decide (best < (0 : Int)) = false →
 ∃ (r02 : Bool) (r12 : DL) (r03 : Bool) (r13 : DL) (r2 : Int),
 (FnD prog 94 [vD (D.box [dI p0, dI p1, dL p2, dI p3, dI p4, dL p5, dI p6, dI p7, dL p8, dI p9, dI p10, dL p11, dI p12, dI p13, dB p14]), vD (dI best)] (vA [sD (dB r02), sD (dL r12)]) []) ∧
 (FnD prog 117 [vA [sD (dB r02), sD (dL r12)]] (vA [sD (dB r03), sD (dL r13)]) []) ∧
 (FnD prog 86 [vA [sD (dB r01), sD (dL r11)], vA [sD (dB r03), sD (dL r13)]] (vD (dI r2)) []) ∧
 ((decide (r2 < (0 : Int)) = true →
 J0 i (IntKind.i64.wrap (i + (1 : Int))) ∧ μ0 i (IntKind.i64.wrap (i + (1 : Int))) < μ0 best i) ∧
 (decide (r2 < (0 : Int)) = false →
 J0 best (IntKind.i64.wrap (i + (1 : Int))) ∧ μ0 best (IntKind.i64.wrap (i + (1 : Int))) < μ0 best i)))) ∧
 (decide (r > (0 : Int)) = false →
 J0 best (IntKind.i64.wrap (i + (1 : Int))) ∧ μ0 best (IntKind.i64.wrap (i + (1 : Int))) < μ0 best i)))) ∧
 (decide (i < p3) = false →
 R (vD (dI best)) [])
theorem vc93_ok (p0 p1 : Int) (p2 : DL) (p3 p4 : Int) (p5 : DL) (p6 p7 : Int) (p8 : DL) (p9 p10 : Int) (p11 : DL) (p12 p13 : Int) (p14 : Bool) {R : V → Heap → Prop} (h : vc93 p0 p1 p2 p3 p4 p5 p6 p7 p8 p9 p10 p11 p12 p13 p14 R) : FnG prog 93 [vD (D.box [dI p0, dI p1, dL p2, dI p3, dI p4, dL p5, dI p6, dI p7, dL p8, dI p9, dI p10, dL p11, dI p12, dI p13, dB p14])] [] R :=
  FnG.vcg hT func93 ntmps93 (.r0 [0] <| .r0 [0, 3] <| .r0 [0, 3, 4] <| .lp [.i, .i] (fun best i => ⟨[(0, vD (D.box [dI p0, dI p1, dL p2, dI p3, dI p4, dL p5, dI p6, dI p7, dL p8, dI p9, dI p10, dL p11, dI p12, dI p13, dB p14])), (3, vD (dI best)), (4, vD (dI i))], [], 41⟩) [.i (-1 : Int), .i p12] <| .fi fun best => .fi fun i => .beg <| .r0 [0, 3, 4, 16] <| .c2 (.exb fun r0 => .exl fun r1 => .exb fun r01 => .exl fun r11 => .reg 1 [(2, Or.call (vA [sD (dB r0), sD (dL r1)]) [] [], 0, 0), (3, Or.call (vA [sD (dB r01), sD (dL r11)]) [] [], 0, 0), (4, Or.none, 0, 1)] [0, 3, 4, 5] [0] [] <| .ex fun r => .ob (FnD prog 83 [vA [sD (dB r01), sD (dL r11)]] (vD (dI r)) []) <| .spl ((decide (r > (0 : Int)))) (.spl ((decide (best < (0 : Int)))) (.drw 0 [(1, (Or.call (vD (dI r)) [] [], 0, 0), []), (3, (Or.bool true, 0, 0), []), (6, (Or.bool true, 0, 0), [])] [0, 3, 4, 38] [] [.old 2, .old 1, .old 0] <| .ct true none <| .r0 [0, 3, 4] <| .r0 [0, 3, 4] <| .bk 0 [.i i, .i (IntKind.i64.wrap (i + (1 : Int)))]) (.exb fun r02 => .exl fun r12 => .exb fun r03 => .exl fun r13 => .ex fun r2 => .drw 0 [(1, (Or.call (vD (dI r)) [] [], 0, 0), []), (3, (Or.bool true, 0, 0), []), (6, (Or.bool false, 0, 0), []), (10, (Or.call (vA [sD (dB r02), sD (dL r12)]) [] [], 0, 0), []), (11, (Or.call (vA [sD (dB r03), sD (dL r13)]) [] [], 0, 0), []), (12, (Or.call (vD (dI r2)) [] [], 0, 0), [])] [0, 3, 4, 38] [] [.old 2, .old 1, .old 0] <| .c2 (.r0 [0, 3, 4] <| .r0 [0, 3, 4] <| .bk 0 [.i i, .i (IntKind.i64.wrap (i + (1 : Int)))]) (.r0 [0, 3, 4] <| .bk 0 [.i best, .i (IntKind.i64.wrap (i + (1 : Int)))]))) (.drw 0 [(1, (Or.call (vD (dI r)) [] [], 0, 0), []), (3, (Or.bool false, 0, 0), [])] [0, 3, 4, 38] [] [.old 1, .old 0] <| .ct false none <| .r0 [0, 3, 4] <| .bk 0 [.i best, .i (IntKind.i64.wrap (i + (1 : Int)))])) (.r0 [2] <| .ret []))
    (by kernel_rfl) (by kernel_rfl) (by kernel_rfl) h
def vc64 (p0 p1 : Int) (p2 : DL) (p3 p4 : Int) (p5 : DLL) (p6 p7 : Int) (p8 : DLL) (p9 p10 : Int) (p11 : DLL) (p12 p13 : Int) (p14 : Bool) (R : V → Heap → Prop) : Prop :=
 ∃ (r : Int),
 (FnD prog 93 [vD (D.box [dI p0, dI p1, dL p2, dI p3, dI p4, dL (matD p5), dI p6, dI p7, dL (matD p8), dI p9, dI p10, dL (matD p11), dI p12, dI p13, dB p14])] (vD (dI r)) []) ∧
 ((decide (r ≥ (0 : Int)) = true →
 R (vD (dB false)) [some (Obj.box [sD (dI p0), sD (dI p1), sD (dL p2), sD (dI p3), sD (dI p4), S.ref 1, sD (dI p6), sD (dI p7), S.ref 2, sD (dI p9), sD (dI p10), S.ref 3, sD (dI p12), sD (dI p13), sD (dB p14)]), some (Obj.mat 2 p5), some (Obj.mat 2 p8), some (Obj.mat 2 p11)]) ∧
 (decide (r ≥ (0 : Int)) = false →
 R (vD (dB true)) [some (Obj.box [sD (dI p0), sD (dI p1), sD (dL p2), sD (dI p3), sD (dI p4), S.ref 1, sD (dI p6), sD (dI p7), S.ref 2, sD (dI p9), sD (dI p10), S.ref 3, sD (dI p12), sD (dI (IntKind.i64.wrap (p13 + (1 : Int)))), sD (dB p14)]), some (Obj.mat 2 p5), some (Obj.mat 2 p8), some (Obj.mat 2 p11)]))
theorem vc64_ok (p0 p1 : Int) (p2 : DL) (p3 p4 : Int) (p5 : DLL) (p6 p7 : Int) (p8 : DLL) (p9 p10 : Int) (p11 : DLL) (p12 p13 : Int) (p14 : Bool) {R : V → Heap → Prop} (h : vc64 p0 p1 p2 p3 p4 p5 p6 p7 p8 p9 p10 p11 p12 p13 p14 R) : FnG prog 64 [V.e (E.sc (S.ptr 0 0))] [some (Obj.box [sD (dI p0), sD (dI p1), sD (dL p2), sD (dI p3), sD (dI p4), S.ref 1, sD (dI p6), sD (dI p7), S.ref 2, sD (dI p9), sD (dI p10), S.ref 3, sD (dI p12), sD (dI p13), sD (dB p14)]), some (Obj.mat 2 p5), some (Obj.mat 2 p8), some (Obj.mat 2 p11)] R :=
  FnG.vcg hT func64 ntmps64 (.r1 [0] [0, 1, 2, 3] <| .ex fun r => .reg 0 [(1, Or.callB [1, 2, 3] [0] (vD (dI r)), 0, 0)] [0, 5] [0, 1, 2, 3] [] <| .c2 (.r1 [2] [0, 1, 2, 3] <| .ret [0, 1, 2, 3]) (.r1 [] [0, 1, 2, 3] <| .r1 [2] [0, 1, 2, 3] <| .ret [0, 1, 2, 3]))
    (by kernel_rfl) (by kernel_rfl) (by kernel_rfl) h
def vc65 (p0 p1 : Int) (p2 : DL) (p3 p4 : Int) (p5 : DLL) (p6 p7 : Int) (p8 : DLL) (p9 p10 : Int) (p11 : DLL) (p12 p13 : Int) (p14 : Bool) (R : V → Heap → Prop) : Prop :=
 ∃ (r : Int),
 (FnD prog 93 [vD (D.box [dI p0, dI p1, dL p2, dI p3, dI p4, dL (matD p5), dI p6, dI p7, dL (matD p8), dI p9, dI p10, dL (matD p11), dI p12, dI p13, dB p14])] (vD (dI r)) []) ∧
 (((r == p12) = true →
 R (vD (dB false)) [some (Obj.box [sD (dI p0), sD (dI p1), sD (dL p2), sD (dI p3), sD (dI p4), S.ref 4, sD (dI p6), sD (dI p7), S.ref 5, sD (dI p9), sD (dI p10), S.ref 3, sD (dI p12), sD (dI p13), sD (dB p14)]), some (Obj.fwd (S.ref 4)), some (Obj.fwd (S.ref 5)), some (Obj.mat 2 p11), some (Obj.mat 2 p5), some (Obj.mat 2 p8)]) ∧
 ((r == p12) = false →
 (0 ≤ p12 ∧ p12 < (p5.length : Int)) ∧
 (0 ≤ r ∧ r < (p5.length : Int)) ∧
 ((p12).toNat = (p12).toNat) ∧
 ((r).toNat = (r).toNat) ∧
 ((0 ≤ p12 ∧ p12 < (p8.length : Int)) ∧
 (0 ≤ r ∧ r < (p8.length : Int)) ∧
 (∃ (J0 : (DLL) → Int → Prop) (μ0 : (DLL) → Int → Nat),
 J0 p11 (0 : Int) ∧ ∀ (o3 : DLL) (t82 : Int), J0 o3 t82 →
 (decide (t82 < (p11.length : Int)) = true →
 (0 ≤ t82 ∧ t82 < (o3.length : Int)) ∧
 (∃ (x0 : Bool) (x1 : DL) (x01 : Bool) (x11 : DL),
 (∃ l, o3[(t82).toNat]? = some l ∧ 0 ≤ p12 ∧ p12 < (l.length : Int)) ∧
 (at2 o3 (t82).toNat (p12).toNat = some [dB x0, dL x1]) ∧
 (∃ l, o3[(t82).toNat]? = some l ∧ 0 ≤ r ∧ r < (l.length : Int)) ∧
 (at2 o3 (t82).toNat (r).toNat = some [dB x01, dL x11]) ∧
 (∃ l, (o3.modify (t82).toNat (fun qz => qz.set (r).toNat [dB x0, dL x1]))[(t82).toNat]? = some l ∧ 0 ≤ p12 ∧ p12 < (l.length : Int)) ∧
 (J0 ((o3.modify (t82).toNat (fun qz => qz.set (r).toNat [dB x0, dL x1])).modify (t82).toNat (fun qz => qz.set (p12).toNat [dB x01, dL x11])) (IntKind.i64.wrap (t82 + (1 : Int))) ∧ μ0 ((o3.modify (t82).toNat (fun qz => qz.set (r).toNat [dB x0, dL x1])).modify (t82).toNat (fun qz => qz.set (p12).toNat [dB x01, dL x11])) (IntKind.i64.wrap (t82 + (1 : Int))) < μ0 o3 t82))) ∧
 (decide (t82 < (p11.length : Int)) = false →
 R (vD (dB true)) [some (Obj.box [sD (dI p0), sD (dI p1), sD (dL p2), sD (dI p3), sD (dI p4), S.ref 4, sD (dI p6), sD (dI p7), S.ref 5, sD (dI p9), sD (dI p10), S.ref 3, sD (dI p12), sD (dI p13), sD (dB p14)]), some (Obj.fwd (S.ref 4)), some (Obj.fwd (S.ref 5)), some (Obj.mat 2 o3), some (Obj.mat 2 (swapR p5 ((r).toNat) ((p12).toNat))), some (Obj.mat 2 (swapR p8 ((r).toNat) ((p12).toNat)))])))))
theorem vc65_ok (p0 p1 : Int) (p2 : DL) (p3 p4 : Int) (p5 : DLL) (p6 p7 : Int) (p8 : DLL) (p9 p10 : Int) (p11 : DLL) (p12 p13 : Int) (p14 : Bool) {R : V → Heap → Prop} (h : vc65 p0 p1 p2 p3 p4 p5 p6 p7 p8 p9 p10 p11 p12 p13 p14 R) : FnG prog 65 [V.e (E.sc (S.ptr 0 0))] [some (Obj.box [sD (dI p0), sD (dI p1), sD (dL p2), sD (dI p3), sD (dI p4), S.ref 1, sD (dI p6), sD (dI p7), S.ref 2, sD (dI p9), sD (dI p10), S.ref 3, sD (dI p12), sD (dI p13), sD (dB p14)]), some (Obj.mat 2 p5), some (Obj.mat 2 p8), some (Obj.mat 2 p11)] R :=
  FnG.vcg hT func65 ntmps65 (.r1 [0] [0, 1, 2, 3] <| .ex fun r => .drw 0 [(1, (Or.callB [1, 2, 3] [0] (vD (dI r)), 0, 0), [])] [0, 3, 4] [0, 1, 2, 3] [] <| .r1 [0, 3, 4, 15] [0, 1, 2, 3] <| .c2 (.r1 [2] [0, 1, 2, 3] <| .mv 1 <| .mv 2 <| .fwd [] [0] <| .ret [0, 1, 2, 3, 4, 5]) (.drw 1 [(29, (Or.none, 0, 0), [1]), (31, (Or.none, 4, 1), [1, 4])] [0, 3, 4] [0, 1, 2, 3, 4] [.new, .new, .old 0, .old 1] <| .fwd [] [0] <| .drw 1 [(29, (Or.none, 0, 0), [2]), (31, (Or.none, 5, 1), [2, 5])] [0, 3, 4] [0, 1, 2, 3, 4, 5] [.new, .new, .old 0, .old 1, .old 3, .old 2] <| .fwd [] [0] <| .r1 [3, 4, 80, 81, 82] [0, 1, 2, 3, 4, 5] <| .fwd [] [] <| .lp [.m, .i] (fun o3 t82 => ⟨[(3, vD (dI r)), (4, vD (dI p12)), (80, vR 3), (81, vD (dI (p11.length : Int))), (82, vD (dI t82))], [some (Obj.box [sD (dI p0), sD (dI p1), sD (dL p2), sD (dI p3), sD (dI p4), S.ref 4, sD (dI p6), sD (dI p7), S.ref 5, sD (dI p9), sD (dI p10), S.ref 3, sD (dI p12), sD (dI p13), sD (dB p14)]), some (Obj.fwd (S.ref 4)), some (Obj.fwd (S.ref 5)), some (Obj.mat 2 o3), some (Obj.mat 2 (swapR p5 ((r).toNat) ((p12).toNat))), some (Obj.mat 2 (swapR p8 ((r).toNat) ((p12).toNat)))], 101⟩) [.m p11, .i (0 : Int)] <| .fm fun o3 => .fi fun t82 => .beg <| .r1 [3, 4, 80, 81, 82, 83] [0, 1, 2, 3, 4, 5] <| .fwd [] [] <| .c2 (.r1 [3, 4, 6, 80, 81, 82] [0, 1, 2, 3, 4, 5] <| .fwd [] [] <| .exb fun x0 => .exl fun x1 => .exb fun x01 => .exl fun x11 => .drw 0 [(7, (Or.cells [dB x0, dL x1], 0, 0), []), (11, (Or.cells [dB x01, dL x11], 0, 0), []), (13, (Or.none, 0, 0), [3]), (15, (Or.none, 0, 0), [3])] [3, 4, 80, 81, 82] [0, 1, 2, 3, 4, 5] [.new, .new, .new, .new, .old 1] <| .fwd [] [] <| .r1 [3, 4, 80, 81, 82] [0, 1, 2, 3, 4, 5] <| .fwd [] [] <| .bk 0 [.m ((o3.modify (t82).toNat (fun qz => qz.set (r).toNat [dB x0, dL x1])).modify (t82).toNat (fun qz => qz.set (p12).toNat [dB x01, dL x11])), .i (IntKind.i64.wrap (t82 + (1 : Int)))]) (.r1 [2] [0, 1, 2, 3, 4, 5] <| .fwd [] [] <| .ret [0, 1, 2, 3, 4, 5])))
    (by kernel_rfl) (by kernel_rfl) (by kernel_rfl) h
def vc66 (p0 p1 : Int) (p2 : DL) (p3 p4 : Int) (p5 : DLL) (p6 p7 : Int) (p8 : DLL) (p9 p10 : Int) (p11 : DLL) (p12 p13 : Int) (p14 : Bool) (R : V → Heap → Prop) : Prop :=
 ∃ (r : Bool) (r1 : DL) (b b1 : Int) (b2 : DL) (b3 b4 : Int) (b5 b6 : Int) (b7 b8 : Int) (b9 b10 : Int) (b11 : Bool) (m m1 m2 : DLL) (r2 : Int),
 (FnO prog 94 [V.e (E.sc (S.ptr 0 0)), vD (dI p12)] [some (Obj.box [sD (dI p0), sD (dI p1), sD (dL p2), sD (dI p3), sD (dI p4), S.ref 1, sD (dI p6), sD (dI p7), S.ref 2, sD (dI p9), sD (dI p10), S.ref 3, sD (dI p12), sD (dI p13), sD (dB p14)]), some (Obj.mat 2 p5), some (Obj.mat 2 p8), some (Obj.mat 2 p11)] (vA [sD (dB r), sD (dL r1)]) [some (Obj.box [sD (dI b), sD (dI b1), sD (dL b2), sD (dI b3), sD (dI b4), S.ref 1, sD (dI b5), sD (dI b6), S.ref 2, sD (dI b7), sD (dI b8), S.ref 3, sD (dI b9), sD (dI b10), sD (dB b11)]), some (Obj.mat 2 m), some (Obj.mat 2 m1), some (Obj.mat 2 m2)]) ∧
 (FnD prog 83 [vA [sD (dB r), sD (dL r1)]] (vD (dI r2)) []) ∧
 ((decide (r2 > (0 : Int)) = true →
 R (vD (dB false)) [some (Obj.box [sD (dI b), sD (dI b1), sD (dL b2), sD (dI b3), sD (dI b4), S.ref 1, sD (dI b5), sD (dI b6), S.ref 2, sD (dI b7), sD (dI b8), S.ref 3, sD (dI b9), sD (dI b10), sD (dB b11)]), some (Obj.mat 2 m), some (Obj.mat 2 m1), some (Obj.mat 2 m2)]) ∧
 (decide (r2 > (0 : Int)) = false →
 (0 ≤ (0 : Int) ∧ (0 : Int) < ((2 : Nat) : Int)) ∧
 ((0 ≤ b9 ∧ b9 < (m.length : Int)) ∧
 (∃ (J0 : (DLL) → Int → Prop) (μ0 : (DLL) → Int → Nat),
 J0 m (0 : Int) ∧ ∀ (o1 : DLL) (t40 : Int), J0 o1 t40 →
 ((decide (t40 < ((m.getD (b9).toNat ([] : DL)).length : Int))) = true →
 ∃ (x0 : Bool) (x1 : DL),
 (∃ l, o1[(b9).toNat]? = some l ∧ 0 ≤ t40 ∧ t40 < (l.length : Int)) ∧
 (at2 o1 (b9).toNat (t40).toNat = some [dB x0, dL x1]) ∧
 (∃ (r0 : Bool) (r11 : DL),
 (0 ≤ b9 ∧ b9 < (o1.length : Int)) ∧
 (FnD prog 95 [vA [sD (dB x0), sD (dL x1)]] (vA [sD (dB r0), sD (dL r11)]) []) ∧
 (J0 (o1.modify (b9).toNat (fun qz => qz.set (t40).toNat [dB r0, dL r11])) (IntKind.i64.wrap (t40 + (1 : Int))) ∧ μ0 (o1.modify (b9).toNat (fun qz => qz.set (t40).toNat [dB r0, dL r11])) (IntKind.i64.wrap (t40 + (1 : Int))) < μ0 o1 t40))) ∧
 ((decide (t40 < ((m.getD (b9).toNat ([] : DL)).length : Int))) = false →
 (0 ≤ (1 : Int) ∧ (1 : Int) < ((2 : Nat) : Int)) ∧
 ((0 ≤ b9 ∧ b9 < (m1.length : Int)) ∧
 (∃ (J1 : (DLL) → Int → Prop) (μ1 : (DLL) → Int → Nat),
 J1 m1 (0 : Int) ∧ ∀ (o2 : DLL) (t401 : Int), J1 o2 t401 →
 ((decide (t401 < ((m1.getD (b9).toNat ([] : DL)).length : Int))) = true →
 ∃ (x01 : Bool) (x11 : DL),
 (∃ l, o2[(b9).toNat]? = some l ∧ 0 ≤ t401 ∧ t401 < (l.length : Int)) ∧
 (at2 o2 (b9).toNat (t401).toNat = some [dB x01, dL x11]) ∧
 (∃ (r01 : Bool) (r12 : DL),
 (0 ≤ b9 ∧ b9 < (o2.length : Int)) ∧
 (FnD prog 95 [vA [sD (dB x01), sD (dL x11)]] (vA [sD (dB r01), sD (dL r12)]) []) ∧
 (J1 (o2.modify (b9).toNat (fun qz => qz.set (t401).toNat [dB r01, dL r12])) (IntKind.i64.wrap (t401 + (1 : Int))) ∧ μ1 (o2.modify (b9).toNat (fun qz => qz.set (t401).toNat [dB r01, dL r12])) (IntKind.i64.wrap (t401 + (1 : Int))) < μ1 o2 t401))) ∧
 ((decide (t401 < ((m1.getD (b9).toNat ([] : DL)).length : Int))) = false →
 ∃ (J2 : (DLL) → Int → Prop) (μ2 : (DLL) → Int → Nat),
 J2 m2 (0 : Int) ∧ ∀ (o3 : DLL) (t65 : Int), J2 o3 t65 →
 (decide (t65 < (m2.length : Int)) = true →
 (0 ≤ t65 ∧ t65 < (o3.length : Int)) ∧
 (∃ (x02 : Bool) (x12 : DL) (r02 : Bool) (r13 : DL),
 (∃ l, o3[(t65).toNat]? = some l ∧ 0 ≤ b9 ∧ b9 < (l.length : Int)) ∧
 (at2 o3 (t65).toNat (b9).toNat = some [dB x02, dL x12]) ∧
 (FnD prog 95 [vA [sD (dB x02), sD (dL x12)]] (vA [sD (dB r02), sD (dL r13)]) []) ∧
 (J2 (o3.modify (t65).toNat (fun qz => qz.set (b9).toNat [dB r02, dL r13])) (IntKind.i64.wrap (t65 + (1 : Int))) ∧ μ2 (o3.modify (t65).toNat (fun qz => qz.set (b9).toNat [dB r02, dL r13])) (IntKind.i64.wrap (t65 + (1 : Int))) < μ2 o3 t65))) ∧
 (decide (t65 < (m2.length : Int)) = false →
 R (vD (dB true)) [some (Obj.box [sD (dI b), sD (dI b1), sD (dL b2), sD (dI b3), sD (dI b4), S.ref 1, sD (dI b5), sD (dI b6), S.ref 2, sD (dI b7), sD (dI b8), S.ref 3, sD (dI b9), sD (dI b10), sD (dB b11)]), some (Obj.mat 2 o1), some (Obj.mat 2 o2), some (Obj.mat 2 o3)])))))))))
theorem vc66_ok (p0 p1 : Int) (p2 : DL) (p3 p4 : Int) (p5 : DLL) (p6 p7 : Int) (p8 : DLL) (p9 p10 : Int) (p11 : DLL) (p12 p13 : Int) (p14 : Bool) {R : V → Heap → Prop} (h : vc66 p0 p1 p2 p3 p4 p5 p6 p7 p8 p9 p10 p11 p12 p13 p14 R) : FnG prog 66 [V.e (E.sc (S.ptr 0 0))] [some (Obj.box [sD (dI p0), sD (dI p1), sD (dL p2), sD (dI p3), sD (dI p4), S.ref 1, sD (dI p6), sD (dI p7), S.ref 2, sD (dI p9), sD (dI p10), S.ref 3, sD (dI p12), sD (dI p13), sD (dB p14)]), some (Obj.mat 2 p5), some (Obj.mat 2 p8), some (Obj.mat 2 p11)] R :=
  FnG.vcg hT func66 ntmps66 (.r1 [0] [0, 1, 2, 3] <| .exb fun r => .exl fun r1 => .ex fun b => .ex fun b1 => .exl fun b2 => .ex fun b3 => .ex fun b4 => .ex fun b5 => .ex fun b6 => .ex fun b7 => .ex fun b8 => .ex fun b9 => .ex fun b10 => .exb fun b11 => .exm fun m => .exm fun m1 => .exm fun m2 => .ex fun r2 => .reg 0 [(5, Or.callO [0, 1, 2, 3] (vA [sD (dB r), sD (dL r1)]) [some (Obj.box [sD (dI b), sD (dI b1), sD (dL b2), sD (dI b3), sD (dI b4), S.ref 1, sD (dI b5), sD (dI b6), S.ref 2, sD (dI b7), sD (dI b8), S.ref 3, sD (dI b9), sD (dI b10), sD (dB b11)]), some (Obj.mat 2 m), some (Obj.mat 2 m1), some (Obj.mat 2 m2)], 0, 0), (6, Or.call (vD (dI r2)) [] [], 0, 0)] [0, 16] [0, 1, 2, 3] [] <| .c2 (.r1 [2] [0, 1, 2, 3] <| .ret [0, 1, 2, 3]) (.drw 1 [(8, (Or.none, 4, 1), [4])] [0, 25, 26, 27] [0, 1, 2, 3, 4] [] <| .lp1 <| .r1 [0, 25, 26, 27, 28] [0, 1, 2, 3, 4] <| .ct true none <| .reg 1 [(2, Or.none, 5, 1)] [0, 4, 25, 26, 27] [0, 1, 2, 3, 5, 4] [] <| .drw 0 [] [0, 4, 25, 26, 27, 38, 39, 40] [0, 1, 2, 3, 4, 5] [] <| .lp [.m, .i] (fun o1 t40 => ⟨[(0, vP 0 0), (4, vP 4 0), (25, V.e (E.sc (S.refb 5 2))), (26, vD (dI (2 : Int))), (27, vD (dI (0 : Int))), (38, V.e (E.sc (S.row 1 (b9).toNat))), (39, vD (dI ((m.getD (b9).toNat ([] : DL)).length : Int))), (40, vD (dI t40))], [some (Obj.box [sD (dI b), sD (dI b1), sD (dL b2), sD (dI b3), sD (dI b4), S.ref 1, sD (dI b5), sD (dI b6), S.ref 2, sD (dI b7), sD (dI b8), S.ref 3, sD (dI b9), sD (dI b10), sD (dB b11)]), some (Obj.mat 2 o1), some (Obj.mat 2 m1), some (Obj.mat 2 m2), some (Obj.box [sD (dI b3), sD (dI b4), S.ref 1]), some (Obj.box [sD (dI b3), sD (dI b4), S.ref 1, sD (dI b5), sD (dI b6), S.ref 2])], 84⟩) [.m m, .i (0 : Int)] <| .fm fun o1 => .fi fun t40 => .beg <| .r1 [0, 4, 25, 26, 27, 38, 39, 40, 41] [0, 1, 2, 3, 4, 5] <| .c2 (.exb fun x0 => .exl fun x1 => .reg 1 [(2, Or.cells [dB x0, dL x1], 0, 0), (3, Or.none, 6, 1)] [0, 4, 5, 6, 25, 26, 27, 38, 39, 40] [0, 1, 2, 3, 4, 6, 5] [] <| .exb fun r0 => .exl fun r11 => .drw 0 [(10, (Or.call (vA [sD (dB r0), sD (dL r11)]) [] [], 0, 0), []), (12, (Or.none, 0, 0), [1])] [0, 4, 25, 26, 27, 38, 39, 40] [0, 1, 2, 3, 4, 6] [.new, .new, .old 3] <| .r1 [0, 4, 25, 26, 27, 38, 39, 40] [0, 1, 2, 3, 4, 5] <| .bk 0 [.m (o1.modify (b9).toNat (fun qz => qz.set (t40).toNat [dB r0, dL r11])), .i (IntKind.i64.wrap (t40 + (1 : Int)))]) (.r1 [0, 25, 26, 27] [0, 1, 2, 3, 5] <| .lp1 <| .r1 [0, 25, 26, 27, 28] [0, 1, 2, 3, 4] <| .ct true none <| .reg 1 [(2, Or.none, 5, 1)] [0, 4, 25, 26, 27] [0, 1, 2, 3, 5, 4] [] <| .drw 0 [] [0, 4, 25, 26, 27, 38, 39, 40] [0, 1, 2, 3, 4, 5] [] <| .lp [.m, .i] (fun o2 t401 => ⟨[(0, vP 0 0), (4, vP 4 0), (25, V.e (E.sc (S.refb 5 2))), (26, vD (dI (2 : Int))), (27, vD (dI (1 : Int))), (38, V.e (E.sc (S.row 2 (b9).toNat))), (39, vD (dI ((m1.getD (b9).toNat ([] : DL)).length : Int))), (40, vD (dI t401))], [some (Obj.box [sD (dI b), sD (dI b1), sD (dL b2), sD (dI b3), sD (dI b4), S.ref 1, sD (dI b5), sD (dI b6), S.ref 2, sD (dI b7), sD (dI b8), S.ref 3, sD (dI b9), sD (dI b10), sD (dB b11)]), some (Obj.mat 2 o1), some (Obj.mat 2 o2), some (Obj.mat 2 m2), some (Obj.box [sD (dI b5), sD (dI b6), S.ref 2]), some (Obj.box [sD (dI b3), sD (dI b4), S.ref 1, sD (dI b5), sD (dI b6), S.ref 2])], 84⟩) [.m m1, .i (0 : Int)] <| .fm fun o2 => .fi fun t401 => .beg <| .r1 [0, 4, 25, 26, 27, 38, 39, 40, 41] [0, 1, 2, 3, 4, 5] <| .c2 (.exb fun x01 => .exl fun x11 => .reg 1 [(2, Or.cells [dB x01, dL x11], 0, 0), (3, Or.none, 6, 1)] [0, 4, 5, 6, 25, 26, 27, 38, 39, 40] [0, 1, 2, 3, 4, 6, 5] [] <| .exb fun r01 => .exl fun r12 => .drw 0 [(10, (Or.call (vA [sD (dB r01), sD (dL r12)]) [] [], 0, 0), []), (12, (Or.none, 0, 0), [2])] [0, 4, 25, 26, 27, 38, 39, 40] [0, 1, 2, 3, 4, 6] [.new, .new, .old 3] <| .r1 [0, 4, 25, 26, 27, 38, 39, 40] [0, 1, 2, 3, 4, 5] <| .bk 0 [.m (o2.modify (b9).toNat (fun qz => qz.set (t401).toNat [dB r01, dL r12])), .i (IntKind.i64.wrap (t401 + (1 : Int)))]) (.r1 [0, 25, 26, 27] [0, 1, 2, 3, 5] <| .lp1 <| .r1 [0, 25, 26, 27, 28] [0, 1, 2, 3, 4] <| .ct false none <| .r1 [0, 63, 64, 65] [0, 1, 2, 3] <| .lp [.m, .i] (fun o3 t65 => ⟨[(0, vP 0 0), (63, vR 3), (64, vD (dI (m2.length : Int))), (65, vD (dI t65))], [some (Obj.box [sD (dI b), sD (dI b1), sD (dL b2), sD (dI b3), sD (dI b4), S.ref 1, sD (dI b5), sD (dI b6), S.ref 2, sD (dI b7), sD (dI b8), S.ref 3, sD (dI b9), sD (dI b10), sD (dB b11)]), some (Obj.mat 2 o1), some (Obj.mat 2 o2), some (Obj.mat 2 o3)], 84⟩) [.m m2, .i (0 : Int)] <| .fm fun o3 => .fi fun t65 => .beg <| .r1 [0, 63, 64, 65, 66] [0, 1, 2, 3] <| .c2 (.r1 [0, 8, 63, 64, 65] [0, 1, 2, 3] <| .exb fun x02 => .exl fun x12 => .exb fun r02 => .exl fun r13 => .drw 0 [(11, (Or.cells [dB x02, dL x12], 0, 0), []), (12, (Or.call (vA [sD (dB r02), sD (dL r13)]) [] [], 0, 0), []), (14, (Or.none, 0, 0), [3])] [0, 63, 64, 65] [0, 1, 2, 3] [.new, .new, .new, .old 2] <| .r1 [0, 63, 64, 65] [0, 1, 2, 3] <| .bk 0 [.m (o3.modify (t65).toNat (fun qz => qz.set (b9).toNat [dB r02, dL r13])), .i (IntKind.i64.wrap (t65 + (1 : Int)))]) (.r1 [2] [0, 1, 2, 3] <| .ret [0, 1, 2, 3])))))
    (by kernel_rfl) (by kernel_rfl) (by kernel_rfl) h
def vc67 (p0 p1 : Int) (p2 : DL) (p3 p4 : Int) (p5 : DLL) (p6 p7 : Int) (p8 : DLL) (p9 p10 : Int) (p11 : DLL) (p12 p13 : Int) (p14 : Bool) (R : V → Heap → Prop) : Prop :=
 ∃ (J0 : Int → Int → Int → Int → Int → Bool → (DL) → Int → Int → Int → Int → Int → (DLL) → (DLL) → (DLL) → Int → Prop) (μ0 : Int → Int → Int → Int → Int → Bool → (DL) → Int → Int → Int → Int → Int → (DLL) → (DLL) → (DLL) → Int → Nat),
 J0 p0 p1 p10 p12 p13 p14 p2 p3 p4 p6 p7 p9 p5 p8 p11 (0 : Int) ∧ ∀ (p01 p15 : Int) (p101 p121 p131 : Int) (p141 : Bool) (p21 : DL) (p31 p41 : Int) (p61 p71 p91 : Int) (o1 o2 o3 : DLL) (t23 : Int), J0 p01 p15 p101 p121 p131 p141 p21 p31 p41 p61 p71 p91 o1 o2 o3 t23 →
 (decide (t23 < p3) = true →
 ∃ (r : Bool) (r1 : DL) (b b1 : Int) (b2 : DL) (b3 b4 : Int) (b5 b6 : Int) (b7 b8 : Int) (b9 b10 : Int) (b11 : Bool) (m m1 m2 : DLL) (r2 : Bool) (r3 : DL) (b12 b13 : Int) (b14 : DL) (b15 b16 : Int) (b17 b18 : Int) (b19 b20 : Int) (b21 b22 : Int) (b23 : Bool) (m3 m4 m5 : DLL) (r0 : Bool) (r11 : DL) (r01 : Bool) (r12 : DL) (r4 : Int),
 (FnO prog 94 [V.e (E.sc (S.ptr 0 0)), vD (dI t23)] [some (Obj.box [sD (dI p01), sD (dI p15), sD (dL p21), sD (dI p31), sD (dI p41), S.ref 1, sD (dI p61), sD (dI p71), S.ref 2, sD (dI p91), sD (dI p101), S.ref 3, sD (dI p121), sD (dI p131), sD (dB p141)]), some (Obj.mat 2 o1), some (Obj.mat 2 o2), some (Obj.mat 2 o3)] (vA [sD (dB r), sD (dL r1)]) [some (Obj.box [sD (dI b), sD (dI b1), sD (dL b2), sD (dI b3), sD (dI b4), S.ref 1, sD (dI b5), sD (dI b6), S.ref 2, sD (dI b7), sD (dI b8), S.ref 3, sD (dI b9), sD (dI b10), sD (dB b11)]), some (Obj.mat 2 m), some (Obj.mat 2 m1), some (Obj.mat 2 m2)]) ∧
 (FnO prog 94 [V.e (E.sc (S.ptr 0 0)), vD (dI p12)] [some (Obj.box [sD (dI b), sD (dI b1), sD (dL b2), sD (dI b3), sD (dI b4), S.ref 1, sD (dI b5), sD (dI b6), S.ref 2, sD (dI b7), sD (dI b8), S.ref 3, sD (dI b9), sD (dI b10), sD (dB b11)]), some (Obj.mat 2 m), some (Obj.mat 2 m1), some (Obj.mat 2 m2)] (vA [sD (dB r2), sD (dL r3)]) [some (Obj.box [sD (dI b12), sD (dI b13), sD (dL b14), sD (dI b15), sD (dI b16), S.ref 1, sD (dI b17), sD (dI b18), S.ref 2, sD (dI b19), sD (dI b20), S.ref 3, sD (dI b21), sD (dI b22), sD (dB b23)]), some (Obj.mat 2 m3), some (Obj.mat 2 m4), some (Obj.mat 2 m5)]) ∧
 (FnD prog 96 [vA [sD (dB r), sD (dL r1)], vA [sD (dB r2), sD (dL r3)]] (V.tup [E.agg [sD (dB r0), sD (dL r11)], E.agg [sD (dB r01), sD (dL r12)], eD (dI r4)]) []) ∧
 (((t23 == p12) = true →
 J0 b12 b13 b20 b21 b22 b23 b14 b15 b16 b17 b18 b19 m3 m4 m5 (IntKind.i64.wrap (t23 + (1 : Int))) ∧ μ0 b12 b13 b20 b21 b22 b23 b14 b15 b16 b17 b18 b19 m3 m4 m5 (IntKind.i64.wrap (t23 + (1 : Int))) < μ0 p01 p15 p101 p121 p131 p141 p21 p31 p41 p61 p71 p91 o1 o2 o3 t23) ∧
 ((t23 == p12) = false →
 ∃ (r5 : Int),
 (FnD prog 83 [vA [sD (dB r0), sD (dL r11)]] (vD (dI r5)) []) ∧
 (((r5 == (0 : Int)) = true →
 J0 b12 b13 b20 b21 b22 b23 b14 b15 b16 b17 b18 b19 m3 m4 m5 (IntKind.i64.wrap (t23 + (1 : Int))) ∧ μ0 b12 b13 b20 b21 b22 b23 b14 b15 b16 b17 b18 b19 m3 m4 m5 (IntKind.i64.wrap (t23 + (1 : Int))) < μ0 p01 p15 p101 p121 p131 p141 p21 p31 p41 p61 p71 p91 o1 o2 o3 t23) ∧
 ((r5 == (0 : Int)) = false →
 (0 ≤ (0 : Int) ∧ (0 : Int) < ((2 : Nat) : Int)) ∧
 ((0 ≤ p12 ∧ p12 < (m3.length : Int)) ∧
 (∃ (J1 : (DLL) → Int → Prop) (μ1 : (DLL) → Int → Nat),
 J1 m3 (0 : Int) ∧ ∀ (o11 : DLL) (t65 : Int), J1 o11 t65 →
 ((decide (t65 < ((m3.getD (p12).toNat ([] : DL)).length : Int))) = true →
 ∃ (x0 : Bool) (x1 : DL),
 (∃ l, o11[(p12).toNat]? = some l ∧ 0 ≤ t65 ∧ t65 < (l.length : Int)) ∧
 (at2 o11 (p12).toNat (t65).toNat = some [dB x0, dL x1]) ∧
 (∃ (x01 : Bool) (x11 : DL) (r02 : Bool) (r13 : DL) (r03 : Bool) (r14 : DL),
 (0 ≤ t23 ∧ t23 < (o11.length : Int)) ∧
 (∃ l, o11[(t23).toNat]? = some l ∧ 0 ≤ t65 ∧ t65 < (l.length : Int)) ∧
 (at2 o11 (t23).toNat (t65).toNat = some [dB x01, dL x11]) ∧
 (FnD prog 98 [vA [sD (dB r0), sD (dL r11)], vA [sD (dB x0), sD (dL x1)]] (vA [sD (dB r02), sD (dL r13)]) []) ∧
 (FnD prog 97 [vA [sD (dB x01), sD (dL x11)], vA [sD (dB r02), sD (dL r13)]] (vA [sD (dB r03), sD (dL r14)]) []) ∧
 (J1 (o11.modify (t23).toNat (fun qz => qz.set (t65).toNat [dB r03, dL r14])) (IntKind.i64.wrap (t65 + (1 : Int))) ∧ μ1 (o11.modify (t23).toNat (fun qz => qz.set (t65).toNat [dB r03, dL r14])) (IntKind.i64.wrap (t65 + (1 : Int))) < μ1 o11 t65))) ∧
 ((decide (t65 < ((m3.getD (p12).toNat ([] : DL)).length : Int))) = false →
 (0 ≤ (1 : Int) ∧ (1 : Int) < ((2 : Nat) : Int)) ∧
 ((0 ≤ p12 ∧ p12 < (m4.length : Int)) ∧
 (∃ (J2 : (DLL) → Int → Prop) (μ2 : (DLL) → Int → Nat),
 J2 m4 (0 : Int) ∧ ∀ (o21 : DLL) (t651 : Int), J2 o21 t651 →
 ((decide (t651 < ((m4.getD (p12).toNat ([] : DL)).length : Int))) = true →
 ∃ (x02 : Bool) (x12 : DL),
 (∃ l, o21[(p12).toNat]? = some l ∧ 0 ≤ t651 ∧ t651 < (l.length : Int)) ∧
 (at2 o21 (p12).toNat (t651).toNat = some [dB x02, dL x12]) ∧
 (∃ (x03 : Bool) (x13 : DL) (r04 : Bool) (r15 : DL) (r05 : Bool) (r16 : DL),
 (0 ≤ t23 ∧ t23 < (o21.length : Int)) ∧
 (∃ l, o21[(t23).toNat]? = some l ∧ 0 ≤ t651 ∧ t651 < (l.length : Int)) ∧
 (at2 o21 (t23).toNat (t651).toNat = some [dB x03, dL x13]) ∧
 (FnD prog 98 [vA [sD (dB r0), sD (dL r11)], vA [sD (dB x02), sD (dL x12)]] (vA [sD (dB r04), sD (dL r15)]) []) ∧
 (FnD prog 97 [vA [sD (dB x03), sD (dL x13)], vA [sD (dB r04), sD (dL r15)]] (vA [sD (dB r05), sD (dL r16)]) []) ∧
 (J2 (o21.modify (t23).toNat (fun qz => qz.set (t651).toNat [dB r05, dL r16])) (IntKind.i64.wrap (t651 + (1 : Int))) ∧ μ2 (o21.modify (t23).toNat (fun qz => qz.set (t651).toNat [dB r05, dL r16])) (IntKind.i64.wrap (t651 + (1 : Int))) < μ2 o21 t651))) ∧
 ((decide (t651 < ((m4.getD (p12).toNat ([] : DL)).length : Int))) = false →
 ∃ (J3 : (DLL) → Int → Prop) (μ3 : (DLL) → Int → Nat),
 J3 m5 (0 : Int) ∧ ∀ (o31 : DLL) (t97 : Int), J3 o31 t97 →
 (decide (t97 < (m5.length : Int)) = true →
 (0 ≤ t97 ∧ t97 < (o31.length : Int)) ∧
 (∃ (x04 : Bool) (x14 : DL) (x05 : Bool) (x15 : DL) (r06 : Bool) (r17 : DL) (r07 : Bool) (r18 : DL),
 (∃ l, o31[(t97).toNat]? = some l ∧ 0 ≤ p12 ∧ p12 < (l.length : Int)) ∧
 (at2 o31 (t97).toNat (p12).toNat = some [dB x04, dL x14]) ∧
 (∃ l, o31[(t97).toNat]? = some l ∧ 0 ≤ t23 ∧ t23 < (l.length : Int)) ∧
 (at2 o31 (t97).toNat (t23).toNat = some [dB x05, dL x15]) ∧
 (FnD prog 98 [vA [sD (dB r0), sD (dL r11)], vA [sD (dB x05), sD (dL x15)]] (vA [sD (dB r06), sD (dL r17)]) []) ∧
 (FnD prog 99 [vA [sD (dB x04), sD (dL x14)], vA [sD (dB r06), sD (dL r17)]] (vA [sD (dB r07), sD (dL r18)]) []) ∧
 (J3 (o31.modify (t97).toNat (fun qz => qz.set (p12).toNat [dB r07, dL r18])) (IntKind.i64.wrap (t97 + (1 : Int))) ∧ μ3 (o31.modify (t97).toNat (fun qz => qz.set (p12).toNat [dB r07, dL r18])) (IntKind.i64.wrap (t97 + (1 : Int))) < μ3 o31 t97))) ∧
 (decide (t97 < (m5.length : Int)) = false →
 R (vD (dB true)) [some (Obj.box [sD (dI b12), sD (dI b13), sD (dL b14), sD (dI b15), sD (dI b16), S.ref 1, sD (dI b17), sD (dI b18), S.ref 2, sD (dI b19), sD (dI b20), S.ref 3, sD (dI b21), sD (dI b22), sD (dB b23)]), some (Obj.mat 2 o11), some (Obj.mat 2 o21), some (Obj.mat 2 o31)])))))))))))) ∧
 (decide (t23 < p3) = false →
 R (vD (dB false)) [some (Obj.box [sD (dI p01), sD (dI p15), sD (dL p21), sD (dI p31), sD (dI p41), S.ref 1, sD (dI p61), sD (dI p71), S.ref 2, sD (dI p91), sD (dI p101), S.ref 3, sD (dI p121), sD (dI p131), sD (dB p141)]), some (Obj.mat 2 o1), some (Obj.mat 2 o2), some (Obj.mat 2 o3)])
theorem vc67_ok (p0 p1 : Int) (p2 : DL) (p3 p4 : Int) (p5 : DLL) (p6 p7 : Int) (p8 : DLL) (p9 p10 : Int) (p11 : DLL) (p12 p13 : Int) (p14 : Bool) {R : V → Heap → Prop} (h : vc67 p0 p1 p2 p3 p4 p5 p6 p7 p8 p9 p10 p11 p12 p13 p14 R) : FnG prog 67 [V.e (E.sc (S.ptr 0 0))] [some (Obj.box [sD (dI p0), sD (dI p1), sD (dL p2), sD (dI p3), sD (dI p4), S.ref 1, sD (dI p6), sD (dI p7), S.ref 2, sD (dI p9), sD (dI p10), S.ref 3, sD (dI p12), sD (dI p13), sD (dB p14)]), some (Obj.mat 2 p5), some (Obj.mat 2 p8), some (Obj.mat 2 p11)] R :=
  FnG.vcg hT func67 ntmps67 (.r1 [0] [0, 1, 2, 3] <| .r1 [0, 3] [0, 1, 2, 3] <| .r1 [0, 3, 22, 23] [0, 1, 2, 3] <| .lp [.i, .i, .i, .i, .i, .b, .l, .i, .i, .i, .i, .i, .m, .m, .m, .i] (fun p01 p15 p101 p121 p131 p141 p21 p31 p41 p61 p71 p91 o1 o2 o3 t23 => ⟨[(0, vP 0 0), (3, vD (dI p12)), (22, vD (dI p3)), (23, vD (dI t23))], [some (Obj.box [sD (dI p01), sD (dI p15), sD (dL p21), sD (dI p31), sD (dI p41), S.ref 1, sD (dI p61), sD (dI p71), S.ref 2, sD (dI p91), sD (dI p101), S.ref 3, sD (dI p121), sD (dI p131), sD (dB p141)]), some (Obj.mat 2 o1), some (Obj.mat 2 o2), some (Obj.mat 2 o3)], 117⟩) [.i p0, .i p1, .i p10, .i p12, .i p13, .b p14, .l p2, .i p3, .i p4, .i p6, .i p7, .i p9, .m p5, .m p8, .m p11, .i (0 : Int)] <| .fi fun p01 => .fi fun p15 => .fi fun p101 => .fi fun p121 => .fi fun p131 => .fb fun p141 => .fl fun p21 => .fi fun p31 => .fi fun p41 => .fi fun p61 => .fi fun p71 => .fi fun p91 => .fm fun o1 => .fm fun o2 => .fm fun o3 => .fi fun t23 => .beg <| .r1 [0, 3, 22, 23, 24] [0, 1, 2, 3] <| .c2 (.r1 [0, 3, 4, 22, 23] [0, 1, 2, 3] <| .exb fun r => .exl fun r1 => .ex fun b => .ex fun b1 => .exl fun b2 => .ex fun b3 => .ex fun b4 => .ex fun b5 => .ex fun b6 => .ex fun b7 => .ex fun b8 => .ex fun b9 => .ex fun b10 => .exb fun b11 => .exm fun m => .exm fun m1 => .exm fun m2 => .exb fun r2 => .exl fun r3 => .ex fun b12 => .ex fun b13 => .exl fun b14 => .ex fun b15 => .ex fun b16 => .ex fun b17 => .ex fun b18 => .ex fun b19 => .ex fun b20 => .ex fun b21 => .ex fun b22 => .exb fun b23 => .exm fun m3 => .exm fun m4 => .exm fun m5 => .exb fun r0 => .exl fun r11 => .exb fun r01 => .exl fun r12 => .ex fun r4 => .reg 2 [(2, Or.callO [0, 1, 2, 3] (vA [sD (dB r), sD (dL r1)]) [some (Obj.box [sD (dI b), sD (dI b1), sD (dL b2), sD (dI b3), sD (dI b4), S.ref 1, sD (dI b5), sD (dI b6), S.ref 2, sD (dI b7), sD (dI b8), S.ref 3, sD (dI b9), sD (dI b10), sD (dB b11)]), some (Obj.mat 2 m), some (Obj.mat 2 m1), some (Obj.mat 2 m2)], 0, 0), (5, Or.callO [0, 1, 2, 3] (vA [sD (dB r2), sD (dL r3)]) [some (Obj.box [sD (dI b12), sD (dI b13), sD (dL b14), sD (dI b15), sD (dI b16), S.ref 1, sD (dI b17), sD (dI b18), S.ref 2, sD (dI b19), sD (dI b20), S.ref 3, sD (dI b21), sD (dI b22), sD (dB b23)]), some (Obj.mat 2 m3), some (Obj.mat 2 m4), some (Obj.mat 2 m5)], 0, 0), (6, Or.call (V.tup [E.agg [sD (dB r0), sD (dL r11)], E.agg [sD (dB r01), sD (dL r12)], eD (dI r4)]) [] [], 0, 0), (11, Or.none, 4, 1), (12, Or.none, 5, 1)] [0, 3, 4, 5, 22, 23] [0, 1, 2, 3, 4] [] <| .spl ((t23 == p12)) (.reg 0 [(3, Or.bool true, 0, 0)] [0, 3, 4, 5, 22, 23, 44] [0, 1, 2, 3, 4] [.old 0] <| .ct true none <| .r1 [0, 3, 22, 23] [0, 1, 2, 3] <| .bk 0 [.i b12, .i b13, .i b20, .i b21, .i b22, .b b23, .l b14, .i b15, .i b16, .i b17, .i b18, .i b19, .m m3, .m m4, .m m5, .i (IntKind.i64.wrap (t23 + (1 : Int)))]) (.ex fun r5 => .reg 0 [(3, Or.bool false, 0, 0), (5, Or.call (vD (dI r5)) [] [], 0, 0)] [0, 3, 4, 5, 22, 23, 44] [0, 1, 2, 3, 4] [.old 0] <| .c2 (.r1 [0, 3, 22, 23] [0, 1, 2, 3] <| .bk 0 [.i b12, .i b13, .i b20, .i b21, .i b22, .b b23, .l b14, .i b15, .i b16, .i b17, .i b18, .i b19, .m m3, .m m4, .m m5, .i (IntKind.i64.wrap (t23 + (1 : Int)))]) (.drw 1 [(8, (Or.none, 5, 1), [5])] [0, 3, 4, 5, 53, 54, 55] [0, 1, 2, 3, 4, 5] [] <| .lp1 <| .r1 [0, 3, 4, 5, 53, 54, 55, 56] [0, 1, 2, 3, 4, 5] <| .ct true none <| .reg 1 [(2, Or.none, 6, 1)] [0, 3, 4, 5, 9, 53, 54, 55] [0, 1, 2, 3, 4, 6, 5] [] <| .r1 [0, 3, 4, 5, 9, 53, 54, 55, 63, 64, 65] [0, 1, 2, 3, 4, 5, 6] <| .lp [.m, .i] (fun o11 t65 => ⟨[(0, vP 0 0), (3, vD (dI p12)), (4, vD (dI t23)), (5, vP 4 0), (9, vP 5 0), (53, V.e (E.sc (S.refb 6 2))), (54, vD (dI (2 : Int))), (55, vD (dI (0 : Int))), (63, V.e (E.sc (S.row 1 (p12).toNat))), (64, vD (dI ((m3.getD (p12).toNat ([] : DL)).length : Int))), (65, vD (dI t65))], [some (Obj.box [sD (dI b12), sD (dI b13), sD (dL b14), sD (dI b15), sD (dI b16), S.ref 1, sD (dI b17), sD (dI b18), S.ref 2, sD (dI b19), sD (dI b20), S.ref 3, sD (dI b21), sD (dI b22), sD (dB b23)]), some (Obj.mat 2 o11), some (Obj.mat 2 m4), some (Obj.mat 2 m5), some (Obj.box [sD (dB r0), sD (dL r11)]), some (Obj.box [sD (dI b15), sD (dI b16), S.ref 1]), some (Obj.box [sD (dI b15), sD (dI b16), S.ref 1, sD (dI b17), sD (dI b18), S.ref 2])], 117⟩) [.m m3, .i (0 : Int)] <| .fm fun o11 => .fi fun t65 => .beg <| .r1 [0, 3, 4, 5, 9, 53, 54, 55, 63, 64, 65, 66] [0, 1, 2, 3, 4, 5, 6] <| .c2 (.exb fun x0 => .exl fun x1 => .reg 1 [(2, Or.cells [dB x0, dL x1], 0, 0), (3, Or.none, 7, 1)] [0, 3, 4, 5, 9, 10, 11, 53, 54, 55, 63, 64, 65] [0, 1, 2, 3, 4, 5, 7, 6] [] <| .exb fun x01 => .exl fun x11 => .exb fun r02 => .exl fun r13 => .exb fun r03 => .exl fun r14 => .drw 0 [(13, (Or.cells [dB x01, dL x11], 0, 0), []), (16, (Or.call (vA [sD (dB r02), sD (dL r13)]) [] [], 0, 0), []), (17, (Or.call (vA [sD (dB r03), sD (dL r14)]) [] [], 0, 0), []), (19, (Or.none, 0, 0), [1])] [0, 3, 4, 5, 9, 53, 54, 55, 63, 64, 65] [0, 1, 2, 3, 4, 5, 7] [.new, .old 0, .new, .new, .new, .new, .old 3] <| .r1 [0, 3, 4, 5, 9, 53, 54, 55, 63, 64, 65] [0, 1, 2, 3, 4, 5, 6] <| .bk 0 [.m (o11.modify (t23).toNat (fun qz => qz.set (t65).toNat [dB r03, dL r14])), .i (IntKind.i64.wrap (t65 + (1 : Int)))]) (.r1 [0, 3, 4, 5, 53, 54, 55] [0, 1, 2, 3, 4, 6] <| .lp1 <| .r1 [0, 3, 4, 5, 53, 54, 55, 56] [0, 1, 2, 3, 4, 5] <| .ct true none <| .reg 1 [(2, Or.none, 6, 1)] [0, 3, 4, 5, 9, 53, 54, 55] [0, 1, 2, 3, 4, 6, 5] [] <| .r1 [0, 3, 4, 5, 9, 53, 54, 55, 63, 64, 65] [0, 1, 2, 3, 4, 5, 6] <| .lp [.m, .i] (fun o21 t651 => ⟨[(0, vP 0 0), (3, vD (dI p12)), (4, vD (dI t23)), (5, vP 4 0), (9, vP 5 0), (53, V.e (E.sc (S.refb 6 2))), (54, vD (dI (2 : Int))), (55, vD (dI (1 : Int))), (63, V.e (E.sc (S.row 2 (p12).toNat))), (64, vD (dI ((m4.getD (p12).toNat ([] : DL)).length : Int))), (65, vD (dI t651))], [some (Obj.box [sD (dI b12), sD (dI b13), sD (dL b14), sD (dI b15), sD (dI b16), S.ref 1, sD (dI b17), sD (dI b18), S.ref 2, sD (dI b19), sD (dI b20), S.ref 3, sD (dI b21), sD (dI b22), sD (dB b23)]), some (Obj.mat 2 o11), some (Obj.mat 2 o21), some (Obj.mat 2 m5), some (Obj.box [sD (dB r0), sD (dL r11)]), some (Obj.box [sD (dI b17), sD (dI b18), S.ref 2]), some (Obj.box [sD (dI b15), sD (dI b16), S.ref 1, sD (dI b17), sD (dI b18), S.ref 2])], 117⟩) [.m m4, .i (0 : Int)] <| .fm fun o21 => .fi fun t651 => .beg <| .r1 [0, 3, 4, 5, 9, 53, 54, 55, 63, 64, 65, 66] [0, 1, 2, 3, 4, 5, 6] <| .c2 (.exb fun x02 => .exl fun x12 => .reg 1 [(2, Or.cells [dB x02, dL x12], 0, 0), (3, Or.none, 7, 1)] [0, 3, 4, 5, 9, 10, 11, 53, 54, 55, 63, 64, 65] [0, 1, 2, 3, 4, 5, 7, 6] [] <| .exb fun x03 => .exl fun x13 => .exb fun r04 => .exl fun r15 => .exb fun r05 => .exl fun r16 => .drw 0 [(13, (Or.cells [dB x03, dL x13], 0, 0), []), (16, (Or.call (vA [sD (dB r04), sD (dL r15)]) [] [], 0, 0), []), (17, (Or.call (vA [sD (dB r05), sD (dL r16)]) [] [], 0, 0), []), (19, (Or.none, 0, 0), [2])] [0, 3, 4, 5, 9, 53, 54, 55, 63, 64, 65] [0, 1, 2, 3, 4, 5, 7] [.new, .old 0, .new, .new, .new, .new, .old 3] <| .r1 [0, 3, 4, 5, 9, 53, 54, 55, 63, 64, 65] [0, 1, 2, 3, 4, 5, 6] <| .bk 0 [.m (o21.modify (t23).toNat (fun qz => qz.set (t651).toNat [dB r05, dL r16])), .i (IntKind.i64.wrap (t651 + (1 : Int)))]) (.r1 [0, 3, 4, 5, 53, 54, 55] [0, 1, 2, 3, 4, 6] <| .lp1 <| .r1 [0, 3, 4, 5, 53, 54, 55, 56] [0, 1, 2, 3, 4, 5] <| .ct false none <| .r1 [3, 4, 5, 95, 96, 97] [0, 1, 2, 3, 4] <| .lp [.m, .i] (fun o31 t97 => ⟨[(3, vD (dI p12)), (4, vD (dI t23)), (5, vP 4 0), (95, vR 3), (96, vD (dI (m5.length : Int))), (97, vD (dI t97))], [some (Obj.box [sD (dI b12), sD (dI b13), sD (dL b14), sD (dI b15), sD (dI b16), S.ref 1, sD (dI b17), sD (dI b18), S.ref 2, sD (dI b19), sD (dI b20), S.ref 3, sD (dI b21), sD (dI b22), sD (dB b23)]), some (Obj.mat 2 o11), some (Obj.mat 2 o21), some (Obj.mat 2 o31), some (Obj.box [sD (dB r0), sD (dL r11)])], 117⟩) [.m m5, .i (0 : Int)] <| .fm fun o31 => .fi fun t97 => .beg <| .r1 [3, 4, 5, 95, 96, 97, 98] [0, 1, 2, 3, 4] <| .c2 (.r1 [3, 4, 5, 13, 95, 96, 97] [0, 1, 2, 3, 4] <| .exb fun x04 => .exl fun x14 => .exb fun x05 => .exl fun x15 => .exb fun r06 => .exl fun r17 => .exb fun r07 => .exl fun r18 => .drw 0 [(5, (Or.cells [dB x04, dL x14], 0, 0), []), (10, (Or.cells [dB x05, dL x15], 0, 0), []), (11, (Or.call (vA [sD (dB r06), sD (dL r17)]) [] [], 0, 0), []), (12, (Or.call (vA [sD (dB r07), sD (dL r18)]) [] [], 0, 0), []), (14, (Or.none, 0, 0), [3])] [3, 4, 5, 95, 96, 97] [0, 1, 2, 3, 4] [.new, .new, .new, .new, .new, .new, .old 5] <| .r1 [3, 4, 5, 95, 96, 97] [0, 1, 2, 3, 4] <| .bk 0 [.m (o31.modify (t97).toNat (fun qz => qz.set (p12).toNat [dB r07, dL r18])), .i (IntKind.i64.wrap (t97 + (1 : Int)))]) (.r1 [2] [0, 1, 2, 3] <| .ret [0, 1, 2, 3])))))) (.r1 [2] [0, 1, 2, 3] <| .ret [0, 1, 2, 3]))
    (by kernel_rfl) (by kernel_rfl) (by kernel_rfl) h
def vc68 (p0 p1 : Int) (p2 : DL) (p3 p4 : Int) (p5 : DLL) (p6 p7 : Int) (p8 : DLL) (p9 p10 : Int) (p11 : DLL) (p12 p13 : Int) (p14 : Bool) (R : V → Heap → Prop) : Prop :=
 R (vD (dB true)) [some (Obj.box [sD (dI p0), sD (dI p1), sD (dL p2), sD (dI p3), sD (dI p4), S.ref 1, sD (dI p6), sD (dI p7), S.ref 2, sD (dI p9), sD (dI p10), S.ref 3, sD (dI (IntKind.i64.wrap (p12 + (1 : Int)))), sD (dI (IntKind.i64.wrap (p13 + (1 : Int)))), sD (dB p14)]), some (Obj.mat 2 p5), some (Obj.mat 2 p8), some (Obj.mat 2 p11)]
theorem vc68_ok (p0 p1 : Int) (p2 : DL) (p3 p4 : Int) (p5 : DLL) (p6 p7 : Int) (p8 : DLL) (p9 p10 : Int) (p11 : DLL) (p12 p13 : Int) (p14 : Bool) {R : V → Heap → Prop} (h : vc68 p0 p1 p2 p3 p4 p5 p6 p7 p8 p9 p10 p11 p12 p13 p14 R) : FnG prog 68 [V.e (E.sc (S.ptr 0 0))] [some (Obj.box [sD (dI p0), sD (dI p1), sD (dL p2), sD (dI p3), sD (dI p4), S.ref 1, sD (dI p6), sD (dI p7), S.ref 2, sD (dI p9), sD (dI p10), S.ref 3, sD (dI p12), sD (dI p13), sD (dB p14)]), some (Obj.mat 2 p5), some (Obj.mat 2 p8), some (Obj.mat 2 p11)] R :=
  FnG.vcg hT func68 ntmps68 (.r1 [0] [0, 1, 2, 3] <| .r1 [0] [0, 1, 2, 3] <| .r1 [] [0, 1, 2, 3] <| .r1 [2] [0, 1, 2, 3] <| .ret [0, 1, 2, 3])
    (by kernel_rfl) (by kernel_rfl) (by kernel_rfl) h
def vc33  (R : V → Heap → Prop) : Prop :=
 R (vA [sD (D.fn (.func 64) ([] : List D)), sD (D.fn (.func 65) ([] : List D)), sD (D.fn (.func 66) ([] : List D)), sD (D.fn (.func 67) ([] : List D)), sD (D.fn (.func 68) ([] : List D))]) []
theorem vc33_ok  {R : V → Heap → Prop} (h : vc33  R) : FnG prog 33 [] [] R :=
  FnG.vcg hT func33 ntmps33 (.reg 1 [(0, Or.none, 0, 1)] [0] [0] [] <| .r1 [0] [0] <| .ret [])
    (by kernel_rfl) (by kernel_rfl) (by kernel_rfl) h
def vc32 (a0 a1 : Int) (a2 : DL) (R : V → Heap → Prop) : Prop :=
 (0 ≤ (a2.length : Int) ∧ (a2.length : Int) ≤ (a2.length : Int) ∧ (a2.length : Int) * (24 : Nat) ≤ 281474976710656) ∧
 (∃ (J0 : (DLL) → Int → Prop) (μ0 : (DLL) → Int → Nat),
 J0 (List.replicate ((a2.length : Int)).toNat ([] : DL)) (0 : Int) ∧ ∀ (rows : DLL) (t13 : Int), J0 rows t13 →
 (decide (t13 < (a2.length : Int)) = true →
 ∃ (vx : DL),
 (0 ≤ t13 ∧ t13 < (a2.length : Int)) ∧
 (a2[(t13).toNat]? = some [dL vx]) ∧
 ((0 ≤ (vx.length : Int) ∧ (vx.length : Int) ≤ (vx.length : Int) ∧ (vx.length : Int) * (32 : Nat) ≤ 281474976710656) ∧
 (0 ≤ t13 ∧ t13 < (rows.length : Int)) ∧
 ((0 ≤ t13 ∧ t13 < ((rows.set (t13).toNat (List.replicate ((vx.length : Int)).toNat [dB false, dL ([] : DL)])).length : Int)) ∧
 (∀ y ∈ vx, y.length = 2) ∧
 (J0 ((rows.set (t13).toNat (List.replicate ((vx.length : Int)).toNat [dB false, dL ([] : DL)])).set (t13).toNat (vx.take ((rows.set (t13).toNat (List.replicate ((vx.length : Int)).toNat [dB false, dL ([] : DL)])).getD (t13).toNat ([] : DL)).length ++ ((rows.set (t13).toNat (List.replicate ((vx.length : Int)).toNat [dB false, dL ([] : DL)])).getD (t13).toNat ([] : DL)).drop vx.length)) (IntKind.i64.wrap (t13 + (1 : Int))) ∧ μ0 ((rows.set (t13).toNat (List.replicate ((vx.length : Int)).toNat [dB false, dL ([] : DL)])).set (t13).toNat (vx.take ((rows.set (t13).toNat (List.replicate ((vx.length : Int)).toNat [dB false, dL ([] : DL)])).getD (t13).toNat ([] : DL)).length ++ ((rows.set (t13).toNat (List.replicate ((vx.length : Int)).toNat [dB false, dL ([] : DL)])).getD (t13).toNat ([] : DL)).drop vx.length)) (IntKind.i64.wrap (t13 + (1 : Int))) < μ0 rows t13)))) ∧
 (decide (t13 < (a2.length : Int)) = false →
 R (vA [sD (dI a0), sD (dI a1), S.ref 0]) [some (Obj.mat 2 rows)]))
theorem vc32_ok (a0 a1 : Int) (a2 : DL) {R : V → Heap → Prop} (h : vc32 a0 a1 a2 R) : FnG prog 32 [vA [sD (dI a0), sD (dI a1), sD (dL a2)]] [] R :=
  FnG.vcg hT func32 ntmps32 (.reg 2 [(0, Or.none, 0, 1), (1, Or.none, 1, 1)] [1, 2] [0, 1] [] <| .reg 1 [(3, Or.none, 2, 1)] [1, 2, 3] [0, 1, 2] [] <| .r1 [1, 2, 3, 11, 12, 13] [0, 1, 2] <| .lp [.m, .i] (fun rows t13 => ⟨[(1, vP 0 0), (2, vP 1 0), (3, vR 2), (11, vD (dL a2)), (12, vD (dI (a2.length : Int))), (13, vD (dI t13))], [some (Obj.box [sD (dI a0), sD (dI a1), sD (dL a2)]), some (Obj.box [sD (dI (0 : Int)), sD (dI (0 : Int)), sD (D.raw (.slice none 0 0))]), some (Obj.mat 2 rows)], 34⟩) [.m (List.replicate ((a2.length : Int)).toNat ([] : DL)), .i (0 : Int)] <| .fm fun rows => .fi fun t13 => .beg <| .r1 [1, 2, 3, 11, 12, 13, 14] [0, 1, 2] <| .c2 (.exl fun vx => .reg 0 [(2, Or.cells [dL vx], 0, 0)] [1, 2, 3, 4, 5, 11, 12, 13] [0, 1, 2] [] <| .reg 2 [(4, Or.none, 3, 1), (6, Or.none, 4, 1)] [1, 2, 3, 4, 5, 11, 12, 13] [0, 1, 2, 4] [] <| .fwd [3] [] <| .viw [1, 2, 3, 4, 5, 11, 12, 13] [0, 1, 3] <| .r1 [1, 2, 3, 11, 12, 13] [0, 1, 2] <| .r1 [1, 2, 3, 11, 12, 13] [0, 1, 2] <| .bk 0 [.m ((rows.set (t13).toNat (List.replicate ((vx.length : Int)).toNat [dB false, dL ([] : DL)])).set (t13).toNat (vx.take ((rows.set (t13).toNat (List.replicate ((vx.length : Int)).toNat [dB false, dL ([] : DL)])).getD (t13).toNat ([] : DL)).length ++ ((rows.set (t13).toNat (List.replicate ((vx.length : Int)).toNat [dB false, dL ([] : DL)])).getD (t13).toNat ([] : DL)).drop vx.length)), .i (IntKind.i64.wrap (t13 + (1 : Int)))]) (.r1 [1, 2] [0, 1, 2] <| .r1 [2] [1, 2] <| .ret [1]))
    (by kernel_rfl) (by kernel_rfl) (by kernel_rfl) h
end Go.AM
/- Package step: element, least. -/
namespace Go.AM
open Go.Proofs.Tryz
def pD (r c : Nat) (A m u v : List (List Int)) (t k : Nat) (b : Bool) : List D :=
  [dI r, dI c, dL (rows A), dI r, dI c, dL (rows m), dI r, dI r, dL (rows u), dI r, dI r, dL (rows v), dI t, dI k, dB b]
theorem element_ok {r c : Nat} {A m u v : List (List Int)} {t k i : Nat} {b : Bool} (hm : Mx r c m) (hi : i < r) (hk : k < c) :
    FnD prog 94 [vD (D.box (pD r c A m u v t k b)), vi i] (eI (el m i k)) [] := by
  refine vc94_ok _ _ _ _ _ _ _ _ _ _ _ _ _ _ _ _ (R := Out _) ?_
  unfold vc94
  obtain ⟨e1, e2, e3, e4⟩ := read_el hm hi hk
  have hlen : ((rows m).length : Int) = (r : Int) := by rw [rows_length, hm.1]
  exact ⟨_, _, _, ⟨by omega, by rw [hlen]; omega⟩, e1, ⟨by omega, e3⟩, e2, rfl, rfl⟩
theorem pleast_ok {r c : Nat} {A m u v : List (List Int)} {t k : Nat} {b : Bool} (hm : Mx r c m) (hs : ∀ i j, i < r → j < c → Sz (el m i j)) (hk : k < c) (ht : t ≤ r) (hr : r ≤ 4294967296) :
    FnD prog 93 [vD (D.box (pD r c A m u v t k b))] (vi (lsF m k t (r - t))) [] := by
  refine vc93_ok _ _ _ _ _ _ _ _ _ _ _ _ _ _ _ (R := Out _) ?_
  unfold vc93
  refine ⟨fun best i => ∃ n : Nat, i = ((t + n : Nat) : Int) ∧ t + n ≤ r ∧ best = lsF m k t n, fun _ i => ((r : Int) - i).toNat, ⟨0, rfl, ht, rfl⟩, ?_⟩
  rintro _ _ ⟨n, rfl, hn, rfl⟩
  refine ⟨fun h => ?_, fun h => outi ?_⟩
  · have hnr : t + n < r := by have := of_decide_eq_true h; omega
    have hnext : ∀ b, b = lsS m k (lsF m k t n) (t + n) → (∃ n' : Nat, IntKind.i64.wrap (((t + n : Nat) : Int) + 1) = ((t + n' : Nat) : Int) ∧ t + n' ≤ r ∧ b = lsF m k t n') ∧ ((r : Int) - IntKind.i64.wrap (((t + n : Nat) : Int) + 1)).toNat < ((r : Int) - ((t + n : Nat) : Int)).toNat :=
      fun b hb => by
        rw [inc64 (by omega)]
        exact ⟨⟨n + 1, rfl, by omega, hb⟩, by omega⟩
    have szn : ∀ {z : Int}, Sz z → Sz ((z.natAbs : Nat) : Int) := fun h => by unfold Sz at *; rwa [Int.natAbs_natCast]
    have hsign := sign_ok (((el m (t + n) k).natAbs : Nat) : Int)
    have s1 := hs _ _ hnr hk
    refine ⟨_, _, _, _, element_ok hm hnr hk, abs_ok _, _, hsign, fun h0 => ?_, fun h0 => hnext _ ?_⟩
    · have hne : el m (t + n) k ≠ 0 := fun hc => by rw [hc] at h0; simp at h0
      refine ⟨fun hb => hnext _ ?_, fun hb => ?_⟩
      · have hb' := of_decide_eq_true hb
        unfold lsS; rw [if_pos ⟨hne, .inl hb'⟩]
      · have hb' := of_decide_eq_false hb
        rcases lsF_ok (m := m) (c := k) (top := t) n with ⟨g1, _⟩ | ⟨p, g1, g2, g3, g4, _⟩
        · rw [g1] at hb'; exact absurd (by decide) hb'
        · have hpr : p < r := by omega
          have s2 := hs _ _ hpr hk
          have hcmp := cmp_ok (szn s1) (szn s2)
          have cm : decide (cmpI (((el m (t + n) k).natAbs : Nat) : Int) (((el m p k).natAbs : Nat) : Int) < 0) = decide ((el m (t + n) k).natAbs < (el m p k).natAbs) := by
            unfold cmpI
            by_cases hlt : (el m (t + n) k).natAbs < (el m p k).natAbs
            · have : (((el m (t + n) k).natAbs : Nat) : Int) < (((el m p k).natAbs : Nat) : Int) := by omega
              simp [hlt, this]
            · have : ¬ (((el m (t + n) k).natAbs : Nat) : Int) < (((el m p k).natAbs : Nat) : Int) := by omega
              rw [decide_eq_false hlt]
              simp only [this, if_false]
              split <;> decide
          have hst : lsS m k (p : Int) (t + n) = if (el m (t + n) k).natAbs < (el m p k).natAbs then ((t + n : Nat) : Int) else (p : Int) := by
            unfold lsS
            rw [Int.toNat_natCast]
            by_cases hlt : (el m (t + n) k).natAbs < (el m p k).natAbs
            · rw [if_pos ⟨hne, .inr hlt⟩, if_pos hlt]
            · rw [if_neg (fun ⟨_, b⟩ => b.elim (fun b => absurd b (by omega)) hlt), if_neg hlt]
          rw [g1] at hnext ⊢
          rw [hst] at hnext
          refine ⟨_, _, _, _, _, element_ok hm hpr hk, abs_ok _, hcmp, ?_⟩
          rw [cm]
          refine ⟨fun hl => hnext _ ?_, fun hl => hnext _ ?_⟩
          · rw [if_pos (by simpa using hl)]
          · rw [if_neg (by simpa using hl)]
    · have hne : el m (t + n) k = 0 := by
        apply Classical.byContradiction
        intro hc
        have hpos : 0 < (((el m (t + n) k).natAbs : Nat) : Int) := by omega
        rw [if_neg (by omega), if_neg (by omega)] at h0
        simp at h0
      unfold lsS; rw [if_neg (by simp [hne])]
  · have hnr : r ≤ t + n := by have := of_decide_eq_false h; omega
    rw [show r - t = n by omega]
end Go.AM
/- torsionref12.Form: what it answers. -/
namespace Go.AM
open Go.Proofs.Tryz
def redP (top c : Int) (w01 w11 w31 w41 w61 w71 : Int) (o31 o41 o51 : DLL) (J0 : Int → Int → Int → Int → Int → Int → (DLL) → (DLL) → (DLL) → Int → Int → Prop) (μ0 : Int → Int → Int → Int → Int → Int → (DLL) → (DLL) → (DLL) → Int → Int → Nat) (B0 : Nat) : Prop :=
  ∃ (J4 : Int → Int → Int → Int → Int → Int → (DLL) → (DLL) → (DLL) → Int → Prop) (μ4 : Int → Int → Int → Int → Int → Int → (DLL) → (DLL) → (DLL) → Int → Nat),
  J4 w01 w11 w31 w41 w61 w71 o31 o41 o51 (0 : Int) ∧ ∀ (w04 : Int) (w14 : Int) (w34 : Int) (w44 : Int) (w64 : Int) (w74 : Int) (o34 : DLL) (o44 : DLL) (o54 : DLL) (i2 : Int), J4 w04 w14 w34 w44 w64 w74 o34 o44 o54 i2 →
    ((decide (i2 < top)) = true →
      ∃ (x05 : Bool) (x15 : DL) (x06 : Bool) (x16 : DL) (r05 : Bool) (r16 : DL) (r06 : Bool) (r17 : DL) (b36 : Int) (b37 : Int) (b38 : Int) (b39 : Int) (b40 : Int) (b41 : Int) (m18 : DLL) (m19 : DLL) (m20 : DLL),
      (0 ≤ i2 ∧ i2 < (o34.length : Int)) ∧
      (∃ l, o34[(i2).toNat]? = some l ∧ 0 ≤ c ∧ c < (l.length : Int)) ∧
      (at2 o34 (i2).toNat (c).toNat = some [(dB x05), (dL x15)]) ∧
      (0 ≤ top ∧ top < (o34.length : Int)) ∧
      (∃ l, o34[(top).toNat]? = some l ∧ 0 ≤ c ∧ c < (l.length : Int)) ∧
      (at2 o34 (top).toNat (c).toNat = some [(dB x06), (dL x16)]) ∧
      (FnD prog 55 [(vA [(sD (dB x05)), (sD (dL x15))]), (vA [(sD (dB x06)), (sD (dL x16))])] (vA [(sD (dB r05)), (sD (dL r16))]) []) ∧
      (FnD prog 52 [(vA [(sD (dB r05)), (sD (dL r16))])] (vA [(sD (dB r06)), (sD (dL r17))]) []) ∧
      (FnO prog 51 [(V.e (E.sc (S.ptr 0 0))), (vD (dI i2)), (vD (dI top)), (vA [(sD (dB r06)), (sD (dL r17))])] [(some (Obj.box [(sD (dI w04)), (sD (dI w14)), (S.ref 1), (sD (dI w34)), (sD (dI w44)), (S.ref 2), (sD (dI w64)), (sD (dI w74)), (S.ref 3)])), (some (Obj.mat 2 o34)), (some (Obj.mat 2 o44)), (some (Obj.mat 2 o54))] (V.tup []) [(some (Obj.box [(sD (dI b36)), (sD (dI b37)), (S.ref 1), (sD (dI b38)), (sD (dI b39)), (S.ref 2), (sD (dI b40)), (sD (dI b41)), (S.ref 3)])), (some (Obj.mat 2 m18)), (some (Obj.mat 2 m19)), (some (Obj.mat 2 m20))]) ∧
      (J4 b36 b37 b38 b39 b40 b41 m18 m19 m20 (IntKind.i64.wrap (i2 + (1 : Int))) ∧ μ4 b36 b37 b38 b39 b40 b41 m18 m19 m20 (IntKind.i64.wrap (i2 + (1 : Int))) < μ4 w04 w14 w34 w44 w64 w74 o34 o44 o54 i2)) ∧
    ((decide (i2 < top)) = false →
      J0 w04 w14 w34 w44 w64 w74 o34 o44 o54 (IntKind.i64.wrap (top + (1 : Int))) (IntKind.i64.wrap (c + (1 : Int))) ∧ μ0 w04 w14 w34 w44 w64 w74 o34 o44 o54 (IntKind.i64.wrap (top + (1 : Int))) (IntKind.i64.wrap (c + (1 : Int))) < B0)
def unlim : DL → Nat
  | [.int _ n] :: l => n.toNat + 4294967296 * unlim l
  | _ => 0
theorem unlim_lim : ∀ l : List Nat, unlim (lim l) = val l
  | [] => rfl
  | x :: l => by
    have := unlim_lim l
    simp only [lim, List.map_cons, unlim, val, Int.toNat_natCast] at this ⊢
    rw [this]
def msr (o : DLL) (i j : Nat) : Nat :=
  match at2 o i j with
  | some [_, .sl l] => unlim l
  | _ => 0
theorem at2_el {r c : Nat} {m : List (List Int)} (hm : Mx r c m) {i j : Nat} (hi : i < r) (hj : j < c) : at2 (om m) i j = some (cI (el m i j)) := by
  conv => lhs; rw [mx_table hm]
  exact at2_om hi hj
theorem at2_elN {r c : Nat} {m : List (List Int)} (hm : Mx r c m) {i j : Nat} (hi : i < r) (hj : j < c) : at2 (om m) (i : Int).toNat (j : Int).toNat = some (cI (el m i j)) := by
  rw [Int.toNat_natCast, Int.toNat_natCast]; exact at2_el hm hi hj
theorem msr_om {r c : Nat} {m : List (List Int)} (hm : Mx r c m) {i j : Nat} (hi : i < r) (hj : j < c) : msr (om m) i j = (el m i j).natAbs := by
  unfold msr
  rw [at2_el hm hi hj]
  simp only [cI]
  rw [unlim_lim, val_digs]
theorem omx_in {r c : Nat} {m : List (List Int)} (hm : Mx r c m) {i j : Nat} (hi : i < r) (hj : j < c) : ∃ l, (om m)[(i : Int).toNat]? = some l ∧ 0 ≤ (j : Int) ∧ (j : Int) < (l.length : Int) := by
  conv => rw [mx_table hm]
  exact om_in hi hj
theorem omx_len {r c : Nat} {m : List (List Int)} (hm : Mx r c m) : (om m).length = r := by rw [om_length]; exact hm.1
structure FCx (r cc K L : Nat) (a : List (List Int)) (FL : List Opz) : Prop where
  hm : Mx r cc a
  bd : ∀ d e, d ++ e = FL → BdM K (apL r cc d a) ∧ BdM K (apL r r d (table r r delta)) ∧ BdM K (apCL r d (table r r delta))
  nx : ∀ d o e, d ++ o :: e = FL → vO r o = true ∧ o.z.natAbs ≤ K
  big : K * K * 4294967296 < 4294967296 ^ L
  hL : L ≤ 1073741824
  hr : r ≤ 4294967296
  hc : cc ≤ 4294967296
section
variable {r cc K L : Nat} {a : List (List Int)} {FL : List Opz} (C : FCx r cc K L a FL)
abbrev wD (r cc : Nat) (a : List (List Int)) (d : List Opz) : Heap := wH r cc (apL r cc d a) (apL r r d (table r r delta)) (apCL r d (table r r delta))
abbrev wDs (r cc : Nat) (a : List (List Int)) (d : List Opz) : Heap := wHs r cc (apL r cc d a) (apL r r d (table r r delta)) (apCL r d (table r r delta))
theorem apL_one (d : List Opz) (o : Opz) (m : List (List Int)) : apL r cc (d ++ [o]) m = apO r cc o (apL r cc d m) := apL_append d [o] m
theorem apCL_one (d : List Opz) (o : Opz) (m : List (List Int)) : apCL r (d ++ [o]) m = apC r o (apCL r d m) := apCL_append d [o] m
theorem mxu (r : Nat) (d : List Opz) : Mx r r (apL r r d (table r r delta)) := apL_mx _ (table_mx _ _ _)
theorem mxv (r : Nat) (d : List Opz) : Mx r r (apCL r d (table r r delta)) := apCL_mx _ (table_mx _ _ _)
theorem le_sq (K : Nat) : K ≤ K * K := by
  rcases Nat.eq_zero_or_pos K with h0 | h0
  · omega
  · exact one_mul_le h0
include C
theorem FCx.mx (d : List Opz) : Mx r cc (apL r cc d a) := apL_mx _ C.hm
theorem FCx.lt {z : Int} (h : z.natAbs ≤ K) : z.natAbs * 4294967296 < 4294967296 ^ L :=
  Nat.lt_of_le_of_lt (Nat.mul_le_mul_right _ (Nat.le_trans h (le_sq K))) C.big
theorem FCx.sz {z : Int} (h : z.natAbs ≤ K) : Sz z := Sz.of_lt L C.hL (Nat.lt_of_le_of_lt (Nat.le_mul_of_pos_right _ (by decide)) (C.lt h))
theorem FCx.sz2 {x y : Int} (hx : x.natAbs ≤ K) (hy : y.natAbs ≤ K) : Sz (x * y) := Sz.of_lt L C.hL (by
  rw [Int.natAbs_mul]
  exact Nat.lt_of_le_of_lt (Nat.le_trans (Nat.mul_le_mul hx hy) (Nat.le_mul_of_pos_right _ (by decide))) C.big)
theorem FCx.add {d e : List Opz} {i j : Nat} {z : Int} (h : d ++ addO i j z :: e = FL) : FnO prog 51 [vP 0 0, vi i, vi j, eI z] (wD r cc a d) (.tup []) (wD r cc a (d ++ [addO i j z])) := by
  obtain ⟨b1, b2, b3⟩ := C.bd d _ h
  obtain ⟨n1, n2⟩ := C.nx d _ e h
  have := wadd_gen (o := addO i j z) n1 rfl (C.mx d) (mxu r d) (mxv r d) b1 b2 b3 (C.sz n2) (fun y hy => ⟨C.sz hy, C.sz2 n2 hy⟩) C.hr C.hc
  unfold wD
  rw [apL_one, apL_one, apCL_one]
  exact this
theorem FCx.swap {d e : List Opz} {i j : Nat} (h : d ++ swapO i j :: e = FL) : FnO prog 53 [vP 0 0, vi i, vi j] (wD r cc a d) (.tup []) (wDs r cc a (d ++ [swapO i j])) := by
  obtain ⟨n1, _⟩ := C.nx d _ e h
  have := wswap_ok (o := swapO i j) n1 rfl (C.mx d) (mxu r d) (mxv r d) C.hr
  unfold wDs
  rw [apL_one, apL_one, apCL_one]
  exact this
theorem FCx.neg {d e : List Opz} {i : Nat} (h : d ++ negO i :: e = FL) : FnO prog 54 [vP 0 0, vi i] (wD r cc a d) (.tup []) (wD r cc a (d ++ [negO i])) := by
  obtain ⟨b1, b2, b3⟩ := C.bd d _ h
  obtain ⟨n1, _⟩ := C.nx d _ e h
  have := wneg_gen (o := negO i) n1 rfl (C.mx d) (mxu r d) (mxv r d) b1 b2 b3 (fun y hy => C.sz hy) C.hr C.hc
  unfold wD
  rw [apL_one, apL_one, apCL_one]
  exact this
theorem FCx.el {d e : List Opz} (h : d ++ e = FL) {i j : Nat} (hi : i < r) (hj : j < cc) : (el (apL r cc d a) i j).natAbs ≤ K := el_bd (C.mx d) (C.bd d e h).1 hi hj
end
def FW (r cc : Nat) (a : List (List Int)) (d : List Opz) (w0 w1 w3 w4 w6 w7 : Int) (o3 o4 o5 : DLL) : Prop :=
  w0 = (r : Int) ∧ w1 = (cc : Int) ∧ w3 = (r : Int) ∧ w4 = (r : Int) ∧ w6 = (r : Int) ∧ w7 = (r : Int) ∧ o3 = om (apL r cc d a) ∧ o4 = om (apL r r d (table r r delta)) ∧ o5 = om (apCL r d (table r r delta))
def eHer (r c : Int) (h u v : List (List Int)) : V := .e (.agg [.dat (.int .i64 r), .dat (.int .i64 c), .dat (.sl (rows h)), .dat (.int .i64 r), .dat (.int .i64 r), .dat (.sl (rows u)), .dat (.int .i64 r), .dat (.int .i64 r), .dat (.sl (rows v))])
section
variable {r cc K L : Nat} {a : List (List Int)} {FL : List Opz} (C : FCx r cc K L a FL)
include C
theorem redP_ok {k t : Nat} (hk : k < cc) (ht : t < r) {d : List Opz} {w0 w1 w3 w4 w6 w7 : Int} {o3 o4 o5 : DLL} (hw : FW r cc a d w0 w1 w3 w4 w6 w7 o3 o4 o5)
    {J0 : Int → Int → Int → Int → Int → Int → (DLL) → (DLL) → (DLL) → Int → Int → Prop} {μ0 : Int → Int → Int → Int → Int → Int → (DLL) → (DLL) → (DLL) → Int → Int → Nat} {B0 : Nat}
    (hp : 0 < el (apL r cc d a) t k) {K1 : List (List Int) → List Opz} (hd : d ++ pivL r cc k t K1 (apL r cc d a) = FL)
    (hJ : ∀ d w0 w1 w3 w4 w6 w7 o3 o4 o5, FW r cc a d w0 w1 w3 w4 w6 w7 o3 o4 o5 → d ++ K1 (apL r cc d a) = FL → J0 w0 w1 w3 w4 w6 w7 o3 o4 o5 (IntKind.i64.wrap ((t : Int) + 1)) (IntKind.i64.wrap ((k : Int) + 1)) ∧ μ0 w0 w1 w3 w4 w6 w7 o3 o4 o5 (IntKind.i64.wrap ((t : Int) + 1)) (IntKind.i64.wrap ((k : Int) + 1)) < B0) :
    redP (t : Int) (k : Int) w0 w1 w3 w4 w6 w7 o3 o4 o5 J0 μ0 B0 := by
  have hr := C.hr
  unfold redP
  refine ⟨fun w0 w1 w3 w4 w6 w7 o3 o4 o5 i => ∃ (d : List Opz) (ii : Nat), FW r cc a d w0 w1 w3 w4 w6 w7 o3 o4 o5 ∧ i = (ii : Int) ∧ ii ≤ t ∧ 0 < el (apL r cc d a) t k ∧
    d ++ (redL r cc k t (List.range' ii (t - ii)) (apL r cc d a) ++ K1 (apL r cc (redL r cc k t (List.range' ii (t - ii)) (apL r cc d a)) (apL r cc d a))) = FL,
    fun _ _ _ _ _ _ _ _ _ i => ((t : Int) - i).toNat, ⟨d, 0, hw, rfl, by omega, hp, by rw [Nat.sub_zero, ← List.range_eq_range']; exact hd⟩, ?_⟩
  clear hw hp hd
  rintro v0 v1 v3 v4 v6 v7 p3 p4 p5 _ ⟨d, ii, hw, rfl, hii, hp, hd⟩
  refine ⟨fun h => ?_, fun h => ?_⟩
  · have hlt : ii < t := by have := of_decide_eq_true h; omega
    rw [show t - ii = (t - (ii + 1)) + 1 by omega, List.range'_succ] at hd
    simp only [redL, apL, List.cons_append] at hd
    obtain ⟨rfl, rfl, rfl, rfl, rfl, rfl, rfl, rfl, rfl⟩ := hw
    have b1 := C.el (hd) (show ii < r by omega) hk
    have b2 := C.el (hd) ht hk
    have nx := (C.nx d _ _ hd).2
    simp only [Int.natAbs_neg] at nx
    have e1 : apL r cc (d ++ [addO ii t (-(el (apL r cc d a) ii k / el (apL r cc d a) t k))]) a = apO r cc (addO ii t (-(el (apL r cc d a) ii k / el (apL r cc d a) t k))) (apL r cc d a) := apL_one _ _ _
    have e2 : el (apO r cc (addO ii t (-(el (apL r cc d a) ii k / el (apL r cc d a) t k))) (apL r cc d a)) t k = el (apL r cc d a) t k := by
      rw [el_add ht hk, if_neg (by omega)]
    refine ⟨_, _, _, _, _, _, _, _, _, _, _, _, _, _, _, _, _, ⟨by omega, by rw [omx_len (C.mx d)]; omega⟩, omx_in (C.mx d) (by omega) hk, at2_elN (C.mx d) (by omega) hk, ⟨by omega, by rw [omx_len (C.mx d)]; omega⟩, omx_in (C.mx d) ht hk, at2_elN (C.mx d) ht hk,
      floor_ok (by omega) (C.lt b1) (C.lt b2) C.hL, rneg_ok (C.sz nx), C.add hd, ?_⟩
    rw [inc64 (by omega)]
    refine ⟨⟨_, ii + 1, ⟨rfl, rfl, rfl, rfl, rfl, rfl, rfl, rfl, rfl⟩, rfl, by omega, ?_, ?_⟩, ?_⟩
    · rw [e1, e2]; exact hp
    · rw [e1, List.append_assoc]; exact hd
    · show ((t : Int) - ((ii + 1 : Nat) : Int)).toNat < ((t : Int) - (ii : Int)).toNat; omega
  · have he : ii = t := by have := of_decide_eq_false h; omega
    subst he
    rw [Nat.sub_self] at hd
    simp only [List.range'_zero, redL, apL, List.nil_append] at hd
    exact hJ d _ _ _ _ _ _ _ _ _ hw hd
end
end Go.AM
/- Package step: the five steps on a state of one's own. -/
namespace Go.AM
open Go.Proofs.Tryz
def pH (r c : Nat) (A m u v : List (List Int)) (t k : Nat) (b : Bool) : Heap :=
  [some (.box [sD (dI r), sD (dI c), sD (dL (rows A)), sD (dI r), sD (dI c), .ref 1, sD (dI r), sD (dI r), .ref 2, sD (dI r), sD (dI r), .ref 3, sD (dI t), sD (dI k), sD (dB b)]), some (.mat 2 (om m)), some (.mat 2 (om u)), some (.mat 2 (om v))]
def pHs (r c : Nat) (A m u v : List (List Int)) (t k : Nat) (b : Bool) : Heap :=
  [some (.box [sD (dI r), sD (dI c), sD (dL (rows A)), sD (dI r), sD (dI c), .ref 4, sD (dI r), sD (dI r), .ref 5, sD (dI r), sD (dI r), .ref 3, sD (dI t), sD (dI k), sD (dB b)]), some (.fwd (.ref 4)), some (.fwd (.ref 5)), some (.mat 2 (om v)), some (.mat 2 (om m)), some (.mat 2 (om u))]
structure PCx (r c K L : Nat) (m u v : List (List Int)) (t k : Nat) : Prop where
  hm : Mx r c m
  hu : Mx r r u
  hv : Mx r r v
  km : BdM K m
  ku : BdM K u
  kv : BdM K v
  ht : t < r
  hk : k < c
  big : K * K * 4294967296 < 4294967296 ^ L
  hL : L ≤ 1073741824
  hr : r ≤ 4294967296
  hc : c ≤ 4294967296
theorem kk_le (K : Nat) : K ≤ K * K := by
  rcases Nat.eq_zero_or_pos K with h | h
  · omega
  · have := Nat.mul_le_mul_left K h; omega
section
variable {r c K L : Nat} {A m u v : List (List Int)} {t k : Nat} (C : PCx r c K L m u v t k) {b : Bool}
include C
theorem PCx.sz2 {y : Int} (h : y.natAbs ≤ K * K) : Sz y := by
  refine Sz.of_lt L C.hL (Nat.lt_of_le_of_lt (Nat.le_trans h (Nat.le_mul_of_pos_right _ (by decide))) C.big)
theorem PCx.sz {y : Int} (h : y.natAbs ≤ K) : Sz y := C.sz2 (Nat.le_trans h (kk_le K))
theorem PCx.lt {y : Int} (h : y.natAbs ≤ K) : y.natAbs * 4294967296 < 4294967296 ^ L := by
  exact Nat.lt_of_le_of_lt (Nat.mul_le_mul_right _ (Nat.le_trans h (kk_le K))) C.big
theorem pelemO {i : Nat} (hi : i < r) : FnO prog 94 [vP 0 0, vi i] (pH r c A m u v t k b) (eI (el m i k)) (pH r c A m u v t k b) := by
  refine vc94o_ok _ _ _ _ _ _ _ _ _ _ _ _ _ _ _ _ (R := fun x y => x = eI (el m i k) ∧ y = pH r c A m u v t k b) ?_
  unfold vc94o
  exact ⟨_, _, ⟨by omega, by rw [omx_len C.hm]; omega⟩, omx_in C.hm hi C.hk, at2_elN C.hm hi C.hk, rfl, rfl⟩
theorem pls : FnD prog 93 [vD (D.box [dI r, dI c, dL (rows A), dI r, dI c, dL (matD (om m)), dI r, dI r, dL (matD (om u)), dI r, dI r, dL (matD (om v)), dI t, dI k, dB b])] (vi (lsF m k t (r - t))) [] := by
  rw [matD_om, matD_om, matD_om]
  exact pleast_ok C.hm (fun _ _ hi hj => C.sz (el_bd C.hm C.km hi hj)) C.hk (Nat.le_of_lt C.ht) C.hr
theorem skip_ok : FnO prog 64 [vP 0 0] (pH r c A m u v t k b) (vD (dB (decide (lsF m k t (r - t) < 0)))) (pH r c A m u v t (if lsF m k t (r - t) < 0 then k + 1 else k) b) := by
  refine vc64_ok _ _ _ _ _ _ _ _ _ _ _ _ _ _ _ (R := fun x y => x = vD (dB (decide (lsF m k t (r - t) < 0))) ∧ y = pH r c A m u v t (if lsF m k t (r - t) < 0 then k + 1 else k) b) ?_
  unfold vc64
  have hk := C.hk; have hc := C.hc
  refine ⟨_, pls C, fun h => ?_, fun h => ?_⟩
  · have : ¬ lsF m k t (r - t) < 0 := by have := of_decide_eq_true h; omega
    exact ⟨by rw [decide_eq_false this], by rw [if_neg this]; rfl⟩
  · have : lsF m k t (r - t) < 0 := by have := of_decide_eq_false h; omega
    rw [inc64 (by omega)]
    exact ⟨by rw [decide_eq_true this], by rw [if_pos this]; rfl⟩
theorem advance_ok : FnO prog 68 [vP 0 0] (pH r c A m u v t k b) (vD (dB true)) (pH r c A m u v (t + 1) (k + 1) b) := by
  refine vc68_ok _ _ _ _ _ _ _ _ _ _ _ _ _ _ _ (R := fun x y => x = vD (dB true) ∧ y = pH r c A m u v (t + 1) (k + 1) b) ?_
  unfold vc68
  have hk := C.hk; have hc := C.hc; have ht := C.ht; have hr := C.hr
  rw [inc64 (by omega), inc64 (by omega)]
  exact ⟨rfl, rfl⟩
theorem exch_no (h0 : lsF m k t (r - t) = (t : Int)) : FnO prog 65 [vP 0 0] (pH r c A m u v t k b) (vD (dB false)) (pHs r c A m u v t k b) := by
  refine vc65_ok _ _ _ _ _ _ _ _ _ _ _ _ _ _ _ (R := fun x y => x = vD (dB false) ∧ y = pHs r c A m u v t k b) ?_
  unfold vc65
  refine ⟨_, pls C, fun h => ⟨rfl, rfl⟩, fun h => ?_⟩
  rw [h0] at h; simp at h
theorem exch_yes {i : Nat} (h0 : lsF m k t (r - t) = (i : Int)) (hi : i < r) (hne : i ≠ t) :
    FnO prog 65 [vP 0 0] (pH r c A m u v t k b) (vD (dB true)) (pHs r c A (apO r c (swapO i t) m) (apO r r (swapO i t) u) (apC r (swapO i t) v) t k b) := by
  refine vc65_ok _ _ _ _ _ _ _ _ _ _ _ _ _ _ _ (R := fun x y => x = vD (dB true) ∧ y = pHs r c A (apO r c (swapO i t) m) (apO r r (swapO i t) u) (apC r (swapO i t) v) t k b) ?_
  unfold vc65
  have ht := C.ht; have hr := C.hr; have hv := C.hv
  have hvO := vO_swap hi ht hne
  refine ⟨_, pls C, fun h => ?_, fun h => ?_⟩
  · exfalso; have := eq_of_beq h; omega
  rw [h0]
  have lm : (om m).length = r := omx_len C.hm
  have lu : (om u).length = r := omx_len C.hu
  have lv : (om v).length = r := omx_len C.hv
  refine ⟨⟨by omega, by omega⟩, ⟨by omega, by omega⟩, rfl, rfl, ⟨by omega, by omega⟩, ⟨by omega, by omega⟩, ?_⟩
  refine ⟨fun a t' => ∃ n : Nat, t' = (n : Int) ∧ n ≤ r ∧ a = om (table r r (cP (swapO i t) (el v) n)), fun _ t' => ((r : Int) - t').toNat, ⟨0, rfl, by omega, cP_zero hv⟩, ?_⟩
  rintro _ _ ⟨n, rfl, hn, rfl⟩
  refine ⟨fun h2 => ?_, fun h2 => ?_⟩
  · have hnr : n < r := by rw [lv] at h2; simpa using h2
    have e1 : (om (table r r (cP (swapO i t) (el v) n))).modify (n : Int).toNat (fun q => q.set (i : Int).toNat (cI (el v n t))) = om (table r r fun a b => if a = n ∧ b = i then el v n t else cP (swapO i t) (el v) n a b) := by
      rw [Int.toNat_natCast, Int.toNat_natCast]; exact om_set hnr hi
    have e2 : cP (swapO i t) (el v) n (n : Int).toNat (i : Int).toNat = el v n i := by rw [Int.toNat_natCast, Int.toNat_natCast]; exact cP_at
    have e3 : cP (swapO i t) (el v) n (n : Int).toNat (t : Int).toNat = el v n t := by rw [Int.toNat_natCast, Int.toNat_natCast]; exact cP_at
    have a1 := at2_om (r := r) (c := r) (g := cP (swapO i t) (el v) n) (i := (n : Int).toNat) (j := (i : Int).toNat) (by omega) (by omega)
    have a2 := at2_om (r := r) (c := r) (g := cP (swapO i t) (el v) n) (i := (n : Int).toNat) (j := (t : Int).toNat) (by omega) (by omega)
    rw [e2] at a1
    rw [e3] at a2
    refine ⟨⟨by omega, by rw [om_len]; omega⟩, _, _, _, _, om_in hnr ht, a2, om_in hnr hi, a1, ?_⟩
    have e1' : (om (table r r (cP (swapO i t) (el v) n))).modify (n : Int).toNat (fun q => q.set (i : Int).toNat [dB (decide (el v n t < 0)), dL (lim (digs (el v n t).natAbs))]) = om (table r r fun a b => if a = n ∧ b = i then el v n t else cP (swapO i t) (el v) n a b) := e1
    rw [e1', inc64 (by omega)]
    refine ⟨om_in hnr ht, ⟨n + 1, rfl, by omega, ?_⟩, by show ((r : Int) - ((n + 1 : Nat) : Int)).toNat < ((r : Int) - (n : Int)).toNat; omega⟩
    rw [Int.toNat_natCast, Int.toNat_natCast]
    refine Eq.trans (om_set hnr ht) ?_
    congr 1
    refine table_congr fun a b _ _ => ?_
    unfold cP colF
    simp only [if_true]
    by_cases ha : a = n
    · subst ha
      by_cases hb : b = t
      · subst hb
        simp [Ne.symm hne]
      · by_cases hb' : b = i
        · subst hb'; simp [hne]
        · simp [hb, hb']
    · by_cases ha' : a < n
      · simp [ha, ha', show a < n + 1 by omega]
      · simp [ha, ha', show ¬ a < n + 1 by omega]
  · have hnr : n = r := by rw [lv] at h2; have : r ≤ n := by simpa using h2
                           omega
    subst hnr
    have s1 := swapR_om hvO rfl C.hm
    have s2 := swapR_om hvO rfl C.hu
    rw [Int.toNat_natCast, Int.toNat_natCast]
    dsimp only at s1 s2
    rw [s1, s2, cP_all]
    exact ⟨rfl, rfl⟩
theorem neg_no (h0 : 0 < el m t k) : FnO prog 66 [vP 0 0] (pH r c A m u v t k b) (vD (dB false)) (pH r c A m u v t k b) := by
  refine vc66_ok _ _ _ _ _ _ _ _ _ _ _ _ _ _ _ (R := fun x y => x = vD (dB false) ∧ y = pH r c A m u v t k b) ?_
  unfold vc66
  refine ⟨_, _, _, _, _, _, _, _, _, _, _, _, _, _, _, _, _, _, pelemO C C.ht, sign_ok _, fun h => ⟨rfl, rfl⟩, fun h => ?_⟩
  rw [if_neg (by omega), if_neg (by omega)] at h
  simp at h
theorem neg_yes (h0 : el m t k < 0) : FnO prog 66 [vP 0 0] (pH r c A m u v t k b) (vD (dB true)) (pH r c A (apO r c (negO t) m) (apO r r (negO t) u) (apC r (negO t) v) t k b) := by
  refine vc66_ok _ _ _ _ _ _ _ _ _ _ _ _ _ _ _ (R := fun x y => x = vD (dB true) ∧ y = pH r c A (apO r c (negO t) m) (apO r r (negO t) u) (apC r (negO t) v) t k b) ?_
  unfold vc66
  have ht := C.ht; have hr := C.hr; have hc := C.hc
  have lm : (om m).length = r := omx_len C.hm
  have lu : (om u).length = r := omx_len C.hu
  have lv : (om v).length = r := omx_len C.hv
  have rl : ∀ {c' : Nat} {x : List (List Int)}, Mx r c' x → (((om x).getD (t : Int).toNat ([] : DL)).length : Int) = (c' : Int) := fun {c' x} hx => by
    rw [Int.toNat_natCast]
    conv => lhs; rw [mx_table hx]
    simp [om, table, ht, row, tableR]
  refine ⟨_, _, _, _, _, _, _, _, _, _, _, _, _, _, _, _, _, _, pelemO C C.ht, sign_ok _, fun h => ?_, fun h => ?_⟩
  · rw [if_neg (by omega), if_pos h0] at h
    simp at h
  refine ⟨⟨by decide, by decide⟩, ⟨by omega, by omega⟩, ?_⟩
  refine ⟨fun a t' => ∃ n : Nat, t' = (n : Int) ∧ n ≤ c ∧ a = om (table r c (rF (negO t) (el m) n)), fun _ t' => ((c : Int) - t').toNat, ⟨0, rfl, by omega, rF_zero C.hm⟩, ?_⟩
  rintro _ _ ⟨n, rfl, hn, rfl⟩
  refine ⟨fun h2 => ?_, fun h2 => ?_⟩
  · have hnc : n < c := by rw [rl C.hm] at h2; simpa using h2
    have e : rF (negO t) (el m) n t n = el m t n := by unfold rF; rw [if_neg (by simp)]
    have e2 : opF (negO t) (el m) t n = - el m t n := by simp [opF]
    have a1 := rowM_in (r := r) (c := c) (g := rF (negO t) (el m) n) ht hnc
    rw [e] at a1
    have f1 := neg_ok (el m t n)
    rw [← e2] at f1
    refine ⟨_, _, om_in ht hnc, a1, _, _, ⟨by omega, by rw [om_len]; omega⟩, f1, ?_⟩
    rw [inc64 (by omega)]
    refine ⟨⟨n + 1, rfl, by omega, ?_⟩, by show ((c : Int) - ((n + 1 : Nat) : Int)).toNat < ((c : Int) - (n : Int)).toNat; omega⟩
    rw [Int.toNat_natCast, Int.toNat_natCast]
    exact rF_step (o := negO t) ht hnc
  have hnc : n = c := by rw [rl C.hm] at h2; have : c ≤ n := by simpa using h2
                         omega
  subst hnc
  refine ⟨⟨by decide, by decide⟩, ⟨by omega, by omega⟩, ?_⟩
  refine ⟨fun a t' => ∃ n : Nat, t' = (n : Int) ∧ n ≤ r ∧ a = om (table r r (rF (negO t) (el u) n)), fun _ t' => ((r : Int) - t').toNat, ⟨0, rfl, by omega, rF_zero C.hu⟩, ?_⟩
  rintro _ _ ⟨p, rfl, hp, rfl⟩
  refine ⟨fun h2 => ?_, fun h2 => ?_⟩
  · have hnc : p < r := by rw [rl C.hu] at h2; simpa using h2
    have e : rF (negO t) (el u) p t p = el u t p := by unfold rF; rw [if_neg (by simp)]
    have e2 : opF (negO t) (el u) t p = - el u t p := by simp [opF]
    have a1 := rowM_in (r := r) (c := r) (g := rF (negO t) (el u) p) ht hnc
    rw [e] at a1
    have f1 := neg_ok (el u t p)
    rw [← e2] at f1
    refine ⟨_, _, om_in ht hnc, a1, _, _, ⟨by omega, by rw [om_len]; omega⟩, f1, ?_⟩
    rw [inc64 (by omega)]
    refine ⟨⟨p + 1, rfl, by omega, ?_⟩, by show ((r : Int) - ((p + 1 : Nat) : Int)).toNat < ((r : Int) - (p : Int)).toNat; omega⟩
    rw [Int.toNat_natCast, Int.toNat_natCast]
    exact rF_step (o := negO t) ht hnc
  have hpr : p = r := by rw [rl C.hu] at h2; have : r ≤ p := by simpa using h2
                         omega
  subst hpr
  refine ⟨fun a t' => ∃ q : Nat, t' = (q : Int) ∧ q ≤ p ∧ a = om (table p p (cP (negO t) (el v) q)), fun _ t' => ((p : Int) - t').toNat, ⟨0, rfl, by omega, cP_zero C.hv⟩, ?_⟩
  rintro _ _ ⟨q, rfl, hq, rfl⟩
  refine ⟨fun h2 => ?_, fun h2 => ?_⟩
  · have hqr : q < p := by rw [lv] at h2; simpa using h2
    have a1 := rowM_in (r := p) (c := p) (g := cP (negO t) (el v) q) hqr ht
    rw [cP_at] at a1
    refine ⟨⟨by omega, by rw [om_len]; omega⟩, _, _, _, _, om_in hqr ht, a1, neg_ok (el v q t), ?_⟩
    rw [inc64 (by omega)]
    refine ⟨⟨q + 1, rfl, by omega, ?_⟩, by show ((p : Int) - ((q + 1 : Nat) : Int)).toNat < ((p : Int) - (q : Int)).toNat; omega⟩
    rw [Int.toNat_natCast, Int.toNat_natCast]
    exact cP_one hqr ht (by simp [colF]) fun b _ hb => by simp [colF, hb]
  · have hqr : q = p := by rw [lv] at h2; have : p ≤ q := by simpa using h2
                           omega
    subst hqr
    rw [rF_all (o := negO t) (by simp), rF_all (o := negO t) (by simp), cP_all]
    exact ⟨rfl, rfl⟩
end
end Go.AM
/- Package step: reduce; copied. -/
namespace Go.AM
open Go.Proofs.Tryz
section
variable {r c K L : Nat} {A m u v : List (List Int)} {t k : Nat} (C : PCx r c K L m u v t k) {b : Bool}
def Rd0 (r c : Nat) (A m u v : List (List Int)) (t k : Nat) (b : Bool) (N : Nat) (p0 p1 p10 p12 p13 : Int) (p14 : Bool) (p2 : DL) (p3 p4 p6 p7 p9 : Int) (o1 o2 o3 : DLL) (z : Int) : Prop :=
  (p0 = r ∧ p1 = c ∧ p10 = r ∧ p12 = t ∧ p13 = k ∧ b = p14 ∧ p2 = rows A ∧ p3 = r ∧ p4 = c ∧ p6 = r ∧ p7 = r ∧ p9 = r ∧ o1 = om m ∧ o2 = om u ∧ o3 = om v) ∧ ∃ n : Nat, z = (n : Int) ∧ n ≤ N
abbrev rdm (r : Nat) (_ _ _ _ _ : Int) (_ : Bool) (_ : DL) (_ _ _ _ _ : Int) (_ _ _ : DLL) (z : Int) : Nat := ((r : Int) - z).toNat
theorem rsg {q : Int} : ((if q = 0 then (0 : Int) else if q < 0 then -1 else 1) == 0) = decide (q = 0) := by
  by_cases h : q = 0
  · simp [h]
  · rw [if_neg h, decide_eq_false h]
    split <;> decide
include C
theorem PCx.dm {i : Nat} (hi : i < r) (hy : el m t k ≠ 0) : FnD prog 96 [eI (el m i k), eI (el m t k)] (.tup [ei (el m i k / el m t k), ei (el m i k % el m t k), eD (dI 0)]) [] :=
  idivmod_ok hy (C.lt (el_bd C.hm C.km hi C.hk)) (C.lt (el_bd C.hm C.km C.ht C.hk)) C.hL
theorem red_no (h0 : el m t k ≠ 0) (hz : ∀ i, i < r → i ≠ t → el m i k / el m t k = 0) : FnO prog 67 [vP 0 0] (pH r c A m u v t k b) (vD (dB false)) (pH r c A m u v t k b) := by
  refine vc67_ok _ _ _ _ _ _ _ _ _ _ _ _ _ _ _ (R := fun x y => x = vD (dB false) ∧ y = pH r c A m u v t k b) ?_
  unfold vc67
  have hr := C.hr
  refine ⟨Rd0 r c A m u v t k b r, rdm r, ⟨⟨rfl, rfl, rfl, rfl, rfl, rfl, rfl, rfl, rfl, rfl, rfl, rfl, rfl, rfl, rfl⟩, 0, rfl, by omega⟩, ?_⟩
  rintro _ _ _ _ _ _ _ _ _ _ _ _ _ _ _ _ ⟨⟨rfl, rfl, rfl, rfl, rfl, rfl, rfl, rfl, rfl, rfl, rfl, rfl, rfl, rfl, rfl⟩, n, rfl, hn⟩
  refine ⟨fun h => ?_, fun h => ⟨rfl, rfl⟩⟩
  have hnr : n < r := by simpa using h
  have nx : Rd0 r c A m u v t k b r r c r t k b (rows A) r c r r r (om m) (om u) (om v) (IntKind.i64.wrap ((n : Int) + 1)) ∧ rdm r r c r t k b (rows A) r c r r r (om m) (om u) (om v) (IntKind.i64.wrap ((n : Int) + 1)) < rdm r r c r t k b (rows A) r c r r r (om m) (om u) (om v) (n : Int) := by
    rw [inc64 (by omega)]
    exact ⟨⟨⟨rfl, rfl, rfl, rfl, rfl, rfl, rfl, rfl, rfl, rfl, rfl, rfl, rfl, rfl, rfl⟩, n + 1, rfl, by omega⟩, by show ((r : Int) - ((n + 1 : Nat) : Int)).toNat < ((r : Int) - (n : Int)).toNat; omega⟩
  refine ⟨_, _, _, _, _, _, _, _, _, _, _, _, _, _, _, _, _, _, _, _, _, _, _, _, _, _, _, _, _, _, _, _, _, _, _, _, _, _, _, pelemO C hnr, pelemO C C.ht, C.dm hnr h0, fun _ => nx, fun h2 => ?_⟩
  have hne : n ≠ t := by intro hc; subst hc; simp at h2
  refine ⟨_, sign_ok _, fun _ => nx, fun h3 => ?_⟩
  rw [rsg, decide_eq_true (hz n hnr hne)] at h3
  exact absurd h3 (by decide)
theorem red_yes (h0 : el m t k ≠ 0) {i : Nat} (hi : i < r) (hne : i ≠ t) (hq : el m i k / el m t k ≠ 0) (hz : ∀ j, j < i → j ≠ t → el m j k / el m t k = 0) :
    FnO prog 67 [vP 0 0] (pH r c A m u v t k b) (vD (dB true)) (pH r c A (apO r c (addO i t (-(el m i k / el m t k))) m) (apO r r (addO i t (-(el m i k / el m t k))) u) (apC r (addO i t (-(el m i k / el m t k))) v) t k b) := by
  generalize ho : addO i t (-(el m i k / el m t k)) = o
  have oi : o.i = i := by rw [← ho]
  have oj : o.j = t := by rw [← ho]
  have ok : o.k = 3 := by rw [← ho]
  have oz : el m i k / el m t k = - o.z := by rw [← ho]; simp
  refine vc67_ok _ _ _ _ _ _ _ _ _ _ _ _ _ _ _ (R := fun x y => x = vD (dB true) ∧ y = pH r c A (apO r c o m) (apO r r o u) (apC r o v) t k b) ?_
  unfold vc67
  have hr := C.hr; have ht := C.ht; have hc := C.hc
  have lm : (om m).length = r := omx_len C.hm
  have lu : (om u).length = r := omx_len C.hu
  have lv : (om v).length = r := omx_len C.hv
  have hqK : (el m i k / el m t k).natAbs ≤ K := by
    have h1 := Int.natAbs_ediv_le_natAbs (el m i k) (el m t k)
    have h2 := el_bd C.hm C.km hi C.hk
    omega
  have szq : Sz (el m i k / el m t k) := C.sz hqK
  have szm : ∀ {y : Int}, y.natAbs ≤ K → Sz y ∧ Sz (el m i k / el m t k * y) := fun {y} hy => ⟨C.sz hy, C.sz2 (by rw [Int.natAbs_mul]; exact Nat.mul_le_mul hqK hy)⟩
  have rl : ∀ {c' : Nat} {x : List (List Int)}, Mx r c' x → (((om x).getD (t : Int).toNat ([] : DL)).length : Int) = (c' : Int) := fun {c' x} hx => by
    rw [Int.toNat_natCast]
    conv => lhs; rw [mx_table hx]
    simp [om, table, ht, row, tableR]
  refine ⟨Rd0 r c A m u v t k b i, rdm r, ⟨⟨rfl, rfl, rfl, rfl, rfl, rfl, rfl, rfl, rfl, rfl, rfl, rfl, rfl, rfl, rfl⟩, 0, rfl, by omega⟩, ?_⟩
  rintro _ _ _ _ _ _ _ _ _ _ _ _ _ _ _ _ ⟨⟨rfl, rfl, rfl, rfl, rfl, rfl, rfl, rfl, rfl, rfl, rfl, rfl, rfl, rfl, rfl⟩, n, rfl, hn⟩
  refine ⟨fun h => ?_, fun h => by exfalso; have : r ≤ n := by simpa using h
                                   omega⟩
  have hnr : n < r := by omega
  have nx : n < i → Rd0 r c A m u v t k b i r c r t k b (rows A) r c r r r (om m) (om u) (om v) (IntKind.i64.wrap ((n : Int) + 1)) ∧ rdm r r c r t k b (rows A) r c r r r (om m) (om u) (om v) (IntKind.i64.wrap ((n : Int) + 1)) < rdm r r c r t k b (rows A) r c r r r (om m) (om u) (om v) (n : Int) := fun hni => by
    rw [inc64 (by omega)]
    exact ⟨⟨⟨rfl, rfl, rfl, rfl, rfl, rfl, rfl, rfl, rfl, rfl, rfl, rfl, rfl, rfl, rfl⟩, n + 1, rfl, by omega⟩, by show ((r : Int) - ((n + 1 : Nat) : Int)).toNat < ((r : Int) - (n : Int)).toNat; omega⟩
  refine ⟨_, _, _, _, _, _, _, _, _, _, _, _, _, _, _, _, _, _, _, _, _, _, _, _, _, _, _, _, _, _, _, _, _, _, _, _, _, _, _, pelemO C hnr, pelemO C C.ht, C.dm hnr h0, fun h2 => ?_, fun h2 => ?_⟩
  · have hnt : n = t := by have := eq_of_beq h2; omega
    exact nx (by omega)
  have hnt : n ≠ t := by intro hc; subst hc; simp at h2
  refine ⟨_, sign_ok _, fun h3 => ?_, fun h3 => ?_⟩
  · rw [rsg] at h3
    have h4 := of_decide_eq_true h3
    refine nx ?_
    rcases Nat.lt_or_ge n i with h5 | h5
    · exact h5
    · exact absurd (by rw [show i = n by omega]; exact h4) hq
  have hni : n = i := by
    rcases Nat.lt_or_ge n i with h5 | h5
    · rw [rsg, decide_eq_true (hz n h5 hnt)] at h3; exact absurd h3 (by decide)
    · omega
  subst hni
  clear h h2 h3 nx hn
  refine ⟨⟨by decide, by decide⟩, ⟨by omega, by omega⟩, ?_⟩
  refine ⟨fun a t' => ∃ n : Nat, t' = (n : Int) ∧ n ≤ c ∧ a = om (table r c (rF o (el m) n)), fun _ t' => ((c : Int) - t').toNat, ⟨0, rfl, by omega, rF_zero C.hm⟩, ?_⟩
  rintro _ _ ⟨p, rfl, hp, rfl⟩
  refine ⟨fun h2 => ?_, fun h2 => ?_⟩
  · have hpc : p < c := by rw [rl C.hm] at h2; simpa using h2
    have e : rF o (el m) p n p = el m n p := by unfold rF; rw [if_neg (by simp)]
    have e' : rF o (el m) p t p = el m t p := by unfold rF; rw [if_neg (by simp)]
    have e2 : opF o (el m) n p = el m n p - el m n k / el m t k * el m t p := by
      rw [oz]; simp only [opF, ok, oi, oj, if_neg (show ¬ (3 : Nat) = 1 by decide), if_neg (show ¬ (3 : Nat) = 2 by decide), if_true]
      rw [Int.neg_mul, Int.sub_neg]
    have a1 := rowM_in (r := r) (c := c) (g := rF o (el m) p) hi hpc
    have a2 := rowM_in (r := r) (c := c) (g := rF o (el m) p) ht hpc
    rw [e] at a1
    rw [e'] at a2
    have s1 := szm (el_bd C.hm C.km ht hpc)
    have f1 := mul_ok szq s1.1
    have f2 := sub_ok (szm (el_bd C.hm C.km hi hpc)).1 s1.2
    rw [← e2] at f2
    refine ⟨_, _, om_in ht hpc, a2, _, _, _, _, _, _, ⟨by omega, by rw [om_len]; omega⟩, om_in hi hpc, a1, f1, f2, ?_⟩
    rw [inc64 (by omega)]
    refine ⟨⟨p + 1, rfl, by omega, ?_⟩, by show ((c : Int) - ((p + 1 : Nat) : Int)).toNat < ((c : Int) - (p : Int)).toNat; omega⟩
    have := rF_step (r := r) (c := c) (o := o) (f := el m) (t := p) (by omega) hpc
    rw [oi] at this
    rw [Int.toNat_natCast, Int.toNat_natCast]
    exact this
  have hpc : p = c := by rw [rl C.hm] at h2; have : c ≤ p := by simpa using h2
                         omega
  subst hpc
  refine ⟨⟨by decide, by decide⟩, ⟨by omega, by omega⟩, ?_⟩
  refine ⟨fun a t' => ∃ n : Nat, t' = (n : Int) ∧ n ≤ r ∧ a = om (table r r (rF o (el u) n)), fun _ t' => ((r : Int) - t').toNat, ⟨0, rfl, by omega, rF_zero C.hu⟩, ?_⟩
  rintro _ _ ⟨x, rfl, hx, rfl⟩
  refine ⟨fun h2 => ?_, fun h2 => ?_⟩
  · have hxc : x < r := by rw [rl C.hu] at h2; simpa using h2
    have e : rF o (el u) x n x = el u n x := by unfold rF; rw [if_neg (by simp)]
    have e' : rF o (el u) x t x = el u t x := by unfold rF; rw [if_neg (by simp)]
    have e2 : opF o (el u) n x = el u n x - el m n k / el m t k * el u t x := by
      rw [oz]; simp only [opF, ok, oi, oj, if_neg (show ¬ (3 : Nat) = 1 by decide), if_neg (show ¬ (3 : Nat) = 2 by decide), if_true]
      rw [Int.neg_mul, Int.sub_neg]
    have a1 := rowM_in (r := r) (c := r) (g := rF o (el u) x) hi hxc
    have a2 := rowM_in (r := r) (c := r) (g := rF o (el u) x) ht hxc
    rw [e] at a1
    rw [e'] at a2
    have s1 := szm (el_bd C.hu C.ku ht hxc)
    have f1 := mul_ok szq s1.1
    have f2 := sub_ok (szm (el_bd C.hu C.ku hi hxc)).1 s1.2
    rw [← e2] at f2
    refine ⟨_, _, om_in ht hxc, a2, _, _, _, _, _, _, ⟨by omega, by rw [om_len]; omega⟩, om_in hi hxc, a1, f1, f2, ?_⟩
    rw [inc64 (by omega)]
    refine ⟨⟨x + 1, rfl, by omega, ?_⟩, by show ((r : Int) - ((x + 1 : Nat) : Int)).toNat < ((r : Int) - (x : Int)).toNat; omega⟩
    have := rF_step (r := r) (c := r) (o := o) (f := el u) (t := x) (by omega) hxc
    rw [oi] at this
    rw [Int.toNat_natCast, Int.toNat_natCast]
    exact this
  have hxr : x = r := by rw [rl C.hu] at h2; have : r ≤ x := by simpa using h2
                         omega
  subst hxr
  refine ⟨fun a t' => ∃ q : Nat, t' = (q : Int) ∧ q ≤ x ∧ a = om (table x x (cP o (el v) q)), fun _ t' => ((x : Int) - t').toNat, ⟨0, rfl, by omega, cP_zero C.hv⟩, ?_⟩
  rintro _ _ ⟨q, rfl, hq', rfl⟩
  refine ⟨fun h2 => ?_, fun h2 => ?_⟩
  · have hqr : q < x := by rw [lv] at h2; simpa using h2
    have a1 := rowM_in (r := x) (c := x) (g := cP o (el v) q) hqr ht
    have a2 := rowM_in (r := x) (c := x) (g := cP o (el v) q) hqr hi
    rw [cP_at] at a1 a2
    have s1 := szm (el_bd C.hv C.kv hqr hi)
    have f1 := mul_ok szq s1.1
    have f2 := add_ok (szm (el_bd C.hv C.kv hqr ht)).1 s1.2
    refine ⟨⟨by omega, by rw [om_len]; omega⟩, _, _, _, _, _, _, _, _, om_in hqr ht, a1, om_in hqr hi, a2, f1, f2, ?_⟩
    rw [inc64 (by omega)]
    refine ⟨⟨q + 1, rfl, by omega, ?_⟩, by show ((x : Int) - ((q + 1 : Nat) : Int)).toNat < ((x : Int) - (q : Int)).toNat; omega⟩
    rw [Int.toNat_natCast, Int.toNat_natCast]
    refine cP_one hqr ht ?_ fun b _ hb => ?_
    · rw [oz]; simp only [colF, ok, oi, oj, if_neg (show ¬ (3 : Nat) = 1 by decide), if_neg (show ¬ (3 : Nat) = 2 by decide), if_true]
      rw [Int.neg_mul, Int.sub_eq_add_neg]
    · simp only [colF, ok, oj, if_neg (show ¬ (3 : Nat) = 1 by decide), if_neg (show ¬ (3 : Nat) = 2 by decide), if_neg hb]
  · have hqr : q = x := by rw [lv] at h2; have : x ≤ q := by simpa using h2
                           omega
    subst hqr
    rw [rF_all (by rw [ok]; decide), rF_all (by rw [ok]; decide), cP_all]
    exact ⟨rfl, rfl⟩
end
theorem pcopied_ok {r c : Nat} {m : List (List Int)} (hm : Mx r c m) (hr : r ≤ 4294967296) (hc : c ≤ 4294967296) : FnD prog 32 [eM r c m] (vA [sD (dI r), sD (dI c), .ref 0]) [some (.mat 2 (om m))] := by
  refine vc32_ok _ _ _ (R := fun x y => x = vA [sD (dI r), sD (dI c), .ref 0] ∧ y = [some (.mat 2 (om m))]) ?_
  unfold vc32
  have hlen : ((rows m).length : Int) = (r : Int) := by rw [rows_length, hm.1]
  rw [hlen]
  refine ⟨⟨by omega, by omega, by omega⟩, ?_⟩
  refine ⟨fun x t => ∃ n : Nat, t = (n : Int) ∧ n ≤ r ∧ x = (om m).take n ++ List.replicate (r - n) [], fun _ t => ((r : Int) - t).toNat, ⟨0, rfl, by omega, by simp⟩, ?_⟩
  rintro _ _ ⟨n, rfl, hn, rfl⟩
  refine ⟨fun h => ?_, fun h => ?_⟩
  · have hnr : n < r := by simpa using h
    have hnm : n < m.length := by rw [hm.1]; exact hnr
    have hnl : (m[n]).length = c := hm.2 _ (List.getElem_mem _)
    have hl : (List.take n (om m)).length = n := by rw [List.length_take, om_length, hm.1]; omega
    have hg : ∀ x : DL, ((om m).take n ++ List.replicate (r - n) []).set n x = (om m).take n ++ x :: List.replicate (r - (n + 1)) [] := fun x => by
      rw [List.set_append_right _ _ (by omega), hl, Nat.sub_self, show r - n = (r - (n + 1)) + 1 by omega, List.replicate_succ, List.set_cons_zero]
    refine ⟨row m[n], ⟨by omega, by omega⟩, ?_, ⟨by omega, by omega, by rw [row_length]; omega⟩, ⟨by omega, ?_⟩, ⟨by omega, ?_⟩, ?_, ?_⟩
    · rw [Int.toNat_natCast]; simp [rows, hnm]
    · rw [List.length_append, hl, List.length_replicate]; omega
    · rw [List.length_set, List.length_append, hl, List.length_replicate]; omega
    · intro y hy; simp only [row, List.mem_map] at hy; obtain ⟨z, _, rfl⟩ := hy; rfl
    · rw [inc64 (by omega), Int.toNat_natCast, Int.toNat_natCast, hg]
      refine ⟨⟨n + 1, rfl, by omega, ?_⟩, by show ((r : Int) - ((n + 1 : Nat) : Int)).toNat < ((r : Int) - (n : Int)).toNat; omega⟩
      have h1 : (List.take n (om m) ++ List.replicate (row m[n]).length [dB false, dL ([] : DL)] :: List.replicate (r - (n + 1)) []).getD n ([] : DL) = List.replicate (row m[n]).length [dB false, dL ([] : DL)] := by
        rw [List.getD_eq_getElem?_getD, List.getElem?_append_right (by omega), hl, Nat.sub_self]; rfl
      rw [h1, List.length_replicate, List.take_length, List.drop_of_length_le (by rw [List.length_replicate]; exact Nat.le_refl _), List.append_nil, List.set_append_right _ _ (by omega), hl, Nat.sub_self, List.set_cons_zero]
      rw [List.take_add_one, List.append_assoc]
      simp [om, hnm]
  · have hnr : n = r := by have : r ≤ n := by simpa using h
                           omega
    subst hnr
    rw [Nat.sub_self, List.replicate_zero, List.append_nil, List.take_of_length_le (by rw [om_length, hm.1]; exact Nat.le_refl _)]
    exact ⟨rfl, rfl⟩
end Go.AM
/- torsionref12.Form: what it answers. -/
namespace Go.AM
open Go.Proofs.Tryz
section
variable {r cc K L : Nat} {a : List (List Int)} {FL : List Opz}
abbrev fT (r cc k t : Nat) : List (List Int) → List Opz := tailL r cc k t (formL r cc (cc - (k + 1)) (k + 1) t) (formL r cc (cc - (k + 1)) (k + 1) (t + 1))
def F0 (r cc : Nat) (a : List (List Int)) (FL : List Opz) (w0 w1 w3 w4 w6 w7 : Int) (o3 o4 o5 : DLL) (top c : Int) : Prop :=
  ∃ (t k : Nat) (d : List Opz), FW r cc a d w0 w1 w3 w4 w6 w7 o3 o4 o5 ∧ top = (t : Int) ∧ c = (k : Int) ∧ t ≤ r ∧ k ≤ cc ∧ d ++ formL r cc (cc - k) k t (apL r cc d a) = FL
def m0 (cc : Nat) (_ _ _ _ _ _ : Int) (_ _ _ : DLL) (_ c : Int) : Nat := ((cc : Int) - c).toNat
def F1 (r cc : Nat) (a : List (List Int)) (FL : List Opz) (t k : Nat) (w0 w1 w3 w4 w6 w7 : Int) (o3 o4 o5 : DLL) (i : Int) : Prop :=
  ∃ (ii : Nat) (d : List Opz), FW r cc a d w0 w1 w3 w4 w6 w7 o3 o4 o5 ∧ i = (ii : Int) ∧ t < ii ∧ ii ≤ r ∧ d ++ lowL r cc k t ii (fT r cc k t) (apL r cc d a) = FL
def m1 (r : Nat) (_ _ _ _ _ _ : Int) (_ _ _ : DLL) (i : Int) : Nat := ((r : Int) - i).toNat
def F2 (r cc : Nat) (a : List (List Int)) (FL : List Opz) (t k ii : Nat) (w0 w1 w3 w4 w6 w7 : Int) (o3 o4 o5 : DLL) : Prop :=
  ∃ (f : Nat) (d : List Opz), FW r cc a d w0 w1 w3 w4 w6 w7 o3 o4 o5 ∧ (el (apL r cc d a) ii k).natAbs < f ∧
    d ++ (euL r cc k t ii f (apL r cc d a) ++ lowL r cc k t (ii + 1) (fT r cc k t) (apL r cc (euL r cc k t ii f (apL r cc d a)) (apL r cc d a))) = FL
def m2 (ii k : Nat) (_ _ _ _ _ _ : Int) (o3 _ _ : DLL) : Nat := msr o3 ii k
theorem sgn_ne {z : Int} : ((if z = 0 then (0 : Int) else if z < 0 then -1 else 1) != 0) = true ↔ z ≠ 0 := by
  split
  · rename_i h; simp [h]
  · rename_i h; split <;> simp [h]
theorem sgn_lt {z : Int} : decide ((if z = 0 then (0 : Int) else if z < 0 then -1 else 1) < 0) = true ↔ z < 0 := by
  split
  · rename_i h; simp [h]
  · split
    · rename_i h; simp [h]
    · rename_i h; simp [h]
variable (C : FCx r cc K L a FL)
include C
theorem F2_add {t k ii f : Nat} (ht : t < r) (hi : ii < r) (hk : k < cc) (hne : t ≠ ii) {d : List Opz} (hy : el (apL r cc d a) ii k ≠ 0) (hx : el (apL r cc d a) t k ≠ 0) (hf : (el (apL r cc d a) ii k).natAbs < f + 1)
    (hd : d ++ (euL r cc k t ii (f + 1) (apL r cc d a) ++ lowL r cc k t (ii + 1) (fT r cc k t) (apL r cc (euL r cc k t ii (f + 1) (apL r cc d a)) (apL r cc d a))) = FL) :
    FnO prog 51 [vP 0 0, vi t, vi ii, eI (-(el (apL r cc d a) t k / el (apL r cc d a) ii k))] (wD r cc a d) (.tup []) (wD r cc a (d ++ [addO t ii (-(el (apL r cc d a) t k / el (apL r cc d a) ii k))])) ∧
    FnO prog 53 [vP 0 0, vi t, vi ii] (wD r cc a (d ++ [addO t ii (-(el (apL r cc d a) t k / el (apL r cc d a) ii k))])) (.tup []) (wDs r cc a (d ++ [addO t ii (-(el (apL r cc d a) t k / el (apL r cc d a) ii k))] ++ [swapO t ii])) ∧
    (el (apL r cc d a) t k / el (apL r cc d a) ii k).natAbs ≤ K ∧
    F2 r cc a FL t k ii r cc r r r r (om (apL r cc (d ++ [addO t ii (-(el (apL r cc d a) t k / el (apL r cc d a) ii k))] ++ [swapO t ii]) a)) (om (apL r r (d ++ [addO t ii (-(el (apL r cc d a) t k / el (apL r cc d a) ii k))] ++ [swapO t ii]) (table r r delta)))
      (om (apCL r (d ++ [addO t ii (-(el (apL r cc d a) t k / el (apL r cc d a) ii k))] ++ [swapO t ii]) (table r r delta))) ∧
    msr (om (apL r cc (d ++ [addO t ii (-(el (apL r cc d a) t k / el (apL r cc d a) ii k))] ++ [swapO t ii]) a)) ii k < msr (om (apL r cc d a)) ii k := by
  obtain ⟨e1, e2⟩ := eu_next ht hi hk hne (m := apL r cc d a)
  have hm := C.mx d
  generalize hz : -(el (apL r cc d a) t k / el (apL r cc d a) ii k) = z at *
  have hz2 : (el (apL r cc d a) t k / el (apL r cc d a) ii k).natAbs = z.natAbs := by rw [← hz, Int.natAbs_neg]
  simp only [euL, if_neg hy, if_neg hx, hz, apL, List.cons_append] at hd
  have hd2 : d ++ [addO t ii z] ++ swapO t ii :: (euL r cc k t ii f (apO r cc (swapO t ii) (apO r cc (addO t ii z) (apL r cc d a))) ++
      lowL r cc k t (ii + 1) (fT r cc k t) (apL r cc (euL r cc k t ii f (apO r cc (swapO t ii) (apO r cc (addO t ii z) (apL r cc d a)))) (apO r cc (swapO t ii) (apO r cc (addO t ii z) (apL r cc d a))))) = FL := by
    rw [List.append_assoc]; exact hd
  have eA : apL r cc (d ++ [addO t ii z] ++ [swapO t ii]) a = apO r cc (swapO t ii) (apO r cc (addO t ii z) (apL r cc d a)) := by rw [apL_one, apL_one]
  have hmA := C.mx (d ++ [addO t ii z] ++ [swapO t ii])
  have h3 := Int.emod_nonneg (el (apL r cc d a) t k) hy
  have h4 := Int.emod_lt (el (apL r cc d a) t k) hy
  refine ⟨C.add hd, C.swap hd2, by rw [hz2]; exact (C.nx d _ _ hd).2, ⟨f, _, ⟨rfl, rfl, rfl, rfl, rfl, rfl, rfl, rfl, rfl⟩, ?_, ?_⟩, ?_⟩
  · rw [eA, e2]; omega
  · rw [eA, List.append_assoc]; exact hd2
  · rw [msr_om hmA hi hk, msr_om hm hi hk, eA, e2]; omega
theorem F2_swap {t k ii f : Nat} (ht : t < r) (hi : ii < r) (hk : k < cc) (hne : t ≠ ii) {d : List Opz} (hy : el (apL r cc d a) ii k ≠ 0) (hx : el (apL r cc d a) t k = 0) (hf : (el (apL r cc d a) ii k).natAbs < f + 1)
    (hd : d ++ (euL r cc k t ii (f + 1) (apL r cc d a) ++ lowL r cc k t (ii + 1) (fT r cc k t) (apL r cc (euL r cc k t ii (f + 1) (apL r cc d a)) (apL r cc d a))) = FL) :
    FnO prog 53 [vP 0 0, vi t, vi ii] (wD r cc a d) (.tup []) (wDs r cc a (d ++ [swapO t ii])) ∧
    F2 r cc a FL t k ii r cc r r r r (om (apL r cc (d ++ [swapO t ii]) a)) (om (apL r r (d ++ [swapO t ii]) (table r r delta))) (om (apCL r (d ++ [swapO t ii]) (table r r delta))) ∧
    msr (om (apL r cc (d ++ [swapO t ii]) a)) ii k < msr (om (apL r cc d a)) ii k := by
  obtain ⟨e1, e2⟩ := eu_swap ht hi hk hne (m := apL r cc d a)
  have hm := C.mx d
  simp only [euL, if_neg hy, if_pos hx, apL, List.cons_append] at hd
  have eA : apL r cc (d ++ [swapO t ii]) a = apO r cc (swapO t ii) (apL r cc d a) := apL_one _ _ _
  have hmA := C.mx (d ++ [swapO t ii])
  refine ⟨C.swap hd, ⟨f, _, ⟨rfl, rfl, rfl, rfl, rfl, rfl, rfl, rfl, rfl⟩, ?_, ?_⟩, ?_⟩
  · rw [eA, e2, hx]; show 0 < f; omega
  · rw [eA, List.append_assoc]; exact hd
  · rw [msr_om hmA hi hk, msr_om hm hi hk, eA, e2, hx]; show 0 < _; omega
set_option maxRecDepth 100000 in
theorem form_walk (hr0 : FL = formL r cc cc 0 0 a) {N0 : Nat} (hN0 : BdM N0 a) (hN1 : N0 ≤ 1329227995784915872903807060280344576) :
    FnD prog 23 [eM r cc a] (eHer r cc (apL r cc FL a) (apL r r FL (table r r delta)) (apCL r FL (table r r delta))) [] := by
  have hr := C.hr
  have hc := C.hc
  have fin : ∀ {w0 w1 w3 w4 w6 w7 : Int} {o3 o4 o5 : DLL}, FW r cc a FL w0 w1 w3 w4 w6 w7 o3 o4 o5 →
      Out (eHer r cc (apL r cc FL a) (apL r r FL (table r r delta)) (apCL r FL (table r r delta))) (vA [(sD (dI w0)), (sD (dI w1)), (sD (dL (matD o3))), (sD (dI w3)), (sD (dI w4)), (sD (dL (matD o4))), (sD (dI w6)), (sD (dI w7)), (sD (dL (matD o5)))]) [] := fun h => by
    obtain ⟨rfl, rfl, rfl, rfl, rfl, rfl, rfl, rfl, rfl⟩ := h
    rw [matD_om, matD_om, matD_om]
    exact ⟨rfl, rfl⟩
  refine vc23_ok _ _ _ (R := Out _) ?_
  unfold vc23
  refine ⟨_, _, _, _, _, _, _, _, _, start_ok C.hm hN0 hr hc hN1, F0 r cc a FL, m0 cc, ⟨0, 0, [], ⟨rfl, rfl, rfl, rfl, rfl, rfl, rfl, rfl, rfl⟩, rfl, rfl, by omega, by omega, hr0.symm⟩, ?_⟩
  rintro w0 w1 w3 w4 w6 w7 o3 o4 o5 _ _ ⟨t, k, d, hw, rfl, rfl, ht, hk, hd⟩
  refine ⟨fun h => ⟨fun h2 => ?_, fun h2 => ?_⟩, fun h => ?_⟩
  · have hkc : k < cc := by have := of_decide_eq_true h; omega
    have htr : t < r := by have := of_decide_eq_true h2; omega
    rw [show cc - k = (cc - (k + 1)) + 1 by omega] at hd
    simp only [formL, if_pos htr] at hd
    clear h h2
    refine ⟨F1 r cc a FL t k, m1 r, ⟨t + 1, d, hw, inc64 (by omega), by omega, by omega, hd⟩, ?_⟩
    clear hw hd
    rintro w01 w11 w31 w41 w61 w71 o31 o41 o51 _ ⟨ii, d, hw, rfl, hti, hir, hd⟩
    refine ⟨fun h => ?_, fun h => ?_⟩
    · -- a row below
      have hii : ii < r := by have := of_decide_eq_true h; omega
      clear h
      rw [lowL_low hii] at hd
      refine ⟨F2 r cc a FL t k ii, m2 ii k, ⟨_, d, hw, Nat.lt_succ_self _, hd⟩, ?_⟩
      clear hw hd d
      rintro w02 w12 w32 w42 w62 w72 o32 o42 o52 ⟨f, d, hw, hf, hd⟩
      obtain ⟨rfl, rfl, rfl, rfl, rfl, rfl, rfl, rfl, rfl⟩ := hw
      obtain ⟨f, rfl⟩ : ∃ f', f = f' + 1 := ⟨f - 1, by omega⟩
      have b1 := C.el hd htr hkc
      have b2 := C.el hd hii hkc
      refine ⟨_, _, _, ⟨by omega, by rw [omx_len (C.mx d)]; omega⟩, omx_in (C.mx d) hii hkc, at2_elN (C.mx d) hii hkc, rsign_ok _, fun h => ?_, fun h => ?_⟩
      · have hy := sgn_ne.1 h
        refine ⟨_, _, _, ⟨by omega, by rw [omx_len (C.mx d)]; omega⟩, omx_in (C.mx d) htr hkc, at2_elN (C.mx d) htr hkc, rsign_ok _, fun h2 => ?_, fun h2 => ?_⟩
        · have hx := sgn_ne.1 h2
          obtain ⟨f1, f2, f3, f4, f5⟩ := F2_add C htr hii hkc (by omega) hy hx hf hd
          exact ⟨_, _, _, _, _, rdivmod_ok hy (C.lt b1) (C.lt b2) C.hL, _, _, _, _, _, _, _, _, _, _, _, rneg_ok (C.sz f3), f1, _, _, _, _, _, _, _, _, _, f2, f4, f5⟩
        · have hx : el (apL r cc d a) t k = 0 := by
            apply Classical.byContradiction
            intro hne
            have := sgn_ne.2 hne
            rw [this] at h2; simp at h2
          obtain ⟨f1, f2, f3⟩ := F2_swap C htr hii hkc (by omega) hy hx hf hd
          exact ⟨_, _, _, _, _, _, _, _, _, f1, f2, f3⟩
      · have hy : el (apL r cc d a) ii k = 0 := by
          apply Classical.byContradiction
          intro hne
          have := sgn_ne.2 hne
          rw [this] at h; simp at h
        simp only [euL, if_pos hy, apL, List.nil_append] at hd
        rw [inc64 (by omega)]
        exact ⟨⟨ii + 1, d, ⟨rfl, rfl, rfl, rfl, rfl, rfl, rfl, rfl, rfl⟩, rfl, by omega, by omega, hd⟩, by show ((r : Int) - ((ii + 1 : Nat) : Int)).toNat < ((r : Int) - (ii : Int)).toNat; omega⟩
    · -- the pivot
      have he : ii = r := by have := of_decide_eq_false h; omega
      subst he
      rw [lowL_end] at hd
      have hwc := hw
      obtain ⟨rfl, rfl, rfl, rfl, rfl, rfl, rfl, rfl, rfl⟩ := hw
      have hJ : ∀ d w0 w1 w3 w4 w6 w7 o3 o4 o5, FW ii cc a d w0 w1 w3 w4 w6 w7 o3 o4 o5 → d ++ formL ii cc (cc - (k + 1)) (k + 1) (t + 1) (apL ii cc d a) = FL →
          F0 ii cc a FL w0 w1 w3 w4 w6 w7 o3 o4 o5 (IntKind.i64.wrap ((t : Int) + 1)) (IntKind.i64.wrap ((k : Int) + 1)) ∧ m0 cc w0 w1 w3 w4 w6 w7 o3 o4 o5 (IntKind.i64.wrap ((t : Int) + 1)) (IntKind.i64.wrap ((k : Int) + 1)) < ((cc : Int) - (k : Int)).toNat := fun d w0 w1 w3 w4 w6 w7 o3 o4 o5 hw hd => by
        rw [inc64 (by omega), inc64 (by omega)]
        exact ⟨⟨t + 1, k + 1, d, hw, rfl, rfl, by omega, by omega, hd⟩, by show ((cc : Int) - ((k + 1 : Nat) : Int)).toNat < _; omega⟩
      refine ⟨_, _, _, ⟨by omega, by rw [omx_len (C.mx d)]; omega⟩, omx_in (C.mx d) htr hkc, at2_elN (C.mx d) htr hkc, rsign_ok _, fun h => ?_, fun h => ⟨_, rsign_ok _, fun h2 => ?_, fun h2 => ?_⟩⟩
      · have hx : el (apL ii cc d a) t k = 0 := by
          apply Classical.byContradiction
          intro hne
          have h3 := sgn_ne.2 hne
          have h4 := eq_of_beq h
          rw [h4] at h3; simp at h3
        simp only [fT, tailL, if_pos hx] at hd
        rw [inc64 (by omega)]
        exact ⟨⟨t, k + 1, d, hwc, rfl, rfl, by omega, by omega, hd⟩, by show ((cc : Int) - ((k + 1 : Nat) : Int)).toNat < ((cc : Int) - (k : Int)).toNat; omega⟩
      · have hx := sgn_lt.1 h2
        simp only [fT, tailL, if_neg (show ¬ el (apL ii cc d a) t k = 0 by omega), if_pos hx] at hd
        have e1 : apL ii cc (d ++ [negO t]) a = apO ii cc (negO t) (apL ii cc d a) := apL_one _ _ _
        have e2 : el (apO ii cc (negO t) (apL ii cc d a)) t k = - el (apL ii cc d a) t k := by rw [el_apO htr hkc]; simp [opF]
        refine ⟨_, _, _, _, _, _, _, _, _, C.neg hd, ?_⟩
        exact redP_ok C hkc htr (d := d ++ [negO t]) ⟨rfl, rfl, rfl, rfl, rfl, rfl, rfl, rfl, rfl⟩ (by rw [e1, e2]; omega) (K1 := formL ii cc (cc - (k + 1)) (k + 1) (t + 1)) (by rw [e1, List.append_assoc]; exact hd) hJ
      · have hx : 0 < el (apL ii cc d a) t k := by
          have h3 : ¬ el (apL ii cc d a) t k < 0 := fun hc => by
            have := sgn_lt.2 hc
            rw [this] at h2; simp at h2
          have h4 : el (apL ii cc d a) t k ≠ 0 := fun hc => by
            rw [if_pos hc] at h; simp at h
          omega
        simp only [fT, tailL, if_neg (show ¬ el (apL ii cc d a) t k = 0 by omega), if_neg (show ¬ el (apL ii cc d a) t k < 0 by omega)] at hd
        exact redP_ok C hkc htr (d := d) hwc hx (K1 := formL ii cc (cc - (k + 1)) (k + 1) (t + 1)) hd hJ
  · have htr : ¬ t < r := by have := of_decide_eq_false h2; omega
    have e : formL r cc (cc - k) k t (apL r cc d a) = [] := by
      cases cc - k with
      | zero => rfl
      | succ n => simp only [formL, if_neg htr]
    rw [e, List.append_nil] at hd
    subst hd
    exact fin hw
  · have hkc : k = cc := by have := of_decide_eq_false h; omega
    subst hkc
    rw [Nat.sub_self] at hd
    simp only [formL, List.append_nil] at hd
    subst hd
    exact fin hw
end
theorem formC {r cc N L : Nat} {a : List (List Int)} (hm : Mx r cc a) (km : BdM N a) (h1 : 1 ≤ N) (hr : r ≤ 4294967296) (hc : cc ≤ 4294967296) (hL : L ≤ 1073741824)
    (big : (24 * N) ^ ((2 * r + 2) ^ cc) * (24 * N) ^ ((2 * r + 2) ^ cc) * 4294967296 < 4294967296 ^ L) : FCx r cc ((24 * N) ^ ((2 * r + 2) ^ cc)) L a (formL r cc cc 0 0 a) := by
  obtain ⟨v, g⟩ := formL_ok (r := r) (cc := cc) cc 0 0 a N (by omega) hm km
  have hB := gB_pow r cc N h1
  have kd : BdM 1 (table r r delta) := table_bd fun i j _ _ => by unfold delta; split <;> decide
  have hK1 : gB r cc N ≤ (24 * N) ^ ((2 * r + 2) ^ cc) := Nat.le_trans (one_mul_le h1) hB
  have key : ∀ d e, d ++ e = formL r cc cc 0 0 a → (∀ o ∈ d, vO r o = true) ∧ gL d * N ≤ (24 * N) ^ ((2 * r + 2) ^ cc) ∧ gL d * 1 ≤ (24 * N) ^ ((2 * r + 2) ^ cc) := fun d e h => by
    have hg := Nat.le_trans (gL_prefix h) g
    refine ⟨fun o ho => v o (by rw [← h]; exact List.mem_append_left _ ho), ?_, ?_⟩
    · refine Nat.le_trans (Nat.mul_le_mul_right _ hg) ?_
      rw [Nat.mul_comm]; exact hB
    · rw [Nat.mul_one]; exact Nat.le_trans hg hK1
  refine ⟨hm, fun d e h => ?_, fun d o e h => ?_, big, hL, hr, hc⟩
  · obtain ⟨k1, k2, k3⟩ := key d e h
    exact ⟨(apL_g k1 hm km).mono k2, (apL_g k1 (table_mx _ _ _) kd).mono k3, (apCL_g k1 (table_mx _ _ _) kd).mono k3⟩
  · refine ⟨v o (by rw [← h]; simp), ?_⟩
    have h2 : gO o ≤ gL (formL r cc cc 0 0 a) := by
      rw [← h, gL_append]
      simp only [gL]
      have a1 := one_mul_le (K := gO o * gL e) (gL_pos d)
      have a2 := one_mul_le (K := gO o) (gL_pos e)
      rw [Nat.mul_comm (gL e)] at a2
      exact Nat.le_trans a2 a1
    by_cases hk : o.k = 3
    · have : gO o = 1 + o.z.natAbs := by simp [gO, hk]
      omega
    · obtain ⟨_, hcase⟩ := vO_ok (v o (by rw [← h]; simp))
      have hz : o.z = 0 := by
        rcases hcase with h | h | h
        · exact h.2.2
        · exact h.2.2.2
        · exact absurd h.1 hk
      rw [hz]; exact Nat.zero_le _
end Go.AM
/- Hermite normal forms in small steps, in plain Lean: how many steps there are. -/
namespace Go.AM
theorem log2_le {a b : Nat} (ha : 1 ≤ a) (h : a ≤ b) : a.log2 ≤ b.log2 := (Nat.le_log2 (by omega)).2 (Nat.le_trans (Nat.log2_self_le (by omega)) h)
theorem log2_lt {a b : Nat} (ha : 1 ≤ a) (h : 2 * a ≤ b) : a.log2 + 1 ≤ b.log2 := (Nat.le_log2 (by omega)).2 (by
  have := Nat.log2_self_le (n := a) (by omega)
  rw [Nat.pow_succ]; omega)
def psL (r c t : Nat) (m : List (List Int)) : Nat := prodF r fun i => if i ≠ t ∧ el m i c / el m t c ≠ 0 then 2 else 1
theorem psL_w {p : Prop} [Decidable p] : 1 ≤ (if p then 2 else 1) := by split <;> decide
def psX (r N c t : Nat) (m : List (List Int)) : Nat := if t + 1 < r then psi r c N m else psL r c t m
def lX (r N t : Nat) : Nat := if t + 1 < r then Nat.log2 ((3 * (N * qB r N t) + 1) ^ r) else r
def RstF (r N : Nat) : Nat → Nat
  | 0 => 0
  | n + 1 => 3 * lX r N (r - (n + 1)) + 2 + RstF r N n
section
variable {r cc N : Nat} {a : List (List Int)}
def cpS (r cc N : Nat) (a : List (List Int)) (s : PS) : Nat := 3 * Nat.log2 (psX r (N * qB r N s.t) s.k s.t (apL r cc s.d a)) + flg r cc a s
def pot (r cc N : Nat) (a : List (List Int)) (s : PS) : Nat :=
  (cc - s.k) + if s.t < r ∧ s.k < cc ∧ ¬ lsF (apL r cc s.d a) s.k s.t (r - s.t) < 0 then RstF r N (r - s.t - 1) + cpS r cc N a s else RstF r N (r - s.t)
structure PTI (r cc N : Nat) (a : List (List Int)) (s : PS) : Prop where
  va : ∀ o ∈ s.d, vO r o = true
  kc : s.k ≤ cc
  tr : s.t ≤ r
  e : gL s.d ≤ qB r N s.t ∨ (s.t < r ∧ s.k < cc ∧ ¬ lsF (apL r cc s.d a) s.k s.t (r - s.t) < 0 ∧ ColB r s.k (N * qB r N s.t) (apL r cc s.d a) ∧ gL s.d * psi r s.k (N * qB r N s.t) (apL r cc s.d a) ≤ qB r N (s.t + 1))
theorem psX_pos {t c M : Nat} {m : List (List Int)} : 1 ≤ psX r M c t m := by
  unfold psX; split
  · exact psi_pos
  · exact prodF_pos fun _ _ => psL_w
theorem psL_le {t c : Nat} {m : List (List Int)} : psL r c t m ≤ 2 ^ r := prodF_le fun _ _ => by split <;> omega
theorem PTI.mid (hm : Mx r cc a) (km : BdM N a) {s : PS} (h : PTI r cc N a s) (hk : s.k < cc) :
    ColB r s.k (N * qB r N s.t) (apL r cc s.d a) ∧ gL s.d * psi r s.k (N * qB r N s.t) (apL r cc s.d a) ≤ qB r N (s.t + 1) := by
  rcases h.e with he | ⟨_, _, _, h1, h2⟩
  · have hb : BdM (N * qB r N s.t) (apL r cc s.d a) := (apL_g h.va hm km).mono (by rw [Nat.mul_comm]; exact Nat.mul_le_mul_left _ he)
    have hc := colB_of (apL_mx _ hm) hb hk
    exact ⟨hc, Nat.mul_le_mul he (psi_le hc)⟩
  · exact ⟨h1, h2⟩
theorem cp_le (hm : Mx r cc a) (km : BdM N a) {s : PS} (h : PTI r cc N a s) (hk : s.k < cc) : cpS r cc N a s ≤ 3 * lX r N s.t + 2 := by
  have h1 := flg_le (r := r) (cc := cc) (a := a) (s := s)
  have h2 : Nat.log2 (psX r (N * qB r N s.t) s.k s.t (apL r cc s.d a)) ≤ lX r N s.t := by
    unfold lX psX
    split
    · exact log2_le psi_pos (psi_le (h.mid hm km hk).1)
    · have h3 := log2_le (prodF_pos fun _ _ => psL_w) (psL_le (r := r) (t := s.t) (c := s.k) (m := apL r cc s.d a))
      rw [Nat.log2_two_pow] at h3
      exact h3
  unfold cpS
  omega
theorem pot_le (hm : Mx r cc a) (km : BdM N a) {s : PS} (h : PTI r cc N a s) : pot r cc N a s ≤ (cc - s.k) + RstF r N (r - s.t) := by
  unfold pot
  refine Nat.add_le_add_left ?_ _
  split
  · rename_i h1
    obtain ⟨ht, hk, _⟩ := h1
    have h2 := cp_le hm km h hk
    have h3 : RstF r N (r - s.t) = 3 * lX r N s.t + 2 + RstF r N (r - s.t - 1) := by
      conv => lhs; rw [show r - s.t = (r - s.t - 1) + 1 by omega]
      show 3 * lX r N (r - (r - s.t - 1 + 1)) + 2 + _ = _
      rw [show r - (r - s.t - 1 + 1) = s.t by omega]
    omega
  · exact Nat.le_refl _
theorem ls_some {m : List (List Int)} {c t : Nat} (ht : t < r) (h : el m t c ≠ 0) : ¬ lsF m c t (r - t) < 0 := fun hc => by
  rcases lsF_ok (m := m) (c := c) (top := t) (r - t) with ⟨_, h2⟩ | ⟨p, h1, _⟩
  · exact h (h2 t (Nat.le_refl _) (by omega))
  · omega
theorem PTI.start : PTI r cc N a ⟨[], 0, 0⟩ := ⟨fun o h => by simp at h, Nat.zero_le _, Nat.zero_le _, .inl (by simp [gL, qB])⟩
theorem gl_mid {s : PS} (h : gL s.d * psi r s.k (N * qB r N s.t) (apL r cc s.d a) ≤ qB r N (s.t + 1)) : gL s.d ≤ qB r N (s.t + 1) := by
  have h2 := Nat.mul_le_mul_left (gL s.d) (psi_pos (r := r) (c := s.k) (N := N * qB r N s.t) (m := apL r cc s.d a))
  omega
theorem PTI.op {s : PS} (h : PTI r cc N a s) (ht : s.t < r) (hk : s.k < cc) {o : Opz} (hv : vO r o = true)
    (hl : ¬ lsF (apO r cc o (apL r cc s.d a)) s.k s.t (r - s.t) < 0)
    (hg : gL s.d * psi r s.k (N * qB r N s.t) (apL r cc s.d a) ≤ qB r N (s.t + 1)) (hc : ColB r s.k (N * qB r N s.t) (apO r cc o (apL r cc s.d a)))
    (hp : gO o * psi r s.k (N * qB r N s.t) (apO r cc o (apL r cc s.d a)) ≤ psi r s.k (N * qB r N s.t) (apL r cc s.d a)) : PTI r cc N a ⟨s.d ++ [o], s.t, s.k⟩ := by
  refine ⟨fun x hx => ?_, h.kc, h.tr, .inr ⟨ht, hk, by rw [apL_snoc]; exact hl, by rw [apL_snoc]; exact hc, ?_⟩⟩
  · rcases List.mem_append.1 hx with h1 | h1
    · exact h.va x h1
    · simp only [List.mem_singleton] at h1; subst h1; exact hv
  · simp only [apL_snoc, gL_snoc]
    rw [Nat.mul_assoc]
    exact Nat.le_trans (Nat.mul_le_mul_left _ hp) hg
theorem pot_op {s : PS} (ht : s.t < r) (hk : s.k < cc) {o : Opz} (h1 : ¬ lsF (apL r cc s.d a) s.k s.t (r - s.t) < 0) (h2 : ¬ lsF (apO r cc o (apL r cc s.d a)) s.k s.t (r - s.t) < 0)
    (h : cpS r cc N a ⟨s.d ++ [o], s.t, s.k⟩ < cpS r cc N a s) : pot r cc N a ⟨s.d ++ [o], s.t, s.k⟩ < pot r cc N a s := by
  unfold pot
  simp only [apL_snoc]
  rw [if_pos ⟨ht, hk, h2⟩, if_pos ⟨ht, hk, h1⟩]
  omega
theorem PTI.next (hm : Mx r cc a) (km : BdM N a) {s : PS} (h : PTI r cc N a s) (ht : s.t < r) (hk : s.k < cc) : PTI r cc N a (s.next r cc a) ∧ pot r cc N a (s.next r cc a) < pot r cc N a s := by
  have hn := nx_ok (cc := cc) (a := a) ht
  obtain ⟨hcb, hg⟩ := h.mid hm km hk
  generalize s.next r cc a = s' at hn ⊢
  cases hn with
  | skip h1 hz =>
    have he : gL s.d ≤ qB r N s.t := by
      rcases h.e with he | ⟨_, _, h2, _⟩
      · exact he
      · exact absurd h1 h2
    have ti : PTI r cc N a ⟨s.d, s.t, s.k + 1⟩ := ⟨h.va, hk, h.tr, .inl he⟩
    refine ⟨ti, ?_⟩
    have h2 := pot_le hm km ti
    have h3 : pot r cc N a s = (cc - s.k) + RstF r N (r - s.t) := by unfold pot; rw [if_neg fun hc => hc.2.2 h1]
    simp only at h2
    omega
  | adv h0 hp ho hz =>
    have ti : PTI r cc N a ⟨s.d, s.t + 1, s.k + 1⟩ := ⟨h.va, hk, ht, .inl (gl_mid hg)⟩
    refine ⟨ti, ?_⟩
    have h2 := pot_le hm km ti
    have h3 : pot r cc N a s = (cc - s.k) + (RstF r N (r - s.t - 1) + cpS r cc N a s) := by unfold pot; rw [if_pos ⟨ht, hk, by rw [h0]; omega⟩]
    simp only at h2
    rw [show r - (s.t + 1) = r - s.t - 1 by omega] at h2
    omega
  | swap p h0 h1 h2 h3 h4 =>
    obtain ⟨c1, c2⟩ := swap_col hk hcb ht h2
    have e : ∀ x, x < r → el (apO r cc (swapO p s.t) (apL r cc s.d a)) x s.k = if x = p then el (apL r cc s.d a) s.t s.k else if x = s.t then el (apL r cc s.d a) p s.k else el (apL r cc s.d a) x s.k := fun x hx => el_swap hx hk
    have et : el (apO r cc (swapO p s.t) (apL r cc s.d a)) s.t s.k = el (apL r cc s.d a) p s.k := by rw [e s.t ht, if_neg (by omega), if_pos rfl]
    have hl : lsF (apO r cc (swapO p s.t) (apL r cc s.d a)) s.k s.t (r - s.t) = (s.t : Int) := by
      rw [show r - s.t = (r - s.t - 1) + 1 by omega]
      refine ls_top (by rw [et]; exact h3) _ fun i g1 g2 g3 => ?_
      rw [et]
      rw [e i (by omega)] at g3 ⊢
      by_cases hi : i = p
      · rw [if_pos hi] at g3 ⊢; exact h4 s.t (Nat.le_refl _) ht g3
      · rw [if_neg hi] at g3 ⊢
        by_cases hi2 : i = s.t
        · rw [if_pos hi2]; exact Nat.le_refl _
        · rw [if_neg hi2] at g3 ⊢; exact h4 i g1 (by omega) g3
    refine ⟨h.op ht hk (vO_swap h2 ht (by omega)) (by rw [hl]; omega) hg c1 (by simp only [gO, if_neg (show ¬ (1 : Nat) = 3 by decide), Nat.one_mul]; exact Nat.le_of_eq c2), ?_⟩
    refine pot_op ht hk (by rw [h0]; omega) (by rw [hl]; omega) ?_
    unfold cpS flg psX
    simp only [apL_snoc]
    rw [if_pos (show s.t + 1 < r by omega), if_pos (show s.t + 1 < r by omega), c2, hl, if_neg (by simp), if_pos (show lsF (apL r cc s.d a) s.k s.t (r - s.t) ≠ (s.t : Int) by rw [h0]; omega)]
    split <;> omega
  | neg h0 hneg h4 =>
    obtain ⟨c1, c2⟩ := neg_col hk hcb ht hneg
    have e : ∀ x, x < r → el (apO r cc (negO s.t) (apL r cc s.d a)) x s.k = if x = s.t then - el (apL r cc s.d a) x s.k else el (apL r cc s.d a) x s.k := fun x hx => by rw [el_apO hx hk]; simp [opF]
    have et : el (apO r cc (negO s.t) (apL r cc s.d a)) s.t s.k = - el (apL r cc s.d a) s.t s.k := by rw [e s.t ht, if_pos rfl]
    have hl : lsF (apO r cc (negO s.t) (apL r cc s.d a)) s.k s.t (r - s.t) = (s.t : Int) := by
      rw [show r - s.t = (r - s.t - 1) + 1 by omega]
      refine ls_top (by rw [et]; omega) _ fun i g1 g2 g3 => ?_
      rw [et, Int.natAbs_neg]
      rw [e i (by omega)] at g3 ⊢
      by_cases hi : i = s.t
      · rw [if_pos hi, hi, Int.natAbs_neg]; exact Nat.le_refl _
      · rw [if_neg hi] at g3 ⊢; exact h4 i g1 (by omega) g3
    refine ⟨h.op ht hk (vO_neg ht) (by rw [hl]; omega) hg c1 (by simp only [gO, if_neg (show ¬ (2 : Nat) = 3 by decide), Nat.one_mul]; exact c2), ?_⟩
    refine pot_op ht hk (by rw [h0]; omega) (by rw [hl]; omega) ?_
    have hx : Nat.log2 (psX r (N * qB r N s.t) s.k s.t (apO r cc (negO s.t) (apL r cc s.d a))) ≤ Nat.log2 (psX r (N * qB r N s.t) s.k s.t (apL r cc s.d a)) := by
      refine log2_le psX_pos ?_
      unfold psX
      split
      · exact c2
      · refine Nat.le_of_eq (prodF_congr fun i hi => ?_)
        by_cases hit : i = s.t
        · rw [if_neg (fun hc => hc.1 hit), if_neg (fun hc => hc.1 hit)]
        · rw [et, e i hi, if_neg hit, Int.ediv_neg]
          by_cases hq : el (apL r cc s.d a) i s.k / el (apL r cc s.d a) s.t s.k = 0
          · rw [if_neg (fun hc => hc.2 (by rw [hq]; rfl)), if_neg (fun hc => hc.2 hq)]
          · rw [if_pos ⟨hit, by omega⟩, if_pos ⟨hit, hq⟩]
    unfold cpS flg
    simp only [apL_snoc]
    rw [hl, et, h0, if_neg (by simp), if_neg (show ¬ - el (apL r cc s.d a) s.t s.k < 0 by omega), if_neg (by simp), if_pos hneg]
    omega
  | add i h0 hp h4 ho hi hne hq =>
    obtain ⟨c1, c2, c3, c4⟩ := add_col hk hcb ht hi hp
    have et := c4 s.t ht (Ne.symm hne)
    have hl := ls_some (m := apO r cc (addO i s.t (-(el (apL r cc s.d a) i s.k / el (apL r cc s.d a) s.t s.k))) (apL r cc s.d a)) (c := s.k) ht (by rw [et]; omega)
    refine ⟨h.op ht hk (vO_add hi ht hne) hl hg c1 c2, ?_⟩
    refine pot_op ht hk (by rw [h0]; omega) hl ?_
    have hx : Nat.log2 (psX r (N * qB r N s.t) s.k s.t (apO r cc (addO i s.t (-(el (apL r cc s.d a) i s.k / el (apL r cc s.d a) s.t s.k))) (apL r cc s.d a))) + 1 ≤ Nat.log2 (psX r (N * qB r N s.t) s.k s.t (apL r cc s.d a)) := by
      refine log2_lt psX_pos ?_
      unfold psX
      split
      · have hg2 : 2 ≤ gO (addO i s.t (-(el (apL r cc s.d a) i s.k / el (apL r cc s.d a) s.t s.k))) := by
          simp only [gO, if_pos, Int.natAbs_neg]; omega
        exact Nat.le_trans (Nat.mul_le_mul_right _ hg2) c2
      · refine prodF_mul (k := i) hi (fun j hj hji => ?_) ?_ fun _ _ => psL_w
        · rw [et, c4 j hj hji]
        · rw [et, c3, if_pos (show i ≠ s.t ∧ el (apL r cc s.d a) i s.k / el (apL r cc s.d a) s.t s.k ≠ 0 from ⟨hne, hq⟩), if_neg]
          · exact Nat.le_refl _
          · rintro ⟨_, hc⟩
            exact hc (Int.ediv_eq_zero_of_lt (Int.emod_nonneg _ (by omega)) (Int.emod_lt_of_pos _ hp))
    have h5 := flg_le (r := r) (cc := cc) (a := a) (s := ⟨s.d ++ [addO i s.t (-(el (apL r cc s.d a) i s.k / el (apL r cc s.d a) s.t s.k))], s.t, s.k⟩)
    unfold cpS
    simp only [apL_snoc]
    omega
theorem ends_in (hm : Mx r cc a) (km : BdM N a) : ∀ (x : Nat) (s : PS), PTI r cc N a s → pot r cc N a s ≤ x → ∃ n, n ≤ x ∧ (s.run r cc a n).fin r cc = true
  | x, s, h, hx => by
    by_cases hf : s.fin r cc = true
    · exact ⟨0, Nat.zero_le _, hf⟩
    · have hf' := hf
      simp only [PS.fin, Bool.or_eq_true, decide_eq_true_eq, not_or] at hf'
      obtain ⟨h1, h2⟩ := h.next hm km (by omega) (by omega)
      cases x with
      | zero => omega
      | succ x =>
        obtain ⟨n, hn, hr⟩ := ends_in hm km x _ h1 (by omega)
        exact ⟨n + 1, by omega, by simp only [PS.run, if_neg hf]; exact hr⟩
end
theorem ends_small {r cc : Nat} {a : List (List Int)} (hm : Mx r cc a) (km : BdM 128 a) (hr : r ≤ 4) (hc : cc ≤ 4) : ∃ n, n ≤ 4000 ∧ (PS.run r cc a n ⟨[], 0, 0⟩).fin r cc = true := by
  refine ends_in hm km 4000 _ (PTI.start) (Nat.le_trans (pot_le hm km (PTI.start)) ?_)
  have h : ∀ r, r ≤ 4 → 4 + RstF r 128 r ≤ 4000 := by decide +kernel
  have := h r hr
  simp only [Nat.sub_zero]
  omega
end Go.AM
/- What functions of the program come to: group Sc. Printed by vc.py. -/
set_option maxRecDepth 100000
set_option linter.unusedVariables false
namespace Go.AM
open Go.Proofs.Tryz
def vc11 (p0 p1 : Int) (p2 : DL) (p3 p4 : Int) (p5 : DL) (p6 p7 : Int) (p8 : DL) (p9 p10 : Int) (p11 : DL) (p12 p13 : Int) (p14 : Bool) (q0 q1 : Int) (q2 : DL) (q3 q4 : Int) (q5 : DL) (q6 q7 : Int) (q8 : DL) (q9 q10 : Int) (q11 : DL) (q12 q13 : Int) (q14 : Bool) (R : V → Heap → Prop) : Prop :=
 ∃ (r : Bool),
 (FnD prog 22 [vA [sD (dI p0), sD (dI p1), sD (dL p2)], vA [sD (dI q0), sD (dI q1), sD (dL q2)]] (vD (dB r)) []) ∧
 ((r = true →
 ∃ (r1 : Bool),
 (FnD prog 22 [vA [sD (dI p3), sD (dI p4), sD (dL p5)], vA [sD (dI q3), sD (dI q4), sD (dL q5)]] (vD (dB r1)) []) ∧
 ((r1 = true →
 ∃ (r2 : Bool),
 (FnD prog 22 [vA [sD (dI p6), sD (dI p7), sD (dL p8)], vA [sD (dI q6), sD (dI q7), sD (dL q8)]] (vD (dB r2)) []) ∧
 ((r2 = true →
 ∃ (r3 : Bool),
 (FnD prog 22 [vA [sD (dI p9), sD (dI p10), sD (dL p11)], vA [sD (dI q9), sD (dI q10), sD (dL q11)]] (vD (dB r3)) []) ∧
 ((r3 = true →
 ((p12 == q12) = true →
 ((p13 == q13) = true →
 R (vD (dB (p14 == q14))) []) ∧
 ((p13 == q13) = false →
 R (vD (dB false)) [])) ∧
 ((p12 == q12) = false →
 R (vD (dB false)) [])) ∧
 (r3 = false →
 R (vD (dB false)) []))) ∧
 (r2 = false →
 R (vD (dB false)) []))) ∧
 (r1 = false →
 R (vD (dB false)) []))) ∧
 (r = false →
 R (vD (dB false)) []))
theorem vc11_ok (p0 p1 : Int) (p2 : DL) (p3 p4 : Int) (p5 : DL) (p6 p7 : Int) (p8 : DL) (p9 p10 : Int) (p11 : DL) (p12 p13 : Int) (p14 : Bool) (q0 q1 : Int) (q2 : DL) (q3 q4 : Int) (q5 : DL) (q6 q7 : Int) (q8 : DL) (q9 q10 : Int) (q11 : DL) (q12 q13 : Int) (q14 : Bool) {R : V → Heap → Prop} (h : vc11 p0 p1 p2 p3 p4 p5 p6 p7 p8 p9 p10 p11 p12 p13 p14 q0 q1 q2 q3 q4 q5 q6 q7 q8 q9 q10 q11 q12 q13 q14 R) : FnG prog 11 [vA [sD (dI p0), sD (dI p1), sD (dL p2), sD (dI p3), sD (dI p4), sD (dL p5), sD (dI p6), sD (dI p7), sD (dL p8), sD (dI p9), sD (dI p10), sD (dL p11), sD (dI p12), sD (dI p13), sD (dB p14)], vA [sD (dI q0), sD (dI q1), sD (dL q2), sD (dI q3), sD (dI q4), sD (dL q5), sD (dI q6), sD (dI q7), sD (dL q8), sD (dI q9), sD (dI q10), sD (dL q11), sD (dI q12), sD (dI q13), sD (dB q14)]] [] R :=
  FnG.vcg hT func11 ntmps11 (.reg 2 [(0, Or.none, 0, 1), (1, Or.none, 1, 1)] [2, 3] [0, 1] [] <| .exb fun r => .ob (FnD prog 22 [vA [sD (dI p0), sD (dI p1), sD (dL p2)], vA [sD (dI q0), sD (dI q1), sD (dL q2)]] (vD (dB r)) []) <| .spl r (.exb fun r1 => .ob (FnD prog 22 [vA [sD (dI p3), sD (dI p4), sD (dL p5)], vA [sD (dI q3), sD (dI q4), sD (dL q5)]] (vD (dB r1)) []) <| .spl r1 (.exb fun r2 => .ob (FnD prog 22 [vA [sD (dI p6), sD (dI p7), sD (dL p8)], vA [sD (dI q6), sD (dI q7), sD (dL q8)]] (vD (dB r2)) []) <| .spl r2 (.exb fun r3 => .ob (FnD prog 22 [vA [sD (dI p9), sD (dI p10), sD (dL p11)], vA [sD (dI q9), sD (dI q10), sD (dL q11)]] (vD (dB r3)) []) <| .spl r3 (.spl ((p12 == q12)) (.spl ((p13 == q13)) (.reg 0 [(4, Or.call (vD (dB r)) [] [], 0, 0), (5, Or.bool true, 0, 0), (10, Or.call (vD (dB r1)) [] [], 0, 0), (12, Or.bool true, 0, 0), (17, Or.call (vD (dB r2)) [] [], 0, 0), (19, Or.bool true, 0, 0), (24, Or.call (vD (dB r3)) [] [], 0, 0), (26, Or.bool true, 0, 0), (33, Or.bool true, 0, 0), (40, Or.bool true, 0, 0)] [4] [] [.old 9, .old 8, .old 7, .old 6, .old 5, .old 4, .old 3, .old 2, .old 1, .old 0] <| .ret []) (.reg 0 [(4, Or.call (vD (dB r)) [] [], 0, 0), (5, Or.bool true, 0, 0), (10, Or.call (vD (dB r1)) [] [], 0, 0), (12, Or.bool true, 0, 0), (17, Or.call (vD (dB r2)) [] [], 0, 0), (19, Or.bool true, 0, 0), (24, Or.call (vD (dB r3)) [] [], 0, 0), (26, Or.bool true, 0, 0), (33, Or.bool true, 0, 0), (40, Or.bool false, 0, 0)] [4] [] [.old 9, .old 8, .old 7, .old 6, .old 5, .old 4, .old 3, .old 2, .old 1, .old 0] <| .ret [])) (.reg 0 [(4, Or.call (vD (dB r)) [] [], 0, 0), (5, Or.bool true, 0, 0), (10, Or.call (vD (dB r1)) [] [], 0, 0), (12, Or.bool true, 0, 0), (17, Or.call (vD (dB r2)) [] [], 0, 0), (19, Or.bool true, 0, 0), (24, Or.call (vD (dB r3)) [] [], 0, 0), (26, Or.bool true, 0, 0), (33, Or.bool false, 0, 0)] [4] [] [.old 8, .old 7, .old 6, .old 5, .old 4, .old 3, .old 2, .old 1, .old 0] <| .ret [])) (.reg 0 [(4, Or.call (vD (dB r)) [] [], 0, 0), (5, Or.bool true, 0, 0), (10, Or.call (vD (dB r1)) [] [], 0, 0), (12, Or.bool true, 0, 0), (17, Or.call (vD (dB r2)) [] [], 0, 0), (19, Or.bool true, 0, 0), (24, Or.call (vD (dB r3)) [] [], 0, 0), (26, Or.bool false, 0, 0)] [4] [] [.old 7, .old 6, .old 5, .old 4, .old 3, .old 2, .old 1, .old 0] <| .ret [])) (.reg 0 [(4, Or.call (vD (dB r)) [] [], 0, 0), (5, Or.bool true, 0, 0), (10, Or.call (vD (dB r1)) [] [], 0, 0), (12, Or.bool true, 0, 0), (17, Or.call (vD (dB r2)) [] [], 0, 0), (19, Or.bool false, 0, 0)] [4] [] [.old 5, .old 4, .old 3, .old 2, .old 1, .old 0] <| .ret [])) (.reg 0 [(4, Or.call (vD (dB r)) [] [], 0, 0), (5, Or.bool true, 0, 0), (10, Or.call (vD (dB r1)) [] [], 0, 0), (12, Or.bool false, 0, 0)] [4] [] [.old 3, .old 2, .old 1, .old 0] <| .ret [])) (.reg 0 [(4, Or.call (vD (dB r)) [] [], 0, 0), (5, Or.bool false, 0, 0)] [4] [] [.old 1, .old 0] <| .ret []))
    (by kernel_rfl) (by kernel_rfl) (by kernel_rfl) h
def vc15 (a0 a1 : Int) (a2 : DL) (R : V → Heap → Prop) : Prop :=
 ∃ (r0 r1 : Int) (r2 : DL) (r3 r4 : Int) (r5 : DL) (r6 r7 : Int) (r8 : DL) (r9 r10 : Int) (r11 : DL) (r12 r13 : Int) (r14 : Bool),
 (FnD prog 10 [vA [sD (dI a0), sD (dI a1), sD (dL a2)]] (vA [sD (dI r0), sD (dI r1), sD (dL r2), sD (dI r3), sD (dI r4), sD (dL r5), sD (dI r6), sD (dI r7), sD (dL r8), sD (dI r9), sD (dI r10), sD (dL r11), sD (dI r12), sD (dI r13), sD (dB r14)]) []) ∧
 (∃ (J0 : Int → Int → Int → (DL) → Int → Int → Bool → (DL) → Int → Int → (DL) → Int → Int → (DL) → Int → Int → Prop) (μ0 : Int → Int → Int → (DL) → Int → Int → Bool → (DL) → Int → Int → (DL) → Int → Int → (DL) → Int → Int → Nat),
 J0 r0 r1 r10 r11 r12 r13 r14 r2 r3 r4 r5 r6 r7 r8 r9 (0 : Int) ∧ ∀ (p0 p1 p10 : Int) (p11 : DL) (p12 p13 : Int) (p14 : Bool) (p2 : DL) (p3 p4 : Int) (p5 : DL) (p6 p7 : Int) (p8 : DL) (p9 n : Int), J0 p0 p1 p10 p11 p12 p13 p14 p2 p3 p4 p5 p6 p7 p8 p9 n →
 ((!p14) = true →
 ∃ (r01 r15 : Int) (r21 : DL) (r31 r41 : Int) (r51 : DL) (r61 r71 : Int) (r81 : DL) (r91 r101 : Int) (r111 : DL) (r121 r131 : Int) (r141 : Bool),
 (FnD prog 13 [vA [sD (dI p0), sD (dI p1), sD (dL p2), sD (dI p3), sD (dI p4), sD (dL p5), sD (dI p6), sD (dI p7), sD (dL p8), sD (dI p9), sD (dI p10), sD (dL p11), sD (dI p12), sD (dI p13), sD (dB p14)], vD (dI (1 : Int))] (vA [sD (dI r01), sD (dI r15), sD (dL r21), sD (dI r31), sD (dI r41), sD (dL r51), sD (dI r61), sD (dI r71), sD (dL r81), sD (dI r91), sD (dI r101), sD (dL r111), sD (dI r121), sD (dI r131), sD (dB r141)]) []) ∧
 (J0 r01 r15 r101 r111 r121 r131 r141 r21 r31 r41 r51 r61 r71 r81 r91 (IntKind.i64.wrap (n + (1 : Int))) ∧ μ0 r01 r15 r101 r111 r121 r131 r141 r21 r31 r41 r51 r61 r71 r81 r91 (IntKind.i64.wrap (n + (1 : Int))) < μ0 p0 p1 p10 p11 p12 p13 p14 p2 p3 p4 p5 p6 p7 p8 p9 n)) ∧
 ((!p14) = false →
 R (vD (dI n)) []))
theorem vc15_ok (a0 a1 : Int) (a2 : DL) {R : V → Heap → Prop} (h : vc15 a0 a1 a2 R) : FnG prog 15 [vA [sD (dI a0), sD (dI a1), sD (dL a2)]] [] R :=
  FnG.vcg hT func15 ntmps15 (.reg 1 [(0, Or.none, 0, 1)] [1] [0] [] <| .r1 [1, 3] [0] <| .ex fun r0 => .ex fun r1 => .exl fun r2 => .ex fun r3 => .ex fun r4 => .exl fun r5 => .ex fun r6 => .ex fun r7 => .exl fun r8 => .ex fun r9 => .ex fun r10 => .exl fun r11 => .ex fun r12 => .ex fun r13 => .exb fun r14 => .reg 1 [(1, Or.call (vA [sD (dI r0), sD (dI r1), sD (dL r2), sD (dI r3), sD (dI r4), sD (dL r5), sD (dI r6), sD (dI r7), sD (dL r8), sD (dI r9), sD (dI r10), sD (dL r11), sD (dI r12), sD (dI r13), sD (dB r14)]) [] [], 0, 0), (2, Or.none, 1, 1)] [3, 4] [1] [] <| .lp [.i, .i, .i, .l, .i, .i, .b, .l, .i, .i, .l, .i, .i, .l, .i, .i] (fun p0 p1 p10 p11 p12 p13 p14 p2 p3 p4 p5 p6 p7 p8 p9 n => ⟨[(3, vD (dI n)), (4, vP 0 0)], [some (Obj.box [sD (dI p0), sD (dI p1), sD (dL p2), sD (dI p3), sD (dI p4), sD (dL p5), sD (dI p6), sD (dI p7), sD (dL p8), sD (dI p9), sD (dI p10), sD (dL p11), sD (dI p12), sD (dI p13), sD (dB p14)])], 16⟩) [.i r0, .i r1, .i r10, .l r11, .i r12, .i r13, .b r14, .l r2, .i r3, .i r4, .l r5, .i r6, .i r7, .l r8, .i r9, .i (0 : Int)] <| .fi fun p0 => .fi fun p1 => .fi fun p10 => .fl fun p11 => .fi fun p12 => .fi fun p13 => .fb fun p14 => .fl fun p2 => .fi fun p3 => .fi fun p4 => .fl fun p5 => .fi fun p6 => .fi fun p7 => .fl fun p8 => .fi fun p9 => .fi fun n => .beg <| .r1 [3, 4, 9] [0] <| .c2 (.ex fun r01 => .ex fun r15 => .exl fun r21 => .ex fun r31 => .ex fun r41 => .exl fun r51 => .ex fun r61 => .ex fun r71 => .exl fun r81 => .ex fun r91 => .ex fun r101 => .exl fun r111 => .ex fun r121 => .ex fun r131 => .exb fun r141 => .reg 0 [(1, Or.call (vA [sD (dI r01), sD (dI r15), sD (dL r21), sD (dI r31), sD (dI r41), sD (dL r51), sD (dI r61), sD (dI r71), sD (dL r81), sD (dI r91), sD (dI r101), sD (dL r111), sD (dI r121), sD (dI r131), sD (dB r141)]) [] [], 0, 0)] [3, 4] [0] [] <| .r0 [3, 14] <| .reg 1 [(0, Or.none, 0, 1)] [3, 4] [0] [] <| .r1 [3, 4] [0] <| .bk 0 [.i r01, .i r15, .i r101, .l r111, .i r121, .i r131, .b r141, .l r21, .i r31, .i r41, .l r51, .i r61, .i r71, .l r81, .i r91, .i (IntKind.i64.wrap (n + (1 : Int)))]) (.r0 [2] <| .ret []))
    (by kernel_rfl) (by kernel_rfl) (by kernel_rfl) h
def vc20 (p0 p1 : Int) (p2 : DL) (p3 p4 : Int) (p5 : DL) (p6 p7 : Int) (p8 : DL) (p9 p10 : Int) (p11 : DL) (p12 p13 : Int) (p14 : Bool) (R : V → Heap → Prop) : Prop :=
 ∃ (r : Bool),
 (FnD prog 29 [vA [sD (dI p0), sD (dI p1), sD (dL p2), sD (dI p3), sD (dI p4), sD (dL p5), sD (dI p6), sD (dI p7), sD (dL p8), sD (dI p9), sD (dI p10), sD (dL p11), sD (dI p12), sD (dI p13), sD (dB p14)]] (vD (dB r)) []) ∧
 (((!r) = true →
 R (V.tup [E.agg [sD (dI (0 : Int)), sD (dI (0 : Int)), sD (dL ([] : DL)), sD (dI (0 : Int)), sD (dI (0 : Int)), sD (dL ([] : DL)), sD (dI (0 : Int)), sD (dI (0 : Int)), sD (dL ([] : DL))], eD (dI (210 : Int))]) []) ∧
 ((!r) = false →
 R (V.tup [E.agg [sD (dI p3), sD (dI p4), sD (dL p5), sD (dI p6), sD (dI p7), sD (dL p8), sD (dI p9), sD (dI p10), sD (dL p11)], eD (dI (0 : Int))]) []))
theorem vc20_ok (p0 p1 : Int) (p2 : DL) (p3 p4 : Int) (p5 : DL) (p6 p7 : Int) (p8 : DL) (p9 p10 : Int) (p11 : DL) (p12 p13 : Int) (p14 : Bool) {R : V → Heap → Prop} (h : vc20 p0 p1 p2 p3 p4 p5 p6 p7 p8 p9 p10 p11 p12 p13 p14 R) : FnG prog 20 [vA [sD (dI p0), sD (dI p1), sD (dL p2), sD (dI p3), sD (dI p4), sD (dL p5), sD (dI p6), sD (dI p7), sD (dL p8), sD (dI p9), sD (dI p10), sD (dL p11), sD (dI p12), sD (dI p13), sD (dB p14)]] [] R :=
  FnG.vcg hT func20 ntmps20 (.reg 2 [(0, Or.none, 0, 1), (1, Or.none, 1, 1)] [1, 2] [0, 1] [] <| .exb fun r => .reg 0 [(1, Or.call (vD (dB r)) [] [], 0, 0)] [1, 2, 6] [0, 1] [] <| .c2 (.r1 [2, 3] [1] <| .nrm [2, 3] [0] <| .ret []) (.r1 [2, 3] [1] <| .ret []))
    (by kernel_rfl) (by kernel_rfl) (by kernel_rfl) h
end Go.AM
/- What functions of the program come to: group Sd. Printed by vc.py. -/
set_option maxRecDepth 100000
set_option linter.unusedVariables false
namespace Go.AM
open Go.Proofs.Tryz
def vc39 (h0 h1 : Int) (h2 : DL) (R : V → Heap → Prop) : Prop :=
 ∃ (r : Bool),
 (FnD prog 35 [vA [sD (dI h0), sD (dI h1), sD (dL h2)]] (vD (dB r)) []) ∧
 (((!r) = true →
 R (vD (dB false)) []) ∧
 ((!r) = false →
 ∃ (J0 : Int → Int → Prop) (μ0 : Int → Int → Nat),
 J0 (-1 : Int) (0 : Int) ∧ ∀ (last i : Int), J0 last i →
 (decide (i < h0) = true →
 ∃ (vx : DL) (r1 : Int),
 (0 ≤ i ∧ i < (h2.length : Int)) ∧
 (h2[(i).toNat]? = some [dL vx]) ∧
 (FnD prog 73 [vD (dL vx)] (vD (dI r1)) []) ∧
 ((decide (r1 < (0 : Int)) = true →
 J0 h1 (IntKind.i64.wrap (i + (1 : Int))) ∧ μ0 h1 (IntKind.i64.wrap (i + (1 : Int))) < μ0 last i) ∧
 (decide (r1 < (0 : Int)) = false →
 (decide (r1 ≤ last) = true →
 R (vD (dB false)) []) ∧
 (decide (r1 ≤ last) = false →
 ∃ (x0 : Bool) (x1 : DL) (r2 : Int),
 (0 ≤ r1 ∧ r1 < (vx.length : Int)) ∧
 (vx[(r1).toNat]? = some [dB x0, dL x1]) ∧
 (FnD prog 41 [vA [sD (dB x0), sD (dL x1)]] (vD (dI r2)) []) ∧
 ((decide (r2 ≤ (0 : Int)) = true →
 R (vD (dB false)) []) ∧
 (decide (r2 ≤ (0 : Int)) = false →
 ∃ (J1 : Int → Prop) (μ1 : Int → Nat),
 J1 (0 : Int) ∧ ∀ (k : Int), J1 k →
 (decide (k < i) = true →
 ∃ (vx1 : DL) (x01 : Bool) (x11 : DL) (r3 : Int),
 (0 ≤ k ∧ k < (h2.length : Int)) ∧
 (h2[(k).toNat]? = some [dL vx1]) ∧
 (0 ≤ r1 ∧ r1 < (vx1.length : Int)) ∧
 (vx1[(r1).toNat]? = some [dB x01, dL x11]) ∧
 (FnD prog 41 [vA [sD (dB x01), sD (dL x11)]] (vD (dI r3)) []) ∧
 ((decide (r3 < (0 : Int)) = true →
 R (vD (dB false)) []) ∧
 (decide (r3 < (0 : Int)) = false →
 ∃ (r4 : Int),
 (FnD prog 74 [vA [sD (dB x01), sD (dL x11)], vA [sD (dB x0), sD (dL x1)]] (vD (dI r4)) []) ∧
 ((decide (r4 ≥ (0 : Int)) = true →
 R (vD (dB false)) []) ∧
 (decide (r4 ≥ (0 : Int)) = false →
 J1 (IntKind.i64.wrap (k + (1 : Int))) ∧ μ1 (IntKind.i64.wrap (k + (1 : Int))) < μ1 k))))) ∧
 (decide (k < i) = false →
 J0 r1 (IntKind.i64.wrap (i + (1 : Int))) ∧ μ0 r1 (IntKind.i64.wrap (i + (1 : Int))) < μ0 last i))))))) ∧
 (decide (i < h0) = false →
 R (vD (dB true)) [])))
theorem vc39_ok (h0 h1 : Int) (h2 : DL) {R : V → Heap → Prop} (h : vc39 h0 h1 h2 R) : FnG prog 39 [vA [sD (dI h0), sD (dI h1), sD (dL h2)]] [] R :=
  FnG.vcg hT func39 ntmps39 (.reg 1 [(0, Or.none, 0, 1)] [1] [0] [] <| .exb fun r => .reg 0 [(1, Or.call (vD (dB r)) [] [], 0, 0)] [1, 3] [0] [] <| .r1 [1, 11] [0] <| .c2 (.r0 [2] <| .ret []) (.r1 [1, 4] [0] <| .r1 [1, 4, 5] [0] <| .lp [.i, .i] (fun last i => ⟨[(1, vP 0 0), (4, vD (dI last)), (5, vD (dI i))], [some (Obj.box [sD (dI h0), sD (dI h1), sD (dL h2)])], 79⟩) [.i (-1 : Int), .i (0 : Int)] <| .fi fun last => .fi fun i => .beg <| .r1 [1, 4, 5, 15] [0] <| .c2 (.exl fun vx => .ex fun r1 => .reg 0 [(4, Or.cells [dL vx], 0, 0), (5, Or.call (vD (dI r1)) [] [], 0, 0)] [1, 4, 5, 6] [0] [] <| .r1 [1, 4, 5, 6, 25] [0] <| .c2 (.r1 [1, 4, 5] [0] <| .r1 [1, 4, 5] [0] <| .bk 0 [.i h1, .i (IntKind.i64.wrap (i + (1 : Int)))]) (.spl ((decide (r1 ≤ last))) (.reg 0 [(3, Or.bool true, 0, 0)] [1, 5, 6, 42] [0] [.old 0] <| .ct true none <| .r0 [2] <| .ret []) (.exb fun x0 => .exl fun x1 => .ex fun r2 => .reg 0 [(3, Or.bool false, 0, 0), (8, Or.cells [dL vx], 0, 0), (11, Or.cells [dB x0, dL x1], 0, 0), (12, Or.call (vD (dI r2)) [] [], 0, 0)] [1, 5, 6, 42] [0] [.old 0, .old 4, .old 3] <| .c2 (.r0 [2] <| .ret []) (.r1 [1, 5, 6, 7] [0] <| .lp [.i] (fun k => ⟨[(1, vP 0 0), (5, vD (dI i)), (6, vD (dI r1)), (7, vD (dI k))], [some (Obj.box [sD (dI h0), sD (dI h1), sD (dL h2)])], 79⟩) [.i (0 : Int)] <| .fi fun k => .beg <| .r1 [1, 5, 6, 7, 45] [0] <| .c2 (.exl fun vx1 => .exb fun x01 => .exl fun x11 => .ex fun r3 => .ob (0 ≤ k ∧ k < (h2.length : Int)) <| .ob (h2[(k).toNat]? = some [dL vx1]) <| .ob (0 ≤ r1 ∧ r1 < (vx1.length : Int)) <| .ob (vx1[(r1).toNat]? = some [dB x01, dL x11]) <| .ob (FnD prog 41 [vA [sD (dB x01), sD (dL x11)]] (vD (dI r3)) []) <| .spl ((decide (r3 < (0 : Int)))) (.drw 0 [(4, (Or.cells [dL vx1], 0, 0), []), (7, (Or.cells [dB x01, dL x11], 0, 0), []), (8, (Or.call (vD (dI r3)) [] [], 0, 0), []), (10, (Or.bool true, 0, 0), [])] [1, 5, 6, 7, 77] [0] [.old 5, .old 4, .old 3, .old 2, .old 1, .old 0] <| .ct true none <| .r0 [2] <| .ret []) (.ex fun r4 => .drw 0 [(4, (Or.cells [dL vx1], 0, 0), []), (7, (Or.cells [dB x01, dL x11], 0, 0), []), (8, (Or.call (vD (dI r3)) [] [], 0, 0), []), (10, (Or.bool false, 0, 0), []), (15, (Or.cells [dL vx1], 0, 0), []), (18, (Or.cells [dB x01, dL x11], 0, 0), []), (23, (Or.cells [dL vx], 0, 0), []), (26, (Or.cells [dB x0, dL x1], 0, 0), []), (27, (Or.call (vD (dI r4)) [] [], 0, 0), [])] [1, 5, 6, 7, 77] [0] [.old 5, .old 4, .old 3, .old 2, .old 1, .old 0, .old 5, .old 4, .old 3, .old 2, .old 15, .old 14, .old 10, .old 9] <| .c2 (.r0 [2] <| .ret []) (.r1 [1, 5, 6, 7] [0] <| .bk 0 [.i (IntKind.i64.wrap (k + (1 : Int)))]))) (.r1 [1, 4, 5] [0] <| .r1 [1, 4, 5] [0] <| .bk 1 [.i r1, .i (IntKind.i64.wrap (i + (1 : Int)))]))))) (.r0 [2] <| .ret [])))
    (by kernel_rfl) (by kernel_rfl) (by kernel_rfl) h
def vc73 (v : DL) (R : V → Heap → Prop) : Prop :=
 ∃ (J0 : Int → Prop) (μ0 : Int → Nat),
 J0 (0 : Int) ∧ ∀ (c : Int), J0 c →
 (decide (c < (v.length : Int)) = true →
 ∃ (x0 : Bool) (x1 : DL) (r : Int),
 (0 ≤ c ∧ c < (v.length : Int)) ∧
 (v[(c).toNat]? = some [dB x0, dL x1]) ∧
 (FnD prog 41 [vA [sD (dB x0), sD (dL x1)]] (vD (dI r)) []) ∧
 (((r != (0 : Int)) = true →
 R (vD (dI c)) []) ∧
 ((r != (0 : Int)) = false →
 J0 (IntKind.i64.wrap (c + (1 : Int))) ∧ μ0 (IntKind.i64.wrap (c + (1 : Int))) < μ0 c))) ∧
 (decide (c < (v.length : Int)) = false →
 R (vD (dI (-1 : Int))) [])
theorem vc73_ok (v : DL) {R : V → Heap → Prop} (h : vc73 v R) : FnG prog 73 [vD (dL v)] [] R :=
  FnG.vcg hT func73 ntmps73 (.r0 [0] <| .r0 [0, 3] <| .lp [.i] (fun c => ⟨[(0, vD (dL v)), (3, vD (dI c))], [], 17⟩) [.i (0 : Int)] <| .fi fun c => .beg <| .r0 [0, 3, 7] <| .c2 (.exb fun x0 => .exl fun x1 => .ex fun r => .reg 0 [(3, Or.cells [dB x0, dL x1], 0, 0), (4, Or.call (vD (dI r)) [] [], 0, 0)] [0, 3, 15] [] [] <| .c2 (.r0 [2] <| .ret []) (.r0 [0, 3] <| .bk 0 [.i (IntKind.i64.wrap (c + (1 : Int)))])) (.r0 [2] <| .ret []))
    (by kernel_rfl) (by kernel_rfl) (by kernel_rfl) h
def vc74 (a0 : Bool) (a1 : DL) (b0 : Bool) (b1 : DL) (R : V → Heap → Prop) : Prop :=
 ∃ (r0 : Bool) (r1 : DL) (r : Int),
 (FnD prog 90 [vA [sD (dB a0), sD (dL a1)], vA [sD (dB b0), sD (dL b1)]] (vA [sD (dB r0), sD (dL r1)]) []) ∧
 (FnD prog 41 [vA [sD (dB r0), sD (dL r1)]] (vD (dI r)) []) ∧
 (R (vD (dI r)) [])
theorem vc74_ok (a0 : Bool) (a1 : DL) (b0 : Bool) (b1 : DL) {R : V → Heap → Prop} (h : vc74 a0 a1 b0 b1 R) : FnG prog 74 [vA [sD (dB a0), sD (dL a1)], vA [sD (dB b0), sD (dL b1)]] [] R :=
  FnG.vcg hT func74 ntmps74 (.reg 2 [(0, Or.none, 0, 1), (1, Or.none, 1, 1)] [2, 3] [0, 1] [] <| .exb fun r0 => .exl fun r1 => .ex fun r => .reg 0 [(2, Or.call (vA [sD (dB r0), sD (dL r1)]) [] [], 0, 0), (3, Or.call (vD (dI r)) [] [], 0, 0)] [4] [] [] <| .ret [])
    (by kernel_rfl) (by kernel_rfl) (by kernel_rfl) h
def vc21 (a0 a1 : Int) (a2 : DL) (f0 f1 : Int) (f2 : DL) (f3 f4 : Int) (f5 : DL) (f6 f7 : Int) (f8 : DL) (R : V → Heap → Prop) : Prop :=
 ∃ (r : Bool),
 (FnD prog 35 [vA [sD (dI a0), sD (dI a1), sD (dL a2)]] (vD (dB r)) []) ∧
 (∃ (r1 : Bool),
 (FnD prog 39 [vA [sD (dI f0), sD (dI f1), sD (dL f2)]] (vD (dB r1)) []) ∧
 (((!r) = true →
 R (vD (dB false)) []) ∧
 ((!r) = false →
 ((!r1) = true →
 R (vD (dB false)) []) ∧
 ((!r1) = false →
 ((f0 != a0) = true →
 R (vD (dB false)) []) ∧
 ((f0 != a0) = false →
 ((f1 != a1) = true →
 R (vD (dB false)) []) ∧
 ((f1 != a1) = false →
 ∃ (r2 : Bool),
 (FnD prog 36 [vA [sD (dI f3), sD (dI f4), sD (dL f5)], vD (dI a0), vD (dI a0)] (vD (dB r2)) []) ∧
 (∃ (r3 : Bool),
 (FnD prog 36 [vA [sD (dI f6), sD (dI f7), sD (dL f8)], vD (dI a0), vD (dI a0)] (vD (dB r3)) []) ∧
 ((r2 = true →
 (r3 = true →
 ∃ (r0 r11 : Int) (r21 : DL) (r4 : Bool),
 (FnD prog 37 [vA [sD (dI f3), sD (dI f4), sD (dL f5)], vA [sD (dI a0), sD (dI a1), sD (dL a2)]] (vA [sD (dI r0), sD (dI r11), sD (dL r21)]) []) ∧
 (FnD prog 22 [vA [sD (dI r0), sD (dI r11), sD (dL r21)], vA [sD (dI f0), sD (dI f1), sD (dL f2)]] (vD (dB r4)) []) ∧
 ((r4 = true →
 ∃ (r01 r12 : Int) (r22 : DL) (r02 r13 : Int) (r23 : DL) (r5 : Bool),
 (FnD prog 37 [vA [sD (dI f3), sD (dI f4), sD (dL f5)], vA [sD (dI f6), sD (dI f7), sD (dL f8)]] (vA [sD (dI r01), sD (dI r12), sD (dL r22)]) []) ∧
 (FnD prog 30 [vD (dI a0)] (vA [sD (dI r02), sD (dI r13), sD (dL r23)]) []) ∧
 (FnD prog 22 [vA [sD (dI r01), sD (dI r12), sD (dL r22)], vA [sD (dI r02), sD (dI r13), sD (dL r23)]] (vD (dB r5)) []) ∧
 (R (vD (dB r5)) [])) ∧
 (r4 = false →
 R (vD (dB false)) []))) ∧
 (r3 = false →
 R (vD (dB false)) [])) ∧
 (r2 = false →
 R (vD (dB false)) [])))))))))
theorem vc21_ok (a0 a1 : Int) (a2 : DL) (f0 f1 : Int) (f2 : DL) (f3 f4 : Int) (f5 : DL) (f6 f7 : Int) (f8 : DL) {R : V → Heap → Prop} (h : vc21 a0 a1 a2 f0 f1 f2 f3 f4 f5 f6 f7 f8 R) : FnG prog 21 [vA [sD (dI a0), sD (dI a1), sD (dL a2)], vA [sD (dI f0), sD (dI f1), sD (dL f2), sD (dI f3), sD (dI f4), sD (dL f5), sD (dI f6), sD (dI f7), sD (dL f8)]] [] R :=
  FnG.vcg hT func21 ntmps21 (.reg 2 [(0, Or.none, 0, 1), (1, Or.none, 1, 1)] [2, 3] [0, 1] [] <| .exb fun r => .reg 0 [(1, Or.call (vD (dB r)) [] [], 0, 0)] [2, 3, 5] [0, 1] [] <| .exb fun r1 => .reg 0 [(2, Or.call (vD (dB r1)) [] [], 0, 0)] [2, 3, 5, 6] [0, 1] [] <| .spl ((!r)) (.reg 0 [(2, Or.bool true, 0, 0)] [2, 3, 35] [0, 1] [.old 0] <| .ct true none <| .r0 [4] <| .ret []) (.spl ((!r1)) (.reg 0 [(2, Or.bool false, 0, 0), (6, Or.bool true, 0, 0)] [2, 3, 35] [0, 1] [.old 1, .old 0] <| .ct true none <| .r0 [4] <| .ret []) (.spl ((f0 != a0)) (.reg 0 [(2, Or.bool false, 0, 0), (6, Or.bool false, 0, 0), (14, Or.bool true, 0, 0)] [2, 3, 35] [0, 1] [.old 2, .old 1, .old 0] <| .ct true none <| .r0 [4] <| .ret []) (.reg 0 [(2, Or.bool false, 0, 0), (6, Or.bool false, 0, 0), (14, Or.bool false, 0, 0)] [2, 3, 35] [0, 1] [.old 2, .old 1, .old 0] <| .c2 (.r0 [4] <| .ret []) (.exb fun r2 => .reg 0 [(6, Or.call (vD (dB r2)) [] [], 0, 0)] [2, 3, 7] [0, 1] [] <| .exb fun r3 => .reg 0 [(6, Or.call (vD (dB r3)) [] [], 0, 0)] [2, 3, 7, 8] [0, 1] [] <| .spl r2 (.spl r3 (.ex fun r0 => .ex fun r11 => .exl fun r21 => .exb fun r4 => .ob (FnD prog 37 [vA [sD (dI f3), sD (dI f4), sD (dL f5)], vA [sD (dI a0), sD (dI a1), sD (dL a2)]] (vA [sD (dI r0), sD (dI r11), sD (dL r21)]) []) <| .ob (FnD prog 22 [vA [sD (dI r0), sD (dI r11), sD (dL r21)], vA [sD (dI f0), sD (dI f1), sD (dL f2)]] (vD (dB r4)) []) <| .spl r4 (.ex fun r01 => .ex fun r12 => .exl fun r22 => .ex fun r02 => .ex fun r13 => .exl fun r23 => .exb fun r5 => .drw 0 [(1, (Or.bool true, 0, 0), []), (4, (Or.bool true, 0, 0), []), (8, (Or.call (vA [sD (dI r0), sD (dI r11), sD (dL r21)]) [] [], 0, 0), []), (11, (Or.call (vD (dB r4)) [] [], 0, 0), []), (13, (Or.bool true, 0, 0), []), (18, (Or.call (vA [sD (dI r01), sD (dI r12), sD (dL r22)]) [] [], 0, 0), []), (21, (Or.call (vA [sD (dI r02), sD (dI r13), sD (dL r23)]) [] [], 0, 0), []), (22, (Or.call (vD (dB r5)) [] [], 0, 0), [])] [4] [] [.old 4, .old 3, .old 2, .old 1, .old 0] <| .ret []) (.drw 0 [(1, (Or.bool true, 0, 0), []), (4, (Or.bool true, 0, 0), []), (8, (Or.call (vA [sD (dI r0), sD (dI r11), sD (dL r21)]) [] [], 0, 0), []), (11, (Or.call (vD (dB r4)) [] [], 0, 0), []), (13, (Or.bool false, 0, 0), [])] [4] [] [.old 4, .old 3, .old 2, .old 1, .old 0] <| .ret [])) (.drw 0 [(1, (Or.bool true, 0, 0), []), (4, (Or.bool false, 0, 0), [])] [4] [] [.old 1, .old 0] <| .ret [])) (.drw 0 [(1, (Or.bool false, 0, 0), [])] [4] [] [.old 0] <| .ret []))))))
    (by kernel_rfl) (by kernel_rfl) (by kernel_rfl) h
end Go.AM
/- torsionref21: the least row, the first open row; copies; numbers. -/
namespace Go.AM
open Go.Proofs.Tryz
theorem rcmp_ok {x y : Int} (hx : Sz x) (hy : Sz y) : FnD prog 74 [eI x, eI y] (vi (if x - y = 0 then 0 else if x - y < 0 then -1 else 1)) [] := by
  refine vc74_ok _ _ _ _ (R := Out _) ?_
  unfold vc74
  exact ⟨_, _, _, rsub_ok hx hy, rsign_ok _, rfl, rfl⟩
def eP (r c : Nat) (A m u v : List (List Int)) (t k : Nat) (b : Bool) : V :=
  vA [sD (dI r), sD (dI c), sD (dL (rows A)), sD (dI r), sD (dI c), sD (dL (rows m)), sD (dI r), sD (dI r), sD (dL (rows u)), sD (dI r), sD (dI r), sD (dL (rows v)), sD (dI t), sD (dI k), sD (dB b)]
def finB (r c t k : Nat) : Bool := decide (r ≤ t) || decide (c ≤ k)
theorem fin_ok {r c : Nat} {A m u v : List (List Int)} {t k : Nat} {b : Bool} : FnD prog 29 [eP r c A m u v t k b] (vb (finB r c t k)) [] := by
  refine vc29_ok _ _ _ _ _ _ _ _ _ _ _ _ _ _ _ (R := Out _) ?_
  unfold vc29
  refine ⟨fun h => outb ?_, fun h => outb ?_⟩
  · have : r ≤ t := by simpa using h
    simp [finB, this]
  · have : ¬ r ≤ t := by simpa using h
    simp [finB, this]
theorem rfin_ok {r c : Nat} {A m u v : List (List Int)} {t k : Nat} {b : Bool} : FnD prog 31 [eP r c A m u v t k b] (vb (finB r c t k)) [] := by
  refine vc31_ok _ _ _ _ _ _ _ _ _ _ _ _ _ _ _ (R := Out _) ?_
  unfold vc31
  refine ⟨fun h => outb ?_, fun h => outb ?_⟩
  · have : r ≤ t := by simpa using h
    simp [finB, this]
  · have : ¬ r ≤ t := by simpa using h
    simp [finB, this]
section
variable {r c K L : Nat} {A m u v : List (List Int)} {t k : Nat} (C : PCx r c K L m u v t k) {b : Bool}
include C
omit C in
theorem opnL_inv {i : Nat} (h : opnL k t m (List.range r) = some i) : i < r ∧ i ≠ t ∧ el m i k / el m t k ≠ 0 ∧ ∀ j, j < i → j ≠ t → el m j k / el m t k = 0 := by
  unfold opnL at h
  obtain ⟨h1, h2, h3⟩ := List.find?_range_eq_some.1 h
  simp only [Bool.and_eq_true, decide_eq_true_eq] at h1
  refine ⟨List.mem_range.1 h2, h1.1, h1.2, fun j hj hjt => ?_⟩
  have := h3 j hj
  simp [hjt] at this
  exact this
end
end Go.AM
/- What functions of the program come to: group Sb. Printed by vc.py. -/
set_option maxRecDepth 100000
set_option linter.unusedVariables false
namespace Go.AM
open Go.Proofs.Tryz
def vc13 (p0 p1 : Int) (p2 : DL) (p3 p4 : Int) (p5 : DL) (p6 p7 : Int) (p8 : DL) (p9 p10 : Int) (p11 : DL) (p12 p13 : Int) (p14 : Bool) (budget : Int) (R : V → Heap → Prop) : Prop :=
 (decide (budget ≤ (0 : Int)) = true →
 R (vA [sD (dI p0), sD (dI p1), sD (dL p2), sD (dI p3), sD (dI p4), sD (dL p5), sD (dI p6), sD (dI p7), sD (dL p8), sD (dI p9), sD (dI p10), sD (dL p11), sD (dI p12), sD (dI p13), sD (dB p14)]) []) ∧
 (decide (budget ≤ (0 : Int)) = false →
 (p14 = true →
 R (vA [sD (dI p0), sD (dI p1), sD (dL p2), sD (dI p3), sD (dI p4), sD (dL p5), sD (dI p6), sD (dI p7), sD (dL p8), sD (dI p9), sD (dI p10), sD (dL p11), sD (dI p12), sD (dI p13), sD (dB p14)]) []) ∧
 (p14 = false →
 ∃ (r0 r1 : Int) (rrows : DLL) (r01 r11 : Int) (rrows1 : DLL) (r02 r12 : Int) (rrows2 : DLL),
 (FnD prog 32 [vA [sD (dI p3), sD (dI p4), sD (dL p5)]] (vA [sD (dI r0), sD (dI r1), S.ref 0]) [some (Obj.mat 2 rrows)]) ∧
 (FnD prog 32 [vA [sD (dI p6), sD (dI p7), sD (dL p8)]] (vA [sD (dI r01), sD (dI r11), S.ref 0]) [some (Obj.mat 2 rrows1)]) ∧
 (FnD prog 32 [vA [sD (dI p9), sD (dI p10), sD (dL p11)]] (vA [sD (dI r02), sD (dI r12), S.ref 0]) [some (Obj.mat 2 rrows2)]) ∧
 ((FnD prog 33 [] (vA [sD (D.fn (.func 64) ([] : List D)), sD (D.fn (.func 65) ([] : List D)), sD (D.fn (.func 66) ([] : List D)), sD (D.fn (.func 67) ([] : List D)), sD (D.fn (.func 68) ([] : List D))]) []) ∧
 (∃ (J0 : Int → Int → Int → Int → Int → Bool → (DL) → Int → Int → Int → Int → Int → (DLL) → (DLL) → (DLL) → Int → Prop) (μ0 : Int → Int → Int → Int → Int → Bool → (DL) → Int → Int → Int → Int → Int → (DLL) → (DLL) → (DLL) → Int → Nat),
 J0 p0 p1 r12 p12 p13 p14 p2 r0 r1 r01 r11 r02 rrows rrows1 rrows2 budget ∧ ∀ (p01 p15 : Int) (p101 p121 p131 : Int) (p141 : Bool) (p21 : DL) (p31 p41 : Int) (p61 p71 p91 : Int) (o3 o4 o5 : DLL) (budget1 : Int), J0 p01 p15 p101 p121 p131 p141 p21 p31 p41 p61 p71 p91 o3 o4 o5 budget1 →
 (decide (budget1 > (0 : Int)) = true →
 ((!p141) = true →
 (0 ≤ (0 : Int) ∧ (0 : Int) < ((5 : Nat) : Int)) ∧
 (∃ (r : Bool) (b b1 : Int) (b2 : DL) (b3 b4 : Int) (b5 b6 : Int) (b7 b8 : Int) (b9 b10 : Int) (b11 : Bool) (m m1 m2 : DLL),
 (FnO prog 64 [V.e (E.sc (S.ptr 0 0))] [some (Obj.box [sD (dI p01), sD (dI p15), sD (dL p21), sD (dI p31), sD (dI p41), S.ref 1, sD (dI p61), sD (dI p71), S.ref 2, sD (dI p91), sD (dI p101), S.ref 3, sD (dI p121), sD (dI p131), sD (dB p141)]), some (Obj.mat 2 o3), some (Obj.mat 2 o4), some (Obj.mat 2 o5)] (vD (dB r)) [some (Obj.box [sD (dI b), sD (dI b1), sD (dL b2), sD (dI b3), sD (dI b4), S.ref 1, sD (dI b5), sD (dI b6), S.ref 2, sD (dI b7), sD (dI b8), S.ref 3, sD (dI b9), sD (dI b10), sD (dB b11)]), some (Obj.mat 2 m), some (Obj.mat 2 m1), some (Obj.mat 2 m2)]) ∧
 ((r = true →
 ∃ (r2 : Bool),
 (FnD prog 29 [vA [sD (dI b), sD (dI b1), sD (dL b2), sD (dI b3), sD (dI b4), sD (dL (matD m)), sD (dI b5), sD (dI b6), sD (dL (matD m1)), sD (dI b7), sD (dI b8), sD (dL (matD m2)), sD (dI b9), sD (dI b10), sD (dB b11)]] (vD (dB r2)) []) ∧
 (J0 b b1 b8 b9 b10 r2 b2 b3 b4 b5 b6 b7 m m1 m2 (IntKind.i64.wrap (budget1 - (1 : Int))) ∧ μ0 b b1 b8 b9 b10 r2 b2 b3 b4 b5 b6 b7 m m1 m2 (IntKind.i64.wrap (budget1 - (1 : Int))) < μ0 p01 p15 p101 p121 p131 p141 p21 p31 p41 p61 p71 p91 o3 o4 o5 budget1)) ∧
 (r = false →
 (0 ≤ (1 : Int) ∧ (1 : Int) < ((5 : Nat) : Int)) ∧
 (∃ (r3 : Bool) (b12 b13 : Int) (b14 : DL) (b15 b16 : Int) (b17 b18 : Int) (b19 b20 : Int) (b21 b22 : Int) (b23 : Bool) (m3 m4 m5 : DLL),
 (FnO prog 65 [V.e (E.sc (S.ptr 0 0))] [some (Obj.box [sD (dI b), sD (dI b1), sD (dL b2), sD (dI b3), sD (dI b4), S.ref 1, sD (dI b5), sD (dI b6), S.ref 2, sD (dI b7), sD (dI b8), S.ref 3, sD (dI b9), sD (dI b10), sD (dB b11)]), some (Obj.mat 2 m), some (Obj.mat 2 m1), some (Obj.mat 2 m2)] (vD (dB r3)) [some (Obj.box [sD (dI b12), sD (dI b13), sD (dL b14), sD (dI b15), sD (dI b16), S.ref 4, sD (dI b17), sD (dI b18), S.ref 5, sD (dI b19), sD (dI b20), S.ref 3, sD (dI b21), sD (dI b22), sD (dB b23)]), some (Obj.fwd (S.ref 4)), some (Obj.fwd (S.ref 5)), some (Obj.mat 2 m3), some (Obj.mat 2 m4), some (Obj.mat 2 m5)]) ∧
 ((r3 = true →
 ∃ (r4 : Bool),
 (FnD prog 29 [vA [sD (dI b12), sD (dI b13), sD (dL b14), sD (dI b15), sD (dI b16), sD (dL (matD m4)), sD (dI b17), sD (dI b18), sD (dL (matD m5)), sD (dI b19), sD (dI b20), sD (dL (matD m3)), sD (dI b21), sD (dI b22), sD (dB b23)]] (vD (dB r4)) []) ∧
 (J0 b12 b13 b20 b21 b22 r4 b14 b15 b16 b17 b18 b19 m4 m5 m3 (IntKind.i64.wrap (budget1 - (1 : Int))) ∧ μ0 b12 b13 b20 b21 b22 r4 b14 b15 b16 b17 b18 b19 m4 m5 m3 (IntKind.i64.wrap (budget1 - (1 : Int))) < μ0 p01 p15 p101 p121 p131 p141 p21 p31 p41 p61 p71 p91 o3 o4 o5 budget1)) ∧
 (r3 = false →
 (0 ≤ (2 : Int) ∧ (2 : Int) < ((5 : Nat) : Int)) ∧
 (∃ (r5 : Bool) (b24 b25 : Int) (b26 : DL) (b27 b28 : Int) (b29 b30 : Int) (b31 b32 : Int) (b33 b34 : Int) (b35 : Bool) (m6 m7 m8 : DLL),
 (FnO prog 66 [V.e (E.sc (S.ptr 0 0))] [some (Obj.box [sD (dI b12), sD (dI b13), sD (dL b14), sD (dI b15), sD (dI b16), S.ref 1, sD (dI b17), sD (dI b18), S.ref 2, sD (dI b19), sD (dI b20), S.ref 3, sD (dI b21), sD (dI b22), sD (dB b23)]), some (Obj.mat 2 m4), some (Obj.mat 2 m5), some (Obj.mat 2 m3)] (vD (dB r5)) [some (Obj.box [sD (dI b24), sD (dI b25), sD (dL b26), sD (dI b27), sD (dI b28), S.ref 1, sD (dI b29), sD (dI b30), S.ref 2, sD (dI b31), sD (dI b32), S.ref 3, sD (dI b33), sD (dI b34), sD (dB b35)]), some (Obj.mat 2 m6), some (Obj.mat 2 m7), some (Obj.mat 2 m8)]) ∧
 ((r5 = true →
 ∃ (r6 : Bool),
 (FnD prog 29 [vA [sD (dI b24), sD (dI b25), sD (dL b26), sD (dI b27), sD (dI b28), sD (dL (matD m6)), sD (dI b29), sD (dI b30), sD (dL (matD m7)), sD (dI b31), sD (dI b32), sD (dL (matD m8)), sD (dI b33), sD (dI b34), sD (dB b35)]] (vD (dB r6)) []) ∧
 (J0 b24 b25 b32 b33 b34 r6 b26 b27 b28 b29 b30 b31 m6 m7 m8 (IntKind.i64.wrap (budget1 - (1 : Int))) ∧ μ0 b24 b25 b32 b33 b34 r6 b26 b27 b28 b29 b30 b31 m6 m7 m8 (IntKind.i64.wrap (budget1 - (1 : Int))) < μ0 p01 p15 p101 p121 p131 p141 p21 p31 p41 p61 p71 p91 o3 o4 o5 budget1)) ∧
 (r5 = false →
 (0 ≤ (3 : Int) ∧ (3 : Int) < ((5 : Nat) : Int)) ∧
 (∃ (r7 : Bool) (b36 b37 : Int) (b38 : DL) (b39 b40 : Int) (b41 b42 : Int) (b43 b44 : Int) (b45 b46 : Int) (b47 : Bool) (m9 m10 m11 : DLL),
 (FnO prog 67 [V.e (E.sc (S.ptr 0 0))] [some (Obj.box [sD (dI b24), sD (dI b25), sD (dL b26), sD (dI b27), sD (dI b28), S.ref 1, sD (dI b29), sD (dI b30), S.ref 2, sD (dI b31), sD (dI b32), S.ref 3, sD (dI b33), sD (dI b34), sD (dB b35)]), some (Obj.mat 2 m6), some (Obj.mat 2 m7), some (Obj.mat 2 m8)] (vD (dB r7)) [some (Obj.box [sD (dI b36), sD (dI b37), sD (dL b38), sD (dI b39), sD (dI b40), S.ref 1, sD (dI b41), sD (dI b42), S.ref 2, sD (dI b43), sD (dI b44), S.ref 3, sD (dI b45), sD (dI b46), sD (dB b47)]), some (Obj.mat 2 m9), some (Obj.mat 2 m10), some (Obj.mat 2 m11)]) ∧
 ((r7 = true →
 ∃ (r8 : Bool),
 (FnD prog 29 [vA [sD (dI b36), sD (dI b37), sD (dL b38), sD (dI b39), sD (dI b40), sD (dL (matD m9)), sD (dI b41), sD (dI b42), sD (dL (matD m10)), sD (dI b43), sD (dI b44), sD (dL (matD m11)), sD (dI b45), sD (dI b46), sD (dB b47)]] (vD (dB r8)) []) ∧
 (J0 b36 b37 b44 b45 b46 r8 b38 b39 b40 b41 b42 b43 m9 m10 m11 (IntKind.i64.wrap (budget1 - (1 : Int))) ∧ μ0 b36 b37 b44 b45 b46 r8 b38 b39 b40 b41 b42 b43 m9 m10 m11 (IntKind.i64.wrap (budget1 - (1 : Int))) < μ0 p01 p15 p101 p121 p131 p141 p21 p31 p41 p61 p71 p91 o3 o4 o5 budget1)) ∧
 (r7 = false →
 (0 ≤ (4 : Int) ∧ (4 : Int) < ((5 : Nat) : Int)) ∧
 (∃ (r9 : Bool) (b48 b49 : Int) (b50 : DL) (b51 b52 : Int) (b53 b54 : Int) (b55 b56 : Int) (b57 b58 : Int) (b59 : Bool) (m12 m13 m14 : DLL),
 (FnO prog 68 [V.e (E.sc (S.ptr 0 0))] [some (Obj.box [sD (dI b36), sD (dI b37), sD (dL b38), sD (dI b39), sD (dI b40), S.ref 1, sD (dI b41), sD (dI b42), S.ref 2, sD (dI b43), sD (dI b44), S.ref 3, sD (dI b45), sD (dI b46), sD (dB b47)]), some (Obj.mat 2 m9), some (Obj.mat 2 m10), some (Obj.mat 2 m11)] (vD (dB r9)) [some (Obj.box [sD (dI b48), sD (dI b49), sD (dL b50), sD (dI b51), sD (dI b52), S.ref 1, sD (dI b53), sD (dI b54), S.ref 2, sD (dI b55), sD (dI b56), S.ref 3, sD (dI b57), sD (dI b58), sD (dB b59)]), some (Obj.mat 2 m12), some (Obj.mat 2 m13), some (Obj.mat 2 m14)]) ∧
 ((r9 = true →
 ∃ (r10 : Bool),
 (FnD prog 29 [vA [sD (dI b48), sD (dI b49), sD (dL b50), sD (dI b51), sD (dI b52), sD (dL (matD m12)), sD (dI b53), sD (dI b54), sD (dL (matD m13)), sD (dI b55), sD (dI b56), sD (dL (matD m14)), sD (dI b57), sD (dI b58), sD (dB b59)]] (vD (dB r10)) []) ∧
 (J0 b48 b49 b56 b57 b58 r10 b50 b51 b52 b53 b54 b55 m12 m13 m14 (IntKind.i64.wrap (budget1 - (1 : Int))) ∧ μ0 b48 b49 b56 b57 b58 r10 b50 b51 b52 b53 b54 b55 m12 m13 m14 (IntKind.i64.wrap (budget1 - (1 : Int))) < μ0 p01 p15 p101 p121 p131 p141 p21 p31 p41 p61 p71 p91 o3 o4 o5 budget1)) ∧
 (r9 = false →
 ∃ (r13 : Bool),
 (FnD prog 29 [vA [sD (dI b48), sD (dI b49), sD (dL b50), sD (dI b51), sD (dI b52), sD (dL (matD m12)), sD (dI b53), sD (dI b54), sD (dL (matD m13)), sD (dI b55), sD (dI b56), sD (dL (matD m14)), sD (dI b57), sD (dI b58), sD (dB b59)]] (vD (dB r13)) []) ∧
 (J0 b48 b49 b56 b57 b58 r13 b50 b51 b52 b53 b54 b55 m12 m13 m14 (IntKind.i64.wrap (budget1 - (1 : Int))) ∧ μ0 b48 b49 b56 b57 b58 r13 b50 b51 b52 b53 b54 b55 m12 m13 m14 (IntKind.i64.wrap (budget1 - (1 : Int))) < μ0 p01 p15 p101 p121 p131 p141 p21 p31 p41 p61 p71 p91 o3 o4 o5 budget1))))))))))))))))) ∧
 ((!p141) = false →
 R (vA [sD (dI p01), sD (dI p15), sD (dL p21), sD (dI p31), sD (dI p41), sD (dL (matD o3)), sD (dI p61), sD (dI p71), sD (dL (matD o4)), sD (dI p91), sD (dI p101), sD (dL (matD o5)), sD (dI p121), sD (dI p131), sD (dB p141)]) [])) ∧
 (decide (budget1 > (0 : Int)) = false →
 R (vA [sD (dI p01), sD (dI p15), sD (dL p21), sD (dI p31), sD (dI p41), sD (dL (matD o3)), sD (dI p61), sD (dI p71), sD (dL (matD o4)), sD (dI p91), sD (dI p101), sD (dL (matD o5)), sD (dI p121), sD (dI p131), sD (dB p141)]) [])))))
theorem vc13_ok (p0 p1 : Int) (p2 : DL) (p3 p4 : Int) (p5 : DL) (p6 p7 : Int) (p8 : DL) (p9 p10 : Int) (p11 : DL) (p12 p13 : Int) (p14 : Bool) (budget : Int) {R : V → Heap → Prop} (h : vc13 p0 p1 p2 p3 p4 p5 p6 p7 p8 p9 p10 p11 p12 p13 p14 budget R) : FnG prog 13 [vA [sD (dI p0), sD (dI p1), sD (dL p2), sD (dI p3), sD (dI p4), sD (dL p5), sD (dI p6), sD (dI p7), sD (dL p8), sD (dI p9), sD (dI p10), sD (dL p11), sD (dI p12), sD (dI p13), sD (dB p14)], vD (dI budget)] [] R :=
  FnG.vcg hT func13 ntmps13 (.reg 2 [(0, Or.none, 0, 1), (1, Or.none, 1, 1)] [1, 2, 4] [0, 1] [] <| .spl ((decide (budget ≤ (0 : Int)))) (.reg 0 [(2, Or.bool true, 0, 0)] [1, 2, 4, 13] [0, 1] [.old 0] <| .ct true none <| .r1 [4] [1] <| .ret []) (.reg 0 [(2, Or.bool false, 0, 0)] [1, 2, 4, 13] [0, 1] [.old 0] <| .c2 (.r1 [4] [1] <| .ret []) (.ex fun r0 => .ex fun r1 => .exm fun rrows => .ex fun r01 => .ex fun r11 => .exm fun rrows1 => .ex fun r02 => .ex fun r12 => .exm fun rrows2 => .drw 3 [(2, (Or.call (vA [sD (dI r0), sD (dI r1), S.ref 0]) [some (Obj.mat 2 rrows)] [], 2, 1), [2]), (5, (Or.call (vA [sD (dI r01), sD (dI r11), S.ref 0]) [some (Obj.mat 2 rrows1)] [], 3, 1), [3]), (8, (Or.call (vA [sD (dI r02), sD (dI r12), S.ref 0]) [some (Obj.mat 2 rrows2)] [], 4, 1), [4]), (10, (Or.none, 0, 0), [0]), (12, (Or.none, 0, 0), [0]), (14, (Or.none, 0, 0), [0])] [1, 2, 4] [0, 1, 2, 3, 4] [] <| .reg 1 [(0, Or.call (vA [sD (D.fn (.func 64) ([] : List D)), sD (D.fn (.func 65) ([] : List D)), sD (D.fn (.func 66) ([] : List D)), sD (D.fn (.func 67) ([] : List D)), sD (D.fn (.func 68) ([] : List D))]) [] [], 0, 0), (1, Or.none, 5, 1)] [1, 2, 4, 5] [0, 1, 5, 2, 3, 4] [] <| .lp [.i, .i, .i, .i, .i, .b, .l, .i, .i, .i, .i, .i, .m, .m, .m, .i] (fun p01 p15 p101 p121 p131 p141 p21 p31 p41 p61 p71 p91 o3 o4 o5 budget1 => ⟨[(1, vD (dI budget1)), (2, vP 0 0), (4, vP 1 0), (5, vP 2 0)], [some (Obj.box [sD (dI p01), sD (dI p15), sD (dL p21), sD (dI p31), sD (dI p41), S.ref 3, sD (dI p61), sD (dI p71), S.ref 4, sD (dI p91), sD (dI p101), S.ref 5, sD (dI p121), sD (dI p131), sD (dB p141)]), some (Obj.box [sD (dI (0 : Int)), sD (dI (0 : Int)), sD (D.raw (.slice none 0 0)), sD (dI (0 : Int)), sD (dI (0 : Int)), sD (D.raw (.slice none 0 0)), sD (dI (0 : Int)), sD (dI (0 : Int)), sD (D.raw (.slice none 0 0)), sD (dI (0 : Int)), sD (dI (0 : Int)), sD (D.raw (.slice none 0 0)), sD (dI (0 : Int)), sD (dI (0 : Int)), sD (dB false)]), some (Obj.box [sD (D.fn (.func 64) ([] : List D)), sD (D.fn (.func 65) ([] : List D)), sD (D.fn (.func 66) ([] : List D)), sD (D.fn (.func 67) ([] : List D)), sD (D.fn (.func 68) ([] : List D))]), some (Obj.mat 2 o3), some (Obj.mat 2 o4), some (Obj.mat 2 o5)], 48⟩) [.i p0, .i p1, .i r12, .i p12, .i p13, .b p14, .l p2, .i r0, .i r1, .i r01, .i r11, .i r02, .m rrows, .m rrows1, .m rrows2, .i budget] <| .fi fun p01 => .fi fun p15 => .fi fun p101 => .fi fun p121 => .fi fun p131 => .fb fun p141 => .fl fun p21 => .fi fun p31 => .fi fun p41 => .fi fun p61 => .fi fun p71 => .fi fun p91 => .fm fun o3 => .fm fun o4 => .fm fun o5 => .fi fun budget1 => .beg <| .spl ((decide (budget1 > (0 : Int)))) (.reg 0 [(2, Or.bool true, 0, 0)] [1, 2, 4, 5, 34] [0, 1, 2, 3, 4, 5] [.old 0] <| .c2 (.r1 [1, 2, 4, 5, 37, 38] [0, 1, 2, 3, 4, 5] <| .lp1 <| .r1 [1, 2, 4, 5, 37, 38, 39] [0, 1, 2, 3, 4, 5] <| .ct true none <| .r1 [1, 2, 4, 5, 7, 37, 38] [0, 1, 2, 3, 4, 5] <| .exb fun r => .ex fun b => .ex fun b1 => .exl fun b2 => .ex fun b3 => .ex fun b4 => .ex fun b5 => .ex fun b6 => .ex fun b7 => .ex fun b8 => .ex fun b9 => .ex fun b10 => .exb fun b11 => .exm fun m => .exm fun m1 => .exm fun m2 => .reg 0 [(1, Or.callO [0, 3, 4, 5] (vD (dB r)) [some (Obj.box [sD (dI b), sD (dI b1), sD (dL b2), sD (dI b3), sD (dI b4), S.ref 1, sD (dI b5), sD (dI b6), S.ref 2, sD (dI b7), sD (dI b8), S.ref 3, sD (dI b9), sD (dI b10), sD (dB b11)]), some (Obj.mat 2 m), some (Obj.mat 2 m1), some (Obj.mat 2 m2)], 0, 0)] [1, 2, 4, 5, 37, 38, 42] [0, 1, 2, 3, 4, 5] [] <| .c2 (.exb fun r2 => .reg 0 [(1, Or.callB [3, 4, 5] [] (vD (dB r2)), 0, 0)] [1, 2, 4, 5] [0, 1, 2, 3, 4, 5] [] <| .r1 [1, 2, 4, 5] [0, 1, 2, 3, 4, 5] <| .bk 0 [.i b, .i b1, .i b8, .i b9, .i b10, .b r2, .l b2, .i b3, .i b4, .i b5, .i b6, .i b7, .m m, .m m1, .m m2, .i (IntKind.i64.wrap (budget1 - (1 : Int)))]) (.r1 [1, 2, 4, 5, 37, 38] [0, 1, 2, 3, 4, 5] <| .lp1 <| .r1 [1, 2, 4, 5, 37, 38, 39] [0, 1, 2, 3, 4, 5] <| .ct true none <| .r1 [1, 2, 4, 5, 7, 37, 38] [0, 1, 2, 3, 4, 5] <| .exb fun r3 => .ex fun b12 => .ex fun b13 => .exl fun b14 => .ex fun b15 => .ex fun b16 => .ex fun b17 => .ex fun b18 => .ex fun b19 => .ex fun b20 => .ex fun b21 => .ex fun b22 => .exb fun b23 => .exm fun m3 => .exm fun m4 => .exm fun m5 => .reg 2 [(1, Or.callO [0, 3, 4, 5] (vD (dB r3)) [some (Obj.box [sD (dI b12), sD (dI b13), sD (dL b14), sD (dI b15), sD (dI b16), S.ref 4, sD (dI b17), sD (dI b18), S.ref 5, sD (dI b19), sD (dI b20), S.ref 3, sD (dI b21), sD (dI b22), sD (dB b23)]), some (Obj.fwd (S.ref 4)), some (Obj.fwd (S.ref 5)), some (Obj.mat 2 m3), some (Obj.mat 2 m4), some (Obj.mat 2 m5)], 6, 2)] [1, 2, 4, 5, 37, 38, 42] [0, 1, 2, 6, 7, 5] [] <| .c2 (.exb fun r4 => .reg 0 [(1, Or.callB [3, 4, 5] [] (vD (dB r4)), 0, 0)] [1, 2, 4, 5] [0, 1, 2, 3, 4, 5] [] <| .r1 [1, 2, 4, 5] [0, 1, 2, 3, 4, 5] <| .bk 0 [.i b12, .i b13, .i b20, .i b21, .i b22, .b r4, .l b14, .i b15, .i b16, .i b17, .i b18, .i b19, .m m4, .m m5, .m m3, .i (IntKind.i64.wrap (budget1 - (1 : Int)))]) (.r1 [1, 2, 4, 5, 37, 38] [0, 1, 2, 3, 4, 5] <| .lp1 <| .r1 [1, 2, 4, 5, 37, 38, 39] [0, 1, 2, 3, 4, 5] <| .ct true none <| .r1 [1, 2, 4, 5, 7, 37, 38] [0, 1, 2, 3, 4, 5] <| .exb fun r5 => .ex fun b24 => .ex fun b25 => .exl fun b26 => .ex fun b27 => .ex fun b28 => .ex fun b29 => .ex fun b30 => .ex fun b31 => .ex fun b32 => .ex fun b33 => .ex fun b34 => .exb fun b35 => .exm fun m6 => .exm fun m7 => .exm fun m8 => .reg 0 [(1, Or.callO [0, 3, 4, 5] (vD (dB r5)) [some (Obj.box [sD (dI b24), sD (dI b25), sD (dL b26), sD (dI b27), sD (dI b28), S.ref 1, sD (dI b29), sD (dI b30), S.ref 2, sD (dI b31), sD (dI b32), S.ref 3, sD (dI b33), sD (dI b34), sD (dB b35)]), some (Obj.mat 2 m6), some (Obj.mat 2 m7), some (Obj.mat 2 m8)], 0, 0)] [1, 2, 4, 5, 37, 38, 42] [0, 1, 2, 3, 4, 5] [] <| .c2 (.exb fun r6 => .reg 0 [(1, Or.callB [3, 4, 5] [] (vD (dB r6)), 0, 0)] [1, 2, 4, 5] [0, 1, 2, 3, 4, 5] [] <| .r1 [1, 2, 4, 5] [0, 1, 2, 3, 4, 5] <| .bk 0 [.i b24, .i b25, .i b32, .i b33, .i b34, .b r6, .l b26, .i b27, .i b28, .i b29, .i b30, .i b31, .m m6, .m m7, .m m8, .i (IntKind.i64.wrap (budget1 - (1 : Int)))]) (.r1 [1, 2, 4, 5, 37, 38] [0, 1, 2, 3, 4, 5] <| .lp1 <| .r1 [1, 2, 4, 5, 37, 38, 39] [0, 1, 2, 3, 4, 5] <| .ct true none <| .r1 [1, 2, 4, 5, 7, 37, 38] [0, 1, 2, 3, 4, 5] <| .exb fun r7 => .ex fun b36 => .ex fun b37 => .exl fun b38 => .ex fun b39 => .ex fun b40 => .ex fun b41 => .ex fun b42 => .ex fun b43 => .ex fun b44 => .ex fun b45 => .ex fun b46 => .exb fun b47 => .exm fun m9 => .exm fun m10 => .exm fun m11 => .reg 0 [(1, Or.callO [0, 3, 4, 5] (vD (dB r7)) [some (Obj.box [sD (dI b36), sD (dI b37), sD (dL b38), sD (dI b39), sD (dI b40), S.ref 1, sD (dI b41), sD (dI b42), S.ref 2, sD (dI b43), sD (dI b44), S.ref 3, sD (dI b45), sD (dI b46), sD (dB b47)]), some (Obj.mat 2 m9), some (Obj.mat 2 m10), some (Obj.mat 2 m11)], 0, 0)] [1, 2, 4, 5, 37, 38, 42] [0, 1, 2, 3, 4, 5] [] <| .c2 (.exb fun r8 => .reg 0 [(1, Or.callB [3, 4, 5] [] (vD (dB r8)), 0, 0)] [1, 2, 4, 5] [0, 1, 2, 3, 4, 5] [] <| .r1 [1, 2, 4, 5] [0, 1, 2, 3, 4, 5] <| .bk 0 [.i b36, .i b37, .i b44, .i b45, .i b46, .b r8, .l b38, .i b39, .i b40, .i b41, .i b42, .i b43, .m m9, .m m10, .m m11, .i (IntKind.i64.wrap (budget1 - (1 : Int)))]) (.r1 [1, 2, 4, 5, 37, 38] [0, 1, 2, 3, 4, 5] <| .lp1 <| .r1 [1, 2, 4, 5, 37, 38, 39] [0, 1, 2, 3, 4, 5] <| .ct true none <| .r1 [1, 2, 4, 5, 7, 37, 38] [0, 1, 2, 3, 4, 5] <| .exb fun r9 => .ex fun b48 => .ex fun b49 => .exl fun b50 => .ex fun b51 => .ex fun b52 => .ex fun b53 => .ex fun b54 => .ex fun b55 => .ex fun b56 => .ex fun b57 => .ex fun b58 => .exb fun b59 => .exm fun m12 => .exm fun m13 => .exm fun m14 => .reg 0 [(1, Or.callO [0, 3, 4, 5] (vD (dB r9)) [some (Obj.box [sD (dI b48), sD (dI b49), sD (dL b50), sD (dI b51), sD (dI b52), S.ref 1, sD (dI b53), sD (dI b54), S.ref 2, sD (dI b55), sD (dI b56), S.ref 3, sD (dI b57), sD (dI b58), sD (dB b59)]), some (Obj.mat 2 m12), some (Obj.mat 2 m13), some (Obj.mat 2 m14)], 0, 0)] [1, 2, 4, 5, 37, 38, 42] [0, 1, 2, 3, 4, 5] [] <| .c2 (.exb fun r10 => .reg 0 [(1, Or.callB [3, 4, 5] [] (vD (dB r10)), 0, 0)] [1, 2, 4, 5] [0, 1, 2, 3, 4, 5] [] <| .r1 [1, 2, 4, 5] [0, 1, 2, 3, 4, 5] <| .bk 0 [.i b48, .i b49, .i b56, .i b57, .i b58, .b r10, .l b50, .i b51, .i b52, .i b53, .i b54, .i b55, .m m12, .m m13, .m m14, .i (IntKind.i64.wrap (budget1 - (1 : Int)))]) (.r1 [1, 2, 4, 5, 37, 38] [0, 1, 2, 3, 4, 5] <| .lp1 <| .r1 [1, 2, 4, 5, 37, 38, 39] [0, 1, 2, 3, 4, 5] <| .ct false none <| .exb fun r13 => .reg 0 [(1, Or.callB [3, 4, 5] [] (vD (dB r13)), 0, 0)] [1, 2, 4, 5] [0, 1, 2, 3, 4, 5] [] <| .r1 [1, 2, 4, 5] [0, 1, 2, 3, 4, 5] <| .bk 0 [.i b48, .i b49, .i b56, .i b57, .i b58, .b r13, .l b50, .i b51, .i b52, .i b53, .i b54, .i b55, .m m12, .m m13, .m m14, .i (IntKind.i64.wrap (budget1 - (1 : Int)))])))))) (.r1 [4] [1, 3, 4, 5] <| .frz [1, 2, 3] <| .ret [])) (.reg 0 [(2, Or.bool false, 0, 0)] [1, 2, 4, 5, 34] [0, 1, 2, 3, 4, 5] [.old 0] <| .ct false none <| .r1 [4] [1, 3, 4, 5] <| .frz [1, 2, 3] <| .ret []))))
    (by kernel_rfl) (by kernel_rfl) (by kernel_rfl) h
end Go.AM
/- Package step: Start, Step. -/
namespace Go.AM
open Go.Proofs.Tryz
abbrev idM (r : Nat) : List (List Int) := table r r delta
def eS (r c : Nat) (A : List (List Int)) (s : PS) : V := eP r c A (apL r c s.d A) (apL r r s.d (idM r)) (apCL r s.d (idM r)) s.t s.k (s.fin r c)
structure PSx (r c N L : Nat) (A : List (List Int)) : Prop where
  hm : Mx r c A
  km : BdM N A
  N1 : 1 ≤ N
  big : (N * qB r N c) * (N * qB r N c) * 4294967296 < 4294967296 ^ L
  hL : L ≤ 1073741824
  hr : r ≤ 4294967296
  hc : c ≤ 4294967296
theorem idM_bd (r : Nat) : BdM 1 (idM r) := table_bd fun i j _ _ => by unfold delta; split <;> decide
theorem finB_eq (r c : Nat) (s : PS) : s.fin r c = finB r c s.t s.k := rfl
theorem apCL_snoc {n : Nat} (d : List Opz) (o : Opz) (m : List (List Int)) : apCL n (d ++ [o]) m = apC n o (apCL n d m) := by rw [apCL_append]; rfl
section
variable {r c N L : Nat} {A : List (List Int)} (X : PSx r c N L A)
include X
theorem PSx.bds {s : PS} (h : PInv r c N A s) : BdM (N * qB r N c) (apL r c s.d A) ∧ BdM (N * qB r N c) (apL r r s.d (idM r)) ∧ BdM (N * qB r N c) (apCL r s.d (idM r)) := by
  have h1 : gL s.d * 1 ≤ N * qB r N c := by
    have := Nat.mul_le_mul X.N1 h.ge
    rw [Nat.mul_one]; rwa [Nat.one_mul] at this
  refine ⟨(apL_g h.va X.hm X.km).mono ?_, (apL_g h.va (table_mx _ _ _) (idM_bd r)).mono h1, (apCL_g h.va (table_mx _ _ _) (idM_bd r)).mono h1⟩
  rw [Nat.mul_comm]; exact Nat.mul_le_mul_left _ h.ge
theorem PSx.px {s : PS} (h : PInv r c N A s) (ht : s.t < r) (hk : s.k < c) : PCx r c (N * qB r N c) L (apL r c s.d A) (apL r r s.d (idM r)) (apCL r s.d (idM r)) s.t s.k := by
  obtain ⟨h1, h2, h3⟩ := X.bds h
  exact ⟨apL_mx _ X.hm, apL_mx _ (table_mx _ _ _), apCL_mx _ (table_mx _ _ _), h1, h2, h3, ht, hk, X.big, X.hL, X.hr, X.hc⟩
theorem pstart_ok : FnD prog 10 [eM r c A] (eS r c A ⟨[], 0, 0⟩) [] := by
  refine vc10_ok _ _ _ (R := Out _) ?_
  unfold vc10
  exact ⟨_, _, _, _, _, _, mident_ok X.hr, mident_ok X.hr, _, fin_ok (t := 0) (k := 0), rfl, rfl⟩
theorem rstart_ok : FnD prog 12 [eM r c A] (eS r c A ⟨[], 0, 0⟩) [] := by
  refine vc12_ok _ _ _ (R := Out _) ?_
  unfold vc12
  refine ⟨_, _, _, _, _, _, rident_ok X.hr, rident_ok X.hr, ?_⟩
  rw [matD_om]
  exact ⟨_, rfin_ok (t := 0) (k := 0), rfl, rfl⟩
omit X in
def Sp0 (r c N : Nat) (A : List (List Int)) (S : PS) (p0 p1 p10 p12 p13 : Int) (p14 : Bool) (p2 : DL) (p3 p4 p6 p7 p9 : Int) (o3 o4 o5 : DLL) (z : Int) : Prop :=
  ∃ (s : PS) (n : Nat), (p0 = r ∧ p1 = c ∧ p10 = r ∧ p12 = s.t ∧ p13 = s.k ∧ p14 = finB r c s.t s.k ∧ p2 = rows A ∧ p3 = r ∧ p4 = c ∧ p6 = r ∧ p7 = r ∧ p9 = r ∧ o3 = om (apL r c s.d A) ∧ o4 = om (apL r r s.d (idM r)) ∧ o5 = om (apCL r s.d (idM r)) ∧ z = (n : Int)) ∧
    n ≤ 4611686018427387904 ∧ PInv r c N A s ∧ s.run r c A n = S
omit X in
abbrev Spm (_ _ _ _ _ : Int) (_ : Bool) (_ : DL) (_ _ _ _ _ : Int) (_ _ _ : DLL) (z : Int) : Nat := z.toNat
set_option maxRecDepth 100000 in
theorem pstep_ok {s0 : PS} (h0 : PInv r c N A s0) {n0 : Int} (hn0 : n0 ≤ 4611686018427387904) : FnD prog 13 [eS r c A s0, vi n0] (eS r c A (s0.run r c A n0.toNat)) [] := by
  refine vc13_ok _ _ _ _ _ _ _ _ _ _ _ _ _ _ _ _ (R := Out _) ?_
  unfold vc13
  refine ⟨fun h => ?_, fun h => ⟨fun hf => ?_, fun hf => ?_⟩⟩
  · have h1 : n0 ≤ 0 := by simpa using h
    rw [show n0.toNat = 0 by omega]
    exact ⟨rfl, rfl⟩
  · rw [PS.run_fin hf]
    exact ⟨rfl, rfl⟩
  have hn : 0 < n0 := by have := of_decide_eq_false h; omega
  clear h
  have hr := X.hr; have hc := X.hc
  refine ⟨_, _, _, _, _, _, _, _, _, pcopied_ok (apL_mx _ X.hm) hr hc, pcopied_ok (apL_mx _ (table_mx _ _ _)) hr hr, pcopied_ok (apCL_mx _ (table_mx _ _ _)) hr hr, vc33_ok (R := Out _) (by unfold vc33; exact ⟨rfl, rfl⟩), ?_⟩
  refine ⟨Sp0 r c N A (s0.run r c A n0.toNat), Spm, ⟨s0, n0.toNat, ⟨rfl, rfl, rfl, rfl, rfl, rfl, rfl, rfl, rfl, rfl, rfl, rfl, rfl, rfl, rfl, by omega⟩, by omega, h0, rfl⟩, ?_⟩
  generalize s0.run r c A n0.toNat = S
  clear hf h0 hn hn0
  rintro _ _ _ _ _ _ _ _ _ _ _ _ _ _ _ _ ⟨s, n, ⟨rfl, rfl, rfl, rfl, rfl, rfl, rfl, rfl, rfl, rfl, rfl, rfl, rfl, rfl, rfl, rfl⟩, hn, hi, hS⟩
  have done : s.run r c A n = s → (fun x y => Out (eS r c A S) x y) (vA [(sD (dI r)), (sD (dI c)), (sD (dL (rows A))), (sD (dI r)), (sD (dI c)), (sD (dL (matD (om (apL r c s.d A))))), (sD (dI r)), (sD (dI r)), (sD (dL (matD (om (apL r r s.d (idM r)))))), (sD (dI r)), (sD (dI r)), (sD (dL (matD (om (apCL r s.d (idM r)))))), (sD (dI s.t)), (sD (dI s.k)), (sD (dB (finB r c s.t s.k)))]) [] := fun h => by
    rw [← hS, h, matD_om, matD_om, matD_om]
    exact ⟨rfl, rfl⟩
  refine ⟨fun h => ⟨fun h2 => ?_, fun h2 => ?_⟩, fun h => ?_⟩
  rotate_left
  · have hf : s.fin r c = true := by rw [finB_eq]; simpa using h2
    exact done (PS.run_fin hf n)
  · have : n = 0 := by have := of_decide_eq_false h; omega
    subst this
    exact done rfl
  have hf : s.fin r c = false := by rw [finB_eq]; simpa using h2
  obtain ⟨n, rfl⟩ : ∃ n', n = n' + 1 := ⟨n - 1, by have := of_decide_eq_true h; omega⟩
  have htk : s.t < r ∧ s.k < c := by
    have hf' := hf
    simp only [PS.fin, Bool.or_eq_false_iff, decide_eq_false_iff_not] at hf'
    omega
  obtain ⟨ht, hk⟩ := htk
  have hrun : (s.next r c A).run r c A n = S := by
    rw [← hS]; simp only [PS.run, hf]; rfl
  have hinv := hi.next X.hm X.km ht hk
  have P := X.px hi ht hk
  have hw : IntKind.i64.wrap (((n + 1 : Nat) : Int) - 1) = (n : Int) := by rw [w64 (by omega) (by omega)]; omega
  have hnx := nx_ok (cc := c) (a := A) ht
  clear h h2 hf done hS
  rw [hw]
  have nx : ∀ s', PInv r c N A s' → s'.run r c A n = S → Sp0 r c N A S r c r s'.t s'.k (finB r c s'.t s'.k) (rows A) r c r r r (om (apL r c s'.d A)) (om (apL r r s'.d (idM r))) (om (apCL r s'.d (idM r))) (n : Int) ∧ (n : Int).toNat < ((n + 1 : Nat) : Int).toNat :=
    fun s' g1 g2 => ⟨⟨s', n, ⟨rfl, rfl, rfl, rfl, rfl, rfl, rfl, rfl, rfl, rfl, rfl, rfl, rfl, rfl, rfl, rfl⟩, by omega, g1, g2⟩, by omega⟩
  have fin' : ∀ {m u v : List (List Int)} {t k : Nat} {b : Bool}, FnD prog 29 [vA [(sD (dI r)), (sD (dI c)), (sD (dL (rows A))), (sD (dI r)), (sD (dI c)), (sD (dL (matD (om m)))), (sD (dI r)), (sD (dI r)), (sD (dL (matD (om u)))), (sD (dI r)), (sD (dI r)), (sD (dL (matD (om v)))), (sD (dI t)), (sD (dI k)), (sD (dB b))]] (vb (finB r c t k)) [] := fun {m u v t k b} => by
    rw [matD_om, matD_om, matD_om]; exact fin_ok
  generalize hs' : s.next r c A = s' at hnx hrun hinv
  clear hs'
  refine ⟨⟨by decide, by decide⟩, ?_⟩
  have hskip := skip_ok P (A := A) (b := finB r c s.t s.k)
  cases hnx with
  | skip g1 g2 =>
    rw [decide_eq_true g1, if_pos g1] at hskip
    exact ⟨_, _, _, _, _, _, _, _, _, _, _, _, _, _, _, _, hskip, fun _ => ⟨_, fin', nx _ hinv hrun⟩, fun h => absurd h (by decide)⟩
  | swap p g0 g1 g2 g3 g4 =>
    have gn : ¬ lsF (apL r c s.d A) s.k s.t (r - s.t) < 0 := by rw [g0]; omega
    rw [decide_eq_false gn, if_neg gn] at hskip
    have h2 := exch_yes P (A := A) (b := finB r c s.t s.k) g0 g2 (by omega)
    rw [← apL_snoc, ← apL_snoc, ← apCL_snoc] at h2
    refine ⟨_, _, _, _, _, _, _, _, _, _, _, _, _, _, _, _, hskip, fun h => absurd h (by decide), fun _ => ⟨⟨by decide, by decide⟩, ?_⟩⟩
    exact ⟨_, _, _, _, _, _, _, _, _, _, _, _, _, _, _, _, h2, fun _ => ⟨_, fin', nx _ hinv hrun⟩, fun h => absurd h (by decide)⟩
  | neg g0 g1 g4 =>
    have gn : ¬ lsF (apL r c s.d A) s.k s.t (r - s.t) < 0 := by rw [g0]; omega
    rw [decide_eq_false gn, if_neg gn] at hskip
    have h2 := exch_no P (A := A) (b := finB r c s.t s.k) g0
    have h3 := neg_yes P (A := A) (b := finB r c s.t s.k) g1
    rw [← apL_snoc, ← apL_snoc, ← apCL_snoc] at h3
    refine ⟨_, _, _, _, _, _, _, _, _, _, _, _, _, _, _, _, hskip, fun h => absurd h (by decide), fun _ => ⟨⟨by decide, by decide⟩, ?_⟩⟩
    refine ⟨_, _, _, _, _, _, _, _, _, _, _, _, _, _, _, _, h2, fun h => absurd h (by decide), fun _ => ⟨⟨by decide, by decide⟩, ?_⟩⟩
    exact ⟨_, _, _, _, _, _, _, _, _, _, _, _, _, _, _, _, h3, fun _ => ⟨_, fin', nx _ hinv hrun⟩, fun h => absurd h (by decide)⟩
  | add i g0 g1 g4 ho hir hne hq =>
    have gn : ¬ lsF (apL r c s.d A) s.k s.t (r - s.t) < 0 := by rw [g0]; omega
    rw [decide_eq_false gn, if_neg gn] at hskip
    have h2 := exch_no P (A := A) (b := finB r c s.t s.k) g0
    have h3 := neg_no P (A := A) (b := finB r c s.t s.k) g1
    have h4 := red_yes P (A := A) (b := finB r c s.t s.k) (by omega) hir hne hq (opnL_inv ho).2.2.2
    rw [← apL_snoc, ← apL_snoc, ← apCL_snoc] at h4
    refine ⟨_, _, _, _, _, _, _, _, _, _, _, _, _, _, _, _, hskip, fun h => absurd h (by decide), fun _ => ⟨⟨by decide, by decide⟩, ?_⟩⟩
    refine ⟨_, _, _, _, _, _, _, _, _, _, _, _, _, _, _, _, h2, fun h => absurd h (by decide), fun _ => ⟨⟨by decide, by decide⟩, ?_⟩⟩
    refine ⟨_, _, _, _, _, _, _, _, _, _, _, _, _, _, _, _, h3, fun h => absurd h (by decide), fun _ => ⟨⟨by decide, by decide⟩, ?_⟩⟩
    exact ⟨_, _, _, _, _, _, _, _, _, _, _, _, _, _, _, _, h4, fun _ => ⟨_, fin', nx _ hinv hrun⟩, fun h => absurd h (by decide)⟩
  | adv g0 g1 ho hz =>
    have gn : ¬ lsF (apL r c s.d A) s.k s.t (r - s.t) < 0 := by rw [g0]; omega
    rw [decide_eq_false gn, if_neg gn] at hskip
    have h2 := exch_no P (A := A) (b := finB r c s.t s.k) g0
    have h3 := neg_no P (A := A) (b := finB r c s.t s.k) g1
    have h4 := red_no P (A := A) (b := finB r c s.t s.k) (by omega) hz
    have h5 := advance_ok P (A := A) (b := finB r c s.t s.k)
    refine ⟨_, _, _, _, _, _, _, _, _, _, _, _, _, _, _, _, hskip, fun h => absurd h (by decide), fun _ => ⟨⟨by decide, by decide⟩, ?_⟩⟩
    refine ⟨_, _, _, _, _, _, _, _, _, _, _, _, _, _, _, _, h2, fun h => absurd h (by decide), fun _ => ⟨⟨by decide, by decide⟩, ?_⟩⟩
    refine ⟨_, _, _, _, _, _, _, _, _, _, _, _, _, _, _, _, h3, fun h => absurd h (by decide), fun _ => ⟨⟨by decide, by decide⟩, ?_⟩⟩
    refine ⟨_, _, _, _, _, _, _, _, _, _, _, _, _, _, _, _, h4, fun h => absurd h (by decide), fun _ => ⟨⟨by decide, by decide⟩, ?_⟩⟩
    exact ⟨_, _, _, _, _, _, _, _, _, _, _, _, _, _, _, _, h5, fun _ => ⟨_, fin', nx _ hinv hrun⟩, fun h => absurd h (by decide)⟩
end
end Go.AM
/- torsionref21: next, Step, Cost, Same; package step: Cost. -/
namespace Go.AM
open Go.Proofs.Tryz
section
variable {r c N L : Nat} {A : List (List Int)} (X : PSx r c N L A)
include X
omit X in
def St0 (r c N : Nat) (A : List (List Int)) (p0 p1 p10 : Int) (p11 : DL) (p12 p13 : Int) (p14 : Bool) (p2 : DL) (p3 p4 : Int) (p5 : DL) (p6 p7 : Int) (p8 : DL) (p9 : Int) (s : PS) : Prop :=
  (p0 = r ∧ p1 = c ∧ p10 = r ∧ p11 = rows (apCL r s.d (idM r)) ∧ p12 = s.t ∧ p13 = s.k ∧ p14 = s.fin r c ∧ p2 = rows A ∧ p3 = r ∧ p4 = c ∧ p5 = rows (apL r c s.d A) ∧ p6 = r ∧ p7 = r ∧ p8 = rows (apL r r s.d (idM r)) ∧ p9 = r) ∧ PInv r c N A s
def IsCost (r c : Nat) (A : List (List Int)) (n : Nat) : Prop := (PS.run r c A n ⟨[], 0, 0⟩).fin r c = true ∧ ∀ k, k < n → (PS.run r c A k ⟨[], 0, 0⟩).fin r c = false
omit X in
theorem least_nat {p : Nat → Bool} : ∀ n, p n = true → ∃ k, k ≤ n ∧ p k = true ∧ ∀ j, j < k → p j = false
  | n, h => by
    by_cases he : ∃ j, j < n ∧ p j = true
    · obtain ⟨j, hj, hp⟩ := he
      obtain ⟨k, hk, h1, h2⟩ := least_nat j hp
      exact ⟨k, by omega, h1, h2⟩
    · refine ⟨n, Nat.le_refl _, h, fun j hj => ?_⟩
      cases hp : p j with
      | false => rfl
      | true => exact absurd ⟨j, hj, hp⟩ he
termination_by n => n
theorem pcost_ok {T : Nat} (hT : IsCost r c A T) (hTs : T ≤ 4611686018427387904) : FnD prog 15 [eM r c A] (vi T) [] := by
  refine vc15_ok _ _ _ (R := Out _) ?_
  unfold vc15
  refine ⟨_, _, _, _, _, _, _, _, _, _, _, _, _, _, _, pstart_ok X, ?_⟩
  refine ⟨fun p0 p1 p10 p11 p12 p13 p14 p2 p3 p4 p5 p6 p7 p8 p9 z => ∃ n : Nat, St0 r c N A p0 p1 p10 p11 p12 p13 p14 p2 p3 p4 p5 p6 p7 p8 p9 (PS.run r c A n ⟨[], 0, 0⟩) ∧ z = (n : Int) ∧ n ≤ T,
    fun _ _ _ _ _ _ _ _ _ _ _ _ _ _ _ z => ((T : Int) - z).toNat, ⟨0, ⟨⟨rfl, rfl, rfl, rfl, rfl, rfl, rfl, rfl, rfl, rfl, rfl, rfl, rfl, rfl, rfl⟩, PInv.start X.hm X.km⟩, rfl, by omega⟩, ?_⟩
  rintro _ _ _ _ _ _ _ _ _ _ _ _ _ _ _ _ ⟨n, ⟨⟨rfl, rfl, rfl, rfl, rfl, rfl, rfl, rfl, rfl, rfl, rfl, rfl, rfl, rfl, rfl⟩, hi⟩, rfl, hn⟩
  refine ⟨fun h => ?_, fun h => outi ?_⟩
  · have hf : (PS.run r c A n ⟨[], 0, 0⟩).fin r c = false := by simpa using h
    have hlt : n < T := by
      rcases Nat.lt_or_ge n T with h1 | h1
      · exact h1
      · rw [show n = T by omega, hT.1] at hf; exact absurd hf (by decide)
    have h1 := pstep_ok X hi (n0 := 1) (by decide)
    rw [show (1 : Int).toNat = 1 from rfl, ← PS.run_add] at h1
    refine ⟨_, _, _, _, _, _, _, _, _, _, _, _, _, _, _, h1, ?_⟩
    rw [inc64 (by omega)]
    exact ⟨⟨n + 1, ⟨⟨rfl, rfl, rfl, rfl, rfl, rfl, rfl, rfl, rfl, rfl, rfl, rfl, rfl, rfl, rfl⟩, PInv.run X.hm X.km _ (PInv.start X.hm X.km)⟩, rfl, by omega⟩, by show ((T : Int) - ((n + 1 : Nat) : Int)).toNat < ((T : Int) - (n : Int)).toNat; omega⟩
  · have hf : (PS.run r c A n ⟨[], 0, 0⟩).fin r c = true := by simpa using h
    have : n = T := by
      rcases Nat.lt_or_ge n T with h1 | h1
      · rw [hT.2 n h1] at hf; exact absurd hf (by decide)
      · omega
    rw [this]
end
theorem psame_ok {r c : Nat} {A m u v : List (List Int)} {t k : Nat} {b : Bool} (hA : Mx r c A) (hm : Mx r c m) (hu : Mx r r u) (hv : Mx r r v) (sA : SzM A) (sm : SzM m) (su : SzM u) (sv : SzM v) (hr : r ≤ 4294967296) (hc : c ≤ 4294967296) :
    FnD prog 11 [eP r c A m u v t k b, eP r c A m u v t k b] (vb true) [] := by
  refine vc11_ok _ _ _ _ _ _ _ _ _ _ _ _ _ _ _ _ _ _ _ _ _ _ _ _ _ _ _ _ _ _ (R := Out _) ?_
  unfold vc11
  have same : ∀ {c' : Nat} {x : List (List Int)}, Mx r c' x → SzM x → c' ≤ 4294967296 → FnD prog 22 [eM r c' x, eM r c' x] (vb true) [] := fun {c' x} hx sx hc' => by
    have := same_ok (r := r) (c := c') (r' := r) (c' := c') sx sx (by rw [hx.1]; exact hr) fun y hy => by rw [hx.2 y hy]; exact hc'
    rw [show decide ((r : Int) = r ∧ (c' : Int) = c' ∧ x = x) = true from decide_eq_true ⟨rfl, rfl, rfl⟩] at this
    exact this
  refine ⟨_, same hA sA hc, fun _ => ⟨_, same hm sm hc, fun _ => ⟨_, same hu su hr, fun _ => ⟨_, same hv sv hr, fun _ => ⟨fun _ => ⟨fun _ => outb ?_, fun h => ?_⟩, fun h => ?_⟩, fun h => absurd h (by decide)⟩, fun h => absurd h (by decide)⟩, fun h => absurd h (by decide)⟩, fun h => absurd h (by decide)⟩
  · simp
  · simp at h
  · simp at h
end Go.AM
