/- torsionref12.Form, in plain Lean: what its operations lead to is a normal form. -/
import Derived.Test.YtbodjgljjaafaaaL7
namespace Go.AM
theorem HI.skip {r t k : Nat} {m : List (List Int)} (h : HI r t k m) (hz : ∀ i, t ≤ i → i < r → el m i k = 0) : HI r t (k + 1) m := by
 obtain ⟨p, hp⟩ := h.pv
 refine ⟨fun i h2 h3 j hj => ?_, p, fun i hi => ?_⟩
 · by_cases hjk : j = k
   · rw [hjk]; exact hz i h2 h3
   · exact h.ze i h2 h3 j (by omega)
 · obtain ⟨g1, g2⟩ := hp i hi
   exact ⟨by omega, g2⟩
theorem HI.adv {r t k : Nat} {m : List (List Int)} (h : HI r t k m) (ht : t < r) (hp : 0 < el m t k) (hd : ∀ i, i < t → 0 ≤ el m i k ∧ el m i k < el m t k) (hz : ∀ i, t < i → i < r → el m i k = 0) : HI r (t + 1) (k + 1) m := by
 obtain ⟨p, hpv⟩ := h.pv
 refine ⟨fun i h2 h3 j hj => ?_, fun i => if i = t then k else p i, fun i hi => ?_⟩
 · by_cases hjk : j = k
   · rw [hjk]; exact hz i (by omega) h3
   · exact h.ze i (by omega) h3 j (by omega)
 · by_cases hit : i = t
   · subst hit
     simp only [if_true]
     refine ⟨by omega, fun j hj => h.ze _ (Nat.le_refl _) ht j hj, hp, fun l hl2 => ?_⟩
     rw [if_neg (by omega)]
     exact ⟨(hpv l hl2).1, hd l hl2⟩
   · simp only [if_neg hit]
     obtain ⟨g1, g2, g3, g4⟩ := hpv i (by omega)
     refine ⟨by omega, g2, g3, fun l hl2 => ?_⟩
     rw [if_neg (by omega)]
     exact g4 l hl2
theorem HI.neg {r cc t k : Nat} {m : List (List Int)} (h : HI r t k m) (ht : t < r) (hk : k ≤ cc) : HI r t k (apO r cc (negO t) m) := by
 have e : ∀ i, i < r → ∀ j, j < k → el (apO r cc (negO t) m) i j = if i = t then - el m i j else el m i j := fun i hi j hj => by rw [el_apO hi (by omega)]; simp [opF]
 refine h.same (fun i g1 g2 j hj => ?_) (by omega) fun i hi j hj => ?_
 · rw [e i g2 j hj, h.ze i g1 g2 j hj]; split <;> rfl
 · rw [e i (by omega) j hj, if_neg (by omega)]
theorem colB_some {r c : Nat} {m : List (List Int)} : ∃ A, ColB r c A m := by
 refine ⟨(List.range r).foldl (fun k a => k + (el m a c).natAbs) 0, fun a ha => ?_⟩
 have : ∀ (l2 : List Nat) (k:Nat) (g:Nat → Nat), (∀ x ∈ l2, g x ≤ l2.foldl (fun k a => k + g a) k) ∧ k ≤ l2.foldl (fun k a => k + g a) k := by
   intro l2
   induction l2 with
   | nil => intro k g; simp
   | cons y l2 ih =>
     intro k g
     simp only [List.foldl_cons]
     refine ⟨fun x hx => ?_, by have := (ih (k + g y) g).2; omega⟩
     rcases List.mem_cons.1 hx with rfl | hx
     · have := (ih (k + g x) g).2; omega
     · exact (ih _ g).1 x hx
 exact (this (List.range r) 0 fun a => (el m a c).natAbs).1 a (List.mem_range.2 ha)
theorem formL_hi {r cc : Nat} : ∀ (n c top:Nat) (m : List (List Int)), c + n = cc → top ≤ r → HI r top c m → ∃ t k, HI r t k (apL r cc (formL r cc n c top m) m) ∧ t ≤ r ∧ k ≤ cc ∧ (t = r ∨ k = cc)
 | 0, c, top, m, hc, ht, h => ⟨top, c, h, ht, by omega, .inr (by omega)⟩
 | n + 1, c, top, m, hcc, htr, h => by
   have hc : c < cc := by omega
   simp only [formL]
   split
   case isFalse => exact ⟨top, c, h, htr, by omega, .inl (by omega)⟩
   rename_i ht
   obtain ⟨A, hA⟩ := colB_some (r := r) (c := c) (m := m)
   obtain ⟨v1, g1, A1, z1, k1⟩ := rowsL_ok (cc := cc) ht hc (List.range' (top + 1) (r - (top + 1))) m below hA
   have zz := rowsL_zero ht hc (List.range' (top + 1) (r - (top + 1))) m
   unfold lowL
   rw [apL_append]
   generalize rowsL r cc c top (List.range' (top + 1) (r - (top + 1))) m = l1 at *
   generalize apL r cc l1 m = m1 at *
   have mem : ∀ a, top ≤ a → a < r → a = top ∨ a ∈ List.range' (top + 1) (r - (top + 1)) := fun a h1 h2 => by
     rw [List.mem_range'_1]; omega
   have hI1 : HI r top c m1 := h.same (fun i h1 h2 j hj => zz j below (by omega) (fun a ha h3 => h.ze a (by
     rcases h3 with rfl | h3
     · omega
     · rw [List.mem_range'_1] at h3; omega) ha j hj) i h2 (mem i h1 h2)) (by omega) fun i hi j hj => k1 i j (by omega) (by omega) (by omega) (by rw [List.mem_range'_1]; omega)
   have hz1 : ∀ a, top < a → a < r → el m1 a c = 0 := fun a h1 h2 => z1 a h2 (by omega) (.inl (by rw [List.mem_range'_1]; omega))
   have piv : ∀ m2, HI r top c m2 → ColB r c A m2 → 0 < el m2 top c → (∀ a, top < a → a < r → el m2 a c = 0) →
       ∃ t k, HI r t k (apL r cc (pivL r cc c top (formL r cc n (c + 1) (top + 1)) m2) m2) ∧ t ≤ r ∧ k ≤ cc ∧ (t = r ∨ k = cc) := fun m2 hI2 A2 hp hz2 => by
     obtain ⟨v3, g3, k3, z3, n3⟩ := redL_ok (cc := cc) ht hc (A := A) (List.range top) m2 (fun i hi => by simp only [List.mem_range] at hi; omega) A2 hp
     unfold pivL
     rw [apL_append]
     generalize redL r cc c top (List.range top) m2 = l3 at *
     generalize apL r cc l3 m2 = m3 at *
     have hI3 : HI r top c m3 := hI2.same (fun i h1 h2 j hj => by
       rw [z3 i j h2 (by omega) (hI2.ze top (Nat.le_refl _) ht j hj)]; exact hI2.ze i h1 h2 j hj) (by omega) fun i hi j hj => z3 i j (by omega) (by omega) (hI2.ze top (Nat.le_refl _) ht j hj)
     have etop : el m3 top c = el m2 top c := k3 top c ht hc (.inl rfl)
     refine formL_hi n (c + 1) (top + 1) m3 (by omega) (by omega) (hI3.adv ht (by rw [etop]; exact hp) (fun i hi => ?_) fun i h1 h2 => ?_)
     · rw [etop]; exact n3 i (by omega) (List.mem_range.2 hi)
     · rw [k3 i c h2 hc (.inr (by rw [List.mem_range]; omega))]; exact hz2 i h1 h2
   unfold tailL
   split
   · rename_i h0
     exact formL_hi n (c + 1) top m1 (by omega) (by omega) (hI1.skip fun i h1 h2 => by
       by_cases e : i = top
       · rw [e]; exact h0
       · exact hz1 i (by omega) h2)
   · rename_i h0
     split
     · rename_i hneg
       have e1 : ∀ a, a < r → el (apO r cc (negO top) m1) a c = if a = top then - el m1 a c else el m1 a c := fun a ha => by rw [el_apO ha hc]; simp [opF]
       simp only [apL]
       refine piv _ (hI1.neg ht (by omega)) (fun a ha => ?_) ?_ fun a h1 h2 => ?_
       · rw [e1 a ha]
         split
         · rw [Int.natAbs_neg]; exact A1 a ha
         · exact A1 a ha
       · rw [e1 top ht, if_pos rfl]; omega
       · rw [e1 a h2, if_neg (by omega)]; exact hz1 a h1 h2
     · exact piv m1 hI1 A1 (by omega) hz1
theorem HI.hf {r cc t k : Nat} {m : List (List Int)} (h : HI r t k m) (ht : t ≤ r) (hk : k ≤ cc) (he : t = r ∨ k = cc) : ∃ p, HF r t cc (el m) p := by
 obtain ⟨p, hp⟩ := h.pv
 refine ⟨p, ht, fun i h1 h2 j hj => ?_, fun i hi => ?_⟩
 · rcases he with h3 | h3
   · omega
   · exact h.ze i h1 h2 j (by omega)
 · obtain ⟨g1, g2⟩ := hp i hi
   exact ⟨by omega, g2⟩
theorem hermite_eq {r cc t1 k1 t2 k2 : Nat} {a : List (List Int)} {d e : List Opz} (ha : Mx r cc a) (hd : ∀ o ∈ d, vO r o = true) (he : ∀ o ∈ e, vO r o = true)
   (h1 : HI r t1 k1 (apL r cc d a)) (a1 : t1 ≤ r) (b1 : k1 ≤ cc) (c1 : t1 = r ∨ k1 = cc) (h2 : HI r t2 k2 (apL r cc e a)) (a2 : t2 ≤ r) (b2 : k2 ≤ cc) (c2 : t2 = r ∨ k2 = cc) : apL r cc d a = apL r cc e a := by
 obtain ⟨p1, F1⟩ := h1.hf a1 b1 c1
 obtain ⟨p2, F2⟩ := h2.hf a2 b2 c2
 have ex : ∀ {d e : List Opz}, (∀ o ∈ d, vO r o = true) → (∀ o ∈ e, vO r o = true) → ∃ W:Nat → Nat → Int, ∀ i, i < r → ∀ j, j < cc → el (apL r cc d a) i j = comb (W i) (el (apL r cc e a)) r j := fun {d e} hd he => by
   refine ⟨el (mat r (inL e ++ d)), fun i hi j hj => ?_⟩
   have e1 : apL r cc d a = apL r cc (inL e ++ d) (apL r cc e a) := by rw [apL_append, apL_inv he ha]
   have e2 := apL_mat (l := inL e ++ d) (fun o ho => by
     rcases List.mem_append.1 ho with h | h
     · exact inL_valid he o h
     · exact hd o h) (apL_mx e ha)
   rw [e1, e2, el_mmul hi hj]
   rfl
 obtain ⟨W, hW⟩ := ex hd he
 obtain ⟨W', hW'⟩ := ex he hd
 exact mx_ext (apL_mx _ ha) (apL_mx _ ha) fun i j hi hj => HF.unique F1 F2 hW hW' i hi j hj
end Go.AM
/- oplog.Reduce's operations, in plain Lean: the list, what it leads to, how long it is. -/
namespace Go.AM
section
variable (r cc c top:Nat)
def lsN (m : List (List Int)) : Nat := (lsF m c top (r - top)).toNat
def swK (K : List (List Int) → List Opz) (m : List (List Int)) : List Opz :=
 if lsF m c top (r - top) ≠ (top:Int) then swapO (lsN r c top m) top :: K (apO r cc (swapO (lsN r c top m) top) m) else K m
def ngK (K : List (List Int) → List Opz) (m : List (List Int)) : List Opz := if el m top c < 0 then negO top :: K (apO r cc (negO top) m) else K m
def adK (K : List (List Int) → List Opz) : Nat → Nat → List (List Int) → List Opz
 | 0, _, m => K m
 | n + 1, i, m => if i = top ∨ el m i c / el m top c = 0 then adK K n (i + 1) m
   else addO i top (-(el m i c / el m top c)) :: adK K n (i + 1) (apO r cc (addO i top (-(el m i c / el m top c))) m)
def dnB (n:Nat) (m : List (List Int)) : Bool := (List.range n).all fun j => decide (j ≤ top) || decide (el m j c = 0)
def colK (K0 K1 : List (List Int) → List Opz) : Nat → List (List Int) → List Opz
 | 0, _ => []
 | f + 1, m => if lsF m c top (r - top) < 0 then K0 m else swK r cc c top (ngK r cc c top (adK r cc c top (fun m => if dnB c top r m then K1 m else colK K0 K1 f m) r 0)) m
def fuC (m : List (List Int)) : Nat := (el m (lsN r c top m) c).natAbs + 1
end
def stpK (r cc:Nat) : Nat → Nat → Nat → List (List Int) → List Opz
 | 0, _, _, _ => []
 | n + 1, c, top, m => if top < r then colK r cc c top (stpK r cc n (c + 1) top) (stpK r cc n (c + 1) (top + 1)) (fuC r c top m) m else []
def redO (r cc:Nat) (a : List (List Int)) : List Opz := stpK r cc cc 0 0 a
structure RI (r cc N:Nat) (a : List (List Int)) (s:PS) : Prop where
 pi : PInv r cc N a s
 hi : HI r s.t s.k (apL r cc s.d a)
 ti : PTI r cc N a s
section
variable {r cc N : Nat} {a : List (List Int)} (hm : Mx r cc a) (km : BdM N a)
include hm km
theorem RI.next {s : PS} (h : RI r cc N a s) (ht : s.t < r) (hk : s.k < cc) : RI r cc N a (s.next r cc a) ∧ pot r cc N a (s.next r cc a) < pot r cc N a s :=
 ⟨⟨h.pi.next hm km ht hk, h.hi.next ht hk, (h.ti.next hm km ht hk).1⟩, (h.ti.next hm km ht hk).2⟩
theorem RI.add {s : PS} (h : RI r cc N a s) (ht : s.t < r) (hk : s.k < cc) (hp : 0 < el (apL r cc s.d a) s.t s.k) {i : Nat} (hi : i < r) (hne : i ≠ s.t) (hq : el (apL r cc s.d a) i s.k / el (apL r cc s.d a) s.t s.k ≠ 0) :
   RI r cc N a ⟨s.d ++ [addO i s.t (-(el (apL r cc s.d a) i s.k / el (apL r cc s.d a) s.t s.k))], s.t, s.k⟩ ∧
   pot r cc N a ⟨s.d ++ [addO i s.t (-(el (apL r cc s.d a) i s.k / el (apL r cc s.d a) s.t s.k))], s.t, s.k⟩ < pot r cc N a s := by
 have hcb0 := h.pi.cb hk
 obtain ⟨b1, b2, _, _⟩ := add_col hk hcb0 ht hi hp
 obtain ⟨hcb, hg⟩ := h.ti.mid hm km hk
 obtain ⟨c1, c2, c3, c4⟩ := add_col hk hcb ht hi hp
 have et := c4 s.t ht (Ne.symm hne)
 have hl := ls_some (m := apO r cc (addO i s.t (-(el (apL r cc s.d a) i s.k / el (apL r cc s.d a) s.t s.k))) (apL r cc s.d a)) (c := s.k) ht (by rw [et]; omega)
 have hl0 := ls_some (m := apL r cc s.d a) (c := s.k) ht (by omega)
 refine ⟨⟨h.pi.op hk (vO_add hi ht hne) b1 b2, ?_, h.ti.op ht hk (vO_add hi ht hne) hl hg c1 c2⟩, ?_⟩
 · obtain ⟨m, em⟩ : ∃ m, m = apL r cc s.d a := ⟨_, rfl⟩
   have hI := h.hi
   simp only [apL_snoc]
   rw [← em] at hI ⊢
   have e : ∀ z : Int, ∀ i', i' < r → ∀ j, j < s.k → el (apO r cc (addO i s.t z) m) i' j = el m i' j := fun z i' hi' j hj => by
     rw [el_add hi' (by omega), hI.ze s.t (Nat.le_refl _) ht j hj, Int.mul_zero, Int.add_zero]
     split <;> rfl
   exact hI.same (fun i' g1 g2 j hj => by rw [e _ i' g2 j hj]; exact hI.ze i' g1 g2 j hj) (by omega) fun i' hi' j hj => e _ i' (by omega) j hj
 · refine pot_op ht hk hl0 hl ?_
   have hx : Nat.log2 (psX r (N * qB r N s.t) s.k s.t (apO r cc (addO i s.t (-(el (apL r cc s.d a) i s.k / el (apL r cc s.d a) s.t s.k))) (apL r cc s.d a))) + 1 ≤ Nat.log2 (psX r (N * qB r N s.t) s.k s.t (apL r cc s.d a)) := by
     refine log2_lt psX_pos ?_
     unfold psX
     split
     · have hg2 : 2 ≤ gO (addO i s.t (-(el (apL r cc s.d a) i s.k / el (apL r cc s.d a) s.t s.k))) := by
         simp only [gO, if_pos, Int.natAbs_neg]; omega
       exact Nat.le_trans (Nat.mul_le_mul_right _ hg2) c2
     · refine prodF_mul (k := i) hi (fun j hj hji => ?_) ?_ fun _ _ => psL_w
       · rw [et, c4 j hj hji]
       · rw [et, c3, if_pos (show i ≠ s.t ∧ el (apL r cc s.d a) i s.k / el (apL r cc s.d a) s.t s.k ≠ 0 from ⟨hne, hq⟩), if_neg]
         · exact Nat.le_refl _
         · rintro ⟨_, hc⟩
           exact hc (Int.ediv_eq_zero_of_lt (Int.emod_nonneg _ (by omega)) (Int.emod_lt_of_pos _ hp))
   have h5 := flg_le (r := r) (cc := cc) (a := a) (s := ⟨s.d ++ [addO i s.t (-(el (apL r cc s.d a) i s.k / el (apL r cc s.d a) s.t s.k))], s.t, s.k⟩)
   unfold cpS
   simp only [apL_snoc]
   omega
structure Rest (d : List Opz) (t k:Nat) (l : List Opz) : Prop where
 fin : ∃ e t' k', l = e ∧ RI r cc N a ⟨d ++ e, t', k'⟩ ∧ (t' = r ∨ k' = cc) ∧ e.length ≤ pot r cc N a ⟨d, t, k⟩
omit hm km in
theorem Rest.cons {d : List Opz} {t k : Nat} {o : Opz} {l : List Opz} (h : Rest (r := r) (cc := cc) (N := N) (a := a) (d ++ [o]) t k l) (hp : pot r cc N a ⟨d ++ [o], t, k⟩ < pot r cc N a ⟨d, t, k⟩) : Rest (r := r) (cc := cc) (N := N) (a := a) d t k (o :: l) := by
 obtain ⟨e, t', k', rfl, h1, h2, h3⟩ := h.fin
 exact ⟨o :: l, t', k', rfl, by simpa using h1, h2, by simp only [List.length_cons]; omega⟩
omit hm km in
theorem Rest.at {d : List Opz} {t k t1 k1 : Nat} {l : List Opz} (h : Rest (r := r) (cc := cc) (N := N) (a := a) d t1 k1 l) (hp : pot r cc N a ⟨d, t1, k1⟩ ≤ pot r cc N a ⟨d, t, k⟩) : Rest (r := r) (cc := cc) (N := N) (a := a) d t k l := by
 obtain ⟨e, t', k', rfl, h1, h2, h3⟩ := h.fin
 exact ⟨l, t', k', rfl, h1, h2, by omega⟩
omit hm km in
theorem dnB_ok {c top n : Nat} {m : List (List Int)} : dnB c top n m = true ↔ ∀ j, j < n → top < j → el m j c = 0 := by
 unfold dnB
 rw [List.all_eq_true]
 constructor
 · intro h j hj ht
   have := h j (List.mem_range.2 hj)
   simp only [Bool.or_eq_true, decide_eq_true_eq] at this
   omega
 · intro h j hj
   have := h j (List.mem_range.1 hj)
   simp only [Bool.or_eq_true, decide_eq_true_eq]
   by_cases hjt : j ≤ top
   · exact .inl hjt
   · exact .inr (this (by omega))
theorem adK_ok {t k : Nat} (ht : t < r) (hk : k < cc) {K : List (List Int) → List Opz} {p : Int} (hp : 0 < p) (hK : ∀ d, RI r cc N a ⟨d, t, k⟩ → el (apL r cc d a) t k = p → (∀ j, j < r → j ≠ t → 0 ≤ el (apL r cc d a) j k ∧ el (apL r cc d a) j k < p) →
     Rest (r := r) (cc := cc) (N := N) (a := a) d t k (K (apL r cc d a))) :
   ∀ (n i:Nat) (d : List Opz), i + n = r → RI r cc N a ⟨d, t, k⟩ → el (apL r cc d a) t k = p → (∀ j, j < i → j ≠ t → 0 ≤ el (apL r cc d a) j k ∧ el (apL r cc d a) j k < p) →
     Rest (r := r) (cc := cc) (N := N) (a := a) d t k (adK r cc k t K n i (apL r cc d a))
 | 0, i, d, hi, h, he, hz => hK d h he fun j hj => hz j (by omega)
 | n + 1, i, d, hi, h, he, hz => by
   simp only [adK]
   split
   · rename_i hc
     refine adK_ok ht hk hp hK n (i + 1) d (by omega) h he fun j hj hne => ?_
     by_cases hji : j = i
     · rcases hc with hc | hc
       · omega
       · rw [he] at hc
         have h4 := Int.emod_add_mul_ediv (el (apL r cc d a) i k) p
         rw [hc, Int.mul_zero] at h4
         have h5 := Int.emod_nonneg (el (apL r cc d a) i k) (show p ≠ 0 by omega)
         have h6 := Int.emod_lt_of_pos (el (apL r cc d a) i k) hp
         rw [hji]; omega
     · exact hz j (by omega) hne
   · rename_i hc
     simp only [not_or] at hc
     obtain ⟨h1, h2⟩ := h.add hm km ht hk (by rw [he]; exact hp) (show i < r by omega) hc.1 hc.2
     obtain ⟨_, _, c3, c4⟩ := add_col (cc := cc) hk (h.pi.cb hk) ht (show i < r by omega) (by show 0 < el (apL r cc d a) t k; rw [he]; exact hp)
     rw [← apL_snoc]
     refine Rest.cons (adK_ok ht hk hp hK n (i + 1) _ (by omega) h1 ?_ fun j hj hne => ?_) h2
     · rw [apL_snoc, c4 t ht (Ne.symm hc.1)]; exact he
     · rw [apL_snoc]
       by_cases hji : j = i
       · rw [hji, c3, he]
         exact ⟨Int.emod_nonneg _ (by omega), Int.emod_lt_of_pos _ hp⟩
       · rw [c4 j (by omega) hji]
         exact hz j (by omega) hne
omit hm km in
theorem lsF_self {m : List (List Int)} {c t : Nat} (ht : t < r) (h0 : el m t c ≠ 0) (hz : ∀ j, j < r → t < j → el m j c = 0) : lsF m c t (r - t) = (t:Int) := by
 rw [show r - t = (r - t - 1) + 1 by omega]
 refine ls_top h0 _ fun i g1 g2 g3 => ?_
 by_cases h : i = t
 · rw [h]; exact Nat.le_refl _
 · exact absurd (hz i (by omega) (by omega)) g3
theorem colK_ok {t k : Nat} (ht : t < r) (hk : k < cc) {K0 K1 : List (List Int) → List Opz}
   (h0 : ∀ d, RI r cc N a ⟨d, t, k + 1⟩ → Rest (r := r) (cc := cc) (N := N) (a := a) d t (k + 1) (K0 (apL r cc d a))) (h1 : ∀ d, RI r cc N a ⟨d, t + 1, k + 1⟩ → Rest (r := r) (cc := cc) (N := N) (a := a) d (t + 1) (k + 1) (K1 (apL r cc d a))) :
   ∀ (f:Nat) (d : List Opz), RI r cc N a ⟨d, t, k⟩ → fuC r k t (apL r cc d a) ≤ f → Rest (r := r) (cc := cc) (N := N) (a := a) d t k (colK r cc k t K0 K1 f (apL r cc d a))
 | 0, d, h, hf => by unfold fuC at hf; omega
 | f + 1, d, h, hf => by
   have hn := h.next hm km ht hk
   simp only [colK]
   have enx : ∀ d', PS.next r cc a ⟨d', t, k⟩ = ⟨d' ++ (nx1 r k t (apL r cc d' a)).1.toList, (nx1 r k t (apL r cc d' a)).2.1, (nx1 r k t (apL r cc d' a)).2.2⟩ := fun _ => rfl
   split
   · rename_i hneg
     rw [enx] at hn
     simp only [nx1, if_pos hneg, Option.toList_none, List.append_nil] at hn
     exact (h0 d hn.1).at (by omega)
   rename_i hnn
   have tail : ∀ d', RI r cc N a ⟨d', t, k⟩ → 0 < el (apL r cc d' a) t k → (el (apL r cc d' a) t k).natAbs ≤ f →
       Rest (r := r) (cc := cc) (N := N) (a := a) d' t k (adK r cc k t (fun m => if dnB k t r m then K1 m else colK r cc k t K0 K1 f m) r 0 (apL r cc d' a)) := fun d' hd' hp hfp =>
     adK_ok hm km ht hk hp (fun d2 hd2 e2 hz => by
       split
       · rename_i hdn
         have hdn := dnB_ok.1 hdn
         have hls : lsF (apL r cc d2 a) k t (r - t) = (t:Int) := lsF_self ht (by rw [e2]; omega) hdn
         have hop : opnL k t (apL r cc d2 a) (List.range r) = none := by
           refine List.find?_eq_none.2 fun i hi => ?_
           have hi := List.mem_range.1 hi
           simp only [Bool.and_eq_true, decide_eq_true_eq, not_and, Decidable.not_not]
           intro hne
           obtain ⟨z1, z2⟩ := hz i hi hne
           rw [e2]
           exact Int.ediv_eq_zero_of_lt z1 z2
         have hn2 := hd2.next hm km ht hk
         rw [enx] at hn2
         simp only [nx1, hls, hop, if_neg (show ¬ (t:Int) < 0 by omega), if_neg (show ¬ (t:Int) ≠ (t:Int) by simp), if_neg (show ¬ el (apL r cc d2 a) t k < 0 by rw [e2]; omega), Option.toList_none, List.append_nil] at hn2
         exact (h1 d2 hn2.1).at (by omega)
       · rename_i hdn
         refine colK_ok ht hk h0 h1 f d2 hd2 ?_
         unfold fuC
         rcases lsF_ok (m := apL r cc d2 a) (c := k) (top := t) (r - t) with ⟨g1, g2⟩ | ⟨q, g1, g2, g3, g4, g5⟩
         · have := g2 t (Nat.le_refl _) (by omega)
           rw [e2] at this; omega
         · have hq : lsN r k t (apL r cc d2 a) = q := by unfold lsN; rw [g1]; rfl
           rw [hq]
           have : ∃ j, j < r ∧ t < j ∧ el (apL r cc d2 a) j k ≠ 0 := by
             apply Classical.byContradiction
             intro hno
             exact hdn (dnB_ok.2 fun j hj htj => Classical.byContradiction fun hne => hno ⟨j, hj, htj, hne⟩)
           obtain ⟨j, hj, htj, hjz⟩ := this
           have g6 := g5 j (by omega) (by omega) hjz
           obtain ⟨z1, z2⟩ := hz j hj (by omega)
           omega) r 0 d' (by omega) hd' rfl fun j hj => by omega
   have neg : ∀ d', RI r cc N a ⟨d', t, k⟩ → lsF (apL r cc d' a) k t (r - t) = (t:Int) → el (apL r cc d' a) t k ≠ 0 → (el (apL r cc d' a) t k).natAbs ≤ f →
       Rest (r := r) (cc := cc) (N := N) (a := a) d' t k (ngK r cc k t (adK r cc k t (fun m => if dnB k t r m then K1 m else colK r cc k t K0 K1 f m) r 0) (apL r cc d' a)) := fun d' hd' hls hnz hfp => by
     unfold ngK
     split
     · rename_i hlt
       have hn2 := hd'.next hm km ht hk
       rw [enx] at hn2
       simp only [nx1, hls, if_neg (show ¬ (t:Int) < 0 by omega), if_neg (show ¬ (t:Int) ≠ (t:Int) by simp), if_pos hlt, Option.toList_some] at hn2
       have e : el (apL r cc (d' ++ [negO t]) a) t k = - el (apL r cc d' a) t k := by rw [apL_snoc, el_apO ht hk]; simp [opF]
       rw [← apL_snoc]
       exact Rest.cons (tail _ hn2.1 (by rw [e]; omega) (by rw [e, Int.natAbs_neg]; exact hfp)) hn2.2
     · exact tail d' hd' (by omega) hfp
   unfold swK
   rcases lsF_ok (m := apL r cc d a) (c := k) (top := t) (r - t) with ⟨g1, g2⟩ | ⟨q, g1, g2, g3, g4, g5⟩
   · exact absurd (by rw [g1]; decide) hnn
   have hq : lsN r k t (apL r cc d a) = q := by unfold lsN; rw [g1]; rfl
   have hfq : (el (apL r cc d a) q k).natAbs ≤ f := by unfold fuC at hf; rw [hq] at hf; omega
   rw [hq]
   split
   · rename_i hne
     have hqt : q ≠ t := fun e => hne (by rw [g1, e])
     rw [enx] at hn
     simp only [nx1, if_neg hnn, if_pos hne, Option.toList_some] at hn
     rw [show (lsF (apL r cc d a) k t (r - t)).toNat = q from hq] at hn
     have e : ∀ x, x < r → el (apL r cc (d ++ [swapO q t]) a) x k = if x = q then el (apL r cc d a) t k else if x = t then el (apL r cc d a) q k else el (apL r cc d a) x k := fun x hx => by rw [apL_snoc]; exact el_swap hx hk
     have et : el (apL r cc (d ++ [swapO q t]) a) t k = el (apL r cc d a) q k := by rw [e t ht, if_neg (Ne.symm hqt), if_pos rfl]
     have hls : lsF (apL r cc (d ++ [swapO q t]) a) k t (r - t) = (t:Int) := by
       rw [show r - t = (r - t - 1) + 1 by omega]
       refine ls_top (by rw [et]; exact g4) _ fun i h1 h2 h3 => ?_
       rw [et]
       rw [e i (by omega)] at h3 ⊢
       by_cases hi : i = q
       · rw [if_pos hi] at h3 ⊢; exact g5 t (Nat.le_refl _) (by omega) h3
       · rw [if_neg hi] at h3 ⊢
         by_cases hi2 : i = t
         · rw [if_pos hi2]; exact Nat.le_refl _
         · rw [if_neg hi2] at h3 ⊢; exact g5 i h1 (by omega) h3
     rw [← apL_snoc]
     exact Rest.cons (neg _ hn.1 hls (by rw [et]; exact g4) (by rw [et]; exact hfq)) hn.2
   · rename_i he
     have hqt : q = t := by
       have : lsF (apL r cc d a) k t (r - t) = (t:Int) := Classical.byContradiction he
       omega
     subst hqt
     exact neg d h g1 g4 hfq
theorem stpK_ok : ∀ (n c t:Nat) (d : List Opz), c + n = cc → RI r cc N a ⟨d, t, c⟩ → Rest (r := r) (cc := cc) (N := N) (a := a) d t c (stpK r cc n c t (apL r cc d a))
 | 0, c, t, d, hc, h => ⟨[], t, c, rfl, by simpa using h, .inr (by omega), Nat.zero_le _⟩
 | n + 1, c, t, d, hc, h => by
   simp only [stpK]
   split
   · rename_i ht
     exact colK_ok hm km ht (by omega) (fun d' h' => stpK_ok n (c + 1) t d' (by omega) h') (fun d' h' => stpK_ok n (c + 1) (t + 1) d' (by omega) h') _ d h (Nat.le_refl _)
   · exact ⟨[], t, c, rfl, by simpa using h, .inl (by have := h.pi.tr; simp only at this; omega), Nat.zero_le _⟩
theorem redO_ok : (∀ o ∈ redO r cc a, vO r o = true) ∧ gL (redO r cc a) ≤ qB r N cc ∧ (redO r cc a).length ≤ cc + RstF r N r ∧
   ∃ t k, HI r t k (apL r cc (redO r cc a) a) ∧ t ≤ r ∧ k ≤ cc ∧ (t = r ∨ k = cc) := by
 have h0 : RI r cc N a ⟨[], 0, 0⟩ := ⟨PInv.start hm km, HI.zero, PTI.start⟩
 obtain ⟨e, t', k', he, h1, h2, h3⟩ := (stpK_ok hm km cc 0 0 [] (by omega) h0).fin
 have he : redO r cc a = e := he
 rw [he]
 rw [List.nil_append] at h1
 have h4 := pot_le hm km (s := ⟨[], 0, 0⟩) PTI.start
 simp only [Nat.sub_zero] at h4
 exact ⟨h1.pi.va, h1.pi.ge, by omega, t', k', h1.hi, h1.pi.tr, h1.pi.kc, h2⟩
end
theorem redO_len {r cc : Nat} {a : List (List Int)} (hm : Mx r cc a) (km : BdM 9 a) (hr : r ≤ 4) (hc : cc ≤ 4) : (redO r cc a).length ≤ 2000 := by
 have h1 := (redO_ok hm km).2.2.1
 have h : ∀ r, r ≤ 4 → 4 + RstF r 9 r ≤ 2000 := by decide +kernel
 have := h r hr
 omega
end Go.AM
/- oplog.Reduce: the iterator's functions, column and steps. -/
set_option maxRecDepth 100000
set_option linter.unusedVariables false
namespace Go.AM
open Go.Proofs.Try
abbrev effS : List S := [sD (D.raw (.nilFunc)), sD (D.fn (.func 138) ([] : List D)), sD (D.fn (.func 139) ([] : List D)), sD (D.fn (.func 140) ([] : List D))]
abbrev rH (r cc:Nat) (m : List (List Int)) (L : DL) : Heap :=
 [some (.box [sD (dI r), sD (dI cc), .ref 5]), some (.box effS), some (.box [.ref 6]), some (.box [sD (dI cc)]), some (.box [.ref 5]), some (.mat 2 (om m)), some (.arr 5 L)]
structure RX (r cc K L:Nat) (a : List (List Int)) (FL : List Opz) : Prop where
 hm : Mx r cc a
 bd : ∀ d e, d ++ e = FL → BdM K (apL r cc d a)
 vo : ∀ o ∈ FL, vO r o = true
 big : K * 4294967296 < 4294967296 ^ L
 hL : L ≤ 1073741824
 hr : r ≤ 4294967296
 hc : cc ≤ 4294967296
def gR (r cc:Nat) (a : List (List Int)) (FL : List Opz) (k:Nat) : Heap := rH r cc (apL r cc (FL.take k) a) (oL (FL.take k))
def xR (FL : List Opz) (k:Nat) : V := oE (FL[k]?.getD ⟨0, 0, 0, 0⟩)
abbrev yv (l:Nat) : V := V.e (.sc (.dat (.fn (.yield l) [])))
theorem gR_at {r cc : Nat} {a : List (List Int)} {FL d e : List Opz} (h : d ++ e = FL) : gR r cc a FL d.length = rH r cc (apL r cc d a) (oL d) := by
 subst h; unfold gR; rw [List.take_left]
theorem xR_at {FL d e : List Opz} {o : Opz} (h : d ++ o :: e = FL) : xR FL d.length = oE o ∧ d.length < FL.length := by
 subst h; unfold xR; constructor
 · simp
 · simp
section
variable {r cc K L : Nat} {a : List (List Int)} {FL : List Opz} (X : RX r cc K L a FL)
include X
theorem RX.mx (d : List Opz) : Mx r cc (apL r cc d a) := apL_mx _ X.hm
theorem RX.lt {d e : List Opz} (h : d ++ e = FL) {i j : Nat} (hi : i < r) (hj : j < cc) : (el (apL r cc d a) i j).natAbs * 4294967296 < 4294967296 ^ L :=
 Nat.lt_of_le_of_lt (Nat.mul_le_mul_right _ (el_bd (X.mx d) (X.bd d e h) hi hj)) X.big
theorem RX.sz {d e : List Opz} (h : d ++ e = FL) {i j : Nat} (hi : i < r) (hj : j < cc) : Sz (el (apL r cc d a) i j) :=
 Sz.of_lt L X.hL (Nat.lt_of_le_of_lt (Nat.le_mul_of_pos_right _ (by decide)) (X.lt h hi hj))
end
abbrev r7 : List Nat := [0, 1, 2, 3, 4, 5, 6]
theorem sgn_dec {z : Int} : decide ((if z = 0 then (0:Int) else if z < 0 then -1 else 1) < 0) = decide (z < 0) := by
 by_cases h : z = 0
 · simp [h]
 · by_cases h2 : z < 0
   · simp [h, h2]
   · simp [h, h2]
theorem GoY.reg {P : Program} {mi l : Nat} {G:Nat → Heap} {N : Nat} {x:Nat → V} {J:Nat → (Nat → Prop) → Mem → World → Prop} (Y : YC P mi l G N x J) {nt : Nat} {K : KT} {k : Nat} {t : List (Nat × V)} {H : Heap} (hG : G k = H) {T : Tab} (hT : TOK P T)
   (sins : List (Nat × In)) (live ids : List Nat) (t' : List (Nat × V)) (obs : List Prop) {id : Nat} {all : List Oper} (hx : xregV P T all 0 (mkIn 0 all sins) live ids ⟨t, H, nt⟩ = some (⟨t', H, nt⟩, obs)) (hd : noDefer all = true) (hn : nodupB ids = true) (h0 : ids.take (mi + 1) = List.range (mi + 1)) (ho : AllP obs) (hK : K .normal k t') :
   GoY P mi G J nt (.region id all.toArray false) K k t := GoY.does Y hG (Does.regV hT live ids hd hn h0 hx ho) hK
theorem GoY.seqP {P : Program} {mi : Nat} {G:Nat → Heap} {J:Nat → (Nat → Prop) → Mem → World → Prop} {nt : Nat} {K : KT} {k : Nat} {t : List (Nat × V)} {c c' : Code} (Q:Nat → List (Nat × V) → Prop)
   (h1 : GoY P mi G J nt c (KT.thn Q K) k t) (h2 : ∀ k t, Q k t → GoY P mi G J nt c' K k t) : GoY P mi G J nt (.seq c c') K k t :=
 GoY.seq fun n I M a W hJ s => wpIn_mono (h1 n I M a W hJ s) fun e a1 W1 ⟨k1, t1, I1, M1, hK, r⟩ => ⟨k1, t1, I1, M1, by
   cases e with
   | normal => exact h2 k1 t1 hK
   | _ => exact hK, r⟩
abbrev cT (top c l:Nat) : List (Nat × V) := [(0, vR 5), (1, vi top), (2, vi c), (3, yv l)]
theorem cT_low {top c l : Nat} : ∀ q ∈ cT top c l, q.2.lowm 5 = true ∧ q.1 ≤ 3 := by
 intro q hq
 simp only [cT, List.mem_cons, List.not_mem_nil, or_false] at hq
 rcases hq with rfl | rfl | rfl | rfl <;> exact ⟨rfl, Nat.le_of_ble_eq_true rfl⟩
theorem GoY.regF {P : Program} {mi l : Nat} {G:Nat → Heap} {N : Nat} {x:Nat → V} {J:Nat → (Nat → Prop) → Mem → World → Prop} (Y : YC P mi l G N x J) {nt : Nat} {K : KT} {k : Nat} {t : List (Nat × V)} {H : Heap} (hG : G k = H) {T : Tab} (hT : TOK P T)
   (cnt:Nat) (sins : List (Nat × In)) (live ids fz ids2 : List Nat) (σ1 σ2:St) (t' : List (Nat × V)) (obs : List Prop) {id : Nat} {all : List Oper} (hx : xregV P T all cnt (mkIn 0 all sins) live ids ⟨t, H, nt⟩ = some (σ1, obs)) (hf : xfreeze fz σ1 = some σ2) (hv : xview live ids2 σ2 = some ⟨t', H, nt⟩)
   (hd : noDefer all = true) (hn : nodupB ids = true) (h0 : ids.take (mi + 1) = List.range (mi + 1)) (hn2 : nodupB ids2 = true) (h02 : ids2.take (mi + 1) = List.range (mi + 1)) (ho : AllP obs) (hK : K .normal k t') :
   GoY P mi G J nt (.region id all.toArray false) K k t := GoY.does Y hG (((Does.regV hT live ids hd hn h0 hx ho).wk (xfreeze_ok hf)).wk (xview_ok hv hn2 h02)) hK
section
variable {r cc K L : Nat} {a : List (List Int)} {FL : List Opz} (X : RX r cc K L a FL) {l : Nat} {J:Nat → (Nat → Prop) → Mem → World → Prop} (Y : YC prog 5 l (gR r cc a FL) FL.length (xR FL) J)
include X Y
omit X Y in
theorem dnB_succ {c top n : Nat} {m : List (List Int)} : dnB c top (n + 1) m = (dnB c top n m && (decide (n ≤ top) || decide (el m n c = 0))) := by
 unfold dnB
 rw [List.range_succ, List.all_append]
 simp
omit X Y in
theorem sgn_eq0 {z : Int} : ((if z = 0 then (0:Int) else if z < 0 then -1 else 1) == 0) = decide (z = 0) := by
 by_cases h : z = 0
 · simp [h]
 · by_cases h2 : z < 0
   · simp [h, h2]
   · simp [h, h2]
theorem column_y {c top : Nat} (hc : c < cc) (ht : top < r) {K0 K1 : List (List Int) → List Opz} {d0 : List Opz} (h0 : d0 ++ colK r cc c top K0 K1 (fuC r c top (apL r cc d0 a)) (apL r cc d0 a) = FL) :
   CalY prog 5 J 150 [vR 5, vi top, vi c, yv l] d0.length (fun v k' => ∃ (b:Bool) (d' : List Opz), v = vb b ∧ k' = d'.length ∧ d' ++ (if b then K1 else K0) (apL r cc d' a) = FL) := by
 have hr := X.hr; have hcc := X.hc
 refine CalY.of Y hT func150 rfl ntmps150 (by show 4 ≤ 78; decide) ?_
 refine GoY.seq (GoY.reg Y (gR_at h0) hT [] [0, 1, 2, 3] r7 (cT top c l) [] (by kernel_rfl) rfl rfl rfl trivial ?_)
 show GoY prog 5 _ J 78 _ _ _ _
 refine GoY.block (GoY.loop (fun f k t => (∀ p ∈ cT top c l, p ∈ t) ∧ ∃ d, k = d.length ∧ d ++ colK r cc c top K0 K1 f (apL r cc d a) = FL ∧ fuC r c top (apL r cc d a) ≤ f) ⟨fun p hp => hp, d0, rfl, h0, Nat.le_refl _⟩ ?_)
 rintro f _ t0 ⟨hs0, d, rfl, hd, hf⟩
 refine GoY.sub ?_ hs0
 clear hs0 t0
 obtain ⟨f, rfl⟩ : ∃ f', f = f' + 1 := ⟨f - 1, by unfold fuC at hf; omega⟩
 have mx := X.mx d
 have hG := gR_at (r := r) (cc := cc) (a := a) hd
 have hls := leastO_ok mx (fun i j hi hj => X.sz hd hi hj) hc (Nat.le_of_lt ht) hr
 simp only [colK] at hd
 obtain ⟨m, em⟩ : ∃ m, apL r cc d a = m := ⟨_, rfl⟩
 rw [em] at mx hG hls hd hf
 obtain ⟨Lo, eLo⟩ : ∃ Lo, oL d = Lo := ⟨_, rfl⟩
 rw [eLo] at hG
 obtain ⟨pz, epz⟩ : ∃ pz, lsF m c top (r - top) = pz := ⟨_, rfl⟩
 rw [epz] at hls hd
 refine GoY.block (GoY.seq (GoY.reg Y hG hT [(3, (Or.callO [5] (vi pz) [some (.mat 2 (om m))], 0, 0))] [0, 1, 2, 3, 9] r7 (cT top c l ++ [(9, vi pz)])
   [FnO prog 159 [vR 0, vi top, vi c] [some (.mat 2 (om m))] (vi pz) [some (.mat 2 (om m))]] (by kernel_rfl) rfl rfl rfl ⟨hls, trivial⟩ ?_))
 refine GoY.seqP (fun k t => k = d.length ∧ (∀ p ∈ cT top c l ++ [(9, vi pz)], p ∈ t) ∧ ¬ pz < 0) ?_ ?_
 · refine GoY.seq (GoY.reg Y hG hT [] [0, 1, 2, 3, 9, 18] r7 (cT top c l ++ [(9, vi pz), (18, vb (decide (pz < 0)))]) [] (by kernel_rfl) rfl rfl rfl trivial ?_)
   refine GoY.cond (b := decide (pz < 0)) (List.mem_append_right _ (List.mem_cons_of_mem _ List.mem_cons_self)) (fun h => ?_) fun h => GoY.skip ?_
   · have hneg : pz < 0 := of_decide_eq_true h
     rw [if_pos hneg] at hd
     refine GoY.seq (GoY.reg Y hG hT [] [8] r7 [(8, vb false)] [] (by kernel_rfl) rfl rfl rfl trivial (GoY.ret ?_))
     exact ⟨.inl rfl, _, rfl, false, d, rfl, rfl, by rw [em]; exact hd⟩
   · refine ⟨rfl, fun p hp => ?_, of_decide_eq_false h⟩
     rcases List.mem_append.1 hp with h1 | h1
     · exact List.mem_append_left _ h1
     · exact List.mem_append_right _ (List.mem_cons.2 (.inl (List.mem_singleton.1 h1)))
 rintro _ t1 ⟨rfl, hs1, hnn⟩
 refine GoY.sub ?_ hs1
 rw [if_neg hnn] at hd
 obtain ⟨q, rfl, hqt, hqr, hqz, hql⟩ : ∃ q : Nat, pz = (q:Int) ∧ top ≤ q ∧ q < r ∧ el m q c ≠ 0 ∧ ∀ i, top ≤ i → i < r → el m i c ≠ 0 → (el m q c).natAbs ≤ (el m i c).natAbs := by
   rcases lsF_ok (m := m) (c := c) (top := top) (r - top) with ⟨g1, g2⟩ | ⟨q, g1, g2, g3, g4, g5⟩
   · rw [epz] at g1; rw [g1] at hnn; exact absurd (by decide) hnn
   · exact ⟨q, by rw [← epz, g1], g2, by omega, g4, fun i h1 h2 h3 => g5 i h1 (by omega) h3⟩
 have hlq : lsN r c top m = q := by unfold lsN; rw [epz]; rfl
 have hfq : (el m q c).natAbs ≤ f := by unfold fuC at hf; rw [hlq] at hf; omega
 obtain ⟨Kf, eKf⟩ : ∃ Kf : List (List Int) → List Opz, (fun m => if dnB c top r m then K1 m else colK r cc c top K0 K1 f m) = Kf := ⟨_, rfl⟩
 rw [eKf] at hd
 refine GoY.seqP (fun k t => ∃ d', k = d'.length ∧ d' ++ ngK r cc c top (adK r cc c top Kf r 0) (apL r cc d' a) = FL ∧ el (apL r cc d' a) top c ≠ 0 ∧ (el (apL r cc d' a) top c).natAbs ≤ f ∧ ∀ p ∈ cT top c l, p ∈ t) ?_ ?_
 · refine GoY.seq (GoY.reg Y hG hT [] [0, 1, 2, 3, 9, 21] r7 (cT top c l ++ [(9, vi q), (21, vb ((q:Int) != (top:Int)))]) [] (by kernel_rfl) rfl rfl rfl trivial ?_)
   refine GoY.cond (b := (q:Int) != (top:Int)) (List.mem_append_right _ (List.mem_cons_of_mem _ List.mem_cons_self)) (fun h => ?_) fun h => GoY.skip ?_
   · have hne : ¬ q = top := by
       intro e; subst e; simp at h
     unfold swK at hd
     rw [epz, if_pos (by omega), hlq] at hd
     obtain ⟨hx1, hx2⟩ := xR_at hd
     refine GoY.yield Y hG (nm := [25]) hT (t' := cT top c l ++ [(22, yv l), (25, oE (swapO q top))]) (ins := [o0, o0, o0, o0]) (live := [0, 1, 2, 3, 22, 25]) (ids := r7) (obs := []) (cn := 4) (f := 22) (s := 25) (d := 26) (tk := cT top c l)
       rfl rfl (by kernel_rfl) trivial rfl rfl rfl rfl rfl rfl (List.mem_append_right _ List.mem_cons_self) (by rw [hx1]; exact List.mem_append_right _ (List.mem_cons_of_mem _ List.mem_cons_self)) hx2 rfl (by decide)
       (fun p hp => ⟨List.mem_append_left _ hp, (cT_low p hp).1, by have := (cT_low p hp).2; omega⟩) ?_
     have e : apL r cc (d ++ [swapO q top]) a = apO r cc (swapO q top) m := by rw [apL_snoc, em]
     have et : el (apO r cc (swapO q top) m) top c = el m q c := by rw [el_swap ht hc, if_neg (Ne.symm hne), if_pos rfl]
     exact ⟨d ++ [swapO q top], by simp, by rw [e]; simpa using hd, by rw [e, et]; exact hqz, by rw [e, et]; exact hfq, fun p hp => List.mem_cons_of_mem _ hp⟩
   · have he : q = top := by
       apply Classical.byContradiction; intro hne
       have : ((q:Int) != (top:Int)) = true := by simp; omega
       rw [this] at h; exact absurd h (by decide)
     subst he
     unfold swK at hd
     rw [epz, if_neg (by simp)] at hd
     exact ⟨d, rfl, by rw [em]; exact hd, by rw [em]; exact hqz, by rw [em]; exact hfq, fun p hp => List.mem_append_left _ hp⟩
 clear hd hf hls hG mx hql hqz hfq hlq hnn epz hqt hqr hs1 em eLo
 rintro _ t2 ⟨d2, rfl, hd, hnz, hfp, hs2⟩
 refine GoY.sub ?_ hs2
 clear hs2 t2 t1 d m Lo q
 have mx := X.mx d2
 have hG := gR_at (r := r) (cc := cc) (a := a) hd
 obtain ⟨m, em⟩ : ∃ m, apL r cc d2 a = m := ⟨_, rfl⟩
 rw [em] at mx hG hd hnz hfp
 obtain ⟨Lo, eLo⟩ : ∃ Lo, oL d2 = Lo := ⟨_, rfl⟩
 rw [eLo] at hG
 have hneg := sign_ok (el m top c)
 refine GoY.seqP (fun k t => ∃ d', k = d'.length ∧ d' ++ adK r cc c top Kf r 0 (apL r cc d' a) = FL ∧ 0 < el (apL r cc d' a) top c ∧ (el (apL r cc d' a) top c).natAbs ≤ f ∧ ∀ p ∈ cT top c l, p ∈ t) ?_ ?_
 · refine GoY.seq (GoY.reg Y hG hT [(6, (Or.cells (cI (el m top c)), 0, 0)), (7, (Or.call (vi (if el m top c = 0 then 0 else if el m top c < 0 then -1 else 1)) [] [], 0, 0))] [0, 1, 2, 3, 35] r7
     (cT top c l ++ [(35, vb (decide ((if el m top c = 0 then (0:Int) else if el m top c < 0 then -1 else 1) < 0)))])
     [0 ≤ (top:Int) ∧ (top:Int) < ((om m).length:Int), ∃ l, (om m)[(top:Int).toNat]? = some l ∧ 0 ≤ (c:Int) ∧ (c:Int) < (l.length:Int), at2 (om m) (top:Int).toNat (c:Int).toNat = some (cI (el m top c)),
      FnD prog 91 [eI (el m top c)] (vi (if el m top c = 0 then 0 else if el m top c < 0 then -1 else 1)) []] (by kernel_rfl) rfl rfl rfl ⟨⟨by omega, by rw [omx_len mx]; omega⟩, omx_in mx ht hc, at2_elN mx ht hc, hneg, trivial⟩ ?_)
   rw [sgn_dec]
   refine GoY.cond (b := decide (el m top c < 0)) (List.mem_append_right _ List.mem_cons_self) (fun h => ?_) fun h => GoY.skip ?_
   · have hlt : el m top c < 0 := of_decide_eq_true h
     unfold ngK at hd
     rw [if_pos hlt] at hd
     obtain ⟨hx1, hx2⟩ := xR_at hd
     refine GoY.yield Y hG (nm := [38]) hT (t' := cT top c l ++ [(36, yv l), (38, oE (negO top))]) (ins := [o0, o0, o0]) (live := [0, 1, 2, 3, 36, 38]) (ids := r7) (obs := []) (cn := 3) (f := 36) (s := 38) (d := 39) (tk := cT top c l)
       rfl rfl (by kernel_rfl) trivial rfl rfl rfl rfl rfl rfl (List.mem_append_right _ List.mem_cons_self) (by rw [hx1]; exact List.mem_append_right _ (List.mem_cons_of_mem _ List.mem_cons_self)) hx2 rfl (by decide)
       (fun p hp => ⟨List.mem_append_left _ hp, (cT_low p hp).1, by have := (cT_low p hp).2; omega⟩) ?_
     have e : apL r cc (d2 ++ [negO top]) a = apO r cc (negO top) m := by rw [apL_snoc, em]
     have et : el (apO r cc (negO top) m) top c = - el m top c := by rw [el_apO ht hc]; simp [opF]
     exact ⟨d2 ++ [negO top], by simp, by rw [e]; simpa using hd, by rw [e, et]; omega, by rw [e, et, Int.natAbs_neg]; exact hfp, fun p hp => List.mem_cons_of_mem _ hp⟩
   · have hge : ¬ el m top c < 0 := of_decide_eq_false h
     unfold ngK at hd
     rw [if_neg hge] at hd
     exact ⟨d2, rfl, by rw [em]; exact hd, by rw [em]; omega, by rw [em]; exact hfp, fun p hp => List.mem_append_left _ hp⟩
 clear hd hnz hfp hG mx em eLo hneg
 rintro _ t2 ⟨d3, rfl, hd, hpp, hfp, hs2⟩
 refine GoY.sub ?_ hs2
 clear hs2 t2 d2 m Lo
 have mx := X.mx d3
 have hG := gR_at (r := r) (cc := cc) (a := a) hd
 obtain ⟨m, em⟩ : ∃ m, apL r cc d3 a = m := ⟨_, rfl⟩
 rw [em] at mx hG hd hpp hfp
 obtain ⟨Lo, eLo⟩ : ∃ Lo, oL d3 = Lo := ⟨_, rfl⟩
 rw [eLo] at hG
 refine GoY.seq (GoY.reg Y hG hT [] [0, 1, 2, 3, 10] r7 (cT top c l ++ [(10, vb true)]) [] (by kernel_rfl) rfl rfl rfl trivial ?_)
 refine GoY.seqP (fun k t => ∃ d', k = d'.length ∧ d' ++ Kf (apL r cc d' a) = FL ∧ (el (apL r cc d' a) top c).natAbs ≤ f ∧ 0 < el (apL r cc d' a) top c ∧ (∀ j, j < r → j ≠ top → 0 ≤ el (apL r cc d' a) j c ∧ el (apL r cc d' a) j c < el (apL r cc d' a) top c) ∧
   ∀ p ∈ cT top c l ++ [(10, vb (dnB c top r (apL r cc d' a)))], p ∈ t) ?_ ?_
 · refine GoY.seq (GoY.reg Y hG hT [] [0, 1, 2, 3, 10, 41, 42] r7 (cT top c l ++ [(10, vb true), (41, vi ((om m).length:Int)), (42, vi 0)]) [] (by kernel_rfl) rfl rfl rfl trivial ?_)
   rw [omx_len mx]
   refine GoY.block (GoY.loop (fun n k t => ∃ i d', n = r - i ∧ i ≤ r ∧ k = d'.length ∧ d' ++ adK r cc c top Kf (r - i) i (apL r cc d' a) = FL ∧ (el (apL r cc d' a) top c).natAbs ≤ f ∧ 0 < el (apL r cc d' a) top c ∧
     (∀ j, j < i → j ≠ top → 0 ≤ el (apL r cc d' a) j c ∧ el (apL r cc d' a) j c < el (apL r cc d' a) top c) ∧ ∀ p ∈ cT top c l ++ [(10, vb (dnB c top i (apL r cc d' a))), (41, vi r), (42, vi i)], p ∈ t)
     ⟨0, d3, rfl, Nat.zero_le _, rfl, by rw [em]; exact hd, by rw [em]; exact hfp, by rw [em]; exact hpp, fun j hj => by omega, fun p hp => hp⟩ ?_)
   clear hd hpp hfp hG mx em eLo
   clear Lo m d3
   rintro _ _ t2 ⟨i, d, rfl, hir, rfl, hd, hfp, hpp, hz, hs2⟩
   refine GoY.sub ?_ hs2
   clear hs2 t2
   have mx := X.mx d
   have hG := gR_at (r := r) (cc := cc) (a := a) hd
   have hlt1 : ∀ i j, i < r → j < cc → (el (apL r cc d a) i j).natAbs * 4294967296 < 4294967296 ^ L := fun i j hi hj => X.lt hd hi hj
   obtain ⟨m, em⟩ : ∃ m, apL r cc d a = m := ⟨_, rfl⟩
   rw [em] at mx hG hd hpp hfp hz hlt1
   rw [em]
   obtain ⟨Lo, eLo⟩ : ∃ Lo, oL d = Lo := ⟨_, rfl⟩
   rw [eLo] at hG
   obtain ⟨dn, edn⟩ : ∃ dn, dnB c top i m = dn := ⟨_, rfl⟩
   rw [edn]
   refine GoY.seq (GoY.reg Y hG hT [] [0, 1, 2, 3, 10, 41, 42, 43] r7 (cT top c l ++ [(10, vb dn), (41, vi r), (42, vi i), (43, vb (decide ((i:Int) < (r:Int))))]) [] (by kernel_rfl) rfl rfl rfl trivial ?_)
   refine GoY.seqP (fun k t => k = d.length ∧ i < r ∧ ∀ p ∈ cT top c l ++ [(10, vb dn), (41, vi r), (42, vi i)], p ∈ t) ?_ ?_
   · refine GoY.cond (b := decide ((i:Int) < (r:Int))) (List.mem_append_right _ (List.mem_cons_of_mem _ (List.mem_cons_of_mem _ (List.mem_cons_of_mem _ List.mem_cons_self)))) (fun h => GoY.skip ?_) fun h => GoY.exit ?_
     · refine ⟨rfl, by have := of_decide_eq_true h; omega, fun p hp => ?_⟩
       simp only [List.mem_append, List.mem_cons, List.not_mem_nil, or_false] at hp ⊢
       rcases hp with h | h | h | h <;> simp only [h, true_or, or_true]
     · have hi : i = r := by have := of_decide_eq_false h; omega
       subst hi
       rw [Nat.sub_self] at hd
       refine ⟨d, rfl, by rw [em]; exact hd, by rw [em]; exact hfp, by rw [em]; exact hpp, by rw [em]; exact hz, fun p hp => ?_⟩
       rw [em, edn] at hp
       simp only [List.mem_append, List.mem_cons, List.not_mem_nil, or_false] at hp ⊢
       rcases hp with h | h <;> simp only [h, true_or, or_true]
   rintro _ t2 ⟨rfl, hi, hs2⟩
   refine GoY.sub ?_ hs2
   clear hs2 t2
   rw [show r - i = (r - (i + 1)) + 1 by omega] at hd
   simp only [adK] at hd
   refine GoY.seqP (fun k t => ∃ d', k = d'.length ∧ d' ++ adK r cc c top Kf (r - (i + 1)) (i + 1) (apL r cc d' a) = FL ∧ (el (apL r cc d' a) top c).natAbs ≤ f ∧ 0 < el (apL r cc d' a) top c ∧
     (∀ j, j < i + 1 → j ≠ top → 0 ≤ el (apL r cc d' a) j c ∧ el (apL r cc d' a) j c < el (apL r cc d' a) top c) ∧ ∀ p ∈ cT top c l ++ [(10, vb (dnB c top (i + 1) (apL r cc d' a))), (41, vi r), (42, vi i)], p ∈ t) ?_ ?_
   · refine GoY.block (GoY.seq (GoY.reg Y hG hT [] [0, 1, 2, 3, 10, 11, 41, 42] r7 (cT top c l ++ [(10, vb dn), (11, vi i), (41, vi r), (42, vi i)]) [] (by kernel_rfl) rfl rfl rfl trivial ?_))
     refine GoY.seqP (fun k t => k = d.length ∧ i ≠ top ∧ ∀ p ∈ cT top c l ++ [(10, vb dn), (11, vi i), (41, vi r), (42, vi i)], p ∈ t) ?_ ?_
     · refine GoY.seq (GoY.reg Y hG hT [] [0, 1, 2, 3, 10, 11, 41, 42, 47] r7 (cT top c l ++ [(10, vb dn), (11, vi i), (41, vi r), (42, vi i), (47, vb ((i:Int) == (top:Int)))]) [] (by kernel_rfl) rfl rfl rfl trivial ?_)
       refine GoY.cond (b := (i:Int) == (top:Int)) (List.mem_append_right _ (List.mem_cons_of_mem _ (List.mem_cons_of_mem _ (List.mem_cons_of_mem _ (List.mem_cons_of_mem _ List.mem_cons_self))))) (fun h => GoY.exit ?_) fun h => GoY.skip ?_
       · have he : i = top := by have : (i : Int) = (top : Int) := by simpa using h
                                 omega
         rw [if_pos (.inl he)] at hd
         refine ⟨d, rfl, by rw [em]; exact hd, by rw [em]; exact hfp, by rw [em]; exact hpp, by rw [em]; exact fun j hj hne => hz j (by omega) hne, fun p hp => ?_⟩
         rw [em, dnB_succ, edn, decide_eq_true (show i ≤ top by omega), Bool.true_or, Bool.and_true] at hp
         simp only [List.mem_append, List.mem_cons, List.not_mem_nil, or_false] at hp ⊢
         rcases hp with h | h | h | h <;> simp only [h, true_or, or_true]
       · refine ⟨rfl, fun e => by subst e; simp at h, fun p hp => ?_⟩
         simp only [List.mem_append, List.mem_cons, List.not_mem_nil, or_false] at hp ⊢
         rcases hp with h | h | h | h | h <;> simp only [h, true_or, or_true]
     rintro _ t2 ⟨rfl, hne, hs2⟩
     refine GoY.sub ?_ hs2
     clear hs2 t2
     obtain ⟨o, eo⟩ : ∃ o, addO i top (-(el m i c / el m top c)) = o := ⟨_, rfl⟩
     have hby := byO_ok mx hi ht hc (by omega) hr (hlt1 i c hi hc) (hlt1 top c ht hc) X.hL
     rw [eo] at hby
     have hemp : emptyO o = decide (el m i c / el m top c = 0) := by
       rw [← eo]
       by_cases hq : el m i c / el m top c = 0
       · simp [emptyO, hq]
       · simp [emptyO, hq]
     refine GoY.seqP (fun k t => ∃ d', k = d'.length ∧ d' ++ adK r cc c top Kf (r - (i + 1)) (i + 1) (apL r cc d' a) = FL ∧ (el (apL r cc d' a) top c).natAbs ≤ f ∧ 0 < el (apL r cc d' a) top c ∧
       (∀ j, j < i + 1 → j ≠ top → 0 ≤ el (apL r cc d' a) j c ∧ el (apL r cc d' a) j c < el (apL r cc d' a) top c) ∧ dnB c top i (apL r cc d' a) = dn ∧ ∀ p ∈ cT top c l ++ [(10, vb dn), (11, vi i), (41, vi r), (42, vi i)], p ∈ t) ?_ ?_
     · refine GoY.seq (GoY.regF Y hG hT 1 [(4, (Or.callO [5] (oE o) [some (.mat 2 (om m))], 0, 0)), (5, (Or.none, 7, 1))] [0, 1, 2, 3, 10, 11, 12, 41, 42] [0, 1, 2, 3, 4, 5, 6, 7] [7] r7
         ⟨cT top c l ++ [(10, vb dn), (11, vi i), (12, vP 7 0), (41, vi r), (42, vi i)], rH r cc m Lo ++ [some (.box [sD (dI o.k), sD (dI o.i), sD (dI o.j), sD (dB (decide (o.z < 0))), sD (dL (lim (digs o.z.natAbs)))])], 78⟩
         ⟨cT top c l ++ [(10, vb dn), (11, vi i), (12, vD (.box [dI o.k, dI o.i, dI o.j, dB (decide (o.z < 0)), dL (lim (digs o.z.natAbs))])), (41, vi r), (42, vi i)], rH r cc m Lo ++ [none], 78⟩
         (cT top c l ++ [(10, vb dn), (11, vi i), (12, vD (.box [dI o.k, dI o.i, dI o.j, dB (decide (o.z < 0)), dL (lim (digs o.z.natAbs))])), (41, vi r), (42, vi i)])
         [FnO prog 160 [vR 0, vi i, vi top, vi c] [some (.mat 2 (om m))] (oE o) [some (.mat 2 (om m))]] (by kernel_rfl) (by kernel_rfl) (by kernel_rfl) rfl rfl rfl rfl rfl ⟨hby, trivial⟩ ?_)
       refine GoY.seq (GoY.reg Y hG hT [(1, (Or.call (vb (emptyO o)) [] [], 0, 0))] [0, 1, 2, 3, 10, 11, 12, 41, 42, 55] r7
         (cT top c l ++ [(10, vb dn), (11, vi i), (12, vD (.box [dI o.k, dI o.i, dI o.j, dB (decide (o.z < 0)), dL (lim (digs o.z.natAbs))])), (41, vi r), (42, vi i), (55, vb (!emptyO o))])
         [FnD prog 101 [oE o] (vb (emptyO o)) []] (by kernel_rfl) rfl rfl rfl ⟨empty_ok o, trivial⟩ ?_)
       refine GoY.cond (b := !emptyO o) (List.mem_append_right _ (List.mem_cons_of_mem _ (List.mem_cons_of_mem _ (List.mem_cons_of_mem _ (List.mem_cons_of_mem _ (List.mem_cons_of_mem _ List.mem_cons_self)))))) (fun h => ?_) fun h => GoY.skip ?_
       · have hq : ¬ el m i c / el m top c = 0 := by
           rw [hemp] at h; simpa using h
         rw [if_neg (by simp only [not_or]; exact ⟨hne, hq⟩), eo] at hd
         obtain ⟨hx1, hx2⟩ := xR_at hd
         refine GoY.yield Y hG (nm := []) hT (t' := cT top c l ++ [(10, vb dn), (11, vi i), (41, vi r), (42, vi i), (56, yv l), (57, oE o)]) (ins := [o0, o0]) (live := [0, 1, 2, 3, 10, 11, 41, 42, 56, 57]) (ids := r7) (obs := []) (cn := 2) (f := 56) (s := 57) (d := 58)
           (tk := cT top c l ++ [(10, vb dn), (11, vi i), (41, vi r), (42, vi i)])
           rfl rfl (by kernel_rfl) trivial rfl rfl rfl rfl rfl rfl (List.mem_append_right _ (List.mem_cons_of_mem _ (List.mem_cons_of_mem _ (List.mem_cons_of_mem _ (List.mem_cons_of_mem _ List.mem_cons_self)))))
           (by rw [hx1]; exact List.mem_append_right _ (List.mem_cons_of_mem _ (List.mem_cons_of_mem _ (List.mem_cons_of_mem _ (List.mem_cons_of_mem _ (List.mem_cons_of_mem _ List.mem_cons_self)))))) hx2 rfl (by decide)
           (fun p hp => ?_) ?_
         · rcases List.mem_append.1 hp with h1 | h1
           · exact ⟨List.mem_append_left _ h1, (cT_low p h1).1, by have := (cT_low p h1).2; omega⟩
           · refine ⟨List.mem_append_right _ ?_, ?_⟩
             · simp only [List.mem_cons, List.not_mem_nil, or_false] at h1 ⊢
               rcases h1 with h1 | h1 | h1 | h1 <;> simp only [h1, true_or, or_true]
             · simp only [List.mem_cons, List.not_mem_nil, or_false] at h1
               rcases h1 with rfl | rfl | rfl | rfl <;> exact ⟨rfl, by simp⟩
         · have e : apL r cc (d ++ [o]) a = apO r cc o m := by rw [apL_snoc, em]
           have e1 : ∀ x, x < r → el (apO r cc o m) x c = if x = i then el m x c + -(el m i c / el m top c) * el m top c else el m x c := fun x hx => by rw [← eo]; exact el_add hx hc
           have ei : el (apO r cc o m) i c = el m i c % el m top c := by rw [e1 i hi, if_pos rfl]; exact mod_eq _ _
           have et : el (apO r cc o m) top c = el m top c := by rw [e1 top ht, if_neg (Ne.symm hne)]
           have eo2 : ∀ x, x < r → x ≠ i → el (apO r cc o m) x c = el m x c := fun x hx h => by rw [e1 x hx, if_neg h]
           refine ⟨d ++ [o], by simp, by rw [e]; simpa using hd, by rw [e, et]; exact hfp, by rw [e, et]; exact hpp, fun j hj hjt => ?_, ?_, fun p hp => List.mem_cons_of_mem _ hp⟩
           · rw [e, et]
             by_cases hji : j = i
             · rw [hji, ei]; exact ⟨Int.emod_nonneg _ (by omega), Int.emod_lt_of_pos _ hpp⟩
             · rw [eo2 j (by omega) hji]; exact hz j (by omega) hjt
           · rw [e, ← edn]
             unfold dnB
             rw [Bool.eq_iff_iff, List.all_eq_true, List.all_eq_true]
             exact ⟨fun hh j hj => by rw [← eo2 j (by have := List.mem_range.1 hj; omega) (by have := List.mem_range.1 hj; omega)]; exact hh j hj, fun hh j hj => by rw [eo2 j (by have := List.mem_range.1 hj; omega) (by have := List.mem_range.1 hj; omega)]; exact hh j hj⟩
       · have hq : el m i c / el m top c = 0 := by
           rw [hemp] at h; simpa using h
         rw [if_pos (.inr hq)] at hd
         refine ⟨d, rfl, by rw [em]; exact hd, by rw [em]; exact hfp, by rw [em]; exact hpp, by
           rw [em]
           intro j hj hjt
           by_cases hji : j = i
           · have h4 := Int.emod_add_mul_ediv (el m i c) (el m top c)
             rw [hq, Int.mul_zero] at h4
             have h5 := Int.emod_nonneg (el m i c) (show el m top c ≠ 0 by omega)
             have h6 := Int.emod_lt_of_pos (el m i c) hpp
             rw [hji]; omega
           · exact hz j (by omega) hjt, by rw [em]; exact edn, fun p hp => ?_⟩
         simp only [List.mem_append, List.mem_cons, List.not_mem_nil, or_false] at hp ⊢
         rcases hp with h | h | h | h | h <;> simp only [h, true_or, or_true]
     clear hd hpp hfp hG mx em eLo edn hz hlt1 hby hemp eo
     clear o Lo m d
     rintro _ t2 ⟨d, rfl, hd, hfp, hpp, hz, hdn, hs2⟩
     refine GoY.sub ?_ hs2
     clear hs2 t2
     have mx := X.mx d
     have hG := gR_at (r := r) (cc := cc) (a := a) hd
     obtain ⟨m, em⟩ : ∃ m, apL r cc d a = m := ⟨_, rfl⟩
     rw [em] at mx hG hd hpp hfp hz hdn
     obtain ⟨Lo, eLo⟩ : ∃ Lo, oL d = Lo := ⟨_, rfl⟩
     rw [eLo] at hG
     have fin : ∀ {b : Bool}, b = dnB c top (i + 1) m → (KT.thn (fun k t => ∃ d', k = d'.length ∧ d' ++ adK r cc c top Kf (r - (i + 1)) (i + 1) (apL r cc d' a) = FL ∧ (el (apL r cc d' a) top c).natAbs ≤ f ∧ 0 < el (apL r cc d' a) top c ∧
       (∀ j, j < i + 1 → j ≠ top → 0 ≤ el (apL r cc d' a) j c ∧ el (apL r cc d' a) j c < el (apL r cc d' a) top c) ∧ ∀ p ∈ cT top c l ++ [(10, vb (dnB c top (i + 1) (apL r cc d' a))), (41, vi r), (42, vi i)], p ∈ t) (fun _ _ _ => True)) .normal d.length (cT top c l ++ [(10, vb b), (41, vi r), (42, vi i)]) := fun {b} hb => by
       subst hb
       exact ⟨d, rfl, by rw [em]; exact hd, by rw [em]; exact hfp, by rw [em]; exact hpp, by rw [em]; exact hz, by rw [em]; exact fun p hp => hp⟩
     cases dn with
     | false => exact GoY.reg Y hG hT [] [0, 1, 2, 3, 10, 41, 42] r7 (cT top c l ++ [(10, vb false), (41, vi r), (42, vi i)]) [] (by kernel_rfl) rfl rfl rfl trivial (fin (by rw [dnB_succ, hdn]; rfl))
     | true =>
       by_cases hit : i < top
       · exact GoY.reg Y hG hT [(5, (Or.bool true, 0, 0))] [0, 1, 2, 3, 10, 41, 42] r7 (cT top c l ++ [(10, vb true), (41, vi r), (42, vi i)]) [decide ((i:Int) < (top:Int)) = true] (by kernel_rfl) rfl rfl rfl ⟨decide_eq_true (by omega), trivial⟩
           (fin (by rw [dnB_succ, hdn, decide_eq_true (show i ≤ top by omega)]; rfl))
       · exact GoY.reg Y hG hT [(5, (Or.bool false, 0, 0)), (12, (Or.cells (cI (el m i c)), 0, 0)), (13, (Or.call (vi (if el m i c = 0 then 0 else if el m i c < 0 then -1 else 1)) [] [], 0, 0))] [0, 1, 2, 3, 10, 41, 42] r7
           (cT top c l ++ [(10, vb ((if el m i c = 0 then (0:Int) else if el m i c < 0 then -1 else 1) == 0)), (41, vi r), (42, vi i)])
           [decide ((i:Int) < (top:Int)) = false, 0 ≤ (i:Int) ∧ (i:Int) < ((om m).length:Int), ∃ l, (om m)[(i:Int).toNat]? = some l ∧ 0 ≤ (c:Int) ∧ (c:Int) < (l.length:Int), at2 (om m) (i:Int).toNat (c:Int).toNat = some (cI (el m i c)),
             FnD prog 91 [eI (el m i c)] (vi (if el m i c = 0 then 0 else if el m i c < 0 then -1 else 1)) []] (by kernel_rfl) rfl rfl rfl
           ⟨decide_eq_false (by omega), ⟨by omega, by rw [omx_len mx]; omega⟩, omx_in mx hi hc, at2_elN mx hi hc, sign_ok (el m i c), trivial⟩
           (fin (by rw [dnB_succ, hdn, sgn_eq0, decide_eq_false (show ¬ i ≤ top by omega)]; rfl))
   clear hd hpp hfp hG mx em eLo edn hz hlt1
   clear Lo m d
   rintro _ t2 ⟨d, rfl, hd, hfp, hpp, hz, hs2⟩
   refine GoY.sub ?_ hs2
   clear hs2 t2
   have hG := gR_at (r := r) (cc := cc) (a := a) hd
   obtain ⟨dn2, edn⟩ : ∃ dn2, dnB c top (i + 1) (apL r cc d a) = dn2 := ⟨_, rfl⟩
   rw [edn]
   refine GoY.reg Y hG hT [] [0, 1, 2, 3, 10, 41, 42] r7 (cT top c l ++ [(10, vb dn2), (41, vi r), (42, vi (IntKind.i64.wrap ((i:Int) + 1)))]) [] (by kernel_rfl) rfl rfl rfl trivial ?_
   refine ⟨r - (i + 1), by omega, i + 1, d, rfl, by omega, rfl, hd, hfp, hpp, hz, fun p hp => ?_⟩
   rw [inc64 (by omega)]
   rw [edn] at hp
   exact hp
 clear hd hpp hfp hG mx em eLo
 clear Lo m d3
 rintro _ t2 ⟨d, rfl, hd, hfp, hpp, hz, hs2⟩
 refine GoY.sub ?_ hs2
 clear hs2 t2
 have hG := gR_at (r := r) (cc := cc) (a := a) hd
 obtain ⟨m, em⟩ : ∃ m, apL r cc d a = m := ⟨_, rfl⟩
 rw [em] at hG hd hpp hfp hz
 rw [em]
 obtain ⟨Lo, eLo⟩ : ∃ Lo, oL d = Lo := ⟨_, rfl⟩
 rw [eLo] at hG
 obtain ⟨dn, edn⟩ : ∃ dn, dnB c top r m = dn := ⟨_, rfl⟩
 rw [edn]
 rw [← eKf] at hd
 simp only at hd
 refine GoY.seq (GoY.reg Y hG hT [] [0, 1, 2, 3, 77] r7 (cT top c l ++ [(77, vb dn)]) [] (by kernel_rfl) rfl rfl rfl trivial ?_)
 refine GoY.cond (b := dn) (List.mem_append_right _ List.mem_cons_self) (fun h => ?_) fun h => GoY.skip ?_
 · subst h
   rw [if_pos edn] at hd
   refine GoY.seq (GoY.reg Y hG hT [] [8] r7 [(8, vb true)] [] (by kernel_rfl) rfl rfl rfl trivial (GoY.ret ?_))
   exact ⟨.inl rfl, _, rfl, true, d, rfl, rfl, by rw [em]; exact hd⟩
 · subst h
   rw [if_neg (by rw [edn]; decide)] at hd
   refine ⟨f, Nat.lt_succ_self _, fun p hp => List.mem_append_left _ hp, d, rfl, by rw [em]; exact hd, ?_⟩
   rw [em]
   unfold fuC
   have : ∃ j, j < r ∧ top < j ∧ el m j c ≠ 0 := by
     apply Classical.byContradiction
     intro hno
     rw [dnB_ok.2 fun j hj htj => Classical.byContradiction fun hne => hno ⟨j, hj, htj, hne⟩] at edn
     exact absurd edn (by decide)
   obtain ⟨j, hj, htj, hjz⟩ := this
   obtain ⟨z1, z2⟩ := hz j hj (by omega)
   rcases lsF_ok (m := m) (c := c) (top := top) (r - top) with ⟨g1, g2⟩ | ⟨q, g1, g2, g3, g4, g5⟩
   · exact absurd (g2 j (by omega) (by omega)) hjz
   · have hq : lsN r c top m = q := by unfold lsN; rw [g1]; rfl
     rw [hq]
     have g6 := g5 j (by omega) (by omega) hjz
     omega
omit X Y in
theorem sT_low {top c l : Nat} : ∀ q ∈ ([(0, yv l), (1, vP 3 0), (2, vP 4 0), (4, vi top), (5, vi c)] : List (Nat × V)), q.2.lowm 5 = true ∧ q.1 ≤ 5 := by
 intro q hq
 simp only [List.mem_cons, List.not_mem_nil, or_false] at hq
 rcases hq with rfl | rfl | rfl | rfl | rfl <;> exact ⟨rfl, Nat.le_of_ble_eq_true rfl⟩
theorem steps_y (hFL : redO r cc a = FL) : CalY prog 5 J 149 [yv l, vP 3 0, vP 4 0] 0 (fun _ k' => k' = FL.length) := by
 have hr := X.hr; have hcc := X.hc
 have h0 : ([] : List Opz) ++ stpK r cc cc 0 0 (apL r cc [] a) = FL := by rw [List.nil_append]; exact hFL
 refine CalY.of Y hT func149 rfl ntmps149 (by show 3 ≤ 24; decide) ?_
 refine GoY.seq (GoY.reg Y (gR_at h0) hT [] [0, 1, 2, 4] r7 [(0, yv l), (1, vP 3 0), (2, vP 4 0), (4, vi 0)] [] (by kernel_rfl) rfl rfl rfl trivial ?_)
 refine GoY.seq (GoY.reg Y (gR_at h0) hT [] [0, 1, 2, 4, 5] r7 [(0, yv l), (1, vP 3 0), (2, vP 4 0), (4, vi 0), (5, vi 0)] [] (by kernel_rfl) rfl rfl rfl trivial ?_)
 show GoY prog 5 _ J 24 _ _ _ _
 refine GoY.block (GoY.loop (fun n k t => ∃ c top d, n = cc - c ∧ c ≤ cc ∧ top ≤ r ∧ k = d.length ∧ d ++ stpK r cc (cc - c) c top (apL r cc d a) = FL ∧ ∀ p ∈ [(0, yv l), (1, vP 3 0), (2, vP 4 0), (4, vi top), (5, vi c)], p ∈ t)
   ⟨0, 0, [], rfl, Nat.zero_le _, Nat.zero_le _, rfl, h0, fun p hp => hp⟩ ?_)
 rintro _ _ t0 ⟨c, top, d, rfl, hc, ht, rfl, hd, hs0⟩
 refine GoY.sub ?_ hs0
 clear hs0 t0
 have mx := X.mx d
 have hG := gR_at (r := r) (cc := cc) (a := a) hd
 obtain ⟨Lo, eLo⟩ : ∃ Lo, oL d = Lo := ⟨_, rfl⟩
 rw [eLo] at hG
 have fin : d = FL → ∃ v, xresults tab ⟨[(0, yv l), (1, vP 3 0), (2, vP 4 0), (4, vi top), (5, vi c), (14, vb false)], gR r cc a FL d.length, 24⟩ f149.results.toList = some v ∧ d.length = FL.length := fun e => ⟨_, rfl, by rw [e]⟩
 refine GoY.seqP (fun k t => k = d.length ∧ c < cc ∧ top < r ∧ ∀ p ∈ [(0, yv l), (1, vP 3 0), (2, vP 4 0), (4, vi top), (5, vi c)], p ∈ t) ?_ ?_
 · by_cases hcl : c < cc
   · refine GoY.seq (GoY.reg Y hG hT [(3, (Or.bool true, 0, 0))] [0, 1, 2, 4, 5, 14] r7 [(0, yv l), (1, vP 3 0), (2, vP 4 0), (4, vi top), (5, vi c), (14, vb (decide ((top:Int) < ((om (apL r cc d a)).length:Int))))]
       [decide ((c:Int) < (cc:Int)) = true] (by kernel_rfl) rfl rfl rfl ⟨decide_eq_true (by omega), trivial⟩ ?_)
     rw [omx_len mx]
     refine GoY.cond (b := decide ((top:Int) < (r:Int))) (List.mem_cons_of_mem _ (List.mem_cons_of_mem _ (List.mem_cons_of_mem _ (List.mem_cons_of_mem _ (List.mem_cons_of_mem _ List.mem_cons_self))))) (fun h => GoY.skip ?_) fun h => GoY.exit ?_
     · refine ⟨rfl, hcl, by have := of_decide_eq_true h; omega, fun p hp => ?_⟩
       simp only [List.mem_cons, List.not_mem_nil, or_false] at hp ⊢
       rcases hp with h | h | h | h | h <;> simp only [h, true_or, or_true]
     · have htr : ¬ top < r := by have := of_decide_eq_false h; omega
       rw [show cc - c = (cc - (c + 1)) + 1 by omega] at hd
       simp only [stpK, if_neg htr, List.append_nil] at hd
       exact ⟨.inr rfl, _, rfl, by rw [hd]⟩
   · refine GoY.seq (GoY.reg Y hG hT [(3, (Or.bool false, 0, 0))] [0, 1, 2, 4, 5, 14] r7 [(0, yv l), (1, vP 3 0), (2, vP 4 0), (4, vi top), (5, vi c), (14, vb false)]
       [decide ((c:Int) < (cc:Int)) = false] (by kernel_rfl) rfl rfl rfl ⟨decide_eq_false (by omega), trivial⟩ ?_)
     refine GoY.cond (b := false) (List.mem_cons_of_mem _ (List.mem_cons_of_mem _ (List.mem_cons_of_mem _ (List.mem_cons_of_mem _ (List.mem_cons_of_mem _ List.mem_cons_self))))) (fun h => absurd h (by decide)) fun h => GoY.exit ?_
     rw [show cc - c = 0 by omega] at hd
     simp only [stpK, List.append_nil] at hd
     exact ⟨.inr rfl, _, rfl, by rw [hd]⟩
 rintro _ t1 ⟨rfl, hcl, htr, hs1⟩
 refine GoY.sub ?_ hs1
 clear hs1 t1 fin
 rw [show cc - c = (cc - (c + 1)) + 1 by omega] at hd
 simp only [stpK, if_pos htr] at hd
 have hcol := column_y X Y hcl htr hd
 refine GoY.seqP (fun k t => ∃ top' d', top' ≤ r ∧ k = d'.length ∧ d' ++ stpK r cc (cc - (c + 1)) (c + 1) top' (apL r cc d' a) = FL ∧ ∀ p ∈ [(0, yv l), (1, vP 3 0), (2, vP 4 0), (4, vi top'), (5, vi c)], p ∈ t) ?_ ?_
 · refine GoY.block (GoY.seq (GoY.call Y hG (nm := []) hT (t' := [(0, yv l), (1, vP 3 0), (2, vP 4 0), (4, vi top), (5, vi c), (17, vR 5), (18, vi top), (19, vi c), (20, yv l)]) (ins := [o0, o0, o0, o0]) (live := [0, 1, 2, 4, 5, 17, 18, 19, 20]) (ids := r7) (obs := []) (cn := 4) (d := 21)
     (slots := [17, 18, 19, 20]) (args := [vR 5, vi top, vi c, yv l]) (tk := [(0, yv l), (1, vP 3 0), (2, vP 4 0), (4, vi top), (5, vi c)]) rfl rfl (by kernel_rfl) trivial rfl rfl rfl rfl rfl rfl (Go.Proofs.enters_of func150 rfl rfl) rfl (fun i s v hs hv => ?_) hcol rfl (by decide) (fun p hp => ?_) ?_))
   · match i, hs, hv with
     | 0, hs, hv => simp only [List.getElem?_cons_zero, Option.some.injEq] at hs hv; subst hs; subst hv; exact List.mem_cons_of_mem _ (List.mem_cons_of_mem _ (List.mem_cons_of_mem _ (List.mem_cons_of_mem _ (List.mem_cons_of_mem _ List.mem_cons_self))))
     | 1, hs, hv => simp only [List.getElem?_cons_succ, List.getElem?_cons_zero, Option.some.injEq] at hs hv; subst hs; subst hv; exact List.mem_cons_of_mem _ (List.mem_cons_of_mem _ (List.mem_cons_of_mem _ (List.mem_cons_of_mem _ (List.mem_cons_of_mem _ (List.mem_cons_of_mem _ List.mem_cons_self)))))
     | 2, hs, hv => simp only [List.getElem?_cons_succ, List.getElem?_cons_zero, Option.some.injEq] at hs hv; subst hs; subst hv; exact List.mem_cons_of_mem _ (List.mem_cons_of_mem _ (List.mem_cons_of_mem _ (List.mem_cons_of_mem _ (List.mem_cons_of_mem _ (List.mem_cons_of_mem _ (List.mem_cons_of_mem _ List.mem_cons_self))))))
     | 3, hs, hv => simp only [List.getElem?_cons_succ, List.getElem?_cons_zero, Option.some.injEq] at hs hv; subst hs; subst hv; exact List.mem_cons_of_mem _ (List.mem_cons_of_mem _ (List.mem_cons_of_mem _ (List.mem_cons_of_mem _ (List.mem_cons_of_mem _ (List.mem_cons_of_mem _ (List.mem_cons_of_mem _ (List.mem_cons_of_mem _ List.mem_cons_self)))))))
     | i + 4, hs, hv => simp at hs
   · refine ⟨?_, (sT_low p hp).1, by have := (sT_low p hp).2; omega⟩
     simp only [List.mem_cons, List.not_mem_nil, or_false] at hp ⊢
     rcases hp with h | h | h | h | h <;> simp only [h, true_or, or_true]
   · rintro _ k' ⟨b, d', rfl, rfl, hd'⟩
     refine GoY.cond (b := b) List.mem_cons_self (fun h => ?_) fun h => GoY.skip ?_
     · subst h
       simp only [if_true] at hd'
       have hG' := gR_at (r := r) (cc := cc) (a := a) hd'
       refine GoY.reg Y hG' hT [] [0, 1, 2, 4, 5] r7 [(0, yv l), (1, vP 3 0), (2, vP 4 0), (4, vi (IntKind.i64.wrap ((top:Int) + 1))), (5, vi c)] [] (by kernel_rfl) rfl rfl rfl trivial ?_
       refine ⟨top + 1, d', by omega, rfl, hd', fun p hp => ?_⟩
       rw [inc64 (by omega)]
       exact hp
     · subst h
       exact ⟨top, d', by omega, rfl, hd', fun p hp => List.mem_cons_of_mem _ hp⟩
 rintro _ t2 ⟨top', d', ht', rfl, hd', hs2⟩
 refine GoY.sub ?_ hs2
 have hG' := gR_at (r := r) (cc := cc) (a := a) hd'
 refine GoY.reg Y hG' hT [] [0, 1, 2, 4, 5] r7 [(0, yv l), (1, vP 3 0), (2, vP 4 0), (4, vi top'), (5, vi (IntKind.i64.wrap ((c:Int) + 1)))] [] (by kernel_rfl) rfl rfl rfl trivial ?_
 refine ⟨cc - (c + 1), by omega, c + 1, top', d', rfl, by omega, ht', rfl, hd', fun p hp => ?_⟩
 rw [inc64 (by omega)]
 exact hp
end
end Go.AM
/- oplog.Reduce (f67), by hand: a range over an iterator that reads the matrix that the loop changes. -/
set_option maxRecDepth 100000
set_option linter.unusedVariables false
namespace Go.AM
open Go.Proofs.Try
def EffQ (r c:Nat) (o:Opz) (m : List (List Int)) : Prop :=
 ∃ q : FuncId, (effS[0 + ((o.k:Int)).toNat * 1]? = some (sD (D.fn (.func q) []))) ∧ FnO prog q [vR 0, oE o] [some (.mat 2 (om m))] (.tup []) [some (.fwd (.ref 1)), some (.mat 2 (om (apO r c o m)))]
abbrev rT : List (Nat × V) := [(3, vP 0 0), (4, vP 1 0), (5, vP 2 0)]
abbrev oB (o:Opz) : Obj := .box [sD (dI o.k), sD (dI o.i), sD (dI o.j), sD (dB (decide (o.z < 0))), sD (dL (lim (digs o.z.natAbs)))]
theorem take_next {FL : List Opz} {k : Nat} (hk : k < FL.length) : FL.take k ++ FL[k] :: FL.drop (k + 1) = FL ∧ (FL.take k).length = k := by
 constructor
 · rw [← List.drop_eq_getElem_cons hk, List.take_append_drop]
 · rw [List.length_take]; omega
theorem Does.drawI {P : Program} (hm : P.follows .mixedOrders = true) {n0 : Nat} {σ σ' : St} {T : Tab} (hT : TOK P T) {id : Nat} {all : List Oper} (cnt:Nat) (sins : List (Nat × In × List Nat)) (live ids : List Nat) (obs : List Prop) (hx : xdrawV P T all cnt (mkD all sins) live ids σ = some (σ', obs)) (hnd : noDefer all = true)
   (hn : nodupB ids = true) (h0 : ids.take n0 = List.range n0) (ho : AllP obs) : Does P n0 (.region id all.toArray true) σ σ' := Does.drawV hm hT hnd hn h0 hx ho
set_option maxHeartbeats 1000000 in
theorem reduce_ok {r c K L : Nat} {a : List (List Int)} {FL : List Opz} (eFL : redO r c a = FL) (X : RX r c K L a FL) (hK : BdM 1329227995784915872903807060280344576 a) (hlen : FL.length * 56 ≤ 140737488355328)
   (hE : ∀ d o e, d ++ o :: e = FL → o.k < 4 ∧ EffQ r c o (apL r c d a)) (hcomp : FnD prog 50 [vs (oL FL)] (vs (oL (comp FL))) []) : FnD prog 67 [eM r c a] (vs (oL (comp FL))) [] := by
 have hr := X.hr; have hc := X.hc
 have hst : StopsY prog 149 [vP 3 0, vP 4 0] 5 (gR r c a FL) FL.length (xR FL) := StopsY.of fun l J Y => steps_y X Y eFL
 refine ⟨⟨f67, func67, rfl, by kernel_rfl⟩, fun I M w us s hr0 => ?_⟩
 refine (callsIn_wide (n := 0)).1 (callsIn_of_wp_marks func67 rfl trivial ?_)
 have s0 := Sim.start (fn := f67) ntmps67 (args := [eM r c a]) (by show 1 ≤ 30; decide) s hr0
 refine wpIn_seq (wpIn_mono (Does.regV hT (n0 := 0) [1] [0] (σ' := ⟨[(1, vP 0 0)], [some (.box [sD (dI r), sD (dI c), sD (dL (rows a))])], 30⟩) (cnt := 1) (ins := [(Or.none, 0, 1), o0]) (obs := []) (by kernel_rfl) rfl rfl (by kernel_rfl) trivial none 0 I M _ w s0) ?_)
 rintro e a1 w1 ⟨rfl, I1, M1, s1, n1⟩
 refine wpIn_seq (wpIn_mono (Does.regV hT (n0 := 0) [1, 3, 4] [0, 2, 3, 1] (σ' := ⟨[(1, vP 0 0), (3, vP 1 0), (4, vP 2 0)], [some (.box [sD (dI r), sD (dI c), sD (dL (rows a))]), some (.box [sD (dI r), sD (dI c), .ref 3]), some (.box effS), some (.mat 2 (om a))], 30⟩) (cnt := 3)
   (ins := [o0, (Or.call (eMo r c) (oM a) [], 1, 1), (Or.call (vA effS) [] [], 0, 0), (Or.none, 2, 1), (Or.none, 3, 1), o0, o0]) (obs := [FnD prog 97 [eM r c a] (eMo r c) (oM a), FnD prog 98 [] (vA effS) []]) (by kernel_rfl) rfl rfl (by kernel_rfl)
   ⟨copied_own X.hm hK hr hc (Nat.le_refl _), effects_ok, trivial⟩ none 0 I1 M1 a1 w1 s1) ?_)
 rintro e a2 w2 ⟨rfl, I2, M2, s2, n2⟩
 refine wpIn_seq (wpIn_mono ((Does.regV hT (n0 := 0) [1, 3, 4, 5] [0, 1, 2, 4, 3] (σ' := ⟨[(1, vP 0 0), (3, vP 1 0), (4, vP 2 0), (5, vP 3 0)], [some (.box [sD (dI r), sD (dI c), sD (dL (rows a))]), some (.box [sD (dI r), sD (dI c), .ref 4]), some (.box effS), some (.box [sD (.raw nilS)]), some (.mat 2 (om a))], 30⟩) (cnt := 1)
   (ins := [(Or.none, 4, 1)]) (obs := []) (by kernel_rfl) rfl rfl (by kernel_rfl) trivial).wk
   (σ2 := ⟨[(1, vP 0 0), (3, vP 1 0), (4, vP 2 0), (5, vP 3 0)], [some (.box [sD (dI r), sD (dI c), sD (dL (rows a))]), some (.box [sD (dI r), sD (dI c), .ref 4]), some (.box effS), some (.box [.ref 5]), some (.mat 2 (om a)), some (.arr 5 [])], 30⟩) (xadopt_ok (sl := []) (bx := [3]) (z := 5) (by kernel_rfl)) none 0 I2 M2 a2 w2 s2) ?_)
 rintro e a3 w3 ⟨rfl, I3, M3, s3, n3⟩
 refine wpIn_seq (wpIn_seq (wpIn_mono (Does.regV hT (n0 := 0) [3, 4, 5, 14] [1, 2, 3, 6, 7, 4, 5] (σ' := ⟨rT ++ [(14, V.e (E.sc (S.clo (.func 149) [3, 4])))], rH r c a [], 30⟩) (cnt := 2)
   (ins := [o0, o0, o0, o0, (Or.callO [4] (V.e (E.sc (S.clo (.func 149) [1, 2]))) [some (.mat 2 (om a)), some (.box [sD (dI c)]), some (.box [S.ref 0])], 6, 2)])
   (obs := [FnO prog 119 [vR 0, vi c] [some (.mat 2 (om a))] (V.e (E.sc (S.clo (.func 149) [1, 2]))) [some (.mat 2 (om a)), some (.box [sD (dI c)]), some (.box [S.ref 0])]]) (by kernel_rfl) rfl rfl (by kernel_rfl) ⟨stepsO_ok, trivial⟩ none 0 I3 M3 a3 w3 s3) ?_))
 rintro e a4 w4 ⟨rfl, I4, M4, s4, n4⟩
 refine wpIn_block ?_
 refine wpIn_rg s4 (kb := 149) (cids := [3, 4]) (mi := 5) (G := gR r c a FL) (x := xR FL) (N := FL.length) rfl (Go.Proofs.enters_of func149 rfl rfl) hst (t := rT) ?_ (by show 15 < 30; decide) rfl
   (fun k => ⟨rT ++ [(6, vP 7 0)], gR r c a FL k ++ [some (oB (FL[k]?.getD ⟨0, 0, 0, 0⟩))], 30⟩) ?_ ?_ ?_
 · intro p hp
   simp only [rT, List.mem_cons, List.not_mem_nil, or_false] at hp
   rcases hp with rfl | rfl | rfl <;> exact ⟨by simp, rfl, by simp⟩
 · -- the round's variable
   intro k hk
   obtain ⟨h1, h2⟩ := take_next hk
   have hG := gR_at (r := r) (cc := c) (a := a) h1
   rw [h2] at hG
   have hx : xR FL k = oE FL[k] := by unfold xR; rw [List.getElem?_eq_getElem hk]; rfl
   rw [hG, hx, List.getElem?_eq_getElem hk, Option.getD_some]
   generalize apL r c (FL.take k) a = m
   generalize oL (FL.take k) = Lo
   generalize FL[k] = o
   exact Does.regV hT [3, 4, 5, 6] [0, 1, 2, 3, 4, 5, 6, 7] (cnt := 1) (ins := [(Or.none, 7, 1), o0]) (obs := []) (by kernel_rfl) rfl rfl (by kernel_rfl) trivial
 · -- the round
   intro k hk
   obtain ⟨h1, h2⟩ := take_next hk
   have hG := gR_at (r := r) (cc := c) (a := a) h1
   rw [h2] at hG
   have h3 : (FL.take k ++ [FL[k]]) ++ FL.drop (k + 1) = FL := by rw [List.append_assoc]; exact h1
   have hG2 := gR_at (r := r) (cc := c) (a := a) h3
   rw [List.length_append, h2] at hG2
   obtain ⟨hk4, q, hq, hQ⟩ := hE _ _ _ h1
   have e2 : oL (FL.take k ++ [FL[k]]) = oL (FL.take k) ++ [[dI FL[k].k, dI FL[k].i, dI FL[k].j, dB (decide (FL[k].z < 0)), dL (lim (digs FL[k].z.natAbs))]] := by
     show (FL.take k ++ [FL[k]]).map oD = (FL.take k).map oD ++ [oD FL[k]]
     rw [List.map_append]; rfl
   rw [show [FL[k]].length = 1 from rfl, apL_snoc, e2] at hG2
   have hl : (oL (FL.take k)).length = k := by simp [oL]; omega
   rw [hG, hG2, List.getElem?_eq_getElem hk, Option.getD_some]
   generalize apL r c (FL.take k) a = m at *
   generalize oL (FL.take k) = Lo at *
   generalize FL[k] = o at *
   generalize apO r c o m = m' at *
   refine ⟨rT, DoesM.block (DoesM.seq (σ1 := ⟨rT ++ [(6, vP 7 0)], rH r c m' Lo ++ [some (oB o)], 30⟩) ?_ ?_)⟩
   · refine DoesM.wkF (mi := 5) (j := 8) (live := [3, 4, 5, 6]) (ids := [0, 1, 2, 3, 4, 8, 6, 7])
       (σ1 := ⟨rT ++ [(6, vP 7 0)], [some (.box [sD (dI r), sD (dI c), .ref 8]), some (.box effS), some (.box [.ref 6]), some (.box [sD (dI c)]), some (.box [.ref 8]), some (.fwd (.ref 8)), some (.arr 5 Lo), some (oB o), some (.mat 2 (om m'))], 30⟩)
       (Does.wk (Does.drawI hmix hT (σ' := ⟨rT ++ [(6, vP 7 0)], [some (.box [sD (dI r), sD (dI c), .ref 5]), some (.box effS), some (.box [.ref 6]), some (.box [sD (dI c)]), some (.box [.ref 5]), some (.fwd (.ref 8)), some (.arr 5 Lo), some (oB o), some (.mat 2 (om m'))], 30⟩)
         1 [(3, (Or.cell (sD (D.fn (.func q) [])), 0, 0), []), (7, (Or.callO [5] (V.tup []) [some (.fwd (.ref 1)), some (.mat 2 (om m'))], 8, 1), [5, 8])] [3, 4, 5, 6] [0, 1, 2, 3, 4, 5, 6, 7, 8]
         [0 ≤ (o.k:Int) ∧ (o.k:Int) < ((4:Nat) : Int), effS[0 + ((o.k:Int)).toNat * 1]? = some (sD (D.fn (.func q) [])), FnO prog q [vR 0, oE o] [some (.mat 2 (om m))] (.tup []) [some (.fwd (.ref 1)), some (.mat 2 (om m'))]]
         (by kernel_rfl) rfl rfl rfl ⟨⟨by omega, by omega⟩, hq, hQ, trivial⟩) (xfwd_ok (sl := []) (bx := [0, 4]) (by kernel_rfl))) rfl (by kernel_rfl) rfl rfl rfl
   · exact Does.m (Does.regV hT [3, 4, 5] [0, 1, 2, 3, 4, 5, 9] (cnt := 2) (ins := [o0, o0, (Or.none, 8, 1), (Or.none, 9, 1), o0]) (obs := [(Lo.length + ([[dI o.k, dI o.i, dI o.j, dB (decide (o.z < 0)), dL (lim (digs o.z.natAbs))]] : DL).length) * 56 ≤ 140737488355328])
       (by kernel_rfl) rfl rfl (by kernel_rfl) ⟨by rw [hl]; show (k + 1) * 56 ≤ _; omega, trivial⟩)
 · -- behind the loop
   intro D W I5 M5 sW hD hiD hfD hsz nW vW
   have hGN := gR_at (r := r) (cc := c) (a := a) (d := FL) (e := []) (List.append_nil _)
   rw [hGN] at sW nW hfD
   generalize apL r c FL a = m at *
   obtain ⟨Lo, eLo⟩ : ∃ Lo, oL FL = Lo := ⟨_, rfl⟩
   rw [eLo] at sW nW hfD hcomp
   have hDlt : D < W.heap.size := (Array.getElem?_eq_some_iff.1 hD).1
   have e : ({ a4 with defers := { target := .collected D, args := #[] } :: a4.defers } : Act) = { a4 with defers := [{ target := .collected D, args := #[] }] } := by rw [s4.defers]
   rw [e]
   obtain ⟨I6, M6, s6, g1, g2, g3, _⟩ := wk_trans (n0 := 0) (xfreeze_ok (n0 := 0) (ids := [6]) (σ := ⟨rT, rH r c m Lo, 30⟩) (σ' := ⟨rT, [some (.box [sD (dI r), sD (dI c), .ref 5]), some (.box effS), some (.box [sD (dL Lo)]), some (.box [sD (dI c)]), some (.box [.ref 5]), some (.mat 2 (om m)), none], 30⟩) (by kernel_rfl))
     (xview_ok (n0 := 0) (live := [5]) (ids := [2]) (σ' := ⟨[(5, vP 0 0)], [some (.box [sD (dL Lo)])], 30⟩) (by kernel_rfl) rfl rfl) I5 M5 a4 W sW
   have hi6 : ¬ I6 D := fun h => by
     rcases g2 D h with h1 | h1
     · exact hiD h1
     · exact hfD h1
   have hf6 : ¬ fpAll M6 [some (.box [sD (dL Lo)])] D := fun h => hfD (g3 D h)
   refine wpIn_seq (region_mark hT (live := [2]) (ids := []) (σ' := ⟨[(2, vs (oL (comp FL)))], [], 30⟩) (cnt := 0) (ins := [o0, (Or.call (vs (oL (comp FL))) [] [], 0, 0), o0]) (obs := [FnD prog 50 [vs Lo] (vs (oL (comp FL))) []]) (by kernel_rfl) rfl (by kernel_rfl) ⟨hcomp, trivial⟩ s6 [{ target := .collected D, args := #[] }] ?_)
   intro a6 W6 I7 M7 s7 n7
   have hD6 : W6.heap[D]? = some (.deferred (some [])) := (n7.ext.heap D hDlt hf6).trans hD
   have no8 : ∀ b, ¬ fpAll M7 [] b := fun b ⟨o, ho⟩ => by simp [fpAt] at ho
   have hi8 : ¬ I7 D := fun h => by
     rcases n7.ext.immNew D h with h1 | h1 | h1
     · exact hi6 h1
     · omega
     · exact hf6 h1
   refine ret_mark hT (fn := f67) (by kernel_rfl) s7 hD6 hi8 (no8 D) fun u hu hS => ⟨u, _, [], I7, M7, rfl, ⟨rfl, rfl⟩, hu, hS, ?_, fun b hb => absurd hb (no8 b), fun o e ho => by simp at ho⟩
   have hsz0 : w.heap.size ≤ D := by have := n1.ext.size; have := n2.ext.size; have := n3.ext.size; have := n4.ext.size; omega
   have nP := (((n1.trans n2).trans n3).trans n4).trans (nW.less (Nat.zero_le 5))
   have nF : Nw0 0 M5 (rH r c m Lo) I5 W M6 [some (.box [sD (dL Lo)])] I6 W := ⟨⟨rfl, rfl, rfl, Nat.le_refl _, fun _ _ _ => rfl, g1, fun b hb => (g2 b hb).imp id .inr⟩, fun b hb => .inl (g3 b hb), fun o e ho => by omega⟩
   have nA := (nP.trans nF).trans n7
   have eA : Ext (fpAll M []) I w I7 W6 := nA.ext
   exact eA.put _ hsz0
end Go.AM
/- Shortened lists of operations, in plain Lean: the same product; nothing left to shorten; a list and its inverse. -/
namespace Go.AM
def joinB (a b:Opz) : Bool :=
 if a.k ≠ b.k then false
 else if a.k = 1 then decide ((a.i = b.i ∧ a.j = b.j) ∨ (a.i = b.j ∧ a.j = b.i))
 else if a.k = 2 then decide (a.i = b.i)
 else decide (a.i = b.i ∧ a.j = b.j)
theorem joinO_B (a b:Opz) : (joinO a b).2 = joinB a b := by
 unfold joinO joinB
 repeat' split
 all_goals rfl
theorem joinO_1 {a b : Opz} (h : a.k = b.k) (h1 : a.k = 1 ∨ a.k = 2) : (joinO a b).1 = ⟨3, 0, 0, 0⟩ := by
 unfold joinO
 rw [if_neg (by simp [h])]
 split
 · rfl
 · rw [if_pos (by omega)]
theorem joinO_3 {a b : Opz} (h : a.k = b.k) (h1 : a.k ≠ 1) (h2 : a.k ≠ 2) : (joinO a b).1 = { a with z := a.z + b.z } := by
 unfold joinO
 rw [if_neg (by simp [h]), if_neg h1, if_neg h2]
theorem joinB_k {a b : Opz} (h : joinB a b = true) : a.k = b.k := by
 unfold joinB at h
 split at h
 · simp at h
 · omega
def Tidy (n:Nat) : List Opz → Prop
 | [] => True
 | [x] => vO n x = true ∧ emptyO x = false
 | x :: y :: st => vO n x = true ∧ emptyO x = false ∧ joinB y x = false ∧ Tidy n (y :: st)
theorem Tidy.tail {n : Nat} {x : Opz} {st : List Opz} (h : Tidy n (x :: st)) : Tidy n st := by
 cases st with
 | nil => trivial
 | cons y st => exact h.2.2.2
theorem Tidy.head {n : Nat} {x : Opz} {st : List Opz} (h : Tidy n (x :: st)) : vO n x = true ∧ emptyO x = false := by
 cases st with
 | nil => exact h
 | cons y st => exact ⟨h.1, h.2.1⟩
theorem vO_z {n : Nat} {o : Opz} (h : vO n o = true) (hk : o.k = 3) (z:Int) : vO n { o with z := z } = true := by
 simpa [vO, hk] using h
theorem Tidy.step {n : Nat} {st : List Opz} {x : Opz} (h : Tidy n st) (hx : vO n x = true) : Tidy n (stepC st x) := by
 unfold stepC
 split
 · exact h
 · rename_i he
   have he' : emptyO x = false := by simpa using he
   cases st with
   | nil => exact ⟨hx, he'⟩
   | cons y st =>
     simp only
     rw [joinO_B]
     cases hj : joinB y x with
     | false => simp only [Bool.false_eq_true, if_false]; exact ⟨hx, he', hj, h⟩
     | true =>
       simp only [if_true]
       split
       · exact h.tail
       · rename_i hne
         have hk := joinB_k hj
         have hk3 : y.k = 3 := by
           rcases (vO_ok h.head.1).2 with g | g | g
           · rw [joinO_1 hk (by omega)] at hne; exact absurd (by decide) hne
           · rw [joinO_1 hk (by omega)] at hne; exact absurd (by decide) hne
           · exact g.1
         rw [joinO_3 hk (by omega) (by omega)] at hne ⊢
         have hne' : emptyO { y with z := y.z + x.z } = false := by simpa using hne
         have hv := vO_z h.head.1 hk3 (y.z + x.z)
         cases st with
         | nil => exact ⟨hv, hne'⟩
         | cons t st => exact ⟨hv, hne', by rw [show joinB t { y with z := y.z + x.z } = joinB t y from rfl]; exact h.2.2.1, h.2.2.2⟩
theorem Tidy.fold {n : Nat} : ∀ {l : List Opz} {st : List Opz}, Tidy n st → (∀ o ∈ l, vO n o = true) → Tidy n (l.foldl stepC st)
 | [], _, h, _ => h
 | x :: l, st, h, hl => Tidy.fold (l := l) (st := stepC st x) (h.step (hl x (by simp))) fun o ho => hl o (by simp [ho])
theorem Tidy.valid {n : Nat} : ∀ {st : List Opz}, Tidy n st → ∀ o ∈ st, vO n o = true
 | [], _, o, ho => by simp at ho
 | x :: st, h, o, ho => by
   rcases List.mem_cons.1 ho with rfl | ho
   · exact h.head.1
   · exact h.tail.valid o ho
theorem comp_valid {n : Nat} {l : List Opz} (hl : ∀ o ∈ l, vO n o = true) : ∀ o ∈ comp l, vO n o = true := fun o ho =>
 (Tidy.fold (st := []) trivial hl).valid o (List.mem_reverse.1 ho)
theorem comp_length (l : List Opz) : (comp l).length ≤ l.length := by
 have key : ∀ (l st : List Opz), (l.foldl stepC st).length ≤ st.length + l.length := fun l => by
   induction l with
   | nil => intro st; simp
   | cons x l ih =>
     intro st
     have h1 := ih (stepC st x)
     have h2 := stepC_length st x
     simp only [List.foldl_cons, List.length_cons]; omega
 have := key l []
 simpa [comp, compR] using this
theorem apO_empty {r c : Nat} {o : Opz} {m : List (List Int)} (h : emptyO o = true) (hm : Mx r c m) : apO r c o m = m := by
 simp only [emptyO, Bool.and_eq_true, decide_eq_true_eq] at h
 refine mx_ext (apO_mx _ _ _ _) hm fun a b ha hb => ?_
 rw [el_apO ha hb]
 simp [opF, h.1, h.2]
theorem apO_joined {r c : Nat} {y x : Opz} {m : List (List Int)} (hj : joinB y x = true) (hy : vO r y = true) (hx : vO r x = true) (hm : Mx r c m) :
   apO r c x (apO r c y m) = if emptyO (joinO y x).1 then m else apO r c (joinO y x).1 m := by
 have hk := joinB_k hj
 have h12 : y.k = 1 ∨ y.k = 2 → apO r c x (apO r c y m) = m := fun h => by
   refine mx_ext (apO_mx _ _ _ _) hm fun a b ha hb => ?_
   rw [el_apO ha hb, opF_congr hx ha fun a' ha' => el_apO ha' hb]
   rcases (vO_ok hy).2 with g | g | g
   · have hk2 : x.k = 2 := by omega
     have hi : y.i = x.i := by simpa [joinB, hk2, g.1] using hj
     simp only [opF, hk2, g.1, hi]
     by_cases he : a = x.i <;> simp [he]
   · have hk1 : x.k = 1 := by omega
     have hi : (y.i = x.i ∧ y.j = x.j) ∨ (y.i = x.j ∧ y.j = x.i) := by simpa [joinB, hk1, g.1] using hj
     simp only [opF, hk1, g.1, if_true]
     rcases hi with ⟨h1, h2⟩ | ⟨h1, h2⟩
     · rw [h1, h2]
       have hne : x.i ≠ x.j := by rw [← h1, ← h2]; exact g.2.2.1
       by_cases he : a = x.i
       · simp [he, Ne.symm hne]
       · by_cases hf : a = x.j
         · simp [hf, Ne.symm hne]
         · simp [he, hf]
     · rw [h1, h2]
       have hne : x.i ≠ x.j := by rw [← h1, ← h2]; exact Ne.symm g.2.2.1
       by_cases he : a = x.i
       · simp [he]
       · by_cases hf : a = x.j
         · simp [hf, hne, Ne.symm hne]
         · simp [he, hf]
   · omega
 by_cases h : y.k = 1 ∨ y.k = 2
 · rw [joinO_1 hk h, if_pos (by decide)]; exact h12 h
 · have g3 : y.k = 3 ∧ y.j < r ∧ y.i ≠ y.j := by
     rcases (vO_ok hy).2 with g | g | g
     · omega
     · omega
     · exact g
   have hx3 : x.k = 3 := by omega
   have hij : y.i = x.i ∧ y.j = x.j := by simpa [joinB, hx3, g3.1] using hj
   have e : apO r c x (apO r c y m) = apO r c { y with z := y.z + x.z } m := by
     refine mx_ext (apO_mx _ _ _ _) (apO_mx _ _ _ _) fun a b ha hb => ?_
     rw [el_apO ha hb, opF_congr hx ha fun a' ha' => el_apO ha' hb, el_apO ha hb]
     simp only [opF, hx3, g3.1, ← hij.1, ← hij.2]
     by_cases he : a = y.i
     · simp [he, Ne.symm g3.2.2, Int.add_mul]; omega
     · simp [he]
   rw [joinO_3 hk (by omega) (by omega), e]
   split
   · rename_i h0; exact apO_empty h0 hm
   · rfl
theorem apL_step {r c : Nat} {st : List Opz} {x : Opz} {m : List (List Int)} (h : Tidy r st) (hx : vO r x = true) (hm : Mx r c m) : apL r c (stepC st x).reverse m = apO r c x (apL r c st.reverse m) := by
 unfold stepC
 split
 · rename_i he; exact (apO_empty he (apL_mx _ hm)).symm
 · cases st with
   | nil => rfl
   | cons y st =>
     simp only
     rw [joinO_B]
     have e : apL r c (y :: st).reverse m = apO r c y (apL r c st.reverse m) := by rw [List.reverse_cons, apL_append]; rfl
     cases hj : joinB y x with
     | false => simp only [Bool.false_eq_true, if_false]; rw [List.reverse_cons, apL_append]; rfl
     | true =>
       simp only [if_true]
       rw [e, apO_joined hj h.head.1 hx (apL_mx _ hm)]
       split
       · rfl
       · rw [List.reverse_cons, apL_append]; rfl
theorem apL_fold {r c : Nat} {m : List (List Int)} (hm : Mx r c m) : ∀ (l : List Opz) (st : List Opz), Tidy r st → (∀ o ∈ l, vO r o = true) → apL r c (l.foldl stepC st).reverse m = apL r c l (apL r c st.reverse m)
 | [], _, _, _ => rfl
 | x :: l, st, h, hl => by
   rw [List.foldl_cons, apL_fold hm l _ (h.step (hl x (by simp))) fun o ho => hl o (by simp [ho]), apL_step h (hl x (by simp)) hm]
   rfl
theorem apL_comp {r c : Nat} {l : List Opz} {m : List (List Int)} (hl : ∀ o ∈ l, vO r o = true) (hm : Mx r c m) : apL r c (comp l) m = apL r c l m :=
 apL_fold hm l [] trivial hl
end Go.AM
/- The law of shortened lists of operations. -/
namespace Go.AM
open Go.Proofs.Try
theorem rvalid_list {l : List Opz} {n : Nat} (hl : l.length ≤ 4294967296) (hz : SzO l) : FnD prog 51 [vs (oL l), vi n] (vb (l.all (vO n))) [] := by
 refine vc51_ok _ _ (R := Out _) ?_
 unfold vc51
 simp only [oL_length]
 refine ⟨fun t => ∃ i : Nat, t = (i:Int) ∧ i ≤ l.length ∧ ∀ k, (hk : k < l.length) → k < i → vO n l[k] = true, fun t => ((l.length:Int) - t).toNat, ⟨0, rfl, by omega, fun k _ hk => by omega⟩, ?_⟩
 rintro _ ⟨i, rfl, hi, hinv⟩
 refine ⟨fun h => ?_, fun h => outb ?_⟩
 · have hir : i < l.length := by simpa using h
   refine ⟨_, _, _, _, _, vO n l[i], ⟨by omega, by omega⟩, oL_get hir, rvalidOp_ok (hz _ (List.getElem_mem hir)), fun h2 => outb ?_, fun h2 => ?_⟩
   · have h3 : vO n l[i] = false := by simpa using h2
     symm
     rw [List.all_eq_false]
     exact ⟨l[i], List.getElem_mem hir, by rw [h3]; simp⟩
   · rw [inc64 (by omega)]
     refine ⟨⟨i + 1, rfl, by omega, fun k hkl hk => ?_⟩, by show ((l.length:Int) - ((i + 1:Nat) : Int)).toNat < ((l.length:Int) - (i:Int)).toNat; omega⟩
     by_cases hki : k = i
     · subst hki; simpa using h2
     · exact hinv k hkl (by omega)
 · have hir : i = l.length := by have : l.length ≤ i := by simpa using h
                                 omega
   symm
   refine List.all_eq_true.2 fun o ho => ?_
   obtain ⟨k, hk, rfl⟩ := List.getElem_of_mem ho
   exact hinv k hk (by omega)
end Go.AM
/- torsionref12.Form: what it answers. -/
namespace Go.AM
open Go.Proofs.Try
section
variable {r cc K L : Nat} {a : List (List Int)} {FL : List Opz}
abbrev fT (r cc k t:Nat) : List (List Int) → List Opz := tailL r cc k t (formL r cc (cc - (k + 1)) (k + 1) t) (formL r cc (cc - (k + 1)) (k + 1) (t + 1))
def F0 (r cc:Nat) (a : List (List Int)) (FL : List Opz) (w0 w1 w3 w4 w6 w7:Int) (o3 o4 o5 : DLL) (top c:Int) : Prop :=
 ∃ (t k:Nat) (d : List Opz), FW r cc a d w0 w1 w3 w4 w6 w7 o3 o4 o5 ∧ top = (t:Int) ∧ c = (k:Int) ∧ t ≤ r ∧ k ≤ cc ∧ d ++ formL r cc (cc - k) k t (apL r cc d a) = FL
def m0 (cc:Nat) (_ _ _ _ _ _:Int) (_ _ _ : DLL) (_ c:Int) : Nat := ((cc:Int) - c).toNat
def F1 (r cc:Nat) (a : List (List Int)) (FL : List Opz) (t k:Nat) (w0 w1 w3 w4 w6 w7:Int) (o3 o4 o5 : DLL) (i:Int) : Prop :=
 ∃ (ii:Nat) (d : List Opz), FW r cc a d w0 w1 w3 w4 w6 w7 o3 o4 o5 ∧ i = (ii:Int) ∧ t < ii ∧ ii ≤ r ∧ d ++ lowL r cc k t ii (fT r cc k t) (apL r cc d a) = FL
def m1 (r:Nat) (_ _ _ _ _ _:Int) (_ _ _ : DLL) (i:Int) : Nat := ((r:Int) - i).toNat
def F2 (r cc:Nat) (a : List (List Int)) (FL : List Opz) (t k ii:Nat) (w0 w1 w3 w4 w6 w7:Int) (o3 o4 o5 : DLL) : Prop :=
 ∃ (f:Nat) (d : List Opz), FW r cc a d w0 w1 w3 w4 w6 w7 o3 o4 o5 ∧ (el (apL r cc d a) ii k).natAbs < f ∧
   d ++ (euL r cc k t ii f (apL r cc d a) ++ lowL r cc k t (ii + 1) (fT r cc k t) (apL r cc (euL r cc k t ii f (apL r cc d a)) (apL r cc d a))) = FL
def m2 (ii k:Nat) (_ _ _ _ _ _:Int) (o3 _ _ : DLL) : Nat := msr o3 ii k
theorem sgn_ne {z : Int} : ((if z = 0 then (0:Int) else if z < 0 then -1 else 1) != 0) = true ↔ z ≠ 0 := by
 split
 · rename_i h; simp [h]
 · rename_i h; split <;> simp [h]
theorem sgn_lt {z : Int} : decide ((if z = 0 then (0:Int) else if z < 0 then -1 else 1) < 0) = true ↔ z < 0 := by
 split
 · rename_i h; simp [h]
 · split
   · rename_i h; simp [h]
   · rename_i h; simp [h]
variable (C : FCx r cc K L a FL)
include C
theorem F2_add {t k ii f : Nat} (ht : t < r) (hi : ii < r) (hk : k < cc) (hne : t ≠ ii) {d : List Opz} (hy : el (apL r cc d a) ii k ≠ 0) (hx : el (apL r cc d a) t k ≠ 0) (hf : (el (apL r cc d a) ii k).natAbs < f + 1)
   (hd : d ++ (euL r cc k t ii (f + 1) (apL r cc d a) ++ lowL r cc k t (ii + 1) (fT r cc k t) (apL r cc (euL r cc k t ii (f + 1) (apL r cc d a)) (apL r cc d a))) = FL) :
   FnO prog 123 [vP 0 0, vi t, vi ii, eI (-(el (apL r cc d a) t k / el (apL r cc d a) ii k))] (wD r cc a d) (.tup []) (wD r cc a (d ++ [addO t ii (-(el (apL r cc d a) t k / el (apL r cc d a) ii k))])) ∧
   FnO prog 121 [vP 0 0, vi t, vi ii] (wD r cc a (d ++ [addO t ii (-(el (apL r cc d a) t k / el (apL r cc d a) ii k))])) (.tup []) (wDs r cc a (d ++ [addO t ii (-(el (apL r cc d a) t k / el (apL r cc d a) ii k))] ++ [swapO t ii])) ∧
   (el (apL r cc d a) t k / el (apL r cc d a) ii k).natAbs ≤ K ∧
   F2 r cc a FL t k ii r cc r r r r (om (apL r cc (d ++ [addO t ii (-(el (apL r cc d a) t k / el (apL r cc d a) ii k))] ++ [swapO t ii]) a)) (om (apL r r (d ++ [addO t ii (-(el (apL r cc d a) t k / el (apL r cc d a) ii k))] ++ [swapO t ii]) (table r r delta)))
     (om (apCL r (d ++ [addO t ii (-(el (apL r cc d a) t k / el (apL r cc d a) ii k))] ++ [swapO t ii]) (table r r delta))) ∧
   msr (om (apL r cc (d ++ [addO t ii (-(el (apL r cc d a) t k / el (apL r cc d a) ii k))] ++ [swapO t ii]) a)) ii k < msr (om (apL r cc d a)) ii k := by
 obtain ⟨e1, e2⟩ := eu_next ht hi hk hne (m := apL r cc d a)
 have hm := C.mx d
 generalize hz : -(el (apL r cc d a) t k / el (apL r cc d a) ii k) = z at *
 have hz2 : (el (apL r cc d a) t k / el (apL r cc d a) ii k).natAbs = z.natAbs := by rw [← hz, Int.natAbs_neg]
 simp only [euL, if_neg hy, if_neg hx, hz, apL, List.cons_append] at hd
 have hd2 : d ++ [addO t ii z] ++ swapO t ii :: (euL r cc k t ii f (apO r cc (swapO t ii) (apO r cc (addO t ii z) (apL r cc d a))) ++
     lowL r cc k t (ii + 1) (fT r cc k t) (apL r cc (euL r cc k t ii f (apO r cc (swapO t ii) (apO r cc (addO t ii z) (apL r cc d a)))) (apO r cc (swapO t ii) (apO r cc (addO t ii z) (apL r cc d a))))) = FL := by
   rw [List.append_assoc]; exact hd
 have eA : apL r cc (d ++ [addO t ii z] ++ [swapO t ii]) a = apO r cc (swapO t ii) (apO r cc (addO t ii z) (apL r cc d a)) := by rw [apL_one, apL_one]
 have hmA := C.mx (d ++ [addO t ii z] ++ [swapO t ii])
 have h3 := Int.emod_nonneg (el (apL r cc d a) t k) hy
 have h4 := Int.emod_lt (el (apL r cc d a) t k) hy
 refine ⟨C.add hd, C.swap hd2, by rw [hz2]; exact (C.nx d _ _ hd).2, ⟨f, _, ⟨rfl, rfl, rfl, rfl, rfl, rfl, rfl, rfl, rfl⟩, ?_, ?_⟩, ?_⟩
 · rw [eA, e2]; omega
 · rw [eA, List.append_assoc]; exact hd2
 · rw [msr_om hmA hi hk, msr_om hm hi hk, eA, e2]; omega
theorem F2_swap {t k ii f : Nat} (ht : t < r) (hi : ii < r) (hk : k < cc) (hne : t ≠ ii) {d : List Opz} (hy : el (apL r cc d a) ii k ≠ 0) (hx : el (apL r cc d a) t k = 0) (hf : (el (apL r cc d a) ii k).natAbs < f + 1)
   (hd : d ++ (euL r cc k t ii (f + 1) (apL r cc d a) ++ lowL r cc k t (ii + 1) (fT r cc k t) (apL r cc (euL r cc k t ii (f + 1) (apL r cc d a)) (apL r cc d a))) = FL) :
   FnO prog 121 [vP 0 0, vi t, vi ii] (wD r cc a d) (.tup []) (wDs r cc a (d ++ [swapO t ii])) ∧
   F2 r cc a FL t k ii r cc r r r r (om (apL r cc (d ++ [swapO t ii]) a)) (om (apL r r (d ++ [swapO t ii]) (table r r delta))) (om (apCL r (d ++ [swapO t ii]) (table r r delta))) ∧
   msr (om (apL r cc (d ++ [swapO t ii]) a)) ii k < msr (om (apL r cc d a)) ii k := by
 obtain ⟨e1, e2⟩ := eu_swap ht hi hk hne (m := apL r cc d a)
 have hm := C.mx d
 simp only [euL, if_neg hy, if_pos hx, apL, List.cons_append] at hd
 have eA : apL r cc (d ++ [swapO t ii]) a = apO r cc (swapO t ii) (apL r cc d a) := apL_one _ _ _
 have hmA := C.mx (d ++ [swapO t ii])
 refine ⟨C.swap hd, ⟨f, _, ⟨rfl, rfl, rfl, rfl, rfl, rfl, rfl, rfl, rfl⟩, ?_, ?_⟩, ?_⟩
 · rw [eA, e2, hx]; show 0 < f; omega
 · rw [eA, List.append_assoc]; exact hd
 · rw [msr_om hmA hi hk, msr_om hm hi hk, eA, e2, hx]; show 0 < _; omega
set_option maxRecDepth 100000 in
theorem form_walk (hr0 : FL = formL r cc cc 0 0 a) {N0 : Nat} (hN0 : BdM N0 a) (hN1 : N0 ≤ 1329227995784915872903807060280344576) :
   FnD prog 69 [eM r cc a] (eHer r cc (apL r cc FL a) (apL r r FL (table r r delta)) (apCL r FL (table r r delta))) [] := by
 have hr := C.hr
 have hc := C.hc
 have fin : ∀ {w0 w1 w3 w4 w6 w7 : Int} {o3 o4 o5 : DLL}, FW r cc a FL w0 w1 w3 w4 w6 w7 o3 o4 o5 →
     Out (eHer r cc (apL r cc FL a) (apL r r FL (table r r delta)) (apCL r FL (table r r delta))) (vA [(sD (dI w0)), (sD (dI w1)), (sD (dL (matD o3))), (sD (dI w3)), (sD (dI w4)), (sD (dL (matD o4))), (sD (dI w6)), (sD (dI w7)), (sD (dL (matD o5)))]) [] := fun h => by
   obtain ⟨rfl, rfl, rfl, rfl, rfl, rfl, rfl, rfl, rfl⟩ := h
   rw [matD_om, matD_om, matD_om]
   exact ⟨rfl, rfl⟩
 refine vc69_ok _ _ _ (R := Out _) ?_
 unfold vc69
 refine ⟨_, _, _, _, _, _, _, _, _, start_ok C.hm hN0 hr hc hN1, F0 r cc a FL, m0 cc, ⟨0, 0, [], ⟨rfl, rfl, rfl, rfl, rfl, rfl, rfl, rfl, rfl⟩, rfl, rfl, by omega, by omega, hr0.symm⟩, ?_⟩
 rintro w0 w1 w3 w4 w6 w7 o3 o4 o5 _ _ ⟨t, k, d, hw, rfl, rfl, ht, hk, hd⟩
 refine ⟨fun h => ⟨fun h2 => ?_, fun h2 => ?_⟩, fun h => ?_⟩
 · have hkc : k < cc := by have := of_decide_eq_true h; omega
   have htr : t < r := by have := of_decide_eq_true h2; omega
   rw [show cc - k = (cc - (k + 1)) + 1 by omega] at hd
   simp only [formL, if_pos htr] at hd
   clear h h2
   refine ⟨F1 r cc a FL t k, m1 r, ⟨t + 1, d, hw, inc64 (by omega), by omega, by omega, hd⟩, ?_⟩
   clear hw hd
   rintro w01 w11 w31 w41 w61 w71 o31 o41 o51 _ ⟨ii, d, hw, rfl, hti, hir, hd⟩
   refine ⟨fun h => ?_, fun h => ?_⟩
   · -- a row below
     have hii : ii < r := by have := of_decide_eq_true h; omega
     clear h
     rw [lowL_low hii] at hd
     refine ⟨F2 r cc a FL t k ii, m2 ii k, ⟨_, d, hw, Nat.lt_succ_self _, hd⟩, ?_⟩
     clear hw hd d
     rintro w02 w12 w32 w42 w62 w72 o32 o42 o52 ⟨f, d, hw, hf, hd⟩
     obtain ⟨rfl, rfl, rfl, rfl, rfl, rfl, rfl, rfl, rfl⟩ := hw
     obtain ⟨f, rfl⟩ : ∃ f', f = f' + 1 := ⟨f - 1, by omega⟩
     have b1 := C.el hd htr hkc
     have b2 := C.el hd hii hkc
     refine ⟨_, _, _, ⟨by omega, by rw [omx_len (C.mx d)]; omega⟩, omx_in (C.mx d) hii hkc, at2_elN (C.mx d) hii hkc, rsign_ok _, fun h => ?_, fun h => ?_⟩
     · have hy := sgn_ne.1 h
       refine ⟨_, _, _, ⟨by omega, by rw [omx_len (C.mx d)]; omega⟩, omx_in (C.mx d) htr hkc, at2_elN (C.mx d) htr hkc, rsign_ok _, fun h2 => ?_, fun h2 => ?_⟩
       · have hx := sgn_ne.1 h2
         obtain ⟨f1, f2, f3, f4, f5⟩ := F2_add C htr hii hkc (by omega) hy hx hf hd
         exact ⟨_, _, _, _, _, rdivmod_ok hy (C.lt b1) (C.lt b2) C.hL, _, _, _, _, _, _, _, _, _, _, _, rneg_ok (C.sz f3), f1, _, _, _, _, _, _, _, _, _, f2, f4, f5⟩
       · have hx : el (apL r cc d a) t k = 0 := by
           apply Classical.byContradiction
           intro hne
           have := sgn_ne.2 hne
           rw [this] at h2; simp at h2
         obtain ⟨f1, f2, f3⟩ := F2_swap C htr hii hkc (by omega) hy hx hf hd
         exact ⟨_, _, _, _, _, _, _, _, _, f1, f2, f3⟩
     · have hy : el (apL r cc d a) ii k = 0 := by
         apply Classical.byContradiction
         intro hne
         have := sgn_ne.2 hne
         rw [this] at h; simp at h
       simp only [euL, if_pos hy, apL, List.nil_append] at hd
       rw [inc64 (by omega)]
       exact ⟨⟨ii + 1, d, ⟨rfl, rfl, rfl, rfl, rfl, rfl, rfl, rfl, rfl⟩, rfl, by omega, by omega, hd⟩, by show ((r:Int) - ((ii + 1:Nat) : Int)).toNat < ((r:Int) - (ii:Int)).toNat; omega⟩
   · -- the pivot
     have he : ii = r := by have := of_decide_eq_false h; omega
     subst he
     rw [lowL_end] at hd
     have hwc := hw
     obtain ⟨rfl, rfl, rfl, rfl, rfl, rfl, rfl, rfl, rfl⟩ := hw
     have hJ : ∀ d w0 w1 w3 w4 w6 w7 o3 o4 o5, FW ii cc a d w0 w1 w3 w4 w6 w7 o3 o4 o5 → d ++ formL ii cc (cc - (k + 1)) (k + 1) (t + 1) (apL ii cc d a) = FL →
         F0 ii cc a FL w0 w1 w3 w4 w6 w7 o3 o4 o5 (IntKind.i64.wrap ((t:Int) + 1)) (IntKind.i64.wrap ((k:Int) + 1)) ∧ m0 cc w0 w1 w3 w4 w6 w7 o3 o4 o5 (IntKind.i64.wrap ((t:Int) + 1)) (IntKind.i64.wrap ((k:Int) + 1)) < ((cc:Int) - (k:Int)).toNat := fun d w0 w1 w3 w4 w6 w7 o3 o4 o5 hw hd => by
       rw [inc64 (by omega), inc64 (by omega)]
       exact ⟨⟨t + 1, k + 1, d, hw, rfl, rfl, by omega, by omega, hd⟩, by show ((cc:Int) - ((k + 1:Nat) : Int)).toNat < _; omega⟩
     refine ⟨_, _, _, ⟨by omega, by rw [omx_len (C.mx d)]; omega⟩, omx_in (C.mx d) htr hkc, at2_elN (C.mx d) htr hkc, rsign_ok _, fun h => ?_, fun h => ⟨_, rsign_ok _, fun h2 => ?_, fun h2 => ?_⟩⟩
     · have hx : el (apL ii cc d a) t k = 0 := by
         apply Classical.byContradiction
         intro hne
         have h3 := sgn_ne.2 hne
         have h4 := eq_of_beq h
         rw [h4] at h3; simp at h3
       simp only [fT, tailL, if_pos hx] at hd
       rw [inc64 (by omega)]
       exact ⟨⟨t, k + 1, d, hwc, rfl, rfl, by omega, by omega, hd⟩, by show ((cc:Int) - ((k + 1:Nat) : Int)).toNat < ((cc:Int) - (k:Int)).toNat; omega⟩
     · have hx := sgn_lt.1 h2
       simp only [fT, tailL, if_neg (show ¬ el (apL ii cc d a) t k = 0 by omega), if_pos hx] at hd
       have e1 : apL ii cc (d ++ [negO t]) a = apO ii cc (negO t) (apL ii cc d a) := apL_one _ _ _
       have e2 : el (apO ii cc (negO t) (apL ii cc d a)) t k = - el (apL ii cc d a) t k := by rw [el_apO htr hkc]; simp [opF]
       refine ⟨_, _, _, _, _, _, _, _, _, C.neg hd, ?_⟩
       exact redP_ok C hkc htr (d := d ++ [negO t]) ⟨rfl, rfl, rfl, rfl, rfl, rfl, rfl, rfl, rfl⟩ (by rw [e1, e2]; omega) (K1 := formL ii cc (cc - (k + 1)) (k + 1) (t + 1)) (by rw [e1, List.append_assoc]; exact hd) hJ
     · have hx : 0 < el (apL ii cc d a) t k := by
         have h3 : ¬ el (apL ii cc d a) t k < 0 := fun hc => by
           have := sgn_lt.2 hc
           rw [this] at h2; simp at h2
         have h4 : el (apL ii cc d a) t k ≠ 0 := fun hc => by
           rw [if_pos hc] at h; simp at h
         omega
       simp only [fT, tailL, if_neg (show ¬ el (apL ii cc d a) t k = 0 by omega), if_neg (show ¬ el (apL ii cc d a) t k < 0 by omega)] at hd
       exact redP_ok C hkc htr (d := d) hwc hx (K1 := formL ii cc (cc - (k + 1)) (k + 1) (t + 1)) hd hJ
 · have htr : ¬ t < r := by have := of_decide_eq_false h2; omega
   have e : formL r cc (cc - k) k t (apL r cc d a) = [] := by
     cases cc - k with
     | zero => rfl
     | succ n => simp only [formL, if_neg htr]
   rw [e, List.append_nil] at hd
   subst hd
   exact fin hw
 · have hkc : k = cc := by have := of_decide_eq_false h; omega
   subst hkc
   rw [Nat.sub_self] at hd
   simp only [formL, List.append_nil] at hd
   subst hd
   exact fin hw
end
theorem formC {r cc N L : Nat} {a : List (List Int)} (hm : Mx r cc a) (km : BdM N a) (h1 : 1 ≤ N) (hr : r ≤ 4294967296) (hc : cc ≤ 4294967296) (hL : L ≤ 1073741824)
   (big : (24 * N) ^ ((2 * r + 2) ^ cc) * (24 * N) ^ ((2 * r + 2) ^ cc) * 4294967296 < 4294967296 ^ L) : FCx r cc ((24 * N) ^ ((2 * r + 2) ^ cc)) L a (formL r cc cc 0 0 a) := by
 obtain ⟨v, g⟩ := formL_ok (r := r) (cc := cc) cc 0 0 a N (by omega) hm km
 have hB := gB_pow r cc N h1
 have kd : BdM 1 (table r r delta) := table_bd fun i j _ _ => by unfold delta; split <;> decide
 have hK1 : gB r cc N ≤ (24 * N) ^ ((2 * r + 2) ^ cc) := Nat.le_trans (one_mul_le h1) hB
 have key : ∀ d e, d ++ e = formL r cc cc 0 0 a → (∀ o ∈ d, vO r o = true) ∧ gL d * N ≤ (24 * N) ^ ((2 * r + 2) ^ cc) ∧ gL d * 1 ≤ (24 * N) ^ ((2 * r + 2) ^ cc) := fun d e h => by
   have hg := Nat.le_trans (gL_prefix h) g
   refine ⟨fun o ho => v o (by rw [← h]; exact List.mem_append_left _ ho), ?_, ?_⟩
   · refine Nat.le_trans (Nat.mul_le_mul_right _ hg) ?_
     rw [Nat.mul_comm]; exact hB
   · rw [Nat.mul_one]; exact Nat.le_trans hg hK1
 refine ⟨hm, fun d e h => ?_, fun d o e h => ?_, big, hL, hr, hc⟩
 · obtain ⟨k1, k2, k3⟩ := key d e h
   exact ⟨(apL_g k1 hm km).mono k2, (apL_g k1 (table_mx _ _ _) kd).mono k3, (apCL_g k1 (table_mx _ _ _) kd).mono k3⟩
 · refine ⟨v o (by rw [← h]; simp), ?_⟩
   have h2 : gO o ≤ gL (formL r cc cc 0 0 a) := by
     rw [← h, gL_append]
     simp only [gL]
     have a1 := one_mul_le (K := gO o * gL e) (gL_pos d)
     have a2 := one_mul_le (K := gO o) (gL_pos e)
     rw [Nat.mul_comm (gL e)] at a2
     exact Nat.le_trans a2 a1
   by_cases hk : o.k = 3
   · have : gO o = 1 + o.z.natAbs := by simp [gO, hk]
     omega
   · obtain ⟨_, hcase⟩ := vO_ok (v o (by rw [← h]; simp))
     have hz : o.z = 0 := by
       rcases hcase with h | h | h
       · exact h.2.2
       · exact h.2.2.2
       · exact absurd h.1 hk
     rw [hz]; exact Nat.zero_le _
end Go.AM
/- oplog: lists of operations of any size: effects, Compact, Apply, Undo; the reference's Apply; the law of Reduce. -/
namespace Go.AM
open Go.Proofs.Try
theorem mscale_gen {r c : Nat} {a : List (List Int)} {k : Int} (ha : Mx r c a) (hs : ∀ i j, i < r → j < c → Sz (el a i j)) (hk : Sz k) (hr : r ≤ 4294967296) (hc : c ≤ 4294967296) :
   FnD prog 63 [eM r c a, eI k] (eMo r c) (oM (table r c fun i j => el a i j * k)) := by
 refine vc63o_ok _ _ _ _ _ (R := OutM r c _) ?_
 unfold vc63o
 refine ⟨_, _, _, build_own hr hc (g := fun i j => el a i j * k) fun i j hi hj => ?_, outM rfl⟩
 refine vc112_ok _ _ _ _ _ _ _ (R := Out _) ?_
 unfold vc112
 obtain ⟨e1, e2, e3, e4⟩ := read_el ha hi hj
 have := mul_ok (x := k) (y := el a i j) hk (hs i j hi hj)
 rw [Int.mul_comm] at this
 exact ⟨_, _, _, _, _, ⟨by omega, e4⟩, e1, ⟨by omega, e3⟩, e2, this, rfl, rfl⟩
theorem copied_gen {r c : Nat} {a : List (List Int)} (ha : Mx r c a) (hs : ∀ i j, i < r → j < c → Sz (el a i j)) (hr : r ≤ 4294967296) (hc : c ≤ 4294967296) :
   FnD prog 97 [eM r c a] (eMo r c) (oM a) := by
 refine vc97_ok _ _ _ (R := OutM r c _) ?_
 unfold vc97
 refine ⟨_, _, _, _, _, of_ok 1 (by decide) (by decide), mscale_gen ha hs (sz_of (by decide)) hr hc, outM ?_⟩
 congr 1
 refine Eq.trans (table_congr fun i j _ _ => ?_) (mx_table ha).symm
 rw [Int.mul_one]
theorem add138_gen {r c : Nat} {o : Opz} {m : List (List Int)} (h : vO r o = true) (hk : o.k = 3) (hm : Mx r c m) (hz : Sz o.z) (hS : ∀ n, n < c → Sz (el m o.i n) ∧ Sz (el m o.j n) ∧ Sz (o.z * el m o.j n))
   (hc : c ≤ 4294967296) : FnG prog 140 [vR 0, oE o] [some (.mat 2 (om m))] (EffM (apO r c o m)) := by
 obtain ⟨hi, _⟩ := vO_ok h
 have hj := vO_j h (by omega)
 have hne : o.i ≠ o.j := by
   rcases (vO_ok h).2 with h | h | h
   · omega
   · omega
   · exact h.2.2
 refine vc140_ok _ _ _ _ _ _ (R := EffM _) ?_
 unfold vc140
 have hl : (om m).length = r := by rw [om_length, hm.1]
 have hlen : ((om m).getD ((o.j:Int)).toNat ([] : DL)).length = c := by
   rw [Int.toNat_natCast, List.getD_eq_getElem?_getD, om_get hm hj]
   simp only [Option.getD_some, row_length]
   have h1 : o.j < m.length := by rw [hm.1]; exact hj
   have h3 : m.getD o.j [] = m[o.j] := by simp [h1]
   rw [h3]; exact hm.2 _ (List.getElem_mem _)
 rw [hlen]
 refine ⟨⟨by omega, by omega⟩, fun a t => ∃ n : Nat, t = (n:Int) ∧ n ≤ c ∧ a = om (table r c (rF o (el m) n)), fun _ t => ((c:Int) - t).toNat, ⟨0, rfl, by omega, rF_zero hm⟩, ?_⟩
 rintro _ _ ⟨n, rfl, hn, rfl⟩
 refine ⟨fun h2 => ?_, fun h2 => ?_⟩
 · have hnc : n < c := by simpa using h2
   have e : rF o (el m) n (o.i:Int).toNat (n:Int).toNat = el m o.i n := by rw [Int.toNat_natCast, Int.toNat_natCast]; unfold rF; rw [if_neg (by omega)]
   have e' : rF o (el m) n (o.j:Int).toNat (n:Int).toNat = el m o.j n := by rw [Int.toNat_natCast, Int.toNat_natCast]; unfold rF; rw [if_neg (by omega)]
   have e2 : opF o (el m) o.i n = el m o.i n + o.z * el m o.j n := by simp [opF, hk]
   obtain ⟨z1, z2, z3⟩ := hS n hnc
   have f1 := mul_ok (x := o.z) (y := el m o.j n) hz z2
   have f2 := add_ok (x := el m o.i n) (y := o.z * el m o.j n) z1 z3
   rw [← e2] at f2
   refine ⟨_, _, om_in hj hnc, at2_om hj hnc, _, _, _, _, _, _, ⟨by omega, by rw [om_len]; omega⟩, om_in hi hnc, at2_om hi hnc, by rw [e']; exact f1, by rw [e]; exact f2, ?_⟩
   rw [inc64 (by omega)]
   refine ⟨⟨n + 1, rfl, by omega, ?_⟩, by show ((c:Int) - ((n + 1:Nat) : Int)).toNat < ((c:Int) - (n:Int)).toNat; omega⟩
   rw [Int.toNat_natCast, Int.toNat_natCast]
   exact rF_step hi hnc
 · have hnc : n = c := by have : c ≤ n := by simpa using h2
                          omega
   subst hnc
   exact effM (rF_all (by omega))
theorem effQ_of {r c K : Nat} {o : Opz} {m : List (List Int)} (h : vO r o = true) (hm : Mx r c m) (km : BdM K m) (hz : o.z.natAbs ≤ K) (hS : ∀ y : Int, y.natAbs ≤ K * K → Sz y) (hc : c ≤ 4294967296) : o.k < 4 ∧ EffQ r c o m := by
 have hk2 : ∀ {y : Int}, y.natAbs ≤ K → Sz y := fun h => hS _ (Nat.le_trans h (le_sq K))
 rcases (vO_ok h).2 with ⟨hk, _, _⟩ | ⟨hk, _, _, _⟩ | ⟨hk, hj, _⟩
 · exact ⟨by omega, 139, by rw [hk]; rfl, neg138_ok h hk hm hc⟩
 · exact ⟨by omega, 138, by rw [hk]; rfl, swap_ok h hk hm⟩
 · refine ⟨by omega, 140, by rw [hk]; rfl, add138_gen h hk hm (hk2 hz) (fun n hn => ?_) hc⟩
   have b1 := el_bd hm km (vO_ok h).1 hn
   have b2 := el_bd hm km hj hn
   exact ⟨hk2 b1, hk2 b2, hS _ (mul_natAbs_le hz b2)⟩
theorem compact_gen {l : List Opz} (hl : SzO l) (hcz : ∀ i, i ≤ l.length → SzO (compR (l.take i))) (hn : l.length ≤ 100000) : FnD prog 50 [vs (oL l)] (vs (oL (comp l))) [] := by
 refine vc50_ok _ (R := Out _) ?_
 unfold vc50
 simp only [oL_length]
 refine ⟨fun out t => ∃ i : Nat, t = (i:Int) ∧ i ≤ l.length ∧ out = oL (compR (l.take i)).reverse, fun _ t => ((l.length:Int) - t).toNat, ⟨0, rfl, by omega, by simp [compR, oL]⟩, ?_⟩
 rintro _ _ ⟨i, rfl, hi, rfl⟩
 refine ⟨fun h => ?_, fun h => outs ?_⟩
 · have hir : i < l.length := by simpa using h
   have hz := hcz i hi
   have hlen : (compR (l.take i)).length ≤ i := by
     have := comp_length (l.take i)
     rw [List.length_take] at this
     unfold comp at this
     rw [List.length_reverse] at this
     omega
   have hstep := compR_snoc hir
   have szx : Sz l[i].z := hl _ (List.getElem_mem hir)
   generalize hst : compR (l.take i) = st at hz hlen hstep
   rw [inc64 (by omega)]
   have hback : ∀ out, out = oL (stepC st l[i]).reverse → (∃ j : Nat, ((i + 1:Nat) : Int) = (j:Int) ∧ j ≤ l.length ∧ out = oL (compR (l.take j)).reverse) ∧ ((l.length:Int) - ((i + 1:Nat) : Int)).toNat < ((l.length:Int) - (i:Int)).toNat :=
     fun out ho => ⟨⟨i + 1, rfl, by omega, by rw [hstep]; exact ho⟩, by omega⟩
   refine ⟨_, _, _, _, _, ⟨by omega, by omega⟩, oL_get hir, _, empty_ok l[i], fun he => hback _ ?_, fun he => ⟨fun ho => ?_, fun ho => ?_⟩⟩
   · simp [stepC, he]
   · -- there is a last one
     cases st with
     | nil => simp [oL] at ho
     | cons y st' =>
       have hlast : IntKind.i64.wrap (((oL (y :: st').reverse).length:Int) - 1) = ((st'.length:Nat) : Int) := by
         rw [oL_length, List.length_reverse, List.length_cons]
         simp only [List.length_cons] at hlen
         rw [w64 (by omega) (by omega)]; omega
       have hlen' : ((oL (y :: st').reverse).length:Int) = ((st'.length + 1:Nat) : Int) := by rw [oL_length]; simp
       have hget : (oL (y :: st').reverse)[((st'.length:Nat) : Int).toNat]? = some (oD y) := by
         rw [Int.toNat_natCast]; simp [oL]
       have htake : (oL (y :: st').reverse).take ((st'.length:Nat) : Int).toNat = oL st'.reverse := by
         rw [Int.toNat_natCast]; simp only [oL, List.reverse_cons, List.map_append]
         rw [List.take_append_of_le_length (by simp)]
         exact List.take_of_length_le (by simp)
       have szy : Sz y.z := hz y (by simp)
       rw [hlast, htake]
       simp only [List.length_cons] at hlen
       refine ⟨_, _, _, _, _, _, _, _, _, _, _, ⟨by omega, by rw [hlen']; omega⟩, hget, join_ok szy szx, fun hj => ⟨⟨by omega, by rw [hlen']; omega⟩, _, empty_ok _, fun hne => ⟨?_, hback _ ?_⟩, fun hne => hback _ ?_⟩, fun hj => ⟨_, empty_ok l[i], fun hne => ⟨?_, hback _ ?_⟩, fun hne => ?_⟩⟩
       · rw [oL_length]; simp only [List.length_reverse, List.length_cons, List.length_nil]; omega
       · have hne' : emptyO (joinO y l[i]).1 = false := by simpa using hne
         simp [stepC, he, hj, hne', oL]; rfl
       · have hne' : emptyO (joinO y l[i]).1 = true := by simpa using hne
         simp [stepC, he, hj, hne', oL]
       · rw [oL_length]; simp only [List.length_reverse, List.length_cons, List.length_nil]; omega
       · simp [stepC, he, hj, oL]; rfl
       · rw [he] at hne; simp at hne
   · have hnil : st = [] := by
       cases st with
       | nil => rfl
       | cons y st' => rw [oL_length] at ho; simp at ho
     subst hnil
     refine ⟨_, empty_ok l[i], fun hne => ⟨by simp [oL], hback _ ?_⟩, fun hne => ?_⟩
     · simp [stepC, he, oL]; rfl
     · rw [he] at hne; simp at hne
 · have hir : i = l.length := by have : l.length ≤ i := by simpa using h
                                 omega
   subst hir
   rw [List.take_length]; rfl
theorem gL_reverse : ∀ l : List Opz, gL l.reverse = gL l
 | [] => rfl
 | o :: l => by rw [List.reverse_cons, gL_append, gL_reverse l]; simp only [gL, Nat.mul_one]; rw [Nat.mul_comm]
theorem gL_step {n : Nat} {st : List Opz} {x : Opz} (hs : ∀ o ∈ st, vO n o = true) : gL (stepC st x) ≤ gL st * gO x := by
 have push : gL (x :: st) ≤ gL st * gO x := by simp only [gL]; rw [Nat.mul_comm]; exact Nat.le_refl _
 have keep : gL st ≤ gL st * gO x := Nat.le_mul_of_pos_right _ (gO_pos x)
 unfold stepC
 split
 · exact keep
 · split
   · rename_i y st' 
     split
     · rename_i hj
       have hk := joinB_k (show joinB y x = true by rw [← joinO_B]; exact hj)
       split
       · have h1 : gL st' ≤ gO y * gL st' := Nat.le_mul_of_pos_left _ (gO_pos y)
         simp only [gL]
         exact Nat.le_trans h1 (Nat.le_mul_of_pos_right _ (gO_pos x))
       · rename_i hne
         simp only [gL]
         have hjo : gO (joinO y x).1 ≤ gO y * gO x := by
           by_cases h1 : y.k = 1 ∨ y.k = 2
           · rw [joinO_1 hk h1]
             exact Nat.mul_le_mul (gO_pos y) (gO_pos x)
           · rw [joinO_3 hk (fun e => h1 (.inl e)) (fun e => h1 (.inr e))]
             have hy3 : y.k = 3 := by
               rcases (vO_ok (hs y (by simp))).2 with g | g | g
               · exact absurd (.inr g.1) h1
               · exact absurd (.inl g.1) h1
               · exact g.1
             have hx3 : x.k = 3 := by omega
             have ex : gO x = 1 + x.z.natAbs := by simp [gO, hx3]
             have ey : gO y = 1 + y.z.natAbs := by simp [gO, hy3]
             have ej : gO { y with z := y.z + x.z } = 1 + (y.z + x.z).natAbs := by simp [gO, hy3]
             rw [ex, ey, ej, Nat.add_mul, Nat.one_mul, Nat.mul_add, Nat.mul_one]
             have := Int.natAbs_add_le y.z x.z
             omega
         calc gO (joinO y x).1 * gL st' ≤ (gO y * gO x) * gL st' := Nat.mul_le_mul_right _ hjo
           _ = gO y * gL st' * gO x := Nat.mul_right_comm _ _ _
     · exact push
   · simp only [gL, Nat.mul_one, Nat.one_mul]; exact Nat.le_refl _
theorem gL_compR {n : Nat} : ∀ (l : List Opz), (∀ o ∈ l, vO n o = true) → ∀ i, i ≤ l.length → gL (compR (l.take i)) ≤ gL (l.take i) ∧ ∀ o ∈ compR (l.take i), vO n o = true
 | l, hv, 0, _ => by simp [compR, gL]
 | l, hv, i + 1, h => by
   have hi : i < l.length := by omega
   obtain ⟨h1, h2⟩ := gL_compR l hv i (by omega)
   have h3 : ∀ o ∈ comp (l.take (i + 1)), vO n o = true := comp_valid fun o ho => hv o (List.mem_of_mem_take ho)
   refine ⟨?_, fun o ho => h3 o (by unfold comp; exact List.mem_reverse.2 ho)⟩
   rw [compR_snoc hi]
   refine Nat.le_trans (gL_step (n := n) h2) ?_
   rw [List.take_add_one, List.getElem?_eq_getElem hi]
   show _ ≤ gL (l.take i ++ [l[i]])
   rw [gL_append]
   simp only [gL, Nat.mul_one]
   exact Nat.mul_le_mul_right _ h1
theorem gL_comp {n : Nat} {l : List Opz} (hv : ∀ o ∈ l, vO n o = true) : gL (comp l) ≤ gL l := by
 have := (gL_compR l hv l.length (Nat.le_refl _)).1
 rw [List.take_length] at this
 unfold comp
 rw [gL_reverse]; exact this
theorem z_le_gO {n : Nat} {o : Opz} (h : vO n o = true) : o.z.natAbs ≤ gO o := by
 rcases (vO_ok h).2 with ⟨hk, _, hz⟩ | ⟨hk, _, _, hz⟩ | ⟨hk, _, _⟩
 · rw [hz]; simp
 · rw [hz]; simp
 · unfold gO; rw [if_pos hk]; omega
theorem gO_le_gL {o : Opz} : ∀ {l : List Opz}, o ∈ l → gO o ≤ gL l
 | [], h => by simp at h
 | x :: l, h => by
   simp only [gL]
   rcases List.mem_cons.1 h with rfl | h
   · exact Nat.le_mul_of_pos_right _ (gL_pos l)
   · exact Nat.le_trans (gO_le_gL h) (Nat.le_mul_of_pos_left _ (gO_pos x))
theorem z_le_gL {n : Nat} {l : List Opz} (hv : ∀ o ∈ l, vO n o = true) : ∀ o ∈ l, o.z.natAbs ≤ gL l := fun o ho => Nat.le_trans (z_le_gO (hv o ho)) (gO_le_gL ho)
theorem apply_gen {r c K : Nat} {l : List Opz} {m : List (List Int)} (hv : ∀ o ∈ l, vO r o = true) (hz : ∀ o ∈ l, o.z.natAbs ≤ K) (hl : l.length ≤ 4294967295) (hm : Mx r c m) (hp : ∀ i, i ≤ l.length → BdM K (apL r c (l.take i) m)) (hS : ∀ y : Int, y.natAbs ≤ K * K → Sz y)
   (hr : r ≤ 4294967296) (hc : c ≤ 4294967296) : FnD prog 45 [vs (oL l), eM r c m] (eME r c (apL r c l m) 0) [] := by
 refine vc45_ok _ _ _ _ (R := Out _) ?_
 unfold vc45
 have hk2 : ∀ {y : Int}, y.natAbs ≤ K → Sz y := fun h => hS _ (Nat.le_trans h (le_sq K))
 have hsz : SzO l := fun o ho => hk2 (hz o ho)
 have hval := valid_ok (l := l) (n := r) (by omega) hsz
 rw [List.all_eq_true.2 hv] at hval
 refine ⟨_, hval, fun h => absurd h (by simp), fun _ => ⟨_, _, _, copied_gen hm (fun i j hi hj => hk2 (el_bd hm (by have := hp 0 (Nat.zero_le _); simpa [apL] using this) hi hj)) hr hc, effects_ok, ?_⟩⟩
 simp only [oL_length]
 refine ⟨fun o t => ∃ i : Nat, t = (i:Int) ∧ i ≤ l.length ∧ o = om (apL r c (l.take i) m), fun _ t => ((l.length:Int) - t).toNat, ⟨0, rfl, by omega, by simp [apL]⟩, ?_⟩
 rintro _ _ ⟨i, rfl, hi, rfl⟩
 refine ⟨fun h => ?_, fun h => ?_⟩
 · have hir : i < l.length := by simpa using h
   have ho := hv _ (List.getElem_mem hir)
   have hmx := apL_mx (l.take i) hm
   have hbd := hp i (by omega)
   have hrest : om (apO r c l[i] (apL r c (l.take i) m)) = om (apL r c (l.take (i + 1)) m) := by rw [apL_take hir]
   have hnext : (fun (o : DLL) (t:Int) => ∃ i : Nat, t = (i:Int) ∧ i ≤ l.length ∧ o = om (apL r c (l.take i) m)) (om (apO r c l[i] (apL r c (l.take i) m))) (IntKind.i64.wrap ((i:Int) + 1)) ∧
       ((l.length:Int) - (IntKind.i64.wrap ((i:Int) + 1))).toNat < ((l.length:Int) - (i:Int)).toNat := by
     rw [inc64 (by omega)]
     exact ⟨⟨i + 1, rfl, by omega, hrest⟩, by omega⟩
   refine ⟨_, _, _, _, _, ⟨by omega, by omega⟩, oL_get hir, ?_⟩
   obtain ⟨hk4, q, hq, hQ⟩ := effQ_of ho hmx hbd (hz _ (List.getElem_mem hir)) hS hc
   exact ⟨q, [], om (apO r c l[i] (apL r c (l.take i) m)), ⟨by omega, by omega⟩, hq, hQ, hnext⟩
 · have hir : i = l.length := by have : l.length ≤ i := by simpa using h
                                 omega
   subst hir
   rw [List.take_length]
   exact outME (matD_om _)
theorem inL_pre {r c : Nat} {l : List Opz} {m : List (List Int)} (hv : ∀ o ∈ l, vO r o = true) (hm : Mx r c m) {i : Nat} (hi : i ≤ l.length) : apL r c ((inL l).take i) (apL r c l m) = apL r c (l.take (l.length - i)) m := by
 have e1 : l = l.take (l.length - i) ++ l.drop (l.length - i) := (List.take_append_drop _ _).symm
 have hl : (inL (l.drop (l.length - i))).length = i := by rw [inL_length, List.length_drop]; omega
 have e2 : inL l = inL (l.drop (l.length - i)) ++ inL (l.take (l.length - i)) := by
   conv => lhs; rw [e1]
   simp [inL]
 have e3 : (inL l).take i = inL (l.drop (l.length - i)) := by
   rw [e2]; exact List.take_left' hl
 rw [e3]
 conv => lhs; arg 4; rw [e1, apL_append]
 exact apL_inv (fun o ho => hv o (List.mem_of_mem_drop ho)) (apL_mx _ hm)
theorem undo_gen {r c K : Nat} {l : List Opz} {m : List (List Int)} (hv : ∀ o ∈ l, vO r o = true) (hz : ∀ o ∈ l, o.z.natAbs ≤ K) (hl : l.length ≤ 4294967295) (hm : Mx r c m) (hp : ∀ i, i ≤ l.length → BdM K (apL r c (l.take i) m)) (hS : ∀ y : Int, y.natAbs ≤ K * K → Sz y)
   (hr : r ≤ 4294967296) (hc : c ≤ 4294967296) : FnD prog 46 [vs (oL l), eM r c (apL r c l m)] (eME r c m 0) [] := by
 have hk2 : ∀ {y : Int}, y.natAbs ≤ K → Sz y := fun h => hS _ (Nat.le_trans h (le_sq K))
 refine vc46_ok _ _ _ _ (R := Out _) ?_
 unfold vc46
 have hval := valid_ok (l := l) (n := r) (by omega) fun o ho => hk2 (hz o ho)
 rw [List.all_eq_true.2 hv] at hval
 have ha := apply_gen (l := inL l) (m := apL r c l m) (K := K) (inL_valid hv) (fun o ho => by
   simp only [inL, List.mem_map, List.mem_reverse] at ho
   obtain ⟨o', ho', rfl⟩ := ho
   have := hz o' ho'
   simpa [inO] using this) (by rw [inL_length]; exact hl) (apL_mx _ hm) (fun i hi => by
   rw [inL_length] at hi
   rw [inL_pre hv hm hi]
   exact hp _ (by omega)) hS hr hc
 rw [apL_inv hv hm] at ha
 exact ⟨_, hval, fun h => absurd h (by simp), fun _ => ⟨_, _, _, _, _, invert_oL (by omega), ha, rfl, rfl⟩⟩
theorem rapply_gen {r c K N : Nat} {l : List Opz} {m : List (List Int)} (hv : ∀ o ∈ l, vO r o = true) (hg : gL l * N ≤ K) (h1 : 1 ≤ N) (hl : l.length ≤ 4294967295) (hm : Mx r c m) (km : BdM N m) (hS : ∀ y : Int, y.natAbs ≤ K * K → Sz y)
   (hr : r ≤ 4294967296) (hc : c ≤ 4294967296) (hN : N ≤ 1329227995784915872903807060280344576) : FnD prog 68 [vs (oL l), eM r c m] (eME r c (apL r c l m) 0) [] := by
 refine vc68_ok _ _ _ _ (R := Out _) ?_
 unfold vc68
 have hkS : ∀ {y : Int}, y.natAbs ≤ K → Sz y := fun h => hS _ (Nat.le_trans h (le_sq K))
 have hgl : gL l ≤ K := Nat.le_trans (Nat.le_mul_of_pos_right _ h1) hg
 have hz : ∀ o ∈ l, o.z.natAbs ≤ K := fun o ho => Nat.le_trans (z_le_gL hv o ho) hgl
 have hval := rvalid_list (l := l) (n := r) (by omega) fun o ho => hkS (hz o ho)
 rw [List.all_eq_true.2 hv] at hval
 refine ⟨_, hval, fun h => absurd h (by simp), fun _ => ⟨_, _, _, _, _, _, _, _, _, start_ok hm km hr hc hN, ?_⟩⟩
 simp only [oL_length]
 refine ⟨fun w0 w1 w3 w4 w6 w7 o2 o3 o4 t => ∃ i : Nat, t = (i:Int) ∧ i ≤ l.length ∧ w0 = r ∧ w1 = c ∧ w3 = r ∧ w4 = r ∧ w6 = r ∧ w7 = r ∧ o2 = om (apL r c (l.take i) m) ∧ o3 = om (apL r r (l.take i) (table r r delta)) ∧ o4 = om (apCL r (l.take i) (table r r delta)),
   fun _ _ _ _ _ _ _ _ _ t => ((l.length:Int) - t).toNat, ⟨0, rfl, by omega, rfl, rfl, rfl, rfl, rfl, rfl, by simp [apL], by simp [apL], by simp [apCL]⟩, ?_⟩
 rintro _ _ _ _ _ _ _ _ _ _ ⟨i, rfl, hi, rfl, rfl, rfl, rfl, rfl, rfl, rfl, rfl, rfl⟩
 refine ⟨fun h => ?_, fun h => ?_⟩
 · have hir : i < l.length := by simpa using h
   have ho := hv _ (List.getElem_mem hir)
   have hpre : ∀ o ∈ l.take i, vO r o = true := fun o ho => hv o (List.mem_of_mem_take ho)
   have mm := apL_mx (l.take i) hm
   have mu := apL_mx (l.take i) (table_mx r r delta)
   have mv := apCL_mx (l.take i) (table_mx r r delta)
   have hgt : gL (l.take i) ≤ gL l := gL_prefix (List.take_append_drop i l)
   have kI := ident_bd r
   have bm : BdM K (apL r c (l.take i) m) := (apL_g hpre hm km).mono (Nat.le_trans (Nat.mul_le_mul_right _ hgt) hg)
   have bu : BdM K (apL r r (l.take i) (table r r delta)) := (apL_g hpre (table_mx r r delta) kI).mono (by rw [Nat.mul_one]; exact Nat.le_trans hgt hgl)
   have bv : BdM K (apCL r (l.take i) (table r r delta)) := (apCL_g hpre (table_mx r r delta) kI).mono (by rw [Nat.mul_one]; exact Nat.le_trans hgt hgl)
   have e1 : om (apO r c l[i] (apL r c (l.take i) m)) = om (apL r c (l.take (i + 1)) m) := by rw [apL_take hir]
   have e2 : om (apO r r l[i] (apL r r (l.take i) (table r r delta))) = om (apL r r (l.take (i + 1)) (table r r delta)) := by rw [apL_take hir]
   have e3 : om (apC r l[i] (apCL r (l.take i) (table r r delta))) = om (apCL r (l.take (i + 1)) (table r r delta)) := by rw [apCL_take hir]
   refine ⟨_, _, _, _, _, ⟨by omega, by omega⟩, oL_get hir, ?_⟩
   rw [inc64 (by omega)]
   have hdec : ((l.length:Int) - ((i + 1:Nat) : Int)).toNat < ((l.length:Int) - (i:Int)).toNat := by omega
   refine ⟨fun hk => ?_, fun hk => ⟨fun hk2 => ?_, fun hk2 => ?_⟩⟩
   · have hk' : l[i].k = 1 := by simpa using (natEq _ 1).symm.trans hk
     exact ⟨_, _, _, _, _, _, _, _, _, wswap_ok ho hk' mm mu mv hr, ⟨i + 1, rfl, by omega, rfl, rfl, rfl, rfl, rfl, rfl, e1, e2, e3⟩, hdec⟩
   · have hk' : l[i].k = 2 := by simpa using (natEq _ 2).symm.trans hk2
     exact ⟨_, _, _, _, _, _, _, _, _, wneg_gen ho hk' mm mu mv bm bu bv (fun y hy => hkS hy) hr hc, ⟨i + 1, rfl, by omega, rfl, rfl, rfl, rfl, rfl, rfl, e1, e2, e3⟩, hdec⟩
   · have hk1 : l[i].k ≠ 1 := by simpa using (natEq _ 1).symm.trans hk
     have hk2' : l[i].k ≠ 2 := by simpa using (natEq _ 2).symm.trans hk2
     have hk3 : l[i].k = 3 := by
       rcases (vO_ok ho).2 with g | g | g
       · omega
       · omega
       · exact g.1
     exact ⟨_, _, _, _, _, _, _, _, _, wadd_gen ho hk3 mm mu mv bm bu bv (hkS (hz _ (List.getElem_mem hir))) (fun y hy => ⟨hkS hy, hS _ (mul_natAbs_le (hz _ (List.getElem_mem hir)) hy)⟩) hr hc, ⟨i + 1, rfl, by omega, rfl, rfl, rfl, rfl, rfl, rfl, e1, e2, e3⟩, hdec⟩
 · have hir : i = l.length := by have : l.length ≤ i := by simpa using h
                                 omega
   subst hir
   rw [List.take_length]
   exact outME (matD_om _)
end Go.AM
/- What functions of the program come to: group P13. Printed by vc.py. -/
set_option maxRecDepth 100000
set_option linter.unusedVariables false
namespace Go.AM
open Go.Proofs.Try
def vc13 (x0 x1:Int) (x2 : DL) (R:V → Heap → Prop) : Prop :=
 ∃ (r:Bool),
 (FnD prog 43 [] (vD (dB r)) []) ∧
 (∃ (r0 r1:Int) (rrows : DLL),
 (FnD prog 15 [vA [sD (D.int .u8 x0),sD (D.int .u8 x1),sD (dL x2)]] (vA [sD (dI r0),sD (dI r1),S.ref 0]) [some (Obj.mat 2 rrows)]) ∧
 (∃ (r2 : DL),
 (FnD prog 67 [vA [sD (dI r0),sD (dI r1),sD (dL (matD rrows))]] (vD (dL r2)) []) ∧
 (∃ (r3:Bool),
 (FnD prog 51 [vD (dL r2),vD (dI r0)] (vD (dB r3)) []) ∧
 (((!r3) = true →
 R (vD (dB false)) []) ∧
 ((!r3) = false →
 (decide ((r2.length:Int) > (2000:Int)) = true →
 R (vD (dB false)) []) ∧
 (decide ((r2.length:Int) > (2000:Int)) = false →
 ∃ (r01 r11:Int) (r21 : DL) (r4:Int),
 (FnD prog 68 [vD (dL r2),vA [sD (dI r0),sD (dI r1),sD (dL (matD rrows))]] (V.tup [E.agg [sD (dI r01),sD (dI r11),sD (dL r21)],eD (dI r4)]) []) ∧
 (∃ (r02 r12:Int) (r22 : DL) (r5:Int),
 (FnD prog 46 [vD (dL r2),vA [sD (dI r01),sD (dI r11),sD (dL r21)]] (V.tup [E.agg [sD (dI r02),sD (dI r12),sD (dL r22)],eD (dI r5)]) []) ∧
 ((r = true →
 ∃ (r03 r13:Int) (r23 : DL) (r31 r41:Int) (r51 : DL) (r6 r7:Int) (r8 : DL) (r9:Bool),
 (FnD prog 69 [vA [sD (dI r0),sD (dI r1),sD (dL (matD rrows))]] (vA [sD (dI r03),sD (dI r13),sD (dL r23),sD (dI r31),sD (dI r41),sD (dL r51),sD (dI r6),sD (dI r7),sD (dL r8)]) []) ∧
 (FnD prog 23 [vA [sD (dI r01),sD (dI r11),sD (dL r21)],vA [sD (dI r03),sD (dI r13),sD (dL r23)]] (vD (dB r9)) []) ∧
 ((r9 = true →
 ((r5 == (0:Int)) = true →
 ∃ (r10:Bool),
 (FnD prog 23 [vA [sD (dI r02),sD (dI r12),sD (dL r22)],vA [sD (dI r0),sD (dI r1),sD (dL (matD rrows))]] (vD (dB r10)) []) ∧
 (R (vD (dB r10)) [])) ∧
 ((r5 == (0:Int)) = false →
 R (vD (dB false)) [])) ∧
 (r9 = false →
 R (vD (dB false)) []))) ∧
 (r = false →
 R (vD (dB false)) [])))))))))
theorem vc13_ok (x0 x1:Int) (x2 : DL) {R:V → Heap → Prop} (h : vc13 x0 x1 x2 R) : FnG prog 13 [vA [sD (D.int .u8 x0),sD (D.int .u8 x1),sD (dL x2)]] [] R :=
 FnG.vcg hT func13 ntmps13 (.reg 1 [(0,Or.none,0,1)] [1] [0] [] <| .exb fun r => .reg 0 [(0,Or.call (vD (dB r)) [] [],0,0)] [1,3] [0] [] <| .ex fun r0 => .ex fun r1 => .exm fun rrows => .reg 2 [(1,Or.call (vA [sD (dI r0),sD (dI r1),S.ref 0]) [some (Obj.mat 2 rrows)] [],1,1),(2,Or.none,2,1)] [3,4] [2,1] [] <| .frz [1] <| .exl fun r2 => .reg 0 [(1,Or.call (vD (dL r2)) [] [],0,0)] [3,4,5] [0] [] <| .exb fun r3 => .reg 0 [(3,Or.call (vD (dB r3)) [] [],0,0)] [3,4,5,6] [0] [] <| .spl ((!r3)) (.reg 0 [(2,Or.bool true,0,0)] [3,4,5,26] [0] [.old 0] <| .ct true none <| .r0 [2] <| .ret []) (.reg 0 [(2,Or.bool false,0,0)] [3,4,5,26] [0] [.old 0] <| .c2 (.r0 [2] <| .ret []) (.ex fun r01 => .ex fun r11 => .exl fun r21 => .ex fun r4 => .reg 1 [(2,Or.call (V.tup [E.agg [sD (dI r01),sD (dI r11),sD (dL r21)],eD (dI r4)]) [] [],0,0),(6,Or.none,1,1)] [3,4,5,7] [0,1] [] <| .ex fun r02 => .ex fun r12 => .exl fun r22 => .ex fun r5 => .reg 1 [(2,Or.call (V.tup [E.agg [sD (dI r02),sD (dI r12),sD (dL r22)],eD (dI r5)]) [] [],0,0),(6,Or.none,2,1)] [3,4,7,9,10] [0,1,2] [] <| .spl r (.ex fun r03 => .ex fun r13 => .exl fun r23 => .ex fun r31 => .ex fun r41 => .exl fun r51 => .ex fun r6 => .ex fun r7 => .exl fun r8 => .exb fun r9 => .ob (FnD prog 69 [vA [sD (dI r0),sD (dI r1),sD (dL (matD rrows))]] (vA [sD (dI r03),sD (dI r13),sD (dL r23),sD (dI r31),sD (dI r41),sD (dL r51),sD (dI r6),sD (dI r7),sD (dL r8)]) []) <| .ob (FnD prog 23 [vA [sD (dI r01),sD (dI r11),sD (dL r21)],vA [sD (dI r03),sD (dI r13),sD (dL r23)]] (vD (dB r9)) []) <| .spl r9 (.spl ((r5 == (0:Int))) (.exb fun r10 => .drw 0 [(1,(Or.bool true,0,0),[]),(4,(Or.call (vA [sD (dI r03),sD (dI r13),sD (dL r23),sD (dI r31),sD (dI r41),sD (dL r51),sD (dI r6),sD (dI r7),sD (dL r8)]) [] [],0,0),[]),(6,(Or.call (vD (dB r9)) [] [],0,0),[]),(8,(Or.bool true,0,0),[]),(12,(Or.bool true,0,0),[]),(15,(Or.call (vD (dB r10)) [] [],0,0),[])] [2] [] [.old 4,.old 3,.old 2,.old 1,.old 0] <| .ret []) (.drw 0 [(1,(Or.bool true,0,0),[]),(4,(Or.call (vA [sD (dI r03),sD (dI r13),sD (dL r23),sD (dI r31),sD (dI r41),sD (dL r51),sD (dI r6),sD (dI r7),sD (dL r8)]) [] [],0,0),[]),(6,(Or.call (vD (dB r9)) [] [],0,0),[]),(8,(Or.bool true,0,0),[]),(12,(Or.bool false,0,0),[])] [2] [] [.old 4,.old 3,.old 2,.old 1,.old 0] <| .ret [])) (.drw 0 [(1,(Or.bool true,0,0),[]),(4,(Or.call (vA [sD (dI r03),sD (dI r13),sD (dL r23),sD (dI r31),sD (dI r41),sD (dL r51),sD (dI r6),sD (dI r7),sD (dL r8)]) [] [],0,0),[]),(6,(Or.call (vD (dB r9)) [] [],0,0),[]),(8,(Or.bool false,0,0),[])] [2] [] [.old 3,.old 2,.old 1,.old 0] <| .ret [])) (.drw 0 [(1,(Or.bool false,0,0),[])] [2] [] [.old 0] <| .ret []))))
   (by kernel_rfl) (by kernel_rfl) (by kernel_rfl) h
end Go.AM
/- The law of oplog.Reduce. -/
namespace Go.AM
open Go.Proofs.Try
theorem same_gen {n c' : Nat} {a b : List (List Int)} (ha : Mx n c' a) (sa : SzM a) (sb : SzM b) (hn : n ≤ 4294967296) (hc' : c' ≤ 4294967296) : FnD prog 23 [eM n c' a, eM n c' b] (vb (decide (a = b))) [] := by
 have := same_ok (r := n) (c := c') (r' := n) (c' := c') sa sb (by rw [ha.1]; exact hn) fun y hy => by rw [ha.2 y hy]; exact hc'
 rwa [show decide ((n:Int) = n ∧ (c':Int) = c' ∧ a = b) = decide (a = b) by simp] at this
theorem big_form : ∀ r, r ≤ 4 → ∀ c, c ≤ 4 → (24 * 9) ^ ((2 * r + 2) ^ c) * (24 * 9) ^ ((2 * r + 2) ^ c) * 4294967296 < 4294967296 ^ 10000 := by decide +kernel
theorem form_small {r c : Nat} {a : List (List Int)} (hm : Mx r c a) (km : BdM 9 a) (hr : r ≤ 4) (hc : c ≤ 4) :
   FnD prog 69 [eM r c a] (eHer r c (apL r c (formL r c c 0 0 a) a) (apL r r (formL r c c 0 0 a) (table r r delta)) (apCL r (formL r c c 0 0 a) (table r r delta))) [] :=
 form_walk (formC hm km (by decide) (by omega) (by omega) (L := 10000) (by decide) (big_form r hr c hc)) rfl km (by decide)
theorem big_red : ∀ r, r ≤ 4 → ∀ c, c ≤ 4 → (9 * qB r 9 c) * (9 * qB r 9 c) * 4294967296 < 4294967296 ^ 1000 := by decide +kernel
theorem reduces_ok (x0:Int) (g0 : IntKind.u8.min ≤ x0 ∧ x0 ≤ IntKind.u8.max) (x1:Int) (g1 : IntKind.u8.min ≤ x1 ∧ x1 ≤ IntKind.u8.max) (l2 : DL) (g2 : l2.length ≤ 9223372036854775807 ∧ ∀ x ∈ l2, DOKL [.i .i8] x) :
   FnD prog 13 [.e (.agg [.dat (.int .u8 x0), .dat (.int .u8 x1), .dat (.sl l2)])] (vb true) [] := by
 obtain ⟨v, rfl, _⟩ := i8s_of g2
 obtain ⟨r, c, hr, hc, hA⟩ := rawmade_ok v g0.1 g1.1
 obtain ⟨a, ea⟩ : ∃ a, a = table r c (fillG c v) := ⟨_, rfl⟩
 have ma : Mx r c a := ea ▸ table_mx _ _ _
 have ka : BdM 9 a := ea ▸ filled_bd
 rw [← ea] at hA
 clear ea
 obtain ⟨FL, eFL⟩ : ∃ FL, redO r c a = FL := ⟨_, rfl⟩
 obtain ⟨va, gb, _, t, k, hI, ht, hk, he⟩ := redO_ok ma ka
 have hlen := redO_len ma ka hr hc
 rw [eFL] at va gb hI hlen
 obtain ⟨K, eK⟩ : ∃ K, K = 9 * qB r 9 c := ⟨_, rfl⟩
 have hbig : K * K * 4294967296 < 4294967296 ^ 1000 := by rw [eK]; exact big_red r hr c hc
 have hS : ∀ y : Int, y.natAbs ≤ K * K → Sz y := fun y hy => Sz.of_lt 1000 (by decide) (Nat.lt_of_le_of_lt (Nat.le_trans hy (Nat.le_mul_of_pos_right _ (by decide))) hbig)
 have hkS : ∀ {y : Int}, y.natAbs ≤ K → Sz y := fun h => hS _ (Nat.le_trans h (le_sq K))
 have hgK : ∀ {x : Nat}, x ≤ qB r 9 c → x * 9 ≤ K := fun h => by rw [eK, Nat.mul_comm]; exact Nat.mul_le_mul_left _ h
 have hqK : ∀ {x : Nat}, x ≤ qB r 9 c → x ≤ K := fun h => Nat.le_trans h (by rw [eK]; omega)
 have bdP : ∀ {l : List Opz}, (∀ o ∈ l, vO r o = true) → gL l ≤ qB r 9 c → ∀ d e, d ++ e = l → BdM K (apL r c d a) := fun hv hg d e h => by
   refine (apL_g (fun o ho => hv o (by rw [← h]; exact List.mem_append_left _ ho)) ma ka).mono ?_
   exact hgK (Nat.le_trans (gL_prefix h) hg)
 have X : RX r c K 1000 a FL := ⟨ma, bdP va gb, va, Nat.lt_of_le_of_lt (Nat.mul_le_mul_right _ (le_sq K)) hbig, by decide, by omega, by omega⟩
 have hcomp : FnD prog 50 [vs (oL FL)] (vs (oL (comp FL))) [] := by
   refine compact_gen (fun o ho => hkS (hqK (Nat.le_trans (z_le_gL va o ho) gb))) (fun i hi y hy => ?_) (by omega)
   obtain ⟨q1, q2⟩ := gL_compR FL va i hi
   exact hkS (hqK (Nat.le_trans (z_le_gL q2 y hy) (Nat.le_trans q1 (Nat.le_trans (gL_prefix (List.take_append_drop i FL)) gb))))
 have hred := reduce_ok eFL X (ka.mono (by decide)) (by omega) (fun d o e h => effQ_of (va o (by rw [← h]; simp)) (apL_mx _ ma) (bdP va gb d _ h) (hqK (Nat.le_trans (z_le_gL va o (by rw [← h]; simp)) gb)) hS (by omega)) hcomp
 obtain ⟨l, el⟩ : ∃ l, comp FL = l := ⟨_, rfl⟩
 have hv : ∀ o ∈ l, vO r o = true := el ▸ comp_valid va
 have hg : gL l ≤ qB r 9 c := by rw [← el]; exact Nat.le_trans (gL_comp va) gb
 have hl : l.length ≤ 2000 := by rw [← el]; exact Nat.le_trans (comp_length FL) hlen
 have eA : apL r c l a = apL r c FL a := by rw [← el]; exact apL_comp va ma
 rw [el] at hred
 obtain ⟨t2, k2, h2, a1, a2, a3⟩ := formL_hi (r := r) (cc := c) c 0 0 a (by omega) (by omega) HI.zero
 have hE : apL r c (formL r c c 0 0 a) a = apL r c l a := by
   rw [eA]; exact hermite_eq ma (formL_ok c 0 0 a 9 (by omega) ma ka).1 va h2 a1 a2 a3 hI ht hk he
 have fm := form_small ma ka hr hc
 rw [hE] at fm
 have rv := rvalid_list (l := l) (n := r) (by omega) fun o ho => hkS (hqK (Nat.le_trans (z_le_gL hv o ho) hg))
 rw [List.all_eq_true.2 hv] at rv
 have ra := rapply_gen (N := 9) hv (hgK hg) (by decide) (by omega) ma ka hS (by omega) (by omega) (by decide)
 have ud := undo_gen (m := a) hv (fun o ho => hqK (Nat.le_trans (z_le_gL hv o ho) hg)) (by omega) ma (fun i hi => bdP hv hg _ _ (List.take_append_drop i l)) hS (by omega) (by omega)
 have szH : SzM (apL r c l a) := fun x hx z hz => hkS (bdP hv hg l [] (List.append_nil _) x hx z hz)
 have s1 := same_gen (apL_mx l ma) szH szH (show r ≤ 4294967296 by omega) (show c ≤ 4294967296 by omega)
 have s2 := same_gen ma (ka.sz (by decide)) (ka.sz (by decide)) (show r ≤ 4294967296 by omega) (show c ≤ 4294967296 by omega)
 rw [decide_eq_true rfl] at s1 s2
 refine vc13_ok _ _ _ (R := Out _) ?_
 unfold vc13
 have hred' : FnD prog 67 [vA [sD (dI r), sD (dI c), sD (dL (matD (om a)))]] (vs (oL l)) [] := by rw [matD_om]; exact hred
 have ra' : FnD prog 68 [vs (oL l), vA [sD (dI r), sD (dI c), sD (dL (matD (om a)))]] (eME r c (apL r c l a) 0) [] := by rw [matD_om]; exact ra
 have fm' : FnD prog 69 [vA [sD (dI r), sD (dI c), sD (dL (matD (om a)))]] (eHer r c (apL r c l a) (apL r r (formL r c c 0 0 a) (table r r delta)) (apCL r (formL r c c 0 0 a) (table r r delta))) [] := by rw [matD_om]; exact fm
 have s2' : FnD prog 23 [eM r c a, vA [sD (dI r), sD (dI c), sD (dL (matD (om a)))]] (vb true) [] := by rw [matD_om]; exact s2
 refine ⟨_, sanity18_ok, _, _, _, hA, _, hred', _, rv, fun h => absurd h (by decide), fun _ => ⟨fun h => ?_, fun _ => ⟨_, _, _, _, ra', _, _, _, _, ud, fun _ => ⟨_, _, _, _, _, _, _, _, _, _, fm', s1, fun _ => ⟨fun _ => ⟨_, s2', outb rfl⟩, fun h => absurd h (by decide)⟩, fun h => absurd h (by decide)⟩, fun h => absurd h (by decide)⟩⟩⟩
 rw [oL_length] at h
 have := of_decide_eq_true h
 omega
end Go.AM
