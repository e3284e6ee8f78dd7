/- integer.long: what it answers. -/
import Derived.Test.YtbodjgljjaafaaaL6
namespace Go.AM
open Go.Proofs.Try
def padK:Nat → Nat → List Nat
 | 0, _ => []
 | m + 1, q => q % 4294967296 :: padK m (q / 4294967296)
theorem padK_len : ∀ (m q:Nat), (padK m q).length = m
 | 0, _ => rfl
 | m + 1, q => by simp [padK, padK_len m]
theorem padK_lt : ∀ (m q:Nat), ∀ x ∈ padK m q, x < 4294967296
 | 0, _, x, h => by simp [padK] at h
 | m + 1, q, x, h => by
   simp only [padK, List.mem_cons] at h
   rcases h with rfl | h
   · exact Nat.mod_lt _ (by decide)
   · exact padK_lt m _ x h
theorem padK_val : ∀ (m q:Nat), q < 4294967296 ^ m → val (padK m q) = q
 | 0, q, h => by simp at h; subst h; rfl
 | m + 1, q, h => by
   rw [Nat.pow_succ] at h
   simp only [padK, val]
   rw [padK_val m _ ((Nat.div_lt_iff_lt_mul (by decide)).2 h)]
   have := Nat.div_add_mod q 4294967296
   omega
theorem padK_of : ∀ {l : List Nat}, (∀ x ∈ l, x < 4294967296) → padK l.length (val l) = l
 | [], _ => rfl
 | x :: l, h => by
   have hx := h x (by simp)
   simp only [List.length_cons, padK, val]
   rw [show (x + 4294967296 * val l) % 4294967296 = x by omega, show (x + 4294967296 * val l) / 4294967296 = val l by omega, padK_of fun y hy => h y (by simp [hy])]
theorem split2 {α : Type} {l : List α} (h : 2 ≤ l.length) : ∃ p x y, l = p ++ [x, y] ∧ p.length + 2 = l.length := by
 refine ⟨l.take (l.length - 2), l[l.length - 2], l[l.length - 1], ?_, by rw [List.length_take]; omega⟩
 have h1 := List.take_append_drop (l.length - 2) l
 have h2 : l.drop (l.length - 2) = [l[l.length - 2], l[l.length - 1]] := by
   rw [List.drop_eq_getElem_cons (by omega)]
   congr 1
   rw [List.drop_eq_getElem_cons (by omega)]
   have e : l.length - 2 + 1 = l.length - 1 := by omega
   congr 1
   · simp only [e]
   · exact List.drop_eq_nil_iff.2 (by omega)
 rw [h2] at h1
 exact h1.symm
theorem shR_get (k:Nat) : ∀ (l : List Nat) (c:Nat) (h : c + 1 < l.length), (shR k l)[c]? = some (l[c] / 2 ^ k + (l[c + 1] * 2 ^ (32 - k)) % 4294967296)
 | [], c, h => by simp at h
 | [x], c, h => by simp at h
 | x :: y :: l, 0, h => rfl
 | x :: y :: l, c + 1, h => by
   have := shR_get k (y :: l) c (by simpa using h)
   simpa [shR] using this
theorem shR_lt {k : Nat} (hk : k ≤ 32) {l : List Nat} (hl : ∀ x ∈ l, x < 4294967296) : ∀ z ∈ shR k l, z < 4294967296 := fun z hz => by
 obtain ⟨c, hc⟩ := List.mem_iff_getElem?.1 hz
 have hcl : c < (shR k l).length := by
   rcases Nat.lt_or_ge c (shR k l).length with h | h
   · exact h
   · rw [List.getElem?_eq_none h] at hc; simp at hc
 rw [shR_len] at hcl
 rw [shR_get k l c (by omega), Option.some.injEq] at hc
 subst hc
 have h1 : l[c] < 4294967296 := hl _ (List.getElem_mem _)
 have h2 : l[c] / 2 ^ k < 2 ^ (32 - k) := by
   rw [Nat.div_lt_iff_lt_mul (Nat.pow_pos (by decide)), ← Nat.pow_add, show 32 - k + k = 32 by omega]; exact h1
 have := lo_add (k := 32 - k) (by omega) h2 l[c + 1]
 omega
end Go.AM
/- integer.long: what it answers; integer.divide, integer.DivMod. -/
namespace Go.AM
open Go.Proofs.Try
theorem split3 {α : Type} {l : List α} {i n : Nat} (h : i + n < l.length) : ∃ pre seg ut post, l = pre ++ seg ++ ut :: post ∧ pre.length = i ∧ seg.length = n := by
 refine ⟨l.take i, (l.drop i).take n, l[i + n], l.drop (i + n + 1), ?_, by rw [List.length_take]; omega, by rw [List.length_take, List.length_drop]; omega⟩
 have h1 : (l.drop i).drop n = l[i + n] :: l.drop (i + n + 1) := by rw [List.drop_drop, List.drop_eq_getElem_cons h]
 rw [← h1, List.append_assoc, List.take_append_drop, List.take_append_drop]
theorem drop_set1 {l : List Nat} {i d : Nat} (h : i < l.length) : (l.set i d).drop i = d :: l.drop (i + 1) := by
 apply List.ext_getElem?
 intro c
 rw [List.getElem?_drop]
 match c with
 | 0 => simp [h]
 | c + 1 => rw [List.getElem?_set_ne (by omega), List.getElem?_cons_succ, List.getElem?_drop]; congr 1; omega
theorem fill_set {l : List Nat} {c : Nat} (h : c < l.length) : (l.take c ++ List.replicate (l.length - c) 0).set c l[c] = l.take (c + 1) ++ List.replicate (l.length - (c + 1)) 0 := by
 rw [List.set_append_right _ _ (by rw [List.length_take]; omega), List.length_take, Nat.min_eq_left (by omega), Nat.sub_self,
   show l.length - c = (l.length - (c + 1)) + 1 by omega, List.replicate_succ, List.set_cons_zero]
 have : l.take (c + 1) = l.take c ++ [l[c]] := by rw [List.take_add_one, List.getElem?_eq_getElem h]; rfl
 rw [this, List.append_assoc]; rfl
theorem lg1 {V N P S X : Nat} (hVN:V ≤ N) (h : S + P * (N * 4294967296 * X) < V * (P * 4294967296)) : X = 0 := by
 rcases Nat.eq_zero_or_pos X with h0 | h0
 · exact h0
 · exfalso
   have h1 : P * (N * 4294967296 * 1) ≤ P * (N * 4294967296 * X) := Nat.mul_le_mul_left _ (Nat.mul_le_mul_left _ h0)
   have h2:V * (P * 4294967296) ≤ N * (P * 4294967296) := Nat.mul_le_mul_right _ hVN
   have h3 : N * (P * 4294967296) = P * (N * 4294967296 * 1) := by rw [Nat.mul_one, Nat.mul_left_comm]
   omega
theorem lg2 {V P S W : Nat} (h : S + P * W < V * (P * 4294967296)) : W < V * 4294967296 := by
 apply Classical.byContradiction
 intro hc
 have h1 : P * (V * 4294967296) ≤ P * W := Nat.mul_le_mul_left _ (by omega)
 have h2 : P * (V * 4294967296) = V * (P * 4294967296) := by rw [Nat.mul_left_comm]
 omega
theorem lg3 (a S P N ut X:Nat) : a + P * S + P * N * (ut + 4294967296 * X) = a + P * (S + ut * N) + P * (N * 4294967296 * X) := by
 simp only [Nat.mul_add, Nat.mul_assoc, Nat.mul_comm, Nat.mul_left_comm]
 omega
theorem lg4 {Qo P V W a : Nat} : Qo * (P * 4294967296) * V + (a + P * W) = (W / V + 4294967296 * Qo) * P * V + (a + P * (W % V)) := by
 have hWdm := Nat.div_add_mod W V
 generalize W / V = d at *
 generalize W % V = md at *
 have a1 : Qo * (P * 4294967296) * V = 4294967296 * Qo * P * V := by rw [Nat.mul_comm P, ← Nat.mul_assoc, Nat.mul_comm Qo]
 have a2 : P * W = d * P * V + P * md := by
   rw [← hWdm, Nat.mul_add]
   congr 1
   rw [Nat.mul_comm V d, ← Nat.mul_assoc, Nat.mul_comm P d]
 rw [Nat.add_mul, Nat.add_mul, a1, a2]
 omega
theorem lg5 {V P W a : Nat} (ha : a < P) (hV : 0 < V) : a + P * (W % V) < V * P := by
 have h1 : P * (W % V + 1) ≤ P * V := Nat.mul_le_mul_left _ (Nat.mod_lt W hV)
 rw [Nat.mul_add P _ 1, Nat.mul_one] at h1
 rw [Nat.mul_comm V P]
 omega
theorem wdec {p : Nat} (h : p ≤ 4294967296) : IntKind.i64.wrap ((p:Int) - 1) = (p:Int) - 1 := w64 (by omega) (by omega)
theorem len3 {pre seg R post : List Nat} {ut x : Nat} (h : R.length = seg.length) : (pre ++ R ++ x :: post).length = (pre ++ seg ++ ut :: post).length := by simp [h]
theorem dec_lt (p:Nat) : ((p:Int) - 1 + 1).toNat < ((p:Int) + 1).toNat := by omega
def J0L (m n U V:Nat) (q u : DL) (i:Int) : Prop := ∃ (j:Nat) (qs ws : List Nat), i = (j:Int) - 1 ∧ j ≤ m ∧ q = lim qs ∧ u = lim ws ∧ qs.length = m ∧ ws.length = m + n ∧
 (∀ x ∈ qs, x < 4294967296) ∧ (∀ x ∈ ws, x < 4294967296) ∧ U = val (qs.drop j) * 4294967296 ^ j * V + val ws ∧ val ws < V * 4294967296 ^ j
def μ0L (_ _ : DL) (i:Int) : Nat := (i + 1).toNat
theorem J0_round {m n U V v1 v2 : Nat} {lowv : List Nat} (hmn : m + n ≤ 2147483648) (hn : lowv.length + 2 = n) (dV : ∀ x ∈ lowv ++ [v2, v1], x < 4294967296) (hv1 : 2147483648 ≤ v1) (vV : val (lowv ++ [v2, v1]) = V) (hVN:V ≤ 4294967296 ^ n) (hV0 : 0 < V)
   {q u : DL} {i : Int} (hJ : J0L m n U V q u i) (hi : decide (i ≥ 0) = true) : roundP (lim (lowv ++ [v2, v1])) u q i (J0L m n U V) μ0L := by
 obtain ⟨j, qs, ws, rfl, hj, rfl, rfl, lq, lw, dq, dw, hU', hlt'⟩ := hJ
 have hj1 : 1 ≤ j := by have := of_decide_eq_true hi; omega
 obtain ⟨i, rfl⟩ : ∃ i, j = i + 1 := ⟨j - 1, by omega⟩
 rw [show (((i + 1:Nat) : Int) - 1) = (i:Int) by omega]
 obtain ⟨pre, seg, ut, post, rfl, rfl, hseg⟩ := split3 (l := ws) (i := i) (n := n) (by omega)
 obtain ⟨lows, u2, lo, rfl, lowsl⟩ := split2 (l := seg) (by omega)
 have hqi : pre.length < qs.length := by omega
 have hpm : pre.length ≤ m := by omega
 have hqB : qs.length ≤ 4294967296 := by omega
 have hpB : pre.length ≤ 4294967296 := by omega
 have hwB : (pre ++ (lows ++ [u2, lo]) ++ ut :: post).length ≤ 4294967296 := by omega
 have hll : lows.length = lowv.length := by omega
 have hsl : (lowv ++ [v2, v1]).length = (lows ++ [u2, lo]).length := by simp [hll]
 have hpre := val_lt (l := pre) fun x hx => dw x (by simp [hx])
 have vws : val (pre ++ (lows ++ [u2, lo]) ++ ut :: post) = val pre + 4294967296 ^ pre.length * (val (lows ++ [u2, lo]) + ut * 4294967296 ^ (lows ++ [u2, lo]).length) + 4294967296 ^ pre.length * (4294967296 ^ n * 4294967296 * val post) := by
   rw [val_append, val_append, List.length_append, hseg, Nat.pow_add]
   exact lg3 _ _ _ _ _ _
 obtain ⟨W, hW⟩ : ∃ W, W = val (lows ++ [u2, lo]) + ut * 4294967296 ^ (lows ++ [u2, lo]).length := ⟨_, rfl⟩
 rw [← hW] at vws
 rw [Nat.pow_succ] at hlt' hU'
 have hpost : val post = 0 := lg1 (V := V) (N := 4294967296 ^ n) (P := 4294967296 ^ pre.length) (S := val pre + 4294967296 ^ pre.length * W) hVN (by rw [← vws]; exact hlt')
 rw [hpost, Nat.mul_zero, Nat.mul_zero, Nat.add_zero] at vws
 have hWV : W < V * 4294967296 := lg2 (P := 4294967296 ^ pre.length) (S := val pre) (by rw [← vws]; exact hlt')
 have hdig : W / V < 4294967296 := by rw [Nat.div_lt_iff_lt_mul hV0, Nat.mul_comm]; exact hWV
 refine round_ok (J0 := J0L m n U V) (μ0 := μ0L) (W := W) (V := V) hll dw dV hv1 hW vV.symm hWV hqi hwB hqB fun R hR dR vR => ?_
 have vnew : val (pre ++ R ++ 0 :: post) = val pre + 4294967296 ^ pre.length * (W % V) := by
   rw [val_append, val_append, vR]; simp [val, hpost]
 rw [wdec hpB]
 refine ⟨⟨pre.length, qs.set pre.length (W / V), pre ++ R ++ 0 :: post, rfl, hpm, rfl, rfl, (List.length_set ..).trans lq, (len3 (hR.trans hsl)).trans lw, fun x hx => ?_, fun x hx => ?_, ?_, ?_⟩, dec_lt _⟩
 · rcases List.mem_or_eq_of_mem_set hx with h | rfl
   · exact dq x h
   · exact hdig
 · simp only [List.mem_append, List.mem_cons] at hx
   rcases hx with (h | h) | rfl | h
   · exact dw x (by simp [h])
   · exact dR x h
   · decide
   · exact dw x (by simp [h])
 · rw [drop_set1 hqi, hU', vws, vnew]
   exact lg4
 · rw [vnew]
   exact lg5 hpre hV0
theorem J0_end {m n U V : Nat} (hV0 : 0 < V) {q u : DL} {i : Int} (hJ : J0L m n U V q u i) (hi : decide (i ≥ 0) = false) : q = lim (padK m (U / V)) ∧ u = lim (padK (m + n) (U % V)) := by
 obtain ⟨j, qs, ws, rfl, hj, rfl, rfl, lq, lw, dq, dw, hU', hlt'⟩ := hJ
 have hj0 : j = 0 := by have := of_decide_eq_false hi; omega
 subst hj0
 rw [Nat.pow_zero, Nat.mul_one] at hU' hlt'
 simp only [List.drop_zero] at hU'
 have u1 : val qs = U / V ∧ val ws = U % V := by
   rw [hU']
   constructor
   · rw [Nat.mul_comm, Nat.mul_add_div hV0, Nat.div_eq_of_lt hlt', Nat.add_zero]
   · rw [Nat.mul_comm, Nat.mul_add_mod, Nat.mod_eq_of_lt hlt']
 exact ⟨by rw [← u1.1, ← lq, padK_of dq], by rw [← u1.2, ← lw, padK_of dw]⟩
theorem back_val {k x y : Nat} (hk : k ≤ 31) (x1 : x < 4294967296) (x2 : y < 4294967296) :
   bitsI .u32 (· ||| ·) (((x:Nat) : Int).fdiv (2 ^ (min (k:Int).toNat IntKind.u32.bits))) (IntKind.u32.wrap ((IntKind.u64.wrap ((IntKind.u64.wrap ((y:Nat) : Int)) * 2 ^ (min (32:Int).toNat IntKind.u64.bits))).fdiv (2 ^ (min (k:Int).toNat IntKind.u64.bits)))) =
     ((x / 2 ^ k + (y * 2 ^ (32 - k)) % 4294967296:Nat) : Int) := by
 have hpk : 0 < 2 ^ k := Nat.pow_pos (by decide)
 have h2 : x / 2 ^ k < 2 ^ (32 - k) := by
   rw [Nat.div_lt_iff_lt_mul hpk, ← Nat.pow_add, show 32 - k + k = 32 by omega]; exact x1
 have g2 := orC (k := 32 - k) (c := x / 2 ^ k) (x := y) (by omega) h2
 have g3 : (((y * 4294967296:Nat) : Int)).fdiv (2 ^ (min (k:Int).toNat IntKind.u64.bits)) = ((y * 2 ^ (32 - k) : Nat) : Int) := by
   have hb : IntKind.u64.bits = 64 := rfl
   rw [hb, Int.toNat_natCast, Nat.min_eq_left (by omega), show ((2:Int) ^ k) = ((2 ^ k:Nat) : Int) by simp]
   rw [Int.fdiv_eq_ediv_of_nonneg _ (by omega)]
   have : y * 4294967296 = y * 2 ^ (32 - k) * 2 ^ k := by rw [Nat.mul_assoc, ← Nat.pow_add, show 32 - k + k = 32 by omega]
   rw [this, ← Int.natCast_ediv, Nat.mul_div_cancel _ hpk]
 rw [u32_shr _ _ (by omega), wu64 (n := ((y:Nat) : Int)) (by omega) (by omega), shl32 x2, g3]
 have g4 : IntKind.u32.wrap ((y * 2 ^ (32 - k) : Nat) : Int) = (((y * 2 ^ (32 - k)) % 4294967296:Nat) : Int) := by rw [wu32]; omega
 rw [g4, g2, Nat.add_comm]
def backP (v u q : DL) (r:Int) (R:V → Heap → Prop) : Prop :=
 (∃ (J8 : (DL) → Int → Prop) (μ8 : (DL) → Int → Nat),
 J8 (List.replicate ((v.length:Int)).toNat [(dU (0:Int))]) (0:Int) ∧ ∀ (r7 : DL) (t228:Int), J8 r7 t228 →
   ((decide (t228 < (v.length:Int))) = true →
     ∃ (vx24:Int) (vx25:Int),
     (0 ≤ t228 ∧ t228 < (u.length:Int)) ∧
     (u[(t228).toNat]? = some [(dU vx24)]) ∧
     (0 ≤ r) ∧
     (0 ≤ (IntKind.i64.wrap (t228 + (1:Int))) ∧ (IntKind.i64.wrap (t228 + (1:Int))) < (u.length:Int)) ∧
     (u[((IntKind.i64.wrap (t228 + (1:Int)))).toNat]? = some [(dU vx25)]) ∧
     (0 ≤ (32:Int)) ∧
     (0 ≤ t228 ∧ t228 < (r7.length:Int)) ∧
     (J8 (r7.set (t228).toNat [(dU (bitsI .u32 (· ||| ·) (vx24.fdiv (2 ^ (min r.toNat IntKind.u32.bits))) (IntKind.u32.wrap ((IntKind.u64.wrap ((IntKind.u64.wrap vx25) * 2 ^ (min (32:Int).toNat IntKind.u64.bits))).fdiv (2 ^ (min r.toNat IntKind.u64.bits))))))]) (IntKind.i64.wrap (t228 + (1:Int))) ∧ μ8 (r7.set (t228).toNat [(dU (bitsI .u32 (· ||| ·) (vx24.fdiv (2 ^ (min r.toNat IntKind.u32.bits))) (IntKind.u32.wrap ((IntKind.u64.wrap ((IntKind.u64.wrap vx25) * 2 ^ (min (32:Int).toNat IntKind.u64.bits))).fdiv (2 ^ (min r.toNat IntKind.u64.bits))))))]) (IntKind.i64.wrap (t228 + (1:Int))) < μ8 r7 t228)) ∧
   ((decide (t228 < (v.length:Int))) = false →
     R (V.tup [(eD (dL q)), (eD (dL r7))]) []))
theorem shback_ok {us SR : List Nat} {n N k : Nat} {v : DL} {q : DL} {R:V → Heap → Prop} (hv : v.length = n) (lr : us.length = N) (hN : n + 1 ≤ N) (hNB : N ≤ 2147483648) (dr : ∀ x ∈ us, x < 4294967296) (hk31 : k ≤ 31)
   (hSRe : SR = shR k (us.take (n + 1))) (hR : R (V.tup [(eD (dL q)), (eD (dL (lim SR)))]) []) : backP v (lim us) q (k:Int) R := by
 have lt1 : (us.take (n + 1)).length = n + 1 := by rw [List.length_take]; omega
 have lSR : SR.length = n := by rw [hSRe, shR_len, lt1]; omega
 have hSR : ∀ c : Nat, c < n → ∀ x y, us[c]? = some x → us[c + 1]? = some y → SR[c]? = some (x / 2 ^ k + (y * 2 ^ (32 - k)) % 4294967296) := fun c hc x y hx hy => by
   rw [hSRe, shR_get k _ c (by omega)]
   simp only [List.getElem_take]
   rw [List.getElem?_eq_getElem (by omega), Option.some.injEq] at hx hy
   rw [hx, hy]
 clear hSRe lt1
 have lw' : (lim us).length = N := by rw [lim_length]; exact lr
 unfold backP
 rw [hv]
 refine ⟨fun r t => ∃ c : Nat, t = (c:Int) ∧ c ≤ n ∧ r = lim (SR.take c ++ List.replicate (SR.length - c) 0), fun _ t => ((n:Int) - t).toNat, ⟨0, rfl, by omega, ?_⟩, ?_⟩
 · rw [Int.toNat_natCast, lim_rep, lSR]; simp
 rintro _ _ ⟨c, rfl, hc, rfl⟩
 refine ⟨fun h => ?_, fun h => ?_⟩
 · have hc1 : c < n := by have := of_decide_eq_true h; omega
   have ec : IntKind.i64.wrap ((c:Int) + 1) = ((c + 1:Nat) : Int) := by rw [w64 (by omega) (by omega)]; omega
   have x1 := dr _ (List.getElem_mem (l := us) (n := c) (by omega))
   have x2 := dr _ (List.getElem_mem (l := us) (n := c + 1) (by omega))
   have hx : us[c]? = some us[c] := List.getElem?_eq_getElem (by omega)
   have hy : us[c + 1]? = some us[c + 1] := List.getElem?_eq_getElem (by omega)
   have gx : (lim us)[c]? = some [dU ((us[c] : Nat) : Int)] := lim_get (by omega)
   have gy : (lim us)[c + 1]? = some [dU ((us[c + 1] : Nat) : Int)] := lim_get (by omega)
   generalize us[c] = x at *
   generalize us[c + 1] = y at *
   have g1 := hSR c hc1 x y hx hy
   have hval := back_val (k := k) hk31 x1 x2
   have hcS : c < SR.length := by omega
   rw [List.getElem?_eq_getElem hcS, Option.some.injEq] at g1
   rw [← g1] at hval
   have hl : (lim (SR.take c ++ List.replicate (SR.length - c) 0)).length = SR.length := by rw [lim_length, List.length_append, List.length_take, List.length_replicate]; omega
   refine ⟨(x:Int), (y:Int), ⟨by omega, by omega⟩, ?_, by omega, ?_, ?_, by decide, ⟨by omega, by omega⟩, ?_⟩
   · rw [Int.toNat_natCast]; exact gx
   · rw [ec]; omega
   · rw [ec, Int.toNat_natCast]; exact gy
   · rw [hval, ec, Int.toNat_natCast, lim_set, fill_set hcS]
     exact ⟨⟨c + 1, rfl, by omega, rfl⟩, by show ((n:Int) - ((c + 1:Nat) : Int)).toNat < ((n:Int) - (c:Int)).toNat; omega⟩
 · have hc1 : c = n := by have := of_decide_eq_false h; omega
   subst hc1
   rw [← lSR, List.take_length, Nat.sub_self, List.replicate_zero, List.append_nil]
   exact hR
set_option maxRecDepth 100000 in
set_option maxHeartbeats 2000000 in
theorem long_ok {A D : Nat} (lA : (digs A).length ≤ 1073741823) (hn : 2 ≤ (digs D).length) (hle : D ≤ A) :
   ∃ ql rl : List Nat, (∀ z ∈ ql, z < 4294967296) ∧ (∀ z ∈ rl, z < 4294967296) ∧ ql.length ≤ 1073741824 ∧ rl.length ≤ 1073741824 ∧ val ql = A / D ∧ val rl = A % D ∧
     FnD prog 170 [vs (lim (digs A)), vs (lim (digs D))] (.tup [eD (dL (lim ql)), eD (dL (lim rl))]) [] := by
 have ba := digs_lt A
 have bb := digs_lt D
 have va := val_digs A
 have vb' := val_digs D
 have cb := digs_canon D
 have hlen : (digs D).length ≤ (digs A).length := by
   rcases Nat.lt_or_ge (digs A).length (digs D).length with h | h
   · have := val_lt_of_len ba cb h
     omega
   · exact h
 generalize digs A = a at *
 generalize digs D = b at *
 obtain ⟨bl, top, rfl⟩ : ∃ bl top, b = bl ++ [top] := ⟨b.dropLast, b.getLast (by intro h; subst h; simp at hn), (List.dropLast_concat_getLast _).symm⟩
 have htop0 : top ≠ 0 := cb top (by simp)
 have htopB : top < 4294967296 := bb top (by simp)
 have hbl : ∀ x ∈ bl, x < 4294967296 := fun x hx => bb x (by simp [hx])
 have hn1 : 1 ≤ bl.length := by simp at hn; omega
 obtain ⟨z1, z2⟩ := lz_top htop0 htopB
 have hble := blen_le (x := top) (k := 32) htopB
 have hbl1 : 1 ≤ blen top := by unfold blen; rw [if_neg htop0]; omega
 have hb2 := (blen_bounds htop0).2
 have hlz := lz32_ok htopB
 obtain ⟨k, hk⟩ : ∃ k, k = 32 - blen top := ⟨_, rfl⟩
 rw [← hk] at z1 z2 hlz
 have hk31 : k ≤ 31 := by omega
 have hpk : 0 < 2 ^ k := Nat.pow_pos (by decide)
 have hk2 : 2 ^ k ≤ 2147483648 := by have := Nat.pow_le_pow_right (n := 2) (by decide) hk31; simpa using this
 have htk : (top + 1) * 2 ^ k ≤ 4294967296 := by
   have h1 : (top + 1) * 2 ^ k ≤ 2 ^ blen top * 2 ^ k := Nat.mul_le_mul_right _ hb2
   rw [← Nat.pow_add, show blen top + k = 32 by omega] at h1
   simpa using h1
 have sA := shift_ok (l := a) (k := k) ba (by omega) hk31
 have sB := shift_ok (l := bl ++ [top]) (k := k) bb (by omega) hk31
 have lSA := shG_len k a 0
 have lSB := shG_len k (bl ++ [top]) 0
 have vSA := shG_val k a 0
 have vSB := shG_val k (bl ++ [top]) 0
 have dSA := shG_dig (k := k) (by omega) a 0 hpk ba
 have dSB := shG_dig (k := k) (by omega) (bl ++ [top]) 0 hpk bb
 rw [va, Nat.add_zero] at vSA
 rw [vb', Nat.add_zero] at vSB
 generalize shG k 0 a = SA at *
 generalize shG k 0 (bl ++ [top]) = SB at *
 have vD' : val bl + 4294967296 ^ bl.length * top = D := by rw [← vb', val_append]; simp [val]
 have hvbl := val_lt hbl
 have hn2 : (bl ++ [top]).length = bl.length + 1 := by simp
 rw [hn2] at hlen lSB hn
 have hSBs : SB = SB.take (bl.length + 1) ++ SB.drop (bl.length + 1) := (List.take_append_drop _ _).symm
 have lV : (SB.take (bl.length + 1)).length = bl.length + 1 := by rw [List.length_take]; omega
 have dV : ∀ x ∈ SB.take (bl.length + 1), x < 4294967296 := fun x hx => dSB x (List.mem_of_mem_take hx)
 have hDk : D * 2 ^ k < 4294967296 ^ bl.length * 4294967296 ∧ 2147483648 * 4294967296 ^ bl.length ≤ D * 2 ^ k := by
   generalize 4294967296 ^ bl.length = N at hvbl vD'
   constructor
   · have h1 : D + 1 ≤ N * (top + 1) := by rw [Nat.mul_add, Nat.mul_one]; omega
     have h2 : (D + 1) * 2 ^ k ≤ N * (top + 1) * 2 ^ k := Nat.mul_le_mul_right _ h1
     rw [Nat.mul_assoc] at h2
     have h3 : N * ((top + 1) * 2 ^ k) ≤ N * 4294967296 := Nat.mul_le_mul_left _ htk
     rw [Nat.add_mul D 1, Nat.one_mul] at h2
     omega
   · have h1 : N * top * 2 ^ k ≤ D * 2 ^ k := Nat.mul_le_mul_right _ (by omega)
     have h2 : N * 2147483648 ≤ N * (top * 2 ^ k) := Nat.mul_le_mul_left _ z1
     rw [Nat.mul_assoc] at h1
     omega
 obtain ⟨hDk1, hDk2⟩ := hDk
 have vV : val (SB.take (bl.length + 1)) = D * 2 ^ k := by
   have h1 := congrArg val hSBs
   rw [val_append, lV, vSB, Nat.pow_succ] at h1
   rcases Nat.eq_zero_or_pos (val (SB.drop (bl.length + 1))) with h0 | h0
   · rw [h0, Nat.mul_zero, Nat.add_zero] at h1; exact h1.symm
   · have : 4294967296 ^ bl.length * 4294967296 * 1 ≤ 4294967296 ^ bl.length * 4294967296 * val (SB.drop (bl.length + 1)) := Nat.mul_le_mul_left _ h0
     omega
 obtain ⟨VS, hVS⟩ : ∃ VS, VS = SB.take (bl.length + 1) := ⟨_, rfl⟩
 rw [← hVS] at vV lV dV
 obtain ⟨lowv, v2, v1, rfl, lowl⟩ := split2 (l := VS) (by omega)
 rw [lV] at lowl
 have hv1b : v1 < 4294967296 := dV v1 (by simp)
 have hv2b : v2 < 4294967296 := dV v2 (by simp)
 have hlowv := val_lt (l := lowv) fun x hx => dV x (by simp [hx])
 have ebl : bl.length = lowv.length + 1 := by omega
 have hv1 : 2147483648 ≤ v1 := by
   rw [val_two] at vV
   rw [ebl, Nat.pow_succ] at hDk2
   rw [← vV] at hDk2
   generalize 4294967296 ^ lowv.length = P at *
   apply Classical.byContradiction
   intro hc
   have h1 : P * (v2 + 4294967296 * v1 + 1) ≤ P * (4294967296 * 2147483648) := Nat.mul_le_mul_left _ (by omega)
   rw [Nat.mul_add P _ 1, Nat.mul_one] at h1
   omega
 obtain ⟨V, hV⟩ : ∃ V, V = D * 2 ^ k := ⟨_, rfl⟩
 rw [← hV] at vV hDk1 hDk2
 have hV0 : 0 < V := by
   have : 0 < 4294967296 ^ bl.length := Nat.pow_pos (by decide)
   omega
 obtain ⟨m, hm⟩ : ∃ m, a.length = bl.length + m := ⟨a.length - bl.length, by omega⟩
 have hm1 : 1 ≤ m := by omega
 obtain ⟨U, hU⟩ : ∃ U, U = A * 2 ^ k := ⟨_, rfl⟩
 have hA := val_lt ba
 rw [va, hm] at hA
 have hUlt : U < V * 4294967296 ^ m := by
   rw [Nat.pow_add] at hA
   have h1 : A * 2 ^ k < 4294967296 ^ bl.length * 4294967296 ^ m * 2 ^ k := Nat.mul_lt_mul_of_pos_right hA hpk
   have h2 : 4294967296 ^ bl.length * 4294967296 ^ m * 2 ^ k ≤ 4294967296 ^ bl.length * 4294967296 ^ m * 2147483648 := Nat.mul_le_mul_left _ hk2
   have h3 : 2147483648 * 4294967296 ^ bl.length * 4294967296 ^ m ≤ V * 4294967296 ^ m := Nat.mul_le_mul_right _ hDk2
   rw [Nat.mul_comm _ 2147483648, ← Nat.mul_assoc] at h2
   omega
 have hdiv : U / V = A / D := by rw [hU, hV]; exact Nat.mul_div_mul_right _ _ hpk
 have hmod : U % V = A % D * 2 ^ k := by rw [hU, hV]; exact Nat.mul_mod_mul_right _ _ _
 have hD0 : 0 < D := by
   rcases Nat.eq_zero_or_pos D with h | h
   · rw [h, Nat.zero_mul] at hV; omega
   · exact h
 have hXV : U % V < V := Nat.mod_lt _ hV0
 have hXn : U % V < 4294967296 ^ bl.length * 4294967296 := by omega
 have hq : val (padK m (U / V)) = U / V := padK_val _ _ (by rw [Nat.div_lt_iff_lt_mul hV0, Nat.mul_comm]; exact hUlt)
 have hle2 : 4294967296 ^ bl.length * 4294967296 ≤ 4294967296 ^ (m + (bl.length + 1)) := by rw [← Nat.pow_succ]; exact Nat.pow_le_pow_right (by decide) (by omega)
 have hr := padK_val (m + (bl.length + 1)) (U % V) (by omega)
 have lr := padK_len (m + (bl.length + 1)) (U % V)
 have dr := padK_lt (m + (bl.length + 1)) (U % V)
 obtain ⟨us, hus⟩ : ∃ us, us = padK (m + (bl.length + 1)) (U % V) := ⟨_, rfl⟩
 rw [← hus] at hr lr dr
 have lt1 : (us.take (bl.length + 2)).length = bl.length + 2 := by rw [List.length_take]; omega
 have dt1 : ∀ x ∈ us.take (bl.length + 2), x < 4294967296 := fun x hx => dr x (List.mem_of_mem_take hx)
 have vtake : ∀ j, bl.length + 1 ≤ j → j ≤ us.length → val (us.take j) = U % V := fun j h1 h2 => by
   have h3 := congrArg val (List.take_append_drop j us)
   rw [val_append, hr, List.length_take, Nat.min_eq_left h2] at h3
   rcases Nat.eq_zero_or_pos (val (us.drop j)) with h0 | h0
   · rw [h0, Nat.mul_zero, Nat.add_zero] at h3; exact h3
   · have h4 : 4294967296 ^ (bl.length + 1) ≤ 4294967296 ^ j := Nat.pow_le_pow_right (by decide) h1
     rw [Nat.pow_succ] at h4
     have : 4294967296 ^ j * 1 ≤ 4294967296 ^ j * val (us.drop j) := Nat.mul_le_mul_left _ h0
     omega
 have hrv : val (shR k (us.take (bl.length + 2))) = A % D := by
   obtain ⟨x, l, hxl⟩ : ∃ x l, us.take (bl.length + 2) = x :: l := by
     cases h : us.take (bl.length + 2) with
     | nil => rw [h] at lt1; simp at lt1
     | cons x l => exact ⟨x, l, rfl⟩
   have h1 := shR_val (k := k) (by omega) l x
   have h2 : (x :: l).getLast (by simp) = 0 := by
     have e1 := vtake (bl.length + 1) (by omega) (by omega)
     have e2 := vtake (bl.length + 2) (by omega) (by omega)
     have e3 : us.take (bl.length + 2) = us.take (bl.length + 1) ++ [(x :: l).getLast (by simp)] := by
       have g1 : us.take (bl.length + 1) = (x :: l).dropLast := by
         rw [← hxl, List.dropLast_eq_take, List.take_take, lt1]; congr 1; omega
       rw [g1, List.dropLast_concat_getLast, hxl]
     rw [e3, val_append, e1] at e2
     simp only [val, Nat.mul_zero, Nat.add_zero] at e2
     have g2 : 0 < 4294967296 ^ (us.take (bl.length + 1)).length := Nat.pow_pos (by decide)
     have g3 : 4294967296 ^ (us.take (bl.length + 1)).length * (x :: l).getLast (by simp) = 0 := by omega
     rcases Nat.mul_eq_zero.1 g3 with h | h
     · omega
     · exact h
   rw [h2, Nat.zero_div, Nat.mul_zero, Nat.add_zero, ← hxl, vtake _ (by omega) (by omega), hmod, Nat.mul_div_cancel _ hpk] at h1
   exact h1
 refine ⟨padK m (U / V), shR k (us.take (bl.length + 2)), padK_lt _ _, shR_lt (by omega) dt1, by rw [padK_len]; omega, by rw [shR_len, lt1]; omega, by rw [hq, hdiv], hrv, ?_⟩
 refine vc170_ok _ _ (R := Out _) ?_
 unfold vc170
 have e0 : (lim (bl ++ [top])).length = bl.length + 1 := by rw [lim_length]; simp
 have ev : (lim SB).take (((lim (bl ++ [top])).length:Int)).toNat = lim (lowv ++ [v2, v1]) := by rw [e0, Int.toNat_natCast, lim_take, hVS]
 have ei : IntKind.i64.wrap (((lim (bl ++ [top])).length:Int) - 1) = (bl.length:Int) := by rw [e0, w64 (by omega) (by omega)]; omega
 have lv : (lim (lowv ++ [v2, v1])).length = bl.length + 1 := by rw [lim_length]; omega
 have lSA' : (lim SA).length = m + (bl.length + 1) := by rw [lim_length]; omega
 have lSB' : (lim SB).length = bl.length + 2 := by rw [lim_length]; omega
 have em : IntKind.i64.wrap (((lim SA).length:Int) - ((lim (lowv ++ [v2, v1])).length:Int)) = (m:Int) := by rw [lSA', lv, w64 (by omega) (by omega)]; omega
 refine ⟨(top:Int), (k:Int), ?_, ?_, hlz, lim SA, lim SB, sA, sB, ?_⟩
 · rw [ei, e0]; omega
 · rw [ei, Int.toNat_natCast]; exact lim_mid bl [] top
 rw [ev]
 refine ⟨?_, ?_, J0L m (bl.length + 1) U V, μ0L, ?_, fun q u i hJ => ⟨fun h => ?_, fun h => ?_⟩⟩
 · rw [e0, lSB']; omega
 · rw [em]; omega
 · rw [em]
   refine ⟨m, List.replicate m 0, SA, ?_, Nat.le_refl _, ?_, rfl, by simp, by omega, fun x hx => by rw [List.eq_of_mem_replicate hx]; decide, dSA, ?_, ?_⟩
   · rw [w64 (by omega) (by omega)]
   · rw [Int.toNat_natCast]; exact lim_rep m
   · rw [vSA, ← hU, List.drop_of_length_le (by simp)]; simp [val]
   · rw [vSA, ← hU]; exact hUlt
 · exact J0_round (by omega) lowl dV hv1 vV (by rw [Nat.pow_succ]; omega) hV0 hJ h
 · obtain ⟨rfl, rfl⟩ := J0_end hV0 hJ h
   rw [← hus]
   exact ⟨by rw [lv]; omega, shback_ok lv lr (by omega) (by omega) dr hk31 rfl ⟨rfl, rfl⟩⟩
theorem idivmod_ok {x y : Int} {L : Nat} (hy : y ≠ 0) (hx : x.natAbs * 4294967296 < 4294967296 ^ L) (hy2 : y.natAbs * 4294967296 < 4294967296 ^ L) (hL : L ≤ 1073741824) :
   FnD prog 166 [eI x, eI y] (.tup [ei (x / y), ei (x % y), eD (dI 0)]) [] := by
 have len : ∀ {z : Int}, z.natAbs * 4294967296 < 4294967296 ^ L → (digs z.natAbs).length ≤ 1073741823 := fun {z} h => by
   obtain ⟨M, rfl⟩ : ∃ M, L = M + 1 := ⟨L - 1, by
     rcases Nat.eq_zero_or_pos L with h0 | h0
     · subst h0
       have h1 : y.natAbs * 4294967296 < 1 := by simpa using hy2
       omega
     · omega⟩
   rw [Nat.pow_succ] at h
   have := digs_len (n := z.natAbs) (k := M) (Nat.lt_of_mul_lt_mul_right h)
   omega
 obtain ⟨ql, rl, h1, h2, h3, h4, h5, h6, h7⟩ := divide_of (A := x.natAbs) (D := y.natAbs) (by omega) (len hx) (len hy2) (fun a b => long_ok (len hx) a b)
 exact divmod_of hy hx hy2 hL h7 h1 h2 h3 h4 h5 h6
end Go.AM
/- torsionref18: Negate and AddTo on the work matrices; Valid, Apply, Matrix, Invert. -/
namespace Go.AM
open Go.Proofs.Try
theorem rowM_in {r c : Nat} {g:Nat → Nat → Int} {i j : Nat} (hi : i < r) (hj : j < c) : at2 (om (table r c g)) (i:Int).toNat (j:Int).toNat = some (cI (g i j)) := by
 rw [Int.toNat_natCast, Int.toNat_natCast]; exact at2_om hi hj
theorem inside142_ok (i n:Nat) : FnD prog 142 [vi i, vi n] (vb (decide (i < n))) [] := by
 refine vc142_ok _ _ (R := Out _) ?_
 unfold vc142
 exact ⟨fun _ => outb (by simp), fun h => absurd h (by simp)⟩
theorem rvalidOp_ok {o : Opz} {n : Nat} (hz : Sz o.z) : FnD prog 103 [oE o, vi n] (vb (vO n o)) [] := by
 refine vc103_ok _ _ _ _ _ _ (R := Out _) ?_
 unfold vc103
 have kq : ∀ {q : Nat} {b : Bool}, ((o.k:Int) == (q:Int)) = b → decide (o.k = q) = b := fun h => (natEq _ _).symm.trans h
 refine ⟨true, rvalid_ok o.z hz, fun h1 => ?_, fun h1 => ⟨fun h2 => ?_, fun h2 => ⟨fun h3 => ?_, fun h3 => ?_⟩⟩⟩
 · have hk : o.k = 1 := by simpa using kq (q := 1) h1
   refine ⟨_, inside142_ok _ _, fun hi => ⟨_, inside142_ok _ _, fun hj => ⟨fun hn => ⟨fun hl => outb ?_, fun hl => outb ?_⟩, fun hn => outb ?_⟩, fun hj => outb ?_⟩, fun hi => outb ?_⟩
   · have hi' : o.i < n := by simpa using hi
     have hj' : o.j < n := by simpa using hj
     have hn' : o.i ≠ o.j := by simpa using (natNe _ _).symm.trans hn
     have hl' : o.z = 0 := by simpa using (lim_zero o.z).symm.trans hl
     simp [vO, hk, hi', hj', hn', hl']
   · have hl' : o.z ≠ 0 := by simpa using (lim_zero o.z).symm.trans hl
     simp [vO, hk, hl']
   · have hn' : o.i = o.j := by simpa using (natNe _ _).symm.trans hn
     simp [vO, hk, hn']
   · have hj' : ¬ o.j < n := by simpa using hj
     simp [vO, hk, hj']
   · have hi' : ¬ o.i < n := by simpa using hi
     simp [vO, hi']
 · have hk : o.k = 2 := by simpa using kq (q := 2) h2
   refine ⟨_, inside142_ok _ _, fun hi => ⟨fun hj => ⟨fun hl => outb ?_, fun hl => outb ?_⟩, fun hj => outb ?_⟩, fun hi => outb ?_⟩
   · have hi' : o.i < n := by simpa using hi
     have hj' : o.j = 0 := by simpa using (natEq o.j 0).symm.trans hj
     have hl' : o.z = 0 := by simpa using (lim_zero o.z).symm.trans hl
     simp [vO, hk, hi', hj', hl']
   · have hl' : o.z ≠ 0 := by simpa using (lim_zero o.z).symm.trans hl
     simp [vO, hk, hl']
   · have hj' : o.j ≠ 0 := by simpa using (natEq o.j 0).symm.trans hj
     simp [vO, hk, hj']
   · have hi' : ¬ o.i < n := by simpa using hi
     simp [vO, hi']
 · have hk : o.k = 3 := by simpa using kq (q := 3) h3
   refine ⟨_, inside142_ok _ _, fun hi => ⟨_, inside142_ok _ _, fun hj => ⟨fun hn => outb ?_, fun hn => outb ?_⟩, fun hj => outb ?_⟩, fun hi => outb ?_⟩
   · have hi' : o.i < n := by simpa using hi
     have hj' : o.j < n := by simpa using hj
     have hn' : o.i ≠ o.j := by simpa using (natNe _ _).symm.trans hn
     simp [vO, hk, hi', hj', hn']
   · have hn' : o.i = o.j := by simpa using (natNe _ _).symm.trans hn
     simp [vO, hk, hn']
   · have hj' : ¬ o.j < n := by simpa using hj
     simp [vO, hk, hj']
   · have hi' : ¬ o.i < n := by simpa using hi
     simp [vO, hi']
 · have e1 : o.k ≠ 1 := by simpa using kq (q := 1) h1
   have e2 : o.k ≠ 2 := by simpa using kq (q := 2) h2
   have e3 : o.k ≠ 3 := by simpa using kq (q := 3) h3
   exact outb (by simp [vO, e1, e2, e3])
end Go.AM
/- The work matrices' operations, for numbers of any size that fits. -/
namespace Go.AM
open Go.Proofs.Try
theorem wneg_gen {r c K : Nat} {o : Opz} {m u v : List (List Int)} (h : vO r o = true) (hk : o.k = 2) (hm : Mx r c m) (hu : Mx r r u) (hv : Mx r r v) (km : BdM K m) (ku : BdM K u) (kv : BdM K v)
   (hK : ∀ y : Int, y.natAbs ≤ K → Sz y) (hr : r ≤ 4294967296) (hc : c ≤ 4294967296) :
   FnO prog 122 [vP 0 0, vi o.i] (wH r c m u v) (.tup []) (wH r c (apO r c o m) (apO r r o u) (apC r o v)) := by
 obtain ⟨hi, _⟩ := vO_ok h
 refine vc122_ok _ _ _ _ _ _ _ _ _ _ (R := fun x y => x = .tup [] ∧ y = wH r c (apO r c o m) (apO r r o u) (apC r o v)) ?_
 unfold vc122
 have sz : ∀ {z : Int}, z.natAbs ≤ K → Sz z := fun h => hK _ h
 refine ⟨fun a t => ∃ n : Nat, t = (n:Int) ∧ n ≤ c ∧ a = om (table r c (rF o (el m) n)), fun _ t => ((c:Int) - t).toNat, ⟨0, rfl, by omega, rF_zero hm⟩, ?_⟩
 rintro _ _ ⟨n, rfl, hn, rfl⟩
 refine ⟨fun h2 => ?_, fun h2 => ?_⟩
 · have hnc : n < c := by simpa using h2
   have e : rF o (el m) n o.i n = el m o.i n := by unfold rF; rw [if_neg (by omega)]
   have e2 : opF o (el m) o.i n = - el m o.i n := by simp [opF, hk]
   have a1 := rowM_in (r := r) (c := c) (g := rF o (el m) n) hi hnc
   rw [e] at a1
   have f1 := rneg_ok (sz (el_bd hm km hi hnc))
   rw [← e2] at f1
   refine ⟨_, _, _, _, ⟨by omega, by rw [om_len]; omega⟩, om_in hi hnc, a1, f1, ?_⟩
   rw [inc64 (by omega)]
   refine ⟨⟨n + 1, rfl, by omega, ?_⟩, by show ((c:Int) - ((n + 1:Nat) : Int)).toNat < ((c:Int) - (n:Int)).toNat; omega⟩
   rw [Int.toNat_natCast, Int.toNat_natCast]
   exact rF_step hi hnc
 have hnc : n = c := by have : c ≤ n := by simpa using h2
                        omega
 subst hnc
 refine ⟨fun a t => ∃ n : Nat, t = (n:Int) ∧ n ≤ r ∧ a = om (table r r (rF o (el u) n)), fun _ t => ((r:Int) - t).toNat, ⟨0, rfl, by omega, rF_zero hu⟩, ?_⟩
 rintro _ _ ⟨p, rfl, hp, rfl⟩
 refine ⟨fun h2 => ?_, fun h2 => ?_⟩
 · have hnc : p < r := by simpa using h2
   have e : rF o (el u) p o.i p = el u o.i p := by unfold rF; rw [if_neg (by omega)]
   have e2 : opF o (el u) o.i p = - el u o.i p := by simp [opF, hk]
   have a1 := rowM_in (r := r) (c := r) (g := rF o (el u) p) hi hnc
   rw [e] at a1
   have f1 := rneg_ok (sz (el_bd hu ku hi hnc))
   rw [← e2] at f1
   refine ⟨_, _, _, _, ⟨by omega, by rw [om_len]; omega⟩, om_in hi hnc, a1, f1, ?_⟩
   rw [inc64 (by omega)]
   refine ⟨⟨p + 1, rfl, by omega, ?_⟩, by show ((r:Int) - ((p + 1:Nat) : Int)).toNat < ((r:Int) - (p:Int)).toNat; omega⟩
   rw [Int.toNat_natCast, Int.toNat_natCast]
   exact rF_step hi hnc
 have hpr : p = r := by have : r ≤ p := by simpa using h2
                        omega
 subst hpr
 refine ⟨fun a t => ∃ q : Nat, t = (q:Int) ∧ q ≤ p ∧ a = om (table p p (cP o (el v) q)), fun _ t => ((p:Int) - t).toNat, ⟨0, rfl, by omega, cP_zero hv⟩, ?_⟩
 rintro _ _ ⟨q, rfl, hq, rfl⟩
 refine ⟨fun h2 => ?_, fun h2 => ?_⟩
 · have hqr : q < p := by simpa using h2
   have a1 := rowM_in (r := p) (c := p) (g := cP o (el v) q) hqr hi
   rw [cP_at] at a1
   have f1 := rneg_ok (sz (el_bd hv kv hqr hi))
   refine ⟨_, _, _, _, ⟨by omega, by rw [om_len]; omega⟩, om_in hqr hi, a1, f1, ?_⟩
   rw [inc64 (by omega)]
   refine ⟨⟨q + 1, rfl, by omega, ?_⟩, by show ((p:Int) - ((q + 1:Nat) : Int)).toNat < ((p:Int) - (q:Int)).toNat; omega⟩
   rw [Int.toNat_natCast, Int.toNat_natCast]
   exact cP_one hqr hi (by simp [colF, hk]) fun b _ hb => by simp [colF, hk, hb]
 · have hqr : q = p := by have : p ≤ q := by simpa using h2
                          omega
   subst hqr
   rw [rF_all (by omega), rF_all (by omega), cP_all]
   exact ⟨rfl, rfl⟩
theorem wadd_gen {r c K : Nat} {o : Opz} {m u v : List (List Int)} (h : vO r o = true) (hk : o.k = 3) (hm : Mx r c m) (hu : Mx r r u) (hv : Mx r r v) (km : BdM K m) (ku : BdM K u) (kv : BdM K v) (hz : Sz o.z)
   (hK : ∀ y : Int, y.natAbs ≤ K → Sz y ∧ Sz (o.z * y)) (hr : r ≤ 4294967296) (hc : c ≤ 4294967296) :
   FnO prog 123 [vP 0 0, vi o.i, vi o.j, eI o.z] (wH r c m u v) (.tup []) (wH r c (apO r c o m) (apO r r o u) (apC r o v)) := by
 obtain ⟨hi, hcase⟩ := vO_ok h
 have hj := vO_j h (by omega)
 have hne : o.i ≠ o.j := by
   rcases hcase with h | h | h
   · omega
   · omega
   · exact h.2.2
 refine vc123_ok _ _ _ _ _ _ _ _ _ _ _ _ _ (R := fun x y => x = .tup [] ∧ y = wH r c (apO r c o m) (apO r r o u) (apC r o v)) ?_
 unfold vc123
 have szm : ∀ {x y : Int}, x.natAbs ≤ K → y.natAbs ≤ K → Sz x ∧ Sz y ∧ Sz o.z ∧ Sz (o.z * y) := fun {x y} hx hy =>
   ⟨(hK x hx).1, (hK y hy).1, hz, (hK y hy).2⟩
 refine ⟨fun a t => ∃ n : Nat, t = (n:Int) ∧ n ≤ c ∧ a = om (table r c (rF o (el m) n)), fun _ t => ((c:Int) - t).toNat, ⟨0, rfl, by omega, rF_zero hm⟩, ?_⟩
 rintro _ _ ⟨n, rfl, hn, rfl⟩
 refine ⟨fun h2 => ?_, fun h2 => ?_⟩
 · have hnc : n < c := by simpa using h2
   have e : rF o (el m) n o.i n = el m o.i n := by unfold rF; rw [if_neg (by omega)]
   have e' : rF o (el m) n o.j n = el m o.j n := by unfold rF; rw [if_neg (by omega)]
   have e2 : opF o (el m) o.i n = el m o.i n + o.z * el m o.j n := by simp [opF, hk]
   have a1 := rowM_in (r := r) (c := c) (g := rF o (el m) n) hi hnc
   have a2 := rowM_in (r := r) (c := c) (g := rF o (el m) n) hj hnc
   rw [e] at a1
   rw [e'] at a2
   obtain ⟨s1, s2, s3, s4⟩ := szm (el_bd hm km hi hnc) (el_bd hm km hj hnc)
   have f1 := rmul_ok s3 s2
   have f2 := radd_ok s1 s4
   rw [← e2] at f2
   refine ⟨_, _, _, _, _, _, _, _, ⟨by omega, by rw [om_len]; omega⟩, om_in hi hnc, a1, ⟨by omega, by rw [om_len]; omega⟩, om_in hj hnc, a2, f1, f2, ?_⟩
   rw [inc64 (by omega)]
   refine ⟨⟨n + 1, rfl, by omega, ?_⟩, by show ((c:Int) - ((n + 1:Nat) : Int)).toNat < ((c:Int) - (n:Int)).toNat; omega⟩
   rw [Int.toNat_natCast, Int.toNat_natCast]
   exact rF_step hi hnc
 have hnc : n = c := by have : c ≤ n := by simpa using h2
                        omega
 subst hnc
 refine ⟨fun a t => ∃ n : Nat, t = (n:Int) ∧ n ≤ r ∧ a = om (table r r (rF o (el u) n)), fun _ t => ((r:Int) - t).toNat, ⟨0, rfl, by omega, rF_zero hu⟩, ?_⟩
 rintro _ _ ⟨p, rfl, hp, rfl⟩
 refine ⟨fun h2 => ?_, fun h2 => ?_⟩
 · have hnc : p < r := by simpa using h2
   have e : rF o (el u) p o.i p = el u o.i p := by unfold rF; rw [if_neg (by omega)]
   have e' : rF o (el u) p o.j p = el u o.j p := by unfold rF; rw [if_neg (by omega)]
   have e2 : opF o (el u) o.i p = el u o.i p + o.z * el u o.j p := by simp [opF, hk]
   have a1 := rowM_in (r := r) (c := r) (g := rF o (el u) p) hi hnc
   have a2 := rowM_in (r := r) (c := r) (g := rF o (el u) p) hj hnc
   rw [e] at a1
   rw [e'] at a2
   obtain ⟨s1, s2, s3, s4⟩ := szm (el_bd hu ku hi hnc) (el_bd hu ku hj hnc)
   have f1 := rmul_ok s3 s2
   have f2 := radd_ok s1 s4
   rw [← e2] at f2
   refine ⟨_, _, _, _, _, _, _, _, ⟨by omega, by rw [om_len]; omega⟩, om_in hi hnc, a1, ⟨by omega, by rw [om_len]; omega⟩, om_in hj hnc, a2, f1, f2, ?_⟩
   rw [inc64 (by omega)]
   refine ⟨⟨p + 1, rfl, by omega, ?_⟩, by show ((r:Int) - ((p + 1:Nat) : Int)).toNat < ((r:Int) - (p:Int)).toNat; omega⟩
   rw [Int.toNat_natCast, Int.toNat_natCast]
   exact rF_step hi hnc
 have hpr : p = r := by have : r ≤ p := by simpa using h2
                        omega
 subst hpr
 refine ⟨fun a t => ∃ q : Nat, t = (q:Int) ∧ q ≤ p ∧ a = om (table p p (cP o (el v) q)), fun _ t => ((p:Int) - t).toNat, ⟨0, rfl, by omega, cP_zero hv⟩, ?_⟩
 rintro _ _ ⟨q, rfl, hq, rfl⟩
 refine ⟨fun h2 => ?_, fun h2 => ?_⟩
 · have hqr : q < p := by simpa using h2
   have a1 := rowM_in (r := p) (c := p) (g := cP o (el v) q) hqr hj
   have a2 := rowM_in (r := p) (c := p) (g := cP o (el v) q) hqr hi
   rw [cP_at] at a1 a2
   obtain ⟨s1, s2, s3, s4⟩ := szm (el_bd hv kv hqr hj) (el_bd hv kv hqr hi)
   have f1 := rmul_ok s3 s2
   have f2 := rsub_ok s1 s4
   refine ⟨_, _, _, _, _, _, _, _, ⟨by omega, by rw [om_len]; omega⟩, om_in hqr hj, a1, om_in hqr hi, a2, f1, f2, ?_⟩
   rw [inc64 (by omega)]
   refine ⟨⟨q + 1, rfl, by omega, ?_⟩, by show ((p:Int) - ((q + 1:Nat) : Int)).toNat < ((p:Int) - (q:Int)).toNat; omega⟩
   rw [Int.toNat_natCast, Int.toNat_natCast]
   exact cP_one hqr hj (by simp [colF, hk]) fun b _ hb => by simp [colF, hk, hb]
 · have hqr : q = p := by have : p ≤ q := by simpa using h2
                          omega
   subst hqr
   rw [rF_all (by omega), rF_all (by omega), cP_all]
   exact ⟨rfl, rfl⟩
end Go.AM
/- Row operations in plain Lean: how much lists of them can make the elements grow. -/
namespace Go.AM
abbrev addO (i j:Nat) (z:Int) : Opz := ⟨3, i, j, z⟩
abbrev swapO (i j:Nat) : Opz := ⟨1, i, j, 0⟩
abbrev negO (i:Nat) : Opz := ⟨2, i, 0, 0⟩
theorem vO_add {r i j : Nat} {z : Int} (hi : i < r) (hj : j < r) (h : i ≠ j) : vO r (addO i j z) = true := by simp [vO, hi, hj, h]
theorem vO_swap {r i j : Nat} (hi : i < r) (hj : j < r) (h : i ≠ j) : vO r (swapO i j) = true := by simp [vO, hi, hj, h]
theorem vO_neg {r i : Nat} (hi : i < r) : vO r (negO i) = true := by simp [vO, hi]
def gO (o:Opz) : Nat := if o.k = 3 then 1 + o.z.natAbs else 1
def gL : List Opz → Nat
 | [] => 1
 | o :: l => gO o * gL l
theorem gO_pos (o:Opz) : 1 ≤ gO o := by unfold gO; split <;> omega
theorem gL_pos : ∀ l : List Opz, 1 ≤ gL l
 | [] => Nat.le_refl _
 | o :: l => Nat.mul_le_mul (gO_pos o) (gL_pos l)
theorem gL_append : ∀ l k : List Opz, gL (l ++ k) = gL l * gL k
 | [], k => by simp [gL]
 | o :: l, k => by simp only [List.cons_append, gL, gL_append l k, Nat.mul_assoc]
theorem gL_prefix {d e l : List Opz} (h : d ++ e = l) : gL d ≤ gL l := by
 rw [← h, gL_append]
 exact Nat.le_trans (by omega) (Nat.mul_le_mul_left (gL d) (gL_pos e))
theorem one_mul_le {K o : Nat} (h : 1 ≤ o) : K ≤ o * K := by
 have := Nat.mul_le_mul_right K h
 omega
theorem apO_g {r c K : Nat} {o : Opz} {m : List (List Int)} (h : vO r o = true) (hm : Mx r c m) (km : BdM K m) : BdM (gO o * K) (apO r c o m) := table_bd fun a b ha hb => by
 obtain ⟨hi, hcase⟩ := vO_ok h
 have h0 : ∀ x : Nat, x < r → (el m x b).natAbs ≤ K := fun x hx => el_bd hm km hx hb
 have hK := one_mul_le (K := K) (gO_pos o)
 unfold opF
 rcases hcase with ⟨hk, _, _⟩ | ⟨hk, hj, _, _⟩ | ⟨hk, hj, _⟩
 · rw [hk, if_neg (by decide), if_pos rfl]
   have := h0 a ha
   split
   · rw [Int.natAbs_neg]; omega
   · omega
 · rw [hk, if_pos rfl]
   have h1 := h0 _ hj
   have h2 := h0 _ hi
   have h3 := h0 a ha
   split
   · omega
   · split <;> omega
 · rw [hk, if_neg (by decide), if_neg (by decide)]
   have h1 := h0 _ hj
   have h3 := h0 a ha
   split
   · have e : gO o = 1 + o.z.natAbs := by simp [gO, hk]
     rw [e, Nat.add_mul, Nat.one_mul]
     have h4 := Int.natAbs_add_le (el m a b) (o.z * el m o.j b)
     rw [Int.natAbs_mul] at h4
     have h5 := Nat.mul_le_mul_left o.z.natAbs h1
     omega
   · omega
theorem apL_g {r c : Nat} : ∀ {l : List Opz} {K : Nat} {m : List (List Int)}, (∀ o ∈ l, vO r o = true) → Mx r c m → BdM K m → BdM (gL l * K) (apL r c l m)
 | [], K, m, _, _, km => km.mono (by simp [gL])
 | o :: l, K, m, h, hm, km => by
   have := apL_g (l := l) (fun x hx => h x (by simp [hx])) (apO_mx r c o m) (apO_g (h o (by simp)) hm km)
   refine BdM.mono this ?_
   simp only [gL]
   exact Nat.le_of_eq (by rw [Nat.mul_comm (gO o) (gL l), Nat.mul_assoc])
theorem apC_g {n K : Nat} {o : Opz} {m : List (List Int)} (h : vO n o = true) (hm : Mx n n m) (km : BdM K m) : BdM (gO o * K) (apC n o m) := table_bd fun a b ha hb => by
 obtain ⟨hi, hcase⟩ := vO_ok h
 have h0 : ∀ x : Nat, x < n → (el m a x).natAbs ≤ K := fun x hx => el_bd hm km ha hx
 have hK := one_mul_le (K := K) (gO_pos o)
 unfold colF
 rcases hcase with ⟨hk, _, _⟩ | ⟨hk, hj, _, _⟩ | ⟨hk, hj, _⟩
 · rw [hk, if_neg (by decide), if_pos rfl]
   have := h0 b hb
   split
   · rw [Int.natAbs_neg]; omega
   · omega
 · rw [hk, if_pos rfl]
   have h1 := h0 _ hj
   have h2 := h0 _ hi
   have h3 := h0 b hb
   split
   · omega
   · split <;> omega
 · rw [hk, if_neg (by decide), if_neg (by decide)]
   have h1 := h0 _ hi
   have h3 := h0 b hb
   split
   · have e : gO o = 1 + o.z.natAbs := by simp [gO, hk]
     rw [e, Nat.add_mul, Nat.one_mul]
     have h4 := Int.natAbs_sub_le (el m a b) (o.z * el m a o.i)
     rw [Int.natAbs_mul] at h4
     have h5 := Nat.mul_le_mul_left o.z.natAbs h1
     omega
   · omega
theorem apCL_g {n : Nat} : ∀ {l : List Opz} {K : Nat} {m : List (List Int)}, (∀ o ∈ l, vO n o = true) → Mx n n m → BdM K m → BdM (gL l * K) (apCL n l m)
 | [], K, m, _, _, km => km.mono (by simp [gL])
 | o :: l, K, m, h, hm, km => by
   have := apCL_g (l := l) (fun x hx => h x (by simp [hx])) (apC_mx n o m) (apC_g (h o (by simp)) hm km)
   refine BdM.mono this ?_
   simp only [gL]
   exact Nat.le_of_eq (by rw [Nat.mul_comm (gO o) (gL l), Nat.mul_assoc])
def euL (r cc c top i:Nat) : Nat → List (List Int) → List Opz
 | 0, _ => []
 | f + 1, m =>
   if el m i c = 0 then []
   else if el m top c = 0 then swapO top i :: euL r cc c top i f (apO r cc (swapO top i) m)
   else addO top i (-(el m top c / el m i c)) :: swapO top i :: euL r cc c top i f (apO r cc (swapO top i) (apO r cc (addO top i (-(el m top c / el m i c))) m))
theorem mod_eq (x y:Int) : x + -(x / y) * y = x % y := by
 have := Int.emod_add_mul_ediv x y
 rw [Int.neg_mul, Int.mul_comm]; omega
section
variable {r cc c top i : Nat}
theorem el_swap {m : List (List Int)} {a b : Nat} (ha : a < r) (hb : b < cc) : el (apO r cc (swapO top i) m) a b = if a = top then el m i b else if a = i then el m top b else el m a b := by
 rw [el_apO ha hb]; simp [opF]
theorem el_add {m : List (List Int)} {z : Int} {a b : Nat} (ha : a < r) (hb : b < cc) : el (apO r cc (addO top i z) m) a b = if a = top then el m a b + z * el m i b else el m a b := by
 rw [el_apO ha hb]; simp [opF]
variable (ht : top < r) (hi : i < r) (hc : c < cc) (hne : top ≠ i)
include ht hi hne
theorem el_both {m : List (List Int)} {z : Int} {a b : Nat} (ha : a < r) (hb : b < cc) :
   el (apO r cc (swapO top i) (apO r cc (addO top i z) m)) a b = if a = top then el m i b else if a = i then el m top b + z * el m i b else el m a b := by
 rw [el_swap ha hb, el_add hi hb, el_add ht hb, el_add ha hb]
 rw [if_neg (Ne.symm hne), if_pos rfl]
 by_cases h1 : a = top
 · simp [h1]
 · by_cases h2 : a = i
   · simp [h2]
   · simp [h1, h2]
theorem euL_valid : ∀ (f:Nat) (m : List (List Int)), ∀ o ∈ euL r cc c top i f m, vO r o = true
 | 0, _, o, h => by simp [euL] at h
 | f + 1, m, o, h => by
   simp only [euL] at h
   split at h
   · simp at h
   · split at h
     · rcases List.mem_cons.1 h with rfl | h
       · exact vO_swap ht hi hne
       · exact euL_valid f _ o h
     · rcases List.mem_cons.1 h with rfl | h
       · exact vO_add ht hi hne
       · rcases List.mem_cons.1 h with rfl | h
         · exact vO_swap ht hi hne
         · exact euL_valid f _ o h
theorem euL_rest : ∀ (f:Nat) (m : List (List Int)) (a b:Nat), a < r → b < cc → a ≠ top → a ≠ i → el (apL r cc (euL r cc c top i f m) m) a b = el m a b
 | 0, m, a, b, _, _, _, _ => rfl
 | f + 1, m, a, b, ha, hb, h1, h2 => by
   simp only [euL]
   split
   · rfl
   · split
     · simp only [apL]
       rw [euL_rest f _ a b ha hb h1 h2, el_swap ha hb, if_neg h1, if_neg h2]
     · simp only [apL]
       rw [euL_rest f _ a b ha hb h1 h2, el_both ht hi hne ha hb, if_neg h1, if_neg h2]
theorem euL_zero : ∀ (f:Nat) (m : List (List Int)) (b:Nat), b < cc → el m top b = 0 → el m i b = 0 → el (apL r cc (euL r cc c top i f m) m) top b = 0 ∧ el (apL r cc (euL r cc c top i f m) m) i b = 0
 | 0, m, b, _, h1, h2 => ⟨h1, h2⟩
 | f + 1, m, b, hb, h1, h2 => by
   simp only [euL]
   split
   · exact ⟨h1, h2⟩
   · split
     · simp only [apL]
       refine euL_zero f _ b hb ?_ ?_
       · rw [el_swap ht hb, if_pos rfl]; exact h2
       · rw [el_swap hi hb, if_neg (Ne.symm hne), if_pos rfl]; exact h1
     · simp only [apL]
       refine euL_zero f _ b hb ?_ ?_
       · rw [el_both ht hi hne ht hb, if_pos rfl]; exact h2
       · rw [el_both ht hi hne hi hb, if_neg (Ne.symm hne), if_pos rfl, h1, h2]; simp
include hc
theorem euL_end : ∀ (f:Nat) (m : List (List Int)), (el m i c).natAbs < f → ∀ A, (el m top c).natAbs ≤ A → (el m i c).natAbs ≤ A →
   el (apL r cc (euL r cc c top i f m) m) i c = 0 ∧ (el (apL r cc (euL r cc c top i f m) m) top c).natAbs ≤ A
 | 0, m, h, _, _, _ => by omega
 | f + 1, m, h, A, h1, h2 => by
   simp only [euL]
   split
   · rename_i h0; exact ⟨h0, h1⟩
   · rename_i hy
     split
     · rename_i hx
       simp only [apL]
       have e1 : el (apO r cc (swapO top i) m) top c = el m i c := by rw [el_swap ht hc, if_pos rfl]
       have e2 : el (apO r cc (swapO top i) m) i c = el m top c := by rw [el_swap hi hc, if_neg (Ne.symm hne), if_pos rfl]
       refine euL_end f _ ?_ A ?_ ?_
       · rw [e2, hx]
         have : (el m i c).natAbs ≠ 0 := by omega
         show 0 < f; omega
       · rw [e1]; exact h2
       · rw [e2]; exact h1
     · simp only [apL]
       have e1 : el (apO r cc (swapO top i) (apO r cc (addO top i (-(el m top c / el m i c))) m)) top c = el m i c := by rw [el_both ht hi hne ht hc, if_pos rfl]
       have e2 : el (apO r cc (swapO top i) (apO r cc (addO top i (-(el m top c / el m i c))) m)) i c = el m top c % el m i c := by
         rw [el_both ht hi hne hi hc, if_neg (Ne.symm hne), if_pos rfl]; exact mod_eq _ _
       have h3 := Int.emod_nonneg (el m top c) hy
       have h4 := Int.emod_lt (el m top c) hy
       refine euL_end f _ ?_ A ?_ ?_
       · rw [e2]; omega
       · rw [e1]; exact h2
       · rw [e2]; omega
end
end Go.AM
/- The operations of torsionref12.Form in plain Lean, and how much they can make the elements grow. -/
namespace Go.AM
theorem eu_num0 {x y : Int} (hx : 0 ≤ x) (hy : 0 < y) : (1 + (x / y).natAbs) * ((x % y).natAbs + 1) ≤ x.natAbs + 1 := by
 have h1 := Int.emod_nonneg x (by omega : y ≠ 0)
 have h2 := Int.emod_lt_of_pos x hy
 have h3 := Int.emod_add_mul_ediv x y
 have h4 := Int.ediv_nonneg hx (Int.le_of_lt hy)
 obtain ⟨q, hq⟩ := Int.eq_ofNat_of_zero_le h4
 obtain ⟨r, hr⟩ := Int.eq_ofNat_of_zero_le h1
 obtain ⟨n, hn⟩ := Int.eq_ofNat_of_zero_le (Int.le_of_lt hy)
 obtain ⟨a, ha⟩ := Int.eq_ofNat_of_zero_le hx
 rw [hq, hr, hn, ha] at h3
 rw [hq, hr, ha]
 simp only [Int.natAbs_natCast]
 have h5 : r + n * q = a := by exact_mod_cast h3
 have h6 : r + 1 ≤ n := by omega
 have h7 : (r + 1) * q ≤ n * q := Nat.mul_le_mul_right _ h6
 rw [Nat.add_mul 1 q, Nat.one_mul, Nat.mul_comm q]
 omega
theorem eu_num {x y : Int} (hy : y ≠ 0) : (1 + (x / y).natAbs) * ((x % y).natAbs + 1) ≤ x.natAbs + 2 * y.natAbs := by
 have h1 := Int.emod_nonneg x hy
 have h2 := Int.emod_lt x hy
 have h3 := Int.emod_add_mul_ediv x y
 have h5 : (y * (x / y)).natAbs = y.natAbs * (x / y).natAbs := Int.natAbs_mul ..
 have h6 : (x % y).natAbs + 1 ≤ y.natAbs := by omega
 have h7 : (1 + (x / y).natAbs) * ((x % y).natAbs + 1) ≤ (1 + (x / y).natAbs) * y.natAbs := Nat.mul_le_mul_left _ h6
 rw [Nat.add_mul 1 (x / y).natAbs y.natAbs, Nat.one_mul, Nat.mul_comm (x / y).natAbs] at h7
 omega
def eE (A:Nat) : Nat := (3 * A + 1) * (3 * (A + 1))
theorem eE_pos (A:Nat) : 1 ≤ eE A := by
 unfold eE
 have := Nat.mul_le_mul (show 1 ≤ 3 * A + 1 by omega) (show 1 ≤ 3 * (A + 1) by omega)
 omega
theorem eE_ge (A:Nat) : A + 1 ≤ eE A := by
 unfold eE
 have := Nat.mul_le_mul (show 1 ≤ 3 * A + 1 by omega) (show A + 1 ≤ 3 * (A + 1) by omega)
 omega
section
variable {r cc c top i : Nat} (ht : top < r) (hi : i < r) (hc : c < cc) (hne : top ≠ i)
include ht hi hc hne
theorem eu_next {m : List (List Int)} : el (apO r cc (swapO top i) (apO r cc (addO top i (-(el m top c / el m i c))) m)) top c = el m i c ∧
   el (apO r cc (swapO top i) (apO r cc (addO top i (-(el m top c / el m i c))) m)) i c = el m top c % el m i c := by
 refine ⟨by rw [el_both ht hi hne ht hc, if_pos rfl], ?_⟩
 rw [el_both ht hi hne hi hc, if_neg (Ne.symm hne), if_pos rfl]; exact mod_eq _ _
theorem eu_swap {m : List (List Int)} : el (apO r cc (swapO top i) m) top c = el m i c ∧ el (apO r cc (swapO top i) m) i c = el m top c := by
 refine ⟨by rw [el_swap ht hc, if_pos rfl], by rw [el_swap hi hc, if_neg (Ne.symm hne), if_pos rfl]⟩
theorem eu_g0 : ∀ (f:Nat) (m : List (List Int)), 0 ≤ el m top c → 0 ≤ el m i c → gL (euL r cc c top i f m) ≤ ((el m top c).natAbs + 1) * ((el m i c).natAbs + 1)
 | 0, m, _, _ => Nat.mul_le_mul (Nat.le_add_left 1 _) (Nat.le_add_left 1 _)
 | f + 1, m, hx, hy => by
   simp only [euL]
   split
   · exact Nat.mul_le_mul (Nat.le_add_left 1 _) (Nat.le_add_left 1 _)
   · rename_i h0
     split
     · rename_i hx0
       obtain ⟨e1, e2⟩ := eu_swap ht hi hc hne (m := m)
       have := eu_g0 f (apO r cc (swapO top i) m) (by rw [e1]; exact hy) (by rw [e2]; exact hx)
       rw [e1, e2, hx0] at this
       simp only [gL, gO, if_neg (show ¬ (1:Nat) = 3 by decide), Nat.one_mul, hx0]
       rw [Nat.mul_comm]
       exact this
     · obtain ⟨e1, e2⟩ := eu_next ht hi hc hne (m := m)
       have := eu_g0 f (apO r cc (swapO top i) (apO r cc (addO top i (-(el m top c / el m i c))) m)) (by rw [e1]; exact hy) (by rw [e2]; exact Int.emod_nonneg _ h0)
       rw [e1, e2] at this
       simp only [gL, gO, if_neg (show ¬ (1:Nat) = 3 by decide), Nat.one_mul, if_pos, Int.natAbs_neg]
       have h2 := eu_num0 hx (show 0 < el m i c by omega)
       refine Nat.le_trans (Nat.mul_le_mul_left _ this) ?_
       rw [Nat.mul_left_comm, Nat.mul_comm ((el m top c).natAbs + 1)]
       exact Nat.mul_le_mul_left _ h2
theorem eu_g1 (f:Nat) (m : List (List Int)) (hy : 0 ≤ el m i c) : gL (euL r cc c top i f m) ≤ ((el m top c).natAbs + 2 * (el m i c).natAbs + 1) * ((el m i c).natAbs + 1) := by
 match f with
 | 0 => exact Nat.mul_le_mul (Nat.le_add_left 1 _) (Nat.le_add_left 1 _)
 | f + 1 =>
   simp only [euL]
   split
   · exact Nat.mul_le_mul (Nat.le_add_left 1 _) (Nat.le_add_left 1 _)
   · rename_i h0
     split
     · rename_i hx0
       obtain ⟨e1, e2⟩ := eu_swap ht hi hc hne (m := m)
       have := eu_g0 ht hi hc hne f (apO r cc (swapO top i) m) (by rw [e1]; exact hy) (by rw [e2, hx0]; exact Int.le_refl _)
       rw [e1, e2, hx0] at this
       simp only [gL, gO, if_neg (show ¬ (1:Nat) = 3 by decide), Nat.one_mul, hx0]
       simp only [Int.natAbs_zero, Nat.zero_add, Nat.mul_one] at this ⊢
       refine Nat.le_trans this ?_
       have := Nat.mul_le_mul_right ((el m i c).natAbs + 1) (show 1 ≤ 2 * (el m i c).natAbs + 1 by omega)
       omega
     · obtain ⟨e1, e2⟩ := eu_next ht hi hc hne (m := m)
       have := eu_g0 ht hi hc hne f (apO r cc (swapO top i) (apO r cc (addO top i (-(el m top c / el m i c))) m)) (by rw [e1]; exact hy) (by rw [e2]; exact Int.emod_nonneg _ h0)
       rw [e1, e2] at this
       simp only [gL, gO, if_neg (show ¬ (1:Nat) = 3 by decide), Nat.one_mul, if_pos, Int.natAbs_neg]
       have h2 := eu_num (x := el m top c) h0
       refine Nat.le_trans (Nat.mul_le_mul_left _ this) ?_
       rw [Nat.mul_left_comm, Nat.mul_comm ((el m top c).natAbs + 2 * (el m i c).natAbs + 1)]
       exact Nat.mul_le_mul_left _ (by omega)
theorem eu_g2 (f:Nat) (m : List (List Int)) : gL (euL r cc c top i f m) ≤ ((el m top c).natAbs + 2 * (el m i c).natAbs + 1) * (3 * ((el m i c).natAbs + 1)) := by
 match f with
 | 0 => exact Nat.mul_le_mul (Nat.le_add_left 1 _) (show 1 ≤ 3 * ((el m i c).natAbs + 1) by omega)
 | f + 1 =>
   simp only [euL]
   split
   · exact Nat.mul_le_mul (Nat.le_add_left 1 _) (show 1 ≤ 3 * ((el m i c).natAbs + 1) by omega)
   · rename_i h0
     split
     · rename_i hx0
       obtain ⟨e1, e2⟩ := eu_swap ht hi hc hne (m := m)
       have := eu_g1 ht hi hc hne f (apO r cc (swapO top i) m) (by rw [e2, hx0]; exact Int.le_refl _)
       rw [e1, e2, hx0] at this
       simp only [gL, gO, if_neg (show ¬ (1:Nat) = 3 by decide), Nat.one_mul, hx0]
       simp only [Int.natAbs_zero, Nat.zero_add, Nat.mul_one, Nat.mul_zero, Nat.add_zero] at this ⊢
       refine Nat.le_trans this ?_
       have := Nat.mul_le_mul_right (3 * ((el m i c).natAbs + 1)) (show 1 ≤ 2 * (el m i c).natAbs + 1 by omega)
       omega
     · obtain ⟨e1, e2⟩ := eu_next ht hi hc hne (m := m)
       have := eu_g1 ht hi hc hne f (apO r cc (swapO top i) (apO r cc (addO top i (-(el m top c / el m i c))) m)) (by rw [e2]; exact Int.emod_nonneg _ h0)
       rw [e1, e2] at this
       simp only [gL, gO, if_neg (show ¬ (1:Nat) = 3 by decide), Nat.one_mul, if_pos, Int.natAbs_neg]
       have h2 := eu_num (x := el m top c) h0
       have h3 := Int.emod_nonneg (el m top c) h0
       have h4 := Int.emod_lt (el m top c) h0
       refine Nat.le_trans (Nat.mul_le_mul_left _ this) ?_
       rw [Nat.mul_left_comm, Nat.mul_comm ((el m top c).natAbs + 2 * (el m i c).natAbs + 1)]
       exact Nat.mul_le_mul (by omega) (by omega)
theorem eu_g {A : Nat} (f:Nat) {m : List (List Int)} (h1 : (el m top c).natAbs ≤ A) (h2 : (el m i c).natAbs ≤ A) : gL (euL r cc c top i f m) ≤ eE A :=
 Nat.le_trans (eu_g2 ht hi hc hne f m) (Nat.mul_le_mul (by omega) (by omega))
end
def rowsL (r cc c top:Nat) : List Nat → List (List Int) → List Opz
 | [], _ => []
 | i :: is, m => euL r cc c top i ((el m i c).natAbs + 1) m ++ rowsL r cc c top is (apL r cc (euL r cc c top i ((el m i c).natAbs + 1) m) m)
def redL (r cc c top:Nat) : List Nat → List (List Int) → List Opz
 | [], _ => []
 | i :: is, m => addO i top (-(el m i c / el m top c)) :: redL r cc c top is (apO r cc (addO i top (-(el m i c / el m top c))) m)
def ColB (r c A:Nat) (m : List (List Int)) : Prop := ∀ a, a < r → (el m a c).natAbs ≤ A
section
variable {r cc c top : Nat} (ht : top < r) (hc : c < cc)
include ht hc
theorem rowsL_ok {A : Nat} : ∀ (is : List Nat) (m : List (List Int)), (∀ i ∈ is, i < r ∧ top ≠ i) → ColB r c A m →
   (∀ o ∈ rowsL r cc c top is m, vO r o = true) ∧ gL (rowsL r cc c top is m) ≤ eE A ^ is.length ∧ ColB r c A (apL r cc (rowsL r cc c top is m) m) ∧
   (∀ a, a < r → a ≠ top → (a ∈ is ∨ el m a c = 0) → el (apL r cc (rowsL r cc c top is m) m) a c = 0) ∧
   (∀ a b, a < r → b < cc → a ≠ top → a ∉ is → el (apL r cc (rowsL r cc c top is m) m) a b = el m a b)
 | [], m, _, hA => ⟨by simp [rowsL], by simp [rowsL, gL], hA, fun a _ _ h => by
     rcases h with h | h
     · simp at h
     · exact h, fun _ _ _ _ _ _ => rfl⟩
 | i :: is, m, h, hA => by
   obtain ⟨hi, hne⟩ := h i (by simp)
   have v1 := euL_valid (cc := cc) (c := c) ht hi hne ((el m i c).natAbs + 1) m
   have g1 := eu_g ht hi hc hne ((el m i c).natAbs + 1) (hA top ht) (hA i hi)
   have e1 := euL_end ht hi hc hne ((el m i c).natAbs + 1) m (by omega) A (hA top ht) (hA i hi)
   have r1 := fun a b => euL_rest (cc := cc) (c := c) ht hi hne ((el m i c).natAbs + 1) m a b
   simp only [rowsL]
   generalize euL r cc c top i ((el m i c).natAbs + 1) m = l at *
   have hA2 : ColB r c A (apL r cc l m) := fun a ha => by
     by_cases h1 : a = top
     · rw [h1]; exact e1.2
     · by_cases h2 : a = i
       · rw [h2, e1.1]; simp
       · rw [r1 a c ha hc h1 h2]; exact hA a ha
   obtain ⟨v2, g2, A2, z2, k2⟩ := rowsL_ok is (apL r cc l m) (fun j hj => h j (by simp [hj])) hA2
   rw [apL_append]
   refine ⟨fun o ho => ?_, ?_, A2, fun a ha h1 h2 => ?_, fun a b ha hb h1 h2 => ?_⟩
   · rcases List.mem_append.1 ho with h | h
     · exact v1 o h
     · exact v2 o h
   · rw [gL_append, List.length_cons, Nat.pow_succ, Nat.mul_comm (eE A ^ is.length)]
     exact Nat.mul_le_mul g1 g2
   · refine z2 a ha h1 ?_
     by_cases h3 : a ∈ is
     · exact .inl h3
     · right
       by_cases h4 : a = i
       · rw [h4]; exact e1.1
       · rw [r1 a c ha hc h1 h4]
         rcases h2 with h2 | h2
         · rcases List.mem_cons.1 h2 with h2 | h2
           · exact absurd h2 h4
           · exact absurd h2 h3
         · exact h2
   · simp only [List.mem_cons, not_or] at h2
     rw [k2 a b ha hb h1 h2.2, r1 a b ha hb h1 h2.1]
theorem rowsL_zero : ∀ (is : List Nat) (m : List (List Int)) (b:Nat), (∀ i ∈ is, i < r ∧ top ≠ i) → b < cc → (∀ a, a < r → (a = top ∨ a ∈ is) → el m a b = 0) →
   ∀ a, a < r → (a = top ∨ a ∈ is) → el (apL r cc (rowsL r cc c top is m) m) a b = 0
 | [], m, b, _, _, h0, a, ha, h1 => h0 a ha h1
 | i :: is, m, b, h, hb, h0, a, ha, h1 => by
   obtain ⟨hi, hne⟩ := h i (by simp)
   obtain ⟨z1, z2⟩ := euL_zero (cc := cc) (c := c) ht hi hne ((el m i c).natAbs + 1) m b hb (h0 top ht (.inl rfl)) (h0 i hi (.inr (by simp)))
   have r1 := fun a b => euL_rest (cc := cc) (c := c) ht hi hne ((el m i c).natAbs + 1) m a b
   simp only [rowsL]
   rw [apL_append]
   generalize euL r cc c top i ((el m i c).natAbs + 1) m = l at *
   have key : ∀ a, a < r → (a = top ∨ a ∈ i :: is) → el (apL r cc l m) a b = 0 := fun a ha h2 => by
     by_cases e1 : a = top
     · rw [e1]; exact z1
     · by_cases e2 : a = i
       · rw [e2]; exact z2
       · rw [r1 a b ha hb e1 e2]; exact h0 a ha h2
   by_cases e : a = top ∨ a ∈ is
   · exact rowsL_zero is _ b (fun j hj => h j (by simp [hj])) hb (fun a ha h2 => key a ha (h2.imp id (List.mem_cons_of_mem _))) a ha e
   · simp only [not_or] at e
     rw [(rowsL_ok ht hc (A := (List.range r).foldl (fun k a => k + (el (apL r cc l m) a c).natAbs) 0) is (apL r cc l m) (fun j hj => h j (by simp [hj])) fun a ha => ?_).2.2.2.2 a b ha hb e.1 e.2]
     · exact key a ha h1
     · have : ∀ (l2 : List Nat) (k:Nat) (g:Nat → Nat), (∀ x ∈ l2, g x ≤ l2.foldl (fun k a => k + g a) k) ∧ k ≤ l2.foldl (fun k a => k + g a) k := by
         intro l2
         induction l2 with
         | nil => intro k g; simp
         | cons y l2 ih =>
           intro k g
           simp only [List.foldl_cons]
           refine ⟨fun x hx => ?_, by have := (ih (k + g y) g).2; omega⟩
           rcases List.mem_cons.1 hx with rfl | hx
           · have := (ih (k + g x) g).2; omega
           · exact (ih _ g).1 x hx
       exact (this (List.range r) 0 fun a => (el (apL r cc l m) a c).natAbs).1 a (List.mem_range.2 ha)
theorem redL_ok {A : Nat} : ∀ (is : List Nat) (m : List (List Int)), (∀ i ∈ is, i < r ∧ i ≠ top) → ColB r c A m → 0 < el m top c →
   (∀ o ∈ redL r cc c top is m, vO r o = true) ∧ gL (redL r cc c top is m) ≤ (A + 1) ^ is.length ∧
   (∀ a b, a < r → b < cc → (a = top ∨ a ∉ is) → el (apL r cc (redL r cc c top is m) m) a b = el m a b) ∧
   (∀ a b, a < r → b < cc → el m top b = 0 → el (apL r cc (redL r cc c top is m) m) a b = el m a b) ∧
   (∀ a, a < r → a ∈ is → 0 ≤ el (apL r cc (redL r cc c top is m) m) a c ∧ el (apL r cc (redL r cc c top is m) m) a c < el m top c)
 | [], m, _, hA, _ => ⟨by simp [redL], by simp [redL, gL], fun _ _ _ _ _ => rfl, fun _ _ _ _ _ => rfl, fun _ _ h => by simp at h⟩
 | i :: is, m, h, hA, hp => by
   obtain ⟨hi, hne⟩ := h i (by simp)
   have e1 : ∀ a b, a < r → b < cc → el (apO r cc (addO i top (-(el m i c / el m top c))) m) a b = if a = i then el m a b + -(el m i c / el m top c) * el m top b else el m a b := fun a b ha hb => el_add ha hb
   have etop : ∀ b, b < cc → el (apO r cc (addO i top (-(el m i c / el m top c))) m) top b = el m top b := fun b hb => by rw [e1 top b ht hb, if_neg (Ne.symm hne)]
   have em : el (apO r cc (addO i top (-(el m i c / el m top c))) m) i c = el m i c % el m top c := by rw [e1 i c hi hc, if_pos rfl]; exact mod_eq _ _
   have h1 := Int.emod_nonneg (el m i c) (by omega : el m top c ≠ 0)
   have h2 := Int.emod_lt_of_pos (el m i c) hp
   have hA2 : ColB r c A (apO r cc (addO i top (-(el m i c / el m top c))) m) := fun a ha => by
     by_cases ea : a = i
     · rw [ea, em]; have := hA top ht; omega
     · rw [e1 a c ha hc, if_neg ea]; exact hA a ha
   have hz : (el m i c / el m top c).natAbs ≤ A := by
     have h3 := hA i hi
     have h4 := Int.natAbs_ediv_le_natAbs (el m i c) (el m top c)
     omega
   obtain ⟨v2, g2, k2, z2, n2⟩ := redL_ok is (apO r cc (addO i top (-(el m i c / el m top c))) m) (fun j hj => h j (by simp [hj])) hA2 (by rw [etop c hc]; exact hp)
   simp only [redL, apL]
   refine ⟨fun o ho => ?_, ?_, fun a b ha hb h5 => ?_, fun a b ha hb h5 => ?_, fun a ha h5 => ?_⟩
   · rcases List.mem_cons.1 ho with rfl | ho
     · exact vO_add hi ht hne
     · exact v2 o ho
   · rw [List.length_cons, Nat.pow_succ, Nat.mul_comm ((A + 1) ^ is.length)]
     simp only [gL, gO, if_pos, Int.natAbs_neg]
     exact Nat.mul_le_mul (by omega) g2
   · rw [k2 a b ha hb (h5.imp id fun h6 h7 => h6 (List.mem_cons_of_mem _ h7)), e1 a b ha hb, if_neg]
     rintro rfl
     rcases h5 with h5 | h5
     · exact hne h5
     · exact h5 (by simp)
   · rw [z2 a b ha hb (by rw [etop b hb]; exact h5), e1 a b ha hb, h5, Int.mul_zero, Int.add_zero]
     split <;> rfl
   · by_cases h6 : a ∈ is
     · have := n2 a ha h6
       rwa [etop c hc] at this
     · have ea : a = i := by
         rcases List.mem_cons.1 h5 with h | h
         · exact h
         · exact absurd h h6
       subst ea
       rw [k2 a c ha hc (.inr h6), em]
       exact ⟨h1, h2⟩
end
end Go.AM
/- The operations of torsionref12.Form: a column, all columns; bounds. -/
namespace Go.AM
def pivL (r cc c top:Nat) (K : List (List Int) → List Opz) (m : List (List Int)) : List Opz :=
 redL r cc c top (List.range top) m ++ K (apL r cc (redL r cc c top (List.range top) m) m)
def tailL (r cc c top:Nat) (K0 K1 : List (List Int) → List Opz) (m : List (List Int)) : List Opz :=
 if el m top c = 0 then K0 m
 else if el m top c < 0 then negO top :: pivL r cc c top K1 (apO r cc (negO top) m)
 else pivL r cc c top K1 m
def lowL (r cc c top i:Nat) (K : List (List Int) → List Opz) (m : List (List Int)) : List Opz :=
 rowsL r cc c top (List.range' i (r - i)) m ++ K (apL r cc (rowsL r cc c top (List.range' i (r - i)) m) m)
def formL (r cc:Nat) : Nat → Nat → Nat → List (List Int) → List Opz
 | 0, _, _, _ => []
 | n + 1, c, top, m => if top < r then lowL r cc c top (top + 1) (tailL r cc c top (formL r cc n (c + 1) top) (formL r cc n (c + 1) (top + 1))) m else []
def gB (r:Nat) : Nat → Nat → Nat
 | 0, _ => 1
 | n + 1, N => eE N ^ r * gB r n (eE N ^ r * N)
theorem gB_pos (r:Nat) : ∀ n N, 1 ≤ gB r n N
 | 0, _ => Nat.le_refl _
 | n + 1, N => Nat.mul_le_mul (Nat.pow_pos (eE_pos N)) (gB_pos r n _)
theorem colB_of {r cc c A : Nat} {m : List (List Int)} (hm : Mx r cc m) (km : BdM A m) (hc : c < cc) : ColB r c A m := fun _ ha => el_bd hm km ha hc
section
variable {r cc : Nat}
theorem lowL_low {c top i : Nat} {K : List (List Int) → List Opz} {m : List (List Int)} (h : i < r) :
   lowL r cc c top i K m = euL r cc c top i ((el m i c).natAbs + 1) m ++ lowL r cc c top (i + 1) K (apL r cc (euL r cc c top i ((el m i c).natAbs + 1) m) m) := by
 unfold lowL
 rw [show r - i = (r - (i + 1)) + 1 by omega, List.range'_succ]
 simp only [rowsL]
 rw [apL_append, List.append_assoc]
theorem lowL_end {c top : Nat} {K : List (List Int) → List Opz} {m : List (List Int)} : lowL r cc c top r K m = K m := by
 unfold lowL
 simp [rowsL, apL]
theorem below {top : Nat} : ∀ i ∈ List.range' (top + 1) (r - (top + 1)), i < r ∧ top ≠ i := fun i hi => by
 simp only [List.mem_range'_1] at hi
 omega
theorem formL_ok : ∀ (n c top:Nat) (m : List (List Int)) (N:Nat), c + n ≤ cc → Mx r cc m → BdM N m →
   (∀ o ∈ formL r cc n c top m, vO r o = true) ∧ gL (formL r cc n c top m) ≤ gB r n N
 | 0, c, top, m, N, _, _, _ => ⟨by simp [formL], by simp [formL, gL, gB]⟩
 | n + 1, c, top, m, N, hcc, hm, km => by
   have hc : c < cc := by omega
   simp only [formL]
   split
   case isFalse => exact ⟨by simp, by simp only [gL]; exact gB_pos r _ _⟩
   rename_i ht
   have hA := colB_of hm km hc
   obtain ⟨v1, g1, A1, z1, k1⟩ := rowsL_ok (cc := cc) ht hc (List.range' (top + 1) (r - (top + 1))) m below hA
   unfold lowL
   have lm : Mx r cc (apL r cc (rowsL r cc c top (List.range' (top + 1) (r - (top + 1))) m) m) := apL_mx _ hm
   have lk := apL_g v1 hm km
   rw [List.length_range'] at g1
   generalize rowsL r cc c top (List.range' (top + 1) (r - (top + 1))) m = l1 at *
   generalize apL r cc l1 m = m1 at *
   have hr1 : eE N ^ (r - (top + 1)) ≤ eE N ^ r := Nat.pow_le_pow_right (eE_pos N) (by omega)
   have fin0 : ∀ top', (∀ o ∈ formL r cc n (c + 1) top' m1, vO r o = true) ∧ gL (formL r cc n (c + 1) top' m1) ≤ gB r n (eE N ^ r * N) := fun top' =>
     formL_ok n (c + 1) top' m1 (eE N ^ r * N) (by omega) lm (lk.mono (Nat.mul_le_mul_right _ (Nat.le_trans g1 hr1)))
   have piv : ∀ (l2 : List Opz) (m2 : List (List Int)), (∀ o ∈ l2, vO r o = true) → gL l2 = 1 → m2 = apL r cc l2 m1 → ColB r c N m2 → 0 < el m2 top c →
       (∀ o ∈ l2 ++ pivL r cc c top (formL r cc n (c + 1) (top + 1)) m2, vO r o = true) ∧ gL l1 * gL (l2 ++ pivL r cc c top (formL r cc n (c + 1) (top + 1)) m2) ≤ gB r (n + 1) N := fun l2 m2 v2 g2 hm2 A2 hp => by
     obtain ⟨v3, g3, _, _, _⟩ := redL_ok (cc := cc) ht hc (A := N) (List.range top) m2 (fun i hi => by simp only [List.mem_range] at hi; omega) A2 hp
     unfold pivL
     rw [List.length_range] at g3
     have lm2 : Mx r cc m2 := hm2 ▸ apL_mx _ lm
     have lk2 : BdM (gL l1 * N) m2 := by
       have := apL_g v2 lm lk
       rw [g2, Nat.one_mul] at this
       rw [hm2]; exact this
     have lk3 := apL_g v3 lm2 lk2
     have lm3 : Mx r cc (apL r cc (redL r cc c top (List.range top) m2) m2) := apL_mx _ lm2
     generalize redL r cc c top (List.range top) m2 = l3 at *
     generalize apL r cc l3 m2 = m3 at *
     have g13 : gL l1 * gL l3 ≤ eE N ^ r := by
       have h1 : (N + 1) ^ top ≤ eE N ^ top := Nat.pow_le_pow_left (eE_ge N) top
       have h2 : gL l1 * gL l3 ≤ eE N ^ (r - (top + 1)) * eE N ^ top := Nat.mul_le_mul g1 (Nat.le_trans g3 h1)
       rw [← Nat.pow_add] at h2
       exact Nat.le_trans h2 (Nat.pow_le_pow_right (eE_pos N) (by omega))
     obtain ⟨v4, g4⟩ := formL_ok n (c + 1) (top + 1) m3 (eE N ^ r * N) (by omega) lm3 (lk3.mono (by
       rw [← Nat.mul_assoc, Nat.mul_comm (gL l3)]
       exact Nat.mul_le_mul_right _ g13))
     refine ⟨fun o ho => ?_, ?_⟩
     · rcases List.mem_append.1 ho with h | h
       · exact v2 o h
       · rcases List.mem_append.1 h with h | h
         · exact v3 o h
         · exact v4 o h
     · rw [gL_append, gL_append, g2, Nat.one_mul, ← Nat.mul_assoc]
       exact Nat.mul_le_mul g13 g4
   unfold tailL
   split
   · refine ⟨fun o ho => ?_, ?_⟩
     · rcases List.mem_append.1 ho with h | h
       · exact v1 o h
       · exact (fin0 top).1 o h
     · rw [gL_append]
       exact Nat.mul_le_mul (Nat.le_trans g1 hr1) (fin0 top).2
   · rename_i h0
     split
     · rename_i hneg
       have e1 : ∀ a b, a < r → b < cc → el (apO r cc (negO top) m1) a b = if a = top then - el m1 a b else el m1 a b := fun a b ha hb => by rw [el_apO ha hb]; simp [opF]
       obtain ⟨p1, p2⟩ := piv [negO top] (apO r cc (negO top) m1) (fun o ho => by simp only [List.mem_singleton] at ho; subst ho; exact vO_neg ht) rfl rfl
         (fun a ha => by
           rw [e1 a c ha hc]
           split
           · rw [Int.natAbs_neg]; exact A1 a ha
           · exact A1 a ha)
         (by rw [e1 top c ht hc, if_pos rfl]; omega)
       refine ⟨fun o ho => ?_, ?_⟩
       · rcases List.mem_append.1 ho with h | h
         · exact v1 o h
         · exact p1 o h
       · rw [gL_append]; exact p2
     · obtain ⟨p1, p2⟩ := piv [] m1 (by simp) rfl rfl A1 (by omega)
       refine ⟨fun o ho => ?_, ?_⟩
       · rcases List.mem_append.1 ho with h | h
         · exact v1 o h
         · exact p1 o h
       · rw [gL_append]; exact p2
end
theorem gB_pow (r:Nat) : ∀ (n N:Nat), 1 ≤ N → N * gB r n N ≤ (24 * N) ^ ((2 * r + 2) ^ n)
 | 0, N, h => by simp [gB]; omega
 | n + 1, N, h => by
   have hE : eE N ≤ (24 * N) ^ 2 := by
     unfold eE
     have h1 : (3 * N + 1) * (3 * (N + 1)) ≤ (24 * N) * (24 * N) := Nat.mul_le_mul (by omega) (by omega)
     rw [Nat.pow_two]; exact h1
   have hEr : eE N ^ r ≤ (24 * N) ^ (2 * r) := by rw [Nat.pow_mul]; exact Nat.pow_le_pow_left hE r
   have hN1 : 1 ≤ eE N ^ r * N := Nat.mul_le_mul (Nat.pow_pos (eE_pos N)) h
   have ih := gB_pow r n (eE N ^ r * N) hN1
   simp only [gB]
   have e1 : N * (eE N ^ r * gB r n (eE N ^ r * N)) = (eE N ^ r * N) * gB r n (eE N ^ r * N) := by rw [← Nat.mul_assoc, Nat.mul_comm N]
   rw [e1]
   refine Nat.le_trans ih ?_
   have h2 : 24 * (eE N ^ r * N) ≤ (24 * N) ^ (2 * r + 2) := by
     have h3 : eE N ^ r * (24 * N) ≤ (24 * N) ^ (2 * r) * (24 * N) := Nat.mul_le_mul_right _ hEr
     have h4 : (24 * N) ^ (2 * r) * (24 * N) ≤ (24 * N) ^ (2 * r + 2) := by
       rw [← Nat.pow_succ]
       exact Nat.pow_le_pow_right (by omega) (by omega)
     have e2 : 24 * (eE N ^ r * N) = eE N ^ r * (24 * N) := Nat.mul_left_comm _ _ _
     omega
   refine Nat.le_trans (Nat.pow_le_pow_left h2 _) ?_
   rw [← Nat.pow_mul, Nat.pow_succ, Nat.mul_comm (2 * r + 2)]
   exact Nat.le_refl _
end Go.AM
/- torsionref12.Form: what it answers. -/
namespace Go.AM
open Go.Proofs.Try
def redP (top c:Int) (w01 w11 w31 w41 w61 w71:Int) (o31 o41 o51 : DLL) (J0:Int → Int → Int → Int → Int → Int → (DLL) → (DLL) → (DLL) → Int → Int → Prop) (μ0:Int → Int → Int → Int → Int → Int → (DLL) → (DLL) → (DLL) → Int → Int → Nat) (B0:Nat) : Prop :=
 ∃ (J4:Int → Int → Int → Int → Int → Int → (DLL) → (DLL) → (DLL) → Int → Prop) (μ4:Int → Int → Int → Int → Int → Int → (DLL) → (DLL) → (DLL) → Int → Nat),
 J4 w01 w11 w31 w41 w61 w71 o31 o41 o51 (0:Int) ∧ ∀ (w04:Int) (w14:Int) (w34:Int) (w44:Int) (w64:Int) (w74:Int) (o34 : DLL) (o44 : DLL) (o54 : DLL) (i2:Int), J4 w04 w14 w34 w44 w64 w74 o34 o44 o54 i2 →
   ((decide (i2 < top)) = true →
     ∃ (x05:Bool) (x15 : DL) (x06:Bool) (x16 : DL) (r05:Bool) (r16 : DL) (r06:Bool) (r17 : DL) (b36:Int) (b37:Int) (b38:Int) (b39:Int) (b40:Int) (b41:Int) (m18 : DLL) (m19 : DLL) (m20 : DLL),
     (0 ≤ i2 ∧ i2 < (o34.length:Int)) ∧
     (∃ l, o34[(i2).toNat]? = some l ∧ 0 ≤ c ∧ c < (l.length:Int)) ∧
     (at2 o34 (i2).toNat (c).toNat = some [(dB x05), (dL x15)]) ∧
     (0 ≤ top ∧ top < (o34.length:Int)) ∧
     (∃ l, o34[(top).toNat]? = some l ∧ 0 ≤ c ∧ c < (l.length:Int)) ∧
     (at2 o34 (top).toNat (c).toNat = some [(dB x06), (dL x16)]) ∧
     (FnD prog 125 [(vA [(sD (dB x05)), (sD (dL x15))]), (vA [(sD (dB x06)), (sD (dL x16))])] (vA [(sD (dB r05)), (sD (dL r16))]) []) ∧
     (FnD prog 104 [(vA [(sD (dB r05)), (sD (dL r16))])] (vA [(sD (dB r06)), (sD (dL r17))]) []) ∧
     (FnO prog 123 [(V.e (E.sc (S.ptr 0 0))), (vD (dI i2)), (vD (dI top)), (vA [(sD (dB r06)), (sD (dL r17))])] [(some (Obj.box [(sD (dI w04)), (sD (dI w14)), (S.ref 1), (sD (dI w34)), (sD (dI w44)), (S.ref 2), (sD (dI w64)), (sD (dI w74)), (S.ref 3)])), (some (Obj.mat 2 o34)), (some (Obj.mat 2 o44)), (some (Obj.mat 2 o54))] (V.tup []) [(some (Obj.box [(sD (dI b36)), (sD (dI b37)), (S.ref 1), (sD (dI b38)), (sD (dI b39)), (S.ref 2), (sD (dI b40)), (sD (dI b41)), (S.ref 3)])), (some (Obj.mat 2 m18)), (some (Obj.mat 2 m19)), (some (Obj.mat 2 m20))]) ∧
     (J4 b36 b37 b38 b39 b40 b41 m18 m19 m20 (IntKind.i64.wrap (i2 + (1:Int))) ∧ μ4 b36 b37 b38 b39 b40 b41 m18 m19 m20 (IntKind.i64.wrap (i2 + (1:Int))) < μ4 w04 w14 w34 w44 w64 w74 o34 o44 o54 i2)) ∧
   ((decide (i2 < top)) = false →
     J0 w04 w14 w34 w44 w64 w74 o34 o44 o54 (IntKind.i64.wrap (top + (1:Int))) (IntKind.i64.wrap (c + (1:Int))) ∧ μ0 w04 w14 w34 w44 w64 w74 o34 o44 o54 (IntKind.i64.wrap (top + (1:Int))) (IntKind.i64.wrap (c + (1:Int))) < B0)
def unlim : DL → Nat
 | [.int _ n] :: l => n.toNat + 4294967296 * unlim l
 | _ => 0
theorem unlim_lim : ∀ l : List Nat, unlim (lim l) = val l
 | [] => rfl
 | x :: l => by
   have := unlim_lim l
   simp only [lim, List.map_cons, unlim, val, Int.toNat_natCast] at this ⊢
   rw [this]
def msr (o : DLL) (i j:Nat) : Nat :=
 match at2 o i j with
 | some [_, .sl l] => unlim l
 | _ => 0
theorem at2_el {r c : Nat} {m : List (List Int)} (hm : Mx r c m) {i j : Nat} (hi : i < r) (hj : j < c) : at2 (om m) i j = some (cI (el m i j)) := by
 conv => lhs; rw [mx_table hm]
 exact at2_om hi hj
theorem at2_elN {r c : Nat} {m : List (List Int)} (hm : Mx r c m) {i j : Nat} (hi : i < r) (hj : j < c) : at2 (om m) (i:Int).toNat (j:Int).toNat = some (cI (el m i j)) := by
 rw [Int.toNat_natCast, Int.toNat_natCast]; exact at2_el hm hi hj
theorem msr_om {r c : Nat} {m : List (List Int)} (hm : Mx r c m) {i j : Nat} (hi : i < r) (hj : j < c) : msr (om m) i j = (el m i j).natAbs := by
 unfold msr
 rw [at2_el hm hi hj]
 simp only [cI]
 rw [unlim_lim, val_digs]
theorem omx_in {r c : Nat} {m : List (List Int)} (hm : Mx r c m) {i j : Nat} (hi : i < r) (hj : j < c) : ∃ l, (om m)[(i:Int).toNat]? = some l ∧ 0 ≤ (j:Int) ∧ (j:Int) < (l.length:Int) := by
 conv => rw [mx_table hm]
 exact om_in hi hj
theorem omx_len {r c : Nat} {m : List (List Int)} (hm : Mx r c m) : (om m).length = r := by rw [om_length]; exact hm.1
structure FCx (r cc K L:Nat) (a : List (List Int)) (FL : List Opz) : Prop where
 hm : Mx r cc a
 bd : ∀ d e, d ++ e = FL → BdM K (apL r cc d a) ∧ BdM K (apL r r d (table r r delta)) ∧ BdM K (apCL r d (table r r delta))
 nx : ∀ d o e, d ++ o :: e = FL → vO r o = true ∧ o.z.natAbs ≤ K
 big : K * K * 4294967296 < 4294967296 ^ L
 hL : L ≤ 1073741824
 hr : r ≤ 4294967296
 hc : cc ≤ 4294967296
section
variable {r cc K L : Nat} {a : List (List Int)} {FL : List Opz} (C : FCx r cc K L a FL)
abbrev wD (r cc:Nat) (a : List (List Int)) (d : List Opz) : Heap := wH r cc (apL r cc d a) (apL r r d (table r r delta)) (apCL r d (table r r delta))
abbrev wDs (r cc:Nat) (a : List (List Int)) (d : List Opz) : Heap := wHs r cc (apL r cc d a) (apL r r d (table r r delta)) (apCL r d (table r r delta))
theorem apL_one (d : List Opz) (o:Opz) (m : List (List Int)) : apL r cc (d ++ [o]) m = apO r cc o (apL r cc d m) := apL_append d [o] m
theorem apCL_one (d : List Opz) (o:Opz) (m : List (List Int)) : apCL r (d ++ [o]) m = apC r o (apCL r d m) := apCL_append d [o] m
theorem mxu (r:Nat) (d : List Opz) : Mx r r (apL r r d (table r r delta)) := apL_mx _ (table_mx _ _ _)
theorem mxv (r:Nat) (d : List Opz) : Mx r r (apCL r d (table r r delta)) := apCL_mx _ (table_mx _ _ _)
theorem le_sq (K:Nat) : K ≤ K * K := by
 rcases Nat.eq_zero_or_pos K with h0 | h0
 · omega
 · exact one_mul_le h0
include C
theorem FCx.mx (d : List Opz) : Mx r cc (apL r cc d a) := apL_mx _ C.hm
theorem FCx.lt {z : Int} (h : z.natAbs ≤ K) : z.natAbs * 4294967296 < 4294967296 ^ L :=
 Nat.lt_of_le_of_lt (Nat.mul_le_mul_right _ (Nat.le_trans h (le_sq K))) C.big
theorem FCx.sz {z : Int} (h : z.natAbs ≤ K) : Sz z := Sz.of_lt L C.hL (Nat.lt_of_le_of_lt (Nat.le_mul_of_pos_right _ (by decide)) (C.lt h))
theorem FCx.sz2 {x y : Int} (hx : x.natAbs ≤ K) (hy : y.natAbs ≤ K) : Sz (x * y) := Sz.of_lt L C.hL (by
 rw [Int.natAbs_mul]
 exact Nat.lt_of_le_of_lt (Nat.le_trans (Nat.mul_le_mul hx hy) (Nat.le_mul_of_pos_right _ (by decide))) C.big)
theorem FCx.add {d e : List Opz} {i j : Nat} {z : Int} (h : d ++ addO i j z :: e = FL) : FnO prog 123 [vP 0 0, vi i, vi j, eI z] (wD r cc a d) (.tup []) (wD r cc a (d ++ [addO i j z])) := by
 obtain ⟨b1, b2, b3⟩ := C.bd d _ h
 obtain ⟨n1, n2⟩ := C.nx d _ e h
 have := wadd_gen (o := addO i j z) n1 rfl (C.mx d) (mxu r d) (mxv r d) b1 b2 b3 (C.sz n2) (fun y hy => ⟨C.sz hy, C.sz2 n2 hy⟩) C.hr C.hc
 unfold wD
 rw [apL_one, apL_one, apCL_one]
 exact this
theorem FCx.swap {d e : List Opz} {i j : Nat} (h : d ++ swapO i j :: e = FL) : FnO prog 121 [vP 0 0, vi i, vi j] (wD r cc a d) (.tup []) (wDs r cc a (d ++ [swapO i j])) := by
 obtain ⟨n1, _⟩ := C.nx d _ e h
 have := wswap_ok (o := swapO i j) n1 rfl (C.mx d) (mxu r d) (mxv r d) C.hr
 unfold wDs
 rw [apL_one, apL_one, apCL_one]
 exact this
theorem FCx.neg {d e : List Opz} {i : Nat} (h : d ++ negO i :: e = FL) : FnO prog 122 [vP 0 0, vi i] (wD r cc a d) (.tup []) (wD r cc a (d ++ [negO i])) := by
 obtain ⟨b1, b2, b3⟩ := C.bd d _ h
 obtain ⟨n1, _⟩ := C.nx d _ e h
 have := wneg_gen (o := negO i) n1 rfl (C.mx d) (mxu r d) (mxv r d) b1 b2 b3 (fun y hy => C.sz hy) C.hr C.hc
 unfold wD
 rw [apL_one, apL_one, apCL_one]
 exact this
theorem FCx.el {d e : List Opz} (h : d ++ e = FL) {i j : Nat} (hi : i < r) (hj : j < cc) : (el (apL r cc d a) i j).natAbs ≤ K := el_bd (C.mx d) (C.bd d e h).1 hi hj
end
def FW (r cc:Nat) (a : List (List Int)) (d : List Opz) (w0 w1 w3 w4 w6 w7:Int) (o3 o4 o5 : DLL) : Prop :=
 w0 = (r:Int) ∧ w1 = (cc:Int) ∧ w3 = (r:Int) ∧ w4 = (r:Int) ∧ w6 = (r:Int) ∧ w7 = (r:Int) ∧ o3 = om (apL r cc d a) ∧ o4 = om (apL r r d (table r r delta)) ∧ o5 = om (apCL r d (table r r delta))
def eHer (r c:Int) (h u v : List (List Int)) : V := .e (.agg [.dat (.int .i64 r), .dat (.int .i64 c), .dat (.sl (rows h)), .dat (.int .i64 r), .dat (.int .i64 r), .dat (.sl (rows u)), .dat (.int .i64 r), .dat (.int .i64 r), .dat (.sl (rows v))])
section
variable {r cc K L : Nat} {a : List (List Int)} {FL : List Opz} (C : FCx r cc K L a FL)
include C
theorem redP_ok {k t : Nat} (hk : k < cc) (ht : t < r) {d : List Opz} {w0 w1 w3 w4 w6 w7 : Int} {o3 o4 o5 : DLL} (hw : FW r cc a d w0 w1 w3 w4 w6 w7 o3 o4 o5)
   {J0:Int → Int → Int → Int → Int → Int → (DLL) → (DLL) → (DLL) → Int → Int → Prop} {μ0:Int → Int → Int → Int → Int → Int → (DLL) → (DLL) → (DLL) → Int → Int → Nat} {B0 : Nat}
   (hp : 0 < el (apL r cc d a) t k) {K1 : List (List Int) → List Opz} (hd : d ++ pivL r cc k t K1 (apL r cc d a) = FL)
   (hJ : ∀ d w0 w1 w3 w4 w6 w7 o3 o4 o5, FW r cc a d w0 w1 w3 w4 w6 w7 o3 o4 o5 → d ++ K1 (apL r cc d a) = FL → J0 w0 w1 w3 w4 w6 w7 o3 o4 o5 (IntKind.i64.wrap ((t:Int) + 1)) (IntKind.i64.wrap ((k:Int) + 1)) ∧ μ0 w0 w1 w3 w4 w6 w7 o3 o4 o5 (IntKind.i64.wrap ((t:Int) + 1)) (IntKind.i64.wrap ((k:Int) + 1)) < B0) :
   redP (t:Int) (k:Int) w0 w1 w3 w4 w6 w7 o3 o4 o5 J0 μ0 B0 := by
 have hr := C.hr
 unfold redP
 refine ⟨fun w0 w1 w3 w4 w6 w7 o3 o4 o5 i => ∃ (d : List Opz) (ii:Nat), FW r cc a d w0 w1 w3 w4 w6 w7 o3 o4 o5 ∧ i = (ii:Int) ∧ ii ≤ t ∧ 0 < el (apL r cc d a) t k ∧
   d ++ (redL r cc k t (List.range' ii (t - ii)) (apL r cc d a) ++ K1 (apL r cc (redL r cc k t (List.range' ii (t - ii)) (apL r cc d a)) (apL r cc d a))) = FL,
   fun _ _ _ _ _ _ _ _ _ i => ((t:Int) - i).toNat, ⟨d, 0, hw, rfl, by omega, hp, by rw [Nat.sub_zero, ← List.range_eq_range']; exact hd⟩, ?_⟩
 clear hw hp hd
 rintro v0 v1 v3 v4 v6 v7 p3 p4 p5 _ ⟨d, ii, hw, rfl, hii, hp, hd⟩
 refine ⟨fun h => ?_, fun h => ?_⟩
 · have hlt : ii < t := by have := of_decide_eq_true h; omega
   rw [show t - ii = (t - (ii + 1)) + 1 by omega, List.range'_succ] at hd
   simp only [redL, apL, List.cons_append] at hd
   obtain ⟨rfl, rfl, rfl, rfl, rfl, rfl, rfl, rfl, rfl⟩ := hw
   have b1 := C.el (hd) (show ii < r by omega) hk
   have b2 := C.el (hd) ht hk
   have nx := (C.nx d _ _ hd).2
   simp only [Int.natAbs_neg] at nx
   have e1 : apL r cc (d ++ [addO ii t (-(el (apL r cc d a) ii k / el (apL r cc d a) t k))]) a = apO r cc (addO ii t (-(el (apL r cc d a) ii k / el (apL r cc d a) t k))) (apL r cc d a) := apL_one _ _ _
   have e2 : el (apO r cc (addO ii t (-(el (apL r cc d a) ii k / el (apL r cc d a) t k))) (apL r cc d a)) t k = el (apL r cc d a) t k := by
     rw [el_add ht hk, if_neg (by omega)]
   refine ⟨_, _, _, _, _, _, _, _, _, _, _, _, _, _, _, _, _, ⟨by omega, by rw [omx_len (C.mx d)]; omega⟩, omx_in (C.mx d) (by omega) hk, at2_elN (C.mx d) (by omega) hk, ⟨by omega, by rw [omx_len (C.mx d)]; omega⟩, omx_in (C.mx d) ht hk, at2_elN (C.mx d) ht hk,
     floor_ok (by omega) (C.lt b1) (C.lt b2) C.hL, rneg_ok (C.sz nx), C.add hd, ?_⟩
   rw [inc64 (by omega)]
   refine ⟨⟨_, ii + 1, ⟨rfl, rfl, rfl, rfl, rfl, rfl, rfl, rfl, rfl⟩, rfl, by omega, ?_, ?_⟩, ?_⟩
   · rw [e1, e2]; exact hp
   · rw [e1, List.append_assoc]; exact hd
   · show ((t:Int) - ((ii + 1:Nat) : Int)).toNat < ((t:Int) - (ii:Int)).toNat; omega
 · have he : ii = t := by have := of_decide_eq_false h; omega
   subst he
   rw [Nat.sub_self] at hd
   simp only [List.range'_zero, redL, apL, List.nil_append] at hd
   exact hJ d _ _ _ _ _ _ _ _ _ hw hd
end
end Go.AM
/- What functions of the program come to: group Ok. Printed by vc.py. -/
set_option maxRecDepth 100000
set_option linter.unusedVariables false
namespace Go.AM
open Go.Proofs.Try
def vc119o (a : DLL) (cols:Int) (R:V → Heap → Prop) : Prop :=
 R (V.e (E.sc (S.clo (.func 149) [1,2]))) [some (Obj.mat 2 a),some (Obj.box [sD (dI cols)]),some (Obj.box [S.ref 0])]
theorem vc119o_ok (a : DLL) (cols:Int) {R:V → Heap → Prop} (h : vc119o a cols R) : FnG prog 119 [V.e (E.sc (S.ref 0)),vD (dI cols)] [some (Obj.mat 2 a)] R :=
 FnG.vcg hT func119 ntmps119 (.reg 2 [(0,Or.none,1,1),(1,Or.none,2,1)] [2,3] [0,1,2] [] <| .r1 [4] [0,2,1] <| .ret [0,1,2])
   (by kernel_rfl) (by kernel_rfl) (by kernel_rfl) h
def vc159o (a : DLL) (top c:Int) (R:V → Heap → Prop) : Prop :=
 ∃ (J0:Int → Int → Prop) (μ0:Int → Int → Nat),
 J0 (-1:Int) top ∧ ∀ (best i:Int),J0 best i →
 (decide (i < (a.length:Int)) = true →
 ∃ (x0:Bool) (x1 : DL) (r:Int),
 (0 ≤ i ∧ i < (a.length:Int)) ∧
 (∃ l,a[(i).toNat]? = some l ∧ 0 ≤ c ∧ c < (l.length:Int)) ∧
 (at2 a (i).toNat (c).toNat = some [dB x0,dL x1]) ∧
 (FnD prog 91 [vA [sD (dB x0),sD (dL x1)]] (vD (dI r)) []) ∧
 (((r != (0:Int)) = true →
 (decide (best < (0:Int)) = true →
 J0 i (IntKind.i64.wrap (i + (1:Int))) ∧ μ0 i (IntKind.i64.wrap (i + (1:Int))) < μ0 best i) ∧
 (decide (best < (0:Int)) = false →
 ∃ (r0:Bool) (r1 : DL) (x01:Bool) (x11 : DL) (r01:Bool) (r11 : DL) (r2:Int),
 (FnD prog 165 [vA [sD (dB x0),sD (dL x1)]] (vA [sD (dB r0),sD (dL r1)]) []) ∧
 (0 ≤ best ∧ best < (a.length:Int)) ∧
 (∃ l,a[(best).toNat]? = some l ∧ 0 ≤ c ∧ c < (l.length:Int)) ∧
 (at2 a (best).toNat (c).toNat = some [dB x01,dL x11]) ∧
 (FnD prog 165 [vA [sD (dB x01),sD (dL x11)]] (vA [sD (dB r01),sD (dL r11)]) []) ∧
 (FnD prog 148 [vA [sD (dB r0),sD (dL r1)],vA [sD (dB r01),sD (dL r11)]] (vD (dI r2)) []) ∧
 ((decide (r2 < (0:Int)) = true →
 J0 i (IntKind.i64.wrap (i + (1:Int))) ∧ μ0 i (IntKind.i64.wrap (i + (1:Int))) < μ0 best i) ∧
 (decide (r2 < (0:Int)) = false →
 J0 best (IntKind.i64.wrap (i + (1:Int))) ∧ μ0 best (IntKind.i64.wrap (i + (1:Int))) < μ0 best i)))) ∧
 ((r != (0:Int)) = false →
 J0 best (IntKind.i64.wrap (i + (1:Int))) ∧ μ0 best (IntKind.i64.wrap (i + (1:Int))) < μ0 best i))) ∧
 (decide (i < (a.length:Int)) = false →
 R (vD (dI best)) [some (Obj.mat 2 a)])
theorem vc159o_ok (a : DLL) (top c:Int) {R:V → Heap → Prop} (h : vc159o a top c R) : FnG prog 159 [V.e (E.sc (S.ref 0)),vD (dI top),vD (dI c)] [some (Obj.mat 2 a)] R :=
 FnG.vcg hT func159 ntmps159 (.r1 [0,1,2] [0] <| .r1 [0,1,2,7] [0] <| .r1 [0,2,7,8] [0] <| .lp [.i,.i] (fun best i => ⟨[(0,vR 0),(2,vD (dI c)),(7,vD (dI best)),(8,vD (dI i))],[some (Obj.mat 2 a)],51⟩) [.i (-1:Int),.i top] <| .fi fun best => .fi fun i => .beg <| .r1 [0,2,7,8,13] [0] <| .c2 (.exb fun x0 => .exl fun x1 => .ex fun r => .ob (0 ≤ i ∧ i < (a.length:Int)) <| .ob (∃ l,a[(i).toNat]? = some l ∧ 0 ≤ c ∧ c < (l.length:Int)) <| .ob (at2 a (i).toNat (c).toNat = some [dB x0,dL x1]) <| .ob (FnD prog 91 [vA [sD (dB x0),sD (dL x1)]] (vD (dI r)) []) <| .spl ((r != (0:Int))) (.spl ((decide (best < (0:Int)))) (.drw 0 [(6,(Or.cells [dB x0,dL x1],0,0),[]),(7,(Or.call (vD (dI r)) [] [],0,0),[]),(9,(Or.bool true,0,0),[]),(12,(Or.bool true,0,0),[])] [0,2,7,8,48] [0] [.old 5,.old 4,.old 3,.old 2,.old 1,.old 0] <| .ct true none <| .r1 [0,2,7,8] [0] <| .r1 [0,2,7,8] [0] <| .bk 0 [.i i,.i (IntKind.i64.wrap (i + (1:Int)))]) (.exb fun r0 => .exl fun r1 => .exb fun x01 => .exl fun x11 => .exb fun r01 => .exl fun r11 => .ex fun r2 => .drw 0 [(6,(Or.cells [dB x0,dL x1],0,0),[]),(7,(Or.call (vD (dI r)) [] [],0,0),[]),(9,(Or.bool true,0,0),[]),(12,(Or.bool false,0,0),[]),(19,(Or.cells [dB x0,dL x1],0,0),[]),(20,(Or.call (vA [sD (dB r0),sD (dL r1)]) [] [],0,0),[]),(27,(Or.cells [dB x01,dL x11],0,0),[]),(28,(Or.call (vA [sD (dB r01),sD (dL r11)]) [] [],0,0),[]),(29,(Or.call (vD (dI r2)) [] [],0,0),[])] [0,2,7,8,48] [0] [.old 5,.old 4,.old 3,.old 2,.old 1,.old 0,.old 5,.old 4,.old 3] <| .c2 (.r1 [0,2,7,8] [0] <| .r1 [0,2,7,8] [0] <| .bk 0 [.i i,.i (IntKind.i64.wrap (i + (1:Int)))]) (.r1 [0,2,7,8] [0] <| .bk 0 [.i best,.i (IntKind.i64.wrap (i + (1:Int)))]))) (.drw 0 [(6,(Or.cells [dB x0,dL x1],0,0),[]),(7,(Or.call (vD (dI r)) [] [],0,0),[]),(9,(Or.bool false,0,0),[])] [0,2,7,8,48] [0] [.old 4,.old 3,.old 2,.old 1,.old 0] <| .ct false none <| .r1 [0,2,7,8] [0] <| .bk 0 [.i best,.i (IntKind.i64.wrap (i + (1:Int)))])) (.r1 [6] [0] <| .ret [0]))
   (by kernel_rfl) (by kernel_rfl) (by kernel_rfl) h
def vc160o (a : DLL) (i top c:Int) (R:V → Heap → Prop) : Prop :=
 ∃ (x0:Bool) (x1 : DL) (x01:Bool) (x11 : DL) (r0:Bool) (r1 : DL) (r01:Bool) (r11 : DL) (r:Int),
 (0 ≤ i ∧ i < (a.length:Int)) ∧
 (∃ l,a[(i).toNat]? = some l ∧ 0 ≤ c ∧ c < (l.length:Int)) ∧
 (at2 a (i).toNat (c).toNat = some [dB x0,dL x1]) ∧
 (0 ≤ top ∧ top < (a.length:Int)) ∧
 (∃ l,a[(top).toNat]? = some l ∧ 0 ≤ c ∧ c < (l.length:Int)) ∧
 (at2 a (top).toNat (c).toNat = some [dB x01,dL x11]) ∧
 (FnD prog 166 [vA [sD (dB x0),sD (dL x1)],vA [sD (dB x01),sD (dL x11)]] (V.tup [E.agg [sD (dB r0),sD (dL r1)],E.agg [sD (dB r01),sD (dL r11)],eD (dI r)]) []) ∧
 (∃ (r02:Bool) (r12 : DL),
 (FnD prog 100 [vA [sD (dB r0),sD (dL r1)]] (vA [sD (dB r02),sD (dL r12)]) []) ∧
 (R (vA [sD (dI (3:Int)),sD (dI i),sD (dI top),sD (dB r02),sD (dL r12)]) [some (Obj.mat 2 a)]))
theorem vc160o_ok (a : DLL) (i top c:Int) {R:V → Heap → Prop} (h : vc160o a i top c R) : FnG prog 160 [V.e (E.sc (S.ref 0)),vD (dI i),vD (dI top),vD (dI c)] [some (Obj.mat 2 a)] R :=
 FnG.vcg hT func160 ntmps160 (.reg 1 [(0,Or.none,1,1)] [0,1,2,3,8] [0,1] [] <| .exb fun x0 => .exl fun x1 => .exb fun x01 => .exl fun x11 => .exb fun r0 => .exl fun r1 => .exb fun r01 => .exl fun r11 => .ex fun r => .drw 2 [(6,(Or.cells [dB x0,dL x1],0,0),[]),(13,(Or.cells [dB x01,dL x11],0,0),[]),(14,(Or.call (V.tup [E.agg [sD (dB r0),sD (dL r1)],E.agg [sD (dB r01),sD (dL r11)],eD (dI r)]) [] [],0,0),[]),(19,(Or.none,2,1),[2]),(20,(Or.none,3,1),[3]),(21,(Or.none,0,0),[2]),(22,(Or.none,0,0),[3])] [1,2,8,9] [0,1,2] [] <| .exb fun r02 => .exl fun r12 => .reg 0 [(3,Or.call (vA [sD (dB r02),sD (dL r12)]) [] [],0,0)] [8] [0,1] [] <| .ret [0])
   (by kernel_rfl) (by kernel_rfl) (by kernel_rfl) h
end Go.AM
/- oplog: the least element and a reduction, of a matrix that stays the caller's. -/
namespace Go.AM
open Go.Proofs.Try
theorem leastO_ok {r cc top c : Nat} {m : List (List Int)} (hm : Mx r cc m) (hs : ∀ i j, i < r → j < cc → Sz (el m i j)) (hc : c < cc) (ht : top ≤ r) (hr : r ≤ 4294967296) :
   FnO prog 159 [vR 0, vi top, vi c] [some (.mat 2 (om m))] (vi (lsF m c top (r - top))) [some (.mat 2 (om m))] := by
 refine vc159o_ok _ _ _ (R := fun v h => v = _ ∧ h = _) ?_
 unfold vc159o
 have hlen : ((om m).length:Int) = (r:Int) := by rw [omx_len hm]
 rw [hlen]
 refine ⟨fun best t => ∃ n : Nat, t = ((top + n:Nat) : Int) ∧ top + n ≤ r ∧ best = lsF m c top n, fun _ t => ((r:Int) - t).toNat, ⟨0, rfl, ht, rfl⟩, ?_⟩
 rintro _ _ ⟨n, rfl, hn, rfl⟩
 refine ⟨fun h => ?_, fun h => ?_⟩
 · have hnr : top + n < r := by simp at h; omega
   have hnext : ∀ b, b = lsS m c (lsF m c top n) (top + n) → (∃ n' : Nat, ((top + n + 1:Nat) : Int) = ((top + n':Nat) : Int) ∧ top + n' ≤ r ∧ b = lsF m c top n') ∧ ((r:Int) - ((top + n + 1:Nat) : Int)).toNat < ((r:Int) - ((top + n:Nat) : Int)).toNat :=
     fun b hb => ⟨⟨n + 1, by omega, by omega, hb⟩, by omega⟩
   have hsign := sign_ok (el m (top + n) c)
   have sg : ((if el m (top + n) c = 0 then (0:Int) else if el m (top + n) c < 0 then -1 else 1) != 0) = decide (el m (top + n) c ≠ 0) := by
     by_cases h0 : el m (top + n) c = 0
     · simp [h0]
     · simp only [h0, if_false]; split <;> simp [h0]
   refine ⟨_, _, _, ⟨by omega, by omega⟩, omx_in hm hnr hc, at2_elN hm hnr hc, hsign, ?_⟩
   rw [sg, inc64 (by omega)]
   refine ⟨fun h0 => ?_, fun h0 => hnext _ ?_⟩
   · have hne : el m (top + n) c ≠ 0 := by simpa using h0
     refine ⟨fun hb => hnext _ ?_, fun hb => ?_⟩
     · have hb' : lsF m c top n < 0 := by simpa using hb
       unfold lsS; rw [if_pos ⟨hne, .inl hb'⟩]
     · have hb' : ¬ lsF m c top n < 0 := by simpa using hb
       rcases lsF_ok (m := m) (c := c) (top := top) n with ⟨g1, _⟩ | ⟨p, g1, g2, g3, g4, _⟩
       · rw [g1] at hb'; exact absurd (by decide) hb'
       · have hpr : p < r := by omega
         have s1 := hs _ _ hnr hc
         have s2 := hs _ _ hpr hc
         have szn : ∀ {z : Int}, Sz z → Sz ((z.natAbs:Nat) : Int) := fun h => by unfold Sz at *; rwa [Int.natAbs_natCast]
         have hcmp := cmp_ok (szn s1) (szn s2)
         have cm : decide (cmpI (((el m (top + n) c).natAbs:Nat) : Int) (((el m p c).natAbs:Nat) : Int) < 0) = decide ((el m (top + n) c).natAbs < (el m p c).natAbs) := by
           unfold cmpI
           by_cases hlt : (el m (top + n) c).natAbs < (el m p c).natAbs
           · have : (((el m (top + n) c).natAbs:Nat) : Int) < (((el m p c).natAbs:Nat) : Int) := by omega
             simp [hlt, this]
           · have : ¬ (((el m (top + n) c).natAbs:Nat) : Int) < (((el m p c).natAbs:Nat) : Int) := by omega
             rw [decide_eq_false hlt]
             simp only [this, if_false]
             split <;> decide
         have hst : lsS m c (p:Int) (top + n) = if (el m (top + n) c).natAbs < (el m p c).natAbs then ((top + n:Nat) : Int) else (p:Int) := by
           unfold lsS
           rw [Int.toNat_natCast]
           by_cases hlt : (el m (top + n) c).natAbs < (el m p c).natAbs
           · rw [if_pos ⟨hne, .inr hlt⟩, if_pos hlt]
           · rw [if_neg (fun ⟨_, b⟩ => b.elim (fun b => absurd b (by omega)) hlt), if_neg hlt]
         rw [g1] at hnext ⊢
         rw [hst] at hnext
         refine ⟨_, _, _, _, _, _, _, abs_ok _, ⟨by omega, by omega⟩, omx_in hm hpr hc, at2_elN hm hpr hc, abs_ok _, hcmp, ?_⟩
         rw [cm]
         refine ⟨fun hl => hnext _ ?_, fun hl => hnext _ ?_⟩
         · rw [if_pos (by simpa using hl)]
         · rw [if_neg (by simpa using hl)]
   · have hne : el m (top + n) c = 0 := by simpa using h0
     unfold lsS; rw [if_neg (by simp [hne])]
 · have hnr : r ≤ top + n := by simp at h; omega
   rw [show r - top = n by omega]
   exact ⟨rfl, rfl⟩
theorem byO_ok {r cc i top c L : Nat} {m : List (List Int)} (hm : Mx r cc m) (hi : i < r) (ht : top < r) (hc : c < cc) (hz : el m top c ≠ 0) (hr : r ≤ 4294967296)
   (h1 : (el m i c).natAbs * 4294967296 < 4294967296 ^ L) (h2 : (el m top c).natAbs * 4294967296 < 4294967296 ^ L) (hL : L ≤ 1073741824) :
   FnO prog 160 [vR 0, vi i, vi top, vi c] [some (.mat 2 (om m))] (oE (addO i top (-(el m i c / el m top c)))) [some (.mat 2 (om m))] := by
 refine vc160o_ok _ _ _ _ (R := fun v h => v = _ ∧ h = _) ?_
 unfold vc160o
 exact ⟨_, _, _, _, _, _, _, _, _, ⟨by omega, by rw [omx_len hm]; omega⟩, omx_in hm hi hc, at2_elN hm hi hc, ⟨by omega, by rw [omx_len hm]; omega⟩, omx_in hm ht hc, at2_elN hm ht hc, idivmod_ok hz h1 h2 hL, _, _, neg_ok _, rfl, rfl⟩
theorem stepsO_ok {m : DLL} {c : Int} : FnO prog 119 [vR 0, vi c] [some (.mat 2 m)] (V.e (E.sc (S.clo (.func 149) [1, 2]))) [some (.mat 2 m), some (.box [sD (dI c)]), some (.box [S.ref 0])] :=
 vc119o_ok _ _ (R := fun v h => v = _ ∧ h = _) ⟨rfl, rfl⟩
end Go.AM
/- Hermite normal forms in small steps, in plain Lean: the steps, how much they let the elements grow, that they end. -/
namespace Go.AM
def opnL (c top:Nat) (m : List (List Int)) (l : List Nat) : Option Nat := l.find? fun i => decide (i ≠ top) && decide (el m i c / el m top c ≠ 0)
def nx1 (r c top:Nat) (m : List (List Int)) : Option Opz × Nat × Nat :=
 if lsF m c top (r - top) < 0 then (none, top, c + 1)
 else if lsF m c top (r - top) ≠ (top:Int) then (some (swapO (lsF m c top (r - top)).toNat top), top, c)
 else if el m top c < 0 then (some (negO top), top, c)
 else match opnL c top m (List.range r) with
   | some i => (some (addO i top (-(el m i c / el m top c))), top, c)
   | none => (none, top + 1, c + 1)
structure PS where
 d : List Opz
 t : Nat
 k : Nat
def PS.next (r cc:Nat) (a : List (List Int)) (s:PS) : PS := ⟨s.d ++ (nx1 r s.k s.t (apL r cc s.d a)).1.toList, (nx1 r s.k s.t (apL r cc s.d a)).2.1, (nx1 r s.k s.t (apL r cc s.d a)).2.2⟩
def prodF:Nat → (Nat → Nat) → Nat
 | 0, _ => 1
 | n + 1, f => prodF n f * f n
theorem prodF_congr : ∀ {n : Nat} {f g:Nat → Nat}, (∀ i, i < n → f i = g i) → prodF n f = prodF n g
 | 0, _, _, _ => rfl
 | n + 1, f, g, h => by simp only [prodF]; rw [prodF_congr fun i hi => h i (by omega), h n (by omega)]
theorem prodF_pos : ∀ {n : Nat} {f:Nat → Nat}, (∀ i, i < n → 1 ≤ f i) → 1 ≤ prodF n f
 | 0, _, _ => Nat.le_refl _
 | n + 1, f, h => Nat.mul_le_mul (prodF_pos fun i hi => h i (by omega)) (h n (by omega))
theorem prodF_le : ∀ {n K : Nat} {f:Nat → Nat}, (∀ i, i < n → f i ≤ K) → prodF n f ≤ K ^ n
 | 0, _, _, _ => Nat.le_refl _
 | n + 1, K, f, h => by rw [Nat.pow_succ]; exact Nat.mul_le_mul (prodF_le fun i hi => h i (by omega)) (h n (by omega))
theorem prodF_one : ∀ {n k : Nat} {f g:Nat → Nat}, k < n → (∀ i, i < n → i ≠ k → g i = f i) → prodF n f * g k = prodF n g * f k
 | 0, _, _, _, h, _ => by omega
 | n + 1, k, f, g, h, he => by
   simp only [prodF]
   by_cases hk : k = n
   · subst hk
     rw [prodF_congr fun i hi => he i (by omega) (by omega)]
     rw [Nat.mul_assoc, Nat.mul_assoc, Nat.mul_comm (f k)]
   · have := prodF_one (n := n) (k := k) (f := f) (g := g) (by omega) fun i hi => he i (by omega)
     rw [he n (by omega) (Ne.symm hk), Nat.mul_right_comm, this, Nat.mul_right_comm]
theorem prodF_mul {n k x : Nat} {f g:Nat → Nat} (hk : k < n) (he : ∀ i, i < n → i ≠ k → g i = f i) (hg : x * g k ≤ f k) (hp : ∀ i, i < n → 1 ≤ g i) : x * prodF n g ≤ prodF n f := by
 have h1 := prodF_one hk he
 have h2 : x * g k * prodF n g ≤ f k * prodF n g := Nat.mul_le_mul_right _ hg
 rw [Nat.mul_comm (f k), ← h1, Nat.mul_right_comm] at h2
 exact Nat.le_of_mul_le_mul_right h2 (hp k hk)
theorem prodF_swap {n i t : Nat} {f g:Nat → Nat} (hi : i < n) (ht : t < n) (h1 : g i = f t) (h2 : g t = f i) (he : ∀ j, j < n → j ≠ i → j ≠ t → g j = f j) (hp : ∀ j, j < n → 1 ≤ f j) : prodF n g = prodF n f := by
 by_cases hit : i = t
 · subst hit
   exact prodF_congr fun j hj => by
     by_cases h : j = i
     · rw [h]; exact h1
     · exact he j hj h h
 · -- over the one where i has been replaced
   have a1 := prodF_one (n := n) (k := i) (f := f) (g := fun j => if j = i then f t else f j) hi fun j _ hj => by simp [hj]
   have a2 := prodF_one (n := n) (k := t) (f := fun j => if j = i then f t else f j) (g := g) ht fun j hj hjt => by
     by_cases h : j = i
     · simp [h, h1]
     · simp [h, he j hj h hjt]
   simp only [if_pos, if_neg (Ne.symm hit)] at a1 a2
   rw [h2, ← a1] at a2
   exact (Nat.eq_of_mul_eq_mul_right (hp t ht) a2).symm
theorem ls_top {m : List (List Int)} {c top : Nat} (h0 : el m top c ≠ 0) : ∀ n, (∀ i, top ≤ i → i < top + (n + 1) → el m i c ≠ 0 → (el m top c).natAbs ≤ (el m i c).natAbs) → lsF m c top (n + 1) = (top:Int)
 | 0, _ => by simp [lsF, lsS, h0]
 | n + 1, h => by
   rw [lsF, ls_top h0 n fun i h1 h2 h3 => h i h1 (by omega) h3]
   unfold lsS
   rw [if_neg]
   rintro ⟨h1, h2 | h2⟩
   · omega
   · rw [Int.toNat_natCast] at h2
     have := h (top + (n + 1)) (by omega) (by omega) h1
     omega
def wE (N:Nat) (x:Int) : Nat := if 0 ≤ x then x.natAbs + 1 else x.natAbs + 2 * N + 1
def psi (r c N:Nat) (m : List (List Int)) : Nat := prodF r fun i => wE N (el m i c)
theorem wE_pos (N:Nat) (x:Int) : 1 ≤ wE N x := by unfold wE; split <;> omega
theorem psi_pos {r c N : Nat} {m : List (List Int)} : 1 ≤ psi r c N m := prodF_pos fun _ _ => wE_pos _ _
theorem psi_le {r c N : Nat} {m : List (List Int)} (h : ColB r c N m) : psi r c N m ≤ (3 * N + 1) ^ r := prodF_le fun i hi => by
 have := h i hi
 unfold wE; split <;> omega
section
variable {r cc c top : Nat} {m : List (List Int)} {N : Nat} (hc : c < cc) (hA : ColB r c N m)
include hc hA
theorem swap_col {i : Nat} (ht : top < r) (hi : i < r) : ColB r c N (apO r cc (swapO i top) m) ∧ psi r c N (apO r cc (swapO i top) m) = psi r c N m := by
 have e : ∀ a, a < r → el (apO r cc (swapO i top) m) a c = if a = i then el m top c else if a = top then el m i c else el m a c := fun a ha => el_swap ha hc
 refine ⟨fun a ha => ?_, ?_⟩
 · rw [e a ha]
   split
   · exact hA _ ht
   · split
     · exact hA _ hi
     · exact hA a ha
 · refine prodF_swap hi ht ?_ ?_ (fun j hj h1 h2 => ?_) fun _ _ => wE_pos _ _
   · rw [e i hi, if_pos rfl]
   · rw [e top ht]
     by_cases h : top = i
     · rw [if_pos h, h]
     · rw [if_neg h, if_pos rfl]
   · rw [e j hj, if_neg h1, if_neg h2]
theorem neg_col (ht : top < r) (hn : el m top c < 0) : ColB r c N (apO r cc (negO top) m) ∧ psi r c N (apO r cc (negO top) m) ≤ psi r c N m := by
 have e : ∀ a, a < r → el (apO r cc (negO top) m) a c = if a = top then - el m a c else el m a c := fun a ha => by rw [el_apO ha hc]; simp [opF]
 refine ⟨fun a ha => ?_, ?_⟩
 · rw [e a ha]
   split
   · rw [Int.natAbs_neg]; exact hA a ha
   · exact hA a ha
 · have := prodF_mul (x := 1) (n := r) (k := top) (f := fun i => wE N (el m i c)) (g := fun i => wE N (el (apO r cc (negO top) m) i c)) ht (fun i hi h => by rw [e i hi, if_neg h])
     (by rw [e top ht, if_pos rfl, Nat.one_mul]; unfold wE; rw [if_pos (by omega), if_neg (by omega)]; omega) fun _ _ => wE_pos _ _
   rw [Nat.one_mul] at this
   exact this
theorem add_col {i : Nat} (ht : top < r) (hi : i < r) (hp : 0 < el m top c) :
   ColB r c N (apO r cc (addO i top (-(el m i c / el m top c))) m) ∧ gO (addO i top (-(el m i c / el m top c))) * psi r c N (apO r cc (addO i top (-(el m i c / el m top c))) m) ≤ psi r c N m ∧
   el (apO r cc (addO i top (-(el m i c / el m top c))) m) i c = el m i c % el m top c ∧ (∀ a, a < r → a ≠ i → el (apO r cc (addO i top (-(el m i c / el m top c))) m) a c = el m a c) := by
 have e : ∀ a, a < r → el (apO r cc (addO i top (-(el m i c / el m top c))) m) a c = if a = i then el m a c + -(el m i c / el m top c) * el m top c else el m a c := fun a ha => el_add ha hc
 have ei : el (apO r cc (addO i top (-(el m i c / el m top c))) m) i c = el m i c % el m top c := by rw [e i hi, if_pos rfl]; exact mod_eq _ _
 have eo : ∀ a, a < r → a ≠ i → el (apO r cc (addO i top (-(el m i c / el m top c))) m) a c = el m a c := fun a ha h => by rw [e a ha, if_neg h]
 have h1 := Int.emod_nonneg (el m i c) (by omega : el m top c ≠ 0)
 have h2 := Int.emod_lt_of_pos (el m i c) hp
 refine ⟨fun a ha => ?_, ?_, ei, eo⟩
 · by_cases h : a = i
   · rw [h, ei]; have := hA top ht; omega
   · rw [eo a ha h]; exact hA a ha
 · refine prodF_mul (n := r) (k := i) (f := fun j => wE N (el m j c)) (g := fun j => wE N (el (apO r cc (addO i top (-(el m i c / el m top c))) m) j c)) hi (fun j hj h => by rw [eo j hj h]) ?_ fun _ _ => wE_pos _ _
   rw [ei]
   simp only [gO, if_pos, Int.natAbs_neg]
   have hw : wE N (el m i c % el m top c) = (el m i c % el m top c).natAbs + 1 := by unfold wE; rw [if_pos h1]
   rw [hw]
   unfold wE
   split
   · rename_i hx; exact eu_num0 hx hp
   · have := eu_num (x := el m i c) (y := el m top c) (by omega)
     have := hA top ht
     omega
end
end Go.AM
/- Hermite normal forms in small steps, in plain Lean: what holds at every step; the steps end. -/
namespace Go.AM
def qB (r N:Nat) : Nat → Nat
 | 0 => 1
 | k + 1 => qB r N k * (3 * (N * qB r N k) + 1) ^ r
theorem qB_pos (r N:Nat) : ∀ k, 1 ≤ qB r N k
 | 0 => Nat.le_refl _
 | k + 1 => Nat.mul_le_mul (qB_pos r N k) (Nat.pow_pos (by omega))
theorem qB_step (r N k:Nat) : qB r N k ≤ qB r N (k + 1) := by
 have := Nat.mul_le_mul_left (qB r N k) (show 1 ≤ (3 * (N * qB r N k) + 1) ^ r from Nat.pow_pos (by omega))
 simpa [qB] using this
theorem qB_mono (r N:Nat) {j k : Nat} (h : j ≤ k) : qB r N j ≤ qB r N k := by
 obtain ⟨n, rfl⟩ : ∃ n, k = j + n := ⟨k - j, by omega⟩
 clear h
 induction n with
 | zero => exact Nat.le_refl _
 | succ n ih => exact Nat.le_trans ih (qB_step r N (j + n))
structure PInv (r cc N:Nat) (a : List (List Int)) (s:PS) : Prop where
 va : ∀ o ∈ s.d, vO r o = true
 kc : s.k ≤ cc
 tk : s.t ≤ s.k
 tr : s.t ≤ r
 cb : s.k < cc → ColB r s.k (N * qB r N s.k) (apL r cc s.d a)
 gr : s.k < cc → gL s.d * psi r s.k (N * qB r N s.k) (apL r cc s.d a) ≤ qB r N (s.k + 1)
 ge : gL s.d ≤ qB r N cc
section
variable {r cc N : Nat} {a : List (List Int)}
theorem apL_snoc (d : List Opz) (o:Opz) (m : List (List Int)) : apL r cc (d ++ [o]) m = apO r cc o (apL r cc d m) := apL_append d [o] m
theorem gL_snoc (d : List Opz) (o:Opz) : gL (d ++ [o]) = gL d * gO o := by rw [gL_append]; simp [gL]
theorem PInv.start (hm : Mx r cc a) (km : BdM N a) : PInv r cc N a ⟨[], 0, 0⟩ := by
 refine ⟨fun o h => by simp at h, Nat.zero_le _, Nat.le_refl _, Nat.zero_le _, fun h => ?_, fun h => ?_, by simp only [gL]; exact qB_pos _ _ _⟩
 · simp only [qB, Nat.mul_one, apL]; exact colB_of hm km h
 · simp only [qB, Nat.mul_one, apL, gL, Nat.one_mul]
   exact psi_le (colB_of hm km h)
theorem PInv.col (hm : Mx r cc a) (km : BdM N a) {s : PS} (h : PInv r cc N a s) (hk : s.k < cc) {t' : Nat} (ht : t' ≤ s.k + 1) (hr : t' ≤ r) : PInv r cc N a ⟨s.d, t', s.k + 1⟩ := by
 have hg : gL s.d ≤ qB r N (s.k + 1) := by
   have h1 := h.gr hk
   have h2 := Nat.mul_le_mul_left (gL s.d) (psi_pos (r := r) (c := s.k) (N := N * qB r N s.k) (m := apL r cc s.d a))
   omega
 have hb : BdM (N * qB r N (s.k + 1)) (apL r cc s.d a) := (apL_g h.va hm km).mono (by rw [Nat.mul_comm]; exact Nat.mul_le_mul_left _ hg)
 have hcb : s.k + 1 < cc → ColB r (s.k + 1) (N * qB r N (s.k + 1)) (apL r cc s.d a) := fun h2 => colB_of (apL_mx _ hm) hb h2
 exact ⟨h.va, by show s.k + 1 ≤ cc; omega, ht, hr, hcb, fun h2 => Nat.mul_le_mul hg (psi_le (hcb h2)), h.ge⟩
theorem PInv.op {s : PS} (h : PInv r cc N a s) (hk : s.k < cc) {o : Opz} (hv : vO r o = true) (hc : ColB r s.k (N * qB r N s.k) (apO r cc o (apL r cc s.d a)))
   (hp : gO o * psi r s.k (N * qB r N s.k) (apO r cc o (apL r cc s.d a)) ≤ psi r s.k (N * qB r N s.k) (apL r cc s.d a)) : PInv r cc N a ⟨s.d ++ [o], s.t, s.k⟩ := by
 have hg : gL s.d * gO o * psi r s.k (N * qB r N s.k) (apO r cc o (apL r cc s.d a)) ≤ qB r N (s.k + 1) := by
   rw [Nat.mul_assoc]
   exact Nat.le_trans (Nat.mul_le_mul_left _ hp) (h.gr hk)
 refine ⟨fun x hx => ?_, h.kc, h.tk, h.tr, fun _ => by rw [apL_snoc]; exact hc, fun _ => by rw [apL_snoc, gL_snoc]; exact hg, ?_⟩
 · rcases List.mem_append.1 hx with h1 | h1
   · exact h.va x h1
   · simp only [List.mem_singleton] at h1; subst h1; exact hv
 · rw [gL_snoc]
   have h2 := Nat.mul_le_mul_left (gL s.d * gO o) (psi_pos (r := r) (c := s.k) (N := N * qB r N s.k) (m := apO r cc o (apL r cc s.d a)))
   rw [Nat.mul_one] at h2
   exact Nat.le_trans h2 (Nat.le_trans hg (qB_mono r N hk))
inductive NxS (r cc:Nat) (a : List (List Int)) (s:PS) : PS → Prop where
 | skip (h : lsF (apL r cc s.d a) s.k s.t (r - s.t) < 0) (hz : ∀ i, s.t ≤ i → i < r → el (apL r cc s.d a) i s.k = 0) : NxS r cc a s ⟨s.d, s.t, s.k + 1⟩
 | swap (p:Nat) (h : lsF (apL r cc s.d a) s.k s.t (r - s.t) = (p:Int)) (h1 : s.t < p) (h2 : p < r) (h3 : el (apL r cc s.d a) p s.k ≠ 0)
     (h4 : ∀ i, s.t ≤ i → i < r → el (apL r cc s.d a) i s.k ≠ 0 → (el (apL r cc s.d a) p s.k).natAbs ≤ (el (apL r cc s.d a) i s.k).natAbs) : NxS r cc a s ⟨s.d ++ [swapO p s.t], s.t, s.k⟩
 | neg (h : lsF (apL r cc s.d a) s.k s.t (r - s.t) = (s.t:Int)) (hn : el (apL r cc s.d a) s.t s.k < 0)
     (h4 : ∀ i, s.t ≤ i → i < r → el (apL r cc s.d a) i s.k ≠ 0 → (el (apL r cc s.d a) s.t s.k).natAbs ≤ (el (apL r cc s.d a) i s.k).natAbs) : NxS r cc a s ⟨s.d ++ [negO s.t], s.t, s.k⟩
 | add (i:Nat) (h : lsF (apL r cc s.d a) s.k s.t (r - s.t) = (s.t:Int)) (hp : 0 < el (apL r cc s.d a) s.t s.k)
     (h4 : ∀ i, s.t ≤ i → i < r → el (apL r cc s.d a) i s.k ≠ 0 → (el (apL r cc s.d a) s.t s.k).natAbs ≤ (el (apL r cc s.d a) i s.k).natAbs)
     (ho : opnL s.k s.t (apL r cc s.d a) (List.range r) = some i) (hi : i < r) (hne : i ≠ s.t) (hq : el (apL r cc s.d a) i s.k / el (apL r cc s.d a) s.t s.k ≠ 0) :
     NxS r cc a s ⟨s.d ++ [addO i s.t (-(el (apL r cc s.d a) i s.k / el (apL r cc s.d a) s.t s.k))], s.t, s.k⟩
 | adv (h : lsF (apL r cc s.d a) s.k s.t (r - s.t) = (s.t:Int)) (hp : 0 < el (apL r cc s.d a) s.t s.k)
     (ho : opnL s.k s.t (apL r cc s.d a) (List.range r) = none) (hz : ∀ i, i < r → i ≠ s.t → el (apL r cc s.d a) i s.k / el (apL r cc s.d a) s.t s.k = 0) : NxS r cc a s ⟨s.d, s.t + 1, s.k + 1⟩
theorem nx_ok {s : PS} (ht : s.t < r) : NxS r cc a s (s.next r cc a) := by
 unfold PS.next nx1
 rcases lsF_ok (m := apL r cc s.d a) (c := s.k) (top := s.t) (r - s.t) with ⟨h1, h2⟩ | ⟨p, h1, h2, h3, h4, h5⟩
 · have h0 : lsF (apL r cc s.d a) s.k s.t (r - s.t) < 0 := by rw [h1]; decide
   simp only [if_pos h0, Option.toList_none, List.append_nil]
   exact .skip h0 fun i g1 g2 => h2 i g1 (by omega)
 · have hnn : ¬ lsF (apL r cc s.d a) s.k s.t (r - s.t) < 0 := by rw [h1]; omega
   have h6 : ∀ i, s.t ≤ i → i < r → el (apL r cc s.d a) i s.k ≠ 0 → (el (apL r cc s.d a) p s.k).natAbs ≤ (el (apL r cc s.d a) i s.k).natAbs := fun i g1 g2 g3 => h5 i g1 (by omega) g3
   simp only [if_neg hnn]
   by_cases hp : p = s.t
   · subst hp
     have he : ¬ lsF (apL r cc s.d a) s.k s.t (r - s.t) ≠ (s.t:Int) := by rw [h1]; simp
     simp only [if_neg he]
     by_cases hn : el (apL r cc s.d a) s.t s.k < 0
     · simp only [if_pos hn, Option.toList_some]
       exact .neg h1 hn h6
     · have hp0 : 0 < el (apL r cc s.d a) s.t s.k := by omega
       simp only [if_neg hn]
       cases ho : opnL s.k s.t (apL r cc s.d a) (List.range r) with
       | none =>
         simp only [Option.toList_none, List.append_nil]
         refine .adv h1 hp0 ho fun i hi hne => ?_
         have := List.find?_eq_none.1 ho i (List.mem_range.2 hi)
         simp only [Bool.and_eq_true, decide_eq_true_eq, not_and, Decidable.not_not] at this
         exact this hne
       | some i =>
         simp only [Option.toList_some]
         have h7 := List.find?_some ho
         have h8 := List.mem_of_find?_eq_some ho
         simp only [Bool.and_eq_true, decide_eq_true_eq] at h7
         exact .add i h1 hp0 h6 ho (List.mem_range.1 h8) h7.1 h7.2
   · have he : lsF (apL r cc s.d a) s.k s.t (r - s.t) ≠ (s.t:Int) := by rw [h1]; omega
     have htn : (lsF (apL r cc s.d a) s.k s.t (r - s.t)).toNat = p := by rw [h1]; rfl
     simp only [if_pos he, htn, Option.toList_some]
     exact .swap p h1 (by omega) (by omega) h4 h6
theorem PInv.next (hm : Mx r cc a) (km : BdM N a) {s : PS} (h : PInv r cc N a s) (ht : s.t < r) (hk : s.k < cc) : PInv r cc N a (s.next r cc a) := by
 have hn := nx_ok (cc := cc) (a := a) ht
 have hcb := h.cb hk
 generalize s.next r cc a = s' at hn ⊢
 cases hn with
 | skip h1 hz => exact h.col hm km hk (by have := h.tk; omega) h.tr
 | swap p h0 h1 h2 h3 h4 =>
   obtain ⟨c1, c2⟩ := swap_col hk hcb ht h2
   exact h.op hk (vO_swap h2 ht (by omega)) c1 (by simp only [gO, if_neg (show ¬ (1:Nat) = 3 by decide), Nat.one_mul]; exact Nat.le_of_eq c2)
 | neg h0 h1 h4 =>
   obtain ⟨c1, c2⟩ := neg_col hk hcb ht h1
   exact h.op hk (vO_neg ht) c1 (by simp only [gO, if_neg (show ¬ (2:Nat) = 3 by decide), Nat.one_mul]; exact c2)
 | add i h0 hp h4 ho hi hne hq =>
   obtain ⟨c1, c2, _, _⟩ := add_col hk hcb ht hi hp
   exact h.op hk (vO_add hi ht hne) c1 c2
 | adv h0 hp ho hz => exact h.col hm km hk (by have := h.tk; omega) ht
def flg (r cc:Nat) (a : List (List Int)) (s:PS) : Nat :=
 if lsF (apL r cc s.d a) s.k s.t (r - s.t) ≠ (s.t:Int) then 2 else if el (apL r cc s.d a) s.t s.k < 0 then 1 else 0
theorem flg_le {s : PS} : flg r cc a s ≤ 2 := by unfold flg; split <;> (try split) <;> omega
end
end Go.AM
/- Hermite normal forms in small steps, in plain Lean: how many steps there are. -/
namespace Go.AM
theorem log2_le {a b : Nat} (ha : 1 ≤ a) (h : a ≤ b) : a.log2 ≤ b.log2 := (Nat.le_log2 (by omega)).2 (Nat.le_trans (Nat.log2_self_le (by omega)) h)
theorem log2_lt {a b : Nat} (ha : 1 ≤ a) (h : 2 * a ≤ b) : a.log2 + 1 ≤ b.log2 := (Nat.le_log2 (by omega)).2 (by
 have := Nat.log2_self_le (n := a) (by omega)
 rw [Nat.pow_succ]; omega)
def psL (r c t:Nat) (m : List (List Int)) : Nat := prodF r fun i => if i ≠ t ∧ el m i c / el m t c ≠ 0 then 2 else 1
theorem psL_w {p : Prop} [Decidable p] : 1 ≤ (if p then 2 else 1) := by split <;> decide
def psX (r N c t:Nat) (m : List (List Int)) : Nat := if t + 1 < r then psi r c N m else psL r c t m
def lX (r N t:Nat) : Nat := if t + 1 < r then Nat.log2 ((3 * (N * qB r N t) + 1) ^ r) else r
def RstF (r N:Nat) : Nat → Nat
 | 0 => 0
 | n + 1 => 3 * lX r N (r - (n + 1)) + 2 + RstF r N n
section
variable {r cc N : Nat} {a : List (List Int)}
def cpS (r cc N:Nat) (a : List (List Int)) (s:PS) : Nat := 3 * Nat.log2 (psX r (N * qB r N s.t) s.k s.t (apL r cc s.d a)) + flg r cc a s
def pot (r cc N:Nat) (a : List (List Int)) (s:PS) : Nat :=
 (cc - s.k) + if s.t < r ∧ s.k < cc ∧ ¬ lsF (apL r cc s.d a) s.k s.t (r - s.t) < 0 then RstF r N (r - s.t - 1) + cpS r cc N a s else RstF r N (r - s.t)
structure PTI (r cc N:Nat) (a : List (List Int)) (s:PS) : Prop where
 va : ∀ o ∈ s.d, vO r o = true
 kc : s.k ≤ cc
 tr : s.t ≤ r
 e : gL s.d ≤ qB r N s.t ∨ (s.t < r ∧ s.k < cc ∧ ¬ lsF (apL r cc s.d a) s.k s.t (r - s.t) < 0 ∧ ColB r s.k (N * qB r N s.t) (apL r cc s.d a) ∧ gL s.d * psi r s.k (N * qB r N s.t) (apL r cc s.d a) ≤ qB r N (s.t + 1))
theorem psX_pos {t c M : Nat} {m : List (List Int)} : 1 ≤ psX r M c t m := by
 unfold psX; split
 · exact psi_pos
 · exact prodF_pos fun _ _ => psL_w
theorem psL_le {t c : Nat} {m : List (List Int)} : psL r c t m ≤ 2 ^ r := prodF_le fun _ _ => by split <;> omega
theorem PTI.mid (hm : Mx r cc a) (km : BdM N a) {s : PS} (h : PTI r cc N a s) (hk : s.k < cc) :
   ColB r s.k (N * qB r N s.t) (apL r cc s.d a) ∧ gL s.d * psi r s.k (N * qB r N s.t) (apL r cc s.d a) ≤ qB r N (s.t + 1) := by
 rcases h.e with he | ⟨_, _, _, h1, h2⟩
 · have hb : BdM (N * qB r N s.t) (apL r cc s.d a) := (apL_g h.va hm km).mono (by rw [Nat.mul_comm]; exact Nat.mul_le_mul_left _ he)
   have hc := colB_of (apL_mx _ hm) hb hk
   exact ⟨hc, Nat.mul_le_mul he (psi_le hc)⟩
 · exact ⟨h1, h2⟩
theorem cp_le (hm : Mx r cc a) (km : BdM N a) {s : PS} (h : PTI r cc N a s) (hk : s.k < cc) : cpS r cc N a s ≤ 3 * lX r N s.t + 2 := by
 have h1 := flg_le (r := r) (cc := cc) (a := a) (s := s)
 have h2 : Nat.log2 (psX r (N * qB r N s.t) s.k s.t (apL r cc s.d a)) ≤ lX r N s.t := by
   unfold lX psX
   split
   · exact log2_le psi_pos (psi_le (h.mid hm km hk).1)
   · have h3 := log2_le (prodF_pos fun _ _ => psL_w) (psL_le (r := r) (t := s.t) (c := s.k) (m := apL r cc s.d a))
     rw [Nat.log2_two_pow] at h3
     exact h3
 unfold cpS
 omega
theorem pot_le (hm : Mx r cc a) (km : BdM N a) {s : PS} (h : PTI r cc N a s) : pot r cc N a s ≤ (cc - s.k) + RstF r N (r - s.t) := by
 unfold pot
 refine Nat.add_le_add_left ?_ _
 split
 · rename_i h1
   obtain ⟨ht, hk, _⟩ := h1
   have h2 := cp_le hm km h hk
   have h3 : RstF r N (r - s.t) = 3 * lX r N s.t + 2 + RstF r N (r - s.t - 1) := by
     conv => lhs; rw [show r - s.t = (r - s.t - 1) + 1 by omega]
     show 3 * lX r N (r - (r - s.t - 1 + 1)) + 2 + _ = _
     rw [show r - (r - s.t - 1 + 1) = s.t by omega]
   omega
 · exact Nat.le_refl _
theorem ls_some {m : List (List Int)} {c t : Nat} (ht : t < r) (h : el m t c ≠ 0) : ¬ lsF m c t (r - t) < 0 := fun hc => by
 rcases lsF_ok (m := m) (c := c) (top := t) (r - t) with ⟨_, h2⟩ | ⟨p, h1, _⟩
 · exact h (h2 t (Nat.le_refl _) (by omega))
 · omega
theorem PTI.start : PTI r cc N a ⟨[], 0, 0⟩ := ⟨fun o h => by simp at h, Nat.zero_le _, Nat.zero_le _, .inl (by simp [gL, qB])⟩
theorem gl_mid {s : PS} (h : gL s.d * psi r s.k (N * qB r N s.t) (apL r cc s.d a) ≤ qB r N (s.t + 1)) : gL s.d ≤ qB r N (s.t + 1) := by
 have h2 := Nat.mul_le_mul_left (gL s.d) (psi_pos (r := r) (c := s.k) (N := N * qB r N s.t) (m := apL r cc s.d a))
 omega
theorem PTI.op {s : PS} (h : PTI r cc N a s) (ht : s.t < r) (hk : s.k < cc) {o : Opz} (hv : vO r o = true)
   (hl : ¬ lsF (apO r cc o (apL r cc s.d a)) s.k s.t (r - s.t) < 0)
   (hg : gL s.d * psi r s.k (N * qB r N s.t) (apL r cc s.d a) ≤ qB r N (s.t + 1)) (hc : ColB r s.k (N * qB r N s.t) (apO r cc o (apL r cc s.d a)))
   (hp : gO o * psi r s.k (N * qB r N s.t) (apO r cc o (apL r cc s.d a)) ≤ psi r s.k (N * qB r N s.t) (apL r cc s.d a)) : PTI r cc N a ⟨s.d ++ [o], s.t, s.k⟩ := by
 refine ⟨fun x hx => ?_, h.kc, h.tr, .inr ⟨ht, hk, by rw [apL_snoc]; exact hl, by rw [apL_snoc]; exact hc, ?_⟩⟩
 · rcases List.mem_append.1 hx with h1 | h1
   · exact h.va x h1
   · simp only [List.mem_singleton] at h1; subst h1; exact hv
 · simp only [apL_snoc, gL_snoc]
   rw [Nat.mul_assoc]
   exact Nat.le_trans (Nat.mul_le_mul_left _ hp) hg
theorem pot_op {s : PS} (ht : s.t < r) (hk : s.k < cc) {o : Opz} (h1 : ¬ lsF (apL r cc s.d a) s.k s.t (r - s.t) < 0) (h2 : ¬ lsF (apO r cc o (apL r cc s.d a)) s.k s.t (r - s.t) < 0)
   (h : cpS r cc N a ⟨s.d ++ [o], s.t, s.k⟩ < cpS r cc N a s) : pot r cc N a ⟨s.d ++ [o], s.t, s.k⟩ < pot r cc N a s := by
 unfold pot
 simp only [apL_snoc]
 rw [if_pos ⟨ht, hk, h2⟩, if_pos ⟨ht, hk, h1⟩]
 omega
theorem PTI.next (hm : Mx r cc a) (km : BdM N a) {s : PS} (h : PTI r cc N a s) (ht : s.t < r) (hk : s.k < cc) : PTI r cc N a (s.next r cc a) ∧ pot r cc N a (s.next r cc a) < pot r cc N a s := by
 have hn := nx_ok (cc := cc) (a := a) ht
 obtain ⟨hcb, hg⟩ := h.mid hm km hk
 generalize s.next r cc a = s' at hn ⊢
 cases hn with
 | skip h1 hz =>
   have he : gL s.d ≤ qB r N s.t := by
     rcases h.e with he | ⟨_, _, h2, _⟩
     · exact he
     · exact absurd h1 h2
   have ti : PTI r cc N a ⟨s.d, s.t, s.k + 1⟩ := ⟨h.va, hk, h.tr, .inl he⟩
   refine ⟨ti, ?_⟩
   have h2 := pot_le hm km ti
   have h3 : pot r cc N a s = (cc - s.k) + RstF r N (r - s.t) := by unfold pot; rw [if_neg fun hc => hc.2.2 h1]
   simp only at h2
   omega
 | adv h0 hp ho hz =>
   have ti : PTI r cc N a ⟨s.d, s.t + 1, s.k + 1⟩ := ⟨h.va, hk, ht, .inl (gl_mid hg)⟩
   refine ⟨ti, ?_⟩
   have h2 := pot_le hm km ti
   have h3 : pot r cc N a s = (cc - s.k) + (RstF r N (r - s.t - 1) + cpS r cc N a s) := by unfold pot; rw [if_pos ⟨ht, hk, by rw [h0]; omega⟩]
   simp only at h2
   rw [show r - (s.t + 1) = r - s.t - 1 by omega] at h2
   omega
 | swap p h0 h1 h2 h3 h4 =>
   obtain ⟨c1, c2⟩ := swap_col hk hcb ht h2
   have e : ∀ x, x < r → el (apO r cc (swapO p s.t) (apL r cc s.d a)) x s.k = if x = p then el (apL r cc s.d a) s.t s.k else if x = s.t then el (apL r cc s.d a) p s.k else el (apL r cc s.d a) x s.k := fun x hx => el_swap hx hk
   have et : el (apO r cc (swapO p s.t) (apL r cc s.d a)) s.t s.k = el (apL r cc s.d a) p s.k := by rw [e s.t ht, if_neg (by omega), if_pos rfl]
   have hl : lsF (apO r cc (swapO p s.t) (apL r cc s.d a)) s.k s.t (r - s.t) = (s.t:Int) := by
     rw [show r - s.t = (r - s.t - 1) + 1 by omega]
     refine ls_top (by rw [et]; exact h3) _ fun i g1 g2 g3 => ?_
     rw [et]
     rw [e i (by omega)] at g3 ⊢
     by_cases hi : i = p
     · rw [if_pos hi] at g3 ⊢; exact h4 s.t (Nat.le_refl _) ht g3
     · rw [if_neg hi] at g3 ⊢
       by_cases hi2 : i = s.t
       · rw [if_pos hi2]; exact Nat.le_refl _
       · rw [if_neg hi2] at g3 ⊢; exact h4 i g1 (by omega) g3
   refine ⟨h.op ht hk (vO_swap h2 ht (by omega)) (by rw [hl]; omega) hg c1 (by simp only [gO, if_neg (show ¬ (1:Nat) = 3 by decide), Nat.one_mul]; exact Nat.le_of_eq c2), ?_⟩
   refine pot_op ht hk (by rw [h0]; omega) (by rw [hl]; omega) ?_
   unfold cpS flg psX
   simp only [apL_snoc]
   rw [if_pos (show s.t + 1 < r by omega), if_pos (show s.t + 1 < r by omega), c2, hl, if_neg (by simp), if_pos (show lsF (apL r cc s.d a) s.k s.t (r - s.t) ≠ (s.t:Int) by rw [h0]; omega)]
   split <;> omega
 | neg h0 hneg h4 =>
   obtain ⟨c1, c2⟩ := neg_col hk hcb ht hneg
   have e : ∀ x, x < r → el (apO r cc (negO s.t) (apL r cc s.d a)) x s.k = if x = s.t then - el (apL r cc s.d a) x s.k else el (apL r cc s.d a) x s.k := fun x hx => by rw [el_apO hx hk]; simp [opF]
   have et : el (apO r cc (negO s.t) (apL r cc s.d a)) s.t s.k = - el (apL r cc s.d a) s.t s.k := by rw [e s.t ht, if_pos rfl]
   have hl : lsF (apO r cc (negO s.t) (apL r cc s.d a)) s.k s.t (r - s.t) = (s.t:Int) := by
     rw [show r - s.t = (r - s.t - 1) + 1 by omega]
     refine ls_top (by rw [et]; omega) _ fun i g1 g2 g3 => ?_
     rw [et, Int.natAbs_neg]
     rw [e i (by omega)] at g3 ⊢
     by_cases hi : i = s.t
     · rw [if_pos hi, hi, Int.natAbs_neg]; exact Nat.le_refl _
     · rw [if_neg hi] at g3 ⊢; exact h4 i g1 (by omega) g3
   refine ⟨h.op ht hk (vO_neg ht) (by rw [hl]; omega) hg c1 (by simp only [gO, if_neg (show ¬ (2:Nat) = 3 by decide), Nat.one_mul]; exact c2), ?_⟩
   refine pot_op ht hk (by rw [h0]; omega) (by rw [hl]; omega) ?_
   have hx : Nat.log2 (psX r (N * qB r N s.t) s.k s.t (apO r cc (negO s.t) (apL r cc s.d a))) ≤ Nat.log2 (psX r (N * qB r N s.t) s.k s.t (apL r cc s.d a)) := by
     refine log2_le psX_pos ?_
     unfold psX
     split
     · exact c2
     · refine Nat.le_of_eq (prodF_congr fun i hi => ?_)
       by_cases hit : i = s.t
       · rw [if_neg (fun hc => hc.1 hit), if_neg (fun hc => hc.1 hit)]
       · rw [et, e i hi, if_neg hit, Int.ediv_neg]
         by_cases hq : el (apL r cc s.d a) i s.k / el (apL r cc s.d a) s.t s.k = 0
         · rw [if_neg (fun hc => hc.2 (by rw [hq]; rfl)), if_neg (fun hc => hc.2 hq)]
         · rw [if_pos ⟨hit, by omega⟩, if_pos ⟨hit, hq⟩]
   unfold cpS flg
   simp only [apL_snoc]
   rw [hl, et, h0, if_neg (by simp), if_neg (show ¬ - el (apL r cc s.d a) s.t s.k < 0 by omega), if_neg (by simp), if_pos hneg]
   omega
 | add i h0 hp h4 ho hi hne hq =>
   obtain ⟨c1, c2, c3, c4⟩ := add_col hk hcb ht hi hp
   have et := c4 s.t ht (Ne.symm hne)
   have hl := ls_some (m := apO r cc (addO i s.t (-(el (apL r cc s.d a) i s.k / el (apL r cc s.d a) s.t s.k))) (apL r cc s.d a)) (c := s.k) ht (by rw [et]; omega)
   refine ⟨h.op ht hk (vO_add hi ht hne) hl hg c1 c2, ?_⟩
   refine pot_op ht hk (by rw [h0]; omega) hl ?_
   have hx : Nat.log2 (psX r (N * qB r N s.t) s.k s.t (apO r cc (addO i s.t (-(el (apL r cc s.d a) i s.k / el (apL r cc s.d a) s.t s.k))) (apL r cc s.d a))) + 1 ≤ Nat.log2 (psX r (N * qB r N s.t) s.k s.t (apL r cc s.d a)) := by
     refine log2_lt psX_pos ?_
     unfold psX
     split
     · have hg2 : 2 ≤ gO (addO i s.t (-(el (apL r cc s.d a) i s.k / el (apL r cc s.d a) s.t s.k))) := by
         simp only [gO, if_pos, Int.natAbs_neg]; omega
       exact Nat.le_trans (Nat.mul_le_mul_right _ hg2) c2
     · refine prodF_mul (k := i) hi (fun j hj hji => ?_) ?_ fun _ _ => psL_w
       · rw [et, c4 j hj hji]
       · rw [et, c3, if_pos (show i ≠ s.t ∧ el (apL r cc s.d a) i s.k / el (apL r cc s.d a) s.t s.k ≠ 0 from ⟨hne, hq⟩), if_neg]
         · exact Nat.le_refl _
         · rintro ⟨_, hc⟩
           exact hc (Int.ediv_eq_zero_of_lt (Int.emod_nonneg _ (by omega)) (Int.emod_lt_of_pos _ hp))
   have h5 := flg_le (r := r) (cc := cc) (a := a) (s := ⟨s.d ++ [addO i s.t (-(el (apL r cc s.d a) i s.k / el (apL r cc s.d a) s.t s.k))], s.t, s.k⟩)
   unfold cpS
   simp only [apL_snoc]
   omega
end
end Go.AM
/- Hermite normal forms in small steps, in plain Lean: what holds of the matrices at every step. -/
namespace Go.AM
structure HI (r t k:Nat) (m : List (List Int)) : Prop where
 ze : ∀ i, t ≤ i → i < r → ∀ j, j < k → el m i j = 0
 pv : ∃ p:Nat → Nat, ∀ i, i < t → p i < k ∧ (∀ j, j < p i → el m i j = 0) ∧ 0 < el m i (p i) ∧ ∀ l, l < i → p l < p i ∧ 0 ≤ el m l (p i) ∧ el m l (p i) < el m i (p i)
theorem HI.zero {r : Nat} {m : List (List Int)} : HI r 0 0 m := ⟨fun _ _ _ _ h => by omega, fun _ => 0, fun _ h => by omega⟩
theorem HI.same {r t k : Nat} {m m' : List (List Int)} (h : HI r t k m) (hz : ∀ i, t ≤ i → i < r → ∀ j, j < k → el m' i j = 0) (ht : t ≤ r) (he : ∀ i, i < t → ∀ j, j < k → el m' i j = el m i j) : HI r t k m' := by
 obtain ⟨p, hp⟩ := h.pv
 refine ⟨hz, p, fun i hi => ?_⟩
 obtain ⟨h1, h2, h3, h4⟩ := hp i hi
 refine ⟨h1, fun j hj => by rw [he i hi j (by omega)]; exact h2 j hj, by rw [he i hi _ h1]; exact h3, fun l hl => ?_⟩
 rw [he i hi _ h1, he l (by omega) _ h1]
 exact h4 l hl
theorem HI.next {r cc : Nat} {a : List (List Int)} {s : PS} (h : HI r s.t s.k (apL r cc s.d a)) (ht : s.t < r) (hk : s.k < cc) : HI r (s.next r cc a).t (s.next r cc a).k (apL r cc (s.next r cc a).d a) := by
 have hn := nx_ok (cc := cc) (a := a) ht
 obtain ⟨m, em⟩ : ∃ m, m = apL r cc s.d a := ⟨_, rfl⟩
 generalize s.next r cc a = s' at hn ⊢
 cases hn with
 | skip h1 hz =>
   simp only at *
   rw [← em] at h hz ⊢
   obtain ⟨p, hp⟩ := h.pv
   refine ⟨fun i h2 h3 j hj => ?_, p, fun i hi => ?_⟩
   · by_cases hjk : j = s.k
     · rw [hjk]; exact hz i h2 h3
     · exact h.ze i h2 h3 j (by omega)
   · obtain ⟨g1, g2⟩ := hp i hi
     exact ⟨by omega, g2⟩
 | swap q h0 h1 h2 h3 h4 =>
   simp only at *
   rw [apL_snoc, ← em]
   rw [← em] at h
   have e : ∀ i, i < r → ∀ j, j < s.k → el (apO r cc (swapO q s.t) m) i j = if i = q then el m s.t j else if i = s.t then el m q j else el m i j := fun i hi j hj => el_swap hi (by omega)
   refine h.same (fun i g1 g2 j hj => ?_) (by omega) fun i hi j hj => ?_
   · rw [e i g2 j hj]
     split
     · exact h.ze _ (Nat.le_refl _) ht j hj
     · split
       · exact h.ze q (by omega) h2 j hj
       · exact h.ze i g1 g2 j hj
   · rw [e i (by omega) j hj, if_neg (by omega), if_neg (by omega)]
 | neg h0 h1 h4 =>
   simp only at *
   rw [apL_snoc, ← em]
   rw [← em] at h
   have e : ∀ i, i < r → ∀ j, j < s.k → el (apO r cc (negO s.t) m) i j = if i = s.t then - el m i j else el m i j := fun i hi j hj => by rw [el_apO hi (by omega)]; simp [opF]
   refine h.same (fun i g1 g2 j hj => ?_) (by omega) fun i hi j hj => ?_
   · rw [e i g2 j hj, h.ze i g1 g2 j hj]; split <;> rfl
   · rw [e i (by omega) j hj, if_neg (by omega)]
 | add i0 h0 hp h4 ho hi0 hne hq =>
   simp only at *
   rw [apL_snoc, ← em]
   rw [← em] at h
   have e : ∀ z : Int, ∀ i, i < r → ∀ j, j < s.k → el (apO r cc (addO i0 s.t z) m) i j = el m i j := fun z i hi j hj => by
     rw [el_add hi (by omega), h.ze s.t (Nat.le_refl _) ht j hj, Int.mul_zero, Int.add_zero]
     split <;> rfl
   exact h.same (fun i g1 g2 j hj => by rw [e _ i g2 j hj]; exact h.ze i g1 g2 j hj) (by omega) fun i hi j hj => e _ i (by omega) j hj
 | adv h0 hp ho hz =>
   simp only at *
   have hl : ∀ i, s.t ≤ i → i < r → el (apL r cc s.d a) i s.k ≠ 0 → (el (apL r cc s.d a) s.t s.k).natAbs ≤ (el (apL r cc s.d a) i s.k).natAbs := by
     rcases lsF_ok (m := apL r cc s.d a) (c := s.k) (top := s.t) (r - s.t) with ⟨h1, h2⟩ | ⟨p, h1, h2, h3, h4, h5⟩
     · rw [h1] at h0; omega
     · have : p = s.t := by rw [h1] at h0; omega
       subst this
       exact fun i g1 g2 g3 => h5 i g1 (by omega) g3
   rw [← em] at h hp hz hl ⊢
   have hd : ∀ i, i < r → i ≠ s.t → 0 ≤ el m i s.k ∧ el m i s.k < el m s.t s.k := fun i h1 h2 => by
     have h3 := hz i h1 h2
     have h4 := Int.emod_add_mul_ediv (el m i s.k) (el m s.t s.k)
     rw [h3, Int.mul_zero] at h4
     have h5 := Int.emod_nonneg (el m i s.k) (show el m s.t s.k ≠ 0 by omega)
     have h6 := Int.emod_lt_of_pos (el m i s.k) hp
     omega
   obtain ⟨p, hpv⟩ := h.pv
   refine ⟨fun i h2 h3 j hj => ?_, fun i => if i = s.t then s.k else p i, fun i hi => ?_⟩
   · by_cases hjk : j = s.k
     · rw [hjk]
       apply Classical.byContradiction
       intro hne
       have g1 := hl i (by omega) h3 hne
       have g2 := hd i h3 (by omega)
       omega
     · exact h.ze i (by omega) h3 j (by omega)
   · by_cases hit : i = s.t
     · subst hit
       simp only [if_true]
       refine ⟨by omega, fun j hj => h.ze _ (Nat.le_refl _) ht j hj, hp, fun l hl2 => ?_⟩
       rw [if_neg (by omega)]
       exact ⟨(hpv l hl2).1, hd l (by omega) (by omega)⟩
     · simp only [if_neg hit]
       obtain ⟨g1, g2, g3, g4⟩ := hpv i (by omega)
       refine ⟨by omega, g2, g3, fun l hl2 => ?_⟩
       rw [if_neg (by omega)]
       exact g4 l hl2
end Go.AM
/- Hermite normal forms, in plain Lean: two of one lattice are equal. -/
namespace Go.AM
structure HF (r t c:Nat) (h:Nat → Nat → Int) (p:Nat → Nat) : Prop where
 tr : t ≤ r
 ze : ∀ i, t ≤ i → i < r → ∀ j, j < c → h i j = 0
 pv : ∀ i, i < t → p i < c ∧ (∀ j, j < p i → h i j = 0) ∧ 0 < h i (p i) ∧ ∀ l, l < i → p l < p i ∧ 0 ≤ h l (p i) ∧ h l (p i) < h i (p i)
section
variable {r t c : Nat} {h:Nat → Nat → Int} {p:Nat → Nat} (F : HF r t c h p)
include F
theorem HF.lt {i l : Nat} (hl : l < i) (hi : i < t) : p l < p i := ((F.pv i hi).2.2.2 l hl).1
theorem HF.le {i l : Nat} (hl : l ≤ i) (hi : i < t) : p l ≤ p i := by
 rcases Nat.lt_or_eq_of_le hl with h1 | h1
 · exact Nat.le_of_lt (F.lt h1 hi)
 · rw [h1]; exact Nat.le_refl _
theorem HF.inj {i l : Nat} (hi : i < t) (hl : l < t) (e : p i = p l) : i = l := by
 rcases Nat.lt_trichotomy i l with h1 | h1 | h1
 · have := F.lt h1 hl; omega
 · exact h1
 · have := F.lt h1 hi; omega
theorem HF.below {i l : Nat} (hi : i < t) (hl : i < l) (hr : l < r) : h l (p i) = 0 := by
 by_cases hlt : l < t
 · exact (F.pv l hlt).2.1 _ (F.lt hl hlt)
 · exact F.ze l (by omega) hr _ (F.pv i hi).1
def comb (x:Nat → Int) (h:Nat → Nat → Int) (r j:Nat) : Int := sm (fun i => x i * h i j) r
omit F in
theorem comb_one {x:Nat → Int} {i j : Nat} (hi : i < r) (hz : ∀ l, l < r → l ≠ i → x l * h l j = 0) : comb x h r j = x i * h i j := by
 unfold comb
 rw [← sm_one (fun l => x l * h l j) i r hi]
 exact sm_congr r fun l hl => by
   by_cases e : l = i
   · rw [if_pos e]
   · rw [if_neg e]; exact hz l hl e
theorem HF.coef {x:Nat → Int} {q : Nat} (hq : ∀ k, k < q → comb x h r k = 0) : ∀ n i, i < n → i < t → p i < q → x i = 0
 | 0, _, hn, _, _ => by omega
 | n + 1, i, hn, hi, hp => by
   have tr := F.tr
   have e := hq (p i) hp
   rw [comb_one (i := i) (by omega) fun l hl hne => by
     by_cases h1 : l < i
     · rw [HF.coef hq n l (by omega) (by omega) (by have := F.lt h1 hi; omega), Int.zero_mul]
     · rw [F.below hi (by omega) hl, Int.mul_zero]] at e
   rcases Int.mul_eq_zero.1 e with h1 | h1
   · exact h1
   · have := (F.pv i hi).2.2.1; omega
theorem HF.first {x:Nat → Int} {q : Nat} (hq : ∀ k, k < q → comb x h r k = 0) (hc : q < c) : (∃ i, i < t ∧ p i = q ∧ comb x h r q = x i * h i q) ∨ ((∀ i, i < t → p i ≠ q) ∧ comb x h r q = 0) := by
 have tr := F.tr
 have hz : ∀ l, l < r → (∀ (_ : l < t), p l ≠ q) → x l * h l q = 0 := fun l hl hne => by
   by_cases hlt : l < t
   · have := hne hlt
     by_cases h1 : p l < q
     · rw [F.coef hq (l + 1) l (by omega) hlt h1, Int.zero_mul]
     · rw [(F.pv l hlt).2.1 q (by omega), Int.mul_zero]
   · rw [F.ze l (by omega) hl q hc, Int.mul_zero]
 by_cases he : ∃ i, i < t ∧ p i = q
 · obtain ⟨i, hi, hp⟩ := he
   exact .inl ⟨i, hi, hp, comb_one (by omega) fun l hl hne => hz l hl fun hlt e => hne (F.inj hlt hi (by omega))⟩
 · refine .inr ⟨fun i hi e => he ⟨i, hi, e⟩, ?_⟩
   unfold comb
   rw [sm_congr (g := fun _ => 0) r fun l hl => hz l hl fun hlt e => he ⟨l, hlt, e⟩, sm_zero]
end
theorem HF.pivot {r t1 t2 c : Nat} {h1 h2:Nat → Nat → Int} {p1 p2:Nat → Nat} (F1 : HF r t1 c h1 p1) (F2 : HF r t2 c h2 p2) {W:Nat → Nat → Int} (hW : ∀ i, i < r → ∀ j, j < c → h1 i j = comb (W i) h2 r j)
   {i : Nat} (hi : i < t1) : ∃ j, j < t2 ∧ p2 j = p1 i ∧ h2 j (p2 j) ∣ h1 i (p1 i) := by
 obtain ⟨g1, g2, g3, _⟩ := F1.pv i hi
 have tr := F1.tr
 rcases F2.first (x := W i) (q := p1 i) (fun k hk => by rw [← hW i (by omega) k (by omega)]; exact g2 k hk) g1 with ⟨j, a1, a2, a3⟩ | ⟨_, a3⟩
 · refine ⟨j, a1, a2, ⟨W i j, ?_⟩⟩
   rw [hW i (by omega) _ g1, a3, a2, Int.mul_comm]
 · rw [← hW i (by omega) _ g1] at a3; omega
theorem HF.cols {r t1 t2 c : Nat} {h1 h2:Nat → Nat → Int} {p1 p2:Nat → Nat} (F1 : HF r t1 c h1 p1) (F2 : HF r t2 c h2 p2) {W W':Nat → Nat → Int} (hW : ∀ i, i < r → ∀ j, j < c → h1 i j = comb (W i) h2 r j) (hW' : ∀ i, i < r → ∀ j, j < c → h2 i j = comb (W' i) h1 r j) :
   ∀ n i, i < n → i < t1 → i < t2 ∧ p1 i = p2 i
 | 0, _, hn, _ => by omega
 | n + 1, i, hn, hi => by
   have ih : ∀ l, l < i → l < t2 ∧ p1 l = p2 l := fun l hl => HF.cols F1 F2 hW hW' n l (by omega) (by omega)
   obtain ⟨j, a1, a2, _⟩ := F1.pivot F2 hW hi
   have hij : i ≤ j := by
     apply Classical.byContradiction
     intro hn
     have := (ih j (by omega)).2
     have := F1.lt (show j < i by omega) hi
     omega
   have hi2 : i < t2 := by omega
   obtain ⟨j', b1, b2, _⟩ := F2.pivot F1 hW' hi2
   have hij' : i ≤ j' := by
     apply Classical.byContradiction
     intro hn
     have := (ih j' (by omega)).2
     have := F2.lt (show j' < i by omega) hi2
     omega
   have m1 := F1.le hij' b1
   have m2 := F2.le hij a1
   exact ⟨hi2, by omega⟩
theorem HF.unique {r t1 t2 c : Nat} {h1 h2:Nat → Nat → Int} {p1 p2:Nat → Nat} (F1 : HF r t1 c h1 p1) (F2 : HF r t2 c h2 p2) {W W':Nat → Nat → Int} (hW : ∀ i, i < r → ∀ j, j < c → h1 i j = comb (W i) h2 r j) (hW' : ∀ i, i < r → ∀ j, j < c → h2 i j = comb (W' i) h1 r j) :
   ∀ i, i < r → ∀ j, j < c → h1 i j = h2 i j := by
 have c1 : ∀ i, i < t1 → i < t2 ∧ p1 i = p2 i := fun i hi => HF.cols F1 F2 hW hW' (i + 1) i (by omega) hi
 have c2 : ∀ i, i < t2 → i < t1 ∧ p2 i = p1 i := fun i hi => HF.cols F2 F1 hW' hW (i + 1) i (by omega) hi
 have hd : ∀ i, i < t1 → h1 i (p1 i) = h2 i (p1 i) := fun i hi => by
   obtain ⟨hi2, ep⟩ := c1 i hi
   obtain ⟨j, a1, a2, a3⟩ := F1.pivot F2 hW hi
   obtain ⟨j', b1, b2, b3⟩ := F2.pivot F1 hW' hi2
   have e1 : j = i := F2.inj a1 hi2 (by omega)
   have e2 : j' = i := F1.inj b1 hi (by omega)
   subst e1; subst e2
   have q1 := (F1.pv j' hi).2.2.1
   have q2 := (F2.pv j' hi2).2.2.1
   rw [← ep] at a3 b3 q2
   exact Int.dvd_antisymm (by omega) (by omega) b3 a3
 intro i hi
 by_cases hit : i < t1
 · have tr := F1.tr
   have hx : ∀ j, j < c → comb (fun l => W i l + (if l = i then -1 else 0)) h2 r j = h1 i j - h2 i j := fun j hj => by
     unfold comb
     rw [sm_congr (g := fun l => W i l * h2 l j + (if l = i then -1 * h2 l j else 0)) r fun l hl => by
       rw [Int.add_mul]; split
       · rfl
       · rw [Int.zero_mul]]
     rw [sm_add, sm_one (fun l => -1 * h2 l j) i r hi, hW i hi j hj]
     unfold comb; omega
   have key : ∀ n q, q < n → q < c → h1 i q - h2 i q = 0 := by
     intro n
     induction n with
     | zero => intro q hq; omega
     | succ n ih =>
       intro q hq hc
       have h0 : ∀ k, k < q → comb (fun l => W i l + (if l = i then -1 else 0)) h2 r k = 0 := fun k hk => by rw [hx k (by omega)]; exact ih k (by omega) (by omega)
       rcases F2.first h0 hc with ⟨l, a1, a2, a3⟩ | ⟨_, a3⟩
       · rw [hx q hc] at a3
         obtain ⟨hl1, hp⟩ := c2 l a1
         obtain ⟨hi2, hpi⟩ := c1 i hit
         rcases Nat.lt_trichotomy l i with g | g | g
         · rw [(F1.pv i hit).2.1 q (by have := F1.lt g hit; omega), (F2.pv i hi2).2.1 q (by have := F2.lt g hi2; omega)]; rfl
         · subst g
           have := hd l hit
           rw [show q = p1 l by omega]; omega
         · have b1 := (F1.pv l hl1).2.2.2 i g
           have b2 := (F2.pv l a1).2.2.2 i g
           have b3 := hd l hl1
           have b4 := (F2.pv l a1).2.2.1
           rw [show p1 l = q by omega] at b1 b3
           rw [a2] at b2 b4
           have hlt : (h1 i q - h2 i q).natAbs < (h2 l q).natAbs := by omega
           rw [a3, Int.natAbs_mul] at hlt
           by_cases hz : W i l + (if l = i then -1 else 0) = 0
           · rw [a3, hz, Int.zero_mul]
           · have : 1 ≤ (W i l + (if l = i then -1 else 0)).natAbs := by omega
             have := Nat.mul_le_mul_right (h2 l q).natAbs this
             omega
       · rw [hx q hc] at a3; exact a3
   intro j hj
   have := key (j + 1) j (by omega) hj
   omega
 · intro j hj
   rw [F1.ze i (by omega) hi j hj, F2.ze i (by
     apply Classical.byContradiction
     intro hn
     exact hit (c2 i (by omega)).1) hi j hj]
end Go.AM
