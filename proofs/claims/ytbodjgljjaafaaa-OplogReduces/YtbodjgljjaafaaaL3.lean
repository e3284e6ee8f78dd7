/- What the functions of package integer, and of its reference, answer: differences of absolute values, comparing. -/
import Derived.Test.YtbodjgljjaafaaaA2
namespace Go.AM
open Go.Proofs.Try
theorem borrow_step (p la lo lb k k' x y d:Nat) (h : la + p * k = lo + lb) (hs : x + 4294967296 * k' = d + y + k) : la + p * x + p * 4294967296 * k' = lo + p * d + (lb + p * y) := by
 have h1 : p * x + p * 4294967296 * k' = p * d + p * y + p * k := by
   rw [Nat.mul_assoc, ← Nat.mul_add, hs]; simp only [Nat.mul_add]
 omega
theorem borrow_end {n la lo lb k : Nat} (hk : k ≤ 1) (h : la + n * k = lo + lb) (hlo : lo < n) (hle : lb ≤ la) : lo = la - lb := by
 have : k = 0 ∨ k = 1 := by omega
 rcases this with rfl | rfl
 · omega
 · exfalso; omega
theorem minus_ok {a b : List Nat} (ha : ∀ x ∈ a, x < 4294967296) (hb : ∀ x ∈ b, x < 4294967296) (hl : a.length ≤ 1099511627776) (hab : b.length ≤ a.length) (hle : val b ≤ val a) :
   FnD prog 147 [vs (lim a), vs (lim b)] (vs (lim (padD a.length (val a - val b)))) [] := by
 refine vc147_ok (lim a) (lim b) (R := Out _) ?_
 unfold vc147
 simp only [lim_length]
 refine ⟨⟨by omega, by omega, by omega⟩, fun out t c => ∃ (o : List Nat) (i k:Nat), out = lim o ∧ t = (i:Int) ∧ c = (k:Int) ∧ o.length = a.length ∧ (∀ x ∈ o, x < 4294967296) ∧ i ≤ a.length ∧ k ≤ 1 ∧ low a i + 4294967296 ^ i * k = low o i + low b i,
   fun _ t _ => ((a.length:Int) - t).toNat, ⟨List.replicate a.length 0, 0, 0, by rw [Int.toNat_natCast, lim_rep], rfl, rfl, by simp, fun x hx => by rw [List.eq_of_mem_replicate hx]; decide, by omega, by omega, by simp [low_zero]⟩, ?_⟩
 rintro _ _ _ ⟨o, i, k, rfl, rfl, rfl, hol, hod, hia, hk, hinv⟩
 have step : i < a.length → ∀ (x y:Nat), x = dg a i → y = dg b i →
     FnD prog 158 [vu x, vu y, vu k] (vu2 (((x:Int) - y - k) % 4294967296) (if x < y + k then 1 else 0)) [] ∧ (0 ≤ (i:Int) ∧ (i:Int) < ((lim o).length:Int)) ∧
     ((∃ (o' : List Nat) (i' k':Nat), (lim o).set (i:Int).toNat [D.int .u32 (((x:Int) - y - k) % 4294967296)] = lim o' ∧ IntKind.i64.wrap ((i:Int) + 1) = (i':Int) ∧ (if x < y + k then (1:Int) else 0) = (k':Int) ∧ o'.length = a.length ∧ (∀ x ∈ o', x < 4294967296) ∧ i' ≤ a.length ∧ k' ≤ 1 ∧
       low a i' + 4294967296 ^ i' * k' = low o' i' + low b i') ∧ ((a.length:Int) - IntKind.i64.wrap ((i:Int) + 1)).toNat < ((a.length:Int) - (i:Int)).toNat) := fun hi x y hx hy => by
   have hxl : x < 4294967296 := hx ▸ dg_lt ha i
   have hyl : y < 4294967296 := hy ▸ dg_lt hb i
   have hwi : IntKind.i64.wrap ((i:Int) + 1) = ((i + 1:Nat) : Int) := by rw [w64 (by omega) (by omega)]; simp
   obtain ⟨d, hd⟩ : ∃ d : Nat, ((x:Int) - y - k) % 4294967296 = (d:Int) := ⟨(((x:Int) - y - k) % 4294967296).toNat, by omega⟩
   have hdl : d < 4294967296 := by omega
   refine ⟨sub32_ok x y k hxl hyl hk, ⟨by omega, by rw [lim_length]; omega⟩, ⟨o.set i d, i + 1, if x < y + k then 1 else 0, by rw [hd, Int.toNat_natCast, lim_set], hwi, by split <;> rfl, by simp [hol], set_lt hod hdl, by omega, by split <;> omega, ?_⟩, by rw [hwi]; omega⟩
   rw [low_set_succ (by omega), low_succ a, low_succ b, Nat.pow_succ, ← hx, ← hy]
   exact borrow_step (4294967296 ^ i) _ _ _ k _ x y d hinv (by split <;> omega)
 refine ⟨fun hc => ⟨fun hd => ?_, fun hd => ?_⟩, fun hc => ?_⟩
 · have hi : i < a.length := by simpa using hc
   have hib : i < b.length := by simpa using hd
   obtain ⟨s1, s2, s3⟩ := step hi _ _ rfl rfl
   exact ⟨(dg b i:Nat), ⟨by omega, by omega⟩, by simpa using lim_getI (l := b) (i := (i:Int)) (by omega) (by omega), (dg a i:Nat), _, _, ⟨by omega, by omega⟩, by simpa using lim_getI (l := a) (i := (i:Int)) (by omega) (by omega), s1, s2, s3⟩
 · have hi : i < a.length := by simpa using hc
   have hib : b.length ≤ i := by simpa using hd
   obtain ⟨s1, s2, s3⟩ := step hi _ 0 rfl (dg_out hib).symm
   exact ⟨(dg a i:Nat), _, _, ⟨by omega, by omega⟩, by simpa using lim_getI (l := a) (i := (i:Int)) (by omega) (by omega), s1, s2, s3⟩
 · have hi : i = a.length := by have : a.length ≤ i := by simpa using hc
                                omega
   subst hi
   refine outs ?_
   congr 1
   have hv : val o = val a - val b := by
     rw [low_all (Nat.le_refl _), low_all hab, low_all (by omega)] at hinv
     exact borrow_end hk hinv (by rw [← hol]; exact val_lt hod) hle
   have := padD_val o hod
   rw [hv, hol] at this
   exact this
theorem isNaN_int (x:Int) : FnD prog 163 [vi x] (vb false) [] := by
 refine vc163_ok x (R := Out _) ?_
 unfold vc163
 exact outb (by simp)
theorem isNaN_u32 (x:Int) : FnD prog 164 [vu x] (vb false) [] := by
 refine vc164_ok x (R := Out _) ?_
 unfold vc164
 exact outb (by simp)
def cmpI (x y:Int) : Int := if x < y then -1 else if x > y then 1 else 0
theorem compareInt_ok (x y:Int) : FnD prog 156 [vi x, vi y] (vi (cmpI x y)) [] := by
 refine vc156_ok x y (R := Out _) ?_
 unfold vc156
 refine ⟨false, isNaN_int x, false, isNaN_int y, by simp, fun _ => ⟨by simp, fun _ => ⟨fun h => ?_, fun h => ⟨fun h2 => ?_, fun h2 => ?_⟩⟩⟩⟩
 · exact outi (by simp only [decide_eq_true_eq] at h; simp [cmpI, h])
 · exact outi (by simp only [decide_eq_true_eq, decide_eq_false_iff_not] at h h2; simp [cmpI, h, h2])
 · exact outi (by simp only [decide_eq_false_iff_not] at h h2; simp [cmpI, h, h2])
theorem compareU32_ok (x y:Int) : FnD prog 157 [vu x, vu y] (vi (cmpI x y)) [] := by
 refine vc157_ok x y (R := Out _) ?_
 unfold vc157
 refine ⟨false, isNaN_u32 x, false, isNaN_u32 y, by simp, fun _ => ⟨by simp, fun _ => ⟨fun h => ?_, fun h => ⟨fun h2 => ?_, fun h2 => ?_⟩⟩⟩⟩
 · exact outi (by simp only [decide_eq_true_eq] at h; simp [cmpI, h])
 · exact outi (by simp only [decide_eq_true_eq, decide_eq_false_iff_not] at h h2; simp [cmpI, h, h2])
 · exact outi (by simp only [decide_eq_false_iff_not] at h h2; simp [cmpI, h, h2])
theorem val_lt_of_len {a b : List Nat} (ha : ∀ x ∈ a, x < 4294967296) (hb : canon b) (h : a.length < b.length) : val a < val b := by
 have h1 := val_lt ha
 obtain ⟨q, hq⟩ : ∃ q, b.length = q + 1 := ⟨b.length - 1, by omega⟩
 have hsplit : b = b.take q ++ b.drop q := (List.take_append_drop _ _).symm
 have hdl : (b.drop q).length = 1 := by simp [hq]
 obtain ⟨x, hx⟩ := List.length_eq_one_iff.1 hdl
 have hx0 : x ≠ 0 := hb x (by rw [hsplit, hx]; simp)
 have hv : val b = val (b.take q) + 4294967296 ^ q * x := by
   conv => lhs; rw [hsplit, val_append, hx]
   simp [val, hq]
 have h2 : 4294967296 ^ a.length ≤ 4294967296 ^ q := Nat.pow_le_pow_right (by decide) (by omega)
 have h3 : 4294967296 ^ q * 1 ≤ 4294967296 ^ q * x := Nat.mul_le_mul_left _ (by omega)
 omega
theorem val_lt_of_dg {a b : List Nat} (ha : ∀ x ∈ a, x < 4294967296) {i : Nat} (hl : a.length = b.length) (hi : i < a.length) (hd : dg a i < dg b i) (hs : ∀ j, i < j → dg a j = dg b j) : val a < val b := by
 have key : ∀ n, low a (i + 1 + n) < low b (i + 1 + n) := by
   intro n
   induction n with
   | zero =>
     rw [Nat.add_zero, low_succ, low_succ]
     have h1 : low a i < 4294967296 ^ i := by
       have := val_lt (l := a.take i) fun x hx => ha x (List.mem_of_mem_take hx)
       rw [List.length_take, Nat.min_eq_left (by omega)] at this
       exact this
     have h2 : 4294967296 ^ i * (dg a i + 1) ≤ 4294967296 ^ i * dg b i := Nat.mul_le_mul_left _ hd
     rw [Nat.mul_add, Nat.mul_one] at h2
     omega
   | succ n ih =>
     rw [← Nat.add_assoc, low_succ, low_succ, hs _ (by omega)]
     omega
 have := key a.length
 rwa [low_all (by omega), low_all (by omega)] at this
theorem val_eq_of_dg {a b : List Nat} (hl : a.length = b.length) (hs : ∀ j, dg a j = dg b j) : val a = val b := by
 have key : ∀ n, low a n = low b n := by
   intro n
   induction n with
   | zero => rfl
   | succ n ih => rw [low_succ, low_succ, ih, hs]
 have := key a.length
 rwa [low_all (Nat.le_refl _), low_all (by omega)] at this
theorem compare_ok {a b : List Nat} (ha : ∀ x ∈ a, x < 4294967296) (hb : ∀ x ∈ b, x < 4294967296) (ca : canon a) (cb : canon b) (hla : a.length ≤ 1099511627776) :
   FnD prog 146 [vs (lim a), vs (lim b)] (vi (cmpI (val a) (val b))) [] := by
 refine vc146_ok (lim a) (lim b) (R := Out _) ?_
 unfold vc146
 simp only [lim_length]
 refine ⟨_, compareInt_ok _ _, fun hc => ?_, fun hc => ?_⟩
 · refine outi ?_
   have hc : cmpI (a.length:Int) (b.length:Int) ≠ 0 := by simpa using hc
   unfold cmpI at hc ⊢
   by_cases h1 : a.length < b.length
   · have := val_lt_of_len ha cb h1
     rw [if_pos (by omega), if_pos (by omega)]
   · by_cases h2 : b.length < a.length
     · have := val_lt_of_len hb ca h2
       rw [if_neg (by omega), if_pos (by omega), if_neg (by omega), if_pos (by omega)]
     · rw [if_neg (by omega), if_neg (by omega)] at hc; exact absurd rfl hc
 · have hlen : a.length = b.length := by
     have hc : cmpI (a.length:Int) (b.length:Int) = 0 := by simpa using hc
     unfold cmpI at hc
     split at hc
     · simp at hc
     · split at hc
       · simp at hc
       · omega
   refine ⟨fun i => -1 ≤ i ∧ i < (a.length:Int) ∧ ∀ j : Nat, i < (j:Int) → dg a j = dg b j, fun i => (i + 1).toNat, ?_, fun i ⟨h0, h1, h2⟩ => ⟨fun hi => ?_, fun hi => ?_⟩⟩
   · rw [w64 (by omega) (by omega)]
     exact ⟨by omega, by omega, fun j hj => by rw [dg_out (by omega), dg_out (by omega)]⟩
   · have hi : 0 ≤ i := by simpa using hi
     have hw : IntKind.i64.wrap (i - 1) = i - 1 := w64 (by omega) (by omega)
     refine ⟨(dg a i.toNat:Nat), (dg b i.toNat:Nat), _, ⟨hi, by omega⟩, lim_getI hi h1, ⟨hi, by omega⟩, lim_getI hi (by omega), compareU32_ok _ _, fun hc => ?_, fun hc => ?_⟩
     · refine outi ?_
       have hc : cmpI (dg a i.toNat:Nat) (dg b i.toNat:Nat) ≠ 0 := by simpa using hc
       have hs : ∀ j, i.toNat < j → dg a j = dg b j := fun j hj => h2 j (by omega)
       unfold cmpI at hc ⊢
       by_cases g1 : dg a i.toNat < dg b i.toNat
       · have := val_lt_of_dg ha hlen (by omega) g1 hs
         rw [if_pos (by omega), if_pos (by omega)]
       · by_cases g2 : dg b i.toNat < dg a i.toNat
         · have := val_lt_of_dg hb hlen.symm (by omega) g2 fun j hj => (hs j hj).symm
           rw [if_neg (by omega), if_pos (by omega), if_neg (by omega), if_pos (by omega)]
         · rw [if_neg (by omega), if_neg (by omega)] at hc; exact absurd rfl hc
     · have hc : cmpI (dg a i.toNat:Nat) (dg b i.toNat:Nat) = 0 := by simpa using hc
       have heq : dg a i.toNat = dg b i.toNat := by
         unfold cmpI at hc
         split at hc
         · simp at hc
         · split at hc
           · simp at hc
           · omega
       rw [hw]
       refine ⟨⟨by omega, by omega, fun j hj => ?_⟩, by show (i - 1 + 1).toNat < (i + 1).toNat; omega⟩
       by_cases hji : j = i.toNat
       · subst hji; exact heq
       · exact h2 j (by omega)
   · have hi : i < 0 := by simpa using hi
     have hv := val_eq_of_dg hlen fun j => h2 j (by omega)
     exact outi (by simp [cmpI, hv])
theorem less_ok {a b : List Nat} (ha : ∀ x ∈ a, x < 4294967296) (hb : ∀ x ∈ b, x < 4294967296) (ca : canon a) (cb : canon b) (hla : a.length ≤ 1099511627776) :
   FnD prog 88 [vs (lim a), vs (lim b)] (vb (decide (val a < val b))) [] := by
 refine vc88_ok (lim a) (lim b) (R := Out _) ?_
 unfold vc88
 simp only [lim_length]
 refine ⟨fun hc => ?_, fun hc => ?_⟩
 · refine outb ?_
   have hc : a.length ≠ b.length := by
     have : ¬ ((a.length:Int) = (b.length:Int)) := by simpa using hc
     omega
   rw [decide_eq_decide]
   rcases Nat.lt_or_gt_of_ne hc with h | h
   · have := val_lt_of_len ha cb h; omega
   · have := val_lt_of_len hb ca h; omega
 · have hlen : a.length = b.length := by
     have : (a.length:Int) = (b.length:Int) := by simpa using hc
     omega
   refine ⟨fun i => -1 ≤ i ∧ i < (a.length:Int) ∧ ∀ j : Nat, i < (j:Int) → dg a j = dg b j, fun i => (i + 1).toNat, ?_, fun i ⟨h0, h1, h2⟩ => ⟨fun hi => ?_, fun hi => ?_⟩⟩
   · rw [w64 (by omega) (by omega)]
     exact ⟨by omega, by omega, fun j hj => by rw [dg_out (by omega), dg_out (by omega)]⟩
   · have hi : 0 ≤ i := by simpa using hi
     have hw : IntKind.i64.wrap (i - 1) = i - 1 := w64 (by omega) (by omega)
     refine ⟨(dg a i.toNat:Nat), (dg b i.toNat:Nat), ⟨hi, by omega⟩, lim_getI hi h1, ⟨hi, by omega⟩, lim_getI hi (by omega), fun hc => ?_, fun hc => ?_⟩
     · refine outb ?_
       have hc : dg a i.toNat ≠ dg b i.toNat := by
         intro h
         rw [h] at hc; simp at hc
       have hs : ∀ j, i.toNat < j → dg a j = dg b j := fun j hj => h2 j (by omega)
       rw [decide_eq_decide]
       rcases Nat.lt_or_gt_of_ne hc with g | g
       · have := val_lt_of_dg ha hlen (by omega) g hs; omega
       · have := val_lt_of_dg hb hlen.symm (by omega) g fun j hj => (hs j hj).symm; omega
     · have heq : dg a i.toNat = dg b i.toNat := by
         have : ((dg a i.toNat:Nat) : Int) = (dg b i.toNat:Nat) := by simpa using hc
         omega
       rw [hw]
       refine ⟨⟨by omega, by omega, fun j hj => ?_⟩, by show (i - 1 + 1).toNat < (i + 1).toNat; omega⟩
       by_cases hji : j = i.toNat
       · subst hji; exact heq
       · exact h2 j (by omega)
   · have hi : i < 0 := by simpa using hi
     have hv := val_eq_of_dg hlen fun j => h2 j (by omega)
     exact outb (by simp [hv])
end Go.AM
/- What the functions of package integer, and of its reference, answer: over the integers. -/
namespace Go.AM
open Go.Proofs.Try
def Sz (z:Int) : Prop := (digs z.natAbs).length ≤ 1073741824
theorem Sz.of_lt {z : Int} (k:Nat) (hk : k ≤ 1073741824) (h : z.natAbs < 4294967296 ^ k) : Sz z := Nat.le_trans (digs_len h) hk
abbrev dz (z:Int) : List Nat := digs z.natAbs
theorem oute {z z' : Int} (h : z = z') : Out (eI z') (V.e (E.agg [S.dat (D.bool (decide (z < 0))), S.dat (D.sl (lim (digs z.natAbs)))])) [] := by subst h; exact ⟨rfl, rfl⟩
theorem sum_fits {a b : List Nat} (ha : ∀ x ∈ a, x < 4294967296) (hb : ∀ x ∈ b, x < 4294967296) : val a + val b < 4294967296 ^ (max a.length b.length + 1) := by
 have h1 := val_lt ha
 have h2 := val_lt hb
 have h3 : 4294967296 ^ a.length ≤ 4294967296 ^ max a.length b.length := Nat.pow_le_pow_right (by decide) (Nat.le_max_left _ _)
 have h4 : 4294967296 ^ b.length ≤ 4294967296 ^ max a.length b.length := Nat.pow_le_pow_right (by decide) (Nat.le_max_right _ _)
 rw [Nat.pow_succ]
 generalize 4294967296 ^ max a.length b.length = q at *
 omega
theorem diff_fits {a : List Nat} (ha : ∀ x ∈ a, x < 4294967296) (v:Nat) : val a - v < 4294967296 ^ a.length := Nat.lt_of_le_of_lt (Nat.sub_le _ _) (val_lt ha)
theorem len_le_of_val {a b : List Nat} (ha : ∀ x ∈ a, x < 4294967296) (cb : canon b) (h : val b ≤ val a) : b.length ≤ a.length := by
 apply Classical.byContradiction
 intro hn
 have := val_lt_of_len ha cb (by omega)
 omega
theorem sign_ok (z:Int) : FnD prog 91 [eI z] (vi (if z = 0 then 0 else if z < 0 then -1 else 1)) [] := by
 refine vc91_ok _ _ (R := Out _) ?_
 unfold vc91
 simp only [lim_length]
 have hnil : (dz z).length = 0 ↔ z = 0 := by rw [List.length_eq_zero_iff, digs_nil]; omega
 refine ⟨fun h => outi ?_, fun h => ⟨fun h2 => outi ?_, fun h2 => outi ?_⟩⟩
 · have : (dz z).length = 0 := by have h : ((dz z).length : Int) = 0 := by simpa using h
                                  omega
   rw [if_pos (hnil.1 this)]
 all_goals
   have : ¬ z = 0 := fun hz => by
     have h : ¬ ((dz z).length:Int) = 0 := by simpa using h
     exact h (by rw [hnil.2 hz]; rfl)
   rw [if_neg this]
 · rw [if_pos (by simpa using h2)]
 · rw [if_neg (by simpa using h2)]
theorem rsign_ok (z:Int) : FnD prog 92 [eI z] (vi (if z = 0 then 0 else if z < 0 then -1 else 1)) [] := by
 refine vc92_ok _ _ (R := Out _) ?_
 unfold vc92
 simp only [lim_length]
 have hnil : (dz z).length = 0 ↔ z = 0 := by rw [List.length_eq_zero_iff, digs_nil]; omega
 refine ⟨fun h => outi ?_, fun h => ⟨fun h2 => outi ?_, fun h2 => outi ?_⟩⟩
 · have : (dz z).length = 0 := by have h : ((dz z).length : Int) = 0 := by simpa using h
                                  omega
   rw [if_pos (hnil.1 this)]
 all_goals
   have : ¬ z = 0 := fun hz => by
     have h : ¬ ((dz z).length:Int) = 0 := by simpa using h
     exact h (by rw [hnil.2 hz]; rfl)
   rw [if_neg this]
 · rw [if_pos (by simpa using h2)]
 · rw [if_neg (by simpa using h2)]
theorem neg_ok (z:Int) : FnD prog 100 [eI z] (eI (-z)) [] := by
 refine vc100_ok _ _ (R := Out _) ?_
 unfold vc100
 simp only [lim_length]
 have hnil : (dz z).length = 0 ↔ z = 0 := by rw [List.length_eq_zero_iff, digs_nil]; omega
 have hab : (-z).natAbs = z.natAbs := by omega
 refine ⟨fun h => ?_, fun h => ?_⟩
 · have h : 0 ≤ z := by simpa using h
   have := out2 (b := decide (((dz z).length:Int) > 0)) (b' := decide (-z < 0)) (l := lim (dz z)) (l' := lim (dz (-z))) (by
     rw [decide_eq_decide]
     constructor
     · intro h1; have : ¬ z = 0 := fun hz => by have := hnil.2 hz; omega
       omega
     · intro h1; have : ¬ (dz z).length = 0 := fun hl => by have := hnil.1 hl; omega
       omega) (by show lim (digs z.natAbs) = lim (digs (-z).natAbs); rw [hab])
   exact this
 · have h : z < 0 := by simpa using h
   exact out2 (b := false) (b' := decide (-z < 0)) (l := lim (dz z)) (l' := lim (dz (-z))) (by
     rw [eq_comm, decide_eq_false_iff_not]; omega) (by show lim (digs z.natAbs) = lim (digs (-z).natAbs); rw [hab])
theorem norm_z {l : List Nat} {neg : Bool} {z : Int} (hB : ∀ x ∈ l, x < 4294967296) (hl : l.length ≤ 1099511627776) (hz : (if neg then -(val l:Int) else val l) = z) :
   FnD prog 144 [vs (lim l), vb neg] (eI z) [] := hz ▸ norm_eI l neg hB hl
theorem made_z {l : List Nat} {neg : Bool} {z : Int} (hB : ∀ x ∈ l, x < 4294967296) (hl : l.length ≤ 1099511627776) (hz : (if neg then -(val l:Int) else val l) = z) :
   FnD prog 71 [vs (lim l), vb neg] (eI z) [] := hz ▸ made_eI l neg hB hl
theorem add_ok {x y : Int} (hx : Sz x) (hy : Sz y) : FnD prog 106 [eI x, eI y] (eI (x + y)) [] := by
 refine vc106_ok _ _ _ _ (R := Out _) ?_
 unfold vc106
 have ax := digs_lt x.natAbs
 have ay := digs_lt y.natAbs
 have cx := digs_canon x.natAbs
 have cy := digs_canon y.natAbs
 have vx := val_digs x.natAbs
 have vy := val_digs y.natAbs
 unfold Sz at hx hy
 refine ⟨fun h => ?_, fun h => ?_⟩
 · have h : (x < 0 ↔ y < 0) := by simpa using h
   refine ⟨_, decide (x + y < 0), lim (dz (x + y)), plus_ok ax ay (by omega) (by omega), norm_z (padD_lt _ _) (by rw [padD_length]; omega) ?_, oute rfl⟩
   rw [val_padD _ _ (sum_fits ax ay), vx, vy]
   by_cases h1 : x < 0
   · rw [if_pos (by simpa using h1)]; omega
   · rw [if_neg (by simpa using h1)]; omega
 · have h : ¬ (x < 0 ↔ y < 0) := by simpa using h
   refine ⟨_, compare_ok ax ay cx cy (by omega), fun hc => ?_, fun hc => ?_⟩
   · have hlt : x.natAbs < y.natAbs := by
       rw [vx, vy] at hc
       unfold cmpI at hc
       simp only [decide_eq_true_eq] at hc
       split at hc
       · omega
       · split at hc <;> omega
     have hle : val (dz x) ≤ val (dz y) := by rw [vx, vy]; omega
     refine ⟨_, decide (x + y < 0), lim (dz (x + y)), minus_ok ay ax (by omega) (len_le_of_val ay cx hle) hle, norm_z (padD_lt _ _) (by rw [padD_length]; omega) ?_, oute rfl⟩
     rw [val_padD _ _ (diff_fits ay _), vx, vy]
     by_cases h1 : y < 0
     · rw [if_pos (by simpa using h1)]; omega
     · rw [if_neg (by simpa using h1)]; omega
   · have hge : y.natAbs ≤ x.natAbs := by
       rw [vx, vy] at hc
       unfold cmpI at hc
       simp only [decide_eq_false_iff_not] at hc
       split at hc
       · omega
       · split at hc <;> omega
     have hle : val (dz y) ≤ val (dz x) := by rw [vx, vy]; omega
     refine ⟨_, decide (x + y < 0), lim (dz (x + y)), minus_ok ax ay (by omega) (len_le_of_val ax cy hle) hle, norm_z (padD_lt _ _) (by rw [padD_length]; omega) ?_, oute rfl⟩
     rw [val_padD _ _ (diff_fits ax _), vx, vy]
     by_cases h1 : x < 0
     · rw [if_pos (by simpa using h1)]; omega
     · rw [if_neg (by simpa using h1)]; omega
theorem cmp_ok {x y : Int} (hx : Sz x) (hy : Sz y) : FnD prog 148 [eI x, eI y] (vi (cmpI x y)) [] := by
 refine vc148_ok _ _ _ _ (R := Out _) ?_
 unfold vc148
 have ax := digs_lt x.natAbs
 have ay := digs_lt y.natAbs
 have cx := digs_canon x.natAbs
 have cy := digs_canon y.natAbs
 have vx := val_digs x.natAbs
 have vy := val_digs y.natAbs
 unfold Sz at hx hy
 have c1 := compare_ok ax ay cx cy (by omega)
 have c2 := compare_ok ay ax cy cx (by omega)
 refine ⟨fun h1 => ⟨fun h2 => outi ?_, fun h2 => ⟨fun h3 => ⟨fun h4 => ?_, fun h4 => ⟨_, c2, outi ?_⟩⟩, fun h3 => ?_⟩⟩, fun h1 => ⟨fun h2 => ⟨fun h3 => outi ?_, fun h3 => ?_⟩, fun h2 => ⟨_, c1, outi ?_⟩⟩⟩
 · have a1 : x < 0 := by simpa using h1
   have a2 : 0 ≤ y := by simpa using h2
   unfold cmpI; rw [if_pos (by omega)]
 · rw [h1] at h4; simp at h4
 · have a1 : x < 0 := by simpa using h1
   have a2 : y < 0 := by simpa using h3
   rw [vx, vy]; unfold cmpI
   repeat' split
   all_goals omega
 · rw [h3] at h2; simp at h2
 · have a1 : 0 ≤ x := by simpa using h1
   have a2 : y < 0 := by simpa using h2
   unfold cmpI; rw [if_neg (by omega), if_pos (by omega)]
 · rw [h1] at h3; simp at h3
 · have a1 : 0 ≤ x := by simpa using h1
   have a2 : 0 ≤ y := by simpa using h2
   rw [vx, vy]; unfold cmpI
   repeat' split
   all_goals omega
theorem of_digits (n:Int) (h0 : -9223372036854775808 ≤ n) (h1 : n ≤ 9223372036854775807) :
   (IntKind.u64.wrap n).fdiv (2 ^ (min (32:Int).toNat IntKind.u64.bits)) = (IntKind.u64.wrap n) / 4294967296 ∧ (0 ≤ n → IntKind.u64.wrap n = n) ∧ (n < 0 → IntKind.u64.wrap (0 - IntKind.u64.wrap n) = -n) := by
 refine ⟨sh32, fun h => wu64 h (by omega), fun h => ?_⟩
 rw [wu64', wu64']; omega
theorem val2 (a b:Nat) : val [a, b] = a + 4294967296 * b := by simp [val]
theorem of_ok (n:Int) (h0 : -9223372036854775808 ≤ n) (h1 : n ≤ 9223372036854775807) : FnD prog 108 [.e (.sc (.dat (.int .i64 n)))] (eI n) [] := by
 refine vc108_ok n (R := Out _) ?_
 unfold vc108
 obtain ⟨_, p2, p3⟩ := of_digits n h0 h1
 have key : ∀ (m:Nat) (neg:Bool), m < 18446744073709551616 → ∀ z : Int, (if neg then -(m:Int) else m) = z →
     FnD prog 144 [vs [[D.int .u32 (IntKind.u32.wrap (m:Int))], [D.int .u32 (IntKind.u32.wrap ((m:Int) / 4294967296))]], vb neg] (eI z) [] := fun m neg hm z hz => by
   have e1 : IntKind.u32.wrap (m:Int) = ((m % 4294967296:Nat) : Int) := by rw [wu32]; omega
   have e2 : IntKind.u32.wrap ((m:Int) / 4294967296) = ((m / 4294967296:Nat) : Int) := by rw [wu32]; omega
   rw [e1, e2]
   exact norm_z (l := [m % 4294967296, m / 4294967296]) (fun x hx => by
     simp only [List.mem_cons, List.not_mem_nil, or_false] at hx
     rcases hx with rfl | rfl <;> omega) (by simp) (by rw [val2, Nat.mod_add_div]; exact hz)
 refine ⟨fun h => ?_, fun h => ?_⟩
 · have hn : n < 0 := by simpa using h
   refine ⟨decide (n < 0), lim (dz n), by decide, ?_, oute rfl⟩
   rw [p3 hn, sh32]
   have := key (-n).toNat (decide (n < 0)) (by omega) n (by rw [if_pos h]; omega)
   rw [Int.toNat_of_nonneg (by omega)] at this
   exact this
 · have hn : 0 ≤ n := by simpa using h
   refine ⟨decide (n < 0), lim (dz n), by decide, ?_, oute rfl⟩
   rw [p2 hn, sh32]
   have := key n.toNat (decide (n < 0)) (by omega) n (by rw [if_neg (by simp [h])]; omega)
   rw [Int.toNat_of_nonneg (by omega)] at this
   exact this
theorem rof_ok (n:Int) (h0 : -9223372036854775808 ≤ n) (h1 : n ≤ 9223372036854775807) : FnD prog 16 [.e (.sc (.dat (.int .i64 n)))] (eI n) [] := by
 refine vc16_ok n (R := Out _) ?_
 unfold vc16
 obtain ⟨_, p2, p3⟩ := of_digits n h0 h1
 have key : ∀ (m:Nat) (neg:Bool), m < 18446744073709551616 → ∀ z : Int, (if neg then -(m:Int) else m) = z →
     FnD prog 71 [vs [[D.int .u32 (IntKind.u32.wrap (m:Int))], [D.int .u32 (IntKind.u32.wrap ((m:Int) / 4294967296))]], vb neg] (eI z) [] := fun m neg hm z hz => by
   have e1 : IntKind.u32.wrap (m:Int) = ((m % 4294967296:Nat) : Int) := by rw [wu32]; omega
   have e2 : IntKind.u32.wrap ((m:Int) / 4294967296) = ((m / 4294967296:Nat) : Int) := by rw [wu32]; omega
   rw [e1, e2]
   exact made_z (l := [m % 4294967296, m / 4294967296]) (fun x hx => by
     simp only [List.mem_cons, List.not_mem_nil, or_false] at hx
     rcases hx with rfl | rfl <;> omega) (by simp) (by rw [val2, Nat.mod_add_div]; exact hz)
 refine ⟨fun h => ?_, fun h => ?_⟩
 · have hn : n < 0 := by simpa using h
   refine ⟨decide (n < 0), lim (dz n), by decide, ?_, oute rfl⟩
   rw [p3 hn, sh32]
   have := key (-n).toNat (decide (n < 0)) (by omega) n (by rw [if_pos h]; omega)
   rw [Int.toNat_of_nonneg (by omega)] at this
   exact this
 · have hn : 0 ≤ n := by simpa using h
   refine ⟨decide (n < 0), lim (dz n), by decide, ?_, oute rfl⟩
   rw [p2 hn, sh32]
   have := key n.toNat (decide (n < 0)) (by omega) n (by rw [if_neg (by simp [h])]; omega)
   rw [Int.toNat_of_nonneg (by omega)] at this
   exact this
theorem rneg_ok {z : Int} (hz : Sz z) : FnD prog 104 [eI z] (eI (-z)) [] := by
 refine vc104_ok _ _ (R := Out _) ?_
 unfold vc104
 unfold Sz at hz
 refine ⟨decide (-z < 0), lim (dz (-z)), made_z (l := dz z) (digs_lt _) (by show (digs z.natAbs).length ≤ _; omega) ?_, oute rfl⟩
 rw [val_digs]
 by_cases h : z < 0
 · rw [if_neg (by simp; exact h)]; omega
 · rw [if_pos (by simp; omega)]; omega
theorem rsame_ok {x y : Int} (hx : Sz x) (hy : Sz y) : FnD prog 40 [eI x, eI y] (vb (decide (x = y))) [] := by
 refine vc40_ok _ _ _ _ (R := Out _) ?_
 unfold vc40
 have ax := digs_lt x.natAbs
 have ay := digs_lt y.natAbs
 have cx := digs_canon x.natAbs
 have cy := digs_canon y.natAbs
 have vx := val_digs x.natAbs
 have vy := val_digs y.natAbs
 unfold Sz at hx hy
 have c1 := less_ok ax ay cx cy (by omega)
 have c2 := less_ok ay ax cy cx (by omega)
 rw [vx, vy] at c1 c2
 refine ⟨fun h => ⟨_, c1, fun h1 => ⟨_, c2, outb ?_⟩, fun h1 => outb ?_⟩, fun h => outb ?_⟩
 · have h : (x < 0 ↔ y < 0) := by simpa using h
   have h1 : ¬ x.natAbs < y.natAbs := by simpa using h1
   by_cases e : x = y
   · subst e; simp
   · have : y.natAbs < x.natAbs := by omega
     simp [e, this]
 · have h1 : x.natAbs < y.natAbs := by simpa using h1
   rw [eq_comm, decide_eq_false_iff_not]; omega
 · have h : ¬ (x < 0 ↔ y < 0) := by simpa using h
   rw [eq_comm, decide_eq_false_iff_not]; omega
end Go.AM
/- What the functions of package integer, and of its reference, answer: the reference's sums, products. -/
namespace Go.AM
open Go.Proofs.Try
theorem td32 {n : Int} (h : 0 ≤ n) : n.tdiv 4294967296 = n / 4294967296 := Int.tdiv_eq_ediv_of_nonneg h
theorem lim_snoc (o : List Nat) (x:Nat) : lim o ++ [[D.int .u32 (x:Int)]] = lim (o ++ [x]) := by simp [lim]
theorem snoc_lt {o : List Nat} {x : Nat} (h : ∀ y ∈ o, y < 4294967296) (hx : x < 4294967296) : ∀ y ∈ o ++ [x], y < 4294967296 := fun y hy => by
 rcases List.mem_append.1 hy with h1 | h1
 · exact h y h1
 · simp only [List.mem_singleton] at h1; subst h1; exact hx
theorem val_snoc (o : List Nat) (x:Nat) : val (o ++ [x]) = val o + 4294967296 ^ o.length * x := by rw [val_append]; simp [val]
def sumLen (a b : List Nat) : Nat := if val a + val b < 4294967296 ^ max a.length b.length then max a.length b.length else max a.length b.length + 1
theorem rplus_ok {a b : List Nat} (ha : ∀ x ∈ a, x < 4294967296) (hb : ∀ x ∈ b, x < 4294967296) (hla : a.length ≤ 1099511627776) (hlb : b.length ≤ 1099511627776) :
   FnD prog 131 [vs (lim a), vs (lim b)] (vs (lim (padD (sumLen a b) (val a + val b)))) [] := by
 refine vc131_ok (lim a) (lim b) (R := Out _) ?_
 unfold vc131
 simp only [lim_length]
 refine ⟨fun out c t => ∃ (o : List Nat) (i k:Nat), out = lim o ∧ t = (i:Int) ∧ c = (k:Int) ∧ o.length = i ∧ (∀ x ∈ o, x < 4294967296) ∧ i ≤ max a.length b.length + 1 ∧ k ≤ 1 ∧ (i = max a.length b.length + 1 → k = 0 ∧ 4294967296 ^ max a.length b.length ≤ val a + val b) ∧ val o + 4294967296 ^ i * k = low a i + low b i,
   fun _ _ t => ((max a.length b.length:Nat) + 2 - t).toNat, ⟨[], 0, 0, rfl, rfl, rfl, rfl, fun x hx => by simp at hx, by omega, by omega, fun h => by omega, by simp [val, low_zero]⟩, ?_⟩
 rintro _ _ _ ⟨o, i, k, rfl, rfl, rfl, hol, hod, hia, hk, hlast, hinv⟩
 have hwi : IntKind.i64.wrap ((i:Int) + 1) = ((i + 1:Nat) : Int) := by rw [w64 (by omega) (by omega)]; simp
 have step : (i < max a.length b.length ∨ 0 < k) → ∀ (x y s:Nat), x = dg a i → y = dg b i → s = k + x + y →
     (((lim o).length + ([[D.int .u32 (IntKind.u32.wrap (s:Int))]] : DL).length) * 4 ≤ 140737488355328) ∧ ((4294967296:Int) ≠ 0) ∧
     ((∃ (o' : List Nat) (i' k':Nat), lim o ++ [[D.int .u32 (IntKind.u32.wrap (s:Int))]] = lim o' ∧ IntKind.i64.wrap ((i:Int) + 1) = (i':Int) ∧ IntKind.u64.wrap ((s:Int).tdiv 4294967296) = (k':Int) ∧ o'.length = i' ∧ (∀ x ∈ o', x < 4294967296) ∧ i' ≤ max a.length b.length + 1 ∧ k' ≤ 1 ∧
       (i' = max a.length b.length + 1 → k' = 0 ∧ 4294967296 ^ max a.length b.length ≤ val a + val b) ∧ val o' + 4294967296 ^ i' * k' = low a i' + low b i') ∧
       (((max a.length b.length:Nat) : Int) + 2 - IntKind.i64.wrap ((i:Int) + 1)).toNat < (((max a.length b.length:Nat) : Int) + 2 - (i:Int)).toNat) := fun hgo x y s hx hy hs => by
   have hxl : x < 4294967296 := hx ▸ dg_lt ha i
   have hyl : y < 4294967296 := hy ▸ dg_lt hb i
   have hiM : i ≤ max a.length b.length := by
     rcases Nat.lt_or_ge i (max a.length b.length + 1) with h | h
     · omega
     · have := (hlast (by omega)).1; omega
   have e1 : IntKind.u32.wrap (s:Int) = ((s % 4294967296:Nat) : Int) := by rw [wu32]; omega
   have e2 : IntKind.u64.wrap ((s:Int).tdiv 4294967296) = ((s / 4294967296:Nat) : Int) := by rw [td32 (by omega), wu64 (by omega) (by omega)]; omega
   rw [e1, e2, hwi, lim_snoc]
   refine ⟨by simp only [lim_length, List.length_singleton]; omega, by decide, ⟨_, i + 1, _, rfl, rfl, rfl, by simp [hol], snoc_lt hod (Nat.mod_lt _ (by decide)), by omega, by omega, fun hl => ?_, ?_⟩, by omega⟩
   · have hi : i = max a.length b.length := by omega
     have ha0 : dg a i = 0 := dg_out (by omega)
     have hb0 : dg b i = 0 := dg_out (by omega)
     have hk0 : 0 < k := by rcases hgo with h | h <;> omega
     rw [low_all (by omega), low_all (by omega), hi] at hinv
     have h1 : 4294967296 ^ max a.length b.length * 1 ≤ 4294967296 ^ max a.length b.length * k := Nat.mul_le_mul_left _ hk0
     exact ⟨by omega, by omega⟩
   · rw [val_snoc, hol, low_succ a, low_succ b, Nat.pow_succ, ← hx, ← hy]
     have := carry_step (4294967296 ^ i) (val o) s k x y _ hinv (by omega)
     omega
 refine ⟨fun hc => ?_, fun hc => ?_⟩
 · have hi : i < a.length := by simpa using hc
   refine ⟨(dg a i:Nat), ⟨by omega, by omega⟩, by simpa using lim_getI (l := a) (i := (i:Int)) (by omega) (by omega), fun hd => ?_, fun hd => ?_⟩
   · have hib : i < b.length := by simpa using hd
     have hxl := dg_lt ha i
     have hyl := dg_lt hb i
     have e : IntKind.u64.wrap (IntKind.u64.wrap ((k:Int) + IntKind.u64.wrap ((dg a i:Nat) : Int)) + IntKind.u64.wrap ((dg b i:Nat) : Int)) = ((k + dg a i + dg b i:Nat) : Int) := by
       rw [wu64 (n := ((dg a i:Nat) : Int)) (by omega) (by omega), wu64 (n := ((dg b i:Nat) : Int)) (by omega) (by omega), wu64 (n := (k:Int) + _) (by omega) (by omega), wu64 (by omega) (by omega)]; omega
     refine ⟨(dg b i:Nat), ⟨by omega, by omega⟩, by simpa using lim_getI (l := b) (i := (i:Int)) (by omega) (by omega), ?_⟩
     rw [e]
     exact step (.inl (by omega)) _ _ _ rfl rfl rfl
   · have hib : b.length ≤ i := by simpa using hd
     have hxl := dg_lt ha i
     have e : IntKind.u64.wrap ((k:Int) + IntKind.u64.wrap ((dg a i:Nat) : Int)) = ((k + dg a i + 0:Nat) : Int) := by
       rw [wu64 (n := ((dg a i:Nat) : Int)) (by omega) (by omega), wu64 (by omega) (by omega)]; omega
     rw [e]
     exact step (.inl (by omega)) _ 0 _ rfl (dg_out hib).symm rfl
 · have hi : a.length ≤ i := by simpa using hc
   refine ⟨fun hd => ?_, fun hd => ⟨fun he => ?_, fun he => ?_⟩⟩
   · have hib : i < b.length := by simpa using hd
     have hyl := dg_lt hb i
     have e : IntKind.u64.wrap ((k:Int) + IntKind.u64.wrap ((dg b i:Nat) : Int)) = ((k + 0 + dg b i:Nat) : Int) := by
       rw [wu64 (n := ((dg b i:Nat) : Int)) (by omega) (by omega), wu64 (by omega) (by omega)]; omega
     refine ⟨(dg b i:Nat), ⟨by omega, by omega⟩, by simpa using lim_getI (l := b) (i := (i:Int)) (by omega) (by omega), ?_⟩
     rw [e]
     exact step (.inl (by omega)) 0 _ _ (dg_out hi).symm rfl rfl
   · have hib : b.length ≤ i := by simpa using hd
     have hk0 : 0 < k := by simpa using he
     exact step (.inr hk0) 0 0 k (dg_out hi).symm (dg_out hib).symm rfl
   · have hib : b.length ≤ i := by simpa using hd
     have hk0 : k = 0 := by have : ¬ (k : Int) > 0 := by simpa using he
                            omega
     subst hk0
     refine outs ?_
     rw [low_all hi, low_all hib] at hinv
     have hv : val o = val a + val b := by omega
     congr 1
     have hlen : o.length = sumLen a b := by
       unfold sumLen
       split
       · rename_i h
         have : i ≠ max a.length b.length + 1 := fun h2 => by have := (hlast h2).2; omega
         omega
       · rename_i h
         have : i ≠ max a.length b.length := fun h2 => by
           have h3 := val_lt hod
           rw [hol, h2] at h3; omega
         omega
     have := padD_val o hod
     rw [hv, hlen] at this
     exact this
theorem sumLen_le (a b : List Nat) : sumLen a b ≤ max a.length b.length + 1 := by unfold sumLen; split <;> omega
theorem sumLen_fits {a b : List Nat} (ha : ∀ x ∈ a, x < 4294967296) (hb : ∀ x ∈ b, x < 4294967296) : val a + val b < 4294967296 ^ sumLen a b := by
 unfold sumLen
 split
 · assumption
 · exact sum_fits ha hb
theorem wi64 {n : Int} (h0 : -9000000000000000000 ≤ n) (h1 : n ≤ 9000000000000000000) : IntKind.i64.wrap n = n := w64 (by omega) (by omega)
theorem rminus_ok {a b : List Nat} (ha : ∀ x ∈ a, x < 4294967296) (hb : ∀ x ∈ b, x < 4294967296) (hl : a.length ≤ 1099511627776) (hab : b.length ≤ a.length) (hle : val b ≤ val a) :
   FnD prog 132 [vs (lim a), vs (lim b)] (vs (lim (padD a.length (val a - val b)))) [] := by
 refine vc132_ok (lim a) (lim b) (R := Out _) ?_
 unfold vc132
 simp only [lim_length]
 refine ⟨fun out c t => ∃ (o : List Nat) (i k:Nat), out = lim o ∧ t = (i:Int) ∧ c = (k:Int) ∧ o.length = i ∧ (∀ x ∈ o, x < 4294967296) ∧ i ≤ a.length ∧ k ≤ 1 ∧ low a i + 4294967296 ^ i * k = val o + low b i,
   fun _ _ t => ((a.length:Int) - t).toNat, ⟨[], 0, 0, rfl, rfl, rfl, rfl, fun x hx => by simp at hx, by omega, by omega, by simp [val, low_zero]⟩, ?_⟩
 rintro _ _ _ ⟨o, i, k, rfl, rfl, rfl, hol, hod, hia, hk, hinv⟩
 have step : i < a.length → ∀ (x y d k':Nat), x = dg a i → y = dg b i → x + 4294967296 * k' = d + y + k → d < 4294967296 → k' ≤ 1 →
     (((lim o).length + ([[D.int .u32 (d:Int)]] : DL).length) * 4 ≤ 140737488355328) ∧
     ((∃ (o' : List Nat) (i' k'':Nat), lim o ++ [[D.int .u32 (d:Int)]] = lim o' ∧ IntKind.i64.wrap ((i:Int) + 1) = (i':Int) ∧ (k':Int) = (k'':Int) ∧ o'.length = i' ∧ (∀ x ∈ o', x < 4294967296) ∧ i' ≤ a.length ∧ k'' ≤ 1 ∧ low a i' + 4294967296 ^ i' * k'' = val o' + low b i') ∧
       ((a.length:Int) - IntKind.i64.wrap ((i:Int) + 1)).toNat < ((a.length:Int) - (i:Int)).toNat) := fun hi x y d k' hx hy hs hd hk' => by
   have hwi : IntKind.i64.wrap ((i:Int) + 1) = ((i + 1:Nat) : Int) := by rw [w64 (by omega) (by omega)]; simp
   rw [hwi, lim_snoc]
   refine ⟨by simp only [lim_length, List.length_singleton]; omega, ⟨_, i + 1, k', rfl, rfl, rfl, by simp [hol], snoc_lt hod hd, by omega, hk', ?_⟩, by omega⟩
   rw [val_snoc, hol, low_succ a, low_succ b, Nat.pow_succ, ← hx, ← hy]
   exact borrow_step (4294967296 ^ i) _ _ _ k _ x y d hinv hs
 refine ⟨fun hc => ?_, fun hc => ?_⟩
 · have hi : i < a.length := by simpa using hc
   have hxl := dg_lt ha i
   have hyl := dg_lt hb i
   have e1 : IntKind.i64.wrap ((dg a i:Nat) : Int) = (dg a i:Nat) := wi64 (by omega) (by omega)
   have e2 : IntKind.i64.wrap (((dg a i:Nat) : Int) - k) = ((dg a i:Nat) : Int) - k := wi64 (by omega) (by omega)
   refine ⟨(dg a i:Nat), ⟨by omega, by omega⟩, by simpa using lim_getI (l := a) (i := (i:Int)) (by omega) (by omega), fun hd => ?_, fun hd => ?_⟩
   · have e3 : IntKind.i64.wrap ((dg b i:Nat) : Int) = (dg b i:Nat) := wi64 (by omega) (by omega)
     have e4 : IntKind.i64.wrap (((dg a i:Nat) : Int) - k - (dg b i:Nat)) = ((dg a i:Nat) : Int) - k - (dg b i:Nat) := wi64 (by omega) (by omega)
     have e5 : IntKind.i64.wrap (((dg a i:Nat) : Int) - k - (dg b i:Nat) + 4294967296) = ((dg a i:Nat) : Int) - k - (dg b i:Nat) + 4294967296 := wi64 (by omega) (by omega)
     rw [e1, e2]
     have hib : i < b.length := by simpa using hd
     refine ⟨(dg b i:Nat), ⟨by omega, by omega⟩, by simpa using lim_getI (l := b) (i := (i:Int)) (by omega) (by omega), ?_⟩
     rw [e3, e4, e5]
     refine ⟨fun hn => ?_, fun hn => ?_⟩
     · have hn : ((dg a i:Nat) : Int) - k - (dg b i:Nat) < 0 := by simpa using hn
       have e6 : IntKind.u32.wrap (((dg a i:Nat) : Int) - k - (dg b i:Nat) + 4294967296) = ((dg a i + 4294967296 - k - dg b i:Nat) : Int) := by rw [wu32]; omega
       rw [e6]
       exact step hi _ _ _ 1 rfl rfl (by omega) (by omega) (by omega)
     · have hn : ¬ ((dg a i:Nat) : Int) - k - (dg b i:Nat) < 0 := by simpa using hn
       have e6 : IntKind.u32.wrap (((dg a i:Nat) : Int) - k - (dg b i:Nat)) = ((dg a i - k - dg b i:Nat) : Int) := by rw [wu32]; omega
       rw [e6]
       exact step hi _ _ _ 0 rfl rfl (by omega) (by omega) (by omega)
   · have hib : b.length ≤ i := by simpa using hd
     have e5 : IntKind.i64.wrap (((dg a i:Nat) : Int) - k + 4294967296) = ((dg a i:Nat) : Int) - k + 4294967296 := wi64 (by omega) (by omega)
     rw [e1, e2, e5]
     refine ⟨fun hn => ?_, fun hn => ?_⟩
     · have hn : ((dg a i:Nat) : Int) - k < 0 := by simpa using hn
       have e6 : IntKind.u32.wrap (((dg a i:Nat) : Int) - k + 4294967296) = ((dg a i + 4294967296 - k:Nat) : Int) := by rw [wu32]; omega
       rw [e6]
       exact step hi _ 0 _ 1 rfl (dg_out hib).symm (by omega) (by omega) (by omega)
     · have hn : ¬ ((dg a i:Nat) : Int) - k < 0 := by simpa using hn
       have e6 : IntKind.u32.wrap (((dg a i:Nat) : Int) - k) = ((dg a i - k:Nat) : Int) := by rw [wu32]; omega
       rw [e6]
       exact step hi _ 0 _ 0 rfl (dg_out hib).symm (by omega) (by omega) (by omega)
 · have hi : i = a.length := by have : a.length ≤ i := by simpa using hc
                                omega
   subst hi
   refine outs ?_
   congr 1
   have hv : val o = val a - val b := by
     rw [low_all (Nat.le_refl _), low_all hab] at hinv
     exact borrow_end hk hinv (by rw [← hol]; exact val_lt hod) hle
   have := padD_val o hod
   rw [hv, hol] at this
   exact this
theorem radd_ok {x y : Int} (hx : Sz x) (hy : Sz y) : FnD prog 82 [eI x, eI y] (eI (x + y)) [] := by
 refine vc82_ok _ _ _ _ (R := Out _) ?_
 unfold vc82
 have ax := digs_lt x.natAbs
 have ay := digs_lt y.natAbs
 have cx := digs_canon x.natAbs
 have cy := digs_canon y.natAbs
 have vx := val_digs x.natAbs
 have vy := val_digs y.natAbs
 unfold Sz at hx hy
 refine ⟨fun h => ?_, fun h => ?_⟩
 · have h : (x < 0 ↔ y < 0) := by simpa using h
   have hsl := sumLen_le (dz x) (dz y)
   refine ⟨_, decide (x + y < 0), lim (dz (x + y)), rplus_ok ax ay (by omega) (by omega), made_z (padD_lt _ _) (by rw [padD_length]; simp only [dz] at hsl; omega) ?_, oute rfl⟩
   rw [val_padD _ _ (sumLen_fits ax ay), vx, vy]
   by_cases h1 : x < 0
   · rw [if_pos (by simpa using h1)]; omega
   · rw [if_neg (by simpa using h1)]; omega
 · have h : ¬ (x < 0 ↔ y < 0) := by simpa using h
   refine ⟨_, less_ok ax ay cx cy (by omega), fun hc => ?_, fun hc => ?_⟩
   · have hlt : x.natAbs < y.natAbs := by rw [vx, vy] at hc; simpa using hc
     have hle : val (dz x) ≤ val (dz y) := by rw [vx, vy]; omega
     refine ⟨_, decide (x + y < 0), lim (dz (x + y)), rminus_ok ay ax (by omega) (len_le_of_val ay cx hle) hle, made_z (padD_lt _ _) (by rw [padD_length]; omega) ?_, oute rfl⟩
     rw [val_padD _ _ (diff_fits ay _), vx, vy]
     by_cases h1 : y < 0
     · rw [if_pos (by simpa using h1)]; omega
     · rw [if_neg (by simpa using h1)]; omega
   · have hge : y.natAbs ≤ x.natAbs := by
       rw [vx, vy] at hc
       simpa using hc
     have hle : val (dz y) ≤ val (dz x) := by rw [vx, vy]; omega
     refine ⟨_, decide (x + y < 0), lim (dz (x + y)), rminus_ok ax ay (by omega) (len_le_of_val ax cy hle) hle, made_z (padD_lt _ _) (by rw [padD_length]; omega) ?_, oute rfl⟩
     rw [val_padD _ _ (diff_fits ax _), vx, vy]
     by_cases h1 : x < 0
     · rw [if_pos (by simpa using h1)]; omega
     · rw [if_neg (by simpa using h1)]; omega
end Go.AM
/- What the functions of package integer, and of its reference, answer: products. -/
namespace Go.AM
open Go.Proofs.Try
theorem val_set : ∀ {o : List Nat} {j : Nat} (x:Nat), j < o.length → val (o.set j x) + 4294967296 ^ j * dg o j = val o + 4294967296 ^ j * x
 | [], j, x, h => by simp at h
 | y :: o, 0, x, _ => by simp [val, dg]; omega
 | y :: o, j + 1, x, h => by
   have ih := val_set (o := o) (j := j) x (by simpa using h)
   have hd : dg (y :: o) (j + 1) = dg o j := by simp [dg]
   rw [List.set_cons_succ, hd]
   simp only [val, Nat.pow_succ]
   have e1 : 4294967296 ^ j * 4294967296 * dg o j = 4294967296 * (4294967296 ^ j * dg o j) := by rw [Nat.mul_comm (4294967296 ^ j), Nat.mul_assoc]
   have e2 : 4294967296 ^ j * 4294967296 * x = 4294967296 * (4294967296 ^ j * x) := by rw [Nat.mul_comm (4294967296 ^ j), Nat.mul_assoc]
   rw [e1, e2]; omega
theorem dg_set_ne {o : List Nat} {i j x : Nat} (h : i ≠ j) : dg (o.set i x) j = dg o j := by
 simp [dg, List.getElem?_set_ne h]
theorem val_rep0 : ∀ n, val (List.replicate n 0) = 0
 | 0 => rfl
 | n + 1 => by simp [List.replicate_succ, val, val_rep0 n]
theorem dg_rep0 (n j:Nat) : dg (List.replicate n 0) j = 0 := by
 unfold dg
 rw [List.getD_eq_getElem?_getD, List.getElem?_replicate]
 split <;> rfl
theorem dig_bound {x y d c : Nat} (hx : x < 4294967296) (hy : y < 4294967296) (hd : d < 4294967296) (hc : c < 4294967296) : x * y ≤ 18446744065119617025 ∧ (c + x * y + d) / 4294967296 < 4294967296 ∧ c + x * y + d < 18446744073709551616 := by
 have h : x * y ≤ 4294967295 * 4294967295 := Nat.mul_le_mul (by omega) (by omega)
 refine ⟨by omega, by omega, by omega⟩
theorem mul_step {p v v' c d s L X bl t x y : Nat} (hset : v' + p * d = v + p * (s % 4294967296)) (hs : s = c + x * y + d) (hinv : v + p * c = L + X * bl) (hp : p * (x * y) = X * t) :
   v' + p * 4294967296 * (s / 4294967296) = L + X * (bl + t) := by
 have h1 : p * (s % 4294967296) + p * 4294967296 * (s / 4294967296) = p * s := by rw [Nat.mul_assoc, ← Nat.mul_add, Nat.mod_add_div]
 have h2 : p * s = p * c + p * (x * y) + p * d := by subst hs; simp only [Nat.mul_add]
 rw [Nat.mul_add]
 omega
theorem mul_ok {x y : Int} (hx : Sz x) (hy : Sz y) : FnD prog 113 [eI x, eI y] (eI (x * y)) [] := by
 refine vc113_ok _ _ _ _ (R := Out _) ?_
 unfold vc113
 obtain ⟨a, hae⟩ : ∃ a, a = digs x.natAbs := ⟨_, rfl⟩
 obtain ⟨b, hbe⟩ : ∃ b, b = digs y.natAbs := ⟨_, rfl⟩
 have ha : ∀ z ∈ a, z < 4294967296 := hae ▸ digs_lt x.natAbs
 have hb : ∀ z ∈ b, z < 4294967296 := hbe ▸ digs_lt y.natAbs
 have va : val a = x.natAbs := hae ▸ val_digs _
 have vb' : val b = y.natAbs := hbe ▸ val_digs _
 have hla : a.length ≤ 1073741824 := hae ▸ hx
 have hlb : b.length ≤ 1073741824 := hbe ▸ hy
 rw [← hae, ← hbe]
 simp only [lim_length]
 have hw : IntKind.i64.wrap ((a.length:Int) + (b.length:Int)) = ((a.length + b.length:Nat) : Int) := by rw [w64 (by omega) (by omega)]; simp
 rw [hw]
 refine ⟨⟨by omega, by omega, by omega⟩, fun out t => ∃ (o : List Nat) (i:Nat), out = lim o ∧ t = (i:Int) ∧ o.length = a.length + b.length ∧ (∀ z ∈ o, z < 4294967296) ∧ i ≤ a.length ∧ (∀ j, i + b.length ≤ j → dg o j = 0) ∧ val o = low a i * val b,
   fun _ t => ((a.length:Int) - t).toNat, ⟨List.replicate (a.length + b.length) 0, 0, by rw [Int.toNat_natCast, lim_rep], rfl, by simp, fun z hz => by rw [List.eq_of_mem_replicate hz]; decide, by omega, fun j _ => dg_rep0 _ j, by simp [low_zero, val_rep0]⟩, ?_⟩
 rintro _ _ ⟨o, i, rfl, rfl, hol, hod, hia, hzero, hinv⟩
 refine ⟨fun hc => ?_, fun hc => ?_⟩
 · have hi : i < a.length := by simpa using hc
   have hxl := dg_lt ha i
   refine ⟨(dg a i:Nat), ⟨by omega, by omega⟩, by simpa using lim_getI (l := a) (i := (i:Int)) (by omega) (by omega),
     fun out t c => ∃ (o1 : List Nat) (k cc:Nat), out = lim o1 ∧ t = (k:Int) ∧ c = (cc:Int) ∧ o1.length = a.length + b.length ∧ (∀ z ∈ o1, z < 4294967296) ∧ k ≤ b.length ∧ cc < 4294967296 ∧ (∀ j, i + b.length ≤ j → dg o1 j = 0) ∧
       val o1 + 4294967296 ^ (i + k) * cc = low a i * val b + 4294967296 ^ i * dg a i * low b k,
     fun _ t _ => ((b.length:Int) - t).toNat, ⟨o, 0, 0, rfl, rfl, rfl, hol, hod, by omega, by omega, hzero, by simp [low_zero, hinv]⟩, ?_⟩
   rintro _ _ _ ⟨o1, k, cc, rfl, rfl, rfl, hol1, hod1, hkb, hcc, hz1, hinv1⟩
   have hik : IntKind.i64.wrap ((i:Int) + (k:Int)) = ((i + k:Nat) : Int) := by rw [w64 (by omega) (by omega)]; simp
   refine ⟨fun hd => ?_, fun hd => ?_⟩
   · have hk : k < b.length := by simpa using hd
     have hyl := dg_lt hb k
     have hdl := dg_lt hod1 (i + k)
     obtain ⟨g1, g2, g3⟩ := dig_bound hxl hyl hdl hcc
     refine ⟨(dg b k:Nat), ⟨by omega, by omega⟩, by simpa using lim_getI (l := b) (i := (k:Int)) (by omega) (by omega), (dg o1 (i + k) : Nat), ?_, ?_, by decide, ?_⟩
     · rw [hik, lim_length]; omega
     · have := lim_getI (l := o1) (i := ((i + k:Nat) : Int)) (by omega) (by omega)
       rw [hik]; rw [Int.toNat_natCast] at *; exact this
     · have e0 : ((dg a i:Nat) : Int) * ((dg b k:Nat) : Int) = ((dg a i * dg b k:Nat) : Int) := by simp
       have e : IntKind.u64.wrap ((cc:Int) + IntKind.u64.wrap (IntKind.u64.wrap (IntKind.u64.wrap ((dg a i:Nat) : Int) * IntKind.u64.wrap ((dg b k:Nat) : Int)) + IntKind.u64.wrap ((dg o1 (i + k) : Nat) : Int))) = ((cc + dg a i * dg b k + dg o1 (i + k) : Nat) : Int) := by
         rw [wu64 (n := ((dg a i:Nat) : Int)) (by omega) (by omega), wu64 (n := ((dg b k:Nat) : Int)) (by omega) (by omega), wu64 (n := ((dg o1 (i + k) : Nat) : Int)) (by omega) (by omega), e0]
         generalize dg a i * dg b k = q at *
         rw [wu64 (n := (q:Int)) (by omega) (by omega), wu64 (n := (q:Int) + _) (by omega) (by omega), wu64 (by omega) (by omega)]; omega
       have hk1 : IntKind.i64.wrap ((k:Int) + 1) = ((k + 1:Nat) : Int) := by rw [w64 (by omega) (by omega)]; simp
       rw [e, hik, sh32, wu32, hk1]
       refine ⟨⟨o1.set (i + k) ((cc + dg a i * dg b k + dg o1 (i + k)) % 4294967296), k + 1, (cc + dg a i * dg b k + dg o1 (i + k)) / 4294967296, ?_, rfl, by omega, by simp [hol1], set_lt hod1 (Nat.mod_lt _ (by decide)), by omega, g2, fun j hj => ?_, ?_⟩, by show ((b.length:Int) - ((k + 1:Nat) : Int)).toNat < ((b.length:Int) - (k:Int)).toNat; omega⟩
       · rw [Int.toNat_natCast, ← lim_set]; congr 2
       · rw [dg_set_ne (by omega)]; exact hz1 j hj
       · have hset := val_set (o := o1) (j := i + k) ((cc + dg a i * dg b k + dg o1 (i + k)) % 4294967296) (by omega)
         rw [show i + (k + 1) = i + k + 1 by omega, Nat.pow_succ (m := i + k), low_succ b]
         have hp : 4294967296 ^ (i + k) * (dg a i * dg b k) = 4294967296 ^ i * dg a i * (4294967296 ^ k * dg b k) := by
           rw [Nat.pow_add]; simp only [Nat.mul_assoc, Nat.mul_left_comm]
         exact mul_step hset rfl hinv1 hp
   · have hk : k = b.length := by have : b.length ≤ k := by simpa using hd
                                  omega
     subst hk
     have hi1 : IntKind.i64.wrap ((i:Int) + 1) = ((i + 1:Nat) : Int) := by rw [w64 (by omega) (by omega)]; simp
     rw [hik, hi1]
     have hcc' : IntKind.u32.wrap (cc:Int) = (cc:Int) := by rw [wu32]; omega
     rw [hcc']
     refine ⟨by rw [lim_length]; omega, ⟨o1.set (i + b.length) cc, i + 1, by rw [Int.toNat_natCast, lim_set], rfl, by simp [hol1], set_lt hod1 hcc, by omega, fun j hj => by rw [dg_set_ne (by omega)]; exact hz1 j (by omega), ?_⟩, by show ((a.length:Int) - ((i + 1:Nat) : Int)).toNat < ((a.length:Int) - (i:Int)).toNat; omega⟩
     have hset := val_set (o := o1) (j := i + b.length) cc (by omega)
     rw [hz1 (i + b.length) (Nat.le_refl _), Nat.mul_zero, Nat.add_zero] at hset
     rw [hset, hinv1, low_succ, low_all (Nat.le_refl _), Nat.add_mul]
 · have hi : i = a.length := by have : a.length ≤ i := by simpa using hc
                                omega
   subst hi
   rw [low_all (Nat.le_refl _)] at hinv
   refine ⟨decide (x * y < 0), lim (dz (x * y)), norm_z hod (by omega) ?_, oute rfl⟩
   rw [hinv, va, vb', Int.natCast_mul]
   by_cases h1 : x < 0 <;> by_cases h2 : y < 0
   · rw [if_neg (by simp [h1, h2]), show ((x.natAbs:Nat) : Int) = -x by omega, show ((y.natAbs:Nat) : Int) = -y by omega, Int.neg_mul_neg]
   · rw [if_pos (by simp [h1, h2]), show ((x.natAbs:Nat) : Int) = -x by omega, show ((y.natAbs:Nat) : Int) = y by omega, Int.neg_mul, Int.neg_neg]
   · rw [if_pos (by simp [h1, h2]), show ((x.natAbs:Nat) : Int) = x by omega, show ((y.natAbs:Nat) : Int) = -y by omega, Int.mul_neg, Int.neg_neg]
   · rw [if_neg (by simp [h1, h2]), show ((x.natAbs:Nat) : Int) = x by omega, show ((y.natAbs:Nat) : Int) = y by omega]
end Go.AM
/- What the functions of package integer, and of its reference, answer: the reference's products, differences. -/
namespace Go.AM
open Go.Proofs.Try
theorem rmul_ok {x y : Int} (hx : Sz x) (hy : Sz y) : FnD prog 110 [eI x, eI y] (eI (x * y)) [] := by
 refine vc110_ok _ _ _ _ (R := Out _) ?_
 unfold vc110
 obtain ⟨a, hae⟩ : ∃ a, a = digs x.natAbs := ⟨_, rfl⟩
 obtain ⟨b, hbe⟩ : ∃ b, b = digs y.natAbs := ⟨_, rfl⟩
 have ha : ∀ z ∈ a, z < 4294967296 := hae ▸ digs_lt x.natAbs
 have hb : ∀ z ∈ b, z < 4294967296 := hbe ▸ digs_lt y.natAbs
 have va : val a = x.natAbs := hae ▸ val_digs _
 have vb' : val b = y.natAbs := hbe ▸ val_digs _
 have hla : a.length ≤ 1073741824 := hae ▸ hx
 have hlb : b.length ≤ 1073741824 := hbe ▸ hy
 rw [← hae, ← hbe]
 simp only [lim_length]
 have hw0 : IntKind.i64.wrap ((a.length:Int) + (b.length:Int)) = ((a.length + b.length:Nat) : Int) := by rw [w64 (by omega) (by omega)]; simp
 have hw : IntKind.i64.wrap (((a.length + b.length:Nat) : Int) + 1) = ((a.length + b.length + 1:Nat) : Int) := by rw [w64 (by omega) (by omega)]; simp
 rw [hw0, hw]
 refine ⟨⟨by omega, by omega, by omega⟩, fun out t => ∃ (o : List Nat) (i:Nat), out = lim o ∧ t = (i:Int) ∧ o.length = a.length + b.length + 1 ∧ (∀ z ∈ o, z < 4294967296) ∧ i ≤ a.length ∧ (∀ j, i + b.length ≤ j → dg o j = 0) ∧ val o = low a i * val b,
   fun _ t => ((a.length:Int) - t).toNat, ⟨List.replicate (a.length + b.length + 1) 0, 0, by rw [Int.toNat_natCast, lim_rep], rfl, by simp, fun z hz => by rw [List.eq_of_mem_replicate hz]; decide, by omega, fun j _ => dg_rep0 _ j, by simp [low_zero, val_rep0]⟩, ?_⟩
 rintro _ _ ⟨o, i, rfl, rfl, hol, hod, hia, hzero, hinv⟩
 refine ⟨fun hc => ?_, fun hc => ?_⟩
 · have hi : i < a.length := by simpa using hc
   have hxl := dg_lt ha i
   refine ⟨fun out c t => ∃ (o1 : List Nat) (k cc:Nat), out = lim o1 ∧ t = (k:Int) ∧ c = (cc:Int) ∧ o1.length = a.length + b.length + 1 ∧ (∀ z ∈ o1, z < 4294967296) ∧ k ≤ b.length + 1 ∧ cc < 4294967296 ∧ (k = b.length + 1 → cc = 0) ∧ (∀ j, i + b.length + 1 ≤ j → dg o1 j = 0) ∧ (k ≤ b.length → dg o1 (i + b.length) = 0) ∧
       val o1 + 4294967296 ^ (i + k) * cc = low a i * val b + 4294967296 ^ i * dg a i * low b k,
     fun _ _ t => ((b.length:Int) + 2 - t).toNat, ⟨o, 0, 0, rfl, rfl, rfl, hol, hod, by omega, by omega, fun h => by omega, fun j hj => hzero j (by omega), fun _ => hzero _ (by omega), by simp [low_zero, hinv]⟩, ?_⟩
   rintro _ _ _ ⟨o1, k, cc, rfl, rfl, rfl, hol1, hod1, hkb, hcc, hlast, hz1, hz2, hinv1⟩
   have hik : IntKind.i64.wrap ((i:Int) + (k:Int)) = ((i + k:Nat) : Int) := by rw [w64 (by omega) (by omega)]; simp
   have hk1 : IntKind.i64.wrap ((k:Int) + 1) = ((k + 1:Nat) : Int) := by rw [w64 (by omega) (by omega)]; simp
   have hi1 : IntKind.i64.wrap ((i:Int) + 1) = ((i + 1:Nat) : Int) := by rw [w64 (by omega) (by omega)]; simp
   rw [hik, hk1, hi1]
   have step : k ≤ b.length → ∀ s : Nat, s = cc + dg a i * dg b k + dg o1 (i + k) → s / 4294967296 < 4294967296 → (k = b.length → s / 4294967296 = 0) →
       (∃ (o2 : List Nat) (k2 c2:Nat), (lim o1).set ((i + k:Nat) : Int).toNat [D.int .u32 ((s % 4294967296:Nat) : Int)] = lim o2 ∧ ((k + 1:Nat) : Int) = (k2:Int) ∧ ((s / 4294967296:Nat) : Int) = (c2:Int) ∧ o2.length = a.length + b.length + 1 ∧ (∀ z ∈ o2, z < 4294967296) ∧ k2 ≤ b.length + 1 ∧ c2 < 4294967296 ∧ (k2 = b.length + 1 → c2 = 0) ∧
         (∀ j, i + b.length + 1 ≤ j → dg o2 j = 0) ∧ (k2 ≤ b.length → dg o2 (i + b.length) = 0) ∧ val o2 + 4294967296 ^ (i + k2) * c2 = low a i * val b + 4294967296 ^ i * dg a i * low b k2) ∧
       ((b.length:Int) + 2 - ((k + 1:Nat) : Int)).toNat < ((b.length:Int) + 2 - (k:Int)).toNat := fun hkl s hs hsb hsl => by
     refine ⟨⟨o1.set (i + k) (s % 4294967296), k + 1, s / 4294967296, by rw [Int.toNat_natCast, lim_set], rfl, rfl, by simp [hol1], set_lt hod1 (Nat.mod_lt _ (by decide)), by omega, hsb, fun h => hsl (by omega), fun j hj => by rw [dg_set_ne (by omega)]; exact hz1 j hj, fun h => by rw [dg_set_ne (by omega)]; exact hz2 hkl, ?_⟩, by omega⟩
     have hset := val_set (o := o1) (j := i + k) (s % 4294967296) (by omega)
     rw [show i + (k + 1) = i + k + 1 by omega, Nat.pow_succ (m := i + k), low_succ b]
     have hp : 4294967296 ^ (i + k) * (dg a i * dg b k) = 4294967296 ^ i * dg a i * (4294967296 ^ k * dg b k) := by
       rw [Nat.pow_add]; simp only [Nat.mul_assoc, Nat.mul_left_comm]
     exact mul_step hset hs hinv1 hp
   refine ⟨fun hd => ?_, fun hd => ⟨fun he => ?_, fun he => ?_⟩⟩
   · have hk : k < b.length := by simpa using hd
     have hyl := dg_lt hb k
     have hdl := dg_lt hod1 (i + k)
     obtain ⟨g1, g2, g3⟩ := dig_bound hxl hyl hdl hcc
     refine ⟨(dg o1 (i + k) : Nat), ?_, ?_, (dg a i:Nat), (dg b k:Nat), ⟨by omega, by omega⟩, by simpa using lim_getI (l := a) (i := (i:Int)) (by omega) (by omega), ⟨by omega, by omega⟩, by simpa using lim_getI (l := b) (i := (k:Int)) (by omega) (by omega), by decide, ?_⟩
     · rw [lim_length]; omega
     · have := lim_getI (l := o1) (i := ((i + k:Nat) : Int)) (by omega) (by omega)
       rw [Int.toNat_natCast] at *; exact this
     · have e0 : ((dg a i:Nat) : Int) * ((dg b k:Nat) : Int) = ((dg a i * dg b k:Nat) : Int) := by simp
       obtain ⟨s, hs⟩ : ∃ s, s = cc + dg a i * dg b k + dg o1 (i + k) := ⟨_, rfl⟩
       rw [← hs] at g2 g3
       have e : IntKind.u64.wrap (IntKind.u64.wrap ((cc:Int) + IntKind.u64.wrap ((dg o1 (i + k) : Nat) : Int)) + IntKind.u64.wrap (IntKind.u64.wrap ((dg a i:Nat) : Int) * IntKind.u64.wrap ((dg b k:Nat) : Int))) = (s:Int) := by
         rw [wu64 (n := ((dg a i:Nat) : Int)) (by omega) (by omega), wu64 (n := ((dg b k:Nat) : Int)) (by omega) (by omega), wu64 (n := ((dg o1 (i + k) : Nat) : Int)) (by omega) (by omega), e0]
         generalize dg a i * dg b k = q at *
         rw [wu64 (n := (cc:Int) + _) (by omega) (by omega), wu64 (n := (q:Int)) (by omega) (by omega), wu64 (by omega) (by omega)]; omega
       have e2 : IntKind.u64.wrap ((s:Int).tdiv 4294967296) = ((s / 4294967296:Nat) : Int) := by rw [td32 (by omega), wu64 (by omega) (by omega)]; omega
       have e3 : IntKind.u32.wrap (s:Int) = ((s % 4294967296:Nat) : Int) := by rw [wu32]; omega
       rw [e, e2, e3]
       exact step (by omega) s hs g2 (fun h => by omega)
   · have hk : b.length ≤ k := by simpa using hd
     have hc0 : 0 < cc := by simpa using he
     have hkeq : k = b.length := by
       rcases Nat.lt_or_ge b.length k with h | h
       · have := hlast (by omega); omega
       · omega
     have hd0 : dg o1 (i + k) = 0 := by rw [hkeq]; exact hz2 (by omega)
     refine ⟨0, ?_, ?_, by decide, ?_⟩
     · rw [lim_length]; omega
     · have := lim_getI (l := o1) (i := ((i + k:Nat) : Int)) (by omega) (by omega)
       rw [Int.toNat_natCast] at *; rw [hd0] at this; exact this
     · have e : IntKind.u64.wrap ((cc:Int) + IntKind.u64.wrap 0) = (cc:Int) := by
         rw [wu64 (n := 0) (by omega) (by omega), wu64 (by omega) (by omega)]; omega
       have e2 : IntKind.u64.wrap ((cc:Int).tdiv 4294967296) = ((cc / 4294967296:Nat) : Int) := by rw [td32 (by omega), wu64 (by omega) (by omega)]; omega
       have e3 : IntKind.u32.wrap (cc:Int) = ((cc % 4294967296:Nat) : Int) := by rw [wu32]; omega
       rw [e, e2, e3]
       exact step (by omega) cc (by rw [hd0, dg_out hk]; simp) (by omega) (fun _ => by omega)
   · have hk : b.length ≤ k := by simpa using hd
     have hc0 : cc = 0 := by have : ¬ (cc : Int) > 0 := by simpa using he
                             omega
     subst hc0
     refine ⟨⟨o1, i + 1, rfl, rfl, hol1, hod1, by omega, fun j hj => hz1 j (by omega), ?_⟩, by show ((a.length:Int) - ((i + 1:Nat) : Int)).toNat < ((a.length:Int) - (i:Int)).toNat; omega⟩
     rw [Nat.mul_zero, Nat.add_zero, low_all hk] at hinv1
     rw [hinv1, low_succ, Nat.add_mul]
 · have hi : i = a.length := by have : a.length ≤ i := by simpa using hc
                                omega
   subst hi
   rw [low_all (Nat.le_refl _)] at hinv
   refine ⟨decide (x * y < 0), lim (dz (x * y)), made_z hod (by omega) ?_, oute rfl⟩
   rw [hinv, va, vb', Int.natCast_mul]
   by_cases h1 : x < 0 <;> by_cases h2 : y < 0
   · rw [if_neg (by simp [h1, h2]), show ((x.natAbs:Nat) : Int) = -x by omega, show ((y.natAbs:Nat) : Int) = -y by omega, Int.neg_mul_neg]
   · rw [if_pos (by simp [h1, h2]), show ((x.natAbs:Nat) : Int) = -x by omega, show ((y.natAbs:Nat) : Int) = y by omega, Int.neg_mul, Int.neg_neg]
   · rw [if_pos (by simp [h1, h2]), show ((x.natAbs:Nat) : Int) = x by omega, show ((y.natAbs:Nat) : Int) = -y by omega, Int.mul_neg, Int.neg_neg]
   · rw [if_neg (by simp [h1, h2]), show ((x.natAbs:Nat) : Int) = x by omega, show ((y.natAbs:Nat) : Int) = y by omega]
theorem rvalid_ok (z:Int) (hz : Sz z) : FnD prog 127 [eI z] (vb true) [] := by
 refine vc127_ok _ _ (R := Out _) ?_
 unfold vc127
 simp only [lim_length]
 unfold Sz at hz
 refine ⟨fun h => outb ?_, fun h => ?_⟩
 · have h0 : (dz z).length = 0 := by have : ((dz z).length : Int) = 0 := by simpa using h
                                     omega
   have : z = 0 := by have := digs_nil.1 (List.length_eq_zero_iff.1 h0); omega
   subst this; rfl
 · have h0 : 0 < (dz z).length := by
     have : ¬ ((dz z).length:Int) = 0 := by simpa using h
     omega
   have hw : IntKind.i64.wrap (((dz z).length:Int) - 1) = (((dz z).length - 1:Nat) : Int) := by
     simp only [dz] at *
     rw [w64 (by omega) (by omega)]; omega
   rw [hw]
   refine ⟨(dg (dz z) ((dz z).length - 1) : Nat), ⟨by omega, by simp only [dz] at h0 ⊢; omega⟩, ?_, outb ?_⟩
   · have := lim_getI (l := dz z) (i := (((dz z).length - 1:Nat) : Int)) (by omega) (by simp only [dz] at h0 ⊢; omega)
     rw [Int.toNat_natCast] at *; exact this
   · have hc := digs_canon z.natAbs (dg (dz z) ((dz z).length - 1)) (by
       rw [List.getLast?_eq_getElem?, List.getElem?_eq_getElem (by simp only [dz] at h0; omega), dg_get (by simp only [dz] at h0; omega)])
     simp; exact hc
end Go.AM
/- What functions of the program come to: group Oe. Printed by vc.py. -/
set_option maxRecDepth 100000
set_option linter.unusedVariables false
namespace Go.AM
open Go.Proofs.Try
def vc124 (a0:Bool) (a1 : DL) (b0:Bool) (b1 : DL) (R:V → Heap → Prop) : Prop :=
 ∃ (r0:Bool) (r1 : DL) (r01:Bool) (r11 : DL),
 (FnD prog 71 [vD (dL a1),vD (dB a0)] (vA [sD (dB r0),sD (dL r1)]) []) ∧
 (FnD prog 71 [vD (dL b1),vD (dB b0)] (vA [sD (dB r01),sD (dL r11)]) []) ∧
 (∃ (r:Int),
 (FnD prog 92 [vA [sD (dB r01),sD (dL r11)]] (vD (dI r)) []) ∧
 (((r == (0:Int)) = true →
 R (V.tup [E.agg [sD (dB false),sD (dL ([] : DL))],E.agg [sD (dB false),sD (dL ([] : DL))],eD (dI (3:Int))]) []) ∧
 ((r == (0:Int)) = false →
 ∃ (r02:Bool) (r12 : DL) (r03:Bool) (r13 : DL),
 (FnD prog 152 [vD (dL r1),vD (dL r11)] (V.tup [E.agg [sD (dB r02),sD (dL r12)],E.agg [sD (dB r03),sD (dL r13)]]) []) ∧
 ((r0 = true →
 ∃ (r2:Int),
 (FnD prog 92 [vA [sD (dB r03),sD (dL r13)]] (vD (dI r2)) []) ∧
 ((decide (r2 > (0:Int)) = true →
 ∃ (r04:Bool) (r14 : DL) (r05:Bool) (r15 : DL),
 (FnD prog 16 [vD (dI (1:Int))] (vA [sD (dB r04),sD (dL r14)]) []) ∧
 (FnD prog 82 [vA [sD (dB r02),sD (dL r12)],vA [sD (dB r04),sD (dL r14)]] (vA [sD (dB r05),sD (dL r15)]) []) ∧
 (∃ (r06:Bool) (r16 : DL) (r07:Bool) (r17 : DL),
 (FnD prog 71 [vD (dL r11),vD (dB false)] (vA [sD (dB r06),sD (dL r16)]) []) ∧
 (FnD prog 151 [vA [sD (dB r06),sD (dL r16)],vA [sD (dB r03),sD (dL r13)]] (vA [sD (dB r07),sD (dL r17)]) []) ∧
 (((!(r0 == r01)) = true →
 ∃ (r08:Bool) (r18 : DL),
 (FnD prog 104 [vA [sD (dB r05),sD (dL r15)]] (vA [sD (dB r08),sD (dL r18)]) []) ∧
 (R (V.tup [E.agg [sD (dB r08),sD (dL r18)],E.agg [sD (dB r07),sD (dL r17)],eD (dI (0:Int))]) [])) ∧
 ((!(r0 == r01)) = false →
 R (V.tup [E.agg [sD (dB r05),sD (dL r15)],E.agg [sD (dB r07),sD (dL r17)],eD (dI (0:Int))]) [])))) ∧
 (decide (r2 > (0:Int)) = false →
 ((!(r0 == r01)) = true →
 ∃ (r09:Bool) (r19 : DL),
 (FnD prog 104 [vA [sD (dB r02),sD (dL r12)]] (vA [sD (dB r09),sD (dL r19)]) []) ∧
 (R (V.tup [E.agg [sD (dB r09),sD (dL r19)],E.agg [sD (dB r03),sD (dL r13)],eD (dI (0:Int))]) [])) ∧
 ((!(r0 == r01)) = false →
 R (V.tup [E.agg [sD (dB r02),sD (dL r12)],E.agg [sD (dB r03),sD (dL r13)],eD (dI (0:Int))]) [])))) ∧
 (r0 = false →
 ((!(r0 == r01)) = true →
 ∃ (r010:Bool) (r110 : DL),
 (FnD prog 104 [vA [sD (dB r02),sD (dL r12)]] (vA [sD (dB r010),sD (dL r110)]) []) ∧
 (R (V.tup [E.agg [sD (dB r010),sD (dL r110)],E.agg [sD (dB r03),sD (dL r13)],eD (dI (0:Int))]) [])) ∧
 ((!(r0 == r01)) = false →
 R (V.tup [E.agg [sD (dB r02),sD (dL r12)],E.agg [sD (dB r03),sD (dL r13)],eD (dI (0:Int))]) []))))))
theorem vc124_ok (a0:Bool) (a1 : DL) (b0:Bool) (b1 : DL) {R:V → Heap → Prop} (h : vc124 a0 a1 b0 b1 R) : FnG prog 124 [vA [sD (dB a0),sD (dL a1)],vA [sD (dB b0),sD (dL b1)]] [] R :=
 FnG.vcg hT func124 ntmps124 (.reg 4 [(0,Or.none,0,1),(1,Or.none,1,1),(2,Or.none,2,1),(3,Or.none,3,1)] [2,3,4,5] [0,1,2,3] [] <| .exb fun r0 => .exl fun r1 => .exb fun r01 => .exl fun r11 => .drw 0 [(4,(Or.call (vA [sD (dB r0),sD (dL r1)]) [] [],0,0),[]),(9,(Or.call (vA [sD (dB r01),sD (dL r11)]) [] [],0,0),[]),(10,(Or.none,0,0),[0]),(11,(Or.none,0,0),[1])] [2,3,4,5] [0,1,2,3] [] <| .ex fun r => .reg 0 [(1,Or.call (vD (dI r)) [] [],0,0)] [2,3,4,5,21] [0,1,2,3] [] <| .c2 (.r1 [4,5,6] [2,3] <| .nrm [4,5,6] [0,1] <| .ret []) (.exb fun r02 => .exl fun r12 => .exb fun r03 => .exl fun r13 => .reg 2 [(4,Or.call (V.tup [E.agg [sD (dB r02),sD (dL r12)],E.agg [sD (dB r03),sD (dL r13)]]) [] [],0,0),(8,Or.none,4,1),(9,Or.none,5,1)] [2,3,4,5,7,8] [0,1,2,3,4,5] [] <| .spl r0 (.ex fun r2 => .reg 0 [(2,Or.bool true,0,0),(4,Or.call (vD (dI r2)) [] [],0,0)] [2,3,4,5,7,8,38] [0,1,2,3,4,5] [.old 0] <| .c2 (.exb fun r04 => .exl fun r14 => .exb fun r05 => .exl fun r15 => .drw 0 [(1,(Or.call (vA [sD (dB r04),sD (dL r14)]) [] [],0,0),[]),(2,(Or.call (vA [sD (dB r05),sD (dL r15)]) [] [],0,0),[]),(3,(Or.none,0,0),[4])] [2,3,4,5,7,8] [0,1,2,3,4,5] [] <| .exb fun r06 => .exl fun r16 => .exb fun r07 => .exl fun r17 => .drw 0 [(2,(Or.call (vA [sD (dB r06),sD (dL r16)]) [] [],0,0),[]),(4,(Or.call (vA [sD (dB r07),sD (dL r17)]) [] [],0,0),[]),(5,(Or.none,0,0),[5])] [2,3,4,5,7,8] [0,1,2,3,4,5] [] <| .r1 [4,5,7,8,51] [2,3,4,5] <| .c2 (.exb fun r08 => .exl fun r18 => .reg 0 [(1,Or.call (vA [sD (dB r08),sD (dL r18)]) [] [],0,0)] [4,5,7,8] [0,1,2,3] [] <| .drw 0 [(2,(Or.none,0,0),[0]),(3,(Or.none,0,0),[1])] [4,5,6] [0,1] [] <| .ret []) (.drw 0 [(2,(Or.none,0,0),[0]),(3,(Or.none,0,0),[1])] [4,5,6] [0,1] [] <| .ret [])) (.r1 [4,5,7,8,51] [2,3,4,5] <| .c2 (.exb fun r09 => .exl fun r19 => .reg 0 [(1,Or.call (vA [sD (dB r09),sD (dL r19)]) [] [],0,0)] [4,5,7,8] [0,1,2,3] [] <| .drw 0 [(2,(Or.none,0,0),[0]),(3,(Or.none,0,0),[1])] [4,5,6] [0,1] [] <| .ret []) (.drw 0 [(2,(Or.none,0,0),[0]),(3,(Or.none,0,0),[1])] [4,5,6] [0,1] [] <| .ret []))) (.reg 0 [(2,Or.bool false,0,0)] [2,3,4,5,7,8,38] [0,1,2,3,4,5] [.old 0] <| .ct false none <| .r1 [4,5,7,8,51] [2,3,4,5] <| .c2 (.exb fun r010 => .exl fun r110 => .reg 0 [(1,Or.call (vA [sD (dB r010),sD (dL r110)]) [] [],0,0)] [4,5,7,8] [0,1,2,3] [] <| .drw 0 [(2,(Or.none,0,0),[0]),(3,(Or.none,0,0),[1])] [4,5,6] [0,1] [] <| .ret []) (.drw 0 [(2,(Or.none,0,0),[0]),(3,(Or.none,0,0),[1])] [4,5,6] [0,1] [] <| .ret []))))
   (by kernel_rfl) (by kernel_rfl) (by kernel_rfl) h
def vc125 (a0:Bool) (a1 : DL) (b0:Bool) (b1 : DL) (R:V → Heap → Prop) : Prop :=
 ∃ (r0:Bool) (r1 : DL) (r01:Bool) (r11 : DL) (r:Int),
 (FnD prog 124 [vA [sD (dB a0),sD (dL a1)],vA [sD (dB b0),sD (dL b1)]] (V.tup [E.agg [sD (dB r0),sD (dL r1)],E.agg [sD (dB r01),sD (dL r11)],eD (dI r)]) []) ∧
 (R (vA [sD (dB r0),sD (dL r1)]) [])
theorem vc125_ok (a0:Bool) (a1 : DL) (b0:Bool) (b1 : DL) {R:V → Heap → Prop} (h : vc125 a0 a1 b0 b1 R) : FnG prog 125 [vA [sD (dB a0),sD (dL a1)],vA [sD (dB b0),sD (dL b1)]] [] R :=
 FnG.vcg hT func125 ntmps125 (.reg 3 [(0,Or.none,0,1),(1,Or.none,1,1),(2,Or.none,2,1)] [2,3,4] [0,1,2] [] <| .exb fun r0 => .exl fun r1 => .exb fun r01 => .exl fun r11 => .ex fun r => .reg 2 [(2,Or.call (V.tup [E.agg [sD (dB r0),sD (dL r1)],E.agg [sD (dB r01),sD (dL r11)],eD (dI r)]) [] [],0,0),(7,Or.none,3,1),(8,Or.none,4,1)] [4,5] [2,3] [] <| .r1 [4] [0] <| .ret [])
   (by kernel_rfl) (by kernel_rfl) (by kernel_rfl) h
def vc151 (a0:Bool) (a1 : DL) (b0:Bool) (b1 : DL) (R:V → Heap → Prop) : Prop :=
 ∃ (r0:Bool) (r1 : DL) (r01:Bool) (r11 : DL),
 (FnD prog 104 [vA [sD (dB b0),sD (dL b1)]] (vA [sD (dB r0),sD (dL r1)]) []) ∧
 (FnD prog 82 [vA [sD (dB a0),sD (dL a1)],vA [sD (dB r0),sD (dL r1)]] (vA [sD (dB r01),sD (dL r11)]) []) ∧
 (R (vA [sD (dB r01),sD (dL r11)]) [])
theorem vc151_ok (a0:Bool) (a1 : DL) (b0:Bool) (b1 : DL) {R:V → Heap → Prop} (h : vc151 a0 a1 b0 b1 R) : FnG prog 151 [vA [sD (dB a0),sD (dL a1)],vA [sD (dB b0),sD (dL b1)]] [] R :=
 FnG.vcg hT func151 ntmps151 (.reg 3 [(0,Or.none,0,1),(1,Or.none,1,1),(2,Or.none,2,1)] [2,3,4] [0,1,2] [] <| .exb fun r0 => .exl fun r1 => .exb fun r01 => .exl fun r11 => .drw 0 [(2,(Or.call (vA [sD (dB r0),sD (dL r1)]) [] [],0,0),[]),(3,(Or.call (vA [sD (dB r01),sD (dL r11)]) [] [],0,0),[]),(4,(Or.none,0,0),[2])] [4] [2] [] <| .ret [])
   (by kernel_rfl) (by kernel_rfl) (by kernel_rfl) h
def vc152 (a b : DL) (R:V → Heap → Prop) : Prop :=
 (((b.length:Int) == (1:Int)) = true →
 ∃ (vx:Int) (r : DL) (r1:Int),
 (0 ≤ (0:Int) ∧ (0:Int) < (b.length:Int)) ∧
 (b[0]? = some [dU vx]) ∧
 (FnD prog 161 [vD (dL a),vD (dU vx)] (V.tup [eD (dL r),eD (dU r1)]) []) ∧
 (∃ (r0:Bool) (r11 : DL) (r01:Bool) (r12 : DL),
 (FnD prog 71 [vD (dL r),vD (dB false)] (vA [sD (dB r0),sD (dL r11)]) []) ∧
 (FnD prog 71 [vD (dL [[dU r1]]),vD (dB false)] (vA [sD (dB r01),sD (dL r12)]) []) ∧
 (R (V.tup [E.agg [sD (dB r0),sD (dL r11)],E.agg [sD (dB r01),sD (dL r12)]]) []))) ∧
 (((b.length:Int) == (1:Int)) = false →
 ∃ (J0:Int → Prop) (μ0:Int → Nat),
 J0 (1:Int) ∧ ∀ (scale:Int),J0 scale →
 ∃ (vx1:Int),
 (0 ≤ (IntKind.i64.wrap ((b.length:Int) - (1:Int))) ∧ (IntKind.i64.wrap ((b.length:Int) - (1:Int))) < (b.length:Int)) ∧
 (b[((IntKind.i64.wrap ((b.length:Int) - (1:Int)))).toNat]? = some [dU vx1]) ∧
 (((decide ((IntKind.u64.wrap ((IntKind.u64.wrap vx1) * (IntKind.u64.wrap scale))) < (2147483648:Int))) = true →
 J0 (IntKind.u32.wrap ((2:Int) * scale)) ∧ μ0 (IntKind.u32.wrap ((2:Int) * scale)) < μ0 scale) ∧
 ((decide ((IntKind.u64.wrap ((IntKind.u64.wrap vx1) * (IntKind.u64.wrap scale))) < (2147483648:Int))) = false →
 ∃ (r02:Bool) (r13 : DL),
 (FnD prog 71 [vD (dL [[dU scale]]),vD (dB false)] (vA [sD (dB r02),sD (dL r13)]) []) ∧
 (∃ (r03:Bool) (r14 : DL) (r04:Bool) (r15 : DL) (r05:Bool) (r16 : DL) (r06:Bool) (r17 : DL),
 (FnD prog 71 [vD (dL a),vD (dB false)] (vA [sD (dB r03),sD (dL r14)]) []) ∧
 (FnD prog 110 [vA [sD (dB r03),sD (dL r14)],vA [sD (dB r02),sD (dL r13)]] (vA [sD (dB r04),sD (dL r15)]) []) ∧
 (FnD prog 71 [vD (dL b),vD (dB false)] (vA [sD (dB r05),sD (dL r16)]) []) ∧
 (FnD prog 110 [vA [sD (dB r05),sD (dL r16)],vA [sD (dB r02),sD (dL r13)]] (vA [sD (dB r06),sD (dL r17)]) []) ∧
 (∃ (J1:Bool → (DL) → Bool → (DL) → Prop) (μ1:Bool → (DL) → Bool → (DL) → Nat),
 J1 r04 r15 false ([] : DL) ∧ ∀ (r07:Bool) (r18 : DL) (q0:Bool) (q1 : DL),J1 r07 r18 q0 q1 →
 ∃ (r2:Bool),
 (FnD prog 88 [vD (dL r18),vD (dL r17)] (vD (dB r2)) []) ∧
 (((!r2) = true →
 ∃ (r08:Bool) (r19 : DL),
 (FnD prog 162 [vD (dL r18),vD (dL r17)] (vA [sD (dB r08),sD (dL r19)]) []) ∧
 (∃ (r09:Bool) (r110 : DL),
 (FnD prog 82 [vA [sD (dB q0),sD (dL q1)],vA [sD (dB r08),sD (dL r19)]] (vA [sD (dB r09),sD (dL r110)]) []) ∧
 (∃ (r010:Bool) (r111 : DL) (r011:Bool) (r112 : DL),
 (FnD prog 110 [vA [sD (dB r08),sD (dL r19)],vA [sD (dB r06),sD (dL r17)]] (vA [sD (dB r010),sD (dL r111)]) []) ∧
 (FnD prog 151 [vA [sD (dB r07),sD (dL r18)],vA [sD (dB r010),sD (dL r111)]] (vA [sD (dB r011),sD (dL r112)]) []) ∧
 (J1 r011 r112 r09 r110 ∧ μ1 r011 r112 r09 r110 < μ1 r07 r18 q0 q1)))) ∧
 ((!r2) = false →
 ∃ (r3 : DL) (r4:Int),
 (FnD prog 161 [vD (dL r18),vD (dU scale)] (V.tup [eD (dL r3),eD (dU r4)]) []) ∧
 (∃ (r012:Bool) (r113 : DL),
 (FnD prog 71 [vD (dL r3),vD (dB false)] (vA [sD (dB r012),sD (dL r113)]) []) ∧
 (R (V.tup [E.agg [sD (dB q0),sD (dL q1)],E.agg [sD (dB r012),sD (dL r113)]]) [])))))))))
theorem vc152_ok (a b : DL) {R:V → Heap → Prop} (h : vc152 a b R) : FnG prog 152 [vD (dL a),vD (dL b)] [] R :=
 FnG.vcg hT func152 ntmps152 (.reg 2 [(0,Or.none,0,1),(1,Or.none,1,1)] [0,1,4,5] [0,1] [] <| .r1 [0,1,4,5,18] [0,1] <| .c2 (.ex fun vx => .exl fun r => .ex fun r1 => .reg 0 [(3,Or.cells [dU vx],0,0),(4,Or.call (V.tup [eD (dL r),eD (dU r1)]) [] [],0,0)] [4,5,6,7] [0,1] [] <| .exb fun r0 => .exl fun r11 => .exb fun r01 => .exl fun r12 => .reg 1 [(1,Or.call (vA [sD (dB r0),sD (dL r11)]) [] [],0,0),(3,Or.frz,2,1),(4,Or.call (vA [sD (dB r01),sD (dL r12)]) [] [],0,0)] [4,5] [0,1] [] <| .ret []) (.r1 [0,1,4,5,8] [0,1] <| .lp [.i] (fun scale => ⟨[(0,vD (dL a)),(1,vD (dL b)),(4,vP 0 0),(5,vP 1 0),(8,vD (dU scale))],[some (Obj.box [sD (dB false),sD (D.raw (.slice none 0 0))]),some (Obj.box [sD (dB false),sD (D.raw (.slice none 0 0))])],86⟩) [.i (1:Int)] <| .fi fun scale => .beg <| .ex fun vx1 => .reg 0 [(5,Or.cells [dU vx1],0,0)] [0,1,4,5,8,42] [0,1] [] <| .c2 (.r1 [0,1,4,5,8] [0,1] <| .bk 0 [.i (IntKind.u32.wrap ((2:Int) * scale))]) (.exb fun r02 => .exl fun r13 => .reg 2 [(1,Or.frz,2,1),(2,Or.call (vA [sD (dB r02),sD (dL r13)]) [] [],0,0),(3,Or.none,3,1)] [0,1,4,5,8,9] [0,1,3] [] <| .exb fun r03 => .exl fun r14 => .exb fun r04 => .exl fun r15 => .exb fun r05 => .exl fun r16 => .exb fun r06 => .exl fun r17 => .drw 3 [(1,(Or.call (vA [sD (dB r03),sD (dL r14)]) [] [],0,0),[]),(3,(Or.call (vA [sD (dB r04),sD (dL r15)]) [] [],0,0),[]),(5,(Or.call (vA [sD (dB r05),sD (dL r16)]) [] [],0,0),[]),(7,(Or.call (vA [sD (dB r06),sD (dL r17)]) [] [],0,0),[]),(9,(Or.none,3,1),[3]),(10,(Or.none,4,1),[4]),(11,(Or.none,5,1),[5]),(12,(Or.none,0,0),[3]),(13,(Or.none,0,0),[4]),(14,(Or.none,0,0),[5])] [4,5,8,10,11,12] [0,1,3,4,5] [] <| .nrm [] [4] <| .lp [.b,.l,.b,.l] (fun r07 r18 q0 q1 => ⟨[(4,vP 0 0),(5,vP 1 0),(8,vD (dU scale)),(10,vP 2 0),(11,vP 3 0),(12,vP 4 0)],[some (Obj.box [sD (dB false),sD (D.raw (.slice none 0 0))]),some (Obj.box [sD (dB false),sD (D.raw (.slice none 0 0))]),some (Obj.box [sD (dB r07),sD (dL r18)]),some (Obj.box [sD (dB r06),sD (dL r17)]),some (Obj.box [sD (dB q0),sD (dL q1)])],86⟩) [.b r04,.l r15,.b false,.l ([] : DL)] <| .fb fun r07 => .fl fun r18 => .fb fun q0 => .fl fun q1 => .beg <| .exb fun r2 => .reg 0 [(4,Or.call (vD (dB r2)) [] [],0,0)] [4,5,8,10,11,12,62] [0,1,2,3,4] [] <| .c2 (.exb fun r08 => .exl fun r19 => .reg 1 [(4,Or.call (vA [sD (dB r08),sD (dL r19)]) [] [],0,0),(5,Or.none,5,1)] [4,5,8,10,11,12,13] [0,1,2,3,4,5] [] <| .exb fun r09 => .exl fun r110 => .reg 0 [(2,Or.call (vA [sD (dB r09),sD (dL r110)]) [] [],0,0)] [4,5,8,10,11,12,13] [0,1,2,3,4,5] [] <| .exb fun r010 => .exl fun r111 => .exb fun r011 => .exl fun r112 => .drw 0 [(3,(Or.call (vA [sD (dB r010),sD (dL r111)]) [] [],0,0),[]),(4,(Or.call (vA [sD (dB r011),sD (dL r112)]) [] [],0,0),[]),(5,(Or.none,0,0),[2])] [4,5,8,10,11,12] [0,1,2,3,4] [] <| .bk 0 [.b r011,.l r112,.b r09,.l r110]) (.exl fun r3 => .ex fun r4 => .reg 0 [(3,Or.call (V.tup [eD (dL r3),eD (dU r4)]) [] [],0,0)] [4,5,12,14] [0,1,4] [] <| .exb fun r012 => .exl fun r113 => .drw 0 [(2,(Or.call (vA [sD (dB r012),sD (dL r113)]) [] [],0,0),[]),(3,(Or.none,0,0),[0]),(4,(Or.none,0,0),[1])] [4,5] [0,1] [] <| .ret []))))
   (by kernel_rfl) (by kernel_rfl) (by kernel_rfl) h
def vc161 (a : DL) (d:Int) (R:V → Heap → Prop) : Prop :=
 (0 ≤ (a.length:Int) ∧ (a.length:Int) ≤ (a.length:Int) ∧ (a.length:Int) * (4:Nat) ≤ 281474976710656) ∧
 (∃ (J0 : (DL) → Int → Int → Prop) (μ0 : (DL) → Int → Int → Nat),
 J0 (List.replicate ((a.length:Int)).toNat [dU (0:Int)]) (0:Int) (IntKind.i64.wrap ((a.length:Int) - (1:Int))) ∧ ∀ (out : DL) (rest i:Int),J0 out rest i →
 (decide (i ≥ (0:Int)) = true →
 ∃ (vx:Int),
 (0 ≤ i ∧ i < (a.length:Int)) ∧
 (a[(i).toNat]? = some [dU vx]) ∧
 (((IntKind.u64.wrap d) ≠ 0) ∧
 (0 ≤ i ∧ i < (out.length:Int)) ∧
 (J0 (out.set (i).toNat [dU (IntKind.u32.wrap (IntKind.u64.wrap ((IntKind.u64.wrap ((IntKind.u64.wrap (rest * (4294967296:Int))) + (IntKind.u64.wrap vx))).tdiv (IntKind.u64.wrap d))))]) ((IntKind.u64.wrap ((IntKind.u64.wrap (rest * (4294967296:Int))) + (IntKind.u64.wrap vx))).tmod (IntKind.u64.wrap d)) (IntKind.i64.wrap (i - (1:Int))) ∧ μ0 (out.set (i).toNat [dU (IntKind.u32.wrap (IntKind.u64.wrap ((IntKind.u64.wrap ((IntKind.u64.wrap (rest * (4294967296:Int))) + (IntKind.u64.wrap vx))).tdiv (IntKind.u64.wrap d))))]) ((IntKind.u64.wrap ((IntKind.u64.wrap (rest * (4294967296:Int))) + (IntKind.u64.wrap vx))).tmod (IntKind.u64.wrap d)) (IntKind.i64.wrap (i - (1:Int))) < μ0 out rest i))) ∧
 (decide (i ≥ (0:Int)) = false →
 R (V.tup [eD (dL out),eD (dU (IntKind.u32.wrap rest))]) []))
theorem vc161_ok (a : DL) (d:Int) {R:V → Heap → Prop} (h : vc161 a d R) : FnG prog 161 [vD (dL a),vD (dU d)] [] R :=
 FnG.vcg hT func161 ntmps161 (.r0 [0,1] <| .reg 1 [(2,Or.none,0,1)] [0,1,6,7] [0] [] <| .r1 [0,1,6,7,8] [0] <| .lp [.l,.i,.i] (fun out rest i => ⟨[(0,vD (dL a)),(1,vD (dU d)),(6,vR 0),(7,vD (D.int .u64 rest)),(8,vD (dI i))],[some (Obj.arr 1 out)],42⟩) [.l (List.replicate ((a.length:Int)).toNat [dU (0:Int)]),.i (0:Int),.i (IntKind.i64.wrap ((a.length:Int) - (1:Int)))] <| .fl fun out => .fi fun rest => .fi fun i => .beg <| .r1 [0,1,6,7,8,16] [0] <| .c2 (.ex fun vx => .reg 0 [(5,Or.cells [dU vx],0,0)] [0,1,6,7,8] [0] [] <| .r1 [0,1,6,7,8] [0] <| .reg 0 [] [0,1,6,7,8] [0] [.old 1] <| .r1 [0,1,6,7,8] [0] <| .bk 0 [.l (out.set (i).toNat [dU (IntKind.u32.wrap (IntKind.u64.wrap ((IntKind.u64.wrap ((IntKind.u64.wrap (rest * (4294967296:Int))) + (IntKind.u64.wrap vx))).tdiv (IntKind.u64.wrap d))))]),.i ((IntKind.u64.wrap ((IntKind.u64.wrap (rest * (4294967296:Int))) + (IntKind.u64.wrap vx))).tmod (IntKind.u64.wrap d)),.i (IntKind.i64.wrap (i - (1:Int)))]) (.r1 [4,5] [0] <| .frz [0] <| .ret []))
   (by kernel_rfl) (by kernel_rfl) (by kernel_rfl) h
def vc162 (r d : DL) (R:V → Heap → Prop) : Prop :=
 ∃ (vx:Int),
 (0 ≤ (IntKind.i64.wrap ((d.length:Int) - (1:Int))) ∧ (IntKind.i64.wrap ((d.length:Int) - (1:Int))) < (d.length:Int)) ∧
 (d[((IntKind.i64.wrap ((d.length:Int) - (1:Int)))).toNat]? = some [dU vx]) ∧
 ((((IntKind.i64.wrap ((r.length:Int) - (d.length:Int))) == (0:Int)) = true →
 ∃ (vx1:Int) (r0:Bool) (r1 : DL),
 (0 ≤ (IntKind.i64.wrap ((r.length:Int) - (1:Int))) ∧ (IntKind.i64.wrap ((r.length:Int) - (1:Int))) < (r.length:Int)) ∧
 (r[((IntKind.i64.wrap ((r.length:Int) - (1:Int)))).toNat]? = some [dU vx1]) ∧
 ((IntKind.u64.wrap ((IntKind.u64.wrap vx) + (1:Int))) ≠ 0) ∧
 (FnD prog 16 [vD (dI (IntKind.i64.wrap (if (IntKind.u64.wrap ((IntKind.u64.wrap vx1).tdiv (IntKind.u64.wrap ((IntKind.u64.wrap vx) + (1:Int))))) > (1:Int) then (IntKind.u64.wrap ((IntKind.u64.wrap vx1).tdiv (IntKind.u64.wrap ((IntKind.u64.wrap vx) + (1:Int))))) else (1:Int))))] (vA [sD (dB r0),sD (dL r1)]) []) ∧
 (R (vA [sD (dB r0),sD (dL r1)]) [])) ∧
 (((IntKind.i64.wrap ((r.length:Int) - (d.length:Int))) == (0:Int)) = false →
 ∃ (vx2 vx3:Int),
 (0 ≤ (IntKind.i64.wrap ((r.length:Int) - (1:Int))) ∧ (IntKind.i64.wrap ((r.length:Int) - (1:Int))) < (r.length:Int)) ∧
 (r[((IntKind.i64.wrap ((r.length:Int) - (1:Int)))).toNat]? = some [dU vx2]) ∧
 (0 ≤ (IntKind.i64.wrap ((r.length:Int) - (2:Int))) ∧ (IntKind.i64.wrap ((r.length:Int) - (2:Int))) < (r.length:Int)) ∧
 (r[((IntKind.i64.wrap ((r.length:Int) - (2:Int)))).toNat]? = some [dU vx3]) ∧
 ((IntKind.u64.wrap ((IntKind.u64.wrap vx) + (1:Int))) ≠ 0) ∧
 ((0 ≤ (IntKind.i64.wrap ((IntKind.i64.wrap ((r.length:Int) - (d.length:Int))) - (1:Int))) ∧ (IntKind.i64.wrap ((IntKind.i64.wrap ((r.length:Int) - (d.length:Int))) - (1:Int))) ≤ (IntKind.i64.wrap ((IntKind.i64.wrap ((r.length:Int) - (d.length:Int))) - (1:Int))) ∧ (IntKind.i64.wrap ((IntKind.i64.wrap ((r.length:Int) - (d.length:Int))) - (1:Int))) * (4:Nat) ≤ 281474976710656) ∧
 (∃ (r01:Bool) (r11 : DL),
 (0 ≤ (32:Int)) ∧
 (((List.replicate ((IntKind.i64.wrap ((IntKind.i64.wrap ((r.length:Int) - (d.length:Int))) - (1:Int)))).toNat [dU (0:Int)]).length + ([[dU (IntKind.u32.wrap (IntKind.u64.wrap ((IntKind.u64.wrap ((IntKind.u64.wrap ((IntKind.u64.wrap vx2) * (4294967296:Int))) + (IntKind.u64.wrap vx3))).tdiv (IntKind.u64.wrap ((IntKind.u64.wrap vx) + (1:Int))))))],[dU (IntKind.u32.wrap ((IntKind.u64.wrap ((IntKind.u64.wrap ((IntKind.u64.wrap ((IntKind.u64.wrap vx2) * (4294967296:Int))) + (IntKind.u64.wrap vx3))).tdiv (IntKind.u64.wrap ((IntKind.u64.wrap vx) + (1:Int))))).fdiv (2 ^ (min (32:Int).toNat IntKind.u64.bits))))]] : DL).length) * 4 ≤ 140737488355328) ∧
 (FnD prog 71 [vD (dL ((List.replicate ((IntKind.i64.wrap ((IntKind.i64.wrap ((r.length:Int) - (d.length:Int))) - (1:Int)))).toNat [dU (0:Int)]) ++ [[dU (IntKind.u32.wrap (IntKind.u64.wrap ((IntKind.u64.wrap ((IntKind.u64.wrap ((IntKind.u64.wrap vx2) * (4294967296:Int))) + (IntKind.u64.wrap vx3))).tdiv (IntKind.u64.wrap ((IntKind.u64.wrap vx) + (1:Int))))))],[dU (IntKind.u32.wrap ((IntKind.u64.wrap ((IntKind.u64.wrap ((IntKind.u64.wrap ((IntKind.u64.wrap vx2) * (4294967296:Int))) + (IntKind.u64.wrap vx3))).tdiv (IntKind.u64.wrap ((IntKind.u64.wrap vx) + (1:Int))))).fdiv (2 ^ (min (32:Int).toNat IntKind.u64.bits))))]])),vD (dB false)] (vA [sD (dB r01),sD (dL r11)]) []) ∧
 (R (vA [sD (dB r01),sD (dL r11)]) [])))))
theorem vc162_ok (r d : DL) {R:V → Heap → Prop} (h : vc162 r d R) : FnG prog 162 [vD (dL r),vD (dL d)] [] R :=
 FnG.vcg hT func162 ntmps162 (.reg 1 [(0,Or.none,0,1)] [0,1,4] [0] [] <| .ex fun vx => .drw 0 [(12,(Or.cells [dU vx],0,0),[])] [0,4,5,6,7] [0] [] <| .r1 [0,4,5,6,7,26] [0] <| .c2 (.ex fun vx1 => .exb fun r0 => .exl fun r1 => .reg 0 [(4,Or.cells [dU vx1],0,0),(10,Or.call (vA [sD (dB r0),sD (dL r1)]) [] [],0,0)] [4] [0] [] <| .ret []) (.ex fun vx2 => .ex fun vx3 => .drw 0 [(4,(Or.cells [dU vx2],0,0),[]),(11,(Or.cells [dU vx3],0,0),[])] [4,5,8] [0] [] <| .reg 1 [(2,Or.none,1,1)] [4,8,9] [0,1] [] <| .exb fun r01 => .exl fun r11 => .reg 2 [(6,Or.none,2,1),(7,Or.frz,3,1),(8,Or.call (vA [sD (dB r01),sD (dL r11)]) [] [],0,0)] [4] [0] [] <| .ret []))
   (by kernel_rfl) (by kernel_rfl) (by kernel_rfl) h
def vc165 (a0:Bool) (a1 : DL) (R:V → Heap → Prop) : Prop :=
 R (vA [sD (dB false),sD (dL a1)]) []
theorem vc165_ok (a0:Bool) (a1 : DL) {R:V → Heap → Prop} (h : vc165 a0 a1 R) : FnG prog 165 [vA [sD (dB a0),sD (dL a1)]] [] R :=
 FnG.vcg hT func165 ntmps165 (.reg 2 [(0,Or.none,0,1),(1,Or.none,1,1)] [1,2] [0,1] [] <| .r1 [2] [1] <| .ret [])
   (by kernel_rfl) (by kernel_rfl) (by kernel_rfl) h
def vc166 (a0:Bool) (a1 : DL) (b0:Bool) (b1 : DL) (R:V → Heap → Prop) : Prop :=
 (((b1.length:Int) == (0:Int)) = true →
 R (V.tup [E.agg [sD (dB false),sD (dL ([] : DL))],E.agg [sD (dB false),sD (dL ([] : DL))],eD (dI (3:Int))]) []) ∧
 (((b1.length:Int) == (0:Int)) = false →
 ∃ (r r1 : DL),
 (FnD prog 167 [vD (dL a1),vD (dL b1)] (V.tup [eD (dL r),eD (dL r1)]) []) ∧
 (∃ (r0:Bool) (r11 : DL) (r01:Bool) (r12 : DL),
 (FnD prog 144 [vD (dL r),vD (dB false)] (vA [sD (dB r0),sD (dL r11)]) []) ∧
 (FnD prog 144 [vD (dL r1),vD (dB false)] (vA [sD (dB r01),sD (dL r12)]) []) ∧
 ((a0 = true →
 (decide ((r12.length:Int) > (0:Int)) = true →
 ∃ (r02:Bool) (r13 : DL) (r03:Bool) (r14 : DL),
 (FnD prog 108 [vD (dI (1:Int))] (vA [sD (dB r02),sD (dL r13)]) []) ∧
 (FnD prog 106 [vA [sD (dB r0),sD (dL r11)],vA [sD (dB r02),sD (dL r13)]] (vA [sD (dB r03),sD (dL r14)]) []) ∧
 (∃ (r2 : DL) (r04:Bool) (r15 : DL),
 (FnD prog 147 [vD (dL b1),vD (dL r12)] (vD (dL r2)) []) ∧
 (FnD prog 144 [vD (dL r2),vD (dB false)] (vA [sD (dB r04),sD (dL r15)]) []) ∧
 (((!(a0 == b0)) = true →
 ∃ (r05:Bool) (r16 : DL),
 (FnD prog 100 [vA [sD (dB r03),sD (dL r14)]] (vA [sD (dB r05),sD (dL r16)]) []) ∧
 (R (V.tup [E.agg [sD (dB r05),sD (dL r16)],E.agg [sD (dB r04),sD (dL r15)],eD (dI (0:Int))]) [])) ∧
 ((!(a0 == b0)) = false →
 R (V.tup [E.agg [sD (dB r03),sD (dL r14)],E.agg [sD (dB r04),sD (dL r15)],eD (dI (0:Int))]) [])))) ∧
 (decide ((r12.length:Int) > (0:Int)) = false →
 ((!(a0 == b0)) = true →
 ∃ (r06:Bool) (r17 : DL),
 (FnD prog 100 [vA [sD (dB r0),sD (dL r11)]] (vA [sD (dB r06),sD (dL r17)]) []) ∧
 (R (V.tup [E.agg [sD (dB r06),sD (dL r17)],E.agg [sD (dB r01),sD (dL r12)],eD (dI (0:Int))]) [])) ∧
 ((!(a0 == b0)) = false →
 R (V.tup [E.agg [sD (dB r0),sD (dL r11)],E.agg [sD (dB r01),sD (dL r12)],eD (dI (0:Int))]) []))) ∧
 (a0 = false →
 ((!(a0 == b0)) = true →
 ∃ (r07:Bool) (r18 : DL),
 (FnD prog 100 [vA [sD (dB r0),sD (dL r11)]] (vA [sD (dB r07),sD (dL r18)]) []) ∧
 (R (V.tup [E.agg [sD (dB r07),sD (dL r18)],E.agg [sD (dB r01),sD (dL r12)],eD (dI (0:Int))]) [])) ∧
 ((!(a0 == b0)) = false →
 R (V.tup [E.agg [sD (dB r0),sD (dL r11)],E.agg [sD (dB r01),sD (dL r12)],eD (dI (0:Int))]) [])))))
theorem vc166_ok (a0:Bool) (a1 : DL) (b0:Bool) (b1 : DL) {R:V → Heap → Prop} (h : vc166 a0 a1 b0 b1 R) : FnG prog 166 [vA [sD (dB a0),sD (dL a1)],vA [sD (dB b0),sD (dL b1)]] [] R :=
 FnG.vcg hT func166 ntmps166 (.reg 4 [(0,Or.none,0,1),(1,Or.none,1,1),(2,Or.none,2,1),(3,Or.none,3,1)] [2,3,4,5] [0,1,2,3] [] <| .r1 [2,3,4,5,14] [0,1,2,3] <| .c2 (.r1 [4,5,6] [2,3] <| .nrm [4,5,6] [0,1] <| .ret []) (.exl fun r => .exl fun r1 => .reg 0 [(4,Or.call (V.tup [eD (dL r),eD (dL r1)]) [] [],0,0)] [2,3,4,5,7,8] [0,1,2,3] [] <| .exb fun r0 => .exl fun r11 => .exb fun r01 => .exl fun r12 => .reg 2 [(1,Or.call (vA [sD (dB r0),sD (dL r11)]) [] [],0,0),(3,Or.call (vA [sD (dB r01),sD (dL r12)]) [] [],0,0),(4,Or.none,4,1),(5,Or.none,5,1)] [2,3,4,5,9,10] [0,1,2,3,4,5] [] <| .spl a0 (.reg 0 [(2,Or.bool true,0,0)] [2,3,4,5,9,10,36] [0,1,2,3,4,5] [.old 0] <| .c2 (.exb fun r02 => .exl fun r13 => .exb fun r03 => .exl fun r14 => .drw 0 [(1,(Or.call (vA [sD (dB r02),sD (dL r13)]) [] [],0,0),[]),(2,(Or.call (vA [sD (dB r03),sD (dL r14)]) [] [],0,0),[]),(3,(Or.none,0,0),[4])] [2,3,4,5,9,10] [0,1,2,3,4,5] [] <| .exl fun r2 => .exb fun r04 => .exl fun r15 => .reg 0 [(4,Or.call (vD (dL r2)) [] [],0,0),(5,Or.call (vA [sD (dB r04),sD (dL r15)]) [] [],0,0)] [2,3,4,5,9,10] [0,1,2,3,4,5] [] <| .r1 [4,5,9,10,50] [2,3,4,5] <| .c2 (.exb fun r05 => .exl fun r16 => .reg 0 [(1,Or.call (vA [sD (dB r05),sD (dL r16)]) [] [],0,0)] [4,5,9,10] [0,1,2,3] [] <| .drw 0 [(2,(Or.none,0,0),[0]),(3,(Or.none,0,0),[1])] [4,5,6] [0,1] [] <| .ret []) (.drw 0 [(2,(Or.none,0,0),[0]),(3,(Or.none,0,0),[1])] [4,5,6] [0,1] [] <| .ret [])) (.r1 [4,5,9,10,50] [2,3,4,5] <| .c2 (.exb fun r06 => .exl fun r17 => .reg 0 [(1,Or.call (vA [sD (dB r06),sD (dL r17)]) [] [],0,0)] [4,5,9,10] [0,1,2,3] [] <| .drw 0 [(2,(Or.none,0,0),[0]),(3,(Or.none,0,0),[1])] [4,5,6] [0,1] [] <| .ret []) (.drw 0 [(2,(Or.none,0,0),[0]),(3,(Or.none,0,0),[1])] [4,5,6] [0,1] [] <| .ret []))) (.reg 0 [(2,Or.bool false,0,0)] [2,3,4,5,9,10,36] [0,1,2,3,4,5] [.old 0] <| .ct false none <| .r1 [4,5,9,10,50] [2,3,4,5] <| .c2 (.exb fun r07 => .exl fun r18 => .reg 0 [(1,Or.call (vA [sD (dB r07),sD (dL r18)]) [] [],0,0)] [4,5,9,10] [0,1,2,3] [] <| .drw 0 [(2,(Or.none,0,0),[0]),(3,(Or.none,0,0),[1])] [4,5,6] [0,1] [] <| .ret []) (.drw 0 [(2,(Or.none,0,0),[0]),(3,(Or.none,0,0),[1])] [4,5,6] [0,1] [] <| .ret []))))
   (by kernel_rfl) (by kernel_rfl) (by kernel_rfl) h
def vc167 (a b : DL) (R:V → Heap → Prop) : Prop :=
 ∃ (r:Int),
 (FnD prog 146 [vD (dL a),vD (dL b)] (vD (dI r)) []) ∧
 ((decide (r < (0:Int)) = true →
 ∃ (r1 : DL),
 (FnD prog 168 [vD (dL a)] (vD (dL r1)) []) ∧
 (R (V.tup [eD (dL ([] : DL)),eD (dL r1)]) [])) ∧
 (decide (r < (0:Int)) = false →
 (((b.length:Int) == (1:Int)) = true →
 ∃ (vx:Int) (r2 : DL) (r3:Int),
 (0 ≤ (0:Int) ∧ (0:Int) < (b.length:Int)) ∧
 (b[0]? = some [dU vx]) ∧
 (FnD prog 169 [vD (dL a),vD (dU vx)] (V.tup [eD (dL r2),eD (dU r3)]) []) ∧
 (R (V.tup [eD (dL r2),eD (dL [[dU r3]])]) [])) ∧
 (((b.length:Int) == (1:Int)) = false →
 ∃ (r4 r5 : DL),
 (FnD prog 170 [vD (dL a),vD (dL b)] (V.tup [eD (dL r4),eD (dL r5)]) []) ∧
 (R (V.tup [eD (dL r4),eD (dL r5)]) []))))
theorem vc167_ok (a b : DL) {R:V → Heap → Prop} (h : vc167 a b R) : FnG prog 167 [vD (dL a),vD (dL b)] [] R :=
 FnG.vcg hT func167 ntmps167 (.r0 [0,1] <| .ex fun r => .reg 0 [(2,Or.call (vD (dI r)) [] [],0,0)] [0,1,8] [] [] <| .c2 (.exl fun r1 => .reg 0 [(1,Or.call (vD (dL r1)) [] [],0,0)] [4,5] [] [] <| .nrm [4,5] [] <| .ret []) (.r0 [0,1,15] <| .c2 (.ex fun vx => .exl fun r2 => .ex fun r3 => .reg 0 [(3,Or.cells [dU vx],0,0),(4,Or.call (V.tup [eD (dL r2),eD (dU r3)]) [] [],0,0)] [6,7] [] [] <| .reg 1 [(2,Or.none,0,1)] [4,5] [0] [] <| .frz [0] <| .ret []) (.exl fun r4 => .exl fun r5 => .reg 0 [(2,Or.call (V.tup [eD (dL r4),eD (dL r5)]) [] [],0,0)] [4,5] [] [] <| .ret [])))
   (by kernel_rfl) (by kernel_rfl) (by kernel_rfl) h
def vc69 (a0 a1:Int) (a2 : DL) (R:V → Heap → Prop) : Prop :=
 ∃ (b b1:Int) (b2 b3:Int) (b4 b5:Int) (m m1 m2 : DLL),
 (FnO prog 120 [vA [sD (dI a0),sD (dI a1),sD (dL a2)]] [] (V.e (E.sc (S.ptr 0 0))) [some (Obj.box [sD (dI b),sD (dI b1),S.ref 1,sD (dI b2),sD (dI b3),S.ref 2,sD (dI b4),sD (dI b5),S.ref 3]),some (Obj.mat 2 m),some (Obj.mat 2 m1),some (Obj.mat 2 m2)]) ∧
 (∃ (J0:Int → Int → Int → Int → Int → Int → (DLL) → (DLL) → (DLL) → Int → Int → Prop) (μ0:Int → Int → Int → Int → Int → Int → (DLL) → (DLL) → (DLL) → Int → Int → Nat),
 J0 b b1 b2 b3 b4 b5 m m1 m2 (0:Int) (0:Int) ∧ ∀ (w0 w1:Int) (w3 w4:Int) (w6 w7:Int) (o3 o4 o5 : DLL) (top c:Int),J0 w0 w1 w3 w4 w6 w7 o3 o4 o5 top c →
 (decide (c < a1) = true →
 (decide (top < a0) = true →
 ∃ (J1:Int → Int → Int → Int → Int → Int → (DLL) → (DLL) → (DLL) → Int → Prop) (μ1:Int → Int → Int → Int → Int → Int → (DLL) → (DLL) → (DLL) → Int → Nat),
 J1 w0 w1 w3 w4 w6 w7 o3 o4 o5 (IntKind.i64.wrap (top + (1:Int))) ∧ ∀ (w01 w11:Int) (w31 w41:Int) (w61 w71:Int) (o31 o41 o51 : DLL) (i:Int),J1 w01 w11 w31 w41 w61 w71 o31 o41 o51 i →
 (decide (i < a0) = true →
 ∃ (J2:Int → Int → Int → Int → Int → Int → (DLL) → (DLL) → (DLL) → Prop) (μ2:Int → Int → Int → Int → Int → Int → (DLL) → (DLL) → (DLL) → Nat),
 J2 w01 w11 w31 w41 w61 w71 o31 o41 o51 ∧ ∀ (w02 w12:Int) (w32 w42:Int) (w62 w72:Int) (o32 o42 o52 : DLL),J2 w02 w12 w32 w42 w62 w72 o32 o42 o52 →
 ∃ (x0:Bool) (x1 : DL) (r:Int),
 (0 ≤ i ∧ i < (o32.length:Int)) ∧
 (∃ l,o32[(i).toNat]? = some l ∧ 0 ≤ c ∧ c < (l.length:Int)) ∧
 (at2 o32 (i).toNat (c).toNat = some [dB x0,dL x1]) ∧
 (FnD prog 92 [vA [sD (dB x0),sD (dL x1)]] (vD (dI r)) []) ∧
 (((r != (0:Int)) = true →
 ∃ (x01:Bool) (x11 : DL) (r1:Int),
 (0 ≤ top ∧ top < (o32.length:Int)) ∧
 (∃ l,o32[(top).toNat]? = some l ∧ 0 ≤ c ∧ c < (l.length:Int)) ∧
 (at2 o32 (top).toNat (c).toNat = some [dB x01,dL x11]) ∧
 (FnD prog 92 [vA [sD (dB x01),sD (dL x11)]] (vD (dI r1)) []) ∧
 (((r1 != (0:Int)) = true →
 ∃ (r0:Bool) (r11 : DL) (r01:Bool) (r12 : DL) (r2:Int),
 (FnD prog 124 [vA [sD (dB x01),sD (dL x11)],vA [sD (dB x0),sD (dL x1)]] (V.tup [E.agg [sD (dB r0),sD (dL r11)],E.agg [sD (dB r01),sD (dL r12)],eD (dI r2)]) []) ∧
 (∃ (r02:Bool) (r13 : DL) (b6 b7:Int) (b8 b9:Int) (b10 b11:Int) (m3 m4 m5 : DLL),
 (FnD prog 104 [vA [sD (dB r0),sD (dL r11)]] (vA [sD (dB r02),sD (dL r13)]) []) ∧
 (FnO prog 123 [V.e (E.sc (S.ptr 0 0)),vD (dI top),vD (dI i),vA [sD (dB r02),sD (dL r13)]] [some (Obj.box [sD (dI w02),sD (dI w12),S.ref 1,sD (dI w32),sD (dI w42),S.ref 2,sD (dI w62),sD (dI w72),S.ref 3]),some (Obj.mat 2 o32),some (Obj.mat 2 o42),some (Obj.mat 2 o52)] (V.tup []) [some (Obj.box [sD (dI b6),sD (dI b7),S.ref 1,sD (dI b8),sD (dI b9),S.ref 2,sD (dI b10),sD (dI b11),S.ref 3]),some (Obj.mat 2 m3),some (Obj.mat 2 m4),some (Obj.mat 2 m5)]) ∧
 (∃ (b12 b13:Int) (b14 b15:Int) (b16 b17:Int) (m6 m7 m8 : DLL),
 (FnO prog 121 [V.e (E.sc (S.ptr 0 0)),vD (dI top),vD (dI i)] [some (Obj.box [sD (dI b6),sD (dI b7),S.ref 1,sD (dI b8),sD (dI b9),S.ref 2,sD (dI b10),sD (dI b11),S.ref 3]),some (Obj.mat 2 m3),some (Obj.mat 2 m4),some (Obj.mat 2 m5)] (V.tup []) [some (Obj.box [sD (dI b12),sD (dI b13),S.ref 4,sD (dI b14),sD (dI b15),S.ref 5,sD (dI b16),sD (dI b17),S.ref 3]),some (Obj.fwd (S.ref 4)),some (Obj.fwd (S.ref 5)),some (Obj.mat 2 m6),some (Obj.mat 2 m7),some (Obj.mat 2 m8)]) ∧
 (J2 b12 b13 b14 b15 b16 b17 m7 m8 m6 ∧ μ2 b12 b13 b14 b15 b16 b17 m7 m8 m6 < μ2 w02 w12 w32 w42 w62 w72 o32 o42 o52)))) ∧
 ((r1 != (0:Int)) = false →
 ∃ (b18 b19:Int) (b20 b21:Int) (b22 b23:Int) (m9 m10 m11 : DLL),
 (FnO prog 121 [V.e (E.sc (S.ptr 0 0)),vD (dI top),vD (dI i)] [some (Obj.box [sD (dI w02),sD (dI w12),S.ref 1,sD (dI w32),sD (dI w42),S.ref 2,sD (dI w62),sD (dI w72),S.ref 3]),some (Obj.mat 2 o32),some (Obj.mat 2 o42),some (Obj.mat 2 o52)] (V.tup []) [some (Obj.box [sD (dI b18),sD (dI b19),S.ref 4,sD (dI b20),sD (dI b21),S.ref 5,sD (dI b22),sD (dI b23),S.ref 3]),some (Obj.fwd (S.ref 4)),some (Obj.fwd (S.ref 5)),some (Obj.mat 2 m9),some (Obj.mat 2 m10),some (Obj.mat 2 m11)]) ∧
 (J2 b18 b19 b20 b21 b22 b23 m10 m11 m9 ∧ μ2 b18 b19 b20 b21 b22 b23 m10 m11 m9 < μ2 w02 w12 w32 w42 w62 w72 o32 o42 o52)))) ∧
 ((r != (0:Int)) = false →
 J1 w02 w12 w32 w42 w62 w72 o32 o42 o52 (IntKind.i64.wrap (i + (1:Int))) ∧ μ1 w02 w12 w32 w42 w62 w72 o32 o42 o52 (IntKind.i64.wrap (i + (1:Int))) < μ1 w01 w11 w31 w41 w61 w71 o31 o41 o51 i))) ∧
 (decide (i < a0) = false →
 ∃ (x02:Bool) (x12 : DL) (r3:Int),
 (0 ≤ top ∧ top < (o31.length:Int)) ∧
 (∃ l,o31[(top).toNat]? = some l ∧ 0 ≤ c ∧ c < (l.length:Int)) ∧
 (at2 o31 (top).toNat (c).toNat = some [dB x02,dL x12]) ∧
 (FnD prog 92 [vA [sD (dB x02),sD (dL x12)]] (vD (dI r3)) []) ∧
 (((r3 == (0:Int)) = true →
 J0 w01 w11 w31 w41 w61 w71 o31 o41 o51 top (IntKind.i64.wrap (c + (1:Int))) ∧ μ0 w01 w11 w31 w41 w61 w71 o31 o41 o51 top (IntKind.i64.wrap (c + (1:Int))) < μ0 w0 w1 w3 w4 w6 w7 o3 o4 o5 top c) ∧
 ((r3 == (0:Int)) = false →
 ∃ (r4:Int),
 (FnD prog 92 [vA [sD (dB x02),sD (dL x12)]] (vD (dI r4)) []) ∧
 ((decide (r4 < (0:Int)) = true →
 ∃ (b24 b25:Int) (b26 b27:Int) (b28 b29:Int) (m12 m13 m14 : DLL),
 (FnO prog 122 [V.e (E.sc (S.ptr 0 0)),vD (dI top)] [some (Obj.box [sD (dI w01),sD (dI w11),S.ref 1,sD (dI w31),sD (dI w41),S.ref 2,sD (dI w61),sD (dI w71),S.ref 3]),some (Obj.mat 2 o31),some (Obj.mat 2 o41),some (Obj.mat 2 o51)] (V.tup []) [some (Obj.box [sD (dI b24),sD (dI b25),S.ref 1,sD (dI b26),sD (dI b27),S.ref 2,sD (dI b28),sD (dI b29),S.ref 3]),some (Obj.mat 2 m12),some (Obj.mat 2 m13),some (Obj.mat 2 m14)]) ∧
 (∃ (J3:Int → Int → Int → Int → Int → Int → (DLL) → (DLL) → (DLL) → Int → Prop) (μ3:Int → Int → Int → Int → Int → Int → (DLL) → (DLL) → (DLL) → Int → Nat),
 J3 b24 b25 b26 b27 b28 b29 m12 m13 m14 (0:Int) ∧ ∀ (w03 w13:Int) (w33 w43:Int) (w63 w73:Int) (o33 o43 o53 : DLL) (i1:Int),J3 w03 w13 w33 w43 w63 w73 o33 o43 o53 i1 →
 (decide (i1 < top) = true →
 ∃ (x03:Bool) (x13 : DL) (x04:Bool) (x14 : DL) (r03:Bool) (r14 : DL) (r04:Bool) (r15 : DL) (b30 b31:Int) (b32 b33:Int) (b34 b35:Int) (m15 m16 m17 : DLL),
 (0 ≤ i1 ∧ i1 < (o33.length:Int)) ∧
 (∃ l,o33[(i1).toNat]? = some l ∧ 0 ≤ c ∧ c < (l.length:Int)) ∧
 (at2 o33 (i1).toNat (c).toNat = some [dB x03,dL x13]) ∧
 (0 ≤ top ∧ top < (o33.length:Int)) ∧
 (∃ l,o33[(top).toNat]? = some l ∧ 0 ≤ c ∧ c < (l.length:Int)) ∧
 (at2 o33 (top).toNat (c).toNat = some [dB x04,dL x14]) ∧
 (FnD prog 125 [vA [sD (dB x03),sD (dL x13)],vA [sD (dB x04),sD (dL x14)]] (vA [sD (dB r03),sD (dL r14)]) []) ∧
 (FnD prog 104 [vA [sD (dB r03),sD (dL r14)]] (vA [sD (dB r04),sD (dL r15)]) []) ∧
 (FnO prog 123 [V.e (E.sc (S.ptr 0 0)),vD (dI i1),vD (dI top),vA [sD (dB r04),sD (dL r15)]] [some (Obj.box [sD (dI w03),sD (dI w13),S.ref 1,sD (dI w33),sD (dI w43),S.ref 2,sD (dI w63),sD (dI w73),S.ref 3]),some (Obj.mat 2 o33),some (Obj.mat 2 o43),some (Obj.mat 2 o53)] (V.tup []) [some (Obj.box [sD (dI b30),sD (dI b31),S.ref 1,sD (dI b32),sD (dI b33),S.ref 2,sD (dI b34),sD (dI b35),S.ref 3]),some (Obj.mat 2 m15),some (Obj.mat 2 m16),some (Obj.mat 2 m17)]) ∧
 (J3 b30 b31 b32 b33 b34 b35 m15 m16 m17 (IntKind.i64.wrap (i1 + (1:Int))) ∧ μ3 b30 b31 b32 b33 b34 b35 m15 m16 m17 (IntKind.i64.wrap (i1 + (1:Int))) < μ3 w03 w13 w33 w43 w63 w73 o33 o43 o53 i1)) ∧
 (decide (i1 < top) = false →
 J0 w03 w13 w33 w43 w63 w73 o33 o43 o53 (IntKind.i64.wrap (top + (1:Int))) (IntKind.i64.wrap (c + (1:Int))) ∧ μ0 w03 w13 w33 w43 w63 w73 o33 o43 o53 (IntKind.i64.wrap (top + (1:Int))) (IntKind.i64.wrap (c + (1:Int))) < μ0 w0 w1 w3 w4 w6 w7 o3 o4 o5 top c))) ∧
 (decide (r4 < (0:Int)) = false →
 ∃ (J4:Int → Int → Int → Int → Int → Int → (DLL) → (DLL) → (DLL) → Int → Prop) (μ4:Int → Int → Int → Int → Int → Int → (DLL) → (DLL) → (DLL) → Int → Nat),
 J4 w01 w11 w31 w41 w61 w71 o31 o41 o51 (0:Int) ∧ ∀ (w04 w14:Int) (w34 w44:Int) (w64 w74:Int) (o34 o44 o54 : DLL) (i2:Int),J4 w04 w14 w34 w44 w64 w74 o34 o44 o54 i2 →
 (decide (i2 < top) = true →
 ∃ (x05:Bool) (x15 : DL) (x06:Bool) (x16 : DL) (r05:Bool) (r16 : DL) (r06:Bool) (r17 : DL) (b36 b37:Int) (b38 b39:Int) (b40 b41:Int) (m18 m19 m20 : DLL),
 (0 ≤ i2 ∧ i2 < (o34.length:Int)) ∧
 (∃ l,o34[(i2).toNat]? = some l ∧ 0 ≤ c ∧ c < (l.length:Int)) ∧
 (at2 o34 (i2).toNat (c).toNat = some [dB x05,dL x15]) ∧
 (0 ≤ top ∧ top < (o34.length:Int)) ∧
 (∃ l,o34[(top).toNat]? = some l ∧ 0 ≤ c ∧ c < (l.length:Int)) ∧
 (at2 o34 (top).toNat (c).toNat = some [dB x06,dL x16]) ∧
 (FnD prog 125 [vA [sD (dB x05),sD (dL x15)],vA [sD (dB x06),sD (dL x16)]] (vA [sD (dB r05),sD (dL r16)]) []) ∧
 (FnD prog 104 [vA [sD (dB r05),sD (dL r16)]] (vA [sD (dB r06),sD (dL r17)]) []) ∧
 (FnO prog 123 [V.e (E.sc (S.ptr 0 0)),vD (dI i2),vD (dI top),vA [sD (dB r06),sD (dL r17)]] [some (Obj.box [sD (dI w04),sD (dI w14),S.ref 1,sD (dI w34),sD (dI w44),S.ref 2,sD (dI w64),sD (dI w74),S.ref 3]),some (Obj.mat 2 o34),some (Obj.mat 2 o44),some (Obj.mat 2 o54)] (V.tup []) [some (Obj.box [sD (dI b36),sD (dI b37),S.ref 1,sD (dI b38),sD (dI b39),S.ref 2,sD (dI b40),sD (dI b41),S.ref 3]),some (Obj.mat 2 m18),some (Obj.mat 2 m19),some (Obj.mat 2 m20)]) ∧
 (J4 b36 b37 b38 b39 b40 b41 m18 m19 m20 (IntKind.i64.wrap (i2 + (1:Int))) ∧ μ4 b36 b37 b38 b39 b40 b41 m18 m19 m20 (IntKind.i64.wrap (i2 + (1:Int))) < μ4 w04 w14 w34 w44 w64 w74 o34 o44 o54 i2)) ∧
 (decide (i2 < top) = false →
 J0 w04 w14 w34 w44 w64 w74 o34 o44 o54 (IntKind.i64.wrap (top + (1:Int))) (IntKind.i64.wrap (c + (1:Int))) ∧ μ0 w04 w14 w34 w44 w64 w74 o34 o44 o54 (IntKind.i64.wrap (top + (1:Int))) (IntKind.i64.wrap (c + (1:Int))) < μ0 w0 w1 w3 w4 w6 w7 o3 o4 o5 top c))))))) ∧
 (decide (top < a0) = false →
 R (vA [sD (dI w0),sD (dI w1),sD (dL (matD o3)),sD (dI w3),sD (dI w4),sD (dL (matD o4)),sD (dI w6),sD (dI w7),sD (dL (matD o5))]) [])) ∧
 (decide (c < a1) = false →
 R (vA [sD (dI w0),sD (dI w1),sD (dL (matD o3)),sD (dI w3),sD (dI w4),sD (dL (matD o4)),sD (dI w6),sD (dI w7),sD (dL (matD o5))]) []))
theorem vc69_ok (a0 a1:Int) (a2 : DL) {R:V → Heap → Prop} (h : vc69 a0 a1 a2 R) : FnG prog 69 [vA [sD (dI a0),sD (dI a1),sD (dL a2)]] [] R :=
 FnG.vcg hT func69 ntmps69 (.reg 2 [(0,Or.none,0,1),(1,Or.none,1,1)] [1,2] [0,1] [] <| .ex fun b => .ex fun b1 => .ex fun b2 => .ex fun b3 => .ex fun b4 => .ex fun b5 => .exm fun m => .exm fun m1 => .exm fun m2 => .reg 4 [(1,Or.callO [] (V.e (E.sc (S.ptr 0 0))) [some (Obj.box [sD (dI b),sD (dI b1),S.ref 1,sD (dI b2),sD (dI b3),S.ref 2,sD (dI b4),sD (dI b5),S.ref 3]),some (Obj.mat 2 m),some (Obj.mat 2 m1),some (Obj.mat 2 m2)],2,4)] [1,2,3] [0,1,2,3,4,5] [] <| .r1 [1,2,3,4] [0,1,2,3,4,5] <| .r1 [1,2,3,4,5] [0,1,2,3,4,5] <| .lp [.i,.i,.i,.i,.i,.i,.m,.m,.m,.i,.i] (fun w0 w1 w3 w4 w6 w7 o3 o4 o5 top c => ⟨[(1,vP 0 0),(2,vP 1 0),(3,vP 2 0),(4,vD (dI top)),(5,vD (dI c))],[some (Obj.box [sD (dI a0),sD (dI a1),sD (dL a2)]),some (Obj.box [sD (dI (0:Int)),sD (dI (0:Int)),sD (D.raw (.slice none 0 0)),sD (dI (0:Int)),sD (dI (0:Int)),sD (D.raw (.slice none 0 0)),sD (dI (0:Int)),sD (dI (0:Int)),sD (D.raw (.slice none 0 0))]),some (Obj.box [sD (dI w0),sD (dI w1),S.ref 3,sD (dI w3),sD (dI w4),S.ref 4,sD (dI w6),sD (dI w7),S.ref 5]),some (Obj.mat 2 o3),some (Obj.mat 2 o4),some (Obj.mat 2 o5)],173⟩) [.i b,.i b1,.i b2,.i b3,.i b4,.i b5,.m m,.m m1,.m m2,.i (0:Int),.i (0:Int)] <| .fi fun w0 => .fi fun w1 => .fi fun w3 => .fi fun w4 => .fi fun w6 => .fi fun w7 => .fm fun o3 => .fm fun o4 => .fm fun o5 => .fi fun top => .fi fun c => .beg <| .spl ((decide (c < a1))) (.reg 0 [(4,Or.bool true,0,0)] [1,2,3,4,5,22] [0,1,2,3,4,5] [.old 0] <| .c2 (.r1 [1,2,3,4,5,6] [0,1,2,3,4,5] <| .lp [.i,.i,.i,.i,.i,.i,.m,.m,.m,.i] (fun w01 w11 w31 w41 w61 w71 o31 o41 o51 i => ⟨[(1,vP 0 0),(2,vP 1 0),(3,vP 2 0),(4,vD (dI top)),(5,vD (dI c)),(6,vD (dI i))],[some (Obj.box [sD (dI a0),sD (dI a1),sD (dL a2)]),some (Obj.box [sD (dI (0:Int)),sD (dI (0:Int)),sD (D.raw (.slice none 0 0)),sD (dI (0:Int)),sD (dI (0:Int)),sD (D.raw (.slice none 0 0)),sD (dI (0:Int)),sD (dI (0:Int)),sD (D.raw (.slice none 0 0))]),some (Obj.box [sD (dI w01),sD (dI w11),S.ref 3,sD (dI w31),sD (dI w41),S.ref 4,sD (dI w61),sD (dI w71),S.ref 5]),some (Obj.mat 2 o31),some (Obj.mat 2 o41),some (Obj.mat 2 o51)],173⟩) [.i w0,.i w1,.i w3,.i w4,.i w6,.i w7,.m o3,.m o4,.m o5,.i (IntKind.i64.wrap (top + (1:Int)))] <| .fi fun w01 => .fi fun w11 => .fi fun w31 => .fi fun w41 => .fi fun w61 => .fi fun w71 => .fm fun o31 => .fm fun o41 => .fm fun o51 => .fi fun i => .beg <| .r1 [1,2,3,4,5,6,30] [0,1,2,3,4,5] <| .c2 (.viw [1,2,3,4,5,6] [0,1,2,3,4,5] <| .lp [.i,.i,.i,.i,.i,.i,.m,.m,.m] (fun w02 w12 w32 w42 w62 w72 o32 o42 o52 => ⟨[(1,vP 0 0),(2,vP 1 0),(3,vP 2 0),(4,vD (dI top)),(5,vD (dI c)),(6,vD (dI i))],[some (Obj.box [sD (dI a0),sD (dI a1),sD (dL a2)]),some (Obj.box [sD (dI (0:Int)),sD (dI (0:Int)),sD (D.raw (.slice none 0 0)),sD (dI (0:Int)),sD (dI (0:Int)),sD (D.raw (.slice none 0 0)),sD (dI (0:Int)),sD (dI (0:Int)),sD (D.raw (.slice none 0 0))]),some (Obj.box [sD (dI w02),sD (dI w12),S.ref 3,sD (dI w32),sD (dI w42),S.ref 4,sD (dI w62),sD (dI w72),S.ref 5]),some (Obj.mat 2 o32),some (Obj.mat 2 o42),some (Obj.mat 2 o52)],173⟩) [.i w01,.i w11,.i w31,.i w41,.i w61,.i w71,.m o31,.m o41,.m o51] <| .fi fun w02 => .fi fun w12 => .fi fun w32 => .fi fun w42 => .fi fun w62 => .fi fun w72 => .fm fun o32 => .fm fun o42 => .fm fun o52 => .beg <| .exb fun x0 => .exl fun x1 => .ex fun r => .reg 0 [(10,Or.cells [dB x0,dL x1],0,0),(11,Or.call (vD (dI r)) [] [],0,0)] [1,2,3,4,5,6,45] [0,1,2,3,4,5] [] <| .c2 (.exb fun x01 => .exl fun x11 => .ex fun r1 => .reg 0 [(10,Or.cells [dB x01,dL x11],0,0),(11,Or.call (vD (dI r1)) [] [],0,0)] [1,2,3,4,5,6,58] [0,1,2,3,4,5] [] <| .c2 (.exb fun r0 => .exl fun r11 => .exb fun r01 => .exl fun r12 => .ex fun r2 => .drw 2 [(10,(Or.cells [dB x01,dL x11],0,0),[]),(21,(Or.cells [dB x0,dL x1],0,0),[]),(22,(Or.call (V.tup [E.agg [sD (dB r0),sD (dL r11)],E.agg [sD (dB r01),sD (dL r12)],eD (dI r2)]) [] [],0,0),[]),(27,(Or.none,6,1),[6]),(28,(Or.none,7,1),[7]),(29,(Or.none,0,0),[6]),(30,(Or.none,0,0),[7])] [1,2,3,4,5,6,7] [0,1,2,6,3,4,5] [.old 4,.old 3,.old 2,.old 9,.old 8,.old 7] <| .exb fun r02 => .exl fun r13 => .ex fun b6 => .ex fun b7 => .ex fun b8 => .ex fun b9 => .ex fun b10 => .ex fun b11 => .exm fun m3 => .exm fun m4 => .exm fun m5 => .reg 0 [(4,Or.call (vA [sD (dB r02),sD (dL r13)]) [] [],0,0),(5,Or.callO [2,4,5,6] (V.tup []) [some (Obj.box [sD (dI b6),sD (dI b7),S.ref 1,sD (dI b8),sD (dI b9),S.ref 2,sD (dI b10),sD (dI b11),S.ref 3]),some (Obj.mat 2 m3),some (Obj.mat 2 m4),some (Obj.mat 2 m5)],0,0)] [1,2,3,4,5,6] [0,1,2,4,5,6] [] <| .ex fun b12 => .ex fun b13 => .ex fun b14 => .ex fun b15 => .ex fun b16 => .ex fun b17 => .exm fun m6 => .exm fun m7 => .exm fun m8 => .reg 2 [(3,Or.callO [2,3,4,5] (V.tup []) [some (Obj.box [sD (dI b12),sD (dI b13),S.ref 4,sD (dI b14),sD (dI b15),S.ref 5,sD (dI b16),sD (dI b17),S.ref 3]),some (Obj.fwd (S.ref 4)),some (Obj.fwd (S.ref 5)),some (Obj.mat 2 m6),some (Obj.mat 2 m7),some (Obj.mat 2 m8)],6,2)] [1,2,3,4,5,6] [0,1,2,6,7,5] [] <| .bk 0 [.i b12,.i b13,.i b14,.i b15,.i b16,.i b17,.m m7,.m m8,.m m6]) (.ex fun b18 => .ex fun b19 => .ex fun b20 => .ex fun b21 => .ex fun b22 => .ex fun b23 => .exm fun m9 => .exm fun m10 => .exm fun m11 => .reg 2 [(3,Or.callO [2,3,4,5] (V.tup []) [some (Obj.box [sD (dI b18),sD (dI b19),S.ref 4,sD (dI b20),sD (dI b21),S.ref 5,sD (dI b22),sD (dI b23),S.ref 3]),some (Obj.fwd (S.ref 4)),some (Obj.fwd (S.ref 5)),some (Obj.mat 2 m9),some (Obj.mat 2 m10),some (Obj.mat 2 m11)],6,2)] [1,2,3,4,5,6] [0,1,2,6,7,5] [] <| .bk 0 [.i b18,.i b19,.i b20,.i b21,.i b22,.i b23,.m m10,.m m11,.m m9])) (.r1 [1,2,3,4,5,6] [0,1,2,3,4,5] <| .bk 1 [.i w02,.i w12,.i w32,.i w42,.i w62,.i w72,.m o32,.m o42,.m o52,.i (IntKind.i64.wrap (i + (1:Int)))])) (.exb fun x02 => .exl fun x12 => .ex fun r3 => .reg 0 [(10,Or.cells [dB x02,dL x12],0,0),(11,Or.call (vD (dI r3)) [] [],0,0)] [1,2,3,4,5,108] [0,1,2,3,4,5] [] <| .c2 (.r1 [1,2,3,4,5] [0,1,2,3,4,5] <| .bk 1 [.i w01,.i w11,.i w31,.i w41,.i w61,.i w71,.m o31,.m o41,.m o51,.i top,.i (IntKind.i64.wrap (c + (1:Int)))]) (.ex fun r4 => .reg 0 [(10,Or.cells [dB x02,dL x12],0,0),(11,Or.call (vD (dI r4)) [] [],0,0)] [1,2,3,4,5,121] [0,1,2,3,4,5] [.old 4,.old 3,.old 2] <| .c2 (.ex fun b24 => .ex fun b25 => .ex fun b26 => .ex fun b27 => .ex fun b28 => .ex fun b29 => .exm fun m12 => .exm fun m13 => .exm fun m14 => .reg 0 [(2,Or.callO [2,3,4,5] (V.tup []) [some (Obj.box [sD (dI b24),sD (dI b25),S.ref 1,sD (dI b26),sD (dI b27),S.ref 2,sD (dI b28),sD (dI b29),S.ref 3]),some (Obj.mat 2 m12),some (Obj.mat 2 m13),some (Obj.mat 2 m14)],0,0)] [1,2,3,4,5] [0,1,2,3,4,5] [] <| .r1 [1,2,3,4,5,10] [0,1,2,3,4,5] <| .lp [.i,.i,.i,.i,.i,.i,.m,.m,.m,.i] (fun w03 w13 w33 w43 w63 w73 o33 o43 o53 i1 => ⟨[(1,vP 0 0),(2,vP 1 0),(3,vP 2 0),(4,vD (dI top)),(5,vD (dI c)),(10,vD (dI i1))],[some (Obj.box [sD (dI a0),sD (dI a1),sD (dL a2)]),some (Obj.box [sD (dI (0:Int)),sD (dI (0:Int)),sD (D.raw (.slice none 0 0)),sD (dI (0:Int)),sD (dI (0:Int)),sD (D.raw (.slice none 0 0)),sD (dI (0:Int)),sD (dI (0:Int)),sD (D.raw (.slice none 0 0))]),some (Obj.box [sD (dI w03),sD (dI w13),S.ref 3,sD (dI w33),sD (dI w43),S.ref 4,sD (dI w63),sD (dI w73),S.ref 5]),some (Obj.mat 2 o33),some (Obj.mat 2 o43),some (Obj.mat 2 o53)],173⟩) [.i b24,.i b25,.i b26,.i b27,.i b28,.i b29,.m m12,.m m13,.m m14,.i (0:Int)] <| .fi fun w03 => .fi fun w13 => .fi fun w33 => .fi fun w43 => .fi fun w63 => .fi fun w73 => .fm fun o33 => .fm fun o43 => .fm fun o53 => .fi fun i1 => .beg <| .r1 [1,2,3,4,5,10,127] [0,1,2,3,4,5] <| .c2 (.exb fun x03 => .exl fun x13 => .exb fun x04 => .exl fun x14 => .exb fun r03 => .exl fun r14 => .exb fun r04 => .exl fun r15 => .ex fun b30 => .ex fun b31 => .ex fun b32 => .ex fun b33 => .ex fun b34 => .ex fun b35 => .exm fun m15 => .exm fun m16 => .exm fun m17 => .drw 0 [(13,(Or.cells [dB x03,dL x13],0,0),[]),(24,(Or.cells [dB x04,dL x14],0,0),[]),(25,(Or.call (vA [sD (dB r03),sD (dL r14)]) [] [],0,0),[]),(26,(Or.call (vA [sD (dB r04),sD (dL r15)]) [] [],0,0),[]),(27,(Or.callO [2,3,4,5] (V.tup []) [some (Obj.box [sD (dI b30),sD (dI b31),S.ref 1,sD (dI b32),sD (dI b33),S.ref 2,sD (dI b34),sD (dI b35),S.ref 3]),some (Obj.mat 2 m15),some (Obj.mat 2 m16),some (Obj.mat 2 m17)],0,0),[2,3,4,5])] [1,2,3,4,5,10] [0,1,2,3,4,5] [] <| .r1 [1,2,3,4,5,10] [0,1,2,3,4,5] <| .bk 0 [.i b30,.i b31,.i b32,.i b33,.i b34,.i b35,.m m15,.m m16,.m m17,.i (IntKind.i64.wrap (i1 + (1:Int)))]) (.r1 [1,2,3,4,5] [0,1,2,3,4,5] <| .r1 [1,2,3,4,5] [0,1,2,3,4,5] <| .bk 2 [.i w03,.i w13,.i w33,.i w43,.i w63,.i w73,.m o33,.m o43,.m o53,.i (IntKind.i64.wrap (top + (1:Int))),.i (IntKind.i64.wrap (c + (1:Int)))])) (.r1 [1,2,3,4,5,10] [0,1,2,3,4,5] <| .lp [.i,.i,.i,.i,.i,.i,.m,.m,.m,.i] (fun w04 w14 w34 w44 w64 w74 o34 o44 o54 i2 => ⟨[(1,vP 0 0),(2,vP 1 0),(3,vP 2 0),(4,vD (dI top)),(5,vD (dI c)),(10,vD (dI i2))],[some (Obj.box [sD (dI a0),sD (dI a1),sD (dL a2)]),some (Obj.box [sD (dI (0:Int)),sD (dI (0:Int)),sD (D.raw (.slice none 0 0)),sD (dI (0:Int)),sD (dI (0:Int)),sD (D.raw (.slice none 0 0)),sD (dI (0:Int)),sD (dI (0:Int)),sD (D.raw (.slice none 0 0))]),some (Obj.box [sD (dI w04),sD (dI w14),S.ref 3,sD (dI w34),sD (dI w44),S.ref 4,sD (dI w64),sD (dI w74),S.ref 5]),some (Obj.mat 2 o34),some (Obj.mat 2 o44),some (Obj.mat 2 o54)],173⟩) [.i w01,.i w11,.i w31,.i w41,.i w61,.i w71,.m o31,.m o41,.m o51,.i (0:Int)] <| .fi fun w04 => .fi fun w14 => .fi fun w34 => .fi fun w44 => .fi fun w64 => .fi fun w74 => .fm fun o34 => .fm fun o44 => .fm fun o54 => .fi fun i2 => .beg <| .r1 [1,2,3,4,5,10,127] [0,1,2,3,4,5] <| .c2 (.exb fun x05 => .exl fun x15 => .exb fun x06 => .exl fun x16 => .exb fun r05 => .exl fun r16 => .exb fun r06 => .exl fun r17 => .ex fun b36 => .ex fun b37 => .ex fun b38 => .ex fun b39 => .ex fun b40 => .ex fun b41 => .exm fun m18 => .exm fun m19 => .exm fun m20 => .drw 0 [(13,(Or.cells [dB x05,dL x15],0,0),[]),(24,(Or.cells [dB x06,dL x16],0,0),[]),(25,(Or.call (vA [sD (dB r05),sD (dL r16)]) [] [],0,0),[]),(26,(Or.call (vA [sD (dB r06),sD (dL r17)]) [] [],0,0),[]),(27,(Or.callO [2,3,4,5] (V.tup []) [some (Obj.box [sD (dI b36),sD (dI b37),S.ref 1,sD (dI b38),sD (dI b39),S.ref 2,sD (dI b40),sD (dI b41),S.ref 3]),some (Obj.mat 2 m18),some (Obj.mat 2 m19),some (Obj.mat 2 m20)],0,0),[2,3,4,5])] [1,2,3,4,5,10] [0,1,2,3,4,5] [] <| .r1 [1,2,3,4,5,10] [0,1,2,3,4,5] <| .bk 0 [.i b36,.i b37,.i b38,.i b39,.i b40,.i b41,.m m18,.m m19,.m m20,.i (IntKind.i64.wrap (i2 + (1:Int)))]) (.r1 [1,2,3,4,5] [0,1,2,3,4,5] <| .r1 [1,2,3,4,5] [0,1,2,3,4,5] <| .bk 2 [.i w04,.i w14,.i w34,.i w44,.i w64,.i w74,.m o34,.m o44,.m o54,.i (IntKind.i64.wrap (top + (1:Int))),.i (IntKind.i64.wrap (c + (1:Int)))]))))) (.drw 0 [(13,(Or.none,0,0),[1])] [2] [1,3,4,5] [] <| .frz [1,2,3] <| .ret [])) (.reg 0 [(4,Or.bool false,0,0)] [1,2,3,4,5,22] [0,1,2,3,4,5] [.old 0] <| .ct false none <| .drw 0 [(13,(Or.none,0,0),[1])] [2] [1,3,4,5] [] <| .frz [1,2,3] <| .ret []))
   (by kernel_rfl) (by kernel_rfl) (by kernel_rfl) h
end Go.AM
/- Division of integers: by one limb (torsionref01.short). -/
namespace Go.AM
open Go.Proofs.Try
def sQ (d:Nat) : List Nat → List Nat × Nat
 | [] => ([], 0)
 | x :: l => ((((sQ d l).2 * 4294967296 + x) / d) :: (sQ d l).1, ((sQ d l).2 * 4294967296 + x) % d)
theorem sQ_len (d:Nat) : ∀ l, (sQ d l).1.length = l.length
 | [] => rfl
 | _ :: l => by simp [sQ, sQ_len d l]
theorem sQ_lt {d : Nat} (hd : 0 < d) : ∀ l, (sQ d l).2 < d
 | [] => hd
 | _ :: _ => Nat.mod_lt _ hd
theorem sQ_val {d : Nat} : ∀ l, d * val (sQ d l).1 + (sQ d l).2 = val l
 | [] => by simp [sQ, val]
 | x :: l => by
   have ih := sQ_val (d := d) l
   have h := Nat.div_add_mod ((sQ d l).2 * 4294967296 + x) d
   simp only [sQ, val]
   rw [← ih, Nat.mul_add, Nat.mul_left_comm]
   omega
theorem sQ_dig {d : Nat} (hd : 0 < d) : ∀ l, (∀ x ∈ l, x < 4294967296) → ∀ z ∈ (sQ d l).1, z < 4294967296
 | [], _, z, hz => by simp [sQ] at hz
 | x :: l, h, z, hz => by
   simp only [sQ, List.mem_cons] at hz
   rcases hz with rfl | hz
   · rw [Nat.div_lt_iff_lt_mul hd]
     have h1 := sQ_lt hd l
     have h2 := h x (by simp)
     have h3 : ((sQ d l).2 + 1) * 4294967296 ≤ d * 4294967296 := Nat.mul_le_mul_right _ h1
     omega
   · exact sQ_dig hd l (fun y hy => h y (by simp [hy])) z hz
theorem sQ_div {d : Nat} (hd : 0 < d) (l : List Nat) : val (sQ d l).1 = val l / d ∧ (sQ d l).2 = val l % d := by
 have h1 := sQ_val (d := d) l
 have h2 := sQ_lt hd l
 have h3 : (d * val (sQ d l).1 + (sQ d l).2) / d = val (sQ d l).1 := by
   rw [Nat.mul_add_div hd, Nat.div_eq_of_lt h2, Nat.add_zero]
 have h4 : (d * val (sQ d l).1 + (sQ d l).2) % d = (sQ d l).2 := by
   rw [Nat.mul_add_mod, Nat.mod_eq_of_lt h2]
 rw [h1] at h3 h4
 exact ⟨h3.symm, h4.symm⟩
theorem rep_set (n v:Nat) (q : List Nat) : (List.replicate (n + 1) 0 ++ q).set n v = List.replicate n 0 ++ (v :: q) := by
 rw [List.set_append_left _ _ (by simp), List.replicate_succ', List.set_append_right _ _ (by simp)]
 simp
theorem u32_id {n : Int} (h0 : 0 ≤ n) (h1 : n < 4294967296) : IntKind.u32.wrap n = n := by rw [wu32]; omega
theorem rshort_ok {l : List Nat} {d : Nat} (hB : ∀ x ∈ l, x < 4294967296) (hl : l.length ≤ 1099511627776) (hd : 0 < d) (hd' : d < 4294967296) :
   FnD prog 161 [vs (lim l), vD (dU d)] (.tup [eD (dL (lim (sQ d l).1)), eD (dU (sQ d l).2)]) [] := by
 refine vc161_ok _ _ (R := Out _) ?_
 unfold vc161
 simp only [lim_length]
 have hq := sQ_len d
 refine ⟨⟨by omega, by omega, by omega⟩, fun out rest t => ∃ n : Nat, t = (n:Int) - 1 ∧ n ≤ l.length ∧ out = lim (List.replicate n 0 ++ (sQ d (l.drop n)).1) ∧ rest = ((sQ d (l.drop n)).2:Nat), fun _ _ t => (t + 1).toNat,
   ⟨l.length, by rw [w64 (by omega) (by omega)], Nat.le_refl _, ?_, ?_⟩, ?_⟩
 · rw [Int.toNat_natCast, List.drop_length]; simp [sQ, lim]
 · rw [List.drop_length]; rfl
 rintro _ _ _ ⟨n, rfl, hn, rfl, rfl⟩
 refine ⟨fun h => ?_, fun h => ?_⟩
 · have h1 : 0 < n := by simp at h; omega
   obtain ⟨i, rfl⟩ : ∃ i, n = i + 1 := ⟨n - 1, by omega⟩
   have hi : i < l.length := by omega
   have ei : (((i + 1:Nat) : Int) - 1) = (i:Int) := by omega
   have hdrop : l.drop i = l[i] :: l.drop (i + 1) := List.drop_eq_getElem_cons hi
   have hx := hB _ (List.getElem_mem hi)
   have hr := sQ_lt hd (l.drop (i + 1))
   have hs : (sQ d (l.drop i)) = (((((sQ d (l.drop (i + 1))).2 * 4294967296 + l[i]) / d) :: (sQ d (l.drop (i + 1))).1), ((sQ d (l.drop (i + 1))).2 * 4294967296 + l[i]) % d) := by rw [hdrop]; rfl
   generalize hrr : (sQ d (l.drop (i + 1))).2 = r at *
   generalize (sQ d (l.drop (i + 1))).1 = qs at *
   have hsum : r * 4294967296 + l[i] < d * 4294967296 := by
     have : (r + 1) * 4294967296 ≤ d * 4294967296 := Nat.mul_le_mul_right _ hr
     omega
   have hdiv : (r * 4294967296 + l[i]) / d < 4294967296 := by rw [Nat.div_lt_iff_lt_mul hd]; omega
   have e1 : IntKind.u64.wrap (IntKind.u64.wrap ((r:Int) * 4294967296) + IntKind.u64.wrap ((l[i] : Nat) : Int)) = ((r * 4294967296 + l[i] : Nat) : Int) := by
     rw [wu64 (n := (r:Int) * 4294967296) (by omega) (by omega), wu64 (n := ((l[i] : Nat) : Int)) (by omega) (by omega), wu64 (by omega) (by omega)]
     omega
   have e2 : IntKind.u64.wrap (d:Int) = (d:Int) := wu64 (by omega) (by omega)
   have e3 : (((r * 4294967296 + l[i] : Nat) : Int).tdiv (d:Int)) = (((r * 4294967296 + l[i]) / d:Nat) : Int) := by rw [Int.tdiv_eq_ediv_of_nonneg (by omega)]; rfl
   have e4 : (((r * 4294967296 + l[i] : Nat) : Int).tmod (d:Int)) = (((r * 4294967296 + l[i]) % d:Nat) : Int) := by rw [Int.tmod_eq_emod_of_nonneg (by omega)]; rfl
   rw [ei]
   refine ⟨((l[i] : Nat) : Int), ⟨by omega, by omega⟩, by rw [Int.toNat_natCast]; exact lim_get hi, ?_, ⟨by omega, by rw [lim_length]; simp; omega⟩, ?_⟩
   · rw [e2]; omega
   generalize (r * 4294967296 + l[i]) / d = qq at *
   generalize (r * 4294967296 + l[i]) % d = mm at *
   rw [e1, e2, e3, e4, wu64 (n := (qq:Int)) (by omega) (by omega), u32_id (by omega) (by omega), w64 (by omega) (by omega), Int.toNat_natCast, lim_set, rep_set]
   refine ⟨⟨i, by omega, by omega, ?_, ?_⟩, ?_⟩
   · rw [hs]
   · rw [hs]
   · show ((i:Int) - 1 + 1).toNat < ((i:Int) + 1).toNat; omega
 · have hn0 : n = 0 := by simp at h; omega
   subst hn0
   have hr := sQ_lt hd l
   simp only [List.drop_zero, List.replicate_zero, List.nil_append]
   rw [u32_id (by omega) (by omega)]
   exact ⟨rfl, rfl⟩
end Go.AM
/- Division of integers: the estimate of a quotient (torsionref01.estimate). -/
namespace Go.AM
open Go.Proofs.Try
theorem val_last {l : List Nat} {m : Nat} (hm : l.length = m + 1) : val l = val (l.take m) + 4294967296 ^ m * l[m] := by
 have h1 : l = l.take m ++ [l[m]] := by
   conv => lhs; rw [← List.take_append_drop m l]
   rw [List.drop_eq_getElem_cons (by omega), List.drop_of_length_le (by omega)]
 have h2 : (l.take m).length = m := by simp; omega
 conv => lhs; rw [h1]
 rw [val_append, h2]; simp [val]
theorem val_last2 {l : List Nat} {m : Nat} (hm : l.length = m + 2) : val l = val (l.take m) + 4294967296 ^ m * (l[m + 1] * 4294967296 + l[m]) := by
 have h1 : l = l.take m ++ [l[m], l[m + 1]] := by
   conv => lhs; rw [← List.take_append_drop m l]
   rw [List.drop_eq_getElem_cons (by omega), List.drop_eq_getElem_cons (by omega), List.drop_of_length_le (by omega)]
 have h2 : (l.take m).length = m := by simp; omega
 conv => lhs; rw [h1]
 rw [val_append, h2]; simp only [val]; congr 2; omega
theorem take_lt' {l : List Nat} (hB : ∀ x ∈ l, x < 4294967296) (m:Nat) (hm : m ≤ l.length) : val (l.take m) < 4294967296 ^ m := by
 have := val_lt (l := l.take m) fun x hx => hB x (List.mem_of_mem_take hx)
 rwa [List.length_take, Nat.min_eq_left hm] at this
theorem rep_val (n:Nat) (l : List Nat) : val (List.replicate n 0 ++ l) = 4294967296 ^ n * val l := by
 rw [val_append, List.length_replicate]
 have : val (List.replicate n 0) = 0 := by
   induction n with
   | zero => rfl
   | succ n ih => simp [List.replicate_succ, val, ih]
 omega
theorem restim_ok {R D : Nat} (hD : 2 ≤ (digs D).length) (htop : ∀ x, (digs D).getLast? = some x → 2147483648 ≤ x) (hle : D ≤ R) (hlen : (digs R).length ≤ 1099511627776) :
   ∃ s : Nat, 0 < s ∧ s * D ≤ R ∧ FnD prog 162 [vs (lim (digs R)), vs (lim (digs D))] (eI s) [] := by
 obtain ⟨a, ha⟩ : ∃ a, a = digs R := ⟨_, rfl⟩
 obtain ⟨b, hb⟩ : ∃ b, b = digs D := ⟨_, rfl⟩
 have la : ∀ x ∈ a, x < 4294967296 := ha ▸ digs_lt R
 have lb : ∀ x ∈ b, x < 4294967296 := hb ▸ digs_lt D
 have va : val a = R := ha ▸ val_digs R
 have vb' : val b = D := hb ▸ val_digs D
 have ca : canon a := ha ▸ digs_canon R
 have cb : canon b := hb ▸ digs_canon D
 rw [← hb] at hD htop ⊢
 rw [← ha] at hlen ⊢
 have hnm : b.length ≤ a.length := len_le_of_val la cb (by omega)
 obtain ⟨m, hm⟩ : ∃ m, b.length = m + 2 := ⟨b.length - 2, by omega⟩
 obtain ⟨n, hn⟩ : ∃ n, a.length = n + 2 := ⟨a.length - 2, by omega⟩
 have hlast : b.getLast? = some b[m + 1] := by rw [List.getLast?_eq_getElem?, show b.length - 1 = m + 1 by omega]; exact List.getElem?_eq_getElem (by omega)
 have alast : a.getLast? = some a[n + 1] := by rw [List.getLast?_eq_getElem?, show a.length - 1 = n + 1 by omega]; exact List.getElem?_eq_getElem (by omega)
 have hdt := htop _ hlast
 have hdl := lb _ (List.getElem_mem (show m + 1 < b.length by omega))
 have hr1 := la _ (List.getElem_mem (show n + 1 < a.length by omega))
 have hr2 := la _ (List.getElem_mem (show n < a.length by omega))
 have hr0 : a[n + 1] ≠ 0 := ca _ alast
 have vD1 := val_last (l := b) (m := m + 1) (by omega)
 have tD := take_lt' lb (m + 1) (by omega)
 have vR1 := val_last (l := a) (m := n + 1) (by omega)
 have vR2 := val_last2 (l := a) (m := n) hn
 rw [vb'] at vD1
 rw [va] at vR1 vR2
 have gb : (lim b)[((m + 1:Nat) : Int).toNat]? = some [dU ((b[m + 1] : Nat) : Int)] := by rw [Int.toNat_natCast]; exact lim_get (by omega)
 have ga1 : (lim a)[((n + 1:Nat) : Int).toNat]? = some [dU ((a[n + 1] : Nat) : Int)] := by rw [Int.toNat_natCast]; exact lim_get (by omega)
 have ga2 : (lim a)[((n:Nat) : Int).toNat]? = some [dU ((a[n] : Nat) : Int)] := by rw [Int.toNat_natCast]; exact lim_get (by omega)
 generalize b[m + 1] = dt at *
 generalize a[n + 1] = r1 at *
 generalize a[n] = r2 at *
 have hDlt : D < 4294967296 ^ (m + 1) * (dt + 1) := by rw [Nat.mul_add]; omega
 have w1 : IntKind.i64.wrap ((b.length:Int) - 1) = ((m + 1:Nat) : Int) := by rw [w64 (by omega) (by omega)]; omega
 have w2 : IntKind.i64.wrap ((a.length:Int) - 1) = ((n + 1:Nat) : Int) := by rw [w64 (by omega) (by omega)]; omega
 have w3 : IntKind.i64.wrap ((a.length:Int) - 2) = ((n:Nat) : Int) := by rw [w64 (by omega) (by omega)]; omega
 have w4 : IntKind.i64.wrap ((a.length:Int) - (b.length:Int)) = ((n - m:Nat) : Int) := by rw [w64 (by omega) (by omega)]; omega
 have u1 : IntKind.u64.wrap (IntKind.u64.wrap (dt:Int) + 1) = ((dt + 1:Nat) : Int) := by rw [wu64 (n := (dt:Int)) (by omega) (by omega), wu64 (by omega) (by omega)]; omega
 have u2 : IntKind.u64.wrap (r1:Int) = (r1:Int) := wu64 (by omega) (by omega)
 have u3 : IntKind.u64.wrap (IntKind.u64.wrap ((r1:Int) * 4294967296) + IntKind.u64.wrap (r2:Int)) = ((r1 * 4294967296 + r2:Nat) : Int) := by
   rw [wu64 (n := (r1:Int) * 4294967296) (by omega) (by omega), wu64 (n := (r2:Int)) (by omega) (by omega), wu64 (by omega) (by omega)]; omega
 by_cases hk : n = m
 · subst hk
   obtain ⟨v, hv⟩ : ∃ v, v = r1 / (dt + 1) := ⟨_, rfl⟩
   have hv1 : v * (dt + 1) ≤ r1 := by rw [hv]; exact Nat.div_mul_le_self _ _
   have hv2 : v ≤ r1 := by rw [hv]; exact Nat.div_le_self _ _
   have e1 : ((r1:Int)).tdiv ((dt + 1:Nat) : Int) = (v:Int) := by rw [Int.tdiv_eq_ediv_of_nonneg (by omega), hv]; rfl
   have e2 : (if (v:Int) > 1 then (v:Int) else 1) = ((max v 1:Nat) : Int) := by split <;> omega
   refine ⟨max v 1, by omega, ?_, ?_⟩
   · by_cases h1 : v ≤ 1
     · rw [Nat.max_eq_right h1]; omega
     · rw [Nat.max_eq_left (by omega)]
       have h2 : v * D ≤ v * (4294967296 ^ (n + 1) * (dt + 1)) := Nat.mul_le_mul_left _ (Nat.le_of_lt hDlt)
       have h3 : v * (4294967296 ^ (n + 1) * (dt + 1)) = 4294967296 ^ (n + 1) * (v * (dt + 1)) := by rw [Nat.mul_left_comm]
       have h4 : 4294967296 ^ (n + 1) * (v * (dt + 1)) ≤ 4294967296 ^ (n + 1) * r1 := Nat.mul_le_mul_left _ hv1
       omega
   · refine vc162_ok _ _ (R := Out _) ?_
     unfold vc162
     simp only [lim_length]
     refine ⟨(dt:Int), ?_⟩
     rw [w1, w2, w4, u1]
     refine ⟨⟨by omega, by omega⟩, gb, fun _ => ⟨(r1:Int), _, _, ⟨by omega, by omega⟩, ga1, by omega, ?_, oute rfl⟩, fun h => absurd h (by simp)⟩
     rw [u2, e1, wu64 (n := (v:Int)) (by omega) (by omega), e2, w64 (by omega) (by omega)]
     exact rof_ok _ (by omega) (by omega)
 · obtain ⟨k, hk'⟩ : ∃ k, n = m + k + 1 := ⟨n - m - 1, by omega⟩
   obtain ⟨e, he⟩ : ∃ e, e = (r1 * 4294967296 + r2) / (dt + 1) := ⟨_, rfl⟩
   have he1 : e * (dt + 1) ≤ r1 * 4294967296 + r2 := by rw [he]; exact Nat.div_mul_le_self _ _
   have he0 : 0 < e := by rw [he]; exact Nat.div_pos (by omega) (by omega)
   have he2 : e < 8589934592 := by rw [he, Nat.div_lt_iff_lt_mul (by omega)]; omega
   have e1 : (((r1 * 4294967296 + r2:Nat) : Int)).tdiv ((dt + 1:Nat) : Int) = (e:Int) := by rw [Int.tdiv_eq_ediv_of_nonneg (by omega), he]; rfl
   have w5 : IntKind.i64.wrap (((n - m:Nat) : Int) - 1) = (k:Int) := by rw [w64 (by omega) (by omega)]; omega
   have u5 : IntKind.u64.wrap (e:Int) = (e:Int) := wu64 (by omega) (by omega)
   have u6 : IntKind.u32.wrap (e:Int) = ((e % 4294967296:Nat) : Int) := by rw [wu32]; omega
   have u7 : IntKind.u32.wrap ((e:Int).fdiv (2 ^ (min (32:Int).toNat IntKind.u64.bits))) = ((e / 4294967296:Nat) : Int) := by
     have : ((2:Int) ^ (min (32:Int).toNat IntKind.u64.bits)) = 4294967296 := by decide
     rw [this, Int.fdiv_eq_ediv_of_nonneg _ (by decide), u32_id (by omega) (by omega)]; omega
   have hlist : (List.replicate ((k:Int)).toNat [dU (0:Int)]) ++ [[dU ((e % 4294967296:Nat) : Int)], [dU ((e / 4294967296:Nat) : Int)]] = lim (List.replicate k 0 ++ [e % 4294967296, e / 4294967296]) := by
     rw [Int.toNat_natCast, lim_rep, lim_append]; rfl
   have hval : val (List.replicate k 0 ++ [e % 4294967296, e / 4294967296]) = 4294967296 ^ k * e := by
     rw [rep_val]; simp only [val]; congr 1; omega
   have hmade := made_eI (List.replicate k 0 ++ [e % 4294967296, e / 4294967296]) false (fun x hx => by
     simp only [List.mem_append, List.mem_replicate, List.mem_cons, List.not_mem_nil, or_false] at hx
     rcases hx with ⟨_, rfl⟩ | rfl | rfl
     · decide
     · exact Nat.mod_lt _ (by decide)
     · omega) (by simp; omega)
   rw [hval, ← hlist] at hmade
   simp only [Bool.false_eq_true, if_false] at hmade
   refine ⟨4294967296 ^ k * e, Nat.mul_pos (Nat.pow_pos (by decide)) he0, ?_, ?_⟩
   · have h2 : 4294967296 ^ k * e * D ≤ 4294967296 ^ k * e * (4294967296 ^ (m + 1) * (dt + 1)) := Nat.mul_le_mul_left _ (Nat.le_of_lt hDlt)
     have h3 : 4294967296 ^ k * e * (4294967296 ^ (m + 1) * (dt + 1)) = 4294967296 ^ n * (e * (dt + 1)) := by
       rw [Nat.mul_mul_mul_comm, ← Nat.pow_add, show k + (m + 1) = n by omega]
     have h4 : 4294967296 ^ n * (e * (dt + 1)) ≤ 4294967296 ^ n * (r1 * 4294967296 + r2) := Nat.mul_le_mul_left _ he1
     omega
   · refine vc162_ok _ _ (R := Out _) ?_
     unfold vc162
     simp only [lim_length]
     refine ⟨(dt:Int), ?_⟩
     rw [w1, w2, w3, w4, w5, u1]
     refine ⟨⟨by omega, by omega⟩, gb, fun h => absurd h (by simp; omega), fun _ => ⟨(r1:Int), (r2:Int), ⟨by omega, by omega⟩, ga1, ⟨by omega, by omega⟩, ga2, by omega, ⟨by omega, by omega, by omega⟩, _, _, by decide, ?_, ?_, oute rfl⟩⟩
     · simp only [List.length_replicate, List.length_cons, List.length_nil]; omega
     · rw [u2, u3, e1, u5, u6, u7]
       exact hmade
end Go.AM
/- What functions of the program come to: group Mat. Printed by vc.py. -/
set_option maxRecDepth 100000
set_option linter.unusedVariables false
namespace Go.AM
open Go.Proofs.Try
def vc76 (rows cols:Int) (f:FuncId) (fc : List D) (R:V → Heap → Prop) : Prop :=
 (0 ≤ rows ∧ rows ≤ rows ∧ rows * (24:Nat) ≤ 281474976710656) ∧
 (∃ (J0 : (DLL) → Int → Prop) (μ0 : (DLL) → Int → Nat),
 J0 (List.replicate (rows).toNat ([] : DL)) (0:Int) ∧ ∀ (o2 : DLL) (t16:Int),J0 o2 t16 →
 (decide (t16 < rows) = true →
 (0 ≤ cols ∧ cols ≤ cols ∧ cols * (32:Nat) ≤ 281474976710656) ∧
 (0 ≤ t16 ∧ t16 < (o2.length:Int)) ∧
 (∃ (J1 : (DLL) → Int → Prop) (μ1 : (DLL) → Int → Nat),
 J1 (o2.set (t16).toNat (List.replicate (cols).toNat [dB false,dL ([] : DL)])) (0:Int) ∧ ∀ (o21 : DLL) (t26:Int),J1 o21 t26 →
 (decide (t26 < cols) = true →
 ∃ (r0:Bool) (r1 : DL),
 (0 ≤ t16 ∧ t16 < (o21.length:Int)) ∧
 (FnD prog f ([vD (dI t16),vD (dI t26)] ++ fc.map dV) (vA [sD (dB r0),sD (dL r1)]) []) ∧
 (∃ l,o21[(t16).toNat]? = some l ∧ 0 ≤ t26 ∧ t26 < (l.length:Int)) ∧
 (J1 (o21.modify (t16).toNat (fun qz => qz.set (t26).toNat [dB r0,dL r1])) (IntKind.i64.wrap (t26 + (1:Int))) ∧ μ1 (o21.modify (t16).toNat (fun qz => qz.set (t26).toNat [dB r0,dL r1])) (IntKind.i64.wrap (t26 + (1:Int))) < μ1 o21 t26)) ∧
 (decide (t26 < cols) = false →
 J0 o21 (IntKind.i64.wrap (t16 + (1:Int))) ∧ μ0 o21 (IntKind.i64.wrap (t16 + (1:Int))) < μ0 o2 t16))) ∧
 (decide (t16 < rows) = false →
 R (vA [sD (dI rows),sD (dI cols),sD (dL (matD o2))]) []))
theorem vc76_ok (rows cols:Int) (f:FuncId) (fc : List D) {R:V → Heap → Prop} (h : vc76 rows cols f fc R) : FnG prog 76 [vD (dI rows),vD (dI cols),vD (D.fn (.func f) fc)] [] R :=
 FnG.vcg hT func76 ntmps76 (.reg 1 [(0,Or.none,0,1)] [0,1,2,6] [0] [] <| .reg 2 [(3,Or.none,1,1),(5,Or.none,2,1)] [0,1,2,6,7] [0,2,1] [] <| .r1 [1,2,6,7,15,16] [0,1,2] <| .lp [.m,.i] (fun o2 t16 => ⟨[(1,vD (dI cols)),(2,vD (D.fn (.func f) fc)),(6,vP 0 0),(7,vP 1 0),(15,vD (dI rows)),(16,vD (dI t16))],[some (Obj.box [sD (dI (0:Int)),sD (dI (0:Int)),sD (D.raw (.slice none 0 0))]),some (Obj.box [sD (dI rows),sD (dI cols),S.ref 2]),some (Obj.mat 2 o2)],43⟩) [.m (List.replicate (rows).toNat ([] : DL)),.i (0:Int)] <| .fm fun o2 => .fi fun t16 => .beg <| .r1 [1,2,6,7,15,16,17] [0,1,2] <| .c2 (.r1 [1,2,6,7,8,15,16] [0,1,2] <| .drw 2 [(4,(Or.none,3,1),[3]),(6,(Or.none,4,1),[2,3,4])] [1,2,6,7,8,15,16] [0,1,2,4] [] <| .fwd [] [1] <| .viw [1,2,6,7,8,15,16] [0,1,3] <| .r1 [1,2,6,7,8,15,16,25,26] [0,1,2] <| .lp [.m,.i] (fun o21 t26 => ⟨[(1,vD (dI cols)),(2,vD (D.fn (.func f) fc)),(6,vP 0 0),(7,vP 1 0),(8,vD (dI t16)),(15,vD (dI rows)),(16,vD (dI t16)),(25,vD (dI cols)),(26,vD (dI t26))],[some (Obj.box [sD (dI (0:Int)),sD (dI (0:Int)),sD (D.raw (.slice none 0 0))]),some (Obj.box [sD (dI rows),sD (dI cols),S.ref 2]),some (Obj.mat 2 o21)],43⟩) [.m (o2.set (t16).toNat (List.replicate (cols).toNat [dB false,dL ([] : DL)])),.i (0:Int)] <| .fm fun o21 => .fi fun t26 => .beg <| .r1 [1,2,6,7,8,15,16,25,26,27] [0,1,2] <| .c2 (.r1 [1,2,6,7,8,9,15,16,25,26] [0,1,2] <| .exb fun r0 => .exl fun r1 => .drw 0 [(9,(Or.call (vA [sD (dB r0),sD (dL r1)]) [] [],0,0),[]),(11,(Or.none,0,0),[2])] [1,2,6,7,8,15,16,25,26] [0,1,2] [] <| .r1 [1,2,6,7,8,15,16,25,26] [0,1,2] <| .bk 0 [.m (o21.modify (t16).toNat (fun qz => qz.set (t26).toNat [dB r0,dL r1])),.i (IntKind.i64.wrap (t26 + (1:Int)))]) (.r1 [1,2,6,7,15,16] [0,1,2] <| .bk 1 [.m o21,.i (IntKind.i64.wrap (t16 + (1:Int)))])) (.r1 [6] [0,2] <| .frz [1] <| .ret []))
   (by kernel_rfl) (by kernel_rfl) (by kernel_rfl) h
def vc107 (i j:Int) (R:V → Heap → Prop) : Prop :=
 ((i == j) = true →
 ∃ (r0:Bool) (r1 : DL),
 (FnD prog 108 [vD (dI (1:Int))] (vA [sD (dB r0),sD (dL r1)]) []) ∧
 (R (vA [sD (dB r0),sD (dL r1)]) [])) ∧
 ((i == j) = false →
 R (vA [sD (dB false),sD (dL ([] : DL))]) [])
theorem vc107_ok (i j:Int) {R:V → Heap → Prop} (h : vc107 i j R) : FnG prog 107 [vD (dI i),vD (dI j)] [] R :=
 FnG.vcg hT func107 ntmps107 (.reg 1 [(0,Or.none,0,1)] [0,1,4] [0] [] <| .r1 [4,7] [0] <| .c2 (.exb fun r0 => .exl fun r1 => .reg 0 [(0,Or.call (vA [sD (dB r0),sD (dL r1)]) [] [],0,0)] [4] [0] [] <| .ret []) (.r1 [4] [0] <| .nrm [4] [0] <| .ret []))
   (by kernel_rfl) (by kernel_rfl) (by kernel_rfl) h
def vc56 (n:Int) (R:V → Heap → Prop) : Prop :=
 ∃ (r0 r1:Int) (r2 : DL),
 (FnD prog 76 [vD (dI n),vD (dI n),vD (D.fn (.func 107) ([] : List D))] (vA [sD (dI r0),sD (dI r1),sD (dL r2)]) []) ∧
 (R (vA [sD (dI r0),sD (dI r1),sD (dL r2)]) [])
theorem vc56_ok (n:Int) {R:V → Heap → Prop} (h : vc56 n R) : FnG prog 56 [vD (dI n)] [] R :=
 FnG.vcg hT func56 ntmps56 (.reg 1 [(0,Or.none,0,1)] [0,2] [0] [] <| .ex fun r0 => .ex fun r1 => .exl fun r2 => .reg 0 [(2,Or.call (vA [sD (dI r0),sD (dI r1),sD (dL r2)]) [] [],0,0)] [2] [0] [] <| .ret [])
   (by kernel_rfl) (by kernel_rfl) (by kernel_rfl) h
def vc112 (i j:Int) (c00:Bool) (c01 : DL) (c10 c11:Int) (c12 : DL) (R:V → Heap → Prop) : Prop :=
 ∃ (vx : DL) (x0:Bool) (x1 : DL) (r0:Bool) (r1 : DL),
 (0 ≤ i ∧ i < (c12.length:Int)) ∧
 (c12[(i).toNat]? = some [dL vx]) ∧
 (0 ≤ j ∧ j < (vx.length:Int)) ∧
 (vx[(j).toNat]? = some [dB x0,dL x1]) ∧
 (FnD prog 113 [vA [sD (dB c00),sD (dL c01)],vA [sD (dB x0),sD (dL x1)]] (vA [sD (dB r0),sD (dL r1)]) []) ∧
 (R (vA [sD (dB r0),sD (dL r1)]) [])
theorem vc112_ok (i j:Int) (c00:Bool) (c01 : DL) (c10 c11:Int) (c12 : DL) {R:V → Heap → Prop} (h : vc112 i j c00 c01 c10 c11 c12 R) : FnG prog 112 [vD (dI i),vD (dI j),vD (D.box [dB c00,dL c01]),vD (D.box [dI c10,dI c11,dL c12])] [] R :=
 FnG.vcg hT func112 ntmps112 (.reg 1 [(0,Or.none,0,1)] [0,1,2,3,6] [0] [] <| .exl fun vx => .exb fun x0 => .exl fun x1 => .exb fun r0 => .exl fun r1 => .drw 0 [(5,(Or.cells [dL vx],0,0),[]),(8,(Or.cells [dB x0,dL x1],0,0),[]),(9,(Or.call (vA [sD (dB r0),sD (dL r1)]) [] [],0,0),[]),(10,(Or.none,0,0),[0])] [6] [0] [] <| .ret [])
   (by kernel_rfl) (by kernel_rfl) (by kernel_rfl) h
def vc74 (a0:Bool) (a1 : DL) (R:V → Heap → Prop) : Prop :=
 (((a1.length:Int) == (0:Int)) = true →
 ((!a0) = true →
 R (vD (dB true)) []) ∧
 ((!a0) = false →
 (decide ((a1.length:Int) > (0:Int)) = true →
 ∃ (vx:Int),
 (0 ≤ (IntKind.i64.wrap ((a1.length:Int) - (1:Int))) ∧ (IntKind.i64.wrap ((a1.length:Int) - (1:Int))) < (a1.length:Int)) ∧
 (a1[((IntKind.i64.wrap ((a1.length:Int) - (1:Int)))).toNat]? = some [dU vx]) ∧
 (R (vD (dB (vx != (0:Int)))) [])) ∧
 (decide ((a1.length:Int) > (0:Int)) = false →
 R (vD (dB false)) []))) ∧
 (((a1.length:Int) == (0:Int)) = false →
 (decide ((a1.length:Int) > (0:Int)) = true →
 ∃ (vx1:Int),
 (0 ≤ (IntKind.i64.wrap ((a1.length:Int) - (1:Int))) ∧ (IntKind.i64.wrap ((a1.length:Int) - (1:Int))) < (a1.length:Int)) ∧
 (a1[((IntKind.i64.wrap ((a1.length:Int) - (1:Int)))).toNat]? = some [dU vx1]) ∧
 (R (vD (dB (vx1 != (0:Int)))) [])) ∧
 (decide ((a1.length:Int) > (0:Int)) = false →
 R (vD (dB false)) []))
theorem vc74_ok (a0:Bool) (a1 : DL) {R:V → Heap → Prop} (h : vc74 a0 a1 R) : FnG prog 74 [vA [sD (dB a0),sD (dL a1)]] [] R :=
 FnG.vcg hT func74 ntmps74 (.reg 1 [(0,Or.none,0,1)] [1] [0] [] <| .r1 [1,3] [0] <| .spl (((a1.length:Int) == (0:Int))) (.spl ((!a0)) (.reg 0 [(2,Or.bool true,0,0),(7,Or.bool true,0,0)] [2] [] [.old 1,.old 0] <| .ret []) (.spl ((decide ((a1.length:Int) > (0:Int)))) (.ex fun vx => .reg 0 [(2,Or.bool true,0,0),(7,Or.bool false,0,0),(10,Or.bool true,0,0),(16,Or.cells [dU vx],0,0)] [2] [] [.old 2,.old 1,.old 0] <| .ret []) (.reg 0 [(2,Or.bool true,0,0),(7,Or.bool false,0,0),(10,Or.bool false,0,0)] [2] [] [.old 2,.old 1,.old 0] <| .ret []))) (.spl ((decide ((a1.length:Int) > (0:Int)))) (.ex fun vx1 => .reg 0 [(2,Or.bool false,0,0),(10,Or.bool true,0,0),(16,Or.cells [dU vx1],0,0)] [2] [] [.old 1,.old 0] <| .ret []) (.reg 0 [(2,Or.bool false,0,0),(10,Or.bool false,0,0)] [2] [] [.old 1,.old 0] <| .ret [])))
   (by kernel_rfl) (by kernel_rfl) (by kernel_rfl) h
end Go.AM
