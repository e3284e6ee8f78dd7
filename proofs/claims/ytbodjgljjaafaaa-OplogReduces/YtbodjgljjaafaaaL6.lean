/- Division of integers: torsionref01.divide. -/
import Derived.Test.YtbodjgljjaafaaaL5
namespace Go.AM
open Go.Proofs.Try
def ei (z:Int) : E := .agg [.dat (.bool (decide (z < 0))), .dat (.sl (lim (digs z.natAbs)))]
def valD (l : DL) : Nat := val (l.map fun x => match x with | [D.int _ n] => n.toNat | _ => 0)
theorem valD_lim (l : List Nat) : valD (lim l) = val l := by
 unfold valD lim
 rw [List.map_map]
 congr 1
 conv => rhs; rw [← List.map_id l]
 exact List.map_congr_left fun x _ => by simp
theorem topdig {X m : Nat} (h1 : 4294967296 ^ (m + 1) * 2147483648 ≤ X) (h2 : X < 4294967296 ^ (m + 2)) : (digs X).length = m + 2 ∧ ∀ x, (digs X).getLast? = some x → 2147483648 ≤ x := by
 have hl := digs_len h2
 have hB := digs_lt X
 have hv := val_digs X
 have hp : 0 < 4294967296 ^ (m + 1) := Nat.pow_pos (by decide)
 have hlen : (digs X).length = m + 2 := by
   rcases Nat.lt_or_ge (digs X).length (m + 2) with h | h
   · have h3 := val_lt hB
     have h4 : 4294967296 ^ (digs X).length ≤ 4294967296 ^ (m + 1) := Nat.pow_le_pow_right (by decide) (by omega)
     omega
   · omega
 refine ⟨hlen, fun x hx => ?_⟩
 have hxe : x = (digs X)[m + 1] := by
   rw [List.getLast?_eq_getElem?, show (digs X).length - 1 = m + 1 by omega, List.getElem?_eq_getElem (by omega)] at hx
   exact (Option.some.inj hx).symm
 have h3 := val_last (l := digs X) (m := m + 1) (by omega)
 have h4 := take_lt' hB (m + 1) (by omega)
 rw [hv, ← hxe] at h3
 apply Classical.byContradiction
 intro hn
 have h5 : 4294967296 ^ (m + 1) * (x + 1) ≤ 4294967296 ^ (m + 1) * 2147483648 := Nat.mul_le_mul_left _ (by omega)
 rw [Nat.mul_add] at h5
 omega
theorem div_end {A D s Q R : Nat} (hs : 0 < s) (h : Q * (D * s) + R = A * s) (hR : R < D * s) : A / D = Q ∧ A % D = R / s := by
 have hD : 0 < D := by
   rcases Nat.eq_zero_or_pos D with h0 | h0
   · subst h0; omega
   · exact h0
 have h1 : Q * D ≤ A := by
   have : Q * D * s ≤ A * s := by rw [Nat.mul_assoc]; omega
   exact Nat.le_of_mul_le_mul_right this hs
 have h2 : R = (A - Q * D) * s := by rw [Nat.sub_mul, Nat.mul_assoc]; omega
 have h3 : R / s = A - Q * D := by rw [h2, Nat.mul_div_cancel _ hs]
 have h4 : A - Q * D < D := by
   rw [h2] at hR
   exact Nat.lt_of_mul_lt_mul_right hR
 have h5 : A = D * Q + (A - Q * D) := by rw [Nat.mul_comm D Q]; omega
 constructor
 · rw [h5, Nat.mul_add_div hD, Nat.div_eq_of_lt h4, Nat.add_zero]
 · rw [h3]
   conv => lhs; rw [h5]
   rw [Nat.mul_add_mod, Nat.mod_eq_of_lt h4]
theorem rdivide_ok {A D L : Nat} (hD : 0 < D) (hA : A * 4294967296 < 4294967296 ^ L) (hDL : D * 4294967296 < 4294967296 ^ L) (hL : L ≤ 1073741824) :
   FnD prog 152 [vs (lim (digs A)), vs (lim (digs D))] (.tup [ei ((A / D:Nat) : Int), ei ((A % D:Nat) : Int)]) [] := by
 have hsz : ∀ {z : Int} {y : Nat}, z.natAbs ≤ y → y < 4294967296 ^ L → Sz z := fun h1 h2 => Sz.of_lt L hL (by omega)
 have la := digs_len (n := A) (k := L) (by omega)
 have ld := digs_len (n := D) (k := L) (by omega)
 refine vc152_ok _ _ (R := Out _) ?_
 unfold vc152
 simp only [lim_length]
 have made : ∀ (l : List Nat), (∀ x ∈ l, x < 4294967296) → l.length ≤ 1073741824 → FnD prog 71 [vs (lim l), vb false] (eI ((val l:Nat) : Int)) [] := fun l h1 h2 => by
   have := made_eI l false h1 (by omega)
   simpa using this
 refine ⟨fun h1 => ?_, fun h1 => ?_⟩
 · -- one limb
   have hl1 : (digs D).length = 1 := by simpa using (natEq _ 1).symm.trans h1
   obtain ⟨d, hd⟩ : ∃ d, digs D = [d] := List.length_eq_one_iff.1 hl1
   have hdv : D = d := by have := val_digs D; rw [hd] at this; simpa [val] using this.symm
   have hdl := digs_lt D d (by rw [hd]; simp)
   have h161 := rshort_ok (l := digs A) (d := d) (digs_lt A) (by omega) (by omega) hdl
   obtain ⟨e1, e2⟩ := sQ_div (d := d) (by omega) (digs A)
   rw [val_digs] at e1 e2
   have m1 := made (sQ d (digs A)).1 (sQ_dig (by omega) _ (digs_lt A)) (by rw [sQ_len]; omega)
   rw [e1] at m1
   have hr := sQ_lt (d := d) (by omega) (digs A)
   have m2 := made [(sQ d (digs A)).2] (fun x hx => by simp at hx; omega) (by simp)
   rw [show val [(sQ d (digs A)).2] = A % d by simp [val, e2]] at m2
   subst hdv
   rw [hd]
   exact ⟨(D:Int), _, _, ⟨by decide, by simp⟩, rfl, h161, _, _, _, _, m1, m2, rfl, rfl⟩
 · have hl1 : (digs D).length ≠ 1 := by simpa using (natEq _ 1).symm.trans h1
   have hl0 : (digs D).length ≠ 0 := fun h => by have := digs_nil.1 (List.length_eq_zero_iff.1 h); omega
   obtain ⟨m, hm⟩ : ∃ m, (digs D).length = m + 2 := ⟨(digs D).length - 2, by omega⟩
   have hB := digs_lt D
   obtain ⟨dt, hdt⟩ : ∃ dt, dt = (digs D)[m + 1] := ⟨_, rfl⟩
   have hdl : dt < 4294967296 := hdt ▸ hB _ (List.getElem_mem _)
   have hd0 : dt ≠ 0 := digs_canon D dt (by rw [List.getLast?_eq_getElem?, show (digs D).length - 1 = m + 1 by omega, List.getElem?_eq_getElem (by omega), hdt])
   have vD := val_last (l := digs D) (m := m + 1) (by omega)
   have tD := take_lt' hB (m + 1) (by omega)
   rw [val_digs, ← hdt] at vD
   have gb : (lim (digs D))[((m + 1:Nat) : Int).toNat]? = some [dU (dt:Int)] := by rw [Int.toNat_natCast, hdt]; exact lim_get (by omega)
   have w1 : IntKind.i64.wrap (((digs D).length:Int) - 1) = ((m + 1:Nat) : Int) := by rw [w64 (by omega) (by omega)]; omega
   rw [w1]
   refine ⟨fun t => ∃ k : Nat, t = ((2 ^ k:Nat) : Int) ∧ dt * 2 ^ k < 4294967296, fun t => (4294967296 - t).toNat, ⟨0, rfl, by omega⟩, ?_⟩
   rintro _ ⟨k, rfl, hk⟩
   have hpk : 0 < 2 ^ k := Nat.pow_pos (by decide)
   have hk2 : 2 ^ k ≤ dt * 2 ^ k := Nat.le_mul_of_pos_left _ (by omega)
   have hk32 : k < 32 := by
     rcases Nat.lt_or_ge k 32 with h | h
     · exact h
     · have : 2 ^ 32 ≤ 2 ^ k := Nat.pow_le_pow_right (by decide) h
       omega
   have hdvd : (dt + 1) * 2 ^ k ≤ 4294967296 := by
     have e : (4294967296:Nat) = 2 ^ (32 - k) * 2 ^ k := by rw [← Nat.pow_add, show 32 - k + k = 32 by omega]
     rw [e] at hk ⊢
     exact Nat.mul_le_mul_right _ (Nat.lt_of_mul_lt_mul_right hk)
   have hpow : 2 ^ (k + 1) = 2 * 2 ^ k := by rw [Nat.pow_succ, Nat.mul_comm]
   generalize hs : 2 ^ k = s at *
   have e1 : IntKind.u64.wrap (IntKind.u64.wrap (dt:Int) * IntKind.u64.wrap (s:Int)) = ((dt * s:Nat) : Int) := by
     rw [wu64 (n := (dt:Int)) (by omega) (by omega), wu64 (n := (s:Int)) (by omega) (by omega), ← Int.natCast_mul, wu64 (by omega) (by omega)]
   refine ⟨(dt:Int), ⟨by omega, by omega⟩, gb, ?_⟩
   rw [e1]
   refine ⟨fun h2 => ?_, fun h2 => ?_⟩
   · have h3 : dt * s < 2147483648 := by simp only [decide_eq_true_eq] at h2; omega
     have e2 : IntKind.u32.wrap ((2:Int) * (s:Int)) = ((2 * s:Nat) : Int) := by rw [u32_id (by omega) (by omega)]; omega
     rw [e2]
     refine ⟨⟨k + 1, by rw [hpow], ?_⟩, ?_⟩
     · rw [hpow, Nat.mul_left_comm]; omega
     · show (4294967296 - ((2 * s:Nat) : Int)).toNat < (4294967296 - (s:Int)).toNat; omega
   · have h3 : 2147483648 ≤ dt * s := by simp only [decide_eq_false_iff_not] at h2; omega
     have hA' : A * s < 4294967296 ^ L := Nat.lt_of_le_of_lt (Nat.mul_le_mul_left A (by omega)) hA
     have hD' : D * s < 4294967296 ^ L := Nat.lt_of_le_of_lt (Nat.mul_le_mul_left D (by omega)) hDL
     have hP : 0 < 4294967296 ^ (m + 1) := Nat.pow_pos (by decide)
     have t1 : 4294967296 ^ (m + 1) * 2147483648 ≤ D * s := by
       have g1 : 4294967296 ^ (m + 1) * 2147483648 ≤ 4294967296 ^ (m + 1) * (dt * s) := Nat.mul_le_mul_left _ h3
       have g2 : 4294967296 ^ (m + 1) * dt * s ≤ D * s := Nat.mul_le_mul_right _ (by omega)
       rw [Nat.mul_assoc] at g2
       omega
     have t2 : D * s < 4294967296 ^ (m + 2) := by
       have g1 : D < 4294967296 ^ (m + 1) * (dt + 1) := by rw [Nat.mul_add]; omega
       have g2 : D * s < 4294967296 ^ (m + 1) * (dt + 1) * s := Nat.mul_lt_mul_of_pos_right g1 hpk
       have g3 : 4294967296 ^ (m + 1) * ((dt + 1) * s) ≤ 4294967296 ^ (m + 1) * 4294967296 := Nat.mul_le_mul_left _ hdvd
       rw [Nat.pow_succ 4294967296 (m + 1)]
       rw [Nat.mul_assoc] at g2
       omega
     obtain ⟨dlen, dtop⟩ := topdig t1 t2
     have mS := made [s] (fun x hx => by simp at hx; omega) (by simp)
     rw [show val [s] = s by simp [val]] at mS
     have mA := made (digs A) (digs_lt A) (by omega)
     rw [val_digs] at mA
     have mD := made (digs D) (digs_lt D) (by omega)
     rw [val_digs] at mD
     have szS : Sz (s:Int) := Sz.of_lt 1 (by decide) (by simp; omega)
     have xA := rmul_ok (x := (A:Int)) (y := (s:Int)) (hsz (y := A) (by simp) (by omega)) szS
     have xD := rmul_ok (x := (D:Int)) (y := (s:Int)) (hsz (y := D) (by simp) (by omega)) szS
     rw [← Int.natCast_mul] at xA xD
     have hneg : ∀ n : Nat, decide ((n:Int) < 0) = false := fun n => decide_eq_false (by omega)
     refine ⟨_, _, mS, _, _, _, _, _, _, _, _, mA, xA, mD, xD, ?_⟩
     refine ⟨fun r0 r1 q0 q1 => ∃ R Q : Nat, r0 = false ∧ r1 = lim (digs R) ∧ q0 = false ∧ q1 = lim (digs Q) ∧ Q * (D * s) + R = A * s, fun _ r1 _ _ => valD r1, ⟨A * s, 0, hneg _, by rw [Int.natAbs_natCast], rfl, rfl, by omega⟩, ?_⟩
     rintro _ _ _ _ ⟨R, Q, rfl, rfl, rfl, rfl, hinv⟩
     have hRle : R ≤ A * s := by omega
     have hRlen := digs_len (n := R) (k := L) (by omega)
     have hless := less_ok (a := digs R) (b := digs (D * s)) (digs_lt _) (digs_lt _) (digs_canon _) (digs_canon _) (by omega)
     rw [val_digs, val_digs] at hless
     have eD : (((D * s:Nat) : Int)).natAbs = D * s := Int.natAbs_natCast _
     simp only [eD]
     refine ⟨_, hless, fun hlt => ?_, fun hlt => ?_⟩
     · have hle : D * s ≤ R := by simpa using hlt
       obtain ⟨st, hst0, hst1, hest⟩ := restim_ok (R := R) (D := D * s) (by omega) dtop hle (by omega)
       have hDs : 0 < D * s := Nat.mul_pos hD hpk
       have hstR : st ≤ st * (D * s) := Nat.le_mul_of_pos_right _ hDs
       have hQ : Q ≤ Q * (D * s) := Nat.le_mul_of_pos_right _ hDs
       have f1 := radd_ok (x := (Q:Int)) (y := (st:Int)) (hsz (y := A * s) (by rw [Int.natAbs_natCast]; omega) hA') (hsz (y := A * s) (by rw [Int.natAbs_natCast]; omega) hA')
       have f2 := rmul_ok (x := (st:Int)) (y := ((D * s:Nat) : Int)) (hsz (y := A * s) (by rw [Int.natAbs_natCast]; omega) hA') (hsz (y := D * s) (by rw [Int.natAbs_natCast]; omega) hD')
       rw [← Int.natCast_mul] at f2
       have f3 := rsub_ok (x := (R:Int)) (y := ((st * (D * s) : Nat) : Int)) (hsz (y := A * s) (by rw [Int.natAbs_natCast]; omega) hA') (hsz (y := A * s) (by rw [Int.natAbs_natCast]; omega) hA')
       rw [← Int.natCast_add] at f1
       rw [← Int.natCast_sub hst1] at f3
       have hR1 : R - st * (D * s) < R := by
         have : 0 < st * (D * s) := Nat.mul_pos hst0 hDs
         omega
       refine ⟨_, _, hest, _, _, f1, _, _, _, _, f2, f3, ⟨R - st * (D * s), Q + st, hneg _, by rw [Int.natAbs_natCast], hneg _, by rw [Int.natAbs_natCast], ?_⟩, ?_⟩
       · rw [Nat.add_mul]; omega
       · show valD _ < valD _
         rw [valD_lim, valD_lim, val_digs, val_digs, Int.natAbs_natCast]; exact hR1
     · have hlt' : R < D * s := by simpa using hlt
       obtain ⟨q1, q2⟩ := div_end hpk hinv hlt'
       have g1 := rshort_ok (l := digs R) (d := s) (digs_lt R) (by omega) hpk (by omega)
       obtain ⟨e3, e4⟩ := sQ_div (d := s) hpk (digs R)
       rw [val_digs] at e3
       have g2 := made (sQ s (digs R)).1 (sQ_dig hpk _ (digs_lt R)) (by rw [sQ_len]; omega)
       rw [e3, ← q2] at g2
       refine ⟨_, _, g1, _, _, g2, ?_⟩
       rw [q1]
       exact ⟨by simp only [ei, hneg, Int.natAbs_natCast], rfl⟩
end Go.AM
/- Division of integers: torsionref01.DivMod, torsionref12.Floor. -/
namespace Go.AM
open Go.Proofs.Try
theorem ediv_uniq {a b q r : Int} (hb : b ≠ 0) (h : r + b * q = a) (h0 : 0 ≤ r) (h1 : r < b.natAbs) : a / b = q ∧ a % b = r := by
 rcases Int.lt_or_gt_of_ne hb with hn | hp
 · have := (Int.ediv_emod_unique (a := a) (b := -b) (q := -q) (r := r) (by omega)).2 ⟨by rw [Int.neg_mul_neg]; exact h, h0, by omega⟩
   rw [Int.ediv_neg, Int.emod_neg] at this
   exact ⟨by omega, this.2⟩
 · exact (Int.ediv_emod_unique hp).2 ⟨h, h0, by omega⟩
theorem out3 {q q' r r' : Int} {e : Int} (h1 : q = q') (h2 : r = r') : Out (.tup [ei q', ei r', eD (dI e)])
   (V.tup [(E.agg [(sD (dB (decide (q < 0)))), (sD (dL (lim (digs q.natAbs))))]), (E.agg [(sD (dB (decide (r < 0)))), (sD (dL (lim (digs r.natAbs))))]), (eD (dI e))]) [] := by
 subst h1; subst h2; exact ⟨rfl, rfl⟩
theorem rdivmod_ok {x y : Int} {L : Nat} (hy : y ≠ 0) (hx : x.natAbs * 4294967296 < 4294967296 ^ L) (hy2 : y.natAbs * 4294967296 < 4294967296 ^ L) (hL : L ≤ 1073741824) :
   FnD prog 124 [eI x, eI y] (.tup [ei (x / y), ei (x % y), eD (dI 0)]) [] := by
 have hsz : ∀ {z : Int}, z.natAbs < 4294967296 ^ L → Sz z := fun h => Sz.of_lt L hL h
 have mk : ∀ z : Int, z.natAbs < 4294967296 ^ L → FnD prog 71 [vs (lim (digs z.natAbs)), vb (decide (z < 0))] (eI z) [] := fun z hz => by
   have := made_eI (digs z.natAbs) (decide (z < 0)) (digs_lt _) (Nat.le_trans (digs_len hz) (by omega))
   rw [val_digs] at this
   have e : (if decide (z < 0) = true then -((z.natAbs:Nat) : Int) else ((z.natAbs:Nat) : Int)) = z := by
     simp only [decide_eq_true_eq]; split <;> omega
   rwa [e] at this
 have mk' : ∀ z : Int, z.natAbs < 4294967296 ^ L → FnD prog 71 [vs (lim (digs z.natAbs)), vb false] (eI ((z.natAbs:Nat) : Int)) [] := fun z hz => by
   have := made_eI (digs z.natAbs) false (digs_lt _) (Nat.le_trans (digs_len hz) (by omega))
   rw [val_digs] at this
   simpa using this
 have hY : 0 < y.natAbs := by omega
 have h152 := rdivide_ok (A := x.natAbs) (D := y.natAbs) hY hx hy2 hL
 have hdm := Nat.div_add_mod x.natAbs y.natAbs
 have hml := Nat.mod_lt x.natAbs hY
 have hqle : x.natAbs / y.natAbs ≤ x.natAbs := Nat.div_le_self _ _
 have hcast : ((y.natAbs:Nat) : Int) * ((x.natAbs / y.natAbs:Nat) : Int) + ((x.natAbs % y.natAbs:Nat) : Int) = ((x.natAbs:Nat) : Int) := by
   rw [← Int.natCast_mul, ← Int.natCast_add, hdm]
 generalize hQ : x.natAbs / y.natAbs = Q at *
 generalize hM : x.natAbs % y.natAbs = M at *
 clear hdm hQ hM
 have hpos : ∀ n : Nat, (if ((n:Nat) : Int) = 0 then (0:Int) else if ((n:Nat) : Int) < 0 then -1 else 1) > 0 ↔ 0 < n := fun n => by
   split
   · omega
   · split <;> omega
 have rs := rsign_ok (M:Int)
 refine vc124_ok _ _ _ _ (R := Out _) ?_
 unfold vc124
 refine ⟨_, _, _, _, mk x (by omega), mk y (by omega), _, rsign_ok y, fun h => ?_, fun _ => ⟨_, _, _, _, h152, fun hneg => ?_, fun hneg => ?_⟩⟩
 · exfalso
   rw [if_neg hy] at h
   split at h <;> simp at h
 · have hx0 : x < 0 := by simpa using hneg
   refine ⟨_, rs, fun hp => ?_, fun hp => ?_⟩
   · have hM0 : 0 < M := (hpos M).1 (by simpa using hp)
     have f1 := rof_ok 1 (by decide) (by decide)
     have f2 := radd_ok (x := (Q:Int)) (y := 1) (hsz (by rw [Int.natAbs_natCast]; omega)) (Sz.of_lt 1 (by decide) (by decide))
     have f3 := rsub_ok (x := ((y.natAbs:Nat) : Int)) (y := (M:Int)) (hsz (by rw [Int.natAbs_natCast]; omega)) (hsz (by rw [Int.natAbs_natCast]; omega))
     refine ⟨_, _, _, _, f1, f2, _, _, _, _, mk' y (by omega), f3, fun hs => ?_, fun hs => ?_⟩
     · have hy0 : ¬ y < 0 := by
         intro hy0
         simp [hx0, hy0] at hs
       have := ediv_uniq (a := x) (b := y) (q := -((Q:Int) + 1)) (r := ((y.natAbs:Nat) : Int) - M) hy (by
         have e : ((y.natAbs:Nat) : Int) = y := by omega
         rw [e] at hcast ⊢
         rw [Int.mul_neg, Int.mul_add, Int.mul_one]; omega) (by omega) (by omega)
       exact ⟨_, _, rneg_ok (z := (Q:Int) + 1) (hsz (by omega)), out3 this.1.symm this.2.symm⟩
     · have hy0 : y < 0 := by
         apply Classical.byContradiction
         intro hy0
         simp [hx0, hy0] at hs
       have := ediv_uniq (a := x) (b := y) (q := (Q:Int) + 1) (r := ((y.natAbs:Nat) : Int) - M) hy (by
         have e : ((y.natAbs:Nat) : Int) = -y := by omega
         rw [e] at hcast ⊢
         rw [Int.neg_mul] at hcast
         rw [Int.mul_add, Int.mul_one]; omega) (by omega) (by omega)
       exact out3 this.1.symm this.2.symm
   · have hM0 : M = 0 := by
       have : ¬ 0 < M := fun h => by
         have := (hpos M).2 h
         simp only [decide_eq_false_iff_not] at hp
         exact hp this
       omega
     subst hM0
     refine ⟨fun hs => ?_, fun hs => ?_⟩
     · have hy0 : ¬ y < 0 := by
         intro hy0
         simp [hx0, hy0] at hs
       have := ediv_uniq (a := x) (b := y) (q := -(Q:Int)) (r := ((0:Nat) : Int)) hy (by
         have e : ((y.natAbs:Nat) : Int) = y := by omega
         rw [e] at hcast
         rw [Int.mul_neg]; omega) (by omega) (by omega)
       exact ⟨_, _, rneg_ok (z := (Q:Int)) (hsz (by rw [Int.natAbs_natCast]; omega)), out3 this.1.symm this.2.symm⟩
     · have hy0 : y < 0 := by
         apply Classical.byContradiction
         intro hy0
         simp [hx0, hy0] at hs
       have := ediv_uniq (a := x) (b := y) (q := (Q:Int)) (r := ((0:Nat) : Int)) hy (by
         have e : ((y.natAbs:Nat) : Int) = -y := by omega
         rw [e, Int.neg_mul] at hcast
         omega) (by omega) (by omega)
       exact out3 this.1.symm this.2.symm
 · have hx0 : ¬ x < 0 := by simpa using hneg
   refine ⟨fun hs => ?_, fun hs => ?_⟩
   · have hy0 : y < 0 := by
       apply Classical.byContradiction
       intro hy0
       simp [hx0, hy0] at hs
     have := ediv_uniq (a := x) (b := y) (q := -(Q:Int)) (r := (M:Int)) hy (by
       have e : ((y.natAbs:Nat) : Int) = -y := by omega
       rw [e, Int.neg_mul] at hcast
       rw [Int.mul_neg]; omega) (by omega) (by omega)
     exact ⟨_, _, rneg_ok (z := (Q:Int)) (hsz (by rw [Int.natAbs_natCast]; omega)), out3 this.1.symm this.2.symm⟩
   · have hy0 : ¬ y < 0 := by
       intro hy0
       simp [hx0, hy0] at hs
     have := ediv_uniq (a := x) (b := y) (q := (Q:Int)) (r := (M:Int)) hy (by
       have e : ((y.natAbs:Nat) : Int) = y := by omega
       rw [e] at hcast
       omega) (by omega) (by omega)
     exact out3 this.1.symm this.2.symm
theorem floor_ok {x y : Int} {L : Nat} (hy : y ≠ 0) (hx : x.natAbs * 4294967296 < 4294967296 ^ L) (hy2 : y.natAbs * 4294967296 < 4294967296 ^ L) (hL : L ≤ 1073741824) :
   FnD prog 125 [eI x, eI y] (eI (x / y)) [] := by
 refine vc125_ok _ _ _ _ (R := Out _) ?_
 unfold vc125
 exact ⟨_, _, _, _, _, rdivmod_ok hy hx hy2 hL, rfl, rfl⟩
end Go.AM
/- What functions of the program come to: group Oi. Printed by vc.py. -/
set_option maxRecDepth 100000
set_option linter.unusedVariables false
namespace Go.AM
open Go.Proofs.Try
def vc169 (a : DL) (d:Int) (R:V → Heap → Prop) : Prop :=
 (0 ≤ (a.length:Int) ∧ (a.length:Int) ≤ (a.length:Int) ∧ (a.length:Int) * (4:Nat) ≤ 281474976710656) ∧
 (∃ (J0 : (DL) → Int → Int → Prop) (μ0 : (DL) → Int → Int → Nat),
 J0 (List.replicate ((a.length:Int)).toNat [dU (0:Int)]) (0:Int) (IntKind.i64.wrap ((a.length:Int) - (1:Int))) ∧ ∀ (out : DL) (rest i:Int),J0 out rest i →
 (decide (i ≥ (0:Int)) = true →
 ∃ (vx:Int),
 (0 ≤ (32:Int)) ∧
 (0 ≤ i ∧ i < (a.length:Int)) ∧
 (a[(i).toNat]? = some [dU vx]) ∧
 (((IntKind.u64.wrap d) ≠ 0) ∧
 (0 ≤ i ∧ i < (out.length:Int)) ∧
 (J0 (out.set (i).toNat [dU (IntKind.u32.wrap (IntKind.u64.wrap ((bitsI .u64 (· ||| ·) (IntKind.u64.wrap (rest * 2 ^ (min (32:Int).toNat IntKind.u64.bits))) (IntKind.u64.wrap vx)).tdiv (IntKind.u64.wrap d))))]) ((bitsI .u64 (· ||| ·) (IntKind.u64.wrap (rest * 2 ^ (min (32:Int).toNat IntKind.u64.bits))) (IntKind.u64.wrap vx)).tmod (IntKind.u64.wrap d)) (IntKind.i64.wrap (i - (1:Int))) ∧ μ0 (out.set (i).toNat [dU (IntKind.u32.wrap (IntKind.u64.wrap ((bitsI .u64 (· ||| ·) (IntKind.u64.wrap (rest * 2 ^ (min (32:Int).toNat IntKind.u64.bits))) (IntKind.u64.wrap vx)).tdiv (IntKind.u64.wrap d))))]) ((bitsI .u64 (· ||| ·) (IntKind.u64.wrap (rest * 2 ^ (min (32:Int).toNat IntKind.u64.bits))) (IntKind.u64.wrap vx)).tmod (IntKind.u64.wrap d)) (IntKind.i64.wrap (i - (1:Int))) < μ0 out rest i))) ∧
 (decide (i ≥ (0:Int)) = false →
 R (V.tup [eD (dL out),eD (dU (IntKind.u32.wrap rest))]) []))
theorem vc169_ok (a : DL) (d:Int) {R:V → Heap → Prop} (h : vc169 a d R) : FnG prog 169 [vD (dL a),vD (dU d)] [] R :=
 FnG.vcg hT func169 ntmps169 (.r0 [0,1] <| .reg 1 [(2,Or.none,0,1)] [0,1,6] [0] [] <| .r1 [0,1,6,7] [0] <| .r1 [0,1,6,7,8] [0] <| .lp [.l,.i,.i] (fun out rest i => ⟨[(0,vD (dL a)),(1,vD (dU d)),(6,vR 0),(7,vD (D.int .u64 rest)),(8,vD (dI i))],[some (Obj.arr 1 out)],42⟩) [.l (List.replicate ((a.length:Int)).toNat [dU (0:Int)]),.i (0:Int),.i (IntKind.i64.wrap ((a.length:Int) - (1:Int)))] <| .fl fun out => .fi fun rest => .fi fun i => .beg <| .r1 [0,1,6,7,8,16] [0] <| .c2 (.ex fun vx => .reg 0 [(5,Or.cells [dU vx],0,0)] [0,1,6,7,8] [0] [] <| .r1 [0,1,6,7,8] [0] <| .reg 0 [] [0,1,6,7,8] [0] [.old 1] <| .r1 [0,1,6,7,8] [0] <| .bk 0 [.l (out.set (i).toNat [dU (IntKind.u32.wrap (IntKind.u64.wrap ((bitsI .u64 (· ||| ·) (IntKind.u64.wrap (rest * 2 ^ (min (32:Int).toNat IntKind.u64.bits))) (IntKind.u64.wrap vx)).tdiv (IntKind.u64.wrap d))))]),.i ((bitsI .u64 (· ||| ·) (IntKind.u64.wrap (rest * 2 ^ (min (32:Int).toNat IntKind.u64.bits))) (IntKind.u64.wrap vx)).tmod (IntKind.u64.wrap d)),.i (IntKind.i64.wrap (i - (1:Int)))]) (.r1 [4,5] [0] <| .frz [0] <| .ret []))
   (by kernel_rfl) (by kernel_rfl) (by kernel_rfl) h
def vc171 (vx:Int) (R:V → Heap → Prop) : Prop :=
 ∃ (r:Int),
 (FnD prog 173 [vD (dU vx)] (vD (dI r)) []) ∧
 (R (vD (dI (IntKind.i64.wrap ((32:Int) - r)))) [])
theorem vc171_ok (vx:Int) {R:V → Heap → Prop} (h : vc171 vx R) : FnG prog 171 [vD (dU vx)] [] R :=
 FnG.vcg hT func171 ntmps171 (.r0 [0] <| .ex fun r => .reg 0 [(1,Or.call (vD (dI r)) [] [],0,0)] [2] [] [] <| .ret [])
   (by kernel_rfl) (by kernel_rfl) (by kernel_rfl) h
end Go.AM
/- Division of integers: integer.short. -/
namespace Go.AM
open Go.Proofs.Try
theorem or32 {r x : Nat} (hr : r < 4294967296) (hx : x < 4294967296) : bitsI .u64 (· ||| ·) ((r * 4294967296:Nat) : Int) (x:Int) = ((r * 4294967296 + x:Nat) : Int) := by
 unfold bitsI
 have hb : IntKind.u64.bits = 64 := rfl
 have e1 : BitVec.ofInt IntKind.u64.bits ((r * 4294967296:Nat) : Int) = BitVec.ofNat 64 (r * 4294967296) := BitVec.ofInt_natCast ..
 have e2 : BitVec.ofInt IntKind.u64.bits (x:Int) = BitVec.ofNat 64 x := BitVec.ofInt_natCast ..
 rw [e1, e2]
 have e3 : ((BitVec.ofNat 64 (r * 4294967296) ||| BitVec.ofNat 64 x : BitVec 64)).toNat = r * 4294967296 + x := by
   rw [BitVec.toNat_or, BitVec.toNat_ofNat, BitVec.toNat_ofNat, Nat.mod_eq_of_lt (by omega), Nat.mod_eq_of_lt (by omega)]
   have := Nat.shiftLeft_add_eq_or_of_lt (i := 32) (b := x) (by omega) r
   rw [Nat.shiftLeft_eq] at this
   exact this.symm
 have e4 : (((BitVec.ofNat 64 (r * 4294967296)) ||| (BitVec.ofNat 64 x) : BitVec 64).toNat:Int) = ((r * 4294967296 + x:Nat) : Int) := by rw [e3]
 exact (congrArg IntKind.u64.wrap e4).trans (wu64 (by omega) (by omega))
theorem shl32 {r : Nat} (hr : r < 4294967296) : IntKind.u64.wrap ((r:Int) * 2 ^ (min (32:Int).toNat IntKind.u64.bits)) = ((r * 4294967296:Nat) : Int) := by
 have : ((2:Int) ^ (min (32:Int).toNat IntKind.u64.bits)) = 4294967296 := by decide
 rw [this, wu64 (by omega) (by omega)]; omega
theorem short_ok {l : List Nat} {d : Nat} (hB : ∀ x ∈ l, x < 4294967296) (hl : l.length ≤ 1099511627776) (hd : 0 < d) (hd' : d < 4294967296) :
   FnD prog 169 [vs (lim l), vD (dU d)] (.tup [eD (dL (lim (sQ d l).1)), eD (dU (sQ d l).2)]) [] := by
 refine vc169_ok _ _ (R := Out _) ?_
 unfold vc169
 simp only [lim_length]
 refine ⟨⟨by omega, by omega, by omega⟩, fun out rest t => ∃ n : Nat, t = (n:Int) - 1 ∧ n ≤ l.length ∧ out = lim (List.replicate n 0 ++ (sQ d (l.drop n)).1) ∧ rest = ((sQ d (l.drop n)).2:Nat), fun _ _ t => (t + 1).toNat,
   ⟨l.length, by rw [w64 (by omega) (by omega)], Nat.le_refl _, ?_, ?_⟩, ?_⟩
 · rw [Int.toNat_natCast, List.drop_length]; simp [sQ, lim]
 · rw [List.drop_length]; rfl
 rintro _ _ _ ⟨n, rfl, hn, rfl, rfl⟩
 refine ⟨fun h => ?_, fun h => ?_⟩
 · have h1 : 0 < n := by simp at h; omega
   obtain ⟨i, rfl⟩ : ∃ i, n = i + 1 := ⟨n - 1, by omega⟩
   have hi : i < l.length := by omega
   have ei : (((i + 1:Nat) : Int) - 1) = (i:Int) := by omega
   have hdrop : l.drop i = l[i] :: l.drop (i + 1) := List.drop_eq_getElem_cons hi
   have hx := hB _ (List.getElem_mem hi)
   have hr := sQ_lt hd (l.drop (i + 1))
   have hs : (sQ d (l.drop i)) = (((((sQ d (l.drop (i + 1))).2 * 4294967296 + l[i]) / d) :: (sQ d (l.drop (i + 1))).1), ((sQ d (l.drop (i + 1))).2 * 4294967296 + l[i]) % d) := by rw [hdrop]; rfl
   generalize hrr : (sQ d (l.drop (i + 1))).2 = r at *
   generalize (sQ d (l.drop (i + 1))).1 = qs at *
   have hsum : r * 4294967296 + l[i] < d * 4294967296 := by
     have : (r + 1) * 4294967296 ≤ d * 4294967296 := Nat.mul_le_mul_right _ hr
     omega
   have hdiv : (r * 4294967296 + l[i]) / d < 4294967296 := by rw [Nat.div_lt_iff_lt_mul hd]; omega
   have e1 : bitsI .u64 (· ||| ·) (IntKind.u64.wrap ((r:Int) * 2 ^ (min (32:Int).toNat IntKind.u64.bits))) (IntKind.u64.wrap ((l[i] : Nat) : Int)) = ((r * 4294967296 + l[i] : Nat) : Int) := by
     rw [shl32 (by omega), wu64 (n := ((l[i] : Nat) : Int)) (by omega) (by omega), or32 (by omega) hx]
   have e2 : IntKind.u64.wrap (d:Int) = (d:Int) := wu64 (by omega) (by omega)
   have e3 : (((r * 4294967296 + l[i] : Nat) : Int).tdiv (d:Int)) = (((r * 4294967296 + l[i]) / d:Nat) : Int) := by rw [Int.tdiv_eq_ediv_of_nonneg (by omega)]; rfl
   have e4 : (((r * 4294967296 + l[i] : Nat) : Int).tmod (d:Int)) = (((r * 4294967296 + l[i]) % d:Nat) : Int) := by rw [Int.tmod_eq_emod_of_nonneg (by omega)]; rfl
   rw [ei]
   refine ⟨((l[i] : Nat) : Int), by decide, ⟨by omega, by omega⟩, by rw [Int.toNat_natCast]; exact lim_get hi, ?_, ⟨by omega, by rw [lim_length]; simp; omega⟩, ?_⟩
   · rw [e2]; omega
   generalize (r * 4294967296 + l[i]) / d = qq at *
   generalize (r * 4294967296 + l[i]) % d = mm at *
   rw [e1, e2, e3, e4, wu64 (n := (qq:Int)) (by omega) (by omega), u32_id (by omega) (by omega), w64 (by omega) (by omega), Int.toNat_natCast, lim_set, rep_set]
   refine ⟨⟨i, by omega, by omega, ?_, ?_⟩, ?_⟩
   · rw [hs]
   · rw [hs]
   · show ((i:Int) - 1 + 1).toNat < ((i:Int) + 1).toNat; omega
 · have hn0 : n = 0 := by simp at h; omega
   subst hn0
   have hr := sQ_lt hd l
   simp only [List.drop_zero, List.replicate_zero, List.nil_append]
   rw [u32_id (by omega) (by omega)]
   exact ⟨rfl, rfl⟩
end Go.AM
/- bits.Len32, bits.LeadingZeros32. -/
namespace Go.AM
open Go.Proofs.Try
def blen (n:Nat) : Nat := if n = 0 then 0 else Nat.log2 n + 1
theorem blen_div {n k : Nat} (h : 2 ^ k ≤ n) : blen (n / 2 ^ k) + k = blen n := by
 have hp : 0 < 2 ^ k := Nat.pow_pos (by decide)
 have h0 : n ≠ 0 := by omega
 have h1 : n / 2 ^ k ≠ 0 := by
   have := Nat.div_pos h hp
   omega
 unfold blen
 rw [if_neg h0, if_neg h1]
 have a1 : k ≤ Nat.log2 n := (Nat.le_log2 h0).2 h
 have a2 : 2 ^ Nat.log2 n ≤ n := Nat.log2_self_le h0
 have a3 : n < 2 ^ (Nat.log2 n + 1) := Nat.lt_log2_self
 have b1 : Nat.log2 n - k ≤ Nat.log2 (n / 2 ^ k) := by
   rw [Nat.le_log2 h1, Nat.le_div_iff_mul_le hp, ← Nat.pow_add, Nat.sub_add_cancel a1]; exact a2
 have b2 : Nat.log2 (n / 2 ^ k) < Nat.log2 n - k + 1 := by
   rw [Nat.log2_lt h1, Nat.div_lt_iff_lt_mul hp, ← Nat.pow_add]
   rw [show Nat.log2 n - k + 1 + k = Nat.log2 n + 1 by omega]; exact a3
 omega
theorem blen_bounds {n : Nat} (h : n ≠ 0) : 2 ^ (blen n - 1) ≤ n ∧ n < 2 ^ blen n := by
 unfold blen
 rw [if_neg h]
 exact ⟨by simpa using Nat.log2_self_le h, Nat.lt_log2_self⟩
theorem u32_shr (x:Nat) (k:Nat) (hk : k ≤ 32) : ((x:Int)).fdiv (2 ^ (min (k:Int).toNat IntKind.u32.bits)) = ((x / 2 ^ k:Nat) : Int) := by
 have hb : IntKind.u32.bits = 32 := rfl
 rw [hb, Int.toNat_natCast, Nat.min_eq_left hk]
 rw [Int.fdiv_eq_ediv_of_nonneg _ (by exact Int.le_of_lt (Int.pow_pos (by decide)))]
 rw [show ((2:Int) ^ k) = ((2 ^ k:Nat) : Int) by simp]
 rfl
theorem Does.cond {P : Program} {n0 : Nat} {c : Operand} {x y : Code} {σ σ' : St} {t : Bool} (hc : ev σ.t c = some (vbool t)) (h : Does P n0 (if t then x else y) σ σ') : Does P n0 (.cond c x y) σ σ' := fun ro n I M a w s =>
 wpIn_cond (relV_bool (s.ev hc)) (h ro n I M a w s)
theorem Does.skip {P : Program} {n0 : Nat} {σ : St} : Does P n0 .skip σ σ := fun _ _ I M _ _ s =>
 wpIn_skip ⟨rfl, I, M, s, Ext.refl _ _ _, fun _ h => .inl h, fun _ _ _ h => h⟩
abbrev lnT (x n:Nat) : St := ⟨[(0, vD (dU x)), (2, vD (dI n))], [], 19⟩
def lenTab : ByteArray := ⟨#[0] ++ Array.replicate 1 1 ++ Array.replicate 2 2 ++ Array.replicate 4 3 ++ Array.replicate 8 4 ++ Array.replicate 16 5 ++ Array.replicate 32 6 ++ Array.replicate 64 7 ++ Array.replicate 128 8⟩
theorem lenTab_ok : ∀ y : Fin 256, (lenTab.data[y.val]?).map (·.toNat) = some (blen y.val) := by decide +kernel
theorem lenTab_at {y : Nat} (h : y < 256) : ∃ b : UInt8, lenTab[y]? = some b ∧ b.toNat = blen y := by
 have := lenTab_ok ⟨y, h⟩
 simp only [Option.map_eq_some_iff] at this
 obtain ⟨b, h1, h2⟩ := this
 refine ⟨b, ?_, h2⟩
 rw [← h1]; rfl
theorem u9 : prog.underlying 9 = some .string := by kernel_rfl
theorem wpIn_table {n : Nat} {a : Act} {w : World} {o : Oper} {x i : Operand} {y : Nat} {next:Act → World → Prop} {Q : Exit → Act → World → Prop}
   (ho : o.op = .index 9 x i) (hx : a.eval x = .string lenTab) (hi : a.eval i = .int .u8 (y:Int)) (hy : y < 256) (h : next (a.put o.dst (.int .u8 ((blen y:Nat) : Int))) w) : o.wpIn Fence.wide n prog a w next Q := by
 obtain ⟨b, h1, h2⟩ := lenTab_at hy
 refine ⟨fun _ _ => trivial, ?_⟩
 have hrun : (o.semAt none a.eval).run prog w = .ok (.value (.int .u8 ((blen y:Nat) : Int))) w := by
   rw [Oper.semAt_none]
   obtain ⟨dst, op, ty, pos, after, guard⟩ := o
   simp only at ho
   subst ho
   simp [execOp, hx, hi, Instr.index, asIntOf, run_underlying u9, h1, h2]
 show o.uponIn Fence.wide n prog a next Q ((o.semAt none a.eval).run prog w)
 rw [hrun, Oper.uponIn_value]
 exact h
set_option maxRecDepth 100000 in
set_option maxHeartbeats 1000000 in
theorem len32_ok {x : Nat} (hx : x < 4294967296) : FnD prog 173 [vD (dU x)] (vi ((blen x:Nat) : Int)) [] := by
 refine ⟨⟨f173, func173, rfl, by kernel_rfl⟩, fun I M w vs s hr => ?_⟩
 refine (callsIn_wide (n := 0)).1 (callsIn_of_wp func173 rfl trivial ?_)
 have s0 := Sim.start (fn := f173) ntmps173 (args := [vD (dU x)]) (by simp) s hr
 refine wpIn_seq (wpIn_mono (Does.regV hT (n0 := 0) [0, 2] [] (σ' := lnT x 0) (cnt := 0) (ins := [o0]) (obs := []) (by kernel_rfl) rfl rfl (by kernel_rfl) trivial none 0 I M _ w s0) ?_)
 rintro e a1 w1 ⟨rfl, I1, M1, s1, n1⟩
 have d1 : ∃ y m : Nat, y < 65536 ∧ m ≤ 16 ∧ blen y + m = blen x ∧ (65536 ≤ x ∧ y = x / 2 ^ 16 ∧ m = 16 ∨ x < 65536 ∧ y = x ∧ m = 0) := by
   by_cases h : 65536 ≤ x
   · exact ⟨x / 2 ^ 16, 16, by omega, by omega, blen_div (by omega), .inl ⟨h, rfl, rfl⟩⟩
   · exact ⟨x, 0, by omega, by omega, rfl, .inr ⟨by omega, rfl, rfl⟩⟩
 obtain ⟨y, m, hy, hm, hb, hcase⟩ := d1
 have e16 : ((x:Int)).fdiv (2 ^ (min (16:Int).toNat IntKind.u32.bits)) = ((x / 2 ^ 16:Nat) : Int) := u32_shr x 16 (by decide)
 refine wpIn_seq (wpIn_mono (Does.seq (σ1 := ⟨[(0, vD (dU x)), (2, vD (dI 0)), (4, vD (dB (decide ((x:Int) ≥ 65536))))], [], 19⟩) (σ2 := lnT y m) (n0 := 0)
   (Does.regV hT [0, 2, 4] [] (cnt := 0) (ins := [o0, o0]) (obs := []) (by kernel_rfl) rfl rfl (by kernel_rfl) trivial)
   (Does.cond (t := decide ((x:Int) ≥ 65536)) rfl ?_) none 0 I1 M1 a1 w1 s1) ?_)
 · rcases hcase with ⟨h1, rfl, rfl⟩ | ⟨h1, rfl, rfl⟩
   · rw [decide_eq_true (by omega), if_pos rfl]
     refine Does.seq (σ1 := lnT (x / 2 ^ 16) 0) (by
       show Does prog 0 _ _ ⟨[(0, vD (dU ((x / 2 ^ 16:Nat) : Int))), (2, vD (dI 0))], [], 19⟩
       rw [← e16]
       exact Does.regV hT [0, 2] [] (cnt := 0) (ins := [o0, o0, o0]) (obs := [0 ≤ (16:Int)]) (by kernel_rfl) rfl rfl (by kernel_rfl) ⟨by decide, trivial⟩) (Does.regV hT [0, 2] [] (cnt := 0) (ins := [o0]) (obs := []) (by kernel_rfl) rfl rfl (by kernel_rfl) trivial)
   · rw [decide_eq_false (by omega), if_neg (by simp)]
     exact (Does.skip (n0 := 0)).wk (xview_ok (live := [0, 2]) (ids := []) (by kernel_rfl) rfl rfl)
 rintro e a2 w2 ⟨rfl, I2, M2, s2, n2⟩
 have d2 : ∃ z k : Nat, z < 256 ∧ k ≤ 8 ∧ blen z + k = blen y ∧ (256 ≤ y ∧ z = y / 2 ^ 8 ∧ k = 8 ∨ y < 256 ∧ z = y ∧ k = 0) := by
   by_cases h : 256 ≤ y
   · exact ⟨y / 2 ^ 8, 8, by omega, by omega, blen_div (by omega), .inl ⟨h, rfl, rfl⟩⟩
   · exact ⟨y, 0, by omega, by omega, rfl, .inr ⟨by omega, rfl, rfl⟩⟩
 obtain ⟨z, k, hz, hk, hb2, hcase2⟩ := d2
 have e8 : ((y:Int)).fdiv (2 ^ (min (8:Int).toNat IntKind.u32.bits)) = ((y / 2 ^ 8:Nat) : Int) := u32_shr y 8 (by decide)
 have em : IntKind.i64.wrap ((m:Int) + 8) = ((m + 8:Nat) : Int) := by rw [w64 (by omega) (by omega)]; omega
 refine wpIn_seq (wpIn_mono (Does.seq (σ1 := ⟨[(0, vD (dU y)), (2, vD (dI m)), (8, vD (dB (decide ((y:Int) ≥ 256))))], [], 19⟩) (σ2 := lnT z (m + k)) (n0 := 0)
   (Does.regV hT [0, 2, 8] [] (cnt := 0) (ins := [o0, o0]) (obs := []) (by kernel_rfl) rfl rfl (by kernel_rfl) trivial)
   (Does.cond (t := decide ((y:Int) ≥ 256)) rfl ?_) none 0 I2 M2 a2 w2 s2) ?_)
 · clear hcase
   rcases hcase2 with ⟨h1, rfl, rfl⟩ | ⟨h1, rfl, rfl⟩
   · rw [decide_eq_true (by omega), if_pos rfl]
     refine Does.seq (σ1 := lnT (y / 2 ^ 8) m) (by
       show Does prog 0 _ _ ⟨[(0, vD (dU ((y / 2 ^ 8:Nat) : Int))), (2, vD (dI m))], [], 19⟩
       rw [← e8]
       exact Does.regV hT [0, 2] [] (cnt := 0) (ins := [o0, o0, o0]) (obs := [0 ≤ (8:Int)]) (by kernel_rfl) rfl rfl (by kernel_rfl) ⟨by decide, trivial⟩) (by
       show Does prog 0 _ _ ⟨[(0, vD (dU ((y / 2 ^ 8:Nat) : Int))), (2, vD (dI ((m + 8:Nat) : Int)))], [], 19⟩
       rw [← em]
       exact Does.regV hT [0, 2] [] (cnt := 0) (ins := [o0, o0, o0]) (obs := []) (by kernel_rfl) rfl rfl (by kernel_rfl) trivial)
   · rw [decide_eq_false (by omega), if_neg (by simp)]
     exact (Does.skip (n0 := 0)).wk (xview_ok (live := [0, 2]) (ids := []) (by kernel_rfl) rfl rfl)
 rintro e a3 w3 ⟨rfl, I3, M3, s3, n3⟩
 have ez : IntKind.u8.wrap (z:Int) = (z:Int) := by show (z:Int) % 256 = z; omega
 have hbz : blen z ≤ 8 := by
   unfold blen
   split
   · omega
   · rename_i h0
     have := (Nat.log2_lt (k := 8) h0).2 (by omega)
     omega
 refine wpIn_seq (wpIn_region (xpart_ok (k := 0) (c := 3) (rest := [3, 4, 5, 6]) hT (ins := [o0, o0, o0]) (live := [13, 15]) (σ' := ⟨[(13, vD (dI ((m + k:Nat) : Int))), (15, vD (D.int .u8 (IntKind.u8.wrap (z:Int))))], [], 19⟩) (obs := []) (by kernel_rfl) trivial s3 ?_))
 intro a4 w4 I4 M4 s4 n4
 have h15 : a4.eval (.tmp 15) = .int .u8 (z:Int) := by
   have h : Reads w4 I4 (a4.tmps.getD 15 undef) (.int .u8 (IntKind.u8.wrap (z:Int))) := s4.tm 15 (vD (D.int .u8 (IntKind.u8.wrap (z:Int)))) (by simp)
   rw [ez] at h
   show a4.tmps.getD 15 undef = _
   generalize a4.tmps.getD 15 undef = q at h
   cases h; rfl
 refine wpOpsIn_one rfl rfl (wpIn_table rfl (by kernel_rfl) h15 hz ?_)
 have s5 : Sim I4 M4 ⟨[(13, vD (dI ((m + k:Nat) : Int))), (16, vD (D.int .u8 ((blen z:Nat) : Int)))], [], 19⟩ (a4.put (some 16) (.int .u8 ((blen z:Nat) : Int))) w4 := by
   have hsz : a4.tmps.size = 19 := s4.size
   refine { toSimH := s4.toSimH, tm := fun i v hv => ?_, size := by simp [Act.put, hsz], defers := s4.defers }
   simp only [List.mem_cons, Prod.mk.injEq, List.not_mem_nil, or_false] at hv
   rcases hv with ⟨rfl, rfl⟩ | ⟨rfl, rfl⟩
   · have : (a4.put (some 16) (.int .u8 ((blen z:Nat) : Int))).tmps.getD 13 undef = a4.tmps.getD 13 undef := by simp [Act.put, Array.getD_eq_getD_getElem?]
     rw [this]; exact s4.tm 13 _ (by simp)
   · have : (a4.put (some 16) (.int .u8 ((blen z:Nat) : Int))).tmps.getD 16 undef = .int .u8 ((blen z:Nat) : Int) := by simp [Act.put, Array.getD_eq_getD_getElem?, hsz]
     rw [this]; exact Reads.int _ _
 refine xpart_ok (k := 4) (c := 3) (rest := []) hT (ins := [o0, o0, o0]) (live := [2]) (σ' := ⟨[(2, vD (dI (IntKind.i64.wrap (((m + k:Nat) : Int) + IntKind.i64.wrap ((blen z:Nat) : Int)))))], [], 19⟩) (obs := []) (by kernel_rfl) trivial s5 ?_
 intro a6 w6 I6 M6 s6 n6
 refine wpIn_ret ?_
 have er : IntKind.i64.wrap (((m + k:Nat) : Int) + IntKind.i64.wrap ((blen z:Nat) : Int)) = ((blen x:Nat) : Int) := by
   rw [w64 (n := ((blen z:Nat) : Int)) (by omega) (by omega), w64 (by omega) (by omega)]; omega
 rw [er] at s6
 obtain ⟨u, h1, h2⟩ := results_ok hT s6 (fn := f173) (r := vi ((blen x:Nat) : Int)) (by kernel_rfl)
 have no0 : ∀ {M : Mem} b, ¬ fpAll M [] b := fun b ⟨o, ho⟩ => by simp [fpAt] at ho
 have nA := (((n1.trans n2).trans n3).trans n4).trans ⟨n6.ext, n6.fp, n6.mono⟩
 refine ⟨s6.defers, u, h1, u, _, [], I6, M6, rfl, ⟨rfl, rfl⟩, h2, s6.toSimH, nA.ext, fun b hb => absurd hb (no0 b), fun o e ho => by simp at ho⟩
theorem blen_le {x k : Nat} (h : x < 2 ^ k) : blen x ≤ k := by
 unfold blen
 split
 · omega
 · rename_i h0
   have := (Nat.log2_lt (k := k) h0).2 h
   omega
theorem lz32_ok {x : Nat} (hx : x < 4294967296) : FnD prog 171 [vD (dU x)] (vi ((32 - blen x:Nat) : Int)) [] := by
 refine vc171_ok _ (R := Out _) ?_
 unfold vc171
 have h := blen_le (k := 32) hx
 refine ⟨_, len32_ok hx, outi ?_⟩
 rw [w64 (by omega) (by omega)]; omega
theorem lz_top {x : Nat} (h0 : x ≠ 0) (hx : x < 4294967296) : 2147483648 ≤ x * 2 ^ (32 - blen x) ∧ x * 2 ^ (32 - blen x) < 4294967296 := by
 obtain ⟨h1, h2⟩ := blen_bounds h0
 have h3 := blen_le (k := 32) hx
 have h4 : 0 < blen x := by unfold blen; rw [if_neg h0]; omega
 have e1 : 2 ^ (blen x - 1) * 2 ^ (32 - blen x) = 2147483648 := by rw [← Nat.pow_add, show blen x - 1 + (32 - blen x) = 31 by omega]
 have e2 : 2 ^ blen x * 2 ^ (32 - blen x) = 4294967296 := by rw [← Nat.pow_add, show blen x + (32 - blen x) = 32 by omega]
 have p : 0 < 2 ^ (32 - blen x) := Nat.pow_pos (by decide)
 exact ⟨by rw [← e1]; exact Nat.mul_le_mul_right _ h1, by rw [← e2]; exact Nat.mul_lt_mul_of_pos_right h2 p⟩
end Go.AM
/- What functions of the program come to: group Oj. Printed by vc.py. -/
set_option maxRecDepth 100000
set_option linter.unusedVariables false
namespace Go.AM
open Go.Proofs.Try
def vc172o (a : DL) (k:Int) (R:V → Heap → Prop) : Prop :=
 (0 ≤ (IntKind.i64.wrap ((a.length:Int) + (1:Int))) ∧ (IntKind.i64.wrap ((a.length:Int) + (1:Int))) ≤ (IntKind.i64.wrap ((a.length:Int) + (1:Int))) ∧ (IntKind.i64.wrap ((a.length:Int) + (1:Int))) * (4:Nat) ≤ 281474976710656) ∧
 (∃ (J0 : (DL) → Int → Prop) (μ0 : (DL) → Int → Nat),
 J0 (List.replicate ((IntKind.i64.wrap ((a.length:Int) + (1:Int)))).toNat [dU (0:Int)]) (0:Int) ∧ ∀ (out : DL) (t15:Int),J0 out t15 →
 (decide (t15 < (a.length:Int)) = true →
 ∃ (vx:Int),
 (0 ≤ t15 ∧ t15 < (a.length:Int)) ∧
 (a[(t15).toNat]? = some [dU vx]) ∧
 ((0 ≤ k) ∧
 (∃ (vx1:Int),
 (0 ≤ t15 ∧ t15 < (out.length:Int)) ∧
 (out[(t15).toNat]? = some [dU vx1]) ∧
 ((0 ≤ (32:Int)) ∧
 (0 ≤ (IntKind.i64.wrap (t15 + (1:Int))) ∧ (IntKind.i64.wrap (t15 + (1:Int))) < ((out.set (t15).toNat [dU (bitsI .u32 (· ||| ·) vx1 (IntKind.u32.wrap (IntKind.u64.wrap ((IntKind.u64.wrap vx) * 2 ^ (min k.toNat IntKind.u64.bits)))))]).length:Int)) ∧
 (J0 ((out.set (t15).toNat [dU (bitsI .u32 (· ||| ·) vx1 (IntKind.u32.wrap (IntKind.u64.wrap ((IntKind.u64.wrap vx) * 2 ^ (min k.toNat IntKind.u64.bits)))))]).set ((IntKind.i64.wrap (t15 + (1:Int)))).toNat [dU (IntKind.u32.wrap ((IntKind.u64.wrap ((IntKind.u64.wrap vx) * 2 ^ (min k.toNat IntKind.u64.bits))).fdiv (2 ^ (min (32:Int).toNat IntKind.u64.bits))))]) (IntKind.i64.wrap (t15 + (1:Int))) ∧ μ0 ((out.set (t15).toNat [dU (bitsI .u32 (· ||| ·) vx1 (IntKind.u32.wrap (IntKind.u64.wrap ((IntKind.u64.wrap vx) * 2 ^ (min k.toNat IntKind.u64.bits)))))]).set ((IntKind.i64.wrap (t15 + (1:Int)))).toNat [dU (IntKind.u32.wrap ((IntKind.u64.wrap ((IntKind.u64.wrap vx) * 2 ^ (min k.toNat IntKind.u64.bits))).fdiv (2 ^ (min (32:Int).toNat IntKind.u64.bits))))]) (IntKind.i64.wrap (t15 + (1:Int))) < μ0 out t15))))) ∧
 (decide (t15 < (a.length:Int)) = false →
 R (V.e (E.sc (S.ref 0))) [some (Obj.arr 1 out)]))
theorem vc172o_ok (a : DL) (k:Int) {R:V → Heap → Prop} (h : vc172o a k R) : FnG prog 172 [vD (dL a),vD (dI k)] [] R :=
 FnG.vcg hT func172 ntmps172 (.r0 [0,1] <| .reg 1 [(3,Or.none,0,1)] [0,1,5] [0] [] <| .r1 [1,5,13,14,15] [0] <| .lp [.l,.i] (fun out t15 => ⟨[(1,vD (dI k)),(5,vR 0),(13,vD (dL a)),(14,vD (dI (a.length:Int))),(15,vD (dI t15))],[some (Obj.arr 1 out)],41⟩) [.l (List.replicate ((IntKind.i64.wrap ((a.length:Int) + (1:Int)))).toNat [dU (0:Int)]),.i (0:Int)] <| .fl fun out => .fi fun t15 => .beg <| .r1 [1,5,13,14,15,16] [0] <| .c2 (.ex fun vx => .reg 0 [(2,Or.cells [dU vx],0,0)] [1,5,6,7,13,14,15] [0] [] <| .r1 [1,5,6,8,13,14,15] [0] <| .ex fun vx1 => .reg 0 [(3,Or.cells [dU vx1],0,0)] [1,5,6,8,13,14,15] [0] [.new,.new,.old 1] <| .r1 [1,5,13,14,15] [0] <| .r1 [1,5,13,14,15] [0] <| .bk 0 [.l ((out.set (t15).toNat [dU (bitsI .u32 (· ||| ·) vx1 (IntKind.u32.wrap (IntKind.u64.wrap ((IntKind.u64.wrap vx) * 2 ^ (min k.toNat IntKind.u64.bits)))))]).set ((IntKind.i64.wrap (t15 + (1:Int)))).toNat [dU (IntKind.u32.wrap ((IntKind.u64.wrap ((IntKind.u64.wrap vx) * 2 ^ (min k.toNat IntKind.u64.bits))).fdiv (2 ^ (min (32:Int).toNat IntKind.u64.bits))))]),.i (IntKind.i64.wrap (t15 + (1:Int)))]) (.r1 [4] [0] <| .ret [0]))
   (by kernel_rfl) (by kernel_rfl) (by kernel_rfl) h
def tailP (v : DL) (i:Int) (u q : DL) (guess:Int) (J0 : (DL) → (DL) → Int → Prop) (μ0 : (DL) → (DL) → Int → Nat) : Prop :=
 ∃ (J2 : (DL) → Int → Int → Int → Prop) (μ2 : (DL) → Int → Int → Int → Nat),
 J2 u (0:Int) (0:Int) (0:Int) ∧ ∀ (u1 : DL) (t:Int) (carry:Int) (borrow:Int),J2 u1 t carry borrow →
   ((decide (t < (v.length:Int))) = true →
     ∃ (vx18:Int),
     (0 ≤ t ∧ t < (v.length:Int)) ∧
     (v[(t).toNat]? = some [(dU vx18)]) ∧
     (∃ (vx19:Int),
     (0 ≤ (IntKind.i64.wrap (i + t)) ∧ (IntKind.i64.wrap (i + t)) < (u1.length:Int)) ∧
     (u1[((IntKind.i64.wrap (i + t))).toNat]? = some [(dU vx19)]) ∧
     ((0 ≤ (63:Int)) ∧
     (J2 (u1.set ((IntKind.i64.wrap (i + t))).toNat [(dU (IntKind.u32.wrap (IntKind.u64.wrap ((IntKind.u64.wrap ((IntKind.u64.wrap vx19) - (IntKind.u64.wrap (IntKind.u32.wrap (IntKind.u64.wrap (carry + (IntKind.u64.wrap (guess * (IntKind.u64.wrap vx18))))))))) - borrow))))]) (IntKind.i64.wrap (t + (1:Int))) ((IntKind.u64.wrap (carry + (IntKind.u64.wrap (guess * (IntKind.u64.wrap vx18))))).fdiv (2 ^ (min (32:Int).toNat IntKind.u64.bits))) ((IntKind.u64.wrap ((IntKind.u64.wrap ((IntKind.u64.wrap vx19) - (IntKind.u64.wrap (IntKind.u32.wrap (IntKind.u64.wrap (carry + (IntKind.u64.wrap (guess * (IntKind.u64.wrap vx18))))))))) - borrow)).fdiv (2 ^ (min (63:Int).toNat IntKind.u64.bits))) ∧ μ2 (u1.set ((IntKind.i64.wrap (i + t))).toNat [(dU (IntKind.u32.wrap (IntKind.u64.wrap ((IntKind.u64.wrap ((IntKind.u64.wrap vx19) - (IntKind.u64.wrap (IntKind.u32.wrap (IntKind.u64.wrap (carry + (IntKind.u64.wrap (guess * (IntKind.u64.wrap vx18))))))))) - borrow))))]) (IntKind.i64.wrap (t + (1:Int))) ((IntKind.u64.wrap (carry + (IntKind.u64.wrap (guess * (IntKind.u64.wrap vx18))))).fdiv (2 ^ (min (32:Int).toNat IntKind.u64.bits))) ((IntKind.u64.wrap ((IntKind.u64.wrap ((IntKind.u64.wrap vx19) - (IntKind.u64.wrap (IntKind.u32.wrap (IntKind.u64.wrap (carry + (IntKind.u64.wrap (guess * (IntKind.u64.wrap vx18))))))))) - borrow)).fdiv (2 ^ (min (63:Int).toNat IntKind.u64.bits))) < μ2 u1 t carry borrow)))) ∧
   ((decide (t < (v.length:Int))) = false →
     ∃ (vx20:Int),
     (0 ≤ (IntKind.i64.wrap (i + (v.length:Int))) ∧ (IntKind.i64.wrap (i + (v.length:Int))) < (u1.length:Int)) ∧
     (u1[((IntKind.i64.wrap (i + (v.length:Int)))).toNat]? = some [(dU vx20)]) ∧
     ((0 ≤ (63:Int)) ∧
     (((((IntKind.u64.wrap ((IntKind.u64.wrap ((IntKind.u64.wrap vx20) - carry)) - borrow)).fdiv (2 ^ (min (63:Int).toNat IntKind.u64.bits))) == (1:Int)) = true →
       ∃ (J3 : (DL) → Int → Int → Prop) (μ3 : (DL) → Int → Int → Nat),
       J3 (u1.set ((IntKind.i64.wrap (i + (v.length:Int)))).toNat [(dU (IntKind.u32.wrap (IntKind.u64.wrap ((IntKind.u64.wrap ((IntKind.u64.wrap vx20) - carry)) - borrow))))]) (0:Int) (0:Int) ∧ ∀ (u2 : DL) (t:Int) (c:Int),J3 u2 t c →
         ((decide (t < (v.length:Int))) = true →
           ∃ (vx21:Int),
           (0 ≤ t ∧ t < (v.length:Int)) ∧
           (v[(t).toNat]? = some [(dU vx21)]) ∧
           (∃ (vx22:Int) (r5:Int) (r6:Int),
           (0 ≤ (IntKind.i64.wrap (i + t)) ∧ (IntKind.i64.wrap (i + t)) < (u2.length:Int)) ∧
           (u2[((IntKind.i64.wrap (i + t))).toNat]? = some [(dU vx22)]) ∧
           (FnD prog 155 [(vD (dU vx22)),(vD (dU vx21)),(vD (dU c))] (V.tup [(eD (dU r5)),(eD (dU r6))]) []) ∧
           (J3 (u2.set ((IntKind.i64.wrap (i + t))).toNat [(dU r5)]) (IntKind.i64.wrap (t + (1:Int))) r6 ∧ μ3 (u2.set ((IntKind.i64.wrap (i + t))).toNat [(dU r5)]) (IntKind.i64.wrap (t + (1:Int))) r6 < μ3 u2 t c))) ∧
         ((decide (t < (v.length:Int))) = false →
           ∃ (vx23:Int),
           (0 ≤ (IntKind.i64.wrap (i + (v.length:Int))) ∧ (IntKind.i64.wrap (i + (v.length:Int))) < (u2.length:Int)) ∧
           (u2[((IntKind.i64.wrap (i + (v.length:Int)))).toNat]? = some [(dU vx23)]) ∧
           ((0 ≤ i ∧ i < (q.length:Int)) ∧
           (J0 (q.set (i).toNat [(dU (IntKind.u32.wrap (IntKind.u64.wrap (guess - (1:Int)))))]) (u2.set ((IntKind.i64.wrap (i + (v.length:Int)))).toNat [(dU (IntKind.u32.wrap (vx23 + c)))]) (IntKind.i64.wrap (i - (1:Int))) ∧ μ0 (q.set (i).toNat [(dU (IntKind.u32.wrap (IntKind.u64.wrap (guess - (1:Int)))))]) (u2.set ((IntKind.i64.wrap (i + (v.length:Int)))).toNat [(dU (IntKind.u32.wrap (vx23 + c)))]) (IntKind.i64.wrap (i - (1:Int))) < μ0 q u i)))) ∧
     ((((IntKind.u64.wrap ((IntKind.u64.wrap ((IntKind.u64.wrap vx20) - carry)) - borrow)).fdiv (2 ^ (min (63:Int).toNat IntKind.u64.bits))) == (1:Int)) = false →
       (0 ≤ i ∧ i < (q.length:Int)) ∧
       (J0 (q.set (i).toNat [(dU (IntKind.u32.wrap guess))]) (u1.set ((IntKind.i64.wrap (i + (v.length:Int)))).toNat [(dU (IntKind.u32.wrap (IntKind.u64.wrap ((IntKind.u64.wrap ((IntKind.u64.wrap vx20) - carry)) - borrow))))]) (IntKind.i64.wrap (i - (1:Int))) ∧ μ0 (q.set (i).toNat [(dU (IntKind.u32.wrap guess))]) (u1.set ((IntKind.i64.wrap (i + (v.length:Int)))).toNat [(dU (IntKind.u32.wrap (IntKind.u64.wrap ((IntKind.u64.wrap ((IntKind.u64.wrap vx20) - carry)) - borrow))))]) (IntKind.i64.wrap (i - (1:Int))) < μ0 q u i)))))
def roundP (v : DL) (u q : DL) (i:Int) (J0 : (DL) → (DL) → Int → Prop) (μ0 : (DL) → (DL) → Int → Nat) : Prop :=
 ∃ (vx1:Int) (vx2:Int),
 (0 ≤ (IntKind.i64.wrap (i + (v.length:Int))) ∧ (IntKind.i64.wrap (i + (v.length:Int))) < (u.length:Int)) ∧
 (u[((IntKind.i64.wrap (i + (v.length:Int)))).toNat]? = some [(dU vx1)]) ∧
 (0 ≤ (32:Int)) ∧
 (0 ≤ (IntKind.i64.wrap ((IntKind.i64.wrap (i + (v.length:Int))) - (1:Int))) ∧ (IntKind.i64.wrap ((IntKind.i64.wrap (i + (v.length:Int))) - (1:Int))) < (u.length:Int)) ∧
 (u[((IntKind.i64.wrap ((IntKind.i64.wrap (i + (v.length:Int))) - (1:Int)))).toNat]? = some [(dU vx2)]) ∧
 (∃ (vx3:Int),
 (0 ≤ (IntKind.i64.wrap ((v.length:Int) - (1:Int))) ∧ (IntKind.i64.wrap ((v.length:Int) - (1:Int))) < (v.length:Int)) ∧
 (v[((IntKind.i64.wrap ((v.length:Int) - (1:Int)))).toNat]? = some [(dU vx3)]) ∧
 ((IntKind.u64.wrap vx3) ≠ 0) ∧
 (∃ (J1:Int → Int → Prop) (μ1:Int → Int → Nat),
 J1 (IntKind.u64.wrap ((bitsI .u64 (· ||| ·) (IntKind.u64.wrap ((IntKind.u64.wrap vx1) * 2 ^ (min (32:Int).toNat IntKind.u64.bits))) (IntKind.u64.wrap vx2)).tdiv (IntKind.u64.wrap vx3))) ((bitsI .u64 (· ||| ·) (IntKind.u64.wrap ((IntKind.u64.wrap vx1) * 2 ^ (min (32:Int).toNat IntKind.u64.bits))) (IntKind.u64.wrap vx2)).tmod (IntKind.u64.wrap vx3)) ∧ ∀ (guess:Int) (rest:Int),J1 guess rest →
   ((decide (guess > (4294967295:Int))) = true →
     ((decide ((IntKind.u64.wrap (rest + (IntKind.u64.wrap vx3))) > (4294967295:Int))) = true →
       tailP v i u q (IntKind.u64.wrap (guess - (1:Int))) J0 μ0) ∧
     ((decide ((IntKind.u64.wrap (rest + (IntKind.u64.wrap vx3))) > (4294967295:Int))) = false →
       J1 (IntKind.u64.wrap (guess - (1:Int))) (IntKind.u64.wrap (rest + (IntKind.u64.wrap vx3))) ∧ μ1 (IntKind.u64.wrap (guess - (1:Int))) (IntKind.u64.wrap (rest + (IntKind.u64.wrap vx3))) < μ1 guess rest)) ∧
   ((decide (guess > (4294967295:Int))) = false →
     ∃ (vx10:Int) (vx11:Int),
     (0 ≤ (IntKind.i64.wrap ((v.length:Int) - (2:Int))) ∧ (IntKind.i64.wrap ((v.length:Int) - (2:Int))) < (v.length:Int)) ∧
     (v[((IntKind.i64.wrap ((v.length:Int) - (2:Int)))).toNat]? = some [(dU vx10)]) ∧
     (0 ≤ (IntKind.i64.wrap ((IntKind.i64.wrap (i + (v.length:Int))) - (2:Int))) ∧ (IntKind.i64.wrap ((IntKind.i64.wrap (i + (v.length:Int))) - (2:Int))) < (u.length:Int)) ∧
     (u[((IntKind.i64.wrap ((IntKind.i64.wrap (i + (v.length:Int))) - (2:Int)))).toNat]? = some [(dU vx11)]) ∧
     (((decide ((IntKind.u64.wrap (guess * (IntKind.u64.wrap vx10))) > (bitsI .u64 (· ||| ·) (IntKind.u64.wrap (rest * 2 ^ (min (32:Int).toNat IntKind.u64.bits))) (IntKind.u64.wrap vx11)))) = true →
       ((decide ((IntKind.u64.wrap (rest + (IntKind.u64.wrap vx3))) > (4294967295:Int))) = true →
         tailP v i u q (IntKind.u64.wrap (guess - (1:Int))) J0 μ0) ∧
       ((decide ((IntKind.u64.wrap (rest + (IntKind.u64.wrap vx3))) > (4294967295:Int))) = false →
         J1 (IntKind.u64.wrap (guess - (1:Int))) (IntKind.u64.wrap (rest + (IntKind.u64.wrap vx3))) ∧ μ1 (IntKind.u64.wrap (guess - (1:Int))) (IntKind.u64.wrap (rest + (IntKind.u64.wrap vx3))) < μ1 guess rest)) ∧
     ((decide ((IntKind.u64.wrap (guess * (IntKind.u64.wrap vx10))) > (bitsI .u64 (· ||| ·) (IntKind.u64.wrap (rest * 2 ^ (min (32:Int).toNat IntKind.u64.bits))) (IntKind.u64.wrap vx11)))) = false →
       tailP v i u q guess J0 μ0)))))
def vc170 (a b : DL) (R:V → Heap → Prop) : Prop :=
 ∃ (vx r:Int),
 (0 ≤ (IntKind.i64.wrap ((b.length:Int) - (1:Int))) ∧ (IntKind.i64.wrap ((b.length:Int) - (1:Int))) < (b.length:Int)) ∧
 (b[((IntKind.i64.wrap ((b.length:Int) - (1:Int)))).toNat]? = some [dU vx]) ∧
 (FnD prog 171 [vD (dU vx)] (vD (dI r)) []) ∧
 (∃ (rrow rrow1 : DL),
 (FnD prog 172 [vD (dL a),vD (dI r)] (V.e (E.sc (S.ref 0))) [some (Obj.arr 1 rrow)]) ∧
 (FnD prog 172 [vD (dL b),vD (dI r)] (V.e (E.sc (S.ref 0))) [some (Obj.arr 1 rrow1)]) ∧
 (0 ≤ (b.length:Int) ∧ (b.length:Int) ≤ (rrow1.length:Int)) ∧
 ((0 ≤ (IntKind.i64.wrap ((rrow.length:Int) - ((rrow1.take ((b.length:Int)).toNat).length:Int))) ∧ (IntKind.i64.wrap ((rrow.length:Int) - ((rrow1.take ((b.length:Int)).toNat).length:Int))) ≤ (IntKind.i64.wrap ((rrow.length:Int) - ((rrow1.take ((b.length:Int)).toNat).length:Int))) ∧ (IntKind.i64.wrap ((rrow.length:Int) - ((rrow1.take ((b.length:Int)).toNat).length:Int))) * (4:Nat) ≤ 281474976710656) ∧
 (∃ (J0 : (DL) → (DL) → Int → Prop) (μ0 : (DL) → (DL) → Int → Nat),
 J0 (List.replicate ((IntKind.i64.wrap ((rrow.length:Int) - ((rrow1.take ((b.length:Int)).toNat).length:Int)))).toNat [dU (0:Int)]) rrow (IntKind.i64.wrap ((IntKind.i64.wrap ((rrow.length:Int) - ((rrow1.take ((b.length:Int)).toNat).length:Int))) - (1:Int))) ∧ ∀ (q u : DL) (i:Int),J0 q u i →
 (decide (i ≥ (0:Int)) = true →
 roundP (rrow1.take ((b.length:Int)).toNat) u q i J0 μ0) ∧
 (decide (i ≥ (0:Int)) = false →
 (0 ≤ ((rrow1.take ((b.length:Int)).toNat).length:Int) ∧ ((rrow1.take ((b.length:Int)).toNat).length:Int) ≤ ((rrow1.take ((b.length:Int)).toNat).length:Int) ∧ ((rrow1.take ((b.length:Int)).toNat).length:Int) * (4:Nat) ≤ 281474976710656) ∧
 (∃ (J8 : (DL) → Int → Prop) (μ8 : (DL) → Int → Nat),
 J8 (List.replicate (((rrow1.take ((b.length:Int)).toNat).length:Int)).toNat [dU (0:Int)]) (0:Int) ∧ ∀ (r7 : DL) (t228:Int),J8 r7 t228 →
 ((decide (t228 < ((rrow1.take ((b.length:Int)).toNat).length:Int))) = true →
 ∃ (vx24 vx25:Int),
 (0 ≤ t228 ∧ t228 < (u.length:Int)) ∧
 (u[(t228).toNat]? = some [dU vx24]) ∧
 (0 ≤ r) ∧
 (0 ≤ (IntKind.i64.wrap (t228 + (1:Int))) ∧ (IntKind.i64.wrap (t228 + (1:Int))) < (u.length:Int)) ∧
 (u[((IntKind.i64.wrap (t228 + (1:Int)))).toNat]? = some [dU vx25]) ∧
 (0 ≤ (32:Int)) ∧
 (0 ≤ t228 ∧ t228 < (r7.length:Int)) ∧
 (J8 (r7.set (t228).toNat [dU (bitsI .u32 (· ||| ·) (vx24.fdiv (2 ^ (min r.toNat IntKind.u32.bits))) (IntKind.u32.wrap ((IntKind.u64.wrap ((IntKind.u64.wrap vx25) * 2 ^ (min (32:Int).toNat IntKind.u64.bits))).fdiv (2 ^ (min r.toNat IntKind.u64.bits)))))]) (IntKind.i64.wrap (t228 + (1:Int))) ∧ μ8 (r7.set (t228).toNat [dU (bitsI .u32 (· ||| ·) (vx24.fdiv (2 ^ (min r.toNat IntKind.u32.bits))) (IntKind.u32.wrap ((IntKind.u64.wrap ((IntKind.u64.wrap vx25) * 2 ^ (min (32:Int).toNat IntKind.u64.bits))).fdiv (2 ^ (min r.toNat IntKind.u64.bits)))))]) (IntKind.i64.wrap (t228 + (1:Int))) < μ8 r7 t228)) ∧
 ((decide (t228 < ((rrow1.take ((b.length:Int)).toNat).length:Int))) = false →
 R (V.tup [eD (dL q),eD (dL r7)]) []))))))
theorem vc170_ok (a b : DL) {R:V → Heap → Prop} (h : vc170 a b R) : FnG prog 170 [vD (dL a),vD (dL b)] [] R :=
 FnG.vcg hT func170 ntmps170 (.r0 [0,1] <| .ex fun vx => .ex fun r => .reg 0 [(5,Or.cells [dU vx],0,0),(6,Or.call (vD (dI r)) [] [],0,0)] [0,1,6] [] [] <| .exl fun rrow => .exl fun rrow1 => .drw 3 [(2,(Or.call (V.e (E.sc (S.ref 0))) [some (Obj.arr 1 rrow)] [],0,1),[0]),(5,(Or.call (V.e (E.sc (S.ref 0))) [some (Obj.arr 1 rrow1)] [],1,1),[1]),(8,(Or.none,2,1),[1,2])] [6,7,8] [0,2] [] <| .r1 [6,7,8,9] [0,1] <| .reg 1 [(4,Or.none,2,1)] [4,6,7,8,9] [2,0,1] [] <| .r1 [4,6,7,8,9,10] [0,1,2] <| .lp [.l,.l,.i] (fun q u i => ⟨[(4,vR 0),(6,vD (dI r)),(7,vR 1),(8,vR 2),(9,vD (dI ((rrow1.take ((b.length:Int)).toNat).length:Int))),(10,vD (dI i))],[some (Obj.arr 1 q),some (Obj.arr 1 u),some (Obj.arr 1 (rrow1.take ((b.length:Int)).toNat))],254⟩) [.l (List.replicate ((IntKind.i64.wrap ((rrow.length:Int) - ((rrow1.take ((b.length:Int)).toNat).length:Int)))).toNat [dU (0:Int)]),.l rrow,.i (IntKind.i64.wrap ((IntKind.i64.wrap ((rrow.length:Int) - ((rrow1.take ((b.length:Int)).toNat).length:Int))) - (1:Int)))] <| .fl fun q => .fl fun u => .fi fun i => .beg <| .r1 [4,6,7,8,9,10,53] [0,1,2] <| .c2 (.ex fun vx1 => .ex fun vx2 => .drw 0 [(5,(Or.cells [dU vx1],0,0),[]),(14,(Or.cells [dU vx2],0,0),[])] [4,6,7,8,9,10,11] [0,1,2] [] <| .ex fun vx3 => .drw 0 [(5,(Or.cells [dU vx3],0,0),[]),(13,(Or.cells [dU vx3],0,0),[])] [4,6,7,8,9,10,12,13] [0,1,2] [.new,.new,.new,.old 2,.old 1,.old 0] <| .lp [.i,.i] (fun guess rest => ⟨[(4,vR 0),(6,vD (dI r)),(7,vR 1),(8,vR 2),(9,vD (dI ((rrow1.take ((b.length:Int)).toNat).length:Int))),(10,vD (dI i)),(12,vD (D.int .u64 guess)),(13,vD (D.int .u64 rest))],[some (Obj.arr 1 q),some (Obj.arr 1 u),some (Obj.arr 1 (rrow1.take ((b.length:Int)).toNat))],254⟩) [.i (IntKind.u64.wrap ((bitsI .u64 (· ||| ·) (IntKind.u64.wrap ((IntKind.u64.wrap vx1) * 2 ^ (min (32:Int).toNat IntKind.u64.bits))) (IntKind.u64.wrap vx2)).tdiv (IntKind.u64.wrap vx3))),.i ((bitsI .u64 (· ||| ·) (IntKind.u64.wrap ((IntKind.u64.wrap vx1) * 2 ^ (min (32:Int).toNat IntKind.u64.bits))) (IntKind.u64.wrap vx2)).tmod (IntKind.u64.wrap vx3))] <| .fi fun guess => .fi fun rest => .beg <| .spl ((decide (guess > (4294967295:Int)))) (.drw 0 [(2,(Or.bool true,0,0),[])] [4,6,7,8,9,10,12,13,112] [0,1,2] [.old 0] <| .ct true none <| .r1 [4,6,7,8,9,10,12,13] [0,1,2] <| .reg 0 [(5,Or.cells [dU vx3],0,0)] [4,6,7,8,9,10,12,13] [0,1,2] [.old 3,.old 2] <| .r1 [4,6,7,8,9,10,12,13,124] [0,1,2] <| .c2 (.r1 [4,6,7,8,9,10,12,14,15] [0,1,2] <| .r1 [4,6,7,8,9,10,12,14,15,125,126,127] [0,1,2] <| .lp [.l,.i,.i,.i] (fun u1 t127 carry borrow => ⟨[(4,vR 0),(6,vD (dI r)),(7,vR 1),(8,vR 2),(9,vD (dI ((rrow1.take ((b.length:Int)).toNat).length:Int))),(10,vD (dI i)),(12,vD (D.int .u64 (IntKind.u64.wrap (guess - (1:Int))))),(14,vD (D.int .u64 carry)),(15,vD (D.int .u64 borrow)),(125,vR 2),(126,vD (dI ((rrow1.take ((b.length:Int)).toNat).length:Int))),(127,vD (dI t127))],[some (Obj.arr 1 q),some (Obj.arr 1 u1),some (Obj.arr 1 (rrow1.take ((b.length:Int)).toNat))],254⟩) [.l u,.i (0:Int),.i (0:Int),.i (0:Int)] <| .fl fun u1 => .fi fun t127 => .fi fun carry => .fi fun borrow => .beg <| .r1 [4,6,7,8,9,10,12,14,15,125,126,127,128] [0,1,2] <| .c2 (.ex fun vx4 => .reg 0 [(2,Or.cells [dU vx4],0,0)] [4,6,7,8,9,10,12,14,15,16,17,125,126,127] [0,1,2] [] <| .r1 [4,6,7,8,9,10,12,14,15,16,125,126,127] [0,1,2] <| .ex fun vx5 => .reg 0 [(5,Or.cells [dU vx5],0,0)] [4,6,7,8,9,10,12,14,16,18,125,126,127] [0,1,2] [] <| .reg 0 [] [4,6,7,8,9,10,12,14,15,125,126,127] [0,1,2] [.new,.old 2] <| .reg 0 [] [4,6,7,8,9,10,12,14,15,125,126,127] [0,1,2] [.old 13] <| .r1 [4,6,7,8,9,10,12,14,15,125,126,127] [0,1,2] <| .bk 0 [.l (u1.set ((IntKind.i64.wrap (i + t127))).toNat [dU (IntKind.u32.wrap (IntKind.u64.wrap ((IntKind.u64.wrap ((IntKind.u64.wrap vx5) - (IntKind.u64.wrap (IntKind.u32.wrap (IntKind.u64.wrap (carry + (IntKind.u64.wrap ((IntKind.u64.wrap (guess - (1:Int))) * (IntKind.u64.wrap vx4))))))))) - borrow)))]),.i (IntKind.i64.wrap (t127 + (1:Int))),.i ((IntKind.u64.wrap (carry + (IntKind.u64.wrap ((IntKind.u64.wrap (guess - (1:Int))) * (IntKind.u64.wrap vx4))))).fdiv (2 ^ (min (32:Int).toNat IntKind.u64.bits))),.i ((IntKind.u64.wrap ((IntKind.u64.wrap ((IntKind.u64.wrap vx5) - (IntKind.u64.wrap (IntKind.u32.wrap (IntKind.u64.wrap (carry + (IntKind.u64.wrap ((IntKind.u64.wrap (guess - (1:Int))) * (IntKind.u64.wrap vx4))))))))) - borrow)).fdiv (2 ^ (min (63:Int).toNat IntKind.u64.bits)))]) (.ex fun vx6 => .reg 0 [(5,Or.cells [dU vx6],0,0)] [4,6,7,8,9,10,12,19] [0,1,2] [] <| .reg 0 [] [4,6,7,8,9,10,12,19] [0,1,2] [.old 1] <| .r1 [4,6,7,8,9,10,12,183] [0,1,2] <| .c2 (.r1 [4,6,7,8,9,10,12] [0,1,2] <| .r1 [4,6,7,8,9,10,12,20] [0,1,2] <| .r1 [4,6,7,8,9,10,12,20,186,187,188] [0,1,2] <| .lp [.l,.i,.i] (fun u2 t188 c => ⟨[(4,vR 0),(6,vD (dI r)),(7,vR 1),(8,vR 2),(9,vD (dI ((rrow1.take ((b.length:Int)).toNat).length:Int))),(10,vD (dI i)),(12,vD (D.int .u64 (IntKind.u64.wrap ((IntKind.u64.wrap (guess - (1:Int))) - (1:Int))))),(20,vD (dU c)),(186,vR 2),(187,vD (dI ((rrow1.take ((b.length:Int)).toNat).length:Int))),(188,vD (dI t188))],[some (Obj.arr 1 q),some (Obj.arr 1 u2),some (Obj.arr 1 (rrow1.take ((b.length:Int)).toNat))],254⟩) [.l (u1.set ((IntKind.i64.wrap (i + ((rrow1.take ((b.length:Int)).toNat).length:Int)))).toNat [dU (IntKind.u32.wrap (IntKind.u64.wrap ((IntKind.u64.wrap ((IntKind.u64.wrap vx6) - carry)) - borrow)))]),.i (0:Int),.i (0:Int)] <| .fl fun u2 => .fi fun t188 => .fi fun c => .beg <| .r1 [4,6,7,8,9,10,12,20,186,187,188,189] [0,1,2] <| .c2 (.ex fun vx7 => .reg 0 [(2,Or.cells [dU vx7],0,0)] [4,6,7,8,9,10,12,20,21,22,186,187,188] [0,1,2] [] <| .ex fun vx8 => .ex fun r1 => .ex fun r2 => .reg 0 [(9,Or.cells [dU vx8],0,0),(12,Or.call (V.tup [eD (dU r1),eD (dU r2)]) [] [],0,0)] [4,6,7,8,9,10,12,20,186,187,188] [0,1,2] [.new,.new,.new,.old 2] <| .r1 [4,6,7,8,9,10,12,20,186,187,188] [0,1,2] <| .bk 0 [.l (u2.set ((IntKind.i64.wrap (i + t188))).toNat [dU r1]),.i (IntKind.i64.wrap (t188 + (1:Int))),.i r2]) (.ex fun vx9 => .reg 0 [(5,Or.cells [dU vx9],0,0)] [4,6,7,8,9,10,12] [0,1,2] [.new,.new,.old 1] <| .r1 [4,6,7,8,9,10] [0,1,2] <| .r1 [4,6,7,8,9,10] [0,1,2] <| .bk 3 [.l (q.set (i).toNat [dU (IntKind.u32.wrap (IntKind.u64.wrap ((IntKind.u64.wrap (guess - (1:Int))) - (1:Int))))]),.l (u2.set ((IntKind.i64.wrap (i + ((rrow1.take ((b.length:Int)).toNat).length:Int)))).toNat [dU (IntKind.u32.wrap (vx9 + c))]),.i (IntKind.i64.wrap (i - (1:Int)))])) (.r1 [4,6,7,8,9,10] [0,1,2] <| .r1 [4,6,7,8,9,10] [0,1,2] <| .bk 2 [.l (q.set (i).toNat [dU (IntKind.u32.wrap (IntKind.u64.wrap (guess - (1:Int))))]),.l (u1.set ((IntKind.i64.wrap (i + ((rrow1.take ((b.length:Int)).toNat).length:Int)))).toNat [dU (IntKind.u32.wrap (IntKind.u64.wrap ((IntKind.u64.wrap ((IntKind.u64.wrap vx6) - carry)) - borrow)))]),.i (IntKind.i64.wrap (i - (1:Int)))]))) (.viw [4,6,7,8,9,10,12,13] [0,1,2] <| .bk 0 [.i (IntKind.u64.wrap (guess - (1:Int))),.i (IntKind.u64.wrap (rest + (IntKind.u64.wrap vx3)))])) (.ex fun vx10 => .ex fun vx11 => .drw 0 [(2,(Or.bool false,0,0),[]),(8,(Or.cells [dU vx10],0,0),[]),(19,(Or.cells [dU vx11],0,0),[])] [4,6,7,8,9,10,12,13,112] [0,1,2] [.old 0,.new,.new,.old 8] <| .c2 (.r1 [4,6,7,8,9,10,12,13] [0,1,2] <| .reg 0 [(5,Or.cells [dU vx3],0,0)] [4,6,7,8,9,10,12,13] [0,1,2] [.old 8,.old 7] <| .r1 [4,6,7,8,9,10,12,13,124] [0,1,2] <| .c2 (.r1 [4,6,7,8,9,10,12,14,15] [0,1,2] <| .r1 [4,6,7,8,9,10,12,14,15,125,126,127] [0,1,2] <| .lp [.l,.i,.i,.i] (fun u3 t1271 carry1 borrow1 => ⟨[(4,vR 0),(6,vD (dI r)),(7,vR 1),(8,vR 2),(9,vD (dI ((rrow1.take ((b.length:Int)).toNat).length:Int))),(10,vD (dI i)),(12,vD (D.int .u64 (IntKind.u64.wrap (guess - (1:Int))))),(14,vD (D.int .u64 carry1)),(15,vD (D.int .u64 borrow1)),(125,vR 2),(126,vD (dI ((rrow1.take ((b.length:Int)).toNat).length:Int))),(127,vD (dI t1271))],[some (Obj.arr 1 q),some (Obj.arr 1 u3),some (Obj.arr 1 (rrow1.take ((b.length:Int)).toNat))],254⟩) [.l u,.i (0:Int),.i (0:Int),.i (0:Int)] <| .fl fun u3 => .fi fun t1271 => .fi fun carry1 => .fi fun borrow1 => .beg <| .r1 [4,6,7,8,9,10,12,14,15,125,126,127,128] [0,1,2] <| .c2 (.ex fun vx12 => .reg 0 [(2,Or.cells [dU vx12],0,0)] [4,6,7,8,9,10,12,14,15,16,17,125,126,127] [0,1,2] [] <| .r1 [4,6,7,8,9,10,12,14,15,16,125,126,127] [0,1,2] <| .ex fun vx13 => .reg 0 [(5,Or.cells [dU vx13],0,0)] [4,6,7,8,9,10,12,14,16,18,125,126,127] [0,1,2] [] <| .reg 0 [] [4,6,7,8,9,10,12,14,15,125,126,127] [0,1,2] [.new,.old 2] <| .reg 0 [] [4,6,7,8,9,10,12,14,15,125,126,127] [0,1,2] [.old 18] <| .r1 [4,6,7,8,9,10,12,14,15,125,126,127] [0,1,2] <| .bk 0 [.l (u3.set ((IntKind.i64.wrap (i + t1271))).toNat [dU (IntKind.u32.wrap (IntKind.u64.wrap ((IntKind.u64.wrap ((IntKind.u64.wrap vx13) - (IntKind.u64.wrap (IntKind.u32.wrap (IntKind.u64.wrap (carry1 + (IntKind.u64.wrap ((IntKind.u64.wrap (guess - (1:Int))) * (IntKind.u64.wrap vx12))))))))) - borrow1)))]),.i (IntKind.i64.wrap (t1271 + (1:Int))),.i ((IntKind.u64.wrap (carry1 + (IntKind.u64.wrap ((IntKind.u64.wrap (guess - (1:Int))) * (IntKind.u64.wrap vx12))))).fdiv (2 ^ (min (32:Int).toNat IntKind.u64.bits))),.i ((IntKind.u64.wrap ((IntKind.u64.wrap ((IntKind.u64.wrap vx13) - (IntKind.u64.wrap (IntKind.u32.wrap (IntKind.u64.wrap (carry1 + (IntKind.u64.wrap ((IntKind.u64.wrap (guess - (1:Int))) * (IntKind.u64.wrap vx12))))))))) - borrow1)).fdiv (2 ^ (min (63:Int).toNat IntKind.u64.bits)))]) (.ex fun vx14 => .reg 0 [(5,Or.cells [dU vx14],0,0)] [4,6,7,8,9,10,12,19] [0,1,2] [] <| .reg 0 [] [4,6,7,8,9,10,12,19] [0,1,2] [.old 1] <| .r1 [4,6,7,8,9,10,12,183] [0,1,2] <| .c2 (.r1 [4,6,7,8,9,10,12] [0,1,2] <| .r1 [4,6,7,8,9,10,12,20] [0,1,2] <| .r1 [4,6,7,8,9,10,12,20,186,187,188] [0,1,2] <| .lp [.l,.i,.i] (fun u4 t1881 c1 => ⟨[(4,vR 0),(6,vD (dI r)),(7,vR 1),(8,vR 2),(9,vD (dI ((rrow1.take ((b.length:Int)).toNat).length:Int))),(10,vD (dI i)),(12,vD (D.int .u64 (IntKind.u64.wrap ((IntKind.u64.wrap (guess - (1:Int))) - (1:Int))))),(20,vD (dU c1)),(186,vR 2),(187,vD (dI ((rrow1.take ((b.length:Int)).toNat).length:Int))),(188,vD (dI t1881))],[some (Obj.arr 1 q),some (Obj.arr 1 u4),some (Obj.arr 1 (rrow1.take ((b.length:Int)).toNat))],254⟩) [.l (u3.set ((IntKind.i64.wrap (i + ((rrow1.take ((b.length:Int)).toNat).length:Int)))).toNat [dU (IntKind.u32.wrap (IntKind.u64.wrap ((IntKind.u64.wrap ((IntKind.u64.wrap vx14) - carry1)) - borrow1)))]),.i (0:Int),.i (0:Int)] <| .fl fun u4 => .fi fun t1881 => .fi fun c1 => .beg <| .r1 [4,6,7,8,9,10,12,20,186,187,188,189] [0,1,2] <| .c2 (.ex fun vx15 => .reg 0 [(2,Or.cells [dU vx15],0,0)] [4,6,7,8,9,10,12,20,21,22,186,187,188] [0,1,2] [] <| .ex fun vx16 => .ex fun r3 => .ex fun r4 => .reg 0 [(9,Or.cells [dU vx16],0,0),(12,Or.call (V.tup [eD (dU r3),eD (dU r4)]) [] [],0,0)] [4,6,7,8,9,10,12,20,186,187,188] [0,1,2] [.new,.new,.new,.old 2] <| .r1 [4,6,7,8,9,10,12,20,186,187,188] [0,1,2] <| .bk 0 [.l (u4.set ((IntKind.i64.wrap (i + t1881))).toNat [dU r3]),.i (IntKind.i64.wrap (t1881 + (1:Int))),.i r4]) (.ex fun vx17 => .reg 0 [(5,Or.cells [dU vx17],0,0)] [4,6,7,8,9,10,12] [0,1,2] [.new,.new,.old 1] <| .r1 [4,6,7,8,9,10] [0,1,2] <| .r1 [4,6,7,8,9,10] [0,1,2] <| .bk 3 [.l (q.set (i).toNat [dU (IntKind.u32.wrap (IntKind.u64.wrap ((IntKind.u64.wrap (guess - (1:Int))) - (1:Int))))]),.l (u4.set ((IntKind.i64.wrap (i + ((rrow1.take ((b.length:Int)).toNat).length:Int)))).toNat [dU (IntKind.u32.wrap (vx17 + c1))]),.i (IntKind.i64.wrap (i - (1:Int)))])) (.r1 [4,6,7,8,9,10] [0,1,2] <| .r1 [4,6,7,8,9,10] [0,1,2] <| .bk 2 [.l (q.set (i).toNat [dU (IntKind.u32.wrap (IntKind.u64.wrap (guess - (1:Int))))]),.l (u3.set ((IntKind.i64.wrap (i + ((rrow1.take ((b.length:Int)).toNat).length:Int)))).toNat [dU (IntKind.u32.wrap (IntKind.u64.wrap ((IntKind.u64.wrap ((IntKind.u64.wrap vx14) - carry1)) - borrow1)))]),.i (IntKind.i64.wrap (i - (1:Int)))]))) (.viw [4,6,7,8,9,10,12,13] [0,1,2] <| .bk 0 [.i (IntKind.u64.wrap (guess - (1:Int))),.i (IntKind.u64.wrap (rest + (IntKind.u64.wrap vx3)))])) (.r1 [4,6,7,8,9,10,12,14,15] [0,1,2] <| .r1 [4,6,7,8,9,10,12,14,15,125,126,127] [0,1,2] <| .lp [.l,.i,.i,.i] (fun u5 t1272 carry2 borrow2 => ⟨[(4,vR 0),(6,vD (dI r)),(7,vR 1),(8,vR 2),(9,vD (dI ((rrow1.take ((b.length:Int)).toNat).length:Int))),(10,vD (dI i)),(12,vD (D.int .u64 guess)),(14,vD (D.int .u64 carry2)),(15,vD (D.int .u64 borrow2)),(125,vR 2),(126,vD (dI ((rrow1.take ((b.length:Int)).toNat).length:Int))),(127,vD (dI t1272))],[some (Obj.arr 1 q),some (Obj.arr 1 u5),some (Obj.arr 1 (rrow1.take ((b.length:Int)).toNat))],254⟩) [.l u,.i (0:Int),.i (0:Int),.i (0:Int)] <| .fl fun u5 => .fi fun t1272 => .fi fun carry2 => .fi fun borrow2 => .beg <| .r1 [4,6,7,8,9,10,12,14,15,125,126,127,128] [0,1,2] <| .c2 (.ex fun vx18 => .reg 0 [(2,Or.cells [dU vx18],0,0)] [4,6,7,8,9,10,12,14,15,16,17,125,126,127] [0,1,2] [] <| .r1 [4,6,7,8,9,10,12,14,15,16,125,126,127] [0,1,2] <| .ex fun vx19 => .reg 0 [(5,Or.cells [dU vx19],0,0)] [4,6,7,8,9,10,12,14,16,18,125,126,127] [0,1,2] [] <| .reg 0 [] [4,6,7,8,9,10,12,14,15,125,126,127] [0,1,2] [.new,.old 2] <| .reg 0 [] [4,6,7,8,9,10,12,14,15,125,126,127] [0,1,2] [.old 17] <| .r1 [4,6,7,8,9,10,12,14,15,125,126,127] [0,1,2] <| .bk 0 [.l (u5.set ((IntKind.i64.wrap (i + t1272))).toNat [dU (IntKind.u32.wrap (IntKind.u64.wrap ((IntKind.u64.wrap ((IntKind.u64.wrap vx19) - (IntKind.u64.wrap (IntKind.u32.wrap (IntKind.u64.wrap (carry2 + (IntKind.u64.wrap (guess * (IntKind.u64.wrap vx18))))))))) - borrow2)))]),.i (IntKind.i64.wrap (t1272 + (1:Int))),.i ((IntKind.u64.wrap (carry2 + (IntKind.u64.wrap (guess * (IntKind.u64.wrap vx18))))).fdiv (2 ^ (min (32:Int).toNat IntKind.u64.bits))),.i ((IntKind.u64.wrap ((IntKind.u64.wrap ((IntKind.u64.wrap vx19) - (IntKind.u64.wrap (IntKind.u32.wrap (IntKind.u64.wrap (carry2 + (IntKind.u64.wrap (guess * (IntKind.u64.wrap vx18))))))))) - borrow2)).fdiv (2 ^ (min (63:Int).toNat IntKind.u64.bits)))]) (.ex fun vx20 => .reg 0 [(5,Or.cells [dU vx20],0,0)] [4,6,7,8,9,10,12,19] [0,1,2] [] <| .reg 0 [] [4,6,7,8,9,10,12,19] [0,1,2] [.old 1] <| .r1 [4,6,7,8,9,10,12,183] [0,1,2] <| .c2 (.r1 [4,6,7,8,9,10,12] [0,1,2] <| .r1 [4,6,7,8,9,10,12,20] [0,1,2] <| .r1 [4,6,7,8,9,10,12,20,186,187,188] [0,1,2] <| .lp [.l,.i,.i] (fun u6 t1882 c2 => ⟨[(4,vR 0),(6,vD (dI r)),(7,vR 1),(8,vR 2),(9,vD (dI ((rrow1.take ((b.length:Int)).toNat).length:Int))),(10,vD (dI i)),(12,vD (D.int .u64 (IntKind.u64.wrap (guess - (1:Int))))),(20,vD (dU c2)),(186,vR 2),(187,vD (dI ((rrow1.take ((b.length:Int)).toNat).length:Int))),(188,vD (dI t1882))],[some (Obj.arr 1 q),some (Obj.arr 1 u6),some (Obj.arr 1 (rrow1.take ((b.length:Int)).toNat))],254⟩) [.l (u5.set ((IntKind.i64.wrap (i + ((rrow1.take ((b.length:Int)).toNat).length:Int)))).toNat [dU (IntKind.u32.wrap (IntKind.u64.wrap ((IntKind.u64.wrap ((IntKind.u64.wrap vx20) - carry2)) - borrow2)))]),.i (0:Int),.i (0:Int)] <| .fl fun u6 => .fi fun t1882 => .fi fun c2 => .beg <| .r1 [4,6,7,8,9,10,12,20,186,187,188,189] [0,1,2] <| .c2 (.ex fun vx21 => .reg 0 [(2,Or.cells [dU vx21],0,0)] [4,6,7,8,9,10,12,20,21,22,186,187,188] [0,1,2] [] <| .ex fun vx22 => .ex fun r5 => .ex fun r6 => .reg 0 [(9,Or.cells [dU vx22],0,0),(12,Or.call (V.tup [eD (dU r5),eD (dU r6)]) [] [],0,0)] [4,6,7,8,9,10,12,20,186,187,188] [0,1,2] [.new,.new,.new,.old 2] <| .r1 [4,6,7,8,9,10,12,20,186,187,188] [0,1,2] <| .bk 0 [.l (u6.set ((IntKind.i64.wrap (i + t1882))).toNat [dU r5]),.i (IntKind.i64.wrap (t1882 + (1:Int))),.i r6]) (.ex fun vx23 => .reg 0 [(5,Or.cells [dU vx23],0,0)] [4,6,7,8,9,10,12] [0,1,2] [.new,.new,.old 1] <| .r1 [4,6,7,8,9,10] [0,1,2] <| .r1 [4,6,7,8,9,10] [0,1,2] <| .bk 3 [.l (q.set (i).toNat [dU (IntKind.u32.wrap (IntKind.u64.wrap (guess - (1:Int))))]),.l (u6.set ((IntKind.i64.wrap (i + ((rrow1.take ((b.length:Int)).toNat).length:Int)))).toNat [dU (IntKind.u32.wrap (vx23 + c2))]),.i (IntKind.i64.wrap (i - (1:Int)))])) (.r1 [4,6,7,8,9,10] [0,1,2] <| .r1 [4,6,7,8,9,10] [0,1,2] <| .bk 2 [.l (q.set (i).toNat [dU (IntKind.u32.wrap guess)]),.l (u5.set ((IntKind.i64.wrap (i + ((rrow1.take ((b.length:Int)).toNat).length:Int)))).toNat [dU (IntKind.u32.wrap (IntKind.u64.wrap ((IntKind.u64.wrap ((IntKind.u64.wrap vx20) - carry2)) - borrow2)))]),.i (IntKind.i64.wrap (i - (1:Int)))]))))) (.reg 1 [(1,Or.none,3,1)] [4,5,6,7,9] [0,3,1] [] <| .r1 [4,5,6,7,227,228] [0,1,2] <| .lp [.l,.i] (fun r7 t228 => ⟨[(4,vR 0),(5,vR 1),(6,vD (dI r)),(7,vR 2),(227,vD (dI ((rrow1.take ((b.length:Int)).toNat).length:Int))),(228,vD (dI t228))],[some (Obj.arr 1 q),some (Obj.arr 1 r7),some (Obj.arr 1 u)],254⟩) [.l (List.replicate (((rrow1.take ((b.length:Int)).toNat).length:Int)).toNat [dU (0:Int)]),.i (0:Int)] <| .fl fun r7 => .fi fun t228 => .beg <| .r1 [4,5,6,7,227,228,229] [0,1,2] <| .c2 (.r1 [4,5,6,7,23,227,228] [0,1,2] <| .ex fun vx24 => .ex fun vx25 => .drw 0 [(5,(Or.cells [dU vx24],0,0),[]),(12,(Or.cells [dU vx25],0,0),[]),(20,(Or.none,0,0),[1])] [4,5,6,7,227,228] [0,1,2] [.new,.new,.new,.new,.new,.new,.old 3] <| .r1 [4,5,6,7,227,228] [0,1,2] <| .bk 0 [.l (r7.set (t228).toNat [dU (bitsI .u32 (· ||| ·) (vx24.fdiv (2 ^ (min r.toNat IntKind.u32.bits))) (IntKind.u32.wrap ((IntKind.u64.wrap ((IntKind.u64.wrap vx25) * 2 ^ (min (32:Int).toNat IntKind.u64.bits))).fdiv (2 ^ (min r.toNat IntKind.u64.bits)))))]),.i (IntKind.i64.wrap (t228 + (1:Int)))]) (.r1 [4,5] [0,1] <| .frz [0,1] <| .ret [])))
   (by kernel_rfl) (by kernel_rfl) (by kernel_rfl) h
end Go.AM
/- Division of integers: integer.shift. -/
namespace Go.AM
open Go.Proofs.Try
def shG (k:Nat) : Nat → List Nat → List Nat
 | c, [] => [c]
 | c, x :: l => ((x * 2 ^ k) % 4294967296 + c) :: shG k ((x * 2 ^ k) / 4294967296) l
theorem shG_len (k:Nat) : ∀ (l : List Nat) (c:Nat), (shG k c l).length = l.length + 1
 | [], _ => rfl
 | _ :: l, _ => by simp [shG, shG_len k l]
theorem shG_val (k:Nat) : ∀ (l : List Nat) (c:Nat), val (shG k c l) = val l * 2 ^ k + c
 | [], c => by simp [shG, val]
 | x :: l, c => by
   have h := Nat.div_add_mod (x * 2 ^ k) 4294967296
   simp only [shG, val, shG_val k l]
   rw [Nat.mul_add, Nat.add_mul, Nat.mul_assoc]
   omega
theorem lo_form {k : Nat} (hk : k ≤ 32) (x:Nat) : (x * 2 ^ k) % 4294967296 = (x % 2 ^ (32 - k)) * 2 ^ k := by
 have e : (4294967296:Nat) = 2 ^ (32 - k) * 2 ^ k := by rw [← Nat.pow_add, show 32 - k + k = 32 by omega]
 conv => lhs; rw [e]
 rw [Nat.mul_mod_mul_right]
theorem lo_add {k c : Nat} (hk : k ≤ 32) (hc : c < 2 ^ k) (x:Nat) : (x * 2 ^ k) % 4294967296 + c < 4294967296 := by
 have e : (4294967296:Nat) = 2 ^ (32 - k) * 2 ^ k := by rw [← Nat.pow_add, show 32 - k + k = 32 by omega]
 have h1 : x % 2 ^ (32 - k) + 1 ≤ 2 ^ (32 - k) := Nat.mod_lt _ (Nat.pow_pos (by decide))
 have h2 : (x % 2 ^ (32 - k) + 1) * 2 ^ k ≤ 2 ^ (32 - k) * 2 ^ k := Nat.mul_le_mul_right _ h1
 rw [lo_form hk, e]
 rw [Nat.add_mul] at h2
 omega
theorem hi_lt {k x : Nat} (hx : x < 4294967296) : (x * 2 ^ k) / 4294967296 < 2 ^ k := by
 rw [Nat.div_lt_iff_lt_mul (by decide), Nat.mul_comm]
 exact Nat.mul_lt_mul_of_pos_left hx (Nat.pow_pos (by decide))
theorem shG_dig {k : Nat} (hk : k ≤ 32) : ∀ (l : List Nat) (c:Nat), c < 2 ^ k → (∀ x ∈ l, x < 4294967296) → ∀ z ∈ shG k c l, z < 4294967296
 | [], c, hc, _, z, hz => by
   have : 2 ^ k ≤ 2 ^ 32 := Nat.pow_le_pow_right (by decide) hk
   simp [shG] at hz; omega
 | x :: l, c, hc, h, z, hz => by
   simp only [shG, List.mem_cons] at hz
   rcases hz with rfl | hz
   · exact lo_add hk hc x
   · exact shG_dig hk l _ (hi_lt (h x (by simp))) (fun y hy => h y (by simp [hy])) z hz
theorem shG_last {k : Nat} : ∀ (l : List Nat) (c:Nat), c < 2 ^ k → (∀ x ∈ l, x < 4294967296) → (shG k c l).getD l.length 0 < 2 ^ k
 | [], c, hc, _ => by simpa [shG] using hc
 | x :: l, c, _, h => by
   have := shG_last (k := k) l ((x * 2 ^ k) / 4294967296) (hi_lt (h x (by simp))) fun y hy => h y (by simp [hy])
   simpa [shG] using this
theorem shG_snoc {k x : Nat} : ∀ (l : List Nat) (c:Nat), shG k c (l ++ [x]) = (shG k c l).set l.length ((x * 2 ^ k) % 4294967296 + (shG k c l).getD l.length 0) ++ [(x * 2 ^ k) / 4294967296]
 | [], c => by simp [shG]
 | y :: l, c => by
   have := shG_snoc (k := k) (x := x) l ((y * 2 ^ k) / 4294967296)
   simp only [List.cons_append, shG, this, List.length_cons, List.set_cons_succ, List.getD_cons_succ]
theorem orC {k c x : Nat} (hk : k ≤ 32) (hc : c < 2 ^ k) : bitsI .u32 (· ||| ·) (c:Int) (((x * 2 ^ k) % 4294967296:Nat) : Int) = (((x * 2 ^ k) % 4294967296 + c:Nat) : Int) := by
 have hl := lo_add hk hc x
 have e1 : BitVec.ofInt IntKind.u32.bits (c:Int) = BitVec.ofNat 32 c := BitVec.ofInt_natCast ..
 have e2 : BitVec.ofInt IntKind.u32.bits (((x * 2 ^ k) % 4294967296:Nat) : Int) = BitVec.ofNat 32 ((x * 2 ^ k) % 4294967296) := BitVec.ofInt_natCast ..
 have e3 : ((BitVec.ofNat 32 c ||| BitVec.ofNat 32 ((x * 2 ^ k) % 4294967296) : BitVec 32)).toNat = (x * 2 ^ k) % 4294967296 + c := by
   rw [BitVec.toNat_or, BitVec.toNat_ofNat, BitVec.toNat_ofNat, Nat.mod_eq_of_lt (a := c) (by omega), Nat.mod_eq_of_lt (a := (x * 2 ^ k) % 4294967296) (by omega), Nat.or_comm, lo_form hk]
   have := Nat.shiftLeft_add_eq_or_of_lt (i := k) (b := c) hc (x % 2 ^ (32 - k))
   rw [Nat.shiftLeft_eq] at this
   exact this.symm
 unfold bitsI
 rw [e1, e2]
 have e4 : (((BitVec.ofNat 32 c) ||| (BitVec.ofNat 32 ((x * 2 ^ k) % 4294967296)) : BitVec 32).toNat:Int) = (((x * 2 ^ k) % 4294967296 + c:Nat) : Int) := by rw [e3]
 exact (congrArg IntKind.u32.wrap e4).trans (u32_id (by omega) (by omega))
def OutA (l : List Nat) : V → Heap → Prop := fun v h => v = vR 0 ∧ h = [some (.arr 1 (lim l))]
theorem shift_ok {l : List Nat} {k : Nat} (hB : ∀ x ∈ l, x < 4294967296) (hl : l.length ≤ 1099511627776) (hk : k ≤ 31) :
   FnD prog 172 [vs (lim l), vi k] (vR 0) [some (.arr 1 (lim (shG k 0 l)))] := by
 refine vc172o_ok _ _ (R := OutA (shG k 0 l)) ?_
 unfold vc172o
 simp only [lim_length]
 have w1 : IntKind.i64.wrap ((l.length:Int) + 1) = ((l.length + 1:Nat) : Int) := by rw [w64 (by omega) (by omega)]; omega
 rw [w1]
 refine ⟨⟨by omega, by omega, by omega⟩, fun out t => ∃ i : Nat, t = (i:Int) ∧ i ≤ l.length ∧ out = lim (shG k 0 (l.take i) ++ List.replicate (l.length - i) 0), fun _ t => ((l.length:Int) - t).toNat, ⟨0, rfl, by omega, ?_⟩, ?_⟩
 · rw [Int.toNat_natCast, lim_rep, List.replicate_succ]; simp [shG]
 rintro _ _ ⟨i, rfl, hi, rfl⟩
 refine ⟨fun h => ?_, fun h => ?_⟩
 · have hil : i < l.length := by simpa using h
   have hx := hB _ (List.getElem_mem hil)
   have hBt : ∀ x ∈ l.take i, x < 4294967296 := fun x hx => hB x (List.mem_of_mem_take hx)
   have hlt : (l.take i).length = i := by simp; omega
   have hS := shG_len k (l.take i) 0
   have hc := shG_last (k := k) (l.take i) 0 (Nat.pow_pos (by decide)) hBt
   have hsn := shG_snoc (k := k) (x := l[i]) (l.take i) 0
   have htk : l.take (i + 1) = l.take i ++ [l[i]] := by rw [List.take_add_one, List.getElem?_eq_getElem hil]; rfl
   rw [hlt] at hS hc hsn
   rw [← htk] at hsn
   generalize hSe : shG k 0 (l.take i) = S at *
   have hget : (lim (S ++ List.replicate (l.length - i) 0))[((i:Nat) : Int).toNat]? = some [dU ((S.getD i 0:Nat) : Int)] := by
     rw [Int.toNat_natCast, lim_get (by simp; omega)]
     simp [List.getElem_append_left (show i < S.length by omega), List.getElem?_eq_getElem (show i < S.length by omega)]
   generalize hce : S.getD i 0 = c at *
   have hwide : l[i] * 2 ^ k < 18446744073709551616 := by
     have h1 : 2 ^ k ≤ 2 ^ 31 := Nat.pow_le_pow_right (by decide) hk
     have h2 : l[i] * 2 ^ k ≤ l[i] * 2 ^ 31 := Nat.mul_le_mul_left _ h1
     omega
   have ek : (2:Int) ^ (min (k:Int).toNat IntKind.u64.bits) = ((2 ^ k:Nat) : Int) := by
     have hb : IntKind.u64.bits = 64 := rfl
     rw [hb, Int.toNat_natCast, Nat.min_eq_left (by omega)]; simp
   have e1 : IntKind.u64.wrap (IntKind.u64.wrap ((l[i] : Nat) : Int) * 2 ^ (min (k:Int).toNat IntKind.u64.bits)) = ((l[i] * 2 ^ k:Nat) : Int) := by
     rw [wu64 (n := ((l[i] : Nat) : Int)) (by omega) (by omega), ek, ← Int.natCast_mul, wu64 (by omega) (by omega)]
   have hhi := hi_lt (k := k) hx
   generalize hW : l[i] * 2 ^ k = W at *
   have e2 : IntKind.u32.wrap (W:Int) = ((W % 4294967296:Nat) : Int) := by rw [wu32]; omega
   have e3 : IntKind.u32.wrap ((W:Int).fdiv (2 ^ (min (32:Int).toNat IntKind.u64.bits))) = ((W / 4294967296:Nat) : Int) := by
     rw [sh32, u32_id (by omega) (by omega)]; omega
   have e4 : bitsI .u32 (· ||| ·) (c:Int) ((W % 4294967296:Nat) : Int) = ((W % 4294967296 + c:Nat) : Int) := by
     have := orC (k := k) (c := c) (x := l[i]) (by omega) hc
     rwa [hW] at this
   have e5 : IntKind.i64.wrap ((i:Int) + 1) = ((i + 1:Nat) : Int) := inc64 (by omega)
   refine ⟨((l[i] : Nat) : Int), ⟨by omega, by omega⟩, by rw [Int.toNat_natCast]; exact lim_get hil, by omega, (c:Int), ⟨by omega, by rw [lim_length]; simp; omega⟩, hget, by decide, ?_⟩
   rw [e1, e2, e3, e4, e5, Int.toNat_natCast, Int.toNat_natCast, lim_set, lim_set]
   have hset : ((S ++ List.replicate (l.length - i) 0).set i (W % 4294967296 + c)).set (i + 1) (W / 4294967296) = shG k 0 (l.take (i + 1)) ++ List.replicate (l.length - (i + 1)) 0 := by
     rw [hsn, List.set_append_left _ _ (by omega), List.set_append_right _ _ (by simp; omega), List.length_set, hS, Nat.sub_self,
       show l.length - i = (l.length - (i + 1)) + 1 by omega, List.replicate_succ, List.set_cons_zero, List.append_assoc]
     rfl
   refine ⟨⟨by omega, by rw [lim_length]; simp; omega⟩, ⟨i + 1, rfl, by omega, by rw [hset]⟩, by show ((l.length:Int) - ((i + 1:Nat) : Int)).toNat < ((l.length:Int) - (i:Int)).toNat; omega⟩
 · have hil : i = l.length := by have : l.length ≤ i := by simpa using h
                                 omega
   subst hil
   rw [List.take_length, Nat.sub_self, List.replicate_zero, List.append_nil]
   exact ⟨rfl, rfl⟩
end Go.AM
/- slices.Clone at limbs (f168). -/
namespace Go.AM
open Go.Proofs.Try
theorem u27 : prog.underlying 27 = some (.slice 95) := by kernel_rfl
theorem wpIn_isNil {n : Nat} {a : Act} {w : World} {o : Oper} {x : Operand} {ad : Option Addr} {len cap : Nat} {next:Act → World → Prop} {Q : Exit → Act → World → Prop}
   (ho : ∃ ty, o.op = .binOp .eql 27 x (.const (.slice none 0 0)) ty) (hx : a.eval x = .slice ad len cap) (h : next (a.put o.dst (.bool ad.isNone)) w) : o.wpIn Fence.wide n prog a w next Q := by
 refine ⟨fun f hf => trivial, ?_⟩
 have hrun : (o.semAt none a.eval).run prog w = .ok (.value (.bool ad.isNone)) w := by
   rw [Oper.semAt_none]
   obtain ⟨dst, op, ty, pos, after, guard⟩ := o
   obtain ⟨ty2, ho⟩ := ho
   simp only at ho
   subst ho
   have he : a.eval (.const (.slice none 0 0)) = .slice none 0 0 := rfl
   have heq : (Op.equal 27 (.slice ad len cap) (.slice none 0 0)).run prog w = .ok ad.isNone w := by
     obtain ⟨d, hd⟩ : ∃ d, Op.maxDepth = d + 1 := ⟨_, rfl⟩
     unfold Op.equal
     rw [hd]
     unfold Op.equalIn
     cases ad <;> simp [run_underlying u27, Sem.run_bind, Result.andThen]
   have hb : (binOp .eql 27 (.slice ad len cap) (.slice none 0 0)).run prog w = .ok (.bool ad.isNone) w := by
     show (do pure (Value.bool (← Op.equal 27 (.slice ad len cap) (.slice none 0 0))) : Sem Value).run prog w = _
     rw [Sem.run_bind, heq]; rfl
   have hg : (eqGuard .eql 27 x (.const (.slice none 0 0)) (.slice ad len cap) (.slice none 0 0)).run prog w = .ok () w := by
     unfold eqGuard; simp
   simp only [execOp, hx, he, Sem.run_bind, hg, hb, Result.andThen, Sem.run_pure]
 show o.uponIn Fence.wide n prog a next Q ((o.semAt none a.eval).run prog w)
 rw [hrun, Oper.uponIn_value]
 exact h
set_option maxRecDepth 100000 in
set_option maxHeartbeats 1000000 in
theorem clone_ok {l : DL} (h1 : ∀ y ∈ l, y.length = 1) (h2 : l.length * 4 ≤ 140737488355328) : FnD prog 168 [vD (dL l)] (vD (dL l)) [] := by
 refine ⟨⟨f168, func168, rfl, by kernel_rfl⟩, fun I M w vs s hr => ?_⟩
 refine (callsIn_wide (n := 0)).1 (callsIn_of_wp func168 rfl trivial ?_)
 have s0 := Sim.start (fn := f168) ntmps168 (args := [vD (dL l)]) (by simp) s hr
 have no0 : ∀ {M : Mem} b, ¬ fpAll M [] b := fun b ⟨o, ho⟩ => by simp [fpAt] at ho
 refine wpIn_seq (wpIn_mono (Does.regV hT (n0 := 0) [0] [] (σ' := ⟨[(0, vD (dL l))], [], 8⟩) (cnt := 0) (ins := [o0]) (obs := []) (by kernel_rfl) rfl rfl (by kernel_rfl) trivial none 0 I M _ w s0) ?_)
 rintro e a1 w1 ⟨rfl, I1, M1, s1, n1⟩
 refine wpIn_seq (wpIn_seq (wpIn_region (xpart_ok (k := 0) (c := 1) (rest := [1]) hT (ins := [o0]) (live := [0, 3]) (σ' := ⟨[(0, vD (dL l)), (3, vD (dL l))], [], 8⟩) (obs := []) (by kernel_rfl) trivial s1 ?_)))
 intro a2 w2 I2 M2 s2 n2
 have h3 : Reads w2 I2 (a2.tmps.getD 3 undef) (.sl l) := s2.tm 3 (vD (dL l)) (by simp)
 obtain ⟨ad, len, cap, hv, hnil⟩ : ∃ ad len cap, a2.tmps.getD 3 undef = .slice ad len cap ∧ (ad.isNone = true → l = []) := by
   generalize a2.tmps.getD 3 undef = z at h3
   cases h3 with
   | slnil a c => exact ⟨a, 0, c, rfl, fun _ => rfl⟩
   | sl elems vs hI hb hs hcap hc hr => exact ⟨_, _, _, rfl, fun h => by simp at h⟩
 refine wpOpsIn_one rfl rfl (wpIn_isNil ⟨_, rfl⟩ hv ?_)
 have s3 : Sim I2 M2 ⟨[(0, vD (dL l)), (4, vD (dB ad.isNone))], [], 8⟩ (a2.put (some 4) (.bool ad.isNone)) w2 := by
   have hsz : a2.tmps.size = 8 := s2.size
   refine { toSimH := s2.toSimH, tm := fun i v hv => ?_, size := by simp [Act.put, hsz], defers := s2.defers }
   simp only [List.mem_cons, Prod.mk.injEq, List.not_mem_nil, or_false] at hv
   rcases hv with ⟨rfl, rfl⟩ | ⟨rfl, rfl⟩
   · have : (a2.put (some 4) (.bool ad.isNone)).tmps.getD 0 undef = a2.tmps.getD 0 undef := by simp [Act.put, Array.getD_eq_getD_getElem?]
     rw [this]; exact s2.tm 0 _ (by simp)
   · have : (a2.put (some 4) (.bool ad.isNone)).tmps.getD 4 undef = .bool ad.isNone := by simp [Act.put, Array.getD_eq_getD_getElem?, hsz]
     rw [this]; exact Reads.bool _
 have nB := n1.trans n2
 show Code.wpIn _ _ _ _ _ _ _
 refine wpIn_cond_split (t := ad.isNone) (relV_bool (s3.ev rfl)) (fun hc => ?_) (fun hc => ?_)
 · -- nil
   obtain rfl := hnil hc
   refine wpIn_seq (wpIn_mono (Does.regV hT (n0 := 0) [2] [] (σ' := ⟨[(2, vD (.raw nilS))], [], 8⟩) (cnt := 0) (ins := [o0]) (obs := []) (by kernel_rfl) rfl rfl (by kernel_rfl) trivial none 0 I2 M2 _ w2 s3) ?_)
   rintro e a4 w4 ⟨rfl, I4, M4, s4, n4⟩
   refine wpIn_ret ?_
   obtain ⟨u, g1, g2⟩ := results_ok hT s4 (fn := f168) (r := vD (.raw nilS)) (by kernel_rfl)
   have nA := nB.trans n4
   exact ⟨s4.defers, u, g1, u, _, [], I4, M4, rfl, ⟨rfl, rfl⟩, normD_ok g2, s4.toSimH, nA.ext, fun b hb => absurd hb (no0 b), fun o e ho => by simp at ho⟩
 · refine wpIn_skip ?_
   refine wpIn_seq (wpIn_mono (((Does.regV hT (n0 := 0) [2] [1] (σ' := ⟨[(2, vR 0)], [some (.arr 1 ([] ++ l))], 8⟩) (cnt := 2) (ins := [(Or.none, 0, 1), o0, (Or.none, 1, 1), o0])
     (obs := [∀ y ∈ l, y.length = 1, (([] : DL).length + l.length) * 4 ≤ 140737488355328]) (by kernel_rfl) rfl rfl (by kernel_rfl) ⟨h1, by simpa using h2, trivial⟩).wk
     (xfreeze_ok (ids := [0]) (σ' := ⟨[(2, vD (dL ([] ++ l)))], [none], 8⟩) (by kernel_rfl))).wk (xview_ok (live := [2]) (ids := []) (σ' := ⟨[(2, vD (dL ([] ++ l)))], [], 8⟩) (by kernel_rfl) rfl rfl) none 0 I2 M2 _ w2 s3) ?_)
   rintro e a4 w4 ⟨rfl, I4, M4, s4, n4⟩
   refine wpIn_ret ?_
   obtain ⟨u, g1, g2⟩ := results_ok hT s4 (fn := f168) (r := vD (dL ([] ++ l))) (by kernel_rfl)
   have nA := nB.trans n4
   exact ⟨s4.defers, u, g1, u, _, [], I4, M4, rfl, ⟨rfl, rfl⟩, g2, s4.toSimH, nA.ext, fun b hb => absurd hb (no0 b), fun o e ho => by simp at ho⟩
end Go.AM
/- Long division in plain Lean: how good the guess of a digit is. -/
namespace Go.AM
theorem guess_dec {v1 v2 vr P u2 wr top g r : Nat} (hg : g * v1 + r = top) (hw : wr < P) (hlt : (top * 4294967296 + u2) * P + wr < ((v1 * 4294967296 + v2) * P + vr) * 4294967296)
   (h : 4294967296 ≤ g ∨ r * 4294967296 + u2 < g * v2) : ((top * 4294967296 + u2) * P + wr) / ((v1 * 4294967296 + v2) * P + vr) < g := by
 obtain ⟨W, hW⟩ : ∃ W, W = (top * 4294967296 + u2) * P + wr := ⟨_, rfl⟩
 obtain ⟨v, hv⟩ : ∃ v, v = (v1 * 4294967296 + v2) * P + vr := ⟨_, rfl⟩
 rw [← hW, ← hv] at hlt ⊢
 have hv0 : 0 < v := by
   rcases Nat.eq_zero_or_pos v with h0 | h0
   · rw [h0] at hlt; omega
   · exact h0
 rw [Nat.div_lt_iff_lt_mul hv0]
 rcases h with h | h
 · have : v * 4294967296 ≤ v * g := Nat.mul_le_mul_left _ h
   rw [Nat.mul_comm g v]; omega
 · have h1 : (top * 4294967296 + u2 + 1) * P ≤ (g * (v1 * 4294967296 + v2)) * P := by
     refine Nat.mul_le_mul_right _ ?_
     rw [← hg, Nat.add_mul, Nat.mul_add, ← Nat.mul_assoc]; omega
   have h2 : (g * (v1 * 4294967296 + v2)) * P ≤ g * v := by
     rw [Nat.mul_assoc, hv]; exact Nat.mul_le_mul_left _ (Nat.le_add_right _ _)
   rw [Nat.add_mul _ 1 P, Nat.one_mul] at h1
   omega
theorem guess_end {v1 v2 vr P u2 wr top g r : Nat} (hg : g * v1 + r = top) (hv1 : 2147483648 ≤ v1) (hv2 : v2 < 4294967296) (hvr : vr < P) (hgB : g ≤ 4294967296)
   (h : 4294967296 ≤ r ∨ g * v2 ≤ r * 4294967296 + u2) : g ≤ ((top * 4294967296 + u2) * P + wr) / ((v1 * 4294967296 + v2) * P + vr) + 1 := by
 have h1 : g * v2 ≤ r * 4294967296 + u2 := by
   rcases h with h | h
   · have a1 : g * v2 ≤ 4294967296 * v2 := Nat.mul_le_mul_right _ hgB
     omega
   · exact h
 obtain ⟨W, hW⟩ : ∃ W, W = (top * 4294967296 + u2) * P + wr := ⟨_, rfl⟩
 obtain ⟨v, hv⟩ : ∃ v, v = (v1 * 4294967296 + v2) * P + vr := ⟨_, rfl⟩
 rw [← hW, ← hv]
 have hP : 0 < P := by omega
 have hvB : 4294967296 * P ≤ v := by
   have : 4294967296 * P ≤ (v1 * 4294967296 + v2) * P := Nat.mul_le_mul_right _ (by omega)
   omega
 have hv0 : 0 < v := by omega
 have h2 : (g * (v1 * 4294967296 + v2)) * P ≤ (top * 4294967296 + u2) * P := by
   refine Nat.mul_le_mul_right _ ?_
   rw [← hg, Nat.add_mul, Nat.mul_add, ← Nat.mul_assoc]; omega
 have h3 : g * v ≤ W + g * P := by
   rw [hv, Nat.mul_add, ← Nat.mul_assoc]
   have : g * vr ≤ g * P := Nat.mul_le_mul_left _ (by omega)
   omega
 have h4 : g * P ≤ v := Nat.le_trans (Nat.mul_le_mul_right _ hgB) hvB
 rcases Nat.eq_zero_or_pos g with h0 | h0
 · rw [h0]; exact Nat.zero_le _
 · have h5 : (g - 1) * v ≤ W := by rw [Nat.sub_mul, Nat.one_mul]; omega
   have := (Nat.le_div_iff_mul_le hv0).2 h5
   omega
theorem guess_first {v1 v2 vr P u2 wr hi lo g r : Nat} (hv1 : 2147483648 ≤ v1) (hv2 : v2 < 4294967296) (hvr : vr < P) (hlo : lo < 4294967296) (hu : u2 < 4294967296)
   (hg : g = (hi * 4294967296 + lo) / v1) (hr : r = (hi * 4294967296 + lo) % v1)
   (hlt : ((hi * 4294967296 + lo) * 4294967296 + u2) * P + wr < ((v1 * 4294967296 + v2) * P + vr) * 4294967296) (hw : wr < P) :
   g * v1 + r = hi * 4294967296 + lo ∧ r < v1 ∧ hi ≤ v1 ∧ g ≤ 4294967297 ∧ (((hi * 4294967296 + lo) * 4294967296 + u2) * P + wr) / ((v1 * 4294967296 + v2) * P + vr) ≤ g := by
 have hP : 0 < P := by omega
 have h1 : g * v1 + r = hi * 4294967296 + lo := by rw [hg, hr, Nat.mul_comm]; exact Nat.div_add_mod _ _
 have h2 : r < v1 := by rw [hr]; exact Nat.mod_lt _ (by omega)
 have h3 : hi ≤ v1 := by
   apply Classical.byContradiction
   intro hn
   have a1 : (v1 + 1) * (4294967296 * (4294967296 * P)) ≤ hi * (4294967296 * (4294967296 * P)) := Nat.mul_le_mul_right _ (by omega)
   have a2 : ((hi * 4294967296 + lo) * 4294967296 + u2) * P = hi * (4294967296 * (4294967296 * P)) + (lo * 4294967296 + u2) * P := by
     simp only [Nat.add_mul, Nat.mul_assoc]; omega
   have a3 : ((v1 * 4294967296 + v2) * P + vr) * 4294967296 = v1 * (4294967296 * (4294967296 * P)) + (v2 * P + vr) * 4294967296 := by
     simp only [Nat.add_mul, Nat.mul_assoc, Nat.mul_comm P 4294967296]; omega
   have a4 : (v2 + 1) * P ≤ 4294967296 * P := Nat.mul_le_mul_right _ (by omega)
   rw [Nat.add_mul, Nat.one_mul] at a1 a4
   rw [a2, a3] at hlt
   omega
 refine ⟨h1, h2, h3, ?_, ?_⟩
 · rw [hg]
   have : hi * 4294967296 + lo < v1 * 4294967298 := by omega
   have := (Nat.div_lt_iff_lt_mul (by omega)).2 (show hi * 4294967296 + lo < 4294967298 * v1 by omega)
   omega
 · obtain ⟨W, hW⟩ : ∃ W, W = ((hi * 4294967296 + lo) * 4294967296 + u2) * P + wr := ⟨_, rfl⟩
   rw [← hW]
   obtain ⟨v, hv⟩ : ∃ v, v = (v1 * 4294967296 + v2) * P + vr := ⟨_, rfl⟩
   rw [← hv]
   obtain ⟨t, ht⟩ : ∃ t, t = hi * 4294967296 + lo := ⟨_, rfl⟩
   rw [← ht] at hW h1
   have hv0 : 0 < v := by
     have : 0 < (v1 * 4294967296 + v2) * P := Nat.mul_pos (by omega) hP
     omega
   have c1 : t + 1 ≤ (g + 1) * v1 := by rw [Nat.add_mul g 1, Nat.one_mul]; omega
   have c2 : (t + 1) * (4294967296 * P) ≤ (g + 1) * v1 * (4294967296 * P) := Nat.mul_le_mul_right _ c1
   have c3 : (u2 + 1) * P ≤ 4294967296 * P := Nat.mul_le_mul_right _ hu
   rw [Nat.add_mul u2 1, Nat.one_mul] at c3
   have c4 : W < (t + 1) * (4294967296 * P) := by
     rw [hW, Nat.add_mul t 1, Nat.one_mul, Nat.add_mul (t * 4294967296) u2, Nat.mul_assoc t]
     omega
   have c6 : v1 * 4294967296 * P ≤ (v1 * 4294967296 + v2) * P := Nat.mul_le_mul_right _ (by omega)
   have c5 : (g + 1) * v1 * (4294967296 * P) ≤ (g + 1) * v := by
     rw [hv, Nat.mul_assoc (g + 1)]
     refine Nat.mul_le_mul_left _ ?_
     rw [← Nat.mul_assoc]
     omega
   have := (Nat.div_lt_iff_lt_mul hv0).2 (show W < (g + 1) * v by omega)
   omega
end Go.AM
/- Long division in plain Lean: a multiple of the divisor is subtracted; the divisor is added back. -/
namespace Go.AM
def sbD (u lo bo:Nat) : Nat := (u + 8589934592 - lo - bo) % 4294967296
def sbB (u lo bo:Nat) : Nat := if u < lo + bo then 1 else 0
theorem sb_ok {u lo bo : Nat} (hu : u < 4294967296) (hl : lo < 4294967296) (hb : bo ≤ 1) : u + sbB u lo bo * 4294967296 = sbD u lo bo + lo + bo ∧ sbD u lo bo < 4294967296 ∧ sbB u lo bo ≤ 1 := by
 unfold sbB sbD
 split <;> omega
def mS (g:Nat) : Nat → Nat → List Nat → List Nat → List Nat × Nat × Nat
 | c, bo, u :: us, y :: vs =>
   (sbD u ((c + g * y) % 4294967296) bo :: (mS g ((c + g * y) / 4294967296) (sbB u ((c + g * y) % 4294967296) bo) us vs).1,
     (mS g ((c + g * y) / 4294967296) (sbB u ((c + g * y) % 4294967296) bo) us vs).2)
 | c, bo, _, _ => ([], c, bo)
theorem mS_val {g : Nat} : ∀ (us vs : List Nat) (c bo:Nat), us.length = vs.length → (∀ x ∈ us, x < 4294967296) → bo ≤ 1 →
   val us + ((mS g c bo us vs).2.1 + (mS g c bo us vs).2.2) * 4294967296 ^ us.length = val (mS g c bo us vs).1 + g * val vs + c + bo ∧ (mS g c bo us vs).2.2 ≤ 1 ∧ (∀ z ∈ (mS g c bo us vs).1, z < 4294967296) ∧ (mS g c bo us vs).1.length = us.length
 | [], [], c, bo, _, _, hb => by simp [mS, val, hb]
 | [], _ :: _, _, _, h, _, _ => by simp at h
 | _ :: _, [], _, _, h, _, _ => by simp at h
 | u :: us, y :: vs, c, bo, h, hu, hb => by
   have h0 := hu u (by simp)
   obtain ⟨s1, s2, s3⟩ := sb_ok h0 (Nat.mod_lt (c + g * y) (by decide : 0 < 4294967296)) hb
   have hdm := Nat.div_add_mod (c + g * y) 4294967296
   simp only [mS]
   generalize hlo : (c + g * y) % 4294967296 = lo at *
   generalize hhi : (c + g * y) / 4294967296 = hi at *
   obtain ⟨i1, i2, i3, i4⟩ := mS_val us vs hi (sbB u lo bo) (by simpa using h) (fun x hx => hu x (by simp [hx])) s3
   generalize hms : mS g hi (sbB u lo bo) us vs = r at *
   refine ⟨?_, i2, fun z hz => ?_, by simp [i4]⟩
   · simp only [val, List.length_cons, Nat.pow_succ]
     have e1 : (r.2.1 + r.2.2) * (4294967296 ^ us.length * 4294967296) = 4294967296 * ((r.2.1 + r.2.2) * 4294967296 ^ us.length) := by
       rw [← Nat.mul_assoc, Nat.mul_comm]
     have e2 : g * (y + 4294967296 * val vs) = g * y + 4294967296 * (g * val vs) := by
       rw [Nat.mul_add, Nat.mul_left_comm]
     rw [e1, e2]
     omega
   · rcases List.mem_cons.1 hz with rfl | hz
     · exact s2
     · exact i3 z hz
def aB:Nat → List Nat → List Nat → List Nat × Nat
 | c, u :: us, y :: vs => ((u + y + c) % 4294967296 :: (aB ((u + y + c) / 4294967296) us vs).1, (aB ((u + y + c) / 4294967296) us vs).2)
 | c, _, _ => ([], c)
theorem aB_val : ∀ (us vs : List Nat) (c:Nat), us.length = vs.length → (∀ x ∈ us, x < 4294967296) → (∀ x ∈ vs, x < 4294967296) → c ≤ 1 →
   val us + val vs + c = val (aB c us vs).1 + (aB c us vs).2 * 4294967296 ^ us.length ∧ (aB c us vs).2 ≤ 1 ∧ (∀ z ∈ (aB c us vs).1, z < 4294967296) ∧ (aB c us vs).1.length = us.length
 | [], [], c, _, _, _, hc => by simp [aB, val, hc]
 | [], _ :: _, _, h, _, _, _ => by simp at h
 | _ :: _, [], _, h, _, _, _ => by simp at h
 | u :: us, y :: vs, c, h, hu, hv, hc => by
   have h0 := hu u (by simp)
   have h1 := hv y (by simp)
   have hdm := Nat.div_add_mod (u + y + c) 4294967296
   have hlt := Nat.mod_lt (u + y + c) (by decide : 0 < 4294967296)
   have hhi : (u + y + c) / 4294967296 ≤ 1 := by omega
   simp only [aB]
   generalize (u + y + c) % 4294967296 = lo at *
   generalize (u + y + c) / 4294967296 = hi at *
   obtain ⟨i1, i2, i3, i4⟩ := aB_val us vs hi (by simpa using h) (fun x hx => hu x (by simp [hx])) (fun x hx => hv x (by simp [hx])) hhi
   generalize hms : aB hi us vs = r at *
   refine ⟨?_, i2, fun z hz => ?_, by simp [i4]⟩
   · simp only [val, List.length_cons, Nat.pow_succ]
     have e1 : r.2 * (4294967296 ^ us.length * 4294967296) = 4294967296 * (r.2 * 4294967296 ^ us.length) := by
       rw [← Nat.mul_assoc, Nat.mul_comm]
     rw [e1]
     omega
   · rcases List.mem_cons.1 hz with rfl | hz
     · exact hlt
     · exact i3 z hz
end Go.AM
/- Long division in plain Lean: a round. -/
namespace Go.AM
theorem uniq_dm {a b x y N : Nat} (h : a + x * N = b + y * N) (ha : a < N) (hb : b < N) : a = b ∧ x = y := by
 have hN : 0 < N := by omega
 have h1 : (a + x * N) / N = x := by rw [Nat.add_mul_div_right _ _ hN, Nat.div_eq_of_lt ha, Nat.zero_add]
 have h2 : (b + y * N) / N = y := by rw [Nat.add_mul_div_right _ _ hN, Nat.div_eq_of_lt hb, Nat.zero_add]
 have h3 : x = y := by rw [← h1, h, h2]
 subst h3
 exact ⟨by omega, rfl⟩
theorem knuth_round {us vs : List Nat} {ut g W v : Nat} (hl : us.length = vs.length) (hu : ∀ x ∈ us, x < 4294967296) (hv : ∀ x ∈ vs, x < 4294967296) (hW : W = val us + ut * 4294967296 ^ us.length) (hvv : v = val vs) (hv0 : 0 < v)
   (h1 : W / v ≤ g) (h2 : g ≤ W / v + 1) :
   ((mS g 0 0 us vs).2.1 + (mS g 0 0 us vs).2.2 ≤ ut → g = W / v ∧ val (mS g 0 0 us vs).1 = W % v ∧ (mS g 0 0 us vs).2.1 + (mS g 0 0 us vs).2.2 = ut) ∧
   (ut < (mS g 0 0 us vs).2.1 + (mS g 0 0 us vs).2.2 → g = W / v + 1 ∧ (mS g 0 0 us vs).2.1 + (mS g 0 0 us vs).2.2 = ut + 1 ∧ (aB 0 (mS g 0 0 us vs).1 vs).2 = 1 ∧ val (aB 0 (mS g 0 0 us vs).1 vs).1 = W % v) := by
 obtain ⟨m1, _, m3, m4⟩ := mS_val (g := g) us vs 0 0 hl hu (by omega)
 have vlt : v < 4294967296 ^ us.length := by rw [hvv, hl]; exact val_lt hv
 have dlt : val (mS g 0 0 us vs).1 < 4294967296 ^ us.length := by have := val_lt m3; rwa [m4] at this
 obtain ⟨a1, a2, a3, a4⟩ := aB_val (mS g 0 0 us vs).1 vs 0 (by rw [m4]; exact hl) m3 hv (by omega)
 have elt : val (aB 0 (mS g 0 0 us vs).1 vs).1 < 4294967296 ^ us.length := by have := val_lt a3; rwa [a4, m4] at this
 rw [m4] at a1
 have hdm := Nat.div_add_mod W v
 have hR := Nat.mod_lt W hv0
 generalize hS : (mS g 0 0 us vs).2.1 + (mS g 0 0 us vs).2.2 = S at *
 generalize (mS g 0 0 us vs).1 = ds at *
 generalize (aB 0 ds vs).1 = es at *
 generalize (aB 0 ds vs).2 = ce at *
 generalize 4294967296 ^ us.length = N at *
 generalize hQ : W / v = Q at *
 generalize W % v = Rm at *
 rw [← hvv] at m1 a1
 rcases Nat.lt_or_ge Q g with hg | hg
 · have hg' : g = Q + 1 := by omega
   subst hg'
   have e : Rm + S * N = val ds + v + ut * N := by
     rw [Nat.add_mul Q 1 v, Nat.one_mul] at m1
     rw [Nat.mul_comm v Q] at hdm
     omega
   have hS1 : S = ut + 1 := by
     rcases Nat.lt_trichotomy S (ut + 1) with h | h | h
     · have : S * N ≤ ut * N := Nat.mul_le_mul_right _ (by omega)
       omega
     · exact h
     · have : (ut + 2) * N ≤ S * N := Nat.mul_le_mul_right _ (by omega)
       rw [Nat.add_mul ut 2] at this
       omega
   subst hS1
   rw [Nat.add_mul ut 1 N, Nat.one_mul] at e
   refine ⟨fun h => by omega, fun _ => ⟨rfl, rfl, ?_⟩⟩
   have f : val es + ce * N = Rm + 1 * N := by omega
   have := uniq_dm f elt (by omega)
   exact ⟨this.2, this.1⟩
 · have hg' : g = Q := by omega
   subst hg'
   have e : Rm + S * N = val ds + ut * N := by
     rw [Nat.mul_comm v g] at hdm
     omega
   have := uniq_dm e (by omega) dlt
   exact ⟨fun _ => ⟨rfl, this.1.symm, this.2⟩, fun h => by omega⟩
end Go.AM
/- integer.Abs, oplog.least. -/
namespace Go.AM
open Go.Proofs.Try
theorem abs_ok (x:Int) : FnD prog 165 [eI x] (eI ((x.natAbs:Nat) : Int)) [] := by
 refine vc165_ok _ _ (R := Out _) ?_
 unfold vc165
 have h : decide (((x.natAbs:Nat) : Int) < 0) = false := decide_eq_false (by omega)
 exact ⟨by unfold eI; rw [h, Int.natAbs_natCast], rfl⟩
def lsS (m : List (List Int)) (c:Nat) (best:Int) (i:Nat) : Int :=
 if el m i c ≠ 0 ∧ (best < 0 ∨ (el m i c).natAbs < (el m best.toNat c).natAbs) then (i:Int) else best
def lsF (m : List (List Int)) (c top:Nat) : Nat → Int
 | 0 => -1
 | n + 1 => lsS m c (lsF m c top n) (top + n)
theorem lsF_ok {m : List (List Int)} {c top : Nat} : ∀ n, (lsF m c top n = -1 ∧ ∀ i, top ≤ i → i < top + n → el m i c = 0) ∨
   ∃ p : Nat, lsF m c top n = (p:Int) ∧ top ≤ p ∧ p < top + n ∧ el m p c ≠ 0 ∧ ∀ i, top ≤ i → i < top + n → el m i c ≠ 0 → (el m p c).natAbs ≤ (el m i c).natAbs
 | 0 => .inl ⟨rfl, fun i h1 h2 => by omega⟩
 | n + 1 => by
   simp only [lsF, lsS]
   rcases lsF_ok (m := m) (c := c) (top := top) n with ⟨h1, h2⟩ | ⟨p, h1, h2, h3, h4, h5⟩
   · rw [h1]
     by_cases h : el m (top + n) c = 0
     · rw [if_neg (by simp [h])]
       refine .inl ⟨rfl, fun i g1 g2 => ?_⟩
       by_cases hi : i = top + n
       · subst hi; exact h
       · exact h2 i g1 (by omega)
     · rw [if_pos ⟨h, .inl (by decide)⟩]
       refine .inr ⟨top + n, rfl, by omega, by omega, h, fun i g1 g2 g3 => ?_⟩
       by_cases hi : i = top + n
       · subst hi; exact Nat.le_refl _
       · exact absurd (h2 i g1 (by omega)) g3
   · rw [h1]
     have hnn : ¬ ((p:Int) < 0) := by omega
     by_cases h : el m (top + n) c ≠ 0 ∧ (el m (top + n) c).natAbs < (el m p c).natAbs
     · rw [if_pos ⟨h.1, .inr (by rw [Int.toNat_natCast]; exact h.2)⟩]
       refine .inr ⟨top + n, rfl, by omega, by omega, h.1, fun i g1 g2 g3 => ?_⟩
       by_cases hi : i = top + n
       · subst hi; exact Nat.le_refl _
       · have := h5 i g1 (by omega) g3; omega
     · rw [if_neg (by rw [Int.toNat_natCast]; exact fun ⟨a, b⟩ => b.elim hnn fun b => h ⟨a, b⟩)]
       refine .inr ⟨p, rfl, h2, by omega, h4, fun i g1 g2 g3 => ?_⟩
       by_cases hi : i = top + n
       · subst hi
         apply Classical.byContradiction
         intro hn
         exact h ⟨g3, by omega⟩
       · exact h5 i g1 (by omega) g3
end Go.AM
/- Division of integers: integer.DivMod, given what integer.divide answers. -/
namespace Go.AM
open Go.Proofs.Try
theorem divmod_of {x y : Int} {L : Nat} {ql rl : List Nat} (hy : y ≠ 0) (hx : x.natAbs * 4294967296 < 4294967296 ^ L) (hy2 : y.natAbs * 4294967296 < 4294967296 ^ L) (hL : L ≤ 1073741824)
   (h167 : FnD prog 167 [vs (lim (digs x.natAbs)), vs (lim (digs y.natAbs))] (.tup [eD (dL (lim ql)), eD (dL (lim rl))]) []) (bq : ∀ z ∈ ql, z < 4294967296) (br : ∀ z ∈ rl, z < 4294967296) (lq : ql.length ≤ 1073741824) (lr : rl.length ≤ 1073741824)
   (hq : val ql = x.natAbs / y.natAbs) (hr : val rl = x.natAbs % y.natAbs) :
   FnD prog 166 [eI x, eI y] (.tup [ei (x / y), ei (x % y), eD (dI 0)]) [] := by
 have hsz : ∀ {z : Int}, z.natAbs < 4294967296 ^ L → Sz z := fun h => Sz.of_lt L hL h
 have mk : ∀ l : List Nat, (∀ z ∈ l, z < 4294967296) → l.length ≤ 1073741824 → FnD prog 144 [vs (lim l), vb false] (eI ((val l:Nat) : Int)) [] := fun l h1 h2 => by
   have := norm_eI l false h1 (by omega)
   simpa using this
 have mq := mk ql bq lq
 have mr := mk rl br lr
 rw [hq] at mq
 rw [hr] at mr
 have hY : 0 < y.natAbs := by omega
 have hdm := Nat.div_add_mod x.natAbs y.natAbs
 have hml := Nat.mod_lt x.natAbs hY
 have hqle : x.natAbs / y.natAbs ≤ x.natAbs := Nat.div_le_self _ _
 have hcast : ((y.natAbs:Nat) : Int) * ((x.natAbs / y.natAbs:Nat) : Int) + ((x.natAbs % y.natAbs:Nat) : Int) = ((x.natAbs:Nat) : Int) := by
   rw [← Int.natCast_mul, ← Int.natCast_add, hdm]
 generalize hQ : x.natAbs / y.natAbs = Q at *
 generalize hM : x.natAbs % y.natAbs = M at *
 clear hdm hQ hM
 have hlM : ((lim (digs M)).length:Int) > 0 ↔ 0 < M := by
   rw [lim_length]
   constructor
   · intro h
     rcases Nat.eq_zero_or_pos M with h0 | h0
     · subst h0; rw [digs_zero] at h; simp at h
     · exact h0
   · intro h
     have : (digs M).length ≠ 0 := fun e => by have := digs_nil.1 (List.length_eq_zero_iff.1 e); omega
     omega
 have ly := digs_len (n := y.natAbs) (k := L) (by omega)
 refine vc166_ok _ _ _ _ (R := Out _) ?_
 unfold vc166
 refine ⟨fun h => ?_, fun _ => ⟨_, _, h167, _, _, _, _, mq, mr, fun hneg => ?_, fun hneg => ?_⟩⟩
 · exfalso
   rw [lim_length] at h
   have h0 : (digs y.natAbs).length = 0 := by simpa using (natEq _ 0).symm.trans h
   have := digs_nil.1 (List.length_eq_zero_iff.1 h0)
   omega
 · have hx0 : x < 0 := by simpa using hneg
   simp only [Int.natAbs_natCast]
   refine ⟨fun hp => ?_, fun hp => ?_⟩
   · have hM0 : 0 < M := hlM.1 (by simpa using hp)
     have f1 := of_ok 1 (by decide) (by decide)
     have f2 := add_ok (x := (Q:Int)) (y := 1) (hsz (by rw [Int.natAbs_natCast]; omega)) (Sz.of_lt 1 (by decide) (by decide))
     have f3 := minus_ok (a := digs y.natAbs) (b := digs M) (digs_lt _) (digs_lt _) (by omega) (len_le_of_val (digs_lt _) (digs_canon _) (by rw [val_digs, val_digs]; omega)) (by rw [val_digs, val_digs]; omega)
     rw [val_digs, val_digs] at f3
     have f4 := mk (padD (digs y.natAbs).length (y.natAbs - M)) (padD_lt _ _) (by rw [padD_length]; omega)
     rw [val_padD _ _ (by have := val_lt (digs_lt y.natAbs); rw [val_digs] at this; omega), Int.natCast_sub (by omega)] at f4
     refine ⟨_, _, _, _, f1, f2, _, _, _, f3, f4, fun hs => ?_, fun hs => ?_⟩
     · have hy0 : ¬ y < 0 := by
         intro hy0
         simp [hx0, hy0] at hs
       have := ediv_uniq (a := x) (b := y) (q := -((Q:Int) + 1)) (r := ((y.natAbs:Nat) : Int) - M) hy (by
         have e : ((y.natAbs:Nat) : Int) = y := by omega
         rw [e] at hcast ⊢
         rw [Int.mul_neg, Int.mul_add, Int.mul_one]; omega) (by omega) (by omega)
       exact ⟨_, _, neg_ok ((Q:Int) + 1), out3 this.1.symm this.2.symm⟩
     · have hy0 : y < 0 := by
         apply Classical.byContradiction
         intro hy0
         simp [hx0, hy0] at hs
       have := ediv_uniq (a := x) (b := y) (q := (Q:Int) + 1) (r := ((y.natAbs:Nat) : Int) - M) hy (by
         have e : ((y.natAbs:Nat) : Int) = -y := by omega
         rw [e] at hcast ⊢
         rw [Int.neg_mul] at hcast
         rw [Int.mul_add, Int.mul_one]; omega) (by omega) (by omega)
       exact out3 this.1.symm this.2.symm
   · have hM0 : M = 0 := by
       have : ¬ 0 < M := fun h => by
         have := hlM.2 h
         simp only [decide_eq_false_iff_not] at hp
         exact hp this
       omega
     subst hM0
     refine ⟨fun hs => ?_, fun hs => ?_⟩
     · have hy0 : ¬ y < 0 := by
         intro hy0
         simp [hx0, hy0] at hs
       have := ediv_uniq (a := x) (b := y) (q := -(Q:Int)) (r := ((0:Nat) : Int)) hy (by
         have e : ((y.natAbs:Nat) : Int) = y := by omega
         rw [e] at hcast
         rw [Int.mul_neg]; omega) (by omega) (by omega)
       exact ⟨_, _, neg_ok (Q:Int), out3 this.1.symm this.2.symm⟩
     · have hy0 : y < 0 := by
         apply Classical.byContradiction
         intro hy0
         simp [hx0, hy0] at hs
       have := ediv_uniq (a := x) (b := y) (q := (Q:Int)) (r := ((0:Nat) : Int)) hy (by
         have e : ((y.natAbs:Nat) : Int) = -y := by omega
         rw [e, Int.neg_mul] at hcast
         omega) (by omega) (by omega)
       exact out3 this.1.symm this.2.symm
 · have hx0 : ¬ x < 0 := by simpa using hneg
   refine ⟨fun hs => ?_, fun hs => ?_⟩
   · have hy0 : y < 0 := by
       apply Classical.byContradiction
       intro hy0
       simp [hx0, hy0] at hs
     have := ediv_uniq (a := x) (b := y) (q := -(Q:Int)) (r := (M:Int)) hy (by
       have e : ((y.natAbs:Nat) : Int) = -y := by omega
       rw [e, Int.neg_mul] at hcast
       rw [Int.mul_neg]; omega) (by omega) (by omega)
     exact ⟨_, _, neg_ok (Q:Int), out3 this.1.symm this.2.symm⟩
   · have hy0 : ¬ y < 0 := by
       intro hy0
       simp [hx0, hy0] at hs
     have := ediv_uniq (a := x) (b := y) (q := (Q:Int)) (r := (M:Int)) hy (by
       have e : ((y.natAbs:Nat) : Int) = y := by omega
       rw [e] at hcast
       omega) (by omega) (by omega)
     exact out3 this.1.symm this.2.symm
end Go.AM
/- Division of integers: integer.divide, given what integer.long answers. -/
namespace Go.AM
open Go.Proofs.Try
theorem divide_of {A D : Nat} (hD : 0 < D) (lA : (digs A).length ≤ 1073741823) (lD : (digs D).length ≤ 1073741823)
   (h170 : 2 ≤ (digs D).length → D ≤ A → ∃ ql rl : List Nat, (∀ z ∈ ql, z < 4294967296) ∧ (∀ z ∈ rl, z < 4294967296) ∧ ql.length ≤ 1073741824 ∧ rl.length ≤ 1073741824 ∧ val ql = A / D ∧ val rl = A % D ∧
     FnD prog 170 [vs (lim (digs A)), vs (lim (digs D))] (.tup [eD (dL (lim ql)), eD (dL (lim rl))]) []) :
   ∃ ql rl : List Nat, (∀ z ∈ ql, z < 4294967296) ∧ (∀ z ∈ rl, z < 4294967296) ∧ ql.length ≤ 1073741824 ∧ rl.length ≤ 1073741824 ∧ val ql = A / D ∧ val rl = A % D ∧
     FnD prog 167 [vs (lim (digs A)), vs (lim (digs D))] (.tup [eD (dL (lim ql)), eD (dL (lim rl))]) [] := by
 have hcmp := compare_ok (a := digs A) (b := digs D) (digs_lt _) (digs_lt _) (digs_canon _) (digs_canon _) (by omega)
 rw [val_digs, val_digs] at hcmp
 have hc : decide (cmpI (A:Int) (D:Int) < 0) = decide (A < D) := by
   unfold cmpI
   by_cases h : A < D
   · have : (A:Int) < (D:Int) := by omega
     simp [h, this]
   · have : ¬ (A:Int) < (D:Int) := by omega
     rw [decide_eq_false h]
     simp only [this, if_false]
     split <;> decide
 rcases Nat.lt_or_ge A D with hlt | hge
 · refine ⟨[], digs A, by simp, digs_lt _, by simp, by omega, by rw [Nat.div_eq_of_lt hlt]; rfl, by rw [val_digs, Nat.mod_eq_of_lt hlt], ?_⟩
   refine vc167_ok _ _ (R := Out _) ?_
   unfold vc167
   refine ⟨_, hcmp, fun _ => ⟨_, clone_ok (lim_one _) (by rw [lim_length]; omega), rfl, rfl⟩, fun h => ?_⟩
   rw [hc] at h
   simp [hlt] at h
 · have hn : ¬ A < D := by omega
   by_cases h1 : (digs D).length = 1
   · obtain ⟨d, hd⟩ : ∃ d, digs D = [d] := List.length_eq_one_iff.1 h1
     have hdv : D = d := by have := val_digs D; rw [hd] at this; simpa [val] using this.symm
     have hdl := digs_lt D d (by rw [hd]; simp)
     subst hdv
     obtain ⟨e1, e2⟩ := sQ_div (d := D) hD (digs A)
     rw [val_digs] at e1 e2
     have hr := sQ_lt (d := D) hD (digs A)
     have h169 := short_ok (l := digs A) (d := D) (digs_lt A) (by omega) hD hdl
     refine ⟨(sQ D (digs A)).1, [(sQ D (digs A)).2], sQ_dig hD _ (digs_lt A), fun z hz => by simp at hz; omega, by rw [sQ_len]; omega, by simp, e1, by simp [val, e2], ?_⟩
     refine vc167_ok _ _ (R := Out _) ?_
     unfold vc167
     refine ⟨_, hcmp, fun h => ?_, fun _ => ⟨fun _ => ⟨(D:Int), _, _, ⟨by decide, by rw [lim_length, h1]; decide⟩, by rw [hd]; rfl, h169, rfl, rfl⟩, fun h => ?_⟩⟩
     · rw [hc] at h; simp [hn] at h
     · rw [lim_length, h1] at h; simp at h
   · have h0 : (digs D).length ≠ 0 := fun e => by have := digs_nil.1 (List.length_eq_zero_iff.1 e); omega
     obtain ⟨ql, rl, b1, b2, b3, b4, b5, b6, h⟩ := h170 (by omega) hge
     refine ⟨ql, rl, b1, b2, b3, b4, b5, b6, ?_⟩
     refine vc167_ok _ _ (R := Out _) ?_
     unfold vc167
     refine ⟨_, hcmp, fun h => ?_, fun _ => ⟨fun h => ?_, fun _ => ⟨_, _, h, rfl, rfl⟩⟩⟩
     · rw [hc] at h; simp [hn] at h
     · rw [lim_length] at h
       exact absurd (by simpa using (natEq _ 1).symm.trans h) h1
end Go.AM
/- Long division in plain Lean: the rest is shifted back. -/
namespace Go.AM
def shR (k:Nat) : List Nat → List Nat
 | x :: y :: l => (x / 2 ^ k + (y * 2 ^ (32 - k)) % 4294967296) :: shR k (y :: l)
 | _ => []
theorem shR_len (k:Nat) : ∀ l : List Nat, (shR k l).length = l.length - 1
 | [] => rfl
 | [_] => rfl
 | _ :: y :: l => by simp [shR, shR_len k (y :: l)]
theorem shR_val {k : Nat} (hk : k ≤ 32) : ∀ (l : List Nat) (x:Nat), val (shR k (x :: l)) + 4294967296 ^ l.length * ((x :: l).getLast (by simp) / 2 ^ k) = val (x :: l) / 2 ^ k
 | [], x => by simp [shR, val]
 | y :: l, x => by
   have ih := shR_val hk l y
   have hp : 0 < 2 ^ k := Nat.pow_pos (by decide)
   have e : (4294967296:Nat) = 2 ^ k * 2 ^ (32 - k) := by rw [← Nat.pow_add, show k + (32 - k) = 32 by omega]
   have hT : val (y :: l) % 2 ^ k = y % 2 ^ k := by
     simp only [val]
     rw [e, Nat.mul_assoc, Nat.add_mul_mod_self_left]
   have hlo : (y * 2 ^ (32 - k)) % 4294967296 = (y % 2 ^ k) * 2 ^ (32 - k) := by
     conv => lhs; rw [e]
     rw [Nat.mul_mod_mul_right]
   have hdm := Nat.div_add_mod (val (y :: l)) (2 ^ k)
   rw [hT] at hdm
   have hval : val (x :: y :: l) / 2 ^ k = x / 2 ^ k + 2 ^ (32 - k) * val (y :: l) := by
     show (x + 4294967296 * val (y :: l)) / 2 ^ k = _
     conv => lhs; rw [e]
     rw [Nat.mul_assoc, Nat.add_mul_div_left _ _ hp]
   have h3 : 2 ^ (32 - k) * val (y :: l) = 4294967296 * (val (y :: l) / 2 ^ k) + (y % 2 ^ k) * 2 ^ (32 - k) := by
     conv => lhs; rw [← hdm]
     rw [Nat.mul_add, ← Nat.mul_assoc, Nat.mul_comm (2 ^ (32 - k)) (2 ^ k), ← e, Nat.mul_comm (2 ^ (32 - k)) (y % 2 ^ k)]
   have hl : (x :: y :: l).getLast (by simp) = (y :: l).getLast (by simp) := rfl
   rw [hval, h3, ← ih, hl]
   simp only [shR, val, hlo, List.length_cons, Nat.pow_succ]
   rw [Nat.mul_add, Nat.mul_comm (4294967296 ^ l.length) 4294967296, Nat.mul_assoc 4294967296]
   omega
end Go.AM
/- Long division: the words of a round, one by one. -/
namespace Go.AM
theorem sub_word {u lo bo : Nat} (hu : u < 4294967296) (hl : lo < 4294967296) (hb : bo ≤ 1) :
   IntKind.u64.wrap (IntKind.u64.wrap ((u:Int) - (lo:Int)) - (bo:Int)) = (((u + 18446744073709551616 - lo - bo) % 18446744073709551616:Nat) : Int) := by
 rw [wu64', wu64']; omega
theorem sub_low {u lo bo : Nat} (hu : u < 4294967296) (hl : lo < 4294967296) (hb : bo ≤ 1) :
   IntKind.u32.wrap (((u + 18446744073709551616 - lo - bo) % 18446744073709551616:Nat) : Int) = ((sbD u lo bo:Nat) : Int) := by
 rw [wu32]; unfold sbD; omega
theorem sub_high {u lo bo : Nat} (hu : u < 4294967296) (hl : lo < 4294967296) (hb : bo ≤ 1) :
   ((((u + 18446744073709551616 - lo - bo) % 18446744073709551616:Nat) : Int)).fdiv (2 ^ (min (63:Int).toNat IntKind.u64.bits)) = ((sbB u lo bo:Nat) : Int) := by
 have : ((2:Int) ^ (min (63:Int).toNat IntKind.u64.bits)) = 9223372036854775808 := by decide
 rw [this, Int.fdiv_eq_ediv_of_nonneg _ (by decide)]
 unfold sbB
 split <;> omega
end Go.AM
/- integer.long: the end of a round. -/
namespace Go.AM
open Go.Proofs.Try
theorem mS_snoc {g u y : Nat} : ∀ (us vs : List Nat) (c bo:Nat), us.length = vs.length →
   mS g c bo (us ++ [u]) (vs ++ [y]) = ((mS g c bo us vs).1 ++ [sbD u (((mS g c bo us vs).2.1 + g * y) % 4294967296) (mS g c bo us vs).2.2],
     ((mS g c bo us vs).2.1 + g * y) / 4294967296, sbB u (((mS g c bo us vs).2.1 + g * y) % 4294967296) (mS g c bo us vs).2.2)
 | [], [], _, _, _ => rfl
 | [], _ :: _, _, _, h => by simp at h
 | _ :: _, [], _, _, h => by simp at h
 | a :: us, b :: vs, c, bo, h => by
   simp only [List.cons_append, mS]
   rw [mS_snoc us vs _ _ (by simpa using h)]
theorem mS_carry {g : Nat} (hg : g ≤ 4294967296) : ∀ (us vs : List Nat) (c bo:Nat), us.length = vs.length → (∀ y ∈ vs, y < 4294967296) → c < 4294967296 → (mS g c bo us vs).2.1 < 4294967296
 | [], [], _, _, _, _, hc => hc
 | [], _ :: _, _, _, h, _, _ => by simp at h
 | _ :: _, [], _, _, h, _, _ => by simp at h
 | a :: us, b :: vs, c, bo, h, hv, hc => by
   simp only [mS]
   refine mS_carry hg us vs _ _ (by simpa using h) (fun y hy => hv y (by simp [hy])) ?_
   have h1 := hv b (by simp)
   have h2 : g * b ≤ 4294967296 * 4294967295 := Nat.mul_le_mul hg (by omega)
   omega
theorem aB_snoc {u y : Nat} : ∀ (us vs : List Nat) (c:Nat), us.length = vs.length →
   aB c (us ++ [u]) (vs ++ [y]) = ((aB c us vs).1 ++ [(u + y + (aB c us vs).2) % 4294967296], (u + y + (aB c us vs).2) / 4294967296)
 | [], [], _, _ => rfl
 | [], _ :: _, _, h => by simp at h
 | _ :: _, [], _, h => by simp at h
 | a :: us, b :: vs, c, h => by
   simp only [List.cons_append, aB]
   rw [aB_snoc us vs _ (by simpa using h)]
theorem set_mid {α : Type} (A B : List α) (x y : α) : (A ++ x :: B).set A.length y = A ++ y :: B := by simp
theorem lim_mid (A B : List Nat) (x:Nat) : (lim (A ++ x :: B))[A.length]? = some [D.int .u32 (x:Int)] := by
 have := lim_get (l := A ++ x :: B) (i := A.length) (by simp)
 rw [this]; simp
theorem lim_setmid (A B : List Nat) (x y:Nat) : (lim (A ++ x :: B)).set A.length [D.int .u32 (y:Int)] = lim (A ++ y :: B) := by
 rw [lim_set, set_mid]
theorem top_bit {u c b : Nat} (hu : u < 4294967296) (hc : c < 4294967296) (hb : b ≤ 1) :
   ((((IntKind.u64.wrap (IntKind.u64.wrap ((u:Int) - (c:Int)) - (b:Int))).fdiv (2 ^ (min (63:Int).toNat IntKind.u64.bits))) == (1:Int)) = decide (u < c + b)) := by
 rw [sub_word hu hc hb, sub_high hu hc hb]
 unfold sbB
 split
 · rename_i h; rw [decide_eq_true h]; rfl
 · rename_i h; rw [decide_eq_false h]; rfl
theorem tail_ok {pre seg post vs qs : List Nat} {ut g W v : Nat} (hn : seg.length = vs.length) (hu : ∀ x ∈ pre ++ seg ++ ut :: post, x < 4294967296) (hv : ∀ x ∈ vs, x < 4294967296)
   (hW : W = val seg + ut * 4294967296 ^ seg.length) (hvv : v = val vs) (hv0 : 0 < v) (h1 : W / v ≤ g) (h2 : g ≤ W / v + 1) (hgB : g ≤ 4294967296) (hd : W / v < 4294967296)
   (hq : pre.length < qs.length) (hlen : (pre ++ seg ++ ut :: post).length ≤ 4294967296) (hql : qs.length ≤ 4294967296)
   {J0 : (DL) → (DL) → Int → Prop} {μ0 : (DL) → (DL) → Int → Nat}
   (hJ : ∀ R : List Nat, R.length = vs.length → (∀ x ∈ R, x < 4294967296) → val R = W % v →
     J0 (lim (qs.set pre.length (W / v))) (lim (pre ++ R ++ 0 :: post)) (IntKind.i64.wrap ((pre.length:Int) - 1)) ∧
     μ0 (lim (qs.set pre.length (W / v))) (lim (pre ++ R ++ 0 :: post)) (IntKind.i64.wrap ((pre.length:Int) - 1)) < μ0 (lim qs) (lim (pre ++ seg ++ ut :: post)) (pre.length:Int)) :
   tailP (lim vs) (pre.length:Int) (lim (pre ++ seg ++ ut :: post)) (lim qs) (g:Int) J0 μ0 := by
 have hut : ut < 4294967296 := hu ut (by simp)
 have hseg : ∀ x ∈ seg, x < 4294967296 := fun x hx => hu x (by simp [hx])
 obtain ⟨kr1, kr2⟩ := knuth_round (us := seg) (vs := vs) (ut := ut) (g := g) hn hseg hv hW hvv hv0 h1 h2
 have hl : pre.length + seg.length + 1 + post.length ≤ 4294967296 := by simp only [List.length_append, List.length_cons] at hlen; omega
 unfold tailP
 simp only [lim_length]
 refine ⟨fun u1 t carry borrow => ∃ sk rem vk vrem : List Nat, sk.length = vk.length ∧ rem.length = vrem.length ∧ seg = sk ++ rem ∧ vs = vk ++ vrem ∧ t = (sk.length:Int) ∧ u1 = lim (pre ++ (mS g 0 0 sk vk).1 ++ rem ++ ut :: post) ∧
   carry = (((mS g 0 0 sk vk).2.1:Nat) : Int) ∧ borrow = (((mS g 0 0 sk vk).2.2:Nat) : Int), fun _ t _ _ => ((vs.length:Int) - t).toNat, ⟨[], seg, [], vs, rfl, hn, rfl, rfl, rfl, by simp [mS], rfl, rfl⟩, ?_⟩
 rintro _ _ _ _ ⟨sk, rem, vk, vrem, l1, l2, rfl, rfl, rfl, rfl, rfl, rfl⟩
 have hsk : ∀ x ∈ sk, x < 4294967296 := fun x hx => hseg x (by simp [hx])
 have hvk : ∀ x ∈ vk, x < 4294967296 := fun x hx => hv x (by simp [hx])
 obtain ⟨_, m2, m3, m4⟩ := mS_val (g := g) sk vk 0 0 l1 hsk (by omega)
 have mc := mS_carry hgB sk vk 0 0 l1 hvk (by omega)
 simp only [List.length_append] at hl hn
 refine ⟨fun h => ?_, fun h => ?_⟩
 · have hk : sk.length < (vk ++ vrem).length := by have h' := of_decide_eq_true h; omega
   simp only [List.length_append] at hk
   obtain ⟨u, rem', rfl⟩ : ∃ u rem', rem = u :: rem' := by
     cases rem with
     | nil => simp at l2; omega
     | cons x l => exact ⟨x, l, rfl⟩
   obtain ⟨y, vrem', rfl⟩ : ∃ y vrem', vrem = y :: vrem' := by
     cases vrem with
     | nil => simp at l2
     | cons x l => exact ⟨x, l, rfl⟩
   have hu0 : u < 4294967296 := hseg u (by simp)
   have hy0 : y < 4294967296 := hv y (by simp)
   simp only [List.length_cons] at hl hn l2 hk
   have hgy : g * y ≤ 4294967296 * 4294967295 := Nat.mul_le_mul hgB (by omega)
   generalize hC : (mS g 0 0 sk vk).2.1 = C at mc
   generalize hB : (mS g 0 0 sk vk).2.2 = Bo at m2
   generalize hDs : (mS g 0 0 sk vk).1 = Ds at m3 m4
   have e1 : IntKind.u64.wrap (y:Int) = (y:Int) := wu64 (by omega) (by omega)
   have e2 : IntKind.u64.wrap ((g:Int) * (y:Int)) = ((g * y:Nat) : Int) := by rw [← Int.natCast_mul]; exact wu64 (by omega) (by omega)
   have e3 : IntKind.u64.wrap ((C:Int) + ((g * y:Nat) : Int)) = ((C + g * y:Nat) : Int) := by rw [← Int.natCast_add]; exact wu64 (by omega) (by omega)
   have e4 : IntKind.u32.wrap ((C + g * y:Nat) : Int) = (((C + g * y) % 4294967296:Nat) : Int) := by rw [wu32]; omega
   have e5 : IntKind.u64.wrap (((C + g * y) % 4294967296:Nat) : Int) = (((C + g * y) % 4294967296:Nat) : Int) := wu64 (by omega) (by omega)
   have e6 : IntKind.u64.wrap (u:Int) = (u:Int) := wu64 (by omega) (by omega)
   have e7 : (((C + g * y:Nat) : Int)).fdiv (2 ^ (min (32:Int).toNat IntKind.u64.bits)) = (((C + g * y) / 4294967296:Nat) : Int) := by
     have : ((2:Int) ^ (min (32:Int).toNat IntKind.u64.bits)) = 4294967296 := by decide
     rw [this, Int.fdiv_eq_ediv_of_nonneg _ (by decide)]; omega
   have ei : IntKind.i64.wrap ((pre.length:Int) + (sk.length:Int)) = (((pre ++ Ds).length:Nat) : Int) := by
     rw [w64 (by omega) (by omega), List.length_append, m4]; omega
   have hlo : (C + g * y) % 4294967296 < 4294967296 := Nat.mod_lt _ (by decide)
   refine ⟨(y:Int), ⟨by omega, by simp only [List.length_append, List.length_cons]; omega⟩, ?_, (u:Int), ⟨?_, ?_⟩, ?_, by decide, ?_⟩
   · rw [Int.toNat_natCast, show sk.length = vk.length from l1]; exact lim_mid _ _ _
   · rw [ei]; omega
   · rw [ei]; simp only [lim_length, List.length_append, List.length_cons]; omega
   · rw [ei, Int.toNat_natCast]
     rw [show pre ++ Ds ++ u :: rem' ++ ut :: post = pre ++ Ds ++ u :: (rem' ++ ut :: post) by simp]
     exact lim_mid _ _ _
   · rw [ei, Int.toNat_natCast, e1, e2, e3, e4, e5, e6, e7, sub_word hu0 hlo m2, sub_low hu0 hlo m2, sub_high hu0 hlo m2]
     rw [show pre ++ Ds ++ u :: rem' ++ ut :: post = pre ++ Ds ++ u :: (rem' ++ ut :: post) by simp, lim_setmid]
     have es := mS_snoc (g := g) (u := u) (y := y) sk vk 0 0 l1
     rw [hC, hB, hDs] at es
     refine ⟨⟨sk ++ [u], rem', vk ++ [y], vrem', by simp [l1], by omega, by simp, by simp, ?_, ?_, ?_, ?_⟩, ?_⟩
     · rw [w64 (by omega) (by omega)]; simp
     · rw [es]; simp
     · rw [es]
     · rw [es]
     · rw [w64 (by omega) (by omega)]; simp only [List.length_append, List.length_cons]; omega
 · have hk : (vk ++ vrem).length ≤ sk.length := by have h' := of_decide_eq_false h; omega
   simp only [List.length_append] at hk
   obtain rfl : vrem = [] := List.length_eq_zero_iff.1 (by omega)
   obtain rfl : rem = [] := List.length_eq_zero_iff.1 (by simpa using l2)
   simp only [List.append_nil] at *
   generalize hC : (mS g 0 0 sk vk).2.1 = C at *
   generalize hB : (mS g 0 0 sk vk).2.2 = Bo at *
   generalize hDs : (mS g 0 0 sk vk).1 = Ds at *
   have ei : IntKind.i64.wrap ((pre.length:Int) + (vk.length:Int)) = (((pre ++ Ds).length:Nat) : Int) := by
     rw [w64 (by omega) (by omega), List.length_append, m4]; omega
   have e6 : IntKind.u64.wrap (ut:Int) = (ut:Int) := wu64 (by omega) (by omega)
   refine ⟨(ut:Int), ⟨?_, ?_⟩, ?_, by decide, fun h => ?_, fun h => ?_⟩
   · rw [ei]; omega
   · rw [ei]; simp only [lim_length, List.length_append, List.length_cons]; omega
   · rw [ei, Int.toNat_natCast]; exact lim_mid _ _ _
   · rw [e6, top_bit hut mc m2] at h
     obtain ⟨k1, k2, k3, k4⟩ := kr2 (by simpa using h)
     have es : IntKind.u32.wrap (IntKind.u64.wrap (IntKind.u64.wrap ((ut:Int) - (C:Int)) - (Bo:Int))) = ((4294967295:Nat) : Int) := by
       rw [sub_word hut mc m2, wu32]; omega
     rw [e6, es, ei, Int.toNat_natCast, lim_setmid]
     refine ⟨fun u2 t c => ∃ sk2 rem vk2 vrem : List Nat, sk2.length = vk2.length ∧ rem.length = vrem.length ∧ Ds = sk2 ++ rem ∧ vk = vk2 ++ vrem ∧ t = (sk2.length:Int) ∧ u2 = lim (pre ++ (aB 0 sk2 vk2).1 ++ rem ++ 4294967295 :: post) ∧
       c = (((aB 0 sk2 vk2).2:Nat) : Int), fun _ t _ => ((vk.length:Int) - t).toNat, ⟨[], Ds, [], vk, rfl, by omega, rfl, rfl, rfl, by simp [aB], rfl⟩, ?_⟩
     rintro _ _ _ ⟨sk2, rem, vk2, vrem, l3, l4, rfl, rfl, rfl, rfl, rfl⟩
     obtain ⟨_, a2, a3, a4⟩ := aB_val sk2 vk2 0 l3 (fun x hx => m3 x (by simp [hx])) (fun x hx => hv x (by simp [hx])) (by omega)
     simp only [List.length_append] at m4 hk l1 hl
     refine ⟨fun h => ?_, fun h => ?_⟩
     · have hk2 : sk2.length < (vk2 ++ vrem).length := by have h' := of_decide_eq_true h; omega
       simp only [List.length_append] at hk2
       obtain ⟨u, rem', rfl⟩ : ∃ u rem', rem = u :: rem' := by
         cases rem with
         | nil => simp at l4; omega
         | cons x l => exact ⟨x, l, rfl⟩
       obtain ⟨y, vrem', rfl⟩ : ∃ y vrem', vrem = y :: vrem' := by
         cases vrem with
         | nil => simp at l4
         | cons x l => exact ⟨x, l, rfl⟩
       have hu0 : u < 4294967296 := m3 u (by simp)
       have hy0 : y < 4294967296 := hv y (by simp)
       simp only [List.length_cons] at m4 hk l1 hl l4 hk2
       generalize hDa : (aB 0 sk2 vk2).1 = Da at a3 a4
       generalize hCa : (aB 0 sk2 vk2).2 = Ca at a2
       have ej : IntKind.i64.wrap ((pre.length:Int) + (sk2.length:Int)) = (((pre ++ Da).length:Nat) : Int) := by
         rw [w64 (by omega) (by omega), List.length_append, a4]; omega
       refine ⟨(y:Int), ⟨by omega, by simp only [List.length_append, List.length_cons]; omega⟩, ?_, (u:Int), _, _, ⟨?_, ?_⟩, ?_, add32_ok u y Ca hu0 hy0 a2, ?_⟩
       · rw [Int.toNat_natCast, show sk2.length = vk2.length from l3]; exact lim_mid _ _ _
       · rw [ej]; omega
       · rw [ej]; simp only [lim_length, List.length_append, List.length_cons]; omega
       · rw [ej, Int.toNat_natCast]
         rw [show pre ++ Da ++ u :: rem' ++ 4294967295 :: post = pre ++ Da ++ u :: (rem' ++ 4294967295 :: post) by simp]
         exact lim_mid _ _ _
       · rw [ej, Int.toNat_natCast]
         rw [show pre ++ Da ++ u :: rem' ++ 4294967295 :: post = pre ++ Da ++ u :: (rem' ++ 4294967295 :: post) by simp, lim_setmid]
         have es := aB_snoc (u := u) (y := y) sk2 vk2 0 l3
         rw [hDa, hCa] at es
         refine ⟨⟨sk2 ++ [u], rem', vk2 ++ [y], vrem', by simp [l3], by omega, by simp, by simp, ?_, ?_, ?_⟩, ?_⟩
         · rw [w64 (by omega) (by omega)]; simp
         · rw [es]; simp
         · rw [es]
         · rw [w64 (by omega) (by omega)]; simp only [List.length_append, List.length_cons]; omega
     · have hk2 : (vk2 ++ vrem).length ≤ sk2.length := by have h' := of_decide_eq_false h; omega
       simp only [List.length_append] at hk2
       obtain rfl : vrem = [] := List.length_eq_zero_iff.1 (by omega)
       obtain rfl : rem = [] := List.length_eq_zero_iff.1 (by simpa using l4)
       simp only [List.append_nil] at *
       have ej : (pre ++ sk2).length = (pre ++ (aB 0 sk2 vk2).1).length := by rw [List.length_append, List.length_append, a4]
       refine ⟨((4294967295:Nat) : Int), ⟨?_, ?_⟩, ?_, ⟨by omega, by omega⟩, ?_⟩
       · rw [ej]; omega
       · rw [ej]; simp only [lim_length, List.length_append, List.length_cons]; omega
       · rw [ej]; exact lim_mid _ _ _
       · have e8 : IntKind.u32.wrap (((4294967295:Nat) : Int) + ((((aB 0 sk2 vk2).2) : Nat) : Int)) = ((0:Nat) : Int) := by rw [k3, wu32]; decide
         have e9 : IntKind.u32.wrap (IntKind.u64.wrap ((g:Int) - 1)) = ((W / v:Nat) : Int) := by
           have hk1 := k1
           generalize W / v = Q at hk1 hd
           rw [wu64 (by omega) (by omega), wu32]; omega
         rw [ej, Int.toNat_natCast, e8, e9, lim_setmid, lim_set]
         exact hJ _ (by omega) a3 k4
   · rw [e6, top_bit hut mc m2] at h
     have hge : ¬ ut < C + Bo := by simpa using h
     obtain ⟨k1, k2, k3⟩ := kr1 (by omega)
     have es : IntKind.u32.wrap (IntKind.u64.wrap (IntKind.u64.wrap ((ut:Int) - (C:Int)) - (Bo:Int))) = ((0:Nat) : Int) := by
       rw [sub_word hut mc m2, wu32]; omega
     have e9 : IntKind.u32.wrap (g:Int) = ((W / v:Nat) : Int) := by
       have hk1 := k1
       generalize W / v = Q at hk1 hd
       rw [wu32]; omega
     rw [e6, es, ei, Int.toNat_natCast, Int.toNat_natCast, e9, lim_setmid, lim_set]
     exact ⟨⟨by omega, by omega⟩, hJ _ (by omega) m3 k2⟩
end Go.AM
/- integer.long: a round. -/
namespace Go.AM
open Go.Proofs.Try
theorem val_two (l : List Nat) (x y:Nat) : val (l ++ [x, y]) = val l + 4294967296 ^ l.length * (x + 4294967296 * y) := by
 rw [val_append]; simp [val]
set_option maxRecDepth 100000 in
theorem round_ok {pre lows lowv post qs : List Nat} {ut u2 lo v1 v2 W V : Nat} (hl : lows.length = lowv.length) (hu : ∀ x ∈ pre ++ (lows ++ [u2, lo]) ++ ut :: post, x < 4294967296) (hv : ∀ x ∈ lowv ++ [v2, v1], x < 4294967296)
   (hv1 : 2147483648 ≤ v1) (hW : W = val (lows ++ [u2, lo]) + ut * 4294967296 ^ (lows ++ [u2, lo]).length) (hV:V = val (lowv ++ [v2, v1])) (hlt : W < V * 4294967296)
   (hq : pre.length < qs.length) (hlen : (pre ++ (lows ++ [u2, lo]) ++ ut :: post).length ≤ 4294967296) (hql : qs.length ≤ 4294967296)
   {J0 : (DL) → (DL) → Int → Prop} {μ0 : (DL) → (DL) → Int → Nat}
   (hJ : ∀ R : List Nat, R.length = (lowv ++ [v2, v1]).length → (∀ x ∈ R, x < 4294967296) → val R = W % V →
     J0 (lim (qs.set pre.length (W / V))) (lim (pre ++ R ++ 0 :: post)) (IntKind.i64.wrap ((pre.length:Int) - 1)) ∧
     μ0 (lim (qs.set pre.length (W / V))) (lim (pre ++ R ++ 0 :: post)) (IntKind.i64.wrap ((pre.length:Int) - 1)) < μ0 (lim qs) (lim (pre ++ (lows ++ [u2, lo]) ++ ut :: post)) (pre.length:Int)) :
   roundP (lim (lowv ++ [v2, v1])) (lim (pre ++ (lows ++ [u2, lo]) ++ ut :: post)) (lim qs) (pre.length:Int) J0 μ0 := by
 have hut : ut < 4294967296 := hu ut (by simp)
 have hlo : lo < 4294967296 := hu lo (by simp)
 have hu2 : u2 < 4294967296 := hu u2 (by simp)
 have hv1b : v1 < 4294967296 := hv v1 (by simp)
 have hv2 : v2 < 4294967296 := hv v2 (by simp)
 have hwr : val lows < 4294967296 ^ lows.length := val_lt fun x hx => hu x (by simp [hx])
 have hvr : val lowv < 4294967296 ^ lows.length := by rw [hl]; exact val_lt fun x hx => hv x (by simp [hx])
 have hWe : W = ((ut * 4294967296 + lo) * 4294967296 + u2) * 4294967296 ^ lows.length + val lows := by
   rw [hW, val_two]
   simp only [List.length_append, List.length_cons, List.length_nil, Nat.zero_add, Nat.pow_succ]
   generalize 4294967296 ^ lows.length = P
   have a1 : ut * (P * 4294967296 * 4294967296) = ut * 4294967296 * 4294967296 * P := by
     rw [Nat.mul_assoc P, Nat.mul_comm P, ← Nat.mul_assoc, ← Nat.mul_assoc]
   have a2 : ((ut * 4294967296 + lo) * 4294967296 + u2) * P = ut * 4294967296 * 4294967296 * P + (u2 + 4294967296 * lo) * P := by
     rw [← Nat.add_mul]; exact congrArg (· * P) (by omega)
   rw [a1, a2, Nat.mul_comm P]
   omega
 have hVe:V = (v1 * 4294967296 + v2) * 4294967296 ^ lows.length + val lowv := by
   rw [hV, val_two, ← hl]
   generalize 4294967296 ^ lows.length = P
   rw [Nat.mul_comm P, show v2 + 4294967296 * v1 = v1 * 4294967296 + v2 by omega]
   omega
 have hP : 0 < 4294967296 ^ lows.length := Nat.pow_pos (by decide)
 have hV0 : 0 < V := by
   have : 0 < (v1 * 4294967296 + v2) * 4294967296 ^ lows.length := Nat.mul_pos (by omega) hP
   omega
 have hdig : W / V < 4294967296 := by rw [Nat.div_lt_iff_lt_mul hV0, Nat.mul_comm]; exact hlt
 have tl : ∀ g : Nat, W / V ≤ g → g ≤ W / V + 1 → g ≤ 4294967296 → tailP (lim (lowv ++ [v2, v1])) (pre.length:Int) (lim (pre ++ (lows ++ [u2, lo]) ++ ut :: post)) (lim qs) (g:Int) J0 μ0 := fun g h1 h2 h3 =>
   tail_ok (v := V) (W := W) (by simp [hl]) hu hv hW hV hV0 h1 h2 h3 hdig hq hlen hql hJ
 obtain ⟨f1, f2, f3, f4, f5⟩ := guess_first (v1 := v1) (v2 := v2) (vr := val lowv) (P := 4294967296 ^ lows.length) (u2 := u2) (wr := val lows) (hi := ut) (lo := lo) hv1 hv2 hvr hlo hu2 rfl rfl (by rw [← hWe, ← hVe]; exact hlt) hwr
 rw [← hWe, ← hVe] at f5
 have dec : ∀ {g r : Nat}, g * v1 + r = ut * 4294967296 + lo → (4294967296 ≤ g ∨ r * 4294967296 + u2 < g * v2) → W / V < g := fun {g r} h1 h2 => by
   have := guess_dec (v1 := v1) (v2 := v2) (vr := val lowv) (P := 4294967296 ^ lows.length) (u2 := u2) (wr := val lows) h1 hwr (by rw [← hWe, ← hVe]; exact hlt) h2
   rwa [← hWe, ← hVe] at this
 have gend : ∀ {g r : Nat}, g * v1 + r = ut * 4294967296 + lo → g ≤ 4294967296 → (4294967296 ≤ r ∨ g * v2 ≤ r * 4294967296 + u2) → g ≤ W / V + 1 := fun {g r} h1 h2 h3 => by
   have := guess_end (v1 := v1) (v2 := v2) (vr := val lowv) (P := 4294967296 ^ lows.length) (u2 := u2) (wr := val lows) h1 hv1 hv2 hvr h2 h3
   rwa [← hWe, ← hVe] at this
 clear hWe hVe
 generalize W / V = Q at *
 have L1 : (lim (lowv ++ [v2, v1])).length = lows.length + 2 := by rw [lim_length]; simp [hl]
 have L2 : (lim (pre ++ (lows ++ [u2, lo]) ++ ut :: post)).length = pre.length + lows.length + 3 + post.length := by rw [lim_length]; simp; omega
 have hlen' : pre.length + lows.length + 3 + post.length ≤ 4294967296 := by rw [lim_length] at L2; omega
 have g0 : (lim (pre ++ (lows ++ [u2, lo]) ++ ut :: post))[pre.length + (lows.length + 2)]? = some [dU (ut:Int)] := by
   have := lim_mid (pre ++ (lows ++ [u2, lo])) post ut
   simpa using this
 have g1 : (lim (pre ++ (lows ++ [u2, lo]) ++ ut :: post))[pre.length + (lows.length + 1)]? = some [dU (lo:Int)] := by
   have := lim_mid (pre ++ (lows ++ [u2])) (ut :: post) lo
   simpa using this
 have g2 : (lim (pre ++ (lows ++ [u2, lo]) ++ ut :: post))[pre.length + lows.length]? = some [dU (u2:Int)] := by
   have := lim_mid (pre ++ lows) (lo :: ut :: post) u2
   simpa using this
 have k1 : (lim (lowv ++ [v2, v1]))[lows.length + 1]? = some [dU (v1:Int)] := by
   have := lim_mid (lowv ++ [v2]) [] v1
   simpa [hl] using this
 have k2 : (lim (lowv ++ [v2, v1]))[lows.length]? = some [dU (v2:Int)] := by
   have := lim_mid lowv [v1] v2
   rw [hl]; simpa using this
 generalize hvl : lim (lowv ++ [v2, v1]) = vl at *
 generalize hul : lim (pre ++ (lows ++ [u2, lo]) ++ ut :: post) = ul at *
 unfold roundP
 have i0 : IntKind.i64.wrap ((pre.length:Int) + (vl.length:Int)) = ((pre.length + (lows.length + 2) : Nat) : Int) := by rw [L1, w64 (by omega) (by omega)]; omega
 have i1 : IntKind.i64.wrap (((pre.length + (lows.length + 2) : Nat) : Int) - 1) = ((pre.length + (lows.length + 1) : Nat) : Int) := by rw [w64 (by omega) (by omega)]; omega
 have i2 : IntKind.i64.wrap (((pre.length + (lows.length + 2) : Nat) : Int) - 2) = ((pre.length + lows.length:Nat) : Int) := by rw [w64 (by omega) (by omega)]; omega
 have i3 : IntKind.i64.wrap ((vl.length:Int) - 1) = ((lows.length + 1:Nat) : Int) := by rw [L1, w64 (by omega) (by omega)]; omega
 have i4 : IntKind.i64.wrap ((vl.length:Int) - 2) = ((lows.length:Nat) : Int) := by rw [L1, w64 (by omega) (by omega)]; omega
 have e1 : IntKind.u64.wrap (v1:Int) = (v1:Int) := wu64 (by omega) (by omega)
 have e1' : IntKind.u64.wrap (v2:Int) = (v2:Int) := wu64 (by omega) (by omega)
 have e2 : IntKind.u64.wrap (ut:Int) = (ut:Int) := wu64 (by omega) (by omega)
 have e3 : IntKind.u64.wrap (u2:Int) = (u2:Int) := wu64 (by omega) (by omega)
 have e4 : bitsI .u64 (· ||| ·) (IntKind.u64.wrap ((ut:Int) * 2 ^ (min (32:Int).toNat IntKind.u64.bits))) (IntKind.u64.wrap (lo:Int)) = ((ut * 4294967296 + lo:Nat) : Int) := by
   rw [shl32 hut, wu64 (n := (lo:Int)) (by omega) (by omega), or32 hut hlo]
 have e5 : (((ut * 4294967296 + lo:Nat) : Int).tdiv (v1:Int)) = (((ut * 4294967296 + lo) / v1:Nat) : Int) := by rw [Int.tdiv_eq_ediv_of_nonneg (by omega)]; rfl
 have e6 : (((ut * 4294967296 + lo:Nat) : Int).tmod (v1:Int)) = (((ut * 4294967296 + lo) % v1:Nat) : Int) := by rw [Int.tmod_eq_emod_of_nonneg (by omega)]; rfl
 refine ⟨(ut:Int), (lo:Int), ?_, ?_, by decide, ?_, ?_, (v1:Int), ?_, ?_, ?_, ?_⟩
 · rw [i0]; omega
 · rw [i0, Int.toNat_natCast]; exact g0
 · rw [i0, i1]; omega
 · rw [i0, i1, Int.toNat_natCast]; exact g1
 · rw [i3]; omega
 · rw [i3, Int.toNat_natCast]; exact k1
 · rw [e1]; omega
 refine ⟨fun guess rest => ∃ g r : Nat, guess = (g:Int) ∧ rest = (r:Int) ∧ g * v1 + r = ut * 4294967296 + lo ∧ Q ≤ g ∧ g ≤ 4294967297 ∧ r < 4294967296, fun guess _ => guess.toNat, ?_, ?_⟩
 · rw [e2, e4, e1, e5, e6]
   generalize (ut * 4294967296 + lo) / v1 = g at *
   generalize (ut * 4294967296 + lo) % v1 = r at *
   exact ⟨g, r, wu64 (by omega) (by omega), rfl, f1, f5, f4, by omega⟩
 clear f1 f2 f3 f4 f5 e4 e5 e6
 rintro _ _ ⟨g, r, rfl, rfl, hg, hge, hgB, hr⟩
 have rr : IntKind.u64.wrap ((r:Int) + (v1:Int)) = ((r + v1:Nat) : Int) := by rw [wu64 (by omega) (by omega)]; omega
 rw [e1, rr]
 have less : (4294967296 ≤ g ∨ r * 4294967296 + u2 < g * v2) → IntKind.u64.wrap ((g:Int) - 1) = ((g - 1:Nat) : Int) ∧ (g - 1) * v1 + (r + v1) = ut * 4294967296 + lo ∧ Q ≤ g - 1 ∧ 1 ≤ g := fun h => by
   have h1 := dec hg h
   have h2 : (g - 1) * v1 + v1 = g * v1 := by
     rw [show g = (g - 1) + 1 by omega, Nat.add_mul (g - 1) 1 v1, Nat.one_mul]; rfl
   exact ⟨by rw [wu64 (by omega) (by omega)]; omega, by omega, by omega, by omega⟩
 have stop : (4294967296 ≤ g ∨ r * 4294967296 + u2 < g * v2) → decide (((r + v1:Nat) : Int) > 4294967295) = true → tailP vl (pre.length:Int) ul (lim qs) (IntKind.u64.wrap ((g:Int) - 1)) J0 μ0 := fun h h2 => by
   obtain ⟨a1, a2, a3, a4⟩ := less h
   have h3 : 4294967296 ≤ r + v1 := by have : ((r + v1 : Nat) : Int) > 4294967295 := by simpa using h2
                                       omega
   rw [a1]
   exact tl (g - 1) a3 (gend a2 (by omega) (.inl h3)) (by omega)
 have goon : (4294967296 ≤ g ∨ r * 4294967296 + u2 < g * v2) → decide (((r + v1:Nat) : Int) > 4294967295) = false →
     (∃ g' r' : Nat, IntKind.u64.wrap ((g:Int) - 1) = (g':Int) ∧ ((r + v1:Nat) : Int) = (r':Int) ∧ g' * v1 + r' = ut * 4294967296 + lo ∧ Q ≤ g' ∧ g' ≤ 4294967297 ∧ r' < 4294967296) ∧ (IntKind.u64.wrap ((g:Int) - 1)).toNat < ((g:Int)).toNat := fun h h2 => by
   obtain ⟨a1, a2, a3, a4⟩ := less h
   have h3 : r + v1 < 4294967296 := by have : ¬ ((r + v1 : Nat) : Int) > 4294967295 := by simpa using h2
                                       omega
   exact ⟨⟨g - 1, r + v1, a1, rfl, a2, a3, by omega, h3⟩, by rw [a1]; omega⟩
 refine ⟨fun h => ?_, fun h => ?_⟩
 · have hb : 4294967296 ≤ g := by have : (g : Int) > 4294967295 := by simpa using h
                                  omega
   exact ⟨fun h2 => stop (.inl hb) h2, fun h2 => goon (.inl hb) h2⟩
 · have hb : g < 4294967296 := by have : ¬ (g : Int) > 4294967295 := by simpa using h
                                  omega
   have e7 : IntKind.u64.wrap ((g:Int) * (v2:Int)) = ((g * v2:Nat) : Int) := by
     have : g * v2 ≤ 4294967295 * 4294967295 := Nat.mul_le_mul (by omega) (by omega)
     rw [← Int.natCast_mul]; exact wu64 (by omega) (by omega)
   have e8 : bitsI .u64 (· ||| ·) (IntKind.u64.wrap ((r:Int) * 2 ^ (min (32:Int).toNat IntKind.u64.bits))) (u2:Int) = ((r * 4294967296 + u2:Nat) : Int) := by
     rw [shl32 hr, or32 hr hu2]
   refine ⟨(v2:Int), (u2:Int), ?_, ?_, ?_, ?_, ?_⟩
   · rw [i4]; omega
   · rw [i4, Int.toNat_natCast]; exact k2
   · rw [i0, i2]; omega
   · rw [i0, i2, Int.toNat_natCast]; exact g2
   rw [e1', e3, e7, e8]
   refine ⟨fun h2 => ?_, fun h2 => ?_⟩
   · have hc : r * 4294967296 + u2 < g * v2 := by have : ((g * v2 : Nat) : Int) > ((r * 4294967296 + u2 : Nat) : Int) := by simpa using h2
                                                  omega
     exact ⟨fun h3 => stop (.inr hc) h3, fun h3 => goon (.inr hc) h3⟩
   · have hc : g * v2 ≤ r * 4294967296 + u2 := by have : ¬ ((g * v2 : Nat) : Int) > ((r * 4294967296 + u2 : Nat) : Int) := by simpa using h2
                                                  omega
     exact tl g hge (gend hg (by omega) (.inr hc)) (by omega)
end Go.AM
