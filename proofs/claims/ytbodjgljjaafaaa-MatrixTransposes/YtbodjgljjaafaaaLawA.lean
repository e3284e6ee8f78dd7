/- What the functions of package integer, and of its reference, answer: digits without zeros at the end, Of. -/
import Derived.Test.YtbodjgljjaafaaaEnc
import Derived.Test.YtbodjgljjaafaaaVcInt
import Derived.Test.YtbodjgljjaafaaaVcRef
namespace Go.AM
open Go.Proofs.Try

theorem getLast_take_int {l : List Nat} {n : Int} (h0 : 0 < n) (h1 : n ≤ (l.length : Int)) : (l.take n.toNat).getLast? = some (l[(n - 1).toNat]'(by omega)) := by
  have hlt : (n - 1).toNat < l.length := by omega
  have := getLast_take hlt
  rwa [show (n - 1).toNat + 1 = n.toNat by omega] at this

theorem take_zero_int {l : List Nat} {n : Int} (h : n = 0) : l.take n.toNat = [] := by subst h; rfl

/-- The end of the loops that look for the highest digit. -/
theorem stop_digs {l : List Nat} (hB : ∀ x ∈ l, x < 4294967296) {n : Int} (h0 : 0 ≤ n) (h1 : n ≤ (l.length : Int)) (hv : val (l.take n.toNat) = val l) (hx : ∀ (h : 0 < n), l[(n - 1).toNat]'(by omega) ≠ 0) :
    l.take n.toNat = digs (val l) ∧ decide (n > 0) = decide (0 < val l) := by
  have h2 : l.take n.toNat = digs (val l) := take_digs hB hv fun x hl => by
    by_cases hn : 0 < n
    · rw [getLast_take_int hn h1, Option.some.injEq] at hl; subst hl; exact hx hn
    · rw [take_zero_int (by omega)] at hl; simp at hl
  refine ⟨h2, ?_⟩
  rw [decide_eq_decide]
  constructor
  · intro hn
    apply Nat.pos_of_ne_zero
    intro hz
    rw [hz, digs_zero] at h2
    have : (l.take n.toNat).length = 0 := by rw [h2]; rfl
    rw [List.length_take] at this; omega
  · intro hp
    apply Classical.byContradiction
    intro hn
    rw [take_zero_int (by omega)] at hv
    simp only [val] at hv; omega

theorem pred_take {l : List Nat} {n : Int} (h0 : 0 < n) (h1 : n ≤ (l.length : Int)) (hz : l[(n - 1).toNat]'(by omega) = 0) (hv : val (l.take n.toNat) = val l) : val (l.take (n - 1).toNat) = val l := by
  have hlt : (n - 1).toNat < l.length := by omega
  rw [← hv, show n.toNat = (n - 1).toNat + 1 by omega, val_take_pred hlt hz]

theorem norm_ok (l : List Nat) (neg : Bool) (hB : ∀ x ∈ l, x < 4294967296) (hl : l.length ≤ 1099511627776) :
    FnD prog 144 [vs (lim l), vb neg] (V.e (E.agg [S.dat (D.bool (neg && decide (0 < val l))), S.dat (D.sl (lim (digs (val l))))])) [] := by
  refine vc144_ok (lim l) neg (R := Out _) ?_
  unfold vc144
  refine ⟨fun n => 0 ≤ n ∧ n ≤ (l.length : Int) ∧ val (l.take n.toNat) = val l, fun n => n.toNat, ⟨by omega, by simp [lim_length], by simp [lim_length]⟩, fun n ⟨h0, h1, h2⟩ => ⟨fun hc => ?_, fun hc => ?_⟩⟩
  · simp only [gt_iff_lt, decide_eq_true_eq] at hc
    have hw : IntKind.i64.wrap (n - 1) = n - 1 := w64 (by omega) (by omega)
    have hlt : (n - 1).toNat < l.length := by omega
    rw [hw]
    refine ⟨(l[(n - 1).toNat] : Nat), ⟨by omega, by rw [lim_length]; omega⟩, lim_get hlt, fun hx => ?_, fun hx => ?_⟩
    · have hx' : l[(n - 1).toNat] ≠ 0 := by simpa using hx
      obtain ⟨g1, g2⟩ := stop_digs hB h0 h1 h2 fun _ => hx'
      refine ⟨fun hn => ⟨⟨h0, Int.le_refl _, by rw [lim_length]; exact h1⟩, ?_⟩, fun hn => ⟨⟨h0, Int.le_refl _, by rw [lim_length]; exact h1⟩, ?_⟩⟩
      · subst hn; exact out2 (by simpa using g2) (by rw [lim_take, g1])
      · subst hn; exact out2 rfl (by rw [lim_take, g1])
    · have hx' : l[(n - 1).toNat] = 0 := by simpa using hx
      exact ⟨⟨by omega, by omega, pred_take hc h1 hx' h2⟩, by show (n - 1).toNat < n.toNat; omega⟩
  · simp only [gt_iff_lt, decide_eq_false_iff_not] at hc
    obtain ⟨g1, g2⟩ := stop_digs hB h0 h1 h2 fun h => absurd h hc
    refine ⟨fun hn => ⟨⟨h0, Int.le_refl _, by rw [lim_length]; exact h1⟩, ?_⟩, fun hn => ⟨⟨h0, Int.le_refl _, by rw [lim_length]; exact h1⟩, ?_⟩⟩
    · subst hn; exact out2 (by simpa using g2) (by rw [lim_take, g1])
    · subst hn; exact out2 rfl (by rw [lim_take, g1])

theorem made_ok (l : List Nat) (neg : Bool) (hB : ∀ x ∈ l, x < 4294967296) (hl : l.length ≤ 1099511627776) :
    FnD prog 71 [vs (lim l), vb neg] (V.e (E.agg [S.dat (D.bool (neg && decide (0 < val l))), S.dat (D.sl (lim (digs (val l))))])) [] := by
  refine vc71_ok (lim l) neg (R := Out _) ?_
  unfold vc71
  refine ⟨fun n => 0 ≤ n ∧ n ≤ (l.length : Int) ∧ val (l.take n.toNat) = val l, fun n => n.toNat, ⟨by omega, by simp [lim_length], by simp [lim_length]⟩, fun n ⟨h0, h1, h2⟩ => ?_⟩
  have hone : ∀ y ∈ (lim l).take n.toNat, y.length = 1 := fun y hy => lim_one l y (List.mem_of_mem_take hy)
  have hsz : (([] : List (List D)).length + ((lim l).take n.toNat).length) * 4 ≤ 140737488355328 := by
    simp only [List.length_nil, List.length_take, lim_length]; omega
  have h1' : n ≤ ((lim l).length : Int) := by rw [lim_length]; exact h1
  refine ⟨fun hc => ?_, fun hc => ?_⟩
  · simp only [gt_iff_lt, decide_eq_true_eq] at hc
    have hw : IntKind.i64.wrap (n - 1) = n - 1 := w64 (by omega) (by omega)
    have hlt : (n - 1).toNat < l.length := by omega
    rw [hw]
    refine ⟨(l[(n - 1).toNat] : Nat), ⟨by omega, by rw [lim_length]; omega⟩, lim_get hlt, fun hx => ?_, fun hx => ?_⟩
    · have hx' : l[(n - 1).toNat] = 0 := by simpa using hx
      exact ⟨⟨by omega, by omega, pred_take hc h1 hx' h2⟩, by show (n - 1).toNat < n.toNat; omega⟩
    · have hx' : l[(n - 1).toNat] ≠ 0 := by simpa using hx
      obtain ⟨g1, g2⟩ := stop_digs hB h0 h1 h2 fun _ => hx'
      refine ⟨fun hn => ⟨⟨h0, h1'⟩, hone, hsz, ?_⟩, fun hn => ⟨⟨h0, h1'⟩, hone, hsz, ?_⟩⟩
      · subst hn; exact out2 (by simpa using g2) (by rw [List.nil_append, lim_take, g1])
      · subst hn; exact out2 rfl (by rw [List.nil_append, lim_take, g1])
  · simp only [gt_iff_lt, decide_eq_false_iff_not] at hc
    obtain ⟨g1, g2⟩ := stop_digs hB h0 h1 h2 fun h => absurd h hc
    refine ⟨fun hn => ⟨⟨h0, h1'⟩, hone, hsz, ?_⟩, fun hn => ⟨⟨h0, h1'⟩, hone, hsz, ?_⟩⟩
    · subst hn; exact out2 (by simpa using g2) (by rw [List.nil_append, lim_take, g1])
    · subst hn; exact out2 rfl (by rw [List.nil_append, lim_take, g1])

/-- The same, as an integer. -/
theorem sgn_eI (m : Nat) (neg : Bool) : V.e (E.agg [S.dat (D.bool (neg && decide (0 < m))), S.dat (D.sl (lim (digs m)))]) = eI (if neg then -(m : Int) else m) := by
  unfold eI
  cases neg with
  | true => simp
  | false => simp

theorem norm_eI (l : List Nat) (neg : Bool) (hB : ∀ x ∈ l, x < 4294967296) (hl : l.length ≤ 1099511627776) : FnD prog 144 [vs (lim l), vb neg] (eI (if neg then -(val l : Int) else val l)) [] :=
  sgn_eI (val l) neg ▸ norm_ok l neg hB hl

theorem made_eI (l : List Nat) (neg : Bool) (hB : ∀ x ∈ l, x < 4294967296) (hl : l.length ≤ 1099511627776) : FnD prog 71 [vs (lim l), vb neg] (eI (if neg then -(val l : Int) else val l)) [] :=
  sgn_eI (val l) neg ▸ made_ok l neg hB hl

end Go.AM
