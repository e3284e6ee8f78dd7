/- What the functions of package matrix answer: searching, validity, picking, blocks. -/
import Derived.Test.YtbodjgljjaafaaaLawK
namespace Go.AM
open Go.Proofs.Try

def ints (r : List Int) : List (List D) := r.map fun n => [D.int .i64 n]
theorem ints_length (r : List Int) : (ints r).length = r.length := by simp [ints]
theorem ints_getN {r : List Int} {i : Nat} (h : i < r.length) : (ints r)[(i : Int).toNat]? = some [D.int .i64 (elr r i)] := by
  rw [Int.toNat_natCast]; simp [ints, elr, h]

/-- The place of the first that p holds of, or -1. -/
def firstI (p : Int → Bool) (r : List Int) : Int := if r.any p then (r.findIdx p : Nat) else -1

theorem elr_get {r : List Int} {i : Nat} (h : i < r.length) : elr r i = r[i] := by simp [elr, h]

theorem firstI_at {p : Int → Bool} {r : List Int} {i : Nat} (h : i < r.length) (hp : p (elr r i) = true) (hn : ∀ k, k < i → p (elr r k) = false) : firstI p r = (i : Int) := by
  have h1 : r.any p = true := List.any_eq_true.2 ⟨elr r i, elr_mem h, hp⟩
  have h2 : r.findIdx p = i := by
    rw [List.findIdx_eq h]
    refine ⟨by rw [← elr_get h]; exact hp, fun j hj => ?_⟩
    have := hn j hj
    rw [elr_get (by omega)] at this
    exact this
  unfold firstI
  rw [h1, h2]; rfl

theorem firstI_none {p : Int → Bool} {r : List Int} (hn : ∀ k, k < r.length → p (elr r k) = false) : firstI p r = -1 := by
  unfold firstI
  rw [if_neg]
  intro h
  obtain ⟨z, hz, hp⟩ := List.any_eq_true.1 h
  obtain ⟨k, hk, rfl⟩ := List.getElem_of_mem hz
  have := hn k hk
  rw [elr_get hk, hp] at this
  simp at this

theorem firstI_any (p : Int → Bool) (r : List Int) : decide (firstI p r ≥ 0) = r.any p := by
  unfold firstI
  cases h : r.any p <;> simp

theorem index126_ok {r : List Int} {f : FuncId} {fc : List D} {p : Int → Bool} (hl : r.length ≤ 4294967296) (hf : ∀ k, k < r.length → FnD prog f ([eI (elr r k)] ++ fc.map dV) (vb (p (elr r k))) []) :
    FnD prog 126 [vs (row r), .e (.sc (.dat (.fn (.func f) fc)))] (vi (firstI p r)) [] := by
  refine vc126_ok _ _ _ (R := Out _) ?_
  unfold vc126
  simp only [row_length]
  refine ⟨fun t => ∃ i : Nat, t = (i : Int) ∧ i ≤ r.length ∧ ∀ k, k < i → p (elr r k) = false, fun t => ((r.length : Int) - t).toNat, ⟨0, rfl, by omega, fun k hk => by omega⟩, ?_⟩
  rintro _ ⟨i, rfl, hi, hinv⟩
  refine ⟨fun h => ?_, fun h => outi ?_⟩
  · have hir : i < r.length := by simpa using h
    refine ⟨_, _, p (elr r i), ⟨by omega, by omega⟩, row_getN hir, hf i hir, fun h2 => outi ?_, fun h2 => ?_⟩
    · exact (firstI_at hir h2 hinv).symm
    · rw [inc64 (by omega)]
      refine ⟨⟨i + 1, rfl, by omega, fun k hk => ?_⟩, by show ((r.length : Int) - ((i + 1 : Nat) : Int)).toNat < ((r.length : Int) - (i : Int)).toNat; omega⟩
      by_cases hki : k = i
      · subst hki; exact h2
      · exact hinv k (by omega)
  · have hir : i = r.length := by have : r.length ≤ i := by simpa using h
                                  omega
    exact (firstI_none fun k hk => hinv k (by omega)).symm

theorem contains72_ok {r : List Int} {f : FuncId} {fc : List D} {p : Int → Bool} (hl : r.length ≤ 4294967296) (hf : ∀ k, k < r.length → FnD prog f ([eI (elr r k)] ++ fc.map dV) (vb (p (elr r k))) []) :
    FnD prog 72 [vs (row r), .e (.sc (.dat (.fn (.func f) fc)))] (vb (r.any p)) [] := by
  refine vc72_ok _ _ _ (R := Out _) ?_
  unfold vc72
  exact ⟨_, index126_ok hl hf, outb (firstI_any p r)⟩

theorem index134_ok {r : List Int} {f : FuncId} {fc : List D} {p : Int → Bool} (hl : r.length ≤ 4294967296) (hf : ∀ k, k < r.length → FnD prog f ([eI (elr r k)] ++ fc.map dV) (vb (p (elr r k))) []) :
    FnD prog 134 [vs (row r), .e (.sc (.dat (.fn (.func f) fc)))] (vi (firstI p r)) [] := by
  refine vc134_ok _ _ _ (R := Out _) ?_
  unfold vc134
  simp only [row_length]
  refine ⟨fun t => ∃ i : Nat, t = (i : Int) ∧ i ≤ r.length ∧ ∀ k, k < i → p (elr r k) = false, fun t => ((r.length : Int) - t).toNat, ⟨0, rfl, by omega, fun k hk => by omega⟩, ?_⟩
  rintro _ ⟨i, rfl, hi, hinv⟩
  refine ⟨fun h => ?_, fun h => outi ?_⟩
  · have hir : i < r.length := by simpa using h
    refine ⟨_, _, p (elr r i), ⟨by omega, by omega⟩, row_getN hir, hf i hir, fun h2 => outi ?_, fun h2 => ?_⟩
    · exact (firstI_at hir h2 hinv).symm
    · rw [inc64 (by omega)]
      refine ⟨⟨i + 1, rfl, by omega, fun k hk => ?_⟩, by show ((r.length : Int) - ((i + 1 : Nat) : Int)).toNat < ((r.length : Int) - (i : Int)).toNat; omega⟩
      by_cases hki : k = i
      · subst hki; exact h2
      · exact hinv k (by omega)
  · have hir : i = r.length := by have : r.length ≤ i := by simpa using h
                                  omega
    exact (firstI_none fun k hk => hinv k (by omega)).symm

theorem contains89_ok {r : List Int} {f : FuncId} {fc : List D} {p : Int → Bool} (hl : r.length ≤ 4294967296) (hf : ∀ k, k < r.length → FnD prog f ([eI (elr r k)] ++ fc.map dV) (vb (p (elr r k))) []) :
    FnD prog 89 [vs (row r), .e (.sc (.dat (.fn (.func f) fc)))] (vb (r.any p)) [] := by
  refine vc89_ok _ _ _ (R := Out _) ?_
  unfold vc89
  exact ⟨_, index134_ok hl hf, outb (firstI_any p r)⟩

theorem index133_ok {r : List Int} {f : FuncId} {fc : List D} {p : Int → Bool} (hl : r.length ≤ 4294967296) (hf : ∀ k, k < r.length → FnD prog f ([vi (elr r k)] ++ fc.map dV) (vb (p (elr r k))) []) :
    FnD prog 133 [vs (ints r), .e (.sc (.dat (.fn (.func f) fc)))] (vi (firstI p r)) [] := by
  refine vc133_ok _ _ _ (R := Out _) ?_
  unfold vc133
  simp only [ints_length]
  refine ⟨fun t => ∃ i : Nat, t = (i : Int) ∧ i ≤ r.length ∧ ∀ k, k < i → p (elr r k) = false, fun t => ((r.length : Int) - t).toNat, ⟨0, rfl, by omega, fun k hk => by omega⟩, ?_⟩
  rintro _ ⟨i, rfl, hi, hinv⟩
  refine ⟨fun h => ?_, fun h => outi ?_⟩
  · have hir : i < r.length := by simpa using h
    refine ⟨_, p (elr r i), ⟨by omega, by omega⟩, ints_getN hir, hf i hir, fun h2 => outi ?_, fun h2 => ?_⟩
    · exact (firstI_at hir h2 hinv).symm
    · rw [inc64 (by omega)]
      refine ⟨⟨i + 1, rfl, by omega, fun k hk => ?_⟩, by show ((r.length : Int) - ((i + 1 : Nat) : Int)).toNat < ((r.length : Int) - (i : Int)).toNat; omega⟩
      by_cases hki : k = i
      · subst hki; exact h2
      · exact hinv k (by omega)
  · have hir : i = r.length := by have : r.length ≤ i := by simpa using h
                                  omega
    exact (firstI_none fun k hk => hinv k (by omega)).symm

theorem contains85_ok {r : List Int} {f : FuncId} {fc : List D} {p : Int → Bool} (hl : r.length ≤ 4294967296) (hf : ∀ k, k < r.length → FnD prog f ([vi (elr r k)] ++ fc.map dV) (vb (p (elr r k))) []) :
    FnD prog 85 [vs (ints r), .e (.sc (.dat (.fn (.func f) fc)))] (vb (r.any p)) [] := by
  refine vc85_ok _ _ _ (R := Out _) ?_
  unfold vc85
  exact ⟨_, index133_ok hl hf, outb (firstI_any p r)⟩

/-! ### Valid, Zero -/

theorem ivalid_ok {z : Int} (hz : Sz z) : FnD prog 74 [eI z] (vb true) [] := by
  refine vc74_ok _ _ (R := Out _) ?_
  unfold vc74
  obtain ⟨a, hae⟩ : ∃ a, a = digs z.natAbs := ⟨_, rfl⟩
  have hl : a.length ≤ 1073741824 := hae ▸ hz
  have hcan : canon a := hae ▸ digs_canon z.natAbs
  have hnil : a = [] ↔ z = 0 := by rw [hae, digs_nil]; omega
  rw [← hae]
  simp only [lim_length]
  refine ⟨fun h => ⟨fun _ => outb rfl, fun h2 => ?_⟩, fun h => ⟨fun h2 => ?_, fun h2 => ?_⟩⟩
  · exfalso
    have h0 : a.length = 0 := by have : (a.length : Int) = 0 := by simpa using h
                                 omega
    have hz0 := hnil.1 (List.length_eq_zero_iff.1 h0)
    subst hz0; simp at h2
  · have h0 : 0 < a.length := by have : (a.length : Int) > 0 := by simpa using h2
                                 omega
    have hw : IntKind.i64.wrap ((a.length : Int) - 1) = ((a.length - 1 : Nat) : Int) := by rw [w64 (by omega) (by omega)]; omega
    rw [hw]
    refine ⟨(dg a (a.length - 1) : Nat), ⟨by omega, by omega⟩, ?_, outb ?_⟩
    · have := lim_getI (l := a) (i := ((a.length - 1 : Nat) : Int)) (by omega) (by omega)
      rw [Int.toNat_natCast] at *; exact this
    · have hc := hcan (dg a (a.length - 1)) (by rw [List.getLast?_eq_getElem?, List.getElem?_eq_getElem (by omega), dg_get (by omega)])
      simp; exact hc
  · exfalso
    have h1 : ¬ (a.length : Int) > 0 := by simpa using h2
    have h3 : ¬ (a.length : Int) = 0 := by simpa using h
    omega

theorem mvalid_ok {r c : Nat} {m : List (List Int)} (hm : Mx r c m) (hs : SzM m) (hr : r ≤ 4294967296) (hc : c ≤ 4294967296) : FnD prog 17 [eM r c m] (vb true) [] := by
  obtain ⟨h1, h2⟩ := hm
  refine vc17_ok _ _ _ (R := Out _) ?_
  unfold vc17
  simp only [rows_length]
  refine ⟨fun h => ?_, fun _ => ⟨fun h => ?_, fun _ => ⟨fun h => ?_, fun _ => ⟨fun t => ∃ i : Nat, t = (i : Int) ∧ i ≤ m.length, fun t => ((m.length : Int) - t).toNat, ⟨0, rfl, by omega⟩, ?_⟩⟩⟩⟩
  · simp at h; omega
  · simp at h; omega
  · simp [h1] at h
  rintro _ ⟨i, rfl, hi⟩
  refine ⟨fun h => ?_, fun h => outb rfl⟩
  have hir : i < m.length := by simpa using h
  have hin : m.getD i [] ∈ m := getD_mem hir
  have hlen := h2 _ hin
  refine ⟨_, ⟨by omega, by omega⟩, rows_getN hir, fun h3 => ?_, fun _ => ⟨false, ?_, fun h4 => by simp at h4, fun _ => ?_⟩⟩
  · rw [row_length, hlen] at h3; simp at h3
  · have := contains72_ok (r := m.getD i []) (f := 73) (fc := []) (p := fun _ => false) (by omega) fun k hk => by
      refine vc73_ok _ _ (R := Out _) ?_
      unfold vc73
      exact ⟨true, ivalid_ok (hs _ hin _ (elr_mem hk)), outb rfl⟩
    have e : (m.getD i []).any (fun _ => false) = false := by simp
    rw [e] at this
    exact this
  · rw [inc64 (by omega)]
    exact ⟨⟨i + 1, rfl, by omega⟩, by show ((m.length : Int) - ((i + 1 : Nat) : Int)).toNat < ((m.length : Int) - (i : Int)).toNat; omega⟩

theorem mvalid_bad {r c : Int} {m : List (List Int)} (h : (m.length : Int) ≠ r) : FnD prog 17 [eM r c m] (vb false) [] := by
  refine vc17_ok _ _ _ (R := Out _) ?_
  unfold vc17
  simp only [rows_length]
  refine ⟨fun _ => outb rfl, fun _ => ⟨fun _ => outb rfl, fun _ => ⟨fun _ => outb rfl, fun h3 => ?_⟩⟩⟩
  exact absurd (by simpa using h3) h

theorem mzero_ok {r : List Int} (hl : r.length ≤ 4294967296) : FnD prog 41 [vs (row r)] (vb (!r.any fun z => decide (z ≠ 0))) [] := by
  refine vc41_ok _ (R := Out _) ?_
  unfold vc41
  refine ⟨_, contains89_ok (r := r) (f := 90) (fc := []) (p := fun z => decide (z ≠ 0)) hl fun k hk => ?_, outb rfl⟩
  refine vc90_ok _ _ (R := Out _) ?_
  unfold vc90
  refine ⟨_, sign_ok _, outb ?_⟩
  by_cases h : elr r k = 0
  · simp [h]
  · by_cases h2 : elr r k < 0
    · simp [h, h2]
    · simp [h, h2]

end Go.AM
