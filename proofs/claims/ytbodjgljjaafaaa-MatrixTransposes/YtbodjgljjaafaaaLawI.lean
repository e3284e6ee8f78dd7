/- What the functions of package matrix, and of its reference, answer: tables, validity, comparing. -/
import Derived.Test.YtbodjgljjaafaaaLawH
import Derived.Test.YtbodjgljjaafaaaVcMat
import Derived.Test.YtbodjgljjaafaaaVcR5
namespace Go.AM
open Go.Proofs.Try

/-- Rows and columns. -/
def Mx (r c : Nat) (m : List (List Int)) : Prop := m.length = r ∧ ∀ x ∈ m, x.length = c

def SzR (r : List Int) : Prop := ∀ z ∈ r, Sz z
def SzM (m : List (List Int)) : Prop := ∀ r ∈ m, SzR r

def tableR (c : Nat) (g : Nat → Int) : List Int := (List.range c).map g
def table (r c : Nat) (g : Nat → Nat → Int) : List (List Int) := (List.range r).map fun i => tableR c (g i)

theorem table_mx (r c : Nat) (g : Nat → Nat → Int) : Mx r c (table r c g) := ⟨by simp [table], fun x hx => by
  simp only [table, List.mem_map] at hx
  obtain ⟨i, _, rfl⟩ := hx; simp [tableR]⟩

def el (m : List (List Int)) (i j : Nat) : Int := (m.getD i []).getD j 0
def elr (r : List Int) (j : Nat) : Int := r.getD j 0

theorem row_getI {r : List Int} {i : Int} (h0 : 0 ≤ i) (h : i < (r.length : Int)) : (row r)[i.toNat]? = some (cI (elr r i.toNat)) := by
  have hi : i.toNat < r.length := by omega
  rw [row_get hi]; simp [elr, List.getElem?_eq_getElem hi]

theorem rows_getI {m : List (List Int)} {i : Int} (h0 : 0 ≤ i) (h : i < (m.length : Int)) : (rows m)[i.toNat]? = some [D.sl (row (m.getD i.toNat []))] := by
  have hi : i.toNat < m.length := by omega
  rw [rows_get hi]; simp [List.getElem?_eq_getElem hi]

theorem row_getN {r : List Int} {i : Nat} (h : i < r.length) : (row r)[(i : Int).toNat]? = some (cI (elr r i)) := by
  have := row_getI (r := r) (i := (i : Int)) (by omega) (by omega)
  rwa [Int.toNat_natCast] at this ⊢

theorem rows_getN {m : List (List Int)} {i : Nat} (h : i < m.length) : (rows m)[(i : Int).toNat]? = some [D.sl (row (m.getD i []))] := by
  have := rows_getI (m := m) (i := (i : Int)) (by omega) (by omega)
  rwa [Int.toNat_natCast] at this ⊢

theorem inc64 {i : Nat} (h : i ≤ 4611686018427387904) : IntKind.i64.wrap ((i : Int) + 1) = ((i + 1 : Nat) : Int) := by rw [w64 (by omega) (by omega)]; simp

/-- The first rows are done, the others are empty. -/
def part (r c : Nat) (g : Nat → Nat → Int) (i : Nat) : List (List (List D)) := (List.range r).map fun k => if k < i then row (tableR c (g k)) else []

theorem part_all (r c : Nat) (g : Nat → Nat → Int) : matD (part r c g r) = rows (table r c g) := by
  unfold matD part rows table
  rw [List.map_map, List.map_map]
  apply List.map_congr_left
  intro k hk
  simp [List.mem_range.1 hk]

theorem cI_zero : cI 0 = [D.bool false, D.sl ([] : List (List D))] := rfl

theorem part_set (r c : Nat) (g : Nat → Nat → Int) (i : Nat) (hi : i < r) : (part r c g i).set i (row (tableR c (g i))) = part r c g (i + 1) := by
  apply List.ext_getElem?
  intro k
  unfold part
  by_cases hk : k = i
  · subst hk; simp [hi]
  · rw [List.getElem?_set_ne (Ne.symm hk)]
    simp only [List.getElem?_map]
    by_cases hkr : k < r
    · simp only [List.getElem?_range hkr, Option.map_some]
      congr 1
      by_cases h1 : k < i
      · rw [if_pos h1, if_pos (by omega)]
      · rw [if_neg h1, if_neg (by omega)]
    · rw [List.getElem?_eq_none (by simpa using hkr)]; rfl

/-- A row under way: the first elements are done, the others are 0. -/
def partR (c : Nat) (g : Nat → Int) (j : Nat) : List Int := (List.range c).map fun k => if k < j then g k else 0

theorem partR_all (c : Nat) (g : Nat → Int) : partR c g c = tableR c g := by
  unfold partR tableR
  apply List.map_congr_left
  intro k hk
  simp [List.mem_range.1 hk]

theorem partR_zero (c : Nat) (g : Nat → Int) : row (partR c g 0) = List.replicate c [D.bool false, D.sl ([] : List (List D))] := by
  unfold partR row
  rw [List.map_map]
  have : (cI ∘ fun k => if k < 0 then g k else (0 : Int)) = fun _ => [D.bool false, D.sl ([] : List (List D))] := by funext k; simp [cI_zero]
  rw [this, List.map_const']; simp

theorem partR_set (c : Nat) (g : Nat → Int) (j : Nat) (hj : j < c) : (row (partR c g j)).set j (cI (g j)) = row (partR c g (j + 1)) := by
  apply List.ext_getElem?
  intro k
  unfold partR row
  by_cases hk : k = j
  · subst hk; simp [hj]
  · rw [List.getElem?_set_ne (Ne.symm hk)]
    simp only [List.getElem?_map]
    by_cases hkr : k < c
    · simp only [List.getElem?_range hkr, Option.map_some]
      congr 1
      by_cases h1 : k < j
      · rw [if_pos h1, if_pos (by omega)]
      · rw [if_neg h1, if_neg (by omega)]
    · rw [List.getElem?_eq_none (by simpa using hkr)]; rfl

theorem build_ok {r c : Nat} (hr : r ≤ 4294967296) (hc : c ≤ 4294967296) {f : FuncId} {fc : List D} {g : Nat → Nat → Int}
    (hf : ∀ i j : Nat, i < r → j < c → FnD prog f ([vi i, vi j] ++ fc.map dV) (eI (g i j)) []) :
    FnD prog 76 [vi r, vi c, .e (.sc (.dat (.fn (.func f) fc)))] (eM r c (table r c g)) [] := by
  refine vc76_ok r c f fc (R := Out _) ?_
  unfold vc76
  refine ⟨⟨by omega, by omega, by omega⟩, fun o t => ∃ i : Nat, t = (i : Int) ∧ i ≤ r ∧ o = part r c g i, fun _ t => ((r : Int) - t).toNat, ⟨0, rfl, by omega, ?_⟩, ?_⟩
  · unfold part
    rw [Int.toNat_natCast]
    have : (fun k => if k < 0 then row (tableR c (g k)) else ([] : List (List D))) = fun _ => [] := by funext k; simp
    rw [this, List.map_const']; simp
  rintro _ _ ⟨i, rfl, hi, rfl⟩
  have hlen : ∀ i, (part r c g i).length = r := fun i => by simp [part]
  refine ⟨fun h => ?_, fun h => ?_⟩
  · have hir : i < r := by simpa using h
    refine ⟨⟨by omega, by omega, by omega⟩, ⟨by omega, by rw [hlen]; omega⟩, fun o t => ∃ j : Nat, t = (j : Int) ∧ j ≤ c ∧ o = (part r c g i).set i (row (partR c (g i) j)), fun _ t => ((c : Int) - t).toNat, ⟨0, rfl, by omega, ?_⟩, ?_⟩
    · rw [Int.toNat_natCast, Int.toNat_natCast, partR_zero]
    rintro _ _ ⟨j, rfl, hj, rfl⟩
    refine ⟨fun h2 => ?_, fun h2 => ?_⟩
    · have hjc : j < c := by simpa using h2
      refine ⟨decide (g i j < 0), lim (dz (g i j)), ⟨by omega, by simp [hlen]; omega⟩, hf i j hir hjc, ⟨row (partR c (g i) j), by rw [Int.toNat_natCast]; simp [hlen, hir], by omega, by simp [row_length, partR]; omega⟩, ?_⟩
      rw [inc64 (by omega)]
      refine ⟨⟨j + 1, rfl, by omega, ?_⟩, by show ((c : Int) - ((j + 1 : Nat) : Int)).toNat < ((c : Int) - (j : Int)).toNat; omega⟩
      rw [Int.toNat_natCast, Int.toNat_natCast]
      have e1 : ((part r c g i).set i (row (partR c (g i) j))).modify i (fun q => q.set j [D.bool (decide (g i j < 0)), D.sl (lim (dz (g i j)))]) = (part r c g i).set i ((row (partR c (g i) j)).set j (cI (g i j))) := by
        apply List.ext_getElem?
        intro k
        rw [List.getElem?_modify]
        by_cases hk : i = k
        · subst hk; simp [hlen, hir]; rfl
        · simp [hk, List.getElem?_set_ne hk]
      rw [e1, partR_set c (g i) j hjc]
    · have hjc : j = c := by have : c ≤ j := by simpa using h2
                             omega
      subst hjc
      rw [inc64 (by omega)]
      refine ⟨⟨i + 1, rfl, by omega, ?_⟩, by show ((r : Int) - ((i + 1 : Nat) : Int)).toNat < ((r : Int) - (i : Int)).toNat; omega⟩
      rw [partR_all, part_set r j g i hir]
  · have hir : i = r := by have : r ≤ i := by simpa using h
                           omega
    subst hir
    rw [part_all]
    exact ⟨rfl, rfl⟩

/-! ### Valid, Same -/

theorem validVec_ok {r : List Int} (hr : SzR r) (hl : r.length ≤ 4294967296) : FnD prog 75 [vs (row r)] (vb true) [] := by
  refine vc75_ok (row r) (R := Out _) ?_
  unfold vc75
  simp only [row_length]
  refine ⟨fun t => ∃ i : Nat, t = (i : Int) ∧ i ≤ r.length, fun t => ((r.length : Int) - t).toNat, ⟨0, rfl, by omega⟩, ?_⟩
  rintro _ ⟨i, rfl, hi⟩
  refine ⟨fun h => ?_, fun h => outb rfl⟩
  have hir : i < r.length := by simpa using h
  refine ⟨decide (elr r i < 0), lim (dz (elr r i)), true, ⟨by omega, by omega⟩, row_getN hir, rvalid_ok _ (hr _ ?_), fun h2 => by simp at h2, fun _ => ?_⟩
  · simp [elr, List.getElem?_eq_getElem hir]
  · rw [inc64 (by omega)]
    exact ⟨⟨i + 1, rfl, by omega⟩, by show ((r.length : Int) - ((i + 1 : Nat) : Int)).toNat < ((r.length : Int) - (i : Int)).toNat; omega⟩

theorem getD_mem {α : Type} {l : List α} {i : Nat} {d : α} (h : i < l.length) : l.getD i d ∈ l := by
  rw [List.getD_eq_getElem?_getD, List.getElem?_eq_getElem h]; exact List.getElem_mem h

theorem rvalidM_ok {r c : Nat} {m : List (List Int)} (hm : Mx r c m) (hs : SzM m) (hr : r ≤ 4294967296) (hc : c ≤ 4294967296) : FnD prog 18 [eM r c m] (vb true) [] := by
  obtain ⟨h1, h2⟩ := hm
  refine vc18_ok _ _ _ (R := Out _) ?_
  unfold vc18
  simp only [rows_length]
  refine ⟨fun h => ?_, fun _ => ⟨fun h => ?_, fun _ => ⟨fun h => ?_, fun _ => ⟨fun t => ∃ i : Nat, t = (i : Int) ∧ i ≤ m.length, fun t => ((m.length : Int) - t).toNat, ⟨0, rfl, by omega⟩, ?_⟩⟩⟩⟩
  · simp at h; omega
  · simp at h; omega
  · simp [h1] at h
  rintro _ ⟨i, rfl, hi⟩
  refine ⟨fun h => ?_, fun h => outb rfl⟩
  have hir : i < m.length := by simpa using h
  have hin : m.getD i [] ∈ m := getD_mem hir
  have hlen := h2 _ hin
  refine ⟨row (m.getD i []), ⟨by omega, by omega⟩, by simpa using rows_getI (m := m) (i := (i : Int)) (by omega) (by omega), fun h3 => ?_, fun _ => ⟨true, validVec_ok (hs _ hin) (by omega), fun h4 => by simp at h4, fun _ => ?_⟩⟩
  · rw [row_length, hlen] at h3; simp at h3
  · rw [inc64 (by omega)]
    exact ⟨⟨i + 1, rfl, by omega⟩, by show ((m.length : Int) - ((i + 1 : Nat) : Int)).toNat < ((m.length : Int) - (i : Int)).toNat; omega⟩

end Go.AM
