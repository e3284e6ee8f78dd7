/- What the functions of package matrix' reference answer: matrices that are made. -/
import Derived.Test.YtbodjgljjaafaaaLawM
namespace Go.AM
open Go.Proofs.Try

/-- The state after a call may be seen in another way. -/
theorem FnD.wk {P : Program} {k : FuncId} {args : List V} {r r2 : V} {objs objs2 : Heap} (hf : FnD P k args r objs) (hw : Wk 0 ⟨[(0, r)], objs, 1⟩ ⟨[(0, r2)], objs2, 1⟩) : FnD P k args r2 objs2 := by
  refine ⟨hf.1, fun I M w vs s hr => (hf.2 I M w vs s hr).mono ?_⟩
  rintro e w' ⟨v, r', h', I', M', he, ⟨rfl, rfl⟩, hrel, sim, hext, hfp, hmono⟩
  have tm0 : ∀ i u, (i, u) ∈ [(0, r')] → RelV w' I' M' ((#[v] : Array Value).getD i undef) u := fun i u hu => by
    simp only [List.mem_singleton, Prod.mk.injEq] at hu
    obtain ⟨rfl, rfl⟩ := hu
    exact hrel
  have s0 : Sim I' M' ⟨[(0, r')], h', 1⟩ { tmps := #[v], defers := [] } w' := { toSimH := sim, tm := tm0, size := rfl, defers := rfl }
  obtain ⟨I2, M2, s2, g1, g2, g3, _⟩ := hw I' M' _ w' s0
  refine ⟨v, r2, objs2, I2, M2, he, ⟨rfl, rfl⟩, s2.tm 0 r2 (by simp), s2.toSimH, ⟨hext.os, hext.tape, hext.output, hext.size, hext.heap, fun b hb => g1 b (hext.imm b hb), fun b hb => ?_⟩, fun b hb => hfp b (g3 b hb), fun o e ho => by simp at ho⟩
  rcases g2 b hb with h1 | h1
  · exact hext.immNew b h1
  · rcases hfp b h1 with ⟨o, h2⟩ | h2
    · simp [fpAt] at h2
    · exact .inr (.inl h2)

def om (m : List (List Int)) : List (List (List D)) := m.map row
/-- A matrix whose rows are the caller's own. -/
def eMo (r c : Int) : V := .e (.agg [.dat (.int .i64 r), .dat (.int .i64 c), .ref 0])
def oM (m : List (List Int)) : Heap := [some (.mat 2 (om m))]

theorem matD_om (m : List (List Int)) : matD (om m) = rows m := by simp [matD, om, rows]

/-- Seen as data. -/
theorem FnD.frz {P : Program} {k : FuncId} {args : List V} {r c : Int} {m : List (List Int)} (hf : FnD P k args (eMo r c) (oM m)) : FnD P k args (eM r c m) [] := by
  have h1 : Wk 0 ⟨[(0, eMo r c)], oM m, 1⟩ ⟨[(0, eM r c m)], [none], 1⟩ := xfreeze_ok (ids := [0]) (by
    unfold eM; rw [← matD_om]; rfl)
  have h2 : Wk 0 ⟨[(0, eM r c m)], [none], 1⟩ ⟨[(0, eM r c m)], [], 1⟩ := xview_ok (live := [0]) (ids := []) rfl rfl rfl
  exact (hf.wk h1).wk h2

/-- The result, with its rows. -/
abbrev OutM (r c : Int) (m : List (List Int)) : V → Heap → Prop := fun r' h' => r' = eMo r c ∧ h' = oM m

theorem outM {r c : Int} {m : List (List Int)} {o : List (List (List D))} (h : o = om m) : OutM r c m (V.e (E.agg [S.dat (D.int .i64 r), S.dat (D.int .i64 c), S.ref 0])) [some (Obj.mat 2 o)] := by subst h; exact ⟨rfl, rfl⟩

theorem om_length (m : List (List Int)) : (om m).length = m.length := by simp [om]

theorem row_rep (c : Nat) : row (tableR c fun _ => 0) = List.replicate c [D.bool false, D.sl ([] : List (List D))] := by
  unfold tableR row
  rw [List.map_map]
  have : (cI ∘ fun _ : Nat => (0 : Int)) = fun _ => [D.bool false, D.sl ([] : List (List D))] := by funext k; rfl
  rw [this, List.map_const']; simp

theorem rnew_ok {r c : Nat} (hr : r ≤ 4294967296) (hc : c ≤ 4294967296) : FnD prog 33 [vi r, vi c] (eMo r c) (oM (table r c fun _ _ => 0)) := by
  refine vc33_ok _ _ (R := OutM r c _) ?_
  unfold vc33
  refine ⟨fun o t => ∃ i : Nat, t = (i : Int) ∧ i ≤ r ∧ o = om (table i c fun _ _ => 0), fun _ t => ((r : Int) - t).toNat, ⟨0, rfl, by omega, rfl⟩, ?_⟩
  rintro _ _ ⟨i, rfl, hi, rfl⟩
  refine ⟨fun h => ?_, fun h => outM ?_⟩
  · have hir : i < r := by simpa using h
    refine ⟨⟨by omega, by omega, by omega⟩, by simp only [om_length, table, List.length_map, List.length_range, List.length_singleton]; omega, ?_⟩
    rw [inc64 (by omega)]
    refine ⟨⟨i + 1, rfl, by omega, ?_⟩, by show ((r : Int) - ((i + 1 : Nat) : Int)).toNat < ((r : Int) - (i : Int)).toNat; omega⟩
    rw [Int.toNat_natCast, ← row_rep]
    simp [om, table, List.range_succ]
  · have hir : i = r := by have : r ≤ i := by simpa using h
                           omega
    subst hir; rfl

/-- One element written. -/
theorem om_set {r c : Nat} {g : Nat → Nat → Int} {i j : Nat} {z : Int} (hi : i < r) (hj : j < c) :
    (om (table r c g)).modify i (fun q => q.set j (cI z)) = om (table r c fun i' j' => if i' = i ∧ j' = j then z else g i' j') := by
  apply List.ext_getElem?
  intro k
  rw [List.getElem?_modify]
  simp only [om, table, List.getElem?_map]
  by_cases hk : k < r
  · simp only [List.getElem?_range hk, Option.map_some, Option.map_eq_map]
    by_cases hik : i = k
    · subst hik
      simp only [if_true]
      congr 1
      apply List.ext_getElem?
      intro l
      unfold row tableR
      by_cases hl : l = j
      · subst hl; simp [hj]
      · rw [List.getElem?_set_ne (Ne.symm hl)]
        by_cases hlc : l < c
        · simp [hlc, hl]
        · simp [hlc]
    · have hki : ¬ k = i := fun h => hik h.symm
      simp [hik, hki, tableR]
  · rw [List.getElem?_eq_none (by simpa using hk)]; simp

theorem om_in {r c : Nat} {g : Nat → Nat → Int} {i j : Nat} (hi : i < r) (hj : j < c) : ∃ l, (om (table r c g))[(i : Int).toNat]? = some l ∧ 0 ≤ (j : Int) ∧ (j : Int) < (l.length : Int) :=
  ⟨row (tableR c (g i)), by rw [Int.toNat_natCast]; simp [om, table, hi], by omega, by simp [row_length, tableR]; omega⟩

theorem rident_ok {n : Nat} (hn : n ≤ 4294967296) : FnD prog 49 [vi n] (eMo n n) (oM (table n n delta)) := by
  refine vc49_ok _ (R := OutM n n _) ?_
  unfold vc49
  refine ⟨_, _, _, rnew_ok hn hn, fun o t => ∃ i : Nat, t = (i : Int) ∧ i ≤ n ∧ o = om (table n n fun a b => if a = b ∧ a < i then 1 else 0), fun _ t => ((n : Int) - t).toNat, ⟨0, rfl, by omega, ?_⟩, ?_⟩
  · congr 1; exact table_congr fun a b _ _ => by simp
  rintro _ _ ⟨i, rfl, hi, rfl⟩
  refine ⟨fun h => ?_, fun h => outM ?_⟩
  · have hir : i < n := by simpa using h
    refine ⟨_, _, ⟨by omega, by simp [om_length, table]; omega⟩, rof_ok 1 (by omega) (by omega), om_in hir hir, ?_⟩
    rw [inc64 (by omega)]
    refine ⟨⟨i + 1, rfl, by omega, ?_⟩, by show ((n : Int) - ((i + 1 : Nat) : Int)).toNat < ((n : Int) - (i : Int)).toNat; omega⟩
    rw [Int.toNat_natCast]
    refine Eq.trans (om_set (z := 1) hir hir) ?_
    congr 1
    refine table_congr fun a b _ _ => ?_
    by_cases h1 : a = i ∧ b = i
    · rw [if_pos h1, if_pos ⟨by omega, by omega⟩]
    · rw [if_neg h1]
      by_cases h2 : a = b ∧ a < i
      · rw [if_pos h2, if_pos ⟨h2.1, by omega⟩]
      · rw [if_neg h2, if_neg (by omega)]
  · have hir : i = n := by have : n ≤ i := by simpa using h
                           omega
    subst hir
    congr 1
    exact table_congr fun a b ha _ => by unfold delta; by_cases h : a = b <;> simp [h]; omega

/-- The first i rows and j elements more. -/
def gF (f : Nat → Nat → Int) (i j : Nat) : Nat → Nat → Int := fun a b => if a < i ∨ (a = i ∧ b < j) then f a b else 0

theorem gF_zero {r c : Nat} (f : Nat → Nat → Int) : om (table r c fun _ _ => 0) = om (table r c (gF f 0 0)) := by
  congr 1; exact table_congr fun a b _ _ => by simp [gF]

theorem gF_step {r c : Nat} {f : Nat → Nat → Int} {i j : Nat} (hi : i < r) (hj : j < c) : (om (table r c (gF f i j))).modify i (fun q => q.set j (cI (f i j))) = om (table r c (gF f i (j + 1))) := by
  refine Eq.trans (om_set hi hj) ?_
  congr 1
  refine table_congr fun a b _ _ => ?_
  unfold gF
  by_cases h1 : a = i ∧ b = j
  · rw [if_pos h1, if_pos (by omega), h1.1, h1.2]
  · rw [if_neg h1]
    by_cases h2 : a < i ∨ (a = i ∧ b < j)
    · rw [if_pos h2, if_pos (by omega)]
    · rw [if_neg h2, if_neg (by omega)]

theorem gF_next {r c : Nat} {f : Nat → Nat → Int} {i j : Nat} (h0 : ∀ b, j ≤ b → b < c → f i b = 0) : om (table r c (gF f i j)) = om (table r c (gF f (i + 1) 0)) := by
  congr 1
  refine table_congr fun a b _ hb => ?_
  unfold gF
  by_cases h2 : a < i ∨ (a = i ∧ b < j)
  · rw [if_pos h2, if_pos (by omega)]
  · rw [if_neg h2]
    by_cases h3 : a = i
    · subst h3
      rw [if_pos (by omega), h0 b (by omega) hb]
    · rw [if_neg (by omega)]

theorem gF_all {r c : Nat} {f : Nat → Nat → Int} : om (table r c (gF f r 0)) = om (table r c f) := by
  congr 1
  exact table_congr fun a b ha _ => by unfold gF; rw [if_pos (.inl ha)]

/-- The elements in a row, 0 where there is none. -/
def fillF (c : Nat) (v : List Int) (i j : Nat) : Int := elr v (i * c + j)

theorem elr_out {v : List Int} {k : Nat} (h : v.length ≤ k) : elr v k = 0 := by
  unfold elr; rw [List.getD_eq_getElem?_getD, List.getElem?_eq_none h]; rfl

theorem rints_ok {r c : Nat} {v : List Int} (hr : r ≤ 1048576) (hc : c ≤ 1048576) (hv : ∀ z ∈ v, -9223372036854775808 ≤ z ∧ z ≤ 9223372036854775807) :
    FnD prog 70 [vi r, vi c, vs (ints v)] (eMo r c) (oM (table r c (fillF c v))) := by
  refine vc70_ok _ _ _ (R := OutM r c _) ?_
  unfold vc70
  simp only [ints_length]
  refine ⟨_, _, _, rnew_ok (by omega) (by omega), fun o t => ∃ i : Nat, t = (i : Int) ∧ i ≤ r ∧ o = om (table r c (gF (fillF c v) i 0)), fun _ t => ((r : Int) - t).toNat, ⟨0, rfl, by omega, gF_zero _⟩, ?_⟩
  rintro _ _ ⟨i, rfl, hi, rfl⟩
  refine ⟨fun h => ?_, fun h => outM ?_⟩
  · have hir : i < r := by simpa using h
    refine ⟨fun o t => ∃ j : Nat, t = (j : Int) ∧ j ≤ c ∧ o = om (table r c (gF (fillF c v) i j)), fun _ t => ((c : Int) - t).toNat, ⟨0, rfl, by omega, rfl⟩, ?_⟩
    rintro _ _ ⟨j, rfl, hj, rfl⟩
    have hprod : i * c ≤ 1048576 * 1048576 := Nat.mul_le_mul (by omega) hc
    have hw1 : IntKind.i64.wrap ((i : Int) * (c : Int)) = ((i * c : Nat) : Int) := by
      rw [← Int.natCast_mul]; exact w64 (by omega) (by omega)
    have hw2 : IntKind.i64.wrap (((i * c : Nat) : Int) + (j : Int)) = ((i * c + j : Nat) : Int) := by
      rw [← Int.natCast_add]; exact w64 (by omega) (by omega)
    have next : (∀ b, j ≤ b → b < c → fillF c v i b = 0) →
        (∃ i' : Nat, IntKind.i64.wrap ((i : Int) + 1) = (i' : Int) ∧ i' ≤ r ∧ om (table r c (gF (fillF c v) i j)) = om (table r c (gF (fillF c v) i' 0))) ∧ ((r : Int) - IntKind.i64.wrap ((i : Int) + 1)).toNat < ((r : Int) - (i : Int)).toNat := fun h0 => by
      rw [inc64 (by omega)]
      exact ⟨⟨i + 1, rfl, by omega, gF_next h0⟩, by omega⟩
    rw [hw1, hw2]
    refine ⟨fun h2 => ⟨fun h3 => ?_, fun h3 => next fun b hb _ => ?_⟩, fun h2 => next fun b hb hbc => ?_⟩
    · have hjc : j < c := by simpa using h2
      have hlt : i * c + j < v.length := by
        have h3 := of_decide_eq_true h3
        omega
      obtain ⟨v1, v2⟩ := hv _ (elr_mem hlt)
      refine ⟨elr v (i * c + j), _, _, ⟨by omega, by simp [om_length, table]; omega⟩, ⟨by omega, by omega⟩, ints_getN hlt, rof_ok _ v1 v2, om_in hir hjc, ?_⟩
      rw [inc64 (by omega)]
      refine ⟨⟨j + 1, rfl, by omega, ?_⟩, by show ((c : Int) - ((j + 1 : Nat) : Int)).toNat < ((c : Int) - (j : Int)).toNat; omega⟩
      rw [Int.toNat_natCast, Int.toNat_natCast]
      exact gF_step hir hjc
    · have hlt : v.length ≤ i * c + j := by
        have h3 := of_decide_eq_false h3
        omega
      exact elr_out (by omega)
    · have hjc : c ≤ j := by simpa using h2
      omega
  · have hir : i = r := by have : r ≤ i := by simpa using h
                           omega
    subst hir
    exact gF_all

end Go.AM
