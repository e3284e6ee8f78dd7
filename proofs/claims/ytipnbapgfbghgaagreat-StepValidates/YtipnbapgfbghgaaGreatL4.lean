/- What the functions of package matrix' reference answer: matrices that are made. -/
import Derived.Test.YtipnbapgfbghgaaGreatL3
import Derived.ChangeSlices
import Derived.OpenShut
import Derived.RowKit
import Derived.WideShapes
namespace Go.AM
open Go.Proofs.Tryz
theorem FnD.wk {P : Program} {k : FuncId} {args : List V} {r r2 : V} {objs objs2 : Heap} (hf : FnD P k args r objs) (hw : Wk 0 ⟨[(0, r)], objs, 1⟩ ⟨[(0, r2)], objs2, 1⟩) : FnD P k args r2 objs2 := by
  refine ⟨hf.1, fun I M w vs s hr => (hf.2 I M w vs s hr).mono ?_⟩
  rintro e w' ⟨v, r', h', I', M', he, ⟨rfl, rfl⟩, hrel, sim, hext, hfp, hmono⟩
  have tm0 : ∀ i u, (i, u) ∈ [(0, r')] → RelV w' I' M' ((#[v] : Array Value).getD i undef) u := fun i u hu => by
    simp only [List.mem_singleton, Prod.mk.injEq] at hu
    obtain ⟨rfl, rfl⟩ := hu
    exact hrel
  have s0 : Sim I' M' ⟨[(0, r')], h', 1⟩ { tmps := #[v], defers := [] } w' := { toSimH := sim, tm := tm0, size := rfl, defers := rfl }
  obtain ⟨I2, M2, s2, g1, g2, g3, _⟩ := hw I' M' _ w' s0
  refine ⟨v, r2, objs2, I2, M2, he, ⟨rfl, rfl⟩, s2.tm 0 r2 (by simp), s2.toSimH, ⟨hext.os, hext.tape, hext.output, hext.size, hext.heap, fun b hb => g1 b (hext.imm b hb), fun b hb => ?_⟩, fun b hb => hfp b (g3 b hb), fun o e ho => by simp at ho⟩
  rcases g2 b hb with h1 | h1
  · exact hext.immNew b h1
  · rcases hfp b h1 with ⟨o, h2⟩ | h2
    · simp [fpAt] at h2
    · exact .inr (.inl h2)
def om (m : List (List Int)) : DLL := m.map row
def eMo (r c : Int) : V := .e (.agg [.dat (.int .i64 r), .dat (.int .i64 c), .ref 0])
def oM (m : List (List Int)) : Heap := [some (.mat 2 (om m))]
theorem matD_om (m : List (List Int)) : matD (om m) = rows m := by simp [matD, om, rows]
theorem FnD.frz {P : Program} {k : FuncId} {args : List V} {r c : Int} {m : List (List Int)} (hf : FnD P k args (eMo r c) (oM m)) : FnD P k args (eM r c m) [] := by
  have h1 : Wk 0 ⟨[(0, eMo r c)], oM m, 1⟩ ⟨[(0, eM r c m)], [none], 1⟩ := xfreeze_ok (ids := [0]) (by
    unfold eM; rw [← matD_om]; rfl)
  have h2 : Wk 0 ⟨[(0, eM r c m)], [none], 1⟩ ⟨[(0, eM r c m)], [], 1⟩ := xview_ok (live := [0]) (ids := []) rfl rfl rfl
  exact (hf.wk h1).wk h2
abbrev OutM (r c : Int) (m : List (List Int)) : V → Heap → Prop := fun r' h' => r' = eMo r c ∧ h' = oM m
theorem outM {r c : Int} {m : List (List Int)} {o : DLL} (h : o = om m) : OutM r c m (V.e (E.agg [S.dat (D.int .i64 r), S.dat (D.int .i64 c), S.ref 0])) [some (Obj.mat 2 o)] := by subst h; exact ⟨rfl, rfl⟩
theorem om_length (m : List (List Int)) : (om m).length = m.length := by simp [om]
theorem row_rep (c : Nat) : row (tableR c fun _ => 0) = List.replicate c [D.bool false, D.sl ([] : DL)] := by
  unfold tableR row
  rw [List.map_map]
  have : (cI ∘ fun _ : Nat => (0 : Int)) = fun _ => [D.bool false, D.sl ([] : DL)] := by funext k; rfl
  rw [this, List.map_const']; simp
theorem rnew_ok {r c : Nat} (hr : r ≤ 4294967296) (hc : c ≤ 4294967296) : FnD prog 60 [vi r, vi c] (eMo r c) (oM (table r c fun _ _ => 0)) := by
  refine vc60_ok _ _ (R := OutM r c _) ?_
  unfold vc60
  refine ⟨fun o t => ∃ i : Nat, t = (i : Int) ∧ i ≤ r ∧ o = om (table i c fun _ _ => 0), fun _ t => ((r : Int) - t).toNat, ⟨0, rfl, by omega, rfl⟩, ?_⟩
  rintro _ _ ⟨i, rfl, hi, rfl⟩
  refine ⟨fun h => ?_, fun h => outM ?_⟩
  · have hir : i < r := by simpa using h
    refine ⟨⟨by omega, by omega, by omega⟩, by simp only [om_length, table, List.length_map, List.length_range, List.length_singleton]; omega, ?_⟩
    rw [inc64 (by omega)]
    refine ⟨⟨i + 1, rfl, by omega, ?_⟩, by show ((r : Int) - ((i + 1 : Nat) : Int)).toNat < ((r : Int) - (i : Int)).toNat; omega⟩
    rw [Int.toNat_natCast, ← row_rep]
    simp [om, table, List.range_succ]
  · have hir : i = r := by have : r ≤ i := by simpa using h
                           omega
    subst hir; rfl
theorem om_set {r c : Nat} {g : Nat → Nat → Int} {i j : Nat} {z : Int} (_hi : i < r) (hj : j < c) :
    (om (table r c g)).modify i (fun q => q.set j (cI z)) = om (table r c fun i' j' => if i' = i ∧ j' = j then z else g i' j') := by
  apply List.ext_getElem?
  intro k
  rw [List.getElem?_modify]
  simp only [om, table, List.getElem?_map]
  by_cases hk : k < r
  · simp only [List.getElem?_range hk, Option.map_some, Option.map_eq_map]
    by_cases hik : i = k
    · subst hik
      simp only [if_true]
      congr 1
      apply List.ext_getElem?
      intro l
      unfold row tableR
      by_cases hl : l = j
      · subst hl; simp [hj]
      · rw [List.getElem?_set_ne (Ne.symm hl)]
        by_cases hlc : l < c
        · simp [hlc, hl]
        · simp [hlc]
    · have hki : ¬ k = i := fun h => hik h.symm
      simp [hik, hki, tableR]
  · rw [List.getElem?_eq_none (by simpa using hk)]; simp
theorem om_in {r c : Nat} {g : Nat → Nat → Int} {i j : Nat} (hi : i < r) (hj : j < c) : ∃ l, (om (table r c g))[(i : Int).toNat]? = some l ∧ 0 ≤ (j : Int) ∧ (j : Int) < (l.length : Int) :=
  ⟨row (tableR c (g i)), by rw [Int.toNat_natCast]; simp [om, table, hi], by omega, by simp [row_length, tableR]; omega⟩
theorem rident_ok {n : Nat} (hn : n ≤ 4294967296) : FnD prog 30 [vi n] (eMo n n) (oM (table n n delta)) := by
  refine vc30_ok _ (R := OutM n n _) ?_
  unfold vc30
  refine ⟨_, _, _, rnew_ok hn hn, fun o t => ∃ i : Nat, t = (i : Int) ∧ i ≤ n ∧ o = om (table n n fun a b => if a = b ∧ a < i then 1 else 0), fun _ t => ((n : Int) - t).toNat, ⟨0, rfl, by omega, ?_⟩, ?_⟩
  · congr 1; exact table_congr fun a b _ _ => by simp
  rintro _ _ ⟨i, rfl, hi, rfl⟩
  refine ⟨fun h => ?_, fun h => outM ?_⟩
  · have hir : i < n := by simpa using h
    refine ⟨_, _, ⟨by omega, by simp [om_length, table]; omega⟩, rof_ok 1 (by omega) (by omega), om_in hir hir, ?_⟩
    rw [inc64 (by omega)]
    refine ⟨⟨i + 1, rfl, by omega, ?_⟩, by show ((n : Int) - ((i + 1 : Nat) : Int)).toNat < ((n : Int) - (i : Int)).toNat; omega⟩
    rw [Int.toNat_natCast]
    refine Eq.trans (om_set (z := 1) hir hir) ?_
    congr 1
    refine table_congr fun a b _ _ => ?_
    by_cases h1 : a = i ∧ b = i
    · rw [if_pos h1, if_pos ⟨by omega, by omega⟩]
    · rw [if_neg h1]
      by_cases h2 : a = b ∧ a < i
      · rw [if_pos h2, if_pos ⟨h2.1, by omega⟩]
      · rw [if_neg h2, if_neg (by omega)]
  · have hir : i = n := by have : n ≤ i := by simpa using h
                           omega
    subst hir
    congr 1
    exact table_congr fun a b ha _ => by unfold delta; by_cases h : a = b <;> simp [h]; omega
def gF (f : Nat → Nat → Int) (i j : Nat) : Nat → Nat → Int := fun a b => if a < i ∨ (a = i ∧ b < j) then f a b else 0
theorem gF_zero {r c : Nat} (f : Nat → Nat → Int) : om (table r c fun _ _ => 0) = om (table r c (gF f 0 0)) := by
  congr 1; exact table_congr fun a b _ _ => by simp [gF]
theorem gF_step {r c : Nat} {f : Nat → Nat → Int} {i j : Nat} (hi : i < r) (hj : j < c) : (om (table r c (gF f i j))).modify i (fun q => q.set j (cI (f i j))) = om (table r c (gF f i (j + 1))) := by
  refine Eq.trans (om_set hi hj) ?_
  congr 1
  refine table_congr fun a b _ _ => ?_
  unfold gF
  by_cases h1 : a = i ∧ b = j
  · rw [if_pos h1, if_pos (by omega), h1.1, h1.2]
  · rw [if_neg h1]
    by_cases h2 : a < i ∨ (a = i ∧ b < j)
    · rw [if_pos h2, if_pos (by omega)]
    · rw [if_neg h2, if_neg (by omega)]
theorem gF_next {r c : Nat} {f : Nat → Nat → Int} {i j : Nat} (h0 : ∀ b, j ≤ b → b < c → f i b = 0) : om (table r c (gF f i j)) = om (table r c (gF f (i + 1) 0)) := by
  congr 1
  refine table_congr fun a b _ hb => ?_
  unfold gF
  by_cases h2 : a < i ∨ (a = i ∧ b < j)
  · rw [if_pos h2, if_pos (by omega)]
  · rw [if_neg h2]
    by_cases h3 : a = i
    · subst h3
      rw [if_pos (by omega), h0 b (by omega) hb]
    · rw [if_neg (by omega)]
theorem gF_all {r c : Nat} {f : Nat → Nat → Int} : om (table r c (gF f r 0)) = om (table r c f) := by
  congr 1
  exact table_congr fun a b ha _ => by unfold gF; rw [if_pos (.inl ha)]
def fillF (c : Nat) (v : List Int) (i j : Nat) : Int := elr v (i * c + j)
theorem elr_out {v : List Int} {k : Nat} (h : v.length ≤ k) : elr v k = 0 := by
  unfold elr; rw [List.getD_eq_getElem?_getD, List.getElem?_eq_none h]; rfl
theorem rints_ok {r c : Nat} {v : List Int} (hr : r ≤ 1048576) (hc : c ≤ 1048576) (hv : ∀ z ∈ v, -9223372036854775808 ≤ z ∧ z ≤ 9223372036854775807) :
    FnD prog 26 [vi r, vi c, vs (ints v)] (eMo r c) (oM (table r c (fillF c v))) := by
  refine vc26_ok _ _ _ (R := OutM r c _) ?_
  unfold vc26
  simp only [ints_length]
  refine ⟨_, _, _, rnew_ok (by omega) (by omega), fun o t => ∃ i : Nat, t = (i : Int) ∧ i ≤ r ∧ o = om (table r c (gF (fillF c v) i 0)), fun _ t => ((r : Int) - t).toNat, ⟨0, rfl, by omega, gF_zero _⟩, ?_⟩
  rintro _ _ ⟨i, rfl, hi, rfl⟩
  refine ⟨fun h => ?_, fun h => outM ?_⟩
  · have hir : i < r := by simpa using h
    refine ⟨fun o t => ∃ j : Nat, t = (j : Int) ∧ j ≤ c ∧ o = om (table r c (gF (fillF c v) i j)), fun _ t => ((c : Int) - t).toNat, ⟨0, rfl, by omega, rfl⟩, ?_⟩
    rintro _ _ ⟨j, rfl, hj, rfl⟩
    have hprod : i * c ≤ 1048576 * 1048576 := Nat.mul_le_mul (by omega) hc
    have hw1 : IntKind.i64.wrap ((i : Int) * (c : Int)) = ((i * c : Nat) : Int) := by
      rw [← Int.natCast_mul]; exact w64 (by omega) (by omega)
    have hw2 : IntKind.i64.wrap (((i * c : Nat) : Int) + (j : Int)) = ((i * c + j : Nat) : Int) := by
      rw [← Int.natCast_add]; exact w64 (by omega) (by omega)
    have next : (∀ b, j ≤ b → b < c → fillF c v i b = 0) →
        (∃ i' : Nat, IntKind.i64.wrap ((i : Int) + 1) = (i' : Int) ∧ i' ≤ r ∧ om (table r c (gF (fillF c v) i j)) = om (table r c (gF (fillF c v) i' 0))) ∧ ((r : Int) - IntKind.i64.wrap ((i : Int) + 1)).toNat < ((r : Int) - (i : Int)).toNat := fun h0 => by
      rw [inc64 (by omega)]
      exact ⟨⟨i + 1, rfl, by omega, gF_next h0⟩, by omega⟩
    rw [hw1, hw2]
    refine ⟨fun h2 => ⟨fun h3 => ?_, fun h3 => next fun b hb _ => ?_⟩, fun h2 => next fun b hb hbc => ?_⟩
    · have hjc : j < c := by simpa using h2
      have hlt : i * c + j < v.length := by
        have h3 := of_decide_eq_true h3
        omega
      obtain ⟨v1, v2⟩ := hv _ (elr_mem hlt)
      refine ⟨elr v (i * c + j), _, _, ⟨by omega, by simp [om_length, table]; omega⟩, ⟨by omega, by omega⟩, ints_getN hlt, rof_ok _ v1 v2, om_in hir hjc, ?_⟩
      rw [inc64 (by omega)]
      refine ⟨⟨j + 1, rfl, by omega, ?_⟩, by show ((c : Int) - ((j + 1 : Nat) : Int)).toNat < ((c : Int) - (j : Int)).toNat; omega⟩
      rw [Int.toNat_natCast, Int.toNat_natCast]
      exact gF_step hir hjc
    · have hlt : v.length ≤ i * c + j := by
        have h3 := of_decide_eq_false h3
        omega
      exact elr_out (by omega)
    · have hjc : c ≤ j := by simpa using h2
      omega
  · have hir : i = r := by have : r ≤ i := by simpa using h
                           omega
    subst hir
    exact gF_all
end Go.AM
/- What the functions of package matrix' reference, and of its law, answer: matrices out of bytes. -/
namespace Go.AM
open Go.Proofs.Tryz
def i8s (r : List Int) : DL := r.map fun n => [D.int .i8 n]
theorem i8s_length (r : List Int) : (i8s r).length = r.length := by simp [i8s]
theorem i8s_getN {r : List Int} {i : Nat} (h : i < r.length) : (i8s r)[(i : Int).toNat]? = some [D.int .i8 (elr r i)] := by
  rw [Int.toNat_natCast]; simp [i8s, elr, h]
def fillG (c : Nat) (v : List Int) (i j : Nat) : Int := (elr v (i * c + j)).tmod 10
theorem tmod10 (n : Int) : (n.tmod 10).natAbs ≤ 9 := by
  rw [Int.natAbs_tmod]
  have : (10 : Int).natAbs = 10 := rfl
  rw [this]; omega
theorem clamp16 {n : Nat} (h : n ≤ 16) : (if (16 : Int) < (if (0 : Int) > (n : Int) then (0 : Int) else (n : Int)) then (16 : Int) else (if (0 : Int) > (n : Int) then (0 : Int) else (n : Int))) = (n : Int) := by
  rw [if_neg (show ¬ (0 : Int) > (n : Int) by omega), if_neg (by omega)]
theorem filled_ok {r c : Nat} {v : List Int} (hr : r ≤ 16) (hc : c ≤ 16) : FnD prog 27 [vi r, vi c, vs (i8s v)] (eMo r c) (oM (table r c (fillG c v))) := by
  refine vc27_ok _ _ _ (R := OutM r c _) ?_
  unfold vc27
  simp only [i8s_length]
  rw [clamp16 hr, clamp16 hc]
  refine ⟨_, _, _, rnew_ok (by omega) (by omega), fun o t => ∃ i : Nat, t = (i : Int) ∧ i ≤ r ∧ o = om (table r c (gF (fillG c v) i 0)), fun _ t => ((r : Int) - t).toNat, ⟨0, rfl, by omega, gF_zero _⟩, ?_⟩
  rintro _ _ ⟨i, rfl, hi, rfl⟩
  refine ⟨fun h => ?_, fun h => outM ?_⟩
  · have hir : i < r := by simpa using h
    refine ⟨fun o t => ∃ j : Nat, t = (j : Int) ∧ j ≤ c ∧ o = om (table r c (gF (fillG c v) i j)), fun _ t => ((c : Int) - t).toNat, ⟨0, rfl, by omega, rfl⟩, ?_⟩
    rintro _ _ ⟨j, rfl, hj, rfl⟩
    have hprod : i * c ≤ 16 * 16 := Nat.mul_le_mul (by omega) hc
    have hw1 : IntKind.i64.wrap ((i : Int) * (c : Int)) = ((i * c : Nat) : Int) := by
      rw [← Int.natCast_mul]; exact w64 (by omega) (by omega)
    have hw2 : IntKind.i64.wrap (((i * c : Nat) : Int) + (j : Int)) = ((i * c + j : Nat) : Int) := by
      rw [← Int.natCast_add]; exact w64 (by omega) (by omega)
    have next : (∀ b, j ≤ b → b < c → fillG c v i b = 0) →
        (∃ i' : Nat, IntKind.i64.wrap ((i : Int) + 1) = (i' : Int) ∧ i' ≤ r ∧ om (table r c (gF (fillG c v) i j)) = om (table r c (gF (fillG c v) i' 0))) ∧ ((r : Int) - IntKind.i64.wrap ((i : Int) + 1)).toNat < ((r : Int) - (i : Int)).toNat := fun h0 => by
      rw [inc64 (by omega)]
      exact ⟨⟨i + 1, rfl, by omega, gF_next h0⟩, by omega⟩
    rw [hw1, hw2]
    refine ⟨fun h2 => ⟨fun h3 => ?_, fun h3 => next fun b hb _ => ?_⟩, fun h2 => next fun b hb hbc => ?_⟩
    · have hjc : j < c := by simpa using h2
      have hlt : i * c + j < v.length := by
        have h3 := of_decide_eq_true h3
        omega
      have hm := tmod10 (elr v (i * c + j))
      have hw3 : IntKind.i64.wrap ((elr v (i * c + j)).tmod 10) = (elr v (i * c + j)).tmod 10 := w64 (by omega) (by omega)
      refine ⟨elr v (i * c + j), decide (fillG c v i j < 0), lim (dz (fillG c v i j)), ⟨by omega, by simp [om_length, table]; omega⟩, ⟨by omega, by omega⟩, i8s_getN hlt, by decide, ?_, om_in hir hjc, ?_⟩
      · rw [hw3]; exact rof_ok _ (by omega) (by omega)
      rw [inc64 (by omega)]
      refine ⟨⟨j + 1, rfl, by omega, ?_⟩, by show ((c : Int) - ((j + 1 : Nat) : Int)).toNat < ((c : Int) - (j : Int)).toNat; omega⟩
      rw [Int.toNat_natCast, Int.toNat_natCast]
      exact gF_step hir hjc
    · have hlt : v.length ≤ i * c + j := by
        have h3 := of_decide_eq_false h3
        omega
      unfold fillG
      rw [elr_out (by omega)]; rfl
    · have hjc : c ≤ j := by simpa using h2
      omega
  · have hir : i = r := by have : r ≤ i := by simpa using h
                           omega
    subst hir
    exact gF_all
theorem filled_bd {r c : Nat} {v : List Int} : BdM 9 (table r c (fillG c v)) := table_bd fun _ _ _ _ => tmod10 _
theorem mod5 {x : Int} (h0 : 0 ≤ x) : ∃ n : Nat, IntKind.i64.wrap (x.tmod 5) = (n : Int) ∧ n ≤ 4 := by
  refine ⟨(x % 5).toNat, ?_, by omega⟩
  rw [Int.tmod_eq_emod_of_nonneg h0, w64 (by omega) (by omega)]; omega
def d3 (x0 x1 x2 x3 : Int) (a b c : List Int) : V := .e (.agg [.dat (.int .u8 x0), .dat (.int .u8 x1), .dat (.int .u8 x2), .dat (.int .u8 x3), .dat (.sl (i8s a)), .dat (.sl (i8s b)), .dat (.sl (i8s c))])
end Go.AM
/- The law of transposes, but for the fixed examples. -/
namespace Go.AM
open Go.Proofs.Tryz
theorem mmul_mx (r n c : Nat) (a b : List (List Int)) : Mx r c (mmul r n c a b) := table_mx _ _ _
theorem BdM.mono {K L : Nat} {m : List (List Int)} (h : BdM K m) (hl : K ≤ L) : BdM L m := fun r hr z hz => Nat.le_trans (h r hr z hz) hl
theorem Mx.cols {r c : Nat} {m : List (List Int)} (h : Mx r c m) (hc : c ≤ 4294967296) : ∀ x ∈ m, x.length ≤ 4294967296 := fun x hx => by rw [h.2 x hx]; exact hc
theorem same_yes {r c K : Nat} {a b : List (List Int)} (ha : Mx r c a) (ka : BdM K a) (kb : BdM K b) (h : a = b) (hr : r ≤ 4294967296) (hc : c ≤ 4294967296) (hK : K ≤ 1329227995784915872903807060280344576) : FnD prog 22 [eM r c a, eM r c b] (vb true) [] := by
  have := same_ok (r := (r : Int)) (c := (c : Int)) (r' := (r : Int)) (c' := (c : Int)) (ka.sz (Nat.le_trans hK (by decide))) (kb.sz (Nat.le_trans hK (by decide))) (by rw [ha.1]; exact hr) (ha.cols hc)
  rw [show decide ((r : Int) = r ∧ (c : Int) = c ∧ a = b) = true by simp [h]] at this
  exact this
end Go.AM
/- Sums of products, and matrices: the laws of the ring. -/
namespace Go.AM
open Go.Proofs.Tryz
def sm (h : Nat → Int) : Nat → Int
  | 0 => 0
  | n + 1 => sm h n + h n
end Go.AM
/- Row operations on matrices of integers, in plain Lean: products, inverses, bounds; how a list of them lies in memory. -/
namespace Go.AM
open Go.Proofs.Tryz
structure Opz where
  k : Nat
  i : Nat
  j : Nat
  z : Int
  deriving DecidableEq
def vO (n : Nat) (o : Opz) : Bool :=
  decide (o.i < n) && (if o.k = 2 then decide (o.j = 0) && decide (o.z = 0)
    else if o.k = 1 then decide (o.j < n) && decide (o.i ≠ o.j) && decide (o.z = 0)
    else decide (o.k = 3) && decide (o.j < n) && decide (o.i ≠ o.j))
def opF (o : Opz) (f : Nat → Nat → Int) (a b : Nat) : Int :=
  if o.k = 1 then (if a = o.i then f o.j b else if a = o.j then f o.i b else f a b)
  else if o.k = 2 then (if a = o.i then - f a b else f a b)
  else if a = o.i then f a b + o.z * f o.j b else f a b
def apO (r c : Nat) (o : Opz) (m : List (List Int)) : List (List Int) := table r c (opF o (el m))
def apL (r c : Nat) : List Opz → List (List Int) → List (List Int)
  | [], m => m
  | o :: l, m => apL r c l (apO r c o m)
theorem apL_append {r c : Nat} : ∀ (l l' : List Opz) (m : List (List Int)), apL r c (l ++ l') m = apL r c l' (apL r c l m)
  | [], _, _ => rfl
  | o :: l, l', m => by simp only [List.cons_append, apL]; exact apL_append l l' _
theorem apO_mx (r c : Nat) (o : Opz) (m : List (List Int)) : Mx r c (apO r c o m) := table_mx _ _ _
theorem apL_mx {r c : Nat} : ∀ (l : List Opz) {m : List (List Int)}, Mx r c m → Mx r c (apL r c l m)
  | [], _, h => h
  | _ :: l, _, _ => apL_mx l (apO_mx _ _ _ _)
theorem el_apO {r c : Nat} {o : Opz} {m : List (List Int)} {a b : Nat} (ha : a < r) (hb : b < c) : el (apO r c o m) a b = opF o (el m) a b := el_table ha hb
theorem vO_ok {n : Nat} {o : Opz} (h : vO n o = true) : o.i < n ∧ ((o.k = 2 ∧ o.j = 0 ∧ o.z = 0) ∨ (o.k = 1 ∧ o.j < n ∧ o.i ≠ o.j ∧ o.z = 0) ∨ (o.k = 3 ∧ o.j < n ∧ o.i ≠ o.j)) := by
  unfold vO at h
  simp only [Bool.and_eq_true, decide_eq_true_eq] at h
  refine ⟨h.1, ?_⟩
  have h2 := h.2
  split at h2
  · rename_i hk
    simp only [Bool.and_eq_true, decide_eq_true_eq] at h2
    exact .inl ⟨hk, h2⟩
  · split at h2
    · rename_i hk
      simp only [Bool.and_eq_true, decide_eq_true_eq] at h2
      exact .inr (.inl ⟨hk, h2.1.1, h2.1.2, h2.2⟩)
    · simp only [Bool.and_eq_true, decide_eq_true_eq] at h2
      exact .inr (.inr ⟨h2.1.1, h2.1.2, h2.2⟩)
theorem vO_j {n : Nat} {o : Opz} (h : vO n o = true) (h2 : o.k ≠ 2) : o.j < n := by
  rcases (vO_ok h).2 with h | h | h
  · exact absurd h.1 h2
  · exact h.2.1
  · exact h.2.1
def mat (n : Nat) (l : List Opz) : List (List Int) := apL n n l (table n n delta)
def inO (o : Opz) : Opz := { o with z := -o.z }
end Go.AM
/- From what a row's step is handed to what the machine reads: inputs of any form that is made of bools, integers, slices, structs and arrays. -/
namespace Go.AM
open Go.ChangeShapes Go.WideShapes Go.RowKit
inductive Sp where
  | b
  | i (k : IntKind)
  | sl (e : List Sp)
mutual
def DOK : Sp → D → Prop
  | .b, .bool _ => True
  | .i k, .int k' n => k' = k ∧ k.min ≤ n ∧ n ≤ k.max
  | .sl es, .sl l => l.length ≤ 9223372036854775807 ∧ ∀ x ∈ l, DOKL es x
  | _, _ => False
def DOKL : List Sp → List D → Prop
  | [], [] => True
  | s :: ss, d :: ds => DOK s d ∧ DOKL ss ds
  | _, _ => False
end
def exD : Sp → (D → Prop) → Prop
  | .b, K => ∃ b, K (.bool b)
  | .i k, K => ∃ n, (k.min ≤ n ∧ n ≤ k.max) ∧ K (.int k n)
  | .sl es, K => ∃ l, (l.length ≤ 9223372036854775807 ∧ ∀ x ∈ l, DOKL es x) ∧ K (.sl l)
def exDL : List Sp → (List D → Prop) → Prop
  | [], K => K []
  | s :: ss, K => exD s fun d => exDL ss fun ds => K (d :: ds)
theorem exD_of {s : Sp} {d : D} (h : DOK s d) {K : D → Prop} (hk : K d) : exD s K := by
  cases s <;> cases d <;> simp only [DOK] at h <;> first | exact h.elim | skip
  · exact ⟨_, hk⟩
  · obtain ⟨rfl, h1, h2⟩ := h; exact ⟨_, ⟨h1, h2⟩, hk⟩
  · exact ⟨_, h, hk⟩
theorem exDL_of : ∀ {ss : List Sp} {ds : List D}, DOKL ss ds → ∀ {K : List D → Prop}, K ds → exDL ss K
  | [], [], _, _, hk => hk
  | [], _ :: _, h, _, _ => by simp [DOKL] at h
  | _ :: _, [], h, _, _ => by simp [DOKL] at h
  | s :: ss, d :: ds, h, K, hk => by
    simp only [DOKL] at h
    exact exD_of h.1 (exDL_of h.2 hk)
theorem DOKL_append : ∀ {s1 s2 : List Sp} {d1 d2 : List D}, DOKL s1 d1 → DOKL s2 d2 → DOKL (s1 ++ s2) (d1 ++ d2)
  | [], _, [], _, _, h => h
  | [], _, _ :: _, _, h, _ => by simp [DOKL] at h
  | _ :: _, _, [], _, h, _ => by simp [DOKL] at h
  | s :: ss, _, d :: ds, _, h1, h2 => by
    simp only [DOKL] at h1
    simp only [List.cons_append, DOKL]
    exact ⟨h1.1, DOKL_append h1.2 h2⟩
theorem DOKL_length : ∀ {ss : List Sp} {ds : List D}, DOKL ss ds → ds.length = ss.length
  | [], [], _ => rfl
  | [], _ :: _, h => by simp [DOKL] at h
  | _ :: _, [], h => by simp [DOKL] at h
  | s :: ss, d :: ds, h => by simp only [DOKL] at h; simp [DOKL_length h.2]
theorem ints_of {k : IntKind} : ∀ {l : DL}, (∀ x ∈ l, DOKL [.i k] x) → ∃ zs : List Int, l = zs.map (fun n => [D.int k n]) ∧ ∀ z ∈ zs, k.min ≤ z ∧ z ≤ k.max
  | [], _ => ⟨[], rfl, fun _ h => by simp at h⟩
  | x :: l, h => by
    obtain ⟨zs, rfl, h2⟩ := ints_of (l := l) fun y hy => h y (by simp [hy])
    obtain ⟨n, h3, hx⟩ := exDL_of (h x (by simp)) (K := fun ds => x = ds) rfl
    exact ⟨n :: zs, by rw [hx]; rfl, fun z hz => by
      rcases List.mem_cons.1 hz with rfl | hz
      · exact h3
      · exact h2 z hz⟩
def shapeFs (sh : TypeId → Option (List Sp)) (P : Program) : List Field → Nat → Option (List Sp)
  | [], _ => some []
  | f :: fs, off =>
    match sh f.type with
    | some s => if f.offset == off && P.cellsOf f.type == s.length then (shapeFs sh P fs (off + s.length)).map (s ++ ·) else none
    | none => none
def shapeOf (P : Program) : Nat → TypeId → Option (List Sp)
  | 0, _ => none
  | n + 1, t =>
    match P.underlying t with
    | some .bool => some [.b]
    | some (.int k) => some [.i k]
    | some (.slice e) => match shapeOf P n e with
      | some es => if P.cellsOf e == es.length && !es.isEmpty then some [.sl es] else none
      | none => none
    | some (.struct fs) => match shapeFs (shapeOf P n) P fs.toList 0 with
      | some ss => if P.cellsOf t == ss.length then some ss else none
      | none => none
    | some (.array m e) => match shapeOf P n e with
      | some es => if P.cellsOf e == es.length && P.cellsOf t == m * es.length then some (List.replicate m es).flatten else none
      | none => none
    | _ => none
theorem cell_some' {w : World} {a : Addr} {v : Value} (h : w.cell? a = some v) : a.spot = none ∧ ∃ cs t fr, w.heap[a.block]? = some (.cells cs t fr) ∧ cs[a.off]? = some v := by
  unfold World.cell? at h
  split at h
  · rename_i cs t fr hb
    cases hs : a.spot with
    | none => rw [hs] at h; exact ⟨rfl, cs, t, fr, hb, by simpa using h⟩
    | some x => rw [hs] at h; simp at h
  · simp at h
def oldI (w : World) : Nat → Prop := fun b => b < w.heap.size
def RdL (w : World) (cs : List Value) (ds : List D) : Prop := cs.length = ds.length ∧ ∀ (i : Nat) v d, cs[i]? = some v → ds[i]? = some d → Reads w (oldI w) v d
theorem RdL.append {w : World} {c1 c2 : List Value} {d1 d2 : List D} (h1 : RdL w c1 d1) (h2 : RdL w c2 d2) : RdL w (c1 ++ c2) (d1 ++ d2) := by
  refine ⟨by simp [h1.1, h2.1], fun i v d hv hd => ?_⟩
  by_cases hi : i < c1.length
  · rw [List.getElem?_append_left hi] at hv
    rw [List.getElem?_append_left (h1.1 ▸ hi)] at hd
    exact h1.2 i v d hv hd
  · rw [List.getElem?_append_right (by omega)] at hv
    rw [List.getElem?_append_right (by have := h1.1; omega)] at hd
    exact h2.2 _ v d hv (h1.1 ▸ hd)
section
variable {H : Type} {enc : TypeId × Value → H} {P : Program} {w : World} {spare : Nat → Bool} {held : Bool}
theorem fields_read {sh : TypeId → Option (List Sp)} {n : Nat} (ih : ∀ t ss cs x, sh t = some ss → DataW.trod enc P w 0 spare held n t cs = some x → ∃ ds, DOKL ss ds ∧ RdL w cs ds) {cs : List Value} :
    ∀ (fs : List Field) (xs : List (DataW H × List MemPlace)) (off : Nat) (ss : List Sp), shapeFs sh P fs off = some ss → xs.length = fs.length →
      (∀ (i : Nat) (f : Field), fs[i]? = some f → DataW.trod enc P w 0 spare held n f.type ((cs.drop f.offset).take (P.cellsOf f.type)) = xs[i]?) → off + ss.length ≤ cs.length →
      ∃ ds, DOKL ss ds ∧ RdL w ((cs.drop off).take ss.length) ds
  | [], xs, off, ss, hs, _, _, _ => by
    simp only [shapeFs, Option.some.injEq] at hs; subst hs
    exact ⟨[], trivial, by simp [RdL]⟩
  | f :: fs, xs, off, ss, hs, hl, hx, hle => by
    simp only [shapeFs] at hs
    split at hs
    case h_2 => simp at hs
    rename_i s hsf
    split at hs
    case isFalse => simp at hs
    rename_i hc
    simp only [Bool.and_eq_true, beq_iff_eq] at hc
    simp only [Option.map_eq_some_iff] at hs
    obtain ⟨ss', hs', rfl⟩ := hs
    match xs, hl with
    | x :: xs, hl =>
      have h0 := hx 0 f rfl
      simp only [List.getElem?_cons_zero] at h0
      obtain ⟨d1, g1, g2⟩ := ih _ _ _ _ hsf h0
      rw [List.length_append] at hle
      obtain ⟨d2, g3, g4⟩ := fields_read ih fs xs (off + s.length) ss' hs' (by simpa using hl) (fun i f' hf => by simpa using hx (i + 1) f' (by simpa using hf)) (by omega)
      refine ⟨d1 ++ d2, DOKL_append g1 g3, ?_⟩
      rw [hc.1, hc.2] at g2
      have : (cs.drop off).take (s ++ ss').length = (cs.drop off).take s.length ++ (cs.drop (off + s.length)).take ss'.length := by
        rw [List.length_append, List.take_add, List.drop_drop]
      rw [this]
      exact g2.append g4
theorem array_read {n : Nat} {e : TypeId} {es : List Sp} (ih : ∀ cs x, DataW.trod enc P w 0 spare held n e cs = some x → ∃ ds, DOKL es ds ∧ RdL w cs ds) {cs : List Value} {xs : List (DataW H × List MemPlace)} :
    ∀ (k m : Nat), k + m ≤ xs.length → (∀ i, i < xs.length → DataW.trod enc P w 0 spare held n e ((cs.drop (i * es.length)).take es.length) = xs[i]?) → (k + m) * es.length ≤ cs.length →
      ∃ ds, DOKL (List.replicate k es).flatten ds ∧ RdL w ((cs.drop (m * es.length)).take (k * es.length)) ds
  | 0, m, _, _, _ => ⟨[], by simp [DOKL], by simp [RdL]⟩
  | k + 1, m, hk, hx, hle => by
    have h0 := hx m (by omega)
    rw [List.getElem?_eq_getElem (by omega)] at h0
    obtain ⟨d1, g1, g2⟩ := ih _ _ h0
    obtain ⟨d2, g3, g4⟩ := array_read ih k (m + 1) (by omega) hx (by rw [show k + (m + 1) = k + 1 + m by omega]; exact hle)
    refine ⟨d1 ++ d2, ?_, ?_⟩
    · rw [List.replicate_succ, List.flatten_cons]; exact DOKL_append g1 g3
    · have : (cs.drop (m * es.length)).take ((k + 1) * es.length) = (cs.drop (m * es.length)).take es.length ++ (cs.drop ((m + 1) * es.length)).take (k * es.length) := by
        rw [show (k + 1) * es.length = es.length + k * es.length by rw [Nat.add_mul]; omega, List.take_add, List.drop_drop, show m * es.length + es.length = (m + 1) * es.length by rw [Nat.add_mul]; omega]
      rw [this]
      exact g2.append g4
theorem shape_reads : ∀ (fuel n : Nat) (t : TypeId) (ss : List Sp) (cs : List Value) (x : DataW H × List MemPlace), shapeOf P n t = some ss → DataW.trod enc P w 0 spare held fuel t cs = some x →
    ∃ ds, DOKL ss ds ∧ RdL w cs ds := by
  intro fuel
  induction fuel with
  | zero => intro n t ss cs x _ h; simp [DataW.trod] at h
  | succ fuel ih =>
    intro n t ss cs x hs h
    cases n with
    | zero => simp [shapeOf] at hs
    | succ n =>
      simp only [shapeOf] at hs
      have one : ∀ {v : Value} {d : D} {s : Sp}, DOK s d → Reads w (oldI w) v d → ∃ ds, DOKL [s] ds ∧ RdL w [v] ds := fun {v d s} h1 h2 =>
        ⟨[d], ⟨h1, trivial⟩, rfl, fun i u e hu he => by
          match i, hu, he with
          | 0, hu, he => simp at hu he; subst hu; subst he; exact h2⟩
      split at hs
      · rename_i ht
        simp only [Option.some.injEq] at hs; subst hs
        obtain ⟨b, rfl, _⟩ := DataW.trod_bool ht h
        exact one (d := .bool b) trivial (.bool b)
      · rename_i k ht
        simp only [Option.some.injEq] at hs; subst hs
        obtain ⟨m, rfl, _, hw⟩ := DataW.trod_int ht h
        exact one (d := .int k m) ⟨rfl, by simpa [Lit.wf] using hw⟩ (.int k m)
      · rename_i e ht
        split at hs
        case h_2 => simp at hs
        rename_i es hes
        split at hs
        case isFalse => simp at hs
        rename_i hc
        simp only [Option.some.injEq] at hs; subst hs
        simp only [Bool.and_eq_true, beq_iff_eq, Bool.not_eq_true', List.isEmpty_eq_false_iff] at hc
        obtain ⟨hce, hne⟩ := hc
        have hpos : 0 < es.length := List.length_pos_iff.2 hne
        rcases DataW.trod_slice ht h with ⟨rfl, _⟩ | ⟨a, len, cap, elems, rest, m, hm, rfl, _, _, hl, hcap, hel, heach, _, _⟩
        · exact one (d := .sl []) ⟨by simp, fun _ h => by simp at h⟩ (.slnil none 0)
        simp only [Nat.add_right_cancel_iff] at hm; subst hm
        have each : ∀ i, i < len → ∃ ds, DOKL es ds ∧ ∀ j d, ds[j]? = some d → ∃ v, w.cell? ((a.add (i * es.length)).add j) = some v ∧ Reads w (oldI w) v d := fun i hi => by
          have h1 := heach i hi
          rw [List.getElem?_eq_getElem (by omega), Option.bind_eq_some_iff] at h1
          obtain ⟨cs', hcs, hy⟩ := h1
          obtain ⟨ds, g1, g2, g3⟩ := ih n e es cs' _ hes hy
          obtain ⟨_, k2, k3⟩ := World.cells?_some hcs
          refine ⟨ds, g1, fun j d hd => ?_⟩
          have hj : j < cs'.length := by
            rw [g2]
            rcases Nat.lt_or_ge j ds.length with h | h
            · exact h
            · rw [List.getElem?_eq_none h] at hd; simp at hd
          have := k3 j (by omega)
          rw [List.getElem?_eq_getElem hj, hce] at this
          exact ⟨_, this, g3 j _ d (List.getElem?_eq_getElem hj) hd⟩
        by_cases h0 : len = 0
        · subst h0; exact one (d := .sl []) ⟨by simp, fun _ h => by simp at h⟩ (.slnil _ _)
        have hch : ∃ f : Nat → List D, ∀ i, i < len → DOKL es (f i) ∧ ∀ j d, (f i)[j]? = some d → ∃ v, w.cell? ((a.add (i * es.length)).add j) = some v ∧ Reads w (oldI w) v d :=
          ⟨fun i => if hi : i < len then (each i hi).choose else [], fun i hi => by
            simp only [dif_pos hi]; exact (each i hi).choose_spec⟩
        obtain ⟨f, hf⟩ := hch
        have hcell : ∀ i j d, i < len → (f i)[j]? = some d → ∃ b off cs ty fr, a = ⟨b, off, none⟩ ∧ w.heap[b]? = some (.cells cs ty fr) ∧ ∃ v, cs[off + i * es.length + j]? = some v ∧ Reads w (oldI w) v d := fun i j d hi hd => by
          obtain ⟨v, hv, hr⟩ := (hf i hi).2 j d hd
          have h00 : ∃ v, w.cell? a = some v := by
            have hl0 := DOKL_length (hf 0 (by omega)).1
            obtain ⟨v, hv, _⟩ := (hf 0 (by omega)).2 0 ((f 0)[0]'(by omega)) (List.getElem?_eq_getElem (by omega))
            exact ⟨v, by simpa [Addr.add] using hv⟩
          obtain ⟨v0, hv0⟩ := h00
          obtain ⟨hsp, cs, ty, fr, hb, _⟩ := cell_some' hv0
          obtain ⟨b, off, spot⟩ := a
          simp only at hsp hb
          subst hsp
          refine ⟨b, off, cs, ty, fr, rfl, hb, v, ?_, hr⟩
          rw [show ((Addr.mk b off none).add (i * es.length)).add j = ⟨b, off + i * es.length + j, none⟩ by
            unfold Addr.add; by_cases h1 : i * es.length = 0 <;> by_cases h2 : j = 0 <;> simp [h1, h2]] at hv
          obtain ⟨_, cs', ty', fr', hb', hc'⟩ := cell_some' hv
          simp only at hb' hc'
          rw [hb] at hb'
          simp only [Option.some.injEq, Obj.cells.injEq] at hb'
          rw [hb'.1]; exact hc'
        have h0d := DOKL_length (hf 0 (by omega)).1
        obtain ⟨b, off, cs, ty, fr, ha, hb, _⟩ := hcell 0 0 ((f 0)[0]'(by omega)) (by omega) (List.getElem?_eq_getElem (by omega))
        subst ha
        have hlt : b < w.heap.size := by
          rcases Nat.lt_or_ge b w.heap.size with h | h
          · exact h
          · rw [Array.getElem?_eq_none h] at hb; simp at hb
        have hat : ∀ i j d, at2 ((List.range len).map f) i j = some d → i < len ∧ (f i)[j]? = some d := fun i j d hd => by
          simp only [at2, List.getElem?_map, Option.bind_eq_some_iff, Option.map_eq_some_iff] at hd
          obtain ⟨y, ⟨k, hk, rfl⟩, hd⟩ := hd
          have hkl : k = i ∧ i < len := by
            rcases Nat.lt_or_ge i len with h | h
            · rw [List.getElem?_range h, Option.some.injEq] at hk; exact ⟨hk.symm, h⟩
            · rw [List.getElem?_eq_none (by simpa using h)] at hk; simp at hk
          obtain ⟨rfl, hil⟩ := hkl
          exact ⟨hil, hd⟩
        have hval : ∀ i j d, i < len → (f i)[j]? = some d → ∃ v, cs[off + i * es.length + j]? = some v ∧ Reads w (oldI w) v d := fun i j d hi hd => by
          obtain ⟨b', off', cs', ty', fr', ha', hb', v, hv, hr⟩ := hcell i j d hi hd
          simp only [Addr.mk.injEq] at ha'
          obtain ⟨rfl, rfl, _⟩ := ha'
          rw [hb] at hb'
          simp only [Option.some.injEq, Obj.cells.injEq] at hb'
          exact ⟨v, by rw [hb'.1]; exact hv, hr⟩
        have hlen : ((List.range len).map f).length = len := by simp
        refine one (d := .sl ((List.range len).map f)) ⟨by rw [hlen]; unfold maxLen at hcap; omega, fun y hy => ?_⟩ ?_
        · simp only [List.mem_map, List.mem_range] at hy
          obtain ⟨i, hi, rfl⟩ := hy
          exact (hf i hi).1
        · have := Reads.sl (w := w) (I := oldI w) (b := b) (off := off) (cap := cap) (s := es.length) (cs := cs) (t := ty) (fr := fr) ((List.range len).map f) (fun i j => (cs[off + i * es.length + j]?).getD undef) hlt hb (fun y hy => by
            simp only [List.mem_map, List.mem_range] at hy
            obtain ⟨i, hi, rfl⟩ := hy
            exact DOKL_length (hf i hi).1) (by rw [hlen]; exact hl) (fun i j d hd => by
              obtain ⟨hi, hd'⟩ := hat i j d hd
              obtain ⟨v, hv, _⟩ := hval i j d hi hd'
              rw [hv]; rfl) (fun i j d hd => by
              obtain ⟨hi, hd'⟩ := hat i j d hd
              obtain ⟨v, hv, hr⟩ := hval i j d hi hd'
              rw [hv]; exact hr)
          rw [hlen] at this; exact this
      · rename_i fs ht
        split at hs
        case h_2 => simp at hs
        rename_i ss' hss
        split at hs
        case isFalse => simp at hs
        rename_i hc
        simp only [Option.some.injEq] at hs; subst hs
        simp only [beq_iff_eq] at hc
        obtain ⟨xs, m, hm, _, hl, hxl, hf⟩ := DataW.trod_struct ht h
        simp only [Nat.add_right_cancel_iff] at hm; subst hm
        obtain ⟨ds, g1, g2⟩ := fields_read (fun t ss cs x => ih n t ss cs x) (cs := cs) fs.toList xs 0 ss' hss (by simpa using hxl) (fun i f hi => hf i f (by simpa using hi)) (by omega)
        rw [List.drop_zero, ← hc, ← hl, List.take_length] at g2
        exact ⟨ds, g1, g2⟩
      · rename_i m e ht
        split at hs
        case h_2 => simp at hs
        rename_i es hes
        split at hs
        case isFalse => simp at hs
        rename_i hc
        simp only [Option.some.injEq] at hs; subst hs
        simp only [Bool.and_eq_true, beq_iff_eq] at hc
        obtain ⟨xs, q, hq, _, hl, hxl, hf⟩ := DataW.trod_array ht h
        simp only [Nat.add_right_cancel_iff] at hq; subst hq
        obtain ⟨ds, g1, g2⟩ := array_read (fun cs x => ih n e es cs x hes) (cs := cs) (xs := xs) m 0 (by omega) (fun i hi => by have := hf i (by omega); rwa [hc.1] at this) (by rw [Nat.add_zero, ← hc.2, hl]; exact Nat.le_refl _)
        rw [Nat.zero_mul, List.drop_zero, ← hc.2, ← hl, List.take_length] at g2
        exact ⟨ds, g1, g2⟩
      · simp at hs
def aggT (P : Program) (t : TypeId) : Bool :=
  match P.underlying t with
  | some (.struct _) | some (.array _ _) => true
  | _ => false
def argOf (b : Bool) (ds : List D) : V := bif b then .e (.agg (ds.map .dat)) else .e (.sc (.dat (ds.headD default)))
theorem open_arg {n : Nat} {t : TypeId} {b : Bool} {ss : List Sp} (hs : shapeOf P n t = some ss) (ha : aggT P t = b) (h1 : ss.length = 1 ∨ b = true) {base : Nat} {v : Value} (hok : Value.okWide P w .any base t v) {d : DataW H} {p : List MemPlace} (h : DataW.Trod enc P w 0 spare held t v d p) :
    exDL ss fun ds => RelV w (oldI w) [] v (argOf b ds) := by
  obtain ⟨fuel, hf⟩ := h
  obtain ⟨ds, g1, g2, g3⟩ := shape_reads fuel n t ss _ _ hs hf
  refine exDL_of g1 ?_
  unfold aggT at ha
  have agg : ∀ {cs : Array Value}, v = .agg cs → b = true → RelV w (oldI w) [] v (argOf b ds) := fun {cs} hv hb => by
    subst hv; subst hb
    refine ⟨cs, rfl, by simpa [Value.cells] using g2, fun i u s hu hs => ?_⟩
    simp only [List.getElem?_map, Option.map_eq_some_iff] at hs
    obtain ⟨d, hd, rfl⟩ := hs
    exact g3 i u d (by simpa [Value.cells] using hu) hd
  split at ha
  · rename_i fs ht
    obtain ⟨cs, hv, _⟩ := okWide_struct ht hok
    exact agg hv ha.symm
  · rename_i m e ht
    unfold Value.okWide at hok
    rw [ht] at hok
    obtain ⟨cs, hv, _⟩ := hok
    exact agg hv ha.symm
  · rename_i hn1 hn2
    subst ha
    have hl : ds.length = 1 := by rw [DOKL_length g1]; rcases h1 with h | h; exact h; simp at h
    have hv : v.cells.toList = [v] := by
      cases n with
      | zero => simp [shapeOf] at hs
      | succ n =>
        simp only [shapeOf] at hs
        split at hs
        · rename_i ht; obtain ⟨_, rfl⟩ := okWide_bool ht hok; rfl
        · rename_i ht; obtain ⟨_, rfl⟩ := okWide_int ht hok; rfl
        · rename_i ht; obtain ⟨_, _, _, rfl⟩ := okWide_slice ht hok; rfl
        · rename_i ht; exact (hn1 _ ht).elim
        · rename_i ht; exact (hn2 _ _ ht).elim
        · simp at hs
    match ds, hl with
    | [d], _ => exact g3 0 v d (by rw [hv]; rfl) rfl
end
theorem sim_old (w : World) : SimH (oldI w) [] [] w := SimH.nil fun _ h => h
theorem law_end {P : Program} {k : FuncId} {args : List V} (hf : FnD P k args (.e (.sc (.dat (.bool true)))) []) {w : World} {vs : List Value} (hr : RelVL w (oldI w) [] vs args) :
    Calls P k vs.toArray w fun e w' => e = .returned (.bool true) ∧ Below w.heap.size w w' := by
  refine (hf.2 (oldI w) [] w vs (sim_old w) hr).mono ?_
  rintro e w' ⟨v, r, h', I', M', he, ⟨rfl, rfl⟩, hrel, _, hext, _, _⟩
  have hv := relV_bool hrel
  subst hv
  refine ⟨he, hext.os, hext.tape, hext.output, hext.size, fun k hk => hext.heap k hk ?_⟩
  rintro ⟨o, ho⟩
  simp [fpAt] at ho
theorem relVL_nil (w : World) (I : Nat → Prop) (M : Mem) : RelVL w I M [] [] := ⟨rfl, fun i v x h => by simp at h⟩
theorem relVL_cons {w : World} {I : Nat → Prop} {M : Mem} {v : Value} {x : V} {vs : List Value} {xs : List V} (h : RelV w I M v x) (t : RelVL w I M vs xs) : RelVL w I M (v :: vs) (x :: xs) :=
  ⟨by simp [t.1], fun i u y hu hy => by
    match i, hu, hy with
    | 0, hu, hy => simp at hu hy; subst hu; subst hy; exact h
    | i + 1, hu, hy => exact t.2 i u y (by simpa using hu) (by simpa using hy)⟩
end Go.AM
/- What the functions of package matrix' reference answer: sums, multiples, products, blocks, picking. -/
namespace Go.AM
open Go.Proofs.Tryz
theorem om_len {r c : Nat} {g : Nat → Nat → Int} : (om (table r c g)).length = r := by simp [om_length, table]
theorem at2_om {r c : Nat} {g : Nat → Nat → Int} {i j : Nat} (hi : i < r) (hj : j < c) : at2 (om (table r c g)) i j = some (cI (g i j)) := by
  simp [at2, om, table, hi, row, tableR, hj]
theorem sz_le {z : Int} {K : Nat} (h : z.natAbs ≤ K) (hK : K ≤ 1329227995784915872903807060280344576) : Sz z := sz_of (Nat.le_trans h (Nat.le_trans hK (by decide)))
theorem outME {r c e : Int} {m : List (List Int)} {o : DL} (h : o = rows m) : Out (eME r c m e) (V.tup [(E.agg [S.dat (D.int .i64 r), S.dat (D.int .i64 c), S.dat (D.sl o)]), E.sc (S.dat (D.int .i64 e))]) [] := by subst h; exact ⟨rfl, rfl⟩
def gM (f _g : Nat → Nat → Int) (i j : Nat) (v : Int) : Nat → Nat → Int := fun a b => if a = i ∧ b = j then v else gF f i j a b
theorem gM_start {r c : Nat} {f : Nat → Nat → Int} {i j : Nat} : om (table r c (gF f i j)) = om (table r c (gM f f i j 0)) := by
  congr 1
  refine table_congr fun a b _ _ => ?_
  unfold gM
  by_cases h : a = i ∧ b = j
  · rw [if_pos h]; unfold gF; rw [if_neg (by omega)]
  · rw [if_neg h]
theorem gM_step {r c : Nat} {f : Nat → Nat → Int} {i j : Nat} {v w : Int} (hi : i < r) (hj : j < c) : (om (table r c (gM f f i j v))).modify i (fun q => q.set j (cI w)) = om (table r c (gM f f i j w)) := by
  refine Eq.trans (om_set hi hj) ?_
  congr 1
  refine table_congr fun a b _ _ => ?_
  unfold gM
  by_cases h : a = i ∧ b = j
  · rw [if_pos h, if_pos h]
  · rw [if_neg h, if_neg h, if_neg h]
theorem gM_end {r c : Nat} {f : Nat → Nat → Int} {i j : Nat} : om (table r c (gM f f i j (f i j))) = om (table r c (gF f i (j + 1))) := by
  congr 1
  refine table_congr fun a b _ _ => ?_
  unfold gM gF
  by_cases h : a = i ∧ b = j
  · rw [if_pos h, if_pos (by omega), h.1, h.2]
  · rw [if_neg h]
    by_cases h2 : a < i ∨ (a = i ∧ b < j)
    · rw [if_pos h2, if_pos (by omega)]
    · rw [if_neg h2, if_neg (by omega)]
end Go.AM
/- The law of the ring of matrices. -/
namespace Go.AM
open Go.Proofs.Tryz
theorem i8s_of {l : DL} (h : l.length ≤ 9223372036854775807 ∧ ∀ x ∈ l, DOKL [.i .i8] x) : ∃ zs : List Int, l = i8s zs ∧ ∀ z ∈ zs, -128 ≤ z ∧ z ≤ 127 := by
  obtain ⟨zs, h1, h2⟩ := ints_of h.2
  exact ⟨zs, h1, h2⟩
end Go.AM
/- What the functions of package matrix, and of its reference, answer: comparing, picking, blocks of the reference. -/
namespace Go.AM
open Go.Proofs.Tryz
theorem cmp_zero (x y : Int) : (cmpI x y == 0) = decide (x = y) := by
  unfold cmpI
  by_cases h1 : x < y
  · simp [h1]; omega
  · by_cases h2 : y < x
    · simp [h1, h2]; omega
    · simp [h1, h2]; omega
theorem same118_ok {x y : Int} (hx : Sz x) (hy : Sz y) : FnD prog 110 [eI x, eI y] (vb (decide (x = y))) [] := by
  refine vc110_ok _ _ _ _ (R := Out _) ?_
  unfold vc110
  exact ⟨_, cmp_ok hx hy, outb (cmp_zero x y)⟩
theorem eqRow_ok {a b : List Int} (ha : SzR a) (hb : SzR b) (hl : a.length ≤ 4294967296) : FnD prog 109 [vs (row a), vs (row b), .e (.sc (.dat (.fn (.func 110) ([] : List D))))] (vb (decide (a = b))) [] := by
  refine vc109_ok _ _ _ _ (R := Out _) ?_
  unfold vc109
  simp only [row_length]
  refine ⟨fun h => outb ?_, fun h => ?_⟩
  · have h : ¬ ((a.length : Int) = (b.length : Int)) := by simpa using h
    rw [eq_comm, decide_eq_false_iff_not]
    intro e; subst e; exact h rfl
  · have hlen : a.length = b.length := by
      have : (a.length : Int) = (b.length : Int) := by simpa using h
      omega
    refine ⟨fun t => ∃ i : Nat, t = (i : Int) ∧ i ≤ a.length ∧ ∀ k, k < i → elr a k = elr b k, fun t => ((a.length : Int) - t).toNat, ⟨0, rfl, by omega, fun k hk => by omega⟩, ?_⟩
    rintro _ ⟨i, rfl, hi, hinv⟩
    refine ⟨fun h2 => ?_, fun h2 => outb ?_⟩
    · have hia : i < a.length := by simpa using h2
      have hib : i < b.length := by omega
      refine ⟨_, _, ⟨by omega, by omega⟩, row_getN hia, _, _, ⟨by omega, by omega⟩, row_getN hib, decide (elr a i = elr b i), same118_ok (ha _ (elr_mem hia)) (hb _ (elr_mem hib)), fun h3 => outb ?_, fun h3 => ?_⟩
      · rw [eq_comm, decide_eq_false_iff_not]
        intro e; subst e; simp at h3
      · have he : elr a i = elr b i := by simpa using h3
        rw [inc64 (by omega)]
        refine ⟨⟨i + 1, rfl, by omega, fun k hk => ?_⟩, by show ((a.length : Int) - ((i + 1 : Nat) : Int)).toNat < ((a.length : Int) - (i : Int)).toNat; omega⟩
        by_cases hki : k = i
        · subst hki; exact he
        · exact hinv k (by omega)
    · have hia : i = a.length := by have : a.length ≤ i := by simpa using h2
                                    omega
      have : a = b := list_ext hlen fun k hk => hinv k (by omega)
      simp [this]
theorem eqRows_ok {a b : List (List Int)} (ha : SzM a) (hb : SzM b) (hl : a.length ≤ 4294967296) (hc : ∀ x ∈ a, x.length ≤ 4294967296) :
    FnD prog 107 [vs (rows a), vs (rows b), .e (.sc (.dat (.fn (.func 108) ([] : List D))))] (vb (decide (a = b))) [] := by
  refine vc107_ok _ _ _ _ (R := Out _) ?_
  unfold vc107
  simp only [rows_length]
  refine ⟨fun h => outb ?_, fun h => ?_⟩
  · have h : ¬ ((a.length : Int) = (b.length : Int)) := by simpa using h
    rw [eq_comm, decide_eq_false_iff_not]
    intro e; subst e; exact h rfl
  · have hlen : a.length = b.length := by
      have : (a.length : Int) = (b.length : Int) := by simpa using h
      omega
    refine ⟨fun t => ∃ i : Nat, t = (i : Int) ∧ i ≤ a.length ∧ ∀ k, k < i → a.getD k [] = b.getD k [], fun t => ((a.length : Int) - t).toNat, ⟨0, rfl, by omega, fun k hk => by omega⟩, ?_⟩
    rintro _ ⟨i, rfl, hi, hinv⟩
    refine ⟨fun h4 => ?_, fun h4 => outb ?_⟩
    · have hia : i < a.length := by simpa using h4
      have hib : i < b.length := by omega
      have e116 : FnD prog 108 [vs (row (a.getD i [])), vs (row (b.getD i []))] (vb (decide (a.getD i [] = b.getD i []))) [] := by
        refine vc108_ok _ _ (R := Out _) ?_
        unfold vc108
        exact ⟨_, eqRow_ok (ha _ (getD_mem hia)) (hb _ (getD_mem hib)) (hc _ (getD_mem hia)), rfl, rfl⟩
      refine ⟨_, ⟨by omega, by omega⟩, rows_getN hia, _, ⟨by omega, by omega⟩, rows_getN hib, decide (a.getD i [] = b.getD i []), e116, fun h5 => outb ?_, fun h5 => ?_⟩
      · rw [eq_comm, decide_eq_false_iff_not]
        rintro e; subst e; simp at h5
      · have he : a.getD i [] = b.getD i [] := by simpa using h5
        rw [inc64 (by omega)]
        refine ⟨⟨i + 1, rfl, by omega, fun k hk => ?_⟩, by show ((a.length : Int) - ((i + 1 : Nat) : Int)).toNat < ((a.length : Int) - (i : Int)).toNat; omega⟩
        by_cases hki : k = i
        · subst hki; exact he
        · exact hinv k (by omega)
    · have hia : i = a.length := by have : a.length ≤ i := by simpa using h4
                                    omega
      have : a = b := lists_ext hlen fun k hk => hinv k (by omega)
      simp [this]
theorem equal_ok {r c r' c' : Int} {a b : List (List Int)} (ha : SzM a) (hb : SzM b) (hl : a.length ≤ 4294967296) (hc : ∀ x ∈ a, x.length ≤ 4294967296) :
    FnD prog 80 [eM r c a, eM r' c' b] (vb (decide (r = r' ∧ c = c' ∧ a = b))) [] := by
  refine vc80_ok _ _ _ _ _ _ (R := Out _) ?_
  unfold vc80
  refine ⟨_, _, _, _, size_ok r c a, size_ok r' c' b, fun h => ⟨_, eqRows_ok ha hb hl hc, outb ?_⟩, fun h => outb ?_⟩
  · have h : r = r' ∧ c = c' := by simpa using h
    simp [h.1, h.2]
  · rw [eq_comm, decide_eq_false_iff_not]
    rintro ⟨rfl, rfl, _⟩
    simp at h
theorem rawmade_ok {x y : Int} (v : List Int) (hx : 0 ≤ x) (hy : 0 ≤ y) : ∃ r c : Nat, r ≤ 4 ∧ c ≤ 4 ∧
    FnD prog 9 [.e (.agg [.dat (.int .u8 x), .dat (.int .u8 y), .dat (.sl (i8s v))])] (eMo r c) (oM (table r c (fillG c v))) := by
  obtain ⟨r, e0, b0⟩ := mod5 hx
  obtain ⟨c, e1, b1⟩ := mod5 hy
  refine ⟨r, c, b0, b1, ?_⟩
  refine vc9_ok _ _ _ (R := OutM r c _) ?_
  unfold vc9
  rw [e0, e1]
  exact ⟨_, _, _, by decide, filled_ok (by omega) (by omega), outM rfl⟩
end Go.AM
/- oplog.Apply: the operations on a matrix of one's own. -/
namespace Go.AM
open Go.Proofs.Tryz
def rF (o : Opz) (f : Nat → Nat → Int) (t : Nat) (a b : Nat) : Int := if a = o.i ∧ b < t then opF o f a b else f a b
theorem rF_zero {r c : Nat} {o : Opz} {m : List (List Int)} (hm : Mx r c m) : om m = om (table r c (rF o (el m) 0)) := by
  congr 1
  refine Eq.trans (mx_table hm) (table_congr fun a b _ _ => ?_)
  simp [rF]
theorem rF_step {r c : Nat} {o : Opz} {f : Nat → Nat → Int} {t : Nat} (hi : o.i < r) (ht : t < c) : (om (table r c (rF o f t))).modify o.i (fun q => q.set t (cI (opF o f o.i t))) = om (table r c (rF o f (t + 1))) := by
  refine Eq.trans (om_set hi ht) ?_
  congr 1
  refine table_congr fun a b _ _ => ?_
  unfold rF
  by_cases h1 : a = o.i ∧ b = t
  · rw [if_pos h1, if_pos (by omega), h1.1, h1.2]
  · rw [if_neg h1]
    by_cases h2 : a = o.i ∧ b < t
    · rw [if_pos h2, if_pos (by omega)]
    · rw [if_neg h2, if_neg (by omega)]
theorem rF_all {r c : Nat} {o : Opz} {m : List (List Int)} (hk : o.k ≠ 1) : om (table r c (rF o (el m) c)) = om (apO r c o m) := by
  unfold apO
  congr 1
  refine table_congr fun a b _ hb => ?_
  unfold rF
  by_cases h : a = o.i
  · rw [if_pos ⟨h, hb⟩]
  · rw [if_neg (by omega)]
    unfold opF
    simp [hk, h]
end Go.AM
/- oplog.Valid, Apply, Undo, Matrix, Invert. -/
namespace Go.AM
open Go.Proofs.Tryz
theorem natEq (a b : Nat) : ((a : Int) == (b : Int)) = decide (a = b) := by
  by_cases h : a = b
  · simp [h]
  · have h1 : (a : Int) ≠ b := by omega
    simp [h, h1]
end Go.AM
/- torsionref18.Made: a list of operations out of a description. -/
namespace Go.AM
open Go.Proofs.Tryz
def mvZ (n : Nat) (x0 x1 x2 x3 : Int) : Opz :=
  { k := 1 + (x0 % 3).toNat, i := (x1 % n).toNat, j := if (x0 % 3).toNat = 1 then 0 else (x2 % n).toNat, z := if (x0 % 3).toNat = 2 then x3 else 0 }
def mvOf (n : Nat) : List D → Option Opz
  | [.int _ x0, .int _ x1, .int _ x2, .int _ x3] => if (mvZ n x0 x1 x2 x3).k = 2 ∨ (mvZ n x0 x1 x2 x3).i ≠ (mvZ n x0 x1 x2 x3).j then some (mvZ n x0 x1 x2 x3) else none
  | _ => none
def madeT (n : Nat) (l : DL) (t : Nat) : List Opz := (l.take t).filterMap (mvOf n)
def made (n : Nat) (l : DL) (m : Nat) : List Opz := if n = 0 then [] else madeT n l (min l.length m)
end Go.AM
/- What functions of the program come to: group Oe. Printed by vc.py. -/
set_option maxRecDepth 100000
set_option linter.unusedVariables false
namespace Go.AM
open Go.Proofs.Tryz
def vc50 (a0 : Bool) (a1 : DL) (b0 : Bool) (b1 : DL) (R : V → Heap → Prop) : Prop :=
 ∃ (r0 : Bool) (r1 : DL) (r01 : Bool) (r11 : DL),
 (FnD prog 56 [vD (dL a1), vD (dB a0)] (vA [sD (dB r0), sD (dL r1)]) []) ∧
 (FnD prog 56 [vD (dL b1), vD (dB b0)] (vA [sD (dB r01), sD (dL r11)]) []) ∧
 (∃ (r : Int),
 (FnD prog 41 [vA [sD (dB r01), sD (dL r11)]] (vD (dI r)) []) ∧
 (((r == (0 : Int)) = true →
 R (V.tup [E.agg [sD (dB false), sD (dL ([] : DL))], E.agg [sD (dB false), sD (dL ([] : DL))], eD (dI (3 : Int))]) []) ∧
 ((r == (0 : Int)) = false →
 ∃ (r02 : Bool) (r12 : DL) (r03 : Bool) (r13 : DL),
 (FnD prog 89 [vD (dL r1), vD (dL r11)] (V.tup [E.agg [sD (dB r02), sD (dL r12)], E.agg [sD (dB r03), sD (dL r13)]]) []) ∧
 ((r0 = true →
 ∃ (r2 : Int),
 (FnD prog 41 [vA [sD (dB r03), sD (dL r13)]] (vD (dI r2)) []) ∧
 ((decide (r2 > (0 : Int)) = true →
 ∃ (r04 : Bool) (r14 : DL) (r05 : Bool) (r15 : DL),
 (FnD prog 25 [vD (dI (1 : Int))] (vA [sD (dB r04), sD (dL r14)]) []) ∧
 (FnD prog 24 [vA [sD (dB r02), sD (dL r12)], vA [sD (dB r04), sD (dL r14)]] (vA [sD (dB r05), sD (dL r15)]) []) ∧
 (∃ (r06 : Bool) (r16 : DL) (r07 : Bool) (r17 : DL),
 (FnD prog 56 [vD (dL r11), vD (dB false)] (vA [sD (dB r06), sD (dL r16)]) []) ∧
 (FnD prog 90 [vA [sD (dB r06), sD (dL r16)], vA [sD (dB r03), sD (dL r13)]] (vA [sD (dB r07), sD (dL r17)]) []) ∧
 (((!(r0 == r01)) = true →
 ∃ (r08 : Bool) (r18 : DL),
 (FnD prog 52 [vA [sD (dB r05), sD (dL r15)]] (vA [sD (dB r08), sD (dL r18)]) []) ∧
 (R (V.tup [E.agg [sD (dB r08), sD (dL r18)], E.agg [sD (dB r07), sD (dL r17)], eD (dI (0 : Int))]) [])) ∧
 ((!(r0 == r01)) = false →
 R (V.tup [E.agg [sD (dB r05), sD (dL r15)], E.agg [sD (dB r07), sD (dL r17)], eD (dI (0 : Int))]) [])))) ∧
 (decide (r2 > (0 : Int)) = false →
 ((!(r0 == r01)) = true →
 ∃ (r09 : Bool) (r19 : DL),
 (FnD prog 52 [vA [sD (dB r02), sD (dL r12)]] (vA [sD (dB r09), sD (dL r19)]) []) ∧
 (R (V.tup [E.agg [sD (dB r09), sD (dL r19)], E.agg [sD (dB r03), sD (dL r13)], eD (dI (0 : Int))]) [])) ∧
 ((!(r0 == r01)) = false →
 R (V.tup [E.agg [sD (dB r02), sD (dL r12)], E.agg [sD (dB r03), sD (dL r13)], eD (dI (0 : Int))]) [])))) ∧
 (r0 = false →
 ((!(r0 == r01)) = true →
 ∃ (r010 : Bool) (r110 : DL),
 (FnD prog 52 [vA [sD (dB r02), sD (dL r12)]] (vA [sD (dB r010), sD (dL r110)]) []) ∧
 (R (V.tup [E.agg [sD (dB r010), sD (dL r110)], E.agg [sD (dB r03), sD (dL r13)], eD (dI (0 : Int))]) [])) ∧
 ((!(r0 == r01)) = false →
 R (V.tup [E.agg [sD (dB r02), sD (dL r12)], E.agg [sD (dB r03), sD (dL r13)], eD (dI (0 : Int))]) []))))))
theorem vc50_ok (a0 : Bool) (a1 : DL) (b0 : Bool) (b1 : DL) {R : V → Heap → Prop} (h : vc50 a0 a1 b0 b1 R) : FnG prog 50 [vA [sD (dB a0), sD (dL a1)], vA [sD (dB b0), sD (dL b1)]] [] R :=
  FnG.vcg hT func50 ntmps50 (.reg 4 [(0, Or.none, 0, 1), (1, Or.none, 1, 1), (2, Or.none, 2, 1), (3, Or.none, 3, 1)] [2, 3, 4, 5] [0, 1, 2, 3] [] <| .exb fun r0 => .exl fun r1 => .exb fun r01 => .exl fun r11 => .drw 0 [(4, (Or.call (vA [sD (dB r0), sD (dL r1)]) [] [], 0, 0), []), (9, (Or.call (vA [sD (dB r01), sD (dL r11)]) [] [], 0, 0), []), (10, (Or.none, 0, 0), [0]), (11, (Or.none, 0, 0), [1])] [2, 3, 4, 5] [0, 1, 2, 3] [] <| .ex fun r => .reg 0 [(1, Or.call (vD (dI r)) [] [], 0, 0)] [2, 3, 4, 5, 21] [0, 1, 2, 3] [] <| .c2 (.r1 [4, 5, 6] [2, 3] <| .nrm [4, 5, 6] [0, 1] <| .ret []) (.exb fun r02 => .exl fun r12 => .exb fun r03 => .exl fun r13 => .reg 2 [(4, Or.call (V.tup [E.agg [sD (dB r02), sD (dL r12)], E.agg [sD (dB r03), sD (dL r13)]]) [] [], 0, 0), (8, Or.none, 4, 1), (9, Or.none, 5, 1)] [2, 3, 4, 5, 7, 8] [0, 1, 2, 3, 4, 5] [] <| .spl r0 (.ex fun r2 => .reg 0 [(2, Or.bool true, 0, 0), (4, Or.call (vD (dI r2)) [] [], 0, 0)] [2, 3, 4, 5, 7, 8, 38] [0, 1, 2, 3, 4, 5] [.old 0] <| .c2 (.exb fun r04 => .exl fun r14 => .exb fun r05 => .exl fun r15 => .drw 0 [(1, (Or.call (vA [sD (dB r04), sD (dL r14)]) [] [], 0, 0), []), (2, (Or.call (vA [sD (dB r05), sD (dL r15)]) [] [], 0, 0), []), (3, (Or.none, 0, 0), [4])] [2, 3, 4, 5, 7, 8] [0, 1, 2, 3, 4, 5] [] <| .exb fun r06 => .exl fun r16 => .exb fun r07 => .exl fun r17 => .drw 0 [(2, (Or.call (vA [sD (dB r06), sD (dL r16)]) [] [], 0, 0), []), (4, (Or.call (vA [sD (dB r07), sD (dL r17)]) [] [], 0, 0), []), (5, (Or.none, 0, 0), [5])] [2, 3, 4, 5, 7, 8] [0, 1, 2, 3, 4, 5] [] <| .r1 [4, 5, 7, 8, 51] [2, 3, 4, 5] <| .c2 (.exb fun r08 => .exl fun r18 => .reg 0 [(1, Or.call (vA [sD (dB r08), sD (dL r18)]) [] [], 0, 0)] [4, 5, 7, 8] [0, 1, 2, 3] [] <| .drw 0 [(2, (Or.none, 0, 0), [0]), (3, (Or.none, 0, 0), [1])] [4, 5, 6] [0, 1] [] <| .ret []) (.drw 0 [(2, (Or.none, 0, 0), [0]), (3, (Or.none, 0, 0), [1])] [4, 5, 6] [0, 1] [] <| .ret [])) (.r1 [4, 5, 7, 8, 51] [2, 3, 4, 5] <| .c2 (.exb fun r09 => .exl fun r19 => .reg 0 [(1, Or.call (vA [sD (dB r09), sD (dL r19)]) [] [], 0, 0)] [4, 5, 7, 8] [0, 1, 2, 3] [] <| .drw 0 [(2, (Or.none, 0, 0), [0]), (3, (Or.none, 0, 0), [1])] [4, 5, 6] [0, 1] [] <| .ret []) (.drw 0 [(2, (Or.none, 0, 0), [0]), (3, (Or.none, 0, 0), [1])] [4, 5, 6] [0, 1] [] <| .ret []))) (.reg 0 [(2, Or.bool false, 0, 0)] [2, 3, 4, 5, 7, 8, 38] [0, 1, 2, 3, 4, 5] [.old 0] <| .ct false none <| .r1 [4, 5, 7, 8, 51] [2, 3, 4, 5] <| .c2 (.exb fun r010 => .exl fun r110 => .reg 0 [(1, Or.call (vA [sD (dB r010), sD (dL r110)]) [] [], 0, 0)] [4, 5, 7, 8] [0, 1, 2, 3] [] <| .drw 0 [(2, (Or.none, 0, 0), [0]), (3, (Or.none, 0, 0), [1])] [4, 5, 6] [0, 1] [] <| .ret []) (.drw 0 [(2, (Or.none, 0, 0), [0]), (3, (Or.none, 0, 0), [1])] [4, 5, 6] [0, 1] [] <| .ret []))))
    (by kernel_rfl) (by kernel_rfl) (by kernel_rfl) h
def vc55 (a0 : Bool) (a1 : DL) (b0 : Bool) (b1 : DL) (R : V → Heap → Prop) : Prop :=
 ∃ (r0 : Bool) (r1 : DL) (r01 : Bool) (r11 : DL) (r : Int),
 (FnD prog 50 [vA [sD (dB a0), sD (dL a1)], vA [sD (dB b0), sD (dL b1)]] (V.tup [E.agg [sD (dB r0), sD (dL r1)], E.agg [sD (dB r01), sD (dL r11)], eD (dI r)]) []) ∧
 (R (vA [sD (dB r0), sD (dL r1)]) [])
theorem vc55_ok (a0 : Bool) (a1 : DL) (b0 : Bool) (b1 : DL) {R : V → Heap → Prop} (h : vc55 a0 a1 b0 b1 R) : FnG prog 55 [vA [sD (dB a0), sD (dL a1)], vA [sD (dB b0), sD (dL b1)]] [] R :=
  FnG.vcg hT func55 ntmps55 (.reg 3 [(0, Or.none, 0, 1), (1, Or.none, 1, 1), (2, Or.none, 2, 1)] [2, 3, 4] [0, 1, 2] [] <| .exb fun r0 => .exl fun r1 => .exb fun r01 => .exl fun r11 => .ex fun r => .reg 2 [(2, Or.call (V.tup [E.agg [sD (dB r0), sD (dL r1)], E.agg [sD (dB r01), sD (dL r11)], eD (dI r)]) [] [], 0, 0), (7, Or.none, 3, 1), (8, Or.none, 4, 1)] [4, 5] [2, 3] [] <| .r1 [4] [0] <| .ret [])
    (by kernel_rfl) (by kernel_rfl) (by kernel_rfl) h
def vc90 (a0 : Bool) (a1 : DL) (b0 : Bool) (b1 : DL) (R : V → Heap → Prop) : Prop :=
 ∃ (r0 : Bool) (r1 : DL) (r01 : Bool) (r11 : DL),
 (FnD prog 52 [vA [sD (dB b0), sD (dL b1)]] (vA [sD (dB r0), sD (dL r1)]) []) ∧
 (FnD prog 24 [vA [sD (dB a0), sD (dL a1)], vA [sD (dB r0), sD (dL r1)]] (vA [sD (dB r01), sD (dL r11)]) []) ∧
 (R (vA [sD (dB r01), sD (dL r11)]) [])
theorem vc90_ok (a0 : Bool) (a1 : DL) (b0 : Bool) (b1 : DL) {R : V → Heap → Prop} (h : vc90 a0 a1 b0 b1 R) : FnG prog 90 [vA [sD (dB a0), sD (dL a1)], vA [sD (dB b0), sD (dL b1)]] [] R :=
  FnG.vcg hT func90 ntmps90 (.reg 3 [(0, Or.none, 0, 1), (1, Or.none, 1, 1), (2, Or.none, 2, 1)] [2, 3, 4] [0, 1, 2] [] <| .exb fun r0 => .exl fun r1 => .exb fun r01 => .exl fun r11 => .drw 0 [(2, (Or.call (vA [sD (dB r0), sD (dL r1)]) [] [], 0, 0), []), (3, (Or.call (vA [sD (dB r01), sD (dL r11)]) [] [], 0, 0), []), (4, (Or.none, 0, 0), [2])] [4] [2] [] <| .ret [])
    (by kernel_rfl) (by kernel_rfl) (by kernel_rfl) h
def vc89 (a b : DL) (R : V → Heap → Prop) : Prop :=
 (((b.length : Int) == (1 : Int)) = true →
 ∃ (vx : Int) (r : DL) (r1 : Int),
 (0 ≤ (0 : Int) ∧ (0 : Int) < (b.length : Int)) ∧
 (b[0]? = some [dU vx]) ∧
 (FnD prog 115 [vD (dL a), vD (dU vx)] (V.tup [eD (dL r), eD (dU r1)]) []) ∧
 (∃ (r0 : Bool) (r11 : DL) (r01 : Bool) (r12 : DL),
 (FnD prog 56 [vD (dL r), vD (dB false)] (vA [sD (dB r0), sD (dL r11)]) []) ∧
 (FnD prog 56 [vD (dL [[dU r1]]), vD (dB false)] (vA [sD (dB r01), sD (dL r12)]) []) ∧
 (R (V.tup [E.agg [sD (dB r0), sD (dL r11)], E.agg [sD (dB r01), sD (dL r12)]]) []))) ∧
 (((b.length : Int) == (1 : Int)) = false →
 ∃ (J0 : Int → Prop) (μ0 : Int → Nat),
 J0 (1 : Int) ∧ ∀ (scale : Int), J0 scale →
 ∃ (vx1 : Int),
 (0 ≤ (IntKind.i64.wrap ((b.length : Int) - (1 : Int))) ∧ (IntKind.i64.wrap ((b.length : Int) - (1 : Int))) < (b.length : Int)) ∧
 (b[((IntKind.i64.wrap ((b.length : Int) - (1 : Int)))).toNat]? = some [dU vx1]) ∧
 (((decide ((IntKind.u64.wrap ((IntKind.u64.wrap vx1) * (IntKind.u64.wrap scale))) < (2147483648 : Int))) = true →
 J0 (IntKind.u32.wrap ((2 : Int) * scale)) ∧ μ0 (IntKind.u32.wrap ((2 : Int) * scale)) < μ0 scale) ∧
 ((decide ((IntKind.u64.wrap ((IntKind.u64.wrap vx1) * (IntKind.u64.wrap scale))) < (2147483648 : Int))) = false →
 ∃ (r02 : Bool) (r13 : DL),
 (FnD prog 56 [vD (dL [[dU scale]]), vD (dB false)] (vA [sD (dB r02), sD (dL r13)]) []) ∧
 (∃ (r03 : Bool) (r14 : DL) (r04 : Bool) (r15 : DL) (r05 : Bool) (r16 : DL) (r06 : Bool) (r17 : DL),
 (FnD prog 56 [vD (dL a), vD (dB false)] (vA [sD (dB r03), sD (dL r14)]) []) ∧
 (FnD prog 91 [vA [sD (dB r03), sD (dL r14)], vA [sD (dB r02), sD (dL r13)]] (vA [sD (dB r04), sD (dL r15)]) []) ∧
 (FnD prog 56 [vD (dL b), vD (dB false)] (vA [sD (dB r05), sD (dL r16)]) []) ∧
 (FnD prog 91 [vA [sD (dB r05), sD (dL r16)], vA [sD (dB r02), sD (dL r13)]] (vA [sD (dB r06), sD (dL r17)]) []) ∧
 (∃ (J1 : Bool → (DL) → Bool → (DL) → Prop) (μ1 : Bool → (DL) → Bool → (DL) → Nat),
 J1 r04 r15 false ([] : DL) ∧ ∀ (r07 : Bool) (r18 : DL) (q0 : Bool) (q1 : DL), J1 r07 r18 q0 q1 →
 ∃ (r2 : Bool),
 (FnD prog 58 [vD (dL r18), vD (dL r17)] (vD (dB r2)) []) ∧
 (((!r2) = true →
 ∃ (r08 : Bool) (r19 : DL),
 (FnD prog 116 [vD (dL r18), vD (dL r17)] (vA [sD (dB r08), sD (dL r19)]) []) ∧
 (∃ (r09 : Bool) (r110 : DL),
 (FnD prog 24 [vA [sD (dB q0), sD (dL q1)], vA [sD (dB r08), sD (dL r19)]] (vA [sD (dB r09), sD (dL r110)]) []) ∧
 (∃ (r010 : Bool) (r111 : DL) (r011 : Bool) (r112 : DL),
 (FnD prog 91 [vA [sD (dB r08), sD (dL r19)], vA [sD (dB r06), sD (dL r17)]] (vA [sD (dB r010), sD (dL r111)]) []) ∧
 (FnD prog 90 [vA [sD (dB r07), sD (dL r18)], vA [sD (dB r010), sD (dL r111)]] (vA [sD (dB r011), sD (dL r112)]) []) ∧
 (J1 r011 r112 r09 r110 ∧ μ1 r011 r112 r09 r110 < μ1 r07 r18 q0 q1)))) ∧
 ((!r2) = false →
 ∃ (r3 : DL) (r4 : Int),
 (FnD prog 115 [vD (dL r18), vD (dU scale)] (V.tup [eD (dL r3), eD (dU r4)]) []) ∧
 (∃ (r012 : Bool) (r113 : DL),
 (FnD prog 56 [vD (dL r3), vD (dB false)] (vA [sD (dB r012), sD (dL r113)]) []) ∧
 (R (V.tup [E.agg [sD (dB q0), sD (dL q1)], E.agg [sD (dB r012), sD (dL r113)]]) [])))))))))
theorem vc89_ok (a b : DL) {R : V → Heap → Prop} (h : vc89 a b R) : FnG prog 89 [vD (dL a), vD (dL b)] [] R :=
  FnG.vcg hT func89 ntmps89 (.reg 2 [(0, Or.none, 0, 1), (1, Or.none, 1, 1)] [0, 1, 4, 5] [0, 1] [] <| .r1 [0, 1, 4, 5, 18] [0, 1] <| .c2 (.ex fun vx => .exl fun r => .ex fun r1 => .reg 0 [(3, Or.cells [dU vx], 0, 0), (4, Or.call (V.tup [eD (dL r), eD (dU r1)]) [] [], 0, 0)] [4, 5, 6, 7] [0, 1] [] <| .exb fun r0 => .exl fun r11 => .exb fun r01 => .exl fun r12 => .reg 1 [(1, Or.call (vA [sD (dB r0), sD (dL r11)]) [] [], 0, 0), (3, Or.frz, 2, 1), (4, Or.call (vA [sD (dB r01), sD (dL r12)]) [] [], 0, 0)] [4, 5] [0, 1] [] <| .ret []) (.r1 [0, 1, 4, 5, 8] [0, 1] <| .lp [.i] (fun scale => ⟨[(0, vD (dL a)), (1, vD (dL b)), (4, vP 0 0), (5, vP 1 0), (8, vD (dU scale))], [some (Obj.box [sD (dB false), sD (D.raw (.slice none 0 0))]), some (Obj.box [sD (dB false), sD (D.raw (.slice none 0 0))])], 86⟩) [.i (1 : Int)] <| .fi fun scale => .beg <| .ex fun vx1 => .reg 0 [(5, Or.cells [dU vx1], 0, 0)] [0, 1, 4, 5, 8, 42] [0, 1] [] <| .c2 (.r1 [0, 1, 4, 5, 8] [0, 1] <| .bk 0 [.i (IntKind.u32.wrap ((2 : Int) * scale))]) (.exb fun r02 => .exl fun r13 => .reg 2 [(1, Or.frz, 2, 1), (2, Or.call (vA [sD (dB r02), sD (dL r13)]) [] [], 0, 0), (3, Or.none, 3, 1)] [0, 1, 4, 5, 8, 9] [0, 1, 3] [] <| .exb fun r03 => .exl fun r14 => .exb fun r04 => .exl fun r15 => .exb fun r05 => .exl fun r16 => .exb fun r06 => .exl fun r17 => .drw 3 [(1, (Or.call (vA [sD (dB r03), sD (dL r14)]) [] [], 0, 0), []), (3, (Or.call (vA [sD (dB r04), sD (dL r15)]) [] [], 0, 0), []), (5, (Or.call (vA [sD (dB r05), sD (dL r16)]) [] [], 0, 0), []), (7, (Or.call (vA [sD (dB r06), sD (dL r17)]) [] [], 0, 0), []), (9, (Or.none, 3, 1), [3]), (10, (Or.none, 4, 1), [4]), (11, (Or.none, 5, 1), [5]), (12, (Or.none, 0, 0), [3]), (13, (Or.none, 0, 0), [4]), (14, (Or.none, 0, 0), [5])] [4, 5, 8, 10, 11, 12] [0, 1, 3, 4, 5] [] <| .nrm [] [4] <| .lp [.b, .l, .b, .l] (fun r07 r18 q0 q1 => ⟨[(4, vP 0 0), (5, vP 1 0), (8, vD (dU scale)), (10, vP 2 0), (11, vP 3 0), (12, vP 4 0)], [some (Obj.box [sD (dB false), sD (D.raw (.slice none 0 0))]), some (Obj.box [sD (dB false), sD (D.raw (.slice none 0 0))]), some (Obj.box [sD (dB r07), sD (dL r18)]), some (Obj.box [sD (dB r06), sD (dL r17)]), some (Obj.box [sD (dB q0), sD (dL q1)])], 86⟩) [.b r04, .l r15, .b false, .l ([] : DL)] <| .fb fun r07 => .fl fun r18 => .fb fun q0 => .fl fun q1 => .beg <| .exb fun r2 => .reg 0 [(4, Or.call (vD (dB r2)) [] [], 0, 0)] [4, 5, 8, 10, 11, 12, 62] [0, 1, 2, 3, 4] [] <| .c2 (.exb fun r08 => .exl fun r19 => .reg 1 [(4, Or.call (vA [sD (dB r08), sD (dL r19)]) [] [], 0, 0), (5, Or.none, 5, 1)] [4, 5, 8, 10, 11, 12, 13] [0, 1, 2, 3, 4, 5] [] <| .exb fun r09 => .exl fun r110 => .reg 0 [(2, Or.call (vA [sD (dB r09), sD (dL r110)]) [] [], 0, 0)] [4, 5, 8, 10, 11, 12, 13] [0, 1, 2, 3, 4, 5] [] <| .exb fun r010 => .exl fun r111 => .exb fun r011 => .exl fun r112 => .drw 0 [(3, (Or.call (vA [sD (dB r010), sD (dL r111)]) [] [], 0, 0), []), (4, (Or.call (vA [sD (dB r011), sD (dL r112)]) [] [], 0, 0), []), (5, (Or.none, 0, 0), [2])] [4, 5, 8, 10, 11, 12] [0, 1, 2, 3, 4] [] <| .bk 0 [.b r011, .l r112, .b r09, .l r110]) (.exl fun r3 => .ex fun r4 => .reg 0 [(3, Or.call (V.tup [eD (dL r3), eD (dU r4)]) [] [], 0, 0)] [4, 5, 12, 14] [0, 1, 4] [] <| .exb fun r012 => .exl fun r113 => .drw 0 [(2, (Or.call (vA [sD (dB r012), sD (dL r113)]) [] [], 0, 0), []), (3, (Or.none, 0, 0), [0]), (4, (Or.none, 0, 0), [1])] [4, 5] [0, 1] [] <| .ret []))))
    (by kernel_rfl) (by kernel_rfl) (by kernel_rfl) h
def vc115 (a : DL) (d : Int) (R : V → Heap → Prop) : Prop :=
 (0 ≤ (a.length : Int) ∧ (a.length : Int) ≤ (a.length : Int) ∧ (a.length : Int) * (4 : Nat) ≤ 281474976710656) ∧
 (∃ (J0 : (DL) → Int → Int → Prop) (μ0 : (DL) → Int → Int → Nat),
 J0 (List.replicate ((a.length : Int)).toNat [dU (0 : Int)]) (0 : Int) (IntKind.i64.wrap ((a.length : Int) - (1 : Int))) ∧ ∀ (out : DL) (rest i : Int), J0 out rest i →
 (decide (i ≥ (0 : Int)) = true →
 ∃ (vx : Int),
 (0 ≤ i ∧ i < (a.length : Int)) ∧
 (a[(i).toNat]? = some [dU vx]) ∧
 (((IntKind.u64.wrap d) ≠ 0) ∧
 (0 ≤ i ∧ i < (out.length : Int)) ∧
 (J0 (out.set (i).toNat [dU (IntKind.u32.wrap (IntKind.u64.wrap ((IntKind.u64.wrap ((IntKind.u64.wrap (rest * (4294967296 : Int))) + (IntKind.u64.wrap vx))).tdiv (IntKind.u64.wrap d))))]) ((IntKind.u64.wrap ((IntKind.u64.wrap (rest * (4294967296 : Int))) + (IntKind.u64.wrap vx))).tmod (IntKind.u64.wrap d)) (IntKind.i64.wrap (i - (1 : Int))) ∧ μ0 (out.set (i).toNat [dU (IntKind.u32.wrap (IntKind.u64.wrap ((IntKind.u64.wrap ((IntKind.u64.wrap (rest * (4294967296 : Int))) + (IntKind.u64.wrap vx))).tdiv (IntKind.u64.wrap d))))]) ((IntKind.u64.wrap ((IntKind.u64.wrap (rest * (4294967296 : Int))) + (IntKind.u64.wrap vx))).tmod (IntKind.u64.wrap d)) (IntKind.i64.wrap (i - (1 : Int))) < μ0 out rest i))) ∧
 (decide (i ≥ (0 : Int)) = false →
 R (V.tup [eD (dL out), eD (dU (IntKind.u32.wrap rest))]) []))
theorem vc115_ok (a : DL) (d : Int) {R : V → Heap → Prop} (h : vc115 a d R) : FnG prog 115 [vD (dL a), vD (dU d)] [] R :=
  FnG.vcg hT func115 ntmps115 (.r0 [0, 1] <| .reg 1 [(2, Or.none, 0, 1)] [0, 1, 6, 7] [0] [] <| .r1 [0, 1, 6, 7, 8] [0] <| .lp [.l, .i, .i] (fun out rest i => ⟨[(0, vD (dL a)), (1, vD (dU d)), (6, vR 0), (7, vD (D.int .u64 rest)), (8, vD (dI i))], [some (Obj.arr 1 out)], 42⟩) [.l (List.replicate ((a.length : Int)).toNat [dU (0 : Int)]), .i (0 : Int), .i (IntKind.i64.wrap ((a.length : Int) - (1 : Int)))] <| .fl fun out => .fi fun rest => .fi fun i => .beg <| .r1 [0, 1, 6, 7, 8, 16] [0] <| .c2 (.ex fun vx => .reg 0 [(5, Or.cells [dU vx], 0, 0)] [0, 1, 6, 7, 8] [0] [] <| .r1 [0, 1, 6, 7, 8] [0] <| .reg 0 [] [0, 1, 6, 7, 8] [0] [.old 1] <| .r1 [0, 1, 6, 7, 8] [0] <| .bk 0 [.l (out.set (i).toNat [dU (IntKind.u32.wrap (IntKind.u64.wrap ((IntKind.u64.wrap ((IntKind.u64.wrap (rest * (4294967296 : Int))) + (IntKind.u64.wrap vx))).tdiv (IntKind.u64.wrap d))))]), .i ((IntKind.u64.wrap ((IntKind.u64.wrap (rest * (4294967296 : Int))) + (IntKind.u64.wrap vx))).tmod (IntKind.u64.wrap d)), .i (IntKind.i64.wrap (i - (1 : Int)))]) (.r1 [4, 5] [0] <| .frz [0] <| .ret []))
    (by kernel_rfl) (by kernel_rfl) (by kernel_rfl) h
def vc116 (r d : DL) (R : V → Heap → Prop) : Prop :=
 ∃ (vx : Int),
 (0 ≤ (IntKind.i64.wrap ((d.length : Int) - (1 : Int))) ∧ (IntKind.i64.wrap ((d.length : Int) - (1 : Int))) < (d.length : Int)) ∧
 (d[((IntKind.i64.wrap ((d.length : Int) - (1 : Int)))).toNat]? = some [dU vx]) ∧
 ((((IntKind.i64.wrap ((r.length : Int) - (d.length : Int))) == (0 : Int)) = true →
 ∃ (vx1 : Int) (r0 : Bool) (r1 : DL),
 (0 ≤ (IntKind.i64.wrap ((r.length : Int) - (1 : Int))) ∧ (IntKind.i64.wrap ((r.length : Int) - (1 : Int))) < (r.length : Int)) ∧
 (r[((IntKind.i64.wrap ((r.length : Int) - (1 : Int)))).toNat]? = some [dU vx1]) ∧
 ((IntKind.u64.wrap ((IntKind.u64.wrap vx) + (1 : Int))) ≠ 0) ∧
 (FnD prog 25 [vD (dI (IntKind.i64.wrap (if (IntKind.u64.wrap ((IntKind.u64.wrap vx1).tdiv (IntKind.u64.wrap ((IntKind.u64.wrap vx) + (1 : Int))))) > (1 : Int) then (IntKind.u64.wrap ((IntKind.u64.wrap vx1).tdiv (IntKind.u64.wrap ((IntKind.u64.wrap vx) + (1 : Int))))) else (1 : Int))))] (vA [sD (dB r0), sD (dL r1)]) []) ∧
 (R (vA [sD (dB r0), sD (dL r1)]) [])) ∧
 (((IntKind.i64.wrap ((r.length : Int) - (d.length : Int))) == (0 : Int)) = false →
 ∃ (vx2 vx3 : Int),
 (0 ≤ (IntKind.i64.wrap ((r.length : Int) - (1 : Int))) ∧ (IntKind.i64.wrap ((r.length : Int) - (1 : Int))) < (r.length : Int)) ∧
 (r[((IntKind.i64.wrap ((r.length : Int) - (1 : Int)))).toNat]? = some [dU vx2]) ∧
 (0 ≤ (IntKind.i64.wrap ((r.length : Int) - (2 : Int))) ∧ (IntKind.i64.wrap ((r.length : Int) - (2 : Int))) < (r.length : Int)) ∧
 (r[((IntKind.i64.wrap ((r.length : Int) - (2 : Int)))).toNat]? = some [dU vx3]) ∧
 ((IntKind.u64.wrap ((IntKind.u64.wrap vx) + (1 : Int))) ≠ 0) ∧
 ((0 ≤ (IntKind.i64.wrap ((IntKind.i64.wrap ((r.length : Int) - (d.length : Int))) - (1 : Int))) ∧ (IntKind.i64.wrap ((IntKind.i64.wrap ((r.length : Int) - (d.length : Int))) - (1 : Int))) ≤ (IntKind.i64.wrap ((IntKind.i64.wrap ((r.length : Int) - (d.length : Int))) - (1 : Int))) ∧ (IntKind.i64.wrap ((IntKind.i64.wrap ((r.length : Int) - (d.length : Int))) - (1 : Int))) * (4 : Nat) ≤ 281474976710656) ∧
 (∃ (r01 : Bool) (r11 : DL),
 (0 ≤ (32 : Int)) ∧
 (((List.replicate ((IntKind.i64.wrap ((IntKind.i64.wrap ((r.length : Int) - (d.length : Int))) - (1 : Int)))).toNat [dU (0 : Int)]).length + ([[dU (IntKind.u32.wrap (IntKind.u64.wrap ((IntKind.u64.wrap ((IntKind.u64.wrap ((IntKind.u64.wrap vx2) * (4294967296 : Int))) + (IntKind.u64.wrap vx3))).tdiv (IntKind.u64.wrap ((IntKind.u64.wrap vx) + (1 : Int))))))], [dU (IntKind.u32.wrap ((IntKind.u64.wrap ((IntKind.u64.wrap ((IntKind.u64.wrap ((IntKind.u64.wrap vx2) * (4294967296 : Int))) + (IntKind.u64.wrap vx3))).tdiv (IntKind.u64.wrap ((IntKind.u64.wrap vx) + (1 : Int))))).fdiv (2 ^ (min (32 : Int).toNat IntKind.u64.bits))))]] : DL).length) * 4 ≤ 140737488355328) ∧
 (FnD prog 56 [vD (dL ((List.replicate ((IntKind.i64.wrap ((IntKind.i64.wrap ((r.length : Int) - (d.length : Int))) - (1 : Int)))).toNat [dU (0 : Int)]) ++ [[dU (IntKind.u32.wrap (IntKind.u64.wrap ((IntKind.u64.wrap ((IntKind.u64.wrap ((IntKind.u64.wrap vx2) * (4294967296 : Int))) + (IntKind.u64.wrap vx3))).tdiv (IntKind.u64.wrap ((IntKind.u64.wrap vx) + (1 : Int))))))], [dU (IntKind.u32.wrap ((IntKind.u64.wrap ((IntKind.u64.wrap ((IntKind.u64.wrap ((IntKind.u64.wrap vx2) * (4294967296 : Int))) + (IntKind.u64.wrap vx3))).tdiv (IntKind.u64.wrap ((IntKind.u64.wrap vx) + (1 : Int))))).fdiv (2 ^ (min (32 : Int).toNat IntKind.u64.bits))))]])), vD (dB false)] (vA [sD (dB r01), sD (dL r11)]) []) ∧
 (R (vA [sD (dB r01), sD (dL r11)]) [])))))
theorem vc116_ok (r d : DL) {R : V → Heap → Prop} (h : vc116 r d R) : FnG prog 116 [vD (dL r), vD (dL d)] [] R :=
  FnG.vcg hT func116 ntmps116 (.reg 1 [(0, Or.none, 0, 1)] [0, 1, 4] [0] [] <| .ex fun vx => .drw 0 [(12, (Or.cells [dU vx], 0, 0), [])] [0, 4, 5, 6, 7] [0] [] <| .r1 [0, 4, 5, 6, 7, 26] [0] <| .c2 (.ex fun vx1 => .exb fun r0 => .exl fun r1 => .reg 0 [(4, Or.cells [dU vx1], 0, 0), (10, Or.call (vA [sD (dB r0), sD (dL r1)]) [] [], 0, 0)] [4] [0] [] <| .ret []) (.ex fun vx2 => .ex fun vx3 => .drw 0 [(4, (Or.cells [dU vx2], 0, 0), []), (11, (Or.cells [dU vx3], 0, 0), [])] [4, 5, 8] [0] [] <| .reg 1 [(2, Or.none, 1, 1)] [4, 8, 9] [0, 1] [] <| .exb fun r01 => .exl fun r11 => .reg 2 [(6, Or.none, 2, 1), (7, Or.frz, 3, 1), (8, Or.call (vA [sD (dB r01), sD (dL r11)]) [] [], 0, 0)] [4] [0] [] <| .ret []))
    (by kernel_rfl) (by kernel_rfl) (by kernel_rfl) h
def vc117 (a0 : Bool) (a1 : DL) (R : V → Heap → Prop) : Prop :=
 R (vA [sD (dB false), sD (dL a1)]) []
theorem vc117_ok (a0 : Bool) (a1 : DL) {R : V → Heap → Prop} (h : vc117 a0 a1 R) : FnG prog 117 [vA [sD (dB a0), sD (dL a1)]] [] R :=
  FnG.vcg hT func117 ntmps117 (.reg 2 [(0, Or.none, 0, 1), (1, Or.none, 1, 1)] [1, 2] [0, 1] [] <| .r1 [2] [1] <| .ret [])
    (by kernel_rfl) (by kernel_rfl) (by kernel_rfl) h
def vc96 (a0 : Bool) (a1 : DL) (b0 : Bool) (b1 : DL) (R : V → Heap → Prop) : Prop :=
 (((b1.length : Int) == (0 : Int)) = true →
 R (V.tup [E.agg [sD (dB false), sD (dL ([] : DL))], E.agg [sD (dB false), sD (dL ([] : DL))], eD (dI (3 : Int))]) []) ∧
 (((b1.length : Int) == (0 : Int)) = false →
 ∃ (r r1 : DL),
 (FnD prog 118 [vD (dL a1), vD (dL b1)] (V.tup [eD (dL r), eD (dL r1)]) []) ∧
 (∃ (r0 : Bool) (r11 : DL) (r01 : Bool) (r12 : DL),
 (FnD prog 92 [vD (dL r), vD (dB false)] (vA [sD (dB r0), sD (dL r11)]) []) ∧
 (FnD prog 92 [vD (dL r1), vD (dB false)] (vA [sD (dB r01), sD (dL r12)]) []) ∧
 ((a0 = true →
 (decide ((r12.length : Int) > (0 : Int)) = true →
 ∃ (r02 : Bool) (r13 : DL) (r03 : Bool) (r14 : DL),
 (FnD prog 63 [vD (dI (1 : Int))] (vA [sD (dB r02), sD (dL r13)]) []) ∧
 (FnD prog 99 [vA [sD (dB r0), sD (dL r11)], vA [sD (dB r02), sD (dL r13)]] (vA [sD (dB r03), sD (dL r14)]) []) ∧
 (∃ (r2 : DL) (r04 : Bool) (r15 : DL),
 (FnD prog 119 [vD (dL b1), vD (dL r12)] (vD (dL r2)) []) ∧
 (FnD prog 92 [vD (dL r2), vD (dB false)] (vA [sD (dB r04), sD (dL r15)]) []) ∧
 (((!(a0 == b0)) = true →
 ∃ (r05 : Bool) (r16 : DL),
 (FnD prog 95 [vA [sD (dB r03), sD (dL r14)]] (vA [sD (dB r05), sD (dL r16)]) []) ∧
 (R (V.tup [E.agg [sD (dB r05), sD (dL r16)], E.agg [sD (dB r04), sD (dL r15)], eD (dI (0 : Int))]) [])) ∧
 ((!(a0 == b0)) = false →
 R (V.tup [E.agg [sD (dB r03), sD (dL r14)], E.agg [sD (dB r04), sD (dL r15)], eD (dI (0 : Int))]) [])))) ∧
 (decide ((r12.length : Int) > (0 : Int)) = false →
 ((!(a0 == b0)) = true →
 ∃ (r06 : Bool) (r17 : DL),
 (FnD prog 95 [vA [sD (dB r0), sD (dL r11)]] (vA [sD (dB r06), sD (dL r17)]) []) ∧
 (R (V.tup [E.agg [sD (dB r06), sD (dL r17)], E.agg [sD (dB r01), sD (dL r12)], eD (dI (0 : Int))]) [])) ∧
 ((!(a0 == b0)) = false →
 R (V.tup [E.agg [sD (dB r0), sD (dL r11)], E.agg [sD (dB r01), sD (dL r12)], eD (dI (0 : Int))]) []))) ∧
 (a0 = false →
 ((!(a0 == b0)) = true →
 ∃ (r07 : Bool) (r18 : DL),
 (FnD prog 95 [vA [sD (dB r0), sD (dL r11)]] (vA [sD (dB r07), sD (dL r18)]) []) ∧
 (R (V.tup [E.agg [sD (dB r07), sD (dL r18)], E.agg [sD (dB r01), sD (dL r12)], eD (dI (0 : Int))]) [])) ∧
 ((!(a0 == b0)) = false →
 R (V.tup [E.agg [sD (dB r0), sD (dL r11)], E.agg [sD (dB r01), sD (dL r12)], eD (dI (0 : Int))]) [])))))
theorem vc96_ok (a0 : Bool) (a1 : DL) (b0 : Bool) (b1 : DL) {R : V → Heap → Prop} (h : vc96 a0 a1 b0 b1 R) : FnG prog 96 [vA [sD (dB a0), sD (dL a1)], vA [sD (dB b0), sD (dL b1)]] [] R :=
  FnG.vcg hT func96 ntmps96 (.reg 4 [(0, Or.none, 0, 1), (1, Or.none, 1, 1), (2, Or.none, 2, 1), (3, Or.none, 3, 1)] [2, 3, 4, 5] [0, 1, 2, 3] [] <| .r1 [2, 3, 4, 5, 14] [0, 1, 2, 3] <| .c2 (.r1 [4, 5, 6] [2, 3] <| .nrm [4, 5, 6] [0, 1] <| .ret []) (.exl fun r => .exl fun r1 => .reg 0 [(4, Or.call (V.tup [eD (dL r), eD (dL r1)]) [] [], 0, 0)] [2, 3, 4, 5, 7, 8] [0, 1, 2, 3] [] <| .exb fun r0 => .exl fun r11 => .exb fun r01 => .exl fun r12 => .reg 2 [(1, Or.call (vA [sD (dB r0), sD (dL r11)]) [] [], 0, 0), (3, Or.call (vA [sD (dB r01), sD (dL r12)]) [] [], 0, 0), (4, Or.none, 4, 1), (5, Or.none, 5, 1)] [2, 3, 4, 5, 9, 10] [0, 1, 2, 3, 4, 5] [] <| .spl a0 (.reg 0 [(2, Or.bool true, 0, 0)] [2, 3, 4, 5, 9, 10, 36] [0, 1, 2, 3, 4, 5] [.old 0] <| .c2 (.exb fun r02 => .exl fun r13 => .exb fun r03 => .exl fun r14 => .drw 0 [(1, (Or.call (vA [sD (dB r02), sD (dL r13)]) [] [], 0, 0), []), (2, (Or.call (vA [sD (dB r03), sD (dL r14)]) [] [], 0, 0), []), (3, (Or.none, 0, 0), [4])] [2, 3, 4, 5, 9, 10] [0, 1, 2, 3, 4, 5] [] <| .exl fun r2 => .exb fun r04 => .exl fun r15 => .reg 0 [(4, Or.call (vD (dL r2)) [] [], 0, 0), (5, Or.call (vA [sD (dB r04), sD (dL r15)]) [] [], 0, 0)] [2, 3, 4, 5, 9, 10] [0, 1, 2, 3, 4, 5] [] <| .r1 [4, 5, 9, 10, 50] [2, 3, 4, 5] <| .c2 (.exb fun r05 => .exl fun r16 => .reg 0 [(1, Or.call (vA [sD (dB r05), sD (dL r16)]) [] [], 0, 0)] [4, 5, 9, 10] [0, 1, 2, 3] [] <| .drw 0 [(2, (Or.none, 0, 0), [0]), (3, (Or.none, 0, 0), [1])] [4, 5, 6] [0, 1] [] <| .ret []) (.drw 0 [(2, (Or.none, 0, 0), [0]), (3, (Or.none, 0, 0), [1])] [4, 5, 6] [0, 1] [] <| .ret [])) (.r1 [4, 5, 9, 10, 50] [2, 3, 4, 5] <| .c2 (.exb fun r06 => .exl fun r17 => .reg 0 [(1, Or.call (vA [sD (dB r06), sD (dL r17)]) [] [], 0, 0)] [4, 5, 9, 10] [0, 1, 2, 3] [] <| .drw 0 [(2, (Or.none, 0, 0), [0]), (3, (Or.none, 0, 0), [1])] [4, 5, 6] [0, 1] [] <| .ret []) (.drw 0 [(2, (Or.none, 0, 0), [0]), (3, (Or.none, 0, 0), [1])] [4, 5, 6] [0, 1] [] <| .ret []))) (.reg 0 [(2, Or.bool false, 0, 0)] [2, 3, 4, 5, 9, 10, 36] [0, 1, 2, 3, 4, 5] [.old 0] <| .ct false none <| .r1 [4, 5, 9, 10, 50] [2, 3, 4, 5] <| .c2 (.exb fun r07 => .exl fun r18 => .reg 0 [(1, Or.call (vA [sD (dB r07), sD (dL r18)]) [] [], 0, 0)] [4, 5, 9, 10] [0, 1, 2, 3] [] <| .drw 0 [(2, (Or.none, 0, 0), [0]), (3, (Or.none, 0, 0), [1])] [4, 5, 6] [0, 1] [] <| .ret []) (.drw 0 [(2, (Or.none, 0, 0), [0]), (3, (Or.none, 0, 0), [1])] [4, 5, 6] [0, 1] [] <| .ret []))))
    (by kernel_rfl) (by kernel_rfl) (by kernel_rfl) h
def vc118 (a b : DL) (R : V → Heap → Prop) : Prop :=
 ∃ (r : Int),
 (FnD prog 113 [vD (dL a), vD (dL b)] (vD (dI r)) []) ∧
 ((decide (r < (0 : Int)) = true →
 ∃ (r1 : DL),
 (FnD prog 126 [vD (dL a)] (vD (dL r1)) []) ∧
 (R (V.tup [eD (dL ([] : DL)), eD (dL r1)]) [])) ∧
 (decide (r < (0 : Int)) = false →
 (((b.length : Int) == (1 : Int)) = true →
 ∃ (vx : Int) (r2 : DL) (r3 : Int),
 (0 ≤ (0 : Int) ∧ (0 : Int) < (b.length : Int)) ∧
 (b[0]? = some [dU vx]) ∧
 (FnD prog 127 [vD (dL a), vD (dU vx)] (V.tup [eD (dL r2), eD (dU r3)]) []) ∧
 (R (V.tup [eD (dL r2), eD (dL [[dU r3]])]) [])) ∧
 (((b.length : Int) == (1 : Int)) = false →
 ∃ (r4 r5 : DL),
 (FnD prog 128 [vD (dL a), vD (dL b)] (V.tup [eD (dL r4), eD (dL r5)]) []) ∧
 (R (V.tup [eD (dL r4), eD (dL r5)]) []))))
theorem vc118_ok (a b : DL) {R : V → Heap → Prop} (h : vc118 a b R) : FnG prog 118 [vD (dL a), vD (dL b)] [] R :=
  FnG.vcg hT func118 ntmps118 (.r0 [0, 1] <| .ex fun r => .reg 0 [(2, Or.call (vD (dI r)) [] [], 0, 0)] [0, 1, 8] [] [] <| .c2 (.exl fun r1 => .reg 0 [(1, Or.call (vD (dL r1)) [] [], 0, 0)] [4, 5] [] [] <| .nrm [4, 5] [] <| .ret []) (.r0 [0, 1, 15] <| .c2 (.ex fun vx => .exl fun r2 => .ex fun r3 => .reg 0 [(3, Or.cells [dU vx], 0, 0), (4, Or.call (V.tup [eD (dL r2), eD (dU r3)]) [] [], 0, 0)] [6, 7] [] [] <| .reg 1 [(2, Or.none, 0, 1)] [4, 5] [0] [] <| .frz [0] <| .ret []) (.exl fun r4 => .exl fun r5 => .reg 0 [(2, Or.call (V.tup [eD (dL r4), eD (dL r5)]) [] [], 0, 0)] [4, 5] [] [] <| .ret [])))
    (by kernel_rfl) (by kernel_rfl) (by kernel_rfl) h
end Go.AM
/- What functions of the program come to: group Ob. Printed by vc.py. -/
set_option maxRecDepth 100000
set_option linter.unusedVariables false
namespace Go.AM
open Go.Proofs.Tryz
def vc53 (w0 w1 : Int) (w2 : DLL) (w3 w4 : Int) (w5 : DLL) (w6 w7 : Int) (w8 : DLL) (i j : Int) (R : V → Heap → Prop) : Prop :=
 (0 ≤ i ∧ i < (w2.length : Int)) ∧
 ((0 ≤ j ∧ j < (w2.length : Int)) ∧
 (((j).toNat = (j).toNat) ∧
 ((i).toNat = (i).toNat) ∧
 ((0 ≤ i ∧ i < (w5.length : Int)) ∧
 ((0 ≤ j ∧ j < (w5.length : Int)) ∧
 (∃ (J0 : (DLL) → Int → Prop) (μ0 : (DLL) → Int → Nat),
 J0 w8 (0 : Int) ∧ ∀ (o3 : DLL) (r : Int), J0 o3 r →
 (decide (r < w6) = true →
 ∃ (x0 : Bool) (x1 : DL),
 (0 ≤ r ∧ r < (o3.length : Int)) ∧
 (∃ l, o3[(r).toNat]? = some l ∧ 0 ≤ i ∧ i < (l.length : Int)) ∧
 (at2 o3 (r).toNat (i).toNat = some [dB x0, dL x1]) ∧
 (∃ (x01 : Bool) (x11 : DL),
 (∃ l, o3[(r).toNat]? = some l ∧ 0 ≤ j ∧ j < (l.length : Int)) ∧
 (at2 o3 (r).toNat (j).toNat = some [dB x01, dL x11]) ∧
 ((0 ≤ r ∧ r < ((o3.modify (r).toNat (fun qz => qz.set (i).toNat [dB x01, dL x11])).length : Int)) ∧
 (∃ l, (o3.modify (r).toNat (fun qz => qz.set (i).toNat [dB x01, dL x11]))[(r).toNat]? = some l ∧ 0 ≤ j ∧ j < (l.length : Int)) ∧
 (J0 ((o3.modify (r).toNat (fun qz => qz.set (i).toNat [dB x01, dL x11])).modify (r).toNat (fun qz => qz.set (j).toNat [dB x0, dL x1])) (IntKind.i64.wrap (r + (1 : Int))) ∧ μ0 ((o3.modify (r).toNat (fun qz => qz.set (i).toNat [dB x01, dL x11])).modify (r).toNat (fun qz => qz.set (j).toNat [dB x0, dL x1])) (IntKind.i64.wrap (r + (1 : Int))) < μ0 o3 r)))) ∧
 (decide (r < w6) = false →
 R (V.tup []) [some (Obj.box [sD (dI w0), sD (dI w1), S.ref 4, sD (dI w3), sD (dI w4), S.ref 5, sD (dI w6), sD (dI w7), S.ref 3]), some (Obj.fwd (S.ref 4)), some (Obj.fwd (S.ref 5)), some (Obj.mat 2 o3), some (Obj.mat 2 (swapR w2 ((i).toNat) ((j).toNat))), some (Obj.mat 2 (swapR w5 ((i).toNat) ((j).toNat)))]))))))
theorem vc53_ok (w0 w1 : Int) (w2 : DLL) (w3 w4 : Int) (w5 : DLL) (w6 w7 : Int) (w8 : DLL) (i j : Int) {R : V → Heap → Prop} (h : vc53 w0 w1 w2 w3 w4 w5 w6 w7 w8 i j R) : FnG prog 53 [V.e (E.sc (S.ptr 0 0)), vD (dI i), vD (dI j)] [some (Obj.box [sD (dI w0), sD (dI w1), S.ref 1, sD (dI w3), sD (dI w4), S.ref 2, sD (dI w6), sD (dI w7), S.ref 3]), some (Obj.mat 2 w2), some (Obj.mat 2 w5), some (Obj.mat 2 w8)] R :=
  FnG.vcg hT func53 ntmps53 (.r1 [0, 1, 2, 6] [0, 1, 2, 3] <| .drw 0 [(15, (Or.none, 0, 0), [1])] [0, 1, 2, 6] [0, 1, 2, 3] [.new, .old 1] <| .reg 1 [(8, Or.none, 4, 1)] [0, 1, 2] [0, 1, 2, 3, 4] [.old 0] <| .fwd [] [0] <| .r1 [0, 1, 2, 6] [0, 1, 2, 3, 4] <| .fwd [] [] <| .drw 0 [(15, (Or.none, 0, 0), [2])] [0, 1, 2, 6] [0, 1, 2, 3, 4] [.new, .old 1] <| .fwd [] [] <| .reg 1 [(8, Or.none, 5, 1)] [0, 1, 2] [0, 1, 2, 3, 4, 5] [.old 0, .old 3, .old 2] <| .fwd [] [0] <| .r1 [0, 1, 2, 7] [0, 1, 2, 3, 4, 5] <| .fwd [] [] <| .lp [.m, .i] (fun o3 r => ⟨[(0, vP 0 0), (1, vD (dI i)), (2, vD (dI j)), (7, vD (dI r))], [some (Obj.box [sD (dI w0), sD (dI w1), S.ref 4, sD (dI w3), sD (dI w4), S.ref 5, sD (dI w6), sD (dI w7), S.ref 3]), some (Obj.fwd (S.ref 4)), some (Obj.fwd (S.ref 5)), some (Obj.mat 2 o3), some (Obj.mat 2 (swapR w2 ((i).toNat) ((j).toNat))), some (Obj.mat 2 (swapR w5 ((i).toNat) ((j).toNat)))], 123⟩) [.m w8, .i (0 : Int)] <| .fm fun o3 => .fi fun r => .beg <| .r1 [0, 1, 2, 7, 77] [0, 1, 2, 3, 4, 5] <| .fwd [] [] <| .c2 (.exb fun x0 => .exl fun x1 => .reg 1 [(10, Or.cells [dB x0, dL x1], 0, 0), (11, Or.none, 6, 1)] [0, 1, 2, 7, 8] [0, 1, 2, 3, 6, 4, 5] [] <| .fwd [] [] <| .exb fun x01 => .exl fun x11 => .drw 0 [(19, (Or.cells [dB x01, dL x11], 0, 0), []), (21, (Or.none, 0, 0), [3])] [0, 1, 2, 7, 8] [0, 1, 2, 3, 4, 5, 6] [.old 2, .old 2, .new, .new, .old 3] <| .fwd [] [] <| .drw 0 [(11, (Or.none, 0, 0), [3])] [0, 1, 2, 7] [0, 1, 2, 3, 5, 6] [] <| .fwd [] [] <| .r1 [0, 1, 2, 7] [0, 1, 2, 3, 4, 5] <| .fwd [] [] <| .bk 0 [.m ((o3.modify (r).toNat (fun qz => qz.set (i).toNat [dB x01, dL x11])).modify (r).toNat (fun qz => qz.set (j).toNat [dB x0, dL x1])), .i (IntKind.i64.wrap (r + (1 : Int)))]) (.ret [0, 1, 2, 3, 4, 5]))
    (by kernel_rfl) (by kernel_rfl) (by kernel_rfl) h
def vc54 (w0 w1 : Int) (w2 : DLL) (w3 w4 : Int) (w5 : DLL) (w6 w7 : Int) (w8 : DLL) (i : Int) (R : V → Heap → Prop) : Prop :=
 ∃ (J0 : (DLL) → Int → Prop) (μ0 : (DLL) → Int → Nat),
 J0 w2 (0 : Int) ∧ ∀ (o1 : DLL) (c : Int), J0 o1 c →
 (decide (c < w1) = true →
 ∃ (x0 : Bool) (x1 : DL) (r0 : Bool) (r1 : DL),
 (0 ≤ i ∧ i < (o1.length : Int)) ∧
 (∃ l, o1[(i).toNat]? = some l ∧ 0 ≤ c ∧ c < (l.length : Int)) ∧
 (at2 o1 (i).toNat (c).toNat = some [dB x0, dL x1]) ∧
 (FnD prog 52 [vA [sD (dB x0), sD (dL x1)]] (vA [sD (dB r0), sD (dL r1)]) []) ∧
 (J0 (o1.modify (i).toNat (fun qz => qz.set (c).toNat [dB r0, dL r1])) (IntKind.i64.wrap (c + (1 : Int))) ∧ μ0 (o1.modify (i).toNat (fun qz => qz.set (c).toNat [dB r0, dL r1])) (IntKind.i64.wrap (c + (1 : Int))) < μ0 o1 c)) ∧
 (decide (c < w1) = false →
 ∃ (J1 : (DLL) → Int → Prop) (μ1 : (DLL) → Int → Nat),
 J1 w5 (0 : Int) ∧ ∀ (o2 : DLL) (c1 : Int), J1 o2 c1 →
 (decide (c1 < w4) = true →
 ∃ (x01 : Bool) (x11 : DL) (r01 : Bool) (r11 : DL),
 (0 ≤ i ∧ i < (o2.length : Int)) ∧
 (∃ l, o2[(i).toNat]? = some l ∧ 0 ≤ c1 ∧ c1 < (l.length : Int)) ∧
 (at2 o2 (i).toNat (c1).toNat = some [dB x01, dL x11]) ∧
 (FnD prog 52 [vA [sD (dB x01), sD (dL x11)]] (vA [sD (dB r01), sD (dL r11)]) []) ∧
 (J1 (o2.modify (i).toNat (fun qz => qz.set (c1).toNat [dB r01, dL r11])) (IntKind.i64.wrap (c1 + (1 : Int))) ∧ μ1 (o2.modify (i).toNat (fun qz => qz.set (c1).toNat [dB r01, dL r11])) (IntKind.i64.wrap (c1 + (1 : Int))) < μ1 o2 c1)) ∧
 (decide (c1 < w4) = false →
 ∃ (J2 : (DLL) → Int → Prop) (μ2 : (DLL) → Int → Nat),
 J2 w8 (0 : Int) ∧ ∀ (o3 : DLL) (r : Int), J2 o3 r →
 (decide (r < w6) = true →
 ∃ (x02 : Bool) (x12 : DL) (r02 : Bool) (r12 : DL),
 (0 ≤ r ∧ r < (o3.length : Int)) ∧
 (∃ l, o3[(r).toNat]? = some l ∧ 0 ≤ i ∧ i < (l.length : Int)) ∧
 (at2 o3 (r).toNat (i).toNat = some [dB x02, dL x12]) ∧
 (FnD prog 52 [vA [sD (dB x02), sD (dL x12)]] (vA [sD (dB r02), sD (dL r12)]) []) ∧
 (J2 (o3.modify (r).toNat (fun qz => qz.set (i).toNat [dB r02, dL r12])) (IntKind.i64.wrap (r + (1 : Int))) ∧ μ2 (o3.modify (r).toNat (fun qz => qz.set (i).toNat [dB r02, dL r12])) (IntKind.i64.wrap (r + (1 : Int))) < μ2 o3 r)) ∧
 (decide (r < w6) = false →
 R (V.tup []) [some (Obj.box [sD (dI w0), sD (dI w1), S.ref 1, sD (dI w3), sD (dI w4), S.ref 2, sD (dI w6), sD (dI w7), S.ref 3]), some (Obj.mat 2 o1), some (Obj.mat 2 o2), some (Obj.mat 2 o3)])))
theorem vc54_ok (w0 w1 : Int) (w2 : DLL) (w3 w4 : Int) (w5 : DLL) (w6 w7 : Int) (w8 : DLL) (i : Int) {R : V → Heap → Prop} (h : vc54 w0 w1 w2 w3 w4 w5 w6 w7 w8 i R) : FnG prog 54 [V.e (E.sc (S.ptr 0 0)), vD (dI i)] [some (Obj.box [sD (dI w0), sD (dI w1), S.ref 1, sD (dI w3), sD (dI w4), S.ref 2, sD (dI w6), sD (dI w7), S.ref 3]), some (Obj.mat 2 w2), some (Obj.mat 2 w5), some (Obj.mat 2 w8)] R :=
  FnG.vcg hT func54 ntmps54 (.r1 [0, 1, 4] [0, 1, 2, 3] <| .lp [.m, .i] (fun o1 c => ⟨[(0, vP 0 0), (1, vD (dI i)), (4, vD (dI c))], [some (Obj.box [sD (dI w0), sD (dI w1), S.ref 1, sD (dI w3), sD (dI w4), S.ref 2, sD (dI w6), sD (dI w7), S.ref 3]), some (Obj.mat 2 o1), some (Obj.mat 2 w5), some (Obj.mat 2 w8)], 100⟩) [.m w2, .i (0 : Int)] <| .fm fun o1 => .fi fun c => .beg <| .r1 [0, 1, 4, 13] [0, 1, 2, 3] <| .c2 (.exb fun x0 => .exl fun x1 => .exb fun r0 => .exl fun r1 => .drw 0 [(19, (Or.cells [dB x0, dL x1], 0, 0), []), (20, (Or.call (vA [sD (dB r0), sD (dL r1)]) [] [], 0, 0), []), (22, (Or.none, 0, 0), [1])] [0, 1, 4] [0, 1, 2, 3] [.new, .old 0, .new, .new, .new, .old 2] <| .r1 [0, 1, 4] [0, 1, 2, 3] <| .bk 0 [.m (o1.modify (i).toNat (fun qz => qz.set (c).toNat [dB r0, dL r1])), .i (IntKind.i64.wrap (c + (1 : Int)))]) (.r1 [0, 1, 5] [0, 1, 2, 3] <| .lp [.m, .i] (fun o2 c1 => ⟨[(0, vP 0 0), (1, vD (dI i)), (5, vD (dI c1))], [some (Obj.box [sD (dI w0), sD (dI w1), S.ref 1, sD (dI w3), sD (dI w4), S.ref 2, sD (dI w6), sD (dI w7), S.ref 3]), some (Obj.mat 2 o1), some (Obj.mat 2 o2), some (Obj.mat 2 w8)], 100⟩) [.m w5, .i (0 : Int)] <| .fm fun o2 => .fi fun c1 => .beg <| .r1 [0, 1, 5, 44] [0, 1, 2, 3] <| .c2 (.exb fun x01 => .exl fun x11 => .exb fun r01 => .exl fun r11 => .drw 0 [(19, (Or.cells [dB x01, dL x11], 0, 0), []), (20, (Or.call (vA [sD (dB r01), sD (dL r11)]) [] [], 0, 0), []), (22, (Or.none, 0, 0), [2])] [0, 1, 5] [0, 1, 2, 3] [.new, .old 0, .new, .new, .new, .old 2] <| .r1 [0, 1, 5] [0, 1, 2, 3] <| .bk 0 [.m (o2.modify (i).toNat (fun qz => qz.set (c1).toNat [dB r01, dL r11])), .i (IntKind.i64.wrap (c1 + (1 : Int)))]) (.r1 [0, 1, 6] [0, 1, 2, 3] <| .lp [.m, .i] (fun o3 r => ⟨[(0, vP 0 0), (1, vD (dI i)), (6, vD (dI r))], [some (Obj.box [sD (dI w0), sD (dI w1), S.ref 1, sD (dI w3), sD (dI w4), S.ref 2, sD (dI w6), sD (dI w7), S.ref 3]), some (Obj.mat 2 o1), some (Obj.mat 2 o2), some (Obj.mat 2 o3)], 100⟩) [.m w8, .i (0 : Int)] <| .fm fun o3 => .fi fun r => .beg <| .r1 [0, 1, 6, 75] [0, 1, 2, 3] <| .c2 (.exb fun x02 => .exl fun x12 => .exb fun r02 => .exl fun r12 => .drw 0 [(19, (Or.cells [dB x02, dL x12], 0, 0), []), (20, (Or.call (vA [sD (dB r02), sD (dL r12)]) [] [], 0, 0), []), (22, (Or.none, 0, 0), [3])] [0, 1, 6] [0, 1, 2, 3] [.new, .old 0, .new, .new, .new, .old 2] <| .r1 [0, 1, 6] [0, 1, 2, 3] <| .bk 0 [.m (o3.modify (r).toNat (fun qz => qz.set (i).toNat [dB r02, dL r12])), .i (IntKind.i64.wrap (r + (1 : Int)))]) (.ret [0, 1, 2, 3]))))
    (by kernel_rfl) (by kernel_rfl) (by kernel_rfl) h
def vc51 (w0 w1 : Int) (w2 : DLL) (w3 w4 : Int) (w5 : DLL) (w6 w7 : Int) (w8 : DLL) (i j : Int) (k0 : Bool) (k1 : DL) (R : V → Heap → Prop) : Prop :=
 ∃ (J0 : (DLL) → Int → Prop) (μ0 : (DLL) → Int → Nat),
 J0 w2 (0 : Int) ∧ ∀ (o1 : DLL) (c : Int), J0 o1 c →
 (decide (c < w1) = true →
 ∃ (x0 : Bool) (x1 : DL) (x01 : Bool) (x11 : DL) (r0 : Bool) (r1 : DL) (r01 : Bool) (r11 : DL),
 (0 ≤ i ∧ i < (o1.length : Int)) ∧
 (∃ l, o1[(i).toNat]? = some l ∧ 0 ≤ c ∧ c < (l.length : Int)) ∧
 (at2 o1 (i).toNat (c).toNat = some [dB x0, dL x1]) ∧
 (0 ≤ j ∧ j < (o1.length : Int)) ∧
 (∃ l, o1[(j).toNat]? = some l ∧ 0 ≤ c ∧ c < (l.length : Int)) ∧
 (at2 o1 (j).toNat (c).toNat = some [dB x01, dL x11]) ∧
 (FnD prog 91 [vA [sD (dB k0), sD (dL k1)], vA [sD (dB x01), sD (dL x11)]] (vA [sD (dB r0), sD (dL r1)]) []) ∧
 (FnD prog 24 [vA [sD (dB x0), sD (dL x1)], vA [sD (dB r0), sD (dL r1)]] (vA [sD (dB r01), sD (dL r11)]) []) ∧
 (J0 (o1.modify (i).toNat (fun qz => qz.set (c).toNat [dB r01, dL r11])) (IntKind.i64.wrap (c + (1 : Int))) ∧ μ0 (o1.modify (i).toNat (fun qz => qz.set (c).toNat [dB r01, dL r11])) (IntKind.i64.wrap (c + (1 : Int))) < μ0 o1 c)) ∧
 (decide (c < w1) = false →
 ∃ (J1 : (DLL) → Int → Prop) (μ1 : (DLL) → Int → Nat),
 J1 w5 (0 : Int) ∧ ∀ (o2 : DLL) (c1 : Int), J1 o2 c1 →
 (decide (c1 < w4) = true →
 ∃ (x02 : Bool) (x12 : DL) (x03 : Bool) (x13 : DL) (r02 : Bool) (r12 : DL) (r03 : Bool) (r13 : DL),
 (0 ≤ i ∧ i < (o2.length : Int)) ∧
 (∃ l, o2[(i).toNat]? = some l ∧ 0 ≤ c1 ∧ c1 < (l.length : Int)) ∧
 (at2 o2 (i).toNat (c1).toNat = some [dB x02, dL x12]) ∧
 (0 ≤ j ∧ j < (o2.length : Int)) ∧
 (∃ l, o2[(j).toNat]? = some l ∧ 0 ≤ c1 ∧ c1 < (l.length : Int)) ∧
 (at2 o2 (j).toNat (c1).toNat = some [dB x03, dL x13]) ∧
 (FnD prog 91 [vA [sD (dB k0), sD (dL k1)], vA [sD (dB x03), sD (dL x13)]] (vA [sD (dB r02), sD (dL r12)]) []) ∧
 (FnD prog 24 [vA [sD (dB x02), sD (dL x12)], vA [sD (dB r02), sD (dL r12)]] (vA [sD (dB r03), sD (dL r13)]) []) ∧
 (J1 (o2.modify (i).toNat (fun qz => qz.set (c1).toNat [dB r03, dL r13])) (IntKind.i64.wrap (c1 + (1 : Int))) ∧ μ1 (o2.modify (i).toNat (fun qz => qz.set (c1).toNat [dB r03, dL r13])) (IntKind.i64.wrap (c1 + (1 : Int))) < μ1 o2 c1)) ∧
 (decide (c1 < w4) = false →
 ∃ (J2 : (DLL) → Int → Prop) (μ2 : (DLL) → Int → Nat),
 J2 w8 (0 : Int) ∧ ∀ (o3 : DLL) (r : Int), J2 o3 r →
 (decide (r < w6) = true →
 ∃ (x04 : Bool) (x14 : DL) (x05 : Bool) (x15 : DL) (r04 : Bool) (r14 : DL) (r05 : Bool) (r15 : DL),
 (0 ≤ r ∧ r < (o3.length : Int)) ∧
 (∃ l, o3[(r).toNat]? = some l ∧ 0 ≤ j ∧ j < (l.length : Int)) ∧
 (at2 o3 (r).toNat (j).toNat = some [dB x04, dL x14]) ∧
 (∃ l, o3[(r).toNat]? = some l ∧ 0 ≤ i ∧ i < (l.length : Int)) ∧
 (at2 o3 (r).toNat (i).toNat = some [dB x05, dL x15]) ∧
 (FnD prog 91 [vA [sD (dB k0), sD (dL k1)], vA [sD (dB x05), sD (dL x15)]] (vA [sD (dB r04), sD (dL r14)]) []) ∧
 (FnD prog 90 [vA [sD (dB x04), sD (dL x14)], vA [sD (dB r04), sD (dL r14)]] (vA [sD (dB r05), sD (dL r15)]) []) ∧
 (J2 (o3.modify (r).toNat (fun qz => qz.set (j).toNat [dB r05, dL r15])) (IntKind.i64.wrap (r + (1 : Int))) ∧ μ2 (o3.modify (r).toNat (fun qz => qz.set (j).toNat [dB r05, dL r15])) (IntKind.i64.wrap (r + (1 : Int))) < μ2 o3 r)) ∧
 (decide (r < w6) = false →
 R (V.tup []) [some (Obj.box [sD (dI w0), sD (dI w1), S.ref 1, sD (dI w3), sD (dI w4), S.ref 2, sD (dI w6), sD (dI w7), S.ref 3]), some (Obj.mat 2 o1), some (Obj.mat 2 o2), some (Obj.mat 2 o3)])))
theorem vc51_ok (w0 w1 : Int) (w2 : DLL) (w3 w4 : Int) (w5 : DLL) (w6 w7 : Int) (w8 : DLL) (i j : Int) (k0 : Bool) (k1 : DL) {R : V → Heap → Prop} (h : vc51 w0 w1 w2 w3 w4 w5 w6 w7 w8 i j k0 k1 R) : FnG prog 51 [V.e (E.sc (S.ptr 0 0)), vD (dI i), vD (dI j), vA [sD (dB k0), sD (dL k1)]] [some (Obj.box [sD (dI w0), sD (dI w1), S.ref 1, sD (dI w3), sD (dI w4), S.ref 2, sD (dI w6), sD (dI w7), S.ref 3]), some (Obj.mat 2 w2), some (Obj.mat 2 w5), some (Obj.mat 2 w8)] R :=
  FnG.vcg hT func51 ntmps51 (.reg 1 [(0, Or.none, 4, 1)] [0, 1, 2, 7] [0, 1, 2, 3, 4] [] <| .r1 [0, 1, 2, 7, 8] [0, 1, 2, 3, 4] <| .lp [.m, .i] (fun o1 c => ⟨[(0, vP 0 0), (1, vD (dI i)), (2, vD (dI j)), (7, vP 4 0), (8, vD (dI c))], [some (Obj.box [sD (dI w0), sD (dI w1), S.ref 1, sD (dI w3), sD (dI w4), S.ref 2, sD (dI w6), sD (dI w7), S.ref 3]), some (Obj.mat 2 o1), some (Obj.mat 2 w5), some (Obj.mat 2 w8), some (Obj.box [sD (dB k0), sD (dL k1)])], 143⟩) [.m w2, .i (0 : Int)] <| .fm fun o1 => .fi fun c => .beg <| .r1 [0, 1, 2, 7, 8, 17] [0, 1, 2, 3, 4] <| .c2 (.exb fun x0 => .exl fun x1 => .exb fun x01 => .exl fun x11 => .exb fun r0 => .exl fun r1 => .exb fun r01 => .exl fun r11 => .drw 0 [(19, (Or.cells [dB x0, dL x1], 0, 0), []), (31, (Or.cells [dB x01, dL x11], 0, 0), []), (32, (Or.call (vA [sD (dB r0), sD (dL r1)]) [] [], 0, 0), []), (33, (Or.call (vA [sD (dB r01), sD (dL r11)]) [] [], 0, 0), []), (35, (Or.none, 0, 0), [1])] [0, 1, 2, 7, 8] [0, 1, 2, 3, 4] [.new, .old 0, .new, .new, .new, .new, .new, .new, .new, .old 6] <| .r1 [0, 1, 2, 7, 8] [0, 1, 2, 3, 4] <| .bk 0 [.m (o1.modify (i).toNat (fun qz => qz.set (c).toNat [dB r01, dL r11])), .i (IntKind.i64.wrap (c + (1 : Int)))]) (.r1 [0, 1, 2, 7, 9] [0, 1, 2, 3, 4] <| .lp [.m, .i] (fun o2 c1 => ⟨[(0, vP 0 0), (1, vD (dI i)), (2, vD (dI j)), (7, vP 4 0), (9, vD (dI c1))], [some (Obj.box [sD (dI w0), sD (dI w1), S.ref 1, sD (dI w3), sD (dI w4), S.ref 2, sD (dI w6), sD (dI w7), S.ref 3]), some (Obj.mat 2 o1), some (Obj.mat 2 o2), some (Obj.mat 2 w8), some (Obj.box [sD (dB k0), sD (dL k1)])], 143⟩) [.m w5, .i (0 : Int)] <| .fm fun o2 => .fi fun c1 => .beg <| .r1 [0, 1, 2, 7, 9, 61] [0, 1, 2, 3, 4] <| .c2 (.exb fun x02 => .exl fun x12 => .exb fun x03 => .exl fun x13 => .exb fun r02 => .exl fun r12 => .exb fun r03 => .exl fun r13 => .drw 0 [(19, (Or.cells [dB x02, dL x12], 0, 0), []), (31, (Or.cells [dB x03, dL x13], 0, 0), []), (32, (Or.call (vA [sD (dB r02), sD (dL r12)]) [] [], 0, 0), []), (33, (Or.call (vA [sD (dB r03), sD (dL r13)]) [] [], 0, 0), []), (35, (Or.none, 0, 0), [2])] [0, 1, 2, 7, 9] [0, 1, 2, 3, 4] [.new, .old 0, .new, .new, .new, .new, .new, .new, .new, .old 6] <| .r1 [0, 1, 2, 7, 9] [0, 1, 2, 3, 4] <| .bk 0 [.m (o2.modify (i).toNat (fun qz => qz.set (c1).toNat [dB r03, dL r13])), .i (IntKind.i64.wrap (c1 + (1 : Int)))]) (.r1 [0, 1, 2, 7, 10] [0, 1, 2, 3, 4] <| .lp [.m, .i] (fun o3 r => ⟨[(0, vP 0 0), (1, vD (dI i)), (2, vD (dI j)), (7, vP 4 0), (10, vD (dI r))], [some (Obj.box [sD (dI w0), sD (dI w1), S.ref 1, sD (dI w3), sD (dI w4), S.ref 2, sD (dI w6), sD (dI w7), S.ref 3]), some (Obj.mat 2 o1), some (Obj.mat 2 o2), some (Obj.mat 2 o3), some (Obj.box [sD (dB k0), sD (dL k1)])], 143⟩) [.m w8, .i (0 : Int)] <| .fm fun o3 => .fi fun r => .beg <| .r1 [0, 1, 2, 7, 10, 105] [0, 1, 2, 3, 4] <| .c2 (.exb fun x04 => .exl fun x14 => .exb fun x05 => .exl fun x15 => .exb fun r04 => .exl fun r14 => .exb fun r05 => .exl fun r15 => .drw 0 [(19, (Or.cells [dB x04, dL x14], 0, 0), []), (31, (Or.cells [dB x05, dL x15], 0, 0), []), (32, (Or.call (vA [sD (dB r04), sD (dL r14)]) [] [], 0, 0), []), (33, (Or.call (vA [sD (dB r05), sD (dL r15)]) [] [], 0, 0), []), (35, (Or.none, 0, 0), [3])] [0, 1, 2, 7, 10] [0, 1, 2, 3, 4] [.new, .old 0, .new, .new, .old 2, .new, .new, .new, .new, .old 5] <| .r1 [0, 1, 2, 7, 10] [0, 1, 2, 3, 4] <| .bk 0 [.m (o3.modify (r).toNat (fun qz => qz.set (j).toNat [dB r05, dL r15])), .i (IntKind.i64.wrap (r + (1 : Int)))]) (.ret [0, 1, 2, 3]))))
    (by kernel_rfl) (by kernel_rfl) (by kernel_rfl) h
end Go.AM
/- torsionref18.Apply: the operations on a matrix with its transforms. -/
namespace Go.AM
open Go.Proofs.Tryz
theorem rsub_ok {x y : Int} (hx : Sz x) (hy : Sz y) : FnD prog 90 [eI x, eI y] (eI (x - y)) [] := by
  refine vc90_ok _ _ _ _ (R := Out _) ?_
  unfold vc90
  have hy' : Sz (-y) := by unfold Sz; rw [Int.natAbs_neg]; exact hy
  have h := radd_ok hx hy'
  rw [← Int.sub_eq_add_neg] at h
  exact ⟨_, _, _, _, rneg_ok hy, h, rfl, rfl⟩
def colF (o : Opz) (f : Nat → Nat → Int) (a b : Nat) : Int :=
  if o.k = 1 then (if b = o.i then f a o.j else if b = o.j then f a o.i else f a b)
  else if o.k = 2 then (if b = o.i then - f a b else f a b)
  else if b = o.j then f a b - o.z * f a o.i else f a b
def apC (n : Nat) (o : Opz) (m : List (List Int)) : List (List Int) := table n n (colF o (el m))
def apCL (n : Nat) : List Opz → List (List Int) → List (List Int)
  | [], m => m
  | o :: l, m => apCL n l (apC n o m)
theorem apC_mx (n : Nat) (o : Opz) (m : List (List Int)) : Mx n n (apC n o m) := table_mx _ _ _
theorem apCL_mx {n : Nat} : ∀ (l : List Opz) {m : List (List Int)}, Mx n n m → Mx n n (apCL n l m)
  | [], _, h => h
  | _ :: l, _, _ => apCL_mx l (apC_mx _ _ _)
theorem apCL_append {n : Nat} : ∀ (l l' : List Opz) (m : List (List Int)), apCL n (l ++ l') m = apCL n l' (apCL n l m)
  | [], _, _ => rfl
  | o :: l, l', m => by simp only [List.cons_append, apCL]; exact apCL_append l l' _
def cP (o : Opz) (f : Nat → Nat → Int) (t : Nat) (a b : Nat) : Int := if a < t then colF o f a b else f a b
theorem cP_zero {n : Nat} {o : Opz} {m : List (List Int)} (hm : Mx n n m) : om m = om (table n n (cP o (el m) 0)) := by
  congr 1
  refine Eq.trans (mx_table hm) (table_congr fun a b _ _ => ?_)
  simp [cP]
theorem cP_all {n : Nat} {o : Opz} {m : List (List Int)} : om (table n n (cP o (el m) n)) = om (apC n o m) := by
  unfold apC
  congr 1
  exact table_congr fun a b ha _ => by unfold cP; rw [if_pos ha]
theorem cP_at {o : Opz} {f : Nat → Nat → Int} {t b : Nat} : cP o f t t b = f t b := by unfold cP; rw [if_neg (by omega)]
theorem cP_one {n : Nat} {o : Opz} {f : Nat → Nat → Int} {t j : Nat} {v : Int} (ht : t < n) (hj : j < n) (hv : colF o f t j = v) (ho : ∀ b, b < n → b ≠ j → colF o f t b = f t b) :
    (om (table n n (cP o f t))).modify t (fun q => q.set j (cI v)) = om (table n n (cP o f (t + 1))) := by
  refine Eq.trans (om_set ht hj) ?_
  congr 1
  refine table_congr fun a b _ hb => ?_
  unfold cP
  by_cases h1 : a = t ∧ b = j
  · rw [if_pos h1, if_pos (by omega), h1.1, h1.2, hv]
  · rw [if_neg h1]
    by_cases h2 : a < t
    · rw [if_pos h2, if_pos (by omega)]
    · rw [if_neg h2]
      by_cases h3 : a = t
      · subst h3
        rw [if_pos (by omega), ho b hb (by omega)]
      · rw [if_neg (by omega)]
def wH (r c : Nat) (m u v : List (List Int)) : Heap :=
  [some (.box [sD (dI r), sD (dI c), .ref 1, sD (dI r), sD (dI r), .ref 2, sD (dI r), sD (dI r), .ref 3]), some (.mat 2 (om m)), some (.mat 2 (om u)), some (.mat 2 (om v))]
theorem swapR_om {r c : Nat} {o : Opz} {m : List (List Int)} (h : vO r o = true) (hk : o.k = 1) (hm : Mx r c m) : swapR (om m) o.i o.j = om (apO r c o m) := by
  obtain ⟨hi, _⟩ := vO_ok h
  have hj := vO_j h (by omega)
  rw [mx_table hm]
  unfold swapR apO
  apply List.ext_getElem?
  intro k
  have hlen : (om (table r c (el m))).length = r := om_len
  have hg : ∀ a, a < r → (om (table r c (el m))).getD a [] = row (tableR c (el m a)) := fun a ha => by
    simp [om, table, ha]
  have hF : ∀ a, a < r → (om (table r c (opF o (el (table r c (el m))))))[a]? = some (row (tableR c (opF o (el (table r c (el m))) a))) := fun a ha => by
    simp [om, table, ha]
  have hE : ∀ a b, a < r → b < c → el (table r c (el m)) a b = el m a b := fun a b ha hb => el_table ha hb
  have hrow : ∀ {f g : Nat → Int}, (∀ b, b < c → f b = g b) → tableR c f = tableR c g := fun hfg => List.map_congr_left fun b hb => hfg b (List.mem_range.1 hb)
  by_cases hkr : k < r
  · rw [hF k hkr, hg _ hi, hg _ hj]
    by_cases e1 : o.j = k
    · subst e1
      rw [List.getElem?_set_self (by simp [hlen]; exact hj)]
      congr 2
      refine hrow fun b hb => ?_
      by_cases e2 : o.j = o.i
      · simp only [opF, hk, if_true, e2]; rw [hE _ _ hi hb]
      · simp only [opF, hk, if_true, if_neg e2]; rw [hE _ _ hi hb]
    · rw [List.getElem?_set_ne e1]
      by_cases e2 : o.i = k
      · subst e2
        rw [List.getElem?_set_self (by rw [hlen]; exact hi)]
        congr 2
        refine hrow fun b hb => ?_
        simp only [opF, hk, if_true]; rw [hE _ _ hj hb]
      · rw [List.getElem?_set_ne e2]
        have : (om (table r c (el m)))[k]? = some (row (tableR c (el m k))) := by simp [om, table, hkr]
        rw [this]
        congr 2
        refine hrow fun b hb => ?_
        simp only [opF, hk, if_true, if_neg (Ne.symm e2), if_neg (Ne.symm e1)]; rw [hE _ _ hkr hb]
  · rw [List.getElem?_eq_none (by simp [hlen]; omega), List.getElem?_eq_none (by rw [om_len]; omega)]
def wHs (r c : Nat) (m u v : List (List Int)) : Heap :=
  [some (.box [sD (dI r), sD (dI c), .ref 4, sD (dI r), sD (dI r), .ref 5, sD (dI r), sD (dI r), .ref 3]), some (.fwd (.ref 4)), some (.fwd (.ref 5)), some (.mat 2 (om v)), some (.mat 2 (om m)), some (.mat 2 (om u))]
theorem wswap_ok {r c : Nat} {o : Opz} {m u v : List (List Int)} (h : vO r o = true) (hk : o.k = 1) (hm : Mx r c m) (hu : Mx r r u) (hv : Mx r r v) (hr : r ≤ 4294967296) :
    FnO prog 53 [vP 0 0, vi o.i, vi o.j] (wH r c m u v) (.tup []) (wHs r c (apO r c o m) (apO r r o u) (apC r o v)) := by
  obtain ⟨hi, hcase⟩ := vO_ok h
  have hj := vO_j h (by omega)
  have hne : o.i ≠ o.j := by
    rcases hcase with h | h | h
    · omega
    · exact h.2.2.1
    · exact h.2.2
  refine vc53_ok _ _ _ _ _ _ _ _ _ _ _ (R := fun x y => x = .tup [] ∧ y = wHs r c (apO r c o m) (apO r r o u) (apC r o v)) ?_
  unfold vc53
  have lm : (om m).length = r := by rw [om_length, hm.1]
  have lu : (om u).length = r := by rw [om_length, hu.1]
  refine ⟨⟨by omega, by omega⟩, ⟨by omega, by omega⟩, rfl, rfl, ⟨by omega, by omega⟩, ⟨by omega, by omega⟩, ?_⟩
  refine ⟨fun a t => ∃ n : Nat, t = (n : Int) ∧ n ≤ r ∧ a = om (table r r (cP o (el v) n)), fun _ t => ((r : Int) - t).toNat, ⟨0, rfl, by omega, cP_zero hv⟩, ?_⟩
  rintro _ _ ⟨n, rfl, hn, rfl⟩
  refine ⟨fun h2 => ?_, fun h2 => ?_⟩
  · have hnr : n < r := by simpa using h2
    have e1 : (om (table r r (cP o (el v) n))).modify (n : Int).toNat (fun q => q.set (o.i : Int).toNat (cI (el v n o.j))) = om (table r r fun a b => if a = n ∧ b = o.i then el v n o.j else cP o (el v) n a b) := by
      rw [Int.toNat_natCast, Int.toNat_natCast]; exact om_set hnr hi
    have e2 : cP o (el v) n (n : Int).toNat (o.i : Int).toNat = el v n o.i := by rw [Int.toNat_natCast, Int.toNat_natCast]; exact cP_at
    have e3 : cP o (el v) n (n : Int).toNat (o.j : Int).toNat = el v n o.j := by rw [Int.toNat_natCast, Int.toNat_natCast]; exact cP_at
    have a1 := at2_om (r := r) (c := r) (g := cP o (el v) n) (i := (n : Int).toNat) (j := (o.i : Int).toNat) (by omega) (by omega)
    have a2 := at2_om (r := r) (c := r) (g := cP o (el v) n) (i := (n : Int).toNat) (j := (o.j : Int).toNat) (by omega) (by omega)
    rw [e2] at a1
    rw [e3] at a2
    refine ⟨_, _, ⟨by omega, by rw [om_len]; omega⟩, om_in hnr hi, a1, _, _, om_in hnr hj, a2, ?_⟩
    have e1' : (om (table r r (cP o (el v) n))).modify (n : Int).toNat (fun q => q.set (o.i : Int).toNat [dB (decide (el v n o.j < 0)), dL (lim (digs (el v n o.j).natAbs))]) = om (table r r fun a b => if a = n ∧ b = o.i then el v n o.j else cP o (el v) n a b) := e1
    rw [e1', inc64 (by omega)]
    refine ⟨⟨by omega, by rw [om_len]; omega⟩, om_in hnr hj, ⟨n + 1, rfl, by omega, ?_⟩, by show ((r : Int) - ((n + 1 : Nat) : Int)).toNat < ((r : Int) - (n : Int)).toNat; omega⟩
    rw [Int.toNat_natCast, Int.toNat_natCast]
    refine Eq.trans (om_set hnr hj) ?_
    congr 1
    refine table_congr fun a b _ _ => ?_
    unfold cP colF
    simp only [hk, if_true]
    by_cases ha : a = n
    · subst ha
      by_cases hb : b = o.j
      · subst hb
        simp [Ne.symm hne]
      · by_cases hb' : b = o.i
        · subst hb'; simp [hne]
        · simp [hb, hb']
    · by_cases ha' : a < n
      · simp [ha, ha', show a < n + 1 by omega]
      · simp [ha, ha', show ¬ a < n + 1 by omega]
  · have hnr : n = r := by have : r ≤ n := by simpa using h2
                           omega
    subst hnr
    rw [Int.toNat_natCast, Int.toNat_natCast, swapR_om h hk hm, swapR_om h hk hu, cP_all]
    exact ⟨rfl, rfl⟩
end Go.AM
/- torsionref18: Negate and AddTo on the work matrices; Valid, Apply, Matrix, Invert. -/
namespace Go.AM
open Go.Proofs.Tryz
theorem rowM_in {r c : Nat} {g : Nat → Nat → Int} {i j : Nat} (hi : i < r) (hj : j < c) : at2 (om (table r c g)) (i : Int).toNat (j : Int).toNat = some (cI (g i j)) := by
  rw [Int.toNat_natCast, Int.toNat_natCast]; exact at2_om hi hj
end Go.AM
/- The work matrices' operations, for numbers of any size that fits. -/
namespace Go.AM
open Go.Proofs.Tryz
theorem wneg_gen {r c K : Nat} {o : Opz} {m u v : List (List Int)} (h : vO r o = true) (hk : o.k = 2) (hm : Mx r c m) (hu : Mx r r u) (hv : Mx r r v) (km : BdM K m) (ku : BdM K u) (kv : BdM K v)
    (hK : ∀ y : Int, y.natAbs ≤ K → Sz y) (hr : r ≤ 4294967296) (hc : c ≤ 4294967296) :
    FnO prog 54 [vP 0 0, vi o.i] (wH r c m u v) (.tup []) (wH r c (apO r c o m) (apO r r o u) (apC r o v)) := by
  obtain ⟨hi, _⟩ := vO_ok h
  refine vc54_ok _ _ _ _ _ _ _ _ _ _ (R := fun x y => x = .tup [] ∧ y = wH r c (apO r c o m) (apO r r o u) (apC r o v)) ?_
  unfold vc54
  have sz : ∀ {z : Int}, z.natAbs ≤ K → Sz z := fun h => hK _ h
  refine ⟨fun a t => ∃ n : Nat, t = (n : Int) ∧ n ≤ c ∧ a = om (table r c (rF o (el m) n)), fun _ t => ((c : Int) - t).toNat, ⟨0, rfl, by omega, rF_zero hm⟩, ?_⟩
  rintro _ _ ⟨n, rfl, hn, rfl⟩
  refine ⟨fun h2 => ?_, fun h2 => ?_⟩
  · have hnc : n < c := by simpa using h2
    have e : rF o (el m) n o.i n = el m o.i n := by unfold rF; rw [if_neg (by omega)]
    have e2 : opF o (el m) o.i n = - el m o.i n := by simp [opF, hk]
    have a1 := rowM_in (r := r) (c := c) (g := rF o (el m) n) hi hnc
    rw [e] at a1
    have f1 := rneg_ok (sz (el_bd hm km hi hnc))
    rw [← e2] at f1
    refine ⟨_, _, _, _, ⟨by omega, by rw [om_len]; omega⟩, om_in hi hnc, a1, f1, ?_⟩
    rw [inc64 (by omega)]
    refine ⟨⟨n + 1, rfl, by omega, ?_⟩, by show ((c : Int) - ((n + 1 : Nat) : Int)).toNat < ((c : Int) - (n : Int)).toNat; omega⟩
    rw [Int.toNat_natCast, Int.toNat_natCast]
    exact rF_step hi hnc
  have hnc : n = c := by have : c ≤ n := by simpa using h2
                         omega
  subst hnc
  refine ⟨fun a t => ∃ n : Nat, t = (n : Int) ∧ n ≤ r ∧ a = om (table r r (rF o (el u) n)), fun _ t => ((r : Int) - t).toNat, ⟨0, rfl, by omega, rF_zero hu⟩, ?_⟩
  rintro _ _ ⟨p, rfl, hp, rfl⟩
  refine ⟨fun h2 => ?_, fun h2 => ?_⟩
  · have hnc : p < r := by simpa using h2
    have e : rF o (el u) p o.i p = el u o.i p := by unfold rF; rw [if_neg (by omega)]
    have e2 : opF o (el u) o.i p = - el u o.i p := by simp [opF, hk]
    have a1 := rowM_in (r := r) (c := r) (g := rF o (el u) p) hi hnc
    rw [e] at a1
    have f1 := rneg_ok (sz (el_bd hu ku hi hnc))
    rw [← e2] at f1
    refine ⟨_, _, _, _, ⟨by omega, by rw [om_len]; omega⟩, om_in hi hnc, a1, f1, ?_⟩
    rw [inc64 (by omega)]
    refine ⟨⟨p + 1, rfl, by omega, ?_⟩, by show ((r : Int) - ((p + 1 : Nat) : Int)).toNat < ((r : Int) - (p : Int)).toNat; omega⟩
    rw [Int.toNat_natCast, Int.toNat_natCast]
    exact rF_step hi hnc
  have hpr : p = r := by have : r ≤ p := by simpa using h2
                         omega
  subst hpr
  refine ⟨fun a t => ∃ q : Nat, t = (q : Int) ∧ q ≤ p ∧ a = om (table p p (cP o (el v) q)), fun _ t => ((p : Int) - t).toNat, ⟨0, rfl, by omega, cP_zero hv⟩, ?_⟩
  rintro _ _ ⟨q, rfl, hq, rfl⟩
  refine ⟨fun h2 => ?_, fun h2 => ?_⟩
  · have hqr : q < p := by simpa using h2
    have a1 := rowM_in (r := p) (c := p) (g := cP o (el v) q) hqr hi
    rw [cP_at] at a1
    have f1 := rneg_ok (sz (el_bd hv kv hqr hi))
    refine ⟨_, _, _, _, ⟨by omega, by rw [om_len]; omega⟩, om_in hqr hi, a1, f1, ?_⟩
    rw [inc64 (by omega)]
    refine ⟨⟨q + 1, rfl, by omega, ?_⟩, by show ((p : Int) - ((q + 1 : Nat) : Int)).toNat < ((p : Int) - (q : Int)).toNat; omega⟩
    rw [Int.toNat_natCast, Int.toNat_natCast]
    exact cP_one hqr hi (by simp [colF, hk]) fun b _ hb => by simp [colF, hk, hb]
  · have hqr : q = p := by have : p ≤ q := by simpa using h2
                           omega
    subst hqr
    rw [rF_all (by omega), rF_all (by omega), cP_all]
    exact ⟨rfl, rfl⟩
theorem wadd_gen {r c K : Nat} {o : Opz} {m u v : List (List Int)} (h : vO r o = true) (hk : o.k = 3) (hm : Mx r c m) (hu : Mx r r u) (hv : Mx r r v) (km : BdM K m) (ku : BdM K u) (kv : BdM K v) (hz : Sz o.z)
    (hK : ∀ y : Int, y.natAbs ≤ K → Sz y ∧ Sz (o.z * y)) (hr : r ≤ 4294967296) (hc : c ≤ 4294967296) :
    FnO prog 51 [vP 0 0, vi o.i, vi o.j, eI o.z] (wH r c m u v) (.tup []) (wH r c (apO r c o m) (apO r r o u) (apC r o v)) := by
  obtain ⟨hi, hcase⟩ := vO_ok h
  have hj := vO_j h (by omega)
  have hne : o.i ≠ o.j := by
    rcases hcase with h | h | h
    · omega
    · omega
    · exact h.2.2
  refine vc51_ok _ _ _ _ _ _ _ _ _ _ _ _ _ (R := fun x y => x = .tup [] ∧ y = wH r c (apO r c o m) (apO r r o u) (apC r o v)) ?_
  unfold vc51
  have szm : ∀ {x y : Int}, x.natAbs ≤ K → y.natAbs ≤ K → Sz x ∧ Sz y ∧ Sz o.z ∧ Sz (o.z * y) := fun {x y} hx hy =>
    ⟨(hK x hx).1, (hK y hy).1, hz, (hK y hy).2⟩
  refine ⟨fun a t => ∃ n : Nat, t = (n : Int) ∧ n ≤ c ∧ a = om (table r c (rF o (el m) n)), fun _ t => ((c : Int) - t).toNat, ⟨0, rfl, by omega, rF_zero hm⟩, ?_⟩
  rintro _ _ ⟨n, rfl, hn, rfl⟩
  refine ⟨fun h2 => ?_, fun h2 => ?_⟩
  · have hnc : n < c := by simpa using h2
    have e : rF o (el m) n o.i n = el m o.i n := by unfold rF; rw [if_neg (by omega)]
    have e' : rF o (el m) n o.j n = el m o.j n := by unfold rF; rw [if_neg (by omega)]
    have e2 : opF o (el m) o.i n = el m o.i n + o.z * el m o.j n := by simp [opF, hk]
    have a1 := rowM_in (r := r) (c := c) (g := rF o (el m) n) hi hnc
    have a2 := rowM_in (r := r) (c := c) (g := rF o (el m) n) hj hnc
    rw [e] at a1
    rw [e'] at a2
    obtain ⟨s1, s2, s3, s4⟩ := szm (el_bd hm km hi hnc) (el_bd hm km hj hnc)
    have f1 := rmul_ok s3 s2
    have f2 := radd_ok s1 s4
    rw [← e2] at f2
    refine ⟨_, _, _, _, _, _, _, _, ⟨by omega, by rw [om_len]; omega⟩, om_in hi hnc, a1, ⟨by omega, by rw [om_len]; omega⟩, om_in hj hnc, a2, f1, f2, ?_⟩
    rw [inc64 (by omega)]
    refine ⟨⟨n + 1, rfl, by omega, ?_⟩, by show ((c : Int) - ((n + 1 : Nat) : Int)).toNat < ((c : Int) - (n : Int)).toNat; omega⟩
    rw [Int.toNat_natCast, Int.toNat_natCast]
    exact rF_step hi hnc
  have hnc : n = c := by have : c ≤ n := by simpa using h2
                         omega
  subst hnc
  refine ⟨fun a t => ∃ n : Nat, t = (n : Int) ∧ n ≤ r ∧ a = om (table r r (rF o (el u) n)), fun _ t => ((r : Int) - t).toNat, ⟨0, rfl, by omega, rF_zero hu⟩, ?_⟩
  rintro _ _ ⟨p, rfl, hp, rfl⟩
  refine ⟨fun h2 => ?_, fun h2 => ?_⟩
  · have hnc : p < r := by simpa using h2
    have e : rF o (el u) p o.i p = el u o.i p := by unfold rF; rw [if_neg (by omega)]
    have e' : rF o (el u) p o.j p = el u o.j p := by unfold rF; rw [if_neg (by omega)]
    have e2 : opF o (el u) o.i p = el u o.i p + o.z * el u o.j p := by simp [opF, hk]
    have a1 := rowM_in (r := r) (c := r) (g := rF o (el u) p) hi hnc
    have a2 := rowM_in (r := r) (c := r) (g := rF o (el u) p) hj hnc
    rw [e] at a1
    rw [e'] at a2
    obtain ⟨s1, s2, s3, s4⟩ := szm (el_bd hu ku hi hnc) (el_bd hu ku hj hnc)
    have f1 := rmul_ok s3 s2
    have f2 := radd_ok s1 s4
    rw [← e2] at f2
    refine ⟨_, _, _, _, _, _, _, _, ⟨by omega, by rw [om_len]; omega⟩, om_in hi hnc, a1, ⟨by omega, by rw [om_len]; omega⟩, om_in hj hnc, a2, f1, f2, ?_⟩
    rw [inc64 (by omega)]
    refine ⟨⟨p + 1, rfl, by omega, ?_⟩, by show ((r : Int) - ((p + 1 : Nat) : Int)).toNat < ((r : Int) - (p : Int)).toNat; omega⟩
    rw [Int.toNat_natCast, Int.toNat_natCast]
    exact rF_step hi hnc
  have hpr : p = r := by have : r ≤ p := by simpa using h2
                         omega
  subst hpr
  refine ⟨fun a t => ∃ q : Nat, t = (q : Int) ∧ q ≤ p ∧ a = om (table p p (cP o (el v) q)), fun _ t => ((p : Int) - t).toNat, ⟨0, rfl, by omega, cP_zero hv⟩, ?_⟩
  rintro _ _ ⟨q, rfl, hq, rfl⟩
  refine ⟨fun h2 => ?_, fun h2 => ?_⟩
  · have hqr : q < p := by simpa using h2
    have a1 := rowM_in (r := p) (c := p) (g := cP o (el v) q) hqr hj
    have a2 := rowM_in (r := p) (c := p) (g := cP o (el v) q) hqr hi
    rw [cP_at] at a1 a2
    obtain ⟨s1, s2, s3, s4⟩ := szm (el_bd hv kv hqr hj) (el_bd hv kv hqr hi)
    have f1 := rmul_ok s3 s2
    have f2 := rsub_ok s1 s4
    refine ⟨_, _, _, _, _, _, _, _, ⟨by omega, by rw [om_len]; omega⟩, om_in hqr hj, a1, om_in hqr hi, a2, f1, f2, ?_⟩
    rw [inc64 (by omega)]
    refine ⟨⟨q + 1, rfl, by omega, ?_⟩, by show ((p : Int) - ((q + 1 : Nat) : Int)).toNat < ((p : Int) - (q : Int)).toNat; omega⟩
    rw [Int.toNat_natCast, Int.toNat_natCast]
    exact cP_one hqr hj (by simp [colF, hk]) fun b _ hb => by simp [colF, hk, hb]
  · have hqr : q = p := by have : p ≤ q := by simpa using h2
                           omega
    subst hqr
    rw [rF_all (by omega), rF_all (by omega), cP_all]
    exact ⟨rfl, rfl⟩
end Go.AM
/- Row operations in plain Lean: how much lists of them can make the elements grow. -/
namespace Go.AM
abbrev addO (i j : Nat) (z : Int) : Opz := ⟨3, i, j, z⟩
abbrev swapO (i j : Nat) : Opz := ⟨1, i, j, 0⟩
abbrev negO (i : Nat) : Opz := ⟨2, i, 0, 0⟩
theorem vO_add {r i j : Nat} {z : Int} (hi : i < r) (hj : j < r) (h : i ≠ j) : vO r (addO i j z) = true := by simp [vO, hi, hj, h]
theorem vO_swap {r i j : Nat} (hi : i < r) (hj : j < r) (h : i ≠ j) : vO r (swapO i j) = true := by simp [vO, hi, hj, h]
theorem vO_neg {r i : Nat} (hi : i < r) : vO r (negO i) = true := by simp [vO, hi]
def gO (o : Opz) : Nat := if o.k = 3 then 1 + o.z.natAbs else 1
def gL : List Opz → Nat
  | [] => 1
  | o :: l => gO o * gL l
theorem gO_pos (o : Opz) : 1 ≤ gO o := by unfold gO; split <;> omega
theorem gL_append : ∀ l k : List Opz, gL (l ++ k) = gL l * gL k
  | [], k => by simp [gL]
  | o :: l, k => by simp only [List.cons_append, gL, gL_append l k, Nat.mul_assoc]
theorem one_mul_le {K o : Nat} (h : 1 ≤ o) : K ≤ o * K := by
  have := Nat.mul_le_mul_right K h
  omega
theorem apO_g {r c K : Nat} {o : Opz} {m : List (List Int)} (h : vO r o = true) (hm : Mx r c m) (km : BdM K m) : BdM (gO o * K) (apO r c o m) := table_bd fun a b ha hb => by
  obtain ⟨hi, hcase⟩ := vO_ok h
  have h0 : ∀ x : Nat, x < r → (el m x b).natAbs ≤ K := fun x hx => el_bd hm km hx hb
  have hK := one_mul_le (K := K) (gO_pos o)
  unfold opF
  rcases hcase with ⟨hk, _, _⟩ | ⟨hk, hj, _, _⟩ | ⟨hk, hj, _⟩
  · rw [hk, if_neg (by decide), if_pos rfl]
    have := h0 a ha
    split
    · rw [Int.natAbs_neg]; omega
    · omega
  · rw [hk, if_pos rfl]
    have h1 := h0 _ hj
    have h2 := h0 _ hi
    have h3 := h0 a ha
    split
    · omega
    · split <;> omega
  · rw [hk, if_neg (by decide), if_neg (by decide)]
    have h1 := h0 _ hj
    have h3 := h0 a ha
    split
    · have e : gO o = 1 + o.z.natAbs := by simp [gO, hk]
      rw [e, Nat.add_mul, Nat.one_mul]
      have h4 := Int.natAbs_add_le (el m a b) (o.z * el m o.j b)
      rw [Int.natAbs_mul] at h4
      have h5 := Nat.mul_le_mul_left o.z.natAbs h1
      omega
    · omega
theorem apL_g {r c : Nat} : ∀ {l : List Opz} {K : Nat} {m : List (List Int)}, (∀ o ∈ l, vO r o = true) → Mx r c m → BdM K m → BdM (gL l * K) (apL r c l m)
  | [], K, m, _, _, km => km.mono (by simp [gL])
  | o :: l, K, m, h, hm, km => by
    have := apL_g (l := l) (fun x hx => h x (by simp [hx])) (apO_mx r c o m) (apO_g (h o (by simp)) hm km)
    refine BdM.mono this ?_
    simp only [gL]
    exact Nat.le_of_eq (by rw [Nat.mul_comm (gO o) (gL l), Nat.mul_assoc])
theorem apC_g {n K : Nat} {o : Opz} {m : List (List Int)} (h : vO n o = true) (hm : Mx n n m) (km : BdM K m) : BdM (gO o * K) (apC n o m) := table_bd fun a b ha hb => by
  obtain ⟨hi, hcase⟩ := vO_ok h
  have h0 : ∀ x : Nat, x < n → (el m a x).natAbs ≤ K := fun x hx => el_bd hm km ha hx
  have hK := one_mul_le (K := K) (gO_pos o)
  unfold colF
  rcases hcase with ⟨hk, _, _⟩ | ⟨hk, hj, _, _⟩ | ⟨hk, hj, _⟩
  · rw [hk, if_neg (by decide), if_pos rfl]
    have := h0 b hb
    split
    · rw [Int.natAbs_neg]; omega
    · omega
  · rw [hk, if_pos rfl]
    have h1 := h0 _ hj
    have h2 := h0 _ hi
    have h3 := h0 b hb
    split
    · omega
    · split <;> omega
  · rw [hk, if_neg (by decide), if_neg (by decide)]
    have h1 := h0 _ hi
    have h3 := h0 b hb
    split
    · have e : gO o = 1 + o.z.natAbs := by simp [gO, hk]
      rw [e, Nat.add_mul, Nat.one_mul]
      have h4 := Int.natAbs_sub_le (el m a b) (o.z * el m a o.i)
      rw [Int.natAbs_mul] at h4
      have h5 := Nat.mul_le_mul_left o.z.natAbs h1
      omega
    · omega
theorem apCL_g {n : Nat} : ∀ {l : List Opz} {K : Nat} {m : List (List Int)}, (∀ o ∈ l, vO n o = true) → Mx n n m → BdM K m → BdM (gL l * K) (apCL n l m)
  | [], K, m, _, _, km => km.mono (by simp [gL])
  | o :: l, K, m, h, hm, km => by
    have := apCL_g (l := l) (fun x hx => h x (by simp [hx])) (apC_mx n o m) (apC_g (h o (by simp)) hm km)
    refine BdM.mono this ?_
    simp only [gL]
    exact Nat.le_of_eq (by rw [Nat.mul_comm (gO o) (gL l), Nat.mul_assoc])
theorem mod_eq (x y : Int) : x + -(x / y) * y = x % y := by
  have := Int.emod_add_mul_ediv x y
  rw [Int.neg_mul, Int.mul_comm]; omega
section
variable {r cc c top i : Nat}
theorem el_swap {m : List (List Int)} {a b : Nat} (ha : a < r) (hb : b < cc) : el (apO r cc (swapO top i) m) a b = if a = top then el m i b else if a = i then el m top b else el m a b := by
  rw [el_apO ha hb]; simp [opF]
theorem el_add {m : List (List Int)} {z : Int} {a b : Nat} (ha : a < r) (hb : b < cc) : el (apO r cc (addO top i z) m) a b = if a = top then el m a b + z * el m i b else el m a b := by
  rw [el_apO ha hb]; simp [opF]
variable (ht : top < r) (hi : i < r) (hc : c < cc) (hne : top ≠ i)
include ht hi hne
include hc
end
end Go.AM
/- The operations of torsionref12.Form in plain Lean, and how much they can make the elements grow. -/
namespace Go.AM
theorem eu_num0 {x y : Int} (hx : 0 ≤ x) (hy : 0 < y) : (1 + (x / y).natAbs) * ((x % y).natAbs + 1) ≤ x.natAbs + 1 := by
  have h1 := Int.emod_nonneg x (by omega : y ≠ 0)
  have h2 := Int.emod_lt_of_pos x hy
  have h3 := Int.emod_add_mul_ediv x y
  have h4 := Int.ediv_nonneg hx (Int.le_of_lt hy)
  obtain ⟨q, hq⟩ := Int.eq_ofNat_of_zero_le h4
  obtain ⟨r, hr⟩ := Int.eq_ofNat_of_zero_le h1
  obtain ⟨n, hn⟩ := Int.eq_ofNat_of_zero_le (Int.le_of_lt hy)
  obtain ⟨a, ha⟩ := Int.eq_ofNat_of_zero_le hx
  rw [hq, hr, hn, ha] at h3
  rw [hq, hr, ha]
  simp only [Int.natAbs_natCast]
  have h5 : r + n * q = a := by exact_mod_cast h3
  have h6 : r + 1 ≤ n := by omega
  have h7 : (r + 1) * q ≤ n * q := Nat.mul_le_mul_right _ h6
  rw [Nat.add_mul 1 q, Nat.one_mul, Nat.mul_comm q]
  omega
theorem eu_num {x y : Int} (hy : y ≠ 0) : (1 + (x / y).natAbs) * ((x % y).natAbs + 1) ≤ x.natAbs + 2 * y.natAbs := by
  have h1 := Int.emod_nonneg x hy
  have h2 := Int.emod_lt x hy
  have h3 := Int.emod_add_mul_ediv x y
  have h5 : (y * (x / y)).natAbs = y.natAbs * (x / y).natAbs := Int.natAbs_mul ..
  have h6 : (x % y).natAbs + 1 ≤ y.natAbs := by omega
  have h7 : (1 + (x / y).natAbs) * ((x % y).natAbs + 1) ≤ (1 + (x / y).natAbs) * y.natAbs := Nat.mul_le_mul_left _ h6
  rw [Nat.add_mul 1 (x / y).natAbs y.natAbs, Nat.one_mul, Nat.mul_comm (x / y).natAbs] at h7
  omega
def ColB (r c A : Nat) (m : List (List Int)) : Prop := ∀ a, a < r → (el m a c).natAbs ≤ A
end Go.AM
/- The operations of torsionref12.Form: a column, all columns; bounds. -/
namespace Go.AM
theorem colB_of {r cc c A : Nat} {m : List (List Int)} (hm : Mx r cc m) (km : BdM A m) (hc : c < cc) : ColB r c A m := fun _ ha => el_bd hm km ha hc
end Go.AM
/- Division of integers: by one limb (torsionref01.short). -/
namespace Go.AM
open Go.Proofs.Tryz
def sQ (d : Nat) : List Nat → List Nat × Nat
  | [] => ([], 0)
  | x :: l => ((((sQ d l).2 * 4294967296 + x) / d) :: (sQ d l).1, ((sQ d l).2 * 4294967296 + x) % d)
theorem sQ_len (d : Nat) : ∀ l, (sQ d l).1.length = l.length
  | [] => rfl
  | _ :: l => by simp [sQ, sQ_len d l]
theorem sQ_lt {d : Nat} (hd : 0 < d) : ∀ l, (sQ d l).2 < d
  | [] => hd
  | _ :: _ => Nat.mod_lt _ hd
theorem sQ_val {d : Nat} : ∀ l, d * val (sQ d l).1 + (sQ d l).2 = val l
  | [] => by simp [sQ, val]
  | x :: l => by
    have ih := sQ_val (d := d) l
    have h := Nat.div_add_mod ((sQ d l).2 * 4294967296 + x) d
    simp only [sQ, val]
    rw [← ih, Nat.mul_add, Nat.mul_left_comm]
    omega
theorem sQ_dig {d : Nat} (hd : 0 < d) : ∀ l, (∀ x ∈ l, x < 4294967296) → ∀ z ∈ (sQ d l).1, z < 4294967296
  | [], _, z, hz => by simp [sQ] at hz
  | x :: l, h, z, hz => by
    simp only [sQ, List.mem_cons] at hz
    rcases hz with rfl | hz
    · rw [Nat.div_lt_iff_lt_mul hd]
      have h1 := sQ_lt hd l
      have h2 := h x (by simp)
      have h3 : ((sQ d l).2 + 1) * 4294967296 ≤ d * 4294967296 := Nat.mul_le_mul_right _ h1
      omega
    · exact sQ_dig hd l (fun y hy => h y (by simp [hy])) z hz
theorem sQ_div {d : Nat} (hd : 0 < d) (l : List Nat) : val (sQ d l).1 = val l / d ∧ (sQ d l).2 = val l % d := by
  have h1 := sQ_val (d := d) l
  have h2 := sQ_lt hd l
  have h3 : (d * val (sQ d l).1 + (sQ d l).2) / d = val (sQ d l).1 := by
    rw [Nat.mul_add_div hd, Nat.div_eq_of_lt h2, Nat.add_zero]
  have h4 : (d * val (sQ d l).1 + (sQ d l).2) % d = (sQ d l).2 := by
    rw [Nat.mul_add_mod, Nat.mod_eq_of_lt h2]
  rw [h1] at h3 h4
  exact ⟨h3.symm, h4.symm⟩
theorem rep_set (n v : Nat) (q : List Nat) : (List.replicate (n + 1) 0 ++ q).set n v = List.replicate n 0 ++ (v :: q) := by
  rw [List.set_append_left _ _ (by simp), List.replicate_succ', List.set_append_right _ _ (by simp)]
  simp
theorem u32_id {n : Int} (h0 : 0 ≤ n) (h1 : n < 4294967296) : IntKind.u32.wrap n = n := by rw [wu32]; omega
theorem rshort_ok {l : List Nat} {d : Nat} (hB : ∀ x ∈ l, x < 4294967296) (hl : l.length ≤ 1099511627776) (hd : 0 < d) (hd' : d < 4294967296) :
    FnD prog 115 [vs (lim l), vD (dU d)] (.tup [eD (dL (lim (sQ d l).1)), eD (dU (sQ d l).2)]) [] := by
  refine vc115_ok _ _ (R := Out _) ?_
  unfold vc115
  simp only [lim_length]
  have hq := sQ_len d
  refine ⟨⟨by omega, by omega, by omega⟩, fun out rest t => ∃ n : Nat, t = (n : Int) - 1 ∧ n ≤ l.length ∧ out = lim (List.replicate n 0 ++ (sQ d (l.drop n)).1) ∧ rest = ((sQ d (l.drop n)).2 : Nat), fun _ _ t => (t + 1).toNat,
    ⟨l.length, by rw [w64 (by omega) (by omega)], Nat.le_refl _, ?_, ?_⟩, ?_⟩
  · rw [Int.toNat_natCast, List.drop_length]; simp [sQ, lim]
  · rw [List.drop_length]; rfl
  rintro _ _ _ ⟨n, rfl, hn, rfl, rfl⟩
  refine ⟨fun h => ?_, fun h => ?_⟩
  · have h1 : 0 < n := by simp at h; omega
    obtain ⟨i, rfl⟩ : ∃ i, n = i + 1 := ⟨n - 1, by omega⟩
    have hi : i < l.length := by omega
    have ei : (((i + 1 : Nat) : Int) - 1) = (i : Int) := by omega
    have hdrop : l.drop i = l[i] :: l.drop (i + 1) := List.drop_eq_getElem_cons hi
    have hx := hB _ (List.getElem_mem hi)
    have hr := sQ_lt hd (l.drop (i + 1))
    have hs : (sQ d (l.drop i)) = (((((sQ d (l.drop (i + 1))).2 * 4294967296 + l[i]) / d) :: (sQ d (l.drop (i + 1))).1), ((sQ d (l.drop (i + 1))).2 * 4294967296 + l[i]) % d) := by rw [hdrop]; rfl
    generalize hrr : (sQ d (l.drop (i + 1))).2 = r at *
    generalize (sQ d (l.drop (i + 1))).1 = qs at *
    have hsum : r * 4294967296 + l[i] < d * 4294967296 := by
      have : (r + 1) * 4294967296 ≤ d * 4294967296 := Nat.mul_le_mul_right _ hr
      omega
    have hdiv : (r * 4294967296 + l[i]) / d < 4294967296 := by rw [Nat.div_lt_iff_lt_mul hd]; omega
    have e1 : IntKind.u64.wrap (IntKind.u64.wrap ((r : Int) * 4294967296) + IntKind.u64.wrap ((l[i] : Nat) : Int)) = ((r * 4294967296 + l[i] : Nat) : Int) := by
      rw [wu64 (n := (r : Int) * 4294967296) (by omega) (by omega), wu64 (n := ((l[i] : Nat) : Int)) (by omega) (by omega), wu64 (by omega) (by omega)]
      omega
    have e2 : IntKind.u64.wrap (d : Int) = (d : Int) := wu64 (by omega) (by omega)
    have e3 : (((r * 4294967296 + l[i] : Nat) : Int).tdiv (d : Int)) = (((r * 4294967296 + l[i]) / d : Nat) : Int) := by rw [Int.tdiv_eq_ediv_of_nonneg (by omega)]; rfl
    have e4 : (((r * 4294967296 + l[i] : Nat) : Int).tmod (d : Int)) = (((r * 4294967296 + l[i]) % d : Nat) : Int) := by rw [Int.tmod_eq_emod_of_nonneg (by omega)]; rfl
    rw [ei]
    refine ⟨((l[i] : Nat) : Int), ⟨by omega, by omega⟩, by rw [Int.toNat_natCast]; exact lim_get hi, ?_, ⟨by omega, by rw [lim_length]; simp; omega⟩, ?_⟩
    · rw [e2]; omega
    generalize (r * 4294967296 + l[i]) / d = qq at *
    generalize (r * 4294967296 + l[i]) % d = mm at *
    rw [e1, e2, e3, e4, wu64 (n := (qq : Int)) (by omega) (by omega), u32_id (by omega) (by omega), w64 (by omega) (by omega), Int.toNat_natCast, lim_set, rep_set]
    refine ⟨⟨i, by omega, by omega, ?_, ?_⟩, ?_⟩
    · rw [hs]
    · rw [hs]
    · show ((i : Int) - 1 + 1).toNat < ((i : Int) + 1).toNat; omega
  · have hn0 : n = 0 := by simp at h; omega
    subst hn0
    have hr := sQ_lt hd l
    simp only [List.drop_zero, List.replicate_zero, List.nil_append]
    rw [u32_id (by omega) (by omega)]
    exact ⟨rfl, rfl⟩
end Go.AM
/- Division of integers: the estimate of a quotient (torsionref01.estimate). -/
namespace Go.AM
open Go.Proofs.Tryz
theorem val_last {l : List Nat} {m : Nat} (hm : l.length = m + 1) : val l = val (l.take m) + 4294967296 ^ m * l[m] := by
  have h1 : l = l.take m ++ [l[m]] := by
    conv => lhs; rw [← List.take_append_drop m l]
    rw [List.drop_eq_getElem_cons (by omega), List.drop_of_length_le (by omega)]
  have h2 : (l.take m).length = m := by simp; omega
  conv => lhs; rw [h1]
  rw [val_append, h2]; simp [val]
theorem val_last2 {l : List Nat} {m : Nat} (hm : l.length = m + 2) : val l = val (l.take m) + 4294967296 ^ m * (l[m + 1] * 4294967296 + l[m]) := by
  have h1 : l = l.take m ++ [l[m], l[m + 1]] := by
    conv => lhs; rw [← List.take_append_drop m l]
    rw [List.drop_eq_getElem_cons (by omega), List.drop_eq_getElem_cons (by omega), List.drop_of_length_le (by omega)]
  have h2 : (l.take m).length = m := by simp; omega
  conv => lhs; rw [h1]
  rw [val_append, h2]; simp only [val]; congr 2; omega
theorem take_lt' {l : List Nat} (hB : ∀ x ∈ l, x < 4294967296) (m : Nat) (hm : m ≤ l.length) : val (l.take m) < 4294967296 ^ m := by
  have := val_lt (l := l.take m) fun x hx => hB x (List.mem_of_mem_take hx)
  rwa [List.length_take, Nat.min_eq_left hm] at this
theorem rep_val (n : Nat) (l : List Nat) : val (List.replicate n 0 ++ l) = 4294967296 ^ n * val l := by
  rw [val_append, List.length_replicate]
  have : val (List.replicate n 0) = 0 := by
    induction n with
    | zero => rfl
    | succ n ih => simp [List.replicate_succ, val, ih]
  omega
theorem restim_ok {R D : Nat} (hD : 2 ≤ (digs D).length) (htop : ∀ x, (digs D).getLast? = some x → 2147483648 ≤ x) (hle : D ≤ R) (hlen : (digs R).length ≤ 1099511627776) :
    ∃ s : Nat, 0 < s ∧ s * D ≤ R ∧ FnD prog 116 [vs (lim (digs R)), vs (lim (digs D))] (eI s) [] := by
  obtain ⟨a, ha⟩ : ∃ a, a = digs R := ⟨_, rfl⟩
  obtain ⟨b, hb⟩ : ∃ b, b = digs D := ⟨_, rfl⟩
  have la : ∀ x ∈ a, x < 4294967296 := ha ▸ digs_lt R
  have lb : ∀ x ∈ b, x < 4294967296 := hb ▸ digs_lt D
  have va : val a = R := ha ▸ val_digs R
  have vb' : val b = D := hb ▸ val_digs D
  have ca : canon a := ha ▸ digs_canon R
  have cb : canon b := hb ▸ digs_canon D
  rw [← hb] at hD htop ⊢
  rw [← ha] at hlen ⊢
  have hnm : b.length ≤ a.length := len_le_of_val la cb (by omega)
  obtain ⟨m, hm⟩ : ∃ m, b.length = m + 2 := ⟨b.length - 2, by omega⟩
  obtain ⟨n, hn⟩ : ∃ n, a.length = n + 2 := ⟨a.length - 2, by omega⟩
  have hlast : b.getLast? = some b[m + 1] := by rw [List.getLast?_eq_getElem?, show b.length - 1 = m + 1 by omega]; exact List.getElem?_eq_getElem (by omega)
  have alast : a.getLast? = some a[n + 1] := by rw [List.getLast?_eq_getElem?, show a.length - 1 = n + 1 by omega]; exact List.getElem?_eq_getElem (by omega)
  have hdt := htop _ hlast
  have hdl := lb _ (List.getElem_mem (show m + 1 < b.length by omega))
  have hr1 := la _ (List.getElem_mem (show n + 1 < a.length by omega))
  have hr2 := la _ (List.getElem_mem (show n < a.length by omega))
  have hr0 : a[n + 1] ≠ 0 := ca _ alast
  have vD1 := val_last (l := b) (m := m + 1) (by omega)
  have tD := take_lt' lb (m + 1) (by omega)
  have vR1 := val_last (l := a) (m := n + 1) (by omega)
  have vR2 := val_last2 (l := a) (m := n) hn
  rw [vb'] at vD1
  rw [va] at vR1 vR2
  have gb : (lim b)[((m + 1 : Nat) : Int).toNat]? = some [dU ((b[m + 1] : Nat) : Int)] := by rw [Int.toNat_natCast]; exact lim_get (by omega)
  have ga1 : (lim a)[((n + 1 : Nat) : Int).toNat]? = some [dU ((a[n + 1] : Nat) : Int)] := by rw [Int.toNat_natCast]; exact lim_get (by omega)
  have ga2 : (lim a)[((n : Nat) : Int).toNat]? = some [dU ((a[n] : Nat) : Int)] := by rw [Int.toNat_natCast]; exact lim_get (by omega)
  generalize b[m + 1] = dt at *
  generalize a[n + 1] = r1 at *
  generalize a[n] = r2 at *
  have hDlt : D < 4294967296 ^ (m + 1) * (dt + 1) := by rw [Nat.mul_add]; omega
  have w1 : IntKind.i64.wrap ((b.length : Int) - 1) = ((m + 1 : Nat) : Int) := by rw [w64 (by omega) (by omega)]; omega
  have w2 : IntKind.i64.wrap ((a.length : Int) - 1) = ((n + 1 : Nat) : Int) := by rw [w64 (by omega) (by omega)]; omega
  have w3 : IntKind.i64.wrap ((a.length : Int) - 2) = ((n : Nat) : Int) := by rw [w64 (by omega) (by omega)]; omega
  have w4 : IntKind.i64.wrap ((a.length : Int) - (b.length : Int)) = ((n - m : Nat) : Int) := by rw [w64 (by omega) (by omega)]; omega
  have u1 : IntKind.u64.wrap (IntKind.u64.wrap (dt : Int) + 1) = ((dt + 1 : Nat) : Int) := by rw [wu64 (n := (dt : Int)) (by omega) (by omega), wu64 (by omega) (by omega)]; omega
  have u2 : IntKind.u64.wrap (r1 : Int) = (r1 : Int) := wu64 (by omega) (by omega)
  have u3 : IntKind.u64.wrap (IntKind.u64.wrap ((r1 : Int) * 4294967296) + IntKind.u64.wrap (r2 : Int)) = ((r1 * 4294967296 + r2 : Nat) : Int) := by
    rw [wu64 (n := (r1 : Int) * 4294967296) (by omega) (by omega), wu64 (n := (r2 : Int)) (by omega) (by omega), wu64 (by omega) (by omega)]; omega
  by_cases hk : n = m
  · subst hk
    obtain ⟨v, hv⟩ : ∃ v, v = r1 / (dt + 1) := ⟨_, rfl⟩
    have hv1 : v * (dt + 1) ≤ r1 := by rw [hv]; exact Nat.div_mul_le_self _ _
    have hv2 : v ≤ r1 := by rw [hv]; exact Nat.div_le_self _ _
    have e1 : ((r1 : Int)).tdiv ((dt + 1 : Nat) : Int) = (v : Int) := by rw [Int.tdiv_eq_ediv_of_nonneg (by omega), hv]; rfl
    have e2 : (if (v : Int) > 1 then (v : Int) else 1) = ((max v 1 : Nat) : Int) := by split <;> omega
    refine ⟨max v 1, by omega, ?_, ?_⟩
    · by_cases h1 : v ≤ 1
      · rw [Nat.max_eq_right h1]; omega
      · rw [Nat.max_eq_left (by omega)]
        have h2 : v * D ≤ v * (4294967296 ^ (n + 1) * (dt + 1)) := Nat.mul_le_mul_left _ (Nat.le_of_lt hDlt)
        have h3 : v * (4294967296 ^ (n + 1) * (dt + 1)) = 4294967296 ^ (n + 1) * (v * (dt + 1)) := by rw [Nat.mul_left_comm]
        have h4 : 4294967296 ^ (n + 1) * (v * (dt + 1)) ≤ 4294967296 ^ (n + 1) * r1 := Nat.mul_le_mul_left _ hv1
        omega
    · refine vc116_ok _ _ (R := Out _) ?_
      unfold vc116
      simp only [lim_length]
      refine ⟨(dt : Int), ?_⟩
      rw [w1, w2, w4, u1]
      refine ⟨⟨by omega, by omega⟩, gb, fun _ => ⟨(r1 : Int), _, _, ⟨by omega, by omega⟩, ga1, by omega, ?_, oute rfl⟩, fun h => absurd h (by simp)⟩
      rw [u2, e1, wu64 (n := (v : Int)) (by omega) (by omega), e2, w64 (by omega) (by omega)]
      exact rof_ok _ (by omega) (by omega)
  · obtain ⟨k, hk'⟩ : ∃ k, n = m + k + 1 := ⟨n - m - 1, by omega⟩
    obtain ⟨e, he⟩ : ∃ e, e = (r1 * 4294967296 + r2) / (dt + 1) := ⟨_, rfl⟩
    have he1 : e * (dt + 1) ≤ r1 * 4294967296 + r2 := by rw [he]; exact Nat.div_mul_le_self _ _
    have he0 : 0 < e := by rw [he]; exact Nat.div_pos (by omega) (by omega)
    have he2 : e < 8589934592 := by rw [he, Nat.div_lt_iff_lt_mul (by omega)]; omega
    have e1 : (((r1 * 4294967296 + r2 : Nat) : Int)).tdiv ((dt + 1 : Nat) : Int) = (e : Int) := by rw [Int.tdiv_eq_ediv_of_nonneg (by omega), he]; rfl
    have w5 : IntKind.i64.wrap (((n - m : Nat) : Int) - 1) = (k : Int) := by rw [w64 (by omega) (by omega)]; omega
    have u5 : IntKind.u64.wrap (e : Int) = (e : Int) := wu64 (by omega) (by omega)
    have u6 : IntKind.u32.wrap (e : Int) = ((e % 4294967296 : Nat) : Int) := by rw [wu32]; omega
    have u7 : IntKind.u32.wrap ((e : Int).fdiv (2 ^ (min (32 : Int).toNat IntKind.u64.bits))) = ((e / 4294967296 : Nat) : Int) := by
      have : ((2 : Int) ^ (min (32 : Int).toNat IntKind.u64.bits)) = 4294967296 := by decide
      rw [this, Int.fdiv_eq_ediv_of_nonneg _ (by decide), u32_id (by omega) (by omega)]; omega
    have hlist : (List.replicate ((k : Int)).toNat [dU (0 : Int)]) ++ [[dU ((e % 4294967296 : Nat) : Int)], [dU ((e / 4294967296 : Nat) : Int)]] = lim (List.replicate k 0 ++ [e % 4294967296, e / 4294967296]) := by
      rw [Int.toNat_natCast, lim_rep, lim_append]; rfl
    have hval : val (List.replicate k 0 ++ [e % 4294967296, e / 4294967296]) = 4294967296 ^ k * e := by
      rw [rep_val]; simp only [val]; congr 1; omega
    have hmade := made_eI (List.replicate k 0 ++ [e % 4294967296, e / 4294967296]) false (fun x hx => by
      simp only [List.mem_append, List.mem_replicate, List.mem_cons, List.not_mem_nil, or_false] at hx
      rcases hx with ⟨_, rfl⟩ | rfl | rfl
      · decide
      · exact Nat.mod_lt _ (by decide)
      · omega) (by simp; omega)
    rw [hval, ← hlist] at hmade
    simp only [Bool.false_eq_true, if_false] at hmade
    refine ⟨4294967296 ^ k * e, Nat.mul_pos (Nat.pow_pos (by decide)) he0, ?_, ?_⟩
    · have h2 : 4294967296 ^ k * e * D ≤ 4294967296 ^ k * e * (4294967296 ^ (m + 1) * (dt + 1)) := Nat.mul_le_mul_left _ (Nat.le_of_lt hDlt)
      have h3 : 4294967296 ^ k * e * (4294967296 ^ (m + 1) * (dt + 1)) = 4294967296 ^ n * (e * (dt + 1)) := by
        rw [Nat.mul_mul_mul_comm, ← Nat.pow_add, show k + (m + 1) = n by omega]
      have h4 : 4294967296 ^ n * (e * (dt + 1)) ≤ 4294967296 ^ n * (r1 * 4294967296 + r2) := Nat.mul_le_mul_left _ he1
      omega
    · refine vc116_ok _ _ (R := Out _) ?_
      unfold vc116
      simp only [lim_length]
      refine ⟨(dt : Int), ?_⟩
      rw [w1, w2, w3, w4, w5, u1]
      refine ⟨⟨by omega, by omega⟩, gb, fun h => absurd h (by simp; omega), fun _ => ⟨(r1 : Int), (r2 : Int), ⟨by omega, by omega⟩, ga1, ⟨by omega, by omega⟩, ga2, by omega, ⟨by omega, by omega, by omega⟩, _, _, by decide, ?_, ?_, oute rfl⟩⟩
      · simp only [List.length_replicate, List.length_cons, List.length_nil]; omega
      · rw [u2, u3, e1, u5, u6, u7]
        exact hmade
end Go.AM
