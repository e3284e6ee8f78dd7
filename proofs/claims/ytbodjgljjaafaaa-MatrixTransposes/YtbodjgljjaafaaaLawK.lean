/- What the functions of package matrix answer: products, sums, new matrices. -/
import Derived.Test.YtbodjgljjaafaaaLawJ
namespace Go.AM
open Go.Proofs.Try

/-- A matrix and a mistake's number. -/
def eME (r c : Int) (m : List (List Int)) (e : Int) : V := .tup [.agg [.dat (.int .i64 r), .dat (.int .i64 c), .dat (.sl (rows m))], .sc (.dat (.int .i64 e))]
def eIE (z e : Int) : V := .tup [.agg [.dat (.bool (decide (z < 0))), .dat (.sl (lim (digs z.natAbs)))], .sc (.dat (.int .i64 e))]
def eRE (r : List Int) (e : Int) : V := .tup [.sc (.dat (.sl (row r))), .sc (.dat (.int .i64 e))]

theorem table_congr {r c : Nat} {f g : Nat → Nat → Int} (h : ∀ i j, i < r → j < c → f i j = g i j) : table r c f = table r c g := by
  unfold table tableR
  apply List.map_congr_left
  intro i hi
  apply List.map_congr_left
  intro j hj
  exact h i j (List.mem_range.1 hi) (List.mem_range.1 hj)

theorem getD_table {r c : Nat} {g : Nat → Nat → Int} {i : Nat} (hi : i < r) : (table r c g).getD i [] = tableR c (g i) := by simp [table, hi]

theorem elr_tableR {c : Nat} {g : Nat → Int} {j : Nat} (hj : j < c) : elr (tableR c g) j = g j := by simp [elr, tableR, hj]

theorem el_table {r c : Nat} {g : Nat → Nat → Int} {i j : Nat} (hi : i < r) (hj : j < c) : el (table r c g) i j = g i j := by
  unfold el
  rw [getD_table hi]
  exact elr_tableR hj

theorem table_bd {r c K : Nat} {g : Nat → Nat → Int} (h : ∀ i j, i < r → j < c → (g i j).natAbs ≤ K) : BdM K (table r c g) := fun x hx z hz => by
  simp only [table, List.mem_map, List.mem_range] at hx
  obtain ⟨i, hi, rfl⟩ := hx
  simp only [tableR, List.mem_map, List.mem_range] at hz
  obtain ⟨j, hj, rfl⟩ := hz
  exact h i j hi hj

theorem el_bd {r c K : Nat} {m : List (List Int)} (hm : Mx r c m) (hb : BdM K m) {i j : Nat} (hi : i < r) (hj : j < c) : (el m i j).natAbs ≤ K := by
  obtain ⟨h1, h2⟩ := el_mem hm hi hj
  exact hb _ h2 _ (getD_mem (by omega))

/-- A matrix is the table of its elements. -/
theorem mx_table {r c : Nat} {m : List (List Int)} (hm : Mx r c m) : m = table r c (el m) := by
  refine lists_ext (by rw [hm.1]; simp [table]) fun k hk => ?_
  rw [hm.1] at hk
  rw [getD_table hk]
  by_cases hc : c = 0
  · subst hc
    have h1 : k < m.length := by rw [hm.1]; exact hk
    have := hm.2 _ (getD_mem (d := []) h1)
    rw [List.length_eq_zero_iff] at this
    rw [this]; rfl
  · refine list_ext (by rw [(el_mem hm hk (j := 0) (by omega)).1]; simp [tableR]) fun j hj => ?_
    rw [(el_mem hm hk (j := 0) (by omega)).1] at hj
    rw [elr_tableR hj]; rfl

theorem dsum_congr {f f' g g' : Nat → Int} : ∀ n, (∀ k, k < n → f k = f' k) → (∀ k, k < n → g k = g' k) → dsum f g n = dsum f' g' n
  | 0, _, _ => rfl
  | n + 1, h1, h2 => by
    simp only [dsum]
    rw [dsum_congr n (fun k hk => h1 k (by omega)) fun k hk => h2 k (by omega), h1 n (by omega), h2 n (by omega)]

/-- The product of a r x n and a n x c matrix. -/
def mmul (r n c : Nat) (a b : List (List Int)) : List (List Int) := table r c fun i j => dsum (fun k => el a i k) (fun k => el b k j) n

def BIGK : Nat := 1329227995784915872903807060280344576

theorem mmul_ok {r n c K : Nat} {a b : List (List Int)} (ha : Mx r n a) (hb : Mx n c b) (ka : BdM K a) (kb : BdM K b) (hr : r ≤ 4294967296) (hn : n ≤ 4294967296) (hc : c ≤ 4294967296) (hK : K ≤ 1329227995784915872903807060280344576) :
    FnD prog 20 [eM r n a, eM n c b] (eME r c (mmul r n c a b) 0) [] := by
  refine vc20_ok _ _ _ _ _ _ (R := Out _) ?_
  unfold vc20
  refine ⟨fun h => by simp at h, fun _ => ⟨_, _, _, transpose_ok hb hn hc, _, _, _, build_ok hr hc (g := fun i j => dsum (fun k => el a i k) (fun k => el b k j) n) fun i j hi hj => ?_, rfl, rfl⟩⟩
  refine vc77_ok _ _ _ _ _ _ _ _ (R := Out _) ?_
  unfold vc77
  have h1 : i < a.length := by rw [ha.1]; exact hi
  have h2 : j < (table c n fun i j => el b j i).length := by simp [table, hj]
  have hla : (a.getD i []).length = n := ha.2 _ (getD_mem h1)
  have hlb : ((table c n fun i j => el b j i).getD j []).length = n := by rw [getD_table hj]; simp [tableR]
  have hba : BdR K (a.getD i []) := ka _ (getD_mem h1)
  have hbb : BdR K ((table c n fun i j => el b j i).getD j []) := table_bd (fun i j hi hj => el_bd hb kb hj hi) _ (getD_mem h2)
  refine ⟨_, _, decide (dsum (fun k => el a i k) (fun k => el b k j) n < 0), lim (dz (dsum (fun k => el a i k) (fun k => el b k j) n)), ⟨by omega, by rw [rows_length]; omega⟩, rows_getN h1, ⟨by omega, by rw [rows_length]; omega⟩, rows_getN h2, ?_, rfl, rfl⟩
  have := dot_ok (hla.trans hlb.symm) hba hbb (by omega) hK
  have e : dsum (elr (a.getD i [])) (elr ((table c n fun i j => el b j i).getD j [])) (a.getD i []).length = dsum (fun k => el a i k) (fun k => el b k j) n := by
    rw [hla]
    refine dsum_congr n (fun k hk => rfl) fun k hk => ?_
    rw [getD_table hj, elr_tableR hk]
  rw [e] at this
  exact this

/-- A product that does not fit. -/
theorem mmul_bad {r n n' c : Int} {a b : List (List Int)} (h : n ≠ n') : FnD prog 20 [eM r n a, eM n' c b] (eME 0 0 [] 50) [] := by
  refine vc20_ok _ _ _ _ _ _ (R := Out _) ?_
  unfold vc20
  exact ⟨fun _ => ⟨rfl, rfl⟩, fun h2 => absurd (by simpa using h2) h⟩

theorem mdot_ok {a b : List Int} {K : Nat} (hab : a.length = b.length) (ha : BdR K a) (hb : BdR K b) (hl : a.length ≤ 4294967296) (hK : K ≤ 1329227995784915872903807060280344576) :
    FnD prog 38 [vs (row a), vs (row b)] (eIE (dsum (elr a) (elr b) a.length) 0) [] := by
  refine vc38_ok _ _ (R := Out _) ?_
  unfold vc38
  simp only [row_length]
  exact ⟨fun h => by simp [hab] at h, fun _ => ⟨_, _, dot_ok hab ha hb hl hK, rfl, rfl⟩⟩

theorem mdot_bad {a b : List Int} (hab : a.length ≠ b.length) : FnD prog 38 [vs (row a), vs (row b)] (eIE 0 50) [] := by
  refine vc38_ok _ _ (R := Out _) ?_
  unfold vc38
  simp only [row_length]
  exact ⟨fun _ => ⟨rfl, rfl⟩, fun h => absurd (by have : (a.length : Int) = (b.length : Int) := by simpa using h
                                                  omega) hab⟩

theorem row_snoc (r : List Int) (z : Int) : row r ++ [cI z] = row (r ++ [z]) := by simp [row]

/-- A row times a matrix. -/
theorem mtimes_ok {r c K : Nat} {v : List Int} {a : List (List Int)} (ha : Mx r c a) (hv : v.length = r) (ka : BdM K a) (kv : BdR K v) (hr : r ≤ 4294967296) (hc : c ≤ 4294967296) (hK : K ≤ 1329227995784915872903807060280344576) :
    FnD prog 35 [vs (row v), eM r c a] (eRE (tableR c fun j => dsum (elr v) (fun k => el a k j) r) 0) [] := by
  refine vc35_ok _ _ _ _ (R := Out _) ?_
  unfold vc35
  simp only [row_length]
  refine ⟨fun h => by simp [hv] at h, fun _ => ⟨_, _, _, transpose_ok ha hr hc, fun o t => ∃ j : Nat, t = (j : Int) ∧ j ≤ c ∧ o = row (tableR j fun j => dsum (elr v) (fun k => el a k j) r), fun _ t => ((c : Int) - t).toNat, ⟨0, rfl, by omega, rfl⟩, ?_⟩⟩
  rintro _ _ ⟨j, rfl, hj, rfl⟩
  have hlen : (rows (table c r fun i j => el a j i)).length = c := by simp [rows, table]
  refine ⟨fun h => ?_, fun h => ?_⟩
  · have hjc : j < c := by rw [hlen] at h; simpa using h
    have h2 : j < (table c r fun i j => el a j i).length := by simp [table, hjc]
    have hlb : ((table c r fun i j => el a j i).getD j []).length = r := by rw [getD_table hjc]; simp [tableR]
    have hbb : BdR K ((table c r fun i j => el a j i).getD j []) := table_bd (fun i j hi hj => el_bd ha ka hj hi) _ (getD_mem h2)
    have := dot_ok (hv.trans hlb.symm) kv hbb (by omega) hK
    have e : dsum (elr v) (elr ((table c r fun i j => el a j i).getD j [])) v.length = dsum (elr v) (fun k => el a k j) r := by
      rw [hv]
      refine dsum_congr r (fun k hk => rfl) fun k hk => ?_
      rw [getD_table hjc, elr_tableR hk]
    rw [e] at this
    refine ⟨_, ⟨by omega, by rw [hlen]; omega⟩, rows_getN h2, _, _, this, by simp only [row_length, tableR, List.length_map, List.length_range, List.length_singleton]; omega, ?_⟩
    rw [inc64 (by omega)]
    refine ⟨⟨j + 1, rfl, by omega, ?_⟩, by show ((c : Int) - ((j + 1 : Nat) : Int)).toNat < ((c : Int) - (j : Int)).toNat; omega⟩
    have hr : tableR (j + 1) (fun j => dsum (elr v) (fun k => el a k j) r) = tableR j (fun j => dsum (elr v) (fun k => el a k j) r) ++ [dsum (elr v) (fun k => el a k j) r] := by simp [tableR, List.range_succ]
    rw [hr, ← row_snoc]; rfl
  · have hjc : j = c := by have : c ≤ j := by rw [hlen] at h; simpa using h
                           omega
    subst hjc
    exact ⟨rfl, rfl⟩

/-! ### New, Identity, Add, Sub, Scale -/

theorem mnew_ok {r c : Nat} (hr : r ≤ 4294967296) (hc : c ≤ 4294967296) : FnD prog 62 [vi r, vi c] (eM r c (table r c fun _ _ => 0)) [] := by
  refine vc62_ok _ _ (R := Out _) ?_
  unfold vc62
  refine ⟨_, _, _, build_ok hr hc (g := fun _ _ => 0) fun i j hi hj => ?_, rfl, rfl⟩
  exact vc111_ok _ _ (R := Out _) ⟨rfl, rfl⟩

def delta (i j : Nat) : Int := if i = j then 1 else 0

theorem mident_ok {n : Nat} (hn : n ≤ 4294967296) : FnD prog 56 [vi n] (eM n n (table n n delta)) [] := by
  refine vc56_ok _ (R := Out _) ?_
  unfold vc56
  refine ⟨_, _, _, build_ok hn hn (g := delta) fun i j hi hj => ?_, rfl, rfl⟩
  refine vc107_ok _ _ (R := Out _) ?_
  unfold vc107
  refine ⟨fun h => ?_, fun h => ?_⟩
  · have : i = j := by have : (i : Int) = (j : Int) := by simpa using h
                       omega
    subst this
    refine ⟨_, _, of_ok 1 (by omega) (by omega), ?_⟩
    simp only [delta, if_true]; exact ⟨rfl, rfl⟩
  · have : i ≠ j := by have : ¬ (i : Int) = (j : Int) := by simpa using h
                       omega
    simp only [delta, if_neg this]; exact ⟨rfl, rfl⟩

end Go.AM
