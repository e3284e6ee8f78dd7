/- What the functions of package matrix, and of its reference, answer: comparing, transposing, multiplying. -/
import Derived.Test.YtbodjgljjaafaaaLawI
namespace Go.AM
open Go.Proofs.Try

theorem elr_mem {r : List Int} {i : Nat} (h : i < r.length) : elr r i ∈ r := getD_mem h

theorem list_ext {a b : List Int} (hl : a.length = b.length) (h : ∀ k, k < a.length → elr a k = elr b k) : a = b := by
  apply List.ext_getElem hl
  intro i h1 h2
  have := h i h1
  simpa [elr, List.getElem?_eq_getElem h1, List.getElem?_eq_getElem h2] using this

theorem lists_ext {a b : List (List Int)} (hl : a.length = b.length) (h : ∀ k, k < a.length → a.getD k [] = b.getD k []) : a = b := by
  apply List.ext_getElem hl
  intro i h1 h2
  have := h i h1
  simpa [List.getElem?_eq_getElem h1, List.getElem?_eq_getElem h2] using this

theorem sameVec_ok {a b : List Int} (ha : SzR a) (hb : SzR b) (hl : a.length ≤ 4294967296) : FnD prog 37 [vs (row a), vs (row b)] (vb (decide (a = b))) [] := by
  refine vc37_ok _ _ (R := Out _) ?_
  unfold vc37
  simp only [row_length]
  refine ⟨fun h => outb ?_, fun h => ?_⟩
  · have h : ¬ ((a.length : Int) = (b.length : Int)) := by simpa using h
    rw [eq_comm, decide_eq_false_iff_not]
    intro e; subst e; exact h rfl
  · have hlen : a.length = b.length := by
      have : (a.length : Int) = (b.length : Int) := by simpa using h
      omega
    refine ⟨fun t => ∃ i : Nat, t = (i : Int) ∧ i ≤ a.length ∧ ∀ k, k < i → elr a k = elr b k, fun t => ((a.length : Int) - t).toNat, ⟨0, rfl, by omega, fun k hk => by omega⟩, ?_⟩
    rintro _ ⟨i, rfl, hi, hinv⟩
    refine ⟨fun h2 => ?_, fun h2 => outb ?_⟩
    · have hia : i < a.length := by simpa using h2
      have hib : i < b.length := by omega
      refine ⟨_, _, _, _, decide (elr a i = elr b i), ⟨by omega, by omega⟩, row_getN hia, ⟨by omega, by omega⟩, row_getN hib, rsame_ok (ha _ (elr_mem hia)) (hb _ (elr_mem hib)), fun h3 => outb ?_, fun h3 => ?_⟩
      · rw [eq_comm, decide_eq_false_iff_not]
        intro e; subst e; simp at h3
      · have he : elr a i = elr b i := by simpa using h3
        rw [inc64 (by omega)]
        refine ⟨⟨i + 1, rfl, by omega, fun k hk => ?_⟩, by show ((a.length : Int) - ((i + 1 : Nat) : Int)).toNat < ((a.length : Int) - (i : Int)).toNat; omega⟩
        by_cases hki : k = i
        · subst hki; exact he
        · exact hinv k (by omega)
    · have hia : i = a.length := by have : a.length ≤ i := by simpa using h2
                                    omega
      have : a = b := list_ext hlen fun k hk => hinv k (by omega)
      simp [this]

theorem same_ok {r c r' c' : Int} {a b : List (List Int)} (ha : SzM a) (hb : SzM b) (hl : a.length ≤ 4294967296) (hc : ∀ x ∈ a, x.length ≤ 4294967296) :
    FnD prog 23 [eM r c a, eM r' c' b] (vb (decide (r = r' ∧ c = c' ∧ a = b))) [] := by
  refine vc23_ok _ _ _ _ _ _ (R := Out _) ?_
  unfold vc23
  simp only [rows_length]
  refine ⟨fun h => outb ?_, fun h => ⟨fun h2 => outb ?_, fun h2 => ⟨fun h3 => outb ?_, fun h3 => ?_⟩⟩⟩
  · have h : ¬ r = r' := by simpa using h
    simp [h]
  · have h2 : ¬ c = c' := by simpa using h2
    simp [h2]
  · have h3 : ¬ ((a.length : Int) = (b.length : Int)) := by simpa using h3
    rw [eq_comm, decide_eq_false_iff_not]
    rintro ⟨_, _, e⟩; subst e; exact h3 rfl
  · have h : r = r' := by simpa using h
    have h2 : c = c' := by simpa using h2
    have hlen : a.length = b.length := by
      have : (a.length : Int) = (b.length : Int) := by simpa using h3
      omega
    refine ⟨fun t => ∃ i : Nat, t = (i : Int) ∧ i ≤ a.length ∧ ∀ k, k < i → a.getD k [] = b.getD k [], fun t => ((a.length : Int) - t).toNat, ⟨0, rfl, by omega, fun k hk => by omega⟩, ?_⟩
    rintro _ ⟨i, rfl, hi, hinv⟩
    refine ⟨fun h4 => ?_, fun h4 => outb ?_⟩
    · have hia : i < a.length := by simpa using h4
      have hib : i < b.length := by omega
      refine ⟨_, _, decide (a.getD i [] = b.getD i []), ⟨by omega, by omega⟩, rows_getN hia, ⟨by omega, by omega⟩, rows_getN hib, sameVec_ok (ha _ (getD_mem hia)) (hb _ (getD_mem hib)) (hc _ (getD_mem hia)), fun h5 => outb ?_, fun h5 => ?_⟩
      · rw [eq_comm, decide_eq_false_iff_not]
        rintro ⟨_, _, e⟩; subst e; simp at h5
      · have he : a.getD i [] = b.getD i [] := by simpa using h5
        rw [inc64 (by omega)]
        refine ⟨⟨i + 1, rfl, by omega, fun k hk => ?_⟩, by show ((a.length : Int) - ((i + 1 : Nat) : Int)).toNat < ((a.length : Int) - (i : Int)).toNat; omega⟩
        by_cases hki : k = i
        · subst hki; exact he
        · exact hinv k (by omega)
    · have hia : i = a.length := by have : a.length ≤ i := by simpa using h4
                                    omega
      have : a = b := lists_ext hlen fun k hk => hinv k (by omega)
      simp [this, h, h2]

theorem sized_ok {r c : Nat} {m : List (List Int)} (hm : Mx r c m) (hs : SzM m) (hr : r ≤ 4294967296) (hc : c ≤ 4294967296) (r' c' : Int) :
    FnD prog 22 [eM r c m, vi r', vi c'] (vb (decide ((r : Int) = r' ∧ (c : Int) = c'))) [] := by
  refine vc22_ok _ _ _ _ _ (R := Out _) ?_
  unfold vc22
  refine ⟨fun h => ⟨fun h2 => ⟨true, rvalidM_ok hm hs hr hc, outb ?_⟩, fun h2 => outb ?_⟩, fun h => outb ?_⟩
  · have h : (r : Int) = r' := by simpa using h
    have h2 : (c : Int) = c' := by simpa using h2
    simp [h, h2]
  · have h2 : ¬ (c : Int) = c' := by simpa using h2
    simp [h2]
  · have h : ¬ (r : Int) = r' := by simpa using h
    simp [h]

/-! ### Transposing -/

theorem el_mem {r c : Nat} {m : List (List Int)} (hm : Mx r c m) {i j : Nat} (hi : i < r) (hj : j < c) : (m.getD i []).length = c ∧ m.getD i [] ∈ m := by
  have h1 : i < m.length := by rw [hm.1]; exact hi
  exact ⟨hm.2 _ (getD_mem h1), getD_mem h1⟩

/-- One element, read. -/
theorem read_el {r c : Nat} {m : List (List Int)} (hm : Mx r c m) {i j : Nat} (hi : i < r) (hj : j < c) :
    (rows m)[(i : Int).toNat]? = some [D.sl (row (m.getD i []))] ∧ (row (m.getD i []))[(j : Int).toNat]? = some (cI (el m i j)) ∧ ((j : Int) < ((row (m.getD i [])).length : Int)) ∧ ((i : Int) < ((rows m).length : Int)) := by
  have h1 : i < m.length := by rw [hm.1]; exact hi
  have h2 := (el_mem hm hi hj).1
  refine ⟨rows_getN h1, row_getN (by omega), by rw [row_length]; omega, by rw [rows_length]; omega⟩

theorem transpose_ok {r c : Nat} {m : List (List Int)} (hm : Mx r c m) (hr : r ≤ 4294967296) (hc : c ≤ 4294967296) : FnD prog 21 [eM r c m] (eM c r (table c r fun i j => el m j i)) [] := by
  refine vc21_ok _ _ _ (R := Out _) ?_
  unfold vc21
  refine ⟨_, _, _, build_ok hc hr (g := fun i j => el m j i) fun i j hi hj => ?_, rfl, rfl⟩
  refine vc79_ok _ _ _ _ _ (R := Out _) ?_
  unfold vc79
  obtain ⟨e1, e2, e3, e4⟩ := read_el hm hj hi
  exact ⟨_, _, _, ⟨by omega, e4⟩, e1, ⟨by omega, e3⟩, e2, rfl, rfl⟩

/-! ### Multiplying -/

def dsum (f g : Nat → Int) : Nat → Int
  | 0 => 0
  | n + 1 => dsum f g n + f n * g n

/-- No element is greater than K. -/
def BdR (K : Nat) (r : List Int) : Prop := ∀ z ∈ r, z.natAbs ≤ K
def BdM (K : Nat) (m : List (List Int)) : Prop := ∀ r ∈ m, BdR K r

/-- A bound under which nothing is too long. -/
theorem sz_of {z : Int} (h : z.natAbs ≤ 497323236409786642155382248146820840100456150797347717440463976893159497012533375533056) : Sz z :=
  Sz.of_lt 10 (by decide) (Nat.lt_of_le_of_lt h (by decide))

theorem BdR.sz {K : Nat} {r : List Int} (h : BdR K r) (hK : K ≤ 497323236409786642155382248146820840100456150797347717440463976893159497012533375533056) : SzR r := fun z hz => sz_of (Nat.le_trans (h z hz) hK)
theorem BdM.sz {K : Nat} {m : List (List Int)} (h : BdM K m) (hK : K ≤ 497323236409786642155382248146820840100456150797347717440463976893159497012533375533056) : SzM m := fun r hr => (h r hr).sz hK

theorem mul_natAbs_le {x y : Int} {K L : Nat} (hx : x.natAbs ≤ K) (hy : y.natAbs ≤ L) : (x * y).natAbs ≤ K * L := by rw [Int.natAbs_mul]; exact Nat.mul_le_mul hx hy

theorem dsum_le {f g : Nat → Int} {K L : Nat} : ∀ n, (∀ k, k < n → (f k).natAbs ≤ K) → (∀ k, k < n → (g k).natAbs ≤ L) → (dsum f g n).natAbs ≤ n * (K * L)
  | 0, _, _ => by simp [dsum]
  | n + 1, hf, hg => by
    have h1 := dsum_le n (fun k hk => hf k (by omega)) fun k hk => hg k (by omega)
    have h2 := mul_natAbs_le (hf n (by omega)) (hg n (by omega))
    have h3 := Int.natAbs_add_le (dsum f g n) (f n * g n)
    simp only [dsum]
    rw [Nat.add_mul]; omega

theorem dstep_ok {s x y : Int} (hs : Sz s) (hx : Sz x) (hy : Sz y) (hp : Sz (x * y)) : FnD prog 129 [eI s, eI x, eI y] (eI (s + x * y)) [] := by
  refine vc129_ok _ _ _ _ _ _ (R := Out _) ?_
  unfold vc129
  refine ⟨_, sign_ok x, fun h => oute ?_, fun h => ⟨_, sign_ok y, fun h2 => oute ?_, fun h2 => ⟨_, _, _, _, mul_ok hx hy, add_ok hs hp, oute rfl⟩⟩⟩
  · have hx0 : x = 0 := by
      apply Classical.byContradiction
      intro hn
      rw [if_neg hn] at h
      by_cases h1 : x < 0
      · rw [if_pos h1] at h; simp at h
      · rw [if_neg h1] at h; simp at h
    subst hx0; simp
  · have hy0 : y = 0 := by
      apply Classical.byContradiction
      intro hn
      rw [if_neg hn] at h2
      by_cases h1 : y < 0
      · rw [if_pos h1] at h2; simp at h2
      · rw [if_neg h1] at h2; simp at h2
    subst hy0; simp

theorem fold_ok {a b : List Int} {K : Nat} (hab : a.length = b.length) (ha : BdR K a) (hb : BdR K b) (hl : a.length ≤ 4294967296) (hK : K ≤ 1329227995784915872903807060280344576) :
    FnD prog 128 [vs (row a), vs (row b), eI 0, .e (.sc (.dat (.fn (.func 129) ([] : List D))))] (eI (dsum (elr a) (elr b) a.length)) [] := by
  have hKK : K * K ≤ 1329227995784915872903807060280344576 * 1329227995784915872903807060280344576 := Nat.mul_le_mul hK hK
  have hnK : ∀ n, n ≤ a.length → n * (K * K) ≤ 4294967296 * (1329227995784915872903807060280344576 * 1329227995784915872903807060280344576) := fun n hn => Nat.mul_le_mul (by omega) hKK
  refine vc128_ok _ _ _ _ _ _ (R := Out _) ?_
  unfold vc128
  simp only [row_length]
  refine ⟨fun o0 o1 t => ∃ i : Nat, t = (i : Int) ∧ i ≤ a.length ∧ o0 = decide (dsum (elr a) (elr b) i < 0) ∧ o1 = lim (dz (dsum (elr a) (elr b) i)), fun _ _ t => ((a.length : Int) - t).toNat, ⟨0, rfl, by omega, rfl, rfl⟩, ?_⟩
  rintro _ _ _ ⟨i, rfl, hi, rfl, rfl⟩
  refine ⟨fun h => ?_, fun h => ?_⟩
  · have hia : i < a.length := by simpa using h
    have hib : i < b.length := by omega
    have hs : Sz (dsum (elr a) (elr b) i) := sz_of (Nat.le_trans (dsum_le (K := K) (L := K) i (fun k hk => ha _ (elr_mem (by omega))) fun k hk => hb _ (elr_mem (by omega))) (Nat.le_trans (hnK i hi) (by decide)))
    have hx := ha _ (elr_mem hia)
    have hy := hb _ (elr_mem hib)
    refine ⟨_, _, _, _, decide (dsum (elr a) (elr b) (i + 1) < 0), lim (dz (dsum (elr a) (elr b) (i + 1))), ⟨by omega, by omega⟩, row_getN hia, ⟨by omega, by omega⟩, row_getN hib, dstep_ok hs (sz_of (Nat.le_trans hx (by omega))) (sz_of (Nat.le_trans hy (by omega))) (sz_of (Nat.le_trans (mul_natAbs_le hx hy) (Nat.le_trans hKK (by decide)))), ?_⟩
    rw [inc64 (by omega)]
    exact ⟨⟨i + 1, rfl, by omega, rfl, rfl⟩, by show ((a.length : Int) - ((i + 1 : Nat) : Int)).toNat < ((a.length : Int) - (i : Int)).toNat; omega⟩
  · have hia : i = a.length := by have : a.length ≤ i := by simpa using h
                                  omega
    subst hia
    exact ⟨rfl, rfl⟩

theorem dot_ok {a b : List Int} {K : Nat} (hab : a.length = b.length) (ha : BdR K a) (hb : BdR K b) (hl : a.length ≤ 4294967296) (hK : K ≤ 1329227995784915872903807060280344576) :
    FnD prog 78 [vs (row a), vs (row b)] (eI (dsum (elr a) (elr b) a.length)) [] := by
  refine vc78_ok _ _ (R := Out _) ?_
  unfold vc78
  exact ⟨_, _, fold_ok hab ha hb hl hK, rfl, rfl⟩

end Go.AM
