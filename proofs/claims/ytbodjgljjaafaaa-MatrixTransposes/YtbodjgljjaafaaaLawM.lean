/- What the functions of package matrix answer: picking, blocks. -/
import Derived.Test.YtbodjgljjaafaaaLawL
namespace Go.AM
open Go.Proofs.Try

def outP (n i : Int) : Bool := decide (i < 0) || decide (i ≥ n)

theorem outside_ok (n i : Int) : FnD prog 84 ([vi i] ++ [D.box [D.int .i64 n]].map dV) (vb (outP n i)) [] := by
  refine vc84_ok i n (R := Out _) ?_
  unfold vc84
  refine ⟨fun h => outb ?_, fun h => outb ?_⟩
  · unfold outP; rw [h]; rfl
  · unfold outP; rw [h]; rfl

theorem outer_ok (n : Int) : FnD prog 83 [vi n] (.e (.sc (.dat (.fn (.func 84) [D.box [D.int .i64 n]])))) [] := by
  refine vc83_ok n (R := Out _) ?_
  exact ⟨rfl, rfl⟩

theorem pick_ok {r c : Nat} {a : List (List Int)} (ha : Mx r c a) {p q : List Int} (hr : r ≤ 4294967296) (hc : c ≤ 4294967296) (hp : p.length ≤ 4294967296) (hq : q.length ≤ 4294967296)
    (ip : ∀ k, k < p.length → 0 ≤ elr p k ∧ elr p k < r) (iq : ∀ k, k < q.length → 0 ≤ elr q k ∧ elr q k < c) :
    FnD prog 30 [eM r c a, vs (ints p), vs (ints q)] (eME p.length q.length (table p.length q.length fun i j => el a (elr p i).toNat (elr q j).toNat) 0) [] := by
  have no : ∀ (l : List Int) (n : Int), (∀ k, k < l.length → 0 ≤ elr l k ∧ elr l k < n) → l.any (outP n) = false := fun l n h => by
    rw [List.any_eq_false]
    intro z hz
    obtain ⟨k, hk, rfl⟩ := List.getElem_of_mem hz
    have := h k hk
    rw [elr_get hk] at this
    simp [outP]; omega
  refine vc30_ok _ _ _ _ _ (R := Out _) ?_
  unfold vc30
  simp only [ints_length]
  have c1 := contains85_ok (r := p) (f := 84) (fc := [D.box [D.int .i64 (r : Int)]]) (p := outP r) hp fun k hk => outside_ok _ _
  have c2 := contains85_ok (r := q) (f := 84) (fc := [D.box [D.int .i64 (c : Int)]]) (p := outP c) hq fun k hk => outside_ok _ _
  rw [no p r ip] at c1
  rw [no q c iq] at c2
  refine ⟨84, _, _, outer_ok r, c1, fun h => by simp at h, fun _ => ⟨84, _, _, outer_ok c, c2, fun h => by simp at h, fun _ => ⟨_, _, _, build_ok hp hq (g := fun i j => el a (elr p i).toNat (elr q j).toNat) fun i j hi hj => ?_, rfl, rfl⟩⟩⟩
  refine vc86_ok _ _ _ _ _ _ _ (R := Out _) ?_
  unfold vc86
  obtain ⟨p1, p2⟩ := ip i hi
  obtain ⟨q1, q2⟩ := iq j hj
  have h1 : (elr p i).toNat < r := by omega
  have h2 : (elr q j).toNat < c := by omega
  obtain ⟨e1, e2, e3, e4⟩ := read_el ha h1 h2
  rw [Int.toNat_natCast] at e1 e2
  exact ⟨elr p i, _, elr q j, _, _, ⟨by omega, by rw [ints_length]; omega⟩, ints_getN hi, ⟨p1, by omega⟩, e1, ⟨by omega, by rw [ints_length]; omega⟩, ints_getN hj, ⟨q1, by omega⟩, e2, rfl, rfl⟩

theorem pick_bad {r c : Int} {a : List (List Int)} {p q : List Int} (hp : p.length ≤ 4294967296) (hq : q.length ≤ 4294967296) (h : p.any (outP r) = true ∨ q.any (outP c) = true) :
    FnD prog 30 [eM r c a, vs (ints p), vs (ints q)] (eME 0 0 [] 1) [] := by
  refine vc30_ok _ _ _ _ _ (R := Out _) ?_
  unfold vc30
  have c1 := contains85_ok (r := p) (f := 84) (fc := [D.box [D.int .i64 r]]) (p := outP r) hp fun k hk => outside_ok _ _
  have c2 := contains85_ok (r := q) (f := 84) (fc := [D.box [D.int .i64 c]]) (p := outP c) hq fun k hk => outside_ok _ _
  refine ⟨84, _, _, outer_ok r, c1, fun _ => ⟨rfl, rfl⟩, fun h1 => ⟨84, _, _, outer_ok c, c2, fun _ => ⟨rfl, rfl⟩, fun h2 => ?_⟩⟩
  exfalso
  rcases h with h | h
  · rw [h] at h1; simp at h1
  · rw [h] at h2; simp at h2

theorem beside_ok {r c d : Nat} {a b : List (List Int)} (ha : Mx r c a) (hb : Mx r d b) (hr : r ≤ 4294967296) (hc : c ≤ 2147483648) (hd : d ≤ 2147483648) :
    FnD prog 26 [eM r c a, eM r d b] (eME r ((c + d : Nat) : Int) (table r (c + d) fun i j => if j < c then el a i j else el b i (j - c)) 0) [] := by
  refine vc26_ok _ _ _ _ _ _ (R := Out _) ?_
  unfold vc26
  have hw : IntKind.i64.wrap ((c : Int) + (d : Int)) = ((c + d : Nat) : Int) := by rw [w64 (by omega) (by omega)]; simp
  rw [hw]
  refine ⟨fun h => by simp at h, fun _ => ⟨_, _, _, build_ok hr (by omega) (g := fun i j => if j < c then el a i j else el b i (j - c)) fun i j hi hj => ?_, rfl, rfl⟩⟩
  refine vc81_ok _ _ _ _ _ _ _ _ (R := Out _) ?_
  unfold vc81
  refine ⟨fun h => ?_, fun h => ?_⟩
  · have hjc : j < c := by simpa using h
    obtain ⟨e1, e2, e3, e4⟩ := read_el ha hi hjc
    refine ⟨_, _, _, ⟨by omega, e4⟩, e1, ⟨by omega, e3⟩, e2, ?_⟩
    simp only [if_pos hjc]; exact ⟨rfl, rfl⟩
  · have hjc : ¬ j < c := by simpa using h
    have hj2 : j - c < d := by omega
    have hw2 : IntKind.i64.wrap ((j : Int) - (c : Int)) = ((j - c : Nat) : Int) := by rw [w64 (by omega) (by omega)]; omega
    rw [hw2]
    obtain ⟨e1, e2, e3, e4⟩ := read_el hb hi hj2
    refine ⟨_, _, _, ⟨by omega, e4⟩, e1, ⟨by omega, e3⟩, e2, ?_⟩
    simp only [if_neg hjc]; exact ⟨rfl, rfl⟩

theorem grow_ok {n : Int} (h0 : 0 ≤ n) (h1 : n ≤ 1099511627776) : FnD prog 130 [.e (.sc (.dat (.raw (.slice none 0 0)))), vi n] (.e (.sc (.ref 0))) [some (.arr 1 [])] := by
  refine vc130_ok n (R := fun r h => r = .e (.sc (.ref 0)) ∧ h = [some (.arr 1 [])]) ?_
  unfold vc130
  have hw : IntKind.i64.wrap (n - 0) = n := by rw [Int.sub_zero]; exact w64 (by omega) (by omega)
  rw [hw]
  refine ⟨fun h => ?_, fun _ => ⟨fun h => ⟨rfl, ⟨?_, by omega⟩, ⟨by omega, by omega⟩, rfl, rfl⟩, fun h => ⟨rfl, rfl⟩⟩⟩
  · have : n < 0 := by simpa using h
    omega
  · simpa using h

/-- Two slices, one behind the other. -/
theorem concat_ok {x y : List (List D)} (hx : ∀ z ∈ x, z.length = 1) (hy : ∀ z ∈ y, z.length = 1) (lx : x.length ≤ 4294967296) (ly : y.length ≤ 4294967296) :
    FnD prog 80 [vs [[D.sl x], [D.sl y]]] (vs (x ++ y)) [] := by
  refine vc80_ok _ (R := Out _) ?_
  unfold vc80
  have hlen : (([[D.sl x], [D.sl y]] : List (List D)).length : Int) = 2 := rfl
  rw [hlen]
  refine ⟨fun t s => (t = 0 ∧ s = 0) ∨ (t = 1 ∧ s = x.length) ∨ (t = 2 ∧ s = x.length + y.length), fun t _ => (2 - t).toNat, .inl ⟨rfl, rfl⟩, fun t s hJ => ⟨fun h => ?_, fun h => ?_⟩⟩
  · have ht : t < 2 := by simpa using h
    rcases hJ with ⟨rfl, rfl⟩ | ⟨rfl, rfl⟩ | ⟨rfl, rfl⟩
    · have hw : IntKind.i64.wrap (0 + (x.length : Int)) = x.length := by rw [w64 (by omega) (by omega)]; omega
      refine ⟨x, ⟨by omega, by omega⟩, rfl, ?_⟩
      rw [hw]
      exact ⟨fun h => by simp at h; omega, fun _ => ⟨.inr (.inl ⟨rfl, rfl⟩), by show ((2 : Int) - IntKind.i64.wrap (0 + 1)).toNat < ((2 : Int) - 0).toNat; decide⟩⟩
    · have hw : IntKind.i64.wrap ((x.length : Int) + (y.length : Int)) = x.length + y.length := by rw [w64 (by omega) (by omega)]
      refine ⟨y, ⟨by omega, by omega⟩, rfl, ?_⟩
      rw [hw]
      exact ⟨fun h => by simp at h; omega, fun _ => ⟨.inr (.inr ⟨rfl, rfl⟩), by show ((2 : Int) - IntKind.i64.wrap (1 + 1)).toNat < ((2 : Int) - 1).toNat; decide⟩⟩
    · omega
  · have ht : ¬ t < 2 := by simpa using h
    have hs : s = x.length + y.length := by
      rcases hJ with ⟨h1, h2⟩ | ⟨h1, h2⟩ | ⟨h1, h2⟩
      · omega
      · omega
      · exact h2
    subst hs
    refine ⟨[], grow_ok (by omega) (by omega), fun o t => (t = 0 ∧ o = []) ∨ (t = 1 ∧ o = x) ∨ (t = 2 ∧ o = x ++ y), fun _ t => (2 - t).toNat, .inl ⟨rfl, rfl⟩, fun o t hJ => ⟨fun h => ?_, fun h => ?_⟩⟩
    · have ht : t < 2 := by simpa using h
      rcases hJ with ⟨rfl, rfl⟩ | ⟨rfl, rfl⟩ | ⟨rfl, rfl⟩
      · exact ⟨x, ⟨by omega, by omega⟩, rfl, hx, by simp only [List.length_nil]; omega, .inr (.inl ⟨rfl, rfl⟩), by show ((2 : Int) - IntKind.i64.wrap (0 + 1)).toNat < ((2 : Int) - 0).toNat; decide⟩
      · exact ⟨y, ⟨by omega, by omega⟩, rfl, hy, by omega, .inr (.inr ⟨rfl, rfl⟩), by show ((2 : Int) - IntKind.i64.wrap (1 + 1)).toNat < ((2 : Int) - 1).toNat; decide⟩
      · omega
    · have ht : ¬ t < 2 := by simpa using h
      rcases hJ with ⟨h1, h2⟩ | ⟨h1, h2⟩ | ⟨h1, h2⟩
      · omega
      · omega
      · subst h2; exact ⟨rfl, rfl⟩

theorem rows_one (m : List (List Int)) : ∀ z ∈ rows m, z.length = 1 := fun z hz => by
  simp only [rows, List.mem_map] at hz
  obtain ⟨_, _, rfl⟩ := hz; rfl

theorem stack_ok {r s : Nat} {c : Int} {a b : List (List Int)} (ha : a.length = r) (hb : b.length = s) (hr : r ≤ 2147483648) (hs : s ≤ 2147483648) :
    FnD prog 25 [eM r c a, eM s c b] (eME ((r + s : Nat) : Int) c (a ++ b) 0) [] := by
  refine vc25_ok _ _ _ _ _ _ (R := Out _) ?_
  unfold vc25
  have hw : IntKind.i64.wrap ((r : Int) + (s : Int)) = ((r + s : Nat) : Int) := by rw [w64 (by omega) (by omega)]; simp
  rw [hw]
  refine ⟨fun h => by simp at h, fun _ => ⟨_, concat_ok (rows_one a) (rows_one b) (by rw [rows_length]; omega) (by rw [rows_length]; omega), ?_⟩⟩
  have : rows a ++ rows b = rows (a ++ b) := by simp [rows]
  rw [this]; exact ⟨rfl, rfl⟩

end Go.AM
