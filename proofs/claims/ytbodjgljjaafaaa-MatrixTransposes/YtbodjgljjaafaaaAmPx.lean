/- The abstract machine: one function for all operations that only compute and read. -/
import Derived.Test.YtbodjgljjaafaaaAmMore
namespace Go.AM

def OptV : Option Int → Option Value → Prop
  | none, v => v = none
  | some n, v => ∃ k, v = some (.int k n)

def optInt (t : List (Nat × V)) : Option Operand → Option (Option Int)
  | none => some none
  | some x => match ev t x with
    | some (.e (.sc (.dat (.int _ n)))) => some (some n)
    | _ => none

/-- 'x[lo:hi:max]' of a slice of data. -/
def xslice (T : Tab) (t : Nat) (x : V) (lo hi mx : Option Int) : Option (V × List Prop) :=
  match tfind T t with
  | some ti =>
    match ti.k with
    | .slice e =>
      match tfind T e with
      | some te =>
        match x with
        | .e (.sc (.dat (.sl elems))) =>
          match lo, hi, mx with
          | none, some h, none => some (.e (.sc (.dat (.sl (elems.take h.toNat)))), [0 ≤ h ∧ h ≤ (elems.length : Int)])
          | none, some h, some m => some (.e (.sc (.dat (.sl (elems.take h.toNat)))), [0 ≤ h ∧ h ≤ m ∧ m ≤ (elems.length : Int)])
          | some l, none, none => some (.e (.sc (.dat (.sl (elems.drop l.toNat)))), [0 ≤ l ∧ l ≤ (elems.length : Int), ∀ y ∈ elems, y.length = te.size])
          | some l, some h, none => some (.e (.sc (.dat (.sl ((elems.take h.toNat).drop l.toNat)))), [0 ≤ l ∧ l ≤ h ∧ h ≤ (elems.length : Int), ∀ y ∈ elems, y.length = te.size])
          | some l, some h, some m => some (.e (.sc (.dat (.sl ((elems.take h.toNat).drop l.toNat)))), [0 ≤ l ∧ l ≤ h ∧ h ≤ m ∧ m ≤ (elems.length : Int), ∀ y ∈ elems, y.length = te.size])
          | _, _, _ => none
        | _ => none
      | none => none
    | _ => none
  | none => none

section
variable {P : Program} {w : World} {I : Nat → Prop} {M : Mem}

theorem reads_sub {a : Option Addr} {n cap : Nat} {elems : List (List D)} (hr : Reads w I (.slice a n cap) (.sl elems)) {z l h m : Nat} (h1 : l ≤ h) (h2 : h ≤ m) (h4 : h ≤ elems.length)
    (hz : l = 0 ∨ ∀ y ∈ elems, y.length = z) : Reads w I (.slice (if m = l then a else a.map (·.add (l * z))) (h - l) (m - l)) (.sl ((elems.take h).drop l)) := by
  by_cases hlen : h - l = 0
  · rw [hlen]
    have : (elems.take h).drop l = [] := List.drop_eq_nil_of_le (by simp; omega)
    rw [this]; exact .slnil _ _
  · rw [if_neg (by omega)]
    cases hr with
    | slnil a' c' => simp at h4; omega
    | sl _ vs hI hb hs hcap hc hrr =>
      rename_i b off s cs t fr
      have hsz : l * z = l * s := by
        rcases hz with rfl | hz
        · simp
        · rcases Nat.eq_zero_or_pos elems.length with h0 | h0
          · omega
          · have hm := List.getElem_mem (l := elems) (n := 0) h0
            rw [← hz _ hm, hs _ hm]
      have hlen' : ((elems.take h).drop l).length = h - l := by simp; omega
      rw [← hlen']
      simp only [Option.map_some, Addr.add_lit, hsz]
      have hat : ∀ i j d, at2 ((elems.take h).drop l) i j = some d → at2 elems (l + i) j = some d := fun i j d hd => by
        simp only [at2, List.getElem?_drop, List.getElem?_take] at hd
        split at hd
        · exact hd
        · simp at hd
      refine .sl _ (fun i j => vs (l + i) j) hI hb (fun x hx => hs x (List.mem_of_mem_take (List.mem_of_mem_drop hx))) (by omega) (fun i j d hd => ?_) (fun i j d hd => hrr _ _ _ (hat i j d hd))
      have := hc _ _ _ (hat i j d hd)
      rw [← this]; congr 1
      rw [Nat.add_mul]; omega

theorem reads_cap {v : Value} {elems : List (List D)} (hr : Reads w I v (.sl elems)) : ∃ a cap, v = .slice a elems.length cap ∧ (elems ≠ [] → elems.length ≤ cap) := by
  cases hr with
  | slnil a cap => exact ⟨a, cap, rfl, fun h => absurd rfl h⟩
  | sl _ vs hI hb hs hcap hc hrr => exact ⟨_, _, rfl, fun _ => hcap⟩

/-- Every slice of data that the program can hold has its length within its capacity. -/
theorem run_bound {k : IntKind} {n : Int} {y : Nat} (c : BoundsCode) (h : 0 ≤ n ∧ n ≤ (y : Int)) : (Instr.sliceBound (.int k n) y c).run P w = .ok n.toNat w := by
  simp [Instr.sliceBound, asIntOf, h]

theorem optInt_ok {σ : St} {a : Act} (s : Sim I M σ a w) {x : Option Operand} {n : Option Int} (h : optInt σ.t x = some n) : OptV n (x.map a.eval) := by
  cases x with
  | none => simp only [optInt, Option.some.injEq] at h; subst h; rfl
  | some x =>
    simp only [optInt] at h
    split at h
    · rename_i k n' hev
      simp only [Option.some.injEq] at h; subst h
      have := s.ev hev
      refine ⟨k, ?_⟩
      simp only [Option.map_some]
      generalize a.eval x = v at this
      cases this
      rfl
    · simp at h

theorem run_slice {t e : Nat} (hu : P.underlying t = some (.slice e)) {te : TI} (he : TIOK P e te) {a : Option Addr} {n cap : Nat} {lo hi mx : Option Value} {l h m : Nat}
    (hb : (Instr.sliceBounds true n cap lo hi mx).run P w = .ok (l, h, m) w) :
    (Instr.sliceAt t (.slice a n cap) lo hi mx).run P w = .ok (.slice (if m = l then a else a.map (·.add (l * te.size))) (h - l) (m - l)) w := by
  simp [Instr.sliceAt, Instr.slice, run_underlying hu, hb, he.sizeOf]

theorem xslice_ok {T : Tab} (hT : TOK P T) {t : Nat} {x r : V} {lo hi mx : Option Int} {obs : List Prop} (hx : xslice T t x lo hi mx = some (r, obs)) (ho : AllP obs)
    {u : Value} (hu : RelV w I M u x) {lo' hi' mx' : Option Value} (h1 : OptV lo lo') (h2 : OptV hi hi') (h3 : OptV mx mx') :
    ∃ y, (Instr.sliceAt t u lo' hi' mx').run P w = .ok y w ∧ RelV w I M y r := by
  unfold xslice at hx
  split at hx
  case h_2 => simp at hx
  rename_i ti hti
  split at hx
  case h_2 => simp at hx
  rename_i e hk
  have hund := (hT.find hti).slice hk
  split at hx
  case h_2 => simp at hx
  rename_i te hte
  have he := hT.find hte
  split at hx
  case h_2 => simp at hx
  rename_i elems
  have hu' : Reads w I u (.sl elems) := hu
  obtain ⟨a, cap, rfl, hcap⟩ := reads_cap hu'
  have hcap' : ∀ n : Nat, n ≤ elems.length → n ≤ cap := fun n hn => by
    cases elems with
    | nil => simp at hn; omega
    | cons y l => exact Nat.le_trans hn (hcap (by simp))
  split at hx
  · rename_i h
    simp only [Option.some.injEq, Prod.mk.injEq] at hx
    obtain ⟨rfl, rfl⟩ := hx
    obtain ⟨k, rfl⟩ := h2
    simp only [OptV] at h1 h3; subst h1; subst h3
    have hn := ho.1
    have hb : (Instr.sliceBounds true elems.length cap none (some (.int k h)) none).run P w = .ok (0, h.toNat, cap) w := by
      have := hcap' h.toNat (by omega)
      simp [Instr.sliceBounds, run_bound (P := P) (w := w) (k := k) (n := h) (y := cap) .sliceAcap (by omega)]
    refine ⟨_, run_slice hund he hb, ?_⟩
    have := hcap' h.toNat (by omega)
    have := reads_sub hu' (z := te.size) (l := 0) (h := h.toNat) (m := cap) (by omega) (by omega) (by omega) (.inl rfl)
    simpa [RelV, RelE, RelS] using this
  · rename_i h m
    simp only [Option.some.injEq, Prod.mk.injEq] at hx
    obtain ⟨rfl, rfl⟩ := hx
    obtain ⟨k, rfl⟩ := h2
    obtain ⟨k', rfl⟩ := h3
    simp only [OptV] at h1; subst h1
    have hn := ho.1
    have hb : (Instr.sliceBounds true elems.length cap none (some (.int k h)) (some (.int k' m))).run P w = .ok (0, h.toNat, m.toNat) w := by
      have := hcap' m.toNat (by omega)
      simp [Instr.sliceBounds, run_bound (P := P) (w := w) (k := k) (n := h) (y := m.toNat) .slice3B (by omega), run_bound (P := P) (w := w) (k := k') (n := m) (y := cap) .slice3Acap (by omega)]
    refine ⟨_, run_slice hund he hb, ?_⟩
    have := reads_sub hu' (z := te.size) (l := 0) (h := h.toNat) (m := m.toNat) (by omega) (by omega) (by omega) (.inl rfl)
    simpa [RelV, RelE, RelS] using this
  · rename_i l
    simp only [Option.some.injEq, Prod.mk.injEq] at hx
    obtain ⟨rfl, rfl⟩ := hx
    obtain ⟨k, rfl⟩ := h1
    simp only [OptV] at h2 h3; subst h2; subst h3
    have hn := ho.1
    have hb : (Instr.sliceBounds true elems.length cap (some (.int k l)) none none).run P w = .ok (l.toNat, elems.length, cap) w := by
      simp [Instr.sliceBounds, run_bound (P := P) (w := w) (k := k) (n := l) (y := elems.length) .sliceB (by omega)]
    refine ⟨_, run_slice hund he hb, ?_⟩
    have := hcap' elems.length (by omega)
    have := reads_sub hu' (z := te.size) (l := l.toNat) (h := elems.length) (m := cap) (by omega) (by omega) (by omega) (.inr ho.2.1)
    simpa [RelV, RelE, RelS] using this
  · rename_i l h
    simp only [Option.some.injEq, Prod.mk.injEq] at hx
    obtain ⟨rfl, rfl⟩ := hx
    obtain ⟨k, rfl⟩ := h1
    obtain ⟨k', rfl⟩ := h2
    simp only [OptV] at h3; subst h3
    have hn := ho.1
    have := hcap' h.toNat (by omega)
    have hb : (Instr.sliceBounds true elems.length cap (some (.int k l)) (some (.int k' h)) none).run P w = .ok (l.toNat, h.toNat, cap) w := by
      simp [Instr.sliceBounds, run_bound (P := P) (w := w) (k := k') (n := h) (y := cap) .sliceAcap (by omega), run_bound (P := P) (w := w) (k := k) (n := l) (y := h.toNat) .sliceB (by omega)]
    refine ⟨_, run_slice hund he hb, ?_⟩
    exact reads_sub hu' (z := te.size) (l := l.toNat) (h := h.toNat) (m := cap) (by omega) (by omega) (by omega) (.inr ho.2.1)
  · rename_i l h m
    simp only [Option.some.injEq, Prod.mk.injEq] at hx
    obtain ⟨rfl, rfl⟩ := hx
    obtain ⟨k, rfl⟩ := h1
    obtain ⟨k', rfl⟩ := h2
    obtain ⟨k'', rfl⟩ := h3
    have hn := ho.1
    have := hcap' m.toNat (by omega)
    have hb : (Instr.sliceBounds true elems.length cap (some (.int k l)) (some (.int k' h)) (some (.int k'' m))).run P w = .ok (l.toNat, h.toNat, m.toNat) w := by
      simp [Instr.sliceBounds, run_bound (P := P) (w := w) (k := k') (n := h) (y := m.toNat) .slice3B (by omega), run_bound (P := P) (w := w) (k := k) (n := l) (y := h.toNat) .slice3C (by omega), run_bound (P := P) (w := w) (k := k'') (n := m) (y := cap) .slice3Acap (by omega)]
    refine ⟨_, run_slice hund he hb, ?_⟩
    exact reads_sub hu' (z := te.size) (l := l.toNat) (h := h.toNat) (m := m.toNat) (by omega) (by omega) (by omega) (.inr ho.2.1)
  · simp at hx

/-! ### Other operations -/

/-- A field of a struct by value. -/
def xfield (T : Tab) (t : Nat) (v : V) (f : Nat) : Option (V × List Prop) :=
  match tfind T t, v with
  | some ti, .e (.agg l) =>
    match ti.k with
    | .struct fs => match fs[f]? with
      | some (off, ft) => match tfind T ft with
        | some tf => (mkV tf ((l.drop off).take tf.size)).map fun r => (r, [])
        | none => none
      | none => none
    | _ => none
  | _, _ => none

theorem xfield_ok {T : Tab} (hT : TOK P T) {t f : Nat} {v r : V} {obs : List Prop} (hx : xfield T t v f = some (r, obs)) {u : Value} (hu : RelV w I M u v) :
    ∃ x, (Instr.field t u f).run P w = .ok x w ∧ RelV w I M x r := by
  unfold xfield at hx
  split at hx
  case h_2 => simp at hx
  rename_i ti l hti
  split at hx
  case h_2 => simp at hx
  rename_i fs hk
  split at hx
  case h_2 => simp at hx
  rename_i off ft hf
  split at hx
  case h_2 => simp at hx
  rename_i tf htf
  simp only [Option.map_eq_some_iff, Prod.mk.injEq] at hx
  obtain ⟨r', hr, rfl, rfl⟩ := hx
  obtain ⟨gs, hg, hoffs⟩ := (hT.find hti).struct hk
  obtain ⟨cs, rfl, hrel⟩ := hu
  rw [← hoffs] at hf
  simp only [offs, List.getElem?_map, Option.map_eq_some_iff, Prod.mk.injEq] at hf
  obtain ⟨g, hgf, rfl, rfl⟩ := hf
  have hgf' : gs[f]? = some g := by simpa using hgf
  have ht := hT.find htf
  have hsub : RelL w I M ((cs.toList.drop g.offset).take tf.size) ((l.drop g.offset).take tf.size) :=
    ⟨by simp [← hrel.1], fun j v s hv hs => by
      rw [List.getElem?_take] at hv hs
      split at hv
      · rename_i hj
        rw [List.getElem?_drop] at hv
        rw [if_pos hj, List.getElem?_drop] at hs
        exact hrel.2 _ v s hv hs
      · simp at hv⟩
  unfold mkV at hr
  split at hr
  · rename_i hsz
    simp only [beq_iff_eq] at hsz
    split at hr
    · rename_i hagg
      simp only [Option.some.injEq] at hr; subst hr
      refine ⟨.agg (cs.extract g.offset (g.offset + tf.size)), ?_, _, rfl, ?_⟩
      · simp [Instr.field, run_underlying hg, hgf', asAgg, part, ht.isAgg, hagg, ht.sizeOf]
      · have : (cs.extract g.offset (g.offset + tf.size)).toList = (cs.toList.drop g.offset).take tf.size := by
          simp [List.take_drop]
        rw [this]; exact hsub
    · rename_i hagg
      split at hr
      · rename_i s hs
        simp only [Option.some.injEq] at hr; subst hr
        rw [hs] at hsub hsz
        have hl := hsub.1
        simp only [List.length_cons, List.length_nil] at hl hsz
        have h0 : g.offset < cs.size := by
          simp only [List.length_take, List.length_drop, Array.length_toList] at hl; omega
        refine ⟨cs[g.offset], ?_, hsub.2 0 _ s ?_ rfl⟩
        · simp [Instr.field, run_underlying hg, hgf', asAgg, part, ht.isAgg, hagg, Array.getElem?_eq_getElem h0]
        · rw [List.getElem?_take, if_pos (by omega), List.getElem?_drop]
          simp [Array.getElem?_eq_getElem h0]
      · simp at hr
  · simp at hr

def xextract (v : V) (i : Nat) : Option (V × List Prop) :=
  match v with
  | .tup l => match l[i]? with
    | some x => some (.e x, [])
    | none => none
  | _ => none

theorem xextract_ok {v r : V} {i : Nat} {obs : List Prop} (hx : xextract v i = some (r, obs)) {u : Value} (hu : RelV w I M u v) :
    ∃ y, (Instr.extract u i).run P w = .ok y w ∧ RelV w I M y r := by
  unfold xextract at hx
  split at hx
  · rename_i l
    obtain ⟨vs, rfl, hl, hr⟩ := hu
    split at hx
    · rename_i x hxl
      simp only [Option.some.injEq, Prod.mk.injEq] at hx
      obtain ⟨rfl, rfl⟩ := hx
      have hlt : i < vs.length := by
        rw [hl]
        rcases Nat.lt_or_ge i l.length with h | h
        · exact h
        · rw [List.getElem?_eq_none h] at hxl; simp at hxl
      have hg : vs[i]? = some vs[i] := List.getElem?_eq_getElem hlt
      exact ⟨vs[i], by simp [Instr.extract, hg], hr i _ _ hg hxl⟩
    · simp at hx
  · simp at hx

/-- Cells for the parts of a struct or an array: (offset, cells). -/
def patch (cells : List S) (off : Nat) (l : List S) : List S := cells.take off ++ l ++ cells.drop (off + l.length)

def E.cells : E → List S
  | .sc s => [s]
  | .agg l => l

theorem RelE.cellsL {v : Value} {x : E} (h : RelE w I M v x) : (∃ l, x = .agg l) ∨ v.oneCell' = true → RelL w I M v.cells.toList x.cells := by
  intro hor
  cases x with
  | agg l => obtain ⟨cs, rfl, h2⟩ := h; exact h2
  | sc s =>
    rcases hor with ⟨l, hl⟩ | hor
    · simp at hl
    · have : v.cells = #[v] := by cases v <;> simp [Value.oneCell'] at hor <;> rfl
      rw [this]
      refine ⟨rfl, fun i u s' hu hs => ?_⟩
      match i, hu, hs with
      | 0, hu, hs => simp only [E.cells, List.getElem?_cons_zero, Option.some.injEq] at hu hs; subst hu; subst hs; exact h
      | i + 1, hu, hs => simp at hu

/-- A one-cell value that may be stored. -/
def S.one : S → Bool
  | .dat (.raw v) => v.oneCell'
  | .undef => false
  | .row .. => false
  | _ => true

theorem S.one_ok {v : Value} {s : S} (h : RelS w I M v s) (ho : s.one = true) : v.oneCell' = true := by
  cases s with
  | dat d => exact Reads.one h
  | ref o => obtain ⟨e, _, rfl⟩ := h; unfold ME.val; split <;> rfl
  | ptr o k => obtain ⟨e, _, rfl⟩ := h; rfl
  | aptr o i k => obtain ⟨e, _, _, rfl⟩ := h; rfl
  | eptr z elems i k => obtain ⟨b, off, s, _, _, rfl⟩ := h; rfl
  | row o k => simp [S.one] at ho
  | mptr o i => obtain ⟨e, _, _, rfl⟩ := h; rfl
  | rptr o r i k => obtain ⟨e, b, n, cap, _, _, _, rfl⟩ := h; rfl
  | clo f caps => obtain ⟨vs, rfl, _⟩ := h; rfl
  | bptr ds k => obtain ⟨b, _, rfl⟩ := h; rfl
  | undef => simp [S.one] at ho

def E.one : E → Bool
  | .sc s => s.one
  | .agg l => l.all S.one

theorem E.one_cells {v : Value} {x : E} (h : RelE w I M v x) (ho : x.one = true) : RelL w I M v.cells.toList x.cells ∧ ∀ u ∈ v.cells.toList, u.oneCell' = true := by
  have h1 := h.cellsL (by
    cases x with
    | agg l => exact .inl ⟨l, rfl⟩
    | sc s => exact .inr (S.one_ok h ho))
  refine ⟨h1, fun u hu => ?_⟩
  obtain ⟨i, hi⟩ := List.mem_iff_getElem?.1 hu
  have hlt : i < x.cells.length := by
    rw [← h1.1]
    rcases Nat.lt_or_ge i v.cells.toList.length with h | h
    · exact h
    · rw [List.getElem?_eq_none h] at hi; simp at hi
  have hg : x.cells[i]? = some x.cells[i] := List.getElem?_eq_getElem hlt
  refine S.one_ok (h1.2 i u _ hi hg) ?_
  cases x with
  | sc s => simp only [E.cells, List.getElem_singleton]; exact ho
  | agg l => simp only [E.one, List.all_eq_true] at ho; exact ho _ (List.getElem_mem _)

end

end Go.AM
