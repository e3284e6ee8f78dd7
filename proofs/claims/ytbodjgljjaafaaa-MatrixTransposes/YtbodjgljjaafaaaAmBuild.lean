/- The abstract machine: struct and array values built of parts. -/
import Derived.Test.YtbodjgljjaafaaaAmPx
namespace Go.AM

theorem foldl_set (off : Nat) : ∀ (l : List Value) (n : Nat) (cs : Array Value), off + n + l.length ≤ cs.size →
    ((l.zipIdx n).foldl (fun (cs : Array Value) (p : Value × Nat) => cs.setIfInBounds (off + p.2) p.1) cs).toList =
      cs.toList.take (off + n) ++ l ++ cs.toList.drop (off + n + l.length)
  | [], n, cs, _ => by simp
  | v :: l, n, cs, h => by
    simp only [List.length_cons] at h
    simp only [List.zipIdx_cons, List.foldl_cons]
    rw [foldl_set off l (n + 1) _ (by simp; omega)]
    simp only [Array.toList_setIfInBounds]
    have e1 : (cs.toList.set (off + n) v).take (off + (n + 1)) = cs.toList.take (off + n) ++ [v] := by
      rw [List.take_set, show off + (n + 1) = (off + n) + 1 from by omega, List.take_succ_eq_append_getElem (by simp; omega)]
      rw [List.set_append_right _ _ (by simp; omega)]
      have hm : min (off + n) cs.size = off + n := by omega
      simp [hm]
    have e2 : (cs.toList.set (off + n) v).drop (off + (n + 1) + l.length) = cs.toList.drop (off + n + (l.length + 1)) := by
      rw [List.drop_set, if_pos (by omega)]
      congr 1; omega
    rw [e1, e2]
    simp

theorem RelL.append {w : World} {I : Nat → Prop} {M : Mem} {a b : List Value} {x y : List S} (h : RelL w I M a x) (k : RelL w I M b y) : RelL w I M (a ++ b) (x ++ y) := by
  refine ⟨by simp [h.1, k.1], fun i v s hv hs => ?_⟩
  by_cases hi : i < a.length
  · rw [List.getElem?_append_left hi] at hv
    rw [List.getElem?_append_left (h.1 ▸ hi)] at hs
    exact h.2 i v s hv hs
  · rw [List.getElem?_append_right (by omega)] at hv
    rw [List.getElem?_append_right (by have := h.1; omega), ← h.1] at hs
    exact k.2 _ v s hv hs

theorem RelL.take {w : World} {I : Nat → Prop} {M : Mem} {a : List Value} {x : List S} (h : RelL w I M a x) (n : Nat) : RelL w I M (a.take n) (x.take n) := by
  refine ⟨by simp [h.1], fun i v s hv hs => ?_⟩
  rw [List.getElem?_take] at hv hs
  split at hv
  · rename_i hi; rw [if_pos hi] at hs; exact h.2 i v s hv hs
  · simp at hv

theorem RelL.drop {w : World} {I : Nat → Prop} {M : Mem} {a : List Value} {x : List S} (h : RelL w I M a x) (n : Nat) : RelL w I M (a.drop n) (x.drop n) := by
  refine ⟨by simp [h.1], fun i v s hv hs => ?_⟩
  rw [List.getElem?_drop] at hv hs
  exact h.2 _ v s hv hs

theorem RelL.patch {w : World} {I : Nat → Prop} {M : Mem} {a b : List Value} {x y : List S} (h : RelL w I M a x) (k : RelL w I M b y) (off : Nat) :
    RelL w I M (a.take off ++ b ++ a.drop (off + b.length)) (patch x off y) := by
  unfold AM.patch
  rw [k.1]
  exact ((h.take off).append k).append (h.drop _)

def xfill (place : Nat → Option (Nat × Nat)) : List S → List (Nat × E) → Option (List S)
  | cells, [] => some cells
  | cells, (i, x) :: rest =>
    match place i with
    | none => none
    | some (off, size) => if x.one && x.cells.length == size && off + x.cells.length ≤ cells.length then xfill place (patch cells off x.cells) rest else none

section
variable {P : Program} {w : World} {I : Nat → Prop} {M : Mem}

theorem xfill_ok (place : Nat → Option (Nat × Nat)) : ∀ (parts : List (Nat × E)) (cells cells' : List S) (vs : List (Nat × Value)) (cs : Array Value),
    xfill place cells parts = some cells' → vs.length = parts.length →
    (∀ (j : Nat) p q, vs[j]? = some p → parts[j]? = some q → p.1 = q.1 ∧ RelE w I M p.2 q.2) → RelL w I M cs.toList cells →
    ∃ cs', Instr.fill place cs vs = some cs' ∧ RelL w I M cs'.toList cells'
  | [], cells, cells', vs, cs, hx, hl, _, hrel => by
    simp only [xfill, Option.some.injEq] at hx; subst hx
    have : vs = [] := List.length_eq_zero_iff.1 hl
    subst this
    exact ⟨cs, rfl, hrel⟩
  | (i, x) :: rest, cells, cells', [], cs, hx, hl, _, hrel => by simp at hl
  | (i, x) :: rest, cells, cells', (i', v) :: vs, cs, hx, hl, hp, hrel => by
    obtain ⟨h1, h2⟩ := hp 0 _ _ rfl rfl
    simp only at h1 h2
    subst h1
    simp only [xfill] at hx
    split at hx
    · simp at hx
    · rename_i off size hplace
      split at hx
      · rename_i hc
        simp only [Bool.and_eq_true, beq_iff_eq, decide_eq_true_eq] at hc
        obtain ⟨⟨ho, hsz⟩, hle⟩ := hc
        obtain ⟨hcell, _⟩ := E.one_cells h2 ho
        have hlen : v.cells.size = x.cells.length := by simpa using hcell.1
        have hcs : cs.size = cells.length := by simpa using hrel.1
        have hset := foldl_set off v.cells.toList 0 cs (by simp; omega)
        obtain ⟨cs', hf, hr⟩ := xfill_ok place rest _ cells' vs
          ((v.cells.toList.zipIdx 0).foldl (fun (cs : Array Value) (p : Value × Nat) => cs.setIfInBounds (off + p.2) p.1) cs) hx (by simpa using hl)
          (fun j p q a b => hp (j + 1) p q a b) (by rw [hset]; exact hrel.patch hcell off)
        refine ⟨cs', ?_, hr⟩
        have hz : v.cells.zipIdx.foldl (fun (cs : Array Value) (p : Value × Nat) => cs.setIfInBounds (off + p.2) p.1) cs =
            (v.cells.toList.zipIdx 0).foldl (fun (cs : Array Value) (p : Value × Nat) => cs.setIfInBounds (off + p.2) p.1) cs := by
          rw [← Array.foldl_toList]; simp
        simp only [Instr.fill, hplace]
        rw [if_neg (by simp; omega)]
        rw [← hf]
        congr 1
      · simp at hx

def evParts (t : List (Nat × V)) : List (Nat × Operand) → Option (List (Nat × E))
  | [] => some []
  | (i, x) :: l => match ev t x, evParts t l with
    | some (.e y), some r => some ((i, y) :: r)
    | _, _ => none

theorem evParts_ok {σ : St} {a : Act} (s : Sim I M σ a w) : ∀ (l : List (Nat × Operand)) (r : List (Nat × E)), evParts σ.t l = some r →
    (l.map fun p => (p.1, a.eval p.2)).length = r.length ∧ ∀ (j : Nat) p q, (l.map fun p => (p.1, a.eval p.2))[j]? = some p → r[j]? = some q → p.1 = q.1 ∧ RelE w I M p.2 q.2
  | [], r, h => by simp only [evParts, Option.some.injEq] at h; subst h; exact ⟨rfl, fun j p q hp => by simp at hp⟩
  | (i, x) :: l, r, h => by
    simp only [evParts] at h
    split at h
    · rename_i y r' hy hr
      simp only [Option.some.injEq] at h; subst h
      obtain ⟨h1, h2⟩ := evParts_ok s l r' hr
      refine ⟨by simp at h1; simp [h1], fun j p q hp hq => ?_⟩
      match j, hp, hq with
      | 0, hp, hq =>
        simp only [List.map_cons, List.getElem?_cons_zero, Option.some.injEq] at hp hq
        subst hp; subst hq
        exact ⟨rfl, s.ev hy⟩
      | j + 1, hp, hq => exact h2 j p q (by simpa using hp) (by simpa using hq)
    · simp at h

/-- The place of field i, and its size. -/
def fieldPl (T : Tab) (fs : List (Nat × Nat)) (i : Nat) : Option (Nat × Nat) :=
  match fs[i]? with
  | some (off, ft) => match tfind T ft with
    | some tf => some (off, tf.size)
    | none => none
  | none => none

def zeroS (ti : TI) : List S := ti.zero.map fun v => .dat (cdat v)

theorem zeroS_ok {ti : TI} (hz : ∀ v ∈ ti.zero, v.oneCell' = true) : RelL w I M ti.zero (zeroS ti) :=
  ⟨by simp [zeroS], fun i v s hv hs => by
    simp only [zeroS, List.getElem?_map, hv, Option.map_some, Option.some.injEq] at hs
    subst hs; exact cdat_ok w I v (hz v (List.mem_of_getElem? hv))⟩

def xbuild (T : Tab) (σt : List (Nat × V)) (t : Nat) (parts : List (Nat × Operand)) : Option (V × List Prop) :=
  match tfind T t with
  | some ti =>
    match ti.k, evParts σt parts with
    | .struct fs, some ps => if fs.all (fun f => (tfind T f.2).isSome) then (xfill (fieldPl T fs) (zeroS ti) ps).map fun l => (.e (.agg l), []) else none
    | .array _ e, some ps => match tfind T e with
      | some te => (xfill (fun i => some (i * te.size, te.size)) (zeroS ti) ps).map fun l => (.e (.agg l), [])
      | none => none
    | _, _ => none
  | none => none

theorem mapM_sizes {T : Tab} (hT : TOK P T) : ∀ (fs : List Field), (∀ f ∈ fs, (tfind T f.type).isSome = true) →
    (fs.mapM (m := Sem) fun f => do pure (f.offset, ← sizeOf f.type)).run P w = .ok (fs.map fun f => (f.offset, ((tfind T f.type).map (·.size)).getD 0)) w
  | [], _ => by simp
  | f :: fs, h => by
    obtain ⟨tf, htf⟩ := Option.isSome_iff_exists.1 (h f List.mem_cons_self)
    have := mapM_sizes hT fs (fun g hg => h g (List.mem_cons_of_mem _ hg))
    simp only [List.mapM_cons, Sem.run_bind, (hT.find htf).sizeOf, Result.andThen, Sem.run_pure] at this ⊢
    rw [this]
    simp [htf]

theorem xbuild_ok {T : Tab} (hT : TOK P T) {σ : St} {a : Act} (s : Sim I M σ a w) {t : Nat} {parts : Array (Nat × Operand)} {r : V} {obs : List Prop}
    (hx : xbuild T σ.t t parts.toList = some (r, obs)) : ∃ y, (Instr.build t (parts.map fun p => (p.1, a.eval p.2))).run P w = .ok y w ∧ RelV w I M y r := by
  unfold xbuild at hx
  split at hx
  case h_2 => simp at hx
  rename_i ti hti
  have ht := hT.find hti
  obtain ⟨z, hz, hzl⟩ := ht.zeroValue
  split at hx
  · rename_i fs ps hk hps
    split at hx
    case isFalse => simp at hx
    rename_i hall
    simp only [Option.map_eq_some_iff, Prod.mk.injEq] at hx
    obtain ⟨cells', hf, rfl, rfl⟩ := hx
    obtain ⟨gs, hg, hoffs⟩ := ht.struct hk
    obtain ⟨h1, h2⟩ := evParts_ok s _ _ hps
    obtain ⟨cs', hfill, hrel⟩ := xfill_ok (w := w) (I := I) (M := M) (fieldPl T fs) ps _ _ _ z.cells hf h1 h2 (by rw [hzl]; exact zeroS_ok ht.zone)
    have hsome : ∀ f ∈ gs.toList, (tfind T f.type).isSome = true := fun f hfm => by
      rw [← hoffs] at hall
      simp only [List.all_eq_true, offs] at hall
      exact hall (f.offset, f.type) (List.mem_map.2 ⟨f, hfm, rfl⟩)
    have hm : (gs.mapM (m := Sem) fun f => do pure (f.offset, ← sizeOf f.type)).run P w = .ok (gs.toList.map fun f => (f.offset, ((tfind T f.type).map (·.size)).getD 0)).toArray w := by
      rw [← Array.toArray_toList (xs := gs), List.mapM_toArray]
      simp only [Sem.run_map, mapM_sizes hT gs.toList hsome]
      rfl
    refine ⟨.agg cs', ?_, cs', rfl, hrel⟩
    have hpl : (fun i => ((gs.toList.map fun f => (f.offset, ((tfind T f.type).map (·.size)).getD 0)).toArray)[i]?) = fieldPl T fs := by
      funext i
      subst hoffs
      simp only [fieldPl, offs, List.getElem?_toArray, List.getElem?_map]
      cases hgi : gs.toList[i]? with
      | none => rfl
      | some f =>
        obtain ⟨tf, htf⟩ := Option.isSome_iff_exists.1 (hsome f (List.mem_of_getElem? hgi))
        simp [htf]
    simp only [Instr.build, Sem.run_bind, hz, Result.andThen, run_underlying hg, hm, hpl]
    simp only [Array.toList_map]
    rw [hfill]
    rfl
  · rename_i n e ps hk hps
    split at hx
    case h_2 => simp at hx
    rename_i te hte
    simp only [Option.map_eq_some_iff, Prod.mk.injEq] at hx
    obtain ⟨cells', hf, rfl, rfl⟩ := hx
    have hg := ht.array hk
    obtain ⟨h1, h2⟩ := evParts_ok s _ _ hps
    obtain ⟨cs', hfill, hrel⟩ := xfill_ok (w := w) (I := I) (M := M) (fun i => some (i * te.size, te.size)) ps _ _ _ z.cells hf h1 h2 (by rw [hzl]; exact zeroS_ok ht.zone)
    refine ⟨.agg cs', ?_, cs', rfl, hrel⟩
    simp only [Instr.build, Sem.run_bind, hz, Result.andThen, run_underlying hg, (hT.find hte).sizeOf]
    simp only [Array.toList_map]
    rw [hfill]
    rfl
  · simp at hx
end

end Go.AM
