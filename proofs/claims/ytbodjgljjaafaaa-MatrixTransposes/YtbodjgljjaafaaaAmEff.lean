/- The abstract machine: effects of one operation, and how they keep the tie between the abstract state and memory. -/
import Derived.Test.YtbodjgljjaafaaaAmBase
namespace Go.AM

abbrev Upd := List (Nat × Option Obj)

def putH (h : Heap) : Upd → Heap
  | [] => h
  | (o, x) :: u => putH (h.set o x) u

/-- The slots: a list of pairs; the first entry counts. -/
def get (t : List (Nat × V)) (i : Nat) : Option V :=
  match t with
  | [] => none
  | (j, v) :: t => if j == i then some v else get t i

def setT (t : List (Nat × V)) (dst : Option Nat) (v : V) : List (Nat × V) :=
  match dst with
  | none => t
  | some d => (d, v) :: t.filter (fun x => x.1 != d)

def St.put (σ : St) (dst : Option Nat) (v : V) (u : Upd) : St := { σ with t := setT σ.t dst v, h := putH σ.h u }

theorem get_mem : ∀ {t : List (Nat × V)} {i : Nat} {v : V}, get t i = some v → (i, v) ∈ t
  | [], _, _, h => by simp [get] at h
  | (j, u) :: t, i, v, h => by
    simp only [get] at h
    split at h
    · rename_i hj; simp at hj h; subst hj; subst h; exact List.mem_cons_self
    · exact List.mem_cons_of_mem _ (get_mem h)

/-- Ids touched. -/
def Upd.ids (u : Upd) : List Nat := u.map (·.1)

theorem putH_length : ∀ (u : Upd) (h : Heap), (putH h u).length = h.length
  | [], _ => rfl
  | (o, x) :: u, h => by simp [putH, putH_length u]

theorem putH_other : ∀ (u : Upd) (h : Heap) (o : Nat), o ∉ u.ids → (putH h u)[o]? = h[o]?
  | [], _, _, _ => rfl
  | (o', x) :: u, h, o, ho => by
    simp only [Upd.ids, List.map_cons, List.mem_cons, not_or] at ho
    rw [putH, putH_other u _ o ho.2, List.getElem?_set_ne (Ne.symm ho.1)]

/-- What one operation has done, beside yielding a value: it has touched the objects 'ids'. -/
structure Eff (ids : List Nat) (I : Nat → Prop) (M : Mem) (h : Heap) (w : World) (I' : Nat → Prop) (M' : Mem) (h' : Heap) (w' : World) : Prop where
  len : M'.length = M.length
  hlen : h'.length = h.length
  mono : M.le M'
  keepM : ∀ o, o ∉ ids → M'[o]? = M[o]?
  keepH : ∀ o, o ∉ ids → h'[o]? = h[o]?
  os : w'.os = w.os
  tape : w'.tape = w.tape
  output : w'.output = w.output
  size : w.heap.size ≤ w'.heap.size
  heap : ∀ b, b < w.heap.size → (∀ o ∈ ids, b ∉ fpAt M h o) → w'.heap[b]? = w.heap[b]?
  imm : ∀ b, I b → I' b
  immNew : ∀ b, I' b → b < w'.heap.size ∧ (I b ∨ ((w.heap.size ≤ b ∨ ∃ o ∈ ids, b ∈ fpAt M h o) ∧ ∀ o ∈ ids, b ∉ fpAt M' h' o))
  obj : ∀ o ∈ ids, ∀ obj, h'[o]? = some (some obj) → ∃ e, M'[o]? = some (some e) ∧ ObjOK w' I' M' e obj
  disj : ∀ o1 o2 b, o1 ∈ ids → o2 ∈ ids → b ∈ fpAt M' h' o1 → b ∈ fpAt M' h' o2 → o1 = o2
  nd : ∀ o ∈ ids, (fpAt M' h' o).Nodup
  lt : ∀ o b, o ∈ ids → b ∈ fpAt M' h' o → b < w'.heap.size ∧ (w.heap.size ≤ b ∨ ∃ o ∈ ids, b ∈ fpAt M h o)

theorem fpAt_congr {M M' : Mem} {h h' : Heap} {o : Nat} (hM : M'[o]? = M[o]?) (hh : h'[o]? = h[o]?) : fpAt M' h' o = fpAt M h o := by
  simp only [fpAt, hM, hh]

theorem SimH.heapI {I : Nat → Prop} {M : Mem} {h : Heap} {w : World} (s : SimH I M h w) {ids : List Nat} {I' : Nat → Prop} {M' : Mem} {h' : Heap} {w' : World}
    (e : Eff ids I M h w I' M' h' w') : ∀ b, I b → w'.heap[b]? = w.heap[b]? :=
  fun b hb => e.heap b (s.imm b hb).1 fun o _ => (s.imm b hb).2 o

theorem SimH.eff {I : Nat → Prop} {M : Mem} {h : Heap} {w : World} (s : SimH I M h w) {ids : List Nat} {I' : Nat → Prop} {M' : Mem} {h' : Heap} {w' : World}
    (e : Eff ids I M h w I' M' h' w') : SimH I' M' h' w' := by
  have hI := s.heapI e
  have old : ∀ o, o ∉ ids → fpAt M' h' o = fpAt M h o := fun o ho => fpAt_congr (e.keepM o ho) (e.keepH o ho)
  have apart : ∀ o b, o ∉ ids → b ∈ fpAt M' h' o → ∀ o' ∈ ids, b ∉ fpAt M h o' := fun o b ho hb o' ho' hb' => by
    rw [old o ho] at hb
    have := s.disj o o' b hb hb'
    exact ho (this ▸ ho')
  refine ⟨by rw [e.len, e.hlen, s.len], fun o obj ho => ?_, fun o1 o2 b h1 h2 => ?_, fun o => ?_, fun o b hb => ?_, fun b hb => ⟨(e.immNew b hb).1, fun o hbo => ?_⟩⟩
  · by_cases hin : o ∈ ids
    · exact e.obj o hin obj ho
    · rw [e.keepH o hin] at ho
      obtain ⟨m, hm, hok⟩ := s.obj o obj ho
      refine ⟨m, by rw [e.keepM o hin]; exact hm, hok.mono hI e.imm e.mono fun b hb => e.heap b ?_ ?_⟩
      · exact s.lt o b (by simp only [fpAt, ho, hm]; exact hb)
      · exact fun o' ho' hb' => hin ((s.disj o o' b (by simp only [fpAt, ho, hm]; exact hb) hb') ▸ ho')
  · by_cases i1 : o1 ∈ ids <;> by_cases i2 : o2 ∈ ids
    · exact e.disj o1 o2 b i1 i2 h1 h2
    · exfalso
      obtain ⟨_, hor⟩ := e.lt o1 b i1 h1
      rcases hor with hge | ⟨o', ho', hb'⟩
      · rw [old o2 i2] at h2; have := s.lt o2 b h2; omega
      · exact apart o2 b i2 h2 o' ho' hb'
    · exfalso
      obtain ⟨_, hor⟩ := e.lt o2 b i2 h2
      rcases hor with hge | ⟨o', ho', hb'⟩
      · rw [old o1 i1] at h1; have := s.lt o1 b h1; omega
      · exact apart o1 b i1 h1 o' ho' hb'
    · rw [old o1 i1] at h1; rw [old o2 i2] at h2; exact s.disj o1 o2 b h1 h2
  · by_cases hin : o ∈ ids
    · exact e.nd o hin
    · rw [old o hin]; exact s.nd o
  · by_cases hin : o ∈ ids
    · exact (e.lt o b hin hb).1
    · rw [old o hin] at hb; exact Nat.lt_of_lt_of_le (s.lt o b hb) e.size
  · rcases (e.immNew b hb).2 with h1 | ⟨h1, h2⟩
    · by_cases hin : o ∈ ids
      · obtain ⟨_, hor⟩ := e.lt o b hin hbo
        rcases hor with hge | ⟨o', _, hb'⟩
        · have := (s.imm b h1).1; omega
        · exact (s.imm b h1).2 o' hb'
      · rw [old o hin] at hbo; exact (s.imm b h1).2 o hbo
    · by_cases hin : o ∈ ids
      · exact h2 o hin hbo
      · rw [old o hin] at hbo
        rcases h1 with hge | ⟨o', ho', hb'⟩
        · have := s.lt o b hbo; omega
        · exact hin ((s.disj o o' b hbo hb') ▸ ho')

theorem mem_setT {t : List (Nat × V)} {dst : Option Nat} {v u : V} {i : Nat} (h : (i, u) ∈ setT t dst v) :
    (dst = some i ∧ u = v) ∨ ((i, u) ∈ t ∧ dst ≠ some i) := by
  cases dst with
  | none => exact .inr ⟨h, by simp⟩
  | some d =>
    simp only [setT, List.mem_cons, Prod.mk.injEq, List.mem_filter, bne_iff_ne, ne_eq] at h
    rcases h with ⟨rfl, rfl⟩ | ⟨h1, h2⟩
    · exact .inl ⟨rfl, rfl⟩
    · exact .inr ⟨h1, by simpa using fun h3 => h2 h3.symm⟩

theorem Sim.eff {I : Nat → Prop} {M : Mem} {σ : St} {a : Act} {w : World} (s : Sim I M σ a w) {ids : List Nat} {I' : Nat → Prop} {M' : Mem} {h' : Heap} {w' : World}
    (e : Eff ids I M σ.h w I' M' h' w') {dst : Option Nat} {v : Value} {r : V} (hr : RelV w' I' M' v r) (hd : ∀ d, dst = some d → d < σ.n) :
    Sim I' M' { σ with t := setT σ.t dst r, h := h' } (a.put dst v) w' := by
  refine { toSimH := s.toSimH.eff e, tm := fun i u hu => ?_, size := ?_, defers := ?_ }
  · rcases mem_setT hu with ⟨h1, rfl⟩ | ⟨h1, h2⟩
    · subst h1
      have : i < a.tmps.size := by rw [s.size]; exact hd i rfl
      have hg : (a.put (some i) v).tmps.getD i undef = v := by
        simp [Act.put, this]
      rw [hg]; exact hr
    · have hg : (a.put dst v).tmps.getD i undef = a.tmps.getD i undef := by
        cases dst with
        | none => rfl
        | some d =>
          have hne : d ≠ i := fun h => h2 (h ▸ rfl)
          simp [Act.put, Array.getElem?_setIfInBounds_ne hne]
      rw [hg]
      exact (s.tm i u h1).mono (s.toSimH.heapI e) e.imm e.mono
  · cases dst <;> simp [Act.put, s.size]
  · cases dst <;> simp [Act.put, s.defers]

/-- Nothing but a value (and, perhaps, a draw). -/
theorem Eff.same {I : Nat → Prop} {M : Mem} {h : Heap} {w w' : World} (hh : w'.heap = w.heap) (ho : w'.os = w.os) (ht : w'.tape = w.tape) (hp : w'.output = w.output)
    (s : SimH I M h w) : Eff [] I M h w I M h w' :=
  ⟨rfl, rfl, fun _ _ h => h, fun _ _ => rfl, fun _ _ => rfl, ho, ht, hp, by rw [hh]; exact Nat.le_refl _, fun _ _ _ => by rw [hh], fun _ h => h,
    fun b hb => ⟨by rw [hh]; exact (s.imm b hb).1, .inl hb⟩, fun _ h => by simp at h, fun _ _ _ h => by simp at h, fun _ h => by simp at h, fun _ _ h => by simp at h⟩

theorem Eff.refl {I : Nat → Prop} {M : Mem} {h : Heap} {w : World} (s : SimH I M h w) : Eff [] I M h w I M h w := Eff.same rfl rfl rfl rfl s

theorem Eff.ext {ids : List Nat} {I : Nat → Prop} {M : Mem} {h : Heap} {w : World} {I' : Nat → Prop} {M' : Mem} {h' : Heap} {w' : World}
    (e : Eff ids I M h w I' M' h' w') : Ext (fpAll M h) I w I' w' := by
  refine ⟨e.os, e.tape, e.output, e.size, fun b hb hn => e.heap b hb fun o ho hbo => hn ⟨o, hbo⟩, e.imm, fun b hb => ?_⟩
  rcases (e.immNew b hb).2 with h1 | ⟨h1 | ⟨o, _, h1⟩, _⟩
  · exact .inl h1
  · exact .inr (.inl h1)
  · exact .inr (.inr ⟨o, h1⟩)

/-- The footprint afterwards: what it was before, and new blocks. -/
theorem Eff.fp {ids : List Nat} {I : Nat → Prop} {M : Mem} {h : Heap} {w : World} {I' : Nat → Prop} {M' : Mem} {h' : Heap} {w' : World}
    (e : Eff ids I M h w I' M' h' w') : ∀ b, fpAll M' h' b → fpAll M h b ∨ w.heap.size ≤ b := by
  rintro b ⟨o, hb⟩
  by_cases hin : o ∈ ids
  · rcases (e.lt o b hin hb).2 with h1 | ⟨o', _, h1⟩
    · exact .inr h1
    · exact .inl ⟨o', h1⟩
  · rw [fpAt_congr (e.keepM o hin) (e.keepH o hin)] at hb
    exact .inl ⟨o, hb⟩

end Go.AM
