/- The abstract machine: operations that make memory, and stores. -/
import Derived.Test.YtbodjgljjaafaaaAmX
namespace Go.AM

section
variable {P : Program} {I : Nat → Prop} {M : Mem} {h : Heap} {w : World}

theorem push_old {w : World} {o : Go.Obj} {b : Nat} (hb : b < w.heap.size) : (w.heap.push o)[b]? = w.heap[b]? := by
  rw [Array.getElem?_push, if_neg (by omega)]

theorem push_new {w : World} {o : Go.Obj} : (w.heap.push o)[w.heap.size]? = some o := by simp

/-- A new block becomes object 'nid'. -/
theorem Eff.new (s : SimH I M h w) {nid : Nat} (hn : M[nid]? = some none) {e : ME} {obj : Obj} {w' : World} {o : Go.Obj} (hh : w'.heap = w.heap.push o) (ho : w'.os = w.os) (ht : w'.tape = w.tape)
    (hp : w'.output = w.output) (hfp : fpE e obj = [w.heap.size])
    (hok : (∀ b, I b → w'.heap[b]? = w.heap[b]?) → M.le (M.set nid (some e)) → ObjOK w' I (M.set nid (some e)) e obj) :
    Eff [nid] I M h w I (M.set nid (some e)) (h.set nid (some obj)) w' := by
  have hlt : nid < M.length := by
    rcases Nat.lt_or_ge nid M.length with hl | hl
    · exact hl
    · rw [List.getElem?_eq_none hl] at hn; simp at hn
  have hlth : nid < h.length := s.len ▸ hlt
  have hmono : M.le (M.set nid (some e)) := fun o e' h1 => by
    by_cases he : nid = o
    · subst he; rw [hn] at h1; simp at h1
    · rw [List.getElem?_set_ne he]; exact h1
  have hget : (M.set nid (some e))[nid]? = some (some e) := by simp [hlt]
  have hgeth : (h.set nid (some obj))[nid]? = some (some obj) := by simp [hlth]
  have hfpat : fpAt (M.set nid (some e)) (h.set nid (some obj)) nid = [w.heap.size] := by
    simp only [fpAt, hget, hgeth, hfp]
  have hI : ∀ b, I b → w'.heap[b]? = w.heap[b]? := fun b hb => by rw [hh]; exact push_old (s.imm b hb).1
  have hsz : w'.heap.size = w.heap.size + 1 := by rw [hh]; simp
  refine ⟨by simp, by simp, hmono, fun o ho => ?_, fun o ho => ?_, ho, ht, hp, by omega, fun b hb _ => by rw [hh]; exact push_old hb, fun _ h => h, fun b hb => ⟨by have := (s.imm b hb).1; omega, .inl hb⟩,
    fun o ho obj' hobj => ?_, fun o1 o2 b h1 h2 _ _ => ?_, fun o ho => ?_, fun o b ho hb => ?_⟩
  · have : nid ≠ o := fun e => by subst e; simp at ho
    rw [List.getElem?_set_ne this]
  · have : nid ≠ o := fun e => by subst e; simp at ho
    rw [List.getElem?_set_ne this]
  · simp only [List.mem_singleton] at ho; subst ho
    rw [hgeth] at hobj; simp only [Option.some.injEq] at hobj; subst hobj
    exact ⟨e, hget, hok hI hmono⟩
  · simp only [List.mem_singleton] at h1 h2; rw [h1, h2]
  · simp only [List.mem_singleton] at ho; subst ho; rw [hfpat]; simp
  · simp only [List.mem_singleton] at ho; subst ho; rw [hfpat] at hb; simp only [List.mem_singleton] at hb; subst hb
    exact ⟨by omega, .inl (Nat.le_refl _)⟩

/-- A new block that nobody will write: data. -/
theorem Eff.frz (s : SimH I M h w) {w' : World} {o : Go.Obj} (hh : w'.heap = w.heap.push o) (ho : w'.os = w.os) (ht : w'.tape = w.tape) (hp : w'.output = w.output) :
    Eff [] I M h w (fun b => I b ∨ b = w.heap.size) M h w' := by
  have hsz : w'.heap.size = w.heap.size + 1 := by rw [hh]; simp
  exact ⟨rfl, rfl, fun _ _ h => h, fun _ _ => rfl, fun _ _ => rfl, ho, ht, hp, by omega, fun b hb _ => by rw [hh]; exact push_old hb, fun _ h => .inl h,
    fun b hb => by
      rcases hb with hb | rfl
      · exact ⟨by have := (s.imm b hb).1; omega, .inl hb⟩
      · exact ⟨by omega, .inr ⟨.inl (Nat.le_refl _), fun _ h => by simp at h⟩⟩,
    fun _ h => by simp at h, fun _ _ _ h => by simp at h, fun _ h => by simp at h, fun _ _ h => by simp at h⟩

/-- One object's block is written. -/
theorem Eff.write (s : SimH I M h w) {o : Nat} {e : ME} {obj obj' : Obj} (he : M[o]? = some (some e)) (hobj : h[o]? = some (some obj)) (hfp : fpE e obj' = fpE e obj) {b : Nat} (hb : b ∈ fpE e obj)
    {w' : World} (hsz : w'.heap.size = w.heap.size) (hheap : ∀ k, k ≠ b → w'.heap[k]? = w.heap[k]?) (ho : w'.os = w.os) (ht : w'.tape = w.tape) (hp : w'.output = w.output)
    (hok : (∀ b, I b → w'.heap[b]? = w.heap[b]?) → ObjOK w' I M e obj') :
    Eff [o] I M h w I M (h.set o (some obj')) w' := by
  have hlth : o < h.length := by
    rcases Nat.lt_or_ge o h.length with hl | hl
    · exact hl
    · rw [List.getElem?_eq_none hl] at hobj; simp at hobj
  have hgeth : (h.set o (some obj'))[o]? = some (some obj') := by simp [hlth]
  have hfpat : fpAt M (h.set o (some obj')) o = fpAt M h o := by simp only [fpAt, he, hgeth, hobj, hfp]
  have hbo : b ∈ fpAt M h o := by simp only [fpAt, he, hobj]; exact hb
  have hI : ∀ b, I b → w'.heap[b]? = w.heap[b]? := fun b' hb' => hheap b' fun heq => (s.imm b' hb').2 o (heq ▸ hbo)
  refine ⟨rfl, by simp, fun _ _ h => h, fun _ _ => rfl, fun o' ho' => ?_, ho, ht, hp, by omega, fun b' _ hn => hheap b' fun heq => hn o (by simp) (heq ▸ hbo), fun _ h => h,
    fun b' hb' => ⟨by have := (s.imm b' hb').1; omega, .inl hb'⟩, fun o' ho' obj'' hobj'' => ?_, fun o1 o2 b h1 h2 _ _ => ?_, fun o' ho' => ?_, fun o' b' ho' hb' => ?_⟩
  · have : o ≠ o' := fun e => by subst e; simp at ho'
    rw [List.getElem?_set_ne this]
  · simp only [List.mem_singleton] at ho'; subst ho'
    rw [hgeth] at hobj''; simp only [Option.some.injEq] at hobj''; subst hobj''
    exact ⟨e, he, hok hI⟩
  · simp only [List.mem_singleton] at h1 h2; rw [h1, h2]
  · simp only [List.mem_singleton] at ho'; subst ho'; rw [hfpat]; exact s.nd _
  · simp only [List.mem_singleton] at ho'; subst ho'; rw [hfpat] at hb'
    exact ⟨by have := s.lt _ _ hb'; omega, .inr ⟨_, by simp, hb'⟩⟩

/-! ### New boxes and rows -/

theorem ObjOK.box_new {w' : World} {M' : Mem} {b n cap sz : Nat} {rows : List Value} {cs : List Value} {cells : List S} {t : TypeId} (hb : w'.heap[b]? = some (.cells cs.toArray t (0, 0)))
    (hrel : RelL w' I M' cs cells) : ObjOK w' I M' ⟨false, b, n, cap, sz, rows⟩ (.box cells) :=
  ⟨cs.toArray, t, hb, by simpa using hrel⟩

def xalloc (T : Tab) (h : Heap) (nid : Nat) (t : Nat) : Option (V × Heap × List Nat × List Prop) :=
  match tfind T t with
  | some ti => some (.e (.sc (.ptr nid 0)), h.set nid (some (.box (zeroS ti))), [nid], [])
  | none => none

theorem xalloc_ok {T : Tab} (hT : TOK P T) {nid t : Nat} {r : V} {h' : Heap} {ids : List Nat} {obs : List Prop} (hx : xalloc T h nid t = some (r, h', ids, obs)) (s : SimH I M h w) (hn : M[nid]? = some none) :
    ∃ v I' M' w', (Instr.alloc t true (.tuple #[])).run P w = .ok v w' ∧ Eff ids I M h w I' M' h' w' ∧ RelV w' I' M' v r := by
  unfold xalloc at hx
  split at hx
  · rename_i ti hti
    simp only [Option.some.injEq, Prod.mk.injEq] at hx
    obtain ⟨rfl, rfl, rfl, rfl⟩ := hx
    obtain ⟨z, hz, hzl⟩ := (hT.find hti).zeroValue
    have hlt : nid < M.length := by
      rcases Nat.lt_or_ge nid M.length with hl | hl
      · exact hl
      · rw [List.getElem?_eq_none hl] at hn; simp at hn
    refine ⟨.pointer (some ⟨w.heap.size, 0, none⟩), I, M.set nid (some ⟨false, w.heap.size, 0, 0, 0, []⟩), { w with heap := w.heap.push (.cells z.cells t) }, by simp [Instr.alloc, newVar, newRow, hz], ?_, ⟨false, w.heap.size, 0, 0, 0, []⟩, by simp [hlt], rfl⟩
    refine Eff.new s hn (e := ⟨false, w.heap.size, 0, 0, 0, []⟩) rfl rfl rfl rfl rfl fun hI hm => ?_
    have := zeroS_ok (w := w) (I := I) (M := M) (hT.find hti).zone
    refine ⟨z.cells, t, push_new, ?_⟩
    rw [hzl]; exact this.mono hI (fun _ h => h) hm
  · simp at hx

def xbox (h : Heap) (or : Or) (nid : Nat) (v : V) : Option (V × Heap × List Nat × List Prop) :=
  match v, or with
  | .e x, .frz => if x.one then match x.cells.mapM S.toD with
    | some ds => some (.e (.sc (.dat (.box ds))), h, [], [])
    | none => none else none
  | .e x, _ => if x.one then some (.e (.sc (.ptr nid 0)), h.set nid (some (.box x.cells)), [nid], []) else none
  | _, _ => none

theorem toD_ok {v : Value} {s : S} {d : D} (hs : s.toD = some d) (hr : RelS w I M v s) : Reads w I v d := by
  cases s <;> simp only [S.toD, Option.some.injEq, reduceCtorEq] at hs
  subst hs; exact normD_ok hr

theorem mapM_toD : ∀ {ss : List S} {ds : List D}, ss.mapM S.toD = some ds → ∀ {vs : List Value}, RelL w I M vs ss →
    vs.length = ds.length ∧ ∀ (i : Nat) v d, vs[i]? = some v → ds[i]? = some d → Reads w I v d
  | [], ds, hm, vs, hr => by
    simp only [List.mapM_nil, Option.pure_def, Option.some.injEq] at hm; subst hm
    exact ⟨hr.1, fun i v d _ hd => by simp at hd⟩
  | s :: ss, ds, hm, vs, hr => by
    simp only [List.mapM_cons, Option.pure_def, Option.bind_eq_bind, Option.bind_eq_some_iff, Option.some.injEq] at hm
    obtain ⟨d, hd, ds', hds, rfl⟩ := hm
    match vs, hr with
    | [], hr => simp [RelL] at hr
    | v :: vs, hr =>
      have hr' : RelL w I M vs ss := ⟨by simpa using hr.1, fun i u s hu hs => hr.2 (i + 1) u s (by simpa using hu) (by simpa using hs)⟩
      obtain ⟨h1, h2⟩ := mapM_toD hds hr'
      refine ⟨by simp [h1], fun i u d' hu hd' => ?_⟩
      match i, hu, hd' with
      | 0, hu, hd' =>
        simp only [List.getElem?_cons_zero, Option.some.injEq] at hu hd'; subst hu; subst hd'
        exact toD_ok hd (hr.2 0 _ s rfl rfl)
      | i + 1, hu, hd' => exact h2 i u d' (by simpa using hu) (by simpa using hd')

theorem xbox_ok {nid t : Nat} {or : Or} {v r : V} {h' : Heap} {ids : List Nat} {obs : List Prop} (hx : xbox h or nid v = some (r, h', ids, obs)) (s : SimH I M h w) (hn : M[nid]? = some none)
    {u : Value} (hu : RelV w I M u v) : ∃ x I' M' w', (Instr.box t u).run P w = .ok x w' ∧ Eff ids I M h w I' M' h' w' ∧ RelV w' I' M' x r := by
  have hlt : nid < M.length := by
    rcases Nat.lt_or_ge nid M.length with hl | hl
    · exact hl
    · rw [List.getElem?_eq_none hl] at hn; simp at hn
  have hrun : (Instr.box t u).run P w = .ok (.pointer (some ⟨w.heap.size, 0, none⟩)) { w with heap := w.heap.push (.cells u.cells t) } := by simp [Instr.box, newVar, newRow]
  unfold xbox at hx
  split at hx
  · rename_i x
    split at hx
    · rename_i hone
      split at hx
      · rename_i ds hds
        simp only [Option.some.injEq, Prod.mk.injEq] at hx
        obtain ⟨rfl, rfl, rfl, rfl⟩ := hx
        have heff : Eff [] I M h w (fun b => I b ∨ b = w.heap.size) M h { w with heap := w.heap.push (.cells u.cells t) } := Eff.frz s rfl rfl rfl rfl
        refine ⟨_, _, _, _, hrun, heff, ?_⟩
        obtain ⟨hcell, _⟩ := E.one_cells hu hone
        have hcell' := hcell.mono (s.heapI heff) heff.imm heff.mono
        obtain ⟨h1, h2⟩ := mapM_toD hds hcell'
        have hlen : u.cells.size = ds.length := by simpa using h1
        refine Reads.box (t := t) (fr := (0, 0)) (cs := u.cells) ds (fun i => u.cells.getD i undef) (.inr rfl) (by exact push_new) (fun i d hd => ?_) (fun i d hd => ?_)
        · have hi : i < ds.length := by
            rcases Nat.lt_or_ge i ds.length with hl | hl
            · exact hl
            · rw [List.getElem?_eq_none hl] at hd; simp at hd
          have hi' : i < u.cells.size := by omega
          simp [hi']
        · have hi : i < ds.length := by
            rcases Nat.lt_or_ge i ds.length with hl | hl
            · exact hl
            · rw [List.getElem?_eq_none hl] at hd; simp at hd
          have hi' : i < u.cells.size := by omega
          refine h2 i _ d ?_ hd
          simp [hi']
      · simp at hx
    · simp at hx
  · rename_i x _ 
    split at hx
    · rename_i hone
      simp only [Option.some.injEq, Prod.mk.injEq] at hx
      obtain ⟨rfl, rfl, rfl, rfl⟩ := hx
      refine ⟨_, I, M.set nid (some ⟨false, w.heap.size, 0, 0, 0, []⟩), _, hrun, ?_, ⟨false, w.heap.size, 0, 0, 0, []⟩, by simp [hlt], rfl⟩
      refine Eff.new s hn (e := ⟨false, w.heap.size, 0, 0, 0, []⟩) rfl rfl rfl rfl rfl fun hI hm => ?_
      exact ⟨u.cells, t, push_new, ((E.one_cells hu hone).1).mono hI (fun _ h => h) hm⟩
    · simp at hx
  · simp at hx
end

end Go.AM
