/- The abstract machine: steps that change the abstract state alone: nil slices as data; a nil slice becomes an object of its own. -/
import Derived.Test.YtbodjgljjaafaaaAmWk
namespace Go.AM

def nmS : S → S
  | .dat d => .dat (normD d)
  | s => s

theorem nmS_ok {w : World} {I : Nat → Prop} {M : Mem} (v : Value) (x : S) (h : RelS w I M v x) : RelS w I M v (nmS x) := by
  cases x with
  | dat d => exact normD_ok h
  | _ => exact h

/-- One box of the list is mapped. -/
def mapBx (g : S → S) (bx : List Nat) : Nat → Heap → Heap
  | _, [] => []
  | i, x :: l => (if bx.contains i then x.map (Obj.map g) else x) :: mapBx g bx (i + 1) l

theorem mapBx_length (g : S → S) (bx : List Nat) : ∀ (h : Heap) (i : Nat), (mapBx g bx i h).length = h.length
  | [], _ => rfl
  | x :: l, i => by simp [mapBx, mapBx_length g bx l (i + 1)]

theorem mapBx_get (g : S → S) (bx : List Nat) : ∀ (h : Heap) (i o : Nat), (mapBx g bx i h)[o]? = (h[o]?).map fun x => if bx.contains (i + o) then x.map (Obj.map g) else x
  | [], i, o => by simp [mapBx]
  | x :: l, i, 0 => by simp [mapBx]
  | x :: l, i, o + 1 => by
    simp only [mapBx, List.getElem?_cons_succ, mapBx_get g bx l (i + 1) o]
    rw [show i + 1 + o = i + (o + 1) by omega]

def mapSl (g : S → S) (sl : List Nat) (t : List (Nat × V)) : List (Nat × V) := t.map fun x => if sl.contains x.1 then (x.1, x.2.map g) else x

theorem mapSl_mem {g : S → S} {sl : List Nat} {t : List (Nat × V)} {i : Nat} {v : V} (h : (i, v) ∈ mapSl g sl t) : ∃ u, (i, u) ∈ t ∧ (v = u ∨ v = u.map g) := by
  simp only [mapSl, List.mem_map] at h
  obtain ⟨⟨j, u⟩, hm, he⟩ := h
  split at he
  · simp only [Prod.mk.injEq] at he
    obtain ⟨rfl, rfl⟩ := he
    exact ⟨u, hm, .inr rfl⟩
  · simp only [Prod.mk.injEq] at he
    obtain ⟨rfl, rfl⟩ := he
    exact ⟨u, hm, .inl rfl⟩

section
variable {I : Nat → Prop} {M : Mem} {w : World}

theorem mapBx_obj {g : S → S} {bx : List Nat} {h : Heap} {o : Nat} {obj : Obj} (ho : (mapBx g bx 0 h)[o]? = some (some obj)) : ∃ obj', h[o]? = some (some obj') ∧ (obj = obj' ∨ obj = obj'.map g) := by
  rw [mapBx_get] at ho
  simp only [Option.map_eq_some_iff, Nat.zero_add] at ho
  obtain ⟨x, hx, he⟩ := ho
  split at he
  · simp only [Option.map_eq_some_iff] at he
    obtain ⟨obj', rfl, rfl⟩ := he
    exact ⟨obj', hx, .inr rfl⟩
  · subst he; exact ⟨obj, hx, .inl rfl⟩

/-- Both slots and boxes through a map that keeps the relation. -/
theorem Sim.mapSB {g : S → S} {M' : Mem} (hg : ∀ v s, RelS w I M' v s → RelS w I M' v (g s)) {sl bx : List Nat} {σ : St} {a : Act} (s : Sim I M' σ a w) :
    Sim I M' { σ with t := mapSl g sl σ.t, h := mapBx g bx 0 σ.h } a w ∧ ∀ o b, b ∈ fpAt M' (mapBx g bx 0 σ.h) o → b ∈ fpAt M' σ.h o := by
  have hfp : ∀ o b, b ∈ fpAt M' (mapBx g bx 0 σ.h) o → b ∈ fpAt M' σ.h o := fun o b hb => by
    unfold fpAt at hb
    split at hb
    · rename_i obj e hobj he
      obtain ⟨obj', h1, h2⟩ := mapBx_obj hobj
      simp only [fpAt, h1, he]
      rcases h2 with rfl | rfl
      · exact hb
      · rwa [fpE_map] at hb
    · simp at hb
  refine ⟨{ len := by simp [mapBx_length, s.len], obj := fun o obj ho => ?_, disj := fun o1 o2 b h1 h2 => s.disj o1 o2 b (hfp _ _ h1) (hfp _ _ h2), nd := fun o => ?_, lt := fun o b hb => s.lt o b (hfp _ _ hb), imm := fun b hb => ⟨(s.imm b hb).1, fun o hbo => (s.imm b hb).2 o (hfp _ _ hbo)⟩, tm := fun i v hv => ?_, size := s.size, defers := s.defers }, hfp⟩
  · obtain ⟨obj', h1, h2⟩ := mapBx_obj ho
    obtain ⟨e, he, hok⟩ := s.obj o obj' h1
    refine ⟨e, he, ?_⟩
    rcases h2 with rfl | rfl
    · exact hok
    · exact hok.map hg (fun _ h => h)
  · show (fpAt M' (mapBx g bx 0 σ.h) o).Nodup
    unfold fpAt
    split
    · rename_i obj e hobj he
      obtain ⟨obj', h1, h2⟩ := mapBx_obj hobj
      have := s.nd o
      simp only [fpAt, h1, he] at this
      rcases h2 with rfl | rfl
      · exact this
      · rwa [fpE_map]
    · exact List.nodup_nil
  · obtain ⟨u, hu, h2⟩ := mapSl_mem hv
    have := s.tm i u hu
    rcases h2 with rfl | rfl
    · exact this
    · exact this.map hg

def xnorm (sl bx : List Nat) (σ : St) : St := { σ with t := mapSl nmS sl σ.t, h := mapBx nmS bx 0 σ.h }

theorem xnorm_ok {n0 : Nat} {sl bx : List Nat} {σ σ' : St} (hx : xnorm sl bx σ = σ') : Wk n0 σ σ' := fun I M a w s => by
  subst hx
  obtain ⟨h1, h2⟩ := Sim.mapSB (g := nmS) nmS_ok (sl := sl) (bx := bx) s
  exact ⟨I, M, h1, fun _ h => h, fun _ h => .inl h, fun b ⟨o, h⟩ => ⟨o, h2 o b h⟩, fun _ _ _ h => h⟩

def fwS (h : Heap) : S → S
  | .ref o => match h[o]? with
    | some (some (.fwd s)) => s
    | _ => .ref o
  | s => s

/-- An object that is gone says what its value is now: slots and boxes are told. -/
def xfwd (sl bx : List Nat) (σ : St) : St := { σ with t := mapSl (fwS σ.h) sl σ.t, h := mapBx (fwS σ.h) bx 0 σ.h }

theorem xfwd_ok {n0 : Nat} {sl bx : List Nat} {σ σ' : St} (hx : xfwd sl bx σ = σ') : Wk n0 σ σ' := fun I M a w s => by
  subst hx
  have hg : ∀ v x, RelS w I M v x → RelS w I M v (fwS σ.h x) := fun v x h => by
    unfold fwS
    split
    · rename_i o
      split
      · rename_i y hobj
        obtain ⟨e, he, rfl⟩ := h
        obtain ⟨e', he', hok⟩ := s.obj o _ hobj
        rw [he] at he'; simp only [Option.some.injEq] at he'; subst he'
        exact hok
      · exact h
    · exact h
  obtain ⟨h1, h2⟩ := Sim.mapSB (g := fwS σ.h) hg (sl := sl) (bx := bx) s
  exact ⟨I, M, h1, fun _ h => h, fun _ h => .inl h, fun b ⟨o, h⟩ => ⟨o, h2 o b h⟩, fun _ _ _ h => h⟩

/-! ### Adoption -/

def adS (n : Nat) : S → S
  | .dat (.raw (.slice none 0 0)) => .ref n
  | s => s

def nilME (z : Nat) : ME := { nil := true, b := 0, n := 0, cap := 0, s := z, rows := [] }

theorem adS_ok {n z : Nat} (hm : M[n]? = some (some (nilME z))) (v : Value) (x : S) (h : RelS w I M v x) : RelS w I M v (adS n x) := by
  unfold adS
  split
  · refine ⟨nilME z, hm, ?_⟩
    have h : Reads w I v (.raw (.slice none 0 0)) := h
    cases h
    rfl
  · exact h

theorem Sim.nilArr {σ : St} {a : Act} (s : Sim I M σ a w) (z : Nat) : Sim I (M ++ [some (nilME z)]) { σ with h := σ.h ++ [some (.arr z [])] } a w ∧ (∀ o b, b ∈ fpAt (M ++ [some (nilME z)]) (σ.h ++ [some (.arr z [])]) o → b ∈ fpAt M σ.h o) ∧ Mem.le M (M ++ [some (nilME z)]) := by
  have hl := s.len
  have hle : Mem.le M (M ++ [some (nilME z)]) := fun o e he => by
    have : o < M.length := by
      rcases Nat.lt_or_ge o M.length with h | h
      · exact h
      · rw [List.getElem?_eq_none h] at he; simp at he
    rw [List.getElem?_append_left this]; exact he
  have hcase : ∀ (o : Nat) (obj : Obj), (σ.h ++ [some (Obj.arr z [])])[o]? = some (some obj) → σ.h[o]? = some (some obj) ∨ (o = σ.h.length ∧ obj = .arr z []) := fun o obj ho => by
    rcases Nat.lt_trichotomy o σ.h.length with h | h | h
    · rw [List.getElem?_append_left h] at ho; exact .inl ho
    · subst h; simp at ho; exact .inr ⟨rfl, ho.symm⟩
    · rw [List.getElem?_eq_none (by simp; omega)] at ho; simp at ho
  have hfpe : ∀ o, fpAt (M ++ [some (nilME z)]) (σ.h ++ [some (.arr z [])]) o = fpAt M σ.h o := fun o => by
    rcases Nat.lt_trichotomy o σ.h.length with h | h | h
    · simp only [fpAt, List.getElem?_append_left h, List.getElem?_append_left (hl ▸ h)]
    · subst h
      have h1 : (M ++ [some (nilME z)])[σ.h.length]? = some (some (nilME z)) := by rw [← hl]; simp
      have h2 : (σ.h ++ [some (Obj.arr z [])])[σ.h.length]? = some (some (Obj.arr z [])) := by simp
      have h3 : σ.h[σ.h.length]? = none := by simp
      simp only [fpAt, h1, h2, h3]
      rfl
    · have h1 : (σ.h ++ [some (Obj.arr z [])])[o]? = none := List.getElem?_eq_none (by simp; omega)
      have h3 : σ.h[o]? = none := List.getElem?_eq_none (by omega)
      simp only [fpAt, h1, h3]
  refine ⟨{ len := by simp [hl], obj := fun o obj ho => ?_, disj := fun o1 o2 b h1 h2 => ?_, nd := fun o => ?_, lt := fun o b hb => ?_, imm := fun b hb => ⟨(s.imm b hb).1, fun o hbo => ?_⟩, tm := fun i v hv => (s.tm i v hv).mono (fun _ _ => rfl) (fun _ h => h) hle, size := s.size, defers := s.defers }, fun o b hb => hfpe o ▸ hb, hle⟩
  · rcases hcase o obj ho with h | ⟨rfl, rfl⟩
    · obtain ⟨e, he, hok⟩ := s.obj o obj h
      exact ⟨e, hle o e he, hok.mono (fun _ _ => rfl) (fun _ h => h) hle (fun _ _ => rfl)⟩
    · exact ⟨nilME z, by rw [← hl]; simp, rfl, rfl, fun _ => rfl, fun h => by simp [nilME] at h⟩
  · simp only [hfpe] at h1 h2; exact s.disj o1 o2 b h1 h2
  · simp only [hfpe]; exact s.nd o
  · simp only [hfpe] at hb; exact s.lt o b hb
  · simp only [hfpe] at hbo; exact (s.imm b hb).2 o hbo

def xadopt (sl bx : List Nat) (z : Nat) (σ : St) : St := { σ with t := mapSl (adS σ.h.length) sl σ.t, h := mapBx (adS σ.h.length) bx 0 (σ.h ++ [some (.arr z [])]) }

theorem xadopt_ok {n0 : Nat} {sl bx : List Nat} {z : Nat} {σ σ' : St} (hx : xadopt sl bx z σ = σ') : Wk n0 σ σ' := fun I M a w s => by
  subst hx
  obtain ⟨h1, h2, h3⟩ := s.nilArr z
  have hm : (M ++ [some (nilME z)])[σ.h.length]? = some (some (nilME z)) := by rw [← s.len]; simp
  obtain ⟨g1, g2⟩ := Sim.mapSB (g := adS σ.h.length) (adS_ok hm) (sl := sl) (bx := bx) h1
  exact ⟨I, _, g1, fun _ h => h, fun _ h => .inl h, fun b ⟨o, h⟩ => ⟨o, h2 o b (g2 o b h)⟩, fun o e _ he => h3 o e he⟩
end

end Go.AM
