/- The abstract machine: control. -/
import Derived.Test.YtbodjgljjaafaaaAmSeq
namespace Go.AM

def baseF (f : FuncId) : Frame := { (default : Frame) with fn := f, kind := .normal }

/-- From the list of things to do 'todo', in state σ, function f returns, and what it returns and leaves is in R. -/
def GoJ (P : Program) (f : FuncId) (n0 : Nat) (R : V → Heap → Prop) (todo : List Item) (σ : St) : Prop :=
  ∀ (I : Nat → Prop) (M : Mem) (a : Act) (w : World), Sim I M σ a w → ∀ cs, ∃ v w' r h' I' M' fr, R r h' ∧ RelV w' I' M' v r ∧ SimH I' M' h' w' ∧
    Ext (fpAll M σ.h) I w I' w' ∧ (∀ b, fpAll M' h' b → fpAll M σ.h b ∨ w.heap.size ≤ b) ∧ (∀ (o : Nat) e, o < n0 → M[o]? = some (some e) → M'[o]? = some (some e)) ∧
    Steps P (lone ((baseF f).at a todo) cs w) (lone fr cs w') ∧ fr.fn = f ∧ fr.leaving P w' (.returned v)

section
variable {P : Program} {f : FuncId} {n0 : Nat} {R : V → Heap → Prop} {k todo todo' : List Item} {σ σ' : St}

/-- A move of the machine that changes neither slots nor memory. -/
theorem GoJ.admin (hs : ∀ a cs w, step P (lone ((baseF f).at a todo) cs w) = .next (lone ((baseF f).at a todo') cs w)) (h : GoJ P f n0 R todo' σ) : GoJ P f n0 R todo σ :=
  fun I M a w s cs => by
    obtain ⟨v, w', r, h', I', M', fr, h1, h2, h3, h4, h5, h6, h7, h8⟩ := h I M a w s cs
    exact ⟨v, w', r, h', I', M', fr, h1, h2, h3, h4, h5, h6, .head (hs a cs w) h7, h8⟩

theorem GoJ.skip (h : GoJ P f n0 R k σ) : GoJ P f n0 R (.code .skip :: k) σ := .admin (fun _ _ _ => step_skip) h
theorem GoJ.label {l : Nat} (h : GoJ P f n0 R k σ) : GoJ P f n0 R (.code (.label l) :: k) σ := .admin (fun _ _ _ => step_label) h
theorem GoJ.inBlock {id : Nat} (h : GoJ P f n0 R k σ) : GoJ P f n0 R (.inBlock id :: k) σ := .admin (fun _ _ _ => step_inBlock) h
theorem GoJ.seq {x y : Code} (h : GoJ P f n0 R (.code x :: .code y :: k) σ) : GoJ P f n0 R (.code (.seq x y) :: k) σ := .admin (fun _ _ _ => step_seq) h
theorem GoJ.block {id : Nat} {c : Code} (h : GoJ P f n0 R (.code c :: .inBlock id :: k) σ) : GoJ P f n0 R (.code (.block id c) :: k) σ := .admin (fun _ _ _ => step_block) h
theorem GoJ.exit {id : Nat} {k' : List Item} (he : exitTo id k = some k') (h : GoJ P f n0 R k' σ) : GoJ P f n0 R (.code (.exit id) :: k) σ := .admin (fun _ _ _ => step_exit he) h
theorem GoJ.goto {l : Nat} {k' : List Item} (he : gotoIn l k = some k') (h : GoJ P f n0 R k' σ) : GoJ P f n0 R (.code (.goto l) :: k) σ := .admin (fun _ _ _ => step_goto he) h
theorem GoJ.scope {c : Code} (h : GoJ P f n0 R (.code c :: .inScope c :: k) σ) : GoJ P f n0 R (.code (.scope c) :: k) σ :=
  .admin (fun _ _ _ => step_lone_go (by simp [stepG, stepG.exec, Frame.at])) h
theorem GoJ.inScope {c : Code} (h : GoJ P f n0 R k σ) : GoJ P f n0 R (.inScope c :: k) σ :=
  .admin (fun _ _ _ => step_lone_go (by simp [stepG, stepG.exec, Frame.at])) h
theorem GoJ.inLoop {c : Code} (h : GoJ P f n0 R (.code c :: .inLoop c :: k) σ) : GoJ P f n0 R (.inLoop c :: k) σ := .admin (fun _ _ _ => step_inLoop) h
theorem GoJ.loop1 {c : Code} (h : GoJ P f n0 R (.code c :: .inLoop c :: k) σ) : GoJ P f n0 R (.code (.loop c) :: k) σ := .admin (fun _ _ _ => step_loop) h

/-- Branches: on a Bool of the state. -/
theorem GoJ.cond {c : Operand} {x y : Code} {t : Bool} (hc : ev σ.t c = some (vbool t)) (ht : t = true → GoJ P f n0 R (.code x :: k) σ) (hf : t = false → GoJ P f n0 R (.code y :: k) σ) :
    GoJ P f n0 R (.code (.cond c x y) :: k) σ := fun I M a w s cs => by
  have hv := relV_bool (s.ev hc)
  have hstep := step_cond (P := P) (b := baseF f) (a := a) (k := k) (cs := cs) (w := w) (x := x) (y := y) hv
  cases t with
  | true =>
    obtain ⟨v, w', r, h', I', M', fr, h1, h2, h3, h4, h5, h6, h7, h8⟩ := ht rfl I M a w s cs
    exact ⟨v, w', r, h', I', M', fr, h1, h2, h3, h4, h5, h6, .head hstep h7, h8⟩
  | false =>
    obtain ⟨v, w', r, h', I', M', fr, h1, h2, h3, h4, h5, h6, h7, h8⟩ := hf rfl I M a w s cs
    exact ⟨v, w', r, h', I', M', fr, h1, h2, h3, h4, h5, h6, .head hstep h7, h8⟩

/-- A loop: a family of states, an invariant on the family, a measure. -/
theorem GoJ.loop {X : Type} (G : X → St) (J : X → Prop) (μ : X → Nat) {c : Code} (x0 : X) (h0 : J x0)
    (h : ∀ x, J x → (∀ x', J x' → μ x' < μ x → GoJ P f n0 R (.inLoop c :: k) (G x')) → GoJ P f n0 R (.code c :: .inLoop c :: k) (G x)) :
    GoJ P f n0 R (.code (.loop c) :: k) (G x0) := by
  have key : ∀ n x, μ x = n → J x → GoJ P f n0 R (.code c :: .inLoop c :: k) (G x) := by
    intro n
    induction n using Nat.strongRecOn with
    | _ n ih =>
      intro x hn hx
      exact h x hx fun x' hx' hlt => .inLoop (ih _ (hn ▸ hlt) x' rfl hx')
  exact .loop1 (key _ x0 rfl h0)

/-- A region. -/
theorem GoJ.region {T : Tab} (hT : TOK P T) {id : Nat} {all : List Oper} {cnt : Nat} {ins : List In} {obs : List Prop} (hx : xregion P T all cnt ins σ = some (σ', obs)) (ho : AllP obs)
    (h : GoJ P f n0 R k σ') : GoJ P f n0 R (.code (.region id all.toArray false) :: k) σ := fun I M a w s cs => by
  have hwp : (Code.region id all.toArray false).wp P (fun e a' w' => e = .normal ∧ ∃ I' M', Sim I' M' σ' a' w' ∧ Nw M σ.h I w M' σ'.h I' w') a w :=
    wp_region (xregion_ok hT hx ho s fun a' w' I' M' s' n' => ⟨rfl, I', M', s', n'⟩)
  obtain ⟨e, a', w', ⟨rfl, I', M', s', n'⟩, harr⟩ := hwp (baseF f) k cs
  obtain ⟨v, w2, r, h', I2, M2, fr, h1, h2, h3, h4, h5, h6, h7, h8⟩ := h I' M' a' w' s' cs
  exact ⟨v, w2, r, h', I2, M2, fr, h1, h2, h3, n'.ext.trans h4 n'.fp, fun b hb => by
    rcases h5 b hb with h9 | h9
    · exact n'.fp b h9
    · exact .inr (Nat.le_trans n'.ext.size h9), fun o e ho he => h6 o e ho (n'.mono o e he), Steps.trans harr h7, h8⟩

/-- A code, by what it does to the state. -/
theorem GoJ.admin' {c : Code} (hw : ∀ (I : Nat → Prop) (M : Mem) (a : Act) (w : World), Sim I M σ a w → c.wp P (fun e a' w' => e = .normal ∧ ∃ I' M', Sim I' M' σ' a' w' ∧ Nw M σ.h I w M' σ'.h I' w') a w)
    (h : GoJ P f n0 R k σ') : GoJ P f n0 R (.code c :: k) σ := fun I M a w s cs => by
  obtain ⟨e, a', w', ⟨rfl, I', M', s', n'⟩, harr⟩ := hw I M a w s (baseF f) k cs
  obtain ⟨v, w2, r, h', I2, M2, fr, h1, h2, h3, h4, h5, h6, h7, h8⟩ := h I' M' a' w' s' cs
  exact ⟨v, w2, r, h', I2, M2, fr, h1, h2, h3, n'.ext.trans h4 n'.fp, fun b hb => by
    rcases h5 b hb with h9 | h9
    · exact n'.fp b h9
    · exact .inr (Nat.le_trans n'.ext.size h9), fun o e ho he => h6 o e ho (n'.mono o e he), Steps.trans harr h7, h8⟩

/-! ### Return -/

def xres (T : Tab) (σ : St) : ResultVar → Option E
  | .tmp t => match get σ.t t with
    | some (.e x) => some x
    | _ => none
  | .cell a t => match get σ.t a with
    | some v => match xload T σ.h .none t v with
      | some (.e x, []) => some x
      | _ => none
    | none => none

def xresL (T : Tab) (σ : St) : List ResultVar → Option (List E)
  | [] => some []
  | r :: l => match xres T σ r, xresL T σ l with
    | some x, some y => some (x :: y)
    | _, _ => none

def xresults (T : Tab) (σ : St) (rs : List ResultVar) : Option V :=
  match xresL T σ rs with
  | some [x] => some (.e x)
  | some l => some (.tup l)
  | none => none

theorem xload_ptr {T : Tab} {h : Heap} {t : Nat} {v : V} {x : V × List Prop} (hx : xload T h .none t v = some x) : ∃ s, v = .e (.sc s) ∧ (S.isPtr s = true) := by
  unfold xload at hx
  split at hx
  · simp at hx
  · split at hx <;> first | exact ⟨_, rfl, rfl⟩ | (simp at hx; done)

theorem xresL_ok {T : Tab} (hT : TOK P T) {I : Nat → Prop} {M : Mem} {a : Act} {w : World} (s : Sim I M σ a w) : ∀ (rs : List ResultVar) (xs : List E), xresL T σ rs = some xs →
    ∃ vs : List Value, (rs.mapM (m := Sem) fun | .tmp t => pure (a.tmps.getD t undef) | .cell b t => do loadVar t (← asAddr (a.tmps.getD b undef))).run P w = .ok vs w ∧
      vs.length = xs.length ∧ ∀ (i : Nat) v x, vs[i]? = some v → xs[i]? = some x → RelE w I M v x
  | [], xs, h => by
    simp only [xresL, Option.some.injEq] at h; subst h
    exact ⟨[], by simp, rfl, fun i v x hv => by simp at hv⟩
  | r :: rs, xs, h => by
    simp only [xresL] at h
    split at h
    case h_2 => simp at h
    rename_i x y hx hy
    simp only [Option.some.injEq] at h; subst h
    obtain ⟨vs, h1, h2, h3⟩ := xresL_ok hT s rs y hy
    obtain ⟨v, hv, hr⟩ : ∃ v, (match r with | .tmp t => pure (a.tmps.getD t undef) | .cell b t => do loadVar t (← asAddr (a.tmps.getD b undef)) : Sem Value).run P w = .ok v w ∧ RelE w I M v x := by
      cases r with
      | tmp t =>
        simp only [xres] at hx
        split at hx
        · rename_i z hz
          simp only [Option.some.injEq] at hx; subst hx
          exact ⟨_, rfl, s.tm t _ (get_mem hz)⟩
        · simp at hx
      | cell b t =>
        simp only [xres] at hx
        split at hx
        case h_2 => simp at hx
        rename_i u hu
        split at hx
        case h_2 => simp at hx
        rename_i z hz
        simp only [Option.some.injEq] at hx; subst hx
        have hrel := s.tm b _ (get_mem hu)
        obtain ⟨p, rfl, hp⟩ := xload_ptr hz
        obtain ⟨ad, had⟩ := S.isPtr_ok hrel hp
        obtain ⟨v, hrun, hr⟩ := xload_ok (P := P) hT hz trivial s.toSimH hrel
        rw [had] at hrun
        refine ⟨v, ?_, hr⟩
        simp only [had, asAddr, Sem.run_bind, Sem.run_pure, Result.andThen]
        simpa [Instr.loadAt, Instr.sureAddr] using hrun
    refine ⟨v :: vs, ?_, by simp [h2], fun i u z hu hz => ?_⟩
    · rw [List.mapM_cons, Sem.run_bind, hv]
      simp only [Result.andThen, Sem.run_bind, h1, Sem.run_pure]
    · match i, hu, hz with
      | 0, hu, hz => simp only [List.getElem?_cons_zero, Option.some.injEq] at hu hz; subst hu; subst hz; exact hr
      | i + 1, hu, hz => exact h3 i u z (by simpa using hu) (by simpa using hz)

theorem results_ok {T : Tab} (hT : TOK P T) {I : Nat → Prop} {M : Mem} {a : Act} {w : World} (s : Sim I M σ a w) {fn : Func} {r : V} (hx : xresults T σ fn.results.toList = some r) :
    ∃ v, (results fn a.tmps).run P w = .ok v w ∧ RelV w I M v r := by
  unfold xresults at hx
  have key : ∀ {xs : List E}, xresL T σ fn.results.toList = some xs → ∃ vs : List Value, (results fn a.tmps).run P w = .ok (if h : vs.length = 1 then vs[0] else .tuple vs.toArray) w ∧
      vs.length = xs.length ∧ ∀ (i : Nat) v x, vs[i]? = some v → xs[i]? = some x → RelE w I M v x := fun {xs} hxs => by
    obtain ⟨vs, h1, h2, h3⟩ := xresL_ok hT s _ _ hxs
    refine ⟨vs, ?_, h2, h3⟩
    unfold results
    rw [← Array.toArray_toList (xs := fn.results), List.mapM_toArray]
    simp only [Sem.run_bind, Sem.run_map]
    erw [h1]
    simp [Result.andThen]
  split at hx
  · rename_i x hxs
    simp only [Option.some.injEq] at hx; subst hx
    obtain ⟨vs, h1, h2, h3⟩ := key hxs
    simp only [List.length_cons, List.length_nil] at h2
    rw [dif_pos h2] at h1
    exact ⟨_, h1, h3 0 _ x (List.getElem?_eq_getElem _) rfl⟩
  · rename_i l hne hxs
    simp only [Option.some.injEq] at hx; subst hx
    obtain ⟨vs, h1, h2, h3⟩ := key hxs
    have : vs.length ≠ 1 := fun h => by
      match l, h2 with
      | [x], _ => exact hne x rfl
      | [], h2 => simp at h2; rw [h2] at h; simp at h
      | _ :: _ :: _, h2 => simp at h2; omega
    rw [dif_neg this] at h1
    exact ⟨_, h1, vs, rfl, h2, h3⟩
  · simp at hx

theorem GoJ.ret {T : Tab} (hT : TOK P T) {fn : Func} (hf : P.funcs[f]? = some fn) {r : V} (hx : xresults T σ fn.results.toList = some r) (hR : R r σ.h) : GoJ P f n0 R (.code .ret :: k) σ :=
  fun I M a w s cs => by
    obtain ⟨v, hrun, hr⟩ := results_ok hT s hx
    exact ⟨v, w, r, σ.h, I, M, _, hR, hr, s.toSimH, Ext.refl _ _ _, fun _ h => .inl h, fun _ _ _ h => h, .one step_ret, rfl, rfl, s.defers, rfl, fn, hf, hrun⟩

theorem GoJ.done {T : Tab} (hT : TOK P T) {fn : Func} (hf : P.funcs[f]? = some fn) {r : V} (hx : xresults T σ fn.results.toList = some r) (hR : R r σ.h) : GoJ P f n0 R [] σ :=
  fun I M a w s cs => by
    obtain ⟨v, hrun, hr⟩ := results_ok hT s hx
    exact ⟨v, w, r, σ.h, I, M, _, hR, hr, s.toSimH, Ext.refl _ _ _, fun _ h => .inl h, fun _ _ _ h => h, .one step_end, rfl, rfl, s.defers, rfl, fn, hf, hrun⟩

def argT : Nat → List V → List (Nat × V)
  | _, [] => []
  | i, x :: l => (i, x) :: argT (i + 1) l

theorem argT_mem : ∀ (l : List V) (i j : Nat) (v : V), (j, v) ∈ argT i l → i ≤ j ∧ l[j - i]? = some v
  | [], i, j, v, h => by simp [argT] at h
  | x :: l, i, j, v, h => by
    simp only [argT, List.mem_cons, Prod.mk.injEq] at h
    rcases h with ⟨rfl, rfl⟩ | h
    · exact ⟨Nat.le_refl _, by simp⟩
    · obtain ⟨h1, h2⟩ := argT_mem l (i + 1) j v h
      refine ⟨by omega, ?_⟩
      rw [show j - i = (j - (i + 1)) + 1 by omega]; simpa using h2

/-- A function by its text. -/
theorem FnG.of {fn : Func} {c : Code} (hf : P.funcs[f]? = some fn) (hb : fn.body = some c) (hn : (fn.name == "runtime.NumGoroutine") = false) {args : List V} {h : Heap} {m : Nat} (hm : fn.ntmps = m) (hl : args.length ≤ m)
    (hg : GoJ P f h.length R [.code c] ⟨argT 0 args, h, m⟩) : FnG P f args h R := by
  refine ⟨⟨fn, hf, by rw [hb]; rfl, hn⟩, fun I M w vs s hr cs => ?_⟩
  have henter : Frame.enter P f vs.toArray .normal = (baseF f).at { tmps := vs.toArray ++ Array.replicate (fn.ntmps - vs.toArray.size) undef, defers := [] } [.code c] := by
    simp [Frame.enter, Frame.at, hf, hb, baseF]
  have hvl := hr.1
  have s0 : Sim I M ⟨argT 0 args, h, m⟩ { tmps := vs.toArray ++ Array.replicate (fn.ntmps - vs.toArray.size) undef, defers := [] } w := by
    refine { toSimH := s, tm := fun i v hv => ?_, size := by simp; omega, defers := rfl }
    obtain ⟨_, h2⟩ := argT_mem _ _ _ _ hv
    simp only [Nat.sub_zero] at h2
    have hi : i < vs.length := by
      rw [hvl]
      rcases Nat.lt_or_ge i args.length with h | h
      · exact h
      · rw [List.getElem?_eq_none h] at h2; simp at h2
    have hg : (vs.toArray ++ Array.replicate (fn.ntmps - vs.toArray.size) undef).getD i undef = vs[i] := by
      have : i < (vs.toArray ++ Array.replicate (fn.ntmps - vs.toArray.size) undef).size := by simp; omega
      simp only [Array.getD, this, dif_pos]
      simp [hi]
    show RelV w I M ((vs.toArray ++ Array.replicate (fn.ntmps - vs.toArray.size) undef).getD i undef) v
    rw [hg]
    exact hr.2 i _ v (List.getElem?_eq_getElem hi) h2
  obtain ⟨v, w', r, h', I', M', fr, h1, h2, h3, h4, h5, h6, h7, h8, h9⟩ := hg I M _ w s0 cs
  rw [← henter] at h7
  exact ⟨.returned v, w', fr, ⟨v, r, h', I', M', rfl, h1, h2, h3, h4, h5, h6⟩, h7, h8, h9⟩
end

end Go.AM
