/- The abstract machine: steps that change the abstract state alone: an object becomes data; slots are forgotten; objects are renumbered. -/
import Derived.Test.YtbodjgljjaafaaaAmGo
namespace Go.AM

def Wk (n0 : Nat) (σ σ' : St) : Prop :=
  ∀ (I : Nat → Prop) (M : Mem) (a : Act) (w : World), Sim I M σ a w → ∃ (I' : Nat → Prop) (M' : Mem), Sim I' M' σ' a w ∧ (∀ b, I b → I' b) ∧ (∀ b, I' b → I b ∨ fpAll M σ.h b) ∧
    (∀ b, fpAll M' σ'.h b → fpAll M σ.h b) ∧ ∀ (o : Nat) e, o < n0 → M[o]? = some (some e) → M'[o]? = some (some e)

theorem GoJ.wk {P : Program} {f : FuncId} {n0 : Nat} {R : V → Heap → Prop} {k : List Item} {σ σ' : St} (hw : Wk n0 σ σ') (h : GoJ P f n0 R k σ') : GoJ P f n0 R k σ := fun I M a w s cs => by
  obtain ⟨I1, M1, s1, g1, g2, g3, g4⟩ := hw I M a w s
  obtain ⟨v, w', r, h', I', M', fr, h1, h2, h3, h4, h5, h6, h7, h8⟩ := h I1 M1 a w s1 cs
  refine ⟨v, w', r, h', I', M', fr, h1, h2, h3, ⟨h4.os, h4.tape, h4.output, h4.size, fun b hb hn => h4.heap b hb fun hf => hn (g3 b hf), fun b hb => h4.imm b (g1 b hb), fun b hb => ?_⟩,
    fun b hb => (h5 b hb).imp (g3 b) id, fun o e ho he => h6 o e ho (g4 o e ho he), h7, h8⟩
  rcases h4.immNew b hb with h9 | h9 | h9
  · exact (g2 b h9).imp id .inr
  · exact .inr (.inl h9)
  · exact .inr (.inr (g3 b h9))

inductive FD where
  | arr (s : Nat) (elems : List (List D))
  | mat (s : Nat) (rows : List (List (List D)))
  | box (ds : List D)

def fdOf : Obj → Option FD
  | .arr s e => some (.arr s e)
  | .mat s r => some (.mat s r)
  | .box cells => (cells.mapM S.toD).map .box
  | .fwd _ => none

def matD (rows : List (List (List D))) : List (List D) := rows.map fun r => [.sl r]

abbrev Fz := List (Nat × FD)

def fzFind : Fz → Nat → Option FD
  | [], _ => none
  | (j, d) :: l, o => if j == o then some d else fzFind l o

def fzBox (fz : Fz) (o : Nat) : Option D :=
  match fzFind fz o with
  | some (.box ds) => some (.box ds)
  | _ => none

def frS (fz : Fz) : S → S
  | .ref o => match fzFind fz o with
    | some (.arr _ e) => .dat (.sl e)
    | some (.mat _ r) => .dat (.sl (matD r))
    | some _ => .undef
    | none => .ref o
  | .ptr o k => match fzFind fz o with
    | some (.box ds) => if k == 0 then .dat (.box ds) else .bptr ds k
    | some _ => .undef
    | none => .ptr o k
  | .aptr o i k => match fzFind fz o with
    | some (.arr s e) => .eptr s e i k
    | some _ => .undef
    | none => .aptr o i k
  | .mptr o i => match fzFind fz o with
    | some _ => .undef
    | none => .mptr o i
  | .row o k => match fzFind fz o with
    | some (.mat _ r) => .dat (.sl (r.getD k []))
    | some _ => .undef
    | none => .row o k
  | .rptr o r i k => match fzFind fz o with
    | some _ => .undef
    | none => .rptr o r i k
  | .clo f caps => match caps.mapM (fzBox fz) with
    | some ds => .dat (.fn f ds)
    | none => if caps.all (fun o => (fzFind fz o).isNone) then .clo f caps else .undef
  | s => s

def E.map (g : S → S) : E → E
  | .sc s => .sc (g s)
  | .agg l => .agg (l.map g)

def V.map (g : S → S) : V → V
  | .e x => .e (x.map g)
  | .tup l => .tup (l.map (E.map g))

def Obj.map (g : S → S) : Obj → Obj
  | .box cells => .box (cells.map g)
  | .fwd s => .fwd (g s)
  | o => o

def dropIds (h : Heap) : List Nat → Heap
  | [] => h
  | o :: l => dropIds (h.set o none) l

def fzOf (h : Heap) : List Nat → Option Fz
  | [] => some []
  | o :: l => match h[o]? with
    | some (some obj) => match fdOf obj, fzOf h l with
      | some d, some r => some ((o, d) :: r)
      | _, _ => none
    | _ => none

def xfreeze (ids : List Nat) (σ : St) : Option St :=
  match fzOf σ.h ids with
  | some fz => some { σ with t := σ.t.map (fun x => (x.1, x.2.map (frS fz))), h := (dropIds σ.h ids).map (fun x => x.map (Obj.map (frS fz))) }
  | none => none

section
variable {w : World} {I I' : Nat → Prop} {M M' : Mem}

theorem RelL.map {g : S → S} (hg : ∀ v s, RelS w I M v s → RelS w I' M' v (g s)) {vs : List Value} {ss : List S} (h : RelL w I M vs ss) : RelL w I' M' vs (ss.map g) := by
  refine ⟨by simpa using h.1, fun i v s hv hs => ?_⟩
  simp only [List.getElem?_map, Option.map_eq_some_iff] at hs
  obtain ⟨s', hs', rfl⟩ := hs
  exact hg v s' (h.2 i v s' hv hs')

theorem RelE.map {g : S → S} (hg : ∀ v s, RelS w I M v s → RelS w I' M' v (g s)) {v : Value} {x : E} (h : RelE w I M v x) : RelE w I' M' v (x.map g) := by
  cases x with
  | sc s => exact hg v s h
  | agg l => obtain ⟨cs, h1, h2⟩ := h; exact ⟨cs, h1, h2.map hg⟩

theorem RelV.map {g : S → S} (hg : ∀ v s, RelS w I M v s → RelS w I' M' v (g s)) {v : Value} {x : V} (h : RelV w I M v x) : RelV w I' M' v (x.map g) := by
  cases x with
  | e x => exact RelE.map hg h
  | tup l =>
    obtain ⟨vs, h1, h2, h3⟩ := h
    refine ⟨vs, h1, by simpa using h2, fun i u x hu hx => ?_⟩
    simp only [List.getElem?_map, Option.map_eq_some_iff] at hx
    obtain ⟨x', hx', rfl⟩ := hx
    exact (h3 i u x' hu hx').map hg

theorem ObjOK.map {g : S → S} (hg : ∀ v s, RelS w I M v s → RelS w I' M' v (g s)) (hi : ∀ b, I b → I' b) {e : ME} {obj : Obj} (h : ObjOK w I M e obj) : ObjOK w I' M' e (obj.map g) := by
  cases obj with
  | fwd x => exact hg _ x h
  | box cells => obtain ⟨cs, t, h1, h2⟩ := h; exact ⟨cs, t, h1, h2.map hg⟩
  | arr s elems =>
    obtain ⟨h1, h2, h0, hh⟩ := h
    refine ⟨h1, h2, h0, fun hn => ?_⟩
    obtain ⟨h3, cs, t, h4, h5, h6, h7⟩ := hh hn
    exact ⟨h3, cs, t, h4, h5, h6, fun i j d e => let ⟨v, p, q⟩ := h7 i j d e; ⟨v, p, q.mono (fun _ _ => rfl) hi⟩⟩
  | mat s rows =>
    obtain ⟨h1, h2, h4, h0, hh⟩ := h
    refine ⟨h1, h2, h4, h0, fun hn => ?_⟩
    obtain ⟨h3, cs, t, h5, h6, h7, h8⟩ := hh hn
    exact ⟨h3, cs, t, h5, h6, h7, fun k v elems p q => (h8 k v elems p q).mono (fun _ _ => rfl) hi (fun _ _ => rfl)⟩

theorem fpE_map (e : ME) (g : S → S) (obj : Obj) : fpE e (obj.map g) = fpE e obj := by cases obj <;> rfl

/-- What an object reads as. -/
theorem fd_ref {e : ME} {obj : Obj} (hok : ObjOK w I M e obj) (hi : ∀ b, I b → I' b) (hf : ∀ b ∈ fpE e obj, I' b) : (∀ s el, obj = .arr s el → Reads w I' e.val (.sl el)) ∧
    (∀ s r, obj = .mat s r → Reads w I' e.val (.sl (matD r)) ∧ ∀ (k : Nat) v, e.rows[k]? = some v → Reads w I' v (.sl (r.getD k []))) := by
  refine ⟨fun s el ho => ?_, fun s r ho => ?_⟩
  · subst ho
    obtain ⟨h1, h2, h0, hh⟩ := hok
    cases hn : e.nil with
    | true => rw [h0 hn]; simp only [ME.val, hn, if_true]; exact .slnil _ _
    | false =>
      obtain ⟨h3, cs, t, h4, h5, h6, h7⟩ := hh hn
      simp only [ME.val, hn, Bool.false_eq_true, if_false]
      rw [h2]
      refine .sl (t := t) (fr := (0, 0)) (cs := cs) el (fun i j => (cs[i * s + j]?).getD undef) (hf _ (by simp [fpE, hn])) h4 h6 (h2 ▸ h3) (fun i j d hd => ?_) (fun i j d hd => ?_)
      · obtain ⟨v, p, _⟩ := h7 i j d hd; rw [Nat.zero_add, p]; rfl
      · obtain ⟨v, p, q⟩ := h7 i j d hd; rw [p]; exact q.mono (fun _ _ => rfl) hi
  · subst ho
    obtain ⟨h1, h2, h4, h0, hh⟩ := hok
    have hrow : ∀ (k : Nat) v, e.rows[k]? = some v → Reads w I' v (.sl (r.getD k [])) := fun k v hv => by
      have hk : k < r.length := by
        rw [← h4]
        rcases Nat.lt_or_ge k e.rows.length with h | h
        · exact h
        · rw [List.getElem?_eq_none h] at hv; simp at hv
      have hnil : e.nil = false := e.nil_of fun h => by rw [h0 h] at hk; simp at hk
      obtain ⟨h3, cs, t, h5, h6, h7, h8⟩ := hh hnil
      have hg : r.getD k [] = r[k] := by simp [hk]
      rw [hg]
      obtain ⟨a, cap, rfl, hne⟩ := h8 k v _ hv (List.getElem?_eq_getElem hk)
      by_cases hemp : r[k] = []
      · rw [hemp]; exact .slnil _ _
      · obtain ⟨b, rcs, rt, rfl, hb, g1, g2, g3, g4⟩ := hne hemp
        refine .sl (t := rt) (fr := (0, 0)) (cs := rcs) _ (fun i j => (rcs[i * s + j]?).getD undef) (hf _ ?_) hb g3 g2 (fun i j d hd => ?_) (fun i j d hd => ?_)
        · simp only [fpE, hnil, Bool.false_eq_true, if_false, List.mem_cons, List.mem_flatMap]
          refine .inr ⟨_, List.mem_of_getElem? hv, ?_⟩
          obtain ⟨q, hq⟩ : ∃ q, r[k].length = q + 1 := ⟨r[k].length - 1, by have := List.length_pos_iff.2 hemp; omega⟩
          rw [hq]; simp [rowBlk]
        · obtain ⟨v, p, _⟩ := g4 i j d hd; rw [Nat.zero_add, p]; rfl
        · obtain ⟨v, p, q⟩ := g4 i j d hd; rw [p]; exact q.mono (fun _ _ => rfl) hi
    refine ⟨?_, hrow⟩
    cases hn : e.nil with
    | true => rw [h0 hn]; simp only [ME.val, hn, if_true, matD, List.map_nil]; exact .slnil _ _
    | false =>
      obtain ⟨h3, cs, t, h5, h6, h7, h8⟩ := hh hn
      simp only [ME.val, hn, Bool.false_eq_true, if_false]
      have hml : (matD r).length = e.n := by simp [matD, h2]
      rw [← hml]
      have hat : ∀ i j d, at2 (matD r) i j = some d → j = 0 ∧ i < r.length ∧ d = .sl (r.getD i []) := fun i j d hd => by
        simp only [at2, matD, List.getElem?_map, Option.bind_eq_some_iff, Option.map_eq_some_iff] at hd
        obtain ⟨x, ⟨y, hy, rfl⟩, hd⟩ := hd
        match j, hd with
        | 0, hd =>
          simp only [List.getElem?_cons_zero, Option.some.injEq] at hd
          refine ⟨rfl, ?_, ?_⟩
          · rcases Nat.lt_or_ge i r.length with h | h
            · exact h
            · rw [List.getElem?_eq_none h] at hy; simp at hy
          · subst hd; simp [List.getD, hy]
        | j + 1, hd => simp at hd
      have hlt : ∀ i, i < r.length → e.rows[i]? = some ((e.rows[i]?).getD undef) := fun i hi => by
        have : i < e.rows.length := by omega
        simp [this]
      refine .sl (s := 1) (t := t) (fr := (0, 0)) (cs := cs) _ (fun i _ => (e.rows[i]?).getD undef) (hf _ (by simp [fpE, hn])) h5 (fun x hx => ?_) (by rw [hml]; exact h3) (fun i j d hd => ?_) (fun i j d hd => ?_)
      · simp only [matD, List.mem_map] at hx; obtain ⟨y, _, rfl⟩ := hx; rfl
      · obtain ⟨rfl, hi, rfl⟩ := hat i j d hd
        rw [Nat.zero_add, Nat.mul_one, Nat.add_zero]
        exact h7 i _ (hlt i hi)
      · obtain ⟨rfl, hi, rfl⟩ := hat i j d hd
        exact hrow i _ (hlt i hi)

theorem fzFind_mem : ∀ {fz : Fz} {o : Nat} {d : FD}, fzFind fz o = some d → (o, d) ∈ fz
  | [], _, _, h => by simp [fzFind] at h
  | (j, x) :: l, o, d, h => by
    simp only [fzFind] at h
    split at h
    · rename_i hj; simp at hj h; subst hj; subst h; exact List.mem_cons_self
    · exact List.mem_cons_of_mem _ (fzFind_mem h)

theorem fzOf_ok {h : Heap} : ∀ {ids : List Nat} {fz : Fz}, fzOf h ids = some fz → ∀ o d, (o, d) ∈ fz → o ∈ ids ∧ ∃ obj, h[o]? = some (some obj) ∧ fdOf obj = some d
  | [], fz, hf, o, d, hm => by simp only [fzOf, Option.some.injEq] at hf; subst hf; simp at hm
  | o' :: l, fz, hf, o, d, hm => by
    simp only [fzOf] at hf
    split at hf
    case h_2 => simp at hf
    rename_i obj hobj
    split at hf
    case h_2 => simp at hf
    rename_i d' r hd hr
    simp only [Option.some.injEq] at hf; subst hf
    simp only [List.mem_cons, Prod.mk.injEq] at hm
    rcases hm with ⟨rfl, rfl⟩ | hm
    · exact ⟨List.mem_cons_self, obj, hobj, hd⟩
    · obtain ⟨h1, h2⟩ := fzOf_ok hr o d hm
      exact ⟨List.mem_cons_of_mem _ h1, h2⟩

theorem box_at {e : ME} {cells : List S} {ds : List D} (hok : ObjOK w I M e (.box cells)) (hm : cells.mapM S.toD = some ds) (hi : ∀ b, I b → I' b) (hf : I' e.b) : BoxAt w I' e.b ds := by
  obtain ⟨cs, t, hb, hrel⟩ := hok
  obtain ⟨h1, h2⟩ := mapM_toD hm hrel
  refine ⟨hf, cs, t, (0, 0), hb, fun i d hd => ?_⟩
  have hlt : i < cs.toList.length := by
    rw [h1]
    rcases Nat.lt_or_ge i ds.length with h | h
    · exact h
    · rw [List.getElem?_eq_none h] at hd; simp at hd
  refine ⟨cs.toList[i], by rw [← Array.getElem?_toList]; exact List.getElem?_eq_getElem hlt, (h2 i _ d (List.getElem?_eq_getElem hlt) hd).mono (fun _ _ => rfl) hi⟩

theorem BoxAt.reads {b : Nat} {ds : List D} (h : BoxAt w I b ds) : Reads w I (.pointer (some ⟨b, 0, none⟩)) (.box ds) := by
  obtain ⟨h1, cs, t, fr, hb, hd⟩ := h
  refine .box (t := t) (fr := fr) (cs := cs) ds (fun i => (cs[i]?).getD undef) h1 hb (fun i d he => ?_) (fun i d he => ?_)
  · obtain ⟨v, p, _⟩ := hd i d he; rw [p]; rfl
  · obtain ⟨v, p, q⟩ := hd i d he; rw [p]; exact q

theorem fzBoxes : ∀ {fz : Fz} {caps : List Nat} {ds : List D}, caps.mapM (fzBox fz) = some ds → ds.length = caps.length ∧ ∀ (i : Nat) o d, caps[i]? = some o → ds[i]? = some d → ∃ cs, fzFind fz o = some (.box cs) ∧ d = .box cs
  | fz, [], ds, h => by
    simp only [List.mapM_nil, Option.pure_def, Option.some.injEq] at h; subst h
    exact ⟨rfl, fun i o d h => by simp at h⟩
  | fz, c :: caps, ds, h => by
    simp only [List.mapM_cons, Option.pure_def, Option.bind_eq_bind, Option.bind_eq_some_iff, Option.some.injEq] at h
    obtain ⟨d, hd, ds', hds, rfl⟩ := h
    obtain ⟨h1, h2⟩ := fzBoxes hds
    refine ⟨by simp [h1], fun i o d' ho hd' => ?_⟩
    match i, ho, hd' with
    | 0, ho, hd' =>
      simp only [List.getElem?_cons_zero, Option.some.injEq] at ho hd'; subst ho; subst hd'
      unfold fzBox at hd
      split at hd
      · rename_i cs hcs; simp only [Option.some.injEq] at hd; exact ⟨cs, hcs, hd.symm⟩
      · simp at hd
    | i + 1, ho, hd' => exact h2 i o d' (by simpa using ho) (by simpa using hd')

theorem frS_ok {h : Heap} (s : SimH I M h w) {ids : List Nat} {fz : Fz} (hfz : fzOf h ids = some fz) (hi : ∀ b, I b → I' b) (hf : ∀ o ∈ ids, ∀ b ∈ fpAt M h o, I' b) :
    ∀ v x, RelS w I M v x → RelS w I' M v (frS fz x) := by
  have key : ∀ o d, fzFind fz o = some d → ∀ e, M[o]? = some (some e) → ∃ obj, fdOf obj = some d ∧ ObjOK w I M e obj ∧ ∀ b ∈ fpE e obj, I' b := fun o d hd e he => by
    obtain ⟨hin, obj, hobj, hfd⟩ := fzOf_ok hfz o d (fzFind_mem hd)
    obtain ⟨e', he', hok⟩ := s.obj o obj hobj
    rw [he] at he'; simp only [Option.some.injEq] at he'; subst he'
    exact ⟨obj, hfd, hok, fun b hb => hf o hin b (by simp only [fpAt, hobj, he]; exact hb)⟩
  have keep : ∀ v x, RelS w I M v x → RelS w I' M v x := fun v x hr => hr.mono (fun _ _ => rfl) hi (fun _ _ h => h)
  have fda : ∀ {obj : Obj} {s' el}, fdOf obj = some (.arr s' el) → obj = .arr s' el := fun {obj s' el} h => by
    cases obj <;> simp [fdOf] at h
    obtain ⟨rfl, rfl⟩ := h; rfl
  have fdm : ∀ {obj : Obj} {s' el}, fdOf obj = some (.mat s' el) → obj = .mat s' el := fun {obj s' el} h => by
    cases obj <;> simp [fdOf] at h
    obtain ⟨rfl, rfl⟩ := h; rfl
  have fdb : ∀ {obj : Obj} {ds}, fdOf obj = some (.box ds) → ∃ cells, obj = .box cells ∧ cells.mapM S.toD = some ds := fun {obj ds} h => by
    cases obj <;> simp [fdOf] at h
    exact ⟨_, rfl, h⟩
  have boxed : ∀ o ds, fzFind fz o = some (.box ds) → ∀ e, M[o]? = some (some e) → BoxAt w I' e.b ds := fun o ds hd e he => by
    obtain ⟨obj, h1, h2, h3⟩ := key o _ hd e he
    obtain ⟨cells, rfl, hm⟩ := fdb h1
    exact box_at h2 hm hi (h3 _ (by simp [fpE]))
  intro v x hr
  cases x with
  | dat d => exact keep _ _ hr
  | eptr z elems i k => exact keep _ _ hr
  | bptr ds k => exact keep _ _ hr
  | undef => trivial
  | ref o =>
    obtain ⟨e, he, rfl⟩ := hr
    simp only [frS]
    split
    · rename_i d hd
      obtain ⟨obj, h1, h2, h3⟩ := key o _ hd e he
      exact (fd_ref h2 hi h3).1 _ _ (fda h1)
    · rename_i d hd
      obtain ⟨obj, h1, h2, h3⟩ := key o _ hd e he
      exact ((fd_ref h2 hi h3).2 _ _ (fdm h1)).1
    · trivial
    · exact ⟨e, he, rfl⟩
  | ptr o k =>
    obtain ⟨e, he, rfl⟩ := hr
    simp only [frS]
    split
    · rename_i ds hd
      have hb := boxed o ds hd e he
      split
      · rename_i hk; simp only [beq_iff_eq] at hk; subst hk; exact hb.reads
      · exact ⟨e.b, hb, rfl⟩
    · trivial
    · exact ⟨e, he, rfl⟩
  | aptr o i k =>
    obtain ⟨e, he, hlt, rfl⟩ := hr
    simp only [frS]
    split
    · rename_i s' el hd
      obtain ⟨obj, h1, h2, h3⟩ := key o _ hd e he
      have := fda h1; subst this
      obtain ⟨g1, g2, g0, gg⟩ := h2
      have hnil : e.nil = false := e.nil_of fun h => by rw [g0 h] at g2; simp at g2; omega
      obtain ⟨g3, cs, t, g4, g5, g6, g7⟩ := gg hnil
      refine ⟨e.b, 0, s', ⟨h3 _ (by simp [fpE, hnil]), cs, t, (0, 0), g4, g6, fun i j d hd => ?_⟩, by omega, by rw [g1, Nat.zero_add]⟩
      obtain ⟨v, p, q⟩ := g7 i j d hd
      exact ⟨v, by rw [Nat.zero_add]; exact p, q.mono (fun _ _ => rfl) hi⟩
    · trivial
    · exact ⟨e, he, hlt, rfl⟩
  | mptr o i =>
    simp only [frS]
    split
    · trivial
    · exact keep v (.mptr o i) hr
  | row o k =>
    obtain ⟨e, he, hk⟩ := hr
    simp only [frS]
    split
    · rename_i s' r hd
      obtain ⟨obj, h1, h2, h3⟩ := key o _ hd e he
      exact ((fd_ref h2 hi h3).2 _ _ (fdm h1)).2 k v hk
    · trivial
    · exact ⟨e, he, hk⟩
  | rptr o r i k =>
    simp only [frS]
    split
    · trivial
    · exact keep v (.rptr o r i k) hr
  | clo f caps =>
    simp only [frS]
    split
    · rename_i ds hds
      obtain ⟨vs, rfl, h2, h3⟩ := hr
      obtain ⟨g1, g2⟩ := fzBoxes hds
      refine Reads.fn f vs ds (by omega) fun i u d hu hd => ?_
      have hi' : i < caps.length := by
        rw [← g1]
        rcases Nat.lt_or_ge i ds.length with h | h
        · exact h
        · rw [List.getElem?_eq_none h] at hd; simp at hd
      obtain ⟨cs, hfind, rfl⟩ := g2 i _ d (List.getElem?_eq_getElem hi') hd
      obtain ⟨e, he, rfl⟩ := h3 i u _ hu (List.getElem?_eq_getElem hi')
      exact (boxed _ cs hfind e he).reads
    · split
      · exact keep v (.clo f caps) hr
      · trivial

theorem dropIds_length : ∀ (ids : List Nat) (h : Heap), (dropIds h ids).length = h.length
  | [], _ => rfl
  | o :: l, h => by simp [dropIds, dropIds_length l]

theorem dropIds_get : ∀ (ids : List Nat) (h : Heap) (o : Nat) (obj : Obj), (dropIds h ids)[o]? = some (some obj) → o ∉ ids ∧ h[o]? = some (some obj)
  | [], h, o, obj, ho => ⟨by simp, ho⟩
  | o' :: l, h, o, obj, ho => by
    obtain ⟨h1, h2⟩ := dropIds_get l _ o obj ho
    by_cases he : o' = o
    · subst he
      exfalso
      rw [List.getElem?_set] at h2
      simp only [if_true] at h2
      split at h2 <;> simp at h2
    · rw [List.getElem?_set_ne he] at h2
      exact ⟨by simp only [List.mem_cons, not_or]; exact ⟨Ne.symm he, h1⟩, h2⟩

theorem xfreeze_ok {n0 : Nat} {ids : List Nat} {σ σ' : St} (hx : xfreeze ids σ = some σ') : Wk n0 σ σ' := fun I M a w s => by
  unfold xfreeze at hx
  split at hx
  case h_2 => simp at hx
  rename_i fz hfz
  simp only [Option.some.injEq] at hx; subst hx
  have hi : ∀ b, I b → (I b ∨ ∃ o ∈ ids, b ∈ fpAt M σ.h o) := fun b hb => .inl hb
  have hfr := frS_ok (I' := fun b => I b ∨ ∃ o ∈ ids, b ∈ fpAt M σ.h o) s.toSimH hfz hi (fun o ho b hb => .inr ⟨o, ho, hb⟩)
  have hget : ∀ (o : Nat) obj, ((dropIds σ.h ids).map (fun x => x.map (Obj.map (frS fz))))[o]? = some (some obj) → ∃ obj', o ∉ ids ∧ σ.h[o]? = some (some obj') ∧ obj = obj'.map (frS fz) := fun o obj ho => by
    simp only [List.getElem?_map, Option.map_eq_some_iff] at ho
    obtain ⟨x, hx, hxo⟩ := ho
    cases x with
    | none => simp at hxo
    | some obj' =>
      simp only [Option.some.injEq, exists_eq_left'] at hxo
      obtain ⟨h1, h2⟩ := dropIds_get ids _ o obj' hx
      exact ⟨obj', h1, h2, hxo.symm⟩
  have hfp : ∀ o b, b ∈ fpAt M ((dropIds σ.h ids).map (fun x => x.map (Obj.map (frS fz)))) o → o ∉ ids ∧ b ∈ fpAt M σ.h o := fun o b hb => by
    unfold fpAt at hb
    split at hb
    · rename_i obj e hobj he
      obtain ⟨obj', h1, h2, rfl⟩ := hget o obj hobj
      rw [fpE_map] at hb
      exact ⟨h1, by simp only [fpAt, h2, he]; exact hb⟩
    · simp at hb
  refine ⟨fun b => I b ∨ ∃ o ∈ ids, b ∈ fpAt M σ.h o, M, ?_, hi, fun b hb => hb.imp id fun ⟨o, _, h⟩ => ⟨o, h⟩, fun b ⟨o, hb⟩ => ⟨o, (hfp o b hb).2⟩, fun _ _ _ h => h⟩
  refine { len := by simp [dropIds_length, s.len], obj := fun o obj ho => ?_, disj := fun o1 o2 b h1 h2 => s.disj o1 o2 b (hfp _ _ h1).2 (hfp _ _ h2).2, nd := fun o => ?_, lt := fun o b hb => s.lt o b (hfp _ _ hb).2, imm := fun b hb => ?_, tm := fun i v hv => ?_, size := s.size, defers := s.defers }
  · obtain ⟨obj', h1, h2, rfl⟩ := hget o obj ho
    obtain ⟨e, he, hok⟩ := s.obj o obj' h2
    exact ⟨e, he, hok.map hfr hi⟩
  · have hnd := s.nd o
    unfold fpAt
    split
    · rename_i obj e hobj he
      obtain ⟨obj', h1, h2, rfl⟩ := hget o obj hobj
      rw [fpE_map]
      simpa only [fpAt, h2, he] using hnd
    · exact List.nodup_nil
  · rcases hb with hb | ⟨o, ho, hb⟩
    · exact ⟨(s.imm b hb).1, fun o' hb' => (s.imm b hb).2 o' (hfp _ _ hb').2⟩
    · refine ⟨s.lt o b hb, fun o' hb' => ?_⟩
      obtain ⟨h1, h2⟩ := hfp _ _ hb'
      exact h1 ((s.disj o o' b hb h2) ▸ ho)
  · simp only [List.mem_map, Prod.mk.injEq] at hv
    obtain ⟨⟨i', v'⟩, hm, rfl, rfl⟩ := hv
    exact (s.tm i' v' hm).map hfr

/-! ### Renumbering -/

def idx (ids : List Nat) (o : Nat) : Option Nat :=
  match ids with
  | [] => none
  | x :: l => if x == o then some 0 else (idx l o).map (· + 1)

theorem idx_get : ∀ {ids : List Nat} {o i : Nat}, idx ids o = some i → ids[i]? = some o
  | [], o, i, h => by simp [idx] at h
  | x :: l, o, i, h => by
    simp only [idx] at h
    split at h
    · rename_i hx; simp at hx h; subst hx; subst h; rfl
    · simp only [Option.map_eq_some_iff] at h
      obtain ⟨j, hj, rfl⟩ := h
      simpa using idx_get hj

def rnS (ids : List Nat) : S → S
  | .ref o => match idx ids o with | some i => .ref i | none => .undef
  | .ptr o k => match idx ids o with | some i => .ptr i k | none => .undef
  | .aptr o i k => match idx ids o with | some j => .aptr j i k | none => .undef
  | .row o k => match idx ids o with | some i => .row i k | none => .undef
  | .mptr o i => match idx ids o with | some j => .mptr j i | none => .undef
  | .rptr o r i k => match idx ids o with | some j => .rptr j r i k | none => .undef
  | .clo f caps => match caps.mapM (idx ids) with | some l => .clo f l | none => .undef
  | s => s

def viewT (t : List (Nat × V)) (ids : List Nat) : List Nat → Option (List (Nat × V))
  | [] => some []
  | i :: l => match get t i, viewT t ids l with
    | some v, some r => some ((i, v.map (rnS ids)) :: r)
    | _, _ => none

/-- Slots 'live' are kept, objects 'ids' are kept, in this order. -/
def xview (live ids : List Nat) (σ : St) : Option St :=
  match viewT σ.t ids live with
  | some t => some { σ with t, h := ids.map fun o => (σ.h[o]?.getD none).map (Obj.map (rnS ids)) }
  | none => none

theorem idxs_ok : ∀ {ids caps l : List Nat}, caps.mapM (idx ids) = some l → l.length = caps.length ∧ ∀ (i : Nat) o j, caps[i]? = some o → l[i]? = some j → ids[j]? = some o
  | ids, [], l, h => by
    simp only [List.mapM_nil, Option.pure_def, Option.some.injEq] at h; subst h
    exact ⟨rfl, fun i o j h => by simp at h⟩
  | ids, c :: caps, l, h => by
    simp only [List.mapM_cons, Option.pure_def, Option.bind_eq_bind, Option.bind_eq_some_iff, Option.some.injEq] at h
    obtain ⟨d, hd, ds', hds, rfl⟩ := h
    obtain ⟨h1, h2⟩ := idxs_ok hds
    refine ⟨by simp [h1], fun i o j ho hj => ?_⟩
    match i, ho, hj with
    | 0, ho, hj =>
      simp only [List.getElem?_cons_zero, Option.some.injEq] at ho hj; subst ho; subst hj
      exact idx_get hd
    | i + 1, ho, hj => exact h2 i o j (by simpa using ho) (by simpa using hj)

theorem rnS_ok {ids : List Nat} {v : Value} {x : S} (h : RelS w I M v x) : RelS w I (ids.map fun o => M[o]?.getD none) v (rnS ids x) := by
  have key : ∀ o i e, idx ids o = some i → M[o]? = some (some e) → (ids.map fun o => M[o]?.getD none)[i]? = some (some e) := fun o i e hi he => by
    rw [List.getElem?_map, idx_get hi]; simp [he]
  cases x with
  | dat d => exact h
  | ref o => obtain ⟨e, he, rfl⟩ := h; simp only [rnS]; split <;> first | exact ⟨e, key _ _ _ (by assumption) he, rfl⟩ | trivial
  | ptr o k => obtain ⟨e, he, rfl⟩ := h; simp only [rnS]; split <;> first | exact ⟨e, key _ _ _ (by assumption) he, rfl⟩ | trivial
  | aptr o i k => obtain ⟨e, he, h2, rfl⟩ := h; simp only [rnS]; split <;> first | exact ⟨e, key _ _ _ (by assumption) he, h2, rfl⟩ | trivial
  | eptr z elems i k => exact h
  | row o k => obtain ⟨e, he, h2⟩ := h; simp only [rnS]; split <;> first | exact ⟨e, key _ _ _ (by assumption) he, h2⟩ | trivial
  | mptr o i => obtain ⟨e, he, h2, rfl⟩ := h; simp only [rnS]; split <;> first | exact ⟨e, key _ _ _ (by assumption) he, h2, rfl⟩ | trivial
  | rptr o r i k => obtain ⟨e, b, n, cap, he, h2⟩ := h; simp only [rnS]; split <;> first | exact ⟨e, b, n, cap, key _ _ _ (by assumption) he, h2⟩ | trivial
  | clo f caps =>
    obtain ⟨vs, rfl, h2, h3⟩ := h
    simp only [rnS]
    split
    · rename_i l hl
      obtain ⟨g1, g2⟩ := idxs_ok hl
      refine ⟨vs, rfl, by omega, fun i u j hu hj => ?_⟩
      have hi : i < caps.length := by
        rw [← g1]
        rcases Nat.lt_or_ge i l.length with h | h
        · exact h
        · rw [List.getElem?_eq_none h] at hj; simp at hj
      obtain ⟨e, he, rfl⟩ := h3 i u _ hu (List.getElem?_eq_getElem hi)
      refine ⟨e, ?_, rfl⟩
      rw [List.getElem?_map, g2 i _ j (List.getElem?_eq_getElem hi) hj]; simp [he]
    · trivial
  | bptr ds k => exact h
  | undef => trivial

theorem viewT_ok {t : List (Nat × V)} {ids : List Nat} : ∀ {live : List Nat} {t' : List (Nat × V)}, viewT t ids live = some t' → ∀ i v, (i, v) ∈ t' → ∃ u, get t i = some u ∧ v = u.map (rnS ids)
  | [], t', h, i, v, hm => by simp only [viewT, Option.some.injEq] at h; subst h; simp at hm
  | j :: l, t', h, i, v, hm => by
    simp only [viewT] at h
    split at h
    case h_2 => simp at h
    rename_i u r hu hr
    simp only [Option.some.injEq] at h; subst h
    simp only [List.mem_cons, Prod.mk.injEq] at hm
    rcases hm with ⟨rfl, rfl⟩ | hm
    · exact ⟨u, hu, rfl⟩
    · exact viewT_ok hr i v hm

def nodupB : List Nat → Bool
  | [] => true
  | x :: l => !l.contains x && nodupB l

theorem nodupB_ok : ∀ {l : List Nat}, nodupB l = true → ∀ (i j : Nat) o, l[i]? = some o → l[j]? = some o → i = j
  | [], _, i, j, o, h, _ => by simp at h
  | x :: l, h, i, j, o, hi, hj => by
    simp only [nodupB, Bool.and_eq_true, Bool.not_eq_true', List.contains_eq_mem, decide_eq_false_iff_not] at h
    match i, j, hi, hj with
    | 0, 0, _, _ => rfl
    | 0, j + 1, hi, hj =>
      simp only [List.getElem?_cons_zero, Option.some.injEq] at hi; subst hi
      exact absurd (List.mem_of_getElem? (by simpa using hj)) h.1
    | i + 1, 0, hi, hj =>
      simp only [List.getElem?_cons_zero, Option.some.injEq] at hj; subst hj
      exact absurd (List.mem_of_getElem? (by simpa using hi)) h.1
    | i + 1, j + 1, hi, hj => rw [nodupB_ok h.2 i j o (by simpa using hi) (by simpa using hj)]

theorem xview_sim {n0 : Nat} {live ids : List Nat} {σ σ' : St} (hx : xview live ids σ = some σ') (hn : nodupB ids = true) (h0 : ids.take n0 = List.range n0) {a : Act} (s : Sim I M σ a w) :
    Sim I (ids.map fun o => M[o]?.getD none) σ' a w ∧ (∀ b, fpAll (ids.map fun o => M[o]?.getD none) σ'.h b → fpAll M σ.h b) ∧
      ∀ (o : Nat) e, o < n0 → M[o]? = some (some e) → (ids.map fun o => M[o]?.getD none)[o]? = some (some e) := by
  unfold xview at hx
  split at hx
  case h_2 => simp at hx
  rename_i t ht
  simp only [Option.some.injEq] at hx; subst hx
  have hinj := nodupB_ok hn
  have hget : ∀ (i : Nat) obj, (ids.map fun o => (σ.h[o]?.getD none).map (Obj.map (rnS ids)))[i]? = some (some obj) → ∃ o obj', ids[i]? = some o ∧ σ.h[o]? = some (some obj') ∧ obj = obj'.map (rnS ids) := fun i obj ho => by
    simp only [List.getElem?_map, Option.map_eq_some_iff] at ho
    obtain ⟨o, ho1, ho2⟩ := ho
    cases hh : σ.h[o]? with
    | none => rw [hh] at ho2; simp at ho2
    | some x =>
      rw [hh] at ho2
      cases x with
      | none => simp at ho2
      | some obj' =>
        simp only [Option.getD_some, Option.some.injEq, exists_eq_left'] at ho2
        exact ⟨o, obj', ho1, hh, ho2.symm⟩
  have hM : ∀ (i : Nat) e, (ids.map fun o => M[o]?.getD none)[i]? = some (some e) → ∃ o, ids[i]? = some o ∧ M[o]? = some (some e) := fun i e he => by
    simp only [List.getElem?_map, Option.map_eq_some_iff] at he
    obtain ⟨o, ho1, ho2⟩ := he
    refine ⟨o, ho1, ?_⟩
    cases hm : M[o]? with
    | none => rw [hm] at ho2; simp at ho2
    | some x => rw [hm] at ho2; simp only [Option.getD_some] at ho2; rw [ho2]
  have hfp : ∀ i b, b ∈ fpAt (ids.map fun o => M[o]?.getD none) (ids.map fun o => (σ.h[o]?.getD none).map (Obj.map (rnS ids))) i → ∃ o, ids[i]? = some o ∧ b ∈ fpAt M σ.h o := fun i b hb => by
    unfold fpAt at hb
    split at hb
    · rename_i obj e hobj he
      obtain ⟨o, obj', h1, h2, rfl⟩ := hget i obj hobj
      obtain ⟨o', h3, h4⟩ := hM i e he
      rw [h1] at h3; simp only [Option.some.injEq] at h3; subst h3
      rw [fpE_map] at hb
      exact ⟨o, h1, by simp only [fpAt, h2, h4]; exact hb⟩
    · simp at hb
  refine ⟨?_, fun b ⟨i, hb⟩ => let ⟨o, _, h⟩ := hfp i b hb; ⟨o, h⟩, fun o e ho he => ?_⟩
  · refine { len := by simp, obj := fun i obj ho => ?_, disj := fun i j b h1 h2 => ?_, nd := fun i => ?_, lt := fun i b hb => let ⟨o, _, h⟩ := hfp i b hb; s.lt o b h, imm := fun b hb => ⟨(s.imm b hb).1, fun i hbi => let ⟨o, _, h⟩ := hfp i b hbi; (s.imm b hb).2 o h⟩, tm := fun i v hv => ?_, size := s.size, defers := s.defers }
    · obtain ⟨o, obj', h1, h2, rfl⟩ := hget i obj ho
      obtain ⟨e, he, hok⟩ := s.obj o obj' h2
      exact ⟨e, by rw [List.getElem?_map, h1]; simp [he], hok.map (fun v x hr => rnS_ok hr) (fun _ h => h)⟩
    · obtain ⟨o1, g1, g2⟩ := hfp i b h1
      obtain ⟨o2, g3, g4⟩ := hfp j b h2
      have := s.disj o1 o2 b g2 g4; subst this
      exact hinj i j o1 g1 g3
    · unfold fpAt
      split
      · rename_i obj e hobj he
        obtain ⟨o, obj', h1, h2, rfl⟩ := hget i obj hobj
        obtain ⟨o', h3, h4⟩ := hM i e he
        rw [h1] at h3; simp only [Option.some.injEq] at h3; subst h3
        rw [fpE_map]
        have := s.nd o
        simpa only [fpAt, h2, h4] using this
      · exact List.nodup_nil
    · obtain ⟨u, hu, rfl⟩ := viewT_ok ht i v hv
      exact (s.tm i u (get_mem hu)).map fun v x hr => rnS_ok hr
  · have : ids[o]? = some o := by
      have h1 : (ids.take n0)[o]? = some o := by rw [h0]; simp [ho]
      rw [List.getElem?_take, if_pos ho] at h1; exact h1
    rw [List.getElem?_map, this]; simp [he]

theorem xview_ok {n0 : Nat} {live ids : List Nat} {σ σ' : St} (hx : xview live ids σ = some σ') (hn : nodupB ids = true) (h0 : ids.take n0 = List.range n0) : Wk n0 σ σ' := fun I M a w s => by
  obtain ⟨h1, h2, h3⟩ := xview_sim hx hn h0 s
  exact ⟨I, _, h1, fun _ h => h, fun _ h => .inl h, h2, h3⟩

/-- Return, with the objects 'ids' alone. -/
theorem GoJ.retV {P : Program} {f : FuncId} {n0 : Nat} {R : V → Heap → Prop} {k : List Item} {σ σ' : St} {T : Tab} (hT : TOK P T) {fn : Func} (hf : P.funcs[f]? = some fn) {ids : List Nat} (hn : nodupB ids = true) (h0 : ids.take n0 = List.range n0)
    {r r' : V} (hx : xresults T σ fn.results.toList = some r) (hr' : r.map (rnS ids) = r') (hv : xview [] ids σ = some σ') (hR : R r' σ'.h) : GoJ P f n0 R (.code .ret :: k) σ :=
  fun I M a w s cs => by
    obtain ⟨v, hrun, hr⟩ := results_ok hT s hx
    obtain ⟨s1, h2, h3⟩ := xview_sim hv hn h0 s
    exact ⟨v, w, r', σ'.h, I, _, _, hR, hr' ▸ hr.map fun v x hr => rnS_ok hr, s1.toSimH, (Ext.refl _ _ _), fun b h => .inl (h2 b h), h3, .one step_ret, rfl, rfl, s.defers, rfl, fn, hf, hrun⟩
end

end Go.AM

namespace Go.AM

/-- What a call with data comes to. -/
def FnD (P : Program) (k : FuncId) (args : List V) (r : V) (objs : Heap) : Prop := FnG P k args [] (fun r' h' => r' = r ∧ h' = objs)

/-- A region, then a view. -/
def xregV (P : Program) (T : Tab) (all : List Oper) (cnt : Nat) (ins : List In) (live ids : List Nat) (σ : St) : Option (St × List Prop) :=
  match xregion P T all cnt ins σ with
  | some (σ1, obs) => match xview live ids σ1 with
    | some σ2 => some (σ2, obs)
    | none => none
  | none => none

theorem GoJ.regV {P : Program} {f : FuncId} {n0 : Nat} {R : V → Heap → Prop} {k : List Item} {σ σ' : St} {T : Tab} (hT : TOK P T) {id : Nat} {all : List Oper} {cnt : Nat} {ins : List In} {live ids : List Nat} {obs : List Prop}
    (hn : nodupB ids = true) (h0 : ids.take n0 = List.range n0) (hx : xregV P T all cnt ins live ids σ = some (σ', obs)) (ho : AllP obs) (h : GoJ P f n0 R k σ') :
    GoJ P f n0 R (.code (.region id all.toArray false) :: k) σ := by
  unfold xregV at hx
  split at hx
  case h_2 => simp at hx
  rename_i σ1 obs1 h1
  split at hx
  case h_2 => simp at hx
  rename_i σ2 h2
  simp only [Option.some.injEq, Prod.mk.injEq] at hx
  obtain ⟨rfl, rfl⟩ := hx
  exact GoJ.region hT h1 ho (GoJ.wk (xview_ok h2 hn h0) h)

end Go.AM
