/- The abstract machine: what a function does (FnG), calls. -/
import Derived.Test.YtbodjgljjaafaaaAmGrow
namespace Go.AM

def RelVL (w : World) (I : Nat → Prop) (M : Mem) (vs : List Value) (xs : List V) : Prop :=
  vs.length = xs.length ∧ ∀ (i : Nat) v x, vs[i]? = some v → xs[i]? = some x → RelV w I M v x

/-- Function k, called at abstract arguments over objects h, returns, and what it returns and leaves is in Q. -/
def FnG (P : Program) (k : FuncId) (args : List V) (h : Heap) (Q : V → Heap → Prop) : Prop :=
  (∃ fn, P.funcs[k]? = some fn ∧ fn.body.isSome = true ∧ (fn.name == "runtime.NumGoroutine") = false) ∧
  ∀ (I : Nat → Prop) (M : Mem) (w : World) (vs : List Value), SimH I M h w → RelVL w I M vs args →
    Calls P k vs.toArray w fun e w' => ∃ v r h' I' M', e = .returned v ∧ Q r h' ∧ RelV w' I' M' v r ∧ SimH I' M' h' w' ∧
      Ext (fpAll M h) I w I' w' ∧ (∀ b, fpAll M' h' b → fpAll M h b ∨ w.heap.size ≤ b) ∧ ∀ (o : Nat) e, o < h.length → M[o]? = some (some e) → M'[o]? = some (some e)

theorem FnG.mono {P : Program} {k : FuncId} {args : List V} {h : Heap} {Q Q' : V → Heap → Prop} (hf : FnG P k args h Q) (hq : ∀ r h', Q r h' → Q' r h') : FnG P k args h Q' :=
  ⟨hf.1, fun I M w vs s hr => (hf.2 I M w vs s hr).mono fun _ _ ⟨v, r, h', I', M', he, hQ, rest⟩ => ⟨v, r, h', I', M', he, hq _ _ hQ, rest⟩⟩

/-- Arguments that are data. -/
def E.toData : E → Option E
  | .sc s => s.toD.map fun d => .sc (.dat d)
  | .agg l => (l.mapM S.toD).map fun ds => .agg (ds.map .dat)

def V.toData : V → Option V
  | .e x => x.toData.map .e
  | .tup _ => none

theorem toData_ok {w : World} {I : Nat → Prop} {M M' : Mem} {v : Value} {x y : V} (h : RelV w I M v x) (hx : x.toData = some y) : RelV w I M' v y := by
  cases x with
  | tup l => simp [V.toData] at hx
  | e x =>
    simp only [V.toData, Option.map_eq_some_iff] at hx
    obtain ⟨z, hz, rfl⟩ := hx
    cases x with
    | sc s =>
      simp only [E.toData, Option.map_eq_some_iff] at hz
      obtain ⟨d, hd, rfl⟩ := hz
      exact toD_ok hd h
    | agg l =>
      simp only [E.toData, Option.map_eq_some_iff] at hz
      obtain ⟨ds, hds, rfl⟩ := hz
      obtain ⟨cs, rfl, hrel⟩ := h
      obtain ⟨h1, h2⟩ := mapM_toD hds hrel
      refine ⟨cs, rfl, by simpa using h1, fun i v s hv hs => ?_⟩
      simp only [List.getElem?_map, Option.map_eq_some_iff] at hs
      obtain ⟨d, hd, rfl⟩ := hs
      exact h2 i v d hv hd

/-! ### Results: the callee's objects get the caller's numbers from 'b' on -/

def S.sh (b : Nat) : S → S
  | .ref o => .ref (b + o)
  | .ptr o k => .ptr (b + o) k
  | .aptr o i k => .aptr (b + o) i k
  | .row o k => .row (b + o) k
  | .mptr o i => .mptr (b + o) i
  | .rptr o r i k => .rptr (b + o) r i k
  | .clo f caps => .clo f (caps.map (b + ·))
  | s => s

def E.sh (b : Nat) : E → E
  | .sc s => .sc (s.sh b)
  | .agg l => .agg (l.map (S.sh b))

def V.sh (b : Nat) : V → V
  | .e x => .e (x.sh b)
  | .tup l => .tup (l.map (E.sh b))

def Obj.sh (b : Nat) : Obj → Obj
  | .box cells => .box (cells.map (S.sh b))
  | .fwd s => .fwd (s.sh b)
  | o => o

/-- The caller's entries from b on are the callee's. -/
def MAt (b : Nat) (Mc M : Mem) : Prop := ∀ (o : Nat) e, Mc[o]? = some (some e) → M[b + o]? = some (some e)

section
variable {w : World} {I : Nat → Prop} {Mc M : Mem} {b : Nat}

theorem RelS.sh (hm : MAt b Mc M) {v : Value} {s : S} (h : RelS w I Mc v s) : RelS w I M v (s.sh b) := by
  cases s with
  | dat d => exact h
  | ref o => obtain ⟨e, h1, h2⟩ := h; exact ⟨e, hm _ _ h1, h2⟩
  | ptr o k => obtain ⟨e, h1, h2⟩ := h; exact ⟨e, hm _ _ h1, h2⟩
  | aptr o i k => obtain ⟨e, h1, h2⟩ := h; exact ⟨e, hm _ _ h1, h2⟩
  | eptr z elems i k => exact h
  | row o k => obtain ⟨e, h1, h2⟩ := h; exact ⟨e, hm _ _ h1, h2⟩
  | mptr o i => obtain ⟨e, h1, h2⟩ := h; exact ⟨e, hm _ _ h1, h2⟩
  | rptr o r i k => obtain ⟨e, c, n, cap, h1, h2⟩ := h; exact ⟨e, c, n, cap, hm _ _ h1, h2⟩
  | clo f caps =>
    obtain ⟨vs, h1, h2, h3⟩ := h
    refine ⟨vs, h1, by simpa using h2, fun i u o hu ho => ?_⟩
    simp only [List.getElem?_map, Option.map_eq_some_iff] at ho
    obtain ⟨o', ho', rfl⟩ := ho
    obtain ⟨e, p, q⟩ := h3 i u o' hu ho'
    exact ⟨e, hm _ _ p, q⟩
  | bptr ds k => exact h
  | undef => trivial

theorem RelL.sh (hm : MAt b Mc M) {vs : List Value} {ss : List S} (h : RelL w I Mc vs ss) : RelL w I M vs (ss.map (S.sh b)) := by
  refine ⟨by simpa using h.1, fun i v s hv hs => ?_⟩
  simp only [List.getElem?_map, Option.map_eq_some_iff] at hs
  obtain ⟨s', hs', rfl⟩ := hs
  exact (h.2 i v s' hv hs').sh hm

theorem RelE.sh (hm : MAt b Mc M) {v : Value} {x : E} (h : RelE w I Mc v x) : RelE w I M v (x.sh b) := by
  cases x with
  | sc s => exact RelS.sh hm h
  | agg l => obtain ⟨cs, h1, h2⟩ := h; exact ⟨cs, h1, h2.sh hm⟩

theorem RelV.sh (hm : MAt b Mc M) {v : Value} {x : V} (h : RelV w I Mc v x) : RelV w I M v (x.sh b) := by
  cases x with
  | e x => exact RelE.sh hm h
  | tup l =>
    obtain ⟨vs, h1, h2, h3⟩ := h
    refine ⟨vs, h1, by simpa using h2, fun i u x hu hx => ?_⟩
    simp only [List.getElem?_map, Option.map_eq_some_iff] at hx
    obtain ⟨x', hx', rfl⟩ := hx
    exact (h3 i u x' hu hx').sh hm

theorem ObjOK.sh (hm : MAt b Mc M) {e : ME} {obj : Obj} (h : ObjOK w I Mc e obj) : ObjOK w I M e (obj.sh b) := by
  cases obj with
  | fwd x => exact RelS.sh hm (s := x) h
  | box cells => obtain ⟨cs, t, h1, h2⟩ := h; exact ⟨cs, t, h1, h2.sh hm⟩
  | arr s elems => exact h
  | mat s rows => exact h

theorem fpE_sh (e : ME) (obj : Obj) : fpE e (obj.sh b) = fpE e obj := by cases obj <;> rfl
end

/-- New objects in the slots from b on. -/
def putNew (h : Heap) (b : Nat) : List (Option Obj) → Heap
  | [] => h
  | x :: l => putNew (h.set b x) (b + 1) l

def putNewM (M : Mem) (b : Nat) : List (Option ME) → Mem
  | [] => M
  | x :: l => putNewM (M.set b x) (b + 1) l

theorem putNew_length : ∀ (l : List (Option Obj)) (h : Heap) (b : Nat), (putNew h b l).length = h.length
  | [], _, _ => rfl
  | x :: l, h, b => by simp [putNew, putNew_length l]

theorem putNewM_length : ∀ (l : List (Option ME)) (h : Mem) (b : Nat), (putNewM h b l).length = h.length
  | [], _, _ => rfl
  | x :: l, h, b => by simp [putNewM, putNewM_length l]

theorem putNew_get : ∀ (l : List (Option Obj)) (h : Heap) (b o : Nat), b + l.length ≤ h.length → (putNew h b l)[o]? = if b ≤ o ∧ o < b + l.length then l[o - b]? else h[o]?
  | [], h, b, o, _ => by
    simp only [putNew, List.length_nil]
    rw [if_neg (by omega)]
  | x :: l, h, b, o, hl => by
    simp only [List.length_cons] at hl
    rw [putNew, putNew_get l _ _ _ (by simp; omega)]
    by_cases h1 : b + 1 ≤ o ∧ o < b + 1 + l.length
    · rw [if_pos h1, if_pos (by simp; omega), show o - b = (o - (b + 1)) + 1 by omega]; simp
    · rw [if_neg h1]
      by_cases h2 : o = b
      · subst h2
        rw [if_pos (by simp)]
        have : o < h.length := by omega
        simp [this]
      · rw [List.getElem?_set_ne (Ne.symm h2), if_neg (by simp; omega)]

theorem putNewM_get : ∀ (l : List (Option ME)) (h : Mem) (b o : Nat), b + l.length ≤ h.length → (putNewM h b l)[o]? = if b ≤ o ∧ o < b + l.length then l[o - b]? else h[o]?
  | [], h, b, o, _ => by
    simp only [putNewM, List.length_nil]
    rw [if_neg (by omega)]
  | x :: l, h, b, o, hl => by
    simp only [List.length_cons] at hl
    rw [putNewM, putNewM_get l _ _ _ (by simp; omega)]
    by_cases h1 : b + 1 ≤ o ∧ o < b + 1 + l.length
    · rw [if_pos h1, if_pos (by simp; omega), show o - b = (o - (b + 1)) + 1 by omega]; simp
    · rw [if_neg h1]
      by_cases h2 : o = b
      · subst h2
        rw [if_pos (by simp)]
        have : o < h.length := by omega
        simp [this]
      · rw [List.getElem?_set_ne (Ne.symm h2), if_neg (by simp; omega)]

/-- A call that is handed data alone: its objects become the caller's. -/
theorem Eff.call {I : Nat → Prop} {M : Mem} {h : Heap} {w : World} (s : SimH I M h w) {b : Nat} {I' : Nat → Prop} {Mc : Mem} {hc : Heap} {w' : World}
    (hres : ∀ j, j < hc.length → M[b + j]? = some none) (hb : b + hc.length ≤ h.length) (sc : SimH I' Mc hc w') (hext : Ext (fun _ => False) I w I' w') (hfp : ∀ k, fpAll Mc hc k → w.heap.size ≤ k) :
    Eff ((List.range hc.length).map (b + ·)) I M h w I' (putNewM M b Mc) (putNew h b (hc.map fun x => x.map (Obj.sh b))) w' ∧ MAt b Mc (putNewM M b Mc) := by
  have hcl := sc.len
  have hMl : b + Mc.length ≤ M.length := by rw [hcl, s.len]; exact hb
  have hin : ∀ o, o ∈ (List.range hc.length).map (b + ·) ↔ b ≤ o ∧ o < b + hc.length := fun o => by
    simp only [List.mem_map, List.mem_range]
    constructor
    · rintro ⟨j, hj, rfl⟩; omega
    · rintro ⟨h1, h2⟩; exact ⟨o - b, by omega, by omega⟩
  have hMget : ∀ o, (putNewM M b Mc)[o]? = if b ≤ o ∧ o < b + Mc.length then Mc[o - b]? else M[o]? := fun o => putNewM_get _ _ _ _ hMl
  have hHget : ∀ o, (putNew h b (hc.map fun x => x.map (Obj.sh b)))[o]? = if b ≤ o ∧ o < b + hc.length then (hc[o - b]?).map (fun x => x.map (Obj.sh b)) else h[o]? := fun o => by
    rw [putNew_get _ _ _ _ (by simpa using hb)]; simp
  have hmat : MAt b Mc (putNewM M b Mc) := fun o e he => by
    have ho : o < Mc.length := by
      rcases Nat.lt_or_ge o Mc.length with hl | hl
      · exact hl
      · rw [List.getElem?_eq_none hl] at he; simp at he
    rw [hMget, if_pos (by omega), show b + o - b = o by omega]; exact he
  have hfpc : ∀ j, j < hc.length → fpAt (putNewM M b Mc) (putNew h b (hc.map fun x => x.map (Obj.sh b))) (b + j) = fpAt Mc hc j := fun j hj => by
    simp only [fpAt]
    rw [hMget, hHget, if_pos (by omega), if_pos (by omega), show b + j - b = j by omega]
    cases h1 : hc[j]? with
    | none => simp
    | some x =>
      cases x with
      | none => simp
      | some obj =>
        simp only [Option.map_some]
        cases h2 : Mc[j]? with
        | none => rfl
        | some m => cases m with
          | none => rfl
          | some m => simp only [fpE_sh]
  refine ⟨⟨by rw [putNewM_length], by rw [putNew_length], fun o e he => ?_, fun o ho => ?_, fun o ho => ?_, hext.os, hext.tape, hext.output, hext.size, fun k hk _ => hext.heap k hk (fun h => h), hext.imm, fun k hk => ⟨(sc.imm k hk).1, ?_⟩,
    fun o ho obj hobj => ?_, fun o1 o2 k h1 h2 k1 k2 => ?_, fun o ho => ?_, fun o k ho hk => ?_⟩, hmat⟩
  · rw [hMget]
    split
    · rename_i hr
      have := hres (o - b) (by omega)
      rw [show b + (o - b) = o by omega, he] at this; simp at this
    · exact he
  · rw [hin] at ho; rw [hMget, if_neg (by omega)]
  · rw [hin] at ho; rw [hHget, if_neg (by omega)]
  · rcases hext.immNew k hk with h1 | h1 | h1
    · exact .inl h1
    · refine .inr ⟨.inl h1, fun o ho => ?_⟩
      rw [hin] at ho
      rw [show o = b + (o - b) by omega, hfpc _ (by omega)]
      exact (sc.imm k hk).2 _
    · exact h1.elim
  · rw [hin] at ho
    rw [hHget, if_pos ho] at hobj
    simp only [Option.map_eq_some_iff] at hobj
    obtain ⟨x, hx, hxo⟩ := hobj
    obtain ⟨obj', rfl, rfl⟩ := hxo
    obtain ⟨e, he, hok⟩ := sc.obj _ _ hx
    exact ⟨e, by rw [hMget, if_pos (by omega)]; exact he, hok.sh hmat⟩
  · rw [hin] at h1 h2
    rw [show o1 = b + (o1 - b) by omega, hfpc _ (by omega)] at k1
    rw [show o2 = b + (o2 - b) by omega, hfpc _ (by omega)] at k2
    have := sc.disj _ _ k k1 k2
    omega
  · rw [hin] at ho
    rw [show o = b + (o - b) by omega, hfpc _ (by omega)]
    exact sc.nd _
  · rw [hin] at ho
    rw [show o = b + (o - b) by omega, hfpc _ (by omega)] at hk
    exact ⟨sc.lt _ _ hk, .inl (hfp k ⟨_, hk⟩)⟩

end Go.AM
