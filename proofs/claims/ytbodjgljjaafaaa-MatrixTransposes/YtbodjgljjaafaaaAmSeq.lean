/- The abstract machine: a region in the order of its text. -/
import Derived.Test.YtbodjgljjaafaaaAmOp
namespace Go.AM

def guardV (all : List Oper) (t : List (Nat × V)) (o : Oper) : Option Bool :=
  match o.guard with
  | none => some true
  | some (j, want) =>
    match all[j]? with
    | some oj => match oj.dst with
      | some d => match get t d with
        | some (.e (.sc (.dat (.bool b)))) => some (b == want)
        | some (.tup []) => some false
        | _ => none
      | none => none
    | none => none

def stepSt (σ : St) (dst : Option Nat) (r : V) (h : Heap) : St := { σ with t := setT σ.t dst r, h := h }

abbrev In := Or × Nat × Nat

def xseq (P : Program) (T : Tab) (all : List Oper) (top : Nat) : Nat → List In → List Oper → St → Option (St × List Prop)
  | _, _, [], σ => some (σ, [])
  | lo, (or, nid, cnt) :: ins, o :: os, σ =>
    match guardV all σ.t o with
    | some true =>
      match xop P T or nid cnt o σ with
      | some (r, h', _, obs) =>
        if cnt == 0 || (decide (lo ≤ nid) && decide (nid + cnt ≤ top)) then
          match xseq P T all top (if cnt == 0 then lo else nid + cnt) ins os (stepSt σ o.dst r h') with
          | some (σ2, obs2) => some (σ2, obs ++ obs2)
          | none => none
        else none
      | none => none
    | some false => if dstOK o.dst σ.n then xseq P T all top lo ins os (stepSt σ o.dst (.tup []) σ.h) else none
    | none => none
  | _, [], _ :: _, _ => none

/-- How a later state stands to an earlier one. -/
structure Nw (M : Mem) (h : Heap) (I : Nat → Prop) (w : World) (M' : Mem) (h' : Heap) (I' : Nat → Prop) (w' : World) : Prop where
  ext : Ext (fpAll M h) I w I' w'
  fp : ∀ b, fpAll M' h' b → fpAll M h b ∨ w.heap.size ≤ b
  mono : M.le M'

theorem Nw.refl (M : Mem) (h : Heap) (I : Nat → Prop) (w : World) : Nw M h I w M h I w := ⟨Ext.refl _ _ _, fun _ h => .inl h, fun _ _ h => h⟩

theorem Nw.trans {M M1 M2 : Mem} {h h1 h2 : Heap} {I I1 I2 : Nat → Prop} {w w1 w2 : World} (a : Nw M h I w M1 h1 I1 w1) (b : Nw M1 h1 I1 w1 M2 h2 I2 w2) : Nw M h I w M2 h2 I2 w2 :=
  ⟨a.ext.trans b.ext a.fp, fun k hk => by
    rcases b.fp k hk with h1 | h1
    · exact a.fp k h1
    · exact .inr (Nat.le_trans a.ext.size h1), fun o e he => b.mono o e (a.mono o e he)⟩

section
variable {P : Program} {I : Nat → Prop} {M : Mem} {w : World}

theorem guardV_ok {all : List Oper} {σ : St} {a : Act} (s : Sim I M σ a w) {o : Oper} {b : Bool} (hg : guardV all σ.t o = some b)
    (hd : ∀ (j : Nat) oj d, all[j]? = some oj → oj.dst = some d → d < σ.n) : Region.wanted o (yielded all.toArray a.tmps) = b := by
  unfold guardV at hg
  unfold Region.wanted
  split at hg
  · rename_i h0; rw [h0]; simpa using hg
  · rename_i j want h0
    rw [h0]
    split at hg
    · rename_i oj hoj
      split at hg
      · rename_i d hdst
        split at hg
        · rename_i c hget
          have hr := relV_bool (s.tm d _ (get_mem hget))
          have hlt : d < a.tmps.size := by rw [s.size]; exact hd j oj d hoj hdst
          have hg2 : a.tmps[d]? = some (.bool c) := by
            rw [Array.getElem?_eq_getElem hlt]; congr 1
            simpa [hlt] using hr
          have hy : yielded all.toArray a.tmps j = some c := by
            simp [yielded, hoj, hdst, hg2]
          simp only [hy]
          simp only [Option.some.injEq] at hg
          rw [← hg]
          cases c <;> cases want <;> rfl
        · rename_i hget
          obtain ⟨vs, hv, hl, _⟩ := s.tm d _ (get_mem hget)
          have hvs : vs = [] := List.length_eq_zero_iff.1 (by simpa using hl)
          subst hvs
          have hlt : d < a.tmps.size := by rw [s.size]; exact hd j oj d hoj hdst
          have hg2 : a.tmps[d]? = some (.tuple #[]) := by
            rw [Array.getElem?_eq_getElem hlt]; congr 1
            simpa [hlt] using hv
          have hy : yielded all.toArray a.tmps j = none := by
            simp [yielded, hoj, hdst, hg2]
          simp only [hy]
          simp only [Option.some.injEq] at hg
          rw [← hg]
          cases want <;> rfl
        · simp at hg
      · simp at hg
    · simp at hg

theorem Sim.skip {σ : St} {a : Act} (s : Sim I M σ a w) {dst : Option Nat} (hd : ∀ d, dst = some d → d < σ.n) : Sim I M (stepSt σ dst (.tup []) σ.h) (a.put dst undef) w :=
  s.eff (Eff.refl s.toSimH) (r := .tup []) ⟨[], rfl, rfl, fun i u x h => by simp at h⟩ hd

theorem xseq_ok {T : Tab} (hT : TOK P T) {n : Nat} {all : List Oper} (hall : ∀ (j : Nat) oj d, all[j]? = some oj → oj.dst = some d → d < n) {top : Nat} {K : Exit → Act → World → Prop} {σ' : St} :
    ∀ (os : List Oper) (k : Nat) (lo : Nat) (ins : List In) (σ : St) (obs : List Prop) (I : Nat → Prop) (M : Mem) (a : Act) (w : World), σ.n = n → (∀ j, os[j]? = all[k + j]?) →
      xseq P T all top lo ins os σ = some (σ', obs) → AllP obs → Sim I M σ a w → (∀ j, lo ≤ j → j < top → M[j]? = some none) →
      (∀ a' w' I' M', Sim I' M' σ' a' w' → Nw M σ.h I w M' σ'.h I' w' → K .normal a' w') → wpOps P all.toArray K (List.range' k os.length) a w
  | [], k, lo, ins, σ, obs, I, M, a, w, hn, hos, hx, ho, s, hres, hk => by
    simp only [xseq, Option.some.injEq, Prod.mk.injEq] at hx
    obtain ⟨rfl, rfl⟩ := hx
    exact hk a w I M s (Nw.refl _ _ _ _)
  | o :: os, k, lo, [], σ, obs, I, M, a, w, hn, hos, hx, ho, s, hres, hk => by simp [xseq] at hx
  | o :: os, k, lo, (or, nid, cnt) :: ins, σ, obs, I, M, a, w, hn, hos, hx, ho, s, hres, hk => by
    have h0 : all[k]? = some o := by simpa using (hos 0).symm
    have hos' : ∀ j, os[j]? = all[k + 1 + j]? := fun j => by have := hos (j + 1); simpa [Nat.add_assoc, Nat.add_comm 1 j] using this
    rw [List.length_cons, List.range'_succ, wpOps_cons]
    unfold wpOp
    simp only [List.getElem?_toArray, h0]
    simp only [xseq] at hx
    split at hx
    · rename_i hg
      have hw := guardV_ok s hg (fun j oj d h1 h2 => by rw [hn]; exact hall j oj d h1 h2)
      rw [if_pos hw]
      split at hx
      case h_2 => simp at hx
      rename_i r h' ids obs1 hop
      split at hx
      case isFalse => simp at hx
      rename_i hc
      split at hx
      case h_2 => simp at hx
      rename_i σ2 obs2 hrest
      simp only [Option.some.injEq, Prod.mk.injEq] at hx
      obtain ⟨rfl, rfl⟩ := hx
      obtain ⟨ho1, ho2⟩ := AllP_append ho
      simp only [Bool.or_eq_true, beq_iff_eq, Bool.and_eq_true, decide_eq_true_eq] at hc
      refine .inl (xop_ok hT hop ho1 s (fun j hj => hres _ (by omega) (by omega)) fun I' M' w' v e hr hids hd => ?_)
      have s' : Sim I' M' (stepSt σ o.dst r h') (a.put o.dst v) w' := s.eff e hr hd
      have nx := e.nx hids
      refine xseq_ok hT hall os (k + 1) _ ins (stepSt σ o.dst r h') obs2 I' M' _ w' hn hos' hrest ho2 s' (fun j h1 h2 => ?_) fun a2 w2 I2 M2 s2 n2 => ?_
      · by_cases hz : cnt = 0
        · rw [if_pos (by simpa using hz)] at h1
          exact nx.keep j (hres j h1 h2) (by omega)
        · rw [if_neg (by simpa using hz)] at h1
          exact nx.keep j (hres j (by omega) h2) (by omega)
      · exact hk a2 w2 I2 M2 s2 (Nw.trans ⟨nx.ext, nx.fp, nx.mono⟩ n2)
    · rename_i hg
      have hw := guardV_ok s hg (fun j oj d h1 h2 => by rw [hn]; exact hall j oj d h1 h2)
      rw [if_neg (by simp [hw])]
      split at hx
      case isFalse => simp at hx
      rename_i hdst
      have hd : ∀ d, o.dst = some d → d < σ.n := fun d hd => by rw [hd] at hdst; simpa [dstOK] using hdst
      exact xseq_ok hT hall os (k + 1) lo ins (stepSt σ o.dst (.tup []) σ.h) obs I M _ w hn hos' hx ho (s.skip hd) hres fun a2 w2 I2 M2 s2 n2 => hk a2 w2 I2 M2 s2 n2
    · simp at hx

/-- n fresh ids. -/
def St.grow (σ : St) (n : Nat) : St := { σ with h := σ.h ++ List.replicate n none }

theorem fpAt_grow {M : Mem} {h : Heap} (hl : M.length = h.length) (n o : Nat) : fpAt (M ++ List.replicate n none) (h ++ List.replicate n none) o = fpAt M h o := by
  simp only [fpAt]
  rcases Nat.lt_or_ge o h.length with hlt | hge
  · rw [List.getElem?_append_left hlt, List.getElem?_append_left (by omega)]
  · have e1 : (h ++ List.replicate n (none : Option Obj))[o]? = none ∨ (h ++ List.replicate n (none : Option Obj))[o]? = some none := by
      rw [List.getElem?_append_right hge, List.getElem?_replicate]
      split
      · exact .inr rfl
      · exact .inl rfl
    rw [List.getElem?_eq_none hge]
    rcases e1 with e1 | e1 <;> rw [e1]

theorem Sim.grow {σ : St} {a : Act} (s : Sim I M σ a w) (n : Nat) : Sim I (M ++ List.replicate n none) (σ.grow n) a w := by
  have hl := s.len
  have hm : M.le (M ++ List.replicate n none) := fun o e he => by
    have : o < M.length := by
      rcases Nat.lt_or_ge o M.length with h | h
      · exact h
      · rw [List.getElem?_eq_none h] at he; simp at he
    rw [List.getElem?_append_left this]; exact he
  refine { len := by simp [St.grow, hl], obj := fun o obj ho => ?_, disj := fun o1 o2 b h1 h2 => ?_, nd := fun o => ?_, lt := fun o b hb => ?_, imm := fun b hb => ⟨(s.imm b hb).1, fun o hbo => ?_⟩, tm := fun i v hv => ?_, size := s.size, defers := s.defers }
  · simp only [St.grow] at ho
    rcases Nat.lt_or_ge o σ.h.length with hlt | hge
    · rw [List.getElem?_append_left hlt] at ho
      obtain ⟨e, he, hok⟩ := s.obj o obj ho
      exact ⟨e, hm _ _ he, hok.mono (fun _ _ => rfl) (fun _ h => h) hm (fun _ _ => rfl)⟩
    · rw [List.getElem?_append_right hge, List.getElem?_replicate] at ho
      split at ho <;> simp at ho
  · simp only [St.grow, fpAt_grow hl] at h1 h2; exact s.disj o1 o2 b h1 h2
  · simp only [St.grow, fpAt_grow hl]; exact s.nd o
  · simp only [St.grow, fpAt_grow hl] at hb; exact s.lt o b hb
  · simp only [St.grow, fpAt_grow hl] at hbo; exact (s.imm b hb).2 o hbo
  · exact (s.tm i v hv).mono (fun _ _ => rfl) (fun _ h => h) hm

theorem fpAll_grow {M : Mem} {h : Heap} (hl : M.length = h.length) (n b : Nat) : fpAll (M ++ List.replicate n none) (h ++ List.replicate n none) b ↔ fpAll M h b := by
  simp only [fpAll, fpAt_grow hl]

theorem Nw.grow {σ : St} {a : Act} (s : Sim I M σ a w) (n : Nat) {M' : Mem} {h' : Heap} {I' : Nat → Prop} {w' : World} (k : Nw (M ++ List.replicate n none) (σ.grow n).h I w M' h' I' w') : Nw M σ.h I w M' h' I' w' := by
  have hl := s.len
  refine ⟨k.ext.mono fun b hb => (fpAll_grow hl n b).1 hb, fun b hb => (k.fp b hb).imp (fpAll_grow hl n b).1 id, fun o e he => k.mono o e ?_⟩
  have : o < M.length := by
    rcases Nat.lt_or_ge o M.length with h | h
    · exact h
    · rw [List.getElem?_eq_none h] at he; simp at he
  rw [List.getElem?_append_left this]; exact he

def dstsOK (all : List Oper) (n : Nat) : Bool := all.all fun o => dstOK o.dst n

/-- A region that does not draw. -/
def xregion (P : Program) (T : Tab) (all : List Oper) (cnt : Nat) (ins : List In) (σ : St) : Option (St × List Prop) :=
  if dstsOK all σ.n then xseq P T all (σ.h.length + cnt) σ.h.length ins all (σ.grow cnt) else none

theorem xregion_ok {T : Tab} (hT : TOK P T) {all : List Oper} {cnt : Nat} {ins : List In} {σ σ' : St} {obs : List Prop} (hx : xregion P T all cnt ins σ = some (σ', obs)) (ho : AllP obs)
    {a : Act} (s : Sim I M σ a w) {K : Exit → Act → World → Prop} (hk : ∀ a' w' I' M', Sim I' M' σ' a' w' → Nw M σ.h I w M' σ'.h I' w' → K .normal a' w') :
    wpOps P all.toArray K (List.range all.toArray.size) a w := by
  unfold xregion at hx
  split at hx
  case isFalse => simp at hx
  rename_i hd
  have := xseq_ok hT (n := σ.n) (all := all) (K := K) (fun j oj d h1 h2 => by
    simp only [dstsOK, List.all_eq_true] at hd
    have := hd oj (List.mem_of_getElem? h1)
    rw [h2] at this; simpa [dstOK] using this) all 0 _ ins (σ.grow cnt) obs I (M ++ List.replicate cnt none) a w rfl (fun j => by simp) hx ho (s.grow cnt)
    (fun j h1 h2 => by
      rw [List.getElem?_append_right (by rw [s.len]; exact h1), List.getElem?_replicate, if_pos (by rw [s.len]; omega)])
    (fun a' w' I' M' s' n' => hk a' w' I' M' s' (Nw.grow s cnt n'))
  rw [List.size_toArray, List.range_eq_range']
  exact this
end

end Go.AM
