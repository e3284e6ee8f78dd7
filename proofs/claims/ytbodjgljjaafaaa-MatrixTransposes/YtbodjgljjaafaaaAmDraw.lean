/- The abstract machine: a region that draws the order of its operations: whatever the order, the end is the end of the text's order. -/
import Derived.Test.YtbodjgljjaafaaaAmNm
namespace Go.AM

structure DIn where
  or : Or
  nid : Nat
  cnt : Nat
  anc : List Nat
  need : List Nat
  tch : List Nat
  drop : List Nat

def allJ (p : Nat → Oper → DIn → Bool) : Nat → List Oper → List DIn → Bool
  | j, o :: os, d :: ds => p j o d && allJ p (j + 1) os ds
  | _, _, _ => true

theorem allJ_get {p : Nat → Oper → DIn → Bool} : ∀ {os : List Oper} {ds : List DIn} {j : Nat}, allJ p j os ds = true → ∀ {i : Nat} {o : Oper} {d : DIn}, os[i]? = some o → ds[i]? = some d → p (j + i) o d = true
  | [], _, _, _, i, o, d, h, _ => by simp at h
  | _ :: _, [], _, _, i, o, d, _, h => by simp at h
  | x :: os, y :: ds, j, h, 0, o, d, ho, hd => by
    simp only [allJ, Bool.and_eq_true] at h
    simp only [List.getElem?_cons_zero, Option.some.injEq] at ho hd; subst ho; subst hd; exact h.1
  | x :: os, y :: ds, j, h, i + 1, o, d, ho, hd => by
    simp only [allJ, Bool.and_eq_true] at h
    have := allJ_get h.2 (i := i) (by simpa using ho) (by simpa using hd)
    rwa [show j + 1 + i = j + (i + 1) by omega] at this

def predsOf (o : Oper) : List Nat := (o.after.toList.filter fun e => Region.binds .any e).map (·.on)

def apartD (x y : Option Nat) : Bool :=
  match x, y with
  | some a, some b => a != b
  | _, _ => true

def chkJ (i : Nat) (o : Oper) (din : DIn) (j : Nat) (oj : Oper) (dj : DIn) : Bool :=
  j == i || (apartD oj.dst o.dst &&
    (!(dj.tch.any fun x => din.tch.contains x) || din.anc.contains j || dj.anc.contains i) &&
    (din.cnt == 0 || dj.cnt == 0 || decide (din.nid + din.cnt ≤ dj.nid) || decide (dj.nid + dj.cnt ≤ din.nid)) &&
    (din.anc.contains j || dj.anc.contains i ||
      ((match oj.dst with | some x => !din.need.contains x | none => true) && dj.tch.all fun x => din.drop.contains x)))

def chk (all : List Oper) (ins : List DIn) (base top i : Nat) (o : Oper) (din : DIn) : Bool :=
  allJ (chkJ i o din) 0 all ins &&
  (din.anc.all fun a => decide (a < i) && ((predsOf o).contains a || (predsOf o).any fun p => match ins[p]? with | some dp => dp.anc.contains a | none => false)) &&
  ((predsOf o).all fun p => decide (p < i)) &&
  (din.cnt == 0 || (decide (base ≤ din.nid) && decide (din.nid + din.cnt ≤ top))) &&
  din.tch.all fun x => !din.drop.contains x

def needT (t : List (Nat × V)) : List Nat → List (Nat × V)
  | [] => []
  | d :: l => match get t d with
    | some v => (d, v) :: needT t l
    | none => needT t l

theorem needT_mem {t : List (Nat × V)} : ∀ {l : List Nat} {d : Nat} {v : V}, (d, v) ∈ needT t l → d ∈ l ∧ get t d = some v
  | [], d, v, h => by simp [needT] at h
  | x :: l, d, v, h => by
    simp only [needT] at h
    split at h
    · rename_i u hu
      simp only [List.mem_cons, Prod.mk.injEq] at h
      rcases h with ⟨rfl, rfl⟩ | h
      · exact ⟨by simp, hu⟩
      · obtain ⟨h1, h2⟩ := needT_mem h; exact ⟨by simp [h1], h2⟩
    · obtain ⟨h1, h2⟩ := needT_mem h; exact ⟨by simp [h1], h2⟩

def betaOf (din : DIn) (σ : St) : St := { t := needT σ.t din.need, h := dropIds σ.h din.drop, n := σ.n }

def updH (h h' : Heap) : List Nat → Heap
  | [] => h
  | o :: l => updH (h.set o (h'[o]?.getD none)) h' l

theorem updH_length : ∀ (l : List Nat) (h h' : Heap), (updH h h' l).length = h.length
  | [], _, _ => rfl
  | o :: l, h, h' => by rw [updH, updH_length l]; simp

theorem updH_other : ∀ (l : List Nat) (h h' : Heap) (o : Nat), o ∉ l → (updH h h' l)[o]? = h[o]?
  | [], _, _, _, _ => rfl
  | x :: l, h, h', o, ho => by
    simp only [List.mem_cons, not_or] at ho
    rw [updH, updH_other l _ _ o ho.2, List.getElem?_set_ne (Ne.symm ho.1)]

theorem updH_get : ∀ (l : List Nat) (h h' : Heap) (o : Nat), h'.length = h.length → o ∈ l → (updH h h' l)[o]? = h'[o]?
  | [], _, _, _, _, h => by simp at h
  | x :: l, h, h', o, hl, ho => by
    rw [updH]
    by_cases hin : o ∈ l
    · exact updH_get l _ h' o (by simpa using hl) hin
    · have hx : o = x := by simpa [hin] using ho
      subst hx
      rw [updH_other l _ _ o hin]
      by_cases hlt : o < h.length
      · have hlt' : o < h'.length := by omega
        simp [hlt, List.getElem?_eq_getElem hlt']
      · rw [List.getElem?_eq_none (by simp; omega), List.getElem?_eq_none (by omega)]

abbrev Rec := V × Heap

def xd (P : Program) (T : Tab) (all : List Oper) (ins : List DIn) (base top : Nat) : Nat → List Oper → List DIn → St → Option (List Rec × St × List Prop)
  | _, [], _, σ => some ([], σ, [])
  | i, o :: os, din :: ds, σ =>
    if chk all ins base top i o din && dstOK o.dst σ.n then
      match guardV all (needT σ.t din.need) o with
      | some true =>
        match xop P T din.or din.nid din.cnt o (betaOf din σ) with
        | some (r, h', ids, obs) =>
          if h'.length == σ.h.length && ((ids.all fun x => din.tch.contains x) && (din.tch.all fun x => ids.contains x)) then
            match xd P T all ins base top (i + 1) os ds { σ with t := setT σ.t o.dst r, h := updH σ.h h' din.tch } with
            | some (recs, σ2, obs2) => some ((r, h') :: recs, σ2, obs ++ obs2)
            | none => none
          else none
        | none => none
      | some false => if din.tch.isEmpty then
          match xd P T all ins base top (i + 1) os ds { σ with t := setT σ.t o.dst (.tup []), h := updH σ.h σ.h din.tch } with
          | some (recs, σ2, obs2) => some ((.tup [], σ.h) :: recs, σ2, obs2)
          | none => none
        else none
      | none => none
    else none
  | _, _ :: _, [], _ => none

/-! ### What is known of the state when the operations of a set E have run -/

def ExpT (all : List Oper) (recs : List Rec) (t0 : List (Nat × V)) (E : Nat → Prop) (d : Nat) (v : V) : Prop :=
  (∃ j o rc, E j ∧ all[j]? = some o ∧ recs[j]? = some rc ∧ o.dst = some d ∧ v = rc.1) ∨ ((∀ j o, E j → all[j]? = some o → o.dst ≠ some d) ∧ get t0 d = some v)

structure ConsH (ins : List DIn) (recs : List Rec) (h0 : Heap) (E : Nat → Prop) (h : Heap) : Prop where
  len : h.length = h0.length
  old : ∀ o, (∀ (j : Nat) din, E j → ins[j]? = some din → o ∉ din.tch) → h[o]? = h0[o]?
  new : ∀ o (j : Nat) din rc, E j → ins[j]? = some din → recs[j]? = some rc → o ∈ din.tch → (∀ (k : Nat) dk, E k → ins[k]? = some dk → o ∈ dk.tch → k ≤ j) → h[o]? = rc.2[o]?

def plus (E : Nat → Prop) (i : Nat) : Nat → Prop := fun k => E k ∨ k = i

theorem exists_max {Q : Nat → Prop} : ∀ n, (∃ j, j < n ∧ Q j) → ∃ j, j < n ∧ Q j ∧ ∀ k, k < n → Q k → k ≤ j
  | 0, ⟨j, h, _⟩ => by omega
  | n + 1, ⟨j, h, hq⟩ => by
    by_cases hn : Q n
    · exact ⟨n, by omega, hn, fun k hk _ => by omega⟩
    · have hj : j ≠ n := fun h => hn (h ▸ hq)
      obtain ⟨m, h1, h2, h3⟩ := exists_max n ⟨j, by omega, hq⟩
      exact ⟨m, by omega, h2, fun k hk hqk => h3 k (by have : k ≠ n := fun h => hn (h ▸ hqk); omega) hqk⟩

section
variable {all : List Oper} {ins : List DIn} {recs : List Rec} {t0 : List (Nat × V)} {h0 : Heap} {E E1 E2 : Nat → Prop}

theorem ConsH.agree {h1 h2 : Heap} (c1 : ConsH ins recs h0 E1 h1) (c2 : ConsH ins recs h0 E2 h2) {o : Nat} (hb : ∀ (j : Nat) din, E1 j → ins[j]? = some din → j < recs.length)
    (he : ∀ (j : Nat) din, ins[j]? = some din → o ∈ din.tch → (E1 j ↔ E2 j)) : h1[o]? = h2[o]? := by
  by_cases hex : ∃ j, j < recs.length ∧ (E1 j ∧ ∃ din, ins[j]? = some din ∧ o ∈ din.tch)
  · obtain ⟨j, h1', ⟨h2', din, h3, h4⟩, hmax⟩ := exists_max recs.length hex
    rw [c1.new o j din _ h2' h3 (List.getElem?_eq_getElem h1') h4 fun k dk hk1 hk2 hk3 => hmax k (hb k dk hk1 hk2) ⟨hk1, dk, hk2, hk3⟩,
      c2.new o j din _ ((he j din h3 h4).1 h2') h3 (List.getElem?_eq_getElem h1') h4 fun k dk hk1 hk2 hk3 =>
        hmax k (hb k dk ((he k dk hk2 hk3).2 hk1) hk2) ⟨(he k dk hk2 hk3).2 hk1, dk, hk2, hk3⟩]
  · rw [c1.old o fun j din g1 g2 g3 => hex ⟨j, hb j din g1 g2, g1, din, g2, g3⟩,
      c2.old o fun j din g1 g2 g3 => hex ⟨j, hb j din ((he j din g2 g3).2 g1) g2, (he j din g2 g3).2 g1, din, g2, g3⟩]

theorem ConsH.step {h h' : Heap} (c : ConsH ins recs h0 E h) {i : Nat} {din : DIn} {rc : Rec} (hi : ins[i]? = some din) (hr : recs[i]? = some rc) (hl : rc.2.length = h.length)
    (hord : ∀ o ∈ din.tch, ∀ (k : Nat) dk, E k → ins[k]? = some dk → o ∈ dk.tch → k ≤ i) (hh : h' = updH h rc.2 din.tch) : ConsH ins recs h0 (plus E i) h' := by
  subst hh
  refine ⟨by rw [updH_length, c.len], fun o ho => ?_, fun o j dj rj hE hj hrj ht hmax => ?_⟩
  · rw [updH_other _ _ _ o (ho i din (.inr rfl) hi)]
    exact c.old o fun j dj h1 h2 => ho j dj (.inl h1) h2
  · rcases hE with hE | rfl
    · by_cases hin : o ∈ din.tch
      · have h1 := hmax i din (.inr rfl) hi hin
        have h2 := hord o hin j dj hE hj ht
        have : j = i := by omega
        subst this
        rw [hr, Option.some.injEq] at hrj; subst hrj
        exact updH_get _ _ _ o hl hin
      · rw [updH_other _ _ _ o hin]
        exact c.new o j dj rj hE hj hrj ht fun k dk h1 => hmax k dk (.inl h1)
    · rw [hi, Option.some.injEq] at hj; subst hj
      rw [hr, Option.some.injEq] at hrj; subst hrj
      exact updH_get _ _ _ o hl ht

theorem ExpT.step {i : Nat} {o : Oper} {rc : Rec} (hi : all[i]? = some o) (hr : recs[i]? = some rc) (hd : ∀ (j : Nat) oj, j ≠ i → all[j]? = some oj → ∀ d, o.dst = some d → oj.dst ≠ some d) {d : Nat} {v : V} :
    ExpT all recs t0 (plus E i) d v ↔ (o.dst = some d ∧ v = rc.1) ∨ (o.dst ≠ some d ∧ ExpT all recs t0 E d v) := by
  constructor
  · rintro (⟨j, oj, rj, hE, h1, h2, h3, h4⟩ | ⟨h1, h2⟩)
    · by_cases hj : j = i
      · subst hj
        rw [hi, Option.some.injEq] at h1; subst h1
        rw [hr, Option.some.injEq] at h2; subst h2
        exact .inl ⟨h3, h4⟩
      · have hE' : E j := hE.resolve_right hj
        exact .inr ⟨fun ho => hd j oj hj h1 d ho h3, .inl ⟨j, oj, rj, hE', h1, h2, h3, h4⟩⟩
    · exact .inr ⟨h1 i o (.inr rfl) hi, .inr ⟨fun j oj hE => h1 j oj (.inl hE), h2⟩⟩
  · rintro (⟨h1, h2⟩ | ⟨h1, ⟨j, oj, rj, hE, g1, g2, g3, g4⟩ | ⟨g1, g2⟩⟩)
    · exact .inl ⟨i, o, rc, .inr rfl, hi, hr, h1, h2⟩
    · exact .inl ⟨j, oj, rj, .inl hE, g1, g2, g3, g4⟩
    · refine .inr ⟨fun j oj hE hj => ?_, g2⟩
      rcases hE with hE | rfl
      · exact g1 j oj hE hj
      · rw [hi, Option.some.injEq] at hj; subst hj; exact h1
end

theorem get_setT {t : List (Nat × V)} {dst : Option Nat} {r : V} {d : Nat} {v : V} (h : get (setT t dst r) d = some v) : (dst = some d ∧ v = r) ∨ (dst ≠ some d ∧ get t d = some v) := by
  cases dst with
  | none => exact .inr ⟨by simp, h⟩
  | some x =>
    simp only [setT, get] at h
    split at h
    · rename_i hx; simp only [beq_iff_eq] at hx; subst hx; simp only [Option.some.injEq] at h; exact .inl ⟨rfl, h.symm⟩
    · rename_i hx
      simp only [beq_iff_eq] at hx
      refine .inr ⟨by simpa using hx, ?_⟩
      have key : ∀ t : List (Nat × V), get (t.filter fun y => y.1 != x) d = get t d := by
        intro t
        induction t with
        | nil => rfl
        | cons y t ih =>
          obtain ⟨j, u⟩ := y
          simp only [List.filter_cons]
          by_cases hj : j = x
          · subst hj
            simp only [bne_self_eq_false, Bool.false_eq_true, if_false, ih, get]
            rw [if_neg (by simpa using hx)]
          · simp only [bne_iff_ne, ne_eq, hj, not_false_eq_true, if_true, get, ih]
      rw [key] at h; exact h

/-- One step of the text's order, with what is known before it. -/
structure Stp (P : Program) (T : Tab) (all : List Oper) (ins : List DIn) (recs : List Rec) (t0 : List (Nat × V)) (h0 : Heap) (n base top i : Nat) (o : Oper) (din : DIn) (rc : Rec) : Prop where
  ck : chk all ins base top i o din = true
  dst : dstOK o.dst n = true
  ex : ∃ σ : St, σ.n = n ∧ (∀ d v, get σ.t d = some v → ExpT all recs t0 (· < i) d v) ∧ ConsH ins recs h0 (· < i) σ.h ∧ rc.2.length = σ.h.length ∧
    ((guardV all (needT σ.t din.need) o = some true ∧ ∃ ids obs, xop P T din.or din.nid din.cnt o (betaOf din σ) = some (rc.1, rc.2, ids, obs) ∧ AllP obs ∧ (∀ x, x ∈ ids ↔ x ∈ din.tch)) ∨
     (guardV all (needT σ.t din.need) o = some false ∧ din.tch = [] ∧ rc.1 = .tup []))

theorem chk_spec {all : List Oper} {ins : List DIn} {base top i : Nat} {o : Oper} {din : DIn} (h : chk all ins base top i o din = true) :
    (∀ (j : Nat) oj dj, all[j]? = some oj → ins[j]? = some dj → j ≠ i → (∀ d, o.dst = some d → oj.dst ≠ some d) ∧
      (∀ x, x ∈ dj.tch → x ∈ din.tch → j ∈ din.anc ∨ i ∈ dj.anc) ∧
      (∀ x, din.nid ≤ x → x < din.nid + din.cnt → ¬ (dj.nid ≤ x ∧ x < dj.nid + dj.cnt)) ∧
      (j ∈ din.anc ∨ i ∈ dj.anc ∨ ((∀ x, oj.dst = some x → x ∉ din.need) ∧ ∀ x ∈ dj.tch, x ∈ din.drop))) ∧
    (∀ a ∈ din.anc, a < i ∧ (a ∈ predsOf o ∨ ∃ p ∈ predsOf o, ∃ dp, ins[p]? = some dp ∧ a ∈ dp.anc)) ∧ (∀ p ∈ predsOf o, p < i) ∧
    (∀ x, din.nid ≤ x → x < din.nid + din.cnt → base ≤ x ∧ x < top) ∧ ∀ x ∈ din.tch, x ∉ din.drop := by
  simp only [chk, Bool.and_eq_true] at h
  obtain ⟨⟨⟨⟨h1, h2⟩, h3⟩, h4⟩, h5⟩ := h
  refine ⟨fun j oj dj ho hd hne => ?_, fun a ha => ?_, fun p hp => ?_, fun x hx1 hx2 => ?_, fun x hx => ?_⟩
  · have := allJ_get h1 ho hd
    simp only [Nat.zero_add, chkJ, Bool.or_eq_true, beq_iff_eq, hne, false_or, Bool.and_eq_true] at this
    obtain ⟨⟨⟨g1, g2⟩, g3⟩, g4⟩ := this
    refine ⟨fun d hd1 hd2 => ?_, fun x hx1 hx2 => ?_, fun x hx1 hx2 hx3 => ?_, ?_⟩
    · rw [hd1, hd2] at g1; simp [apartD] at g1
    · rcases g2 with (g2 | g2) | g2
      · exfalso
        simp only [Bool.not_eq_true', List.any_eq_false] at g2
        exact g2 x hx1 (by simpa using hx2)
      · exact .inl (by simpa using g2)
      · exact .inr (by simpa using g2)
    · simp only [decide_eq_true_eq] at g3; omega
    · rcases g4 with (g4 | g4) | ⟨g4, g5⟩
      · exact .inl (by simpa using g4)
      · exact .inr (.inl (by simpa using g4))
      · refine .inr (.inr ⟨fun x hx => ?_, fun x hx => ?_⟩)
        · rw [hx] at g4; simpa using g4
        · simp only [List.all_eq_true] at g5; simpa using g5 x hx
  · simp only [List.all_eq_true] at h2
    have := h2 a ha
    simp only [Bool.and_eq_true, decide_eq_true_eq, Bool.or_eq_true] at this
    refine ⟨this.1, this.2.imp (by simp) fun h => ?_⟩
    simp only [List.any_eq_true] at h
    obtain ⟨p, hp, h⟩ := h
    split at h
    · rename_i dp hdp; exact ⟨p, hp, dp, hdp, by simpa using h⟩
    · simp at h
  · simp only [List.all_eq_true] at h3; simpa using h3 p hp
  · simp only [Bool.or_eq_true, beq_iff_eq, Bool.and_eq_true, decide_eq_true_eq] at h4; omega
  · simp only [List.all_eq_true] at h5; simpa using h5 x hx

section
variable {P : Program} {T : Tab}

theorem xd_steps {all : List Oper} {ins : List DIn} (hil : ins.length = all.length) {base top : Nat} {recs : List Rec} {t0 : List (Nat × V)} {h0 : Heap} {n : Nat} {σ2 : St} :
    ∀ (os : List Oper) (ds : List DIn) (i : Nat) (σ : St) (rs : List Rec) (obs : List Prop), (∀ k, os[k]? = all[i + k]?) → (∀ k, ds[k]? = ins[i + k]?) → (∀ k, rs[k]? = recs[i + k]?) → σ.n = n →
      (∀ d v, get σ.t d = some v → ExpT all recs t0 (· < i) d v) → ConsH ins recs h0 (· < i) σ.h → xd P T all ins base top i os ds σ = some (rs, σ2, obs) → AllP obs →
      (∀ (j : Nat) o, i ≤ j → all[j]? = some o → ∃ din rc, ins[j]? = some din ∧ recs[j]? = some rc ∧ Stp P T all ins recs t0 h0 n base top j o din rc) ∧
      σ2.n = n ∧ (∀ d v, get σ2.t d = some v → ExpT all recs t0 (· < i + os.length) d v) ∧ ConsH ins recs h0 (· < i + os.length) σ2.h
  | [], ds, i, σ, rs, obs, hos, hds, hrs, hn, ht, hc, hx, ho => by
    simp only [xd, Option.some.injEq, Prod.mk.injEq] at hx
    obtain ⟨rfl, rfl, rfl⟩ := hx
    refine ⟨fun j o hj ho => ?_, hn, by simpa using ht, by simpa using hc⟩
    have := hos (j - i)
    rw [show i + (j - i) = j by omega, ho] at this; simp at this
  | o :: os, [], i, σ, rs, obs, hos, hds, hrs, hn, ht, hc, hx, ho => by simp [xd] at hx
  | o :: os, din :: ds, i, σ, rs, obs, hos, hds, hrs, hn, ht, hc, hx, ho => by
    have ha : all[i]? = some o := by simpa using (hos 0).symm
    have hi : ins[i]? = some din := by simpa using (hds 0).symm
    simp only [xd] at hx
    split at hx
    case isFalse => simp at hx
    rename_i hck
    simp only [Bool.and_eq_true] at hck
    obtain ⟨hck, hdst⟩ := hck
    have hsp := chk_spec hck
    have main : ∀ {r : V} {h' : Heap} {rs' : List Rec} {obs2 : List Prop}, rs = (r, h') :: rs' → h'.length = σ.h.length →
        xd P T all ins base top (i + 1) os ds { σ with t := setT σ.t o.dst r, h := updH σ.h h' din.tch } = some (rs', σ2, obs2) → AllP obs2 →
        Stp P T all ins recs t0 h0 n base top i o din (r, h') →
        (∀ (j : Nat) o', i ≤ j → all[j]? = some o' → ∃ din rc, ins[j]? = some din ∧ recs[j]? = some rc ∧ Stp P T all ins recs t0 h0 n base top j o' din rc) ∧
        σ2.n = n ∧ (∀ d v, get σ2.t d = some v → ExpT all recs t0 (· < i + (o :: os).length) d v) ∧ ConsH ins recs h0 (· < i + (o :: os).length) σ2.h := by
      intro r h' rs' obs2 hrs' hlen hrec ho2 hstp
      subst hrs'
      have hr : recs[i]? = some (r, h') := by simpa using (hrs 0).symm
      have hplus : (fun k => k < i + 1) = plus (fun k => k < i) i := by funext k; simp only [plus, eq_iff_iff]; omega
      obtain ⟨g1, g2, g3, g4⟩ := xd_steps hil os ds (i + 1) { σ with t := setT σ.t o.dst r, h := updH σ.h h' din.tch } rs' obs2
        (fun k => by have := hos (k + 1); simpa [Nat.add_assoc, Nat.add_comm 1 k] using this)
        (fun k => by have := hds (k + 1); simpa [Nat.add_assoc, Nat.add_comm 1 k] using this) (fun k => by have := hrs (k + 1); simpa [Nat.add_assoc, Nat.add_comm 1 k] using this) hn
        (fun d v hv => by
          rw [hplus, ExpT.step ha hr fun j oj hj hoj d hd => ?_]
          · rcases get_setT hv with h | ⟨h1, h2⟩
            · exact .inl h
            · exact .inr ⟨h1, ht d v h2⟩
          · intro hc2
            have hlt : j < ins.length := by
              rw [hil]
              rcases Nat.lt_or_ge j all.length with h | h
              · exact h
              · rw [List.getElem?_eq_none h] at hoj; simp at hoj
            exact (hsp.1 j oj _ hoj (List.getElem?_eq_getElem hlt) hj).1 d hd hc2)
        (by rw [hplus]; exact hc.step hi hr hlen (fun x hx k dk hk _ _ => Nat.le_of_lt hk) (h' := updH σ.h h' din.tch) rfl) hrec ho2
      refine ⟨fun j o' hj ho' => ?_, g2, ?_, ?_⟩
      · by_cases hji : j = i
        · subst hji
          rw [ha, Option.some.injEq] at ho'; subst ho'
          exact ⟨din, _, hi, hr, hstp⟩
        · exact g1 j o' (by omega) ho'
      · rw [List.length_cons, show i + (os.length + 1) = i + 1 + os.length by omega]; exact g3
      · rw [List.length_cons, show i + (os.length + 1) = i + 1 + os.length by omega]; exact g4
    rw [← hn] at main
    split at hx
    · rename_i hg
      split at hx
      case h_2 => simp at hx
      rename_i r h' ids obs1 hop
      split at hx
      case isFalse => simp at hx
      rename_i hids
      split at hx
      case h_2 => simp at hx
      rename_i rs' σ3 obs2 hrec
      simp only [Option.some.injEq, Prod.mk.injEq] at hx
      obtain ⟨rfl, rfl, rfl⟩ := hx
      obtain ⟨ho1, ho2⟩ := AllP_append ho
      simp only [Bool.and_eq_true, beq_iff_eq, List.all_eq_true, List.contains_eq_mem, decide_eq_true_eq] at hids
      rw [← hn]
      exact main rfl hids.1 hrec ho2 ⟨hck, hdst, σ, rfl, ht, hc, hids.1, .inl ⟨hg, ids, obs1, hop, ho1, fun x => ⟨hids.2.1 x, hids.2.2 x⟩⟩⟩
    · rename_i hg
      split at hx
      case isFalse => simp at hx
      rename_i hte
      split at hx
      case h_2 => simp at hx
      rename_i rs' σ3 obs2 hrec
      simp only [Option.some.injEq, Prod.mk.injEq] at hx
      obtain ⟨rfl, rfl, rfl⟩ := hx
      rw [← hn]
      exact main rfl rfl hrec ho ⟨hck, hdst, σ, rfl, ht, hc, rfl, .inr ⟨hg, by simpa using hte, rfl⟩⟩
    · simp at hx

theorem SimH.sub {I : Nat → Prop} {M : Mem} {h hβ : Heap} {w : World} (s : SimH I M h w) (hl : hβ.length = h.length) (hs : ∀ (o : Nat) obj, hβ[o]? = some (some obj) → h[o]? = some (some obj)) : SimH I M hβ w := by
  have hfp : ∀ o b, b ∈ fpAt M hβ o → b ∈ fpAt M h o := fun o b hb => by
    unfold fpAt at hb
    split at hb
    · rename_i obj e hobj he
      simp only [fpAt, hs o obj hobj, he]; exact hb
    · simp at hb
  refine ⟨by rw [s.len, hl], fun o obj ho => s.obj o obj (hs o obj ho), fun o1 o2 b h1 h2 => s.disj o1 o2 b (hfp _ _ h1) (hfp _ _ h2), fun o => ?_, fun o b hb => s.lt o b (hfp _ _ hb), fun b hb => ⟨(s.imm b hb).1, fun o hbo => (s.imm b hb).2 o (hfp _ _ hbo)⟩⟩
  unfold fpAt
  split
  · rename_i obj e hobj he
    have := s.nd o
    simpa only [fpAt, hs o obj hobj, he] using this
  · exact List.nodup_nil

theorem Eff.lift {ids : List Nat} {I : Nat → Prop} {M : Mem} {hβ h h' h'' : Heap} {w : World} {I' : Nat → Prop} {M' : Mem} {w' : World} (e : Eff ids I M hβ w I' M' h' w')
    (hsame : ∀ o ∈ ids, hβ[o]? = h[o]?) (hl : h''.length = h.length) (hin : ∀ o ∈ ids, h''[o]? = h'[o]?) (hout : ∀ o, o ∉ ids → h''[o]? = h[o]?) : Eff ids I M h w I' M' h'' w' := by
  have f1 : ∀ o ∈ ids, fpAt M hβ o = fpAt M h o := fun o ho => fpAt_congr rfl (hsame o ho)
  have f2 : ∀ o ∈ ids, fpAt M' h'' o = fpAt M' h' o := fun o ho => fpAt_congr rfl (hin o ho)
  refine ⟨e.len, hl, e.mono, e.keepM, hout, e.os, e.tape, e.output, e.size, fun b hb hn => e.heap b hb fun o ho => by rw [f1 o ho]; exact hn o ho, e.imm, fun b hb => ⟨(e.immNew b hb).1, (e.immNew b hb).2.imp id fun h1 => ⟨h1.1.imp id fun ⟨o, ho, hbo⟩ => ⟨o, ho, f1 o ho ▸ hbo⟩, fun o ho => by rw [f2 o ho]; exact h1.2 o ho⟩⟩,
    fun o ho obj hobj => e.obj o ho obj (by rw [← hin o ho]; exact hobj), fun o1 o2 b h1 h2 b1 b2 => e.disj o1 o2 b h1 h2 (f2 o1 h1 ▸ b1) (f2 o2 h2 ▸ b2), fun o ho => by rw [f2 o ho]; exact e.nd o ho, fun o b ho hb => ?_⟩
  obtain ⟨g1, g2⟩ := e.lt o b ho (f2 o ho ▸ hb)
  exact ⟨g1, g2.imp id fun ⟨o', ho', hb'⟩ => ⟨o', ho', f1 o' ho' ▸ hb'⟩⟩

structure DInv (all : List Oper) (ins : List DIn) (recs : List Rec) (t0 : List (Nat × V)) (h0 : Heap) (n base top : Nat) (M0 : Mem) (I0 : Nat → Prop) (w0 : World) (E : Nat → Prop) (h : Heap) (I : Nat → Prop) (M : Mem) (a : Act) (w : World) : Prop where
  simH : SimH I M h w
  tm : ∀ d v, ExpT all recs t0 E d v → RelV w I M (a.tmps.getD d undef) v
  size : a.tmps.size = n
  defers : a.defers = []
  cons : ConsH ins recs h0 E h
  res : ∀ x, base ≤ x → x < top → (∀ (j : Nat) dj, E j → ins[j]? = some dj → ¬ (dj.nid ≤ x ∧ x < dj.nid + dj.cnt)) → M[x]? = some none
  nw : Nw M0 h0 I0 w0 M h I w

variable {all : List Oper} {ins : List DIn} {recs : List Rec} {t0 : List (Nat × V)} {h0 : Heap} {n base top : Nat} {M0 : Mem} {I0 : Nat → Prop} {w0 : World}

theorem lt_of_some {α : Type} {l : List α} {j : Nat} {x : α} (h : l[j]? = some x) : j < l.length := by
  rcases Nat.lt_or_ge j l.length with hl | hl
  · exact hl
  · rw [List.getElem?_eq_none hl] at h; simp at h

theorem dropIds_not : ∀ (ids : List Nat) (h : Heap) (o : Nat), o ∉ ids → (dropIds h ids)[o]? = h[o]?
  | [], _, _, _ => rfl
  | x :: l, h, o, ho => by
    simp only [List.mem_cons, not_or] at ho
    rw [dropIds, dropIds_not l _ o ho.2, List.getElem?_set_ne (Ne.symm ho.1)]

theorem DInv.step (hT : TOK P T) (hil : ins.length = all.length) (hst : ∀ (j : Nat) o, all[j]? = some o → ∃ din rc, ins[j]? = some din ∧ recs[j]? = some rc ∧ Stp P T all ins recs t0 h0 n base top j o din rc)
    (hall : ∀ (j : Nat) oj d, all[j]? = some oj → oj.dst = some d → d < n)
    {E : Nat → Prop} {h : Heap} {I : Nat → Prop} {M : Mem} {a : Act} {w : World} (inv : DInv all ins recs t0 h0 n base top M0 I0 w0 E h I M a w) {i : Nat} {o : Oper} (ha : all[i]? = some o) (hiE : ¬ E i)
    (hdown : ∀ (j : Nat) dj, E j → ins[j]? = some dj → ∀ b ∈ dj.anc, E b) (hanc : ∀ dj, ins[i]? = some dj → ∀ b ∈ dj.anc, E b)
    {Q : Exit → Act → World → Prop} {K : Act → World → Prop} (hk : ∀ h' I' M' a' w', DInv all ins recs t0 h0 n base top M0 I0 w0 (plus E i) h' I' M' a' w' → K a' w') : wpOp P all.toArray Q i K a w := by
  obtain ⟨din, rc, hi, hr, stp⟩ := hst i o ha
  have sp := chk_spec stp.ck
  obtain ⟨σ, hn, ht, hc, hrl, hor⟩ := stp.ex
  have hA := hanc din hi
  have hgt : ∀ (j : Nat) dj, ins[j]? = some dj → i ∈ dj.anc → i < j := fun j dj hj hin => by
    have hlt := lt_of_some hj
    rw [hil] at hlt
    obtain ⟨dj', rj, hj', _, stj⟩ := hst j _ (List.getElem?_eq_getElem hlt)
    rw [hj, Option.some.injEq] at hj'; subst hj'
    exact ((chk_spec stj.ck).2.1 i hin).1
  have hrec : ∀ (j : Nat) dj, ins[j]? = some dj → j < recs.length := fun j dj hj => by
    have hlt := lt_of_some hj
    rw [hil] at hlt
    obtain ⟨_, rj, _, hrj, _⟩ := hst j _ (List.getElem?_eq_getElem hlt)
    exact lt_of_some hrj
  have hoj : ∀ (j : Nat) dj, ins[j]? = some dj → ∃ oj, all[j]? = some oj := fun j dj hj => by
    have hlt := lt_of_some hj
    rw [hil] at hlt
    exact ⟨_, List.getElem?_eq_getElem hlt⟩
  have hdj : ∀ (j : Nat) oj, all[j]? = some oj → ∃ dj, ins[j]? = some dj := fun j oj hj => by
    have hlt := lt_of_some hj
    rw [← hil] at hlt
    exact ⟨_, List.getElem?_eq_getElem hlt⟩
  have agree : ∀ x, x ∉ din.drop → h[x]? = σ.h[x]? := fun x hx => by
    refine ConsH.agree inv.cons hc (fun j dj _ hj => hrec j dj hj) fun j dj hj hxt => ?_
    by_cases hji : j = i
    · subst hji; exact ⟨fun h => absurd h hiE, fun h => by omega⟩
    · obtain ⟨oj, hoj⟩ := hoj j dj hj
      obtain ⟨_, _, _, rel⟩ := sp.1 j oj dj hoj hj hji
      rcases rel with h1 | h1 | ⟨_, h1⟩
      · exact ⟨fun _ => (sp.2.1 j h1).1, fun _ => hA j h1⟩
      · have := hgt j dj hj h1
        exact ⟨fun hE => absurd (hdown j dj hE hj i h1) hiE, fun h => by omega⟩
      · exact absurd (h1 x hxt) hx
  have hexp : ∀ d v, d ∈ din.need → ExpT all recs t0 (· < i) d v → ExpT all recs t0 E d v := fun d v hd hex => by
    have rel : ∀ (j : Nat) oj, all[j]? = some oj → oj.dst = some d → j ≠ i → j ∈ din.anc ∨ ∃ dj, ins[j]? = some dj ∧ i ∈ dj.anc := fun j oj h1 h2 hji => by
      obtain ⟨dj, hj⟩ := hdj j oj h1
      obtain ⟨_, _, _, rel⟩ := sp.1 j oj dj h1 hj hji
      rcases rel with h3 | h3 | ⟨h3, _⟩
      · exact .inl h3
      · exact .inr ⟨dj, hj, h3⟩
      · exact absurd hd (h3 d h2)
    rcases hex with ⟨j, oj, rj, hlt, h1, h2, h3, h4⟩ | ⟨h1, h2⟩
    · refine .inl ⟨j, oj, rj, ?_, h1, h2, h3, h4⟩
      have hlt : j < i := hlt
      rcases rel j oj h1 h3 (by omega) with h5 | ⟨dj, hj, h5⟩
      · exact hA j h5
      · have := hgt j dj hj h5; omega
    · refine .inr ⟨fun j oj hE hj hd' => ?_, h2⟩
      have hji : j ≠ i := fun h => hiE (h ▸ hE)
      rcases rel j oj hj hd' hji with h5 | ⟨dj, hj', h5⟩
      · exact h1 j oj ((sp.2.1 j h5).1) hj hd'
      · exact hiE (hdown j dj hE hj' i h5)
  have sβ : Sim I M (betaOf din σ) a w := by
    refine { toSimH := inv.simH.sub ?_ fun x obj hx => ?_, tm := fun d v hv => ?_, size := by rw [inv.size]; exact hn.symm, defers := inv.defers }
    · show (dropIds σ.h din.drop).length = _
      rw [dropIds_length, hc.len, inv.cons.len]
    · obtain ⟨h1, h2⟩ := dropIds_get _ _ _ _ hx
      rw [agree x h1]; exact h2
    · obtain ⟨h1, h2⟩ := needT_mem hv
      exact inv.tm d v (hexp d v h1 (ht d v h2))
  have hdn : ∀ d, o.dst = some d → d < n := fun d hd => hall i o d ha hd
  have hxs := fun {d v} => @ExpT.step all recs t0 E i o rc ha hr (fun j oj hj hoj d hd => by
    obtain ⟨dj, hdj⟩ := hdj j oj hoj
    exact (sp.1 j oj dj hoj hdj hj).1 d hd) d v
  have hord : ∀ x ∈ din.tch, ∀ (k : Nat) dk, E k → ins[k]? = some dk → x ∈ dk.tch → k ≤ i := fun x hx k dk hk hdk hxk => by
    have hki : k ≠ i := fun h => hiE (h ▸ hk)
    obtain ⟨ok, hok⟩ := hoj k dk hdk
    rcases (sp.1 k ok dk hok hdk hki).2.1 x hxk hx with h1 | h1
    · exact Nat.le_of_lt (sp.2.1 k h1).1
    · exact absurd (hdown k dk hk hdk i h1) hiE
  have hrl' : rc.2.length = h.length := by rw [hrl, hc.len, inv.cons.len]
  unfold wpOp
  simp only [List.getElem?_toArray, ha]
  rcases hor with ⟨hg, ids, obs, hop, hobs, hids⟩ | ⟨hg, hte, hrc⟩
  · have hw := guardV_ok sβ hg (fun j oj d h1 h2 => by show d < σ.n; rw [hn]; exact hall j oj d h1 h2)
    rw [if_pos hw]
    refine .inl (xop_ok hT hop hobs sβ (fun j hj => ?_) fun I' M' w' v e hrv hidw _ => ?_)
    · have := sp.2.2.2.1 (din.nid + j) (by omega) (by omega)
      refine inv.res _ this.1 this.2 fun k dk hk hdk => ?_
      have hki : k ≠ i := fun h => hiE (h ▸ hk)
      obtain ⟨ok, hok⟩ := hoj k dk hdk
      exact (sp.1 k ok dk hok hdk hki).2.2.1 _ (by omega) (by omega)
    · have e2 : Eff ids I M h w I' M' (updH h rc.2 din.tch) w' := by
        refine e.lift (fun x hx => ?_) (updH_length _ _ _) (fun x hx => ?_) fun x hx => ?_
        · have h1 := (hids x).1 hx
          have h2 := sp.2.2.2.2 x h1
          show (dropIds σ.h din.drop)[x]? = _
          rw [agree x h2, dropIds_not _ _ _ h2]
        · exact updH_get _ _ _ x hrl' ((hids x).1 hx)
        · exact updH_other _ _ _ x fun h => hx ((hids x).2 h)
      have nx := e2.nx hidw
      refine hk _ I' M' _ w' { simH := inv.simH.eff e2, tm := fun d u hu => ?_, size := ?_, defers := ?_, cons := inv.cons.step hi hr hrl' hord rfl, res := fun x h1 h2 h3 => ?_, nw := inv.nw.trans ⟨nx.ext, nx.fp, nx.mono⟩ }
      · rcases hxs.1 hu with ⟨h1, rfl⟩ | ⟨h1, h2⟩
        · have hlt : d < a.tmps.size := by rw [inv.size]; exact hdn d h1
          have : (a.put o.dst v).tmps.getD d undef = v := by rw [h1]; simp [Act.put, hlt]
          rw [this]; exact hrv
        · have : (a.put o.dst v).tmps.getD d undef = a.tmps.getD d undef := by
            cases hd : o.dst with
            | none => rfl
            | some d' =>
              have hne : d' ≠ d := fun h => h1 (h ▸ hd)
              simp [Act.put, Array.getElem?_setIfInBounds_ne hne]
          rw [this]
          exact (inv.tm d u h2).mono (inv.simH.heapI e2) e2.imm e2.mono
      · cases hd : o.dst <;> simp [Act.put, inv.size]
      · cases hd : o.dst <;> simp [Act.put, inv.defers]
      · exact nx.keep x (inv.res x h1 h2 fun j dj hj => h3 j dj (.inl hj)) (h3 i din (.inr rfl) hi)
  · have hw := guardV_ok sβ hg (fun j oj d h1 h2 => by show d < σ.n; rw [hn]; exact hall j oj d h1 h2)
    rw [if_neg (by simp [hw])]
    refine hk h I M _ w { simH := inv.simH, tm := fun d u hu => ?_, size := ?_, defers := ?_, cons := ?_, res := fun x h1 h2 h3 => inv.res x h1 h2 fun j dj hj => h3 j dj (.inl hj), nw := inv.nw }
    · rcases hxs.1 hu with ⟨h1, rfl⟩ | ⟨h1, h2⟩
      · have hlt : d < a.tmps.size := by rw [inv.size]; exact hdn d h1
        have : (a.put o.dst undef).tmps.getD d undef = undef := by rw [h1]; simp [Act.put, hlt]
        rw [this, hrc]; exact ⟨[], rfl, rfl, fun i u x h => by simp at h⟩
      · have : (a.put o.dst undef).tmps.getD d undef = a.tmps.getD d undef := by
          cases hd : o.dst with
          | none => rfl
          | some d' =>
            have hne : d' ≠ d := fun h => h1 (h ▸ hd)
            simp [Act.put, Array.getElem?_setIfInBounds_ne hne]
        rw [this]; exact inv.tm d u h2
    · cases hd : o.dst <;> simp [Act.put, inv.size]
    · cases hd : o.dst <;> simp [Act.put, inv.defers]
    · exact inv.cons.step hi hr hrl' hord (by rw [hte]; rfl)

def cntU (listed : Array Bool) (m : Nat) : Nat := (List.range m).countP fun j => !listed.getD j false

theorem countP_lt {p q : Nat → Bool} : ∀ {l : List Nat} {i : Nat}, i ∈ l → p i = true → q i = false → (∀ j, q j = true → p j = true) → l.countP q < l.countP p
  | [], _, h, _, _, _ => by simp at h
  | x :: l, i, h, hp, hq, hpq => by
    have hle : l.countP q ≤ l.countP p := List.countP_mono_left fun j _ h => hpq j h
    simp only [List.countP_cons]
    by_cases hx : x = i
    · subst hx; simp [hp, hq]; omega
    · have hin : i ∈ l := by simpa [Ne.symm hx] using h
      have := countP_lt hin hp hq hpq
      by_cases h1 : q x = true
      · simp [h1, hpq x h1]; omega
      · simp [h1]; omega

theorem draw_any (hT : TOK P T) (hil : ins.length = all.length) (hst : ∀ (j : Nat) o, all[j]? = some o → ∃ din rc, ins[j]? = some din ∧ recs[j]? = some rc ∧ Stp P T all ins recs t0 h0 n base top j o din rc)
    (hall : ∀ (j : Nat) oj d, all[j]? = some oj → oj.dst = some d → d < n) {K : Exit → Act → World → Prop}
    (hk : ∀ h I M a w, DInv all ins recs t0 h0 n base top M0 I0 w0 (· < all.length) h I M a w → K .normal a w) :
    ∀ (fuel : Nat) (listed : Array Bool) (h : Heap) (I : Nat → Prop) (M : Mem) (a : Act) (w : World), listed.size = all.length → cntU listed all.length ≤ fuel →
      (∀ (j : Nat) dj, listed.getD j false = true → ins[j]? = some dj → ∀ b ∈ dj.anc, listed.getD b false = true) →
      DInv all ins recs t0 h0 n base top M0 I0 w0 (fun j => listed.getD j false = true) h I M a w → wpAny P .any all.toArray K fuel listed a w := by
  intro fuel
  have fin : ∀ (listed : Array Bool) (h : Heap) (I : Nat → Prop) (M : Mem) (a : Act) (w : World), listed.size = all.length → (∀ j, j < all.length → listed.getD j false = true) →
      DInv all ins recs t0 h0 n base top M0 I0 w0 (fun j => listed.getD j false = true) h I M a w → K .normal a w := fun listed h I M a w hsz hl inv => by
    refine hk h I M a w ?_
    have : (fun j => listed.getD j false = true) = fun j => j < all.length := by
      funext j
      simp only [eq_iff_iff]
      refine ⟨fun hj => ?_, hl j⟩
      rw [← hsz]
      rcases Nat.lt_or_ge j listed.size with h | h
      · exact h
      · rw [Array.getD_eq_getD_getElem?, Array.getElem?_eq_none h] at hj; simp at hj
    rw [this] at inv; exact inv
  induction fuel with
  | zero =>
    intro listed h I M a w hsz hcnt hdown inv
    have hl : ∀ j, j < all.length → listed.getD j false = true := fun j hj => by
      have h0 : cntU listed all.length = 0 := by omega
      simp only [cntU, List.countP_eq_zero, List.mem_range] at h0
      simpa using h0 j hj
    refine ⟨?_, fin listed h I M a w hsz hl inv⟩
    apply List.eq_nil_iff_forall_not_mem.2
    intro j hj
    obtain ⟨h1, o, ho, _⟩ := mem_ready.1 hj
    have hlt := lt_of_some (by simpa using ho : all[j]? = some o)
    have := hl j hlt
    rw [Array.getD_eq_getD_getElem?] at h1 this
    rw [Array.getElem?_eq_getElem (by omega)] at h1 this
    simp only [Option.getD_some] at h1 this
    rw [h1] at this; simp at this
  | succ fuel ih =>
    intro listed h I M a w hsz hcnt hdown inv
    refine ⟨fun hr => fin listed h I M a w hsz ?_ inv, fun i hi => ?_⟩
    · intro j
      induction j using Nat.strongRecOn with
      | _ j ihj =>
        intro hj
        apply Classical.byContradiction
        intro hnot
        have hmem : j ∈ Region.ready .any all.toArray listed := by
          rw [mem_ready]
          refine ⟨?_, all[j], by simp [hj], fun e he hb => ?_⟩
          · rw [Array.getD_eq_getD_getElem?, Array.getElem?_eq_getElem (by omega)] at hnot ⊢
            simpa using hnot
          · obtain ⟨dj, rj, _, _, stj⟩ := hst j _ (List.getElem?_eq_getElem hj)
            have hp := (chk_spec stj.ck).2.2.1 e.on (by
              simp only [predsOf, List.mem_map, List.mem_filter]
              exact ⟨e, ⟨by simpa using he, hb⟩, rfl⟩)
            exact ihj e.on hp (by omega)
        rw [hr] at hmem; simp at hmem
    · obtain ⟨h1, o, ho, hpre⟩ := mem_ready.1 hi
      have ha : all[i]? = some o := by simpa using ho
      have hlt := lt_of_some ha
      have hE : ¬ listed.getD i false = true := fun h => by
        rw [Array.getD_eq_getD_getElem?] at h1 h
        rw [Array.getElem?_eq_getElem (by omega)] at h1 h
        simp only [Option.getD_some] at h1 h
        rw [h1] at h; simp at h
      have hpl : (fun j => (listed.setIfInBounds i true).getD j false = true) = plus (fun j => listed.getD j false = true) i := by
        funext j
        simp only [plus, eq_iff_iff]
        by_cases hji : j = i
        · subst hji
          simp [show j < listed.size by omega]
        · rw [getD_set_ne false (Ne.symm hji)]; simp [hji]
      have hanc : ∀ dj, ins[i]? = some dj → ∀ b ∈ dj.anc, listed.getD b false = true := fun dj hdj b hb => by
        obtain ⟨dj', rj, hdj', _, stj⟩ := hst i o ha
        rw [hdj, Option.some.injEq] at hdj'; subst hdj'
        have hp : ∀ p ∈ predsOf o, listed.getD p false = true := fun p hp => by
          simp only [predsOf, List.mem_map, List.mem_filter] at hp
          obtain ⟨e, ⟨he, hb⟩, rfl⟩ := hp
          exact hpre e (by simpa using he) hb
        rcases ((chk_spec stj.ck).2.1 b hb).2 with h2 | ⟨p, h2, dp, h3, h4⟩
        · exact hp b h2
        · exact hdown p dp (hp p h2) h3 b h4
      refine DInv.step hT hil hst hall inv ha hE (fun j dj => hdown j dj) hanc fun h' I' M' a' w' inv' => ?_
      refine ih _ h' I' M' a' w' (by simpa using hsz) ?_ (fun j dj hj hdj b hb => ?_) (by rw [hpl]; exact inv')
      · have : cntU (listed.setIfInBounds i true) all.length < cntU listed all.length := by
          refine countP_lt (i := i) (by simpa using hlt) (by simpa using hE) ?_ fun j hj => ?_
          · have := congrFun hpl i; simp only [eq_iff_iff] at this; simp [this.2 (.inr rfl)]
          · have := congrFun hpl j; simp only [eq_iff_iff] at this
            simp only [Bool.not_eq_true'] at hj ⊢
            apply Classical.byContradiction
            intro hn
            have := this.2 (.inl (by simpa using hn))
            rw [this] at hj; simp at hj
        omega
      · have h2 := congrFun hpl j; simp only [eq_iff_iff] at h2
        have h3 := congrFun hpl b; simp only [eq_iff_iff] at h3
        refine h3.2 ?_
        rcases h2.1 hj with h4 | rfl
        · exact .inl (hdown j dj h4 hdj b hb)
        · exact .inl (hanc dj hdj b hb)
end

end Go.AM
