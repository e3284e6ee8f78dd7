/- The abstract machine: a region that draws its order, then a view. -/
import Derived.Test.YtbodjgljjaafaaaAmDraw
namespace Go.AM

def xdrawV (P : Program) (T : Tab) (all : List Oper) (cnt : Nat) (ins : List DIn) (live ids : List Nat) (σ : St) : Option (St × List Prop) :=
  if dstsOK all σ.n && ins.length == all.length then
    match xd P T all ins σ.h.length (σ.h.length + cnt) 0 all ins (σ.grow cnt) with
    | some (_, σ2, obs) => match xview live ids { t := needT σ2.t live, h := σ2.h, n := σ.n } with
      | some σ3 => some (σ3, obs)
      | none => none
    | none => none
  else none

theorem xd_len {P : Program} {T : Tab} {all : List Oper} {ins : List DIn} {base top : Nat} : ∀ (os : List Oper) (ds : List DIn) (i : Nat) (σ : St) (rs : List Rec) (σ2 : St) (obs : List Prop), xd P T all ins base top i os ds σ = some (rs, σ2, obs) → rs.length = os.length
  | [], _, _, _, _, _, _, hx => by simp only [xd, Option.some.injEq, Prod.mk.injEq] at hx; obtain ⟨rfl, _⟩ := hx; rfl
  | _ :: _, [], _, _, _, _, _, hx => by simp [xd] at hx
  | o :: os, din :: ds, i, σ, rs, σ2, obs, hx => by
    simp only [xd] at hx
    split at hx
    case isFalse => simp at hx
    split at hx
    · split at hx
      case h_2 => simp at hx
      split at hx
      case isFalse => simp at hx
      split at hx
      case h_2 => simp at hx
      rename_i hrec
      simp only [Option.some.injEq, Prod.mk.injEq] at hx
      obtain ⟨rfl, _, _⟩ := hx
      simp [xd_len _ _ _ _ _ _ _ hrec]
    · split at hx
      case isFalse => simp at hx
      split at hx
      case h_2 => simp at hx
      rename_i hrec
      simp only [Option.some.injEq, Prod.mk.injEq] at hx
      obtain ⟨rfl, _, _⟩ := hx
      simp [xd_len _ _ _ _ _ _ _ hrec]
    · simp at hx

theorem GoJ.drawV {P : Program} (hm : P.follows .mixedOrders = true) {f : FuncId} {n0 : Nat} {R : V → Heap → Prop} {k : List Item} {σ σ' : St} {T : Tab} (hT : TOK P T) {id : Nat} {all : List Oper} {cnt : Nat} {ins : List DIn} {live ids : List Nat} {obs : List Prop}
    (hn : nodupB ids = true) (h0 : ids.take n0 = List.range n0) (hx : xdrawV P T all cnt ins live ids σ = some (σ', obs)) (ho : AllP obs) (h : GoJ P f n0 R k σ') :
    GoJ P f n0 R (.code (.region id all.toArray true) :: k) σ := by
  unfold xdrawV at hx
  split at hx
  case isFalse => simp at hx
  rename_i hd
  simp only [Bool.and_eq_true, beq_iff_eq] at hd
  obtain ⟨hd, hil⟩ := hd
  split at hx
  case h_2 => simp at hx
  rename_i recs σ2 obs2 hxd
  split at hx
  case h_2 => simp at hx
  rename_i σ3 hv
  simp only [Option.some.injEq, Prod.mk.injEq] at hx
  obtain ⟨rfl, rfl⟩ := hx
  have hall : ∀ (j : Nat) oj d, all[j]? = some oj → oj.dst = some d → d < σ.n := fun j oj d h1 h2 => by
    simp only [dstsOK, List.all_eq_true] at hd
    have := hd oj (List.mem_of_getElem? h1)
    rw [h2] at this; simpa [dstOK] using this
  obtain ⟨hst, hn2, ht2, hc2⟩ := xd_steps hil (recs := recs) (t0 := σ.t) (h0 := (σ.grow cnt).h) (n := σ.n) all ins 0 (σ.grow cnt) recs obs2 (fun k => by simp) (fun k => by simp) (fun k => by simp) rfl
    (fun d v hv => .inr ⟨fun j o hj => absurd hj (Nat.not_lt_zero j), hv⟩)
    ⟨rfl, fun _ _ => rfl, fun o j din rc hj => absurd hj (Nat.not_lt_zero j)⟩ hxd ho
  simp only [Nat.zero_add] at ht2 hc2
  have hst' : ∀ (j : Nat) o, all[j]? = some o → ∃ din rc, ins[j]? = some din ∧ recs[j]? = some rc ∧ Stp P T all ins recs σ.t (σ.grow cnt).h σ.n σ.h.length (σ.h.length + cnt) j o din rc := fun j o ho => hst j o (Nat.zero_le _) ho
  refine GoJ.admin' (σ' := { t := needT σ2.t live, h := σ2.h, n := σ.n }) (fun I M a w s => ?_) (GoJ.wk (xview_ok hv hn h0) h)
  let w1 : World := { w with drawn := w.drawn + 1 }
  have sg := s.grow cnt
  have e : Eff [] I (M ++ List.replicate cnt none) (σ.grow cnt).h w I (M ++ List.replicate cnt none) (σ.grow cnt).h w1 := Eff.same rfl rfl rfl rfl sg.toSimH
  have hfin : ∀ (hh : Heap) (I' : Nat → Prop) (M' : Mem) (a' : Act) (w' : World), DInv all ins recs σ.t (σ.grow cnt).h σ.n σ.h.length (σ.h.length + cnt) (M ++ List.replicate cnt none) I w1 (· < all.length) hh I' M' a' w' →
      (Exit.normal = Exit.normal ∧ ∃ I' M', Sim I' M' { t := needT σ2.t live, h := σ2.h, n := σ.n } a' w' ∧ Nw M σ.h I w M' σ2.h I' w') := fun hh I' M' a' w' inv => by
    have he : hh = σ2.h := by
      apply List.ext_getElem?
      intro o
      refine ConsH.agree inv.cons hc2 (fun j din hj _ => by rw [xd_len _ _ _ _ _ _ _ hxd]; exact hj) fun j din _ _ => Iff.rfl
    subst he
    refine ⟨rfl, I', M', { toSimH := inv.simH, tm := fun i v hv => ?_, size := inv.size, defers := inv.defers }, Nw.grow s cnt (Nw.trans ⟨e.ext, e.fp, fun _ _ h => h⟩ inv.nw)⟩
    obtain ⟨_, h2⟩ := needT_mem hv
    exact inv.tm i v (ht2 i v h2)
  refine wp_region_any hm (draw_any hT hil hst' hall (M0 := M ++ List.replicate cnt none) (I0 := I) (w0 := w1) hfin _ _ (σ.grow cnt).h I (M ++ List.replicate cnt none) a w1 (by simp) ?_ ?_ ?_)
  · have := List.countP_le_length (p := fun j => !(Array.replicate all.toArray.size false).getD j false) (l := List.range all.length)
    simpa [cntU] using this
  · intro j dj hj
    exfalso
    rw [Array.getD_eq_getD_getElem?, Array.getElem?_replicate] at hj
    split at hj <;> simp at hj
  · have hF : (fun j => (Array.replicate all.toArray.size false).getD j false = true) = fun _ => False := by
      funext j
      rw [Array.getD_eq_getD_getElem?, Array.getElem?_replicate]
      split <;> simp
    rw [hF]
    refine { simH := sg.toSimH.eff e, tm := fun d v hv => ?_, size := sg.size, defers := sg.defers, cons := ⟨rfl, fun _ _ => rfl, fun o j din rc hj => hj.elim⟩, res := fun x h1 h2 _ => ?_, nw := Nw.refl _ _ _ _ }
    · rcases hv with ⟨_, _, _, hE, _⟩ | ⟨_, h2⟩
      · exact hE.elim
      · exact (sg.tm d v (get_mem h2)).mono (fun _ _ => rfl) (fun _ h => h) (fun _ _ h => h)
    · rw [List.getElem?_append_right (by rw [s.len]; exact h1), List.getElem?_replicate, if_pos (by rw [s.len]; omega)]

end Go.AM
