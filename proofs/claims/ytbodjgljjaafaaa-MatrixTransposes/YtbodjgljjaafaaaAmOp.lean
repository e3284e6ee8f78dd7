/- The abstract machine: one operation, a list of operations. -/
import Derived.Test.YtbodjgljjaafaaaAmCall
import Derived.ChangeKeysEq
namespace Go.AM

def dV (d : D) : V := .e (.sc (.dat d))

abbrev Res := V × Heap × List Nat × List Prop

def V.raw? : V → Option V
  | .e (.sc (.dat (.raw v))) => some (.e (.sc (.dat (.raw v))))
  | _ => none

/-- Arguments as data; those of 'keep' stay as they are. -/
def dataArgs (keep : List Nat) : Nat → List V → Option (List V)
  | _, [] => some []
  | i, x :: l => match (if keep.contains i then x.raw? else x.toData), dataArgs keep (i + 1) l with
    | some y, some r => some (y :: r)
    | _, _ => none

def xcall (P : Program) (σ : St) (or : Or) (nid cnt : Nat) (c : Call) : Option Res :=
  match c.callee with
  | .value f =>
    match ev σ.t f, evL σ.t c.args.toList, or with
    | some (.e (.sc (.dat (.fn (.func k) caps)))), some vs, .call r objs keep =>
      match dataArgs keep 0 vs with
      | some ds => if objs.length ≤ cnt && nid + objs.length ≤ σ.h.length then
          some (r.sh nid, putNew σ.h nid (objs.map fun x => x.map (Obj.sh nid)), (List.range objs.length).map (nid + ·), [FnG P k (ds ++ caps.map dV) [] (fun r' h' => r' = r ∧ h' = objs)]) else none
      | none => none
    | _, _, _ => none
  | _ => none

def fixB (or : Or) (r : V) (obs : List Prop) : V × List Prop :=
  match or, r with
  | .bool b, .e (.sc (.dat (.bool c))) => (vbool b, obs ++ [c = b])
  | _, _ => (r, obs)

section
variable {P : Program} {w : World}
theorem run_equalIn_int (d : Nat) {e : Nat} {k : IntKind} (hk : P.underlying e = some (.int k)) (x y : Int) : (Op.equalIn (d + 1) e (.int k x) (.int k y)).run P w = .ok (x == y) w := by
  simp [Op.equalIn, run_underlying hk]

theorem run_equalIn2 (n : Nat) {t e : Nat} (hu : P.underlying t = some (.array 2 e)) {te : TI} (he : TIOK P e te) (hs : te.size = 1) {k : IntKind} (hk : P.underlying e = some (.int k)) (a b c d : Int) :
    (Op.equalIn (n + 2) t (.agg #[.int k a, .int k b]) (.agg #[.int k c, .int k d])).run P w = .ok (a == c && b == d) w := by
  obtain ⟨f, z', hinf, hf1, hf2, hf3, hf4⟩ := he.info
  have hc : P.cellsOf e = 1 := by simp [Program.cellsOf, hinf, hf1, hs]
  have hr : List.range 2 = [0, 1] := rfl
  rw [run_equalIn_array (w := w) (n + 1) _ _ hu hinf, hr, hc]
  have hp : P.plainKey e = true := by simp [Program.plainKey, hk]
  have p0 : ∀ x y : Int, (part e #[.int k x, .int k y] (0 * 1)).run P w = .ok (.int k x) w := fun x y => run_part_plain w hp rfl
  have p1 : ∀ x y : Int, (part e #[.int k x, .int k y] 1).run P w = .ok (.int k y) w := fun x y => run_part_plain w hp rfl
  simp only [Op.eqItems, Sem.run_bind, p0, Result.andThen_ok, run_equalIn_int n hk]
  cases (a == c) <;> cases h2 : (b == d) <;> simp [run_equalIn_int n hk, h2, p1]

theorem run_eq2 {t e : Nat} (hu : P.underlying t = some (.array 2 e)) {te : TI} (he : TIOK P e te) (hs : te.size = 1) {k : IntKind} (hk : P.underlying e = some (.int k)) (a b c d : Int) :
    (Op.equal t (.agg #[.int k a, .int k b]) (.agg #[.int k c, .int k d])).run P w = .ok (a == c && b == d) w := run_equalIn2 9998 hu he hs hk a b c d

end

/-- Arrays of two integers, compared. -/
def xeq2 (P : Program) (T : Tab) (op : BinOp) (t : Nat) (x y : V) : Option V :=
  match x, y with
  | .e (.agg [.dat (.int k a), .dat (.int k1 b)]), .e (.agg [.dat (.int k2 c), .dat (.int k3 d)]) =>
    match tfind T t with
    | some ti => match ti.k with
      | .array 2 e => match tfind T e with
        | some te => match te.k with
          | .int k4 => if k == k1 && k == k2 && k == k3 && k == k4 && te.size == 1 && !P.eqGuardType P.depth t then
              match op with
              | .eql => some (vbool (a == c && b == d))
              | .neq => some (vbool (!(a == c && b == d)))
              | _ => none
            else none
          | _ => none
        | none => none
      | _ => none
    | none => none
  | _, _ => none

theorem relAgg2 {P : Program} {I : Nat → Prop} {M : Mem} {w : World} {u : Value} {k k1 : IntKind} {a b : Int} (h : RelV w I M u (.e (.agg [.dat (.int k a), .dat (.int k1 b)]))) : u = .agg #[.int k a, .int k1 b] := by
  obtain ⟨cs, rfl, hl, hr⟩ := h
  have hl' : cs.toList.length = 2 := hl
  have h0 := fun v hv => hr 0 v _ hv rfl
  have h1 := fun v hv => hr 1 v _ hv rfl
  obtain ⟨l⟩ := cs
  match l, hl' with
  | [x, y], _ =>
    have e0 : Reads w I x (.int k a) := h0 x rfl
    have e1 : Reads w I y (.int k1 b) := h1 y rfl
    clear h0 h1
    cases e0; cases e1; rfl

theorem xeq2_ok {P : Program} {I : Nat → Prop} {M : Mem} {w : World} {T : Tab} (hT : TOK P T) {op : BinOp} {t : Nat} {a b r : V} (hx : xeq2 P T op t a b = some r) {u v : Value}
    (hu : RelV w I M u a) (hv : RelV w I M v b) (x y : Operand) :
    ∃ z, (do eqGuard op t x y u v; binOp op t u v : Sem Value).run P w = .ok z w ∧ RelV w I M z r := by
  unfold xeq2 at hx
  split at hx
  case h_2 => simp at hx
  rename_i k a' k1 b' k2 c' k3 d'
  have := relAgg2 (P := P) hu; subst this
  have := relAgg2 (P := P) hv; subst this
  split at hx
  case h_2 => simp at hx
  rename_i ti hti
  split at hx
  case h_2 => simp at hx
  rename_i e hk
  have hund := (hT.find hti).array hk
  split at hx
  case h_2 => simp at hx
  rename_i te hte
  split at hx
  case h_2 => simp at hx
  rename_i k4 hk4
  have hint := (hT.find hte).int hk4
  split at hx
  case isFalse => simp at hx
  rename_i hc
  simp only [Bool.and_eq_true, beq_iff_eq, Bool.not_eq_true'] at hc
  obtain ⟨⟨⟨⟨⟨rfl, rfl⟩, rfl⟩, rfl⟩, hs⟩, hg⟩ := hc
  have hgd := fun z1 z2 => run_eqGuard_agg (w := w) op t x y z1 z2 hg
  have he := run_eq2 (P := P) (w := w) hund (hT.find hte) hs hint a' b' c' d'
  split at hx
  · simp only [Option.some.injEq] at hx; subst hx
    exact ⟨.bool _, by simp only [Sem.run_bind, hgd, Result.andThen_ok, binOp, he, Sem.run_pure], Reads.bool _⟩
  · simp only [Option.some.injEq] at hx; subst hx
    exact ⟨.bool _, by simp only [Sem.run_bind, hgd, Result.andThen_ok, binOp, he, Sem.run_pure], Reads.bool _⟩
  · simp at hx

def xact (P : Program) (T : Tab) (or : Or) (nid cnt : Nat) (op : Op) (σ : St) : Option Res :=
  match op with
  | .alloc t => if cnt == 0 then none else (xalloc T σ.h nid t)
  | .box _ x => if cnt == 0 then none else match ev σ.t x with
    | some v => (xbox σ.h or nid v)
    | none => none
  | .buildSlice t n parts => if cnt == 0 then none else match or with
    | .bool _ => xbuildRows T σ nid t n parts.toList
    | or => xbuildSlice T σ or nid t n parts.toList
  | .makeSlice t n c => if cnt == 0 then none else match ev σ.t n, ev σ.t c with
    | some a, some b => (xmake T σ.h nid t a b)
    | _, _ => none
  | .store t a x => match ev σ.t a, ev σ.t x with
    | some u, some v => match xstore T σ.h or t u v with
      | some x => some (.e (.sc .undef), x)
      | none => if cnt == 0 then none else (xrowStore T σ.h nid t u v).map fun x => (.e (.sc .undef), x)
    | _, _ => none
  | .call c => match c.callee with
    | .builtin .append => if cnt == 0 then none else match c.argTypes.toList, evL σ.t c.args.toList with
      | [t, t'], some [s, x] => if t == t' then (match xappend T σ.h nid t s x with | some r => some r | none => xappRows T σ.h nid t s x) else xappN T nid t t' σ.h s x
      | _, _ => none
    | .builtin .copy => match c.argTypes.toList, evL σ.t c.args.toList with
      | [t, t'], some [s, x] => if t == t' then (xcopy T σ.h t s x) else none
      | _, _ => none
    | .builtin _ => none
    | _ => xcall P σ or nid cnt c
  | .slice t x none (some hi) none => if cnt == 0 then none else match ev σ.t x, ev σ.t hi with
    | some u, some (.e (.sc (.dat (.int _ n)))) => xprefix T σ.h nid t u n
    | _, _ => none
  | .binOp op t x y _ => match ev σ.t x, ev σ.t y with
    | some u, some v => (xeq2 P T op t u v).map fun r => (r, σ.h, [], [])
    | _, _ => none
  | _ => none

def dstOK (dst : Option Nat) (n : Nat) : Bool :=
  match dst with
  | some d => decide (d < n)
  | none => true

def xop (P : Program) (T : Tab) (or : Or) (nid cnt : Nat) (o : Oper) (σ : St) : Option Res :=
  if dstOK o.dst σ.n then
    match xpure T σ or o.op with
    | some (r, obs) => some ((fixB or r obs).1, σ.h, [], (fixB or r obs).2)
    | none => xact P T or nid cnt o.op σ
  else none

section
variable {P : Program} {I : Nat → Prop} {M : Mem} {w : World}

/-- How the state after one operation stands to the state before it. -/
structure Nx (M : Mem) (h : Heap) (I : Nat → Prop) (w : World) (lo hi : Nat) (M' : Mem) (h' : Heap) (I' : Nat → Prop) (w' : World) : Prop where
  ext : Ext (fpAll M h) I w I' w'
  fp : ∀ b, fpAll M' h' b → fpAll M h b ∨ w.heap.size ≤ b
  mono : M.le M'
  len : M'.length = M.length
  keep : ∀ j : Nat, M[j]? = some none → ¬ (lo ≤ j ∧ j < hi) → M'[j]? = some none

theorem Eff.nx {ids : List Nat} {h : Heap} {I' : Nat → Prop} {M' : Mem} {h' : Heap} {w' : World} {lo hi : Nat}
    (e : Eff ids I M h w I' M' h' w') (hids : ∀ o ∈ ids, (lo ≤ o ∧ o < hi) ∨ M[o]? ≠ some none) : Nx M h I w lo hi M' h' I' w' :=
  ⟨e.ext, e.fp, e.mono, e.len, fun j hj hn => by
    rw [e.keepM j (fun hin => by rcases hids j hin with h1 | h1 <;> contradiction)]; exact hj⟩

theorem fixB_ok {or : Or} {r : V} {obs : List Prop} (ho : AllP (fixB or r obs).2) : AllP obs ∧ ∀ {v : Value} {w : World} {I : Nat → Prop} {M : Mem}, RelV w I M v r → RelV w I M v (fixB or r obs).1 := by
  generalize hf : fixB or r obs = x at ho
  unfold fixB at hf
  split at hf
  · subst hf
    obtain ⟨h1, h2⟩ := AllP_append ho
    have := h2.1
    subst this
    exact ⟨h1, fun h => h⟩
  · subst hf
    exact ⟨ho, fun h => h⟩

theorem dataArgs_ok {keep : List Nat} : ∀ {xs ys : List V} {i : Nat}, dataArgs keep i xs = some ys → ∀ {vs : List Value} {M' : Mem}, RelVL w I M vs xs → RelVL w I M' vs ys
  | [], ys, i, hm, vs, M', hr => by
    simp only [dataArgs, Option.some.injEq] at hm; subst hm
    exact ⟨hr.1, fun i v d _ hd => by simp at hd⟩
  | x :: xs, ys, i, hm, vs, M', hr => by
    simp only [dataArgs] at hm
    split at hm
    case h_2 => simp at hm
    rename_i d ds' hd hds
    simp only [Option.some.injEq] at hm; subst hm
    match vs, hr with
    | [], hr => simp [RelVL] at hr
    | v :: vs, hr =>
      have hr' : RelVL w I M vs xs := ⟨by simpa using hr.1, fun i u s hu hs => hr.2 (i + 1) u s (by simpa using hu) (by simpa using hs)⟩
      obtain ⟨h1, h2⟩ := dataArgs_ok hds (M' := M') hr'
      refine ⟨by simp [h1], fun j u d' hu hd' => ?_⟩
      match j, hu, hd' with
      | 0, hu, hd' =>
        simp only [List.getElem?_cons_zero, Option.some.injEq] at hu hd'; subst hu; subst hd'
        have h0 := hr.2 0 _ _ rfl rfl
        split at hd
        · unfold V.raw? at hd
          split at hd
          · simp only [Option.some.injEq] at hd; subst hd; exact h0
          · simp at hd
        · exact toData_ok h0 hd
      | j + 1, hu, hd' => exact h2 j u d' (by simpa using hu) (by simpa using hd')

theorem SimH.nil {I : Nat → Prop} (hI : ∀ b, I b → b < w.heap.size) : SimH I [] [] w :=
  ⟨rfl, fun o obj h => by simp at h, fun o1 o2 b h => by simp [fpAt] at h, fun o => by simp [fpAt], fun o b h => by simp [fpAt] at h, fun b hb => ⟨hI b hb, fun o => by simp [fpAt]⟩⟩

theorem ids_alloc {T : Tab} {h : Heap} {nid t : Nat} {r : V} {h' : Heap} {ids : List Nat} {obs : List Prop} (hx : xalloc T h nid t = some (r, h', ids, obs)) : ids = [nid] := by
  unfold xalloc at hx; split at hx <;> simp at hx; exact hx.2.2.1.symm

theorem ids_box {h : Heap} {or : Or} {nid : Nat} {v r : V} {h' : Heap} {ids : List Nat} {obs : List Prop} (hx : xbox h or nid v = some (r, h', ids, obs)) : ∀ o ∈ ids, o = nid := by
  unfold xbox at hx
  repeat' split at hx
  all_goals simp at hx
  all_goals (obtain ⟨_, _, rfl, _⟩ := hx; simp)

theorem ids_bs {T : Tab} {σ : St} {or : Or} {nid t n : Nat} {ps : List (Nat × Operand)} {r : V} {h' : Heap} {ids : List Nat} {obs : List Prop} (hx : xbuildSlice T σ or nid t n ps = some (r, h', ids, obs)) : ∀ o ∈ ids, o = nid := by
  unfold xbuildSlice at hx
  repeat' split at hx
  all_goals simp at hx
  all_goals (obtain ⟨_, _, rfl, _⟩ := hx; simp)

theorem ids_make {T : Tab} {h : Heap} {nid t : Nat} {a b r : V} {h' : Heap} {ids : List Nat} {obs : List Prop} (hx : xmake T h nid t a b = some (r, h', ids, obs)) : ∀ o ∈ ids, o = nid := by
  unfold xmake at hx
  repeat' split at hx
  all_goals simp at hx
  all_goals (obtain ⟨_, _, rfl, _⟩ := hx; simp)

theorem ids_store {T : Tab} {h : Heap} {or : Or} {t : Nat} {a v : V} {h' : Heap} {ids : List Nat} {obs : List Prop} (hx : xstore T h or t a v = some (h', ids, obs)) (s : SimH I M h w) : ∀ o ∈ ids, M[o]? ≠ some none := by
  have key : ∀ o obj, h[o]? = some (some obj) → M[o]? ≠ some none := fun o obj hobj => by
    obtain ⟨e, he, _⟩ := s.obj o obj hobj
    rw [he]; simp
  unfold xstore at hx
  repeat' split at hx
  all_goals simp only [Option.some.injEq, Prod.mk.injEq, reduceCtorEq] at hx
  all_goals
    obtain ⟨_, rfl, _⟩ := hx
    intro o ho
    simp only [List.mem_singleton] at ho
    subst ho
    exact key _ _ (by assumption)

theorem ids_app {T : Tab} {h : Heap} {nid t : Nat} {a b r : V} {h' : Heap} {ids : List Nat} {obs : List Prop} (hx : xappend T h nid t a b = some (r, h', ids, obs)) (s : SimH I M h w) : ∀ o ∈ ids, o = nid ∨ M[o]? ≠ some none := by
  have key : ∀ o obj, h[o]? = some (some obj) → M[o]? ≠ some none := fun o obj hobj => by
    obtain ⟨e, he, _⟩ := s.obj o obj hobj
    rw [he]; simp
  unfold xappend at hx
  repeat' split at hx
  all_goals simp only [Option.some.injEq, Prod.mk.injEq, reduceCtorEq] at hx
  all_goals
    obtain ⟨_, _, rfl, _⟩ := hx
    intro o ho
    simp only [List.mem_cons, List.not_mem_nil, or_false] at ho
    rcases ho with rfl | rfl
    · exact .inr (key _ _ (by assumption))
    · exact .inl rfl

theorem ids_an {T : Tab} {h : Heap} {nid t t2 : Nat} {a b r : V} {h' : Heap} {ids : List Nat} {obs : List Prop} (hx : xappN T nid t t2 h a b = some (r, h', ids, obs)) : ∀ o ∈ ids, o = nid := by
  unfold xappN at hx
  repeat' split at hx
  all_goals simp only [Option.some.injEq, Prod.mk.injEq, reduceCtorEq] at hx
  all_goals (obtain ⟨_, _, rfl, _⟩ := hx; simp)

theorem ids_px {T : Tab} {h : Heap} {nid t : Nat} {a r : V} {n : Int} {h' : Heap} {ids : List Nat} {obs : List Prop} (hx : xprefix T h nid t a n = some (r, h', ids, obs)) (s : SimH I M h w) : ∀ o ∈ ids, o = nid ∨ M[o]? ≠ some none := by
  have key : ∀ o obj, h[o]? = some (some obj) → M[o]? ≠ some none := fun o obj hobj => by
    obtain ⟨e, he, _⟩ := s.obj o obj hobj
    rw [he]; simp
  unfold xprefix at hx
  repeat' split at hx
  all_goals simp only [Option.some.injEq, Prod.mk.injEq, reduceCtorEq] at hx
  all_goals
    obtain ⟨_, _, rfl, _⟩ := hx
    intro o ho
    simp only [List.mem_cons, List.not_mem_nil, or_false] at ho
  rcases ho with rfl | rfl
  · exact .inl rfl
  · exact .inr (key _ _ (by assumption))

theorem ids_rs {T : Tab} {h : Heap} {nid t : Nat} {a b : V} {h' : Heap} {ids : List Nat} {obs : List Prop} (hx : xrowStore T h nid t a b = some (h', ids, obs)) (s : SimH I M h w) : ∀ o ∈ ids, o = nid ∨ M[o]? ≠ some none := by
  have key : ∀ o obj, h[o]? = some (some obj) → M[o]? ≠ some none := fun o obj hobj => by
    obtain ⟨e, he, _⟩ := s.obj o obj hobj
    rw [he]; simp
  unfold xrowStore at hx
  repeat' split at hx
  all_goals simp only [Option.some.injEq, Prod.mk.injEq, reduceCtorEq] at hx
  all_goals
    obtain ⟨_, rfl, _⟩ := hx
    intro o ho
    simp only [List.mem_cons, List.not_mem_nil, or_false] at ho
    rcases ho with rfl | rfl | rfl
    · exact .inl rfl
    · exact .inr (key _ _ (by assumption))
    · exact .inr (key _ _ (by assumption))

theorem ids_ar {T : Tab} {h : Heap} {nid t : Nat} {a b r : V} {h' : Heap} {ids : List Nat} {obs : List Prop} (hx : xappRows T h nid t a b = some (r, h', ids, obs)) (s : SimH I M h w) : ∀ o ∈ ids, o = nid ∨ M[o]? ≠ some none := by
  have key : ∀ o obj, h[o]? = some (some obj) → M[o]? ≠ some none := fun o obj hobj => by
    obtain ⟨e, he, _⟩ := s.obj o obj hobj
    rw [he]; simp
  unfold xappRows at hx
  repeat' split at hx
  all_goals simp only [Option.some.injEq, Prod.mk.injEq, reduceCtorEq] at hx
  all_goals
    obtain ⟨_, _, rfl, _⟩ := hx
    intro o ho
    simp only [List.mem_cons, List.not_mem_nil, or_false] at ho
    rcases ho with rfl | rfl | rfl
    · exact .inl rfl
    · exact .inr (key _ _ (by assumption))
    · exact .inr (key _ _ (by assumption))

theorem ids_br {T : Tab} {σ : St} {nid t n : Nat} {ps : List (Nat × Operand)} {r : V} {h' : Heap} {ids : List Nat} {obs : List Prop} (hx : xbuildRows T σ nid t n ps = some (r, h', ids, obs)) (s : SimH I M σ.h w) : ∀ o ∈ ids, o = nid ∨ M[o]? ≠ some none := by
  have key : ∀ o obj, σ.h[o]? = some (some obj) → M[o]? ≠ some none := fun o obj hobj => by
    obtain ⟨e, he, _⟩ := s.obj o obj hobj
    rw [he]; simp
  unfold xbuildRows at hx
  repeat' split at hx
  all_goals simp only [Option.some.injEq, Prod.mk.injEq, reduceCtorEq] at hx
  all_goals
    obtain ⟨_, _, rfl, _⟩ := hx
    intro o ho
    simp only [List.mem_cons, List.not_mem_nil, or_false] at ho
  · exact .inl ho
  · rcases ho with rfl | rfl
    · exact .inl rfl
    · exact .inr (key _ _ (by assumption))

theorem ids_copy {T : Tab} {h : Heap} {t : Nat} {a b r : V} {h' : Heap} {ids : List Nat} {obs : List Prop} (hx : xcopy T h t a b = some (r, h', ids, obs)) (s : SimH I M h w) : ∀ o ∈ ids, M[o]? ≠ some none := by
  have key : ∀ o obj, h[o]? = some (some obj) → M[o]? ≠ some none := fun o obj hobj => by
    obtain ⟨e, he, _⟩ := s.obj o obj hobj
    rw [he]; simp
  unfold xcopy at hx
  repeat' split at hx
  all_goals simp only [Option.some.injEq, Prod.mk.injEq, reduceCtorEq] at hx
  all_goals
    obtain ⟨_, _, rfl, _⟩ := hx
    intro o ho
    simp only [List.mem_singleton] at ho
    subst ho
    exact key _ _ (by assumption)

theorem xop_ok {T : Tab} (hT : TOK P T) {or : Or} {nid cnt : Nat} {o : Oper} {σ : St} {r : V} {h' : Heap} {ids : List Nat} {obs : List Prop} (hx : xop P T or nid cnt o σ = some (r, h', ids, obs)) (ho : AllP obs)
    {a : Act} (s : Sim I M σ a w) (hres : ∀ j, j < cnt → M[nid + j]? = some none) {K : Act → World → Prop} {Q : Exit → Act → World → Prop}
    (fin : ∀ (I' : Nat → Prop) (M' : Mem) (w' : World) (v : Value), Eff ids I M σ.h w I' M' h' w' → RelV w' I' M' v r →
      (∀ o ∈ ids, (nid ≤ o ∧ o < nid + cnt) ∨ M[o]? ≠ some none) → (∀ d, o.dst = some d → d < σ.n) → K (a.put o.dst v) w') : o.wp P a w K Q := by
  unfold xop at hx
  split at hx
  case isFalse => simp at hx
  rename_i hdst
  have hd : ∀ d, o.dst = some d → d < σ.n := fun d hd => by rw [hd] at hdst; simpa [dstOK] using hdst
  split at hx
  · rename_i r obs' hp
    simp only [Option.some.injEq, Prod.mk.injEq] at hx
    obtain ⟨rfl, rfl, rfl, rfl⟩ := hx
    obtain ⟨ho1, hfix⟩ := fixB_ok ho
    obtain ⟨v, hrun, hrel⟩ := xpure_ok hT s hp ho1
    unfold Oper.wp
    rw [hrun, Oper.upon_value]
    exact fin I M w v (Eff.refl s.toSimH) (hfix hrel) (fun _ h => by simp at h) hd
  · rename_i hpn
    clear hpn
    have hact := hx; clear hx
    have n1 : ¬ cnt = 0 → M[nid]? = some none := fun h => by simpa using hres 0 (by omega)
    replace fin : ∀ {I' : Nat → Prop} {M' : Mem} {w' : World} {v : Value}, Eff ids I M σ.h w I' M' h' w' → RelV w' I' M' v r →
        (∀ o ∈ ids, (nid ≤ o ∧ o < nid + cnt) ∨ M[o]? ≠ some none) → K (a.put o.dst v) w' := fun e hr hids => fin _ _ _ _ e hr hids hd
    obtain ⟨dst, op, ty, pos, after, guard⟩ := o
    simp only at hact fin
    have wrap : ∀ {x : Sem Value} {v : Value} {w' : World}, x.run P w = .ok v w' → (do pure (.value (← x)) : Sem Next).run P w = .ok (.value v) w' := fun h => by simp [h]
    unfold xact at hact
    split at hact
    · rename_i t
      split at hact
      · simp at hact
      rename_i hcnt
      simp only [beq_iff_eq] at hcnt
      have hx := hact; clear hact
      obtain ⟨v, I', M', w', hrun, e, hr⟩ := xalloc_ok (P := P) hT hx s.toSimH (n1 hcnt)
      have hr' : (execOp a.eval { dst, op := .alloc t, type := ty, pos, after, guard }).run P w = .ok (.value v) w' := wrap hrun
      unfold Oper.wp; rw [hr', Oper.upon_value]
      exact fin e hr (fun o ho => by rw [ids_alloc hx] at ho; simp only [List.mem_singleton] at ho; omega)
    · rename_i t x
      split at hact
      · simp at hact
      rename_i hcnt
      simp only [beq_iff_eq] at hcnt
      split at hact
      case h_2 => simp at hact
      rename_i v hv
      have hx := hact; clear hact
      obtain ⟨v, I', M', w', hrun, e, hr⟩ := xbox_ok (P := P) (t := t) hx s.toSimH (n1 hcnt) (s.ev hv)
      have hr' : (execOp a.eval { dst, op := .box t x, type := ty, pos, after, guard }).run P w = .ok (.value v) w' := wrap hrun
      unfold Oper.wp; rw [hr', Oper.upon_value]
      exact fin e hr (fun o ho => by have := ids_box hx o ho; omega)
    · rename_i t n parts
      split at hact
      · simp at hact
      rename_i hcnt
      simp only [beq_iff_eq] at hcnt
      split at hact
      · have hx := hact; clear hact
        obtain ⟨v, I', M', w', hrun, e, hr⟩ := xbuildRows_ok (P := P) hT s hx (n1 hcnt)
        have hr' : (execOp a.eval { dst, op := .buildSlice t n parts, type := ty, pos, after, guard }).run P w = .ok (.value v) w' := wrap hrun
        unfold Oper.wp; rw [hr', Oper.upon_value]
        exact fin e hr (fun o ho => by rcases ids_br hx s.toSimH o ho with h | h; exact .inl (by omega); exact .inr h)
      · have hx := hact; clear hact
        obtain ⟨v, I', M', w', hrun, e, hr⟩ := xbuildSlice_ok (P := P) hT s hx (n1 hcnt)
        have hr' : (execOp a.eval { dst, op := .buildSlice t n parts, type := ty, pos, after, guard }).run P w = .ok (.value v) w' := wrap hrun
        unfold Oper.wp; rw [hr', Oper.upon_value]
        exact fin e hr (fun o ho => by have := ids_bs hx o ho; omega)
    · rename_i t n c
      split at hact
      · simp at hact
      rename_i hcnt
      simp only [beq_iff_eq] at hcnt
      split at hact
      case h_2 => simp at hact
      rename_i u v hu hv
      have hx := hact; clear hact
      obtain ⟨v, I', M', w', hrun, e, hr⟩ := xmake_ok (P := P) hT hx ho s.toSimH (n1 hcnt) (s.ev hu) (s.ev hv)
      have hr' : (execOp a.eval { dst, op := .makeSlice t n c, type := ty, pos, after, guard }).run P w = .ok (.value v) w' := wrap hrun
      unfold Oper.wp; rw [hr', Oper.upon_value]
      exact fin e hr (fun o ho => by have := ids_make hx o ho; omega)
    · rename_i t x y
      split at hact
      case h_2 => simp at hact
      rename_i u v hu hv
      split at hact
      · rename_i x' hx
        obtain ⟨h'', ids', obs''⟩ := x'
        simp only [Option.some.injEq, Prod.mk.injEq] at hact
        obtain ⟨rfl, rfl, rfl, rfl⟩ := hact
        obtain ⟨w', hrun, e⟩ := xstore_ok (P := P) hT hx ho s.toSimH (s.ev hu) (s.ev hv)
        have hr' : (execOp a.eval { dst, op := .store t x y, type := ty, pos, after, guard }).run P w = .ok .skip w' := by simp [execOp, hrun]
        unfold Oper.wp; rw [hr', Oper.upon_skip]
        exact fin (v := undef) e trivial (fun o ho => .inr (ids_store hx s.toSimH o ho))
      · split at hact
        · simp at hact
        rename_i hcnt
        simp only [beq_iff_eq] at hcnt
        simp only [Option.map_eq_some_iff] at hact
        obtain ⟨⟨h'', ids', obs''⟩, hx, heq⟩ := hact
        simp only [Prod.mk.injEq] at heq
        obtain ⟨rfl, rfl, rfl, rfl⟩ := heq
        obtain ⟨M', w', hrun, e⟩ := xrowStore_ok (P := P) hT hx s.toSimH (n1 hcnt) (s.ev hu) (s.ev hv)
        have hr' : (execOp a.eval { dst, op := .store t x y, type := ty, pos, after, guard }).run P w = .ok .skip w' := by simp [execOp, hrun]
        unfold Oper.wp; rw [hr', Oper.upon_skip]
        exact fin (v := undef) e trivial (fun o ho => by rcases ids_rs hx s.toSimH o ho with h | h; exact .inl (by omega); exact .inr h)
    · rename_i c
      split at hact
      · rename_i hcal
        split at hact
        · simp at hact
        rename_i hcnt
        simp only [beq_iff_eq] at hcnt
        split at hact
        case h_2 => simp at hact
        rename_i t t' sv xv hat hvs
        obtain ⟨h1, h2⟩ := evL_ok s _ _ hvs
        obtain ⟨p, q, hy⟩ : ∃ p q, c.args.toList.map a.eval = [p, q] := by
          match hl : c.args.toList.map a.eval, h1 with
          | [p, q], _ => exact ⟨p, q, rfl⟩
        have hargs : c.args.map a.eval = #[p, q] := by
          apply Array.ext'; simpa using hy
        split at hact
        case isFalse =>
          have hx := hact; clear hact
          have hat' : c.argTypes = #[t, t'] := by cases hc : c.argTypes; simp_all
          obtain ⟨v, I', M', w', hrun, e, hr⟩ := xappN_ok (P := P) hT hx ho s.toSimH (n1 hcnt) (h2 0 p _ (by rw [hy]; rfl) rfl) (h2 1 q _ (by rw [hy]; rfl) rfl) ty
          have hr' : (execOp a.eval { dst, op := .call c, type := ty, pos, after, guard }).run P w = .ok (.value v) w' := by
            simp [execOp, resolve, hcal, invoke, builtin, hargs, hat', hrun]
          unfold Oper.wp; rw [hr', Oper.upon_value]
          exact fin e hr (fun o ho => by rcases ids_an hx o ho with rfl; exact .inl (by omega))
        rename_i htt
        simp only [beq_iff_eq] at htt; subst htt
        have hx := hact; clear hact
        have hat' : c.argTypes = #[t, t] := by cases hc : c.argTypes; simp_all
        split at hx
        · rename_i res hx2
          simp only [Option.some.injEq] at hx; subst hx
          obtain ⟨v, I', M', w', hrun, e, hr⟩ := xappend_ok (P := P) hT hx2 ho s.toSimH (n1 hcnt) (h2 0 p _ (by rw [hy]; rfl) rfl) (h2 1 q _ (by rw [hy]; rfl) rfl) ty
          have hr' : (execOp a.eval { dst, op := .call c, type := ty, pos, after, guard }).run P w = .ok (.value v) w' := by
            simp [execOp, resolve, hcal, invoke, builtin, hargs, hat', hrun]
          unfold Oper.wp; rw [hr', Oper.upon_value]
          exact fin e hr (fun o ho => by rcases ids_app hx2 s.toSimH o ho with h | h; exact .inl (by omega); exact .inr h)
        · obtain ⟨v, I', M', w', hrun, e, hr⟩ := xappRows_ok (P := P) hT hx ho s.toSimH (n1 hcnt) (h2 0 p _ (by rw [hy]; rfl) rfl) (h2 1 q _ (by rw [hy]; rfl) rfl) ty
          have hr' : (execOp a.eval { dst, op := .call c, type := ty, pos, after, guard }).run P w = .ok (.value v) w' := by
            simp [execOp, resolve, hcal, invoke, builtin, hargs, hat', hrun]
          unfold Oper.wp; rw [hr', Oper.upon_value]
          exact fin e hr (fun o ho => by rcases ids_ar hx s.toSimH o ho with h | h; exact .inl (by omega); exact .inr h)
      · rename_i hcal
        split at hact
        case h_2 => simp at hact
        rename_i t t' sv xv hat hvs
        split at hact
        case isFalse => simp at hact
        rename_i htt
        simp only [beq_iff_eq] at htt; subst htt
        have hx := hact; clear hact
        obtain ⟨h1, h2⟩ := evL_ok s _ _ hvs
        obtain ⟨p, q, hy⟩ : ∃ p q, c.args.toList.map a.eval = [p, q] := by
          match hl : c.args.toList.map a.eval, h1 with
          | [p, q], _ => exact ⟨p, q, rfl⟩
        have hargs : c.args.map a.eval = #[p, q] := by
          apply Array.ext'; simpa using hy
        have hat' : c.argTypes = #[t, t] := by cases hc : c.argTypes; simp_all
        obtain ⟨v, w', hrun, e, hr⟩ := xcopy_ok (P := P) hT hx ho s.toSimH (h2 0 p _ (by rw [hy]; rfl) rfl) (h2 1 q _ (by rw [hy]; rfl) rfl) ty
        have hr' : (execOp a.eval { dst, op := .call c, type := ty, pos, after, guard }).run P w = .ok (.value v) w' := by
          simp [execOp, resolve, hcal, invoke, builtin, hargs, hat', hrun]
        unfold Oper.wp; rw [hr', Oper.upon_value]
        exact fin e hr (fun o ho => .inr (ids_copy hx s.toSimH o ho))
      · simp at hact
      · unfold xcall at hact
        split at hact
        case h_2 => simp at hact
        rename_i f hcal
        split at hact
        case h_2 => simp at hact
        rename_i k caps vs r0 objs _ hf hvs
        split at hact
        case h_2 => simp at hact
        rename_i ds hds
        split at hact
        case isFalse => simp at hact
        rename_i hle
        simp only [Bool.and_eq_true, decide_eq_true_eq] at hle
        simp only [Option.some.injEq, Prod.mk.injEq] at hact
        obtain ⟨rfl, rfl, rfl, rfl⟩ := hact
        obtain ⟨⟨fn, hfn, hbody, hname⟩, hcalls⟩ := ho.1
        obtain ⟨h1, h2⟩ := evL_ok s _ _ hvs
        have hfr := s.ev hf
        obtain ⟨cvs, hfe, hcl, hcr⟩ : ∃ cvs : List Value, a.eval f = .func (.func k) #[] cvs.toArray ∧ cvs.length = caps.length ∧ ∀ (i : Nat) v d, cvs[i]? = some v → caps[i]? = some d → Reads w I v d := by
          have hfr' : Reads w I (a.eval f) (.fn (.func k) caps) := hfr
          generalize a.eval f = fv at hfr'
          cases hfr' with
          | fn _ cvs _ hl hr => exact ⟨cvs, rfl, hl, hr⟩
        have hrun : (execOp a.eval { dst, op := .call c, type := ty, pos, after, guard }).run P w = .ok (.enter k ((c.args.toList.map a.eval) ++ cvs).toArray) w := by
          have hb : fn.body.isNone = false := by cases hbb : fn.body <;> simp_all
          have e1 : c.args.map a.eval = (c.args.toList.map a.eval).toArray := by apply Array.ext'; simp
          simp only [execOp, resolve, hcal, Sem.run_bind, hfe, Deferred.ofValue, Sem.run_pure, Result.andThen, invoke, callFunc, run_program, hfn, hname, hb]
          simp [e1]
        unfold Oper.wp
        rw [hrun, Oper.upon_enter]
        have sn : SimH I [] [] w := SimH.nil fun b hb => (s.imm b hb).1
        have hargs : RelVL w I [] ((c.args.toList.map a.eval) ++ cvs) (ds ++ caps.map dV) := by
          obtain ⟨g1, g2⟩ := dataArgs_ok hds (M' := []) (w := w) (I := I) (M := M) ⟨h1, h2⟩
          refine ⟨by simp only [List.length_append, List.length_map] at g1 ⊢; omega, fun i v x hv hx => ?_⟩
          by_cases hi : i < ds.length
          · rw [List.getElem?_append_left (by omega)] at hv
            rw [List.getElem?_append_left hi] at hx
            exact g2 i v x hv hx
          · rw [List.getElem?_append_right (by omega)] at hv
            rw [List.getElem?_append_right (by omega), List.getElem?_map, Option.map_eq_some_iff] at hx
            obtain ⟨d, hd', rfl⟩ := hx
            rw [← g1] at hd'
            exact hcr _ v d hv hd'
        refine (hcalls I [] w _ sn hargs).mono ?_
        rintro e w' ⟨v, r', hc, I', Mc, rfl, ⟨rfl, rfl⟩, hr, sc, hext, hfp, _⟩
        simp only
        obtain ⟨eff, hmat⟩ := Eff.call s.toSimH (b := nid) (I' := I') (Mc := Mc) (hc := hc) (w' := w') (fun j hj => hres j (by omega)) hle.2 sc
          (hext.mono fun b ⟨o, hb⟩ => by simp [fpAt] at hb) (fun k hk => by
            rcases hfp k hk with ⟨o, hb⟩ | h
            · simp [fpAt] at hb
            · exact h)
        exact fin eff (RelV.sh hmat hr) (fun o ho => by
          simp only [List.mem_map, List.mem_range] at ho
          obtain ⟨j, hj, rfl⟩ := ho
          exact .inl (by omega))
    · rename_i t x hi
      split at hact
      · simp at hact
      rename_i hcnt
      simp only [beq_iff_eq] at hcnt
      split at hact
      case h_2 => simp at hact
      rename_i u k n hu hv
      have hx := hact; clear hact
      have hi' := relV_int (s.ev hv)
      obtain ⟨v, I', M', w', hrun, e, hr⟩ := xprefix_ok (P := P) hT hx ho s.toSimH (n1 hcnt) (s.ev hu) k
      have hr' : (execOp a.eval { dst, op := .slice t x none (some hi) none, type := ty, pos, after, guard }).run P w = .ok (.value v) w' := wrap (by simpa [hi'] using hrun)
      unfold Oper.wp; rw [hr', Oper.upon_value]
      exact fin e hr (fun o ho => by rcases ids_px hx s.toSimH o ho with h | h; exact .inl (by omega); exact .inr h)
    · rename_i op' t x y yt
      split at hact
      case h_2 => simp at hact
      rename_i u v hu hv
      simp only [Option.map_eq_some_iff, Prod.mk.injEq] at hact
      obtain ⟨r', hx, rfl, rfl, rfl, rfl⟩ := hact
      obtain ⟨z, hrun, hr⟩ := xeq2_ok (P := P) hT hx (s.ev hu) (s.ev hv) x y
      have hr' : (execOp a.eval { dst, op := .binOp op' t x y yt, type := ty, pos, after, guard }).run P w = .ok (.value z) w := wrap hrun
      unfold Oper.wp; rw [hr', Oper.upon_value]
      exact fin (Eff.refl s.toSimH) hr (fun o ho => by simp at ho)
    · simp at hact
end

end Go.AM
