/- The abstract machine: all operations that only compute and read, in one function. -/
import Derived.Test.YtbodjgljjaafaaaAmBuild
namespace Go.AM

/-- Is this a pointer that is not nil? -/
def S.isPtr : S → Bool
  | .ptr .. | .aptr .. | .eptr .. | .mptr .. | .rptr .. | .bptr .. => true
  | .dat (.box _) => true
  | _ => false

def capIds : List V → Option (List Nat)
  | [] => some []
  | .e (.sc (.ptr o 0)) :: l => (capIds l).map (o :: ·)
  | _ => none

def capDs : List V → Option (List D)
  | [] => some []
  | .e (.sc (.dat d)) :: l => (capDs l).map (d :: ·)
  | _ => none

def evL (t : List (Nat × V)) : List Operand → Option (List V)
  | [] => some []
  | x :: l => match ev t x, evL t l with
    | some v, some r => some (v :: r)
    | _, _ => none

def xbin (T : Tab) (op : BinOp) (t : Nat) (a b : V) : Option (V × List Prop) :=
  match a, b with
  | .e (.sc (.dat (.int k x))), .e (.sc (.dat (.int j y))) =>
    if k == j then some (ibin op k x y) else
      match op with
      | .shl => some (vint k (k.wrap (x * 2 ^ (min y.toNat k.bits))), [0 ≤ y])
      | .shr => some (vint k (x.fdiv (2 ^ (min y.toNat k.bits))), [0 ≤ y])
      | _ => none
  | .e (.sc (.dat (.bool x))), .e (.sc (.dat (.bool y))) =>
    match tfind T t with
    | some ti => match ti.k with
      | .bool => match op with
        | .eql => some (vbool (x == y), [])
        | .neq => some (vbool (!(x == y)), [])
        | _ => none
      | _ => none
    | none => none
  | _, _ => none

def xun (op : UnOp) (x : V) : Option (V × List Prop) :=
  match op, x with
  | .not, .e (.sc (.dat (.bool b))) => some (vbool (!b), [])
  | .neg, .e (.sc (.dat (.int k n))) => some (vint k (k.wrap (0 - n)), [])
  | .xor, .e (.sc (.dat (.int k n))) => some (vint k (bitsI k (· ^^^ ·) (if k.signed then -1 else k.max) n), [])
  | _, _ => none

def xconv (T : Tab) (src dst : Nat) (x : V) : Option (V × List Prop) :=
  match x, tfind T src, tfind T dst with
  | .e (.sc (.dat (.int _ n))), some _, some td => match td.k with
    | .int k => some (vint k (k.wrap n), [])
    | _ => none
  | _, _, _ => none

def xbuiltin (T : Tab) (h : Heap) (b : Builtin) (argTypes : List Nat) (args : List V) : Option (V × List Prop) :=
  match b, argTypes, args with
  | .len, [t], [x] => match tfind T t with
    | some ti => match ti.k with
      | .slice _ => (xlen h x).map fun r => (r, [])
      | _ => none
    | none => none
  | .cap, [t], [.e (.sc (.dat (.raw (.slice none 0 0))))] => match tfind T t with
    | some ti => match ti.k with
      | .slice _ => some (vint .i64 0, [])
      | _ => none
    | none => none
  | .min, _, [.e (.sc (.dat (.int k x))), .e (.sc (.dat (.int _ y)))] => some (vint k (if y < x then y else x), [])
  | .max, _, [.e (.sc (.dat (.int k x))), .e (.sc (.dat (.int _ y)))] => some (vint k (if y > x then y else x), [])
  | _, _, _ => none

def xpure (T : Tab) (σ : St) (or : Or) (op : Op) : Option (V × List Prop) :=
  match op with
  | .move x | .assign x => (ev σ.t x).map fun v => (v, [])
  | .pick c a b =>
    match ev σ.t c with
    | some (.e (.sc (.dat (.bool cc)))) =>
      match ev σ.t a, ev σ.t b with
      | some (.e (.sc (.dat (.bool x)))), some (.e (.sc (.dat (.bool y)))) => some (vbool (bif cc then x else y), [])
      | some va, some vb => match cc with
        | true => some (va, [])
        | false => some (vb, [])
      | _, _ => none
    | _ => none
  | .load t a => match ev σ.t a with
    | some v => xload T σ.h or t v
    | none => none
  | .nilCheck x => match ev σ.t x with
    | some (.e (.sc s)) => if s.isPtr then some (.e (.sc s), []) else none
    | _ => none
  | .binOp op t x y _ => match ev σ.t x, ev σ.t y with
    | some a, some b => xbin T op t a b
    | _, _ => none
  | .unOp op _ x => match ev σ.t x with
    | some a => xun op a
    | none => none
  | .convert src dst x => match ev σ.t x with
    | some a => xconv T src dst a
    | none => none
  | .slice t x lo hi mx => match ev σ.t x, optInt σ.t lo, optInt σ.t hi, optInt σ.t mx with
    | some a, some l, some h, some m => xslice T t a l h m
    | _, _, _, _ => none
  | .fieldAddr t x f => match ev σ.t x with
    | some v => xfieldAddr T t v f
    | none => none
  | .field t x f => match ev σ.t x with
    | some v => xfield T t v f
    | none => none
  | .indexAddr t x i => match ev σ.t x, ev σ.t i with
    | some a, some b => xindexAddr T σ.h t a b
    | _, _ => none
  | .extract x i => match ev σ.t x with
    | some v => xextract v i
    | none => none
  | .build t parts => xbuild T σ.t t parts.toList
  | .makeFunc fn first captured => match first.toList, evL σ.t captured.toList with
    | [], some vs => match capIds vs with
      | some ids => some (.e (.sc (.clo fn ids)), [])
      | none => match capDs vs with
        | some ds => some (.e (.sc (.dat (.fn fn ds))), [])
        | none => none
    | _, _ => none
  | .call c => match c.callee with
    | .builtin b => match evL σ.t c.args.toList with
      | some vs => xbuiltin T σ.h b c.argTypes.toList vs
      | none => none
    | _ => none
  | _ => none

section
variable {P : Program} {w : World} {I : Nat → Prop} {M : Mem}

theorem evL_ok {σ : St} {a : Act} (s : Sim I M σ a w) : ∀ (l : List Operand) (r : List V), evL σ.t l = some r →
    (l.map a.eval).length = r.length ∧ ∀ (j : Nat) v x, (l.map a.eval)[j]? = some v → r[j]? = some x → RelV w I M v x
  | [], r, h => by simp only [evL, Option.some.injEq] at h; subst h; exact ⟨rfl, fun j p q hp => by simp at hp⟩
  | x :: l, r, h => by
    simp only [evL] at h
    split at h
    · rename_i v r' hv hr
      simp only [Option.some.injEq] at h; subst h
      obtain ⟨h1, h2⟩ := evL_ok s l r' hr
      refine ⟨by simp at h1; simp [h1], fun j p q hp hq => ?_⟩
      match j, hp, hq with
      | 0, hp, hq =>
        simp only [List.map_cons, List.getElem?_cons_zero, Option.some.injEq] at hp hq
        subst hp; subst hq
        exact s.ev hv
      | j + 1, hp, hq => exact h2 j p q (by simpa using hp) (by simpa using hq)
    · simp at h

theorem capIds_ok : ∀ (vs : List V) (us : List Value) (ids : List Nat), capIds vs = some ids → us.length = vs.length →
    (∀ (j : Nat) u x, us[j]? = some u → vs[j]? = some x → RelV w I M u x) →
    us.length = ids.length ∧ ∀ (i : Nat) (u : Value) o, us[i]? = some u → ids[i]? = some o → ∃ e, M[o]? = some (some e) ∧ u = .pointer (some ⟨e.b, 0, none⟩)
  | [], us, ids, h, hl, _ => by
    simp only [capIds, Option.some.injEq] at h; subst h
    exact ⟨by simpa using hl, fun i u o _ ho => by simp at ho⟩
  | v :: vs, [], ids, h, hl, _ => by simp at hl
  | v :: vs, u :: us, ids, h, hl, hr => by
    unfold capIds at h
    split at h
    · rename_i heq; simp at heq
    · rename_i o l heq
      simp only [List.cons.injEq] at heq
      obtain ⟨rfl, rfl⟩ := heq
      simp only [Option.map_eq_some_iff] at h
      obtain ⟨ids', h', rfl⟩ := h
      obtain ⟨h1, h2⟩ := capIds_ok vs us ids' h' (by simpa using hl) (fun j u x p q => hr (j + 1) u x p q)
      refine ⟨by simp [h1], fun i u' o' hu ho => ?_⟩
      match i, hu, ho with
      | 0, hu, ho =>
        simp only [List.getElem?_cons_zero, Option.some.injEq] at hu ho
        subst hu; subst ho
        exact hr 0 _ _ rfl rfl
      | i + 1, hu, ho => exact h2 i u' o' (by simpa using hu) (by simpa using ho)
    · simp at h

theorem capDs_ok : ∀ (vs : List V) (us : List Value) (ds : List D), capDs vs = some ds → us.length = vs.length →
    (∀ (j : Nat) u x, us[j]? = some u → vs[j]? = some x → RelV w I M u x) →
    us.length = ds.length ∧ ∀ (i : Nat) (u : Value) d, us[i]? = some u → ds[i]? = some d → Reads w I u d
  | [], us, ids, h, hl, _ => by
    simp only [capDs, Option.some.injEq] at h; subst h
    exact ⟨by simpa using hl, fun i u o _ ho => by simp at ho⟩
  | v :: vs, [], ids, h, hl, _ => by simp at hl
  | v :: vs, u :: us, ids, h, hl, hr => by
    unfold capDs at h
    split at h
    · rename_i heq; simp at heq
    · rename_i o l heq
      simp only [List.cons.injEq] at heq
      obtain ⟨rfl, rfl⟩ := heq
      simp only [Option.map_eq_some_iff] at h
      obtain ⟨ids', h', rfl⟩ := h
      obtain ⟨h1, h2⟩ := capDs_ok vs us ids' h' (by simpa using hl) (fun j u x p q => hr (j + 1) u x p q)
      refine ⟨by simp [h1], fun i u' o' hu ho => ?_⟩
      match i, hu, ho with
      | 0, hu, ho =>
        simp only [List.getElem?_cons_zero, Option.some.injEq] at hu ho
        subst hu; subst ho
        exact hr 0 _ _ rfl rfl
      | i + 1, hu, ho => exact h2 i u' o' (by simpa using hu) (by simpa using ho)
    · simp at h

theorem S.isPtr_ok {v : Value} {s : S} (h : RelS w I M v s) (hp : s.isPtr = true) : ∃ a, v = .pointer (some a) := by
  cases s with
  | dat d =>
    cases d with
    | box ds => obtain ⟨b, rfl, _⟩ := Reads.boxAt h; exact ⟨_, rfl⟩
    | _ => simp [S.isPtr] at hp
  | ref o => simp [S.isPtr] at hp
  | ptr o k => obtain ⟨e, _, rfl⟩ := h; exact ⟨_, rfl⟩
  | aptr o i k => obtain ⟨e, _, _, rfl⟩ := h; exact ⟨_, rfl⟩
  | eptr z elems i k => obtain ⟨b, off, s, _, _, rfl⟩ := h; exact ⟨_, rfl⟩
  | row o k => simp [S.isPtr] at hp
  | mptr o i => obtain ⟨e, _, _, rfl⟩ := h; exact ⟨_, rfl⟩
  | rptr o r i k => obtain ⟨e, b, n, cap, _, _, _, rfl⟩ := h; exact ⟨_, rfl⟩
  | clo f caps => simp [S.isPtr] at hp
  | bptr ds k => obtain ⟨b, _, rfl⟩ := h; exact ⟨_, rfl⟩
  | undef => simp [S.isPtr] at hp

theorem relV_int {v : Value} {k : IntKind} {n : Int} (h : RelV w I M v (vint k n)) : v = .int k n := by cases h; rfl
theorem relV_bool {v : Value} {b : Bool} (h : RelV w I M v (vbool b)) : v = .bool b := by cases h; rfl

theorem run_equalIn_bool (d : Nat) {t : Nat} (hb : P.underlying t = some .bool) (x y : Bool) : (Op.equalIn (d + 1) t (.bool x) (.bool y)).run P w = .ok (x == y) w := by
  simp [Op.equalIn, run_underlying hb]

theorem run_equal_bool {t : Nat} (hb : P.underlying t = some .bool) (x y : Bool) : (Op.equal t (.bool x) (.bool y)).run P w = .ok (x == y) w :=
  run_equalIn_bool 9999 hb x y

theorem xbin_ok {T : Tab} (hT : TOK P T) {op : BinOp} {t : Nat} {a b r : V} {obs : List Prop} (hx : xbin T op t a b = some (r, obs)) (ho : AllP obs) {u v : Value}
    (hu : RelV w I M u a) (hv : RelV w I M v b) (x y : Operand) :
    ∃ z, (do eqGuard op t x y u v; binOp op t u v : Sem Value).run P w = .ok z w ∧ RelV w I M z r := by
  unfold xbin at hx
  split at hx
  · rename_i k x' j y'
    have := relV_int hu; subst this
    have := relV_int hv; subst this
    simp only [eqGuard_at_int]
    split at hx
    · rename_i hk
      simp only [beq_iff_eq] at hk; subst hk
      simp only [Option.some.injEq] at hx
      obtain ⟨z, h1, h2⟩ := ibin_ok op k x' y' hx ho P t I M w
      exact ⟨z, by simpa using h1, h2⟩
    · split at hx
      · simp only [Option.some.injEq, Prod.mk.injEq] at hx
        obtain ⟨rfl, rfl⟩ := hx
        exact ⟨.int k _, by simp [binOp_shl, Op.shift, Int.not_lt.2 ho.1], Reads.int _ _⟩
      · simp only [Option.some.injEq, Prod.mk.injEq] at hx
        obtain ⟨rfl, rfl⟩ := hx
        exact ⟨.int k _, by simp [binOp_shr, Op.shift, Int.not_lt.2 ho.1], Reads.int _ _⟩
      · simp at hx
  · rename_i x' y'
    have := relV_bool hu; subst this
    have := relV_bool hv; subst this
    simp only [eqGuard_at_bool]
    split at hx
    · rename_i ti hti
      split at hx
      · rename_i hk
        have hb := (hT.find hti).bool hk
        split at hx
        · simp only [Option.some.injEq, Prod.mk.injEq] at hx
          obtain ⟨rfl, rfl⟩ := hx
          exact ⟨.bool (x' == y'), by simp only [pure_bind, binOp, Sem.run_bind, run_equal_bool hb, Result.andThen, Sem.run_pure], Reads.bool _⟩
        · simp only [Option.some.injEq, Prod.mk.injEq] at hx
          obtain ⟨rfl, rfl⟩ := hx
          exact ⟨.bool (!(x' == y')), by simp only [pure_bind, binOp, Sem.run_bind, run_equal_bool hb, Result.andThen, Sem.run_pure], Reads.bool _⟩
        · simp at hx
      · simp at hx
    · simp at hx
  · simp at hx

theorem list1 {α : Type} {l : List α} {x : α} (h : l.length = 1) (hx : ∀ v, l[0]? = some v → v = x) : l = [x] := by
  match l, h with
  | [y], _ => rw [hx y rfl]

theorem xpure_ok {T : Tab} (hT : TOK P T) {σ : St} {a : Act} (s : Sim I M σ a w) {or : Or} {o : Oper} {r : V} {obs : List Prop} (hx : xpure T σ or o.op = some (r, obs)) (ho : AllP obs) :
    ∃ v, (execOp a.eval o).run P w = .ok (.value v) w ∧ RelV w I M v r := by
  obtain ⟨dst, op, ty, pos, after, guard⟩ := o
  simp only at hx
  have wrap : ∀ {x : Sem Value} {v : Value}, x.run P w = .ok v w → (do pure (.value (← x)) : Sem Next).run P w = .ok (.value v) w := fun h => by simp [h]
  unfold xpure at hx
  split at hx
  · simp only [Option.map_eq_some_iff, Prod.mk.injEq] at hx
    obtain ⟨v, hv, rfl, rfl⟩ := hx
    exact ⟨_, rfl, s.ev hv⟩
  · simp only [Option.map_eq_some_iff, Prod.mk.injEq] at hx
    obtain ⟨v, hv, rfl, rfl⟩ := hx
    exact ⟨_, rfl, s.ev hv⟩
  · rename_i c x y
    split at hx
    · rename_i cc hc
      have hcv := relV_bool (s.ev hc)
      have hrun : (execOp a.eval { dst, op := .pick c x y, type := ty, pos, after, guard }).run P w = .ok (.value (if cc then a.eval x else a.eval y)) w := by
        simp [execOp, hcv, asBool]
      refine ⟨_, hrun, ?_⟩
      split at hx
      · rename_i bx by' hxx hyy
        simp only [Option.some.injEq, Prod.mk.injEq] at hx
        obtain ⟨rfl, rfl⟩ := hx
        cases cc
        · exact s.ev hyy
        · exact s.ev hxx
      · have hxx : ∀ v, ev σ.t x = some v → RelV w I M (a.eval x) v := fun v h => s.ev h
        have hyy : ∀ v, ev σ.t y = some v → RelV w I M (a.eval y) v := fun v h => s.ev h
        cases cc
        · simp only [Option.some.injEq, Prod.mk.injEq] at hx
          obtain ⟨rfl, rfl⟩ := hx
          exact hyy _ (by assumption)
        · simp only [Option.some.injEq, Prod.mk.injEq] at hx
          obtain ⟨rfl, rfl⟩ := hx
          exact hxx _ (by assumption)
      · simp at hx
    · simp at hx
  · rename_i t x
    split at hx
    · rename_i v hv
      obtain ⟨y, h1, h2⟩ := xload_ok hT hx ho s.toSimH (s.ev hv)
      exact ⟨y, wrap h1, h2⟩
    · simp at hx
  · rename_i x
    split at hx
    · rename_i s' hv
      split at hx
      · rename_i hp
        simp only [Option.some.injEq, Prod.mk.injEq] at hx
        obtain ⟨rfl, rfl⟩ := hx
        have hr := s.ev hv
        obtain ⟨ad, hp'⟩ := S.isPtr_ok hr hp
        exact ⟨a.eval x, by simp [execOp, hp'], hr⟩
      · simp at hx
    · simp at hx
  · rename_i op t x y yt
    split at hx
    · rename_i u v hu hv
      obtain ⟨z, h1, h2⟩ := xbin_ok (P := P) hT hx ho (s.ev hu) (s.ev hv) x y
      exact ⟨z, wrap h1, h2⟩
    · simp at hx
  · rename_i op t x
    split at hx
    · rename_i u hu
      have hr := s.ev hu
      unfold xun at hx
      split at hx
      · simp only [Option.some.injEq, Prod.mk.injEq] at hx
        obtain ⟨rfl, rfl⟩ := hx
        have := relV_bool hr
        exact ⟨.bool _, by simp [execOp, this, Op.unary], Reads.bool _⟩
      · simp only [Option.some.injEq, Prod.mk.injEq] at hx
        obtain ⟨rfl, rfl⟩ := hx
        have := relV_int hr
        exact ⟨.int _ _, by simp [execOp, this, Op.unary, Op.intArith], Reads.int _ _⟩
      · simp only [Option.some.injEq, Prod.mk.injEq] at hx
        obtain ⟨rfl, rfl⟩ := hx
        have := relV_int hr
        exact ⟨.int _ _, by simp only [execOp, this, Op.unary, Op.intBits, Sem.run_bind, Sem.run_pure, Result.andThen]; rfl, Reads.int _ _⟩
      · simp at hx
    · simp at hx
  · rename_i src dst' x
    split at hx
    · rename_i u hu
      have hr := s.ev hu
      unfold xconv at hx
      split at hx
      · rename_i k n ts td hts htd
        split at hx
        · rename_i k' hk
          simp only [Option.some.injEq, Prod.mk.injEq] at hx
          obtain ⟨rfl, rfl⟩ := hx
          have := relV_int hr
          obtain ⟨d, hd, _⟩ := (hT.find hts).desc
          have hi := (hT.find htd).int hk
          refine ⟨.int k' (k'.wrap n), ?_, Reads.int _ _⟩
          simp [execOp, this, convert, run_underlying hd, run_underlying hi, Conv.intToInt]
        · simp at hx
      · simp at hx
    · simp at hx
  · rename_i t x lo hi mx
    split at hx
    · rename_i u l h m hu hl hh hm
      obtain ⟨y, h1, h2⟩ := xslice_ok (P := P) hT hx ho (s.ev hu) (optInt_ok s hl) (optInt_ok s hh) (optInt_ok s hm)
      exact ⟨y, wrap h1, h2⟩
    · simp at hx
  · rename_i t x f
    split at hx
    · rename_i v hv
      obtain ⟨y, h1, h2⟩ := xfieldAddr_ok (P := P) hT hx (s.ev hv)
      exact ⟨y, wrap h1, h2⟩
    · simp at hx
  · rename_i t x f
    split at hx
    · rename_i v hv
      obtain ⟨y, h1, h2⟩ := xfield_ok (P := P) hT hx (s.ev hv)
      exact ⟨y, wrap h1, h2⟩
    · simp at hx
  · rename_i t x i
    split at hx
    · rename_i u v hu hv
      obtain ⟨y, h1, h2⟩ := xindexAddr_ok (P := P) hT hx ho s.toSimH (s.ev hu) (s.ev hv)
      exact ⟨y, wrap h1, h2⟩
    · simp at hx
  · rename_i x i
    split at hx
    · rename_i v hv
      obtain ⟨y, h1, h2⟩ := xextract_ok (P := P) hx (s.ev hv)
      exact ⟨y, wrap h1, h2⟩
    · simp at hx
  · rename_i t parts
    obtain ⟨y, h1, h2⟩ := xbuild_ok (P := P) hT s hx
    exact ⟨y, wrap h1, h2⟩
  · rename_i fn first captured
    split at hx
    · rename_i vs hfirst hvs
      have hf : first = #[] := by cases first; simp_all
      subst hf
      obtain ⟨h1, h2⟩ := evL_ok s _ _ hvs
      have hrun : (execOp a.eval { dst, op := .makeFunc fn #[] captured, type := ty, pos, after, guard }).run P w = .ok (.value (.func fn #[] (captured.toList.map a.eval).toArray)) w := by
        have e : captured.map a.eval = (captured.toList.map a.eval).toArray := by apply Array.ext'; simp
        simp [execOp, Instr.makeFunc, e]
      refine ⟨_, hrun, ?_⟩
      split at hx
      · rename_i ids hids
        simp only [Option.some.injEq, Prod.mk.injEq] at hx
        obtain ⟨rfl, rfl⟩ := hx
        obtain ⟨h3, h4⟩ := capIds_ok vs _ ids hids h1 h2
        exact ⟨_, rfl, h3, h4⟩
      · split at hx
        · rename_i ds hds
          simp only [Option.some.injEq, Prod.mk.injEq] at hx
          obtain ⟨rfl, rfl⟩ := hx
          obtain ⟨h3, h4⟩ := capDs_ok vs _ ds hds h1 h2
          exact Reads.fn fn _ ds h3 h4
        · simp at hx
    · simp at hx
  · rename_i c
    split at hx
    · rename_i b hcal
      split at hx
      · rename_i vs hvs
        obtain ⟨h1, h2⟩ := evL_ok s _ _ hvs
        unfold xbuiltin at hx
        split at hx
        · rename_i t x hat
          split at hx
          · rename_i ti hti
            split at hx
            · rename_i e hk
              simp only [Option.map_eq_some_iff, Prod.mk.injEq] at hx
              obtain ⟨r', hr', rfl, rfl⟩ := hx
              have hund := (hT.find hti).slice hk
              have hat' : c.argTypes = #[t] := by cases hc : c.argTypes; simp_all
              obtain ⟨y, hy⟩ : ∃ y, c.args.toList.map a.eval = [y] := by
                match hl : c.args.toList.map a.eval, h1 with
                | [y], _ => exact ⟨y, rfl⟩
              have hargs : c.args.map a.eval = #[y] := by
                apply Array.ext'; simpa using hy
              obtain ⟨ad, n, cap, rfl, rfl⟩ := xlen_ok hr' s.toSimH (h2 0 y x (by rw [hy]; rfl) rfl)
              refine ⟨.int .i64 n, ?_, Reads.int _ _⟩
              simp [execOp, resolve, hcal, invoke, builtin, hargs, hat', Builtin.len_, run_underlying hund, goInt]
            · simp at hx
          · simp at hx
        · rename_i t hat
          split at hx
          · rename_i ti hti
            split at hx
            · rename_i e hk
              simp only [Option.some.injEq, Prod.mk.injEq] at hx
              obtain ⟨rfl, rfl⟩ := hx
              have hund := (hT.find hti).slice hk
              have hat' : c.argTypes = #[t] := by cases hc : c.argTypes; simp_all
              obtain ⟨y, hy⟩ : ∃ y, c.args.toList.map a.eval = [y] := by
                match hl : c.args.toList.map a.eval, h1 with
                | [y], _ => exact ⟨y, rfl⟩
              have hargs : c.args.map a.eval = #[y] := by
                apply Array.ext'; simpa using hy
              have hy0 : Reads w I y (.raw (.slice none 0 0)) := h2 0 y _ (by rw [hy]; rfl) rfl
              cases hy0
              refine ⟨.int .i64 0, ?_, Reads.int _ _⟩
              simp [execOp, resolve, hcal, invoke, builtin, hargs, hat', Builtin.cap_, run_underlying hund, goInt]
            · simp at hx
          · simp at hx
        · rename_i k x k' y
          simp only [Option.some.injEq, Prod.mk.injEq] at hx
          obtain ⟨rfl, rfl⟩ := hx
          obtain ⟨p, q, hy⟩ : ∃ p q, c.args.toList.map a.eval = [p, q] := by
            match hl : c.args.toList.map a.eval, h1 with
            | [p, q], _ => exact ⟨p, q, rfl⟩
          have hargs : c.args.map a.eval = #[p, q] := by
            apply Array.ext'; simpa using hy
          have e1 := relV_int (h2 0 p _ (by rw [hy]; rfl) rfl)
          have e2 := relV_int (h2 1 q _ (by rw [hy]; rfl) rfl)
          subst e1; subst e2
          refine ⟨.int k (if y < x then y else x), ?_, Reads.int _ _⟩
          simp [execOp, resolve, hcal, invoke, builtin, hargs, Builtin.min_, Builtin.min2]
        · rename_i k x k' y
          simp only [Option.some.injEq, Prod.mk.injEq] at hx
          obtain ⟨rfl, rfl⟩ := hx
          obtain ⟨p, q, hy⟩ : ∃ p q, c.args.toList.map a.eval = [p, q] := by
            match hl : c.args.toList.map a.eval, h1 with
            | [p, q], _ => exact ⟨p, q, rfl⟩
          have hargs : c.args.map a.eval = #[p, q] := by
            apply Array.ext'; simpa using hy
          have e1 := relV_int (h2 0 p _ (by rw [hy]; rfl) rfl)
          have e2 := relV_int (h2 1 q _ (by rw [hy]; rfl) rfl)
          subst e1; subst e2
          refine ⟨.int k (if y > x then y else x), ?_, Reads.int _ _⟩
          simp [execOp, resolve, hcal, invoke, builtin, hargs, Builtin.max_, Builtin.max2]
        · simp at hx
      · simp at hx
    · simp at hx
  · simp at hx
end

end Go.AM
