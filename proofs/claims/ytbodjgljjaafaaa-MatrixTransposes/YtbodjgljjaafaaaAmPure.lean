/- The abstract machine: operations that only compute and read. -/
import Derived.Test.YtbodjgljjaafaaaAmEff
import Derived.WalkKit
namespace Go.AM

inductive TK where
  | int (k : IntKind)
  | bool
  | str
  | slice (e : TypeId)
  | array (n : Nat) (e : TypeId)
  | struct (fs : List (Nat × Nat))
  | other

structure TI where
  k : TK
  size : Nat
  bytes : Nat
  zero : List Value

abbrev Tab := List (Nat × TI)

def tfind : Tab → Nat → Option TI
  | [], _ => none
  | (j, i) :: T, t => if j == t then some i else tfind T t

def veq : Value → Value → Bool
  | .bool a, .bool b => a == b
  | .int k a, .int j b => k == j && a == b
  | .slice none 0 0, .slice none 0 0 => true
  | .pointer none, .pointer none => true
  | .nilFunc, .nilFunc => true
  | .nilIface, .nilIface => true
  | .map none, .map none => true
  | _, _ => false

def veqL : List Value → List Value → Bool
  | [], [] => true
  | a :: l, b :: m => veq a b && veqL l m
  | _, _ => false

theorem veq_ok {a b : Value} (h : veq a b = true) : a = b := by
  unfold veq at h
  split at h <;> simp_all

theorem veqL_ok : ∀ {l m : List Value}, veqL l m = true → l = m
  | [], [], _ => rfl
  | [], _ :: _, h => by simp [veqL] at h
  | _ :: _, [], h => by simp [veqL] at h
  | a :: l, b :: m, h => by
    simp only [veqL, Bool.and_eq_true] at h
    rw [veq_ok h.1, veqL_ok h.2]

def offs (fs : Array Field) : List (Nat × Nat) := fs.toList.map fun f => (f.offset, f.type)

def tkB (d : TypeDesc) : TK → Bool
  | .int k => match d with | .int j => k == j | _ => false
  | .bool => match d with | .bool => true | _ => false
  | .str => match d with | .string => true | _ => false
  | .slice e => match d with | .slice f => e == f | _ => false
  | .array n e => match d with | .array m f => n == m && e == f | _ => false
  | .struct fs => match d with | .struct gs => offs gs == fs | _ => false
  | .other => match d with | .struct _ | .array .. => false | _ => true

def tiB (P : Program) (t : Nat) (i : TI) : Bool :=
  match P.underlying t, P.info? t with
  | some d, some info => tkB d i.k && info.size == i.size && info.bytes == i.bytes && (match info.zero with | some z => veqL z.cells.toList i.zero | none => false) && i.zero.all (·.oneCell')
  | _, _ => false

def TOK (P : Program) (T : Tab) : Prop := T.all (fun x => tiB P x.1 x.2) = true

structure TIOK (P : Program) (t : Nat) (i : TI) : Prop where
  desc : ∃ d, P.underlying t = some d ∧ tkB d i.k = true
  info : ∃ f z, P.info? t = some f ∧ f.size = i.size ∧ f.bytes = i.bytes ∧ f.zero = some z ∧ z.cells.toList = i.zero
  zone : ∀ v ∈ i.zero, v.oneCell' = true

theorem TOK.find {P : Program} : ∀ {T : Tab}, TOK P T → ∀ {t : Nat} {i : TI}, tfind T t = some i → TIOK P t i
  | [], _, _, _, h => by simp [tfind] at h
  | (j, x) :: T, hT, t, i, h => by
    simp only [TOK, List.all_cons, Bool.and_eq_true] at hT
    simp only [tfind] at h
    split at h
    · rename_i hj
      simp only [beq_iff_eq] at hj
      simp only [Option.some.injEq] at h
      subst hj; subst h
      have h1 := hT.1
      unfold tiB at h1
      split at h1
      · rename_i d info hd hinfo
        simp only [Bool.and_eq_true, beq_iff_eq] at h1
        obtain ⟨⟨⟨⟨h2, h3⟩, h4⟩, h5⟩, h6⟩ := h1
        split at h5
        · rename_i z hz
          exact ⟨⟨d, hd, h2⟩, ⟨info, z, hinfo, h3, h4, hz, veqL_ok h5⟩, fun v hv => List.all_eq_true.1 h6 v hv⟩
        · simp at h5
      · simp at h1
    · exact TOK.find hT.2 h

section
variable {P : Program} {t : Nat} {i : TI}

theorem TIOK.slice (h : TIOK P t i) {e : Nat} (hk : i.k = .slice e) : P.underlying t = some (.slice e) := by
  obtain ⟨d, h1, h2⟩ := h.desc
  rw [hk] at h2
  cases d <;> simp [tkB] at h2
  subst h2; exact h1

theorem TIOK.array (h : TIOK P t i) {n e : Nat} (hk : i.k = .array n e) : P.underlying t = some (.array n e) := by
  obtain ⟨d, h1, h2⟩ := h.desc
  rw [hk] at h2
  cases d <;> simp [tkB] at h2
  obtain ⟨rfl, rfl⟩ := h2; exact h1

theorem TIOK.int (h : TIOK P t i) {k : IntKind} (hk : i.k = .int k) : P.underlying t = some (.int k) := by
  obtain ⟨d, h1, h2⟩ := h.desc
  rw [hk] at h2
  cases d <;> simp [tkB] at h2
  subst h2; exact h1

theorem TIOK.bool (h : TIOK P t i) (hk : i.k = .bool) : P.underlying t = some .bool := by
  obtain ⟨d, h1, h2⟩ := h.desc
  rw [hk] at h2
  cases d <;> simp [tkB] at h2
  exact h1

theorem TIOK.struct (h : TIOK P t i) {fs : List (Nat × Nat)} (hk : i.k = .struct fs) :
    ∃ gs, P.underlying t = some (.struct gs) ∧ offs gs = fs := by
  obtain ⟨d, h1, h2⟩ := h.desc
  rw [hk] at h2
  cases d <;> simp [tkB] at h2
  exact ⟨_, h1, h2⟩

def TK.isAgg : TK → Bool
  | .struct _ | .array .. => true
  | _ => false

theorem TIOK.isAgg (h : TIOK P t i) (w : World) : (Go.isAgg t).run P w = .ok i.k.isAgg w := by
  obtain ⟨d, h1, h2⟩ := h.desc
  simp only [Go.isAgg, Sem.run_bind, run_underlying h1, Result.andThen]
  cases hk : i.k <;> rw [hk] at h2 <;> cases d <;> simp [tkB] at h2 <;> simp [TK.isAgg]

theorem TIOK.sizeOf (h : TIOK P t i) (w : World) : (Go.sizeOf t).run P w = .ok i.size w := by
  obtain ⟨f, z, h1, h2, _⟩ := h.info
  simp [Go.sizeOf, typeInfo, h1, h2]

theorem TIOK.typeInfo (h : TIOK P t i) : ∃ f, (∀ w, (Go.typeInfo t).run P w = .ok f w) ∧ f.size = i.size ∧ f.bytes = i.bytes := by
  obtain ⟨f, z, h1, h2, h3, _⟩ := h.info
  exact ⟨f, fun w => by simp [Go.typeInfo, h1], h2, h3⟩

theorem TIOK.zeroValue (h : TIOK P t i) : ∃ z, (∀ w, (Go.zeroValue t).run P w = .ok z w) ∧ z.cells.toList = i.zero := by
  obtain ⟨f, z, h1, h2, h3, h4, h5⟩ := h.info
  exact ⟨z, fun w => by simp [Go.zeroValue, Go.typeInfo, h1, h4], h5⟩
end

/-! ### Operands -/

def cdat : Value → D
  | .bool b => .bool b
  | .int k n => .int k n
  | .string s => .str s
  | v => .raw v

theorem cdat_ok (w : World) (I : Nat → Prop) (v : Value) (h : v.oneCell' = true) : Reads w I v (cdat v) := by
  unfold cdat
  split
  · exact .bool _
  · exact .int _ _
  · exact .str _
  · exact .raw _ h

def constV : Value → V
  | .agg cs => if cs.toList.all (·.oneCell') then .e (.agg (cs.toList.map fun v => .dat (cdat v))) else .e (.sc .undef)
  | v => if v.oneCell' then .e (.sc (.dat (cdat v))) else .e (.sc .undef)

def ev (t : List (Nat × V)) : Operand → Option V
  | .tmp i => get t i
  | .const v => some (constV v)
  | .func f => some (.e (.sc (.dat (.fn (.func f) []))))
  | .global _ => none

theorem constV_ok (w : World) (I : Nat → Prop) (M : Mem) (v : Value) : RelV w I M v (constV v) := by
  unfold constV
  split
  · rename_i cs
    split
    · rename_i hall
      refine ⟨cs, rfl, by simp, fun i v s h1 h2 => ?_⟩
      simp only [List.getElem?_map, h1, Option.map_some, Option.some.injEq] at h2
      subst h2
      exact cdat_ok w I v (List.all_eq_true.1 hall v (List.mem_of_getElem? h1))
    · trivial
  · split
    · rename_i h; exact cdat_ok w I v h
    · trivial

theorem Sim.ev {I : Nat → Prop} {M : Mem} {σ : St} {a : Act} {w : World} (s : Sim I M σ a w) {x : Operand} {v : V} (h : ev σ.t x = some v) :
    RelV w I M (a.eval x) v := by
  cases x with
  | tmp i => exact s.tm i v (get_mem h)
  | const u => simp only [AM.ev, Option.some.injEq] at h; subst h; exact constV_ok w I M u
  | global g => simp [AM.ev] at h
  | func f =>
    simp only [AM.ev, Option.some.injEq] at h; subst h
    exact Reads.fn _ [] [] rfl (fun i v d h1 _ => by simp at h1)

/-! ### The oracle: what cannot be computed off the state -/
inductive Or where
  | none
  | cells (ds : List D)
  | bool (b : Bool)
  | frz
  | call (r : V) (objs : List (Option Obj)) (ids : List Nat)
  deriving Inhabited

@[reducible] def vint (k : IntKind) (n : Int) : V := .e (.sc (.dat (.int k n)))
@[reducible] def vbool (b : Bool) : V := .e (.sc (.dat (.bool b)))

def AllP : List Prop → Prop
  | [] => True
  | p :: l => p ∧ AllP l

def nilS : Value := .slice none 0 0

def normD : D → D
  | .raw (.slice none 0 0) => .sl []
  | d => d

theorem normD_ok {w : World} {I : Nat → Prop} {v : Value} {d : D} (h : Reads w I v d) : Reads w I v (normD d) := by
  unfold normD
  split
  · cases h; exact .slnil none 0
  · exact h

def S.toD : S → Option D
  | .dat d => some (normD d)
  | _ => none

/-! ### Integers -/

def bitsI (k : IntKind) (f : BitVec k.bits → BitVec k.bits → BitVec k.bits) (x y : Int) : Int :=
  k.wrap ((f (BitVec.ofInt k.bits x) (BitVec.ofInt k.bits y)).toNat : Int)

def ibin (op : BinOp) (k : IntKind) (x y : Int) : V × List Prop :=
  match op with
  | .add => (vint k (k.wrap (x + y)), [])
  | .sub => (vint k (k.wrap (x - y)), [])
  | .mul => (vint k (k.wrap (x * y)), [])
  | .quo => (vint k (k.wrap (x.tdiv y)), [y ≠ 0])
  | .rem => (vint k (x.tmod y), [y ≠ 0])
  | .and => (vint k (bitsI k (· &&& ·) x y), [])
  | .or => (vint k (bitsI k (· ||| ·) x y), [])
  | .xor => (vint k (bitsI k (· ^^^ ·) x y), [])
  | .andNot => (vint k (bitsI k (fun a b => a &&& ~~~b) x y), [])
  | .shl => (vint k (k.wrap (x * 2 ^ (min y.toNat k.bits))), [0 ≤ y])
  | .shr => (vint k (x.fdiv (2 ^ (min y.toNat k.bits))), [0 ≤ y])
  | .eql => (vbool (x == y), [])
  | .neq => (vbool (x != y), [])
  | .lss => (vbool (decide (x < y)), [])
  | .leq => (vbool (decide (x ≤ y)), [])
  | .gtr => (vbool (decide (x > y)), [])
  | .geq => (vbool (decide (x ≥ y)), [])

theorem ibin_ok (op : BinOp) (k : IntKind) (x y : Int) {r : V} {obs : List Prop} (h : ibin op k x y = (r, obs)) (ho : AllP obs) (P : Program) (t : TypeId)
    (I : Nat → Prop) (M : Mem) (w : World) : ∃ v, (binOp op t (.int k x) (.int k y)).run P w = .ok v w ∧ RelV w I M v r := by
  cases op <;> simp only [ibin, Prod.mk.injEq] at h <;> obtain ⟨rfl, rfl⟩ := h
  case quo => refine ⟨.int k (k.wrap (x.tdiv y)), ?_, Reads.int _ _⟩; rw [binOp_quo]; simp [Op.intDiv, ho.1]
  case rem => refine ⟨.int k (x.tmod y), ?_, Reads.int _ _⟩; rw [binOp_rem]; simp [Op.intDiv, ho.1]
  case shl => refine ⟨.int k _, ?_, Reads.int _ _⟩; rw [binOp_shl]; simp [Op.shift, Int.not_lt.2 ho.1]
  case shr => refine ⟨.int k _, ?_, Reads.int _ _⟩; rw [binOp_shr]; simp [Op.shift, Int.not_lt.2 ho.1]
  all_goals first
    | exact ⟨.int k _, by simp only [binOp_add, binOp_sub, binOp_mul, Op.intArith, Sem.run_pure], Reads.int _ _⟩
    | exact ⟨.int k _, by simp only [binOp_and, binOp_or, binOp_xor, binOp_andNot, Op.intBits, Sem.run_pure]; rfl, Reads.int _ _⟩
    | exact ⟨.bool _, by simp only [binOp_eql, binOp_neq, binOp_lss, binOp_leq, binOp_gtr, binOp_geq, Sem.run_pure], Reads.bool _⟩

end Go.AM
