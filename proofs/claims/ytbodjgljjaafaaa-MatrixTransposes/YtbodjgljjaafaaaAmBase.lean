/- The abstract machine: data, values, objects, and how they stand to the model's memory. -/
import Derived.Calls
import Derived.Orders
import Derived.Below
import Derived.KernelRfl
import Derived.WalkKit
namespace Go.AM

/-- Data: what a value reads as, when all memory that it leads to is left alone. -/
inductive D where
  | bool (b : Bool)
  | int (k : IntKind) (n : Int)
  | str (s : ByteArray)
  | sl (elems : List (List D))
  | box (cells : List D)
  | fn (f : Fn) (caps : List D)
  | iface (t : TypeId) (cells : List D)
  | raw (v : Value)
  deriving Inhabited

/-- One cell's abstract value. -/
inductive S where
  | dat (d : D)
  | ref (o : Nat)
  | ptr (o k : Nat)
  | aptr (o i k : Nat)
  | eptr (z : Nat) (elems : List (List D)) (i k : Nat)
  | row (o k : Nat)
  | mptr (o i : Nat)
  | rptr (o r i k : Nat)
  | clo (f : Fn) (caps : List Nat)
  | bptr (ds : List D) (k : Nat)
  | undef
  deriving Inhabited

inductive E where
  | sc (s : S)
  | agg (l : List S)
  deriving Inhabited

inductive V where
  | e (x : E)
  | tup (l : List E)
  deriving Inhabited

/-- An object: a block (or a family of blocks) that the call may write. -/
inductive Obj where
  | box (cells : List S)
  | arr (s : Nat) (elems : List (List D))
  | mat (s : Nat) (rows : List (List (List D)))
  | fwd (s : S)
  deriving Inhabited

abbrev Heap := List (Option Obj)

structure ME where
  nil : Bool := false
  b : Nat
  n : Nat
  cap : Nat
  s : Nat
  rows : List Value

abbrev Mem := List (Option ME)

/-- The slice value of a row. -/
def ME.val (e : ME) : Value := if e.nil then .slice none 0 0 else .slice (some ⟨e.b, 0, none⟩) e.n e.cap

def at2 {α : Type} (l : List (List α)) (i j : Nat) : Option α := (l[i]?).bind (·[j]?)

inductive Reads (w : World) (I : Nat → Prop) : Value → D → Prop where
  | bool (b : Bool) : Reads w I (.bool b) (.bool b)
  | int (k : IntKind) (n : Int) : Reads w I (.int k n) (.int k n)
  | str (s : ByteArray) : Reads w I (.string s) (.str s)
  | raw (v : Value) (h : v.oneCell' = true) : Reads w I v (.raw v)
  | slnil (a : Option Addr) (cap : Nat) : Reads w I (.slice a 0 cap) (.sl [])
  | sl {b off cap s : Nat} {cs : Array Value} {t : TypeId} {fr : Nat × Nat} (elems : List (List D)) (vs : Nat → Nat → Value)
      (hI : I b) (hb : w.heap[b]? = some (.cells cs t fr)) (hs : ∀ x ∈ elems, x.length = s) (hcap : elems.length ≤ cap)
      (hc : ∀ i j d, at2 elems i j = some d → cs[off + i * s + j]? = some (vs i j))
      (hr : ∀ i j d, at2 elems i j = some d → Reads w I (vs i j) d) :
      Reads w I (.slice (some ⟨b, off, none⟩) elems.length cap) (.sl elems)
  | box {b : Nat} {cs : Array Value} {t : TypeId} {fr : Nat × Nat} (ds : List D) (vs : Nat → Value)
      (hI : I b) (hb : w.heap[b]? = some (.cells cs t fr))
      (hc : ∀ i d, ds[i]? = some d → cs[i]? = some (vs i)) (hr : ∀ i d, ds[i]? = some d → Reads w I (vs i) d) :
      Reads w I (.pointer (some ⟨b, 0, none⟩)) (.box ds)
  | fn (f : Fn) (caps : List Value) (ds : List D) (hl : caps.length = ds.length)
      (hr : ∀ (i : Nat) v d, caps[i]? = some v → ds[i]? = some d → Reads w I v d) : Reads w I (.func f #[] caps.toArray) (.fn f ds)
  | iface (t : TypeId) (u : Value) (ds : List D) (hl : u.cells.size = ds.length)
      (hr : ∀ (i : Nat) v d, u.cells[i]? = some v → ds[i]? = some d → Reads w I v d) : Reads w I (.iface t u) (.iface t ds)

theorem Reads.mono {w w' : World} {I I' : Nat → Prop} {v : Value} {d : D} (h : Reads w I v d) (hh : ∀ b, I b → w'.heap[b]? = w.heap[b]?)
    (hi : ∀ b, I b → I' b) : Reads w' I' v d := by
  induction h with
  | bool b => exact .bool b
  | int k n => exact .int k n
  | str s => exact .str s
  | raw v h => exact .raw v h
  | slnil a c => exact .slnil a c
  | sl elems vs hI hb hs hcap hc _ ih => exact .sl elems vs (hi _ hI) ((hh _ hI).trans hb) hs hcap hc ih
  | box ds vs hI hb hc _ ih => exact .box ds vs (hi _ hI) ((hh _ hI).trans hb) hc ih
  | fn f caps ds hl _ ih => exact .fn f caps ds hl ih
  | iface t u ds hl _ ih => exact .iface t u ds hl ih

theorem Reads.one {w : World} {I : Nat → Prop} {v : Value} {d : D} (h : Reads w I v d) : v.oneCell' = true := by
  cases h <;> first | rfl | assumption

/-- The memory behind a slice of data. -/
def SlAt (w : World) (I : Nat → Prop) (b off s : Nat) (elems : List (List D)) : Prop :=
  I b ∧ ∃ cs t fr, w.heap[b]? = some (.cells cs t fr) ∧ (∀ x ∈ elems, x.length = s) ∧
    ∀ i j d, at2 elems i j = some d → ∃ v, cs[off + i * s + j]? = some v ∧ Reads w I v d

theorem SlAt.mono {w w' : World} {I I' : Nat → Prop} {b off s : Nat} {elems : List (List D)} (h : SlAt w I b off s elems)
    (hh : ∀ b, I b → w'.heap[b]? = w.heap[b]?) (hi : ∀ b, I b → I' b) : SlAt w' I' b off s elems := by
  obtain ⟨h1, cs, t, fr, h2, h3, h4⟩ := h
  exact ⟨hi _ h1, cs, t, fr, (hh _ h1).trans h2, h3, fun i j d e => let ⟨v, p, q⟩ := h4 i j d e; ⟨v, p, q.mono hh hi⟩⟩

/-- The memory behind a pointer to data. -/
def BoxAt (w : World) (I : Nat → Prop) (b : Nat) (ds : List D) : Prop :=
  I b ∧ ∃ cs t fr, w.heap[b]? = some (.cells cs t fr) ∧ ∀ (i : Nat) d, ds[i]? = some d → ∃ v, cs[i]? = some v ∧ Reads w I v d

theorem BoxAt.mono {w w' : World} {I I' : Nat → Prop} {b : Nat} {ds : List D} (h : BoxAt w I b ds)
    (hh : ∀ b, I b → w'.heap[b]? = w.heap[b]?) (hi : ∀ b, I b → I' b) : BoxAt w' I' b ds := by
  obtain ⟨h1, cs, t, fr, h2, h3⟩ := h
  exact ⟨hi _ h1, cs, t, fr, (hh _ h1).trans h2, fun i d e => let ⟨v, p, q⟩ := h3 i d e; ⟨v, p, q.mono hh hi⟩⟩

theorem Reads.boxAt {w : World} {I : Nat → Prop} {v : Value} {ds : List D} (h : Reads w I v (.box ds)) :
    ∃ b, v = .pointer (some ⟨b, 0, none⟩) ∧ BoxAt w I b ds := by
  cases h with
  | box _ vs hI hb hc hr => exact ⟨_, rfl, hI, _, _, _, hb, fun i d e => ⟨_, hc i d e, hr i d e⟩⟩

def RelS (w : World) (I : Nat → Prop) (M : Mem) (v : Value) : S → Prop
  | .dat d => Reads w I v d
  | .ref o => ∃ e, M[o]? = some (some e) ∧ v = e.val
  | .ptr o k => ∃ e, M[o]? = some (some e) ∧ v = .pointer (some ⟨e.b, k, none⟩)
  | .aptr o i k => ∃ e, M[o]? = some (some e) ∧ i < e.n ∧ v = .pointer (some ⟨e.b, i * e.s + k, none⟩)
  | .eptr z elems i k => ∃ b off s, SlAt w I b off s elems ∧ i < elems.length ∧ v = .pointer (some ⟨b, off + i * z + k, none⟩)
  | .row o k => ∃ e, M[o]? = some (some e) ∧ e.rows[k]? = some v
  | .mptr o i => ∃ e, M[o]? = some (some e) ∧ i < e.n ∧ v = .pointer (some ⟨e.b, i, none⟩)
  | .rptr o r i k => ∃ e b n cap, M[o]? = some (some e) ∧ e.rows[r]? = some (.slice (some ⟨b, 0, none⟩) n cap) ∧ i < n ∧
      v = .pointer (some ⟨b, i * e.s + k, none⟩)
  | .clo f caps => ∃ vs : List Value, v = .func f #[] vs.toArray ∧ vs.length = caps.length ∧
      ∀ (i : Nat) (u : Value) o, vs[i]? = some u → caps[i]? = some o → ∃ e, M[o]? = some (some e) ∧ u = .pointer (some ⟨e.b, 0, none⟩)
  | .bptr ds k => ∃ b, BoxAt w I b ds ∧ v = .pointer (some ⟨b, k, none⟩)
  | .undef => True

/-- M' knows all that M knows. -/
def Mem.le (M M' : Mem) : Prop := ∀ (o : Nat) e, M[o]? = some (some e) → M'[o]? = some (some e)

theorem RelS.mono {w w' : World} {I I' : Nat → Prop} {M M' : Mem} {v : Value} {s : S} (h : RelS w I M v s)
    (hh : ∀ b, I b → w'.heap[b]? = w.heap[b]?) (hi : ∀ b, I b → I' b) (hm : M.le M') : RelS w' I' M' v s := by
  cases s with
  | dat d => exact Reads.mono h hh hi
  | ref o => obtain ⟨e, h1, h2⟩ := h; exact ⟨e, hm _ _ h1, h2⟩
  | ptr o k => obtain ⟨e, h1, h2⟩ := h; exact ⟨e, hm _ _ h1, h2⟩
  | aptr o i k => obtain ⟨e, h1, h2⟩ := h; exact ⟨e, hm _ _ h1, h2⟩
  | eptr z elems i k => obtain ⟨b, off, s, h1, h2⟩ := h; exact ⟨b, off, s, h1.mono hh hi, h2⟩
  | row o k => obtain ⟨e, h1, h2⟩ := h; exact ⟨e, hm _ _ h1, h2⟩
  | mptr o i => obtain ⟨e, h1, h2⟩ := h; exact ⟨e, hm _ _ h1, h2⟩
  | rptr o r i k => obtain ⟨e, b, n, cap, h1, h2⟩ := h; exact ⟨e, b, n, cap, hm _ _ h1, h2⟩
  | clo f caps =>
    obtain ⟨vs, h1, h2, h3⟩ := h
    exact ⟨vs, h1, h2, fun i u o hu ho => let ⟨e, p, q⟩ := h3 i u o hu ho; ⟨e, hm _ _ p, q⟩⟩
  | bptr ds k => obtain ⟨b, h1, h2⟩ := h; exact ⟨b, h1.mono hh hi, h2⟩
  | undef => trivial

/-- Cells against abstract cells. -/
def RelL (w : World) (I : Nat → Prop) (M : Mem) (cs : List Value) (ss : List S) : Prop :=
  cs.length = ss.length ∧ ∀ (i : Nat) v s, cs[i]? = some v → ss[i]? = some s → RelS w I M v s

theorem RelL.mono {w w' : World} {I I' : Nat → Prop} {M M' : Mem} {cs : List Value} {ss : List S} (h : RelL w I M cs ss)
    (hh : ∀ b, I b → w'.heap[b]? = w.heap[b]?) (hi : ∀ b, I b → I' b) (hm : M.le M') : RelL w' I' M' cs ss :=
  ⟨h.1, fun i v s p q => (h.2 i v s p q).mono hh hi hm⟩

def RelE (w : World) (I : Nat → Prop) (M : Mem) (v : Value) : E → Prop
  | .sc s => RelS w I M v s
  | .agg l => ∃ cs, v = .agg cs ∧ RelL w I M cs.toList l

theorem RelE.mono {w w' : World} {I I' : Nat → Prop} {M M' : Mem} {v : Value} {x : E} (h : RelE w I M v x)
    (hh : ∀ b, I b → w'.heap[b]? = w.heap[b]?) (hi : ∀ b, I b → I' b) (hm : M.le M') : RelE w' I' M' v x := by
  cases x with
  | sc s => exact RelS.mono h hh hi hm
  | agg l => obtain ⟨cs, h1, h2⟩ := h; exact ⟨cs, h1, h2.mono hh hi hm⟩

def RelV (w : World) (I : Nat → Prop) (M : Mem) (v : Value) : V → Prop
  | .e x => RelE w I M v x
  | .tup l => ∃ vs : List Value, v = .tuple vs.toArray ∧ vs.length = l.length ∧ ∀ (i : Nat) u x, vs[i]? = some u → l[i]? = some x → RelE w I M u x

theorem RelV.mono {w w' : World} {I I' : Nat → Prop} {M M' : Mem} {v : Value} {x : V} (h : RelV w I M v x)
    (hh : ∀ b, I b → w'.heap[b]? = w.heap[b]?) (hi : ∀ b, I b → I' b) (hm : M.le M') : RelV w' I' M' v x := by
  cases x with
  | e x => exact RelE.mono h hh hi hm
  | tup l => obtain ⟨vs, h1, h2, h3⟩ := h; exact ⟨vs, h1, h2, fun i u x p q => (h3 i u x p q).mono hh hi hm⟩

/-- The block of an owned row. -/
def rowBlk : Value → List Nat
  | .slice (some a) (_ + 1) _ => [a.block]
  | _ => []

def fpE (e : ME) : Obj → List Nat
  | .mat .. => if e.nil then [] else e.b :: e.rows.flatMap rowBlk
  | .arr .. => if e.nil then [] else [e.b]
  | .box _ => [e.b]
  | .fwd _ => []

def fpAt (M : Mem) (h : Heap) (o : Nat) : List Nat :=
  match h[o]?, M[o]? with
  | some (some obj), some (some e) => fpE e obj
  | _, _ => []

/-- One owned row: a slice value over the head of a block of its own. -/
def RowOK (w : World) (I : Nat → Prop) (s : Nat) (v : Value) (elems : List (List D)) : Prop :=
  ∃ a cap, v = .slice a elems.length cap ∧ (elems ≠ [] → ∃ b cs t, a = some ⟨b, 0, none⟩ ∧ w.heap[b]? = some (.cells cs t (0, 0)) ∧
    cs.size = cap * s ∧ elems.length ≤ cap ∧ (∀ x ∈ elems, x.length = s) ∧
    ∀ i j d, at2 elems i j = some d → ∃ v, cs[i * s + j]? = some v ∧ Reads w I v d)

def ObjOK (w : World) (I : Nat → Prop) (M : Mem) (e : ME) : Obj → Prop
  | .fwd s => RelS w I M e.val s
  | .box cells => ∃ cs t, w.heap[e.b]? = some (.cells cs t (0, 0)) ∧ RelL w I M cs.toList cells
  | .arr s elems => e.s = s ∧ e.n = elems.length ∧ (e.nil = true → elems = []) ∧ (e.nil = false → e.n ≤ e.cap ∧ ∃ cs t, w.heap[e.b]? = some (.cells cs t (0, 0)) ∧ cs.size = e.cap * s ∧
      (∀ x ∈ elems, x.length = s) ∧ ∀ i j d, at2 elems i j = some d → ∃ v, cs[i * s + j]? = some v ∧ Reads w I v d)
  | .mat s rows => e.s = s ∧ e.n = rows.length ∧ e.rows.length = rows.length ∧ (e.nil = true → rows = []) ∧ (e.nil = false → e.n ≤ e.cap ∧
      ∃ cs t, w.heap[e.b]? = some (.cells cs t (0, 0)) ∧ cs.size = e.cap ∧ (∀ (k : Nat) v, e.rows[k]? = some v → cs[k]? = some v) ∧
      ∀ (k : Nat) v elems, e.rows[k]? = some v → rows[k]? = some elems → RowOK w I s v elems)

theorem RowOK.mono {w w' : World} {I I' : Nat → Prop} {s : Nat} {v : Value} {elems : List (List D)} (h : RowOK w I s v elems)
    (hh : ∀ b, I b → w'.heap[b]? = w.heap[b]?) (hi : ∀ b, I b → I' b) (hf : ∀ b ∈ rowBlk v, w'.heap[b]? = w.heap[b]?) : RowOK w' I' s v elems := by
  obtain ⟨a, cap, hv, hne⟩ := h
  refine ⟨a, cap, hv, fun hn => ?_⟩
  obtain ⟨b, cs, t, ha, hb, h1, h2, h3, h4⟩ := hne hn
  refine ⟨b, cs, t, ha, ?_, h1, h2, h3, fun i j d e => let ⟨v, p, q⟩ := h4 i j d e; ⟨v, p, q.mono hh hi⟩⟩
  rw [hf b ?_, hb]
  subst hv; subst ha
  cases elems with
  | nil => exact absurd rfl hn
  | cons x l => simp [rowBlk]

theorem ObjOK.mono {w w' : World} {I I' : Nat → Prop} {M M' : Mem} {e : ME} {obj : Obj} (h : ObjOK w I M e obj)
    (hh : ∀ b, I b → w'.heap[b]? = w.heap[b]?) (hi : ∀ b, I b → I' b) (hm : M.le M') (hf : ∀ b ∈ fpE e obj, w'.heap[b]? = w.heap[b]?) :
    ObjOK w' I' M' e obj := by
  cases obj with
  | fwd x => exact RelS.mono (s := x) h hh hi hm
  | box cells =>
    obtain ⟨cs, t, h1, h2⟩ := h
    exact ⟨cs, t, (hf _ (by simp [fpE])).trans h1, h2.mono hh hi hm⟩
  | arr s elems =>
    obtain ⟨h1, h2, h0, h⟩ := h
    refine ⟨h1, h2, h0, fun hn => ?_⟩
    obtain ⟨h3, cs, t, h4, h5, h6, h7⟩ := h hn
    exact ⟨h3, cs, t, (hf _ (by simp [fpE, hn])).trans h4, h5, h6, fun i j d e => let ⟨v, p, q⟩ := h7 i j d e; ⟨v, p, q.mono hh hi⟩⟩
  | mat s rows =>
    obtain ⟨h1, h2, h4, h0, h⟩ := h
    refine ⟨h1, h2, h4, h0, fun hn => ?_⟩
    obtain ⟨h3, cs, t, h5, h6, h7, h8⟩ := h hn
    refine ⟨h3, cs, t, (hf _ (by simp [fpE, hn])).trans h5, h6, h7, fun k v elems p q => (h8 k v elems p q).mono hh hi fun b hb => hf b ?_⟩
    simp only [fpE, hn, List.mem_cons, List.mem_flatMap, Bool.false_eq_true, if_false]
    exact .inr ⟨v, List.mem_of_getElem? p, hb⟩

/-- The abstract state: known slots, objects, the number of slots. -/
structure St where
  t : List (Nat × V)
  h : Heap
  n : Nat
  deriving Inhabited

structure SimH (I : Nat → Prop) (M : Mem) (h : Heap) (w : World) : Prop where
  len : M.length = h.length
  obj : ∀ (o : Nat) obj, h[o]? = some (some obj) → ∃ e, M[o]? = some (some e) ∧ ObjOK w I M e obj
  disj : ∀ o1 o2 b, b ∈ fpAt M h o1 → b ∈ fpAt M h o2 → o1 = o2
  nd : ∀ o, (fpAt M h o).Nodup
  lt : ∀ o b, b ∈ fpAt M h o → b < w.heap.size
  imm : ∀ b, I b → b < w.heap.size ∧ ∀ o, b ∉ fpAt M h o

structure Sim (I : Nat → Prop) (M : Mem) (σ : St) (a : Act) (w : World) : Prop extends SimH I M σ.h w where
  tm : ∀ i v, (i, v) ∈ σ.t → RelV w I M (a.tmps.getD i undef) v
  size : a.tmps.size = σ.n
  defers : a.defers = []

/-- What has become of memory: from (I, M, h, w) to (I', M', h', w'), where only the objects of 'fp' may have been written. -/
structure Ext (fp : Nat → Prop) (I : Nat → Prop) (w : World) (I' : Nat → Prop) (w' : World) : Prop where
  os : w'.os = w.os
  tape : w'.tape = w.tape
  output : w'.output = w.output
  size : w.heap.size ≤ w'.heap.size
  heap : ∀ b, b < w.heap.size → ¬ fp b → w'.heap[b]? = w.heap[b]?
  imm : ∀ b, I b → I' b
  immNew : ∀ b, I' b → I b ∨ w.heap.size ≤ b ∨ fp b

theorem Ext.refl (fp : Nat → Prop) (I : Nat → Prop) (w : World) : Ext fp I w I w :=
  ⟨rfl, rfl, rfl, Nat.le_refl _, fun _ _ _ => rfl, fun _ h => h, fun _ h => .inl h⟩

/-- Two steps, where the second may write what the first might have, and what is new. -/
theorem Ext.trans {fp fp' I I₁ I₂ : Nat → Prop} {w w₁ w₂ : World} (h : Ext fp I w I₁ w₁) (k : Ext fp' I₁ w₁ I₂ w₂)
    (hf : ∀ b, fp' b → fp b ∨ w.heap.size ≤ b) : Ext fp I w I₂ w₂ := by
  refine ⟨k.os.trans h.os, k.tape.trans h.tape, k.output.trans h.output, Nat.le_trans h.size k.size, fun b hb hn => ?_, fun b hb => k.imm b (h.imm b hb), fun b hb => ?_⟩
  · rw [k.heap b (Nat.lt_of_lt_of_le hb h.size) (fun hp => by rcases hf b hp with h1 | h1; exact hn h1; omega), h.heap b hb hn]
  · rcases k.immNew b hb with h1 | h1 | h1
    · exact h.immNew b h1
    · exact .inr (.inl (Nat.le_trans h.size h1))
    · rcases hf b h1 with h2 | h2
      · exact .inr (.inr h2)
      · exact .inr (.inl h2)

theorem Ext.mono {fp fp' I I₁ : Nat → Prop} {w w₁ : World} (h : Ext fp I w I₁ w₁) (hf : ∀ b, fp b → fp' b) : Ext fp' I w I₁ w₁ :=
  ⟨h.os, h.tape, h.output, h.size, fun b hb hn => h.heap b hb fun hp => hn (hf b hp), h.imm, fun b hb => (h.immNew b hb).imp id (Or.imp id (hf b))⟩

/-- The blocks of all live objects. -/
def fpAll (M : Mem) (h : Heap) (b : Nat) : Prop := ∃ o, b ∈ fpAt M h o

end Go.AM
