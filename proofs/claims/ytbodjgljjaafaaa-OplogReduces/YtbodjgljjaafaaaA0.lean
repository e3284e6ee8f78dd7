/- The abstract machine: data, values, objects, and how they stand to the model's memory. -/
import Derived.Calls
import Derived.Orders
import Derived.Below
import Derived.KernelRfl
import Derived.WalkKit
namespace Go.AM
inductive D where
 | bool (b:Bool)
 | int (k : IntKind) (n:Int)
 | str (s : ByteArray)
 | sl (elems : List (List D))
 | box (cells : List D)
 | fn (f : Fn) (caps : List D)
 | iface (t : TypeId) (cells : List D)
 | raw (v : Value)
 deriving Inhabited
abbrev DL := List (List D)
abbrev DLL := List (List (List D))
inductive S where
 | dat (d : D)
 | ref (o:Nat)
 | ptr (o k:Nat)
 | aptr (o i k:Nat)
 | eptr (z:Nat) (elems : List (List D)) (i k:Nat)
 | row (o k:Nat)
 | mptr (o i:Nat)
 | rptr (o r i k:Nat)
 | clo (f : Fn) (caps : List Nat)
 | bptr (ds : List D) (k:Nat)
 | refb (o n:Nat)
 | undef
 deriving Inhabited
inductive E where
 | sc (s : S)
 | agg (l : List S)
 deriving Inhabited
inductive V where
 | e (x : E)
 | tup (l : List E)
 deriving Inhabited
inductive Obj where
 | box (cells : List S)
 | arr (s:Nat) (elems : List (List D))
 | mat (s:Nat) (rows : List (List (List D)))
 | fwd (s : S)
 | part (s:Nat) (rows : List (List (List D))) (i:Nat) (x : Option Nat)
 deriving Inhabited
abbrev Heap := List (Option Obj)
structure ME where
 nil:Bool := false
 b : Nat
 n : Nat
 cap : Nat
 s : Nat
 rows : List Value
abbrev Mem := List (Option ME)
def ME.val (e : ME) : Value := if e.nil then .slice none 0 0 else .slice (some ⟨e.b, 0, none⟩) e.n e.cap
def at2 {α : Type} (l : List (List α)) (i j:Nat) : Option α := (l[i]?).bind (·[j]?)
inductive Reads (w:World) (I:Nat → Prop) : Value → D → Prop where
 | bool (b:Bool) : Reads w I (.bool b) (.bool b)
 | int (k : IntKind) (n:Int) : Reads w I (.int k n) (.int k n)
 | str (s : ByteArray) : Reads w I (.string s) (.str s)
 | raw (v : Value) (h : v.oneCell' = true) : Reads w I v (.raw v)
 | slnil (a : Option Addr) (cap:Nat) : Reads w I (.slice a 0 cap) (.sl [])
 | sl {b off cap s : Nat} {cs : Array Value} {t : TypeId} {fr:Nat × Nat} (elems : List (List D)) (vs:Nat → Nat → Value)
     (hI : I b) (hb : w.heap[b]? = some (.cells cs t fr)) (hs : ∀ x ∈ elems, x.length = s) (hcap : elems.length ≤ cap)
     (hc : ∀ i j d, at2 elems i j = some d → cs[off + i * s + j]? = some (vs i j))
     (hr : ∀ i j d, at2 elems i j = some d → Reads w I (vs i j) d) :
     Reads w I (.slice (some ⟨b, off, none⟩) elems.length cap) (.sl elems)
 | box {b : Nat} {cs : Array Value} {t : TypeId} {fr:Nat × Nat} (ds : List D) (vs:Nat → Value)
     (hI : I b) (hb : w.heap[b]? = some (.cells cs t fr))
     (hc : ∀ i d, ds[i]? = some d → cs[i]? = some (vs i)) (hr : ∀ i d, ds[i]? = some d → Reads w I (vs i) d) :
     Reads w I (.pointer (some ⟨b, 0, none⟩)) (.box ds)
 | fn (f : Fn) (caps : List Value) (ds : List D) (hl : caps.length = ds.length)
     (hr : ∀ (i:Nat) v d, caps[i]? = some v → ds[i]? = some d → Reads w I v d) : Reads w I (.func f #[] caps.toArray) (.fn f ds)
 | iface (t : TypeId) (u : Value) (ds : List D) (hl : u.cells.size = ds.length)
     (hr : ∀ (i:Nat) v d, u.cells[i]? = some v → ds[i]? = some d → Reads w I v d) : Reads w I (.iface t u) (.iface t ds)
theorem Reads.mono {w w' : World} {I I':Nat → Prop} {v : Value} {d : D} (h : Reads w I v d) (hh : ∀ b, I b → w'.heap[b]? = w.heap[b]?)
   (hi : ∀ b, I b → I' b) : Reads w' I' v d := by
 induction h with
 | bool b => exact .bool b
 | int k n => exact .int k n
 | str s => exact .str s
 | raw v h => exact .raw v h
 | slnil a c => exact .slnil a c
 | sl elems vs hI hb hs hcap hc _ ih => exact .sl elems vs (hi _ hI) ((hh _ hI).trans hb) hs hcap hc ih
 | box ds vs hI hb hc _ ih => exact .box ds vs (hi _ hI) ((hh _ hI).trans hb) hc ih
 | fn f caps ds hl _ ih => exact .fn f caps ds hl ih
 | iface t u ds hl _ ih => exact .iface t u ds hl ih
theorem Reads.one {w : World} {I:Nat → Prop} {v : Value} {d : D} (h : Reads w I v d) : v.oneCell' = true := by
 cases h <;> first | rfl | assumption
def SlAt (w:World) (I:Nat → Prop) (b off s:Nat) (elems : List (List D)) : Prop :=
 I b ∧ ∃ cs t fr, w.heap[b]? = some (.cells cs t fr) ∧ (∀ x ∈ elems, x.length = s) ∧
   ∀ i j d, at2 elems i j = some d → ∃ v, cs[off + i * s + j]? = some v ∧ Reads w I v d
theorem SlAt.mono {w w' : World} {I I':Nat → Prop} {b off s : Nat} {elems : List (List D)} (h : SlAt w I b off s elems)
   (hh : ∀ b, I b → w'.heap[b]? = w.heap[b]?) (hi : ∀ b, I b → I' b) : SlAt w' I' b off s elems := by
 obtain ⟨h1, cs, t, fr, h2, h3, h4⟩ := h
 exact ⟨hi _ h1, cs, t, fr, (hh _ h1).trans h2, h3, fun i j d e => let ⟨v, p, q⟩ := h4 i j d e; ⟨v, p, q.mono hh hi⟩⟩
def BoxAt (w:World) (I:Nat → Prop) (b:Nat) (ds : List D) : Prop :=
 I b ∧ ∃ cs t fr, w.heap[b]? = some (.cells cs t fr) ∧ ∀ (i:Nat) d, ds[i]? = some d → ∃ v, cs[i]? = some v ∧ Reads w I v d
theorem BoxAt.mono {w w' : World} {I I':Nat → Prop} {b : Nat} {ds : List D} (h : BoxAt w I b ds)
   (hh : ∀ b, I b → w'.heap[b]? = w.heap[b]?) (hi : ∀ b, I b → I' b) : BoxAt w' I' b ds := by
 obtain ⟨h1, cs, t, fr, h2, h3⟩ := h
 exact ⟨hi _ h1, cs, t, fr, (hh _ h1).trans h2, fun i d e => let ⟨v, p, q⟩ := h3 i d e; ⟨v, p, q.mono hh hi⟩⟩
theorem Reads.boxAt {w : World} {I:Nat → Prop} {v : Value} {ds : List D} (h : Reads w I v (.box ds)) :
   ∃ b, v = .pointer (some ⟨b, 0, none⟩) ∧ BoxAt w I b ds := by
 cases h with
 | box _ vs hI hb hc hr => exact ⟨_, rfl, hI, _, _, _, hb, fun i d e => ⟨_, hc i d e, hr i d e⟩⟩
def RelS (w:World) (I:Nat → Prop) (M:Mem) (v : Value) : S → Prop
 | .dat d => Reads w I v d
 | .ref o => ∃ e, M[o]? = some (some e) ∧ v = e.val
 | .ptr o k => ∃ e, M[o]? = some (some e) ∧ v = .pointer (some ⟨e.b, k, none⟩)
 | .aptr o i k => ∃ e, M[o]? = some (some e) ∧ i < e.n ∧ v = .pointer (some ⟨e.b, i * e.s + k, none⟩)
 | .eptr z elems i k => ∃ b off s, SlAt w I b off s elems ∧ i < elems.length ∧ v = .pointer (some ⟨b, off + i * z + k, none⟩)
 | .row o k => ∃ e, M[o]? = some (some e) ∧ e.rows[k]? = some v
 | .mptr o i => ∃ e, M[o]? = some (some e) ∧ i < e.n ∧ v = .pointer (some ⟨e.b, i, none⟩)
 | .rptr o r i k => ∃ e b n cap, M[o]? = some (some e) ∧ e.rows[r]? = some (.slice (some ⟨b, 0, none⟩) n cap) ∧ i < n ∧
     v = .pointer (some ⟨b, i * e.s + k, none⟩)
 | .clo f caps => ∃ vs : List Value, v = .func f #[] vs.toArray ∧ vs.length = caps.length ∧
     ∀ (i:Nat) (u : Value) o, vs[i]? = some u → caps[i]? = some o → ∃ e, M[o]? = some (some e) ∧ u = .pointer (some ⟨e.b, 0, none⟩)
 | .bptr ds k => ∃ b, BoxAt w I b ds ∧ v = .pointer (some ⟨b, k, none⟩)
 | .refb o n => ∃ e, M[o]? = some (some e) ∧ v = .slice (some ⟨e.b, 0, none⟩) n e.cap ∧ n ≤ e.cap
 | .undef => True
def Mem.le (M M':Mem) : Prop := ∀ (o:Nat) e, M[o]? = some (some e) → M'[o]? = some (some e)
theorem RelS.mono {w w' : World} {I I':Nat → Prop} {M M' : Mem} {v : Value} {s : S} (h : RelS w I M v s)
   (hh : ∀ b, I b → w'.heap[b]? = w.heap[b]?) (hi : ∀ b, I b → I' b) (hm : M.le M') : RelS w' I' M' v s := by
 cases s with
 | dat d => exact Reads.mono h hh hi
 | ref o => obtain ⟨e, h1, h2⟩ := h; exact ⟨e, hm _ _ h1, h2⟩
 | ptr o k => obtain ⟨e, h1, h2⟩ := h; exact ⟨e, hm _ _ h1, h2⟩
 | aptr o i k => obtain ⟨e, h1, h2⟩ := h; exact ⟨e, hm _ _ h1, h2⟩
 | eptr z elems i k => obtain ⟨b, off, s, h1, h2⟩ := h; exact ⟨b, off, s, h1.mono hh hi, h2⟩
 | row o k => obtain ⟨e, h1, h2⟩ := h; exact ⟨e, hm _ _ h1, h2⟩
 | mptr o i => obtain ⟨e, h1, h2⟩ := h; exact ⟨e, hm _ _ h1, h2⟩
 | rptr o r i k => obtain ⟨e, b, n, cap, h1, h2⟩ := h; exact ⟨e, b, n, cap, hm _ _ h1, h2⟩
 | clo f caps =>
   obtain ⟨vs, h1, h2, h3⟩ := h
   exact ⟨vs, h1, h2, fun i u o hu ho => let ⟨e, p, q⟩ := h3 i u o hu ho; ⟨e, hm _ _ p, q⟩⟩
 | bptr ds k => obtain ⟨b, h1, h2⟩ := h; exact ⟨b, h1.mono hh hi, h2⟩
 | refb o n => obtain ⟨e, h1, h2⟩ := h; exact ⟨e, hm _ _ h1, h2⟩
 | undef => trivial
def RelL (w:World) (I:Nat → Prop) (M:Mem) (cs : List Value) (ss : List S) : Prop :=
 cs.length = ss.length ∧ ∀ (i:Nat) v s, cs[i]? = some v → ss[i]? = some s → RelS w I M v s
theorem RelL.mono {w w' : World} {I I':Nat → Prop} {M M' : Mem} {cs : List Value} {ss : List S} (h : RelL w I M cs ss)
   (hh : ∀ b, I b → w'.heap[b]? = w.heap[b]?) (hi : ∀ b, I b → I' b) (hm : M.le M') : RelL w' I' M' cs ss :=
 ⟨h.1, fun i v s p q => (h.2 i v s p q).mono hh hi hm⟩
def RelP (w:World) (I:Nat → Prop) (M:Mem) (cs : List Value) (ss : List S) : Prop :=
 ss.length ≤ cs.length ∧ ∀ (i:Nat) v s, cs[i]? = some v → ss[i]? = some s → RelS w I M v s
theorem RelL.p {w : World} {I:Nat → Prop} {M : Mem} {cs : List Value} {ss : List S} (h : RelL w I M cs ss) : RelP w I M cs ss := ⟨Nat.le_of_eq h.1.symm, h.2⟩
theorem RelP.mono {w w' : World} {I I':Nat → Prop} {M M' : Mem} {cs : List Value} {ss : List S} (h : RelP w I M cs ss)
   (hh : ∀ b, I b → w'.heap[b]? = w.heap[b]?) (hi : ∀ b, I b → I' b) (hm : M.le M') : RelP w' I' M' cs ss :=
 ⟨h.1, fun i v s p q => (h.2 i v s p q).mono hh hi hm⟩
theorem RelP.take {w : World} {I:Nat → Prop} {M : Mem} {cs : List Value} {ss : List S} (h : RelP w I M cs ss) : RelL w I M (cs.take ss.length) ss :=
 ⟨by rw [List.length_take]; exact Nat.min_eq_left h.1, fun i v s p q => h.2 i v s (by rw [List.getElem?_take] at p; split at p <;> first | exact p | simp at p) q⟩
def RelE (w:World) (I:Nat → Prop) (M:Mem) (v : Value) : E → Prop
 | .sc s => RelS w I M v s
 | .agg l => ∃ cs, v = .agg cs ∧ RelL w I M cs.toList l
theorem RelE.mono {w w' : World} {I I':Nat → Prop} {M M' : Mem} {v : Value} {x : E} (h : RelE w I M v x)
   (hh : ∀ b, I b → w'.heap[b]? = w.heap[b]?) (hi : ∀ b, I b → I' b) (hm : M.le M') : RelE w' I' M' v x := by
 cases x with
 | sc s => exact RelS.mono h hh hi hm
 | agg l => obtain ⟨cs, h1, h2⟩ := h; exact ⟨cs, h1, h2.mono hh hi hm⟩
def RelV (w:World) (I:Nat → Prop) (M:Mem) (v : Value) : V → Prop
 | .e x => RelE w I M v x
 | .tup l => ∃ vs : List Value, v = .tuple vs.toArray ∧ vs.length = l.length ∧ ∀ (i:Nat) u x, vs[i]? = some u → l[i]? = some x → RelE w I M u x
theorem RelV.mono {w w' : World} {I I':Nat → Prop} {M M' : Mem} {v : Value} {x : V} (h : RelV w I M v x)
   (hh : ∀ b, I b → w'.heap[b]? = w.heap[b]?) (hi : ∀ b, I b → I' b) (hm : M.le M') : RelV w' I' M' v x := by
 cases x with
 | e x => exact RelE.mono h hh hi hm
 | tup l => obtain ⟨vs, h1, h2, h3⟩ := h; exact ⟨vs, h1, h2, fun i u x p q => (h3 i u x p q).mono hh hi hm⟩
def rowBlk : Value → List Nat
 | .slice (some a) _ _ => [a.block]
 | _ => []
def fpE (e : ME) : Obj → List Nat
 | .mat .. => if e.nil then [] else e.b :: e.rows.flatMap rowBlk
 | .arr .. => if e.nil then [] else [e.b]
 | .box _ => [e.b]
 | .fwd _ => []
 | .part .. => e.b :: e.rows.flatMap rowBlk
def fpAt (M:Mem) (h:Heap) (o:Nat) : List Nat :=
 match h[o]?, M[o]? with
 | some (some obj), some (some e) => fpE e obj
 | _, _ => []
def RowOK (w:World) (I:Nat → Prop) (s:Nat) (v : Value) (elems : List (List D)) : Prop :=
 ∃ a cap, v = .slice a elems.length cap ∧ (a = none → elems = [] ∧ cap = 0) ∧ (a ≠ none → ∃ b cs t, a = some ⟨b, 0, none⟩ ∧ w.heap[b]? = some (.cells cs t (0, 0)) ∧
   cs.size = cap * s ∧ elems.length ≤ cap ∧ (∀ x ∈ elems, x.length = s) ∧
   ∀ i j d, at2 elems i j = some d → ∃ v, cs[i * s + j]? = some v ∧ Reads w I v d)
theorem RowOK.ne {w : World} {I:Nat → Prop} {s : Nat} {v : Value} {elems : List (List D)} (h : RowOK w I s v elems) :
   ∃ a cap, v = .slice a elems.length cap ∧ (elems ≠ [] → ∃ b cs t, a = some ⟨b, 0, none⟩ ∧ w.heap[b]? = some (.cells cs t (0, 0)) ∧
     cs.size = cap * s ∧ elems.length ≤ cap ∧ (∀ x ∈ elems, x.length = s) ∧
     ∀ i j d, at2 elems i j = some d → ∃ v, cs[i * s + j]? = some v ∧ Reads w I v d) := by
 obtain ⟨a, cap, h1, h2, h3⟩ := h
 exact ⟨a, cap, h1, fun hn => h3 fun h0 => hn (h2 h0).1⟩
def ObjOK (w:World) (I:Nat → Prop) (M:Mem) (e : ME) : Obj → Prop
 | .fwd s => RelS w I M e.val s
 | .part s rows i x => e.s = s ∧ e.n = rows.length ∧ e.rows.length = rows.length ∧ e.nil = false ∧ i < e.n ∧ e.n ≤ e.cap ∧
     ∃ cs t, w.heap[e.b]? = some (.cells cs t (0, 0)) ∧ cs.size = e.cap ∧ (∀ (k:Nat) v, e.rows[k]? = some v → k ≠ i → cs[k]? = some v) ∧
     (∀ (j:Nat) v, x = some j → e.rows[j]? = some v → cs[i]? = some v) ∧
     ∀ (k:Nat) v elems, e.rows[k]? = some v → rows[k]? = some elems → RowOK w I s v elems
 | .box cells => ∃ cs t, w.heap[e.b]? = some (.cells cs t (0, 0)) ∧ RelP w I M cs.toList cells
 | .arr s elems => e.s = s ∧ e.n = elems.length ∧ (e.nil = true → elems = []) ∧ (e.nil = false → e.n ≤ e.cap ∧ ∃ cs t, w.heap[e.b]? = some (.cells cs t (0, 0)) ∧ cs.size = e.cap * s ∧
     (∀ x ∈ elems, x.length = s) ∧ ∀ i j d, at2 elems i j = some d → ∃ v, cs[i * s + j]? = some v ∧ Reads w I v d)
 | .mat s rows => e.s = s ∧ e.n = rows.length ∧ e.rows.length = rows.length ∧ (e.nil = true → rows = []) ∧ (e.nil = false → e.n ≤ e.cap ∧
     ∃ cs t, w.heap[e.b]? = some (.cells cs t (0, 0)) ∧ cs.size = e.cap ∧ (∀ (k:Nat) v, e.rows[k]? = some v → cs[k]? = some v) ∧
     ∀ (k:Nat) v elems, e.rows[k]? = some v → rows[k]? = some elems → RowOK w I s v elems)
theorem RowOK.mono {w w' : World} {I I':Nat → Prop} {s : Nat} {v : Value} {elems : List (List D)} (h : RowOK w I s v elems)
   (hh : ∀ b, I b → w'.heap[b]? = w.heap[b]?) (hi : ∀ b, I b → I' b) (hf : ∀ b ∈ rowBlk v, w'.heap[b]? = w.heap[b]?) : RowOK w' I' s v elems := by
 obtain ⟨a, cap, hv, h0, hne⟩ := h
 refine ⟨a, cap, hv, h0, fun hn => ?_⟩
 obtain ⟨b, cs, t, ha, hb, h1, h2, h3, h4⟩ := hne hn
 refine ⟨b, cs, t, ha, ?_, h1, h2, h3, fun i j d e => let ⟨v, p, q⟩ := h4 i j d e; ⟨v, p, q.mono hh hi⟩⟩
 rw [hf b ?_, hb]
 subst hv; subst ha
 simp [rowBlk]
theorem ObjOK.mono {w w' : World} {I I':Nat → Prop} {M M' : Mem} {e : ME} {obj : Obj} (h : ObjOK w I M e obj)
   (hh : ∀ b, I b → w'.heap[b]? = w.heap[b]?) (hi : ∀ b, I b → I' b) (hm : M.le M') (hf : ∀ b ∈ fpE e obj, w'.heap[b]? = w.heap[b]?) :
   ObjOK w' I' M' e obj := by
 cases obj with
 | fwd x => exact RelS.mono (s := x) h hh hi hm
 | box cells =>
   obtain ⟨cs, t, h1, h2⟩ := h
   exact ⟨cs, t, (hf _ (by simp [fpE])).trans h1, h2.mono hh hi hm⟩
 | arr s elems =>
   obtain ⟨h1, h2, h0, h⟩ := h
   refine ⟨h1, h2, h0, fun hn => ?_⟩
   obtain ⟨h3, cs, t, h4, h5, h6, h7⟩ := h hn
   exact ⟨h3, cs, t, (hf _ (by simp [fpE, hn])).trans h4, h5, h6, fun i j d e => let ⟨v, p, q⟩ := h7 i j d e; ⟨v, p, q.mono hh hi⟩⟩
 | mat s rows =>
   obtain ⟨h1, h2, h4, h0, h⟩ := h
   refine ⟨h1, h2, h4, h0, fun hn => ?_⟩
   obtain ⟨h3, cs, t, h5, h6, h7, h8⟩ := h hn
   refine ⟨h3, cs, t, (hf _ (by simp [fpE, hn])).trans h5, h6, h7, fun k v elems p q => (h8 k v elems p q).mono hh hi fun b hb => hf b ?_⟩
   simp only [fpE, hn, List.mem_cons, List.mem_flatMap, Bool.false_eq_true, if_false]
   exact .inr ⟨v, List.mem_of_getElem? p, hb⟩
 | part s rows i x =>
   obtain ⟨h1, h2, h4, h0, hi', h3, cs, t, h5, h6, h7, h9, h8⟩ := h
   refine ⟨h1, h2, h4, h0, hi', h3, cs, t, (hf _ (by simp [fpE])).trans h5, h6, h7, h9, fun k v elems p q => (h8 k v elems p q).mono hh hi fun b hb => hf b ?_⟩
   simp only [fpE, List.mem_cons, List.mem_flatMap]
   exact .inr ⟨v, List.mem_of_getElem? p, hb⟩
structure St where
 t : List (Nat × V)
 h : Heap
 n : Nat
 deriving Inhabited
structure SimH (I:Nat → Prop) (M:Mem) (h:Heap) (w:World) : Prop where
 len : M.length = h.length
 obj : ∀ (o:Nat) obj, h[o]? = some (some obj) → ∃ e, M[o]? = some (some e) ∧ ObjOK w I M e obj
 disj : ∀ o1 o2 b, b ∈ fpAt M h o1 → b ∈ fpAt M h o2 → o1 = o2
 nd : ∀ o, (fpAt M h o).Nodup
 lt : ∀ o b, b ∈ fpAt M h o → b < w.heap.size
 imm : ∀ b, I b → b < w.heap.size ∧ ∀ o, b ∉ fpAt M h o
structure Sim (I:Nat → Prop) (M:Mem) (σ:St) (a:Act) (w:World) : Prop extends SimH I M σ.h w where
 tm : ∀ i v, (i, v) ∈ σ.t → RelV w I M (a.tmps.getD i undef) v
 size : a.tmps.size = σ.n
 defers : a.defers = []
structure Ext (fp:Nat → Prop) (I:Nat → Prop) (w:World) (I':Nat → Prop) (w':World) : Prop where
 os : w'.os = w.os
 tape : w'.tape = w.tape
 output : w'.output = w.output
 size : w.heap.size ≤ w'.heap.size
 heap : ∀ b, b < w.heap.size → ¬ fp b → w'.heap[b]? = w.heap[b]?
 imm : ∀ b, I b → I' b
 immNew : ∀ b, I' b → I b ∨ w.heap.size ≤ b ∨ fp b
theorem Ext.refl (fp:Nat → Prop) (I:Nat → Prop) (w:World) : Ext fp I w I w :=
 ⟨rfl, rfl, rfl, Nat.le_refl _, fun _ _ _ => rfl, fun _ h => h, fun _ h => .inl h⟩
theorem Ext.trans {fp fp' I I₁ I₂:Nat → Prop} {w w₁ w₂ : World} (h : Ext fp I w I₁ w₁) (k : Ext fp' I₁ w₁ I₂ w₂)
   (hf : ∀ b, fp' b → fp b ∨ w.heap.size ≤ b) : Ext fp I w I₂ w₂ := by
 refine ⟨k.os.trans h.os, k.tape.trans h.tape, k.output.trans h.output, Nat.le_trans h.size k.size, fun b hb hn => ?_, fun b hb => k.imm b (h.imm b hb), fun b hb => ?_⟩
 · rw [k.heap b (Nat.lt_of_lt_of_le hb h.size) (fun hp => by rcases hf b hp with h1 | h1; exact hn h1; omega), h.heap b hb hn]
 · rcases k.immNew b hb with h1 | h1 | h1
   · exact h.immNew b h1
   · exact .inr (.inl (Nat.le_trans h.size h1))
   · rcases hf b h1 with h2 | h2
     · exact .inr (.inr h2)
     · exact .inr (.inl h2)
theorem Ext.mono {fp fp' I I₁:Nat → Prop} {w w₁ : World} (h : Ext fp I w I₁ w₁) (hf : ∀ b, fp b → fp' b) : Ext fp' I w I₁ w₁ :=
 ⟨h.os, h.tape, h.output, h.size, fun b hb hn => h.heap b hb fun hp => hn (hf b hp), h.imm, fun b hb => (h.immNew b hb).imp id (Or.imp id (hf b))⟩
def fpAll (M:Mem) (h:Heap) (b:Nat) : Prop := ∃ o, b ∈ fpAt M h o
end Go.AM
/- The abstract machine: effects of one operation, and how they keep the tie between the abstract state and memory. -/
namespace Go.AM
def get (t : List (Nat × V)) (i:Nat) : Option V :=
 match t with
 | [] => none
 | (j, v) :: t => if j == i then some v else get t i
def setT (t : List (Nat × V)) (dst : Option Nat) (v:V) : List (Nat × V) :=
 match dst with
 | none => t
 | some d => (d, v) :: t.filter (fun x => x.1 != d)
theorem get_mem : ∀ {t : List (Nat × V)} {i : Nat} {v : V}, get t i = some v → (i, v) ∈ t
 | [], _, _, h => by simp [get] at h
 | (j, u) :: t, i, v, h => by
   simp only [get] at h
   split at h
   · rename_i hj; simp at hj h; subst hj; subst h; exact List.mem_cons_self
   · exact List.mem_cons_of_mem _ (get_mem h)
structure Eff (ids : List Nat) (I:Nat → Prop) (M:Mem) (h:Heap) (w:World) (I':Nat → Prop) (M':Mem) (h':Heap) (w':World) : Prop where
 len : M'.length = M.length
 hlen : h'.length = h.length
 mono : M.le M'
 keepM : ∀ o, o ∉ ids → M'[o]? = M[o]?
 keepH : ∀ o, o ∉ ids → h'[o]? = h[o]?
 os : w'.os = w.os
 tape : w'.tape = w.tape
 output : w'.output = w.output
 size : w.heap.size ≤ w'.heap.size
 heap : ∀ b, b < w.heap.size → (∀ o ∈ ids, b ∉ fpAt M h o) → w'.heap[b]? = w.heap[b]?
 imm : ∀ b, I b → I' b
 immNew : ∀ b, I' b → b < w'.heap.size ∧ (I b ∨ ((w.heap.size ≤ b ∨ ∃ o ∈ ids, b ∈ fpAt M h o) ∧ ∀ o ∈ ids, b ∉ fpAt M' h' o))
 obj : ∀ o ∈ ids, ∀ obj, h'[o]? = some (some obj) → ∃ e, M'[o]? = some (some e) ∧ ObjOK w' I' M' e obj
 disj : ∀ o1 o2 b, o1 ∈ ids → o2 ∈ ids → b ∈ fpAt M' h' o1 → b ∈ fpAt M' h' o2 → o1 = o2
 nd : ∀ o ∈ ids, (fpAt M' h' o).Nodup
 lt : ∀ o b, o ∈ ids → b ∈ fpAt M' h' o → b < w'.heap.size ∧ (w.heap.size ≤ b ∨ ∃ o ∈ ids, b ∈ fpAt M h o)
theorem fpAt_congr {M M' : Mem} {h h' : Heap} {o : Nat} (hM : M'[o]? = M[o]?) (hh : h'[o]? = h[o]?) : fpAt M' h' o = fpAt M h o := by
 simp only [fpAt, hM, hh]
theorem SimH.heapI {I:Nat → Prop} {M : Mem} {h : Heap} {w : World} (s : SimH I M h w) {ids : List Nat} {I':Nat → Prop} {M' : Mem} {h' : Heap} {w' : World}
   (e : Eff ids I M h w I' M' h' w') : ∀ b, I b → w'.heap[b]? = w.heap[b]? :=
 fun b hb => e.heap b (s.imm b hb).1 fun o _ => (s.imm b hb).2 o
theorem SimH.eff {I:Nat → Prop} {M : Mem} {h : Heap} {w : World} (s : SimH I M h w) {ids : List Nat} {I':Nat → Prop} {M' : Mem} {h' : Heap} {w' : World}
   (e : Eff ids I M h w I' M' h' w') : SimH I' M' h' w' := by
 have hI := s.heapI e
 have old : ∀ o, o ∉ ids → fpAt M' h' o = fpAt M h o := fun o ho => fpAt_congr (e.keepM o ho) (e.keepH o ho)
 have apart : ∀ o b, o ∉ ids → b ∈ fpAt M' h' o → ∀ o' ∈ ids, b ∉ fpAt M h o' := fun o b ho hb o' ho' hb' => by
   rw [old o ho] at hb
   have := s.disj o o' b hb hb'
   exact ho (this ▸ ho')
 refine ⟨by rw [e.len, e.hlen, s.len], fun o obj ho => ?_, fun o1 o2 b h1 h2 => ?_, fun o => ?_, fun o b hb => ?_, fun b hb => ⟨(e.immNew b hb).1, fun o hbo => ?_⟩⟩
 · by_cases hin : o ∈ ids
   · exact e.obj o hin obj ho
   · rw [e.keepH o hin] at ho
     obtain ⟨m, hm, hok⟩ := s.obj o obj ho
     refine ⟨m, by rw [e.keepM o hin]; exact hm, hok.mono hI e.imm e.mono fun b hb => e.heap b ?_ ?_⟩
     · exact s.lt o b (by simp only [fpAt, ho, hm]; exact hb)
     · exact fun o' ho' hb' => hin ((s.disj o o' b (by simp only [fpAt, ho, hm]; exact hb) hb') ▸ ho')
 · by_cases i1 : o1 ∈ ids <;> by_cases i2 : o2 ∈ ids
   · exact e.disj o1 o2 b i1 i2 h1 h2
   · exfalso
     obtain ⟨_, hor⟩ := e.lt o1 b i1 h1
     rcases hor with hge | ⟨o', ho', hb'⟩
     · rw [old o2 i2] at h2; have := s.lt o2 b h2; omega
     · exact apart o2 b i2 h2 o' ho' hb'
   · exfalso
     obtain ⟨_, hor⟩ := e.lt o2 b i2 h2
     rcases hor with hge | ⟨o', ho', hb'⟩
     · rw [old o1 i1] at h1; have := s.lt o1 b h1; omega
     · exact apart o1 b i1 h1 o' ho' hb'
   · rw [old o1 i1] at h1; rw [old o2 i2] at h2; exact s.disj o1 o2 b h1 h2
 · by_cases hin : o ∈ ids
   · exact e.nd o hin
   · rw [old o hin]; exact s.nd o
 · by_cases hin : o ∈ ids
   · exact (e.lt o b hin hb).1
   · rw [old o hin] at hb; exact Nat.lt_of_lt_of_le (s.lt o b hb) e.size
 · rcases (e.immNew b hb).2 with h1 | ⟨h1, h2⟩
   · by_cases hin : o ∈ ids
     · obtain ⟨_, hor⟩ := e.lt o b hin hbo
       rcases hor with hge | ⟨o', _, hb'⟩
       · have := (s.imm b h1).1; omega
       · exact (s.imm b h1).2 o' hb'
     · rw [old o hin] at hbo; exact (s.imm b h1).2 o hbo
   · by_cases hin : o ∈ ids
     · exact h2 o hin hbo
     · rw [old o hin] at hbo
       rcases h1 with hge | ⟨o', ho', hb'⟩
       · have := s.lt o b hbo; omega
       · exact hin ((s.disj o o' b hbo hb') ▸ ho')
theorem mem_setT {t : List (Nat × V)} {dst : Option Nat} {v u : V} {i : Nat} (h : (i, u) ∈ setT t dst v) :
   (dst = some i ∧ u = v) ∨ ((i, u) ∈ t ∧ dst ≠ some i) := by
 cases dst with
 | none => exact .inr ⟨h, by simp⟩
 | some d =>
   simp only [setT, List.mem_cons, Prod.mk.injEq, List.mem_filter, bne_iff_ne, ne_eq] at h
   rcases h with ⟨rfl, rfl⟩ | ⟨h1, h2⟩
   · exact .inl ⟨rfl, rfl⟩
   · exact .inr ⟨h1, by simpa using fun h3 => h2 h3.symm⟩
theorem Sim.eff {I:Nat → Prop} {M : Mem} {σ : St} {a : Act} {w : World} (s : Sim I M σ a w) {ids : List Nat} {I':Nat → Prop} {M' : Mem} {h' : Heap} {w' : World}
   (e : Eff ids I M σ.h w I' M' h' w') {dst : Option Nat} {v : Value} {r : V} (hr : RelV w' I' M' v r) (hd : ∀ d, dst = some d → d < σ.n) :
   Sim I' M' { σ with t := setT σ.t dst r, h := h' } (a.put dst v) w' := by
 refine { toSimH := s.toSimH.eff e, tm := fun i u hu => ?_, size := ?_, defers := ?_ }
 · rcases mem_setT hu with ⟨h1, rfl⟩ | ⟨h1, h2⟩
   · subst h1
     have : i < a.tmps.size := by rw [s.size]; exact hd i rfl
     have hg : (a.put (some i) v).tmps.getD i undef = v := by
       simp [Act.put, this]
     rw [hg]; exact hr
   · have hg : (a.put dst v).tmps.getD i undef = a.tmps.getD i undef := by
       cases dst with
       | none => rfl
       | some d =>
         have hne : d ≠ i := fun h => h2 (h ▸ rfl)
         simp [Act.put, Array.getElem?_setIfInBounds_ne hne]
     rw [hg]
     exact (s.tm i u h1).mono (s.toSimH.heapI e) e.imm e.mono
 · cases dst <;> simp [Act.put, s.size]
 · cases dst <;> simp [Act.put, s.defers]
theorem Eff.same {I:Nat → Prop} {M : Mem} {h : Heap} {w w' : World} (hh : w'.heap = w.heap) (ho : w'.os = w.os) (ht : w'.tape = w.tape) (hp : w'.output = w.output)
   (s : SimH I M h w) : Eff [] I M h w I M h w' :=
 ⟨rfl, rfl, fun _ _ h => h, fun _ _ => rfl, fun _ _ => rfl, ho, ht, hp, by rw [hh]; exact Nat.le_refl _, fun _ _ _ => by rw [hh], fun _ h => h,
   fun b hb => ⟨by rw [hh]; exact (s.imm b hb).1, .inl hb⟩, fun _ h => by simp at h, fun _ _ _ h => by simp at h, fun _ h => by simp at h, fun _ _ h => by simp at h⟩
theorem Eff.refl {I:Nat → Prop} {M : Mem} {h : Heap} {w : World} (s : SimH I M h w) : Eff [] I M h w I M h w := Eff.same rfl rfl rfl rfl s
theorem Eff.ext {ids : List Nat} {I:Nat → Prop} {M : Mem} {h : Heap} {w : World} {I':Nat → Prop} {M' : Mem} {h' : Heap} {w' : World}
   (e : Eff ids I M h w I' M' h' w') : Ext (fpAll M h) I w I' w' := by
 refine ⟨e.os, e.tape, e.output, e.size, fun b hb hn => e.heap b hb fun o ho hbo => hn ⟨o, hbo⟩, e.imm, fun b hb => ?_⟩
 rcases (e.immNew b hb).2 with h1 | ⟨h1 | ⟨o, _, h1⟩, _⟩
 · exact .inl h1
 · exact .inr (.inl h1)
 · exact .inr (.inr ⟨o, h1⟩)
theorem Eff.fp {ids : List Nat} {I:Nat → Prop} {M : Mem} {h : Heap} {w : World} {I':Nat → Prop} {M' : Mem} {h' : Heap} {w' : World}
   (e : Eff ids I M h w I' M' h' w') : ∀ b, fpAll M' h' b → fpAll M h b ∨ w.heap.size ≤ b := by
 rintro b ⟨o, hb⟩
 by_cases hin : o ∈ ids
 · rcases (e.lt o b hin hb).2 with h1 | ⟨o', _, h1⟩
   · exact .inr h1
   · exact .inl ⟨o', h1⟩
 · rw [fpAt_congr (e.keepM o hin) (e.keepH o hin)] at hb
   exact .inl ⟨o, hb⟩
end Go.AM
/- The abstract machine: operations that only compute and read. -/
namespace Go.AM
inductive TK where
 | int (k : IntKind)
 | bool
 | str
 | slice (e : TypeId)
 | array (n:Nat) (e : TypeId)
 | struct (fs : List (Nat × Nat))
 | other
structure TI where
 k : TK
 size : Nat
 bytes : Nat
 zero : List Value
abbrev Tab := List (Nat × TI)
def tfind:Tab → Nat → Option TI
 | [], _ => none
 | (j, i) :: T, t => if j == t then some i else tfind T t
def veq : Value → Value → Bool
 | .bool a, .bool b => a == b
 | .int k a, .int j b => k == j && a == b
 | .slice none 0 0, .slice none 0 0 => true
 | .pointer none, .pointer none => true
 | .nilFunc, .nilFunc => true
 | .nilIface, .nilIface => true
 | .map none, .map none => true
 | _, _ => false
def veqL : List Value → List Value → Bool
 | [], [] => true
 | a :: l, b :: m => veq a b && veqL l m
 | _, _ => false
theorem veq_ok {a b : Value} (h : veq a b = true) : a = b := by
 unfold veq at h
 split at h <;> simp_all
theorem veqL_ok : ∀ {l m : List Value}, veqL l m = true → l = m
 | [], [], _ => rfl
 | [], _ :: _, h => by simp [veqL] at h
 | _ :: _, [], h => by simp [veqL] at h
 | a :: l, b :: m, h => by
   simp only [veqL, Bool.and_eq_true] at h
   rw [veq_ok h.1, veqL_ok h.2]
def offs (fs : Array Field) : List (Nat × Nat) := fs.toList.map fun f => (f.offset, f.type)
def tkB (d : TypeDesc) : TK → Bool
 | .int k => match d with | .int j => k == j | _ => false
 | .bool => match d with | .bool => true | _ => false
 | .str => match d with | .string => true | _ => false
 | .slice e => match d with | .slice f => e == f | _ => false
 | .array n e => match d with | .array m f => n == m && e == f | _ => false
 | .struct fs => match d with | .struct gs => offs gs == fs | _ => false
 | .other => match d with | .struct _ | .array .. => false | _ => true
def tiB (P:Program) (t:Nat) (i : TI) : Bool :=
 match P.underlying t, P.info? t with
 | some d, some info => tkB d i.k && info.size == i.size && info.bytes == i.bytes && (match info.zero with | some z => veqL z.cells.toList i.zero | none => false) && i.zero.all (·.oneCell')
 | _, _ => false
def TOK (P:Program) (T:Tab) : Prop := T.all (fun x => tiB P x.1 x.2) = true
structure TIOK (P:Program) (t:Nat) (i : TI) : Prop where
 desc : ∃ d, P.underlying t = some d ∧ tkB d i.k = true
 info : ∃ f z, P.info? t = some f ∧ f.size = i.size ∧ f.bytes = i.bytes ∧ f.zero = some z ∧ z.cells.toList = i.zero
 zone : ∀ v ∈ i.zero, v.oneCell' = true
theorem TOK.find {P : Program} : ∀ {T : Tab}, TOK P T → ∀ {t : Nat} {i : TI}, tfind T t = some i → TIOK P t i
 | [], _, _, _, h => by simp [tfind] at h
 | (j, x) :: T, hT, t, i, h => by
   simp only [TOK, List.all_cons, Bool.and_eq_true] at hT
   simp only [tfind] at h
   split at h
   · rename_i hj
     simp only [beq_iff_eq] at hj
     simp only [Option.some.injEq] at h
     subst hj; subst h
     have h1 := hT.1
     unfold tiB at h1
     split at h1
     · rename_i d info hd hinfo
       simp only [Bool.and_eq_true, beq_iff_eq] at h1
       obtain ⟨⟨⟨⟨h2, h3⟩, h4⟩, h5⟩, h6⟩ := h1
       split at h5
       · rename_i z hz
         exact ⟨⟨d, hd, h2⟩, ⟨info, z, hinfo, h3, h4, hz, veqL_ok h5⟩, fun v hv => List.all_eq_true.1 h6 v hv⟩
       · simp at h5
     · simp at h1
   · exact TOK.find hT.2 h
section
variable {P : Program} {t : Nat} {i : TI}
theorem TIOK.slice (h : TIOK P t i) {e : Nat} (hk : i.k = .slice e) : P.underlying t = some (.slice e) := by
 obtain ⟨d, h1, h2⟩ := h.desc
 rw [hk] at h2
 cases d <;> simp [tkB] at h2
 subst h2; exact h1
theorem TIOK.array (h : TIOK P t i) {n e : Nat} (hk : i.k = .array n e) : P.underlying t = some (.array n e) := by
 obtain ⟨d, h1, h2⟩ := h.desc
 rw [hk] at h2
 cases d <;> simp [tkB] at h2
 obtain ⟨rfl, rfl⟩ := h2; exact h1
theorem TIOK.int (h : TIOK P t i) {k : IntKind} (hk : i.k = .int k) : P.underlying t = some (.int k) := by
 obtain ⟨d, h1, h2⟩ := h.desc
 rw [hk] at h2
 cases d <;> simp [tkB] at h2
 subst h2; exact h1
theorem TIOK.bool (h : TIOK P t i) (hk : i.k = .bool) : P.underlying t = some .bool := by
 obtain ⟨d, h1, h2⟩ := h.desc
 rw [hk] at h2
 cases d <;> simp [tkB] at h2
 exact h1
theorem TIOK.struct (h : TIOK P t i) {fs : List (Nat × Nat)} (hk : i.k = .struct fs) :
   ∃ gs, P.underlying t = some (.struct gs) ∧ offs gs = fs := by
 obtain ⟨d, h1, h2⟩ := h.desc
 rw [hk] at h2
 cases d <;> simp [tkB] at h2
 exact ⟨_, h1, h2⟩
def TK.isAgg : TK → Bool
 | .struct _ | .array .. => true
 | _ => false
theorem TIOK.isAgg (h : TIOK P t i) (w:World) : (Go.isAgg t).run P w = .ok i.k.isAgg w := by
 obtain ⟨d, h1, h2⟩ := h.desc
 simp only [Go.isAgg, Sem.run_bind, run_underlying h1, Result.andThen]
 cases hk : i.k <;> rw [hk] at h2 <;> cases d <;> simp [tkB] at h2 <;> simp [TK.isAgg]
theorem TIOK.sizeOf (h : TIOK P t i) (w:World) : (Go.sizeOf t).run P w = .ok i.size w := by
 obtain ⟨f, z, h1, h2, _⟩ := h.info
 simp [Go.sizeOf, typeInfo, h1, h2]
theorem TIOK.typeInfo (h : TIOK P t i) : ∃ f, (∀ w, (Go.typeInfo t).run P w = .ok f w) ∧ f.size = i.size ∧ f.bytes = i.bytes := by
 obtain ⟨f, z, h1, h2, h3, _⟩ := h.info
 exact ⟨f, fun w => by simp [Go.typeInfo, h1], h2, h3⟩
theorem TIOK.zeroValue (h : TIOK P t i) : ∃ z, (∀ w, (Go.zeroValue t).run P w = .ok z w) ∧ z.cells.toList = i.zero := by
 obtain ⟨f, z, h1, h2, h3, h4, h5⟩ := h.info
 exact ⟨z, fun w => by simp [Go.zeroValue, Go.typeInfo, h1, h4], h5⟩
end
def cdat : Value → D
 | .bool b => .bool b
 | .int k n => .int k n
 | .string s => .str s
 | v => .raw v
theorem cdat_ok (w:World) (I:Nat → Prop) (v : Value) (h : v.oneCell' = true) : Reads w I v (cdat v) := by
 unfold cdat
 split
 · exact .bool _
 · exact .int _ _
 · exact .str _
 · exact .raw _ h
def constV : Value → V
 | .agg cs => if cs.toList.all (·.oneCell') then .e (.agg (cs.toList.map fun v => .dat (cdat v))) else .e (.sc .undef)
 | v => if v.oneCell' then .e (.sc (.dat (cdat v))) else .e (.sc .undef)
def ev (t : List (Nat × V)) : Operand → Option V
 | .tmp i => get t i
 | .const v => some (constV v)
 | .func f => some (.e (.sc (.dat (.fn (.func f) []))))
 | .global _ => none
theorem constV_ok (w:World) (I:Nat → Prop) (M:Mem) (v : Value) : RelV w I M v (constV v) := by
 unfold constV
 split
 · rename_i cs
   split
   · rename_i hall
     refine ⟨cs, rfl, by simp, fun i v s h1 h2 => ?_⟩
     simp only [List.getElem?_map, h1, Option.map_some, Option.some.injEq] at h2
     subst h2
     exact cdat_ok w I v (List.all_eq_true.1 hall v (List.mem_of_getElem? h1))
   · trivial
 · split
   · rename_i h; exact cdat_ok w I v h
   · trivial
theorem Sim.ev {I:Nat → Prop} {M : Mem} {σ : St} {a : Act} {w : World} (s : Sim I M σ a w) {x : Operand} {v : V} (h : ev σ.t x = some v) :
   RelV w I M (a.eval x) v := by
 cases x with
 | tmp i => exact s.tm i v (get_mem h)
 | const u => simp only [AM.ev, Option.some.injEq] at h; subst h; exact constV_ok w I M u
 | global g => simp [AM.ev] at h
 | func f =>
   simp only [AM.ev, Option.some.injEq] at h; subst h
   exact Reads.fn _ [] [] rfl (fun i v d h1 _ => by simp at h1)
inductive Or where
 | none
 | cells (ds : List D)
 | bool (b:Bool)
 | frz
 | call (r:V) (objs : List (Option Obj)) (ids : List Nat)
 | cell (s : S)
 | callO (ids : List Nat) (r:V) (objs : List (Option Obj))
 | callB (ids1 ids2 : List Nat) (r:V)
 | int (n:Int)
 deriving Inhabited
@[reducible] def vint (k : IntKind) (n:Int) : V := .e (.sc (.dat (.int k n)))
@[reducible] def vbool (b:Bool) : V := .e (.sc (.dat (.bool b)))
def AllP : List Prop → Prop
 | [] => True
 | p :: l => p ∧ AllP l
def nilS : Value := .slice none 0 0
def normD : D → D
 | .raw (.slice none 0 0) => .sl []
 | d => d
theorem normD_ok {w : World} {I:Nat → Prop} {v : Value} {d : D} (h : Reads w I v d) : Reads w I v (normD d) := by
 unfold normD
 split
 · cases h; exact .slnil none 0
 · exact h
def S.toD : S → Option D
 | .dat d => some (normD d)
 | _ => none
def bitsI (k : IntKind) (f : BitVec k.bits → BitVec k.bits → BitVec k.bits) (x y:Int) : Int :=
 k.wrap ((f (BitVec.ofInt k.bits x) (BitVec.ofInt k.bits y)).toNat:Int)
def ibin (op : BinOp) (k : IntKind) (x y:Int) : V × List Prop :=
 match op with
 | .add => (vint k (k.wrap (x + y)), [])
 | .sub => (vint k (k.wrap (x - y)), [])
 | .mul => (vint k (k.wrap (x * y)), [])
 | .quo => (vint k (k.wrap (x.tdiv y)), [y ≠ 0])
 | .rem => (vint k (x.tmod y), [y ≠ 0])
 | .and => (vint k (bitsI k (· &&& ·) x y), [])
 | .or => (vint k (bitsI k (· ||| ·) x y), [])
 | .xor => (vint k (bitsI k (· ^^^ ·) x y), [])
 | .andNot => (vint k (bitsI k (fun a b => a &&& ~~~b) x y), [])
 | .shl => (vint k (k.wrap (x * 2 ^ (min y.toNat k.bits))), [0 ≤ y])
 | .shr => (vint k (x.fdiv (2 ^ (min y.toNat k.bits))), [0 ≤ y])
 | .eql => (vbool (x == y), [])
 | .neq => (vbool (x != y), [])
 | .lss => (vbool (decide (x < y)), [])
 | .leq => (vbool (decide (x ≤ y)), [])
 | .gtr => (vbool (decide (x > y)), [])
 | .geq => (vbool (decide (x ≥ y)), [])
theorem ibin_ok (op : BinOp) (k : IntKind) (x y:Int) {r : V} {obs : List Prop} (h : ibin op k x y = (r, obs)) (ho : AllP obs) (P:Program) (t : TypeId)
   (I:Nat → Prop) (M:Mem) (w:World) : ∃ v, (binOp op t (.int k x) (.int k y)).run P w = .ok v w ∧ RelV w I M v r := by
 cases op <;> simp only [ibin, Prod.mk.injEq] at h <;> obtain ⟨rfl, rfl⟩ := h
 case quo => refine ⟨.int k (k.wrap (x.tdiv y)), ?_, Reads.int _ _⟩; rw [binOp_quo]; simp [Op.intDiv, ho.1]
 case rem => refine ⟨.int k (x.tmod y), ?_, Reads.int _ _⟩; rw [binOp_rem]; simp [Op.intDiv, ho.1]
 case shl => refine ⟨.int k _, ?_, Reads.int _ _⟩; rw [binOp_shl]; simp [Op.shift, Int.not_lt.2 ho.1]
 case shr => refine ⟨.int k _, ?_, Reads.int _ _⟩; rw [binOp_shr]; simp [Op.shift, Int.not_lt.2 ho.1]
 all_goals first
   | exact ⟨.int k _, by simp only [binOp_add, binOp_sub, binOp_mul, Op.intArith, Sem.run_pure], Reads.int _ _⟩
   | exact ⟨.int k _, by simp only [binOp_and, binOp_or, binOp_xor, binOp_andNot, Op.intBits, Sem.run_pure]; rfl, Reads.int _ _⟩
   | exact ⟨.bool _, by simp only [binOp_eql, binOp_neq, binOp_lss, binOp_leq, binOp_gtr, binOp_geq, Sem.run_pure], Reads.bool _⟩
end Go.AM
/- The abstract machine: loads, addresses, slices. -/
namespace Go.AM
theorem ME.nil_of (e : ME) (h : e.nil = true → False) : e.nil = false := by
 cases he : e.nil
 · rfl
 · exact (h he).elim
theorem cell_of {w : World} {b off : Nat} {cs : Array Value} {t : TypeId} {fr:Nat × Nat} (h : w.heap[b]? = some (.cells cs t fr)) :
   w.cell? ⟨b, off, none⟩ = cs[off]? := by
 simp [World.cell?, h]
def mkV (ti : TI) (ss : List S) : Option V :=
 if ss.length == ti.size then
   if ti.k.isAgg then some (.e (.agg ss))
   else match ss with
     | [s] => some (.e (.sc s))
     | _ => none
 else none
theorem mkV_len {ti : TI} {ss : List S} {r : V} (h : mkV ti ss = some r) : ss.length = ti.size := by
 unfold mkV at h
 split at h
 · rename_i hs; simpa using hs
 · simp at h
theorem add_off (b off j:Nat) : Addr.add ⟨b, off, none⟩ j = ⟨b, off + j, none⟩ := Addr.add_lit b off j
section
variable {P : Program} {w : World} {I:Nat → Prop} {M : Mem}
theorem loadVar_ok {t : Nat} {ti : TI} (ht : TIOK P t ti) {ss : List S} {r : V} (hr : mkV ti ss = some r) {b off : Nat} {vs : List Value}
   (hc : ∀ (j:Nat) v, vs[j]? = some v → w.cell? ⟨b, off + j, none⟩ = some v) (hrel : RelL w I M vs ss) :
   ∃ v, (loadVar t ⟨b, off, none⟩).run P w = .ok v w ∧ RelV w I M v r := by
 unfold mkV at hr
 split at hr
 · rename_i hsz
   simp only [beq_iff_eq] at hsz
   have hl : vs.length = ti.size := hrel.1.trans hsz
   split at hr
   · rename_i hagg
     simp only [Option.some.injEq] at hr; subst hr
     refine ⟨.agg vs.toArray, ?_, vs.toArray, rfl, by simpa using hrel⟩
     have := run_loadCells_list (P := P) w ⟨b, off, none⟩ vs (fun j v h => by rw [add_off]; exact hc j v h)
     rw [hl] at this
     simp [loadVar, ht.isAgg, hagg, ht.sizeOf, this]
   · rename_i hagg
     split at hr
     · rename_i s
       simp only [Option.some.injEq] at hr; subst hr
       match vs, hrel with
       | [v], hrel =>
         have h0 := hc 0 v rfl
         refine ⟨v, ?_, hrel.2 0 v s rfl rfl⟩
         simp only [loadVar, Sem.run_bind, ht.isAgg, Result.andThen, hagg, Bool.false_eq_true, if_false, run_load]
         rw [show off = off + 0 from rfl, h0]
       | [], hrel => simp [RelL] at hrel
       | _ :: _ :: _, hrel => simp [RelL] at hrel
     · simp at hr
 · simp at hr
theorem loadData_ok {t : Nat} {ti : TI} (ht : TIOK P t ti) {full : List D} {k : Nat} {r : V} (hr : mkV ti (((full.drop k).take ti.size).map .dat) = some r) {b base : Nat}
   (hc : ∀ (j:Nat) d, full[j]? = some d → ∃ v, w.cell? ⟨b, base + j, none⟩ = some v ∧ Reads w I v d) :
   ∃ v, (loadVar t ⟨b, base + k, none⟩).run P w = .ok v w ∧ RelV w I M v r := by
 have hch : ∀ (j:Nat), ∃ v, ∀ d, full[j]? = some d → w.cell? ⟨b, base + j, none⟩ = some v ∧ Reads w I v d := fun j => by
   cases hj : full[j]? with
   | none => exact ⟨undef, fun d h => by simp at h⟩
   | some d => obtain ⟨v, h1, h2⟩ := hc j d hj; exact ⟨v, fun d' h => by simp at h; subst h; exact ⟨h1, h2⟩⟩
 have hf := Classical.axiomOfChoice hch
 obtain ⟨f, hf⟩ := hf
 refine loadVar_ok ht hr (vs := (List.range ((full.drop k).take ti.size).length).map fun j => f (k + j)) (fun j v hj => ?_) ⟨by simp, fun j v s hv hs => ?_⟩
 · simp only [List.getElem?_map, Option.map_eq_some_iff] at hj
   obtain ⟨j', hj', rfl⟩ := hj
   have hlt : j < ((full.drop k).take ti.size).length := by
     rcases Nat.lt_or_ge j ((full.drop k).take ti.size).length with h | h
     · exact h
     · rw [List.getElem?_eq_none (by simpa using h)] at hj'; simp at hj'
   rw [List.getElem?_range hlt, Option.some.injEq] at hj'
   subst hj'
   simp only [List.length_take, List.length_drop] at hlt
   have : full[k + j]? = some (full[k + j]'(by omega)) := List.getElem?_eq_getElem _
   have := (hf (k + j) _ this).1
   rwa [← Nat.add_assoc] at this
 · simp only [List.getElem?_map, Option.map_eq_some_iff] at hv hs
   obtain ⟨j', hj', rfl⟩ := hv
   obtain ⟨d, hd, rfl⟩ := hs
   have hlt : j < ((full.drop k).take ti.size).length := by
     rcases Nat.lt_or_ge j ((full.drop k).take ti.size).length with h | h
     · exact h
     · rw [List.getElem?_eq_none h] at hd; simp at hd
   rw [List.getElem?_range hlt, Option.some.injEq] at hj'
   subst hj'
   rw [List.getElem?_take, List.getElem?_drop] at hd
   split at hd
   · exact (hf (k + j) d hd).2
   · simp at hd
end
def xload (T:Tab) (h:Heap) (or : Or) (t:Nat) (v:V) : Option (V × List Prop) :=
 match tfind T t with
 | none => none
 | some ti =>
   match v with
   | .e (.sc (.ptr o k)) =>
     match h[o]? with
     | some (some (.box cells)) => match or with
       | .cell s => (mkV ti [s]).map fun r => (r, [cells[k]? = some s])
       | _ => (mkV ti ((cells.drop k).take ti.size)).map fun r => (r, [])
     | _ => none
   | .e (.sc (.aptr o i k)) =>
     match h[o]?, or with
     | some (some (.arr _ elems)), .cells full => (mkV ti (((full.drop k).take ti.size).map .dat)).map fun r => (r, [elems[i]? = some full])
     | _, _ => none
   | .e (.sc (.eptr z elems i k)) =>
     match or with
     | .cells full => if full.length == z then (mkV ti (((full.drop k).take ti.size).map .dat)).map fun r => (r, [elems[i]? = some full]) else none
     | _ => none
   | .e (.sc (.rptr o r i k)) =>
     match h[o]?, or with
     | some (some (.mat _ rows)), .cells full => (mkV ti (((full.drop k).take ti.size).map .dat)).map fun x => (x, [at2 rows r i = some full])
     | _, _ => none
   | .e (.sc (.bptr ds k)) => (mkV ti (((ds.drop k).take ti.size).map .dat)).map fun r => (r, [])
   | .e (.sc (.dat (.box ds))) => (mkV ti ((ds.take ti.size).map .dat)).map fun r => (r, [])
   | .e (.sc (.mptr o i)) =>
     match h[o]? with
     | some (some (.mat _ _)) => (mkV ti [.row o i]).map fun r => (r, [])
     | _ => none
   | _ => none
theorem at2_some {α : Type} {l : List (List α)} {i j : Nat} {x : List α} {d : α} (h : l[i]? = some x) (hd : x[j]? = some d) : at2 l i j = some d := by
 simp [at2, h, hd]
theorem xload_ok {P : Program} {T : Tab} (hT : TOK P T) {h : Heap} {or : Or} {t : Nat} {v : V} {r : V} {obs : List Prop} (hx : xload T h or t v = some (r, obs)) (ho : AllP obs)
   {I:Nat → Prop} {M : Mem} {w : World} (s : SimH I M h w) {u : Value} (hu : RelV w I M u v) : ∃ x, (Instr.loadAt t u).run P w = .ok x w ∧ RelV w I M x r := by
 unfold xload at hx
 split at hx
 · simp at hx
 · rename_i ti hti
   have ht := hT.find hti
   split at hx
   · rename_i o k
     obtain ⟨e, he, rfl⟩ := hu
     split at hx
     · rename_i cells hcell
       split at hx
       · rename_i s0
         simp only [Option.map_eq_some_iff, Prod.mk.injEq] at hx
         obtain ⟨r', hr, rfl, rfl⟩ := hx
         obtain ⟨e', he', cs, t', hb, hrel⟩ := s.obj o _ hcell
         rw [he] at he'; simp only [Option.some.injEq] at he'; subst he'
         have hk : k < cs.toList.length := by
           refine Nat.lt_of_lt_of_le ?_ hrel.1
           rcases Nat.lt_or_ge k cells.length with h | h
           · exact h
           · have := ho.1; rw [List.getElem?_eq_none h] at this; simp at this
         have hgk : cs.toList[k]? = some cs.toList[k] := List.getElem?_eq_getElem hk
         have := loadVar_ok (P := P) (w := w) (I := I) (M := M) ht hr (b := e.b) (off := k) (vs := [cs.toList[k]])
           (fun j v hj => by
             match j, hj with
             | 0, hj =>
               simp only [List.getElem?_cons_zero, Option.some.injEq] at hj; subst hj
               rw [cell_of hb, Nat.add_zero, ← Array.getElem?_toList]; exact hgk
             | j + 1, hj => simp at hj)
           ⟨rfl, fun j v s hv hs => by
             match j, hv, hs with
             | 0, hv, hs =>
               simp only [List.getElem?_cons_zero, Option.some.injEq] at hv hs; subst hv; subst hs
               exact hrel.2 k _ _ hgk ho.1
             | j + 1, hv, hs => simp at hv⟩
         simpa [Instr.loadAt, Instr.sureAddr] using this
       · simp only [Option.map_eq_some_iff, Prod.mk.injEq] at hx
         obtain ⟨r', hr, rfl, rfl⟩ := hx
         obtain ⟨e', he', cs, t', hb, hrel⟩ := s.obj o _ hcell
         rw [he] at he'; simp only [Option.some.injEq] at he'; subst he'
         have := loadVar_ok (P := P) (w := w) (I := I) (M := M) ht hr (b := e.b) (off := k) (vs := (cs.toList.drop k).take ti.size)
           (fun j v hj => by
             rw [cell_of hb]
             rw [List.getElem?_take] at hj
             split at hj
             · rw [List.getElem?_drop] at hj; simpa using hj
             · simp at hj)
           ⟨by
             have h1 := mkV_len hr
             have h2 := hrel.1
             simp only [List.length_take, List.length_drop] at h1 ⊢
             omega, fun j v s hv hs => by
             rw [List.getElem?_take] at hv hs
             split at hv
             · rw [List.getElem?_drop] at hv
               rename_i hj
               rw [if_pos hj, List.getElem?_drop] at hs
               exact hrel.2 _ v s hv hs
             · simp at hv⟩
         simpa [Instr.loadAt, Instr.sureAddr] using this
     · simp at hx
   · rename_i o i k
     obtain ⟨e, he, hi, rfl⟩ := hu
     split at hx
     · rename_i s' elems full hcell
       simp only [Option.map_eq_some_iff, Prod.mk.injEq] at hx
       obtain ⟨r', hr, rfl, rfl⟩ := hx
       obtain ⟨e', he', h1, h2, h0, hh⟩ := s.obj o _ hcell
       rw [he] at he'; simp only [Option.some.injEq] at he'; subst he'
       obtain ⟨h3, cs, t', hb, h4, h5, h6⟩ := hh (e.nil_of (fun h => by rw [h0 h] at h2; simp at h2; omega))
       have := loadData_ok (P := P) (w := w) (I := I) (M := M) ht hr (b := e.b) (base := i * e.s) (fun j d hd => by
         obtain ⟨v, p, q⟩ := h6 i j d (at2_some ho.1 hd)
         exact ⟨v, by rw [cell_of hb, h1]; exact p, q⟩)
       simpa [Instr.loadAt, Instr.sureAddr] using this
     · simp at hx
   · rename_i z elems i k
     obtain ⟨b, off, s', ⟨_, cs, t', fr, hb, hlen, h6⟩, hi, rfl⟩ := hu
     split at hx
     · rename_i full
       by_cases hz : full.length = z
       case neg => simp [hz] at hx
       simp only [hz, beq_self_eq_true, if_true] at hx
       simp only [Option.map_eq_some_iff, Prod.mk.injEq] at hx
       obtain ⟨r', hr, rfl, rfl⟩ := hx
       have hsz : s' = z := (hlen _ (List.mem_of_getElem? ho.1)).symm.trans hz
       subst hsz
       have := loadData_ok (P := P) (w := w) (I := I) (M := M) ht hr (b := b) (base := off + i * s') (fun j d hd => by
         obtain ⟨v, p, q⟩ := h6 i j d (at2_some ho.1 hd)
         exact ⟨v, by rw [cell_of hb]; exact p, q⟩)
       simpa [Instr.loadAt, Instr.sureAddr] using this
     · simp at hx
   · rename_i o r0 i k
     obtain ⟨e, b, n, cap, he, hrow, hi, rfl⟩ := hu
     split at hx
     · rename_i s' rows full hcell
       simp only [Option.map_eq_some_iff, Prod.mk.injEq] at hx
       obtain ⟨r', hr, rfl, rfl⟩ := hx
       obtain ⟨e', he', h1, h2, h4, h0, hh⟩ := s.obj o _ hcell
       rw [he] at he'; simp only [Option.some.injEq] at he'; subst he'
       have hat := ho.1
       obtain ⟨erow, her, hfull⟩ : ∃ erow, rows[r0]? = some erow ∧ erow[i]? = some full := by
         simp only [at2, Option.bind_eq_some_iff] at hat; exact hat
       obtain ⟨h3, cs, t', hb, h5, h6, h7⟩ := hh (e.nil_of (fun h => by rw [h0 h] at her; simp at her))
       obtain ⟨a, c, hv, hne⟩ := (h7 r0 _ erow hrow her).ne
       obtain ⟨b', cs', t'', ha, hb', _, _, _, h8⟩ := hne (by rintro rfl; simp at hfull)
       simp only [Value.slice.injEq] at hv
       obtain ⟨hv1, hv2, hv3⟩ := hv
       rw [ha] at hv1; simp only [Option.some.injEq, Addr.mk.injEq, and_true] at hv1; subst hv1
       have := loadData_ok (P := P) (w := w) (I := I) (M := M) ht hr (b := b) (base := i * e.s) (fun j d hd => by
         obtain ⟨v, p, q⟩ := h8 i j d (at2_some hfull hd)
         exact ⟨v, by rw [cell_of hb', h1]; exact p, q⟩)
       simpa [Instr.loadAt, Instr.sureAddr] using this
     · simp at hx
   · rename_i ds k
     obtain ⟨b, ⟨_, cs, t', fr, hb, h6⟩, rfl⟩ := hu
     simp only [Option.map_eq_some_iff, Prod.mk.injEq] at hx
     obtain ⟨r', hr, rfl, rfl⟩ := hx
     have := loadData_ok (P := P) (w := w) (I := I) (M := M) ht hr (b := b) (base := 0) (fun j d hd => by
       obtain ⟨v, p, q⟩ := h6 j d hd
       exact ⟨v, by rw [cell_of hb, Nat.zero_add]; exact p, q⟩)
     simpa [Instr.loadAt, Instr.sureAddr] using this
   · rename_i ds
     obtain ⟨b, rfl, _, cs, t', fr, hb, h6⟩ := Reads.boxAt hu
     simp only [Option.map_eq_some_iff, Prod.mk.injEq] at hx
     obtain ⟨r', hr, rfl, rfl⟩ := hx
     have := loadData_ok (P := P) (w := w) (I := I) (M := M) ht (full := ds) (k := 0) (by simpa using hr) (b := b) (base := 0) (fun j d hd => by
       obtain ⟨v, p, q⟩ := h6 j d hd
       exact ⟨v, by rw [cell_of hb, Nat.zero_add]; exact p, q⟩)
     simpa [Instr.loadAt, Instr.sureAddr] using this
   · rename_i o i
     obtain ⟨e, he, hi, rfl⟩ := hu
     split at hx
     · rename_i s' rows hcell
       simp only [Option.map_eq_some_iff, Prod.mk.injEq] at hx
       obtain ⟨r', hr, rfl, rfl⟩ := hx
       obtain ⟨e', he', h1, h2, h4, h0, hh⟩ := s.obj o _ hcell
       rw [he] at he'; simp only [Option.some.injEq] at he'; subst he'
       obtain ⟨h3, cs, t', hb, h5, h6, h7⟩ := hh (e.nil_of (fun h => by rw [h0 h] at h2; simp at h2; omega))
       have hlt : i < e.rows.length := by omega
       have hg : e.rows[i]? = some e.rows[i] := List.getElem?_eq_getElem hlt
       have := loadVar_ok (P := P) (w := w) (I := I) (M := M) ht hr (b := e.b) (off := i) (vs := [e.rows[i]])
         (fun j v hj => by
           match j, hj with
           | 0, hj => simp only [List.getElem?_cons_zero, Option.some.injEq] at hj; subst hj; rw [cell_of hb]; exact h6 i _ hg
           | j + 1, hj => simp at hj)
         ⟨rfl, fun j v s hv hs => by
           match j, hv, hs with
           | 0, hv, hs => simp only [List.getElem?_cons_zero, Option.some.injEq] at hv hs; subst hv; subst hs; exact ⟨e, he, hg⟩
           | j + 1, hv, hs => simp at hv⟩
       simpa [Instr.loadAt, Instr.sureAddr] using this
     · simp at hx
   · simp at hx
end Go.AM
/- The abstract machine: addresses, slices, lengths, conversions; one function for all operations that only compute and read. -/
namespace Go.AM
def S.add (n:Nat) : S → Option S
 | .ptr o k => some (.ptr o (k + n))
 | .aptr o i k => some (.aptr o i (k + n))
 | .eptr z elems i k => some (.eptr z elems i (k + n))
 | .rptr o r i k => some (.rptr o r i (k + n))
 | .bptr ds k => some (.bptr ds (k + n))
 | .dat (.box ds) => some (.bptr ds n)
 | _ => none
theorem S.add_ok {w : World} {I:Nat → Prop} {M : Mem} {v : Value} {s s' : S} {n : Nat} (h : RelS w I M v s) (hs : s.add n = some s') :
   ∃ b off, v = .pointer (some ⟨b, off, none⟩) ∧ RelS w I M (.pointer (some ⟨b, off + n, none⟩)) s' := by
 cases s <;> simp only [S.add, Option.some.injEq, reduceCtorEq] at hs
 case dat d =>
   cases d <;> simp only [Option.some.injEq, reduceCtorEq] at hs
   subst hs; obtain ⟨b, rfl, hb⟩ := Reads.boxAt h; exact ⟨_, _, rfl, b, hb, by rw [Nat.zero_add]⟩
 case bptr ds k => subst hs; obtain ⟨b, h1, rfl⟩ := h; exact ⟨_, _, rfl, b, h1, rfl⟩
 case ptr o k => subst hs; obtain ⟨e, h1, rfl⟩ := h; exact ⟨_, _, rfl, e, h1, rfl⟩
 case aptr o i k => subst hs; obtain ⟨e, h1, h2, rfl⟩ := h; exact ⟨_, _, rfl, e, h1, h2, by rw [Nat.add_assoc]⟩
 case eptr z elems i k => subst hs; obtain ⟨b, off, s, h1, h2, rfl⟩ := h; exact ⟨_, _, rfl, b, off, s, h1, h2, by rw [Nat.add_assoc]⟩
 case rptr o r i k => subst hs; obtain ⟨e, b, n', cap, h1, h2, h3, rfl⟩ := h; exact ⟨_, _, rfl, e, b, n', cap, h1, h2, h3, by rw [Nat.add_assoc]⟩
section
variable {P : Program} {w : World} {I:Nat → Prop} {M : Mem}
def xfieldAddr (T:Tab) (t:Nat) (v:V) (f:Nat) : Option (V × List Prop) :=
 match tfind T t, v with
 | some ti, .e (.sc s) =>
   match ti.k with
   | .struct fs => match fs[f]? with
     | some (off, ft) => match tfind T ft with
       | some tf => if tf.size == 0 then none else (s.add off).map fun s' => (.e (.sc s'), [])
       | none => none
     | none => none
   | _ => none
 | _, _ => none
theorem xfieldAddr_ok {T : Tab} (hT : TOK P T) {t f : Nat} {v r : V} {obs : List Prop} (hx : xfieldAddr T t v f = some (r, obs)) {u : Value} (hu : RelV w I M u v) :
   ∃ x, (Instr.fieldAt t u f).run P w = .ok x w ∧ RelV w I M x r := by
 unfold xfieldAddr at hx
 split at hx
 case h_2 => simp at hx
 rename_i ti s hti
 split at hx
 case h_2 => simp at hx
 rename_i fs hk
 split at hx
 case h_2 => simp at hx
 rename_i off ft hf
 split at hx
 case h_2 => simp at hx
 rename_i tf htf
 split at hx
 · simp at hx
 · rename_i hsz
   simp only [Option.map_eq_some_iff, Prod.mk.injEq] at hx
   obtain ⟨s', hs, rfl, rfl⟩ := hx
   obtain ⟨gs, hg, hoffs⟩ := (hT.find hti).struct hk
   obtain ⟨b, o, rfl, hrel⟩ := S.add_ok hu hs
   rw [← hoffs] at hf
   simp only [offs, List.getElem?_map, Option.map_eq_some_iff, Prod.mk.injEq] at hf
   obtain ⟨g, hgf, rfl, rfl⟩ := hf
   have hgf' : gs[f]? = some g := by simpa using hgf
   have hsize := (hT.find htf).sizeOf w
   refine ⟨_, ?_, hrel⟩
   have hne : ¬ tf.size = 0 := by simpa using hsz
   simp [Instr.fieldAt, run_underlying hg, hgf', Instr.sureAddr, fieldPlace, hsize, hne, Addr.add_lit]
def xindexAddr (T:Tab) (h:Heap) (t:Nat) (x i:V) : Option (V × List Prop) :=
 match tfind T t, i with
 | some ti, .e (.sc (.dat (.int _ n))) =>
   match ti.k with
   | .slice e =>
     match tfind T e with
     | some te =>
       match x with
       | .e (.sc (.dat (.sl elems))) => some (.e (.sc (.eptr te.size elems n.toNat 0)), [0 ≤ n ∧ n < (elems.length:Int)])
       | .e (.sc (.ref o)) =>
         match h[o]? with
         | some (some (.arr s elems)) => if s == te.size then some (.e (.sc (.aptr o n.toNat 0)), [0 ≤ n ∧ n < (elems.length:Int)]) else none
         | some (some (.mat _ rows)) => if te.size == 1 then some (.e (.sc (.mptr o n.toNat)), [0 ≤ n ∧ n < (rows.length:Int)]) else none
         | some (some (.part _ rows _ _)) => if te.size == 1 then some (.e (.sc (.mptr o n.toNat)), [0 ≤ n ∧ n < (rows.length:Int)]) else none
         | _ => none
       | .e (.sc (.row o r)) =>
         match h[o]? with
         | some (some (.mat s rows)) => if s == te.size then some (.e (.sc (.rptr o r n.toNat 0)), [∃ l, rows[r]? = some l ∧ 0 ≤ n ∧ n < (l.length:Int)]) else none
         | _ => none
       | .e (.sc (.refb o m)) => some (.e (.sc (.ptr o (n.toNat * te.size))), [0 ≤ n ∧ n < (m:Int)])
       | _ => none
     | none => none
   | .array len e =>
     match tfind T e, x with
     | some te, .e (.sc s) => (s.add (n.toNat * te.size)).map fun s' => (.e (.sc s'), [0 ≤ n ∧ n < (len:Int)])
     | _, _ => none
   | _ => none
 | _, _ => none
theorem run_indexAt_some {t e : Nat} (hu : P.underlying t = some (.slice e)) {te : TI} (he : TIOK P e te) {b off len cap : Nat} {k : IntKind} {n : Int} (hn : 0 ≤ n ∧ n < (len:Int)) :
   (Instr.indexAt t (.slice (some ⟨b, off, none⟩) len cap) (.int k n)).run P w = .ok (.pointer (some ⟨b, off + n.toNat * te.size, none⟩)) w := by
 simp [Instr.indexAt, run_underlying hu, asIntOf, hn, he.sizeOf, Addr.add_lit]
theorem xindexAddr_ok {T : Tab} (hT : TOK P T) {h : Heap} {t : Nat} {x i r : V} {obs : List Prop} (hx : xindexAddr T h t x i = some (r, obs)) (ho : AllP obs)
   (s : SimH I M h w) {u j : Value} (hu : RelV w I M u x) (hj : RelV w I M j i) : ∃ y, (Instr.indexAt t u j).run P w = .ok y w ∧ RelV w I M y r := by
 unfold xindexAddr at hx
 split at hx
 · rename_i ti k n hti
   cases hj
   split at hx
   · rename_i e hk
     have hund := (hT.find hti).slice hk
     split at hx
     · rename_i te hte
       have he := hT.find hte
       split at hx
       · rename_i elems
         simp only [Option.some.injEq, Prod.mk.injEq] at hx
         obtain ⟨rfl, rfl⟩ := hx
         have hn := ho.1
         cases hu with
         | slnil a cap => simp at hn; omega
         | sl _ vs hI hb hs hcap hc hr =>
           exact ⟨_, run_indexAt_some hund he hn, _, _, _, ⟨hI, _, _, _, hb, hs, fun i j d hd => ⟨_, hc i j d hd, hr i j d hd⟩⟩, by omega, rfl⟩
       · rename_i o
         obtain ⟨m, hm, rfl⟩ := hu
         split at hx
         · rename_i s' elems hcell
           split at hx
           · rename_i hsz
             simp only [beq_iff_eq] at hsz
             simp only [Option.some.injEq, Prod.mk.injEq] at hx
             obtain ⟨rfl, rfl⟩ := hx
             obtain ⟨m', hm', h1, h2, h0⟩ := s.obj o _ hcell
             rw [hm] at hm'; simp only [Option.some.injEq] at hm'; subst hm'
             have hn := ho.1
             have hnil := m.nil_of (fun h => by have h00 := (by first | (exact h0.1 h) | (exact h0.2.1 h) : _ = []); rw [h00] at hn; simp at hn; omega)
             rw [← h2] at hn
             simp only [ME.val, hnil, Bool.false_eq_true, if_false]
             refine ⟨_, run_indexAt_some hund he hn, m, hm, by omega, ?_⟩
             simp [h1, hsz]
           · simp at hx
         · rename_i s' rows hcell
           split at hx
           · rename_i hsz
             simp only [beq_iff_eq] at hsz
             simp only [Option.some.injEq, Prod.mk.injEq] at hx
             obtain ⟨rfl, rfl⟩ := hx
             obtain ⟨m', hm', h1, h2, h0⟩ := s.obj o _ hcell
             rw [hm] at hm'; simp only [Option.some.injEq] at hm'; subst hm'
             have hn := ho.1
             have hnil := m.nil_of (fun h => by have h00 := (by first | (exact h0.1 h) | (exact h0.2.1 h) : _ = []); rw [h00] at hn; simp at hn; omega)
             rw [← h2] at hn
             simp only [ME.val, hnil, Bool.false_eq_true, if_false]
             refine ⟨_, run_indexAt_some hund he hn, m, hm, by omega, ?_⟩
             simp [hsz]
           · simp at hx
         · rename_i s' rows i' x' hcell
           split at hx
           · rename_i hsz
             simp only [beq_iff_eq] at hsz
             simp only [Option.some.injEq, Prod.mk.injEq] at hx
             obtain ⟨rfl, rfl⟩ := hx
             obtain ⟨m', hm', h1, h2, h4, hnil, _⟩ := s.obj o _ hcell
             rw [hm] at hm'; simp only [Option.some.injEq] at hm'; subst hm'
             have hn := ho.1
             rw [← h2] at hn
             simp only [ME.val, hnil, Bool.false_eq_true, if_false]
             refine ⟨_, run_indexAt_some hund he hn, m, hm, by omega, ?_⟩
             simp [hsz]
           · simp at hx
         · simp at hx
       · rename_i o r0
         obtain ⟨m, hm, hrow⟩ := hu
         split at hx
         · rename_i s' rows hcell
           split at hx
           · rename_i hsz
             simp only [beq_iff_eq] at hsz
             simp only [Option.some.injEq, Prod.mk.injEq] at hx
             obtain ⟨rfl, rfl⟩ := hx
             obtain ⟨m', hm', h1, h2, h4, h0, hh⟩ := s.obj o _ hcell
             rw [hm] at hm'; simp only [Option.some.injEq] at hm'; subst hm'
             obtain ⟨l, hl, hn⟩ := ho.1
             obtain ⟨h3, cs, t', hb, h5, h6, h7⟩ := hh (m.nil_of (fun h => by rw [h0 h] at hl; simp at hl))
             obtain ⟨a, cap, rfl, hne⟩ := (h7 r0 _ l hrow hl).ne
             obtain ⟨b, cs', t'', rfl, _⟩ := hne (by rintro rfl; simp at hn; omega)
             refine ⟨_, run_indexAt_some hund he hn, m, b, l.length, cap, hm, hrow, by omega, ?_⟩
             simp [h1, hsz]
           · simp at hx
         · simp at hx
       · simp only [Option.some.injEq, Prod.mk.injEq] at hx
         obtain ⟨rfl, rfl⟩ := hx
         obtain ⟨m, hm, rfl, _⟩ := hu
         refine ⟨_, run_indexAt_some hund he ho.1, m, hm, ?_⟩
         rw [Nat.zero_add]
       · simp at hx
     · simp at hx
   · rename_i len e hk
     have hund := (hT.find hti).array hk
     split at hx
     · rename_i te s' hte
       have he := hT.find hte
       simp only [Option.map_eq_some_iff, Prod.mk.injEq] at hx
       obtain ⟨s'', hs, rfl, rfl⟩ := hx
       obtain ⟨b, off, rfl, hrel⟩ := S.add_ok hu hs
       refine ⟨_, ?_, hrel⟩
       have hn := ho.1
       simp [Instr.indexAt, run_underlying hund, asIntOf, hn, Instr.sureAddr, he.sizeOf, Addr.add_lit]
     · simp at hx
   · simp at hx
 · simp at hx
def xlen (h:Heap) (x:V) : Option V :=
 match x with
 | .e (.sc (.dat (.sl elems))) => some (vint .i64 (elems.length:Int))
 | .e (.sc (.dat (.raw (.slice none 0 0)))) => some (vint .i64 0)
 | .e (.sc (.ref o)) =>
   match h[o]? with
   | some (some (.arr _ elems)) => some (vint .i64 (elems.length:Int))
   | some (some (.mat _ rows)) => some (vint .i64 (rows.length:Int))
   | _ => none
 | .e (.sc (.row o k)) =>
   match h[o]? with
   | some (some (.mat _ rows)) => some (vint .i64 ((rows.getD k []).length:Int))
   | _ => none
 | .e (.sc (.refb _ n)) => some (vint .i64 (n:Int))
 | _ => none
theorem xlen_ok {h : Heap} {x r : V} (hx : xlen h x = some r) (s : SimH I M h w) {u : Value} (hu : RelV w I M u x) :
   ∃ a n cap, u = .slice a n cap ∧ r = vint .i64 (n:Int) := by
 unfold xlen at hx
 split at hx
 · simp only [Option.some.injEq] at hx; subst hx
   cases hu with
   | slnil a cap => exact ⟨a, 0, cap, rfl, rfl⟩
   | sl _ vs hI hb hs hcap hc hr => exact ⟨_, _, _, rfl, rfl⟩
 · simp only [Option.some.injEq] at hx; subst hx
   cases hu; exact ⟨none, 0, 0, rfl, rfl⟩
 · rename_i o
   obtain ⟨m, hm, rfl⟩ := hu
   split at hx
   · rename_i hcell
     obtain ⟨m', hm', h1, h2, h0⟩ := s.obj o _ hcell
     rw [hm] at hm'; simp only [Option.some.injEq] at hm' hx; subst hm'; subst hx
     unfold ME.val
     split
     · rename_i hn
       have h00 := (by first | (exact h0.1 hn) | (exact h0.2.1 hn) : _ = [])
       exact ⟨_, _, _, rfl, by rw [h00]; rfl⟩
     · exact ⟨_, _, _, rfl, by rw [h2]⟩
   · rename_i hcell
     obtain ⟨m', hm', h1, h2, h0⟩ := s.obj o _ hcell
     rw [hm] at hm'; simp only [Option.some.injEq] at hm' hx; subst hm'; subst hx
     unfold ME.val
     split
     · rename_i hn
       have h00 := (by first | (exact h0.1 hn) | (exact h0.2.1 hn) : _ = [])
       exact ⟨_, _, _, rfl, by rw [h00]; rfl⟩
     · exact ⟨_, _, _, rfl, by rw [h2]⟩
   · simp at hx
 · rename_i o k
   obtain ⟨m, hm, hrow⟩ := hu
   split at hx
   · rename_i sz rows hcell
     obtain ⟨m', hm', h1, h2, h4, h0, hh⟩ := s.obj o _ hcell
     rw [hm] at hm'; simp only [Option.some.injEq] at hm' hx; subst hm'; subst hx
     have hk : k < rows.length := by
       rw [← h4]
       rcases Nat.lt_or_ge k m.rows.length with h | h
       · exact h
       · rw [List.getElem?_eq_none h] at hrow; simp at hrow
     have hnil := m.nil_of (fun h => by rw [h0 h] at hk; simp at hk)
     obtain ⟨h3, cs, t', hb, h5, h6, h7⟩ := hh hnil
     obtain ⟨a, cap, rfl, _⟩ := h7 k u _ hrow (List.getElem?_eq_getElem hk)
     exact ⟨_, _, _, rfl, by simp [hk]⟩
   · simp at hx
 · simp only [Option.some.injEq] at hx; subst hx
   obtain ⟨m, _, rfl, _⟩ := hu
   exact ⟨_, _, _, rfl, rfl⟩
 · simp at hx
end
end Go.AM
/- The abstract machine: one function for all operations that only compute and read. -/
namespace Go.AM
def OptV : Option Int → Option Value → Prop
 | none, v => v = none
 | some n, v => ∃ k, v = some (.int k n)
def optInt (t : List (Nat × V)) : Option Operand → Option (Option Int)
 | none => some none
 | some x => match ev t x with
   | some (.e (.sc (.dat (.int _ n)))) => some (some n)
   | _ => none
def xslice (T:Tab) (t:Nat) (x:V) (lo hi mx : Option Int) : Option (V × List Prop) :=
 match tfind T t with
 | some ti =>
   match ti.k with
   | .slice e =>
     match tfind T e with
     | some te =>
       match x with
       | .e (.sc (.dat (.sl elems))) =>
         match lo, hi, mx with
         | none, some h, none => some (.e (.sc (.dat (.sl (elems.take h.toNat)))), [0 ≤ h ∧ h ≤ (elems.length:Int)])
         | none, some h, some m => some (.e (.sc (.dat (.sl (elems.take h.toNat)))), [0 ≤ h ∧ h ≤ m ∧ m ≤ (elems.length:Int)])
         | some l, none, none => some (.e (.sc (.dat (.sl (elems.drop l.toNat)))), [0 ≤ l ∧ l ≤ (elems.length:Int), ∀ y ∈ elems, y.length = te.size])
         | some l, some h, none => some (.e (.sc (.dat (.sl ((elems.take h.toNat).drop l.toNat)))), [0 ≤ l ∧ l ≤ h ∧ h ≤ (elems.length:Int), ∀ y ∈ elems, y.length = te.size])
         | some l, some h, some m => some (.e (.sc (.dat (.sl ((elems.take h.toNat).drop l.toNat)))), [0 ≤ l ∧ l ≤ h ∧ h ≤ m ∧ m ≤ (elems.length:Int), ∀ y ∈ elems, y.length = te.size])
         | _, _, _ => none
       | _ => none
     | none => none
   | _ => none
 | none => none
section
variable {P : Program} {w : World} {I:Nat → Prop} {M : Mem}
theorem reads_sub {a : Option Addr} {n cap : Nat} {elems : DL} (hr : Reads w I (.slice a n cap) (.sl elems)) {z l h m : Nat} (h1 : l ≤ h) (h2 : h ≤ m) (h4 : h ≤ elems.length)
   (hz : l = 0 ∨ ∀ y ∈ elems, y.length = z) : Reads w I (.slice (if m = l then a else a.map (·.add (l * z))) (h - l) (m - l)) (.sl ((elems.take h).drop l)) := by
 by_cases hlen : h - l = 0
 · rw [hlen]
   have : (elems.take h).drop l = [] := List.drop_eq_nil_of_le (by simp; omega)
   rw [this]; exact .slnil _ _
 · rw [if_neg (by omega)]
   cases hr with
   | slnil a' c' => simp at h4; omega
   | sl _ vs hI hb hs hcap hc hrr =>
     rename_i b off s cs t fr
     have hsz : l * z = l * s := by
       rcases hz with rfl | hz
       · simp
       · rcases Nat.eq_zero_or_pos elems.length with h0 | h0
         · omega
         · have hm := List.getElem_mem (l := elems) (n := 0) h0
           rw [← hz _ hm, hs _ hm]
     have hlen' : ((elems.take h).drop l).length = h - l := by simp; omega
     rw [← hlen']
     simp only [Option.map_some, Addr.add_lit, hsz]
     have hat : ∀ i j d, at2 ((elems.take h).drop l) i j = some d → at2 elems (l + i) j = some d := fun i j d hd => by
       simp only [at2, List.getElem?_drop, List.getElem?_take] at hd
       split at hd
       · exact hd
       · simp at hd
     refine .sl _ (fun i j => vs (l + i) j) hI hb (fun x hx => hs x (List.mem_of_mem_take (List.mem_of_mem_drop hx))) (by omega) (fun i j d hd => ?_) (fun i j d hd => hrr _ _ _ (hat i j d hd))
     have := hc _ _ _ (hat i j d hd)
     rw [← this]; congr 1
     rw [Nat.add_mul]; omega
theorem reads_cap {v : Value} {elems : DL} (hr : Reads w I v (.sl elems)) : ∃ a cap, v = .slice a elems.length cap ∧ (elems ≠ [] → elems.length ≤ cap) := by
 cases hr with
 | slnil a cap => exact ⟨a, cap, rfl, fun h => absurd rfl h⟩
 | sl _ vs hI hb hs hcap hc hrr => exact ⟨_, _, rfl, fun _ => hcap⟩
theorem run_bound {k : IntKind} {n : Int} {y : Nat} (c : BoundsCode) (h : 0 ≤ n ∧ n ≤ (y:Int)) : (Instr.sliceBound (.int k n) y c).run P w = .ok n.toNat w := by
 simp [Instr.sliceBound, asIntOf, h]
theorem optInt_ok {σ : St} {a : Act} (s : Sim I M σ a w) {x : Option Operand} {n : Option Int} (h : optInt σ.t x = some n) : OptV n (x.map a.eval) := by
 cases x with
 | none => simp only [optInt, Option.some.injEq] at h; subst h; rfl
 | some x =>
   simp only [optInt] at h
   split at h
   · rename_i k n' hev
     simp only [Option.some.injEq] at h; subst h
     have := s.ev hev
     refine ⟨k, ?_⟩
     simp only [Option.map_some]
     generalize a.eval x = v at this
     cases this
     rfl
   · simp at h
theorem run_slice {t e : Nat} (hu : P.underlying t = some (.slice e)) {te : TI} (he : TIOK P e te) {a : Option Addr} {n cap : Nat} {lo hi mx : Option Value} {l h m : Nat}
   (hb : (Instr.sliceBounds true n cap lo hi mx).run P w = .ok (l, h, m) w) :
   (Instr.sliceAt t (.slice a n cap) lo hi mx).run P w = .ok (.slice (if m = l then a else a.map (·.add (l * te.size))) (h - l) (m - l)) w := by
 simp [Instr.sliceAt, Instr.slice, run_underlying hu, hb, he.sizeOf]
theorem xslice_ok {T : Tab} (hT : TOK P T) {t : Nat} {x r : V} {lo hi mx : Option Int} {obs : List Prop} (hx : xslice T t x lo hi mx = some (r, obs)) (ho : AllP obs)
   {u : Value} (hu : RelV w I M u x) {lo' hi' mx' : Option Value} (h1 : OptV lo lo') (h2 : OptV hi hi') (h3 : OptV mx mx') :
   ∃ y, (Instr.sliceAt t u lo' hi' mx').run P w = .ok y w ∧ RelV w I M y r := by
 unfold xslice at hx
 split at hx
 case h_2 => simp at hx
 rename_i ti hti
 split at hx
 case h_2 => simp at hx
 rename_i e hk
 have hund := (hT.find hti).slice hk
 split at hx
 case h_2 => simp at hx
 rename_i te hte
 have he := hT.find hte
 split at hx
 case h_2 => simp at hx
 rename_i elems
 have hu' : Reads w I u (.sl elems) := hu
 obtain ⟨a, cap, rfl, hcap⟩ := reads_cap hu'
 have hcap' : ∀ n : Nat, n ≤ elems.length → n ≤ cap := fun n hn => by
   cases elems with
   | nil => simp at hn; omega
   | cons y l => exact Nat.le_trans hn (hcap (by simp))
 split at hx
 · rename_i h
   simp only [Option.some.injEq, Prod.mk.injEq] at hx
   obtain ⟨rfl, rfl⟩ := hx
   obtain ⟨k, rfl⟩ := h2
   simp only [OptV] at h1 h3; subst h1; subst h3
   have hn := ho.1
   have hb : (Instr.sliceBounds true elems.length cap none (some (.int k h)) none).run P w = .ok (0, h.toNat, cap) w := by
     have := hcap' h.toNat (by omega)
     simp [Instr.sliceBounds, run_bound (P := P) (w := w) (k := k) (n := h) (y := cap) .sliceAcap (by omega)]
   refine ⟨_, run_slice hund he hb, ?_⟩
   have := hcap' h.toNat (by omega)
   have := reads_sub hu' (z := te.size) (l := 0) (h := h.toNat) (m := cap) (by omega) (by omega) (by omega) (.inl rfl)
   simpa [RelV, RelE, RelS] using this
 · rename_i h m
   simp only [Option.some.injEq, Prod.mk.injEq] at hx
   obtain ⟨rfl, rfl⟩ := hx
   obtain ⟨k, rfl⟩ := h2
   obtain ⟨k', rfl⟩ := h3
   simp only [OptV] at h1; subst h1
   have hn := ho.1
   have hb : (Instr.sliceBounds true elems.length cap none (some (.int k h)) (some (.int k' m))).run P w = .ok (0, h.toNat, m.toNat) w := by
     have := hcap' m.toNat (by omega)
     simp [Instr.sliceBounds, run_bound (P := P) (w := w) (k := k) (n := h) (y := m.toNat) .slice3B (by omega), run_bound (P := P) (w := w) (k := k') (n := m) (y := cap) .slice3Acap (by omega)]
   refine ⟨_, run_slice hund he hb, ?_⟩
   have := reads_sub hu' (z := te.size) (l := 0) (h := h.toNat) (m := m.toNat) (by omega) (by omega) (by omega) (.inl rfl)
   simpa [RelV, RelE, RelS] using this
 · rename_i l
   simp only [Option.some.injEq, Prod.mk.injEq] at hx
   obtain ⟨rfl, rfl⟩ := hx
   obtain ⟨k, rfl⟩ := h1
   simp only [OptV] at h2 h3; subst h2; subst h3
   have hn := ho.1
   have hb : (Instr.sliceBounds true elems.length cap (some (.int k l)) none none).run P w = .ok (l.toNat, elems.length, cap) w := by
     simp [Instr.sliceBounds, run_bound (P := P) (w := w) (k := k) (n := l) (y := elems.length) .sliceB (by omega)]
   refine ⟨_, run_slice hund he hb, ?_⟩
   have := hcap' elems.length (by omega)
   have := reads_sub hu' (z := te.size) (l := l.toNat) (h := elems.length) (m := cap) (by omega) (by omega) (by omega) (.inr ho.2.1)
   simpa [RelV, RelE, RelS] using this
 · rename_i l h
   simp only [Option.some.injEq, Prod.mk.injEq] at hx
   obtain ⟨rfl, rfl⟩ := hx
   obtain ⟨k, rfl⟩ := h1
   obtain ⟨k', rfl⟩ := h2
   simp only [OptV] at h3; subst h3
   have hn := ho.1
   have := hcap' h.toNat (by omega)
   have hb : (Instr.sliceBounds true elems.length cap (some (.int k l)) (some (.int k' h)) none).run P w = .ok (l.toNat, h.toNat, cap) w := by
     simp [Instr.sliceBounds, run_bound (P := P) (w := w) (k := k') (n := h) (y := cap) .sliceAcap (by omega), run_bound (P := P) (w := w) (k := k) (n := l) (y := h.toNat) .sliceB (by omega)]
   refine ⟨_, run_slice hund he hb, ?_⟩
   exact reads_sub hu' (z := te.size) (l := l.toNat) (h := h.toNat) (m := cap) (by omega) (by omega) (by omega) (.inr ho.2.1)
 · rename_i l h m
   simp only [Option.some.injEq, Prod.mk.injEq] at hx
   obtain ⟨rfl, rfl⟩ := hx
   obtain ⟨k, rfl⟩ := h1
   obtain ⟨k', rfl⟩ := h2
   obtain ⟨k'', rfl⟩ := h3
   have hn := ho.1
   have := hcap' m.toNat (by omega)
   have hb : (Instr.sliceBounds true elems.length cap (some (.int k l)) (some (.int k' h)) (some (.int k'' m))).run P w = .ok (l.toNat, h.toNat, m.toNat) w := by
     simp [Instr.sliceBounds, run_bound (P := P) (w := w) (k := k') (n := h) (y := m.toNat) .slice3B (by omega), run_bound (P := P) (w := w) (k := k) (n := l) (y := h.toNat) .slice3C (by omega), run_bound (P := P) (w := w) (k := k'') (n := m) (y := cap) .slice3Acap (by omega)]
   refine ⟨_, run_slice hund he hb, ?_⟩
   exact reads_sub hu' (z := te.size) (l := l.toNat) (h := h.toNat) (m := m.toNat) (by omega) (by omega) (by omega) (.inr ho.2.1)
 · simp at hx
def xfield (T:Tab) (t:Nat) (v:V) (f:Nat) : Option (V × List Prop) :=
 match tfind T t, v with
 | some ti, .e (.agg l) =>
   match ti.k with
   | .struct fs => match fs[f]? with
     | some (off, ft) => match tfind T ft with
       | some tf => (mkV tf ((l.drop off).take tf.size)).map fun r => (r, [])
       | none => none
     | none => none
   | _ => none
 | _, _ => none
theorem part_ok {t : Nat} {tf : TI} (ht : TIOK P t tf) {cs : Array Value} {l : List S} (hrel : RelL w I M cs.toList l) {off : Nat} {r : V} (hr : mkV tf ((l.drop off).take tf.size) = some r) :
   ∃ x, (part t cs off).run P w = .ok x w ∧ RelV w I M x r := by
 have hsub : RelL w I M ((cs.toList.drop off).take tf.size) ((l.drop off).take tf.size) :=
   ⟨by simp [← hrel.1], fun j v s hv hs => by
     rw [List.getElem?_take] at hv hs
     split at hv
     · rename_i hj
       rw [List.getElem?_drop] at hv
       rw [if_pos hj, List.getElem?_drop] at hs
       exact hrel.2 _ v s hv hs
     · simp at hv⟩
 unfold mkV at hr
 split at hr
 · rename_i hsz
   simp only [beq_iff_eq] at hsz
   split at hr
   · rename_i hagg
     simp only [Option.some.injEq] at hr; subst hr
     refine ⟨.agg (cs.extract off (off + tf.size)), ?_, _, rfl, ?_⟩
     · simp [part, ht.isAgg, hagg, ht.sizeOf]
     · have : (cs.extract off (off + tf.size)).toList = (cs.toList.drop off).take tf.size := by
         simp [List.take_drop]
       rw [this]; exact hsub
   · rename_i hagg
     split at hr
     · rename_i s hs
       simp only [Option.some.injEq] at hr; subst hr
       rw [hs] at hsub hsz
       have hl := hsub.1
       simp only [List.length_cons, List.length_nil] at hl hsz
       have h0 : off < cs.size := by
         simp only [List.length_take, List.length_drop, Array.length_toList] at hl; omega
       refine ⟨cs[off], ?_, hsub.2 0 _ s ?_ rfl⟩
       · simp [part, ht.isAgg, hagg, Array.getElem?_eq_getElem h0]
       · rw [List.getElem?_take, if_pos (by omega), List.getElem?_drop]
         simp [Array.getElem?_eq_getElem h0]
     · simp at hr
 · simp at hr
def xindex (T:Tab) (t:Nat) (x i:V) : Option (V × List Prop) :=
 match tfind T t, x, i with
 | some ti, .e (.agg l), .e (.sc (.dat (.int _ n))) =>
   match ti.k with
   | .array len e =>
     match tfind T e with
     | some te => (mkV te ((l.drop (n.toNat * te.size)).take te.size)).map fun r => (r, [0 ≤ n ∧ n < (len:Int)])
     | none => none
   | _ => none
 | _, _, _ => none
theorem xindex_ok {T : Tab} (hT : TOK P T) {t : Nat} {x i r : V} {obs : List Prop} (hx : xindex T t x i = some (r, obs)) (ho : AllP obs) {u j : Value} (hu : RelV w I M u x) (hj : RelV w I M j i) :
   ∃ y, (Instr.index t u j).run P w = .ok y w ∧ RelV w I M y r := by
 unfold xindex at hx
 split at hx
 case h_2 => simp at hx
 rename_i ti l k n hti
 split at hx
 case h_2 => simp at hx
 rename_i len e hk
 split at hx
 case h_2 => simp at hx
 rename_i te hte
 simp only [Option.map_eq_some_iff, Prod.mk.injEq] at hx
 obtain ⟨r', hr, rfl, rfl⟩ := hx
 have hund := (hT.find hti).array hk
 have he := hT.find hte
 cases hj
 obtain ⟨cs, rfl, hrel⟩ := hu
 obtain ⟨y, h1, h2⟩ := part_ok (P := P) (w := w) he hrel hr
 refine ⟨y, ?_, h2⟩
 have hn := ho.1
 simp [Instr.index, run_underlying hund, asIntOf, hn, he.sizeOf, h1]
theorem xfield_ok {T : Tab} (hT : TOK P T) {t f : Nat} {v r : V} {obs : List Prop} (hx : xfield T t v f = some (r, obs)) {u : Value} (hu : RelV w I M u v) :
   ∃ x, (Instr.field t u f).run P w = .ok x w ∧ RelV w I M x r := by
 unfold xfield at hx
 split at hx
 case h_2 => simp at hx
 rename_i ti l hti
 split at hx
 case h_2 => simp at hx
 rename_i fs hk
 split at hx
 case h_2 => simp at hx
 rename_i off ft hf
 split at hx
 case h_2 => simp at hx
 rename_i tf htf
 simp only [Option.map_eq_some_iff, Prod.mk.injEq] at hx
 obtain ⟨r', hr, rfl, rfl⟩ := hx
 obtain ⟨gs, hg, hoffs⟩ := (hT.find hti).struct hk
 obtain ⟨cs, rfl, hrel⟩ := hu
 rw [← hoffs] at hf
 simp only [offs, List.getElem?_map, Option.map_eq_some_iff, Prod.mk.injEq] at hf
 obtain ⟨g, hgf, rfl, rfl⟩ := hf
 have hgf' : gs[f]? = some g := by simpa using hgf
 have ht := hT.find htf
 have hsub : RelL w I M ((cs.toList.drop g.offset).take tf.size) ((l.drop g.offset).take tf.size) :=
   ⟨by simp [← hrel.1], fun j v s hv hs => by
     rw [List.getElem?_take] at hv hs
     split at hv
     · rename_i hj
       rw [List.getElem?_drop] at hv
       rw [if_pos hj, List.getElem?_drop] at hs
       exact hrel.2 _ v s hv hs
     · simp at hv⟩
 unfold mkV at hr
 split at hr
 · rename_i hsz
   simp only [beq_iff_eq] at hsz
   split at hr
   · rename_i hagg
     simp only [Option.some.injEq] at hr; subst hr
     refine ⟨.agg (cs.extract g.offset (g.offset + tf.size)), ?_, _, rfl, ?_⟩
     · simp [Instr.field, run_underlying hg, hgf', asAgg, part, ht.isAgg, hagg, ht.sizeOf]
     · have : (cs.extract g.offset (g.offset + tf.size)).toList = (cs.toList.drop g.offset).take tf.size := by
         simp [List.take_drop]
       rw [this]; exact hsub
   · rename_i hagg
     split at hr
     · rename_i s hs
       simp only [Option.some.injEq] at hr; subst hr
       rw [hs] at hsub hsz
       have hl := hsub.1
       simp only [List.length_cons, List.length_nil] at hl hsz
       have h0 : g.offset < cs.size := by
         simp only [List.length_take, List.length_drop, Array.length_toList] at hl; omega
       refine ⟨cs[g.offset], ?_, hsub.2 0 _ s ?_ rfl⟩
       · simp [Instr.field, run_underlying hg, hgf', asAgg, part, ht.isAgg, hagg, Array.getElem?_eq_getElem h0]
       · rw [List.getElem?_take, if_pos (by omega), List.getElem?_drop]
         simp [Array.getElem?_eq_getElem h0]
     · simp at hr
 · simp at hr
def xextract (v:V) (i:Nat) : Option (V × List Prop) :=
 match v with
 | .tup l => match l[i]? with
   | some x => some (.e x, [])
   | none => none
 | _ => none
theorem xextract_ok {v r : V} {i : Nat} {obs : List Prop} (hx : xextract v i = some (r, obs)) {u : Value} (hu : RelV w I M u v) :
   ∃ y, (Instr.extract u i).run P w = .ok y w ∧ RelV w I M y r := by
 unfold xextract at hx
 split at hx
 · rename_i l
   obtain ⟨vs, rfl, hl, hr⟩ := hu
   split at hx
   · rename_i x hxl
     simp only [Option.some.injEq, Prod.mk.injEq] at hx
     obtain ⟨rfl, rfl⟩ := hx
     have hlt : i < vs.length := by
       rw [hl]
       rcases Nat.lt_or_ge i l.length with h | h
       · exact h
       · rw [List.getElem?_eq_none h] at hxl; simp at hxl
     have hg : vs[i]? = some vs[i] := List.getElem?_eq_getElem hlt
     exact ⟨vs[i], by simp [Instr.extract, hg], hr i _ _ hg hxl⟩
   · simp at hx
 · simp at hx
def patch (cells : List S) (off:Nat) (l : List S) : List S := cells.take off ++ l ++ cells.drop (off + l.length)
def E.cells : E → List S
 | .sc s => [s]
 | .agg l => l
theorem RelE.cellsL {v : Value} {x : E} (h : RelE w I M v x) : (∃ l, x = .agg l) ∨ v.oneCell' = true → RelL w I M v.cells.toList x.cells := by
 intro hor
 cases x with
 | agg l => obtain ⟨cs, rfl, h2⟩ := h; exact h2
 | sc s =>
   rcases hor with ⟨l, hl⟩ | hor
   · simp at hl
   · have : v.cells = #[v] := by cases v <;> simp [Value.oneCell'] at hor <;> rfl
     rw [this]
     refine ⟨rfl, fun i u s' hu hs => ?_⟩
     match i, hu, hs with
     | 0, hu, hs => simp only [E.cells, List.getElem?_cons_zero, Option.some.injEq] at hu hs; subst hu; subst hs; exact h
     | i + 1, hu, hs => simp at hu
def S.one : S → Bool
 | .dat (.raw v) => v.oneCell'
 | .undef => false
 | .row .. => false
 | _ => true
theorem S.one_ok {v : Value} {s : S} (h : RelS w I M v s) (ho : s.one = true) : v.oneCell' = true := by
 cases s with
 | dat d => exact Reads.one h
 | ref o => obtain ⟨e, _, rfl⟩ := h; unfold ME.val; split <;> rfl
 | ptr o k => obtain ⟨e, _, rfl⟩ := h; rfl
 | aptr o i k => obtain ⟨e, _, _, rfl⟩ := h; rfl
 | eptr z elems i k => obtain ⟨b, off, s, _, _, rfl⟩ := h; rfl
 | row o k => simp [S.one] at ho
 | mptr o i => obtain ⟨e, _, _, rfl⟩ := h; rfl
 | rptr o r i k => obtain ⟨e, b, n, cap, _, _, _, rfl⟩ := h; rfl
 | clo f caps => obtain ⟨vs, rfl, _⟩ := h; rfl
 | bptr ds k => obtain ⟨b, _, rfl⟩ := h; rfl
 | refb o n => obtain ⟨e, _, rfl, _⟩ := h; rfl
 | undef => simp [S.one] at ho
def E.one : E → Bool
 | .sc s => s.one
 | .agg l => l.all S.one
theorem E.one_cells {v : Value} {x : E} (h : RelE w I M v x) (ho : x.one = true) : RelL w I M v.cells.toList x.cells ∧ ∀ u ∈ v.cells.toList, u.oneCell' = true := by
 have h1 := h.cellsL (by
   cases x with
   | agg l => exact .inl ⟨l, rfl⟩
   | sc s => exact .inr (S.one_ok h ho))
 refine ⟨h1, fun u hu => ?_⟩
 obtain ⟨i, hi⟩ := List.mem_iff_getElem?.1 hu
 have hlt : i < x.cells.length := by
   rw [← h1.1]
   rcases Nat.lt_or_ge i v.cells.toList.length with h | h
   · exact h
   · rw [List.getElem?_eq_none h] at hi; simp at hi
 have hg : x.cells[i]? = some x.cells[i] := List.getElem?_eq_getElem hlt
 refine S.one_ok (h1.2 i u _ hi hg) ?_
 cases x with
 | sc s => simp only [E.cells, List.getElem_singleton]; exact ho
 | agg l => simp only [E.one, List.all_eq_true] at ho; exact ho _ (List.getElem_mem _)
end
end Go.AM
/- The abstract machine: struct and array values built of parts. -/
namespace Go.AM
theorem foldl_set (off:Nat) : ∀ (l : List Value) (n:Nat) (cs : Array Value), off + n + l.length ≤ cs.size →
   ((l.zipIdx n).foldl (fun (cs : Array Value) (p : Value × Nat) => cs.setIfInBounds (off + p.2) p.1) cs).toList =
     cs.toList.take (off + n) ++ l ++ cs.toList.drop (off + n + l.length)
 | [], n, cs, _ => by simp
 | v :: l, n, cs, h => by
   simp only [List.length_cons] at h
   simp only [List.zipIdx_cons, List.foldl_cons]
   rw [foldl_set off l (n + 1) _ (by simp; omega)]
   simp only [Array.toList_setIfInBounds]
   have e1 : (cs.toList.set (off + n) v).take (off + (n + 1)) = cs.toList.take (off + n) ++ [v] := by
     rw [List.take_set, show off + (n + 1) = (off + n) + 1 from by omega, List.take_succ_eq_append_getElem (by simp; omega)]
     rw [List.set_append_right _ _ (by simp; omega)]
     have hm : min (off + n) cs.size = off + n := by omega
     simp [hm]
   have e2 : (cs.toList.set (off + n) v).drop (off + (n + 1) + l.length) = cs.toList.drop (off + n + (l.length + 1)) := by
     rw [List.drop_set, if_pos (by omega)]
     congr 1; omega
   rw [e1, e2]
   simp
theorem RelL.append {w : World} {I:Nat → Prop} {M : Mem} {a b : List Value} {x y : List S} (h : RelL w I M a x) (k : RelL w I M b y) : RelL w I M (a ++ b) (x ++ y) := by
 refine ⟨by simp [h.1, k.1], fun i v s hv hs => ?_⟩
 by_cases hi : i < a.length
 · rw [List.getElem?_append_left hi] at hv
   rw [List.getElem?_append_left (h.1 ▸ hi)] at hs
   exact h.2 i v s hv hs
 · rw [List.getElem?_append_right (by omega)] at hv
   rw [List.getElem?_append_right (by have := h.1; omega), ← h.1] at hs
   exact k.2 _ v s hv hs
theorem RelL.take {w : World} {I:Nat → Prop} {M : Mem} {a : List Value} {x : List S} (h : RelL w I M a x) (n:Nat) : RelL w I M (a.take n) (x.take n) := by
 refine ⟨by simp [h.1], fun i v s hv hs => ?_⟩
 rw [List.getElem?_take] at hv hs
 split at hv
 · rename_i hi; rw [if_pos hi] at hs; exact h.2 i v s hv hs
 · simp at hv
theorem RelL.drop {w : World} {I:Nat → Prop} {M : Mem} {a : List Value} {x : List S} (h : RelL w I M a x) (n:Nat) : RelL w I M (a.drop n) (x.drop n) := by
 refine ⟨by simp [h.1], fun i v s hv hs => ?_⟩
 rw [List.getElem?_drop] at hv hs
 exact h.2 _ v s hv hs
theorem RelL.patch {w : World} {I:Nat → Prop} {M : Mem} {a b : List Value} {x y : List S} (h : RelL w I M a x) (k : RelL w I M b y) (off:Nat) :
   RelL w I M (a.take off ++ b ++ a.drop (off + b.length)) (patch x off y) := by
 unfold AM.patch
 rw [k.1]
 exact ((h.take off).append k).append (h.drop _)
theorem RelP.patch {w : World} {I:Nat → Prop} {M : Mem} {a b : List Value} {x y : List S} (h : RelP w I M a x) (k : RelL w I M b y) {off : Nat} (ho : off + y.length ≤ x.length) :
   RelP w I M (a.take off ++ b ++ a.drop (off + b.length)) (patch x off y) := by
 have h1 := h.1
 have h2 := k.1
 unfold AM.patch
 refine ⟨by simp only [List.length_append, List.length_take, List.length_drop]; omega, fun i v s hv hs => ?_⟩
 have e1 : (a.take off).length = off := by rw [List.length_take]; omega
 have e2 : (x.take off).length = off := by rw [List.length_take]; omega
 by_cases c1 : i < off
 · rw [List.append_assoc, List.getElem?_append_left (by omega), List.getElem?_take, if_pos c1] at hv hs
   exact h.2 i v s hv hs
 · by_cases c2 : i < off + y.length
   · rw [List.append_assoc, List.getElem?_append_right (by omega), List.getElem?_append_left (by omega)] at hv hs
     rw [e1] at hv; rw [e2] at hs
     exact k.2 _ v s hv hs
   · rw [List.getElem?_append_right (by rw [List.length_append]; omega), List.getElem?_drop] at hv hs
     rw [List.length_append, e1] at hv; rw [List.length_append, e2] at hs
     rw [show off + b.length + (i - (off + b.length)) = i by omega] at hv
     rw [show off + y.length + (i - (off + y.length)) = i by omega] at hs
     exact h.2 i v s hv hs
def xfill (place:Nat → Option (Nat × Nat)) : List S → List (Nat × E) → Option (List S)
 | cells, [] => some cells
 | cells, (i, x) :: rest =>
   match place i with
   | none => none
   | some (off, size) => if x.one && x.cells.length == size && off + x.cells.length ≤ cells.length then xfill place (patch cells off x.cells) rest else none
section
variable {P : Program} {w : World} {I:Nat → Prop} {M : Mem}
theorem xfill_ok (place:Nat → Option (Nat × Nat)) : ∀ (parts : List (Nat × E)) (cells cells' : List S) (vs : List (Nat × Value)) (cs : Array Value),
   xfill place cells parts = some cells' → vs.length = parts.length →
   (∀ (j:Nat) p q, vs[j]? = some p → parts[j]? = some q → p.1 = q.1 ∧ RelE w I M p.2 q.2) → RelL w I M cs.toList cells →
   ∃ cs', Instr.fill place cs vs = some cs' ∧ RelL w I M cs'.toList cells'
 | [], cells, cells', vs, cs, hx, hl, _, hrel => by
   simp only [xfill, Option.some.injEq] at hx; subst hx
   have : vs = [] := List.length_eq_zero_iff.1 hl
   subst this
   exact ⟨cs, rfl, hrel⟩
 | (i, x) :: rest, cells, cells', [], cs, hx, hl, _, hrel => by simp at hl
 | (i, x) :: rest, cells, cells', (i', v) :: vs, cs, hx, hl, hp, hrel => by
   obtain ⟨h1, h2⟩ := hp 0 _ _ rfl rfl
   simp only at h1 h2
   subst h1
   simp only [xfill] at hx
   split at hx
   · simp at hx
   · rename_i off size hplace
     split at hx
     · rename_i hc
       simp only [Bool.and_eq_true, beq_iff_eq, decide_eq_true_eq] at hc
       obtain ⟨⟨ho, hsz⟩, hle⟩ := hc
       obtain ⟨hcell, _⟩ := E.one_cells h2 ho
       have hlen : v.cells.size = x.cells.length := by simpa using hcell.1
       have hcs : cs.size = cells.length := by simpa using hrel.1
       have hset := foldl_set off v.cells.toList 0 cs (by simp; omega)
       obtain ⟨cs', hf, hr⟩ := xfill_ok place rest _ cells' vs
         ((v.cells.toList.zipIdx 0).foldl (fun (cs : Array Value) (p : Value × Nat) => cs.setIfInBounds (off + p.2) p.1) cs) hx (by simpa using hl)
         (fun j p q a b => hp (j + 1) p q a b) (by rw [hset]; exact hrel.patch hcell off)
       refine ⟨cs', ?_, hr⟩
       have hz : v.cells.zipIdx.foldl (fun (cs : Array Value) (p : Value × Nat) => cs.setIfInBounds (off + p.2) p.1) cs =
           (v.cells.toList.zipIdx 0).foldl (fun (cs : Array Value) (p : Value × Nat) => cs.setIfInBounds (off + p.2) p.1) cs := by
         rw [← Array.foldl_toList]; simp
       simp only [Instr.fill, hplace]
       rw [if_neg (by simp; omega)]
       rw [← hf]
       congr 1
     · simp at hx
def evParts (t : List (Nat × V)) : List (Nat × Operand) → Option (List (Nat × E))
 | [] => some []
 | (i, x) :: l => match ev t x, evParts t l with
   | some (.e y), some r => some ((i, y) :: r)
   | _, _ => none
theorem evParts_ok {σ : St} {a : Act} (s : Sim I M σ a w) : ∀ (l : List (Nat × Operand)) (r : List (Nat × E)), evParts σ.t l = some r →
   (l.map fun p => (p.1, a.eval p.2)).length = r.length ∧ ∀ (j:Nat) p q, (l.map fun p => (p.1, a.eval p.2))[j]? = some p → r[j]? = some q → p.1 = q.1 ∧ RelE w I M p.2 q.2
 | [], r, h => by simp only [evParts, Option.some.injEq] at h; subst h; exact ⟨rfl, fun j p q hp => by simp at hp⟩
 | (i, x) :: l, r, h => by
   simp only [evParts] at h
   split at h
   · rename_i y r' hy hr
     simp only [Option.some.injEq] at h; subst h
     obtain ⟨h1, h2⟩ := evParts_ok s l r' hr
     refine ⟨by simp at h1; simp [h1], fun j p q hp hq => ?_⟩
     match j, hp, hq with
     | 0, hp, hq =>
       simp only [List.map_cons, List.getElem?_cons_zero, Option.some.injEq] at hp hq
       subst hp; subst hq
       exact ⟨rfl, s.ev hy⟩
     | j + 1, hp, hq => exact h2 j p q (by simpa using hp) (by simpa using hq)
   · simp at h
def fieldPl (T:Tab) (fs : List (Nat × Nat)) (i:Nat) : Option (Nat × Nat) :=
 match fs[i]? with
 | some (off, ft) => match tfind T ft with
   | some tf => some (off, tf.size)
   | none => none
 | none => none
def zeroS (ti : TI) : List S := ti.zero.map fun v => .dat (cdat v)
theorem zeroS_ok {ti : TI} (hz : ∀ v ∈ ti.zero, v.oneCell' = true) : RelL w I M ti.zero (zeroS ti) :=
 ⟨by simp [zeroS], fun i v s hv hs => by
   simp only [zeroS, List.getElem?_map, hv, Option.map_some, Option.some.injEq] at hs
   subst hs; exact cdat_ok w I v (hz v (List.mem_of_getElem? hv))⟩
def xbuild (T:Tab) (σt : List (Nat × V)) (t:Nat) (parts : List (Nat × Operand)) : Option (V × List Prop) :=
 match tfind T t with
 | some ti =>
   match ti.k, evParts σt parts with
   | .struct fs, some ps => if fs.all (fun f => (tfind T f.2).isSome) then (xfill (fieldPl T fs) (zeroS ti) ps).map fun l => (.e (.agg l), []) else none
   | .array _ e, some ps => match tfind T e with
     | some te => (xfill (fun i => some (i * te.size, te.size)) (zeroS ti) ps).map fun l => (.e (.agg l), [])
     | none => none
   | _, _ => none
 | none => none
theorem mapM_sizes {T : Tab} (hT : TOK P T) : ∀ (fs : List Field), (∀ f ∈ fs, (tfind T f.type).isSome = true) →
   (fs.mapM (m := Sem) fun f => do pure (f.offset, ← sizeOf f.type)).run P w = .ok (fs.map fun f => (f.offset, ((tfind T f.type).map (·.size)).getD 0)) w
 | [], _ => by simp
 | f :: fs, h => by
   obtain ⟨tf, htf⟩ := Option.isSome_iff_exists.1 (h f List.mem_cons_self)
   have := mapM_sizes hT fs (fun g hg => h g (List.mem_cons_of_mem _ hg))
   simp only [List.mapM_cons, Sem.run_bind, (hT.find htf).sizeOf, Result.andThen, Sem.run_pure] at this ⊢
   rw [this]
   simp [htf]
theorem xbuild_ok {T : Tab} (hT : TOK P T) {σ : St} {a : Act} (s : Sim I M σ a w) {t : Nat} {parts : Array (Nat × Operand)} {r : V} {obs : List Prop}
   (hx : xbuild T σ.t t parts.toList = some (r, obs)) : ∃ y, (Instr.build t (parts.map fun p => (p.1, a.eval p.2))).run P w = .ok y w ∧ RelV w I M y r := by
 unfold xbuild at hx
 split at hx
 case h_2 => simp at hx
 rename_i ti hti
 have ht := hT.find hti
 obtain ⟨z, hz, hzl⟩ := ht.zeroValue
 split at hx
 · rename_i fs ps hk hps
   split at hx
   case isFalse => simp at hx
   rename_i hall
   simp only [Option.map_eq_some_iff, Prod.mk.injEq] at hx
   obtain ⟨cells', hf, rfl, rfl⟩ := hx
   obtain ⟨gs, hg, hoffs⟩ := ht.struct hk
   obtain ⟨h1, h2⟩ := evParts_ok s _ _ hps
   obtain ⟨cs', hfill, hrel⟩ := xfill_ok (w := w) (I := I) (M := M) (fieldPl T fs) ps _ _ _ z.cells hf h1 h2 (by rw [hzl]; exact zeroS_ok ht.zone)
   have hsome : ∀ f ∈ gs.toList, (tfind T f.type).isSome = true := fun f hfm => by
     rw [← hoffs] at hall
     simp only [List.all_eq_true, offs] at hall
     exact hall (f.offset, f.type) (List.mem_map.2 ⟨f, hfm, rfl⟩)
   have hm : (gs.mapM (m := Sem) fun f => do pure (f.offset, ← sizeOf f.type)).run P w = .ok (gs.toList.map fun f => (f.offset, ((tfind T f.type).map (·.size)).getD 0)).toArray w := by
     rw [← Array.toArray_toList (xs := gs), List.mapM_toArray]
     simp only [Sem.run_map, mapM_sizes hT gs.toList hsome]
     rfl
   refine ⟨.agg cs', ?_, cs', rfl, hrel⟩
   have hpl : (fun i => ((gs.toList.map fun f => (f.offset, ((tfind T f.type).map (·.size)).getD 0)).toArray)[i]?) = fieldPl T fs := by
     funext i
     subst hoffs
     simp only [fieldPl, offs, List.getElem?_toArray, List.getElem?_map]
     cases hgi : gs.toList[i]? with
     | none => rfl
     | some f =>
       obtain ⟨tf, htf⟩ := Option.isSome_iff_exists.1 (hsome f (List.mem_of_getElem? hgi))
       simp [htf]
   simp only [Instr.build, Sem.run_bind, hz, Result.andThen, run_underlying hg, hm, hpl]
   simp only [Array.toList_map]
   rw [hfill]
   rfl
 · rename_i n e ps hk hps
   split at hx
   case h_2 => simp at hx
   rename_i te hte
   simp only [Option.map_eq_some_iff, Prod.mk.injEq] at hx
   obtain ⟨cells', hf, rfl, rfl⟩ := hx
   have hg := ht.array hk
   obtain ⟨h1, h2⟩ := evParts_ok s _ _ hps
   obtain ⟨cs', hfill, hrel⟩ := xfill_ok (w := w) (I := I) (M := M) (fun i => some (i * te.size, te.size)) ps _ _ _ z.cells hf h1 h2 (by rw [hzl]; exact zeroS_ok ht.zone)
   refine ⟨.agg cs', ?_, cs', rfl, hrel⟩
   simp only [Instr.build, Sem.run_bind, hz, Result.andThen, run_underlying hg, (hT.find hte).sizeOf]
   simp only [Array.toList_map]
   rw [hfill]
   rfl
 · simp at hx
end
end Go.AM
/- The abstract machine: all operations that only compute and read, in one function. -/
namespace Go.AM
def S.isPtr : S → Bool
 | .ptr .. | .aptr .. | .eptr .. | .mptr .. | .rptr .. | .bptr .. => true
 | .dat (.box _) => true
 | _ => false
def capIds : List V → Option (List Nat)
 | [] => some []
 | .e (.sc (.ptr o 0)) :: l => (capIds l).map (o :: ·)
 | _ => none
def capDs : List V → Option (List D)
 | [] => some []
 | .e (.sc (.dat d)) :: l => (capDs l).map (d :: ·)
 | _ => none
def evL (t : List (Nat × V)) : List Operand → Option (List V)
 | [] => some []
 | x :: l => match ev t x, evL t l with
   | some v, some r => some (v :: r)
   | _, _ => none
def xbin (T:Tab) (op : BinOp) (t:Nat) (a b:V) : Option (V × List Prop) :=
 match a, b with
 | .e (.sc (.dat (.int k x))), .e (.sc (.dat (.int j y))) =>
   if k == j then some (ibin op k x y) else
     match op with
     | .shl => some (vint k (k.wrap (x * 2 ^ (min y.toNat k.bits))), [0 ≤ y])
     | .shr => some (vint k (x.fdiv (2 ^ (min y.toNat k.bits))), [0 ≤ y])
     | _ => none
 | .e (.sc (.dat (.bool x))), .e (.sc (.dat (.bool y))) =>
   match tfind T t with
   | some ti => match ti.k with
     | .bool => match op with
       | .eql => some (vbool (x == y), [])
       | .neq => some (vbool (!(x == y)), [])
       | _ => none
     | _ => none
   | none => none
 | _, _ => none
def xun (op : UnOp) (x:V) : Option (V × List Prop) :=
 match op, x with
 | .not, .e (.sc (.dat (.bool b))) => some (vbool (!b), [])
 | .neg, .e (.sc (.dat (.int k n))) => some (vint k (k.wrap (0 - n)), [])
 | .xor, .e (.sc (.dat (.int k n))) => some (vint k (bitsI k (· ^^^ ·) (if k.signed then -1 else k.max) n), [])
 | _, _ => none
def xconv (T:Tab) (src dst:Nat) (x:V) : Option (V × List Prop) :=
 match x, tfind T src, tfind T dst with
 | .e (.sc (.dat (.int _ n))), some _, some td => match td.k with
   | .int k => some (vint k (k.wrap n), [])
   | _ => none
 | _, _, _ => none
def xbuiltin (T:Tab) (h:Heap) (b : Builtin) (argTypes : List Nat) (args : List V) : Option (V × List Prop) :=
 match b, argTypes, args with
 | .len, [t], [x] => match tfind T t with
   | some ti => match ti.k with
     | .slice _ => (xlen h x).map fun r => (r, [])
     | _ => none
   | none => none
 | .cap, [t], [.e (.sc (.dat (.raw (.slice none 0 0))))] => match tfind T t with
   | some ti => match ti.k with
     | .slice _ => some (vint .i64 0, [])
     | _ => none
   | none => none
 | .min, _, [.e (.sc (.dat (.int k x))), .e (.sc (.dat (.int _ y)))] => some (vint k (if y < x then y else x), [])
 | .max, _, [.e (.sc (.dat (.int k x))), .e (.sc (.dat (.int _ y)))] => some (vint k (if y > x then y else x), [])
 | _, _, _ => none
def xpure (T:Tab) (σ:St) (or : Or) (op : Op) : Option (V × List Prop) :=
 match op with
 | .move x | .assign x => (ev σ.t x).map fun v => (v, [])
 | .pick c a b =>
   match ev σ.t c with
   | some (.e (.sc (.dat (.bool cc)))) =>
     match ev σ.t a, ev σ.t b with
     | some (.e (.sc (.dat (.bool x)))), some (.e (.sc (.dat (.bool y)))) => some (vbool (bif cc then x else y), [])
     | some va, some vb => match cc with
       | true => some (va, [])
       | false => some (vb, [])
     | _, _ => none
   | _ => none
 | .load t a => match ev σ.t a with
   | some v => xload T σ.h or t v
   | none => none
 | .nilCheck x => match ev σ.t x with
   | some (.e (.sc s)) => if s.isPtr then some (.e (.sc s), []) else none
   | _ => none
 | .binOp op t x y _ => match ev σ.t x, ev σ.t y with
   | some a, some b => xbin T op t a b
   | _, _ => none
 | .unOp op _ x => match ev σ.t x with
   | some a => xun op a
   | none => none
 | .convert src dst x => match ev σ.t x with
   | some a => xconv T src dst a
   | none => none
 | .slice t x lo hi mx => match ev σ.t x, optInt σ.t lo, optInt σ.t hi, optInt σ.t mx with
   | some a, some l, some h, some m => xslice T t a l h m
   | _, _, _, _ => none
 | .fieldAddr t x f => match ev σ.t x with
   | some v => xfieldAddr T t v f
   | none => none
 | .field t x f => match ev σ.t x with
   | some v => xfield T t v f
   | none => none
 | .indexAddr t x i => match ev σ.t x, ev σ.t i with
   | some a, some b => xindexAddr T σ.h t a b
   | _, _ => none
 | .index t x i => match ev σ.t x, ev σ.t i with
   | some a, some b => xindex T t a b
   | _, _ => none
 | .extract x i => match ev σ.t x with
   | some v => xextract v i
   | none => none
 | .build t parts => xbuild T σ.t t parts.toList
 | .makeFunc fn first captured => match first.toList, evL σ.t captured.toList with
   | [], some vs => match capIds vs with
     | some ids => some (.e (.sc (.clo fn ids)), [])
     | none => match capDs vs with
       | some ds => some (.e (.sc (.dat (.fn fn ds))), [])
       | none => none
   | _, _ => none
 | .call c => match c.callee with
   | .builtin b => match evL σ.t c.args.toList with
     | some vs => xbuiltin T σ.h b c.argTypes.toList vs
     | none => none
   | _ => none
 | _ => none
section
variable {P : Program} {w : World} {I:Nat → Prop} {M : Mem}
theorem evL_ok {σ : St} {a : Act} (s : Sim I M σ a w) : ∀ (l : List Operand) (r : List V), evL σ.t l = some r →
   (l.map a.eval).length = r.length ∧ ∀ (j:Nat) v x, (l.map a.eval)[j]? = some v → r[j]? = some x → RelV w I M v x
 | [], r, h => by simp only [evL, Option.some.injEq] at h; subst h; exact ⟨rfl, fun j p q hp => by simp at hp⟩
 | x :: l, r, h => by
   simp only [evL] at h
   split at h
   · rename_i v r' hv hr
     simp only [Option.some.injEq] at h; subst h
     obtain ⟨h1, h2⟩ := evL_ok s l r' hr
     refine ⟨by simp at h1; simp [h1], fun j p q hp hq => ?_⟩
     match j, hp, hq with
     | 0, hp, hq =>
       simp only [List.map_cons, List.getElem?_cons_zero, Option.some.injEq] at hp hq
       subst hp; subst hq
       exact s.ev hv
     | j + 1, hp, hq => exact h2 j p q (by simpa using hp) (by simpa using hq)
   · simp at h
theorem capIds_ok : ∀ (vs : List V) (us : List Value) (ids : List Nat), capIds vs = some ids → us.length = vs.length →
   (∀ (j:Nat) u x, us[j]? = some u → vs[j]? = some x → RelV w I M u x) →
   us.length = ids.length ∧ ∀ (i:Nat) (u : Value) o, us[i]? = some u → ids[i]? = some o → ∃ e, M[o]? = some (some e) ∧ u = .pointer (some ⟨e.b, 0, none⟩)
 | [], us, ids, h, hl, _ => by
   simp only [capIds, Option.some.injEq] at h; subst h
   exact ⟨by simpa using hl, fun i u o _ ho => by simp at ho⟩
 | v :: vs, [], ids, h, hl, _ => by simp at hl
 | v :: vs, u :: us, ids, h, hl, hr => by
   unfold capIds at h
   split at h
   · rename_i heq; simp at heq
   · rename_i o l heq
     simp only [List.cons.injEq] at heq
     obtain ⟨rfl, rfl⟩ := heq
     simp only [Option.map_eq_some_iff] at h
     obtain ⟨ids', h', rfl⟩ := h
     obtain ⟨h1, h2⟩ := capIds_ok vs us ids' h' (by simpa using hl) (fun j u x p q => hr (j + 1) u x p q)
     refine ⟨by simp [h1], fun i u' o' hu ho => ?_⟩
     match i, hu, ho with
     | 0, hu, ho =>
       simp only [List.getElem?_cons_zero, Option.some.injEq] at hu ho
       subst hu; subst ho
       exact hr 0 _ _ rfl rfl
     | i + 1, hu, ho => exact h2 i u' o' (by simpa using hu) (by simpa using ho)
   · simp at h
theorem capDs_ok : ∀ (vs : List V) (us : List Value) (ds : List D), capDs vs = some ds → us.length = vs.length →
   (∀ (j:Nat) u x, us[j]? = some u → vs[j]? = some x → RelV w I M u x) →
   us.length = ds.length ∧ ∀ (i:Nat) (u : Value) d, us[i]? = some u → ds[i]? = some d → Reads w I u d
 | [], us, ids, h, hl, _ => by
   simp only [capDs, Option.some.injEq] at h; subst h
   exact ⟨by simpa using hl, fun i u o _ ho => by simp at ho⟩
 | v :: vs, [], ids, h, hl, _ => by simp at hl
 | v :: vs, u :: us, ids, h, hl, hr => by
   unfold capDs at h
   split at h
   · rename_i heq; simp at heq
   · rename_i o l heq
     simp only [List.cons.injEq] at heq
     obtain ⟨rfl, rfl⟩ := heq
     simp only [Option.map_eq_some_iff] at h
     obtain ⟨ids', h', rfl⟩ := h
     obtain ⟨h1, h2⟩ := capDs_ok vs us ids' h' (by simpa using hl) (fun j u x p q => hr (j + 1) u x p q)
     refine ⟨by simp [h1], fun i u' o' hu ho => ?_⟩
     match i, hu, ho with
     | 0, hu, ho =>
       simp only [List.getElem?_cons_zero, Option.some.injEq] at hu ho
       subst hu; subst ho
       exact hr 0 _ _ rfl rfl
     | i + 1, hu, ho => exact h2 i u' o' (by simpa using hu) (by simpa using ho)
   · simp at h
theorem S.isPtr_ok {v : Value} {s : S} (h : RelS w I M v s) (hp : s.isPtr = true) : ∃ a, v = .pointer (some a) := by
 cases s with
 | dat d =>
   cases d with
   | box ds => obtain ⟨b, rfl, _⟩ := Reads.boxAt h; exact ⟨_, rfl⟩
   | _ => simp [S.isPtr] at hp
 | ref o => simp [S.isPtr] at hp
 | ptr o k => obtain ⟨e, _, rfl⟩ := h; exact ⟨_, rfl⟩
 | aptr o i k => obtain ⟨e, _, _, rfl⟩ := h; exact ⟨_, rfl⟩
 | eptr z elems i k => obtain ⟨b, off, s, _, _, rfl⟩ := h; exact ⟨_, rfl⟩
 | row o k => simp [S.isPtr] at hp
 | mptr o i => obtain ⟨e, _, _, rfl⟩ := h; exact ⟨_, rfl⟩
 | rptr o r i k => obtain ⟨e, b, n, cap, _, _, _, rfl⟩ := h; exact ⟨_, rfl⟩
 | clo f caps => simp [S.isPtr] at hp
 | bptr ds k => obtain ⟨b, _, rfl⟩ := h; exact ⟨_, rfl⟩
 | refb o n => simp [S.isPtr] at hp
 | undef => simp [S.isPtr] at hp
theorem relV_int {v : Value} {k : IntKind} {n : Int} (h : RelV w I M v (vint k n)) : v = .int k n := by cases h; rfl
theorem relV_bool {v : Value} {b : Bool} (h : RelV w I M v (vbool b)) : v = .bool b := by cases h; rfl
theorem run_equalIn_bool (d:Nat) {t : Nat} (hb : P.underlying t = some .bool) (x y:Bool) : (Op.equalIn (d + 1) t (.bool x) (.bool y)).run P w = .ok (x == y) w := by
 simp [Op.equalIn, run_underlying hb]
theorem run_equal_bool {t : Nat} (hb : P.underlying t = some .bool) (x y:Bool) : (Op.equal t (.bool x) (.bool y)).run P w = .ok (x == y) w :=
 run_equalIn_bool 9999 hb x y
theorem xbin_ok {T : Tab} (hT : TOK P T) {op : BinOp} {t : Nat} {a b r : V} {obs : List Prop} (hx : xbin T op t a b = some (r, obs)) (ho : AllP obs) {u v : Value}
   (hu : RelV w I M u a) (hv : RelV w I M v b) (x y : Operand) :
   ∃ z, (do eqGuard op t x y u v; binOp op t u v : Sem Value).run P w = .ok z w ∧ RelV w I M z r := by
 unfold xbin at hx
 split at hx
 · rename_i k x' j y'
   have := relV_int hu; subst this
   have := relV_int hv; subst this
   simp only [eqGuard_at_int]
   split at hx
   · rename_i hk
     simp only [beq_iff_eq] at hk; subst hk
     simp only [Option.some.injEq] at hx
     obtain ⟨z, h1, h2⟩ := ibin_ok op k x' y' hx ho P t I M w
     exact ⟨z, by simpa using h1, h2⟩
   · split at hx
     · simp only [Option.some.injEq, Prod.mk.injEq] at hx
       obtain ⟨rfl, rfl⟩ := hx
       exact ⟨.int k _, by simp [binOp_shl, Op.shift, Int.not_lt.2 ho.1], Reads.int _ _⟩
     · simp only [Option.some.injEq, Prod.mk.injEq] at hx
       obtain ⟨rfl, rfl⟩ := hx
       exact ⟨.int k _, by simp [binOp_shr, Op.shift, Int.not_lt.2 ho.1], Reads.int _ _⟩
     · simp at hx
 · rename_i x' y'
   have := relV_bool hu; subst this
   have := relV_bool hv; subst this
   simp only [eqGuard_at_bool]
   split at hx
   · rename_i ti hti
     split at hx
     · rename_i hk
       have hb := (hT.find hti).bool hk
       split at hx
       · simp only [Option.some.injEq, Prod.mk.injEq] at hx
         obtain ⟨rfl, rfl⟩ := hx
         exact ⟨.bool (x' == y'), by simp only [pure_bind, binOp, Sem.run_bind, run_equal_bool hb, Result.andThen, Sem.run_pure], Reads.bool _⟩
       · simp only [Option.some.injEq, Prod.mk.injEq] at hx
         obtain ⟨rfl, rfl⟩ := hx
         exact ⟨.bool (!(x' == y')), by simp only [pure_bind, binOp, Sem.run_bind, run_equal_bool hb, Result.andThen, Sem.run_pure], Reads.bool _⟩
       · simp at hx
     · simp at hx
   · simp at hx
 · simp at hx
theorem xpure_ok {T : Tab} (hT : TOK P T) {σ : St} {a : Act} (s : Sim I M σ a w) {or : Or} {o : Oper} {r : V} {obs : List Prop} (hx : xpure T σ or o.op = some (r, obs)) (ho : AllP obs) :
   ∃ v, (execOp a.eval o).run P w = .ok (.value v) w ∧ RelV w I M v r := by
 obtain ⟨dst, op, ty, pos, after, guard⟩ := o
 simp only at hx
 have wrap : ∀ {x : Sem Value} {v : Value}, x.run P w = .ok v w → (do pure (.value (← x)) : Sem Next).run P w = .ok (.value v) w := fun h => by simp [h]
 unfold xpure at hx
 split at hx
 · simp only [Option.map_eq_some_iff, Prod.mk.injEq] at hx
   obtain ⟨v, hv, rfl, rfl⟩ := hx
   exact ⟨_, rfl, s.ev hv⟩
 · simp only [Option.map_eq_some_iff, Prod.mk.injEq] at hx
   obtain ⟨v, hv, rfl, rfl⟩ := hx
   exact ⟨_, rfl, s.ev hv⟩
 · rename_i c x y
   split at hx
   · rename_i cc hc
     have hcv := relV_bool (s.ev hc)
     have hrun : (execOp a.eval { dst, op := .pick c x y, type := ty, pos, after, guard }).run P w = .ok (.value (if cc then a.eval x else a.eval y)) w := by
       simp [execOp, hcv, asBool]
     refine ⟨_, hrun, ?_⟩
     split at hx
     · rename_i bx by' hxx hyy
       simp only [Option.some.injEq, Prod.mk.injEq] at hx
       obtain ⟨rfl, rfl⟩ := hx
       cases cc
       · exact s.ev hyy
       · exact s.ev hxx
     · have hxx : ∀ v, ev σ.t x = some v → RelV w I M (a.eval x) v := fun v h => s.ev h
       have hyy : ∀ v, ev σ.t y = some v → RelV w I M (a.eval y) v := fun v h => s.ev h
       cases cc
       · simp only [Option.some.injEq, Prod.mk.injEq] at hx
         obtain ⟨rfl, rfl⟩ := hx
         exact hyy _ (by assumption)
       · simp only [Option.some.injEq, Prod.mk.injEq] at hx
         obtain ⟨rfl, rfl⟩ := hx
         exact hxx _ (by assumption)
     · simp at hx
   · simp at hx
 · rename_i t x
   split at hx
   · rename_i v hv
     obtain ⟨y, h1, h2⟩ := xload_ok hT hx ho s.toSimH (s.ev hv)
     exact ⟨y, wrap h1, h2⟩
   · simp at hx
 · rename_i x
   split at hx
   · rename_i s' hv
     split at hx
     · rename_i hp
       simp only [Option.some.injEq, Prod.mk.injEq] at hx
       obtain ⟨rfl, rfl⟩ := hx
       have hr := s.ev hv
       obtain ⟨ad, hp'⟩ := S.isPtr_ok hr hp
       exact ⟨a.eval x, by simp [execOp, hp'], hr⟩
     · simp at hx
   · simp at hx
 · rename_i op t x y yt
   split at hx
   · rename_i u v hu hv
     obtain ⟨z, h1, h2⟩ := xbin_ok (P := P) hT hx ho (s.ev hu) (s.ev hv) x y
     exact ⟨z, wrap h1, h2⟩
   · simp at hx
 · rename_i op t x
   split at hx
   · rename_i u hu
     have hr := s.ev hu
     unfold xun at hx
     split at hx
     · simp only [Option.some.injEq, Prod.mk.injEq] at hx
       obtain ⟨rfl, rfl⟩ := hx
       have := relV_bool hr
       exact ⟨.bool _, by simp [execOp, this, Op.unary], Reads.bool _⟩
     · simp only [Option.some.injEq, Prod.mk.injEq] at hx
       obtain ⟨rfl, rfl⟩ := hx
       have := relV_int hr
       exact ⟨.int _ _, by simp [execOp, this, Op.unary, Op.intArith], Reads.int _ _⟩
     · simp only [Option.some.injEq, Prod.mk.injEq] at hx
       obtain ⟨rfl, rfl⟩ := hx
       have := relV_int hr
       exact ⟨.int _ _, by simp only [execOp, this, Op.unary, Op.intBits, Sem.run_bind, Sem.run_pure, Result.andThen]; rfl, Reads.int _ _⟩
     · simp at hx
   · simp at hx
 · rename_i src dst' x
   split at hx
   · rename_i u hu
     have hr := s.ev hu
     unfold xconv at hx
     split at hx
     · rename_i k n ts td hts htd
       split at hx
       · rename_i k' hk
         simp only [Option.some.injEq, Prod.mk.injEq] at hx
         obtain ⟨rfl, rfl⟩ := hx
         have := relV_int hr
         obtain ⟨d, hd, _⟩ := (hT.find hts).desc
         have hi := (hT.find htd).int hk
         refine ⟨.int k' (k'.wrap n), ?_, Reads.int _ _⟩
         simp [execOp, this, convert, run_underlying hd, run_underlying hi, Conv.intToInt]
       · simp at hx
     · simp at hx
   · simp at hx
 · rename_i t x lo hi mx
   split at hx
   · rename_i u l h m hu hl hh hm
     obtain ⟨y, h1, h2⟩ := xslice_ok (P := P) hT hx ho (s.ev hu) (optInt_ok s hl) (optInt_ok s hh) (optInt_ok s hm)
     exact ⟨y, wrap h1, h2⟩
   · simp at hx
 · rename_i t x f
   split at hx
   · rename_i v hv
     obtain ⟨y, h1, h2⟩ := xfieldAddr_ok (P := P) hT hx (s.ev hv)
     exact ⟨y, wrap h1, h2⟩
   · simp at hx
 · rename_i t x f
   split at hx
   · rename_i v hv
     obtain ⟨y, h1, h2⟩ := xfield_ok (P := P) hT hx (s.ev hv)
     exact ⟨y, wrap h1, h2⟩
   · simp at hx
 · rename_i t x i
   split at hx
   · rename_i u v hu hv
     obtain ⟨y, h1, h2⟩ := xindexAddr_ok (P := P) hT hx ho s.toSimH (s.ev hu) (s.ev hv)
     exact ⟨y, wrap h1, h2⟩
   · simp at hx
 · rename_i t x i
   split at hx
   · rename_i u v hu hv
     obtain ⟨y, h1, h2⟩ := xindex_ok (P := P) hT hx ho (s.ev hu) (s.ev hv)
     exact ⟨y, wrap h1, h2⟩
   · simp at hx
 · rename_i x i
   split at hx
   · rename_i v hv
     obtain ⟨y, h1, h2⟩ := xextract_ok (P := P) hx (s.ev hv)
     exact ⟨y, wrap h1, h2⟩
   · simp at hx
 · rename_i t parts
   obtain ⟨y, h1, h2⟩ := xbuild_ok (P := P) hT s hx
   exact ⟨y, wrap h1, h2⟩
 · rename_i fn first captured
   split at hx
   · rename_i vs hfirst hvs
     have hf : first = #[] := by cases first; simp_all
     subst hf
     obtain ⟨h1, h2⟩ := evL_ok s _ _ hvs
     have hrun : (execOp a.eval { dst, op := .makeFunc fn #[] captured, type := ty, pos, after, guard }).run P w = .ok (.value (.func fn #[] (captured.toList.map a.eval).toArray)) w := by
       have e : captured.map a.eval = (captured.toList.map a.eval).toArray := by apply Array.ext'; simp
       simp [execOp, Instr.makeFunc, e]
     refine ⟨_, hrun, ?_⟩
     split at hx
     · rename_i ids hids
       simp only [Option.some.injEq, Prod.mk.injEq] at hx
       obtain ⟨rfl, rfl⟩ := hx
       obtain ⟨h3, h4⟩ := capIds_ok vs _ ids hids h1 h2
       exact ⟨_, rfl, h3, h4⟩
     · split at hx
       · rename_i ds hds
         simp only [Option.some.injEq, Prod.mk.injEq] at hx
         obtain ⟨rfl, rfl⟩ := hx
         obtain ⟨h3, h4⟩ := capDs_ok vs _ ds hds h1 h2
         exact Reads.fn fn _ ds h3 h4
       · simp at hx
   · simp at hx
 · rename_i c
   split at hx
   · rename_i b hcal
     split at hx
     · rename_i vs hvs
       obtain ⟨h1, h2⟩ := evL_ok s _ _ hvs
       unfold xbuiltin at hx
       split at hx
       · rename_i t x hat
         split at hx
         · rename_i ti hti
           split at hx
           · rename_i e hk
             simp only [Option.map_eq_some_iff, Prod.mk.injEq] at hx
             obtain ⟨r', hr', rfl, rfl⟩ := hx
             have hund := (hT.find hti).slice hk
             have hat' : c.argTypes = #[t] := by cases hc : c.argTypes; simp_all
             obtain ⟨y, hy⟩ : ∃ y, c.args.toList.map a.eval = [y] := by
               match hl : c.args.toList.map a.eval, h1 with
               | [y], _ => exact ⟨y, rfl⟩
             have hargs : c.args.map a.eval = #[y] := by
               apply Array.ext'; simpa using hy
             obtain ⟨ad, n, cap, rfl, rfl⟩ := xlen_ok hr' s.toSimH (h2 0 y x (by rw [hy]; rfl) rfl)
             refine ⟨.int .i64 n, ?_, Reads.int _ _⟩
             simp [execOp, resolve, hcal, invoke, builtin, hargs, hat', Builtin.len_, run_underlying hund, goInt]
           · simp at hx
         · simp at hx
       · rename_i t hat
         split at hx
         · rename_i ti hti
           split at hx
           · rename_i e hk
             simp only [Option.some.injEq, Prod.mk.injEq] at hx
             obtain ⟨rfl, rfl⟩ := hx
             have hund := (hT.find hti).slice hk
             have hat' : c.argTypes = #[t] := by cases hc : c.argTypes; simp_all
             obtain ⟨y, hy⟩ : ∃ y, c.args.toList.map a.eval = [y] := by
               match hl : c.args.toList.map a.eval, h1 with
               | [y], _ => exact ⟨y, rfl⟩
             have hargs : c.args.map a.eval = #[y] := by
               apply Array.ext'; simpa using hy
             have hy0 : Reads w I y (.raw (.slice none 0 0)) := h2 0 y _ (by rw [hy]; rfl) rfl
             cases hy0
             refine ⟨.int .i64 0, ?_, Reads.int _ _⟩
             simp [execOp, resolve, hcal, invoke, builtin, hargs, hat', Builtin.cap_, run_underlying hund, goInt]
           · simp at hx
         · simp at hx
       · rename_i k x k' y
         simp only [Option.some.injEq, Prod.mk.injEq] at hx
         obtain ⟨rfl, rfl⟩ := hx
         obtain ⟨p, q, hy⟩ : ∃ p q, c.args.toList.map a.eval = [p, q] := by
           match hl : c.args.toList.map a.eval, h1 with
           | [p, q], _ => exact ⟨p, q, rfl⟩
         have hargs : c.args.map a.eval = #[p, q] := by
           apply Array.ext'; simpa using hy
         have e1 := relV_int (h2 0 p _ (by rw [hy]; rfl) rfl)
         have e2 := relV_int (h2 1 q _ (by rw [hy]; rfl) rfl)
         subst e1; subst e2
         refine ⟨.int k (if y < x then y else x), ?_, Reads.int _ _⟩
         simp [execOp, resolve, hcal, invoke, builtin, hargs, Builtin.min_, Builtin.min2]
       · rename_i k x k' y
         simp only [Option.some.injEq, Prod.mk.injEq] at hx
         obtain ⟨rfl, rfl⟩ := hx
         obtain ⟨p, q, hy⟩ : ∃ p q, c.args.toList.map a.eval = [p, q] := by
           match hl : c.args.toList.map a.eval, h1 with
           | [p, q], _ => exact ⟨p, q, rfl⟩
         have hargs : c.args.map a.eval = #[p, q] := by
           apply Array.ext'; simpa using hy
         have e1 := relV_int (h2 0 p _ (by rw [hy]; rfl) rfl)
         have e2 := relV_int (h2 1 q _ (by rw [hy]; rfl) rfl)
         subst e1; subst e2
         refine ⟨.int k (if y > x then y else x), ?_, Reads.int _ _⟩
         simp [execOp, resolve, hcal, invoke, builtin, hargs, Builtin.max_, Builtin.max2]
       · simp at hx
     · simp at hx
   · simp at hx
 · simp at hx
end
end Go.AM
/- The abstract machine: operations that make memory, and stores. -/
namespace Go.AM
section
variable {P : Program} {I:Nat → Prop} {M : Mem} {h : Heap} {w : World}
theorem push_old {w : World} {o : Go.Obj} {b : Nat} (hb : b < w.heap.size) : (w.heap.push o)[b]? = w.heap[b]? := by
 rw [Array.getElem?_push, if_neg (by omega)]
theorem push_new {w : World} {o : Go.Obj} : (w.heap.push o)[w.heap.size]? = some o := by simp
theorem Eff.new (s : SimH I M h w) {nid : Nat} (hn : M[nid]? = some none) {e : ME} {obj : Obj} {w' : World} {o : Go.Obj} (hh : w'.heap = w.heap.push o) (ho : w'.os = w.os) (ht : w'.tape = w.tape)
   (hp : w'.output = w.output) (hfp : fpE e obj = [w.heap.size])
   (hok : (∀ b, I b → w'.heap[b]? = w.heap[b]?) → M.le (M.set nid (some e)) → ObjOK w' I (M.set nid (some e)) e obj) :
   Eff [nid] I M h w I (M.set nid (some e)) (h.set nid (some obj)) w' := by
 have hlt : nid < M.length := by
   rcases Nat.lt_or_ge nid M.length with hl | hl
   · exact hl
   · rw [List.getElem?_eq_none hl] at hn; simp at hn
 have hlth : nid < h.length := s.len ▸ hlt
 have hmono : M.le (M.set nid (some e)) := fun o e' h1 => by
   by_cases he : nid = o
   · subst he; rw [hn] at h1; simp at h1
   · rw [List.getElem?_set_ne he]; exact h1
 have hget : (M.set nid (some e))[nid]? = some (some e) := by simp [hlt]
 have hgeth : (h.set nid (some obj))[nid]? = some (some obj) := by simp [hlth]
 have hfpat : fpAt (M.set nid (some e)) (h.set nid (some obj)) nid = [w.heap.size] := by
   simp only [fpAt, hget, hgeth, hfp]
 have hI : ∀ b, I b → w'.heap[b]? = w.heap[b]? := fun b hb => by rw [hh]; exact push_old (s.imm b hb).1
 have hsz : w'.heap.size = w.heap.size + 1 := by rw [hh]; simp
 refine ⟨by simp, by simp, hmono, fun o ho => ?_, fun o ho => ?_, ho, ht, hp, by omega, fun b hb _ => by rw [hh]; exact push_old hb, fun _ h => h, fun b hb => ⟨by have := (s.imm b hb).1; omega, .inl hb⟩,
   fun o ho obj' hobj => ?_, fun o1 o2 b h1 h2 _ _ => ?_, fun o ho => ?_, fun o b ho hb => ?_⟩
 · have : nid ≠ o := fun e => by subst e; simp at ho
   rw [List.getElem?_set_ne this]
 · have : nid ≠ o := fun e => by subst e; simp at ho
   rw [List.getElem?_set_ne this]
 · simp only [List.mem_singleton] at ho; subst ho
   rw [hgeth] at hobj; simp only [Option.some.injEq] at hobj; subst hobj
   exact ⟨e, hget, hok hI hmono⟩
 · simp only [List.mem_singleton] at h1 h2; rw [h1, h2]
 · simp only [List.mem_singleton] at ho; subst ho; rw [hfpat]; simp
 · simp only [List.mem_singleton] at ho; subst ho; rw [hfpat] at hb; simp only [List.mem_singleton] at hb; subst hb
   exact ⟨by omega, .inl (Nat.le_refl _)⟩
theorem Eff.frz (s : SimH I M h w) {w' : World} {o : Go.Obj} (hh : w'.heap = w.heap.push o) (ho : w'.os = w.os) (ht : w'.tape = w.tape) (hp : w'.output = w.output) :
   Eff [] I M h w (fun b => I b ∨ b = w.heap.size) M h w' := by
 have hsz : w'.heap.size = w.heap.size + 1 := by rw [hh]; simp
 exact ⟨rfl, rfl, fun _ _ h => h, fun _ _ => rfl, fun _ _ => rfl, ho, ht, hp, by omega, fun b hb _ => by rw [hh]; exact push_old hb, fun _ h => .inl h,
   fun b hb => by
     rcases hb with hb | rfl
     · exact ⟨by have := (s.imm b hb).1; omega, .inl hb⟩
     · exact ⟨by omega, .inr ⟨.inl (Nat.le_refl _), fun _ h => by simp at h⟩⟩,
   fun _ h => by simp at h, fun _ _ _ h => by simp at h, fun _ h => by simp at h, fun _ _ h => by simp at h⟩
theorem Eff.write (s : SimH I M h w) {o : Nat} {e : ME} {obj obj' : Obj} (he : M[o]? = some (some e)) (hobj : h[o]? = some (some obj)) (hfp : fpE e obj' = fpE e obj) {b : Nat} (hb : b ∈ fpE e obj)
   {w' : World} (hsz : w'.heap.size = w.heap.size) (hheap : ∀ k, k ≠ b → w'.heap[k]? = w.heap[k]?) (ho : w'.os = w.os) (ht : w'.tape = w.tape) (hp : w'.output = w.output)
   (hok : (∀ b, I b → w'.heap[b]? = w.heap[b]?) → ObjOK w' I M e obj') :
   Eff [o] I M h w I M (h.set o (some obj')) w' := by
 have hlth : o < h.length := by
   rcases Nat.lt_or_ge o h.length with hl | hl
   · exact hl
   · rw [List.getElem?_eq_none hl] at hobj; simp at hobj
 have hgeth : (h.set o (some obj'))[o]? = some (some obj') := by simp [hlth]
 have hfpat : fpAt M (h.set o (some obj')) o = fpAt M h o := by simp only [fpAt, he, hgeth, hobj, hfp]
 have hbo : b ∈ fpAt M h o := by simp only [fpAt, he, hobj]; exact hb
 have hI : ∀ b, I b → w'.heap[b]? = w.heap[b]? := fun b' hb' => hheap b' fun heq => (s.imm b' hb').2 o (heq ▸ hbo)
 refine ⟨rfl, by simp, fun _ _ h => h, fun _ _ => rfl, fun o' ho' => ?_, ho, ht, hp, by omega, fun b' _ hn => hheap b' fun heq => hn o (by simp) (heq ▸ hbo), fun _ h => h,
   fun b' hb' => ⟨by have := (s.imm b' hb').1; omega, .inl hb'⟩, fun o' ho' obj'' hobj'' => ?_, fun o1 o2 b h1 h2 _ _ => ?_, fun o' ho' => ?_, fun o' b' ho' hb' => ?_⟩
 · have : o ≠ o' := fun e => by subst e; simp at ho'
   rw [List.getElem?_set_ne this]
 · simp only [List.mem_singleton] at ho'; subst ho'
   rw [hgeth] at hobj''; simp only [Option.some.injEq] at hobj''; subst hobj''
   exact ⟨e, he, hok hI⟩
 · simp only [List.mem_singleton] at h1 h2; rw [h1, h2]
 · simp only [List.mem_singleton] at ho'; subst ho'; rw [hfpat]; exact s.nd _
 · simp only [List.mem_singleton] at ho'; subst ho'; rw [hfpat] at hb'
   exact ⟨by have := s.lt _ _ hb'; omega, .inr ⟨_, by simp, hb'⟩⟩
def xalloc (T:Tab) (h:Heap) (nid:Nat) (t:Nat) : Option (V × Heap × List Nat × List Prop) :=
 match tfind T t with
 | some ti => some (.e (.sc (.ptr nid 0)), h.set nid (some (.box (zeroS ti))), [nid], [])
 | none => none
theorem xalloc_ok {T : Tab} (hT : TOK P T) {nid t : Nat} {r : V} {h' : Heap} {ids : List Nat} {obs : List Prop} (hx : xalloc T h nid t = some (r, h', ids, obs)) (s : SimH I M h w) (hn : M[nid]? = some none) :
   ∃ v I' M' w', (Instr.alloc t true (.tuple #[])).run P w = .ok v w' ∧ Eff ids I M h w I' M' h' w' ∧ RelV w' I' M' v r := by
 unfold xalloc at hx
 split at hx
 · rename_i ti hti
   simp only [Option.some.injEq, Prod.mk.injEq] at hx
   obtain ⟨rfl, rfl, rfl, rfl⟩ := hx
   obtain ⟨z, hz, hzl⟩ := (hT.find hti).zeroValue
   have hlt : nid < M.length := by
     rcases Nat.lt_or_ge nid M.length with hl | hl
     · exact hl
     · rw [List.getElem?_eq_none hl] at hn; simp at hn
   refine ⟨.pointer (some ⟨w.heap.size, 0, none⟩), I, M.set nid (some ⟨false, w.heap.size, 0, 0, 0, []⟩), { w with heap := w.heap.push (.cells z.cells t) }, by simp [Instr.alloc, newVar, newRow, hz], ?_, ⟨false, w.heap.size, 0, 0, 0, []⟩, by simp [hlt], rfl⟩
   refine Eff.new s hn (e := ⟨false, w.heap.size, 0, 0, 0, []⟩) rfl rfl rfl rfl rfl fun hI hm => ?_
   have := zeroS_ok (w := w) (I := I) (M := M) (hT.find hti).zone
   refine ⟨z.cells, t, push_new, ?_⟩
   rw [hzl]; exact (this.mono hI (fun _ h => h) hm).p
 · simp at hx
def xbox (h:Heap) (or : Or) (nid:Nat) (v:V) : Option (V × Heap × List Nat × List Prop) :=
 match v, or with
 | .e x, .frz => if x.one then match x.cells.mapM S.toD with
   | some ds => some (.e (.sc (.dat (.box ds))), h, [], [])
   | none => none else none
 | .e x, _ => if x.one then some (.e (.sc (.ptr nid 0)), h.set nid (some (.box x.cells)), [nid], []) else none
 | _, _ => none
theorem toD_ok {v : Value} {s : S} {d : D} (hs : s.toD = some d) (hr : RelS w I M v s) : Reads w I v d := by
 cases s <;> simp only [S.toD, Option.some.injEq, reduceCtorEq] at hs
 subst hs; exact normD_ok hr
theorem mapM_toD : ∀ {ss : List S} {ds : List D}, ss.mapM S.toD = some ds → ∀ {vs : List Value}, RelL w I M vs ss →
   vs.length = ds.length ∧ ∀ (i:Nat) v d, vs[i]? = some v → ds[i]? = some d → Reads w I v d
 | [], ds, hm, vs, hr => by
   simp only [List.mapM_nil, Option.pure_def, Option.some.injEq] at hm; subst hm
   exact ⟨hr.1, fun i v d _ hd => by simp at hd⟩
 | s :: ss, ds, hm, vs, hr => by
   simp only [List.mapM_cons, Option.pure_def, Option.bind_eq_bind, Option.bind_eq_some_iff, Option.some.injEq] at hm
   obtain ⟨d, hd, ds', hds, rfl⟩ := hm
   match vs, hr with
   | [], hr => simp [RelL] at hr
   | v :: vs, hr =>
     have hr' : RelL w I M vs ss := ⟨by simpa using hr.1, fun i u s hu hs => hr.2 (i + 1) u s (by simpa using hu) (by simpa using hs)⟩
     obtain ⟨h1, h2⟩ := mapM_toD hds hr'
     refine ⟨by simp [h1], fun i u d' hu hd' => ?_⟩
     match i, hu, hd' with
     | 0, hu, hd' =>
       simp only [List.getElem?_cons_zero, Option.some.injEq] at hu hd'; subst hu; subst hd'
       exact toD_ok hd (hr.2 0 _ s rfl rfl)
     | i + 1, hu, hd' => exact h2 i u d' (by simpa using hu) (by simpa using hd')
theorem xbox_ok {nid t : Nat} {or : Or} {v r : V} {h' : Heap} {ids : List Nat} {obs : List Prop} (hx : xbox h or nid v = some (r, h', ids, obs)) (s : SimH I M h w) (hn : M[nid]? = some none)
   {u : Value} (hu : RelV w I M u v) : ∃ x I' M' w', (Instr.box t u).run P w = .ok x w' ∧ Eff ids I M h w I' M' h' w' ∧ RelV w' I' M' x r := by
 have hlt : nid < M.length := by
   rcases Nat.lt_or_ge nid M.length with hl | hl
   · exact hl
   · rw [List.getElem?_eq_none hl] at hn; simp at hn
 have hrun : (Instr.box t u).run P w = .ok (.pointer (some ⟨w.heap.size, 0, none⟩)) { w with heap := w.heap.push (.cells u.cells t) } := by simp [Instr.box, newVar, newRow]
 unfold xbox at hx
 split at hx
 · rename_i x
   split at hx
   · rename_i hone
     split at hx
     · rename_i ds hds
       simp only [Option.some.injEq, Prod.mk.injEq] at hx
       obtain ⟨rfl, rfl, rfl, rfl⟩ := hx
       have heff : Eff [] I M h w (fun b => I b ∨ b = w.heap.size) M h { w with heap := w.heap.push (.cells u.cells t) } := Eff.frz s rfl rfl rfl rfl
       refine ⟨_, _, _, _, hrun, heff, ?_⟩
       obtain ⟨hcell, _⟩ := E.one_cells hu hone
       have hcell' := hcell.mono (s.heapI heff) heff.imm heff.mono
       obtain ⟨h1, h2⟩ := mapM_toD hds hcell'
       have hlen : u.cells.size = ds.length := by simpa using h1
       refine Reads.box (t := t) (fr := (0, 0)) (cs := u.cells) ds (fun i => u.cells.getD i undef) (.inr rfl) (by exact push_new) (fun i d hd => ?_) (fun i d hd => ?_)
       · have hi : i < ds.length := by
           rcases Nat.lt_or_ge i ds.length with hl | hl
           · exact hl
           · rw [List.getElem?_eq_none hl] at hd; simp at hd
         have hi' : i < u.cells.size := by omega
         simp [hi']
       · have hi : i < ds.length := by
           rcases Nat.lt_or_ge i ds.length with hl | hl
           · exact hl
           · rw [List.getElem?_eq_none hl] at hd; simp at hd
         have hi' : i < u.cells.size := by omega
         refine h2 i _ d ?_ hd
         simp [hi']
     · simp at hx
   · simp at hx
 · rename_i x _ 
   split at hx
   · rename_i hone
     simp only [Option.some.injEq, Prod.mk.injEq] at hx
     obtain ⟨rfl, rfl, rfl, rfl⟩ := hx
     refine ⟨_, I, M.set nid (some ⟨false, w.heap.size, 0, 0, 0, []⟩), _, hrun, ?_, ⟨false, w.heap.size, 0, 0, 0, []⟩, by simp [hlt], rfl⟩
     refine Eff.new s hn (e := ⟨false, w.heap.size, 0, 0, 0, []⟩) rfl rfl rfl rfl rfl fun hI hm => ?_
     exact ⟨u.cells, t, push_new, (((E.one_cells hu hone).1).mono hI (fun _ h => h) hm).p⟩
   · simp at hx
 · simp at hx
end
end Go.AM
/- The abstract machine: slices that the call makes. -/
namespace Go.AM
def zrep (ti : TI) (n:Nat) : List S := (List.range n).map fun i => (zeroS ti).getD (i % ti.zero.length) .undef
def chunk {α : Type} (s len:Nat) (l : List α) : List (List α) := (List.range len).map fun i => (l.drop (i * s)).take s
theorem chunk_at {α : Type} {s len : Nat} {l : List α} {i j : Nat} {d : α} (h : at2 (chunk s len l) i j = some d) : l[i * s + j]? = some d := by
 simp only [at2, chunk, List.getElem?_map, Option.bind_eq_some_iff, Option.map_eq_some_iff] at h
 obtain ⟨x, ⟨i', hi, rfl⟩, hd⟩ := h
 rcases Nat.lt_or_ge i len with hl | hl
 · rw [List.getElem?_range hl, Option.some.injEq] at hi; subst hi
   rw [List.getElem?_take] at hd
   split at hd
   · rw [List.getElem?_drop] at hd; exact hd
   · simp at hd
 · rw [List.getElem?_eq_none (by simpa using hl)] at hi; simp at hi
theorem chunk_len {α : Type} {s len : Nat} {l : List α} (hl : l.length = len * s) : ∀ x ∈ chunk s len l, x.length = s := by
 intro x hx
 simp only [chunk, List.mem_map, List.mem_range] at hx
 obtain ⟨i, hi, rfl⟩ := hx
 simp only [List.length_take, List.length_drop, hl]
 have : (i + 1) * s ≤ len * s := Nat.mul_le_mul_right _ hi
 rw [Nat.add_mul] at this
 omega
theorem chunk_length {α : Type} {s len : Nat} {l : List α} : (chunk s len l).length = len := by simp [chunk]
section
variable {P : Program} {I:Nat → Prop} {M : Mem} {h : Heap} {w : World}
theorem zrep_ok (ti : TI) (hone : ∀ v ∈ ti.zero, v.oneCell' = true) {z : Array Value} (hz : z.toList = ti.zero) (n:Nat) : RelL w I M ((Array.range n).map (z[· % z.size]!)).toList (zrep ti n) := by
 have hsz : z.size = ti.zero.length := by rw [← hz]; simp
 refine ⟨by simp [zrep], fun i v s hv hs => ?_⟩
 simp only [zrep, List.getElem?_map, Option.map_eq_some_iff, Array.toList_map, Array.toList_range] at hv hs
 obtain ⟨i', hi, rfl⟩ := hv
 obtain ⟨i'', hi', rfl⟩ := hs
 rw [hi] at hi'; simp only [Option.some.injEq] at hi'; subst hi'
 rw [hsz]
 by_cases h0 : i' % ti.zero.length < ti.zero.length
 · have h1 : (zeroS ti).getD (i' % ti.zero.length) .undef = .dat (cdat ti.zero[i' % ti.zero.length]) := by
     simp [zeroS, h0]
   have h2 : z[i' % ti.zero.length]! = ti.zero[i' % ti.zero.length] := by
     have hlt : i' % ti.zero.length < z.size := by omega
     have e1 : z[i' % ti.zero.length]? = ti.zero[i' % ti.zero.length]? := by rw [← hz]; simp
     rw [getElem!_pos z _ hlt]
     rw [Array.getElem?_eq_getElem hlt, List.getElem?_eq_getElem h0, Option.some.injEq] at e1
     exact e1
   rw [h1, h2]; exact cdat_ok w I _ (hone _ (List.getElem_mem _))
 · have : (zeroS ti).getD (i' % ti.zero.length) .undef = .undef := by
     have h1 : (zeroS ti)[i' % ti.zero.length]? = none := List.getElem?_eq_none (by simp [zeroS]; omega)
     simp [List.getD, h1]
   rw [this]; trivial
def xbuildSlice (T:Tab) (σ:St) (or : Or) (nid t len:Nat) (parts : List (Nat × Operand)) : Option (V × Heap × List Nat × List Prop) :=
 match tfind T t with
 | some ti =>
   match ti.k with
   | .slice e =>
     match tfind T e, evParts σ.t parts with
     | some te, some ps =>
       if len * te.size ≤ 16777216 then
         match xfill (fun i => some (i * te.size, te.size)) (zrep te (len * te.size)) ps with
         | some cells =>
           match cells.mapM S.toD, or with
           | some ds, .frz => some (.e (.sc (.dat (.sl (chunk te.size len ds)))), σ.h, [], [])
           | some ds, _ => some (.e (.sc (.ref nid)), σ.h.set nid (some (.arr te.size (chunk te.size len ds))), [nid], [])
           | none, _ => some (.e (.sc (.refb nid len)), σ.h.set nid (some (.box cells)), [nid], [])
         | none => none
       else none
     | _, _ => none
   | _ => none
 | none => none
theorem lt_of_none {l : Mem} {n : Nat} (hn : l[n]? = some none) : n < l.length := by
 rcases Nat.lt_or_ge n l.length with hl | hl
 · exact hl
 · rw [List.getElem?_eq_none hl] at hn; simp at hn
theorem xbuildSlice_ok {T : Tab} (hT : TOK P T) {σ : St} {a : Act} (s : Sim I M σ a w) {or : Or} {nid t len : Nat} {parts : Array (Nat × Operand)} {r : V} {h' : Heap} {ids : List Nat} {obs : List Prop}
   (hx : xbuildSlice T σ or nid t len parts.toList = some (r, h', ids, obs)) (hn : M[nid]? = some none) :
   ∃ x I' M' w', (Instr.buildSlice t len (parts.map fun p => (p.1, a.eval p.2))).run P w = .ok x w' ∧ Eff ids I M σ.h w I' M' h' w' ∧ RelV w' I' M' x r := by
 unfold xbuildSlice at hx
 split at hx
 case h_2 => simp at hx
 rename_i ti hti
 split at hx
 case h_2 => simp at hx
 rename_i e hk
 have hund := (hT.find hti).slice hk
 split at hx
 case h_2 => simp at hx
 rename_i te ps hte hps
 have he := hT.find hte
 split at hx
 case isFalse => simp at hx
 rename_i hle
 split at hx
 case h_2 => simp at hx
 rename_i cells hfill
 obtain ⟨h1, h2⟩ := evParts_ok s _ _ hps
 obtain ⟨z, hz, hzl⟩ := he.zeroValue
 obtain ⟨cs', hf, hrel⟩ := xfill_ok (w := w) (I := I) (M := M) (fun i => some (i * te.size, te.size)) ps _ _ _ ((Array.range (len * te.size)).map (z.cells[· % z.cells.size]!)) hfill h1 h2 (zrep_ok te he.zone hzl _)
 have hlen' : cells.length = len * te.size := by
   have : ∀ (ps : List (Nat × E)) (c c' : List S), xfill (fun i => some (i * te.size, te.size)) c ps = some c' → c'.length = c.length := by
     intro ps
     induction ps with
     | nil => intro c c' hc; simp only [xfill, Option.some.injEq] at hc; rw [hc]
     | cons p ps ih =>
       intro c c' hc
       obtain ⟨i, x⟩ := p
       simp only [xfill] at hc
       split at hc
       · rename_i hcond
         simp only [Bool.and_eq_true, decide_eq_true_eq] at hcond
         rw [ih _ _ hc]
         simp only [patch, List.length_append, List.length_take, List.length_drop]
         omega
       · simp at hc
   rw [this _ _ _ hfill]; simp [zrep]
 have hrun : ∃ arr : Array Value, arr = cs' ∧ (Instr.buildSlice t len (parts.map fun p => (p.1, a.eval p.2))).run P w =
     .ok (.slice (some ⟨w.heap.size, 0, none⟩) len len) { w with heap := w.heap.push (.cells arr e) } := by
   refine ⟨cs', rfl, ?_⟩
   have hsm : ¬ (16777216 < len * te.size) := by omega
   by_cases h0 : len * te.size = 0
   · have hcs0 : (Array.range (len * te.size)).map (z.cells[· % z.cells.size]!) = #[] := by rw [h0, Array.range_zero', Array.map_empty]
     rw [hcs0] at hf
     simp only [Instr.buildSlice, Sem.run_bind, run_underlying hund, Result.andThen, he.sizeOf]
     rw [if_neg (by simpa using hsm), h0]
     simp only [if_true, Sem.run_pure, Array.range_zero', Array.map_empty, Array.toList_map, Sem.run_bind, Result.andThen, hf]
     simp [newRow]
   · simp only [Instr.buildSlice, Sem.run_bind, run_underlying hund, Result.andThen, he.sizeOf]
     rw [if_neg (by simpa using hsm), if_neg h0]
     simp only [Sem.run_bind, hz, Result.andThen, Sem.run_pure, Array.toList_map, hf]
     simp [newRow]
 obtain ⟨arr, rfl, hrun⟩ := hrun
 split at hx
 · rename_i ds hds
   simp only [Option.some.injEq, Prod.mk.injEq] at hx
   obtain ⟨rfl, rfl, rfl, rfl⟩ := hx
   have heff : Eff [] I M σ.h w (fun b => I b ∨ b = w.heap.size) M σ.h { w with heap := w.heap.push (.cells arr e) } := Eff.frz s.toSimH rfl rfl rfl rfl
   refine ⟨_, _, _, _, hrun, heff, ?_⟩
   obtain ⟨h3, h4⟩ := mapM_toD hds (hrel.mono (s.toSimH.heapI heff) heff.imm heff.mono)
   have hdl : ds.length = len * te.size := by rw [← h3, ← hlen']; exact hrel.1
   have hcl := chunk_length (s := te.size) (len := len) (l := ds)
   show Reads _ _ _ _
   rw [show Value.slice (some ⟨w.heap.size, 0, none⟩) len len = Value.slice (some ⟨w.heap.size, 0, none⟩) (chunk te.size len ds).length len from by rw [hcl]]
   have hv : ∀ i j d, at2 (chunk te.size len ds) i j = some d → ∃ v, arr.toList[i * te.size + j]? = some v ∧ Reads { w with heap := w.heap.push (.cells arr e) } (fun b => I b ∨ b = w.heap.size) v d := fun i j d hd => by
     have hd' := chunk_at hd
     have hlt : i * te.size + j < ds.length := by
       rcases Nat.lt_or_ge (i * te.size + j) ds.length with hl | hl
       · exact hl
       · rw [List.getElem?_eq_none hl] at hd'; simp at hd'
     have hlt' : i * te.size + j < arr.toList.length := by omega
     exact ⟨arr.toList[i * te.size + j], List.getElem?_eq_getElem hlt', h4 _ _ _ (List.getElem?_eq_getElem hlt') hd'⟩
   refine Reads.sl (t := e) (fr := (0, 0)) (cs := arr) _ (fun i j => (arr.toList[i * te.size + j]?).getD undef) (.inr rfl) (by exact push_new) (chunk_len hdl) (by omega) (fun i j d hd => ?_) (fun i j d hd => ?_)
   · obtain ⟨v, p, _⟩ := hv i j d hd
     rw [p, Nat.zero_add, ← Array.getElem?_toList, p]; rfl
   · obtain ⟨v, p, q⟩ := hv i j d hd
     rw [p]; exact q
 · rename_i ds hds _
   simp only [Option.some.injEq, Prod.mk.injEq] at hx
   obtain ⟨rfl, rfl, rfl, rfl⟩ := hx
   have hcl := chunk_length (s := te.size) (len := len) (l := ds)
   refine ⟨_, I, M.set nid (some ⟨false, w.heap.size, len, len, te.size, []⟩), _, hrun, ?_, ⟨false, w.heap.size, len, len, te.size, []⟩, by simp [lt_of_none hn], rfl⟩
   refine Eff.new s.toSimH hn (e := ⟨false, w.heap.size, len, len, te.size, []⟩) rfl rfl rfl rfl rfl fun hI hm => ?_
   obtain ⟨h3, h4⟩ := mapM_toD hds (hrel.mono hI (fun _ h => h) hm)
   have hdl : ds.length = len * te.size := by rw [← h3, ← hlen']; exact hrel.1
   have hal : arr.size = len * te.size := by have := hrel.1; rw [hlen'] at this; simpa using this
   refine ⟨rfl, hcl.symm, fun h => by simp at h, fun _ => ⟨Nat.le_refl _, arr, e, push_new, hal, chunk_len hdl, fun i j d hd => ?_⟩⟩
   have hd' := chunk_at hd
   have hlt : i * te.size + j < ds.length := by
     rcases Nat.lt_or_ge (i * te.size + j) ds.length with hl | hl
     · exact hl
     · rw [List.getElem?_eq_none hl] at hd'; simp at hd'
   have hlt' : i * te.size + j < arr.toList.length := by omega
   exact ⟨arr.toList[i * te.size + j], by rw [← Array.getElem?_toList]; exact List.getElem?_eq_getElem hlt', h4 _ _ _ (List.getElem?_eq_getElem hlt') hd'⟩
 · simp only [Option.some.injEq, Prod.mk.injEq] at hx
   obtain ⟨rfl, rfl, rfl, rfl⟩ := hx
   refine ⟨_, I, M.set nid (some ⟨false, w.heap.size, len, len, 0, []⟩), _, hrun, ?_, ⟨false, w.heap.size, len, len, 0, []⟩, by simp [lt_of_none hn], rfl, Nat.le_refl _⟩
   exact Eff.new s.toSimH hn (e := ⟨false, w.heap.size, len, len, 0, []⟩) rfl rfl rfl rfl rfl fun hI hm => ⟨arr, e, push_new, (hrel.mono hI (fun _ h => h) hm).p⟩
def zeroD (ti : TI) : List D := ti.zero.map fun v => normD (cdat v)
def xmake (T:Tab) (h:Heap) (nid t:Nat) (len cap:V) : Option (V × Heap × List Nat × List Prop) :=
 match len, cap with
 | .e (.sc (.dat (.int _ n))), .e (.sc (.dat (.int _ c))) =>
   match tfind T t with
   | some ti =>
     match ti.k with
     | .slice e =>
       match tfind T e with
       | some te =>
         if te.bytes == 0 || te.zero.length != te.size then none else
         match te.k with
         | .slice e2 => match tfind T e2 with
           | some te2 => if te.size == 1 && veqL te.zero [nilS] then
               some (.e (.sc (.ref nid)), h.set nid (some (.mat te2.size (List.replicate n.toNat []))), [nid], [0 ≤ n ∧ n ≤ c ∧ c * te.bytes ≤ 281474976710656]) else none
           | none => none
         | _ => some (.e (.sc (.ref nid)), h.set nid (some (.arr te.size (List.replicate n.toNat (zeroD te)))), [nid], [0 ≤ n ∧ n ≤ c ∧ c * te.bytes ≤ 281474976710656])
       | none => none
     | _ => none
   | none => none
 | _, _ => none
theorem wrap_small {n : Int} (h0 : 0 ≤ n) (h1 : n ≤ 9223372036854775807) : IntKind.i64.wrap n = n :=
 IntWalk.i64_in n ⟨by omega, by omega⟩
theorem run_makeSlice {t e : Nat} (hu : P.underlying t = some (.slice e)) {te : TI} (he : TIOK P e te) (hb : te.bytes ≠ 0) {k k' : IntKind} {n c : Int}
   (hn : 0 ≤ n ∧ n ≤ c ∧ c * te.bytes ≤ 281474976710656) {z : Value} (hz : ∀ w, (zeroValue e).run P w = .ok z w) :
   (Instr.makeSlice t (.int k n) (.int k' c)).run P w = .ok (.slice (some ⟨w.heap.size, 0, none⟩) n.toNat c.toNat)
     { w with heap := w.heap.push (.cells ((Array.range (c.toNat * te.size)).map ((if c.toNat * te.size = 0 then #[] else z.cells)[· % (if c.toNat * te.size = 0 then #[] else z.cells).size]!)) e) } := by
 obtain ⟨f, hf, hfs, hfb⟩ := he.typeInfo
 have hc : c ≤ 281474976710656 := by
   have h1 : c * 1 ≤ c * te.bytes := Int.mul_le_mul_of_nonneg_left (by omega) (by omega)
   omega
 have hw1 : IntKind.i64.wrap n = n := wrap_small hn.1 (by omega)
 have hw2 : IntKind.i64.wrap c = c := wrap_small (by omega) (by omega)
 have hbig : ¬ (281474976710656 < (te.bytes:Int) * c) := by rw [Int.mul_comm]; omega
 have hneg : ¬ c < 0 := by omega
 have hneg' : ¬ n < 0 := by omega
 have hlc : ¬ c < n := by omega
 by_cases h0 : c.toNat * te.size = 0
 · simp [Instr.makeSlice, run_underlying hu, asInt, asIntOf, hf, hfb, hw1, hw2, hbig, hneg, hneg', hlc, he.sizeOf, h0, newRow]
 · simp [Instr.makeSlice, run_underlying hu, asInt, asIntOf, hf, hfb, hw1, hw2, hbig, hneg, hneg', hlc, he.sizeOf, h0, newRow, hz]
theorem xmake_ok {T : Tab} (hT : TOK P T) {nid t : Nat} {len cap r : V} {h' : Heap} {ids : List Nat} {obs : List Prop} (hx : xmake T h nid t len cap = some (r, h', ids, obs)) (ho : AllP obs)
   (s : SimH I M h w) (hn : M[nid]? = some none) {u v : Value} (hu : RelV w I M u len) (hv : RelV w I M v cap) :
   ∃ x I' M' w', (Instr.makeSlice t u v).run P w = .ok x w' ∧ Eff ids I M h w I' M' h' w' ∧ RelV w' I' M' x r := by
 unfold xmake at hx
 split at hx
 case h_2 => simp at hx
 rename_i k n k' c
 have := relV_int hu; subst this
 have := relV_int hv; subst this
 split at hx
 case h_2 => simp at hx
 rename_i ti hti
 split at hx
 case h_2 => simp at hx
 rename_i e hk
 have hund := (hT.find hti).slice hk
 split at hx
 case h_2 => simp at hx
 rename_i te hte
 have he := hT.find hte
 split at hx
 · simp at hx
 rename_i hbz
 simp only [Bool.or_eq_true, beq_iff_eq, bne_iff_ne, ne_eq, not_or, Decidable.not_not] at hbz
 obtain ⟨hb, hzlen⟩ := hbz
 obtain ⟨z, hz, hzl⟩ := he.zeroValue
 split at hx
 · rename_i e2 hk2
   split at hx
   case h_2 => simp at hx
   rename_i te2 hte2
   split at hx
   case isFalse => simp at hx
   rename_i hsz
   simp only [Bool.and_eq_true, beq_iff_eq] at hsz
   obtain ⟨hsz1, hzero⟩ := hsz
   have hzero := veqL_ok hzero
   simp only [Option.some.injEq, Prod.mk.injEq] at hx
   obtain ⟨rfl, rfl, rfl, rfl⟩ := hx
   have hrun := run_makeSlice (P := P) (w := w) hund he hb (k := k) (k' := k') ho.1 hz
   refine ⟨_, I, M.set nid (some ⟨false, w.heap.size, n.toNat, c.toNat, te2.size, List.replicate n.toNat nilS⟩), _, hrun, ?_, ⟨false, w.heap.size, n.toNat, c.toNat, te2.size, List.replicate n.toNat nilS⟩, by simp [lt_of_none hn], rfl⟩
   refine Eff.new s hn (e := ⟨false, w.heap.size, n.toNat, c.toNat, te2.size, List.replicate n.toNat nilS⟩) rfl rfl rfl rfl (by
     simp only [fpE, Bool.false_eq_true, if_false]
     have : (List.replicate n.toNat nilS).flatMap rowBlk = [] := by
       rw [List.flatMap_eq_nil_iff]
       intro x hx; rw [List.eq_of_mem_replicate hx]; rfl
     rw [this]) fun hI hm => ?_
   have hzc : z.cells = #[nilS] := by apply Array.ext'; rw [hzl, hzero]
   have hnc := ho.1
   refine ⟨rfl, by simp, by simp, fun h => by simp at h, fun _ => ⟨by simp; omega, _, e, push_new, by simp [hsz1], fun k v hv => ?_, fun k v elems hv hel => ?_⟩⟩
   · simp only [List.getElem?_replicate] at hv
     split at hv
     · rename_i hk
       simp only [Option.some.injEq] at hv; subst hv
       have hkc : k < c.toNat * te.size := by rw [hsz1]; omega
       have h0 : ¬ (c.toNat * te.size = 0) := by omega
       simp [hkc, h0, hzc, Nat.mod_one]
     · simp at hv
   · simp only [List.getElem?_replicate] at hv hel
     split at hv
     · rename_i hk
       simp only [Option.some.injEq] at hv; subst hv
       rw [if_pos hk] at hel; simp only [Option.some.injEq] at hel; subst hel
       exact ⟨none, 0, rfl, fun _ => ⟨rfl, rfl⟩, fun h => absurd rfl h⟩
     · simp at hv
 · simp only [Option.some.injEq, Prod.mk.injEq] at hx
   obtain ⟨rfl, rfl, rfl, rfl⟩ := hx
   have hrun := run_makeSlice (P := P) (w := w) hund he hb (k := k) (k' := k') ho.1 hz
   have hnc := ho.1
   refine ⟨_, I, M.set nid (some ⟨false, w.heap.size, n.toNat, c.toNat, te.size, []⟩), _, hrun, ?_, ⟨false, w.heap.size, n.toNat, c.toNat, te.size, []⟩, by simp [lt_of_none hn], rfl⟩
   refine Eff.new s hn (e := ⟨false, w.heap.size, n.toNat, c.toNat, te.size, []⟩) rfl rfl rfl rfl rfl fun hI hm => ?_
   refine ⟨rfl, by simp, fun h => by simp at h, fun _ => ⟨by simp; omega, _, e, push_new, by simp, fun x hx => by rw [List.eq_of_mem_replicate hx]; simp [zeroD, hzlen], fun i j d hd => ?_⟩⟩
   simp only [at2, List.getElem?_replicate, Option.bind_eq_some_iff] at hd
   obtain ⟨x, hx, hd⟩ := hd
   split at hx
   · rename_i hi
     simp only [Option.some.injEq] at hx; subst hx
     simp only [zeroD, List.getElem?_map, Option.map_eq_some_iff] at hd
     obtain ⟨v, hv, rfl⟩ := hd
     have hj : j < te.zero.length := by
       rcases Nat.lt_or_ge j te.zero.length with hl | hl
       · exact hl
       · rw [List.getElem?_eq_none hl] at hv; simp at hv
     have hlt : i * te.size + j < c.toNat * te.size := by
       have h1 : (i + 1) * te.size ≤ c.toNat * te.size := Nat.mul_le_mul_right _ (by omega)
       rw [Nat.add_mul] at h1; omega
     have h0 : ¬ (c.toNat * te.size = 0) := by omega
     refine ⟨v, ?_, normD_ok (cdat_ok _ _ _ (he.zone _ (List.mem_of_getElem? hv)))⟩
     have hzsz : z.cells.size = te.size := by rw [← hzlen, ← hzl]; simp
     have hmod : (i * te.size + j) % te.size = j := by
       rw [Nat.mul_comm, Nat.mul_add_mod, Nat.mod_eq_of_lt (by omega)]
     have hjz : j < z.cells.size := by omega
     have hzj : z.cells[j]! = v := by
       rw [getElem!_pos z.cells j hjz]
       have e1 : z.cells[j]? = some v := by rw [← hv, ← hzl]; simp
       rw [Array.getElem?_eq_getElem hjz, Option.some.injEq] at e1; exact e1
     simp [hlt, h0, hzsz, hmod, hzj]
   · simp at hx
end
end Go.AM
/- The abstract machine: stores. -/
namespace Go.AM
def patchG {α : Type} (cells : List α) (off:Nat) (l : List α) : List α := cells.take off ++ l ++ cells.drop (off + l.length)
theorem patchG_at {α : Type} {cells l : List α} {off : Nat} (h : off + l.length ≤ cells.length) (i:Nat) :
   (patchG cells off l)[i]? = if off ≤ i ∧ i < off + l.length then l[i - off]? else cells[i]? := by
 unfold patchG
 by_cases h1 : i < off
 · rw [if_neg (by omega), List.append_assoc, List.getElem?_append_left (by simp; omega), List.getElem?_take, if_pos h1]
 · by_cases h2 : i < off + l.length
   · rw [if_pos (by omega), List.append_assoc, List.getElem?_append_right (by simp; omega), List.getElem?_append_left (by simp; omega)]
     simp; congr 1; omega
   · rw [if_neg (by omega), List.getElem?_append_right (by simp; omega), List.getElem?_drop]
     congr 1; simp; omega
theorem patchG_length {α : Type} {cells l : List α} {off : Nat} (h : off + l.length ≤ cells.length) : (patchG cells off l).length = cells.length := by
 simp [patchG]; omega
section
variable {P : Program} {I:Nat → Prop} {M : Mem} {h : Heap} {w : World}
theorem run_storeVar {t : Nat} {ti : TI} (ht : TIOK P t ti) {b off : Nat} {cs : Array Value} {t' : TypeId} (hb : w.heap[b]? = some (.cells cs t' (0, 0))) {v : Value}
   (hsz : v.cells.size = ti.size) (hle : off + v.cells.size ≤ cs.size) (hone : ∀ u ∈ v.cells.toList, u.oneCell' = true) :
   (storeVar t ⟨b, off, none⟩ v).run P w = .ok () (w.setRow b (patchG cs.toList off v.cells.toList).toArray) := by
 have := run_storeCells_at P b off t' v.cells.toList 0 cs w hb (by simpa using hle) hone
 simp only [Nat.add_zero] at this
 simp [storeVar, ht.sizeOf, hsz, this, patchG]
theorem setRow_world (w:World) (b:Nat) (cs : Array Value) : (w.setRow b cs).os = w.os ∧ (w.setRow b cs).tape = w.tape ∧ (w.setRow b cs).output = w.output ∧ (w.setRow b cs).heap.size = w.heap.size := by
 refine ⟨rfl, rfl, rfl, by simp [World.setRow]⟩
def xstore (T:Tab) (h:Heap) (or : Or) (t:Nat) (a v:V) : Option (Heap × List Nat × List Prop) :=
 match tfind T t, v with
 | some ti, .e x =>
   if x.one && x.cells.length == ti.size then
     match a with
     | .e (.sc (.ptr o k)) =>
       match h[o]? with
       | some (some (.box cells)) => if k + x.cells.length ≤ cells.length then some (h.set o (some (.box (patchG cells k x.cells))), [o], []) else none
       | _ => none
     | .e (.sc (.aptr o i k)) =>
       match h[o]?, x.cells.mapM S.toD with
       | some (some (.arr s elems)), some ds =>
         if k == 0 && ds.length == s then some (h.set o (some (.arr s (elems.set i ds))), [o], [])
         else match or with
           | .cells full => if full.length == s && k + ds.length ≤ s then some (h.set o (some (.arr s (elems.set i (patchG full k ds)))), [o], [elems[i]? = some full]) else none
           | _ => none
       | _, _ => none
     | .e (.sc (.rptr o r i k)) =>
       match h[o]?, x.cells.mapM S.toD with
       | some (some (.mat s rows)), some ds =>
         if k == 0 && ds.length == s then some (h.set o (some (.mat s (rows.modify r (·.set i ds)))), [o], [])
         else none
       | _, _ => none
     | _ => none
   else none
 | _, _ => none
theorem at2_set {elems : DL} {i : Nat} {ds : List D} {i' j : Nat} {d : D} (h : at2 (elems.set i ds) i' j = some d) :
   (i' = i ∧ i < elems.length ∧ ds[j]? = some d) ∨ (i' ≠ i ∧ at2 elems i' j = some d) := by
 simp only [at2, Option.bind_eq_some_iff] at h ⊢
 obtain ⟨x, hx, hd⟩ := h
 by_cases he : i = i'
 · subst he
   by_cases hl : i < elems.length
   · simp only [List.getElem?_set, hl, if_true, Option.some.injEq] at hx; subst hx
     exact .inl ⟨rfl, hl, hd⟩
   · rw [List.getElem?_eq_none (by simp; omega)] at hx; simp at hx
 · rw [List.getElem?_set_ne he] at hx
   exact .inr ⟨Ne.symm he, x, hx, hd⟩
theorem cells_store {w w' : World} {s : Nat} {elems : DL} {cs : Array Value} (hl : ∀ x ∈ elems, x.length = s)
   (hc : ∀ i j d, at2 elems i j = some d → ∃ v, cs[i * s + j]? = some v ∧ Reads w I v d) (hI : ∀ b, I b → w'.heap[b]? = w.heap[b]?)
   {i k : Nat} (hi : i < elems.length) {full ds : List D} (hfull : k = 0 ∧ ds.length = s ∨ elems[i]? = some full) (hk : k + ds.length ≤ s) {vs : List Value} (hvl : vs.length = ds.length)
   (hv : ∀ (j:Nat) v d, vs[j]? = some v → ds[j]? = some d → Reads w I v d) (hcs : elems.length * s ≤ cs.size) (new : List D) (hnew : new = (if k = 0 ∧ ds.length = s then ds else patchG full k ds)) :
   (∀ x ∈ elems.set i new, x.length = s) ∧ ∀ i' j d, at2 (elems.set i new) i' j = some d → ∃ v, (patchG cs.toList (i * s + k) vs).toArray[i' * s + j]? = some v ∧ Reads w' I v d := by
 have hisz : (i + 1) * s ≤ elems.length * s := Nat.mul_le_mul_right _ hi
 rw [Nat.add_mul, Nat.one_mul] at hisz
 have hnl : new.length = s := by
   rw [hnew]; split
   · rename_i h; exact h.2
   · rename_i h
     have hf := hfull.resolve_left h
     have := hl _ (List.mem_of_getElem? hf)
     rw [patchG_length (by omega), this]
 have hpl : (i * s + k) + vs.length ≤ cs.toList.length := by simp; omega
 refine ⟨fun x hx => ?_, fun i' j d hd => ?_⟩
 · rcases List.mem_or_eq_of_mem_set hx with h | h
   · exact hl x h
   · rw [h]; exact hnl
 · simp only [List.getElem?_toArray]
   rw [patchG_at hpl]
   rcases at2_set hd with ⟨rfl, _, hj⟩ | ⟨hne, hat⟩
   · have hjs : j < s := by
       rcases Nat.lt_or_ge j new.length with h | h
       · omega
       · rw [List.getElem?_eq_none h] at hj; simp at hj
     by_cases hin : k ≤ j ∧ j < k + ds.length
     · rw [if_pos (by omega)]
       have e : i' * s + j - (i' * s + k) = j - k := by omega
       rw [e]
       have hlt : j - k < vs.length := by omega
       refine ⟨vs[j - k], List.getElem?_eq_getElem hlt, (hv (j - k) _ d (List.getElem?_eq_getElem hlt) ?_).mono hI (fun _ h => h)⟩
       rw [hnew] at hj
       split at hj
       · rename_i h; rw [h.1]; exact hj
       · rename_i h
         have hf := hfull.resolve_left h
         have := hl _ (List.mem_of_getElem? hf)
         rw [patchG_at (by omega), if_pos hin] at hj; exact hj
     · rw [if_neg (by omega)]
       have hnf : ¬ (k = 0 ∧ ds.length = s) := fun h => hin (by omega)
       rw [hnew, if_neg hnf] at hj
       have hf := hfull.resolve_left hnf
       have := hl _ (List.mem_of_getElem? hf)
       rw [patchG_at (by omega), if_neg hin] at hj
       obtain ⟨v, p, q⟩ := hc i' j d (at2_some hf hj)
       exact ⟨v, by simpa using p, q.mono hI (fun _ h => h)⟩
   · obtain ⟨v, p, q⟩ := hc i' j d hat
     have hjs : j < s := by
       simp only [at2, Option.bind_eq_some_iff] at hat
       obtain ⟨x, hx, hxd⟩ := hat
       have := hl _ (List.mem_of_getElem? hx)
       rcases Nat.lt_or_ge j x.length with h | h
       · omega
       · rw [List.getElem?_eq_none h] at hxd; simp at hxd
     have hout : ¬ (i * s + k ≤ i' * s + j ∧ i' * s + j < i * s + k + vs.length) := by
       rintro ⟨h1, h2⟩
       rcases Nat.lt_or_gt_of_ne hne with h | h
       · have : (i' + 1) * s ≤ i * s := Nat.mul_le_mul_right _ h
         rw [Nat.add_mul] at this; omega
       · have : (i + 1) * s ≤ i' * s := Nat.mul_le_mul_right _ h
         rw [Nat.add_mul] at this; omega
     rw [if_neg hout]
     exact ⟨v, by simpa using p, q.mono hI (fun _ h => h)⟩
theorem xstore_ok {T : Tab} (hT : TOK P T) {or : Or} {t : Nat} {a v : V} {h' : Heap} {ids : List Nat} {obs : List Prop} (hx : xstore T h or t a v = some (h', ids, obs)) (ho : AllP obs)
   (s : SimH I M h w) {u x : Value} (hu : RelV w I M u a) (hv : RelV w I M x v) :
   ∃ w', (Instr.storeAt t u x).run P w = .ok () w' ∧ Eff ids I M h w I M h' w' := by
 unfold xstore at hx
 split at hx
 case h_2 => simp at hx
 rename_i ti y hti
 have ht := hT.find hti
 split at hx
 case isFalse => simp at hx
 rename_i hone
 simp only [Bool.and_eq_true, beq_iff_eq] at hone
 obtain ⟨hone, hsz⟩ := hone
 obtain ⟨hcell, hone'⟩ := E.one_cells hv hone
 have hcl : x.cells.size = y.cells.length := by simpa using hcell.1
 split at hx
 · rename_i o k
   split at hx
   case h_2 => simp at hx
   rename_i cells hobj
   split at hx
   case isFalse => simp at hx
   rename_i hle
   simp only [Option.some.injEq, Prod.mk.injEq] at hx
   obtain ⟨rfl, rfl, rfl⟩ := hx
   obtain ⟨e, he, rfl⟩ := hu
   obtain ⟨e', he', cs, t', hb, hrel⟩ := s.obj o _ hobj
   rw [he] at he'; simp only [Option.some.injEq] at he'; subst he'
   have hcs : cells.length ≤ cs.size := by simpa using hrel.1
   have hrun := run_storeVar (P := P) ht (v := x) (off := k) hb (hcl.trans hsz) (by omega) hone'
   obtain ⟨w1, w2, w3, w4⟩ := setRow_world w e.b (patchG cs.toList k x.cells.toList).toArray
   refine ⟨_, by simpa [Instr.storeAt, Instr.sureAddr] using hrun, ?_⟩
   refine Eff.write s he hobj (obj' := .box (patchG cells k y.cells)) rfl (b := e.b) (by simp [fpE]) w4 (fun b hb => setRow_other w e.b b _ hb) w1 w2 w3 fun hI => ?_
   refine ⟨_, t', setRow_heap w e.b cs _ t' _ hb, ?_⟩
   have hp := (hrel.mono hI (fun _ h => h) (fun _ _ h => h)).patch (hcell.mono hI (fun _ h => h) (fun _ _ h => h)) (off := k) hle
   simp only [patchG]
   exact hp
 · rename_i o i k
   split at hx
   case h_2 => simp at hx
   rename_i s' elems ds hobj hds
   obtain ⟨e, he, hi, rfl⟩ := hu
   obtain ⟨e', he', h1, h2, h0, hh⟩ := s.obj o _ hobj
   rw [he] at he'; simp only [Option.some.injEq] at he'; subst he'
   have hnil := e.nil_of (fun h => by rw [h0 h] at h2; simp at h2; omega)
   obtain ⟨h3, cs, t', hb, h4, h5, h6⟩ := hh hnil
   obtain ⟨hdl, hdr⟩ := mapM_toD hds hcell
   have hdl' : x.cells.size = ds.length := by simpa using hdl
   rw [h2] at hi
   have hcs : elems.length * s' ≤ cs.size := by rw [h4, ← h2]; exact Nat.mul_le_mul_right _ h3
   obtain ⟨full, new, hnew, hfull, hk, hx'⟩ : ∃ full new, new = (if k = 0 ∧ ds.length = s' then ds else patchG full k ds) ∧ (k = 0 ∧ ds.length = s' ∨ elems[i]? = some full) ∧ k + ds.length ≤ s' ∧
       h' = h.set o (some (.arr s' (elems.set i new))) ∧ ids = [o] := by
     split at hx
     · rename_i hc
       simp only [Bool.and_eq_true, beq_iff_eq] at hc
       simp only [Option.some.injEq, Prod.mk.injEq] at hx
       obtain ⟨rfl, rfl, rfl⟩ := hx
       exact ⟨[], ds, by rw [if_pos hc], .inl hc, by omega, rfl, rfl⟩
     · rename_i hc
       simp only [Bool.and_eq_true, beq_iff_eq] at hc
       split at hx
       · rename_i full
         split at hx
         · rename_i hc2
           simp only [Bool.and_eq_true, beq_iff_eq, decide_eq_true_eq] at hc2
           simp only [Option.some.injEq, Prod.mk.injEq] at hx
           obtain ⟨rfl, rfl, rfl⟩ := hx
           exact ⟨full, _, by rw [if_neg hc], .inr ho.1, hc2.2, rfl, rfl⟩
         · simp at hx
       · simp at hx
   obtain ⟨rfl, rfl⟩ := hx'
   have hisz : (i + 1) * s' ≤ elems.length * s' := Nat.mul_le_mul_right _ hi
   rw [Nat.add_mul, Nat.one_mul] at hisz
   have hrun := run_storeVar (P := P) ht (v := x) (off := i * s' + k) hb (hcl.trans hsz) (by omega) hone'
   obtain ⟨w1, w2, w3, w4⟩ := setRow_world w e.b (patchG cs.toList (i * s' + k) x.cells.toList).toArray
   refine ⟨_, by rw [h1]; simpa [Instr.storeAt, Instr.sureAddr] using hrun, ?_⟩
   refine Eff.write s he hobj (obj' := .arr s' (elems.set i new)) rfl (b := e.b) (by simp [fpE, hnil]) w4 (fun b hb => setRow_other w e.b b _ hb) w1 w2 w3 fun hI => ?_
   obtain ⟨g1, g2⟩ := cells_store (w' := w.setRow e.b (patchG cs.toList (i * s' + k) x.cells.toList).toArray) h5 h6 hI hi hfull hk hdl hdr hcs new hnew
   refine ⟨h1, by simp [h2], fun h => by simp [hnil] at h, fun _ => ⟨h3, _, t', setRow_heap w e.b cs _ t' _ hb, ?_, g1, g2⟩⟩
   rw [← h4]
   simp only [List.size_toArray]
   rw [patchG_length (by simp; omega)]; simp
 · rename_i o r i k
   split at hx
   case h_2 => simp at hx
   rename_i s' rows ds hobj hds
   split at hx
   case isFalse => simp at hx
   rename_i hc
   simp only [Bool.and_eq_true, beq_iff_eq] at hc
   obtain ⟨rfl, hds'⟩ := hc
   simp only [Option.some.injEq, Prod.mk.injEq] at hx
   obtain ⟨rfl, rfl, rfl⟩ := hx
   obtain ⟨e, b, n, cap, he, hrow, hi, rfl⟩ := hu
   obtain ⟨e', he', h1, h2, h4, h0, hh⟩ := s.obj o _ hobj
   rw [he] at he'; simp only [Option.some.injEq] at he'; subst he'
   have hnil := e.nil_of (fun h => by rw [h0 h] at h4; simp only [List.length_nil, List.length_eq_zero_iff] at h4; rw [h4] at hrow; simp at hrow)
   obtain ⟨h3, cs, t', hb, h5, h6, h7⟩ := hh hnil
   obtain ⟨hdl, hdr⟩ := mapM_toD hds hcell
   have hdl' : x.cells.size = ds.length := by simpa using hdl
   have hrl : r < e.rows.length := by
     rcases Nat.lt_or_ge r e.rows.length with hl | hl
     · exact hl
     · rw [List.getElem?_eq_none hl] at hrow; simp at hrow
   have hrl' : r < rows.length := h4 ▸ hrl
   obtain ⟨a0, c0, hav, hne⟩ := (h7 r _ _ hrow (List.getElem?_eq_getElem hrl')).ne
   simp only [Value.slice.injEq] at hav
   obtain ⟨rfl, hn, rfl⟩ := hav
   obtain ⟨b', rcs, rt, hba, hrb, hrcs, hrle, hrlen, hrc⟩ := hne (by intro h0; rw [h0] at hn; simp at hn; omega)
   simp only [Option.some.injEq, Addr.mk.injEq, and_true] at hba; subst hba
   rw [hn] at hi
   have hisz : (i + 1) * s' ≤ rows[r].length * s' := Nat.mul_le_mul_right _ hi
   rw [Nat.add_mul, Nat.one_mul] at hisz
   have hcsz : rows[r].length * s' ≤ rcs.size := by rw [hrcs]; exact Nat.mul_le_mul_right _ hrle
   have hrun := run_storeVar (P := P) ht (v := x) (off := i * s') hrb (hcl.trans hsz) (by omega) hone'
   obtain ⟨w1, w2, w3, w4⟩ := setRow_world w b (patchG rcs.toList (i * s') x.cells.toList).toArray
   have hbin : b ∈ fpE e (.mat s' rows) := by
     simp only [fpE, hnil, List.mem_cons, List.mem_flatMap, Bool.false_eq_true, if_false]
     refine .inr ⟨_, List.mem_of_getElem? hrow, ?_⟩
     simp [rowBlk]
   have hnd := s.nd o
   simp only [fpAt, hobj, he, fpE, hnil, Bool.false_eq_true, if_false, List.nodup_cons, List.mem_flatMap, not_exists, not_and] at hnd
   have hbne : e.b ≠ b := fun heq => by
     simp only [fpE, hnil, Bool.false_eq_true, if_false, List.mem_cons, List.mem_flatMap] at hbin
     rcases hbin with h0 | ⟨v, hv1, hv2⟩
     · have := hnd.1 _ (List.mem_of_getElem? hrow)
       simp [rowBlk, heq] at this
     · exact hnd.1 v hv1 (heq ▸ hv2)
   refine ⟨_, by rw [h1]; simpa [Instr.storeAt, Instr.sureAddr] using hrun, ?_⟩
   refine Eff.write s he hobj (obj' := .mat s' (rows.modify r (·.set i ds))) rfl (b := b) hbin w4 (fun b' hb' => setRow_other w b b' _ hb') w1 w2 w3 fun hI => ?_
   obtain ⟨g1, g2⟩ := cells_store (w' := w.setRow b (patchG rcs.toList (i * s') x.cells.toList).toArray) hrlen hrc hI hi (full := []) (.inl ⟨rfl, hds'⟩) (by omega) hdl hdr hcsz ds (by simp [hds'])
   refine ⟨h1, by simp [h2], by simp [h4], fun h => by simp [hnil] at h, fun _ => ⟨h3, cs, t', by rw [setRow_other w b e.b _ hbne]; exact hb, h5, h6, fun k v elems hv hel => ?_⟩⟩
   rw [List.getElem?_modify] at hel
   by_cases hkr : r = k
   · subst hkr
     rw [hrow] at hv; simp only [Option.some.injEq] at hv; subst hv
     simp only [if_true, List.getElem?_eq_getElem hrl', Option.map_eq_map, Option.map_some, Option.some.injEq] at hel; subst hel
     refine ⟨some ⟨b, 0, none⟩, cap, by simp [hn], fun h0 => by simp at h0, fun _ => ⟨b, _, rt, rfl, setRow_heap w b rcs _ rt _ hrb, ?_, by simpa using hrle, g1, g2⟩⟩
     rw [← hrcs]
     simp only [List.size_toArray]
     rw [patchG_length (by simp; omega)]; simp
   · simp only [if_neg hkr, Option.map_eq_map, Option.map_id_fun', id_eq] at hel
     refine (h7 k v elems hv hel).mono hI (fun _ h => h) fun b' hb' => setRow_other w b b' _ fun heq => ?_
     subst heq
     have hnd2 := hnd.2
     have hidx : ∀ (l : List Value) (p q:Nat) (x y : Value), (l.flatMap rowBlk).Nodup → l[p]? = some x → l[q]? = some y → p ≠ q → ∀ b, b ∈ rowBlk x → b ∉ rowBlk y := by
       intro l
       induction l with
       | nil => intro p q x y _ hp; simp at hp
       | cons z l ih =>
         intro p q x y hnd hp hq hpq b hbx hby
         rw [List.flatMap_cons, List.nodup_append] at hnd
         match p, q, hp, hq with
         | 0, 0, _, _ => exact hpq rfl
         | 0, q + 1, hp, hq =>
           simp only [List.getElem?_cons_zero, Option.some.injEq] at hp; subst hp
           exact hnd.2.2 b hbx b (List.mem_flatMap.2 ⟨y, List.mem_of_getElem? (by simpa using hq), hby⟩) rfl
         | p + 1, 0, hp, hq =>
           simp only [List.getElem?_cons_zero, Option.some.injEq] at hq; subst hq
           exact hnd.2.2 b hby b (List.mem_flatMap.2 ⟨x, List.mem_of_getElem? (by simpa using hp), hbx⟩) rfl
         | p + 1, q + 1, hp, hq => exact ih p q x y hnd.2.1 (by simpa using hp) (by simpa using hq) (by omega) b hbx hby
     refine hidx e.rows r k _ v hnd2 hrow hv hkr b' ?_ hb'
     simp [rowBlk]
 · simp at hx
end
end Go.AM
/- The abstract machine: append and copy. -/
namespace Go.AM
section
variable {P : Program} {I:Nat → Prop} {M : Mem} {h : Heap} {w : World}
theorem Eff.move (s : SimH I M h w) {o nid : Nat} (hn : M[nid]? = some none) {e e' : ME} {obj obj' : Obj} (he : M[o]? = some (some e)) (hobj : h[o]? = some (some obj))
   {w' : World} (hsz : w.heap.size ≤ w'.heap.size) (hheap : ∀ k, k < w.heap.size → k ∉ fpE e obj → w'.heap[k]? = w.heap[k]?) (ho : w'.os = w.os) (ht : w'.tape = w.tape) (hp : w'.output = w.output)
   (hfp : ∀ b ∈ fpE e' obj', b < w'.heap.size ∧ (w.heap.size ≤ b ∨ b ∈ fpE e obj)) (hnd : (fpE e' obj').Nodup)
   (hok : (∀ b, I b → w'.heap[b]? = w.heap[b]?) → M.le (M.set nid (some e')) → ObjOK w' I (M.set nid (some e')) e' obj') :
   Eff [o, nid] I M h w I (M.set nid (some e')) ((h.set o none).set nid (some obj')) w' := by
 have hlt := lt_of_none hn
 have hlth : nid < h.length := s.len ▸ hlt
 have hne : o ≠ nid := fun heq => by subst heq; rw [hn] at he; simp at he
 have hmono : M.le (M.set nid (some e')) := fun o' e1 h1 => by
   by_cases heq : nid = o'
   · subst heq; rw [hn] at h1; simp at h1
   · rw [List.getElem?_set_ne heq]; exact h1
 have hget : (M.set nid (some e'))[nid]? = some (some e') := by simp [hlt]
 have hgeth : ((h.set o none).set nid (some obj'))[nid]? = some (some obj') := by simp [hlth]
 have hgeto : ((h.set o none).set nid (some obj'))[o]? = some none := by
   have : o < h.length := by
     rcases Nat.lt_or_ge o h.length with hl | hl
     · exact hl
     · rw [List.getElem?_eq_none hl] at hobj; simp at hobj
   rw [List.getElem?_set_ne (Ne.symm hne)]; simp [this]
 have hfpn : fpAt (M.set nid (some e')) ((h.set o none).set nid (some obj')) nid = fpE e' obj' := by simp only [fpAt, hget, hgeth]
 have hfpo : fpAt (M.set nid (some e')) ((h.set o none).set nid (some obj')) o = [] := by simp only [fpAt, hgeto]
 have hfpold : fpAt M h o = fpE e obj := by simp only [fpAt, hobj, he]
 have hnidold : fpAt M h nid = [] := by simp only [fpAt, hn]; split <;> simp_all
 have hI : ∀ b, I b → w'.heap[b]? = w.heap[b]? := fun b hb => hheap b (s.imm b hb).1 fun hin => (s.imm b hb).2 o (hfpold ▸ hin)
 refine ⟨by simp, by simp, hmono, fun o' ho' => ?_, fun o' ho' => ?_, ho, ht, hp, hsz, fun b hb hnb => hheap b hb fun hin => hnb o (by simp) (hfpold ▸ hin), fun _ h => h,
   fun b hb => ⟨by have := (s.imm b hb).1; omega, .inl hb⟩, fun o' ho' obj'' hobj'' => ?_, fun o1 o2 b h1 h2 b1 b2 => ?_, fun o' ho' => ?_, fun o' b ho' hb => ?_⟩
 · simp only [List.mem_cons, List.not_mem_nil, or_false, not_or] at ho'
   rw [List.getElem?_set_ne (Ne.symm ho'.2)]
 · simp only [List.mem_cons, List.not_mem_nil, or_false, not_or] at ho'
   rw [List.getElem?_set_ne (Ne.symm ho'.2), List.getElem?_set_ne (Ne.symm ho'.1)]
 · simp only [List.mem_cons, List.not_mem_nil, or_false] at ho'
   rcases ho' with rfl | rfl
   · rw [hgeto] at hobj''; simp at hobj''
   · rw [hgeth] at hobj''; simp only [Option.some.injEq] at hobj''; subst hobj''
     exact ⟨e', hget, hok hI hmono⟩
 · simp only [List.mem_cons, List.not_mem_nil, or_false] at h1 h2
   rcases h1 with rfl | rfl <;> rcases h2 with rfl | rfl
   · rfl
   · rw [hfpo] at b1; simp at b1
   · rw [hfpo] at b2; simp at b2
   · rfl
 · simp only [List.mem_cons, List.not_mem_nil, or_false] at ho'
   rcases ho' with rfl | rfl
   · rw [hfpo]; exact List.nodup_nil
   · rw [hfpn]; exact hnd
 · simp only [List.mem_cons, List.not_mem_nil, or_false] at ho'
   rcases ho' with rfl | rfl
   · rw [hfpo] at hb; simp at hb
   · rw [hfpn] at hb
     obtain ⟨h1, h2⟩ := hfp b hb
     exact ⟨h1, h2.imp id fun h3 => ⟨o, by simp, hfpold ▸ h3⟩⟩
theorem drew_alloc_size (w:World) (o : Go.Obj) : (w.drew.alloc o).heap.size = w.heap.size + 1 := by
 show (w.heap.push o).size = _
 simp
def srcEl (te : TI) (h:Heap) (v:V) : Option (DL × List Prop) :=
 match v with
 | .e (.sc (.dat (.sl es))) => some (es, [∀ y ∈ es, y.length = te.size])
 | .e (.sc (.dat (.raw (.slice none 0 0)))) => some ([], [])
 | .e (.sc (.ref o)) =>
   match h[o]? with
   | some (some (.arr s es)) => if s == te.size then some (es, []) else none
   | _ => none
 | _ => none
theorem news_of {s off : Nat} {es : DL} {cs : Array Value} (hl : ∀ x ∈ es, x.length = s) (hc : ∀ i j d, at2 es i j = some d → ∃ v, cs[off + i * s + j]? = some v ∧ Reads w I v d) (hs : 0 < s) :
   ∃ news : List Value, news.length = es.length * s ∧ (∀ (j:Nat) u, news[j]? = some u → cs[off + j]? = some u) ∧ (∀ u ∈ news, u.oneCell' = true) ∧
     ∀ i j d, at2 es i j = some d → ∃ v, news[i * s + j]? = some v ∧ Reads w I v d := by
 have hall : ∀ k, k < es.length * s → ∃ v d, cs[off + k]? = some v ∧ at2 es (k / s) (k % s) = some d ∧ Reads w I v d := fun k hk => by
   have hd : k / s < es.length := Nat.div_lt_of_lt_mul (by rw [Nat.mul_comm]; exact hk)
   have hm : k % s < s := Nat.mod_lt _ hs
   have hlen := hl _ (List.getElem_mem hd)
   have hat : at2 es (k / s) (k % s) = some (es[k / s][k % s]'(by omega)) := by simp [at2, hd]
   obtain ⟨v, p, q⟩ := hc _ _ _ hat
   rw [show off + k / s * s + k % s = off + k by have := Nat.div_add_mod k s; rw [Nat.mul_comm] at this; omega] at p
   exact ⟨v, _, p, hat, q⟩
 have hex : ∃ news : List Value, news.length = es.length * s ∧ ∀ (j:Nat), j < es.length * s → news[j]? = cs[off + j]? := by
   refine ⟨(cs.toList.drop off).take (es.length * s), ?_, fun j hj => ?_⟩
   · simp only [List.length_take, List.length_drop, Array.length_toList]
     rcases Nat.eq_zero_or_pos (es.length * s) with h0 | h0
     · omega
     · obtain ⟨v, _, p, _⟩ := hall (es.length * s - 1) (by omega)
       have := (Array.getElem?_eq_some_iff.1 p).1
       omega
   · rw [List.getElem?_take, if_pos hj, List.getElem?_drop]; simp
 obtain ⟨news, hnl, hnc⟩ := hex
 have hin : ∀ (j:Nat) u, news[j]? = some u → j < es.length * s := fun j u hu => by
   rcases Nat.lt_or_ge j news.length with h | h
   · omega
   · rw [List.getElem?_eq_none h] at hu; simp at hu
 refine ⟨news, hnl, fun j u hu => by rw [← hnc j (hin j u hu)]; exact hu, fun u hu => ?_, fun i j d hat => ?_⟩
 · obtain ⟨j, hj⟩ := List.mem_iff_getElem?.1 hu
   obtain ⟨v, d, p, _, q⟩ := hall j (hin j u hj)
   rw [hnc j (hin j u hj), p, Option.some.injEq] at hj
   subst hj; exact q.one
 · have hi : i < es.length ∧ j < s := by
     simp only [at2, Option.bind_eq_some_iff] at hat
     obtain ⟨x, hx, hd⟩ := hat
     have h1 : i < es.length := by
       rcases Nat.lt_or_ge i es.length with h | h
       · exact h
       · rw [List.getElem?_eq_none h] at hx; simp at hx
     have := hl _ (List.mem_of_getElem? hx)
     rcases Nat.lt_or_ge j x.length with h | h
     · omega
     · rw [List.getElem?_eq_none h] at hd; simp at hd
   have hlt : i * s + j < es.length * s := by
     have : (i + 1) * s ≤ es.length * s := Nat.mul_le_mul_right _ hi.1
     rw [Nat.add_mul] at this; omega
   obtain ⟨v, p, q⟩ := hc i j d hat
   exact ⟨v, by rw [hnc _ hlt, ← Nat.add_assoc]; exact p, q⟩
theorem src_ok {te : TI} {v : V} {es : DL} {obs : List Prop} (hx : srcEl te h v = some (es, obs)) (ho : AllP obs) (s : SimH I M h w) (hs : 0 < te.size) {u : Value} (hu : RelV w I M u v) :
   ∃ a cap, u = .slice a es.length cap ∧ (es ≠ [] → ∃ b off, a = some ⟨b, off, none⟩ ∧ ∃ news : List Value, news.length = es.length * te.size ∧ (∀ (j:Nat) u, news[j]? = some u → w.cell? ⟨b, off + j, none⟩ = some u) ∧
     (∀ u ∈ news, u.oneCell' = true) ∧ ∀ i j d, at2 es i j = some d → ∃ v, news[i * te.size + j]? = some v ∧ Reads w I v d) ∧ (∀ x ∈ es, x.length = te.size) := by
 unfold srcEl at hx
 split at hx
 · simp only [Option.some.injEq, Prod.mk.injEq] at hx
   obtain ⟨rfl, rfl⟩ := hx
   have hu' : Reads w I u (.sl _) := hu
   cases hu' with
   | slnil a cap => exact ⟨a, cap, rfl, fun h => absurd rfl h, ho.1⟩
   | sl _ vs hI hb hs' hcap hc hr =>
     rename_i es b off cap s' cs t fr
     refine ⟨_, _, rfl, fun hne => ?_, ho.1⟩
     have hsz : s' = te.size := by
       cases es with
       | nil => exact absurd rfl hne
       | cons x l => rw [← hs' x (by simp), ho.1 x (by simp)]
     subst hsz
     obtain ⟨news, h1, h2, h3, h4⟩ := news_of (w := w) (I := I) (off := off) hs' (fun i j d hd => ⟨_, hc i j d hd, hr i j d hd⟩) hs
     exact ⟨b, off, rfl, news, h1, fun j u hu => by rw [cell_of hb]; exact h2 j u hu, h3, h4⟩
 · simp only [Option.some.injEq, Prod.mk.injEq] at hx
   obtain ⟨rfl, rfl⟩ := hx
   cases hu
   exact ⟨none, 0, rfl, fun h => absurd rfl h, fun x hx => by simp at hx⟩
 · rename_i o
   split at hx
   · rename_i s' es' hobj
     split at hx
     · rename_i hsz
       simp only [beq_iff_eq] at hsz; subst hsz
       simp only [Option.some.injEq, Prod.mk.injEq] at hx
       obtain ⟨rfl, rfl⟩ := hx
       obtain ⟨e, he, rfl⟩ := hu
       obtain ⟨e', he', h1, h2, h0, hh⟩ := s.obj o _ hobj
       rw [he] at he'; simp only [Option.some.injEq] at he'; subst he'
       cases hnil : e.nil with
       | true =>
         have := h0 hnil; subst this
         exact ⟨none, 0, by simp [ME.val, hnil], fun h => absurd rfl h, fun x hx => by simp at hx⟩
       | false =>
         obtain ⟨h3, cs, t, hb, h4, h5, h6⟩ := hh hnil
         refine ⟨some ⟨e.b, 0, none⟩, e.cap, by simp [ME.val, hnil, h2], fun _ => ⟨e.b, 0, rfl, ?_⟩, h5⟩
         obtain ⟨news, g1, g2, g3, g4⟩ := news_of (w := w) (I := I) (off := 0) (cs := cs) h5 (fun i j d hd => by simpa using h6 i j d hd) hs
         exact ⟨news, g1, fun j u hu => by rw [cell_of hb]; exact g2 j u hu, g3, g4⟩
     · simp at hx
   · simp at hx
 · simp at hx
theorem at2_append {a b : DL} {i j : Nat} {d : D} (h : at2 (a ++ b) i j = some d) : (i < a.length ∧ at2 a i j = some d) ∨ (a.length ≤ i ∧ at2 b (i - a.length) j = some d) := by
 simp only [at2] at h ⊢
 rcases Nat.lt_or_ge i a.length with hl | hl
 · rw [List.getElem?_append_left hl] at h; exact .inl ⟨hl, h⟩
 · rw [List.getElem?_append_right hl] at h; exact .inr ⟨hl, h⟩
theorem reads_append {w' : World} {s : Nat} {a b : DL} {xs ys : List Value} {cs : Array Value} (hxl : xs.length = a.length * s)
   (hx : ∀ i j d, at2 a i j = some d → ∃ v, xs[i * s + j]? = some v ∧ Reads w I v d) (hy : ∀ i j d, at2 b i j = some d → ∃ v, ys[i * s + j]? = some v ∧ Reads w I v d)
   (hcs : ∀ (k:Nat) v, (xs ++ ys)[k]? = some v → cs[k]? = some v) (hI : ∀ b, I b → w'.heap[b]? = w.heap[b]?) :
   ∀ i j d, at2 (a ++ b) i j = some d → ∃ v, cs[i * s + j]? = some v ∧ Reads w' I v d := fun i j d hd => by
 rcases at2_append hd with ⟨hl, hat⟩ | ⟨hl, hat⟩
 · obtain ⟨v, p, q⟩ := hx i j d hat
   refine ⟨v, hcs _ v ?_, q.mono hI (fun _ h => h)⟩
   rw [List.getElem?_append_left ?_]
   · exact p
   · rcases Nat.lt_or_ge (i * s + j) xs.length with h | h
     · exact h
     · rw [List.getElem?_eq_none h] at p; simp at p
 · obtain ⟨v, p, q⟩ := hy _ j d hat
   refine ⟨v, hcs _ v ?_, q.mono hI (fun _ h => h)⟩
   have : i * s = a.length * s + (i - a.length) * s := by rw [← Nat.add_mul]; congr 1; omega
   rw [List.getElem?_append_right (by rw [hxl]; omega), hxl, this]
   rw [show a.length * s + (i - a.length) * s + j - a.length * s = (i - a.length) * s + j by omega]
   exact p
def xappend (T:Tab) (h:Heap) (nid t:Nat) (sv xv:V) : Option (V × Heap × List Nat × List Prop) :=
 match tfind T t with
 | some ti =>
   match ti.k with
   | .slice e =>
     match tfind T e with
     | some te =>
       if te.bytes == 0 || te.size == 0 || te.zero.length != te.size then none else
       match sv with
       | .e (.sc (.ref o)) =>
         match h[o]?, srcEl te h xv with
         | some (some (.arr s elems)), some (es, obs) =>
           if s == te.size then some (.e (.sc (.ref nid)), (h.set o none).set nid (some (.arr s (elems ++ es))), [o, nid], obs ++ [(elems.length + es.length) * te.bytes ≤ 140737488355328])
           else none
         | _, _ => none
       | _ => none
     | none => none
   | _ => none
 | none => none
theorem AllP_append {a b : List Prop} (h : AllP (a ++ b)) : AllP a ∧ AllP b := by
 induction a with
 | nil => exact ⟨trivial, h⟩
 | cons p l ih => exact ⟨⟨h.1, (ih h.2).1⟩, (ih h.2).2⟩
theorem run_app_room {t e : Nat} (hu : P.underlying t = some (.slice e)) {te : TI} (he : TIOK P e te) {g n m cap : Nat} {cur : Array Value} {et : TypeId} (hg : w.heap[g]? = some (.cells cur et (0, 0)))
   {a : Addr} {c : Nat} {news : List Value} (hl : news.length = m * te.size) (hnews : ∀ (j:Nat) u, news[j]? = some u → w.cell? (a.add j) = some u) (h1 : ∀ u ∈ news, u.oneCell' = true)
   (hroom : n + m ≤ cap) (hfit : n * te.size + news.length ≤ cur.size) (ty : TypeId) :
   (Builtin.append_ #[t, t] ty #[.slice (some ⟨g, 0, none⟩) n cap, .slice (some a) m c]).run P w =
     .ok (.slice (some ⟨g, 0, none⟩) (n + m) cap) (w.setRow g (patchG cur.toList (n * te.size) news).toArray) := by
 have hf := run_firstCells_some (P := P) w te.size m a m c news hl hnews
 have hst := run_storeCells_at P g (n * te.size) et news 0 cur w hg (by simpa using hfit) h1
 simp only [Nat.add_zero] at hst
 simp [Builtin.append_, run_underlying hu, he.sizeOf, Builtin.lenOf, hroom, hf, Addr.add_lit, hst, patchG]
theorem run_app_nothing {t e : Nat} (hu : P.underlying t = some (.slice e)) {te : TI} (he : TIOK P e te) {b : Option Addr} {n cap : Nat} (hn : n ≤ cap) {a : Option Addr} {c : Nat} (ty : TypeId) :
   (Builtin.append_ #[t, t] ty #[.slice b n cap, .slice a 0 c]).run P w = .ok (.slice b n cap) w := by
 have hf : (Builtin.firstCells te.size 0 (.slice a 0 c)).run P w = .ok #[] w := by
   cases a <;> simp [Builtin.firstCells, loadCells, loadCellsFrom]
 cases b <;> simp [Builtin.append_, run_underlying hu, he.sizeOf, Builtin.lenOf, hn, hf, storeCells]
theorem xappend_ok {T : Tab} (hT : TOK P T) {nid t : Nat} {sv xv r : V} {h' : Heap} {ids : List Nat} {obs : List Prop} (hx : xappend T h nid t sv xv = some (r, h', ids, obs)) (ho : AllP obs)
   (s : SimH I M h w) (hn : M[nid]? = some none) {u x : Value} (hu : RelV w I M u sv) (hxr : RelV w I M x xv) (ty : TypeId) :
   ∃ y I' M' w', (Builtin.append_ #[t, t] ty #[u, x]).run P w = .ok y w' ∧ Eff ids I M h w I' M' h' w' ∧ RelV w' I' M' y r := by
 unfold xappend at hx
 split at hx
 case h_2 => simp at hx
 rename_i ti hti
 split at hx
 case h_2 => simp at hx
 rename_i e hk
 have hund := (hT.find hti).slice hk
 split at hx
 case h_2 => simp at hx
 rename_i te hte
 have he := hT.find hte
 split at hx
 · simp at hx
 rename_i hbz
 simp only [Bool.or_eq_true, beq_iff_eq, bne_iff_ne, ne_eq, not_or, Decidable.not_not] at hbz
 obtain ⟨⟨hb0, hs0⟩, hzl0⟩ := hbz
 have hspos : 0 < te.size := by omega
 split at hx
 case h_2 => simp at hx
 rename_i o
 split at hx
 case h_2 => simp at hx
 rename_i s' elems es obs' hobj hsrc
 split at hx
 case isFalse => simp at hx
 rename_i hsz
 simp only [beq_iff_eq] at hsz; subst hsz
 simp only [Option.some.injEq, Prod.mk.injEq] at hx
 obtain ⟨rfl, rfl, rfl, rfl⟩ := hx
 obtain ⟨ho1, ho2⟩ := AllP_append ho
 have hbytes := ho2.1
 obtain ⟨m, hm, rfl⟩ := hu
 obtain ⟨m', hm', h1, h2, h0, hh⟩ := s.obj o _ hobj
 rw [hm] at hm'; simp only [Option.some.injEq] at hm'; subst hm'
 obtain ⟨a, cap, rfl, hne, hlen⟩ := src_ok hsrc ho1 s hspos hxr
 obtain ⟨z, hz, hzl⟩ := he.zeroValue
 obtain ⟨f, z', hinf, hf1, hf2, hf3, hf4⟩ := he.info
 have hlt := lt_of_none hn
 have hsmall : elems.length + es.length ≤ 140737488355328 := by
   have : (elems.length + es.length) * 1 ≤ (elems.length + es.length) * te.bytes := Nat.mul_le_mul_left _ (by omega)
   omega
 have hgetn : ∀ e' : ME, (M.set nid (some e'))[nid]? = some (some e') := fun e' => by simp [hlt]
 have hlenapp : ∀ x ∈ elems, x.length = te.size → ∀ x ∈ elems ++ es, True := fun _ _ _ _ _ => trivial
 clear hlenapp
 cases hnil : m.nil with
 | true =>
   have hel := h0 hnil; subst hel
   by_cases hes : es = []
   · subst hes
     refine ⟨.slice none 0 0, I, M.set nid (some ⟨true, 0, 0, 0, te.size, []⟩), w, by simpa [ME.val, hnil] using run_app_nothing (P := P) (w := w) hund he (b := none) (n := 0) (cap := 0) (Nat.le_refl _) ty, ?_, ⟨_, hgetn _, rfl⟩⟩
     exact Eff.move s hn hm hobj (e' := ⟨true, 0, 0, 0, te.size, []⟩) (Nat.le_refl _) (fun _ _ _ => rfl) rfl rfl rfl (fun b hb => by simp [fpE] at hb) (by simp [fpE]) fun _ _ => ⟨rfl, rfl, fun _ => rfl, fun h => by simp at h⟩
   · obtain ⟨b, off, rfl, news, g1, g2, g3, g4⟩ := hne hes
     have hpos : 0 < es.length := List.length_pos_iff.2 hes
     simp only [List.length_nil, Nat.zero_add] at hbytes hsmall
     have hrun := run_append_nil (P := P) w t ty e f z' hund hinf hf3 ⟨b, off, none⟩ es.length cap news (by rw [hf1]; exact g1) (fun j u hu => by rw [add_off]; exact g2 j u hu) hpos (by omega) (by rw [hf2]; omega)
     have hcap := grownCap_ge w es.length 0 e
     refine ⟨_, I, M.set nid (some ⟨false, w.heap.size, es.length, grownCap w es.length 0 e, te.size, []⟩), _, by simpa [ME.val, hnil] using hrun, ?_, ⟨_, hgetn _, rfl⟩⟩
     refine Eff.move s hn hm hobj (e' := ⟨false, w.heap.size, es.length, grownCap w es.length 0 e, te.size, []⟩) (by rw [drew_alloc_size]; omega) (fun k hk _ => push_old hk) rfl rfl rfl
       (fun b hb => by simp only [fpE, Bool.false_eq_true, if_false, List.mem_singleton] at hb; subst hb; exact ⟨by rw [drew_alloc_size]; omega, .inl (Nat.le_refl _)⟩) (by simp [fpE]) fun hI _ => ?_
     refine ⟨rfl, by simp, fun h => by simp at h, fun _ => ⟨hcap, _, e, push_new, ?_, by simpa using hlen, ?_⟩⟩
     · simp only [Array.size_append, List.size_toArray, size_zeroCells, g1]
       have : z'.cells.size = te.size := by rw [← hzl0, ← hf4]; simp
       rw [this, ← Nat.add_mul]; congr 1; omega
     · exact reads_append (w := w) (I := I) (xs := []) (a := []) (by simp) (fun i j d h => by simp [at2] at h) g4 (fun k v hv => by
         simp only [List.nil_append] at hv
         rw [Array.getElem?_append_left]
         · simpa using hv
         · rcases Nat.lt_or_ge k news.length with h | h
           · simpa using h
           · rw [List.getElem?_eq_none h] at hv; simp at hv) hI
 | false =>
   obtain ⟨h3, cs, et, hb, h4, h5, h6⟩ := hh hnil
   have hval : m.val = .slice (some ⟨m.b, 0, none⟩) elems.length m.cap := by simp [ME.val, hnil, h2]
   rw [hval]
   rw [h2] at h3
   obtain ⟨olds, o1, o2, o3, o4⟩ := news_of (w := w) (I := I) (off := 0) (cs := cs) h5 (fun i j d hd => by simpa using h6 i j d hd) hspos
   have hall : ∀ x ∈ elems ++ es, x.length = te.size := fun x hx => by
     rcases List.mem_append.1 hx with h | h
     · exact h5 x h
     · exact hlen x h
   by_cases hes : es = []
   · subst hes
     refine ⟨_, I, M.set nid (some { m with n := elems.length }), w, run_app_nothing (P := P) (w := w) hund he h3 ty, ?_, ⟨_, hgetn _, by simp [ME.val, hnil]⟩⟩
     refine Eff.move s hn hm hobj (e' := { m with n := elems.length }) (Nat.le_refl _) (fun _ _ _ => rfl) rfl rfl rfl (fun b hb => ?_) (by simp [fpE, hnil]) fun _ _ => ?_
     · refine ⟨s.lt o b ?_, .inr ?_⟩
       · simp only [fpAt, hobj, hm]; simpa [fpE, hnil] using hb
       · simpa [fpE, hnil] using hb
     · refine ⟨h1, by simp, fun h => by simp [hnil] at h, fun _ => ⟨h3, cs, et, hb, h4, by simpa using h5, by simpa using h6⟩⟩
   · obtain ⟨b, off, rfl, news, g1, g2, g3, g4⟩ := hne hes
     by_cases hroom : elems.length + es.length ≤ m.cap
     · have hfit : elems.length * te.size + news.length ≤ cs.size := by rw [g1, h4, ← Nat.add_mul]; exact Nat.mul_le_mul_right _ hroom
       have hrun := run_app_room (P := P) hund he hb (n := elems.length) (m := es.length) (a := ⟨b, off, none⟩) (c := cap) g1 (fun j u hu => by rw [add_off]; exact g2 j u hu) g3 hroom hfit ty
       obtain ⟨w1, w2, w3, w4⟩ := setRow_world w m.b (patchG cs.toList (elems.length * te.size) news).toArray
       refine ⟨_, I, M.set nid (some { m with n := elems.length + es.length }), _, hrun, ?_, ⟨_, hgetn _, by simp [ME.val, hnil]⟩⟩
       refine Eff.move s hn hm hobj (e' := { m with n := elems.length + es.length }) (by omega) (fun k hk hnb => setRow_other w m.b k _ (fun heq => hnb (by simp [fpE, hnil, heq]))) w1 w2 w3 (fun b hb => ?_) (by simp [fpE, hnil]) fun hI _ => ?_
       · refine ⟨?_, .inr ?_⟩
         · rw [w4]; exact s.lt o b (by simp only [fpAt, hobj, hm]; simpa [fpE, hnil] using hb)
         · simpa [fpE, hnil] using hb
       · refine ⟨h1, by simp, fun h => by simp [hnil] at h, fun _ => ⟨hroom, _, et, setRow_heap w m.b cs _ et _ hb, ?_, hall, ?_⟩⟩
         · rw [← h4]
           simp only [List.size_toArray]
           rw [patchG_length (by simpa using hfit)]; simp
         · refine reads_append (w := w) (I := I) (xs := olds) o1 o4 g4 (fun k v hv => ?_) hI
           simp only [List.getElem?_toArray]
           rw [patchG_at (by simpa using hfit)]
           by_cases hk : k < olds.length
           · rw [List.getElem?_append_left hk] at hv
             rw [if_neg (by omega)]
             have := o2 k v hv
             simpa using this
           · rw [List.getElem?_append_right (by omega)] at hv
             have hk2 : k - olds.length < news.length := by
               rcases Nat.lt_or_ge (k - olds.length) news.length with h | h
               · exact h
               · rw [List.getElem?_eq_none h] at hv; simp at hv
             rw [if_pos (by omega), ← o1]; exact hv
     · have hrun := run_append_grow (P := P) w t ty e f z' hund hinf hf3 ⟨m.b, 0, none⟩ elems.length m.cap olds (by rw [hf1]; exact o1) (fun j u hu => by rw [add_off, cell_of hb]; exact o2 j u hu)
         ⟨b, off, none⟩ es.length cap news (by rw [hf1]; exact g1) (fun j u hu => by rw [add_off]; exact g2 j u hu) (by omega) (by omega) (by rw [hf2]; exact growslice_fits (by omega) hbytes)
       have hcap := grownCap_ge w (elems.length + es.length) m.cap e
       refine ⟨_, I, M.set nid (some ⟨false, w.heap.size, elems.length + es.length, grownCap w (elems.length + es.length) m.cap e, te.size, []⟩), _, hrun, ?_, ⟨_, hgetn _, rfl⟩⟩
       refine Eff.move s hn hm hobj (e' := ⟨false, w.heap.size, elems.length + es.length, grownCap w (elems.length + es.length) m.cap e, te.size, []⟩) (by rw [drew_alloc_size]; omega) (fun k hk _ => push_old hk) rfl rfl rfl
         (fun b hb => by simp only [fpE, Bool.false_eq_true, if_false, List.mem_singleton] at hb; subst hb; exact ⟨by rw [drew_alloc_size]; omega, .inl (Nat.le_refl _)⟩) (by simp [fpE]) fun hI _ => ?_
       refine ⟨rfl, by simp, fun h => by simp at h, fun _ => ⟨hcap, _, e, push_new, ?_, hall, ?_⟩⟩
       · simp only [Array.size_append, List.size_toArray, size_zeroCells, g1, o1]
         have : z'.cells.size = te.size := by rw [← hzl0, ← hf4]; simp
         rw [this, ← Nat.add_mul, ← Nat.add_mul]; congr 1; omega
       · refine reads_append (w := w) (I := I) (xs := olds) o1 o4 g4 (fun k v hv => ?_) hI
         rw [Array.getElem?_append_left]
         · simpa using hv
         · rcases Nat.lt_or_ge k (olds ++ news).length with h | h
           · simpa using h
           · rw [List.getElem?_eq_none h] at hv; simp at hv
end
end Go.AM
/- The abstract machine: copy. -/
namespace Go.AM
section
variable {P : Program} {I:Nat → Prop} {M : Mem} {h : Heap} {w : World}
theorem Eff.reflO (s : SimH I M h w) (ids : List Nat) : Eff ids I M h w I M h w :=
 ⟨rfl, rfl, fun _ _ h => h, fun _ _ => rfl, fun _ _ => rfl, rfl, rfl, rfl, Nat.le_refl _, fun _ _ _ => rfl, fun _ h => h, fun b hb => ⟨(s.imm b hb).1, .inl hb⟩,
   fun o _ obj ho => s.obj o obj ho, fun o1 o2 b _ _ => s.disj o1 o2 b, fun o _ => s.nd o, fun o b ho hb => ⟨s.lt o b hb, .inr ⟨o, ho, hb⟩⟩⟩
def xcopy (T:Tab) (h:Heap) (t:Nat) (sv xv:V) : Option (V × Heap × List Nat × List Prop) :=
 match tfind T t with
 | some ti =>
   match ti.k with
   | .slice e =>
     match tfind T e with
     | some te =>
       if te.size == 0 then none else
       match sv with
       | .e (.sc (.ref o)) =>
         match h[o]?, srcEl te h xv with
         | some (some (.arr s elems)), some (es, obs) =>
           if s == te.size then some (vint .i64 ((min es.length elems.length:Nat) : Int), h.set o (some (.arr s (es.take elems.length ++ elems.drop es.length))), [o], obs)
           else none
         | _, _ => none
       | _ => none
     | none => none
   | _ => none
 | none => none
theorem run_copy {t e : Nat} (hu : P.underlying t = some (.slice e)) {te : TI} (he : TIOK P e te) {g n m cap : Nat} {cur : Array Value} {et : TypeId} (hg : w.heap[g]? = some (.cells cur et (0, 0)))
   {a : Addr} {c : Nat} {news : List Value} (hl : news.length = min m n * te.size) (hnews : ∀ (j:Nat) u, news[j]? = some u → w.cell? (a.add j) = some u) (h1 : ∀ u ∈ news, u.oneCell' = true)
   (hfit : news.length ≤ cur.size) (ty : TypeId) :
   (Builtin.copy_ #[t, t] ty #[.slice (some ⟨g, 0, none⟩) n cap, .slice (some a) m c]).run P w =
     .ok (goInt ((min m n:Nat) : Int)) (w.setRow g (patchG cur.toList 0 news).toArray) := by
 have hf := run_firstCells_some (P := P) w te.size (min m n) a m c news hl hnews
 have hst := run_storeCells_at P g 0 et news 0 cur w hg (by simpa using hfit) h1
 simp only [Nat.add_zero, Nat.zero_add] at hst
 have hmin : Nat.min m n = min m n := rfl
 simp [Builtin.copy_, run_underlying hu, he.sizeOf, Builtin.lenOf, hf, hst, patchG, hmin]
theorem run_copy0 {t e : Nat} (hu : P.underlying t = some (.slice e)) {te : TI} (he : TIOK P e te) {a b : Option Addr} {n m cap c : Nat} (h0 : min m n = 0) (ty : TypeId) :
   (Builtin.copy_ #[t, t] ty #[.slice b n cap, .slice a m c]).run P w = .ok (goInt (0:Int)) w := by
 have hf : (Builtin.firstCells te.size 0 (.slice a m c)).run P w = .ok #[] w := by
   cases a <;> simp [Builtin.firstCells, loadCells, loadCellsFrom]
 have hmin : Nat.min m n = 0 := h0
 cases b <;> simp [Builtin.copy_, run_underlying hu, he.sizeOf, Builtin.lenOf, hmin, hf, storeCells]
theorem set_self {l : Heap} {o : Nat} {x : Option Obj} (h : l[o]? = some x) : l.set o x = l := by
 apply List.ext_getElem?
 intro i
 by_cases hi : o = i
 · subst hi
   have : o < l.length := by
     rcases Nat.lt_or_ge o l.length with hl | hl
     · exact hl
     · rw [List.getElem?_eq_none hl] at h; simp at h
   simp [this]; rw [List.getElem?_eq_getElem this] at h; simpa using h.symm
 · rw [List.getElem?_set_ne hi]
theorem xcopy_ok {T : Tab} (hT : TOK P T) {t : Nat} {sv xv r : V} {h' : Heap} {ids : List Nat} {obs : List Prop} (hx : xcopy T h t sv xv = some (r, h', ids, obs)) (ho : AllP obs)
   (s : SimH I M h w) {u x : Value} (hu : RelV w I M u sv) (hxr : RelV w I M x xv) (ty : TypeId) :
   ∃ y w', (Builtin.copy_ #[t, t] ty #[u, x]).run P w = .ok y w' ∧ Eff ids I M h w I M h' w' ∧ RelV w' I M y r := by
 unfold xcopy at hx
 split at hx
 case h_2 => simp at hx
 rename_i ti hti
 split at hx
 case h_2 => simp at hx
 rename_i e hk
 have hund := (hT.find hti).slice hk
 split at hx
 case h_2 => simp at hx
 rename_i te hte
 have he := hT.find hte
 split at hx
 · simp at hx
 rename_i hs0
 simp only [beq_iff_eq] at hs0
 have hspos : 0 < te.size := by omega
 split at hx
 case h_2 => simp at hx
 rename_i o
 split at hx
 case h_2 => simp at hx
 rename_i s' elems es obs' hobj hsrc
 split at hx
 case isFalse => simp at hx
 rename_i hsz
 simp only [beq_iff_eq] at hsz; subst hsz
 simp only [Option.some.injEq, Prod.mk.injEq] at hx
 obtain ⟨rfl, rfl, rfl, rfl⟩ := hx
 obtain ⟨m, hm, rfl⟩ := hu
 obtain ⟨m', hm', h1, h2, h0, hh⟩ := s.obj o _ hobj
 rw [hm] at hm'; simp only [Option.some.injEq] at hm'; subst hm'
 obtain ⟨a, cap, rfl, hne, hlen⟩ := src_ok hsrc ho s hspos hxr
 by_cases hz : min es.length elems.length = 0
 · have hsame : es.take elems.length ++ elems.drop es.length = elems := by
     rcases Nat.eq_zero_or_pos es.length with h3 | h3
     · have := List.length_eq_zero_iff.1 h3; subst this; simp
     · have : elems.length = 0 := by omega
       have := List.length_eq_zero_iff.1 this; subst this; simp
   rw [hsame, set_self hobj, hz]
   have hval : m.val = .slice (if m.nil then none else some ⟨m.b, 0, none⟩) elems.length (if m.nil then 0 else m.cap) := by
     cases hnil : m.nil with
     | true => have := h0 hnil; subst this; simp [ME.val, hnil]
     | false => simp [ME.val, hnil, h2]
   rw [hval]
   exact ⟨_, w, run_copy0 hund he hz ty, Eff.reflO s _, Reads.int _ _⟩
 · have hel : elems ≠ [] := fun h => by subst h; simp at hz
   have hes : es ≠ [] := fun h => by subst h; simp at hz
   cases hnil : m.nil with
   | true => exact absurd (h0 hnil) hel
   | false =>
     obtain ⟨h3, cs, et, hb, h4, h5, h6⟩ := hh hnil
     have hval : m.val = .slice (some ⟨m.b, 0, none⟩) elems.length m.cap := by simp [ME.val, hnil, h2]
     rw [hval]
     obtain ⟨b, off, rfl, news, g1, g2, g3, g4⟩ := hne hes
     rw [h2] at h3
     have hnl : (news.take (min es.length elems.length * te.size)).length = min es.length elems.length * te.size := by
       rw [List.length_take, g1]
       exact Nat.min_eq_left (Nat.mul_le_mul_right _ (Nat.min_le_left _ _))
     have hfit : (news.take (min es.length elems.length * te.size)).length ≤ cs.size := by
       rw [hnl, h4]
       exact Nat.mul_le_mul_right _ (Nat.le_trans (Nat.min_le_right _ _) h3)
     have hrun := run_copy (P := P) hund he hb (n := elems.length) (cap := m.cap) (m := es.length) (a := ⟨b, off, none⟩) (c := cap) hnl
       (fun j u hu => by
         rw [List.getElem?_take] at hu
         split at hu
         · rw [add_off]; exact g2 j u hu
         · simp at hu) (fun u hu => g3 u (List.mem_of_mem_take hu)) hfit ty
     obtain ⟨w1, w2, w3, w4⟩ := setRow_world w m.b (patchG cs.toList 0 (news.take (min es.length elems.length * te.size))).toArray
     refine ⟨_, _, hrun, ?_, Reads.int _ _⟩
     refine Eff.write s hm hobj (obj' := .arr te.size (es.take elems.length ++ elems.drop es.length)) (by simp [fpE]) (b := m.b) (by simp [fpE, hnil]) w4 (fun k hk => setRow_other w m.b k _ hk) w1 w2 w3 fun hI => ?_
     have hfit' : 0 + (news.take (min es.length elems.length * te.size)).length ≤ cs.toList.length := by simpa using hfit
     refine ⟨h1, ?_, fun h => by simp [hnil] at h, fun _ => ⟨by omega, _, et, setRow_heap w m.b cs _ et _ hb, ?_, ?_, fun i j d hd => ?_⟩⟩
     · simp only [List.length_append, List.length_take, List.length_drop]; omega
     · rw [← h4]
       simp only [List.size_toArray]
       rw [patchG_length hfit']; simp
     · intro x hx
       rcases List.mem_append.1 hx with h | h
       · exact hlen x (List.mem_of_mem_take h)
       · exact h5 x (List.mem_of_mem_drop h)
     · simp only [List.getElem?_toArray]
       rw [patchG_at hfit', hnl]
       rcases at2_append hd with ⟨hl, hat⟩ | ⟨hl, hat⟩
       · rw [List.length_take] at hl
         have hat' : at2 es i j = some d := by
           simp only [at2, List.getElem?_take] at hat ⊢
           split at hat
           · exact hat
           · simp at hat
         obtain ⟨v, p, q⟩ := g4 i j d hat'
         have hj : j < te.size := by
           simp only [at2, Option.bind_eq_some_iff] at hat'
           obtain ⟨y, hy, hyd⟩ := hat'
           have := hlen y (List.mem_of_getElem? hy)
           rcases Nat.lt_or_ge j y.length with h | h
           · omega
           · rw [List.getElem?_eq_none h] at hyd; simp at hyd
         have hlt : i * te.size + j < min es.length elems.length * te.size := by
           have : (i + 1) * te.size ≤ min es.length elems.length * te.size := Nat.mul_le_mul_right _ (by omega)
           rw [Nat.add_mul] at this; omega
         refine ⟨v, ?_, q.mono hI (fun _ h => h)⟩
         rw [if_pos (by omega), Nat.sub_zero, List.getElem?_take, if_pos hlt]
         exact p
       · rw [List.length_take] at hl hat
         have hat' : at2 elems i j = some d := by
           have hi : es.length ≤ i := by
             rcases Nat.lt_or_ge elems.length es.length with h | h
             · exfalso
               have : elems.drop es.length = [] := List.drop_eq_nil_of_le (by omega)
               rw [this] at hat; simp [at2] at hat
             · omega
           simp only [at2, List.getElem?_drop] at hat ⊢
           rcases Nat.lt_or_ge elems.length es.length with h | h
           · exfalso
             rw [List.getElem?_eq_none (by omega)] at hat; simp at hat
           · rw [show es.length + (i - min elems.length es.length) = i by omega] at hat
             exact hat
         obtain ⟨v, p, q⟩ := h6 i j d hat'
         refine ⟨v, ?_, q.mono hI (fun _ h => h)⟩
         have hge : min es.length elems.length * te.size ≤ i * te.size := Nat.mul_le_mul_right _ (by omega)
         rw [if_neg (by omega)]
         simpa using p
end
end Go.AM
/- The abstract machine: slices of slices whose rows the call owns; slices of an own slice. -/
namespace Go.AM
section
variable {P : Program} {I:Nat → Prop} {M : Mem} {h : Heap} {w : World}
theorem Eff.merge (s : SimH I M h w) {os : List Nat} {nid : Nat} (hn : M[nid]? = some none) {e' : ME} {obj' : Obj} {w' : World} {h' : Heap} (hlen : h'.length = h.length) (hnid : h'[nid]? = some (some obj'))
   (hos : ∀ o ∈ os, o ≠ nid ∧ (h'[o]? = some none ∨ h'[o]? = some (some (.fwd (.ref nid))) ∧ ∃ e, M[o]? = some (some e) ∧ e.val = e'.val)) (hother : ∀ o, o ∉ nid :: os → h'[o]? = h[o]?)
   (hsz : w.heap.size ≤ w'.heap.size) (hheap : ∀ k, k < w.heap.size → (∀ o ∈ os, k ∉ fpAt M h o) → w'.heap[k]? = w.heap[k]?) (ho : w'.os = w.os) (ht : w'.tape = w.tape) (hp : w'.output = w.output)
   (hfp : ∀ b ∈ fpE e' obj', b < w'.heap.size ∧ (w.heap.size ≤ b ∨ ∃ o ∈ os, b ∈ fpAt M h o)) (hnd : (fpE e' obj').Nodup)
   (hok : (∀ b, I b → w'.heap[b]? = w.heap[b]?) → M.le (M.set nid (some e')) → ObjOK w' I (M.set nid (some e')) e' obj') :
   Eff (nid :: os) I M h w I (M.set nid (some e')) h' w' := by
 have hlt := lt_of_none hn
 have hmono : M.le (M.set nid (some e')) := fun o' e1 h1 => by
   by_cases heq : nid = o'
   · subst heq; rw [hn] at h1; simp at h1
   · rw [List.getElem?_set_ne heq]; exact h1
 have hget : (M.set nid (some e'))[nid]? = some (some e') := by simp [hlt]
 have hfpn : fpAt (M.set nid (some e')) h' nid = fpE e' obj' := by simp only [fpAt, hget, hnid]
 have hfpo : ∀ o ∈ os, fpAt (M.set nid (some e')) h' o = [] := fun o ho => by
   obtain ⟨hne, hor⟩ := hos o ho
   rcases hor with h1 | ⟨h1, e, he, _⟩
   · simp only [fpAt, h1]
   · have : (M.set nid (some e'))[o]? = some (some e) := hmono o e he
     simp only [fpAt, h1, this, fpE]
 have hI : ∀ b, I b → w'.heap[b]? = w.heap[b]? := fun b hb => hheap b (s.imm b hb).1 fun o _ => (s.imm b hb).2 o
 have hz : ∀ o ∈ nid :: os, ∀ b, b ∈ fpAt (M.set nid (some e')) h' o → o = nid := fun o ho b hb => by
   rcases List.mem_cons.1 ho with rfl | ho
   · rfl
   · rw [hfpo o ho] at hb; simp at hb
 refine ⟨by simp, hlen, hmono, fun o' ho' => ?_, hother, ho, ht, hp, hsz, fun b hb hnb => hheap b hb fun o ho => hnb o (by simp [ho]), fun _ h => h,
   fun b hb => ⟨by have := (s.imm b hb).1; omega, .inl hb⟩, fun o' ho' obj'' hobj'' => ?_, fun o1 o2 b h1 h2 b1 b2 => (hz o1 h1 b b1).trans (hz o2 h2 b b2).symm, fun o' ho' => ?_, fun o' b ho' hb => ?_⟩
 · simp only [List.mem_cons, not_or] at ho'
   rw [List.getElem?_set_ne (Ne.symm ho'.1)]
 · rcases List.mem_cons.1 ho' with rfl | hin
   · rw [hnid] at hobj''; simp only [Option.some.injEq] at hobj''; subst hobj''
     exact ⟨e', hget, hok hI hmono⟩
   · obtain ⟨hne, hor⟩ := hos o' hin
     rcases hor with h1 | ⟨h1, e, he, hv⟩
     · rw [h1] at hobj''; simp at hobj''
     · rw [h1] at hobj''; simp only [Option.some.injEq] at hobj''; subst hobj''
       exact ⟨e, hmono o' e he, e', hget, hv⟩
 · rcases List.mem_cons.1 ho' with rfl | hin
   · rw [hfpn]; exact hnd
   · rw [hfpo o' hin]; exact List.nodup_nil
 · have := hz o' ho' b hb; subst this
   rw [hfpn] at hb
   obtain ⟨h1, h2⟩ := hfp b hb
   exact ⟨h1, h2.imp id fun ⟨o, ho, hbo⟩ => ⟨o, by simp [ho], hbo⟩⟩
theorem rowOK_of {s' : Nat} {els : DL} {e : ME} (hok : ObjOK w I M e (.arr s' els)) : RowOK w I s' e.val els := by
 obtain ⟨h1, h2, h0, hh⟩ := hok
 cases hnil : e.nil with
 | true => have := h0 hnil; subst this; exact ⟨none, 0, by simp [ME.val, hnil], fun _ => ⟨rfl, rfl⟩, fun h => absurd rfl h⟩
 | false =>
   obtain ⟨h3, cs, t, hb, h4, h5, h6⟩ := hh hnil
   exact ⟨some ⟨e.b, 0, none⟩, e.cap, by simp [ME.val, hnil, h2], fun h => by simp at h, fun _ => ⟨e.b, cs, t, rfl, hb, h4, h2 ▸ h3, h5, h6⟩⟩
theorem rowBlk_val {s' : Nat} {els : DL} {e : ME} {b : Nat} (h : b ∈ rowBlk e.val) : b ∈ fpE e (.arr s' els) := by
 cases hnil : e.nil with
 | true => simp [ME.val, hnil, rowBlk] at h
 | false =>
   simp only [ME.val, hnil, Bool.false_eq_true, if_false] at h
   simpa [rowBlk, fpE, hnil] using h
theorem rowBlk_nodup (v : Value) : (rowBlk v).Nodup := by
 unfold rowBlk; split
 · simp
 · exact List.nodup_nil
theorem nodup_flat_set {l : List Value} {i : Nat} {x : Value} (hl : (l.flatMap rowBlk).Nodup) (hx : ∀ b ∈ rowBlk x, ∀ v ∈ l, b ∉ rowBlk v) : ((l.set i x).flatMap rowBlk).Nodup := by
 induction l generalizing i with
 | nil => simp
 | cons z l ih =>
   rw [List.flatMap_cons, List.nodup_append] at hl
   cases i with
   | zero =>
     rw [List.set_cons_zero, List.flatMap_cons, List.nodup_append]
     refine ⟨rowBlk_nodup x, hl.2.1, fun a ha b hb hab => ?_⟩
     subst hab
     obtain ⟨v, hv, hbv⟩ := List.mem_flatMap.1 hb
     exact hx a ha v (by simp [hv]) hbv
   | succ i =>
     rw [List.set_cons_succ, List.flatMap_cons, List.nodup_append]
     refine ⟨rowBlk_nodup z, ih hl.2.1 (fun b hb v hv => hx b hb v (by simp [hv])), fun a ha b hb hab => ?_⟩
     subst hab
     obtain ⟨v, hv, hbv⟩ := List.mem_flatMap.1 hb
     rcases List.mem_or_eq_of_mem_set hv with h1 | rfl
     · exact hl.2.2 a ha a (List.mem_flatMap.2 ⟨v, h1, hbv⟩) rfl
     · exact hx a hbv z (by simp) ha
def xrowStore (T:Tab) (h:Heap) (nid t:Nat) (a v:V) : Option (Heap × List Nat × List Prop) :=
 match a, v with
 | .e (.sc (.mptr o i)), .e (.sc (.ref o2)) =>
   match h[o]?, h[o2]? with
   | some (some (.mat s rows)), some (some (.arr s2 els)) =>
     match tfind T t with
     | some ti => if s == s2 && o != o2 && ti.size == 1 then some (((h.set o (some (.fwd (.ref nid)))).set o2 none).set nid (some (.mat s (rows.set i els))), [nid, o, o2], []) else none
     | none => none
   | _, _ => none
 | _, _ => none
theorem xrowStore_ok {T : Tab} (hT : TOK P T) {nid t : Nat} {a v : V} {h' : Heap} {ids : List Nat} {obs : List Prop} (hx : xrowStore T h nid t a v = some (h', ids, obs))
   (s : SimH I M h w) (hn : M[nid]? = some none) {u x : Value} (hu : RelV w I M u a) (hv : RelV w I M x v) :
   ∃ M' w', (Instr.storeAt t u x).run P w = .ok () w' ∧ Eff ids I M h w I M' h' w' := by
 unfold xrowStore at hx
 split at hx
 case h_2 => simp at hx
 rename_i o i o2
 split at hx
 case h_2 => simp at hx
 rename_i s' rows s2 els hobj hobj2
 split at hx
 case h_2 => simp at hx
 rename_i ti hti
 split at hx
 case isFalse => simp at hx
 rename_i hc
 simp only [Bool.and_eq_true, beq_iff_eq, bne_iff_ne, ne_eq] at hc
 obtain ⟨⟨rfl, hoo⟩, hsz⟩ := hc
 simp only [Option.some.injEq, Prod.mk.injEq] at hx
 obtain ⟨rfl, rfl, rfl⟩ := hx
 obtain ⟨e, he, hi, rfl⟩ := hu
 obtain ⟨e', he', h1, h2, h4, h0, hh⟩ := s.obj o _ hobj
 rw [he] at he'; simp only [Option.some.injEq] at he'; subst he'
 obtain ⟨e2, he2, rfl⟩ := hv
 obtain ⟨e2', he2', hok2⟩ := s.obj o2 _ hobj2
 rw [he2] at he2'; simp only [Option.some.injEq] at he2'; subst he2'
 have hnil := e.nil_of (fun h => by rw [h0 h] at h2; simp at h2; omega)
 obtain ⟨h3, cs, t', hb, h5, h6, h7⟩ := hh hnil
 have hone : e2.val.oneCell' = true := by cases hq : e2.nil <;> simp [ME.val, hq, Value.oneCell']
 have hcell : e2.val.cells = #[e2.val] := by cases hq : e2.nil <;> simp [ME.val, hq, Value.cells]
 have hrun := run_storeVar (P := P) (hT.find hti) (v := e2.val) (off := i) hb (by rw [hcell, hsz]; rfl) (by rw [hcell, h5]; simp only [List.size_toArray, List.length_singleton]; omega) (by rw [hcell]; simpa using hone)
 rw [hcell] at hrun
 obtain ⟨w1, w2, w3, w4⟩ := setRow_world w e.b (patchG cs.toList i [e2.val]).toArray
 have hne1 : o ≠ nid := fun heq => by subst heq; rw [hn] at he; simp at he
 have hne2 : o2 ≠ nid := fun heq => by subst heq; rw [hn] at he2; simp at he2
 have hlth : nid < h.length := s.len ▸ lt_of_none hn
 have hol : o < h.length := by
   rcases Nat.lt_or_ge o h.length with hl | hl
   · exact hl
   · rw [List.getElem?_eq_none hl] at hobj; simp at hobj
 have ho2l : o2 < h.length := by
   rcases Nat.lt_or_ge o2 h.length with hl | hl
   · exact hl
   · rw [List.getElem?_eq_none hl] at hobj2; simp at hobj2
 have hfpo : fpAt M h o = e.b :: e.rows.flatMap rowBlk := by simp only [fpAt, hobj, he, fpE, hnil, Bool.false_eq_true, if_false]
 have hfp2 : fpAt M h o2 = fpE e2 (.arr s' els) := by simp only [fpAt, hobj2, he2]
 have hbo : e.b ∈ fpAt M h o := by rw [hfpo]; simp
 have hdis : ∀ b, b ∈ rowBlk e2.val → b ∉ fpAt M h o := fun b hb hbo => hoo (s.disj o o2 b hbo (hfp2 ▸ rowBlk_val hb))
 have hnd := s.nd o
 rw [hfpo, List.nodup_cons] at hnd
 have hmem : ∀ b, b ∈ (e.rows.set i e2.val).flatMap rowBlk → b ∈ rowBlk e2.val ∨ b ∈ e.rows.flatMap rowBlk := fun b hb => by
   obtain ⟨v, hv, hbv⟩ := List.mem_flatMap.1 hb
   rcases List.mem_or_eq_of_mem_set hv with h1 | rfl
   · exact .inr (List.mem_flatMap.2 ⟨v, h1, hbv⟩)
   · exact .inl hbv
 refine ⟨M.set nid (some { e with rows := e.rows.set i e2.val }), _, by simpa [Instr.storeAt, Instr.sureAddr] using hrun, ?_⟩
 refine Eff.merge s (os := [o, o2]) hn (e' := { e with rows := e.rows.set i e2.val }) (obj' := .mat s' (rows.set i els)) (by simp) (by simp [hlth]) (fun o' ho' => ?_) (fun o' ho' => ?_) (by rw [w4]; exact Nat.le_refl _)
   (fun k hk hk2 => setRow_other w e.b k _ fun heq => hk2 o (by simp) (heq ▸ hbo)) w1 w2 w3 (fun b hb => ?_) ?_ fun hI _ => ?_
 · simp only [List.mem_cons, List.not_mem_nil, or_false] at ho'
   rcases ho' with rfl | rfl
   · refine ⟨hne1, .inr ⟨?_, e, he, ?_⟩⟩
     · rw [List.getElem?_set_ne (Ne.symm hne1), List.getElem?_set_ne (Ne.symm hoo)]; simp [hol]
     · simp [ME.val]
   · refine ⟨hne2, .inl ?_⟩
     rw [List.getElem?_set_ne (Ne.symm hne2)]; simp [ho2l]
 · simp only [List.mem_cons, List.not_mem_nil, or_false, not_or] at ho'
   rw [List.getElem?_set_ne (Ne.symm ho'.1), List.getElem?_set_ne (Ne.symm ho'.2.2), List.getElem?_set_ne (Ne.symm ho'.2.1)]
 · simp only [fpE, hnil, Bool.false_eq_true, if_false, List.mem_cons] at hb
   rw [w4]
   rcases hb with rfl | hb
   · exact ⟨s.lt o _ hbo, .inr ⟨o, by simp, hbo⟩⟩
   · rcases hmem b hb with g | g
     · have : b ∈ fpAt M h o2 := hfp2 ▸ rowBlk_val g
       exact ⟨s.lt o2 b this, .inr ⟨o2, by simp, this⟩⟩
     · have : b ∈ fpAt M h o := by rw [hfpo]; simp only [List.mem_cons]; exact .inr g
       exact ⟨s.lt o b this, .inr ⟨o, by simp, this⟩⟩
 · simp only [fpE, hnil, Bool.false_eq_true, if_false, List.nodup_cons]
   refine ⟨fun hb => ?_, nodup_flat_set hnd.2 fun b hb v hv hbv => hdis b hb ?_⟩
   · rcases hmem _ hb with h | h
     · exact hdis _ h hbo
     · exact hnd.1 h
   · rw [hfpo]; simp only [List.mem_cons]; exact .inr (List.mem_flatMap.2 ⟨v, hv, hbv⟩)
 · have hpl : i + [e2.val].length ≤ cs.toList.length := by simp only [List.length_singleton, Array.length_toList, h5]; omega
   refine ⟨h1, by simp [h2], by simp [h4], fun h => by simp [hnil] at h, fun _ => ⟨h3, _, t', setRow_heap w e.b cs _ t' _ hb, ?_, fun k v hk => ?_, fun k v elems hk hel => ?_⟩⟩
   · rw [← h5]
     simp only [List.size_toArray]
     rw [patchG_length hpl]; simp
   · simp only [List.getElem?_toArray]
     rw [patchG_at hpl]
     by_cases hki : i = k
     · subst hki
       have : i < e.rows.length := by omega
       simp only [List.getElem?_set, this, if_true, Option.some.injEq] at hk; subst hk
       rw [if_pos (by simp)]; simp
     · rw [List.getElem?_set_ne hki] at hk
       rw [if_neg (by simp; omega)]
       have := h6 k v hk
       simpa using this
   · by_cases hki : i = k
     · subst hki
       have : i < e.rows.length := by omega
       have hr : i < rows.length := by omega
       simp only [List.getElem?_set, this, hr, if_true, Option.some.injEq] at hk hel; subst hk; subst hel
       refine (rowOK_of hok2).mono hI (fun _ h => h) fun b hb => setRow_other w e.b b _ fun heq => hdis b hb (heq ▸ hbo)
     · rw [List.getElem?_set_ne hki] at hk hel
       refine (h7 k v elems hk hel).mono hI (fun _ h => h) fun b hb => setRow_other w e.b b _ fun heq => ?_
       subst heq
       exact hnd.1 (List.mem_flatMap.2 ⟨v, List.mem_of_getElem? hk, hb⟩)
end
end Go.AM
/- The abstract machine: copy into a row of an own matrix. -/
namespace Go.AM
theorem flat_disj : ∀ (l : List Value) (p q:Nat) (x y : Value), (l.flatMap rowBlk).Nodup → l[p]? = some x → l[q]? = some y → p ≠ q → ∀ b, b ∈ rowBlk x → b ∉ rowBlk y := by
 intro l
 induction l with
 | nil => intro p q x y _ hp; simp at hp
 | cons z l ih =>
   intro p q x y hnd hp hq hpq b hbx hby
   rw [List.flatMap_cons, List.nodup_append] at hnd
   match p, q, hp, hq with
   | 0, 0, _, _ => exact hpq rfl
   | 0, q + 1, hp, hq =>
     simp only [List.getElem?_cons_zero, Option.some.injEq] at hp; subst hp
     exact hnd.2.2 b hbx b (List.mem_flatMap.2 ⟨y, List.mem_of_getElem? (by simpa using hq), hby⟩) rfl
   | p + 1, 0, hp, hq =>
     simp only [List.getElem?_cons_zero, Option.some.injEq] at hq; subst hq
     exact hnd.2.2 b hby b (List.mem_flatMap.2 ⟨x, List.mem_of_getElem? (by simpa using hp), hbx⟩) rfl
   | p + 1, q + 1, hp, hq => exact ih p q x y hnd.2.1 (by simpa using hp) (by simpa using hq) (by omega) b hbx hby
section
variable {P : Program} {I:Nat → Prop} {M : Mem} {h : Heap} {w : World}
theorem RowOK.own {I':Nat → Prop} {s : Nat} {v : Value} {el : DL} (h : RowOK w I s v el) (hi : ∀ b, I b → I' b) (M':Mem) : ∃ q : ME, q.val = v ∧ fpE q (.arr s el) = rowBlk v ∧ ObjOK w I' M' q (.arr s el) := by
 obtain ⟨a, cap, rfl, h0, h1⟩ := h
 cases a with
 | none =>
   obtain ⟨rfl, rfl⟩ := h0 rfl
   exact ⟨⟨true, 0, 0, 0, s, []⟩, rfl, rfl, rfl, rfl, fun _ => rfl, fun h => by simp at h⟩
 | some a =>
   obtain ⟨b, cs, t, ha, hb, g1, g2, g3, g4⟩ := h1 (by simp)
   simp only [Option.some.injEq] at ha; subst ha
   exact ⟨⟨false, b, el.length, cap, s, []⟩, rfl, rfl, rfl, rfl, fun h => by simp at h, fun _ => ⟨g2, cs, t, hb, g1, g3, fun i j d hd => let ⟨v, p, q⟩ := g4 i j d hd; ⟨v, p, q.mono (fun _ _ => rfl) hi⟩⟩⟩
def xcopyR (T:Tab) (h:Heap) (t:Nat) (sv xv:V) : Option (V × Heap × List Nat × List Prop) :=
 match sv with
 | .e (.sc (.row o r)) =>
   match h[o]? with
   | some (some (.mat s rows)) =>
     match xcopy T (h.set o none ++ [some (.arr s (rows.getD r []))]) t (.e (.sc (.ref h.length))) xv with
     | some (v, h2, _, obs) =>
       match h2[h.length]? with
       | some (some (.arr s' el)) => if s' == s then some (v, h.set o (some (.mat s (rows.set r el))), [o], obs) else none
       | _ => none
     | none => none
   | _ => none
 | _ => none
theorem xcopy_ids {T : Tab} {t o : Nat} {xv v : V} {h' : Heap} {ids : List Nat} {obs : List Prop} (hx : xcopy T h t (.e (.sc (.ref o))) xv = some (v, h', ids, obs)) : ids = [o] := by
 unfold xcopy at hx
 repeat' split at hx
 all_goals simp only [Option.some.injEq, Prod.mk.injEq, reduceCtorEq, V.e.injEq, E.sc.injEq, S.ref.injEq] at *
 all_goals
   obtain ⟨_, _, rfl, _⟩ := hx
   subst_vars
   rfl
theorem xcopy_int {T : Tab} {t : Nat} {sv xv v : V} {h' : Heap} {ids : List Nat} {obs : List Prop} (hx : xcopy T h t sv xv = some (v, h', ids, obs)) : ∃ n, v = vint .i64 n := by
 unfold xcopy at hx
 repeat' split at hx
 all_goals simp only [Option.some.injEq, Prod.mk.injEq, reduceCtorEq] at hx
 all_goals exact ⟨_, hx.1.symm⟩
theorem xcopyR_ok {T : Tab} (hT : TOK P T) {t : Nat} {sv xv r : V} {h' : Heap} {ids : List Nat} {obs : List Prop} (hx : xcopyR T h t sv xv = some (r, h', ids, obs)) (ho : AllP obs)
   (s : SimH I M h w) {u x : Value} (hu : RelV w I M u sv) (hxr : RelV w I M x xv) (ty : TypeId) :
   ∃ y w', (Builtin.copy_ #[t, t] ty #[u, x]).run P w = .ok y w' ∧ Eff ids I M h w I M h' w' ∧ RelV w' I M y r := by
 unfold xcopyR at hx
 split at hx
 case h_2 => simp at hx
 rename_i o r0
 split at hx
 case h_2 => simp at hx
 rename_i sz rows hobj
 split at hx
 case h_2 => simp at hx
 rename_i v h2 ids2 obs2 hxc
 split at hx
 case h_2 => simp at hx
 rename_i s' el hel
 split at hx
 case isFalse => simp at hx
 rename_i hs
 simp only [beq_iff_eq] at hs; subst hs
 simp only [Option.some.injEq, Prod.mk.injEq] at hx
 obtain ⟨rfl, rfl, rfl, rfl⟩ := hx
 obtain ⟨m, hm, hv⟩ := hu
 obtain ⟨m', hm', g1, g2, g3, g4, g5⟩ := s.obj o _ hobj
 rw [hm] at hm'; simp only [Option.some.injEq] at hm'; subst hm'
 have hrl : r0 < rows.length := by
   rw [← g3]
   rcases Nat.lt_or_ge r0 m.rows.length with h | h
   · exact h
   · rw [List.getElem?_eq_none h] at hv; simp at hv
 have hnil : m.nil = false := m.nil_of fun h => by rw [g4 h] at hrl; simp at hrl
 obtain ⟨g6, cs, t0, hb, g7, g8, g9⟩ := g5 hnil
 have hg : rows.getD r0 [] = rows[r0] := by simp [hrl]
 rw [hg] at hxc
 obtain ⟨q, q1, q2, q3⟩ := (g9 r0 u _ hv (List.getElem?_eq_getElem hrl)).own (I' := I) (fun _ h => h) M
 have hol : o < h.length := by
   rcases Nat.lt_or_ge o h.length with hl | hl
   · exact hl
   · rw [List.getElem?_eq_none hl] at hobj; simp at hobj
 have hML := s.len
 have fo : fpAt M h o = m.b :: m.rows.flatMap rowBlk := by simp only [fpAt, hobj, hm, fpE, hnil, Bool.false_eq_true, if_false]
 have nd := s.nd o
 rw [fo, List.nodup_cons] at nd
 have inU : ∀ b, b ∈ rowBlk u → b ∈ m.rows.flatMap rowBlk := fun b hb => List.mem_flatMap.2 ⟨u, List.mem_of_getElem? hv, hb⟩
 have inO : ∀ b, b ∈ rowBlk u → b ∈ fpAt M h o := fun b hb => by rw [fo]; exact List.mem_cons_of_mem _ (inU b hb)
 have mle : M.le (M ++ [some q]) := fun k e hk => by
   rcases Nat.lt_or_ge k M.length with hl | hl
   · rw [List.getElem?_append_left hl]; exact hk
   · rw [List.getElem?_eq_none hl] at hk; simp at hk
 have hq : (M ++ [some q])[h.length]? = some (some q) := by rw [← hML]; simp
 have hh : (h.set o none ++ [some (Obj.arr s' rows[r0])])[h.length]? = some (some (.arr s' rows[r0])) := by
   rw [List.getElem?_append_right (by simp)]; simp
 have hk : ∀ k obj, (h.set o none ++ [some (Obj.arr s' rows[r0])])[k]? = some (some obj) → (k = h.length ∧ obj = .arr s' rows[r0]) ∨ (k ≠ o ∧ k < h.length ∧ h[k]? = some (some obj)) := fun k obj hk => by
   rcases Nat.lt_or_ge k h.length with hl | hl
   · rw [List.getElem?_append_left (by simpa using hl)] at hk
     by_cases hko : o = k
     · subst hko; simp [hl] at hk
     · rw [List.getElem?_set_ne hko] at hk; exact .inr ⟨Ne.symm hko, hl, hk⟩
   · rw [List.getElem?_append_right (by simpa using hl)] at hk
     simp only [List.length_set] at hk
     match hkk : k - h.length, hk with
     | 0, hk => simp only [List.getElem?_cons_zero, Option.some.injEq] at hk; exact .inl ⟨by omega, hk.symm⟩
     | _ + 1, hk => simp at hk
 have fp2 : ∀ k b, b ∈ fpAt (M ++ [some q]) (h.set o none ++ [some (Obj.arr s' rows[r0])]) k → (k = h.length ∧ b ∈ rowBlk u) ∨ (k ≠ o ∧ k < h.length ∧ b ∈ fpAt M h k) := fun k b hb => by
   unfold fpAt at hb
   split at hb
   · rename_i obj e hobj' he
     rcases hk k obj hobj' with ⟨rfl, rfl⟩ | ⟨h1, h2, h3⟩
     · rw [hq, Option.some.injEq, Option.some.injEq] at he; subst he
       rw [q2] at hb; exact .inl ⟨rfl, hb⟩
     · rw [List.getElem?_append_left (by omega)] at he
       exact .inr ⟨h1, h2, by simp only [fpAt, h3, he]; exact hb⟩
   · simp at hb
 have fq : fpAt (M ++ [some q]) (h.set o none ++ [some (Obj.arr s' rows[r0])]) h.length = rowBlk u := by simp only [fpAt, hh, hq, q2]
 have s2 : SimH I (M ++ [some q]) (h.set o none ++ [some (Obj.arr s' rows[r0])]) w := by
   refine ⟨by simp [hML], fun k obj hobj' => ?_, fun k1 k2 b b1 b2 => ?_, fun k => ?_, fun k b hb => ?_, fun b hb => ⟨(s.imm b hb).1, fun k hbk => ?_⟩⟩
   · rcases hk k obj hobj' with ⟨rfl, rfl⟩ | ⟨h1, h2, h3⟩
     · exact ⟨q, hq, q3⟩
     · obtain ⟨e, he, hok⟩ := s.obj k obj h3
       exact ⟨e, mle _ _ he, hok.mono (fun _ _ => rfl) (fun _ h => h) mle (fun _ _ => rfl)⟩
   · rcases fp2 k1 b b1 with ⟨h1, h2⟩ | ⟨h1, h2, h3⟩ <;> rcases fp2 k2 b b2 with ⟨h4, h5⟩ | ⟨h4, h5, h6⟩
     · omega
     · exact absurd (s.disj o k2 b (inO b h2) h6) (Ne.symm h4)
     · exact absurd (s.disj o k1 b (inO b h5) h3) (Ne.symm h1)
     · exact s.disj k1 k2 b h3 h6
   · by_cases hkl : k = h.length
     · subst hkl; rw [fq]; exact rowBlk_nodup u
     · by_cases hkn : (h.set o none ++ [some (Obj.arr s' rows[r0])])[k]? = none ∨ (h.set o none ++ [some (Obj.arr s' rows[r0])])[k]? = some none
       · have : fpAt (M ++ [some q]) (h.set o none ++ [some (Obj.arr s' rows[r0])]) k = [] := by
           unfold fpAt
           rcases hkn with h1 | h1 <;> rw [h1]
         rw [this]; exact List.nodup_nil
       · obtain ⟨obj, hobj'⟩ : ∃ obj, (h.set o none ++ [some (Obj.arr s' rows[r0])])[k]? = some (some obj) := by
           cases hx : (h.set o none ++ [some (Obj.arr s' rows[r0])])[k]? with
           | none => exact absurd (.inl hx) hkn
           | some y => cases y with
             | none => exact absurd (.inr hx) hkn
             | some obj => exact ⟨obj, rfl⟩
         rcases hk k obj hobj' with ⟨h1, _⟩ | ⟨h1, h2, h3⟩
         · exact absurd h1 hkl
         · have hMk : (M ++ [some q])[k]? = M[k]? := List.getElem?_append_left (by omega)
           have : fpAt (M ++ [some q]) (h.set o none ++ [some (Obj.arr s' rows[r0])]) k = fpAt M h k := by simp only [fpAt, hobj', h3, hMk]
           rw [this]; exact s.nd k
   · rcases fp2 k b hb with ⟨_, h2⟩ | ⟨_, _, h3⟩
     · exact s.lt o b (inO b h2)
     · exact s.lt k b h3
   · rcases fp2 k b hbk with ⟨_, h2⟩ | ⟨_, _, h3⟩
     · exact (s.imm b hb).2 o (inO b h2)
     · exact (s.imm b hb).2 k h3
 obtain ⟨y, w', hrun, e2, hr2⟩ := xcopy_ok hT hxc ho s2 (u := u) (show RelV w I _ u (.e (.sc (.ref h.length))) from ⟨q, hq, q1.symm⟩) (hxr.mono (fun _ _ => rfl) (fun _ h => h) mle) ty
 have hids := xcopy_ids hxc
 subst hids
 obtain ⟨q', hq', hokq⟩ := e2.obj h.length (by simp) _ hel
 rw [hq, Option.some.injEq, Option.some.injEq] at hq'; subst hq'
 have hother : ∀ b, b < w.heap.size → b ∉ rowBlk u → w'.heap[b]? = w.heap[b]? := fun b hb hn => e2.heap b hb fun k hk hbk => by
   simp only [List.mem_singleton] at hk; subst hk
   rw [fq] at hbk; exact hn hbk
 have hI := s2.heapI e2
 have hMm : ∀ b, b ∈ fpAt M h o → b < w.heap.size := fun b hb => s.lt o b hb
 have hfo' : fpAt M (h.set o (some (.mat s' (rows.set r0 el)))) o = m.b :: m.rows.flatMap rowBlk := by
   simp only [fpAt, hm, List.getElem?_set, hol, if_true, fpE, hnil, Bool.false_eq_true, if_false]
 have hobj2 : ObjOK w' I M m (.mat s' (rows.set r0 el)) := by
   refine ⟨g1, by simp [g2], by simp [g3], fun h => by simp [hnil] at h, fun _ => ⟨g6, cs, t0, ?_, g7, g8, fun k vk elk hvk helk => ?_⟩⟩
   · rw [hother m.b (hMm _ (by rw [fo]; simp)) (fun hbu => nd.1 (inU _ hbu))]; exact hb
   · by_cases hkr : r0 = k
     · subst hkr
       rw [hv, Option.some.injEq] at hvk; subst hvk
       simp only [List.getElem?_set, hrl, if_true, Option.some.injEq] at helk; subst helk
       have := rowOK_of hokq
       rwa [q1] at this
     · rw [List.getElem?_set_ne hkr] at helk
       refine (g9 k vk elk hvk helk).mono hI (fun _ h => h) fun b hbk => ?_
       have hbin : b ∈ m.rows.flatMap rowBlk := List.mem_flatMap.2 ⟨vk, List.mem_of_getElem? hvk, hbk⟩
       exact hother b (hMm b (by rw [fo]; exact List.mem_cons_of_mem _ hbin)) (fun hbu => flat_disj m.rows r0 k u vk nd.2 hv hvk hkr b hbu hbk)
 refine ⟨y, w', hrun, ⟨rfl, by simp, fun _ _ h => h, fun _ _ => rfl, fun k hk => ?_, e2.os, e2.tape, e2.output, e2.size, fun b hb hn => hother b hb fun hbu => hn o (by simp) (inO b hbu), fun _ h => h, fun b hb => ⟨?_, .inl hb⟩, fun k hk obj hobj' => ?_, fun k1 k2 b h1 h2 _ _ => ?_, fun k hk => ?_, fun k b hk hb => ?_⟩, ?_⟩
 · simp only [List.mem_singleton] at hk
   rw [List.getElem?_set_ne (Ne.symm hk)]
 · have := (s.imm b hb).1; have := e2.size; omega
 · simp only [List.mem_singleton] at hk; subst hk
   simp only [List.getElem?_set, hol, if_true, Option.some.injEq] at hobj'; subst hobj'
   exact ⟨m, hm, hobj2⟩
 · simp only [List.mem_singleton] at h1 h2; omega
 · simp only [List.mem_singleton] at hk; subst hk
   rw [hfo', List.nodup_cons]; exact nd
 · simp only [List.mem_singleton] at hk; subst hk
   rw [hfo', ← fo] at hb
   exact ⟨by have := hMm b hb; have := e2.size; omega, .inr ⟨k, by simp, hb⟩⟩
 · -- the number that is answered names no object
   have : ∀ {v : V}, (∃ n, v = vint .i64 n) → RelV w' I (M ++ [some q]) y v → RelV w' I M y v := fun ⟨n, hn⟩ hr => by subst hn; exact hr
   exact this (xcopy_int hxc) hr2
theorem ids_copyR {T : Tab} {t : Nat} {a b r : V} {h' : Heap} {ids : List Nat} {obs : List Prop} (hx : xcopyR T h t a b = some (r, h', ids, obs)) (s : SimH I M h w) : ∀ o ∈ ids, M[o]? ≠ some none := by
 unfold xcopyR at hx
 repeat' split at hx
 all_goals simp only [Option.some.injEq, Prod.mk.injEq, reduceCtorEq] at hx
 obtain ⟨_, _, rfl, _⟩ := hx
 intro k hk
 simp only [List.mem_singleton] at hk
 subst hk
 obtain ⟨e, he, _⟩ := s.obj _ _ (by assumption)
 rw [he]; simp
end
end Go.AM
/- The abstract machine: '[][]T{..}' and append, over rows that the call owns. -/
namespace Go.AM
section
variable {P : Program} {I:Nat → Prop} {M : Mem} {h : Heap} {w : World}
theorem run_buildSlice {T : Tab} (hT : TOK P T) {σ : St} {a : Act} (s : Sim I M σ a w) {t len e : Nat} {parts : Array (Nat × Operand)} {te : TI} (hund : P.underlying t = some (.slice e)) (hte : tfind T e = some te) (hle : len * te.size ≤ 16777216)
   {ps : List (Nat × E)} (hps : evParts σ.t parts.toList = some ps) {cells : List S} (hfill : xfill (fun i => some (i * te.size, te.size)) (zrep te (len * te.size)) ps = some cells) :
   ∃ arr : Array Value, (Instr.buildSlice t len (parts.map fun p => (p.1, a.eval p.2))).run P w = .ok (.slice (some ⟨w.heap.size, 0, none⟩) len len) { w with heap := w.heap.push (.cells arr e) } ∧ RelL w I M arr.toList cells := by
 have he := hT.find hte
 obtain ⟨h1, h2⟩ := evParts_ok s _ _ hps
 obtain ⟨z, hz, hzl⟩ := he.zeroValue
 obtain ⟨cs', hf, hrel⟩ := xfill_ok (w := w) (I := I) (M := M) (fun i => some (i * te.size, te.size)) ps _ _ _ ((Array.range (len * te.size)).map (z.cells[· % z.cells.size]!)) hfill h1 h2 (zrep_ok te he.zone hzl _)
 refine ⟨cs', ?_, hrel⟩
 have hsm : ¬ (16777216 < len * te.size) := by omega
 by_cases h0 : len * te.size = 0
 · have hcs0 : (Array.range (len * te.size)).map (z.cells[· % z.cells.size]!) = #[] := by rw [h0, Array.range_zero', Array.map_empty]
   rw [hcs0] at hf
   simp only [Instr.buildSlice, Sem.run_bind, run_underlying hund, Result.andThen, he.sizeOf]
   rw [if_neg (by simpa using hsm), h0]
   simp only [if_true, Sem.run_pure, Array.range_zero', Array.map_empty, Array.toList_map, Sem.run_bind, Result.andThen, hf]
   simp [newRow]
 · simp only [Instr.buildSlice, Sem.run_bind, run_underlying hund, Result.andThen, he.sizeOf]
   rw [if_neg (by simpa using hsm), if_neg h0]
   simp only [Sem.run_bind, hz, Result.andThen, Sem.run_pure, Array.toList_map, hf]
   simp [newRow]
def xbuildRows (T:Tab) (σ:St) (nid t len:Nat) (parts : List (Nat × Operand)) : Option (V × Heap × List Nat × List Prop) :=
 match tfind T t with
 | some ti =>
   match ti.k with
   | .slice e =>
     match tfind T e, evParts σ.t parts with
     | some te, some ps =>
       match te.k with
       | .slice e2 => match tfind T e2 with
         | some te2 =>
           if te.size == 1 && decide (len ≤ 1) then
             match xfill (fun i => some (i * te.size, te.size)) (zrep te (len * te.size)) ps with
             | some [] => if len == 0 then some (.e (.sc (.ref nid)), σ.h.set nid (some (.mat te2.size [])), [nid], []) else none
             | some [.ref o2] => match σ.h[o2]? with
               | some (some (.arr s els)) => if s == te2.size && len == 1 then some (.e (.sc (.ref nid)), (σ.h.set o2 none).set nid (some (.mat s [els])), [nid, o2], []) else none
               | _ => none
             | _ => none
           else none
         | none => none
       | _ => none
     | _, _ => none
   | _ => none
 | none => none
theorem xbuildRows_ok {T : Tab} (hT : TOK P T) {σ : St} {a : Act} (s : Sim I M σ a w) {nid t len : Nat} {parts : Array (Nat × Operand)} {r : V} {h' : Heap} {ids : List Nat} {obs : List Prop}
   (hx : xbuildRows T σ nid t len parts.toList = some (r, h', ids, obs)) (hn : M[nid]? = some none) :
   ∃ x I' M' w', (Instr.buildSlice t len (parts.map fun p => (p.1, a.eval p.2))).run P w = .ok x w' ∧ Eff ids I M σ.h w I' M' h' w' ∧ RelV w' I' M' x r := by
 unfold xbuildRows at hx
 split at hx
 case h_2 => simp at hx
 rename_i ti hti
 split at hx
 case h_2 => simp at hx
 rename_i e hk
 have hund := (hT.find hti).slice hk
 split at hx
 case h_2 => simp at hx
 rename_i te ps hte hps
 split at hx
 case h_2 => simp at hx
 rename_i e2 hk2
 split at hx
 case h_2 => simp at hx
 rename_i te2 hte2
 split at hx
 case isFalse => simp at hx
 rename_i hc
 simp only [Bool.and_eq_true, beq_iff_eq, decide_eq_true_eq] at hc
 obtain ⟨hs1, hl1⟩ := hc
 split at hx
 · rename_i hfill
   split at hx
   case isFalse => simp at hx
   rename_i hl0
   simp only [beq_iff_eq] at hl0; subst hl0
   simp only [Option.some.injEq, Prod.mk.injEq] at hx
   obtain ⟨rfl, rfl, rfl, rfl⟩ := hx
   obtain ⟨arr, hrun, hrel⟩ := run_buildSlice hT s hund hte (by omega) hps hfill
   refine ⟨_, I, M.set nid (some ⟨false, w.heap.size, 0, 0, te2.size, []⟩), _, hrun, ?_, ⟨false, w.heap.size, 0, 0, te2.size, []⟩, by simp [lt_of_none hn], rfl⟩
   have ha : arr.size = 0 := by have := hrel.1; simpa using this
   exact Eff.new s.toSimH hn (e := ⟨false, w.heap.size, 0, 0, te2.size, []⟩) rfl rfl rfl rfl (by simp [fpE]) fun hI hm =>
     ⟨rfl, rfl, rfl, fun h => by simp at h, fun _ => ⟨Nat.le_refl _, arr, e, push_new, ha, fun k v hk => by simp at hk, fun k v el hk => by simp at hk⟩⟩
 · rename_i o2 hfill
   split at hx
   case h_2 => simp at hx
   rename_i s' els hobj
   split at hx
   case isFalse => simp at hx
   rename_i hc2
   simp only [Bool.and_eq_true, beq_iff_eq] at hc2
   obtain ⟨hss, rfl⟩ := hc2
   simp only [Option.some.injEq, Prod.mk.injEq] at hx
   obtain ⟨rfl, rfl, rfl, rfl⟩ := hx
   obtain ⟨arr, hrun, hrel⟩ := run_buildSlice hT s hund hte (by omega) hps hfill
   obtain ⟨m, hm, hok⟩ := s.obj o2 _ hobj
   have hal : arr.toList.length = 1 := by simpa using hrel.1
   have harr : arr = #[m.val] := by
     obtain ⟨l⟩ := arr
     match l, hal with
     | [x], _ =>
       obtain ⟨m', hm', hv⟩ := hrel.2 0 x _ rfl rfl
       rw [hm] at hm'; simp only [Option.some.injEq] at hm'; subst hm'
       rw [hv]
   subst harr
   have hne : o2 ≠ nid := fun heq => by subst heq; rw [hn] at hm; simp at hm
   have hlth : nid < σ.h.length := s.len ▸ lt_of_none hn
   have ho2l : o2 < σ.h.length := by
     rcases Nat.lt_or_ge o2 σ.h.length with hl | hl
     · exact hl
     · rw [List.getElem?_eq_none hl] at hobj; simp at hobj
   have hfp2 : fpAt M σ.h o2 = fpE m (.arr s' els) := by simp only [fpAt, hobj, hm]
   refine ⟨_, I, M.set nid (some ⟨false, w.heap.size, 1, 1, s', [m.val]⟩), _, hrun, ?_, ⟨false, w.heap.size, 1, 1, s', [m.val]⟩, by simp [lt_of_none hn], rfl⟩
   refine Eff.merge s.toSimH (os := [o2]) hn (e' := ⟨false, w.heap.size, 1, 1, s', [m.val]⟩) (obj' := .mat s' [els]) (by simp) (by simp [hlth]) (fun o' ho' => ?_) (fun o' ho' => ?_) (by simp) (fun k hk _ => push_old hk) rfl rfl rfl
     (fun b hb => ?_) ?_ fun hI _ => ?_
   · simp only [List.mem_cons, List.not_mem_nil, or_false] at ho'
     subst ho'
     exact ⟨hne, .inl (by rw [List.getElem?_set_ne (Ne.symm hne)]; simp [ho2l])⟩
   · simp only [List.mem_cons, List.not_mem_nil, or_false, not_or] at ho'
     rw [List.getElem?_set_ne (Ne.symm ho'.1), List.getElem?_set_ne (Ne.symm ho'.2)]
   · simp only [fpE, Bool.false_eq_true, if_false, List.mem_cons, List.flatMap_cons, List.flatMap_nil, List.append_nil] at hb
     rcases hb with rfl | hb
     · exact ⟨by simp, .inl (Nat.le_refl _)⟩
     · have : b ∈ fpAt M σ.h o2 := hfp2 ▸ rowBlk_val hb
       exact ⟨by have := s.lt o2 b this; simp; omega, .inr ⟨o2, by simp, this⟩⟩
   · simp only [fpE, Bool.false_eq_true, if_false, List.flatMap_cons, List.flatMap_nil, List.append_nil, List.nodup_cons]
     refine ⟨fun hb => ?_, rowBlk_nodup _⟩
     have : w.heap.size ∈ fpAt M σ.h o2 := hfp2 ▸ rowBlk_val hb
     exact Nat.lt_irrefl _ (s.lt o2 _ this)
   · refine ⟨rfl, rfl, rfl, fun h => by simp at h, fun _ => ⟨Nat.le_refl _, #[m.val], e, push_new, rfl, fun k v hk => by simpa using hk, fun k v el hk hel => ?_⟩⟩
     match k, hk, hel with
     | 0, hk, hel =>
       simp only [List.getElem?_cons_zero, Option.some.injEq] at hk hel; subst hk; subst hel
       exact (rowOK_of hok).mono hI (fun _ h => h) fun b hb => push_old (s.lt o2 b (hfp2 ▸ rowBlk_val hb))
     | k + 1, hk, hel => simp at hk
 · simp at hx
def xappRows (T:Tab) (h:Heap) (nid t:Nat) (sv xv:V) : Option (V × Heap × List Nat × List Prop) :=
 match tfind T t with
 | some ti =>
   match ti.k with
   | .slice e =>
     match tfind T e with
     | some te =>
       if te.bytes == 0 || te.size != 1 || te.zero.length != 1 then none else
       match sv, xv with
       | .e (.sc (.ref o)), .e (.sc (.ref o3)) =>
         match h[o]?, h[o3]? with
         | some (some (.mat s rows)), some (some (.mat s3 rows3)) =>
           if s == s3 && o != o3 then some (.e (.sc (.ref nid)), ((h.set o none).set o3 none).set nid (some (.mat s (rows ++ rows3))), [nid, o, o3], [(rows.length + rows3.length) * te.bytes ≤ 140737488355328])
           else none
         | _, _ => none
       | _, _ => none
     | none => none
   | _ => none
 | none => none
theorem xappRows_ok {T : Tab} (hT : TOK P T) {nid t : Nat} {sv xv r : V} {h' : Heap} {ids : List Nat} {obs : List Prop} (hx : xappRows T h nid t sv xv = some (r, h', ids, obs)) (ho : AllP obs)
   (s : SimH I M h w) (hn : M[nid]? = some none) {u x : Value} (hu : RelV w I M u sv) (hxr : RelV w I M x xv) (ty : TypeId) :
   ∃ y I' M' w', (Builtin.append_ #[t, t] ty #[u, x]).run P w = .ok y w' ∧ Eff ids I M h w I' M' h' w' ∧ RelV w' I' M' y r := by
 unfold xappRows at hx
 split at hx
 case h_2 => simp at hx
 rename_i ti hti
 split at hx
 case h_2 => simp at hx
 rename_i e hk
 have hund := (hT.find hti).slice hk
 split at hx
 case h_2 => simp at hx
 rename_i te hte
 have he := hT.find hte
 split at hx
 · simp at hx
 rename_i hbz
 simp only [Bool.or_eq_true, beq_iff_eq, bne_iff_ne, ne_eq, not_or, Decidable.not_not] at hbz
 obtain ⟨⟨hb0, hs1⟩, hz1⟩ := hbz
 split at hx
 case h_2 => simp at hx
 rename_i o o3
 split at hx
 case h_2 => simp at hx
 rename_i s' rows s3 rows3 hobj hobj3
 split at hx
 case isFalse => simp at hx
 rename_i hc
 simp only [Bool.and_eq_true, beq_iff_eq, bne_iff_ne, ne_eq] at hc
 obtain ⟨rfl, hoo⟩ := hc
 simp only [Option.some.injEq, Prod.mk.injEq] at hx
 obtain ⟨rfl, rfl, rfl, rfl⟩ := hx
 have hbytes := ho.1
 obtain ⟨m, hm, rfl⟩ := hu
 obtain ⟨m', hm', a1, a2, a4, a0, ah⟩ := s.obj o _ hobj
 rw [hm] at hm'; simp only [Option.some.injEq] at hm'; subst hm'
 obtain ⟨q, hq, rfl⟩ := hxr
 obtain ⟨q', hq', b1, b2, b4, b0, bh⟩ := s.obj o3 _ hobj3
 rw [hq] at hq'; simp only [Option.some.injEq] at hq'; subst hq'
 obtain ⟨f, z', hinf, hf1, hf2, hf3, hf4⟩ := he.info
 have hlt := lt_of_none hn
 have hsmall : rows.length + rows3.length ≤ 140737488355328 := by
   have : (rows.length + rows3.length) * 1 ≤ (rows.length + rows3.length) * te.bytes := Nat.mul_le_mul_left _ (by omega)
   omega
 have hgetn : ∀ e' : ME, (M.set nid (some e'))[nid]? = some (some e') := fun e' => by simp [hlt]
 have hne : o ≠ nid := fun heq => by subst heq; rw [hn] at hm; simp at hm
 have hne3 : o3 ≠ nid := fun heq => by subst heq; rw [hn] at hq; simp at hq
 have hlth : nid < h.length := s.len ▸ hlt
 have hol : o < h.length := by
   rcases Nat.lt_or_ge o h.length with hl | hl
   · exact hl
   · rw [List.getElem?_eq_none hl] at hobj; simp at hobj
 have ho3l : o3 < h.length := by
   rcases Nat.lt_or_ge o3 h.length with hl | hl
   · exact hl
   · rw [List.getElem?_eq_none hl] at hobj3; simp at hobj3
 have hfpo : fpAt M h o = if m.nil then [] else m.b :: m.rows.flatMap rowBlk := by simp only [fpAt, hobj, hm, fpE]
 have hfp3 : fpAt M h o3 = if q.nil then [] else q.b :: q.rows.flatMap rowBlk := by simp only [fpAt, hobj3, hq, fpE]
 have rowsE : ∀ {m : ME} {rows : DLL}, m.rows.length = rows.length → (m.nil = true → rows = []) → m.nil = true → m.rows = [] := fun h1 h2 h3 => by
   have := h2 h3; subst this; exact List.length_eq_zero_iff.1 (by simpa using h1)
 have in1 : ∀ b, b ∈ m.rows.flatMap rowBlk → b ∈ fpAt M h o := fun b hb => by
   rw [hfpo]
   cases hnil : m.nil with
   | true => rw [rowsE a4 a0 hnil] at hb; simp at hb
   | false => simp only [Bool.false_eq_true, if_false, List.mem_cons]; exact .inr hb
 have in3 : ∀ b, b ∈ q.rows.flatMap rowBlk → b ∈ fpAt M h o3 := fun b hb => by
   rw [hfp3]
   cases hnil : q.nil with
   | true => rw [rowsE b4 b0 hnil] at hb; simp at hb
   | false => simp only [Bool.false_eq_true, if_false, List.mem_cons]; exact .inr hb
 have nd1 : (m.rows.flatMap rowBlk).Nodup := by
   have := s.nd o
   rw [hfpo] at this
   cases hnil : m.nil with
   | true => rw [rowsE a4 a0 hnil]; exact List.nodup_nil
   | false => rw [hnil] at this; simp only [Bool.false_eq_true, if_false, List.nodup_cons] at this; exact this.2
 have nd3 : (q.rows.flatMap rowBlk).Nodup := by
   have := s.nd o3
   rw [hfp3] at this
   cases hnil : q.nil with
   | true => rw [rowsE b4 b0 hnil]; exact List.nodup_nil
   | false => rw [hnil] at this; simp only [Bool.false_eq_true, if_false, List.nodup_cons] at this; exact this.2
 have ndA : ((m.rows ++ q.rows).flatMap rowBlk).Nodup := by
   rw [List.flatMap_append, List.nodup_append]
   exact ⟨nd1, nd3, fun a ha b hb hab => hoo (s.disj o o3 a (in1 a ha) (in3 a (hab ▸ hb)))⟩
 have inA : ∀ b, b ∈ (m.rows ++ q.rows).flatMap rowBlk → ∃ o' ∈ [o, o3], b ∈ fpAt M h o' := fun b hb => by
   rw [List.flatMap_append, List.mem_append] at hb
   rcases hb with hb | hb
   · exact ⟨o, by simp, in1 b hb⟩
   · exact ⟨o3, by simp, in3 b hb⟩
 have rowsOK : ∀ (k:Nat) v el, (m.rows ++ q.rows)[k]? = some v → (rows ++ rows3)[k]? = some el → RowOK w I s' v el := fun k v el hk hel => by
   rcases Nat.lt_or_ge k rows.length with hl | hl
   · rw [List.getElem?_append_left (by omega)] at hk
     rw [List.getElem?_append_left hl] at hel
     cases hnil : m.nil with
     | true => rw [rowsE a4 a0 hnil] at hk; simp at hk
     | false => obtain ⟨_, cs, t', _, _, _, hr⟩ := ah hnil; exact hr k v el hk hel
   · rw [List.getElem?_append_right (by omega)] at hk
     rw [List.getElem?_append_right hl] at hel
     rw [a4] at hk
     cases hnil : q.nil with
     | true => rw [rowsE b4 b0 hnil] at hk; simp at hk
     | false => obtain ⟨_, cs, t', _, _, _, hr⟩ := bh hnil; exact hr _ v el hk hel
 have one3 : ∀ v ∈ q.rows, v.oneCell' = true := fun v hv => by
   obtain ⟨k, hk⟩ := List.mem_iff_getElem?.1 hv
   have hkl : k < rows3.length := by
     rcases Nat.lt_or_ge k q.rows.length with hl | hl
     · omega
     · rw [List.getElem?_eq_none hl] at hk; simp at hk
   obtain ⟨a, cap, rfl, _⟩ := rowsOK (rows.length + k) v _ (by rw [List.getElem?_append_right (by omega), a4, Nat.add_sub_cancel_left]; exact hk) (by rw [List.getElem?_append_right (by omega), Nat.add_sub_cancel_left]; exact List.getElem?_eq_getElem hkl)
   rfl
 have fin : ∀ (e' : ME) (w':World), e'.nil = false → e'.s = s' → e'.n = rows.length + rows3.length → e'.rows = m.rows ++ q.rows → w.heap.size ≤ w'.heap.size → (∀ k, k < w.heap.size → k ≠ e'.b → w'.heap[k]? = w.heap[k]?) →
     w'.os = w.os → w'.tape = w.tape → w'.output = w.output → (e'.b = w.heap.size ∨ (m.nil = false ∧ e'.b = m.b)) → e'.b < w'.heap.size → e'.n ≤ e'.cap → (∃ cs t, w'.heap[e'.b]? = some (.cells cs t (0, 0)) ∧ cs.size = e'.cap ∧ ∀ (k:Nat) v, (m.rows ++ q.rows)[k]? = some v → cs[k]? = some v) →
     Eff [nid, o, o3] I M h w I (M.set nid (some e')) (((h.set o none).set o3 none).set nid (some (.mat s' (rows ++ rows3)))) w' := fun e' w' c1 c2 c3 c4 hsz hheap ho ht hp hbb hblt hcap hcs => by
   have hnotin : e'.b ∉ (m.rows ++ q.rows).flatMap rowBlk := fun hb => by
     obtain ⟨o', ho', hbo'⟩ := inA _ hb
     rcases hbb with h1 | ⟨h1, h2⟩
     · have := s.lt o' _ hbo'; omega
     · have hbo : m.b ∈ fpAt M h o := by rw [hfpo, h1]; simp
       rw [h2] at hbo' hb
       have := s.disj o' o _ hbo' hbo; subst this
       have hnd := s.nd o'
       rw [hfpo, h1] at hnd
       simp only [Bool.false_eq_true, if_false, List.nodup_cons] at hnd
       rw [List.flatMap_append, List.mem_append] at hb
       rcases hb with hb | hb
       · exact hnd.1 hb
       · exact hoo (s.disj o' o3 _ hbo (in3 _ hb))
   refine Eff.merge s (os := [o, o3]) hn (e' := e') (obj' := .mat s' (rows ++ rows3)) (by simp) (by simp [hlth]) (fun o' ho' => ?_) (fun o' ho' => ?_) hsz (fun k hk hk2 => hheap k hk fun heq => ?_) ho ht hp (fun b hb => ?_) ?_ fun hI _ => ?_
   · simp only [List.mem_cons, List.not_mem_nil, or_false] at ho'
     rcases ho' with rfl | rfl
     · exact ⟨hne, .inl (by rw [List.getElem?_set_ne (Ne.symm hne), List.getElem?_set_ne (Ne.symm hoo)]; simp [hol])⟩
     · exact ⟨hne3, .inl (by rw [List.getElem?_set_ne (Ne.symm hne3)]; simp [ho3l])⟩
   · simp only [List.mem_cons, List.not_mem_nil, or_false, not_or] at ho'
     rw [List.getElem?_set_ne (Ne.symm ho'.1), List.getElem?_set_ne (Ne.symm ho'.2.2), List.getElem?_set_ne (Ne.symm ho'.2.1)]
   · rcases hbb with h1 | ⟨h1, h2⟩
     · omega
     · exact hk2 o (by simp) (by rw [hfpo, h1, heq, h2]; simp)
   · simp only [fpE, c1, Bool.false_eq_true, if_false, List.mem_cons, c4] at hb
     rcases hb with rfl | hb
     · refine ⟨hblt, ?_⟩
       rcases hbb with h1 | ⟨h1, h2⟩
       · exact .inl (by omega)
       · exact .inr ⟨o, by simp, by rw [hfpo, h1, h2]; simp⟩
     · obtain ⟨o', ho', hbo'⟩ := inA b hb
       exact ⟨by have := s.lt o' b hbo'; omega, .inr ⟨o', ho', hbo'⟩⟩
   · simp only [fpE, c1, Bool.false_eq_true, if_false, List.nodup_cons, c4]
     exact ⟨hnotin, ndA⟩
   · obtain ⟨cs, t, g1, g2, g3⟩ := hcs
     refine ⟨c2, by simp [c3], by simp [c4, a4, b4], fun h => by simp [c1] at h, fun _ => ⟨hcap, cs, t, g1, g2, by rw [c4]; exact g3, fun k v el hk hel => ?_⟩⟩
     rw [c4] at hk
     refine (rowsOK k v el hk hel).mono hI (fun _ h => h) fun b hb => ?_
     have hbin : b ∈ (m.rows ++ q.rows).flatMap rowBlk := List.mem_flatMap.2 ⟨v, List.mem_of_getElem? hk, hb⟩
     obtain ⟨o', ho', hbo'⟩ := inA b hbin
     exact hheap b (s.lt o' b hbo') fun heq => hnotin (heq ▸ hbin)
 have q0 : rows3 = [] → q.rows = [] ∧ ∃ a cap, q.val = .slice a 0 cap := fun h3 => by
   subst h3
   refine ⟨List.length_eq_zero_iff.1 (by simpa using b4), ?_⟩
   cases hnil : q.nil with
   | true => exact ⟨none, 0, by simp [ME.val, hnil]⟩
   | false => exact ⟨some ⟨q.b, 0, none⟩, q.cap, by simp [ME.val, hnil, b2]⟩
 have qv : rows3 ≠ [] → ∃ cs3 t3, q.val = .slice (some ⟨q.b, 0, none⟩) rows3.length q.cap ∧ w.heap[q.b]? = some (.cells cs3 t3 (0, 0)) ∧ ∀ (k:Nat) v, q.rows[k]? = some v → cs3[k]? = some v := fun h3 => by
   cases hnil : q.nil with
   | true => exact absurd (b0 hnil) h3
   | false =>
     obtain ⟨_, cs3, t3, g1, _, g3, _⟩ := bh hnil
     exact ⟨cs3, t3, by simp [ME.val, hnil, b2], g1, g3⟩
 have zs : z'.cells.size = te.size := by
   have := hf4
   have h1 : te.zero.length = z'.cells.size := by rw [← this]; simp
   rw [← h1, hz1, hs1]
 cases hnil : m.nil with
 | true =>
   have hel := a0 hnil; subst hel
   have hmr := rowsE a4 a0 hnil
   by_cases hes : rows3 = []
   · obtain ⟨hqr, a, cap, hqv⟩ := q0 hes
     subst hes
     refine ⟨.slice none 0 0, I, M.set nid (some ⟨true, 0, 0, 0, s', []⟩), w, by rw [hqv]; simpa [ME.val, hnil] using run_app_nothing (P := P) (w := w) hund he (b := none) (n := 0) (cap := 0) (Nat.le_refl _) ty, ?_, ⟨_, hgetn _, rfl⟩⟩
     refine Eff.merge s (os := [o, o3]) hn (e' := ⟨true, 0, 0, 0, s', []⟩) (obj' := .mat s' ([] ++ [])) (by simp) (by simp [hlth]) (fun o' ho' => ?_) (fun o' ho' => ?_) (Nat.le_refl _) (fun _ _ _ => rfl) rfl rfl rfl (fun b hb => by simp [fpE] at hb) (by simp [fpE])
       fun _ _ => ⟨rfl, rfl, rfl, fun _ => rfl, fun h => by simp at h⟩
     · simp only [List.mem_cons, List.not_mem_nil, or_false] at ho'
       rcases ho' with rfl | rfl
       · exact ⟨hne, .inl (by rw [List.getElem?_set_ne (Ne.symm hne), List.getElem?_set_ne (Ne.symm hoo)]; simp [hol])⟩
       · exact ⟨hne3, .inl (by rw [List.getElem?_set_ne (Ne.symm hne3)]; simp [ho3l])⟩
     · simp only [List.mem_cons, List.not_mem_nil, or_false, not_or] at ho'
       rw [List.getElem?_set_ne (Ne.symm ho'.1), List.getElem?_set_ne (Ne.symm ho'.2.2), List.getElem?_set_ne (Ne.symm ho'.2.1)]
   · obtain ⟨cs3, t3, hqv, g1, g3⟩ := qv hes
     have hpos : 0 < rows3.length := List.length_pos_iff.2 hes
     simp only [List.length_nil, Nat.zero_add] at hbytes hsmall
     have hrun := run_append_nil (P := P) w t ty e f z' hund hinf hf3 ⟨q.b, 0, none⟩ rows3.length q.cap q.rows (by rw [hf1, hs1, b4, Nat.mul_one]) (fun j u hu => by rw [add_off, cell_of g1]; simpa using g3 j u hu) hpos (by omega) (by rw [hf2]; omega)
     have hcap := grownCap_ge w rows3.length 0 e
     refine ⟨_, I, M.set nid (some ⟨false, w.heap.size, rows3.length, grownCap w rows3.length 0 e, s', m.rows ++ q.rows⟩), _, by rw [hqv]; simpa [ME.val, hnil] using hrun, ?_, ⟨_, hgetn _, rfl⟩⟩
     refine fin ⟨false, w.heap.size, rows3.length, grownCap w rows3.length 0 e, s', m.rows ++ q.rows⟩ _ rfl rfl (by simp) rfl (by rw [drew_alloc_size]; omega) (fun k hk _ => push_old hk) rfl rfl rfl (.inl rfl) (by rw [drew_alloc_size]; exact Nat.lt_succ_self _) hcap ⟨_, e, push_new, ?_, fun k v hv => ?_⟩
     · simp only [Array.size_append, List.size_toArray, size_zeroCells, b4, zs, hs1]; omega
     · rw [hmr, List.nil_append] at hv
       rw [Array.getElem?_append_left]
       · simpa using hv
       · rcases Nat.lt_or_ge k q.rows.length with h | h
         · simpa using h
         · rw [List.getElem?_eq_none h] at hv; simp at hv
 | false =>
   obtain ⟨h3, cs, et, hb, h4, h5, _⟩ := ah hnil
   have hval : m.val = .slice (some ⟨m.b, 0, none⟩) rows.length m.cap := by simp [ME.val, hnil, a2]
   have hmb : m.b < w.heap.size := s.lt o m.b (by rw [hfpo, hnil]; simp)
   rw [hval]
   rw [a2] at h3
   by_cases hes : rows3 = []
   · obtain ⟨hqr, a, cap, hqv⟩ := q0 hes
     subst hes
     refine ⟨_, I, M.set nid (some { m with n := rows.length, rows := m.rows ++ q.rows }), w, by rw [hqv]; exact run_app_nothing (P := P) (w := w) hund he h3 ty, ?_, ⟨_, hgetn _, by simp [ME.val, hnil]⟩⟩
     exact fin { m with n := rows.length, rows := m.rows ++ q.rows } w hnil a1 (by simp) rfl (Nat.le_refl _) (fun _ _ _ => rfl) rfl rfl rfl (.inr ⟨hnil, rfl⟩) hmb h3 ⟨cs, et, hb, h4, fun k v hv => h5 k v (by rw [hqr, List.append_nil] at hv; exact hv)⟩
   · obtain ⟨cs3, t3, hqv, g1, g3⟩ := qv hes
     rw [hqv]
     have hpos : 0 < rows3.length := List.length_pos_iff.2 hes
     by_cases hroom : rows.length + rows3.length ≤ m.cap
     · have hfit : rows.length * te.size + q.rows.length ≤ cs.size := by rw [b4, h4, hs1, Nat.mul_one]; exact hroom
       have hrun := run_app_room (P := P) hund he hb (n := rows.length) (m := rows3.length) (a := ⟨q.b, 0, none⟩) (c := q.cap) (news := q.rows) (by rw [b4, hs1, Nat.mul_one]) (fun j u hu => by rw [add_off, cell_of g1]; simpa using g3 j u hu) one3 hroom hfit ty
       obtain ⟨w1, w2, w3, w4⟩ := setRow_world w m.b (patchG cs.toList (rows.length * te.size) q.rows).toArray
       refine ⟨_, I, M.set nid (some { m with n := rows.length + rows3.length, rows := m.rows ++ q.rows }), _, hrun, ?_, ⟨_, hgetn _, by simp [ME.val, hnil]⟩⟩
       refine fin { m with n := rows.length + rows3.length, rows := m.rows ++ q.rows } _ hnil a1 rfl rfl (by omega) (fun k hk hkb => setRow_other w m.b k _ hkb) w1 w2 w3 (.inr ⟨hnil, rfl⟩) (by rw [w4]; exact hmb) hroom
         ⟨_, et, setRow_heap w m.b cs _ et _ hb, ?_, fun k v hv => ?_⟩
       · rw [← h4]
         simp only [List.size_toArray]
         rw [patchG_length (by simpa using hfit)]; simp
       · simp only [List.getElem?_toArray]
         rw [patchG_at (by simpa using hfit), hs1, Nat.mul_one]
         by_cases hk : k < rows.length
         · rw [List.getElem?_append_left (by omega)] at hv
           rw [if_neg (by omega)]
           simpa using h5 k v hv
         · rw [List.getElem?_append_right (by omega), a4] at hv
           have hk2 : k - rows.length < q.rows.length := by
             rcases Nat.lt_or_ge (k - rows.length) q.rows.length with h | h
             · exact h
             · rw [List.getElem?_eq_none h] at hv; simp at hv
           rw [if_pos (by omega)]; exact hv
     · have hrun := run_append_grow (P := P) w t ty e f z' hund hinf hf3 ⟨m.b, 0, none⟩ rows.length m.cap m.rows (by rw [hf1, hs1, a4, Nat.mul_one]) (fun j u hu => by rw [add_off, cell_of hb]; simpa using h5 j u hu)
         ⟨q.b, 0, none⟩ rows3.length q.cap q.rows (by rw [hf1, hs1, b4, Nat.mul_one]) (fun j u hu => by rw [add_off, cell_of g1]; simpa using g3 j u hu) (by omega) (by omega) (by rw [hf2]; exact growslice_fits (by omega) hbytes)
       have hcap := grownCap_ge w (rows.length + rows3.length) m.cap e
       refine ⟨_, I, M.set nid (some ⟨false, w.heap.size, rows.length + rows3.length, grownCap w (rows.length + rows3.length) m.cap e, s', m.rows ++ q.rows⟩), _, hrun, ?_, ⟨_, hgetn _, rfl⟩⟩
       refine fin ⟨false, w.heap.size, rows.length + rows3.length, grownCap w (rows.length + rows3.length) m.cap e, s', m.rows ++ q.rows⟩ _ rfl rfl rfl rfl (by rw [drew_alloc_size]; omega) (fun k hk _ => push_old hk) rfl rfl rfl (.inl rfl) (by rw [drew_alloc_size]; exact Nat.lt_succ_self _) hcap ⟨_, e, push_new, ?_, fun k v hv => ?_⟩
       · simp only [Array.size_append, List.size_toArray, size_zeroCells, a4, b4, zs, hs1]; omega
       · rw [Array.getElem?_append_left]
         · simpa using hv
         · rcases Nat.lt_or_ge k (m.rows ++ q.rows).length with h | h
           · simpa using h
           · rw [List.getElem?_eq_none h] at hv; simp at hv
end
end Go.AM
/- The abstract machine: the first part of an own slice; a slice of zeros appended to nil. -/
namespace Go.AM
section
variable {P : Program} {I:Nat → Prop} {M : Mem} {h : Heap} {w : World}
def xprefix (T:Tab) (h:Heap) (nid t:Nat) (x:V) (hi:Int) : Option (V × Heap × List Nat × List Prop) :=
 match tfind T t with
 | some ti =>
   match ti.k with
   | .slice e =>
     match tfind T e with
     | some te =>
       match x with
       | .e (.sc (.dat (.raw (.slice none 0 0)))) => some (.e (.sc (.dat (.raw (.slice none 0 0)))), h, [], [hi = 0])
       | .e (.sc (.ref o)) =>
         match h[o]? with
         | some (some (.arr s elems)) => if s == te.size then some (.e (.sc (.ref nid)), (h.set o none).set nid (some (.arr s (elems.take hi.toNat))), [nid, o], [0 ≤ hi ∧ hi ≤ (elems.length:Int)]) else none
         | _ => none
       | _ => none
     | none => none
   | _ => none
 | none => none
theorem xprefix_ok {T : Tab} (hT : TOK P T) {nid t : Nat} {x r : V} {hi : Int} {h' : Heap} {ids : List Nat} {obs : List Prop} (hx : xprefix T h nid t x hi = some (r, h', ids, obs)) (ho : AllP obs)
   (s : SimH I M h w) (hn : M[nid]? = some none) {u : Value} (hu : RelV w I M u x) (k : IntKind) :
   ∃ y I' M' w', (Instr.sliceAt t u none (some (.int k hi)) none).run P w = .ok y w' ∧ Eff ids I M h w I' M' h' w' ∧ RelV w' I' M' y r := by
 unfold xprefix at hx
 split at hx
 case h_2 => simp at hx
 rename_i ti hti
 split at hx
 case h_2 => simp at hx
 rename_i e hk
 have hund := (hT.find hti).slice hk
 split at hx
 case h_2 => simp at hx
 rename_i te hte
 have he := hT.find hte
 split at hx
 · simp only [Option.some.injEq, Prod.mk.injEq] at hx
   obtain ⟨rfl, rfl, rfl, rfl⟩ := hx
   have h0 := ho.1; subst h0
   have hu' : Reads w I u (.raw (.slice none 0 0)) := hu
   cases hu'
   have hb : (Instr.sliceBounds true 0 0 none (some (.int k 0)) none).run P w = .ok (0, 0, 0) w := by
     simp [Instr.sliceBounds, run_bound (P := P) (w := w) (k := k) (n := 0) (y := 0) .sliceAcap (by omega)]
   refine ⟨_, I, M, w, run_slice hund he hb, Eff.refl s, ?_⟩
   exact Reads.raw _ rfl
 · rename_i o
   split at hx
   case h_2 => simp at hx
   rename_i s' elems hobj
   split at hx
   case isFalse => simp at hx
   rename_i hsz
   simp only [beq_iff_eq] at hsz; subst hsz
   simp only [Option.some.injEq, Prod.mk.injEq] at hx
   obtain ⟨rfl, rfl, rfl, rfl⟩ := hx
   obtain ⟨m, hm, rfl⟩ := hu
   obtain ⟨m', hm', h1, h2, h0, hh⟩ := s.obj o _ hobj
   rw [hm] at hm'; simp only [Option.some.injEq] at hm'; subst hm'
   have hhi := ho.1
   have hlt := lt_of_none hn
   have hgetn : ∀ e' : ME, (M.set nid (some e'))[nid]? = some (some e') := fun e' => by simp [hlt]
   have hne : o ≠ nid := fun heq => by subst heq; rw [hn] at hm; simp at hm
   have hlth : nid < h.length := s.len ▸ hlt
   have hol : o < h.length := by
     rcases Nat.lt_or_ge o h.length with hl | hl
     · exact hl
     · rw [List.getElem?_eq_none hl] at hobj; simp at hobj
   have hfpo : fpAt M h o = if m.nil then [] else [m.b] := by simp only [fpAt, hobj, hm, fpE]
   have hcap : hi.toNat ≤ m.cap ∨ m.nil = true := by
     cases hnil : m.nil with
     | true => exact .inr rfl
     | false => obtain ⟨h3, _⟩ := hh hnil; exact .inl (by omega)
   have hmerge : ∀ e' : ME, e'.nil = m.nil → e'.b = m.b → e'.s = te.size → e'.n = hi.toNat → e'.cap = m.cap → Eff [nid, o] I M h w I (M.set nid (some e')) ((h.set o none).set nid (some (.arr te.size (elems.take hi.toNat)))) w := fun e' c1 c2 c3 c4 c5 => by
     refine Eff.merge s (os := [o]) hn (e' := e') (obj' := .arr te.size (elems.take hi.toNat)) (by simp) (by simp [hlth]) (fun o' ho' => ?_) (fun o' ho' => ?_) (Nat.le_refl _) (fun _ _ _ => rfl) rfl rfl rfl (fun b hb => ?_) ?_ fun hI _ => ?_
     · simp only [List.mem_cons, List.not_mem_nil, or_false] at ho'; subst ho'
       exact ⟨hne, .inl (by rw [List.getElem?_set_ne (Ne.symm hne)]; simp [hol])⟩
     · simp only [List.mem_cons, List.not_mem_nil, or_false, not_or] at ho'
       rw [List.getElem?_set_ne (Ne.symm ho'.1), List.getElem?_set_ne (Ne.symm ho'.2)]
     · simp only [fpE, c1] at hb
       have : b ∈ fpAt M h o := by rw [hfpo]; rw [c2] at hb; exact hb
       exact ⟨s.lt o b this, .inr ⟨o, by simp, this⟩⟩
     · simp only [fpE]; split <;> simp
     · refine ⟨c3, by rw [c4, List.length_take]; omega, fun hnil => by rw [h0 (c1 ▸ hnil)]; simp, fun hnil => ?_⟩
       obtain ⟨h3, cs, t', hb, h4, h5, h6⟩ := hh (c1 ▸ hnil)
       refine ⟨by omega, cs, t', by rw [c2]; exact hb, by rw [c5]; exact h4, fun x hx => h5 x (List.mem_of_mem_take hx), fun i j d hd => ?_⟩
       refine h6 i j d ?_
       simp only [at2, List.getElem?_take] at hd ⊢
       split at hd
       · exact hd
       · simp at hd
   cases hnil : m.nil with
   | true =>
     have hel := h0 hnil; subst hel
     have hz : hi = 0 := by simp at hhi; omega
     have hb : (Instr.sliceBounds true 0 0 none (some (.int k hi)) none).run P w = .ok (0, 0, 0) w := by
       subst hz; simp [Instr.sliceBounds, run_bound (P := P) (w := w) (k := k) (n := 0) (y := 0) .sliceAcap (by omega)]
     refine ⟨.slice none 0 0, I, M.set nid (some { m with n := hi.toNat }), w, ?_, hmerge { m with n := hi.toNat } rfl rfl h1 rfl rfl, ⟨_, hgetn _, by simp [ME.val, hnil]⟩⟩
     have := run_slice (P := P) (w := w) hund he (a := none) hb
     simpa [ME.val, hnil] using this
   | false =>
     obtain ⟨h3, cs, t', hb, h4, h5, h6⟩ := hh hnil
     have hc : hi.toNat ≤ m.cap := by omega
     have hbd : (Instr.sliceBounds true m.n m.cap none (some (.int k hi)) none).run P w = .ok (0, hi.toNat, m.cap) w := by
       simp [Instr.sliceBounds, run_bound (P := P) (w := w) (k := k) (n := hi) (y := m.cap) .sliceAcap (by omega)]
     refine ⟨.slice (some ⟨m.b, 0, none⟩) hi.toNat m.cap, I, M.set nid (some { m with n := hi.toNat }), w, ?_, hmerge { m with n := hi.toNat } rfl rfl h1 rfl rfl, ⟨_, hgetn _, by simp [ME.val, hnil]⟩⟩
     have := run_slice (P := P) (w := w) hund he (a := some ⟨m.b, 0, none⟩) hbd
     simpa [ME.val, hnil, Addr.add_lit] using this
 · simp at hx
def xappN (T:Tab) (nid t t2:Nat) (h:Heap) (sv xv:V) : Option (V × Heap × List Nat × List Prop) :=
 match sv, xv with
 | .e (.sc (.dat (.raw (.slice none 0 0)))), .e (.sc (.dat (.int .i64 n))) =>
   match tfind T t, tfind T t2 with
   | some ti, some ti2 =>
     match ti.k, ti2.k with
     | .slice e, .int _ =>
       match tfind T e with
       | some te => if te.bytes == 0 || te.zero.length != te.size || te.size == 0 then none else
           some (.e (.sc (.ref nid)), h.set nid (some (.arr te.size (List.replicate n.toNat (zeroD te)))), [nid], [0 < n ∧ n * te.bytes ≤ 140737488355328])
       | none => none
     | _, _ => none
   | _, _ => none
 | _, _ => none
theorem xappN_ok {T : Tab} (hT : TOK P T) {nid t t2 : Nat} {sv xv r : V} {h' : Heap} {ids : List Nat} {obs : List Prop} (hx : xappN T nid t t2 h sv xv = some (r, h', ids, obs)) (ho : AllP obs)
   (s : SimH I M h w) (hn : M[nid]? = some none) {u x : Value} (hu : RelV w I M u sv) (hxr : RelV w I M x xv) (ty : TypeId) :
   ∃ y I' M' w', (Builtin.append_ #[t, t2] ty #[u, x]).run P w = .ok y w' ∧ Eff ids I M h w I' M' h' w' ∧ RelV w' I' M' y r := by
 unfold xappN at hx
 split at hx
 case h_2 => simp at hx
 rename_i n
 split at hx
 case h_2 => simp at hx
 rename_i ti ti2 hti hti2
 split at hx
 case h_2 => simp at hx
 rename_i e k2 hk hk2
 have hund := (hT.find hti).slice hk
 have hund2 := (hT.find hti2).int hk2
 split at hx
 case h_2 => simp at hx
 rename_i te hte
 have he := hT.find hte
 split at hx
 · simp at hx
 rename_i hbz
 simp only [Bool.or_eq_true, beq_iff_eq, bne_iff_ne, ne_eq, not_or, Decidable.not_not] at hbz
 obtain ⟨⟨hb0, hzl⟩, hs0⟩ := hbz
 simp only [Option.some.injEq, Prod.mk.injEq] at hx
 obtain ⟨rfl, rfl, rfl, rfl⟩ := hx
 obtain ⟨hpos, hbytes⟩ := ho.1
 have hu' : Reads w I u (.raw (.slice none 0 0)) := hu
 cases hu'
 have := relV_int hxr; subst this
 obtain ⟨f, z', hinf, hf1, hf2, hf3, hf4⟩ := he.info
 have hn48 : n ≤ 140737488355328 := by
   have h1 : n * 1 ≤ n * te.bytes := Int.mul_le_mul_of_nonneg_left (by omega) (by omega)
   omega
 have hw : IntKind.i64.wrap n = n := wrap_small (by omega) (by omega)
 obtain ⟨q, rfl⟩ : ∃ q : Nat, n = (q:Int) := Int.eq_ofNat_of_zero_le (Int.le_of_lt hpos)
 simp only [Int.toNat_natCast]
 have hq : 0 < q := by omega
 have hqb : q * te.bytes ≤ 140737488355328 := by
   rw [← Int.natCast_mul] at hbytes
   exact Int.ofNat_le.1 hbytes
 have zs : z'.cells.size = te.size := by
   have h1 : te.zero.length = z'.cells.size := by rw [← hf4]; simp
   rw [← h1, hzl]
 have hrun : (Builtin.append_ #[t, t2] ty #[.slice none 0 0, .int .i64 (q:Int)]).run P w =
     .ok (.slice (some ⟨w.heap.size, 0, none⟩) q (grownCap w q 0 e)) (w.drew.alloc (.cells (Builtin.zeroCells z'.cells q ++ Builtin.zeroCells z'.cells (grownCap w q 0 e - q)) e)) := by
   have e1 : ¬ ((q:Int) < 0) := by omega
   have e2 : ¬ (281474976710656 < (q : Int) * (f.bytes : Int)) := by rw [hf2]; have : (q : Int) * (te.bytes : Int) = ((q * te.bytes : Nat) : Int) := by simp
                                                                     omega
   have e3 : q ≠ 0 := by omega
   have e4 : ¬ (9223372036854775807 < (q:Int)) := by omega
   have e5 : ¬ (281474976710656 < Builtin.nextslicecap q 0 * f.bytes) := by rw [nextslicecap_zero hq, hf2]; omega
   have e6 : ¬ (q * f.size = 0) := by rw [hf1]; exact Nat.mul_ne_zero e3 hs0
   simp [Builtin.append_, run_underlying hund, run_underlying hund2, sizeOf, typeInfo, zeroValue, hinf, hf3, asInt, asIntOf, hw, e1, e2, e3, e4, e5, e6, Question.forced, run_firstCells_none, newRow, grownCap]
 have hcap := grownCap_ge w q 0 e
 refine ⟨_, I, M.set nid (some ⟨false, w.heap.size, q, grownCap w q 0 e, te.size, []⟩), _, hrun, ?_, ⟨⟨false, w.heap.size, q, grownCap w q 0 e, te.size, []⟩, by simp [lt_of_none hn], rfl⟩⟩
 refine Eff.new s hn (e := ⟨false, w.heap.size, q, grownCap w q 0 e, te.size, []⟩) rfl rfl rfl rfl rfl fun hI hm => ?_
 refine ⟨rfl, by simp, fun h => by simp at h, fun _ => ⟨hcap, _, e, push_new, ?_, fun x hx => by rw [List.eq_of_mem_replicate hx]; simp [zeroD, hzl], fun i j d hd => ?_⟩⟩
 · simp only [Array.size_append, size_zeroCells, zs, ← Nat.add_mul]; congr 1; omega
 · simp only [at2, List.getElem?_replicate, Option.bind_eq_some_iff] at hd
   obtain ⟨x, hx, hd⟩ := hd
   split at hx
   · rename_i hi
     simp only [Option.some.injEq] at hx; subst hx
     simp only [zeroD, List.getElem?_map, Option.map_eq_some_iff] at hd
     obtain ⟨v, hv, rfl⟩ := hd
     have hj : j < te.zero.length := by
       rcases Nat.lt_or_ge j te.zero.length with hl | hl
       · exact hl
       · rw [List.getElem?_eq_none hl] at hv; simp at hv
     have hlt : i * te.size + j < q * te.size := by
       have h1 : (i + 1) * te.size ≤ q * te.size := Nat.mul_le_mul_right _ (by omega)
       rw [Nat.add_mul] at h1; omega
     refine ⟨v, ?_, normD_ok (cdat_ok _ _ _ (he.zone _ (List.mem_of_getElem? hv)))⟩
     have hmod : (i * te.size + j) % te.size = j := by
       rw [Nat.mul_comm, Nat.mul_add_mod, Nat.mod_eq_of_lt (by omega)]
     have hjz : j < z'.cells.size := by omega
     have hzj : z'.cells[j]! = v := by
       rw [getElem!_pos z'.cells j hjz]
       have e1 : z'.cells[j]? = some v := by rw [← hv, ← hf4]; simp
       rw [Array.getElem?_eq_getElem hjz, Option.some.injEq] at e1; exact e1
     rw [Array.getElem?_append_left (by rw [size_zeroCells, zs]; exact hlt)]
     simp [Builtin.zeroCells, zs, hlt, hmod, hzj]
   · simp at hx
end
end Go.AM
/- The abstract machine: what a function does (FnG), calls. -/
namespace Go.AM
def RelVL (w:World) (I:Nat → Prop) (M:Mem) (vs : List Value) (xs : List V) : Prop :=
 vs.length = xs.length ∧ ∀ (i:Nat) v x, vs[i]? = some v → xs[i]? = some x → RelV w I M v x
def FnG (P:Program) (k:FuncId) (args : List V) (h:Heap) (Q:V → Heap → Prop) : Prop :=
 (∃ fn, P.funcs[k]? = some fn ∧ fn.body.isSome = true ∧ (fn.name == "runtime.NumGoroutine") = false) ∧
 ∀ (I:Nat → Prop) (M:Mem) (w:World) (vs : List Value), SimH I M h w → RelVL w I M vs args →
   Calls P k vs.toArray w fun e w' => ∃ v r h' I' M', e = .returned v ∧ Q r h' ∧ RelV w' I' M' v r ∧ SimH I' M' h' w' ∧
     Ext (fpAll M h) I w I' w' ∧ (∀ b, fpAll M' h' b → fpAll M h b ∨ w.heap.size ≤ b) ∧ ∀ (o:Nat) e, o < h.length → M[o]? = some (some e) → M'[o]? = some (some e)
def E.toData : E → Option E
 | .sc s => s.toD.map fun d => .sc (.dat d)
 | .agg l => (l.mapM S.toD).map fun ds => .agg (ds.map .dat)
def V.toData:V → Option V
 | .e x => x.toData.map .e
 | .tup _ => none
theorem toData_ok {w : World} {I:Nat → Prop} {M M' : Mem} {v : Value} {x y : V} (h : RelV w I M v x) (hx : x.toData = some y) : RelV w I M' v y := by
 cases x with
 | tup l => simp [V.toData] at hx
 | e x =>
   simp only [V.toData, Option.map_eq_some_iff] at hx
   obtain ⟨z, hz, rfl⟩ := hx
   cases x with
   | sc s =>
     simp only [E.toData, Option.map_eq_some_iff] at hz
     obtain ⟨d, hd, rfl⟩ := hz
     exact toD_ok hd h
   | agg l =>
     simp only [E.toData, Option.map_eq_some_iff] at hz
     obtain ⟨ds, hds, rfl⟩ := hz
     obtain ⟨cs, rfl, hrel⟩ := h
     obtain ⟨h1, h2⟩ := mapM_toD hds hrel
     refine ⟨cs, rfl, by simpa using h1, fun i v s hv hs => ?_⟩
     simp only [List.getElem?_map, Option.map_eq_some_iff] at hs
     obtain ⟨d, hd, rfl⟩ := hs
     exact h2 i v d hv hd
def S.sh (b:Nat) : S → S
 | .ref o => .ref (b + o)
 | .ptr o k => .ptr (b + o) k
 | .aptr o i k => .aptr (b + o) i k
 | .row o k => .row (b + o) k
 | .mptr o i => .mptr (b + o) i
 | .refb o n => .refb (b + o) n
 | .rptr o r i k => .rptr (b + o) r i k
 | .clo f caps => .clo f (caps.map (b + ·))
 | s => s
def E.sh (b:Nat) : E → E
 | .sc s => .sc (s.sh b)
 | .agg l => .agg (l.map (S.sh b))
def V.sh (b:Nat) : V → V
 | .e x => .e (x.sh b)
 | .tup l => .tup (l.map (E.sh b))
def Obj.sh (b:Nat) : Obj → Obj
 | .box cells => .box (cells.map (S.sh b))
 | .fwd s => .fwd (s.sh b)
 | o => o
def MAt (b:Nat) (Mc M:Mem) : Prop := ∀ (o:Nat) e, Mc[o]? = some (some e) → M[b + o]? = some (some e)
section
variable {w : World} {I:Nat → Prop} {Mc M : Mem} {b : Nat}
theorem RelS.sh (hm : MAt b Mc M) {v : Value} {s : S} (h : RelS w I Mc v s) : RelS w I M v (s.sh b) := by
 cases s with
 | dat d => exact h
 | ref o => obtain ⟨e, h1, h2⟩ := h; exact ⟨e, hm _ _ h1, h2⟩
 | ptr o k => obtain ⟨e, h1, h2⟩ := h; exact ⟨e, hm _ _ h1, h2⟩
 | aptr o i k => obtain ⟨e, h1, h2⟩ := h; exact ⟨e, hm _ _ h1, h2⟩
 | eptr z elems i k => exact h
 | row o k => obtain ⟨e, h1, h2⟩ := h; exact ⟨e, hm _ _ h1, h2⟩
 | mptr o i => obtain ⟨e, h1, h2⟩ := h; exact ⟨e, hm _ _ h1, h2⟩
 | rptr o r i k => obtain ⟨e, c, n, cap, h1, h2⟩ := h; exact ⟨e, c, n, cap, hm _ _ h1, h2⟩
 | clo f caps =>
   obtain ⟨vs, h1, h2, h3⟩ := h
   refine ⟨vs, h1, by simpa using h2, fun i u o hu ho => ?_⟩
   simp only [List.getElem?_map, Option.map_eq_some_iff] at ho
   obtain ⟨o', ho', rfl⟩ := ho
   obtain ⟨e, p, q⟩ := h3 i u o' hu ho'
   exact ⟨e, hm _ _ p, q⟩
 | bptr ds k => exact h
 | refb o n => obtain ⟨e, h1, h2⟩ := h; exact ⟨e, hm _ _ h1, h2⟩
 | undef => trivial
theorem RelP.sh (hm : MAt b Mc M) {vs : List Value} {ss : List S} (h : RelP w I Mc vs ss) : RelP w I M vs (ss.map (S.sh b)) := by
 refine ⟨by simpa using h.1, fun i v s hv hs => ?_⟩
 simp only [List.getElem?_map, Option.map_eq_some_iff] at hs
 obtain ⟨s', hs', rfl⟩ := hs
 exact (h.2 i v s' hv hs').sh hm
theorem RelL.sh (hm : MAt b Mc M) {vs : List Value} {ss : List S} (h : RelL w I Mc vs ss) : RelL w I M vs (ss.map (S.sh b)) := by
 refine ⟨by simpa using h.1, fun i v s hv hs => ?_⟩
 simp only [List.getElem?_map, Option.map_eq_some_iff] at hs
 obtain ⟨s', hs', rfl⟩ := hs
 exact (h.2 i v s' hv hs').sh hm
theorem RelE.sh (hm : MAt b Mc M) {v : Value} {x : E} (h : RelE w I Mc v x) : RelE w I M v (x.sh b) := by
 cases x with
 | sc s => exact RelS.sh hm h
 | agg l => obtain ⟨cs, h1, h2⟩ := h; exact ⟨cs, h1, h2.sh hm⟩
theorem RelV.sh (hm : MAt b Mc M) {v : Value} {x : V} (h : RelV w I Mc v x) : RelV w I M v (x.sh b) := by
 cases x with
 | e x => exact RelE.sh hm h
 | tup l =>
   obtain ⟨vs, h1, h2, h3⟩ := h
   refine ⟨vs, h1, by simpa using h2, fun i u x hu hx => ?_⟩
   simp only [List.getElem?_map, Option.map_eq_some_iff] at hx
   obtain ⟨x', hx', rfl⟩ := hx
   exact (h3 i u x' hu hx').sh hm
theorem ObjOK.sh (hm : MAt b Mc M) {e : ME} {obj : Obj} (h : ObjOK w I Mc e obj) : ObjOK w I M e (obj.sh b) := by
 cases obj with
 | fwd x => exact RelS.sh hm (s := x) h
 | box cells => obtain ⟨cs, t, h1, h2⟩ := h; exact ⟨cs, t, h1, h2.sh hm⟩
 | arr s elems => exact h
 | mat s rows => exact h
 | part s rows i x => exact h
theorem fpE_sh (e : ME) (obj : Obj) : fpE e (obj.sh b) = fpE e obj := by cases obj <;> rfl
end
def putNew (h:Heap) (b:Nat) : List (Option Obj) → Heap
 | [] => h
 | x :: l => putNew (h.set b x) (b + 1) l
def putNewM (M:Mem) (b:Nat) : List (Option ME) → Mem
 | [] => M
 | x :: l => putNewM (M.set b x) (b + 1) l
theorem putNew_length : ∀ (l : List (Option Obj)) (h:Heap) (b:Nat), (putNew h b l).length = h.length
 | [], _, _ => rfl
 | x :: l, h, b => by simp [putNew, putNew_length l]
theorem putNewM_length : ∀ (l : List (Option ME)) (h:Mem) (b:Nat), (putNewM h b l).length = h.length
 | [], _, _ => rfl
 | x :: l, h, b => by simp [putNewM, putNewM_length l]
theorem putNew_get : ∀ (l : List (Option Obj)) (h:Heap) (b o:Nat), b + l.length ≤ h.length → (putNew h b l)[o]? = if b ≤ o ∧ o < b + l.length then l[o - b]? else h[o]?
 | [], h, b, o, _ => by
   simp only [putNew, List.length_nil]
   rw [if_neg (by omega)]
 | x :: l, h, b, o, hl => by
   simp only [List.length_cons] at hl
   rw [putNew, putNew_get l _ _ _ (by simp; omega)]
   by_cases h1 : b + 1 ≤ o ∧ o < b + 1 + l.length
   · rw [if_pos h1, if_pos (by simp; omega), show o - b = (o - (b + 1)) + 1 by omega]; simp
   · rw [if_neg h1]
     by_cases h2 : o = b
     · subst h2
       rw [if_pos (by simp)]
       have : o < h.length := by omega
       simp [this]
     · rw [List.getElem?_set_ne (Ne.symm h2), if_neg (by simp; omega)]
theorem putNewM_get : ∀ (l : List (Option ME)) (h:Mem) (b o:Nat), b + l.length ≤ h.length → (putNewM h b l)[o]? = if b ≤ o ∧ o < b + l.length then l[o - b]? else h[o]?
 | [], h, b, o, _ => by
   simp only [putNewM, List.length_nil]
   rw [if_neg (by omega)]
 | x :: l, h, b, o, hl => by
   simp only [List.length_cons] at hl
   rw [putNewM, putNewM_get l _ _ _ (by simp; omega)]
   by_cases h1 : b + 1 ≤ o ∧ o < b + 1 + l.length
   · rw [if_pos h1, if_pos (by simp; omega), show o - b = (o - (b + 1)) + 1 by omega]; simp
   · rw [if_neg h1]
     by_cases h2 : o = b
     · subst h2
       rw [if_pos (by simp)]
       have : o < h.length := by omega
       simp [this]
     · rw [List.getElem?_set_ne (Ne.symm h2), if_neg (by simp; omega)]
theorem Eff.call {I:Nat → Prop} {M : Mem} {h : Heap} {w : World} (s : SimH I M h w) {b : Nat} {I':Nat → Prop} {Mc : Mem} {hc : Heap} {w' : World}
   (hres : ∀ j, j < hc.length → M[b + j]? = some none) (hb : b + hc.length ≤ h.length) (sc : SimH I' Mc hc w') (hext : Ext (fun _ => False) I w I' w') (hfp : ∀ k, fpAll Mc hc k → w.heap.size ≤ k) :
   Eff ((List.range hc.length).map (b + ·)) I M h w I' (putNewM M b Mc) (putNew h b (hc.map fun x => x.map (Obj.sh b))) w' ∧ MAt b Mc (putNewM M b Mc) := by
 have hcl := sc.len
 have hMl : b + Mc.length ≤ M.length := by rw [hcl, s.len]; exact hb
 have hin : ∀ o, o ∈ (List.range hc.length).map (b + ·) ↔ b ≤ o ∧ o < b + hc.length := fun o => by
   simp only [List.mem_map, List.mem_range]
   constructor
   · rintro ⟨j, hj, rfl⟩; omega
   · rintro ⟨h1, h2⟩; exact ⟨o - b, by omega, by omega⟩
 have hMget : ∀ o, (putNewM M b Mc)[o]? = if b ≤ o ∧ o < b + Mc.length then Mc[o - b]? else M[o]? := fun o => putNewM_get _ _ _ _ hMl
 have hHget : ∀ o, (putNew h b (hc.map fun x => x.map (Obj.sh b)))[o]? = if b ≤ o ∧ o < b + hc.length then (hc[o - b]?).map (fun x => x.map (Obj.sh b)) else h[o]? := fun o => by
   rw [putNew_get _ _ _ _ (by simpa using hb)]; simp
 have hmat : MAt b Mc (putNewM M b Mc) := fun o e he => by
   have ho : o < Mc.length := by
     rcases Nat.lt_or_ge o Mc.length with hl | hl
     · exact hl
     · rw [List.getElem?_eq_none hl] at he; simp at he
   rw [hMget, if_pos (by omega), show b + o - b = o by omega]; exact he
 have hfpc : ∀ j, j < hc.length → fpAt (putNewM M b Mc) (putNew h b (hc.map fun x => x.map (Obj.sh b))) (b + j) = fpAt Mc hc j := fun j hj => by
   simp only [fpAt]
   rw [hMget, hHget, if_pos (by omega), if_pos (by omega), show b + j - b = j by omega]
   cases h1 : hc[j]? with
   | none => simp
   | some x =>
     cases x with
     | none => simp
     | some obj =>
       simp only [Option.map_some]
       cases h2 : Mc[j]? with
       | none => rfl
       | some m => cases m with
         | none => rfl
         | some m => simp only [fpE_sh]
 refine ⟨⟨by rw [putNewM_length], by rw [putNew_length], fun o e he => ?_, fun o ho => ?_, fun o ho => ?_, hext.os, hext.tape, hext.output, hext.size, fun k hk _ => hext.heap k hk (fun h => h), hext.imm, fun k hk => ⟨(sc.imm k hk).1, ?_⟩,
   fun o ho obj hobj => ?_, fun o1 o2 k h1 h2 k1 k2 => ?_, fun o ho => ?_, fun o k ho hk => ?_⟩, hmat⟩
 · rw [hMget]
   split
   · rename_i hr
     have := hres (o - b) (by omega)
     rw [show b + (o - b) = o by omega, he] at this; simp at this
   · exact he
 · rw [hin] at ho; rw [hMget, if_neg (by omega)]
 · rw [hin] at ho; rw [hHget, if_neg (by omega)]
 · rcases hext.immNew k hk with h1 | h1 | h1
   · exact .inl h1
   · refine .inr ⟨.inl h1, fun o ho => ?_⟩
     rw [hin] at ho
     rw [show o = b + (o - b) by omega, hfpc _ (by omega)]
     exact (sc.imm k hk).2 _
   · exact h1.elim
 · rw [hin] at ho
   rw [hHget, if_pos ho] at hobj
   simp only [Option.map_eq_some_iff] at hobj
   obtain ⟨x, hx, hxo⟩ := hobj
   obtain ⟨obj', rfl, rfl⟩ := hxo
   obtain ⟨e, he, hok⟩ := sc.obj _ _ hx
   exact ⟨e, by rw [hMget, if_pos (by omega)]; exact he, hok.sh hmat⟩
 · rw [hin] at h1 h2
   rw [show o1 = b + (o1 - b) by omega, hfpc _ (by omega)] at k1
   rw [show o2 = b + (o2 - b) by omega, hfpc _ (by omega)] at k2
   have := sc.disj _ _ k k1 k2
   omega
 · rw [hin] at ho
   rw [show o = b + (o - b) by omega, hfpc _ (by omega)]
   exact sc.nd _
 · rw [hin] at ho
   rw [show o = b + (o - b) by omega, hfpc _ (by omega)] at hk
   exact ⟨sc.lt _ _ hk, .inl (hfp k ⟨_, hk⟩)⟩
end Go.AM
/- The abstract machine: an object becomes data: what it reads as; the same inside a region, for an operation's result. -/
namespace Go.AM
def matD (rows : DLL) : DL := rows.map fun r => [.sl r]
section
variable {w : World} {I I':Nat → Prop} {M M' : Mem}
theorem fd_ref {e : ME} {obj : Obj} (hok : ObjOK w I M e obj) (hi : ∀ b, I b → I' b) (hf : ∀ b ∈ fpE e obj, I' b) : (∀ s el, obj = .arr s el → Reads w I' e.val (.sl el)) ∧
   (∀ s r, obj = .mat s r → Reads w I' e.val (.sl (matD r)) ∧ ∀ (k:Nat) v, e.rows[k]? = some v → Reads w I' v (.sl (r.getD k []))) := by
 refine ⟨fun s el ho => ?_, fun s r ho => ?_⟩
 · subst ho
   obtain ⟨h1, h2, h0, hh⟩ := hok
   cases hn : e.nil with
   | true => rw [h0 hn]; simp only [ME.val, hn, if_true]; exact .slnil _ _
   | false =>
     obtain ⟨h3, cs, t, h4, h5, h6, h7⟩ := hh hn
     simp only [ME.val, hn, Bool.false_eq_true, if_false]
     rw [h2]
     refine .sl (t := t) (fr := (0, 0)) (cs := cs) el (fun i j => (cs[i * s + j]?).getD undef) (hf _ (by simp [fpE, hn])) h4 h6 (h2 ▸ h3) (fun i j d hd => ?_) (fun i j d hd => ?_)
     · obtain ⟨v, p, _⟩ := h7 i j d hd; rw [Nat.zero_add, p]; rfl
     · obtain ⟨v, p, q⟩ := h7 i j d hd; rw [p]; exact q.mono (fun _ _ => rfl) hi
 · subst ho
   obtain ⟨h1, h2, h4, h0, hh⟩ := hok
   have hrow : ∀ (k:Nat) v, e.rows[k]? = some v → Reads w I' v (.sl (r.getD k [])) := fun k v hv => by
     have hk : k < r.length := by
       rw [← h4]
       rcases Nat.lt_or_ge k e.rows.length with h | h
       · exact h
       · rw [List.getElem?_eq_none h] at hv; simp at hv
     have hnil : e.nil = false := e.nil_of fun h => by rw [h0 h] at hk; simp at hk
     obtain ⟨h3, cs, t, h5, h6, h7, h8⟩ := hh hnil
     have hg : r.getD k [] = r[k] := by simp [hk]
     rw [hg]
     obtain ⟨a, cap, rfl, hne⟩ := (h8 k v _ hv (List.getElem?_eq_getElem hk)).ne
     by_cases hemp : r[k] = []
     · rw [hemp]; exact .slnil _ _
     · obtain ⟨b, rcs, rt, rfl, hb, g1, g2, g3, g4⟩ := hne hemp
       refine .sl (t := rt) (fr := (0, 0)) (cs := rcs) _ (fun i j => (rcs[i * s + j]?).getD undef) (hf _ ?_) hb g3 g2 (fun i j d hd => ?_) (fun i j d hd => ?_)
       · simp only [fpE, hnil, Bool.false_eq_true, if_false, List.mem_cons, List.mem_flatMap]
         refine .inr ⟨_, List.mem_of_getElem? hv, ?_⟩
         simp [rowBlk]
       · obtain ⟨v, p, _⟩ := g4 i j d hd; rw [Nat.zero_add, p]; rfl
       · obtain ⟨v, p, q⟩ := g4 i j d hd; rw [p]; exact q.mono (fun _ _ => rfl) hi
   refine ⟨?_, hrow⟩
   cases hn : e.nil with
   | true => rw [h0 hn]; simp only [ME.val, hn, if_true, matD, List.map_nil]; exact .slnil _ _
   | false =>
     obtain ⟨h3, cs, t, h5, h6, h7, h8⟩ := hh hn
     simp only [ME.val, hn, Bool.false_eq_true, if_false]
     have hml : (matD r).length = e.n := by simp [matD, h2]
     rw [← hml]
     have hat : ∀ i j d, at2 (matD r) i j = some d → j = 0 ∧ i < r.length ∧ d = .sl (r.getD i []) := fun i j d hd => by
       simp only [at2, matD, List.getElem?_map, Option.bind_eq_some_iff, Option.map_eq_some_iff] at hd
       obtain ⟨x, ⟨y, hy, rfl⟩, hd⟩ := hd
       match j, hd with
       | 0, hd =>
         simp only [List.getElem?_cons_zero, Option.some.injEq] at hd
         refine ⟨rfl, ?_, ?_⟩
         · rcases Nat.lt_or_ge i r.length with h | h
           · exact h
           · rw [List.getElem?_eq_none h] at hy; simp at hy
         · subst hd; simp [List.getD, hy]
       | j + 1, hd => simp at hd
     have hlt : ∀ i, i < r.length → e.rows[i]? = some ((e.rows[i]?).getD undef) := fun i hi => by
       have : i < e.rows.length := by omega
       simp [this]
     refine .sl (s := 1) (t := t) (fr := (0, 0)) (cs := cs) _ (fun i _ => (e.rows[i]?).getD undef) (hf _ (by simp [fpE, hn])) h5 (fun x hx => ?_) (by rw [hml]; exact h3) (fun i j d hd => ?_) (fun i j d hd => ?_)
     · simp only [matD, List.mem_map] at hx; obtain ⟨y, _, rfl⟩ := hx; rfl
     · obtain ⟨rfl, hi, rfl⟩ := hat i j d hd
       rw [Nat.zero_add, Nat.mul_one, Nat.add_zero]
       exact h7 i _ (hlt i hi)
     · obtain ⟨rfl, hi, rfl⟩ := hat i j d hd
       exact hrow i _ (hlt i hi)
theorem fpAt_set_none {h : Heap} {o : Nat} (o':Nat) : ∀ b, b ∈ fpAt M (h.set o none) o' → o' ≠ o ∧ b ∈ fpAt M h o' := fun b hb => by
 by_cases he : o' = o
 · subst he
   exfalso
   unfold fpAt at hb
   rw [List.getElem?_set] at hb
   simp only [if_true] at hb
   by_cases hl : o' < h.length
   · rw [if_pos hl] at hb; simp at hb
   · rw [if_neg hl] at hb; simp at hb
 · refine ⟨he, ?_⟩
   unfold fpAt at hb ⊢
   rwa [List.getElem?_set_ne (Ne.symm he)] at hb
theorem Eff.frzRes {ids : List Nat} {h : Heap} {w0 : World} {I0:Nat → Prop} {M0 : Mem} {h' : Heap} (e : Eff ids I0 M0 h w0 I M h' w) {o s : Nat} {el : DL} (ho : o ∈ ids) (hobj : h'[o]? = some (some (.arr s el)))
   {v : Value} (hr : RelV w I M v (.e (.sc (.ref o)))) : ∃ I', Eff ids I0 M0 h w0 I' M (h'.set o none) w ∧ RelV w I' M v (.e (.sc (.dat (.sl el)))) := by
 obtain ⟨m, hm, hv⟩ := hr
 obtain ⟨m', hm', hok⟩ := e.obj o ho _ hobj
 rw [hm] at hm'; simp only [Option.some.injEq] at hm'; subst hm'
 have hfp : fpAt M h' o = fpE m (.arr s el) := by simp only [fpAt, hobj, hm]
 refine ⟨fun b => I b ∨ b ∈ fpAt M h' o, ⟨e.len, by rw [List.length_set]; exact e.hlen, e.mono, e.keepM, fun o' ho' => ?_, e.os, e.tape, e.output, e.size, e.heap, fun b hb => .inl (e.imm b hb), fun b hb => ?_, fun o' ho' obj hobj' => ?_,
   fun o1 o2 b i1 i2 h1 h2 => e.disj o1 o2 b i1 i2 (fpAt_set_none o1 b h1).2 (fpAt_set_none o2 b h2).2, fun o' ho' => ?_, fun o' b ho' hb => e.lt o' b ho' (fpAt_set_none o' b hb).2⟩, ?_⟩
 · have : o' ≠ o := fun h => ho' (h ▸ ho)
   rw [List.getElem?_set_ne (Ne.symm this)]; exact e.keepH o' ho'
 · rcases hb with hb | hb
   · obtain ⟨h1, h2⟩ := e.immNew b hb
     refine ⟨h1, h2.imp id fun ⟨h3, h4⟩ => ⟨h3, fun o' ho' hb' => h4 o' ho' (fpAt_set_none o' b hb').2⟩⟩
   · obtain ⟨h1, h2⟩ := e.lt o b ho hb
     refine ⟨h1, .inr ⟨h2, fun o' ho' hb' => ?_⟩⟩
     obtain ⟨h3, h4⟩ := fpAt_set_none o' b hb'
     exact h3 (e.disj o' o b ho' ho h4 hb)
 · by_cases he : o' = o
   · subst he
     rw [List.getElem?_set] at hobj'
     simp only [if_true] at hobj'
     split at hobj' <;> simp at hobj'
   · rw [List.getElem?_set_ne (Ne.symm he)] at hobj'
     obtain ⟨m2, g1, g2⟩ := e.obj o' ho' obj hobj'
     exact ⟨m2, g1, g2.mono (fun _ _ => rfl) (fun _ h => .inl h) (fun _ _ h => h) (fun _ _ => rfl)⟩
 · by_cases he : o' = o
   · subst he
     have : fpAt M (h'.set o' none) o' = [] := by
       apply List.eq_nil_iff_forall_not_mem.2
       intro b hb
       exact (fpAt_set_none o' b hb).1 rfl
     rw [this]; exact List.nodup_nil
   · have : fpAt M (h'.set o none) o' = fpAt M h' o' := by unfold fpAt; rw [List.getElem?_set_ne (Ne.symm he)]
     rw [this]; exact e.nd o' ho'
 · show Reads w _ v (.sl el)
   rw [hv]
   exact (fd_ref hok (fun b hb => .inl hb) (fun b hb => .inr (by rw [hfp]; exact hb))).1 _ _ rfl
def frzRes (x:V × Heap × List Nat × List Prop) : Option (V × Heap × List Nat × List Prop) :=
 match x with
 | (.e (.sc (.ref o)), h, ids, obs) => match h[o]? with
   | some (some (.arr _ el)) => if ids.contains o then some (.e (.sc (.dat (.sl el))), h.set o none, ids, obs) else none
   | _ => none
 | _ => none
theorem frzRes_ok {r r2 : V} {h1 h2 : Heap} {ids ids2 : List Nat} {obs obs2 : List Prop} (hx : frzRes (r, h1, ids, obs) = some (r2, h2, ids2, obs2)) : ids2 = ids ∧ obs2 = obs ∧
   ∀ {h : Heap} {w0 : World} {I0:Nat → Prop} {M0 : Mem} {v : Value}, Eff ids I0 M0 h w0 I M h1 w → RelV w I M v r → ∃ I', Eff ids I0 M0 h w0 I' M h2 w ∧ RelV w I' M v r2 := by
 unfold frzRes at hx
 split at hx
 case h_2 => simp at hx
 rename_i o h' ids' obs' heq
 simp only [Prod.mk.injEq] at heq
 obtain ⟨rfl, rfl, rfl, rfl⟩ := heq
 split at hx
 case h_2 => simp at hx
 rename_i s el hobj
 split at hx
 case isFalse => simp at hx
 rename_i hc
 simp only [Option.some.injEq, Prod.mk.injEq] at hx
 obtain ⟨rfl, rfl, rfl, rfl⟩ := hx
 exact ⟨rfl, rfl, fun e hr => e.frzRes (by simpa using hc) hobj hr⟩
end
end Go.AM
