/- From what a row's step is handed to what the machine reads: inputs of any form that is made of bools, integers, slices, structs and arrays. -/
import Derived.Test.YtipnbapgfbghgaaGreatL2
import Derived.ChangeSlices
import Derived.OpenShut
import Derived.RowKit
import Derived.WideShapes
namespace Go.AM
open Go.ChangeShapes Go.WideShapes Go.RowKit
inductive Sp where
  | b
  | i (k : IntKind)
  | sl (e : List Sp)
mutual
def DOK : Sp → D → Prop
  | .b, .bool _ => True
  | .i k, .int k' n => k' = k ∧ k.min ≤ n ∧ n ≤ k.max
  | .sl es, .sl l => l.length ≤ 9223372036854775807 ∧ ∀ x ∈ l, DOKL es x
  | _, _ => False
def DOKL : List Sp → List D → Prop
  | [], [] => True
  | s :: ss, d :: ds => DOK s d ∧ DOKL ss ds
  | _, _ => False
end
def exD : Sp → (D → Prop) → Prop
  | .b, K => ∃ b, K (.bool b)
  | .i k, K => ∃ n, (k.min ≤ n ∧ n ≤ k.max) ∧ K (.int k n)
  | .sl es, K => ∃ l, (l.length ≤ 9223372036854775807 ∧ ∀ x ∈ l, DOKL es x) ∧ K (.sl l)
def exDL : List Sp → (List D → Prop) → Prop
  | [], K => K []
  | s :: ss, K => exD s fun d => exDL ss fun ds => K (d :: ds)
theorem exD_of {s : Sp} {d : D} (h : DOK s d) {K : D → Prop} (hk : K d) : exD s K := by
  cases s <;> cases d <;> simp only [DOK] at h <;> first | exact h.elim | skip
  · exact ⟨_, hk⟩
  · obtain ⟨rfl, h1, h2⟩ := h; exact ⟨_, ⟨h1, h2⟩, hk⟩
  · exact ⟨_, h, hk⟩
theorem exDL_of : ∀ {ss : List Sp} {ds : List D}, DOKL ss ds → ∀ {K : List D → Prop}, K ds → exDL ss K
  | [], [], _, _, hk => hk
  | [], _ :: _, h, _, _ => by simp [DOKL] at h
  | _ :: _, [], h, _, _ => by simp [DOKL] at h
  | s :: ss, d :: ds, h, K, hk => by
    simp only [DOKL] at h
    exact exD_of h.1 (exDL_of h.2 hk)
theorem DOKL_append : ∀ {s1 s2 : List Sp} {d1 d2 : List D}, DOKL s1 d1 → DOKL s2 d2 → DOKL (s1 ++ s2) (d1 ++ d2)
  | [], _, [], _, _, h => h
  | [], _, _ :: _, _, h, _ => by simp [DOKL] at h
  | _ :: _, _, [], _, h, _ => by simp [DOKL] at h
  | s :: ss, _, d :: ds, _, h1, h2 => by
    simp only [DOKL] at h1
    simp only [List.cons_append, DOKL]
    exact ⟨h1.1, DOKL_append h1.2 h2⟩
theorem DOKL_length : ∀ {ss : List Sp} {ds : List D}, DOKL ss ds → ds.length = ss.length
  | [], [], _ => rfl
  | [], _ :: _, h => by simp [DOKL] at h
  | _ :: _, [], h => by simp [DOKL] at h
  | s :: ss, d :: ds, h => by simp only [DOKL] at h; simp [DOKL_length h.2]
theorem ints_of {k : IntKind} : ∀ {l : List (List D)}, (∀ x ∈ l, DOKL [.i k] x) → ∃ zs : List Int, l = zs.map (fun n => [D.int k n]) ∧ ∀ z ∈ zs, k.min ≤ z ∧ z ≤ k.max
  | [], _ => ⟨[], rfl, fun _ h => by simp at h⟩
  | x :: l, h => by
    obtain ⟨zs, rfl, h2⟩ := ints_of (l := l) fun y hy => h y (by simp [hy])
    obtain ⟨n, h3, hx⟩ := exDL_of (h x (by simp)) (K := fun ds => x = ds) rfl
    exact ⟨n :: zs, by rw [hx]; rfl, fun z hz => by
      rcases List.mem_cons.1 hz with rfl | hz
      · exact h3
      · exact h2 z hz⟩
def shapeFs (sh : TypeId → Option (List Sp)) (P : Program) : List Field → Nat → Option (List Sp)
  | [], _ => some []
  | f :: fs, off =>
    match sh f.type with
    | some s => if f.offset == off && P.cellsOf f.type == s.length then (shapeFs sh P fs (off + s.length)).map (s ++ ·) else none
    | none => none
def shapeOf (P : Program) : Nat → TypeId → Option (List Sp)
  | 0, _ => none
  | n + 1, t =>
    match P.underlying t with
    | some .bool => some [.b]
    | some (.int k) => some [.i k]
    | some (.slice e) => match shapeOf P n e with
      | some es => if P.cellsOf e == es.length && !es.isEmpty then some [.sl es] else none
      | none => none
    | some (.struct fs) => match shapeFs (shapeOf P n) P fs.toList 0 with
      | some ss => if P.cellsOf t == ss.length then some ss else none
      | none => none
    | some (.array m e) => match shapeOf P n e with
      | some es => if P.cellsOf e == es.length && P.cellsOf t == m * es.length then some (List.replicate m es).flatten else none
      | none => none
    | _ => none
theorem cell_some' {w : World} {a : Addr} {v : Value} (h : w.cell? a = some v) : a.spot = none ∧ ∃ cs t fr, w.heap[a.block]? = some (.cells cs t fr) ∧ cs[a.off]? = some v := by
  unfold World.cell? at h
  split at h
  · rename_i cs t fr hb
    cases hs : a.spot with
    | none => rw [hs] at h; exact ⟨rfl, cs, t, fr, hb, by simpa using h⟩
    | some x => rw [hs] at h; simp at h
  · simp at h
def oldI (w : World) : Nat → Prop := fun b => b < w.heap.size
def RdL (w : World) (cs : List Value) (ds : List D) : Prop := cs.length = ds.length ∧ ∀ (i : Nat) v d, cs[i]? = some v → ds[i]? = some d → Reads w (oldI w) v d
theorem RdL.append {w : World} {c1 c2 : List Value} {d1 d2 : List D} (h1 : RdL w c1 d1) (h2 : RdL w c2 d2) : RdL w (c1 ++ c2) (d1 ++ d2) := by
  refine ⟨by simp [h1.1, h2.1], fun i v d hv hd => ?_⟩
  by_cases hi : i < c1.length
  · rw [List.getElem?_append_left hi] at hv
    rw [List.getElem?_append_left (h1.1 ▸ hi)] at hd
    exact h1.2 i v d hv hd
  · rw [List.getElem?_append_right (by omega)] at hv
    rw [List.getElem?_append_right (by have := h1.1; omega)] at hd
    exact h2.2 _ v d hv (h1.1 ▸ hd)
section
variable {H : Type} {enc : TypeId × Value → H} {P : Program} {w : World} {spare : Nat → Bool} {held : Bool}
theorem fields_read {sh : TypeId → Option (List Sp)} {n : Nat} (ih : ∀ t ss cs x, sh t = some ss → DataW.trod enc P w 0 spare held n t cs = some x → ∃ ds, DOKL ss ds ∧ RdL w cs ds) {cs : List Value} :
    ∀ (fs : List Field) (xs : List (DataW H × List MemPlace)) (off : Nat) (ss : List Sp), shapeFs sh P fs off = some ss → xs.length = fs.length →
      (∀ (i : Nat) (f : Field), fs[i]? = some f → DataW.trod enc P w 0 spare held n f.type ((cs.drop f.offset).take (P.cellsOf f.type)) = xs[i]?) → off + ss.length ≤ cs.length →
      ∃ ds, DOKL ss ds ∧ RdL w ((cs.drop off).take ss.length) ds
  | [], xs, off, ss, hs, _, _, _ => by
    simp only [shapeFs, Option.some.injEq] at hs; subst hs
    exact ⟨[], trivial, by simp [RdL]⟩
  | f :: fs, xs, off, ss, hs, hl, hx, hle => by
    simp only [shapeFs] at hs
    split at hs
    case h_2 => simp at hs
    rename_i s hsf
    split at hs
    case isFalse => simp at hs
    rename_i hc
    simp only [Bool.and_eq_true, beq_iff_eq] at hc
    simp only [Option.map_eq_some_iff] at hs
    obtain ⟨ss', hs', rfl⟩ := hs
    match xs, hl with
    | x :: xs, hl =>
      have h0 := hx 0 f rfl
      simp only [List.getElem?_cons_zero] at h0
      obtain ⟨d1, g1, g2⟩ := ih _ _ _ _ hsf h0
      rw [List.length_append] at hle
      obtain ⟨d2, g3, g4⟩ := fields_read ih fs xs (off + s.length) ss' hs' (by simpa using hl) (fun i f' hf => by simpa using hx (i + 1) f' (by simpa using hf)) (by omega)
      refine ⟨d1 ++ d2, DOKL_append g1 g3, ?_⟩
      rw [hc.1, hc.2] at g2
      have : (cs.drop off).take (s ++ ss').length = (cs.drop off).take s.length ++ (cs.drop (off + s.length)).take ss'.length := by
        rw [List.length_append, List.take_add, List.drop_drop]
      rw [this]
      exact g2.append g4
theorem array_read {n : Nat} {e : TypeId} {es : List Sp} (ih : ∀ cs x, DataW.trod enc P w 0 spare held n e cs = some x → ∃ ds, DOKL es ds ∧ RdL w cs ds) {cs : List Value} {xs : List (DataW H × List MemPlace)} :
    ∀ (k m : Nat), k + m ≤ xs.length → (∀ i, i < xs.length → DataW.trod enc P w 0 spare held n e ((cs.drop (i * es.length)).take es.length) = xs[i]?) → (k + m) * es.length ≤ cs.length →
      ∃ ds, DOKL (List.replicate k es).flatten ds ∧ RdL w ((cs.drop (m * es.length)).take (k * es.length)) ds
  | 0, m, _, _, _ => ⟨[], by simp [DOKL], by simp [RdL]⟩
  | k + 1, m, hk, hx, hle => by
    have h0 := hx m (by omega)
    rw [List.getElem?_eq_getElem (by omega)] at h0
    obtain ⟨d1, g1, g2⟩ := ih _ _ h0
    obtain ⟨d2, g3, g4⟩ := array_read ih k (m + 1) (by omega) hx (by rw [show k + (m + 1) = k + 1 + m by omega]; exact hle)
    refine ⟨d1 ++ d2, ?_, ?_⟩
    · rw [List.replicate_succ, List.flatten_cons]; exact DOKL_append g1 g3
    · have : (cs.drop (m * es.length)).take ((k + 1) * es.length) = (cs.drop (m * es.length)).take es.length ++ (cs.drop ((m + 1) * es.length)).take (k * es.length) := by
        rw [show (k + 1) * es.length = es.length + k * es.length by rw [Nat.add_mul]; omega, List.take_add, List.drop_drop, show m * es.length + es.length = (m + 1) * es.length by rw [Nat.add_mul]; omega]
      rw [this]
      exact g2.append g4
theorem shape_reads : ∀ (fuel n : Nat) (t : TypeId) (ss : List Sp) (cs : List Value) (x : DataW H × List MemPlace), shapeOf P n t = some ss → DataW.trod enc P w 0 spare held fuel t cs = some x →
    ∃ ds, DOKL ss ds ∧ RdL w cs ds := by
  intro fuel
  induction fuel with
  | zero => intro n t ss cs x _ h; simp [DataW.trod] at h
  | succ fuel ih =>
    intro n t ss cs x hs h
    cases n with
    | zero => simp [shapeOf] at hs
    | succ n =>
      simp only [shapeOf] at hs
      have one : ∀ {v : Value} {d : D} {s : Sp}, DOK s d → Reads w (oldI w) v d → ∃ ds, DOKL [s] ds ∧ RdL w [v] ds := fun {v d s} h1 h2 =>
        ⟨[d], ⟨h1, trivial⟩, rfl, fun i u e hu he => by
          match i, hu, he with
          | 0, hu, he => simp at hu he; subst hu; subst he; exact h2⟩
      split at hs
      · rename_i ht
        simp only [Option.some.injEq] at hs; subst hs
        obtain ⟨b, rfl, _⟩ := DataW.trod_bool ht h
        exact one (d := .bool b) trivial (.bool b)
      · rename_i k ht
        simp only [Option.some.injEq] at hs; subst hs
        obtain ⟨m, rfl, _, hw⟩ := DataW.trod_int ht h
        exact one (d := .int k m) ⟨rfl, by simpa [Lit.wf] using hw⟩ (.int k m)
      · rename_i e ht
        split at hs
        case h_2 => simp at hs
        rename_i es hes
        split at hs
        case isFalse => simp at hs
        rename_i hc
        simp only [Option.some.injEq] at hs; subst hs
        simp only [Bool.and_eq_true, beq_iff_eq, Bool.not_eq_true', List.isEmpty_eq_false_iff] at hc
        obtain ⟨hce, hne⟩ := hc
        have hpos : 0 < es.length := List.length_pos_iff.2 hne
        rcases DataW.trod_slice ht h with ⟨rfl, _⟩ | ⟨a, len, cap, elems, rest, m, hm, rfl, _, _, hl, hcap, hel, heach, _, _⟩
        · exact one (d := .sl []) ⟨by simp, fun _ h => by simp at h⟩ (.slnil none 0)
        simp only [Nat.add_right_cancel_iff] at hm; subst hm
        have each : ∀ i, i < len → ∃ ds, DOKL es ds ∧ ∀ j d, ds[j]? = some d → ∃ v, w.cell? ((a.add (i * es.length)).add j) = some v ∧ Reads w (oldI w) v d := fun i hi => by
          have h1 := heach i hi
          rw [List.getElem?_eq_getElem (by omega), Option.bind_eq_some_iff] at h1
          obtain ⟨cs', hcs, hy⟩ := h1
          obtain ⟨ds, g1, g2, g3⟩ := ih n e es cs' _ hes hy
          obtain ⟨_, k2, k3⟩ := World.cells?_some hcs
          refine ⟨ds, g1, fun j d hd => ?_⟩
          have hj : j < cs'.length := by
            rw [g2]
            rcases Nat.lt_or_ge j ds.length with h | h
            · exact h
            · rw [List.getElem?_eq_none h] at hd; simp at hd
          have := k3 j (by omega)
          rw [List.getElem?_eq_getElem hj, hce] at this
          exact ⟨_, this, g3 j _ d (List.getElem?_eq_getElem hj) hd⟩
        by_cases h0 : len = 0
        · subst h0; exact one (d := .sl []) ⟨by simp, fun _ h => by simp at h⟩ (.slnil _ _)
        have hch : ∃ f : Nat → List D, ∀ i, i < len → DOKL es (f i) ∧ ∀ j d, (f i)[j]? = some d → ∃ v, w.cell? ((a.add (i * es.length)).add j) = some v ∧ Reads w (oldI w) v d :=
          ⟨fun i => if hi : i < len then (each i hi).choose else [], fun i hi => by
            simp only [dif_pos hi]; exact (each i hi).choose_spec⟩
        obtain ⟨f, hf⟩ := hch
        have hcell : ∀ i j d, i < len → (f i)[j]? = some d → ∃ b off cs ty fr, a = ⟨b, off, none⟩ ∧ w.heap[b]? = some (.cells cs ty fr) ∧ ∃ v, cs[off + i * es.length + j]? = some v ∧ Reads w (oldI w) v d := fun i j d hi hd => by
          obtain ⟨v, hv, hr⟩ := (hf i hi).2 j d hd
          have h00 : ∃ v, w.cell? a = some v := by
            have hl0 := DOKL_length (hf 0 (by omega)).1
            obtain ⟨v, hv, _⟩ := (hf 0 (by omega)).2 0 ((f 0)[0]'(by omega)) (List.getElem?_eq_getElem (by omega))
            exact ⟨v, by simpa [Addr.add] using hv⟩
          obtain ⟨v0, hv0⟩ := h00
          obtain ⟨hsp, cs, ty, fr, hb, _⟩ := cell_some' hv0
          obtain ⟨b, off, spot⟩ := a
          simp only at hsp hb
          subst hsp
          refine ⟨b, off, cs, ty, fr, rfl, hb, v, ?_, hr⟩
          rw [show ((Addr.mk b off none).add (i * es.length)).add j = ⟨b, off + i * es.length + j, none⟩ by
            unfold Addr.add; by_cases h1 : i * es.length = 0 <;> by_cases h2 : j = 0 <;> simp [h1, h2]] at hv
          obtain ⟨_, cs', ty', fr', hb', hc'⟩ := cell_some' hv
          simp only at hb' hc'
          rw [hb] at hb'
          simp only [Option.some.injEq, Obj.cells.injEq] at hb'
          rw [hb'.1]; exact hc'
        have h0d := DOKL_length (hf 0 (by omega)).1
        obtain ⟨b, off, cs, ty, fr, ha, hb, _⟩ := hcell 0 0 ((f 0)[0]'(by omega)) (by omega) (List.getElem?_eq_getElem (by omega))
        subst ha
        have hlt : b < w.heap.size := by
          rcases Nat.lt_or_ge b w.heap.size with h | h
          · exact h
          · rw [Array.getElem?_eq_none h] at hb; simp at hb
        have hat : ∀ i j d, at2 ((List.range len).map f) i j = some d → i < len ∧ (f i)[j]? = some d := fun i j d hd => by
          simp only [at2, List.getElem?_map, Option.bind_eq_some_iff, Option.map_eq_some_iff] at hd
          obtain ⟨y, ⟨k, hk, rfl⟩, hd⟩ := hd
          have hkl : k = i ∧ i < len := by
            rcases Nat.lt_or_ge i len with h | h
            · rw [List.getElem?_range h, Option.some.injEq] at hk; exact ⟨hk.symm, h⟩
            · rw [List.getElem?_eq_none (by simpa using h)] at hk; simp at hk
          obtain ⟨rfl, hil⟩ := hkl
          exact ⟨hil, hd⟩
        have hval : ∀ i j d, i < len → (f i)[j]? = some d → ∃ v, cs[off + i * es.length + j]? = some v ∧ Reads w (oldI w) v d := fun i j d hi hd => by
          obtain ⟨b', off', cs', ty', fr', ha', hb', v, hv, hr⟩ := hcell i j d hi hd
          simp only [Addr.mk.injEq] at ha'
          obtain ⟨rfl, rfl, _⟩ := ha'
          rw [hb] at hb'
          simp only [Option.some.injEq, Obj.cells.injEq] at hb'
          exact ⟨v, by rw [hb'.1]; exact hv, hr⟩
        have hlen : ((List.range len).map f).length = len := by simp
        refine one (d := .sl ((List.range len).map f)) ⟨by rw [hlen]; unfold maxLen at hcap; omega, fun y hy => ?_⟩ ?_
        · simp only [List.mem_map, List.mem_range] at hy
          obtain ⟨i, hi, rfl⟩ := hy
          exact (hf i hi).1
        · have := Reads.sl (w := w) (I := oldI w) (b := b) (off := off) (cap := cap) (s := es.length) (cs := cs) (t := ty) (fr := fr) ((List.range len).map f) (fun i j => (cs[off + i * es.length + j]?).getD undef) hlt hb (fun y hy => by
            simp only [List.mem_map, List.mem_range] at hy
            obtain ⟨i, hi, rfl⟩ := hy
            exact DOKL_length (hf i hi).1) (by rw [hlen]; exact hl) (fun i j d hd => by
              obtain ⟨hi, hd'⟩ := hat i j d hd
              obtain ⟨v, hv, _⟩ := hval i j d hi hd'
              rw [hv]; rfl) (fun i j d hd => by
              obtain ⟨hi, hd'⟩ := hat i j d hd
              obtain ⟨v, hv, hr⟩ := hval i j d hi hd'
              rw [hv]; exact hr)
          rw [hlen] at this; exact this
      · rename_i fs ht
        split at hs
        case h_2 => simp at hs
        rename_i ss' hss
        split at hs
        case isFalse => simp at hs
        rename_i hc
        simp only [Option.some.injEq] at hs; subst hs
        simp only [beq_iff_eq] at hc
        obtain ⟨xs, m, hm, _, hl, hxl, hf⟩ := DataW.trod_struct ht h
        simp only [Nat.add_right_cancel_iff] at hm; subst hm
        obtain ⟨ds, g1, g2⟩ := fields_read (fun t ss cs x => ih n t ss cs x) (cs := cs) fs.toList xs 0 ss' hss (by simpa using hxl) (fun i f hi => hf i f (by simpa using hi)) (by omega)
        rw [List.drop_zero, ← hc, ← hl, List.take_length] at g2
        exact ⟨ds, g1, g2⟩
      · rename_i m e ht
        split at hs
        case h_2 => simp at hs
        rename_i es hes
        split at hs
        case isFalse => simp at hs
        rename_i hc
        simp only [Option.some.injEq] at hs; subst hs
        simp only [Bool.and_eq_true, beq_iff_eq] at hc
        obtain ⟨xs, q, hq, _, hl, hxl, hf⟩ := DataW.trod_array ht h
        simp only [Nat.add_right_cancel_iff] at hq; subst hq
        obtain ⟨ds, g1, g2⟩ := array_read (fun cs x => ih n e es cs x hes) (cs := cs) (xs := xs) m 0 (by omega) (fun i hi => by have := hf i (by omega); rwa [hc.1] at this) (by rw [Nat.add_zero, ← hc.2, hl]; exact Nat.le_refl _)
        rw [Nat.zero_mul, List.drop_zero, ← hc.2, ← hl, List.take_length] at g2
        exact ⟨ds, g1, g2⟩
      · simp at hs
def aggT (P : Program) (t : TypeId) : Bool :=
  match P.underlying t with
  | some (.struct _) | some (.array _ _) => true
  | _ => false
def argOf (b : Bool) (ds : List D) : V := bif b then .e (.agg (ds.map .dat)) else .e (.sc (.dat (ds.headD default)))
theorem open_arg {n : Nat} {t : TypeId} {b : Bool} {ss : List Sp} (hs : shapeOf P n t = some ss) (ha : aggT P t = b) (h1 : ss.length = 1 ∨ b = true) {base : Nat} {v : Value} (hok : Value.okWide P w .any base t v) {d : DataW H} {p : List MemPlace} (h : DataW.Trod enc P w 0 spare held t v d p) :
    exDL ss fun ds => RelV w (oldI w) [] v (argOf b ds) := by
  obtain ⟨fuel, hf⟩ := h
  obtain ⟨ds, g1, g2, g3⟩ := shape_reads fuel n t ss _ _ hs hf
  refine exDL_of g1 ?_
  unfold aggT at ha
  have agg : ∀ {cs : Array Value}, v = .agg cs → b = true → RelV w (oldI w) [] v (argOf b ds) := fun {cs} hv hb => by
    subst hv; subst hb
    refine ⟨cs, rfl, by simpa [Value.cells] using g2, fun i u s hu hs => ?_⟩
    simp only [List.getElem?_map, Option.map_eq_some_iff] at hs
    obtain ⟨d, hd, rfl⟩ := hs
    exact g3 i u d (by simpa [Value.cells] using hu) hd
  split at ha
  · rename_i fs ht
    obtain ⟨cs, hv, _⟩ := okWide_struct ht hok
    exact agg hv ha.symm
  · rename_i m e ht
    unfold Value.okWide at hok
    rw [ht] at hok
    obtain ⟨cs, hv, _⟩ := hok
    exact agg hv ha.symm
  · rename_i hn1 hn2
    subst ha
    have hl : ds.length = 1 := by rw [DOKL_length g1]; rcases h1 with h | h; exact h; simp at h
    have hv : v.cells.toList = [v] := by
      cases n with
      | zero => simp [shapeOf] at hs
      | succ n =>
        simp only [shapeOf] at hs
        split at hs
        · rename_i ht; obtain ⟨_, rfl⟩ := okWide_bool ht hok; rfl
        · rename_i ht; obtain ⟨_, rfl⟩ := okWide_int ht hok; rfl
        · rename_i ht; obtain ⟨_, _, _, rfl⟩ := okWide_slice ht hok; rfl
        · rename_i ht; exact (hn1 _ ht).elim
        · rename_i ht; exact (hn2 _ _ ht).elim
        · simp at hs
    match ds, hl with
    | [d], _ => exact g3 0 v d (by rw [hv]; rfl) rfl
end
theorem sim_old (w : World) : SimH (oldI w) [] [] w := SimH.nil fun _ h => h
theorem law_end {P : Program} {k : FuncId} {args : List V} (hf : FnD P k args (.e (.sc (.dat (.bool true)))) []) {w : World} {vs : List Value} (hr : RelVL w (oldI w) [] vs args) :
    Calls P k vs.toArray w fun e w' => e = .returned (.bool true) ∧ Below w.heap.size w w' := by
  refine (hf.2 (oldI w) [] w vs (sim_old w) hr).mono ?_
  rintro e w' ⟨v, r, h', I', M', he, ⟨rfl, rfl⟩, hrel, _, hext, _, _⟩
  have hv := relV_bool hrel
  subst hv
  refine ⟨he, hext.os, hext.tape, hext.output, hext.size, fun k hk => hext.heap k hk ?_⟩
  rintro ⟨o, ho⟩
  simp [fpAt] at ho
theorem relVL_nil (w : World) (I : Nat → Prop) (M : Mem) : RelVL w I M [] [] := ⟨rfl, fun i v x h => by simp at h⟩
theorem relVL_cons {w : World} {I : Nat → Prop} {M : Mem} {v : Value} {x : V} {vs : List Value} {xs : List V} (h : RelV w I M v x) (t : RelVL w I M vs xs) : RelVL w I M (v :: vs) (x :: xs) :=
  ⟨by simp [t.1], fun i u y hu hy => by
    match i, hu, hy with
    | 0, hu, hy => simp at hu hy; subst hu; subst hy; exact h
    | i + 1, hu, hy => exact t.2 i u y (by simpa using hu) (by simpa using hy)⟩
end Go.AM
/- What the functions of package matrix' reference answer: sums, multiples, products, blocks, picking. -/
namespace Go.AM
open Go.Proofs.Tryz
theorem om_len {r c : Nat} {g : Nat → Nat → Int} : (om (table r c g)).length = r := by simp [om_length, table]
theorem at2_om {r c : Nat} {g : Nat → Nat → Int} {i j : Nat} (hi : i < r) (hj : j < c) : at2 (om (table r c g)) i j = some (cI (g i j)) := by
  simp [at2, om, table, hi, row, tableR, hj]
theorem sz_le {z : Int} {K : Nat} (h : z.natAbs ≤ K) (hK : K ≤ 1329227995784915872903807060280344576) : Sz z := sz_of (Nat.le_trans h (Nat.le_trans hK (by decide)))
theorem outME {r c e : Int} {m : List (List Int)} {o : List (List D)} (h : o = rows m) : Out (eME r c m e) (V.tup [(E.agg [S.dat (D.int .i64 r), S.dat (D.int .i64 c), S.dat (D.sl o)]), E.sc (S.dat (D.int .i64 e))]) [] := by subst h; exact ⟨rfl, rfl⟩
def gM (f _g : Nat → Nat → Int) (i j : Nat) (v : Int) : Nat → Nat → Int := fun a b => if a = i ∧ b = j then v else gF f i j a b
theorem gM_start {r c : Nat} {f : Nat → Nat → Int} {i j : Nat} : om (table r c (gF f i j)) = om (table r c (gM f f i j 0)) := by
  congr 1
  refine table_congr fun a b _ _ => ?_
  unfold gM
  by_cases h : a = i ∧ b = j
  · rw [if_pos h]; unfold gF; rw [if_neg (by omega)]
  · rw [if_neg h]
theorem gM_step {r c : Nat} {f : Nat → Nat → Int} {i j : Nat} {v w : Int} (hi : i < r) (hj : j < c) : (om (table r c (gM f f i j v))).modify i (fun q => q.set j (cI w)) = om (table r c (gM f f i j w)) := by
  refine Eq.trans (om_set hi hj) ?_
  congr 1
  refine table_congr fun a b _ _ => ?_
  unfold gM
  by_cases h : a = i ∧ b = j
  · rw [if_pos h, if_pos h]
  · rw [if_neg h, if_neg h, if_neg h]
theorem gM_end {r c : Nat} {f : Nat → Nat → Int} {i j : Nat} : om (table r c (gM f f i j (f i j))) = om (table r c (gF f i (j + 1))) := by
  congr 1
  refine table_congr fun a b _ _ => ?_
  unfold gM gF
  by_cases h : a = i ∧ b = j
  · rw [if_pos h, if_pos (by omega), h.1, h.2]
  · rw [if_neg h]
    by_cases h2 : a < i ∨ (a = i ∧ b < j)
    · rw [if_pos h2, if_pos (by omega)]
    · rw [if_neg h2, if_neg (by omega)]
end Go.AM
/- The law of the ring of matrices. -/
namespace Go.AM
open Go.Proofs.Tryz
theorem i8s_of {l : List (List D)} (h : l.length ≤ 9223372036854775807 ∧ ∀ x ∈ l, DOKL [.i .i8] x) : ∃ zs : List Int, l = i8s zs ∧ ∀ z ∈ zs, -128 ≤ z ∧ z ≤ 127 := by
  obtain ⟨zs, h1, h2⟩ := ints_of h.2
  exact ⟨zs, h1, h2⟩
end Go.AM
/- What the functions of package matrix, and of its reference, answer: comparing, picking, blocks of the reference. -/
namespace Go.AM
open Go.Proofs.Tryz
theorem cmp_zero (x y : Int) : (cmpI x y == 0) = decide (x = y) := by
  unfold cmpI
  by_cases h1 : x < y
  · simp [h1]; omega
  · by_cases h2 : y < x
    · simp [h1, h2]; omega
    · simp [h1, h2]; omega
theorem same118_ok {x y : Int} (hx : Sz x) (hy : Sz y) : FnD prog 110 [eI x, eI y] (vb (decide (x = y))) [] := by
  refine vc110_ok _ _ _ _ (R := Out _) ?_
  unfold vc110
  exact ⟨_, cmp_ok hx hy, outb (cmp_zero x y)⟩
theorem eqRow_ok {a b : List Int} (ha : SzR a) (hb : SzR b) (hl : a.length ≤ 4294967296) : FnD prog 109 [vs (row a), vs (row b), .e (.sc (.dat (.fn (.func 110) ([] : List D))))] (vb (decide (a = b))) [] := by
  refine vc109_ok _ _ _ _ (R := Out _) ?_
  unfold vc109
  simp only [row_length]
  refine ⟨fun h => outb ?_, fun h => ?_⟩
  · have h : ¬ ((a.length : Int) = (b.length : Int)) := by simpa using h
    rw [eq_comm, decide_eq_false_iff_not]
    intro e; subst e; exact h rfl
  · have hlen : a.length = b.length := by
      have : (a.length : Int) = (b.length : Int) := by simpa using h
      omega
    refine ⟨fun t => ∃ i : Nat, t = (i : Int) ∧ i ≤ a.length ∧ ∀ k, k < i → elr a k = elr b k, fun t => ((a.length : Int) - t).toNat, ⟨0, rfl, by omega, fun k hk => by omega⟩, ?_⟩
    rintro _ ⟨i, rfl, hi, hinv⟩
    refine ⟨fun h2 => ?_, fun h2 => outb ?_⟩
    · have hia : i < a.length := by simpa using h2
      have hib : i < b.length := by omega
      refine ⟨_, _, ⟨by omega, by omega⟩, row_getN hia, _, _, ⟨by omega, by omega⟩, row_getN hib, decide (elr a i = elr b i), same118_ok (ha _ (elr_mem hia)) (hb _ (elr_mem hib)), fun h3 => outb ?_, fun h3 => ?_⟩
      · rw [eq_comm, decide_eq_false_iff_not]
        intro e; subst e; simp at h3
      · have he : elr a i = elr b i := by simpa using h3
        rw [inc64 (by omega)]
        refine ⟨⟨i + 1, rfl, by omega, fun k hk => ?_⟩, by show ((a.length : Int) - ((i + 1 : Nat) : Int)).toNat < ((a.length : Int) - (i : Int)).toNat; omega⟩
        by_cases hki : k = i
        · subst hki; exact he
        · exact hinv k (by omega)
    · have hia : i = a.length := by have : a.length ≤ i := by simpa using h2
                                    omega
      have : a = b := list_ext hlen fun k hk => hinv k (by omega)
      simp [this]
theorem eqRows_ok {a b : List (List Int)} (ha : SzM a) (hb : SzM b) (hl : a.length ≤ 4294967296) (hc : ∀ x ∈ a, x.length ≤ 4294967296) :
    FnD prog 107 [vs (rows a), vs (rows b), .e (.sc (.dat (.fn (.func 108) ([] : List D))))] (vb (decide (a = b))) [] := by
  refine vc107_ok _ _ _ _ (R := Out _) ?_
  unfold vc107
  simp only [rows_length]
  refine ⟨fun h => outb ?_, fun h => ?_⟩
  · have h : ¬ ((a.length : Int) = (b.length : Int)) := by simpa using h
    rw [eq_comm, decide_eq_false_iff_not]
    intro e; subst e; exact h rfl
  · have hlen : a.length = b.length := by
      have : (a.length : Int) = (b.length : Int) := by simpa using h
      omega
    refine ⟨fun t => ∃ i : Nat, t = (i : Int) ∧ i ≤ a.length ∧ ∀ k, k < i → a.getD k [] = b.getD k [], fun t => ((a.length : Int) - t).toNat, ⟨0, rfl, by omega, fun k hk => by omega⟩, ?_⟩
    rintro _ ⟨i, rfl, hi, hinv⟩
    refine ⟨fun h4 => ?_, fun h4 => outb ?_⟩
    · have hia : i < a.length := by simpa using h4
      have hib : i < b.length := by omega
      have e116 : FnD prog 108 [vs (row (a.getD i [])), vs (row (b.getD i []))] (vb (decide (a.getD i [] = b.getD i []))) [] := by
        refine vc108_ok _ _ (R := Out _) ?_
        unfold vc108
        exact ⟨_, eqRow_ok (ha _ (getD_mem hia)) (hb _ (getD_mem hib)) (hc _ (getD_mem hia)), rfl, rfl⟩
      refine ⟨_, ⟨by omega, by omega⟩, rows_getN hia, _, ⟨by omega, by omega⟩, rows_getN hib, decide (a.getD i [] = b.getD i []), e116, fun h5 => outb ?_, fun h5 => ?_⟩
      · rw [eq_comm, decide_eq_false_iff_not]
        rintro e; subst e; simp at h5
      · have he : a.getD i [] = b.getD i [] := by simpa using h5
        rw [inc64 (by omega)]
        refine ⟨⟨i + 1, rfl, by omega, fun k hk => ?_⟩, by show ((a.length : Int) - ((i + 1 : Nat) : Int)).toNat < ((a.length : Int) - (i : Int)).toNat; omega⟩
        by_cases hki : k = i
        · subst hki; exact he
        · exact hinv k (by omega)
    · have hia : i = a.length := by have : a.length ≤ i := by simpa using h4
                                    omega
      have : a = b := lists_ext hlen fun k hk => hinv k (by omega)
      simp [this]
theorem equal_ok {r c r' c' : Int} {a b : List (List Int)} (ha : SzM a) (hb : SzM b) (hl : a.length ≤ 4294967296) (hc : ∀ x ∈ a, x.length ≤ 4294967296) :
    FnD prog 80 [eM r c a, eM r' c' b] (vb (decide (r = r' ∧ c = c' ∧ a = b))) [] := by
  refine vc80_ok _ _ _ _ _ _ (R := Out _) ?_
  unfold vc80
  refine ⟨_, _, _, _, size_ok r c a, size_ok r' c' b, fun h => ⟨_, eqRows_ok ha hb hl hc, outb ?_⟩, fun h => outb ?_⟩
  · have h : r = r' ∧ c = c' := by simpa using h
    simp [h.1, h.2]
  · rw [eq_comm, decide_eq_false_iff_not]
    rintro ⟨rfl, rfl, _⟩
    simp at h
theorem rawmade_ok {x y : Int} (v : List Int) (hx : 0 ≤ x) (hy : 0 ≤ y) : ∃ r c : Nat, r ≤ 4 ∧ c ≤ 4 ∧
    FnD prog 9 [.e (.agg [.dat (.int .u8 x), .dat (.int .u8 y), .dat (.sl (i8s v))])] (eMo r c) (oM (table r c (fillG c v))) := by
  obtain ⟨r, e0, b0⟩ := mod5 hx
  obtain ⟨c, e1, b1⟩ := mod5 hy
  refine ⟨r, c, b0, b1, ?_⟩
  refine vc9_ok _ _ _ (R := OutM r c _) ?_
  unfold vc9
  rw [e0, e1]
  exact ⟨_, _, _, by decide, filled_ok (by omega) (by omega), outM rfl⟩
end Go.AM
/- oplog.Apply: the operations on a matrix of one's own. -/
namespace Go.AM
open Go.Proofs.Tryz
def rF (o : Opz) (f : Nat → Nat → Int) (t : Nat) (a b : Nat) : Int := if a = o.i ∧ b < t then opF o f a b else f a b
theorem rF_zero {r c : Nat} {o : Opz} {m : List (List Int)} (hm : Mx r c m) : om m = om (table r c (rF o (el m) 0)) := by
  congr 1
  refine Eq.trans (mx_table hm) (table_congr fun a b _ _ => ?_)
  simp [rF]
theorem rF_step {r c : Nat} {o : Opz} {f : Nat → Nat → Int} {t : Nat} (hi : o.i < r) (ht : t < c) : (om (table r c (rF o f t))).modify o.i (fun q => q.set t (cI (opF o f o.i t))) = om (table r c (rF o f (t + 1))) := by
  refine Eq.trans (om_set hi ht) ?_
  congr 1
  refine table_congr fun a b _ _ => ?_
  unfold rF
  by_cases h1 : a = o.i ∧ b = t
  · rw [if_pos h1, if_pos (by omega), h1.1, h1.2]
  · rw [if_neg h1]
    by_cases h2 : a = o.i ∧ b < t
    · rw [if_pos h2, if_pos (by omega)]
    · rw [if_neg h2, if_neg (by omega)]
theorem rF_all {r c : Nat} {o : Opz} {m : List (List Int)} (hk : o.k ≠ 1) : om (table r c (rF o (el m) c)) = om (apO r c o m) := by
  unfold apO
  congr 1
  refine table_congr fun a b _ hb => ?_
  unfold rF
  by_cases h : a = o.i
  · rw [if_pos ⟨h, hb⟩]
  · rw [if_neg (by omega)]
    unfold opF
    simp [hk, h]
end Go.AM
/- oplog.Valid, Apply, Undo, Matrix, Invert. -/
namespace Go.AM
open Go.Proofs.Tryz
theorem natEq (a b : Nat) : ((a : Int) == (b : Int)) = decide (a = b) := by
  by_cases h : a = b
  · simp [h]
  · have h1 : (a : Int) ≠ b := by omega
    simp [h, h1]
end Go.AM
/- What functions of the program come to: group Oe. Printed by vc.py. -/
set_option maxRecDepth 100000
set_option linter.unusedVariables false
namespace Go.AM
open Go.Proofs.Tryz
def vc90 (a0 : Bool) (a1 : List (List D)) (b0 : Bool) (b1 : List (List D)) (R : V → Heap → Prop) : Prop :=
 ∃ (r0 : Bool) (r1 : List (List D)) (r01 : Bool) (r11 : List (List D)),
 (FnD prog 52 [vA [sD (dB b0), sD (dL b1)]] (vA [sD (dB r0), sD (dL r1)]) []) ∧
 (FnD prog 24 [vA [sD (dB a0), sD (dL a1)], vA [sD (dB r0), sD (dL r1)]] (vA [sD (dB r01), sD (dL r11)]) []) ∧
 (R (vA [sD (dB r01), sD (dL r11)]) [])
theorem vc90_ok (a0 : Bool) (a1 : List (List D)) (b0 : Bool) (b1 : List (List D)) {R : V → Heap → Prop} (h : vc90 a0 a1 b0 b1 R) : FnG prog 90 [vA [sD (dB a0), sD (dL a1)], vA [sD (dB b0), sD (dL b1)]] [] R :=
  FnG.vcg hT func90 ntmps90 (.reg 3 [(0, Or.none, 0, 1), (1, Or.none, 1, 1), (2, Or.none, 2, 1)] [2, 3, 4] [0, 1, 2] [] <| .exb fun r0 => .exl fun r1 => .exb fun r01 => .exl fun r11 => .drw 0 [(2, (Or.call (vA [sD (dB r0), sD (dL r1)]) [] [], 0, 0), []), (3, (Or.call (vA [sD (dB r01), sD (dL r11)]) [] [], 0, 0), []), (4, (Or.none, 0, 0), [2])] [4] [2] [] <| .ret [])
    (by kernel_rfl) (by kernel_rfl) (by kernel_rfl) h
def vc117 (a0 : Bool) (a1 : List (List D)) (R : V → Heap → Prop) : Prop :=
 R (vA [sD (dB false), sD (dL a1)]) []
theorem vc117_ok (a0 : Bool) (a1 : List (List D)) {R : V → Heap → Prop} (h : vc117 a0 a1 R) : FnG prog 117 [vA [sD (dB a0), sD (dL a1)]] [] R :=
  FnG.vcg hT func117 ntmps117 (.reg 2 [(0, Or.none, 0, 1), (1, Or.none, 1, 1)] [1, 2] [0, 1] [] <| .r1 [2] [1] <| .ret [])
    (by kernel_rfl) (by kernel_rfl) (by kernel_rfl) h
def vc96 (a0 : Bool) (a1 : List (List D)) (b0 : Bool) (b1 : List (List D)) (R : V → Heap → Prop) : Prop :=
 (((b1.length : Int) == (0 : Int)) = true →
 R (V.tup [E.agg [sD (dB false), sD (dL ([] : List (List D)))], E.agg [sD (dB false), sD (dL ([] : List (List D)))], eD (dI (3 : Int))]) []) ∧
 (((b1.length : Int) == (0 : Int)) = false →
 ∃ (r r1 : List (List D)),
 (FnD prog 118 [vD (dL a1), vD (dL b1)] (V.tup [eD (dL r), eD (dL r1)]) []) ∧
 (∃ (r0 : Bool) (r11 : List (List D)) (r01 : Bool) (r12 : List (List D)),
 (FnD prog 92 [vD (dL r), vD (dB false)] (vA [sD (dB r0), sD (dL r11)]) []) ∧
 (FnD prog 92 [vD (dL r1), vD (dB false)] (vA [sD (dB r01), sD (dL r12)]) []) ∧
 ((a0 = true →
 (decide ((r12.length : Int) > (0 : Int)) = true →
 ∃ (r02 : Bool) (r13 : List (List D)) (r03 : Bool) (r14 : List (List D)),
 (FnD prog 63 [vD (dI (1 : Int))] (vA [sD (dB r02), sD (dL r13)]) []) ∧
 (FnD prog 99 [vA [sD (dB r0), sD (dL r11)], vA [sD (dB r02), sD (dL r13)]] (vA [sD (dB r03), sD (dL r14)]) []) ∧
 (∃ (r2 : List (List D)) (r04 : Bool) (r15 : List (List D)),
 (FnD prog 119 [vD (dL b1), vD (dL r12)] (vD (dL r2)) []) ∧
 (FnD prog 92 [vD (dL r2), vD (dB false)] (vA [sD (dB r04), sD (dL r15)]) []) ∧
 (((!(a0 == b0)) = true →
 ∃ (r05 : Bool) (r16 : List (List D)),
 (FnD prog 95 [vA [sD (dB r03), sD (dL r14)]] (vA [sD (dB r05), sD (dL r16)]) []) ∧
 (R (V.tup [E.agg [sD (dB r05), sD (dL r16)], E.agg [sD (dB r04), sD (dL r15)], eD (dI (0 : Int))]) [])) ∧
 ((!(a0 == b0)) = false →
 R (V.tup [E.agg [sD (dB r03), sD (dL r14)], E.agg [sD (dB r04), sD (dL r15)], eD (dI (0 : Int))]) [])))) ∧
 (decide ((r12.length : Int) > (0 : Int)) = false →
 ((!(a0 == b0)) = true →
 ∃ (r06 : Bool) (r17 : List (List D)),
 (FnD prog 95 [vA [sD (dB r0), sD (dL r11)]] (vA [sD (dB r06), sD (dL r17)]) []) ∧
 (R (V.tup [E.agg [sD (dB r06), sD (dL r17)], E.agg [sD (dB r01), sD (dL r12)], eD (dI (0 : Int))]) [])) ∧
 ((!(a0 == b0)) = false →
 R (V.tup [E.agg [sD (dB r0), sD (dL r11)], E.agg [sD (dB r01), sD (dL r12)], eD (dI (0 : Int))]) []))) ∧
 (a0 = false →
 ((!(a0 == b0)) = true →
 ∃ (r07 : Bool) (r18 : List (List D)),
 (FnD prog 95 [vA [sD (dB r0), sD (dL r11)]] (vA [sD (dB r07), sD (dL r18)]) []) ∧
 (R (V.tup [E.agg [sD (dB r07), sD (dL r18)], E.agg [sD (dB r01), sD (dL r12)], eD (dI (0 : Int))]) [])) ∧
 ((!(a0 == b0)) = false →
 R (V.tup [E.agg [sD (dB r0), sD (dL r11)], E.agg [sD (dB r01), sD (dL r12)], eD (dI (0 : Int))]) [])))))
theorem vc96_ok (a0 : Bool) (a1 : List (List D)) (b0 : Bool) (b1 : List (List D)) {R : V → Heap → Prop} (h : vc96 a0 a1 b0 b1 R) : FnG prog 96 [vA [sD (dB a0), sD (dL a1)], vA [sD (dB b0), sD (dL b1)]] [] R :=
  FnG.vcg hT func96 ntmps96 (.reg 4 [(0, Or.none, 0, 1), (1, Or.none, 1, 1), (2, Or.none, 2, 1), (3, Or.none, 3, 1)] [2, 3, 4, 5] [0, 1, 2, 3] [] <| .r1 [2, 3, 4, 5, 14] [0, 1, 2, 3] <| .c2 (.r1 [4, 5, 6] [2, 3] <| .nrm [4, 5, 6] [0, 1] <| .ret []) (.exl fun r => .exl fun r1 => .reg 0 [(4, Or.call (V.tup [eD (dL r), eD (dL r1)]) [] [], 0, 0)] [2, 3, 4, 5, 7, 8] [0, 1, 2, 3] [] <| .exb fun r0 => .exl fun r11 => .exb fun r01 => .exl fun r12 => .reg 2 [(1, Or.call (vA [sD (dB r0), sD (dL r11)]) [] [], 0, 0), (3, Or.call (vA [sD (dB r01), sD (dL r12)]) [] [], 0, 0), (4, Or.none, 4, 1), (5, Or.none, 5, 1)] [2, 3, 4, 5, 9, 10] [0, 1, 2, 3, 4, 5] [] <| .spl a0 (.reg 0 [(2, Or.bool true, 0, 0)] [2, 3, 4, 5, 9, 10, 36] [0, 1, 2, 3, 4, 5] [.old 0] <| .c2 (.exb fun r02 => .exl fun r13 => .exb fun r03 => .exl fun r14 => .drw 0 [(1, (Or.call (vA [sD (dB r02), sD (dL r13)]) [] [], 0, 0), []), (2, (Or.call (vA [sD (dB r03), sD (dL r14)]) [] [], 0, 0), []), (3, (Or.none, 0, 0), [4])] [2, 3, 4, 5, 9, 10] [0, 1, 2, 3, 4, 5] [] <| .exl fun r2 => .exb fun r04 => .exl fun r15 => .reg 0 [(4, Or.call (vD (dL r2)) [] [], 0, 0), (5, Or.call (vA [sD (dB r04), sD (dL r15)]) [] [], 0, 0)] [2, 3, 4, 5, 9, 10] [0, 1, 2, 3, 4, 5] [] <| .r1 [4, 5, 9, 10, 50] [2, 3, 4, 5] <| .c2 (.exb fun r05 => .exl fun r16 => .reg 0 [(1, Or.call (vA [sD (dB r05), sD (dL r16)]) [] [], 0, 0)] [4, 5, 9, 10] [0, 1, 2, 3] [] <| .drw 0 [(2, (Or.none, 0, 0), [0]), (3, (Or.none, 0, 0), [1])] [4, 5, 6] [0, 1] [] <| .ret []) (.drw 0 [(2, (Or.none, 0, 0), [0]), (3, (Or.none, 0, 0), [1])] [4, 5, 6] [0, 1] [] <| .ret [])) (.r1 [4, 5, 9, 10, 50] [2, 3, 4, 5] <| .c2 (.exb fun r06 => .exl fun r17 => .reg 0 [(1, Or.call (vA [sD (dB r06), sD (dL r17)]) [] [], 0, 0)] [4, 5, 9, 10] [0, 1, 2, 3] [] <| .drw 0 [(2, (Or.none, 0, 0), [0]), (3, (Or.none, 0, 0), [1])] [4, 5, 6] [0, 1] [] <| .ret []) (.drw 0 [(2, (Or.none, 0, 0), [0]), (3, (Or.none, 0, 0), [1])] [4, 5, 6] [0, 1] [] <| .ret []))) (.reg 0 [(2, Or.bool false, 0, 0)] [2, 3, 4, 5, 9, 10, 36] [0, 1, 2, 3, 4, 5] [.old 0] <| .ct false none <| .r1 [4, 5, 9, 10, 50] [2, 3, 4, 5] <| .c2 (.exb fun r07 => .exl fun r18 => .reg 0 [(1, Or.call (vA [sD (dB r07), sD (dL r18)]) [] [], 0, 0)] [4, 5, 9, 10] [0, 1, 2, 3] [] <| .drw 0 [(2, (Or.none, 0, 0), [0]), (3, (Or.none, 0, 0), [1])] [4, 5, 6] [0, 1] [] <| .ret []) (.drw 0 [(2, (Or.none, 0, 0), [0]), (3, (Or.none, 0, 0), [1])] [4, 5, 6] [0, 1] [] <| .ret []))))
    (by kernel_rfl) (by kernel_rfl) (by kernel_rfl) h
def vc118 (a b : List (List D)) (R : V → Heap → Prop) : Prop :=
 ∃ (r : Int),
 (FnD prog 113 [vD (dL a), vD (dL b)] (vD (dI r)) []) ∧
 ((decide (r < (0 : Int)) = true →
 ∃ (r1 : List (List D)),
 (FnD prog 126 [vD (dL a)] (vD (dL r1)) []) ∧
 (R (V.tup [eD (dL ([] : List (List D))), eD (dL r1)]) [])) ∧
 (decide (r < (0 : Int)) = false →
 (((b.length : Int) == (1 : Int)) = true →
 ∃ (vx : Int) (r2 : List (List D)) (r3 : Int),
 (0 ≤ (0 : Int) ∧ (0 : Int) < (b.length : Int)) ∧
 (b[0]? = some [dU vx]) ∧
 (FnD prog 127 [vD (dL a), vD (dU vx)] (V.tup [eD (dL r2), eD (dU r3)]) []) ∧
 (R (V.tup [eD (dL r2), eD (dL [[dU r3]])]) [])) ∧
 (((b.length : Int) == (1 : Int)) = false →
 ∃ (r4 r5 : List (List D)),
 (FnD prog 128 [vD (dL a), vD (dL b)] (V.tup [eD (dL r4), eD (dL r5)]) []) ∧
 (R (V.tup [eD (dL r4), eD (dL r5)]) []))))
theorem vc118_ok (a b : List (List D)) {R : V → Heap → Prop} (h : vc118 a b R) : FnG prog 118 [vD (dL a), vD (dL b)] [] R :=
  FnG.vcg hT func118 ntmps118 (.r0 [0, 1] <| .ex fun r => .reg 0 [(2, Or.call (vD (dI r)) [] [], 0, 0)] [0, 1, 8] [] [] <| .c2 (.exl fun r1 => .reg 0 [(1, Or.call (vD (dL r1)) [] [], 0, 0)] [4, 5] [] [] <| .nrm [4, 5] [] <| .ret []) (.r0 [0, 1, 15] <| .c2 (.ex fun vx => .exl fun r2 => .ex fun r3 => .reg 0 [(3, Or.cells [dU vx], 0, 0), (4, Or.call (V.tup [eD (dL r2), eD (dU r3)]) [] [], 0, 0)] [6, 7] [] [] <| .reg 1 [(2, Or.none, 0, 1)] [4, 5] [0] [] <| .frz [0] <| .ret []) (.exl fun r4 => .exl fun r5 => .reg 0 [(2, Or.call (V.tup [eD (dL r4), eD (dL r5)]) [] [], 0, 0)] [4, 5] [] [] <| .ret [])))
    (by kernel_rfl) (by kernel_rfl) (by kernel_rfl) h
end Go.AM
/- torsionref18.Apply: the operations on a matrix with its transforms. -/
namespace Go.AM
open Go.Proofs.Tryz
theorem rsub_ok {x y : Int} (hx : Sz x) (hy : Sz y) : FnD prog 90 [eI x, eI y] (eI (x - y)) [] := by
  refine vc90_ok _ _ _ _ (R := Out _) ?_
  unfold vc90
  have hy' : Sz (-y) := by unfold Sz; rw [Int.natAbs_neg]; exact hy
  have h := radd_ok hx hy'
  rw [← Int.sub_eq_add_neg] at h
  exact ⟨_, _, _, _, rneg_ok hy, h, rfl, rfl⟩
def colF (o : Opz) (f : Nat → Nat → Int) (a b : Nat) : Int :=
  if o.k = 1 then (if b = o.i then f a o.j else if b = o.j then f a o.i else f a b)
  else if o.k = 2 then (if b = o.i then - f a b else f a b)
  else if b = o.j then f a b - o.z * f a o.i else f a b
def apC (n : Nat) (o : Opz) (m : List (List Int)) : List (List Int) := table n n (colF o (el m))
def apCL (n : Nat) : List Opz → List (List Int) → List (List Int)
  | [], m => m
  | o :: l, m => apCL n l (apC n o m)
theorem apC_mx (n : Nat) (o : Opz) (m : List (List Int)) : Mx n n (apC n o m) := table_mx _ _ _
theorem apCL_mx {n : Nat} : ∀ (l : List Opz) {m : List (List Int)}, Mx n n m → Mx n n (apCL n l m)
  | [], _, h => h
  | _ :: l, _, _ => apCL_mx l (apC_mx _ _ _)
theorem apCL_append {n : Nat} : ∀ (l l' : List Opz) (m : List (List Int)), apCL n (l ++ l') m = apCL n l' (apCL n l m)
  | [], _, _ => rfl
  | o :: l, l', m => by simp only [List.cons_append, apCL]; exact apCL_append l l' _
def cP (o : Opz) (f : Nat → Nat → Int) (t : Nat) (a b : Nat) : Int := if a < t then colF o f a b else f a b
theorem cP_zero {n : Nat} {o : Opz} {m : List (List Int)} (hm : Mx n n m) : om m = om (table n n (cP o (el m) 0)) := by
  congr 1
  refine Eq.trans (mx_table hm) (table_congr fun a b _ _ => ?_)
  simp [cP]
theorem cP_all {n : Nat} {o : Opz} {m : List (List Int)} : om (table n n (cP o (el m) n)) = om (apC n o m) := by
  unfold apC
  congr 1
  exact table_congr fun a b ha _ => by unfold cP; rw [if_pos ha]
theorem cP_at {o : Opz} {f : Nat → Nat → Int} {t b : Nat} : cP o f t t b = f t b := by unfold cP; rw [if_neg (by omega)]
theorem cP_one {n : Nat} {o : Opz} {f : Nat → Nat → Int} {t j : Nat} {v : Int} (ht : t < n) (hj : j < n) (hv : colF o f t j = v) (ho : ∀ b, b < n → b ≠ j → colF o f t b = f t b) :
    (om (table n n (cP o f t))).modify t (fun q => q.set j (cI v)) = om (table n n (cP o f (t + 1))) := by
  refine Eq.trans (om_set ht hj) ?_
  congr 1
  refine table_congr fun a b _ hb => ?_
  unfold cP
  by_cases h1 : a = t ∧ b = j
  · rw [if_pos h1, if_pos (by omega), h1.1, h1.2, hv]
  · rw [if_neg h1]
    by_cases h2 : a < t
    · rw [if_pos h2, if_pos (by omega)]
    · rw [if_neg h2]
      by_cases h3 : a = t
      · subst h3
        rw [if_pos (by omega), ho b hb (by omega)]
      · rw [if_neg (by omega)]
theorem swapR_om {r c : Nat} {o : Opz} {m : List (List Int)} (h : vO r o = true) (hk : o.k = 1) (hm : Mx r c m) : swapR (om m) o.i o.j = om (apO r c o m) := by
  obtain ⟨hi, _⟩ := vO_ok h
  have hj := vO_j h (by omega)
  rw [mx_table hm]
  unfold swapR apO
  apply List.ext_getElem?
  intro k
  have hlen : (om (table r c (el m))).length = r := om_len
  have hg : ∀ a, a < r → (om (table r c (el m))).getD a [] = row (tableR c (el m a)) := fun a ha => by
    simp [om, table, ha]
  have hF : ∀ a, a < r → (om (table r c (opF o (el (table r c (el m))))))[a]? = some (row (tableR c (opF o (el (table r c (el m))) a))) := fun a ha => by
    simp [om, table, ha]
  have hE : ∀ a b, a < r → b < c → el (table r c (el m)) a b = el m a b := fun a b ha hb => el_table ha hb
  have hrow : ∀ {f g : Nat → Int}, (∀ b, b < c → f b = g b) → tableR c f = tableR c g := fun hfg => List.map_congr_left fun b hb => hfg b (List.mem_range.1 hb)
  by_cases hkr : k < r
  · rw [hF k hkr, hg _ hi, hg _ hj]
    by_cases e1 : o.j = k
    · subst e1
      rw [List.getElem?_set_self (by simp [hlen]; exact hj)]
      congr 2
      refine hrow fun b hb => ?_
      by_cases e2 : o.j = o.i
      · simp only [opF, hk, if_true, e2]; rw [hE _ _ hi hb]
      · simp only [opF, hk, if_true, if_neg e2]; rw [hE _ _ hi hb]
    · rw [List.getElem?_set_ne e1]
      by_cases e2 : o.i = k
      · subst e2
        rw [List.getElem?_set_self (by rw [hlen]; exact hi)]
        congr 2
        refine hrow fun b hb => ?_
        simp only [opF, hk, if_true]; rw [hE _ _ hj hb]
      · rw [List.getElem?_set_ne e2]
        have : (om (table r c (el m)))[k]? = some (row (tableR c (el m k))) := by simp [om, table, hkr]
        rw [this]
        congr 2
        refine hrow fun b hb => ?_
        simp only [opF, hk, if_true, if_neg (Ne.symm e2), if_neg (Ne.symm e1)]; rw [hE _ _ hkr hb]
  · rw [List.getElem?_eq_none (by simp [hlen]; omega), List.getElem?_eq_none (by rw [om_len]; omega)]
end Go.AM
/- torsionref18: Negate and AddTo on the work matrices; Valid, Apply, Matrix, Invert. -/
namespace Go.AM
open Go.Proofs.Tryz
theorem rowM_in {r c : Nat} {g : Nat → Nat → Int} {i j : Nat} (hi : i < r) (hj : j < c) : at2 (om (table r c g)) (i : Int).toNat (j : Int).toNat = some (cI (g i j)) := by
  rw [Int.toNat_natCast, Int.toNat_natCast]; exact at2_om hi hj
end Go.AM
/- Row operations in plain Lean: how much lists of them can make the elements grow. -/
namespace Go.AM
abbrev addO (i j : Nat) (z : Int) : Opz := ⟨3, i, j, z⟩
abbrev swapO (i j : Nat) : Opz := ⟨1, i, j, 0⟩
abbrev negO (i : Nat) : Opz := ⟨2, i, 0, 0⟩
theorem vO_add {r i j : Nat} {z : Int} (hi : i < r) (hj : j < r) (h : i ≠ j) : vO r (addO i j z) = true := by simp [vO, hi, hj, h]
theorem vO_swap {r i j : Nat} (hi : i < r) (hj : j < r) (h : i ≠ j) : vO r (swapO i j) = true := by simp [vO, hi, hj, h]
theorem vO_neg {r i : Nat} (hi : i < r) : vO r (negO i) = true := by simp [vO, hi]
def gO (o : Opz) : Nat := if o.k = 3 then 1 + o.z.natAbs else 1
def gL : List Opz → Nat
  | [] => 1
  | o :: l => gO o * gL l
theorem gO_pos (o : Opz) : 1 ≤ gO o := by unfold gO; split <;> omega
theorem gL_append : ∀ l k : List Opz, gL (l ++ k) = gL l * gL k
  | [], k => by simp [gL]
  | o :: l, k => by simp only [List.cons_append, gL, gL_append l k, Nat.mul_assoc]
theorem one_mul_le {K o : Nat} (h : 1 ≤ o) : K ≤ o * K := by
  have := Nat.mul_le_mul_right K h
  omega
theorem apO_g {r c K : Nat} {o : Opz} {m : List (List Int)} (h : vO r o = true) (hm : Mx r c m) (km : BdM K m) : BdM (gO o * K) (apO r c o m) := table_bd fun a b ha hb => by
  obtain ⟨hi, hcase⟩ := vO_ok h
  have h0 : ∀ x : Nat, x < r → (el m x b).natAbs ≤ K := fun x hx => el_bd hm km hx hb
  have hK := one_mul_le (K := K) (gO_pos o)
  unfold opF
  rcases hcase with ⟨hk, _, _⟩ | ⟨hk, hj, _, _⟩ | ⟨hk, hj, _⟩
  · rw [hk, if_neg (by decide), if_pos rfl]
    have := h0 a ha
    split
    · rw [Int.natAbs_neg]; omega
    · omega
  · rw [hk, if_pos rfl]
    have h1 := h0 _ hj
    have h2 := h0 _ hi
    have h3 := h0 a ha
    split
    · omega
    · split <;> omega
  · rw [hk, if_neg (by decide), if_neg (by decide)]
    have h1 := h0 _ hj
    have h3 := h0 a ha
    split
    · have e : gO o = 1 + o.z.natAbs := by simp [gO, hk]
      rw [e, Nat.add_mul, Nat.one_mul]
      have h4 := Int.natAbs_add_le (el m a b) (o.z * el m o.j b)
      rw [Int.natAbs_mul] at h4
      have h5 := Nat.mul_le_mul_left o.z.natAbs h1
      omega
    · omega
theorem apL_g {r c : Nat} : ∀ {l : List Opz} {K : Nat} {m : List (List Int)}, (∀ o ∈ l, vO r o = true) → Mx r c m → BdM K m → BdM (gL l * K) (apL r c l m)
  | [], K, m, _, _, km => km.mono (by simp [gL])
  | o :: l, K, m, h, hm, km => by
    have := apL_g (l := l) (fun x hx => h x (by simp [hx])) (apO_mx r c o m) (apO_g (h o (by simp)) hm km)
    refine BdM.mono this ?_
    simp only [gL]
    exact Nat.le_of_eq (by rw [Nat.mul_comm (gO o) (gL l), Nat.mul_assoc])
theorem apC_g {n K : Nat} {o : Opz} {m : List (List Int)} (h : vO n o = true) (hm : Mx n n m) (km : BdM K m) : BdM (gO o * K) (apC n o m) := table_bd fun a b ha hb => by
  obtain ⟨hi, hcase⟩ := vO_ok h
  have h0 : ∀ x : Nat, x < n → (el m a x).natAbs ≤ K := fun x hx => el_bd hm km ha hx
  have hK := one_mul_le (K := K) (gO_pos o)
  unfold colF
  rcases hcase with ⟨hk, _, _⟩ | ⟨hk, hj, _, _⟩ | ⟨hk, hj, _⟩
  · rw [hk, if_neg (by decide), if_pos rfl]
    have := h0 b hb
    split
    · rw [Int.natAbs_neg]; omega
    · omega
  · rw [hk, if_pos rfl]
    have h1 := h0 _ hj
    have h2 := h0 _ hi
    have h3 := h0 b hb
    split
    · omega
    · split <;> omega
  · rw [hk, if_neg (by decide), if_neg (by decide)]
    have h1 := h0 _ hi
    have h3 := h0 b hb
    split
    · have e : gO o = 1 + o.z.natAbs := by simp [gO, hk]
      rw [e, Nat.add_mul, Nat.one_mul]
      have h4 := Int.natAbs_sub_le (el m a b) (o.z * el m a o.i)
      rw [Int.natAbs_mul] at h4
      have h5 := Nat.mul_le_mul_left o.z.natAbs h1
      omega
    · omega
theorem apCL_g {n : Nat} : ∀ {l : List Opz} {K : Nat} {m : List (List Int)}, (∀ o ∈ l, vO n o = true) → Mx n n m → BdM K m → BdM (gL l * K) (apCL n l m)
  | [], K, m, _, _, km => km.mono (by simp [gL])
  | o :: l, K, m, h, hm, km => by
    have := apCL_g (l := l) (fun x hx => h x (by simp [hx])) (apC_mx n o m) (apC_g (h o (by simp)) hm km)
    refine BdM.mono this ?_
    simp only [gL]
    exact Nat.le_of_eq (by rw [Nat.mul_comm (gO o) (gL l), Nat.mul_assoc])
theorem mod_eq (x y : Int) : x + -(x / y) * y = x % y := by
  have := Int.emod_add_mul_ediv x y
  rw [Int.neg_mul, Int.mul_comm]; omega
section
variable {r cc c top i : Nat}
theorem el_swap {m : List (List Int)} {a b : Nat} (ha : a < r) (hb : b < cc) : el (apO r cc (swapO top i) m) a b = if a = top then el m i b else if a = i then el m top b else el m a b := by
  rw [el_apO ha hb]; simp [opF]
theorem el_add {m : List (List Int)} {z : Int} {a b : Nat} (ha : a < r) (hb : b < cc) : el (apO r cc (addO top i z) m) a b = if a = top then el m a b + z * el m i b else el m a b := by
  rw [el_apO ha hb]; simp [opF]
variable (ht : top < r) (hi : i < r) (hc : c < cc) (hne : top ≠ i)
include ht hi hne
include hc
end
end Go.AM
/- The operations of torsionref12.Form in plain Lean, and how much they can make the elements grow. -/
namespace Go.AM
theorem eu_num0 {x y : Int} (hx : 0 ≤ x) (hy : 0 < y) : (1 + (x / y).natAbs) * ((x % y).natAbs + 1) ≤ x.natAbs + 1 := by
  have h1 := Int.emod_nonneg x (by omega : y ≠ 0)
  have h2 := Int.emod_lt_of_pos x hy
  have h3 := Int.emod_add_mul_ediv x y
  have h4 := Int.ediv_nonneg hx (Int.le_of_lt hy)
  obtain ⟨q, hq⟩ := Int.eq_ofNat_of_zero_le h4
  obtain ⟨r, hr⟩ := Int.eq_ofNat_of_zero_le h1
  obtain ⟨n, hn⟩ := Int.eq_ofNat_of_zero_le (Int.le_of_lt hy)
  obtain ⟨a, ha⟩ := Int.eq_ofNat_of_zero_le hx
  rw [hq, hr, hn, ha] at h3
  rw [hq, hr, ha]
  simp only [Int.natAbs_natCast]
  have h5 : r + n * q = a := by exact_mod_cast h3
  have h6 : r + 1 ≤ n := by omega
  have h7 : (r + 1) * q ≤ n * q := Nat.mul_le_mul_right _ h6
  rw [Nat.add_mul 1 q, Nat.one_mul, Nat.mul_comm q]
  omega
theorem eu_num {x y : Int} (hy : y ≠ 0) : (1 + (x / y).natAbs) * ((x % y).natAbs + 1) ≤ x.natAbs + 2 * y.natAbs := by
  have h1 := Int.emod_nonneg x hy
  have h2 := Int.emod_lt x hy
  have h3 := Int.emod_add_mul_ediv x y
  have h5 : (y * (x / y)).natAbs = y.natAbs * (x / y).natAbs := Int.natAbs_mul ..
  have h6 : (x % y).natAbs + 1 ≤ y.natAbs := by omega
  have h7 : (1 + (x / y).natAbs) * ((x % y).natAbs + 1) ≤ (1 + (x / y).natAbs) * y.natAbs := Nat.mul_le_mul_left _ h6
  rw [Nat.add_mul 1 (x / y).natAbs y.natAbs, Nat.one_mul, Nat.mul_comm (x / y).natAbs] at h7
  omega
def ColB (r c A : Nat) (m : List (List Int)) : Prop := ∀ a, a < r → (el m a c).natAbs ≤ A
end Go.AM
/- The operations of torsionref12.Form: a column, all columns; bounds. -/
namespace Go.AM
theorem colB_of {r cc c A : Nat} {m : List (List Int)} (hm : Mx r cc m) (km : BdM A m) (hc : c < cc) : ColB r c A m := fun _ ha => el_bd hm km ha hc
end Go.AM
/- Division of integers: by one limb (torsionref01.short). -/
namespace Go.AM
open Go.Proofs.Tryz
def sQ (d : Nat) : List Nat → List Nat × Nat
  | [] => ([], 0)
  | x :: l => ((((sQ d l).2 * 4294967296 + x) / d) :: (sQ d l).1, ((sQ d l).2 * 4294967296 + x) % d)
theorem sQ_len (d : Nat) : ∀ l, (sQ d l).1.length = l.length
  | [] => rfl
  | _ :: l => by simp [sQ, sQ_len d l]
theorem sQ_lt {d : Nat} (hd : 0 < d) : ∀ l, (sQ d l).2 < d
  | [] => hd
  | _ :: _ => Nat.mod_lt _ hd
theorem sQ_val {d : Nat} : ∀ l, d * val (sQ d l).1 + (sQ d l).2 = val l
  | [] => by simp [sQ, val]
  | x :: l => by
    have ih := sQ_val (d := d) l
    have h := Nat.div_add_mod ((sQ d l).2 * 4294967296 + x) d
    simp only [sQ, val]
    rw [← ih, Nat.mul_add, Nat.mul_left_comm]
    omega
theorem sQ_dig {d : Nat} (hd : 0 < d) : ∀ l, (∀ x ∈ l, x < 4294967296) → ∀ z ∈ (sQ d l).1, z < 4294967296
  | [], _, z, hz => by simp [sQ] at hz
  | x :: l, h, z, hz => by
    simp only [sQ, List.mem_cons] at hz
    rcases hz with rfl | hz
    · rw [Nat.div_lt_iff_lt_mul hd]
      have h1 := sQ_lt hd l
      have h2 := h x (by simp)
      have h3 : ((sQ d l).2 + 1) * 4294967296 ≤ d * 4294967296 := Nat.mul_le_mul_right _ h1
      omega
    · exact sQ_dig hd l (fun y hy => h y (by simp [hy])) z hz
theorem sQ_div {d : Nat} (hd : 0 < d) (l : List Nat) : val (sQ d l).1 = val l / d ∧ (sQ d l).2 = val l % d := by
  have h1 := sQ_val (d := d) l
  have h2 := sQ_lt hd l
  have h3 : (d * val (sQ d l).1 + (sQ d l).2) / d = val (sQ d l).1 := by
    rw [Nat.mul_add_div hd, Nat.div_eq_of_lt h2, Nat.add_zero]
  have h4 : (d * val (sQ d l).1 + (sQ d l).2) % d = (sQ d l).2 := by
    rw [Nat.mul_add_mod, Nat.mod_eq_of_lt h2]
  rw [h1] at h3 h4
  exact ⟨h3.symm, h4.symm⟩
theorem rep_set (n v : Nat) (q : List Nat) : (List.replicate (n + 1) 0 ++ q).set n v = List.replicate n 0 ++ (v :: q) := by
  rw [List.set_append_left _ _ (by simp), List.replicate_succ', List.set_append_right _ _ (by simp)]
  simp
theorem u32_id {n : Int} (h0 : 0 ≤ n) (h1 : n < 4294967296) : IntKind.u32.wrap n = n := by rw [wu32]; omega
end Go.AM
/- Division of integers: torsionref01.divide. -/
namespace Go.AM
open Go.Proofs.Tryz
def ei (z : Int) : E := .agg [.dat (.bool (decide (z < 0))), .dat (.sl (lim (digs z.natAbs)))]
end Go.AM
/- Division of integers: torsionref01.DivMod, torsionref12.Floor. -/
namespace Go.AM
open Go.Proofs.Tryz
theorem ediv_uniq {a b q r : Int} (hb : b ≠ 0) (h : r + b * q = a) (h0 : 0 ≤ r) (h1 : r < b.natAbs) : a / b = q ∧ a % b = r := by
  rcases Int.lt_or_gt_of_ne hb with hn | hp
  · have := (Int.ediv_emod_unique (a := a) (b := -b) (q := -q) (r := r) (by omega)).2 ⟨by rw [Int.neg_mul_neg]; exact h, h0, by omega⟩
    rw [Int.ediv_neg, Int.emod_neg] at this
    exact ⟨by omega, this.2⟩
  · exact (Int.ediv_emod_unique hp).2 ⟨h, h0, by omega⟩
theorem out3 {q q' r r' : Int} {e : Int} (h1 : q = q') (h2 : r = r') : Out (.tup [ei q', ei r', eD (dI e)])
    (V.tup [(E.agg [(sD (dB (decide (q < 0)))), (sD (dL (lim (digs q.natAbs))))]), (E.agg [(sD (dB (decide (r < 0)))), (sD (dL (lim (digs r.natAbs))))]), (eD (dI e))]) [] := by
  subst h1; subst h2; exact ⟨rfl, rfl⟩
end Go.AM
/- What functions of the program come to: group Oi. Printed by vc.py. -/
set_option maxRecDepth 100000
set_option linter.unusedVariables false
namespace Go.AM
open Go.Proofs.Tryz
def vc127 (a : List (List D)) (d : Int) (R : V → Heap → Prop) : Prop :=
 (0 ≤ (a.length : Int) ∧ (a.length : Int) ≤ (a.length : Int) ∧ (a.length : Int) * (4 : Nat) ≤ 281474976710656) ∧
 (∃ (J0 : (List (List D)) → Int → Int → Prop) (μ0 : (List (List D)) → Int → Int → Nat),
 J0 (List.replicate ((a.length : Int)).toNat [dU (0 : Int)]) (0 : Int) (IntKind.i64.wrap ((a.length : Int) - (1 : Int))) ∧ ∀ (out : List (List D)) (rest i : Int), J0 out rest i →
 (decide (i ≥ (0 : Int)) = true →
 ∃ (vx : Int),
 (0 ≤ (32 : Int)) ∧
 (0 ≤ i ∧ i < (a.length : Int)) ∧
 (a[(i).toNat]? = some [dU vx]) ∧
 (((IntKind.u64.wrap d) ≠ 0) ∧
 (0 ≤ i ∧ i < (out.length : Int)) ∧
 (J0 (out.set (i).toNat [dU (IntKind.u32.wrap (IntKind.u64.wrap ((bitsI .u64 (· ||| ·) (IntKind.u64.wrap (rest * 2 ^ (min (32 : Int).toNat IntKind.u64.bits))) (IntKind.u64.wrap vx)).tdiv (IntKind.u64.wrap d))))]) ((bitsI .u64 (· ||| ·) (IntKind.u64.wrap (rest * 2 ^ (min (32 : Int).toNat IntKind.u64.bits))) (IntKind.u64.wrap vx)).tmod (IntKind.u64.wrap d)) (IntKind.i64.wrap (i - (1 : Int))) ∧ μ0 (out.set (i).toNat [dU (IntKind.u32.wrap (IntKind.u64.wrap ((bitsI .u64 (· ||| ·) (IntKind.u64.wrap (rest * 2 ^ (min (32 : Int).toNat IntKind.u64.bits))) (IntKind.u64.wrap vx)).tdiv (IntKind.u64.wrap d))))]) ((bitsI .u64 (· ||| ·) (IntKind.u64.wrap (rest * 2 ^ (min (32 : Int).toNat IntKind.u64.bits))) (IntKind.u64.wrap vx)).tmod (IntKind.u64.wrap d)) (IntKind.i64.wrap (i - (1 : Int))) < μ0 out rest i))) ∧
 (decide (i ≥ (0 : Int)) = false →
 R (V.tup [eD (dL out), eD (dU (IntKind.u32.wrap rest))]) []))
theorem vc127_ok (a : List (List D)) (d : Int) {R : V → Heap → Prop} (h : vc127 a d R) : FnG prog 127 [vD (dL a), vD (dU d)] [] R :=
  FnG.vcg hT func127 ntmps127 (.r0 [0, 1] <| .reg 1 [(2, Or.none, 0, 1)] [0, 1, 6] [0] [] <| .r1 [0, 1, 6, 7] [0] <| .r1 [0, 1, 6, 7, 8] [0] <| .lp [.l, .i, .i] (fun out rest i => ⟨[(0, vD (dL a)), (1, vD (dU d)), (6, vR 0), (7, vD (D.int .u64 rest)), (8, vD (dI i))], [some (Obj.arr 1 out)], 42⟩) [.l (List.replicate ((a.length : Int)).toNat [dU (0 : Int)]), .i (0 : Int), .i (IntKind.i64.wrap ((a.length : Int) - (1 : Int)))] <| .fl fun out => .fi fun rest => .fi fun i => .beg <| .r1 [0, 1, 6, 7, 8, 16] [0] <| .c2 (.ex fun vx => .reg 0 [(5, Or.cells [dU vx], 0, 0)] [0, 1, 6, 7, 8] [0] [] <| .r1 [0, 1, 6, 7, 8] [0] <| .reg 0 [] [0, 1, 6, 7, 8] [0] [.old 1] <| .r1 [0, 1, 6, 7, 8] [0] <| .bk 0 [.l (out.set (i).toNat [dU (IntKind.u32.wrap (IntKind.u64.wrap ((bitsI .u64 (· ||| ·) (IntKind.u64.wrap (rest * 2 ^ (min (32 : Int).toNat IntKind.u64.bits))) (IntKind.u64.wrap vx)).tdiv (IntKind.u64.wrap d))))]), .i ((bitsI .u64 (· ||| ·) (IntKind.u64.wrap (rest * 2 ^ (min (32 : Int).toNat IntKind.u64.bits))) (IntKind.u64.wrap vx)).tmod (IntKind.u64.wrap d)), .i (IntKind.i64.wrap (i - (1 : Int)))]) (.r1 [4, 5] [0] <| .frz [0] <| .ret []))
    (by kernel_rfl) (by kernel_rfl) (by kernel_rfl) h
def vc133 (vx : Int) (R : V → Heap → Prop) : Prop :=
 ∃ (r : Int),
 (FnD prog 135 [vD (dU vx)] (vD (dI r)) []) ∧
 (R (vD (dI (IntKind.i64.wrap ((32 : Int) - r)))) [])
theorem vc133_ok (vx : Int) {R : V → Heap → Prop} (h : vc133 vx R) : FnG prog 133 [vD (dU vx)] [] R :=
  FnG.vcg hT func133 ntmps133 (.r0 [0] <| .ex fun r => .reg 0 [(1, Or.call (vD (dI r)) [] [], 0, 0)] [2] [] [] <| .ret [])
    (by kernel_rfl) (by kernel_rfl) (by kernel_rfl) h
end Go.AM
/- Division of integers: integer.short. -/
namespace Go.AM
open Go.Proofs.Tryz
theorem or32 {r x : Nat} (hr : r < 4294967296) (hx : x < 4294967296) : bitsI .u64 (· ||| ·) ((r * 4294967296 : Nat) : Int) (x : Int) = ((r * 4294967296 + x : Nat) : Int) := by
  unfold bitsI
  have hb : IntKind.u64.bits = 64 := rfl
  have e1 : BitVec.ofInt IntKind.u64.bits ((r * 4294967296 : Nat) : Int) = BitVec.ofNat 64 (r * 4294967296) := BitVec.ofInt_natCast ..
  have e2 : BitVec.ofInt IntKind.u64.bits (x : Int) = BitVec.ofNat 64 x := BitVec.ofInt_natCast ..
  rw [e1, e2]
  have e3 : ((BitVec.ofNat 64 (r * 4294967296) ||| BitVec.ofNat 64 x : BitVec 64)).toNat = r * 4294967296 + x := by
    rw [BitVec.toNat_or, BitVec.toNat_ofNat, BitVec.toNat_ofNat, Nat.mod_eq_of_lt (by omega), Nat.mod_eq_of_lt (by omega)]
    have := Nat.shiftLeft_add_eq_or_of_lt (i := 32) (b := x) (by omega) r
    rw [Nat.shiftLeft_eq] at this
    exact this.symm
  have e4 : (((BitVec.ofNat 64 (r * 4294967296)) ||| (BitVec.ofNat 64 x) : BitVec 64).toNat : Int) = ((r * 4294967296 + x : Nat) : Int) := by rw [e3]
  exact (congrArg IntKind.u64.wrap e4).trans (wu64 (by omega) (by omega))
theorem shl32 {r : Nat} (hr : r < 4294967296) : IntKind.u64.wrap ((r : Int) * 2 ^ (min (32 : Int).toNat IntKind.u64.bits)) = ((r * 4294967296 : Nat) : Int) := by
  have : ((2 : Int) ^ (min (32 : Int).toNat IntKind.u64.bits)) = 4294967296 := by decide
  rw [this, wu64 (by omega) (by omega)]; omega
theorem short_ok {l : List Nat} {d : Nat} (hB : ∀ x ∈ l, x < 4294967296) (hl : l.length ≤ 1099511627776) (hd : 0 < d) (hd' : d < 4294967296) :
    FnD prog 127 [vs (lim l), vD (dU d)] (.tup [eD (dL (lim (sQ d l).1)), eD (dU (sQ d l).2)]) [] := by
  refine vc127_ok _ _ (R := Out _) ?_
  unfold vc127
  simp only [lim_length]
  refine ⟨⟨by omega, by omega, by omega⟩, fun out rest t => ∃ n : Nat, t = (n : Int) - 1 ∧ n ≤ l.length ∧ out = lim (List.replicate n 0 ++ (sQ d (l.drop n)).1) ∧ rest = ((sQ d (l.drop n)).2 : Nat), fun _ _ t => (t + 1).toNat,
    ⟨l.length, by rw [w64 (by omega) (by omega)], Nat.le_refl _, ?_, ?_⟩, ?_⟩
  · rw [Int.toNat_natCast, List.drop_length]; simp [sQ, lim]
  · rw [List.drop_length]; rfl
  rintro _ _ _ ⟨n, rfl, hn, rfl, rfl⟩
  refine ⟨fun h => ?_, fun h => ?_⟩
  · have h1 : 0 < n := by simp at h; omega
    obtain ⟨i, rfl⟩ : ∃ i, n = i + 1 := ⟨n - 1, by omega⟩
    have hi : i < l.length := by omega
    have ei : (((i + 1 : Nat) : Int) - 1) = (i : Int) := by omega
    have hdrop : l.drop i = l[i] :: l.drop (i + 1) := List.drop_eq_getElem_cons hi
    have hx := hB _ (List.getElem_mem hi)
    have hr := sQ_lt hd (l.drop (i + 1))
    have hs : (sQ d (l.drop i)) = (((((sQ d (l.drop (i + 1))).2 * 4294967296 + l[i]) / d) :: (sQ d (l.drop (i + 1))).1), ((sQ d (l.drop (i + 1))).2 * 4294967296 + l[i]) % d) := by rw [hdrop]; rfl
    generalize hrr : (sQ d (l.drop (i + 1))).2 = r at *
    generalize (sQ d (l.drop (i + 1))).1 = qs at *
    have hsum : r * 4294967296 + l[i] < d * 4294967296 := by
      have : (r + 1) * 4294967296 ≤ d * 4294967296 := Nat.mul_le_mul_right _ hr
      omega
    have hdiv : (r * 4294967296 + l[i]) / d < 4294967296 := by rw [Nat.div_lt_iff_lt_mul hd]; omega
    have e1 : bitsI .u64 (· ||| ·) (IntKind.u64.wrap ((r : Int) * 2 ^ (min (32 : Int).toNat IntKind.u64.bits))) (IntKind.u64.wrap ((l[i] : Nat) : Int)) = ((r * 4294967296 + l[i] : Nat) : Int) := by
      rw [shl32 (by omega), wu64 (n := ((l[i] : Nat) : Int)) (by omega) (by omega), or32 (by omega) hx]
    have e2 : IntKind.u64.wrap (d : Int) = (d : Int) := wu64 (by omega) (by omega)
    have e3 : (((r * 4294967296 + l[i] : Nat) : Int).tdiv (d : Int)) = (((r * 4294967296 + l[i]) / d : Nat) : Int) := by rw [Int.tdiv_eq_ediv_of_nonneg (by omega)]; rfl
    have e4 : (((r * 4294967296 + l[i] : Nat) : Int).tmod (d : Int)) = (((r * 4294967296 + l[i]) % d : Nat) : Int) := by rw [Int.tmod_eq_emod_of_nonneg (by omega)]; rfl
    rw [ei]
    refine ⟨((l[i] : Nat) : Int), by decide, ⟨by omega, by omega⟩, by rw [Int.toNat_natCast]; exact lim_get hi, ?_, ⟨by omega, by rw [lim_length]; simp; omega⟩, ?_⟩
    · rw [e2]; omega
    generalize (r * 4294967296 + l[i]) / d = qq at *
    generalize (r * 4294967296 + l[i]) % d = mm at *
    rw [e1, e2, e3, e4, wu64 (n := (qq : Int)) (by omega) (by omega), u32_id (by omega) (by omega), w64 (by omega) (by omega), Int.toNat_natCast, lim_set, rep_set]
    refine ⟨⟨i, by omega, by omega, ?_, ?_⟩, ?_⟩
    · rw [hs]
    · rw [hs]
    · show ((i : Int) - 1 + 1).toNat < ((i : Int) + 1).toNat; omega
  · have hn0 : n = 0 := by simp at h; omega
    subst hn0
    have hr := sQ_lt hd l
    simp only [List.drop_zero, List.replicate_zero, List.nil_append]
    rw [u32_id (by omega) (by omega)]
    exact ⟨rfl, rfl⟩
end Go.AM
/- bits.Len32, bits.LeadingZeros32. -/
namespace Go.AM
open Go.Proofs.Tryz
def blen (n : Nat) : Nat := if n = 0 then 0 else Nat.log2 n + 1
theorem blen_div {n k : Nat} (h : 2 ^ k ≤ n) : blen (n / 2 ^ k) + k = blen n := by
  have hp : 0 < 2 ^ k := Nat.pow_pos (by decide)
  have h0 : n ≠ 0 := by omega
  have h1 : n / 2 ^ k ≠ 0 := by
    have := Nat.div_pos h hp
    omega
  unfold blen
  rw [if_neg h0, if_neg h1]
  have a1 : k ≤ Nat.log2 n := (Nat.le_log2 h0).2 h
  have a2 : 2 ^ Nat.log2 n ≤ n := Nat.log2_self_le h0
  have a3 : n < 2 ^ (Nat.log2 n + 1) := Nat.lt_log2_self
  have b1 : Nat.log2 n - k ≤ Nat.log2 (n / 2 ^ k) := by
    rw [Nat.le_log2 h1, Nat.le_div_iff_mul_le hp, ← Nat.pow_add, Nat.sub_add_cancel a1]; exact a2
  have b2 : Nat.log2 (n / 2 ^ k) < Nat.log2 n - k + 1 := by
    rw [Nat.log2_lt h1, Nat.div_lt_iff_lt_mul hp, ← Nat.pow_add]
    rw [show Nat.log2 n - k + 1 + k = Nat.log2 n + 1 by omega]; exact a3
  omega
theorem blen_bounds {n : Nat} (h : n ≠ 0) : 2 ^ (blen n - 1) ≤ n ∧ n < 2 ^ blen n := by
  unfold blen
  rw [if_neg h]
  exact ⟨by simpa using Nat.log2_self_le h, Nat.lt_log2_self⟩
theorem u32_shr (x : Nat) (k : Nat) (hk : k ≤ 32) : ((x : Int)).fdiv (2 ^ (min (k : Int).toNat IntKind.u32.bits)) = ((x / 2 ^ k : Nat) : Int) := by
  have hb : IntKind.u32.bits = 32 := rfl
  rw [hb, Int.toNat_natCast, Nat.min_eq_left hk]
  rw [Int.fdiv_eq_ediv_of_nonneg _ (by exact Int.le_of_lt (Int.pow_pos (by decide)))]
  rw [show ((2 : Int) ^ k) = ((2 ^ k : Nat) : Int) by simp]
  rfl
theorem Does.cond {P : Program} {n0 : Nat} {c : Operand} {x y : Code} {σ σ' : St} {t : Bool} (hc : ev σ.t c = some (vbool t)) (h : Does P n0 (if t then x else y) σ σ') : Does P n0 (.cond c x y) σ σ' := fun ro n I M a w s =>
  wpIn_cond (relV_bool (s.ev hc)) (h ro n I M a w s)
theorem Does.skip {P : Program} {n0 : Nat} {σ : St} : Does P n0 .skip σ σ := fun _ _ I M _ _ s =>
  wpIn_skip ⟨rfl, I, M, s, Ext.refl _ _ _, fun _ h => .inl h, fun _ _ _ h => h⟩
abbrev lnT (x n : Nat) : St := ⟨[(0, vD (dU x)), (2, vD (dI n))], [], 19⟩
def lenTab : ByteArray := ⟨#[0] ++ Array.replicate 1 1 ++ Array.replicate 2 2 ++ Array.replicate 4 3 ++ Array.replicate 8 4 ++ Array.replicate 16 5 ++ Array.replicate 32 6 ++ Array.replicate 64 7 ++ Array.replicate 128 8⟩
theorem lenTab_ok : ∀ y : Fin 256, (lenTab.data[y.val]?).map (·.toNat) = some (blen y.val) := by decide +kernel
theorem lenTab_at {y : Nat} (h : y < 256) : ∃ b : UInt8, lenTab[y]? = some b ∧ b.toNat = blen y := by
  have := lenTab_ok ⟨y, h⟩
  simp only [Option.map_eq_some_iff] at this
  obtain ⟨b, h1, h2⟩ := this
  refine ⟨b, ?_, h2⟩
  rw [← h1]; rfl
theorem u9 : prog.underlying 9 = some .string := by kernel_rfl
theorem wpIn_table {n : Nat} {a : Act} {w : World} {o : Oper} {x i : Operand} {y : Nat} {next : Act → World → Prop} {Q : Exit → Act → World → Prop}
    (ho : o.op = .index 9 x i) (hx : a.eval x = .string lenTab) (hi : a.eval i = .int .u8 (y : Int)) (hy : y < 256) (h : next (a.put o.dst (.int .u8 ((blen y : Nat) : Int))) w) : o.wpIn Fence.wide n prog a w next Q := by
  obtain ⟨b, h1, h2⟩ := lenTab_at hy
  refine ⟨fun _ _ => trivial, ?_⟩
  have hrun : (o.semAt none a.eval).run prog w = .ok (.value (.int .u8 ((blen y : Nat) : Int))) w := by
    rw [Oper.semAt_none]
    obtain ⟨dst, op, ty, pos, after, guard⟩ := o
    simp only at ho
    subst ho
    simp [execOp, hx, hi, Instr.index, asIntOf, run_underlying u9, h1, h2]
  show o.uponIn Fence.wide n prog a next Q ((o.semAt none a.eval).run prog w)
  rw [hrun, Oper.uponIn_value]
  exact h
set_option maxRecDepth 100000 in
set_option maxHeartbeats 1000000 in
theorem len32_ok {x : Nat} (hx : x < 4294967296) : FnD prog 135 [vD (dU x)] (vi ((blen x : Nat) : Int)) [] := by
  refine ⟨⟨f135, func135, rfl, by kernel_rfl⟩, fun I M w vs s hr => ?_⟩
  refine (callsIn_wide (n := 0)).1 (callsIn_of_wp func135 rfl trivial ?_)
  have s0 := Sim.start (fn := f135) ntmps135 (args := [vD (dU x)]) (by simp) s hr
  refine wpIn_seq (wpIn_mono (Does.regV hT (n0 := 0) [0, 2] [] (σ' := lnT x 0) (cnt := 0) (ins := [o0]) (obs := []) (by kernel_rfl) rfl rfl (by kernel_rfl) trivial none 0 I M _ w s0) ?_)
  rintro e a1 w1 ⟨rfl, I1, M1, s1, n1⟩
  have d1 : ∃ y m : Nat, y < 65536 ∧ m ≤ 16 ∧ blen y + m = blen x ∧ (65536 ≤ x ∧ y = x / 2 ^ 16 ∧ m = 16 ∨ x < 65536 ∧ y = x ∧ m = 0) := by
    by_cases h : 65536 ≤ x
    · exact ⟨x / 2 ^ 16, 16, by omega, by omega, blen_div (by omega), .inl ⟨h, rfl, rfl⟩⟩
    · exact ⟨x, 0, by omega, by omega, rfl, .inr ⟨by omega, rfl, rfl⟩⟩
  obtain ⟨y, m, hy, hm, hb, hcase⟩ := d1
  have e16 : ((x : Int)).fdiv (2 ^ (min (16 : Int).toNat IntKind.u32.bits)) = ((x / 2 ^ 16 : Nat) : Int) := u32_shr x 16 (by decide)
  refine wpIn_seq (wpIn_mono (Does.seq (σ1 := ⟨[(0, vD (dU x)), (2, vD (dI 0)), (4, vD (dB (decide ((x : Int) ≥ 65536))))], [], 19⟩) (σ2 := lnT y m) (n0 := 0)
    (Does.regV hT [0, 2, 4] [] (cnt := 0) (ins := [o0, o0]) (obs := []) (by kernel_rfl) rfl rfl (by kernel_rfl) trivial)
    (Does.cond (t := decide ((x : Int) ≥ 65536)) rfl ?_) none 0 I1 M1 a1 w1 s1) ?_)
  · rcases hcase with ⟨h1, rfl, rfl⟩ | ⟨h1, rfl, rfl⟩
    · rw [decide_eq_true (by omega), if_pos rfl]
      refine Does.seq (σ1 := lnT (x / 2 ^ 16) 0) (by
        show Does prog 0 _ _ ⟨[(0, vD (dU ((x / 2 ^ 16 : Nat) : Int))), (2, vD (dI 0))], [], 19⟩
        rw [← e16]
        exact Does.regV hT [0, 2] [] (cnt := 0) (ins := [o0, o0, o0]) (obs := [0 ≤ (16 : Int)]) (by kernel_rfl) rfl rfl (by kernel_rfl) ⟨by decide, trivial⟩) (Does.regV hT [0, 2] [] (cnt := 0) (ins := [o0]) (obs := []) (by kernel_rfl) rfl rfl (by kernel_rfl) trivial)
    · rw [decide_eq_false (by omega), if_neg (by simp)]
      exact (Does.skip (n0 := 0)).wk (xview_ok (live := [0, 2]) (ids := []) (by kernel_rfl) rfl rfl)
  rintro e a2 w2 ⟨rfl, I2, M2, s2, n2⟩
  have d2 : ∃ z k : Nat, z < 256 ∧ k ≤ 8 ∧ blen z + k = blen y ∧ (256 ≤ y ∧ z = y / 2 ^ 8 ∧ k = 8 ∨ y < 256 ∧ z = y ∧ k = 0) := by
    by_cases h : 256 ≤ y
    · exact ⟨y / 2 ^ 8, 8, by omega, by omega, blen_div (by omega), .inl ⟨h, rfl, rfl⟩⟩
    · exact ⟨y, 0, by omega, by omega, rfl, .inr ⟨by omega, rfl, rfl⟩⟩
  obtain ⟨z, k, hz, hk, hb2, hcase2⟩ := d2
  have e8 : ((y : Int)).fdiv (2 ^ (min (8 : Int).toNat IntKind.u32.bits)) = ((y / 2 ^ 8 : Nat) : Int) := u32_shr y 8 (by decide)
  have em : IntKind.i64.wrap ((m : Int) + 8) = ((m + 8 : Nat) : Int) := by rw [w64 (by omega) (by omega)]; omega
  refine wpIn_seq (wpIn_mono (Does.seq (σ1 := ⟨[(0, vD (dU y)), (2, vD (dI m)), (8, vD (dB (decide ((y : Int) ≥ 256))))], [], 19⟩) (σ2 := lnT z (m + k)) (n0 := 0)
    (Does.regV hT [0, 2, 8] [] (cnt := 0) (ins := [o0, o0]) (obs := []) (by kernel_rfl) rfl rfl (by kernel_rfl) trivial)
    (Does.cond (t := decide ((y : Int) ≥ 256)) rfl ?_) none 0 I2 M2 a2 w2 s2) ?_)
  · clear hcase
    rcases hcase2 with ⟨h1, rfl, rfl⟩ | ⟨h1, rfl, rfl⟩
    · rw [decide_eq_true (by omega), if_pos rfl]
      refine Does.seq (σ1 := lnT (y / 2 ^ 8) m) (by
        show Does prog 0 _ _ ⟨[(0, vD (dU ((y / 2 ^ 8 : Nat) : Int))), (2, vD (dI m))], [], 19⟩
        rw [← e8]
        exact Does.regV hT [0, 2] [] (cnt := 0) (ins := [o0, o0, o0]) (obs := [0 ≤ (8 : Int)]) (by kernel_rfl) rfl rfl (by kernel_rfl) ⟨by decide, trivial⟩) (by
        show Does prog 0 _ _ ⟨[(0, vD (dU ((y / 2 ^ 8 : Nat) : Int))), (2, vD (dI ((m + 8 : Nat) : Int)))], [], 19⟩
        rw [← em]
        exact Does.regV hT [0, 2] [] (cnt := 0) (ins := [o0, o0, o0]) (obs := []) (by kernel_rfl) rfl rfl (by kernel_rfl) trivial)
    · rw [decide_eq_false (by omega), if_neg (by simp)]
      exact (Does.skip (n0 := 0)).wk (xview_ok (live := [0, 2]) (ids := []) (by kernel_rfl) rfl rfl)
  rintro e a3 w3 ⟨rfl, I3, M3, s3, n3⟩
  have ez : IntKind.u8.wrap (z : Int) = (z : Int) := by show (z : Int) % 256 = z; omega
  have hbz : blen z ≤ 8 := by
    unfold blen
    split
    · omega
    · rename_i h0
      have := (Nat.log2_lt (k := 8) h0).2 (by omega)
      omega
  refine wpIn_seq (wpIn_region (xpart_ok (k := 0) (c := 3) (rest := [3, 4, 5, 6]) hT (ins := [o0, o0, o0]) (live := [13, 15]) (σ' := ⟨[(13, vD (dI ((m + k : Nat) : Int))), (15, vD (D.int .u8 (IntKind.u8.wrap (z : Int))))], [], 19⟩) (obs := []) (by kernel_rfl) trivial s3 ?_))
  intro a4 w4 I4 M4 s4 n4
  have h15 : a4.eval (.tmp 15) = .int .u8 (z : Int) := by
    have h : Reads w4 I4 (a4.tmps.getD 15 undef) (.int .u8 (IntKind.u8.wrap (z : Int))) := s4.tm 15 (vD (D.int .u8 (IntKind.u8.wrap (z : Int)))) (by simp)
    rw [ez] at h
    show a4.tmps.getD 15 undef = _
    generalize a4.tmps.getD 15 undef = q at h
    cases h; rfl
  refine wpOpsIn_one rfl rfl (wpIn_table rfl (by kernel_rfl) h15 hz ?_)
  have s5 : Sim I4 M4 ⟨[(13, vD (dI ((m + k : Nat) : Int))), (16, vD (D.int .u8 ((blen z : Nat) : Int)))], [], 19⟩ (a4.put (some 16) (.int .u8 ((blen z : Nat) : Int))) w4 := by
    have hsz : a4.tmps.size = 19 := s4.size
    refine { toSimH := s4.toSimH, tm := fun i v hv => ?_, size := by simp [Act.put, hsz], defers := s4.defers }
    simp only [List.mem_cons, Prod.mk.injEq, List.not_mem_nil, or_false] at hv
    rcases hv with ⟨rfl, rfl⟩ | ⟨rfl, rfl⟩
    · have : (a4.put (some 16) (.int .u8 ((blen z : Nat) : Int))).tmps.getD 13 undef = a4.tmps.getD 13 undef := by simp [Act.put, Array.getD_eq_getD_getElem?]
      rw [this]; exact s4.tm 13 _ (by simp)
    · have : (a4.put (some 16) (.int .u8 ((blen z : Nat) : Int))).tmps.getD 16 undef = .int .u8 ((blen z : Nat) : Int) := by simp [Act.put, Array.getD_eq_getD_getElem?, hsz]
      rw [this]; exact Reads.int _ _
  refine xpart_ok (k := 4) (c := 3) (rest := []) hT (ins := [o0, o0, o0]) (live := [2]) (σ' := ⟨[(2, vD (dI (IntKind.i64.wrap (((m + k : Nat) : Int) + IntKind.i64.wrap ((blen z : Nat) : Int)))))], [], 19⟩) (obs := []) (by kernel_rfl) trivial s5 ?_
  intro a6 w6 I6 M6 s6 n6
  refine wpIn_ret ?_
  have er : IntKind.i64.wrap (((m + k : Nat) : Int) + IntKind.i64.wrap ((blen z : Nat) : Int)) = ((blen x : Nat) : Int) := by
    rw [w64 (n := ((blen z : Nat) : Int)) (by omega) (by omega), w64 (by omega) (by omega)]; omega
  rw [er] at s6
  obtain ⟨u, h1, h2⟩ := results_ok hT s6 (fn := f135) (r := vi ((blen x : Nat) : Int)) (by kernel_rfl)
  have no0 : ∀ {M : Mem} b, ¬ fpAll M [] b := fun b ⟨o, ho⟩ => by simp [fpAt] at ho
  have nA := (((n1.trans n2).trans n3).trans n4).trans ⟨n6.ext, n6.fp, n6.mono⟩
  refine ⟨s6.defers, u, h1, u, _, [], I6, M6, rfl, ⟨rfl, rfl⟩, h2, s6.toSimH, nA.ext, fun b hb => absurd hb (no0 b), fun o e ho => by simp at ho⟩
theorem blen_le {x k : Nat} (h : x < 2 ^ k) : blen x ≤ k := by
  unfold blen
  split
  · omega
  · rename_i h0
    have := (Nat.log2_lt (k := k) h0).2 h
    omega
theorem lz32_ok {x : Nat} (hx : x < 4294967296) : FnD prog 133 [vD (dU x)] (vi ((32 - blen x : Nat) : Int)) [] := by
  refine vc133_ok _ (R := Out _) ?_
  unfold vc133
  have h := blen_le (k := 32) hx
  refine ⟨_, len32_ok hx, outi ?_⟩
  rw [w64 (by omega) (by omega)]; omega
theorem lz_top {x : Nat} (h0 : x ≠ 0) (hx : x < 4294967296) : 2147483648 ≤ x * 2 ^ (32 - blen x) ∧ x * 2 ^ (32 - blen x) < 4294967296 := by
  obtain ⟨h1, h2⟩ := blen_bounds h0
  have h3 := blen_le (k := 32) hx
  have h4 : 0 < blen x := by unfold blen; rw [if_neg h0]; omega
  have e1 : 2 ^ (blen x - 1) * 2 ^ (32 - blen x) = 2147483648 := by rw [← Nat.pow_add, show blen x - 1 + (32 - blen x) = 31 by omega]
  have e2 : 2 ^ blen x * 2 ^ (32 - blen x) = 4294967296 := by rw [← Nat.pow_add, show blen x + (32 - blen x) = 32 by omega]
  have p : 0 < 2 ^ (32 - blen x) := Nat.pow_pos (by decide)
  exact ⟨by rw [← e1]; exact Nat.mul_le_mul_right _ h1, by rw [← e2]; exact Nat.mul_lt_mul_of_pos_right h2 p⟩
end Go.AM
/- What functions of the program come to: group Oj. Printed by vc.py. -/
set_option maxRecDepth 100000
set_option linter.unusedVariables false
namespace Go.AM
open Go.Proofs.Tryz
def vc134o (a : List (List D)) (k : Int) (R : V → Heap → Prop) : Prop :=
 (0 ≤ (IntKind.i64.wrap ((a.length : Int) + (1 : Int))) ∧ (IntKind.i64.wrap ((a.length : Int) + (1 : Int))) ≤ (IntKind.i64.wrap ((a.length : Int) + (1 : Int))) ∧ (IntKind.i64.wrap ((a.length : Int) + (1 : Int))) * (4 : Nat) ≤ 281474976710656) ∧
 (∃ (J0 : (List (List D)) → Int → Prop) (μ0 : (List (List D)) → Int → Nat),
 J0 (List.replicate ((IntKind.i64.wrap ((a.length : Int) + (1 : Int)))).toNat [dU (0 : Int)]) (0 : Int) ∧ ∀ (out : List (List D)) (t15 : Int), J0 out t15 →
 (decide (t15 < (a.length : Int)) = true →
 ∃ (vx : Int),
 (0 ≤ t15 ∧ t15 < (a.length : Int)) ∧
 (a[(t15).toNat]? = some [dU vx]) ∧
 ((0 ≤ k) ∧
 (∃ (vx1 : Int),
 (0 ≤ t15 ∧ t15 < (out.length : Int)) ∧
 (out[(t15).toNat]? = some [dU vx1]) ∧
 ((0 ≤ (32 : Int)) ∧
 (0 ≤ (IntKind.i64.wrap (t15 + (1 : Int))) ∧ (IntKind.i64.wrap (t15 + (1 : Int))) < ((out.set (t15).toNat [dU (bitsI .u32 (· ||| ·) vx1 (IntKind.u32.wrap (IntKind.u64.wrap ((IntKind.u64.wrap vx) * 2 ^ (min k.toNat IntKind.u64.bits)))))]).length : Int)) ∧
 (J0 ((out.set (t15).toNat [dU (bitsI .u32 (· ||| ·) vx1 (IntKind.u32.wrap (IntKind.u64.wrap ((IntKind.u64.wrap vx) * 2 ^ (min k.toNat IntKind.u64.bits)))))]).set ((IntKind.i64.wrap (t15 + (1 : Int)))).toNat [dU (IntKind.u32.wrap ((IntKind.u64.wrap ((IntKind.u64.wrap vx) * 2 ^ (min k.toNat IntKind.u64.bits))).fdiv (2 ^ (min (32 : Int).toNat IntKind.u64.bits))))]) (IntKind.i64.wrap (t15 + (1 : Int))) ∧ μ0 ((out.set (t15).toNat [dU (bitsI .u32 (· ||| ·) vx1 (IntKind.u32.wrap (IntKind.u64.wrap ((IntKind.u64.wrap vx) * 2 ^ (min k.toNat IntKind.u64.bits)))))]).set ((IntKind.i64.wrap (t15 + (1 : Int)))).toNat [dU (IntKind.u32.wrap ((IntKind.u64.wrap ((IntKind.u64.wrap vx) * 2 ^ (min k.toNat IntKind.u64.bits))).fdiv (2 ^ (min (32 : Int).toNat IntKind.u64.bits))))]) (IntKind.i64.wrap (t15 + (1 : Int))) < μ0 out t15))))) ∧
 (decide (t15 < (a.length : Int)) = false →
 R (V.e (E.sc (S.ref 0))) [some (Obj.arr 1 out)]))
theorem vc134o_ok (a : List (List D)) (k : Int) {R : V → Heap → Prop} (h : vc134o a k R) : FnG prog 134 [vD (dL a), vD (dI k)] [] R :=
  FnG.vcg hT func134 ntmps134 (.r0 [0, 1] <| .reg 1 [(3, Or.none, 0, 1)] [0, 1, 5] [0] [] <| .r1 [1, 5, 13, 14, 15] [0] <| .lp [.l, .i] (fun out t15 => ⟨[(1, vD (dI k)), (5, vR 0), (13, vD (dL a)), (14, vD (dI (a.length : Int))), (15, vD (dI t15))], [some (Obj.arr 1 out)], 41⟩) [.l (List.replicate ((IntKind.i64.wrap ((a.length : Int) + (1 : Int)))).toNat [dU (0 : Int)]), .i (0 : Int)] <| .fl fun out => .fi fun t15 => .beg <| .r1 [1, 5, 13, 14, 15, 16] [0] <| .c2 (.ex fun vx => .reg 0 [(2, Or.cells [dU vx], 0, 0)] [1, 5, 6, 7, 13, 14, 15] [0] [] <| .r1 [1, 5, 6, 8, 13, 14, 15] [0] <| .ex fun vx1 => .reg 0 [(3, Or.cells [dU vx1], 0, 0)] [1, 5, 6, 8, 13, 14, 15] [0] [.new, .new, .old 1] <| .r1 [1, 5, 13, 14, 15] [0] <| .r1 [1, 5, 13, 14, 15] [0] <| .bk 0 [.l ((out.set (t15).toNat [dU (bitsI .u32 (· ||| ·) vx1 (IntKind.u32.wrap (IntKind.u64.wrap ((IntKind.u64.wrap vx) * 2 ^ (min k.toNat IntKind.u64.bits)))))]).set ((IntKind.i64.wrap (t15 + (1 : Int)))).toNat [dU (IntKind.u32.wrap ((IntKind.u64.wrap ((IntKind.u64.wrap vx) * 2 ^ (min k.toNat IntKind.u64.bits))).fdiv (2 ^ (min (32 : Int).toNat IntKind.u64.bits))))]), .i (IntKind.i64.wrap (t15 + (1 : Int)))]) (.r1 [4] [0] <| .ret [0]))
    (by kernel_rfl) (by kernel_rfl) (by kernel_rfl) h
def vc128 (a b : List (List D)) (R : V → Heap → Prop) : Prop :=
 ∃ (vx r : Int),
 (0 ≤ (IntKind.i64.wrap ((b.length : Int) - (1 : Int))) ∧ (IntKind.i64.wrap ((b.length : Int) - (1 : Int))) < (b.length : Int)) ∧
 (b[((IntKind.i64.wrap ((b.length : Int) - (1 : Int)))).toNat]? = some [dU vx]) ∧
 (FnD prog 133 [vD (dU vx)] (vD (dI r)) []) ∧
 (∃ (rrow rrow1 : List (List D)),
 (FnD prog 134 [vD (dL a), vD (dI r)] (V.e (E.sc (S.ref 0))) [some (Obj.arr 1 rrow)]) ∧
 (FnD prog 134 [vD (dL b), vD (dI r)] (V.e (E.sc (S.ref 0))) [some (Obj.arr 1 rrow1)]) ∧
 (0 ≤ (b.length : Int) ∧ (b.length : Int) ≤ (rrow1.length : Int)) ∧
 ((0 ≤ (IntKind.i64.wrap ((rrow.length : Int) - ((rrow1.take ((b.length : Int)).toNat).length : Int))) ∧ (IntKind.i64.wrap ((rrow.length : Int) - ((rrow1.take ((b.length : Int)).toNat).length : Int))) ≤ (IntKind.i64.wrap ((rrow.length : Int) - ((rrow1.take ((b.length : Int)).toNat).length : Int))) ∧ (IntKind.i64.wrap ((rrow.length : Int) - ((rrow1.take ((b.length : Int)).toNat).length : Int))) * (4 : Nat) ≤ 281474976710656) ∧
 (∃ (J0 : (List (List D)) → (List (List D)) → Int → Prop) (μ0 : (List (List D)) → (List (List D)) → Int → Nat),
 J0 (List.replicate ((IntKind.i64.wrap ((rrow.length : Int) - ((rrow1.take ((b.length : Int)).toNat).length : Int)))).toNat [dU (0 : Int)]) rrow (IntKind.i64.wrap ((IntKind.i64.wrap ((rrow.length : Int) - ((rrow1.take ((b.length : Int)).toNat).length : Int))) - (1 : Int))) ∧ ∀ (q u : List (List D)) (i : Int), J0 q u i →
 (decide (i ≥ (0 : Int)) = true →
 ∃ (vx1 vx2 : Int),
 (0 ≤ (IntKind.i64.wrap (i + ((rrow1.take ((b.length : Int)).toNat).length : Int))) ∧ (IntKind.i64.wrap (i + ((rrow1.take ((b.length : Int)).toNat).length : Int))) < (u.length : Int)) ∧
 (u[((IntKind.i64.wrap (i + ((rrow1.take ((b.length : Int)).toNat).length : Int)))).toNat]? = some [dU vx1]) ∧
 (0 ≤ (32 : Int)) ∧
 (0 ≤ (IntKind.i64.wrap ((IntKind.i64.wrap (i + ((rrow1.take ((b.length : Int)).toNat).length : Int))) - (1 : Int))) ∧ (IntKind.i64.wrap ((IntKind.i64.wrap (i + ((rrow1.take ((b.length : Int)).toNat).length : Int))) - (1 : Int))) < (u.length : Int)) ∧
 (u[((IntKind.i64.wrap ((IntKind.i64.wrap (i + ((rrow1.take ((b.length : Int)).toNat).length : Int))) - (1 : Int)))).toNat]? = some [dU vx2]) ∧
 (∃ (vx3 : Int),
 (0 ≤ (IntKind.i64.wrap (((rrow1.take ((b.length : Int)).toNat).length : Int) - (1 : Int))) ∧ (IntKind.i64.wrap (((rrow1.take ((b.length : Int)).toNat).length : Int) - (1 : Int))) < ((rrow1.take ((b.length : Int)).toNat).length : Int)) ∧
 ((rrow1.take ((b.length : Int)).toNat)[((IntKind.i64.wrap (((rrow1.take ((b.length : Int)).toNat).length : Int) - (1 : Int)))).toNat]? = some [dU vx3]) ∧
 ((IntKind.u64.wrap vx3) ≠ 0) ∧
 (∃ (J1 : Int → Int → Prop) (μ1 : Int → Int → Nat),
 J1 (IntKind.u64.wrap ((bitsI .u64 (· ||| ·) (IntKind.u64.wrap ((IntKind.u64.wrap vx1) * 2 ^ (min (32 : Int).toNat IntKind.u64.bits))) (IntKind.u64.wrap vx2)).tdiv (IntKind.u64.wrap vx3))) ((bitsI .u64 (· ||| ·) (IntKind.u64.wrap ((IntKind.u64.wrap vx1) * 2 ^ (min (32 : Int).toNat IntKind.u64.bits))) (IntKind.u64.wrap vx2)).tmod (IntKind.u64.wrap vx3)) ∧ ∀ (guess rest : Int), J1 guess rest →
 (decide (guess > (4294967295 : Int)) = true →
 ((decide ((IntKind.u64.wrap (rest + (IntKind.u64.wrap vx3))) > (4294967295 : Int))) = true →
 ∃ (J2 : (List (List D)) → Int → Int → Int → Prop) (μ2 : (List (List D)) → Int → Int → Int → Nat),
 J2 u (0 : Int) (0 : Int) (0 : Int) ∧ ∀ (u1 : List (List D)) (t127 carry borrow : Int), J2 u1 t127 carry borrow →
 ((decide (t127 < ((rrow1.take ((b.length : Int)).toNat).length : Int))) = true →
 ∃ (vx4 : Int),
 (0 ≤ t127 ∧ t127 < ((rrow1.take ((b.length : Int)).toNat).length : Int)) ∧
 ((rrow1.take ((b.length : Int)).toNat)[(t127).toNat]? = some [dU vx4]) ∧
 (∃ (vx5 : Int),
 (0 ≤ (IntKind.i64.wrap (i + t127)) ∧ (IntKind.i64.wrap (i + t127)) < (u1.length : Int)) ∧
 (u1[((IntKind.i64.wrap (i + t127))).toNat]? = some [dU vx5]) ∧
 ((0 ≤ (63 : Int)) ∧
 (J2 (u1.set ((IntKind.i64.wrap (i + t127))).toNat [dU (IntKind.u32.wrap (IntKind.u64.wrap ((IntKind.u64.wrap ((IntKind.u64.wrap vx5) - (IntKind.u64.wrap (IntKind.u32.wrap (IntKind.u64.wrap (carry + (IntKind.u64.wrap ((IntKind.u64.wrap (guess - (1 : Int))) * (IntKind.u64.wrap vx4))))))))) - borrow)))]) (IntKind.i64.wrap (t127 + (1 : Int))) ((IntKind.u64.wrap (carry + (IntKind.u64.wrap ((IntKind.u64.wrap (guess - (1 : Int))) * (IntKind.u64.wrap vx4))))).fdiv (2 ^ (min (32 : Int).toNat IntKind.u64.bits))) ((IntKind.u64.wrap ((IntKind.u64.wrap ((IntKind.u64.wrap vx5) - (IntKind.u64.wrap (IntKind.u32.wrap (IntKind.u64.wrap (carry + (IntKind.u64.wrap ((IntKind.u64.wrap (guess - (1 : Int))) * (IntKind.u64.wrap vx4))))))))) - borrow)).fdiv (2 ^ (min (63 : Int).toNat IntKind.u64.bits))) ∧ μ2 (u1.set ((IntKind.i64.wrap (i + t127))).toNat [dU (IntKind.u32.wrap (IntKind.u64.wrap ((IntKind.u64.wrap ((IntKind.u64.wrap vx5) - (IntKind.u64.wrap (IntKind.u32.wrap (IntKind.u64.wrap (carry + (IntKind.u64.wrap ((IntKind.u64.wrap (guess - (1 : Int))) * (IntKind.u64.wrap vx4))))))))) - borrow)))]) (IntKind.i64.wrap (t127 + (1 : Int))) ((IntKind.u64.wrap (carry + (IntKind.u64.wrap ((IntKind.u64.wrap (guess - (1 : Int))) * (IntKind.u64.wrap vx4))))).fdiv (2 ^ (min (32 : Int).toNat IntKind.u64.bits))) ((IntKind.u64.wrap ((IntKind.u64.wrap ((IntKind.u64.wrap vx5) - (IntKind.u64.wrap (IntKind.u32.wrap (IntKind.u64.wrap (carry + (IntKind.u64.wrap ((IntKind.u64.wrap (guess - (1 : Int))) * (IntKind.u64.wrap vx4))))))))) - borrow)).fdiv (2 ^ (min (63 : Int).toNat IntKind.u64.bits))) < μ2 u1 t127 carry borrow)))) ∧
 ((decide (t127 < ((rrow1.take ((b.length : Int)).toNat).length : Int))) = false →
 ∃ (vx6 : Int),
 (0 ≤ (IntKind.i64.wrap (i + ((rrow1.take ((b.length : Int)).toNat).length : Int))) ∧ (IntKind.i64.wrap (i + ((rrow1.take ((b.length : Int)).toNat).length : Int))) < (u1.length : Int)) ∧
 (u1[((IntKind.i64.wrap (i + ((rrow1.take ((b.length : Int)).toNat).length : Int)))).toNat]? = some [dU vx6]) ∧
 ((0 ≤ (63 : Int)) ∧
 (((((IntKind.u64.wrap ((IntKind.u64.wrap ((IntKind.u64.wrap vx6) - carry)) - borrow)).fdiv (2 ^ (min (63 : Int).toNat IntKind.u64.bits))) == (1 : Int)) = true →
 ∃ (J3 : (List (List D)) → Int → Int → Prop) (μ3 : (List (List D)) → Int → Int → Nat),
 J3 (u1.set ((IntKind.i64.wrap (i + ((rrow1.take ((b.length : Int)).toNat).length : Int)))).toNat [dU (IntKind.u32.wrap (IntKind.u64.wrap ((IntKind.u64.wrap ((IntKind.u64.wrap vx6) - carry)) - borrow)))]) (0 : Int) (0 : Int) ∧ ∀ (u2 : List (List D)) (t188 c : Int), J3 u2 t188 c →
 ((decide (t188 < ((rrow1.take ((b.length : Int)).toNat).length : Int))) = true →
 ∃ (vx7 : Int),
 (0 ≤ t188 ∧ t188 < ((rrow1.take ((b.length : Int)).toNat).length : Int)) ∧
 ((rrow1.take ((b.length : Int)).toNat)[(t188).toNat]? = some [dU vx7]) ∧
 (∃ (vx8 r1 r2 : Int),
 (0 ≤ (IntKind.i64.wrap (i + t188)) ∧ (IntKind.i64.wrap (i + t188)) < (u2.length : Int)) ∧
 (u2[((IntKind.i64.wrap (i + t188))).toNat]? = some [dU vx8]) ∧
 (FnD prog 130 [vD (dU vx8), vD (dU vx7), vD (dU c)] (V.tup [eD (dU r1), eD (dU r2)]) []) ∧
 (J3 (u2.set ((IntKind.i64.wrap (i + t188))).toNat [dU r1]) (IntKind.i64.wrap (t188 + (1 : Int))) r2 ∧ μ3 (u2.set ((IntKind.i64.wrap (i + t188))).toNat [dU r1]) (IntKind.i64.wrap (t188 + (1 : Int))) r2 < μ3 u2 t188 c))) ∧
 ((decide (t188 < ((rrow1.take ((b.length : Int)).toNat).length : Int))) = false →
 ∃ (vx9 : Int),
 (0 ≤ (IntKind.i64.wrap (i + ((rrow1.take ((b.length : Int)).toNat).length : Int))) ∧ (IntKind.i64.wrap (i + ((rrow1.take ((b.length : Int)).toNat).length : Int))) < (u2.length : Int)) ∧
 (u2[((IntKind.i64.wrap (i + ((rrow1.take ((b.length : Int)).toNat).length : Int)))).toNat]? = some [dU vx9]) ∧
 ((0 ≤ i ∧ i < (q.length : Int)) ∧
 (J0 (q.set (i).toNat [dU (IntKind.u32.wrap (IntKind.u64.wrap ((IntKind.u64.wrap (guess - (1 : Int))) - (1 : Int))))]) (u2.set ((IntKind.i64.wrap (i + ((rrow1.take ((b.length : Int)).toNat).length : Int)))).toNat [dU (IntKind.u32.wrap (vx9 + c))]) (IntKind.i64.wrap (i - (1 : Int))) ∧ μ0 (q.set (i).toNat [dU (IntKind.u32.wrap (IntKind.u64.wrap ((IntKind.u64.wrap (guess - (1 : Int))) - (1 : Int))))]) (u2.set ((IntKind.i64.wrap (i + ((rrow1.take ((b.length : Int)).toNat).length : Int)))).toNat [dU (IntKind.u32.wrap (vx9 + c))]) (IntKind.i64.wrap (i - (1 : Int))) < μ0 q u i)))) ∧
 ((((IntKind.u64.wrap ((IntKind.u64.wrap ((IntKind.u64.wrap vx6) - carry)) - borrow)).fdiv (2 ^ (min (63 : Int).toNat IntKind.u64.bits))) == (1 : Int)) = false →
 (0 ≤ i ∧ i < (q.length : Int)) ∧
 (J0 (q.set (i).toNat [dU (IntKind.u32.wrap (IntKind.u64.wrap (guess - (1 : Int))))]) (u1.set ((IntKind.i64.wrap (i + ((rrow1.take ((b.length : Int)).toNat).length : Int)))).toNat [dU (IntKind.u32.wrap (IntKind.u64.wrap ((IntKind.u64.wrap ((IntKind.u64.wrap vx6) - carry)) - borrow)))]) (IntKind.i64.wrap (i - (1 : Int))) ∧ μ0 (q.set (i).toNat [dU (IntKind.u32.wrap (IntKind.u64.wrap (guess - (1 : Int))))]) (u1.set ((IntKind.i64.wrap (i + ((rrow1.take ((b.length : Int)).toNat).length : Int)))).toNat [dU (IntKind.u32.wrap (IntKind.u64.wrap ((IntKind.u64.wrap ((IntKind.u64.wrap vx6) - carry)) - borrow)))]) (IntKind.i64.wrap (i - (1 : Int))) < μ0 q u i)))))) ∧
 ((decide ((IntKind.u64.wrap (rest + (IntKind.u64.wrap vx3))) > (4294967295 : Int))) = false →
 J1 (IntKind.u64.wrap (guess - (1 : Int))) (IntKind.u64.wrap (rest + (IntKind.u64.wrap vx3))) ∧ μ1 (IntKind.u64.wrap (guess - (1 : Int))) (IntKind.u64.wrap (rest + (IntKind.u64.wrap vx3))) < μ1 guess rest)) ∧
 (decide (guess > (4294967295 : Int)) = false →
 ∃ (vx10 vx11 : Int),
 (0 ≤ (IntKind.i64.wrap (((rrow1.take ((b.length : Int)).toNat).length : Int) - (2 : Int))) ∧ (IntKind.i64.wrap (((rrow1.take ((b.length : Int)).toNat).length : Int) - (2 : Int))) < ((rrow1.take ((b.length : Int)).toNat).length : Int)) ∧
 ((rrow1.take ((b.length : Int)).toNat)[((IntKind.i64.wrap (((rrow1.take ((b.length : Int)).toNat).length : Int) - (2 : Int)))).toNat]? = some [dU vx10]) ∧
 (0 ≤ (IntKind.i64.wrap ((IntKind.i64.wrap (i + ((rrow1.take ((b.length : Int)).toNat).length : Int))) - (2 : Int))) ∧ (IntKind.i64.wrap ((IntKind.i64.wrap (i + ((rrow1.take ((b.length : Int)).toNat).length : Int))) - (2 : Int))) < (u.length : Int)) ∧
 (u[((IntKind.i64.wrap ((IntKind.i64.wrap (i + ((rrow1.take ((b.length : Int)).toNat).length : Int))) - (2 : Int)))).toNat]? = some [dU vx11]) ∧
 (((decide ((IntKind.u64.wrap (guess * (IntKind.u64.wrap vx10))) > (bitsI .u64 (· ||| ·) (IntKind.u64.wrap (rest * 2 ^ (min (32 : Int).toNat IntKind.u64.bits))) (IntKind.u64.wrap vx11)))) = true →
 ((decide ((IntKind.u64.wrap (rest + (IntKind.u64.wrap vx3))) > (4294967295 : Int))) = true →
 ∃ (J4 : (List (List D)) → Int → Int → Int → Prop) (μ4 : (List (List D)) → Int → Int → Int → Nat),
 J4 u (0 : Int) (0 : Int) (0 : Int) ∧ ∀ (u3 : List (List D)) (t1271 carry1 borrow1 : Int), J4 u3 t1271 carry1 borrow1 →
 ((decide (t1271 < ((rrow1.take ((b.length : Int)).toNat).length : Int))) = true →
 ∃ (vx12 : Int),
 (0 ≤ t1271 ∧ t1271 < ((rrow1.take ((b.length : Int)).toNat).length : Int)) ∧
 ((rrow1.take ((b.length : Int)).toNat)[(t1271).toNat]? = some [dU vx12]) ∧
 (∃ (vx13 : Int),
 (0 ≤ (IntKind.i64.wrap (i + t1271)) ∧ (IntKind.i64.wrap (i + t1271)) < (u3.length : Int)) ∧
 (u3[((IntKind.i64.wrap (i + t1271))).toNat]? = some [dU vx13]) ∧
 ((0 ≤ (63 : Int)) ∧
 (J4 (u3.set ((IntKind.i64.wrap (i + t1271))).toNat [dU (IntKind.u32.wrap (IntKind.u64.wrap ((IntKind.u64.wrap ((IntKind.u64.wrap vx13) - (IntKind.u64.wrap (IntKind.u32.wrap (IntKind.u64.wrap (carry1 + (IntKind.u64.wrap ((IntKind.u64.wrap (guess - (1 : Int))) * (IntKind.u64.wrap vx12))))))))) - borrow1)))]) (IntKind.i64.wrap (t1271 + (1 : Int))) ((IntKind.u64.wrap (carry1 + (IntKind.u64.wrap ((IntKind.u64.wrap (guess - (1 : Int))) * (IntKind.u64.wrap vx12))))).fdiv (2 ^ (min (32 : Int).toNat IntKind.u64.bits))) ((IntKind.u64.wrap ((IntKind.u64.wrap ((IntKind.u64.wrap vx13) - (IntKind.u64.wrap (IntKind.u32.wrap (IntKind.u64.wrap (carry1 + (IntKind.u64.wrap ((IntKind.u64.wrap (guess - (1 : Int))) * (IntKind.u64.wrap vx12))))))))) - borrow1)).fdiv (2 ^ (min (63 : Int).toNat IntKind.u64.bits))) ∧ μ4 (u3.set ((IntKind.i64.wrap (i + t1271))).toNat [dU (IntKind.u32.wrap (IntKind.u64.wrap ((IntKind.u64.wrap ((IntKind.u64.wrap vx13) - (IntKind.u64.wrap (IntKind.u32.wrap (IntKind.u64.wrap (carry1 + (IntKind.u64.wrap ((IntKind.u64.wrap (guess - (1 : Int))) * (IntKind.u64.wrap vx12))))))))) - borrow1)))]) (IntKind.i64.wrap (t1271 + (1 : Int))) ((IntKind.u64.wrap (carry1 + (IntKind.u64.wrap ((IntKind.u64.wrap (guess - (1 : Int))) * (IntKind.u64.wrap vx12))))).fdiv (2 ^ (min (32 : Int).toNat IntKind.u64.bits))) ((IntKind.u64.wrap ((IntKind.u64.wrap ((IntKind.u64.wrap vx13) - (IntKind.u64.wrap (IntKind.u32.wrap (IntKind.u64.wrap (carry1 + (IntKind.u64.wrap ((IntKind.u64.wrap (guess - (1 : Int))) * (IntKind.u64.wrap vx12))))))))) - borrow1)).fdiv (2 ^ (min (63 : Int).toNat IntKind.u64.bits))) < μ4 u3 t1271 carry1 borrow1)))) ∧
 ((decide (t1271 < ((rrow1.take ((b.length : Int)).toNat).length : Int))) = false →
 ∃ (vx14 : Int),
 (0 ≤ (IntKind.i64.wrap (i + ((rrow1.take ((b.length : Int)).toNat).length : Int))) ∧ (IntKind.i64.wrap (i + ((rrow1.take ((b.length : Int)).toNat).length : Int))) < (u3.length : Int)) ∧
 (u3[((IntKind.i64.wrap (i + ((rrow1.take ((b.length : Int)).toNat).length : Int)))).toNat]? = some [dU vx14]) ∧
 ((0 ≤ (63 : Int)) ∧
 (((((IntKind.u64.wrap ((IntKind.u64.wrap ((IntKind.u64.wrap vx14) - carry1)) - borrow1)).fdiv (2 ^ (min (63 : Int).toNat IntKind.u64.bits))) == (1 : Int)) = true →
 ∃ (J5 : (List (List D)) → Int → Int → Prop) (μ5 : (List (List D)) → Int → Int → Nat),
 J5 (u3.set ((IntKind.i64.wrap (i + ((rrow1.take ((b.length : Int)).toNat).length : Int)))).toNat [dU (IntKind.u32.wrap (IntKind.u64.wrap ((IntKind.u64.wrap ((IntKind.u64.wrap vx14) - carry1)) - borrow1)))]) (0 : Int) (0 : Int) ∧ ∀ (u4 : List (List D)) (t1881 c1 : Int), J5 u4 t1881 c1 →
 ((decide (t1881 < ((rrow1.take ((b.length : Int)).toNat).length : Int))) = true →
 ∃ (vx15 : Int),
 (0 ≤ t1881 ∧ t1881 < ((rrow1.take ((b.length : Int)).toNat).length : Int)) ∧
 ((rrow1.take ((b.length : Int)).toNat)[(t1881).toNat]? = some [dU vx15]) ∧
 (∃ (vx16 r3 r4 : Int),
 (0 ≤ (IntKind.i64.wrap (i + t1881)) ∧ (IntKind.i64.wrap (i + t1881)) < (u4.length : Int)) ∧
 (u4[((IntKind.i64.wrap (i + t1881))).toNat]? = some [dU vx16]) ∧
 (FnD prog 130 [vD (dU vx16), vD (dU vx15), vD (dU c1)] (V.tup [eD (dU r3), eD (dU r4)]) []) ∧
 (J5 (u4.set ((IntKind.i64.wrap (i + t1881))).toNat [dU r3]) (IntKind.i64.wrap (t1881 + (1 : Int))) r4 ∧ μ5 (u4.set ((IntKind.i64.wrap (i + t1881))).toNat [dU r3]) (IntKind.i64.wrap (t1881 + (1 : Int))) r4 < μ5 u4 t1881 c1))) ∧
 ((decide (t1881 < ((rrow1.take ((b.length : Int)).toNat).length : Int))) = false →
 ∃ (vx17 : Int),
 (0 ≤ (IntKind.i64.wrap (i + ((rrow1.take ((b.length : Int)).toNat).length : Int))) ∧ (IntKind.i64.wrap (i + ((rrow1.take ((b.length : Int)).toNat).length : Int))) < (u4.length : Int)) ∧
 (u4[((IntKind.i64.wrap (i + ((rrow1.take ((b.length : Int)).toNat).length : Int)))).toNat]? = some [dU vx17]) ∧
 ((0 ≤ i ∧ i < (q.length : Int)) ∧
 (J0 (q.set (i).toNat [dU (IntKind.u32.wrap (IntKind.u64.wrap ((IntKind.u64.wrap (guess - (1 : Int))) - (1 : Int))))]) (u4.set ((IntKind.i64.wrap (i + ((rrow1.take ((b.length : Int)).toNat).length : Int)))).toNat [dU (IntKind.u32.wrap (vx17 + c1))]) (IntKind.i64.wrap (i - (1 : Int))) ∧ μ0 (q.set (i).toNat [dU (IntKind.u32.wrap (IntKind.u64.wrap ((IntKind.u64.wrap (guess - (1 : Int))) - (1 : Int))))]) (u4.set ((IntKind.i64.wrap (i + ((rrow1.take ((b.length : Int)).toNat).length : Int)))).toNat [dU (IntKind.u32.wrap (vx17 + c1))]) (IntKind.i64.wrap (i - (1 : Int))) < μ0 q u i)))) ∧
 ((((IntKind.u64.wrap ((IntKind.u64.wrap ((IntKind.u64.wrap vx14) - carry1)) - borrow1)).fdiv (2 ^ (min (63 : Int).toNat IntKind.u64.bits))) == (1 : Int)) = false →
 (0 ≤ i ∧ i < (q.length : Int)) ∧
 (J0 (q.set (i).toNat [dU (IntKind.u32.wrap (IntKind.u64.wrap (guess - (1 : Int))))]) (u3.set ((IntKind.i64.wrap (i + ((rrow1.take ((b.length : Int)).toNat).length : Int)))).toNat [dU (IntKind.u32.wrap (IntKind.u64.wrap ((IntKind.u64.wrap ((IntKind.u64.wrap vx14) - carry1)) - borrow1)))]) (IntKind.i64.wrap (i - (1 : Int))) ∧ μ0 (q.set (i).toNat [dU (IntKind.u32.wrap (IntKind.u64.wrap (guess - (1 : Int))))]) (u3.set ((IntKind.i64.wrap (i + ((rrow1.take ((b.length : Int)).toNat).length : Int)))).toNat [dU (IntKind.u32.wrap (IntKind.u64.wrap ((IntKind.u64.wrap ((IntKind.u64.wrap vx14) - carry1)) - borrow1)))]) (IntKind.i64.wrap (i - (1 : Int))) < μ0 q u i)))))) ∧
 ((decide ((IntKind.u64.wrap (rest + (IntKind.u64.wrap vx3))) > (4294967295 : Int))) = false →
 J1 (IntKind.u64.wrap (guess - (1 : Int))) (IntKind.u64.wrap (rest + (IntKind.u64.wrap vx3))) ∧ μ1 (IntKind.u64.wrap (guess - (1 : Int))) (IntKind.u64.wrap (rest + (IntKind.u64.wrap vx3))) < μ1 guess rest)) ∧
 ((decide ((IntKind.u64.wrap (guess * (IntKind.u64.wrap vx10))) > (bitsI .u64 (· ||| ·) (IntKind.u64.wrap (rest * 2 ^ (min (32 : Int).toNat IntKind.u64.bits))) (IntKind.u64.wrap vx11)))) = false →
 ∃ (J6 : (List (List D)) → Int → Int → Int → Prop) (μ6 : (List (List D)) → Int → Int → Int → Nat),
 J6 u (0 : Int) (0 : Int) (0 : Int) ∧ ∀ (u5 : List (List D)) (t1272 carry2 borrow2 : Int), J6 u5 t1272 carry2 borrow2 →
 ((decide (t1272 < ((rrow1.take ((b.length : Int)).toNat).length : Int))) = true →
 ∃ (vx18 : Int),
 (0 ≤ t1272 ∧ t1272 < ((rrow1.take ((b.length : Int)).toNat).length : Int)) ∧
 ((rrow1.take ((b.length : Int)).toNat)[(t1272).toNat]? = some [dU vx18]) ∧
 (∃ (vx19 : Int),
 (0 ≤ (IntKind.i64.wrap (i + t1272)) ∧ (IntKind.i64.wrap (i + t1272)) < (u5.length : Int)) ∧
 (u5[((IntKind.i64.wrap (i + t1272))).toNat]? = some [dU vx19]) ∧
 ((0 ≤ (63 : Int)) ∧
 (J6 (u5.set ((IntKind.i64.wrap (i + t1272))).toNat [dU (IntKind.u32.wrap (IntKind.u64.wrap ((IntKind.u64.wrap ((IntKind.u64.wrap vx19) - (IntKind.u64.wrap (IntKind.u32.wrap (IntKind.u64.wrap (carry2 + (IntKind.u64.wrap (guess * (IntKind.u64.wrap vx18))))))))) - borrow2)))]) (IntKind.i64.wrap (t1272 + (1 : Int))) ((IntKind.u64.wrap (carry2 + (IntKind.u64.wrap (guess * (IntKind.u64.wrap vx18))))).fdiv (2 ^ (min (32 : Int).toNat IntKind.u64.bits))) ((IntKind.u64.wrap ((IntKind.u64.wrap ((IntKind.u64.wrap vx19) - (IntKind.u64.wrap (IntKind.u32.wrap (IntKind.u64.wrap (carry2 + (IntKind.u64.wrap (guess * (IntKind.u64.wrap vx18))))))))) - borrow2)).fdiv (2 ^ (min (63 : Int).toNat IntKind.u64.bits))) ∧ μ6 (u5.set ((IntKind.i64.wrap (i + t1272))).toNat [dU (IntKind.u32.wrap (IntKind.u64.wrap ((IntKind.u64.wrap ((IntKind.u64.wrap vx19) - (IntKind.u64.wrap (IntKind.u32.wrap (IntKind.u64.wrap (carry2 + (IntKind.u64.wrap (guess * (IntKind.u64.wrap vx18))))))))) - borrow2)))]) (IntKind.i64.wrap (t1272 + (1 : Int))) ((IntKind.u64.wrap (carry2 + (IntKind.u64.wrap (guess * (IntKind.u64.wrap vx18))))).fdiv (2 ^ (min (32 : Int).toNat IntKind.u64.bits))) ((IntKind.u64.wrap ((IntKind.u64.wrap ((IntKind.u64.wrap vx19) - (IntKind.u64.wrap (IntKind.u32.wrap (IntKind.u64.wrap (carry2 + (IntKind.u64.wrap (guess * (IntKind.u64.wrap vx18))))))))) - borrow2)).fdiv (2 ^ (min (63 : Int).toNat IntKind.u64.bits))) < μ6 u5 t1272 carry2 borrow2)))) ∧
 ((decide (t1272 < ((rrow1.take ((b.length : Int)).toNat).length : Int))) = false →
 ∃ (vx20 : Int),
 (0 ≤ (IntKind.i64.wrap (i + ((rrow1.take ((b.length : Int)).toNat).length : Int))) ∧ (IntKind.i64.wrap (i + ((rrow1.take ((b.length : Int)).toNat).length : Int))) < (u5.length : Int)) ∧
 (u5[((IntKind.i64.wrap (i + ((rrow1.take ((b.length : Int)).toNat).length : Int)))).toNat]? = some [dU vx20]) ∧
 ((0 ≤ (63 : Int)) ∧
 (((((IntKind.u64.wrap ((IntKind.u64.wrap ((IntKind.u64.wrap vx20) - carry2)) - borrow2)).fdiv (2 ^ (min (63 : Int).toNat IntKind.u64.bits))) == (1 : Int)) = true →
 ∃ (J7 : (List (List D)) → Int → Int → Prop) (μ7 : (List (List D)) → Int → Int → Nat),
 J7 (u5.set ((IntKind.i64.wrap (i + ((rrow1.take ((b.length : Int)).toNat).length : Int)))).toNat [dU (IntKind.u32.wrap (IntKind.u64.wrap ((IntKind.u64.wrap ((IntKind.u64.wrap vx20) - carry2)) - borrow2)))]) (0 : Int) (0 : Int) ∧ ∀ (u6 : List (List D)) (t1882 c2 : Int), J7 u6 t1882 c2 →
 ((decide (t1882 < ((rrow1.take ((b.length : Int)).toNat).length : Int))) = true →
 ∃ (vx21 : Int),
 (0 ≤ t1882 ∧ t1882 < ((rrow1.take ((b.length : Int)).toNat).length : Int)) ∧
 ((rrow1.take ((b.length : Int)).toNat)[(t1882).toNat]? = some [dU vx21]) ∧
 (∃ (vx22 r5 r6 : Int),
 (0 ≤ (IntKind.i64.wrap (i + t1882)) ∧ (IntKind.i64.wrap (i + t1882)) < (u6.length : Int)) ∧
 (u6[((IntKind.i64.wrap (i + t1882))).toNat]? = some [dU vx22]) ∧
 (FnD prog 130 [vD (dU vx22), vD (dU vx21), vD (dU c2)] (V.tup [eD (dU r5), eD (dU r6)]) []) ∧
 (J7 (u6.set ((IntKind.i64.wrap (i + t1882))).toNat [dU r5]) (IntKind.i64.wrap (t1882 + (1 : Int))) r6 ∧ μ7 (u6.set ((IntKind.i64.wrap (i + t1882))).toNat [dU r5]) (IntKind.i64.wrap (t1882 + (1 : Int))) r6 < μ7 u6 t1882 c2))) ∧
 ((decide (t1882 < ((rrow1.take ((b.length : Int)).toNat).length : Int))) = false →
 ∃ (vx23 : Int),
 (0 ≤ (IntKind.i64.wrap (i + ((rrow1.take ((b.length : Int)).toNat).length : Int))) ∧ (IntKind.i64.wrap (i + ((rrow1.take ((b.length : Int)).toNat).length : Int))) < (u6.length : Int)) ∧
 (u6[((IntKind.i64.wrap (i + ((rrow1.take ((b.length : Int)).toNat).length : Int)))).toNat]? = some [dU vx23]) ∧
 ((0 ≤ i ∧ i < (q.length : Int)) ∧
 (J0 (q.set (i).toNat [dU (IntKind.u32.wrap (IntKind.u64.wrap (guess - (1 : Int))))]) (u6.set ((IntKind.i64.wrap (i + ((rrow1.take ((b.length : Int)).toNat).length : Int)))).toNat [dU (IntKind.u32.wrap (vx23 + c2))]) (IntKind.i64.wrap (i - (1 : Int))) ∧ μ0 (q.set (i).toNat [dU (IntKind.u32.wrap (IntKind.u64.wrap (guess - (1 : Int))))]) (u6.set ((IntKind.i64.wrap (i + ((rrow1.take ((b.length : Int)).toNat).length : Int)))).toNat [dU (IntKind.u32.wrap (vx23 + c2))]) (IntKind.i64.wrap (i - (1 : Int))) < μ0 q u i)))) ∧
 ((((IntKind.u64.wrap ((IntKind.u64.wrap ((IntKind.u64.wrap vx20) - carry2)) - borrow2)).fdiv (2 ^ (min (63 : Int).toNat IntKind.u64.bits))) == (1 : Int)) = false →
 (0 ≤ i ∧ i < (q.length : Int)) ∧
 (J0 (q.set (i).toNat [dU (IntKind.u32.wrap guess)]) (u5.set ((IntKind.i64.wrap (i + ((rrow1.take ((b.length : Int)).toNat).length : Int)))).toNat [dU (IntKind.u32.wrap (IntKind.u64.wrap ((IntKind.u64.wrap ((IntKind.u64.wrap vx20) - carry2)) - borrow2)))]) (IntKind.i64.wrap (i - (1 : Int))) ∧ μ0 (q.set (i).toNat [dU (IntKind.u32.wrap guess)]) (u5.set ((IntKind.i64.wrap (i + ((rrow1.take ((b.length : Int)).toNat).length : Int)))).toNat [dU (IntKind.u32.wrap (IntKind.u64.wrap ((IntKind.u64.wrap ((IntKind.u64.wrap vx20) - carry2)) - borrow2)))]) (IntKind.i64.wrap (i - (1 : Int))) < μ0 q u i))))))))))) ∧
 (decide (i ≥ (0 : Int)) = false →
 (0 ≤ ((rrow1.take ((b.length : Int)).toNat).length : Int) ∧ ((rrow1.take ((b.length : Int)).toNat).length : Int) ≤ ((rrow1.take ((b.length : Int)).toNat).length : Int) ∧ ((rrow1.take ((b.length : Int)).toNat).length : Int) * (4 : Nat) ≤ 281474976710656) ∧
 (∃ (J8 : (List (List D)) → Int → Prop) (μ8 : (List (List D)) → Int → Nat),
 J8 (List.replicate (((rrow1.take ((b.length : Int)).toNat).length : Int)).toNat [dU (0 : Int)]) (0 : Int) ∧ ∀ (r7 : List (List D)) (t228 : Int), J8 r7 t228 →
 ((decide (t228 < ((rrow1.take ((b.length : Int)).toNat).length : Int))) = true →
 ∃ (vx24 vx25 : Int),
 (0 ≤ t228 ∧ t228 < (u.length : Int)) ∧
 (u[(t228).toNat]? = some [dU vx24]) ∧
 (0 ≤ r) ∧
 (0 ≤ (IntKind.i64.wrap (t228 + (1 : Int))) ∧ (IntKind.i64.wrap (t228 + (1 : Int))) < (u.length : Int)) ∧
 (u[((IntKind.i64.wrap (t228 + (1 : Int)))).toNat]? = some [dU vx25]) ∧
 (0 ≤ (32 : Int)) ∧
 (0 ≤ t228 ∧ t228 < (r7.length : Int)) ∧
 (J8 (r7.set (t228).toNat [dU (bitsI .u32 (· ||| ·) (vx24.fdiv (2 ^ (min r.toNat IntKind.u32.bits))) (IntKind.u32.wrap ((IntKind.u64.wrap ((IntKind.u64.wrap vx25) * 2 ^ (min (32 : Int).toNat IntKind.u64.bits))).fdiv (2 ^ (min r.toNat IntKind.u64.bits)))))]) (IntKind.i64.wrap (t228 + (1 : Int))) ∧ μ8 (r7.set (t228).toNat [dU (bitsI .u32 (· ||| ·) (vx24.fdiv (2 ^ (min r.toNat IntKind.u32.bits))) (IntKind.u32.wrap ((IntKind.u64.wrap ((IntKind.u64.wrap vx25) * 2 ^ (min (32 : Int).toNat IntKind.u64.bits))).fdiv (2 ^ (min r.toNat IntKind.u64.bits)))))]) (IntKind.i64.wrap (t228 + (1 : Int))) < μ8 r7 t228)) ∧
 ((decide (t228 < ((rrow1.take ((b.length : Int)).toNat).length : Int))) = false →
 R (V.tup [eD (dL q), eD (dL r7)]) []))))))
theorem vc128_ok (a b : List (List D)) {R : V → Heap → Prop} (h : vc128 a b R) : FnG prog 128 [vD (dL a), vD (dL b)] [] R :=
  FnG.vcg hT func128 ntmps128 (.r0 [0, 1] <| .ex fun vx => .ex fun r => .reg 0 [(5, Or.cells [dU vx], 0, 0), (6, Or.call (vD (dI r)) [] [], 0, 0)] [0, 1, 6] [] [] <| .exl fun rrow => .exl fun rrow1 => .drw 3 [(2, (Or.call (V.e (E.sc (S.ref 0))) [some (Obj.arr 1 rrow)] [], 0, 1), [0]), (5, (Or.call (V.e (E.sc (S.ref 0))) [some (Obj.arr 1 rrow1)] [], 1, 1), [1]), (8, (Or.none, 2, 1), [1, 2])] [6, 7, 8] [0, 2] [] <| .r1 [6, 7, 8, 9] [0, 1] <| .reg 1 [(4, Or.none, 2, 1)] [4, 6, 7, 8, 9] [2, 0, 1] [] <| .r1 [4, 6, 7, 8, 9, 10] [0, 1, 2] <| .lp [.l, .l, .i] (fun q u i => ⟨[(4, vR 0), (6, vD (dI r)), (7, vR 1), (8, vR 2), (9, vD (dI ((rrow1.take ((b.length : Int)).toNat).length : Int))), (10, vD (dI i))], [some (Obj.arr 1 q), some (Obj.arr 1 u), some (Obj.arr 1 (rrow1.take ((b.length : Int)).toNat))], 254⟩) [.l (List.replicate ((IntKind.i64.wrap ((rrow.length : Int) - ((rrow1.take ((b.length : Int)).toNat).length : Int)))).toNat [dU (0 : Int)]), .l rrow, .i (IntKind.i64.wrap ((IntKind.i64.wrap ((rrow.length : Int) - ((rrow1.take ((b.length : Int)).toNat).length : Int))) - (1 : Int)))] <| .fl fun q => .fl fun u => .fi fun i => .beg <| .r1 [4, 6, 7, 8, 9, 10, 53] [0, 1, 2] <| .c2 (.ex fun vx1 => .ex fun vx2 => .drw 0 [(5, (Or.cells [dU vx1], 0, 0), []), (14, (Or.cells [dU vx2], 0, 0), [])] [4, 6, 7, 8, 9, 10, 11] [0, 1, 2] [] <| .ex fun vx3 => .drw 0 [(5, (Or.cells [dU vx3], 0, 0), []), (13, (Or.cells [dU vx3], 0, 0), [])] [4, 6, 7, 8, 9, 10, 12, 13] [0, 1, 2] [.new, .new, .new, .old 2, .old 1, .old 0] <| .lp [.i, .i] (fun guess rest => ⟨[(4, vR 0), (6, vD (dI r)), (7, vR 1), (8, vR 2), (9, vD (dI ((rrow1.take ((b.length : Int)).toNat).length : Int))), (10, vD (dI i)), (12, vD (D.int .u64 guess)), (13, vD (D.int .u64 rest))], [some (Obj.arr 1 q), some (Obj.arr 1 u), some (Obj.arr 1 (rrow1.take ((b.length : Int)).toNat))], 254⟩) [.i (IntKind.u64.wrap ((bitsI .u64 (· ||| ·) (IntKind.u64.wrap ((IntKind.u64.wrap vx1) * 2 ^ (min (32 : Int).toNat IntKind.u64.bits))) (IntKind.u64.wrap vx2)).tdiv (IntKind.u64.wrap vx3))), .i ((bitsI .u64 (· ||| ·) (IntKind.u64.wrap ((IntKind.u64.wrap vx1) * 2 ^ (min (32 : Int).toNat IntKind.u64.bits))) (IntKind.u64.wrap vx2)).tmod (IntKind.u64.wrap vx3))] <| .fi fun guess => .fi fun rest => .beg <| .spl ((decide (guess > (4294967295 : Int)))) (.drw 0 [(2, (Or.bool true, 0, 0), [])] [4, 6, 7, 8, 9, 10, 12, 13, 112] [0, 1, 2] [.old 0] <| .ct true none <| .r1 [4, 6, 7, 8, 9, 10, 12, 13] [0, 1, 2] <| .reg 0 [(5, Or.cells [dU vx3], 0, 0)] [4, 6, 7, 8, 9, 10, 12, 13] [0, 1, 2] [.old 3, .old 2] <| .r1 [4, 6, 7, 8, 9, 10, 12, 13, 124] [0, 1, 2] <| .c2 (.r1 [4, 6, 7, 8, 9, 10, 12, 14, 15] [0, 1, 2] <| .r1 [4, 6, 7, 8, 9, 10, 12, 14, 15, 125, 126, 127] [0, 1, 2] <| .lp [.l, .i, .i, .i] (fun u1 t127 carry borrow => ⟨[(4, vR 0), (6, vD (dI r)), (7, vR 1), (8, vR 2), (9, vD (dI ((rrow1.take ((b.length : Int)).toNat).length : Int))), (10, vD (dI i)), (12, vD (D.int .u64 (IntKind.u64.wrap (guess - (1 : Int))))), (14, vD (D.int .u64 carry)), (15, vD (D.int .u64 borrow)), (125, vR 2), (126, vD (dI ((rrow1.take ((b.length : Int)).toNat).length : Int))), (127, vD (dI t127))], [some (Obj.arr 1 q), some (Obj.arr 1 u1), some (Obj.arr 1 (rrow1.take ((b.length : Int)).toNat))], 254⟩) [.l u, .i (0 : Int), .i (0 : Int), .i (0 : Int)] <| .fl fun u1 => .fi fun t127 => .fi fun carry => .fi fun borrow => .beg <| .r1 [4, 6, 7, 8, 9, 10, 12, 14, 15, 125, 126, 127, 128] [0, 1, 2] <| .c2 (.ex fun vx4 => .reg 0 [(2, Or.cells [dU vx4], 0, 0)] [4, 6, 7, 8, 9, 10, 12, 14, 15, 16, 17, 125, 126, 127] [0, 1, 2] [] <| .r1 [4, 6, 7, 8, 9, 10, 12, 14, 15, 16, 125, 126, 127] [0, 1, 2] <| .ex fun vx5 => .reg 0 [(5, Or.cells [dU vx5], 0, 0)] [4, 6, 7, 8, 9, 10, 12, 14, 16, 18, 125, 126, 127] [0, 1, 2] [] <| .reg 0 [] [4, 6, 7, 8, 9, 10, 12, 14, 15, 125, 126, 127] [0, 1, 2] [.new, .old 2] <| .reg 0 [] [4, 6, 7, 8, 9, 10, 12, 14, 15, 125, 126, 127] [0, 1, 2] [.old 13] <| .r1 [4, 6, 7, 8, 9, 10, 12, 14, 15, 125, 126, 127] [0, 1, 2] <| .bk 0 [.l (u1.set ((IntKind.i64.wrap (i + t127))).toNat [dU (IntKind.u32.wrap (IntKind.u64.wrap ((IntKind.u64.wrap ((IntKind.u64.wrap vx5) - (IntKind.u64.wrap (IntKind.u32.wrap (IntKind.u64.wrap (carry + (IntKind.u64.wrap ((IntKind.u64.wrap (guess - (1 : Int))) * (IntKind.u64.wrap vx4))))))))) - borrow)))]), .i (IntKind.i64.wrap (t127 + (1 : Int))), .i ((IntKind.u64.wrap (carry + (IntKind.u64.wrap ((IntKind.u64.wrap (guess - (1 : Int))) * (IntKind.u64.wrap vx4))))).fdiv (2 ^ (min (32 : Int).toNat IntKind.u64.bits))), .i ((IntKind.u64.wrap ((IntKind.u64.wrap ((IntKind.u64.wrap vx5) - (IntKind.u64.wrap (IntKind.u32.wrap (IntKind.u64.wrap (carry + (IntKind.u64.wrap ((IntKind.u64.wrap (guess - (1 : Int))) * (IntKind.u64.wrap vx4))))))))) - borrow)).fdiv (2 ^ (min (63 : Int).toNat IntKind.u64.bits)))]) (.ex fun vx6 => .reg 0 [(5, Or.cells [dU vx6], 0, 0)] [4, 6, 7, 8, 9, 10, 12, 19] [0, 1, 2] [] <| .reg 0 [] [4, 6, 7, 8, 9, 10, 12, 19] [0, 1, 2] [.old 1] <| .r1 [4, 6, 7, 8, 9, 10, 12, 183] [0, 1, 2] <| .c2 (.r1 [4, 6, 7, 8, 9, 10, 12] [0, 1, 2] <| .r1 [4, 6, 7, 8, 9, 10, 12, 20] [0, 1, 2] <| .r1 [4, 6, 7, 8, 9, 10, 12, 20, 186, 187, 188] [0, 1, 2] <| .lp [.l, .i, .i] (fun u2 t188 c => ⟨[(4, vR 0), (6, vD (dI r)), (7, vR 1), (8, vR 2), (9, vD (dI ((rrow1.take ((b.length : Int)).toNat).length : Int))), (10, vD (dI i)), (12, vD (D.int .u64 (IntKind.u64.wrap ((IntKind.u64.wrap (guess - (1 : Int))) - (1 : Int))))), (20, vD (dU c)), (186, vR 2), (187, vD (dI ((rrow1.take ((b.length : Int)).toNat).length : Int))), (188, vD (dI t188))], [some (Obj.arr 1 q), some (Obj.arr 1 u2), some (Obj.arr 1 (rrow1.take ((b.length : Int)).toNat))], 254⟩) [.l (u1.set ((IntKind.i64.wrap (i + ((rrow1.take ((b.length : Int)).toNat).length : Int)))).toNat [dU (IntKind.u32.wrap (IntKind.u64.wrap ((IntKind.u64.wrap ((IntKind.u64.wrap vx6) - carry)) - borrow)))]), .i (0 : Int), .i (0 : Int)] <| .fl fun u2 => .fi fun t188 => .fi fun c => .beg <| .r1 [4, 6, 7, 8, 9, 10, 12, 20, 186, 187, 188, 189] [0, 1, 2] <| .c2 (.ex fun vx7 => .reg 0 [(2, Or.cells [dU vx7], 0, 0)] [4, 6, 7, 8, 9, 10, 12, 20, 21, 22, 186, 187, 188] [0, 1, 2] [] <| .ex fun vx8 => .ex fun r1 => .ex fun r2 => .reg 0 [(9, Or.cells [dU vx8], 0, 0), (12, Or.call (V.tup [eD (dU r1), eD (dU r2)]) [] [], 0, 0)] [4, 6, 7, 8, 9, 10, 12, 20, 186, 187, 188] [0, 1, 2] [.new, .new, .new, .old 2] <| .r1 [4, 6, 7, 8, 9, 10, 12, 20, 186, 187, 188] [0, 1, 2] <| .bk 0 [.l (u2.set ((IntKind.i64.wrap (i + t188))).toNat [dU r1]), .i (IntKind.i64.wrap (t188 + (1 : Int))), .i r2]) (.ex fun vx9 => .reg 0 [(5, Or.cells [dU vx9], 0, 0)] [4, 6, 7, 8, 9, 10, 12] [0, 1, 2] [.new, .new, .old 1] <| .r1 [4, 6, 7, 8, 9, 10] [0, 1, 2] <| .r1 [4, 6, 7, 8, 9, 10] [0, 1, 2] <| .bk 3 [.l (q.set (i).toNat [dU (IntKind.u32.wrap (IntKind.u64.wrap ((IntKind.u64.wrap (guess - (1 : Int))) - (1 : Int))))]), .l (u2.set ((IntKind.i64.wrap (i + ((rrow1.take ((b.length : Int)).toNat).length : Int)))).toNat [dU (IntKind.u32.wrap (vx9 + c))]), .i (IntKind.i64.wrap (i - (1 : Int)))])) (.r1 [4, 6, 7, 8, 9, 10] [0, 1, 2] <| .r1 [4, 6, 7, 8, 9, 10] [0, 1, 2] <| .bk 2 [.l (q.set (i).toNat [dU (IntKind.u32.wrap (IntKind.u64.wrap (guess - (1 : Int))))]), .l (u1.set ((IntKind.i64.wrap (i + ((rrow1.take ((b.length : Int)).toNat).length : Int)))).toNat [dU (IntKind.u32.wrap (IntKind.u64.wrap ((IntKind.u64.wrap ((IntKind.u64.wrap vx6) - carry)) - borrow)))]), .i (IntKind.i64.wrap (i - (1 : Int)))]))) (.viw [4, 6, 7, 8, 9, 10, 12, 13] [0, 1, 2] <| .bk 0 [.i (IntKind.u64.wrap (guess - (1 : Int))), .i (IntKind.u64.wrap (rest + (IntKind.u64.wrap vx3)))])) (.ex fun vx10 => .ex fun vx11 => .drw 0 [(2, (Or.bool false, 0, 0), []), (8, (Or.cells [dU vx10], 0, 0), []), (19, (Or.cells [dU vx11], 0, 0), [])] [4, 6, 7, 8, 9, 10, 12, 13, 112] [0, 1, 2] [.old 0, .new, .new, .old 8] <| .c2 (.r1 [4, 6, 7, 8, 9, 10, 12, 13] [0, 1, 2] <| .reg 0 [(5, Or.cells [dU vx3], 0, 0)] [4, 6, 7, 8, 9, 10, 12, 13] [0, 1, 2] [.old 8, .old 7] <| .r1 [4, 6, 7, 8, 9, 10, 12, 13, 124] [0, 1, 2] <| .c2 (.r1 [4, 6, 7, 8, 9, 10, 12, 14, 15] [0, 1, 2] <| .r1 [4, 6, 7, 8, 9, 10, 12, 14, 15, 125, 126, 127] [0, 1, 2] <| .lp [.l, .i, .i, .i] (fun u3 t1271 carry1 borrow1 => ⟨[(4, vR 0), (6, vD (dI r)), (7, vR 1), (8, vR 2), (9, vD (dI ((rrow1.take ((b.length : Int)).toNat).length : Int))), (10, vD (dI i)), (12, vD (D.int .u64 (IntKind.u64.wrap (guess - (1 : Int))))), (14, vD (D.int .u64 carry1)), (15, vD (D.int .u64 borrow1)), (125, vR 2), (126, vD (dI ((rrow1.take ((b.length : Int)).toNat).length : Int))), (127, vD (dI t1271))], [some (Obj.arr 1 q), some (Obj.arr 1 u3), some (Obj.arr 1 (rrow1.take ((b.length : Int)).toNat))], 254⟩) [.l u, .i (0 : Int), .i (0 : Int), .i (0 : Int)] <| .fl fun u3 => .fi fun t1271 => .fi fun carry1 => .fi fun borrow1 => .beg <| .r1 [4, 6, 7, 8, 9, 10, 12, 14, 15, 125, 126, 127, 128] [0, 1, 2] <| .c2 (.ex fun vx12 => .reg 0 [(2, Or.cells [dU vx12], 0, 0)] [4, 6, 7, 8, 9, 10, 12, 14, 15, 16, 17, 125, 126, 127] [0, 1, 2] [] <| .r1 [4, 6, 7, 8, 9, 10, 12, 14, 15, 16, 125, 126, 127] [0, 1, 2] <| .ex fun vx13 => .reg 0 [(5, Or.cells [dU vx13], 0, 0)] [4, 6, 7, 8, 9, 10, 12, 14, 16, 18, 125, 126, 127] [0, 1, 2] [] <| .reg 0 [] [4, 6, 7, 8, 9, 10, 12, 14, 15, 125, 126, 127] [0, 1, 2] [.new, .old 2] <| .reg 0 [] [4, 6, 7, 8, 9, 10, 12, 14, 15, 125, 126, 127] [0, 1, 2] [.old 18] <| .r1 [4, 6, 7, 8, 9, 10, 12, 14, 15, 125, 126, 127] [0, 1, 2] <| .bk 0 [.l (u3.set ((IntKind.i64.wrap (i + t1271))).toNat [dU (IntKind.u32.wrap (IntKind.u64.wrap ((IntKind.u64.wrap ((IntKind.u64.wrap vx13) - (IntKind.u64.wrap (IntKind.u32.wrap (IntKind.u64.wrap (carry1 + (IntKind.u64.wrap ((IntKind.u64.wrap (guess - (1 : Int))) * (IntKind.u64.wrap vx12))))))))) - borrow1)))]), .i (IntKind.i64.wrap (t1271 + (1 : Int))), .i ((IntKind.u64.wrap (carry1 + (IntKind.u64.wrap ((IntKind.u64.wrap (guess - (1 : Int))) * (IntKind.u64.wrap vx12))))).fdiv (2 ^ (min (32 : Int).toNat IntKind.u64.bits))), .i ((IntKind.u64.wrap ((IntKind.u64.wrap ((IntKind.u64.wrap vx13) - (IntKind.u64.wrap (IntKind.u32.wrap (IntKind.u64.wrap (carry1 + (IntKind.u64.wrap ((IntKind.u64.wrap (guess - (1 : Int))) * (IntKind.u64.wrap vx12))))))))) - borrow1)).fdiv (2 ^ (min (63 : Int).toNat IntKind.u64.bits)))]) (.ex fun vx14 => .reg 0 [(5, Or.cells [dU vx14], 0, 0)] [4, 6, 7, 8, 9, 10, 12, 19] [0, 1, 2] [] <| .reg 0 [] [4, 6, 7, 8, 9, 10, 12, 19] [0, 1, 2] [.old 1] <| .r1 [4, 6, 7, 8, 9, 10, 12, 183] [0, 1, 2] <| .c2 (.r1 [4, 6, 7, 8, 9, 10, 12] [0, 1, 2] <| .r1 [4, 6, 7, 8, 9, 10, 12, 20] [0, 1, 2] <| .r1 [4, 6, 7, 8, 9, 10, 12, 20, 186, 187, 188] [0, 1, 2] <| .lp [.l, .i, .i] (fun u4 t1881 c1 => ⟨[(4, vR 0), (6, vD (dI r)), (7, vR 1), (8, vR 2), (9, vD (dI ((rrow1.take ((b.length : Int)).toNat).length : Int))), (10, vD (dI i)), (12, vD (D.int .u64 (IntKind.u64.wrap ((IntKind.u64.wrap (guess - (1 : Int))) - (1 : Int))))), (20, vD (dU c1)), (186, vR 2), (187, vD (dI ((rrow1.take ((b.length : Int)).toNat).length : Int))), (188, vD (dI t1881))], [some (Obj.arr 1 q), some (Obj.arr 1 u4), some (Obj.arr 1 (rrow1.take ((b.length : Int)).toNat))], 254⟩) [.l (u3.set ((IntKind.i64.wrap (i + ((rrow1.take ((b.length : Int)).toNat).length : Int)))).toNat [dU (IntKind.u32.wrap (IntKind.u64.wrap ((IntKind.u64.wrap ((IntKind.u64.wrap vx14) - carry1)) - borrow1)))]), .i (0 : Int), .i (0 : Int)] <| .fl fun u4 => .fi fun t1881 => .fi fun c1 => .beg <| .r1 [4, 6, 7, 8, 9, 10, 12, 20, 186, 187, 188, 189] [0, 1, 2] <| .c2 (.ex fun vx15 => .reg 0 [(2, Or.cells [dU vx15], 0, 0)] [4, 6, 7, 8, 9, 10, 12, 20, 21, 22, 186, 187, 188] [0, 1, 2] [] <| .ex fun vx16 => .ex fun r3 => .ex fun r4 => .reg 0 [(9, Or.cells [dU vx16], 0, 0), (12, Or.call (V.tup [eD (dU r3), eD (dU r4)]) [] [], 0, 0)] [4, 6, 7, 8, 9, 10, 12, 20, 186, 187, 188] [0, 1, 2] [.new, .new, .new, .old 2] <| .r1 [4, 6, 7, 8, 9, 10, 12, 20, 186, 187, 188] [0, 1, 2] <| .bk 0 [.l (u4.set ((IntKind.i64.wrap (i + t1881))).toNat [dU r3]), .i (IntKind.i64.wrap (t1881 + (1 : Int))), .i r4]) (.ex fun vx17 => .reg 0 [(5, Or.cells [dU vx17], 0, 0)] [4, 6, 7, 8, 9, 10, 12] [0, 1, 2] [.new, .new, .old 1] <| .r1 [4, 6, 7, 8, 9, 10] [0, 1, 2] <| .r1 [4, 6, 7, 8, 9, 10] [0, 1, 2] <| .bk 3 [.l (q.set (i).toNat [dU (IntKind.u32.wrap (IntKind.u64.wrap ((IntKind.u64.wrap (guess - (1 : Int))) - (1 : Int))))]), .l (u4.set ((IntKind.i64.wrap (i + ((rrow1.take ((b.length : Int)).toNat).length : Int)))).toNat [dU (IntKind.u32.wrap (vx17 + c1))]), .i (IntKind.i64.wrap (i - (1 : Int)))])) (.r1 [4, 6, 7, 8, 9, 10] [0, 1, 2] <| .r1 [4, 6, 7, 8, 9, 10] [0, 1, 2] <| .bk 2 [.l (q.set (i).toNat [dU (IntKind.u32.wrap (IntKind.u64.wrap (guess - (1 : Int))))]), .l (u3.set ((IntKind.i64.wrap (i + ((rrow1.take ((b.length : Int)).toNat).length : Int)))).toNat [dU (IntKind.u32.wrap (IntKind.u64.wrap ((IntKind.u64.wrap ((IntKind.u64.wrap vx14) - carry1)) - borrow1)))]), .i (IntKind.i64.wrap (i - (1 : Int)))]))) (.viw [4, 6, 7, 8, 9, 10, 12, 13] [0, 1, 2] <| .bk 0 [.i (IntKind.u64.wrap (guess - (1 : Int))), .i (IntKind.u64.wrap (rest + (IntKind.u64.wrap vx3)))])) (.r1 [4, 6, 7, 8, 9, 10, 12, 14, 15] [0, 1, 2] <| .r1 [4, 6, 7, 8, 9, 10, 12, 14, 15, 125, 126, 127] [0, 1, 2] <| .lp [.l, .i, .i, .i] (fun u5 t1272 carry2 borrow2 => ⟨[(4, vR 0), (6, vD (dI r)), (7, vR 1), (8, vR 2), (9, vD (dI ((rrow1.take ((b.length : Int)).toNat).length : Int))), (10, vD (dI i)), (12, vD (D.int .u64 guess)), (14, vD (D.int .u64 carry2)), (15, vD (D.int .u64 borrow2)), (125, vR 2), (126, vD (dI ((rrow1.take ((b.length : Int)).toNat).length : Int))), (127, vD (dI t1272))], [some (Obj.arr 1 q), some (Obj.arr 1 u5), some (Obj.arr 1 (rrow1.take ((b.length : Int)).toNat))], 254⟩) [.l u, .i (0 : Int), .i (0 : Int), .i (0 : Int)] <| .fl fun u5 => .fi fun t1272 => .fi fun carry2 => .fi fun borrow2 => .beg <| .r1 [4, 6, 7, 8, 9, 10, 12, 14, 15, 125, 126, 127, 128] [0, 1, 2] <| .c2 (.ex fun vx18 => .reg 0 [(2, Or.cells [dU vx18], 0, 0)] [4, 6, 7, 8, 9, 10, 12, 14, 15, 16, 17, 125, 126, 127] [0, 1, 2] [] <| .r1 [4, 6, 7, 8, 9, 10, 12, 14, 15, 16, 125, 126, 127] [0, 1, 2] <| .ex fun vx19 => .reg 0 [(5, Or.cells [dU vx19], 0, 0)] [4, 6, 7, 8, 9, 10, 12, 14, 16, 18, 125, 126, 127] [0, 1, 2] [] <| .reg 0 [] [4, 6, 7, 8, 9, 10, 12, 14, 15, 125, 126, 127] [0, 1, 2] [.new, .old 2] <| .reg 0 [] [4, 6, 7, 8, 9, 10, 12, 14, 15, 125, 126, 127] [0, 1, 2] [.old 17] <| .r1 [4, 6, 7, 8, 9, 10, 12, 14, 15, 125, 126, 127] [0, 1, 2] <| .bk 0 [.l (u5.set ((IntKind.i64.wrap (i + t1272))).toNat [dU (IntKind.u32.wrap (IntKind.u64.wrap ((IntKind.u64.wrap ((IntKind.u64.wrap vx19) - (IntKind.u64.wrap (IntKind.u32.wrap (IntKind.u64.wrap (carry2 + (IntKind.u64.wrap (guess * (IntKind.u64.wrap vx18))))))))) - borrow2)))]), .i (IntKind.i64.wrap (t1272 + (1 : Int))), .i ((IntKind.u64.wrap (carry2 + (IntKind.u64.wrap (guess * (IntKind.u64.wrap vx18))))).fdiv (2 ^ (min (32 : Int).toNat IntKind.u64.bits))), .i ((IntKind.u64.wrap ((IntKind.u64.wrap ((IntKind.u64.wrap vx19) - (IntKind.u64.wrap (IntKind.u32.wrap (IntKind.u64.wrap (carry2 + (IntKind.u64.wrap (guess * (IntKind.u64.wrap vx18))))))))) - borrow2)).fdiv (2 ^ (min (63 : Int).toNat IntKind.u64.bits)))]) (.ex fun vx20 => .reg 0 [(5, Or.cells [dU vx20], 0, 0)] [4, 6, 7, 8, 9, 10, 12, 19] [0, 1, 2] [] <| .reg 0 [] [4, 6, 7, 8, 9, 10, 12, 19] [0, 1, 2] [.old 1] <| .r1 [4, 6, 7, 8, 9, 10, 12, 183] [0, 1, 2] <| .c2 (.r1 [4, 6, 7, 8, 9, 10, 12] [0, 1, 2] <| .r1 [4, 6, 7, 8, 9, 10, 12, 20] [0, 1, 2] <| .r1 [4, 6, 7, 8, 9, 10, 12, 20, 186, 187, 188] [0, 1, 2] <| .lp [.l, .i, .i] (fun u6 t1882 c2 => ⟨[(4, vR 0), (6, vD (dI r)), (7, vR 1), (8, vR 2), (9, vD (dI ((rrow1.take ((b.length : Int)).toNat).length : Int))), (10, vD (dI i)), (12, vD (D.int .u64 (IntKind.u64.wrap (guess - (1 : Int))))), (20, vD (dU c2)), (186, vR 2), (187, vD (dI ((rrow1.take ((b.length : Int)).toNat).length : Int))), (188, vD (dI t1882))], [some (Obj.arr 1 q), some (Obj.arr 1 u6), some (Obj.arr 1 (rrow1.take ((b.length : Int)).toNat))], 254⟩) [.l (u5.set ((IntKind.i64.wrap (i + ((rrow1.take ((b.length : Int)).toNat).length : Int)))).toNat [dU (IntKind.u32.wrap (IntKind.u64.wrap ((IntKind.u64.wrap ((IntKind.u64.wrap vx20) - carry2)) - borrow2)))]), .i (0 : Int), .i (0 : Int)] <| .fl fun u6 => .fi fun t1882 => .fi fun c2 => .beg <| .r1 [4, 6, 7, 8, 9, 10, 12, 20, 186, 187, 188, 189] [0, 1, 2] <| .c2 (.ex fun vx21 => .reg 0 [(2, Or.cells [dU vx21], 0, 0)] [4, 6, 7, 8, 9, 10, 12, 20, 21, 22, 186, 187, 188] [0, 1, 2] [] <| .ex fun vx22 => .ex fun r5 => .ex fun r6 => .reg 0 [(9, Or.cells [dU vx22], 0, 0), (12, Or.call (V.tup [eD (dU r5), eD (dU r6)]) [] [], 0, 0)] [4, 6, 7, 8, 9, 10, 12, 20, 186, 187, 188] [0, 1, 2] [.new, .new, .new, .old 2] <| .r1 [4, 6, 7, 8, 9, 10, 12, 20, 186, 187, 188] [0, 1, 2] <| .bk 0 [.l (u6.set ((IntKind.i64.wrap (i + t1882))).toNat [dU r5]), .i (IntKind.i64.wrap (t1882 + (1 : Int))), .i r6]) (.ex fun vx23 => .reg 0 [(5, Or.cells [dU vx23], 0, 0)] [4, 6, 7, 8, 9, 10, 12] [0, 1, 2] [.new, .new, .old 1] <| .r1 [4, 6, 7, 8, 9, 10] [0, 1, 2] <| .r1 [4, 6, 7, 8, 9, 10] [0, 1, 2] <| .bk 3 [.l (q.set (i).toNat [dU (IntKind.u32.wrap (IntKind.u64.wrap (guess - (1 : Int))))]), .l (u6.set ((IntKind.i64.wrap (i + ((rrow1.take ((b.length : Int)).toNat).length : Int)))).toNat [dU (IntKind.u32.wrap (vx23 + c2))]), .i (IntKind.i64.wrap (i - (1 : Int)))])) (.r1 [4, 6, 7, 8, 9, 10] [0, 1, 2] <| .r1 [4, 6, 7, 8, 9, 10] [0, 1, 2] <| .bk 2 [.l (q.set (i).toNat [dU (IntKind.u32.wrap guess)]), .l (u5.set ((IntKind.i64.wrap (i + ((rrow1.take ((b.length : Int)).toNat).length : Int)))).toNat [dU (IntKind.u32.wrap (IntKind.u64.wrap ((IntKind.u64.wrap ((IntKind.u64.wrap vx20) - carry2)) - borrow2)))]), .i (IntKind.i64.wrap (i - (1 : Int)))]))))) (.reg 1 [(1, Or.none, 3, 1)] [4, 5, 6, 7, 9] [0, 3, 1] [] <| .r1 [4, 5, 6, 7, 227, 228] [0, 1, 2] <| .lp [.l, .i] (fun r7 t228 => ⟨[(4, vR 0), (5, vR 1), (6, vD (dI r)), (7, vR 2), (227, vD (dI ((rrow1.take ((b.length : Int)).toNat).length : Int))), (228, vD (dI t228))], [some (Obj.arr 1 q), some (Obj.arr 1 r7), some (Obj.arr 1 u)], 254⟩) [.l (List.replicate (((rrow1.take ((b.length : Int)).toNat).length : Int)).toNat [dU (0 : Int)]), .i (0 : Int)] <| .fl fun r7 => .fi fun t228 => .beg <| .r1 [4, 5, 6, 7, 227, 228, 229] [0, 1, 2] <| .c2 (.r1 [4, 5, 6, 7, 23, 227, 228] [0, 1, 2] <| .ex fun vx24 => .ex fun vx25 => .drw 0 [(5, (Or.cells [dU vx24], 0, 0), []), (12, (Or.cells [dU vx25], 0, 0), []), (20, (Or.none, 0, 0), [1])] [4, 5, 6, 7, 227, 228] [0, 1, 2] [.new, .new, .new, .new, .new, .new, .old 3] <| .r1 [4, 5, 6, 7, 227, 228] [0, 1, 2] <| .bk 0 [.l (r7.set (t228).toNat [dU (bitsI .u32 (· ||| ·) (vx24.fdiv (2 ^ (min r.toNat IntKind.u32.bits))) (IntKind.u32.wrap ((IntKind.u64.wrap ((IntKind.u64.wrap vx25) * 2 ^ (min (32 : Int).toNat IntKind.u64.bits))).fdiv (2 ^ (min r.toNat IntKind.u64.bits)))))]), .i (IntKind.i64.wrap (t228 + (1 : Int)))]) (.r1 [4, 5] [0, 1] <| .frz [0, 1] <| .ret [])))
    (by kernel_rfl) (by kernel_rfl) (by kernel_rfl) h
end Go.AM
/- Division of integers: integer.shift. -/
namespace Go.AM
open Go.Proofs.Tryz
def shG (k : Nat) : Nat → List Nat → List Nat
  | c, [] => [c]
  | c, x :: l => ((x * 2 ^ k) % 4294967296 + c) :: shG k ((x * 2 ^ k) / 4294967296) l
theorem shG_len (k : Nat) : ∀ (l : List Nat) (c : Nat), (shG k c l).length = l.length + 1
  | [], _ => rfl
  | _ :: l, _ => by simp [shG, shG_len k l]
theorem shG_val (k : Nat) : ∀ (l : List Nat) (c : Nat), val (shG k c l) = val l * 2 ^ k + c
  | [], c => by simp [shG, val]
  | x :: l, c => by
    have h := Nat.div_add_mod (x * 2 ^ k) 4294967296
    simp only [shG, val, shG_val k l]
    rw [Nat.mul_add, Nat.add_mul, Nat.mul_assoc]
    omega
theorem lo_form {k : Nat} (hk : k ≤ 32) (x : Nat) : (x * 2 ^ k) % 4294967296 = (x % 2 ^ (32 - k)) * 2 ^ k := by
  have e : (4294967296 : Nat) = 2 ^ (32 - k) * 2 ^ k := by rw [← Nat.pow_add, show 32 - k + k = 32 by omega]
  conv => lhs; rw [e]
  rw [Nat.mul_mod_mul_right]
theorem lo_add {k c : Nat} (hk : k ≤ 32) (hc : c < 2 ^ k) (x : Nat) : (x * 2 ^ k) % 4294967296 + c < 4294967296 := by
  have e : (4294967296 : Nat) = 2 ^ (32 - k) * 2 ^ k := by rw [← Nat.pow_add, show 32 - k + k = 32 by omega]
  have h1 : x % 2 ^ (32 - k) + 1 ≤ 2 ^ (32 - k) := Nat.mod_lt _ (Nat.pow_pos (by decide))
  have h2 : (x % 2 ^ (32 - k) + 1) * 2 ^ k ≤ 2 ^ (32 - k) * 2 ^ k := Nat.mul_le_mul_right _ h1
  rw [lo_form hk, e]
  rw [Nat.add_mul] at h2
  omega
theorem hi_lt {k x : Nat} (hx : x < 4294967296) : (x * 2 ^ k) / 4294967296 < 2 ^ k := by
  rw [Nat.div_lt_iff_lt_mul (by decide), Nat.mul_comm]
  exact Nat.mul_lt_mul_of_pos_left hx (Nat.pow_pos (by decide))
theorem shG_dig {k : Nat} (hk : k ≤ 32) : ∀ (l : List Nat) (c : Nat), c < 2 ^ k → (∀ x ∈ l, x < 4294967296) → ∀ z ∈ shG k c l, z < 4294967296
  | [], c, hc, _, z, hz => by
    have : 2 ^ k ≤ 2 ^ 32 := Nat.pow_le_pow_right (by decide) hk
    simp [shG] at hz; omega
  | x :: l, c, hc, h, z, hz => by
    simp only [shG, List.mem_cons] at hz
    rcases hz with rfl | hz
    · exact lo_add hk hc x
    · exact shG_dig hk l _ (hi_lt (h x (by simp))) (fun y hy => h y (by simp [hy])) z hz
theorem shG_last {k : Nat} : ∀ (l : List Nat) (c : Nat), c < 2 ^ k → (∀ x ∈ l, x < 4294967296) → (shG k c l).getD l.length 0 < 2 ^ k
  | [], c, hc, _ => by simpa [shG] using hc
  | x :: l, c, _, h => by
    have := shG_last (k := k) l ((x * 2 ^ k) / 4294967296) (hi_lt (h x (by simp))) fun y hy => h y (by simp [hy])
    simpa [shG] using this
theorem shG_snoc {k x : Nat} : ∀ (l : List Nat) (c : Nat), shG k c (l ++ [x]) = (shG k c l).set l.length ((x * 2 ^ k) % 4294967296 + (shG k c l).getD l.length 0) ++ [(x * 2 ^ k) / 4294967296]
  | [], c => by simp [shG]
  | y :: l, c => by
    have := shG_snoc (k := k) (x := x) l ((y * 2 ^ k) / 4294967296)
    simp only [List.cons_append, shG, this, List.length_cons, List.set_cons_succ, List.getD_cons_succ]
theorem orC {k c x : Nat} (hk : k ≤ 32) (hc : c < 2 ^ k) : bitsI .u32 (· ||| ·) (c : Int) (((x * 2 ^ k) % 4294967296 : Nat) : Int) = (((x * 2 ^ k) % 4294967296 + c : Nat) : Int) := by
  have hl := lo_add hk hc x
  have e1 : BitVec.ofInt IntKind.u32.bits (c : Int) = BitVec.ofNat 32 c := BitVec.ofInt_natCast ..
  have e2 : BitVec.ofInt IntKind.u32.bits (((x * 2 ^ k) % 4294967296 : Nat) : Int) = BitVec.ofNat 32 ((x * 2 ^ k) % 4294967296) := BitVec.ofInt_natCast ..
  have e3 : ((BitVec.ofNat 32 c ||| BitVec.ofNat 32 ((x * 2 ^ k) % 4294967296) : BitVec 32)).toNat = (x * 2 ^ k) % 4294967296 + c := by
    rw [BitVec.toNat_or, BitVec.toNat_ofNat, BitVec.toNat_ofNat, Nat.mod_eq_of_lt (a := c) (by omega), Nat.mod_eq_of_lt (a := (x * 2 ^ k) % 4294967296) (by omega), Nat.or_comm, lo_form hk]
    have := Nat.shiftLeft_add_eq_or_of_lt (i := k) (b := c) hc (x % 2 ^ (32 - k))
    rw [Nat.shiftLeft_eq] at this
    exact this.symm
  unfold bitsI
  rw [e1, e2]
  have e4 : (((BitVec.ofNat 32 c) ||| (BitVec.ofNat 32 ((x * 2 ^ k) % 4294967296)) : BitVec 32).toNat : Int) = (((x * 2 ^ k) % 4294967296 + c : Nat) : Int) := by rw [e3]
  exact (congrArg IntKind.u32.wrap e4).trans (u32_id (by omega) (by omega))
def OutA (l : List Nat) : V → Heap → Prop := fun v h => v = vR 0 ∧ h = [some (.arr 1 (lim l))]
theorem shift_ok {l : List Nat} {k : Nat} (hB : ∀ x ∈ l, x < 4294967296) (hl : l.length ≤ 1099511627776) (hk : k ≤ 31) :
    FnD prog 134 [vs (lim l), vi k] (vR 0) [some (.arr 1 (lim (shG k 0 l)))] := by
  refine vc134o_ok _ _ (R := OutA (shG k 0 l)) ?_
  unfold vc134o
  simp only [lim_length]
  have w1 : IntKind.i64.wrap ((l.length : Int) + 1) = ((l.length + 1 : Nat) : Int) := by rw [w64 (by omega) (by omega)]; omega
  rw [w1]
  refine ⟨⟨by omega, by omega, by omega⟩, fun out t => ∃ i : Nat, t = (i : Int) ∧ i ≤ l.length ∧ out = lim (shG k 0 (l.take i) ++ List.replicate (l.length - i) 0), fun _ t => ((l.length : Int) - t).toNat, ⟨0, rfl, by omega, ?_⟩, ?_⟩
  · rw [Int.toNat_natCast, lim_rep, List.replicate_succ]; simp [shG]
  rintro _ _ ⟨i, rfl, hi, rfl⟩
  refine ⟨fun h => ?_, fun h => ?_⟩
  · have hil : i < l.length := by simpa using h
    have hx := hB _ (List.getElem_mem hil)
    have hBt : ∀ x ∈ l.take i, x < 4294967296 := fun x hx => hB x (List.mem_of_mem_take hx)
    have hlt : (l.take i).length = i := by simp; omega
    have hS := shG_len k (l.take i) 0
    have hc := shG_last (k := k) (l.take i) 0 (Nat.pow_pos (by decide)) hBt
    have hsn := shG_snoc (k := k) (x := l[i]) (l.take i) 0
    have htk : l.take (i + 1) = l.take i ++ [l[i]] := by rw [List.take_add_one, List.getElem?_eq_getElem hil]; rfl
    rw [hlt] at hS hc hsn
    rw [← htk] at hsn
    generalize hSe : shG k 0 (l.take i) = S at *
    have hget : (lim (S ++ List.replicate (l.length - i) 0))[((i : Nat) : Int).toNat]? = some [dU ((S.getD i 0 : Nat) : Int)] := by
      rw [Int.toNat_natCast, lim_get (by simp; omega)]
      simp [List.getElem_append_left (show i < S.length by omega), List.getElem?_eq_getElem (show i < S.length by omega)]
    generalize hce : S.getD i 0 = c at *
    have hwide : l[i] * 2 ^ k < 18446744073709551616 := by
      have h1 : 2 ^ k ≤ 2 ^ 31 := Nat.pow_le_pow_right (by decide) hk
      have h2 : l[i] * 2 ^ k ≤ l[i] * 2 ^ 31 := Nat.mul_le_mul_left _ h1
      omega
    have ek : (2 : Int) ^ (min (k : Int).toNat IntKind.u64.bits) = ((2 ^ k : Nat) : Int) := by
      have hb : IntKind.u64.bits = 64 := rfl
      rw [hb, Int.toNat_natCast, Nat.min_eq_left (by omega)]; simp
    have e1 : IntKind.u64.wrap (IntKind.u64.wrap ((l[i] : Nat) : Int) * 2 ^ (min (k : Int).toNat IntKind.u64.bits)) = ((l[i] * 2 ^ k : Nat) : Int) := by
      rw [wu64 (n := ((l[i] : Nat) : Int)) (by omega) (by omega), ek, ← Int.natCast_mul, wu64 (by omega) (by omega)]
    have hhi := hi_lt (k := k) hx
    generalize hW : l[i] * 2 ^ k = W at *
    have e2 : IntKind.u32.wrap (W : Int) = ((W % 4294967296 : Nat) : Int) := by rw [wu32]; omega
    have e3 : IntKind.u32.wrap ((W : Int).fdiv (2 ^ (min (32 : Int).toNat IntKind.u64.bits))) = ((W / 4294967296 : Nat) : Int) := by
      rw [sh32, u32_id (by omega) (by omega)]; omega
    have e4 : bitsI .u32 (· ||| ·) (c : Int) ((W % 4294967296 : Nat) : Int) = ((W % 4294967296 + c : Nat) : Int) := by
      have := orC (k := k) (c := c) (x := l[i]) (by omega) hc
      rwa [hW] at this
    have e5 : IntKind.i64.wrap ((i : Int) + 1) = ((i + 1 : Nat) : Int) := inc64 (by omega)
    refine ⟨((l[i] : Nat) : Int), ⟨by omega, by omega⟩, by rw [Int.toNat_natCast]; exact lim_get hil, by omega, (c : Int), ⟨by omega, by rw [lim_length]; simp; omega⟩, hget, by decide, ?_⟩
    rw [e1, e2, e3, e4, e5, Int.toNat_natCast, Int.toNat_natCast, lim_set, lim_set]
    have hset : ((S ++ List.replicate (l.length - i) 0).set i (W % 4294967296 + c)).set (i + 1) (W / 4294967296) = shG k 0 (l.take (i + 1)) ++ List.replicate (l.length - (i + 1)) 0 := by
      rw [hsn, List.set_append_left _ _ (by omega), List.set_append_right _ _ (by simp; omega), List.length_set, hS, Nat.sub_self,
        show l.length - i = (l.length - (i + 1)) + 1 by omega, List.replicate_succ, List.set_cons_zero, List.append_assoc]
      rfl
    refine ⟨⟨by omega, by rw [lim_length]; simp; omega⟩, ⟨i + 1, rfl, by omega, by rw [hset]⟩, by show ((l.length : Int) - ((i + 1 : Nat) : Int)).toNat < ((l.length : Int) - (i : Int)).toNat; omega⟩
  · have hil : i = l.length := by have : l.length ≤ i := by simpa using h
                                  omega
    subst hil
    rw [List.take_length, Nat.sub_self, List.replicate_zero, List.append_nil]
    exact ⟨rfl, rfl⟩
end Go.AM
/- slices.Clone at limbs (f168). -/
namespace Go.AM
open Go.Proofs.Tryz
theorem u27 : prog.underlying 53 = some (.slice 91) := by kernel_rfl
theorem wpIn_isNil {n : Nat} {a : Act} {w : World} {o : Oper} {x : Operand} {ad : Option Addr} {len cap : Nat} {next : Act → World → Prop} {Q : Exit → Act → World → Prop}
    (ho : ∃ ty, o.op = .binOp .eql 53 x (.const (.slice none 0 0)) ty) (hx : a.eval x = .slice ad len cap) (h : next (a.put o.dst (.bool ad.isNone)) w) : o.wpIn Fence.wide n prog a w next Q := by
  refine ⟨fun f hf => trivial, ?_⟩
  have hrun : (o.semAt none a.eval).run prog w = .ok (.value (.bool ad.isNone)) w := by
    rw [Oper.semAt_none]
    obtain ⟨dst, op, ty, pos, after, guard⟩ := o
    obtain ⟨ty2, ho⟩ := ho
    simp only at ho
    subst ho
    have he : a.eval (.const (.slice none 0 0)) = .slice none 0 0 := rfl
    have heq : (Op.equal 53 (.slice ad len cap) (.slice none 0 0)).run prog w = .ok ad.isNone w := by
      obtain ⟨d, hd⟩ : ∃ d, Op.maxDepth = d + 1 := ⟨_, rfl⟩
      unfold Op.equal
      rw [hd]
      unfold Op.equalIn
      cases ad <;> simp [run_underlying u27, Sem.run_bind, Result.andThen]
    have hb : (binOp .eql 53 (.slice ad len cap) (.slice none 0 0)).run prog w = .ok (.bool ad.isNone) w := by
      show (do pure (Value.bool (← Op.equal 53 (.slice ad len cap) (.slice none 0 0))) : Sem Value).run prog w = _
      rw [Sem.run_bind, heq]; rfl
    have hg : (eqGuard .eql 53 x (.const (.slice none 0 0)) (.slice ad len cap) (.slice none 0 0)).run prog w = .ok () w := by
      unfold eqGuard; simp
    simp only [execOp, hx, he, Sem.run_bind, hg, hb, Result.andThen, Sem.run_pure]
  show o.uponIn Fence.wide n prog a next Q ((o.semAt none a.eval).run prog w)
  rw [hrun, Oper.uponIn_value]
  exact h
set_option maxRecDepth 100000 in
set_option maxHeartbeats 1000000 in
theorem clone_ok {l : List (List D)} (h1 : ∀ y ∈ l, y.length = 1) (h2 : l.length * 4 ≤ 140737488355328) : FnD prog 126 [vD (dL l)] (vD (dL l)) [] := by
  refine ⟨⟨f126, func126, rfl, by kernel_rfl⟩, fun I M w vs s hr => ?_⟩
  refine (callsIn_wide (n := 0)).1 (callsIn_of_wp func126 rfl trivial ?_)
  have s0 := Sim.start (fn := f126) ntmps126 (args := [vD (dL l)]) (by simp) s hr
  have no0 : ∀ {M : Mem} b, ¬ fpAll M [] b := fun b ⟨o, ho⟩ => by simp [fpAt] at ho
  refine wpIn_seq (wpIn_mono (Does.regV hT (n0 := 0) [0] [] (σ' := ⟨[(0, vD (dL l))], [], 8⟩) (cnt := 0) (ins := [o0]) (obs := []) (by kernel_rfl) rfl rfl (by kernel_rfl) trivial none 0 I M _ w s0) ?_)
  rintro e a1 w1 ⟨rfl, I1, M1, s1, n1⟩
  refine wpIn_seq (wpIn_seq (wpIn_region (xpart_ok (k := 0) (c := 1) (rest := [1]) hT (ins := [o0]) (live := [0, 3]) (σ' := ⟨[(0, vD (dL l)), (3, vD (dL l))], [], 8⟩) (obs := []) (by kernel_rfl) trivial s1 ?_)))
  intro a2 w2 I2 M2 s2 n2
  have h3 : Reads w2 I2 (a2.tmps.getD 3 undef) (.sl l) := s2.tm 3 (vD (dL l)) (by simp)
  obtain ⟨ad, len, cap, hv, hnil⟩ : ∃ ad len cap, a2.tmps.getD 3 undef = .slice ad len cap ∧ (ad.isNone = true → l = []) := by
    generalize a2.tmps.getD 3 undef = z at h3
    cases h3 with
    | slnil a c => exact ⟨a, 0, c, rfl, fun _ => rfl⟩
    | sl elems vs hI hb hs hcap hc hr => exact ⟨_, _, _, rfl, fun h => by simp at h⟩
  refine wpOpsIn_one rfl rfl (wpIn_isNil ⟨_, rfl⟩ hv ?_)
  have s3 : Sim I2 M2 ⟨[(0, vD (dL l)), (4, vD (dB ad.isNone))], [], 8⟩ (a2.put (some 4) (.bool ad.isNone)) w2 := by
    have hsz : a2.tmps.size = 8 := s2.size
    refine { toSimH := s2.toSimH, tm := fun i v hv => ?_, size := by simp [Act.put, hsz], defers := s2.defers }
    simp only [List.mem_cons, Prod.mk.injEq, List.not_mem_nil, or_false] at hv
    rcases hv with ⟨rfl, rfl⟩ | ⟨rfl, rfl⟩
    · have : (a2.put (some 4) (.bool ad.isNone)).tmps.getD 0 undef = a2.tmps.getD 0 undef := by simp [Act.put, Array.getD_eq_getD_getElem?]
      rw [this]; exact s2.tm 0 _ (by simp)
    · have : (a2.put (some 4) (.bool ad.isNone)).tmps.getD 4 undef = .bool ad.isNone := by simp [Act.put, Array.getD_eq_getD_getElem?, hsz]
      rw [this]; exact Reads.bool _
  have nB := n1.trans n2
  show Code.wpIn _ _ _ _ _ _ _
  refine wpIn_cond_split (t := ad.isNone) (relV_bool (s3.ev rfl)) (fun hc => ?_) (fun hc => ?_)
  · -- nil
    obtain rfl := hnil hc
    refine wpIn_seq (wpIn_mono (Does.regV hT (n0 := 0) [2] [] (σ' := ⟨[(2, vD (.raw nilS))], [], 8⟩) (cnt := 0) (ins := [o0]) (obs := []) (by kernel_rfl) rfl rfl (by kernel_rfl) trivial none 0 I2 M2 _ w2 s3) ?_)
    rintro e a4 w4 ⟨rfl, I4, M4, s4, n4⟩
    refine wpIn_ret ?_
    obtain ⟨u, g1, g2⟩ := results_ok hT s4 (fn := f126) (r := vD (.raw nilS)) (by kernel_rfl)
    have nA := nB.trans n4
    exact ⟨s4.defers, u, g1, u, _, [], I4, M4, rfl, ⟨rfl, rfl⟩, normD_ok g2, s4.toSimH, nA.ext, fun b hb => absurd hb (no0 b), fun o e ho => by simp at ho⟩
  · refine wpIn_skip ?_
    refine wpIn_seq (wpIn_mono (((Does.regV hT (n0 := 0) [2] [1] (σ' := ⟨[(2, vR 0)], [some (.arr 1 ([] ++ l))], 8⟩) (cnt := 2) (ins := [(Or.none, 0, 1), o0, (Or.none, 1, 1), o0])
      (obs := [∀ y ∈ l, y.length = 1, (([] : List (List D)).length + l.length) * 4 ≤ 140737488355328]) (by kernel_rfl) rfl rfl (by kernel_rfl) ⟨h1, by simpa using h2, trivial⟩).wk
      (xfreeze_ok (ids := [0]) (σ' := ⟨[(2, vD (dL ([] ++ l)))], [none], 8⟩) (by kernel_rfl))).wk (xview_ok (live := [2]) (ids := []) (σ' := ⟨[(2, vD (dL ([] ++ l)))], [], 8⟩) (by kernel_rfl) rfl rfl) none 0 I2 M2 _ w2 s3) ?_)
    rintro e a4 w4 ⟨rfl, I4, M4, s4, n4⟩
    refine wpIn_ret ?_
    obtain ⟨u, g1, g2⟩ := results_ok hT s4 (fn := f126) (r := vD (dL ([] ++ l))) (by kernel_rfl)
    have nA := nB.trans n4
    exact ⟨s4.defers, u, g1, u, _, [], I4, M4, rfl, ⟨rfl, rfl⟩, g2, s4.toSimH, nA.ext, fun b hb => absurd hb (no0 b), fun o e ho => by simp at ho⟩
end Go.AM
/- Long division in plain Lean: how good the guess of a digit is. -/
namespace Go.AM
theorem guess_dec {v1 v2 vr P u2 wr top g r : Nat} (hg : g * v1 + r = top) (hw : wr < P) (hlt : (top * 4294967296 + u2) * P + wr < ((v1 * 4294967296 + v2) * P + vr) * 4294967296)
    (h : 4294967296 ≤ g ∨ r * 4294967296 + u2 < g * v2) : ((top * 4294967296 + u2) * P + wr) / ((v1 * 4294967296 + v2) * P + vr) < g := by
  obtain ⟨W, hW⟩ : ∃ W, W = (top * 4294967296 + u2) * P + wr := ⟨_, rfl⟩
  obtain ⟨v, hv⟩ : ∃ v, v = (v1 * 4294967296 + v2) * P + vr := ⟨_, rfl⟩
  rw [← hW, ← hv] at hlt ⊢
  have hv0 : 0 < v := by
    rcases Nat.eq_zero_or_pos v with h0 | h0
    · rw [h0] at hlt; omega
    · exact h0
  rw [Nat.div_lt_iff_lt_mul hv0]
  rcases h with h | h
  · have : v * 4294967296 ≤ v * g := Nat.mul_le_mul_left _ h
    rw [Nat.mul_comm g v]; omega
  · have h1 : (top * 4294967296 + u2 + 1) * P ≤ (g * (v1 * 4294967296 + v2)) * P := by
      refine Nat.mul_le_mul_right _ ?_
      rw [← hg, Nat.add_mul, Nat.mul_add, ← Nat.mul_assoc]; omega
    have h2 : (g * (v1 * 4294967296 + v2)) * P ≤ g * v := by
      rw [Nat.mul_assoc, hv]; exact Nat.mul_le_mul_left _ (Nat.le_add_right _ _)
    rw [Nat.add_mul _ 1 P, Nat.one_mul] at h1
    omega
theorem guess_end {v1 v2 vr P u2 wr top g r : Nat} (hg : g * v1 + r = top) (hv1 : 2147483648 ≤ v1) (hv2 : v2 < 4294967296) (hvr : vr < P) (hgB : g ≤ 4294967296)
    (h : 4294967296 ≤ r ∨ g * v2 ≤ r * 4294967296 + u2) : g ≤ ((top * 4294967296 + u2) * P + wr) / ((v1 * 4294967296 + v2) * P + vr) + 1 := by
  have h1 : g * v2 ≤ r * 4294967296 + u2 := by
    rcases h with h | h
    · have a1 : g * v2 ≤ 4294967296 * v2 := Nat.mul_le_mul_right _ hgB
      omega
    · exact h
  obtain ⟨W, hW⟩ : ∃ W, W = (top * 4294967296 + u2) * P + wr := ⟨_, rfl⟩
  obtain ⟨v, hv⟩ : ∃ v, v = (v1 * 4294967296 + v2) * P + vr := ⟨_, rfl⟩
  rw [← hW, ← hv]
  have hP : 0 < P := by omega
  have hvB : 4294967296 * P ≤ v := by
    have : 4294967296 * P ≤ (v1 * 4294967296 + v2) * P := Nat.mul_le_mul_right _ (by omega)
    omega
  have hv0 : 0 < v := by omega
  have h2 : (g * (v1 * 4294967296 + v2)) * P ≤ (top * 4294967296 + u2) * P := by
    refine Nat.mul_le_mul_right _ ?_
    rw [← hg, Nat.add_mul, Nat.mul_add, ← Nat.mul_assoc]; omega
  have h3 : g * v ≤ W + g * P := by
    rw [hv, Nat.mul_add, ← Nat.mul_assoc]
    have : g * vr ≤ g * P := Nat.mul_le_mul_left _ (by omega)
    omega
  have h4 : g * P ≤ v := Nat.le_trans (Nat.mul_le_mul_right _ hgB) hvB
  rcases Nat.eq_zero_or_pos g with h0 | h0
  · rw [h0]; exact Nat.zero_le _
  · have h5 : (g - 1) * v ≤ W := by rw [Nat.sub_mul, Nat.one_mul]; omega
    have := (Nat.le_div_iff_mul_le hv0).2 h5
    omega
theorem guess_first {v1 v2 vr P u2 wr hi lo g r : Nat} (hv1 : 2147483648 ≤ v1) (hv2 : v2 < 4294967296) (hvr : vr < P) (hlo : lo < 4294967296) (hu : u2 < 4294967296)
    (hg : g = (hi * 4294967296 + lo) / v1) (hr : r = (hi * 4294967296 + lo) % v1)
    (hlt : ((hi * 4294967296 + lo) * 4294967296 + u2) * P + wr < ((v1 * 4294967296 + v2) * P + vr) * 4294967296) (hw : wr < P) :
    g * v1 + r = hi * 4294967296 + lo ∧ r < v1 ∧ hi ≤ v1 ∧ g ≤ 4294967297 ∧ (((hi * 4294967296 + lo) * 4294967296 + u2) * P + wr) / ((v1 * 4294967296 + v2) * P + vr) ≤ g := by
  have hP : 0 < P := by omega
  have h1 : g * v1 + r = hi * 4294967296 + lo := by rw [hg, hr, Nat.mul_comm]; exact Nat.div_add_mod _ _
  have h2 : r < v1 := by rw [hr]; exact Nat.mod_lt _ (by omega)
  have h3 : hi ≤ v1 := by
    apply Classical.byContradiction
    intro hn
    have a1 : (v1 + 1) * (4294967296 * (4294967296 * P)) ≤ hi * (4294967296 * (4294967296 * P)) := Nat.mul_le_mul_right _ (by omega)
    have a2 : ((hi * 4294967296 + lo) * 4294967296 + u2) * P = hi * (4294967296 * (4294967296 * P)) + (lo * 4294967296 + u2) * P := by
      simp only [Nat.add_mul, Nat.mul_assoc]; omega
    have a3 : ((v1 * 4294967296 + v2) * P + vr) * 4294967296 = v1 * (4294967296 * (4294967296 * P)) + (v2 * P + vr) * 4294967296 := by
      simp only [Nat.add_mul, Nat.mul_assoc, Nat.mul_comm P 4294967296]; omega
    have a4 : (v2 + 1) * P ≤ 4294967296 * P := Nat.mul_le_mul_right _ (by omega)
    rw [Nat.add_mul, Nat.one_mul] at a1 a4
    rw [a2, a3] at hlt
    omega
  refine ⟨h1, h2, h3, ?_, ?_⟩
  · rw [hg]
    have : hi * 4294967296 + lo < v1 * 4294967298 := by omega
    have := (Nat.div_lt_iff_lt_mul (by omega)).2 (show hi * 4294967296 + lo < 4294967298 * v1 by omega)
    omega
  · obtain ⟨W, hW⟩ : ∃ W, W = ((hi * 4294967296 + lo) * 4294967296 + u2) * P + wr := ⟨_, rfl⟩
    rw [← hW]
    obtain ⟨v, hv⟩ : ∃ v, v = (v1 * 4294967296 + v2) * P + vr := ⟨_, rfl⟩
    rw [← hv]
    obtain ⟨t, ht⟩ : ∃ t, t = hi * 4294967296 + lo := ⟨_, rfl⟩
    rw [← ht] at hW h1
    have hv0 : 0 < v := by
      have : 0 < (v1 * 4294967296 + v2) * P := Nat.mul_pos (by omega) hP
      omega
    have c1 : t + 1 ≤ (g + 1) * v1 := by rw [Nat.add_mul g 1, Nat.one_mul]; omega
    have c2 : (t + 1) * (4294967296 * P) ≤ (g + 1) * v1 * (4294967296 * P) := Nat.mul_le_mul_right _ c1
    have c3 : (u2 + 1) * P ≤ 4294967296 * P := Nat.mul_le_mul_right _ hu
    rw [Nat.add_mul u2 1, Nat.one_mul] at c3
    have c4 : W < (t + 1) * (4294967296 * P) := by
      rw [hW, Nat.add_mul t 1, Nat.one_mul, Nat.add_mul (t * 4294967296) u2, Nat.mul_assoc t]
      omega
    have c6 : v1 * 4294967296 * P ≤ (v1 * 4294967296 + v2) * P := Nat.mul_le_mul_right _ (by omega)
    have c5 : (g + 1) * v1 * (4294967296 * P) ≤ (g + 1) * v := by
      rw [hv, Nat.mul_assoc (g + 1)]
      refine Nat.mul_le_mul_left _ ?_
      rw [← Nat.mul_assoc]
      omega
    have := (Nat.div_lt_iff_lt_mul hv0).2 (show W < (g + 1) * v by omega)
    omega
end Go.AM
/- Long division in plain Lean: a multiple of the divisor is subtracted; the divisor is added back. -/
namespace Go.AM
def sbD (u lo bo : Nat) : Nat := (u + 8589934592 - lo - bo) % 4294967296
def sbB (u lo bo : Nat) : Nat := if u < lo + bo then 1 else 0
theorem sb_ok {u lo bo : Nat} (hu : u < 4294967296) (hl : lo < 4294967296) (hb : bo ≤ 1) : u + sbB u lo bo * 4294967296 = sbD u lo bo + lo + bo ∧ sbD u lo bo < 4294967296 ∧ sbB u lo bo ≤ 1 := by
  unfold sbB sbD
  split <;> omega
def mS (g : Nat) : Nat → Nat → List Nat → List Nat → List Nat × Nat × Nat
  | c, bo, u :: us, y :: vs =>
    (sbD u ((c + g * y) % 4294967296) bo :: (mS g ((c + g * y) / 4294967296) (sbB u ((c + g * y) % 4294967296) bo) us vs).1,
      (mS g ((c + g * y) / 4294967296) (sbB u ((c + g * y) % 4294967296) bo) us vs).2)
  | c, bo, _, _ => ([], c, bo)
theorem mS_val {g : Nat} : ∀ (us vs : List Nat) (c bo : Nat), us.length = vs.length → (∀ x ∈ us, x < 4294967296) → bo ≤ 1 →
    val us + ((mS g c bo us vs).2.1 + (mS g c bo us vs).2.2) * 4294967296 ^ us.length = val (mS g c bo us vs).1 + g * val vs + c + bo ∧ (mS g c bo us vs).2.2 ≤ 1 ∧ (∀ z ∈ (mS g c bo us vs).1, z < 4294967296) ∧ (mS g c bo us vs).1.length = us.length
  | [], [], c, bo, _, _, hb => by simp [mS, val, hb]
  | [], _ :: _, _, _, h, _, _ => by simp at h
  | _ :: _, [], _, _, h, _, _ => by simp at h
  | u :: us, y :: vs, c, bo, h, hu, hb => by
    have h0 := hu u (by simp)
    obtain ⟨s1, s2, s3⟩ := sb_ok h0 (Nat.mod_lt (c + g * y) (by decide : 0 < 4294967296)) hb
    have hdm := Nat.div_add_mod (c + g * y) 4294967296
    simp only [mS]
    generalize hlo : (c + g * y) % 4294967296 = lo at *
    generalize hhi : (c + g * y) / 4294967296 = hi at *
    obtain ⟨i1, i2, i3, i4⟩ := mS_val us vs hi (sbB u lo bo) (by simpa using h) (fun x hx => hu x (by simp [hx])) s3
    generalize hms : mS g hi (sbB u lo bo) us vs = r at *
    refine ⟨?_, i2, fun z hz => ?_, by simp [i4]⟩
    · simp only [val, List.length_cons, Nat.pow_succ]
      have e1 : (r.2.1 + r.2.2) * (4294967296 ^ us.length * 4294967296) = 4294967296 * ((r.2.1 + r.2.2) * 4294967296 ^ us.length) := by
        rw [← Nat.mul_assoc, Nat.mul_comm]
      have e2 : g * (y + 4294967296 * val vs) = g * y + 4294967296 * (g * val vs) := by
        rw [Nat.mul_add, Nat.mul_left_comm]
      rw [e1, e2]
      omega
    · rcases List.mem_cons.1 hz with rfl | hz
      · exact s2
      · exact i3 z hz
def aB : Nat → List Nat → List Nat → List Nat × Nat
  | c, u :: us, y :: vs => ((u + y + c) % 4294967296 :: (aB ((u + y + c) / 4294967296) us vs).1, (aB ((u + y + c) / 4294967296) us vs).2)
  | c, _, _ => ([], c)
theorem aB_val : ∀ (us vs : List Nat) (c : Nat), us.length = vs.length → (∀ x ∈ us, x < 4294967296) → (∀ x ∈ vs, x < 4294967296) → c ≤ 1 →
    val us + val vs + c = val (aB c us vs).1 + (aB c us vs).2 * 4294967296 ^ us.length ∧ (aB c us vs).2 ≤ 1 ∧ (∀ z ∈ (aB c us vs).1, z < 4294967296) ∧ (aB c us vs).1.length = us.length
  | [], [], c, _, _, _, hc => by simp [aB, val, hc]
  | [], _ :: _, _, h, _, _, _ => by simp at h
  | _ :: _, [], _, h, _, _, _ => by simp at h
  | u :: us, y :: vs, c, h, hu, hv, hc => by
    have h0 := hu u (by simp)
    have h1 := hv y (by simp)
    have hdm := Nat.div_add_mod (u + y + c) 4294967296
    have hlt := Nat.mod_lt (u + y + c) (by decide : 0 < 4294967296)
    have hhi : (u + y + c) / 4294967296 ≤ 1 := by omega
    simp only [aB]
    generalize (u + y + c) % 4294967296 = lo at *
    generalize (u + y + c) / 4294967296 = hi at *
    obtain ⟨i1, i2, i3, i4⟩ := aB_val us vs hi (by simpa using h) (fun x hx => hu x (by simp [hx])) (fun x hx => hv x (by simp [hx])) hhi
    generalize hms : aB hi us vs = r at *
    refine ⟨?_, i2, fun z hz => ?_, by simp [i4]⟩
    · simp only [val, List.length_cons, Nat.pow_succ]
      have e1 : r.2 * (4294967296 ^ us.length * 4294967296) = 4294967296 * (r.2 * 4294967296 ^ us.length) := by
        rw [← Nat.mul_assoc, Nat.mul_comm]
      rw [e1]
      omega
    · rcases List.mem_cons.1 hz with rfl | hz
      · exact hlt
      · exact i3 z hz
end Go.AM
/- Long division in plain Lean: a round. -/
namespace Go.AM
theorem uniq_dm {a b x y N : Nat} (h : a + x * N = b + y * N) (ha : a < N) (hb : b < N) : a = b ∧ x = y := by
  have hN : 0 < N := by omega
  have h1 : (a + x * N) / N = x := by rw [Nat.add_mul_div_right _ _ hN, Nat.div_eq_of_lt ha, Nat.zero_add]
  have h2 : (b + y * N) / N = y := by rw [Nat.add_mul_div_right _ _ hN, Nat.div_eq_of_lt hb, Nat.zero_add]
  have h3 : x = y := by rw [← h1, h, h2]
  subst h3
  exact ⟨by omega, rfl⟩
theorem knuth_round {us vs : List Nat} {ut g W v : Nat} (hl : us.length = vs.length) (hu : ∀ x ∈ us, x < 4294967296) (hv : ∀ x ∈ vs, x < 4294967296) (hW : W = val us + ut * 4294967296 ^ us.length) (hvv : v = val vs) (hv0 : 0 < v)
    (h1 : W / v ≤ g) (h2 : g ≤ W / v + 1) :
    ((mS g 0 0 us vs).2.1 + (mS g 0 0 us vs).2.2 ≤ ut → g = W / v ∧ val (mS g 0 0 us vs).1 = W % v ∧ (mS g 0 0 us vs).2.1 + (mS g 0 0 us vs).2.2 = ut) ∧
    (ut < (mS g 0 0 us vs).2.1 + (mS g 0 0 us vs).2.2 → g = W / v + 1 ∧ (mS g 0 0 us vs).2.1 + (mS g 0 0 us vs).2.2 = ut + 1 ∧ (aB 0 (mS g 0 0 us vs).1 vs).2 = 1 ∧ val (aB 0 (mS g 0 0 us vs).1 vs).1 = W % v) := by
  obtain ⟨m1, _, m3, m4⟩ := mS_val (g := g) us vs 0 0 hl hu (by omega)
  have vlt : v < 4294967296 ^ us.length := by rw [hvv, hl]; exact val_lt hv
  have dlt : val (mS g 0 0 us vs).1 < 4294967296 ^ us.length := by have := val_lt m3; rwa [m4] at this
  obtain ⟨a1, a2, a3, a4⟩ := aB_val (mS g 0 0 us vs).1 vs 0 (by rw [m4]; exact hl) m3 hv (by omega)
  have elt : val (aB 0 (mS g 0 0 us vs).1 vs).1 < 4294967296 ^ us.length := by have := val_lt a3; rwa [a4, m4] at this
  rw [m4] at a1
  have hdm := Nat.div_add_mod W v
  have hR := Nat.mod_lt W hv0
  generalize hS : (mS g 0 0 us vs).2.1 + (mS g 0 0 us vs).2.2 = S at *
  generalize (mS g 0 0 us vs).1 = ds at *
  generalize (aB 0 ds vs).1 = es at *
  generalize (aB 0 ds vs).2 = ce at *
  generalize 4294967296 ^ us.length = N at *
  generalize hQ : W / v = Q at *
  generalize W % v = Rm at *
  rw [← hvv] at m1 a1
  rcases Nat.lt_or_ge Q g with hg | hg
  · have hg' : g = Q + 1 := by omega
    subst hg'
    have e : Rm + S * N = val ds + v + ut * N := by
      rw [Nat.add_mul Q 1 v, Nat.one_mul] at m1
      rw [Nat.mul_comm v Q] at hdm
      omega
    have hS1 : S = ut + 1 := by
      rcases Nat.lt_trichotomy S (ut + 1) with h | h | h
      · have : S * N ≤ ut * N := Nat.mul_le_mul_right _ (by omega)
        omega
      · exact h
      · have : (ut + 2) * N ≤ S * N := Nat.mul_le_mul_right _ (by omega)
        rw [Nat.add_mul ut 2] at this
        omega
    subst hS1
    rw [Nat.add_mul ut 1 N, Nat.one_mul] at e
    refine ⟨fun h => by omega, fun _ => ⟨rfl, rfl, ?_⟩⟩
    have f : val es + ce * N = Rm + 1 * N := by omega
    have := uniq_dm f elt (by omega)
    exact ⟨this.2, this.1⟩
  · have hg' : g = Q := by omega
    subst hg'
    have e : Rm + S * N = val ds + ut * N := by
      rw [Nat.mul_comm v g] at hdm
      omega
    have := uniq_dm e (by omega) dlt
    exact ⟨fun _ => ⟨rfl, this.1.symm, this.2⟩, fun h => by omega⟩
end Go.AM
/- integer.Abs, oplog.least. -/
namespace Go.AM
open Go.Proofs.Tryz
theorem abs_ok (x : Int) : FnD prog 117 [eI x] (eI ((x.natAbs : Nat) : Int)) [] := by
  refine vc117_ok _ _ (R := Out _) ?_
  unfold vc117
  have h : decide (((x.natAbs : Nat) : Int) < 0) = false := decide_eq_false (by omega)
  exact ⟨by unfold eI; rw [h, Int.natAbs_natCast], rfl⟩
def lsS (m : List (List Int)) (c : Nat) (best : Int) (i : Nat) : Int :=
  if el m i c ≠ 0 ∧ (best < 0 ∨ (el m i c).natAbs < (el m best.toNat c).natAbs) then (i : Int) else best
def lsF (m : List (List Int)) (c top : Nat) : Nat → Int
  | 0 => -1
  | n + 1 => lsS m c (lsF m c top n) (top + n)
theorem lsF_ok {m : List (List Int)} {c top : Nat} : ∀ n, (lsF m c top n = -1 ∧ ∀ i, top ≤ i → i < top + n → el m i c = 0) ∨
    ∃ p : Nat, lsF m c top n = (p : Int) ∧ top ≤ p ∧ p < top + n ∧ el m p c ≠ 0 ∧ ∀ i, top ≤ i → i < top + n → el m i c ≠ 0 → (el m p c).natAbs ≤ (el m i c).natAbs
  | 0 => .inl ⟨rfl, fun i h1 h2 => by omega⟩
  | n + 1 => by
    simp only [lsF, lsS]
    rcases lsF_ok (m := m) (c := c) (top := top) n with ⟨h1, h2⟩ | ⟨p, h1, h2, h3, h4, h5⟩
    · rw [h1]
      by_cases h : el m (top + n) c = 0
      · rw [if_neg (by simp [h])]
        refine .inl ⟨rfl, fun i g1 g2 => ?_⟩
        by_cases hi : i = top + n
        · subst hi; exact h
        · exact h2 i g1 (by omega)
      · rw [if_pos ⟨h, .inl (by decide)⟩]
        refine .inr ⟨top + n, rfl, by omega, by omega, h, fun i g1 g2 g3 => ?_⟩
        by_cases hi : i = top + n
        · subst hi; exact Nat.le_refl _
        · exact absurd (h2 i g1 (by omega)) g3
    · rw [h1]
      have hnn : ¬ ((p : Int) < 0) := by omega
      by_cases h : el m (top + n) c ≠ 0 ∧ (el m (top + n) c).natAbs < (el m p c).natAbs
      · rw [if_pos ⟨h.1, .inr (by rw [Int.toNat_natCast]; exact h.2)⟩]
        refine .inr ⟨top + n, rfl, by omega, by omega, h.1, fun i g1 g2 g3 => ?_⟩
        by_cases hi : i = top + n
        · subst hi; exact Nat.le_refl _
        · have := h5 i g1 (by omega) g3; omega
      · rw [if_neg (by rw [Int.toNat_natCast]; exact fun ⟨a, b⟩ => b.elim hnn fun b => h ⟨a, b⟩)]
        refine .inr ⟨p, rfl, h2, by omega, h4, fun i g1 g2 g3 => ?_⟩
        by_cases hi : i = top + n
        · subst hi
          apply Classical.byContradiction
          intro hn
          exact h ⟨g3, by omega⟩
        · exact h5 i g1 (by omega) g3
end Go.AM
/- Hermite normal forms in small steps, in plain Lean: the steps, how much they let the elements grow, that they end. -/
namespace Go.AM
def opnL (c top : Nat) (m : List (List Int)) (l : List Nat) : Option Nat := l.find? fun i => decide (i ≠ top) && decide (el m i c / el m top c ≠ 0)
def nx1 (r c top : Nat) (m : List (List Int)) : Option Opz × Nat × Nat :=
  if lsF m c top (r - top) < 0 then (none, top, c + 1)
  else if lsF m c top (r - top) ≠ (top : Int) then (some (swapO (lsF m c top (r - top)).toNat top), top, c)
  else if el m top c < 0 then (some (negO top), top, c)
  else match opnL c top m (List.range r) with
    | some i => (some (addO i top (-(el m i c / el m top c))), top, c)
    | none => (none, top + 1, c + 1)
structure PS where
  d : List Opz
  t : Nat
  k : Nat
def PS.fin (r cc : Nat) (s : PS) : Bool := decide (r ≤ s.t) || decide (cc ≤ s.k)
def PS.next (r cc : Nat) (a : List (List Int)) (s : PS) : PS := ⟨s.d ++ (nx1 r s.k s.t (apL r cc s.d a)).1.toList, (nx1 r s.k s.t (apL r cc s.d a)).2.1, (nx1 r s.k s.t (apL r cc s.d a)).2.2⟩
def PS.run (r cc : Nat) (a : List (List Int)) : Nat → PS → PS
  | 0, s => s
  | n + 1, s => if s.fin r cc then s else PS.run r cc a n (s.next r cc a)
theorem PS.run_fin {r cc : Nat} {a : List (List Int)} {s : PS} (h : s.fin r cc = true) : ∀ n, s.run r cc a n = s
  | 0 => rfl
  | n + 1 => by simp [PS.run, h]
theorem PS.run_add {r cc : Nat} {a : List (List Int)} : ∀ (n k : Nat) (s : PS), s.run r cc a (n + k) = (s.run r cc a n).run r cc a k
  | 0, k, s => by rw [Nat.zero_add]; rfl
  | n + 1, k, s => by
    rw [show n + 1 + k = (n + k) + 1 by omega]
    simp only [PS.run]
    split
    · rename_i h; rw [PS.run_fin h]
    · exact PS.run_add n k _
def prodF : Nat → (Nat → Nat) → Nat
  | 0, _ => 1
  | n + 1, f => prodF n f * f n
theorem prodF_congr : ∀ {n : Nat} {f g : Nat → Nat}, (∀ i, i < n → f i = g i) → prodF n f = prodF n g
  | 0, _, _, _ => rfl
  | n + 1, f, g, h => by simp only [prodF]; rw [prodF_congr fun i hi => h i (by omega), h n (by omega)]
theorem prodF_pos : ∀ {n : Nat} {f : Nat → Nat}, (∀ i, i < n → 1 ≤ f i) → 1 ≤ prodF n f
  | 0, _, _ => Nat.le_refl _
  | n + 1, f, h => Nat.mul_le_mul (prodF_pos fun i hi => h i (by omega)) (h n (by omega))
theorem prodF_le : ∀ {n K : Nat} {f : Nat → Nat}, (∀ i, i < n → f i ≤ K) → prodF n f ≤ K ^ n
  | 0, _, _, _ => Nat.le_refl _
  | n + 1, K, f, h => by rw [Nat.pow_succ]; exact Nat.mul_le_mul (prodF_le fun i hi => h i (by omega)) (h n (by omega))
theorem prodF_one : ∀ {n k : Nat} {f g : Nat → Nat}, k < n → (∀ i, i < n → i ≠ k → g i = f i) → prodF n f * g k = prodF n g * f k
  | 0, _, _, _, h, _ => by omega
  | n + 1, k, f, g, h, he => by
    simp only [prodF]
    by_cases hk : k = n
    · subst hk
      rw [prodF_congr fun i hi => he i (by omega) (by omega)]
      rw [Nat.mul_assoc, Nat.mul_assoc, Nat.mul_comm (f k)]
    · have := prodF_one (n := n) (k := k) (f := f) (g := g) (by omega) fun i hi => he i (by omega)
      rw [he n (by omega) (Ne.symm hk), Nat.mul_right_comm, this, Nat.mul_right_comm]
theorem prodF_mul {n k x : Nat} {f g : Nat → Nat} (hk : k < n) (he : ∀ i, i < n → i ≠ k → g i = f i) (hg : x * g k ≤ f k) (hp : ∀ i, i < n → 1 ≤ g i) : x * prodF n g ≤ prodF n f := by
  have h1 := prodF_one hk he
  have h2 : x * g k * prodF n g ≤ f k * prodF n g := Nat.mul_le_mul_right _ hg
  rw [Nat.mul_comm (f k), ← h1, Nat.mul_right_comm] at h2
  exact Nat.le_of_mul_le_mul_right h2 (hp k hk)
theorem prodF_swap {n i t : Nat} {f g : Nat → Nat} (hi : i < n) (ht : t < n) (h1 : g i = f t) (h2 : g t = f i) (he : ∀ j, j < n → j ≠ i → j ≠ t → g j = f j) (hp : ∀ j, j < n → 1 ≤ f j) : prodF n g = prodF n f := by
  by_cases hit : i = t
  · subst hit
    exact prodF_congr fun j hj => by
      by_cases h : j = i
      · rw [h]; exact h1
      · exact he j hj h h
  · -- over the one where i has been replaced
    have a1 := prodF_one (n := n) (k := i) (f := f) (g := fun j => if j = i then f t else f j) hi fun j _ hj => by simp [hj]
    have a2 := prodF_one (n := n) (k := t) (f := fun j => if j = i then f t else f j) (g := g) ht fun j hj hjt => by
      by_cases h : j = i
      · simp [h, h1]
      · simp [h, he j hj h hjt]
    simp only [if_pos, if_neg (Ne.symm hit)] at a1 a2
    rw [h2, ← a1] at a2
    exact (Nat.eq_of_mul_eq_mul_right (hp t ht) a2).symm
def wE (N : Nat) (x : Int) : Nat := if 0 ≤ x then x.natAbs + 1 else x.natAbs + 2 * N + 1
def psi (r c N : Nat) (m : List (List Int)) : Nat := prodF r fun i => wE N (el m i c)
theorem wE_pos (N : Nat) (x : Int) : 1 ≤ wE N x := by unfold wE; split <;> omega
theorem psi_pos {r c N : Nat} {m : List (List Int)} : 1 ≤ psi r c N m := prodF_pos fun _ _ => wE_pos _ _
theorem psi_le {r c N : Nat} {m : List (List Int)} (h : ColB r c N m) : psi r c N m ≤ (3 * N + 1) ^ r := prodF_le fun i hi => by
  have := h i hi
  unfold wE; split <;> omega
section
variable {r cc c top : Nat} {m : List (List Int)} {N : Nat} (hc : c < cc) (hA : ColB r c N m)
include hc hA
theorem swap_col {i : Nat} (ht : top < r) (hi : i < r) : ColB r c N (apO r cc (swapO i top) m) ∧ psi r c N (apO r cc (swapO i top) m) = psi r c N m := by
  have e : ∀ a, a < r → el (apO r cc (swapO i top) m) a c = if a = i then el m top c else if a = top then el m i c else el m a c := fun a ha => el_swap ha hc
  refine ⟨fun a ha => ?_, ?_⟩
  · rw [e a ha]
    split
    · exact hA _ ht
    · split
      · exact hA _ hi
      · exact hA a ha
  · refine prodF_swap hi ht ?_ ?_ (fun j hj h1 h2 => ?_) fun _ _ => wE_pos _ _
    · rw [e i hi, if_pos rfl]
    · rw [e top ht]
      by_cases h : top = i
      · rw [if_pos h, h]
      · rw [if_neg h, if_pos rfl]
    · rw [e j hj, if_neg h1, if_neg h2]
theorem neg_col (ht : top < r) (hn : el m top c < 0) : ColB r c N (apO r cc (negO top) m) ∧ psi r c N (apO r cc (negO top) m) ≤ psi r c N m := by
  have e : ∀ a, a < r → el (apO r cc (negO top) m) a c = if a = top then - el m a c else el m a c := fun a ha => by rw [el_apO ha hc]; simp [opF]
  refine ⟨fun a ha => ?_, ?_⟩
  · rw [e a ha]
    split
    · rw [Int.natAbs_neg]; exact hA a ha
    · exact hA a ha
  · have := prodF_mul (x := 1) (n := r) (k := top) (f := fun i => wE N (el m i c)) (g := fun i => wE N (el (apO r cc (negO top) m) i c)) ht (fun i hi h => by rw [e i hi, if_neg h])
      (by rw [e top ht, if_pos rfl, Nat.one_mul]; unfold wE; rw [if_pos (by omega), if_neg (by omega)]; omega) fun _ _ => wE_pos _ _
    rw [Nat.one_mul] at this
    exact this
theorem add_col {i : Nat} (ht : top < r) (hi : i < r) (hp : 0 < el m top c) :
    ColB r c N (apO r cc (addO i top (-(el m i c / el m top c))) m) ∧ gO (addO i top (-(el m i c / el m top c))) * psi r c N (apO r cc (addO i top (-(el m i c / el m top c))) m) ≤ psi r c N m ∧
    el (apO r cc (addO i top (-(el m i c / el m top c))) m) i c = el m i c % el m top c ∧ (∀ a, a < r → a ≠ i → el (apO r cc (addO i top (-(el m i c / el m top c))) m) a c = el m a c) := by
  have e : ∀ a, a < r → el (apO r cc (addO i top (-(el m i c / el m top c))) m) a c = if a = i then el m a c + -(el m i c / el m top c) * el m top c else el m a c := fun a ha => el_add ha hc
  have ei : el (apO r cc (addO i top (-(el m i c / el m top c))) m) i c = el m i c % el m top c := by rw [e i hi, if_pos rfl]; exact mod_eq _ _
  have eo : ∀ a, a < r → a ≠ i → el (apO r cc (addO i top (-(el m i c / el m top c))) m) a c = el m a c := fun a ha h => by rw [e a ha, if_neg h]
  have h1 := Int.emod_nonneg (el m i c) (by omega : el m top c ≠ 0)
  have h2 := Int.emod_lt_of_pos (el m i c) hp
  refine ⟨fun a ha => ?_, ?_, ei, eo⟩
  · by_cases h : a = i
    · rw [h, ei]; have := hA top ht; omega
    · rw [eo a ha h]; exact hA a ha
  · refine prodF_mul (n := r) (k := i) (f := fun j => wE N (el m j c)) (g := fun j => wE N (el (apO r cc (addO i top (-(el m i c / el m top c))) m) j c)) hi (fun j hj h => by rw [eo j hj h]) ?_ fun _ _ => wE_pos _ _
    rw [ei]
    simp only [gO, if_pos, Int.natAbs_neg]
    have hw : wE N (el m i c % el m top c) = (el m i c % el m top c).natAbs + 1 := by unfold wE; rw [if_pos h1]
    rw [hw]
    unfold wE
    split
    · rename_i hx; exact eu_num0 hx hp
    · have := eu_num (x := el m i c) (y := el m top c) (by omega)
      have := hA top ht
      omega
end
end Go.AM
/- Hermite normal forms in small steps, in plain Lean: what holds at every step; the steps end. -/
namespace Go.AM
def qB (r N : Nat) : Nat → Nat
  | 0 => 1
  | k + 1 => qB r N k * (3 * (N * qB r N k) + 1) ^ r
theorem qB_pos (r N : Nat) : ∀ k, 1 ≤ qB r N k
  | 0 => Nat.le_refl _
  | k + 1 => Nat.mul_le_mul (qB_pos r N k) (Nat.pow_pos (by omega))
theorem qB_step (r N k : Nat) : qB r N k ≤ qB r N (k + 1) := by
  have := Nat.mul_le_mul_left (qB r N k) (show 1 ≤ (3 * (N * qB r N k) + 1) ^ r from Nat.pow_pos (by omega))
  simpa [qB] using this
theorem qB_mono (r N : Nat) {j k : Nat} (h : j ≤ k) : qB r N j ≤ qB r N k := by
  obtain ⟨n, rfl⟩ : ∃ n, k = j + n := ⟨k - j, by omega⟩
  clear h
  induction n with
  | zero => exact Nat.le_refl _
  | succ n ih => exact Nat.le_trans ih (qB_step r N (j + n))
structure PInv (r cc N : Nat) (a : List (List Int)) (s : PS) : Prop where
  va : ∀ o ∈ s.d, vO r o = true
  kc : s.k ≤ cc
  tk : s.t ≤ s.k
  tr : s.t ≤ r
  cb : s.k < cc → ColB r s.k (N * qB r N s.k) (apL r cc s.d a)
  gr : s.k < cc → gL s.d * psi r s.k (N * qB r N s.k) (apL r cc s.d a) ≤ qB r N (s.k + 1)
  ge : gL s.d ≤ qB r N cc
section
variable {r cc N : Nat} {a : List (List Int)}
theorem apL_snoc (d : List Opz) (o : Opz) (m : List (List Int)) : apL r cc (d ++ [o]) m = apO r cc o (apL r cc d m) := apL_append d [o] m
theorem gL_snoc (d : List Opz) (o : Opz) : gL (d ++ [o]) = gL d * gO o := by rw [gL_append]; simp [gL]
theorem PInv.start (hm : Mx r cc a) (km : BdM N a) : PInv r cc N a ⟨[], 0, 0⟩ := by
  refine ⟨fun o h => by simp at h, Nat.zero_le _, Nat.le_refl _, Nat.zero_le _, fun h => ?_, fun h => ?_, by simp only [gL]; exact qB_pos _ _ _⟩
  · simp only [qB, Nat.mul_one, apL]; exact colB_of hm km h
  · simp only [qB, Nat.mul_one, apL, gL, Nat.one_mul]
    exact psi_le (colB_of hm km h)
theorem PInv.col (hm : Mx r cc a) (km : BdM N a) {s : PS} (h : PInv r cc N a s) (hk : s.k < cc) {t' : Nat} (ht : t' ≤ s.k + 1) (hr : t' ≤ r) : PInv r cc N a ⟨s.d, t', s.k + 1⟩ := by
  have hg : gL s.d ≤ qB r N (s.k + 1) := by
    have h1 := h.gr hk
    have h2 := Nat.mul_le_mul_left (gL s.d) (psi_pos (r := r) (c := s.k) (N := N * qB r N s.k) (m := apL r cc s.d a))
    omega
  have hb : BdM (N * qB r N (s.k + 1)) (apL r cc s.d a) := (apL_g h.va hm km).mono (by rw [Nat.mul_comm]; exact Nat.mul_le_mul_left _ hg)
  have hcb : s.k + 1 < cc → ColB r (s.k + 1) (N * qB r N (s.k + 1)) (apL r cc s.d a) := fun h2 => colB_of (apL_mx _ hm) hb h2
  exact ⟨h.va, by show s.k + 1 ≤ cc; omega, ht, hr, hcb, fun h2 => Nat.mul_le_mul hg (psi_le (hcb h2)), h.ge⟩
theorem PInv.op {s : PS} (h : PInv r cc N a s) (hk : s.k < cc) {o : Opz} (hv : vO r o = true) (hc : ColB r s.k (N * qB r N s.k) (apO r cc o (apL r cc s.d a)))
    (hp : gO o * psi r s.k (N * qB r N s.k) (apO r cc o (apL r cc s.d a)) ≤ psi r s.k (N * qB r N s.k) (apL r cc s.d a)) : PInv r cc N a ⟨s.d ++ [o], s.t, s.k⟩ := by
  have hg : gL s.d * gO o * psi r s.k (N * qB r N s.k) (apO r cc o (apL r cc s.d a)) ≤ qB r N (s.k + 1) := by
    rw [Nat.mul_assoc]
    exact Nat.le_trans (Nat.mul_le_mul_left _ hp) (h.gr hk)
  refine ⟨fun x hx => ?_, h.kc, h.tk, h.tr, fun _ => by rw [apL_snoc]; exact hc, fun _ => by rw [apL_snoc, gL_snoc]; exact hg, ?_⟩
  · rcases List.mem_append.1 hx with h1 | h1
    · exact h.va x h1
    · simp only [List.mem_singleton] at h1; subst h1; exact hv
  · rw [gL_snoc]
    have h2 := Nat.mul_le_mul_left (gL s.d * gO o) (psi_pos (r := r) (c := s.k) (N := N * qB r N s.k) (m := apO r cc o (apL r cc s.d a)))
    rw [Nat.mul_one] at h2
    exact Nat.le_trans h2 (Nat.le_trans hg (qB_mono r N hk))
inductive NxS (r cc : Nat) (a : List (List Int)) (s : PS) : PS → Prop where
  | skip (h : lsF (apL r cc s.d a) s.k s.t (r - s.t) < 0) (hz : ∀ i, s.t ≤ i → i < r → el (apL r cc s.d a) i s.k = 0) : NxS r cc a s ⟨s.d, s.t, s.k + 1⟩
  | swap (p : Nat) (h : lsF (apL r cc s.d a) s.k s.t (r - s.t) = (p : Int)) (h1 : s.t < p) (h2 : p < r) (h3 : el (apL r cc s.d a) p s.k ≠ 0)
      (h4 : ∀ i, s.t ≤ i → i < r → el (apL r cc s.d a) i s.k ≠ 0 → (el (apL r cc s.d a) p s.k).natAbs ≤ (el (apL r cc s.d a) i s.k).natAbs) : NxS r cc a s ⟨s.d ++ [swapO p s.t], s.t, s.k⟩
  | neg (h : lsF (apL r cc s.d a) s.k s.t (r - s.t) = (s.t : Int)) (hn : el (apL r cc s.d a) s.t s.k < 0)
      (h4 : ∀ i, s.t ≤ i → i < r → el (apL r cc s.d a) i s.k ≠ 0 → (el (apL r cc s.d a) s.t s.k).natAbs ≤ (el (apL r cc s.d a) i s.k).natAbs) : NxS r cc a s ⟨s.d ++ [negO s.t], s.t, s.k⟩
  | add (i : Nat) (h : lsF (apL r cc s.d a) s.k s.t (r - s.t) = (s.t : Int)) (hp : 0 < el (apL r cc s.d a) s.t s.k)
      (h4 : ∀ i, s.t ≤ i → i < r → el (apL r cc s.d a) i s.k ≠ 0 → (el (apL r cc s.d a) s.t s.k).natAbs ≤ (el (apL r cc s.d a) i s.k).natAbs)
      (ho : opnL s.k s.t (apL r cc s.d a) (List.range r) = some i) (hi : i < r) (hne : i ≠ s.t) (hq : el (apL r cc s.d a) i s.k / el (apL r cc s.d a) s.t s.k ≠ 0) :
      NxS r cc a s ⟨s.d ++ [addO i s.t (-(el (apL r cc s.d a) i s.k / el (apL r cc s.d a) s.t s.k))], s.t, s.k⟩
  | adv (h : lsF (apL r cc s.d a) s.k s.t (r - s.t) = (s.t : Int)) (hp : 0 < el (apL r cc s.d a) s.t s.k)
      (ho : opnL s.k s.t (apL r cc s.d a) (List.range r) = none) (hz : ∀ i, i < r → i ≠ s.t → el (apL r cc s.d a) i s.k / el (apL r cc s.d a) s.t s.k = 0) : NxS r cc a s ⟨s.d, s.t + 1, s.k + 1⟩
theorem nx_ok {s : PS} (ht : s.t < r) : NxS r cc a s (s.next r cc a) := by
  unfold PS.next nx1
  rcases lsF_ok (m := apL r cc s.d a) (c := s.k) (top := s.t) (r - s.t) with ⟨h1, h2⟩ | ⟨p, h1, h2, h3, h4, h5⟩
  · have h0 : lsF (apL r cc s.d a) s.k s.t (r - s.t) < 0 := by rw [h1]; decide
    simp only [if_pos h0, Option.toList_none, List.append_nil]
    exact .skip h0 fun i g1 g2 => h2 i g1 (by omega)
  · have hnn : ¬ lsF (apL r cc s.d a) s.k s.t (r - s.t) < 0 := by rw [h1]; omega
    have h6 : ∀ i, s.t ≤ i → i < r → el (apL r cc s.d a) i s.k ≠ 0 → (el (apL r cc s.d a) p s.k).natAbs ≤ (el (apL r cc s.d a) i s.k).natAbs := fun i g1 g2 g3 => h5 i g1 (by omega) g3
    simp only [if_neg hnn]
    by_cases hp : p = s.t
    · subst hp
      have he : ¬ lsF (apL r cc s.d a) s.k s.t (r - s.t) ≠ (s.t : Int) := by rw [h1]; simp
      simp only [if_neg he]
      by_cases hn : el (apL r cc s.d a) s.t s.k < 0
      · simp only [if_pos hn, Option.toList_some]
        exact .neg h1 hn h6
      · have hp0 : 0 < el (apL r cc s.d a) s.t s.k := by omega
        simp only [if_neg hn]
        cases ho : opnL s.k s.t (apL r cc s.d a) (List.range r) with
        | none =>
          simp only [Option.toList_none, List.append_nil]
          refine .adv h1 hp0 ho fun i hi hne => ?_
          have := List.find?_eq_none.1 ho i (List.mem_range.2 hi)
          simp only [Bool.and_eq_true, decide_eq_true_eq, not_and, Decidable.not_not] at this
          exact this hne
        | some i =>
          simp only [Option.toList_some]
          have h7 := List.find?_some ho
          have h8 := List.mem_of_find?_eq_some ho
          simp only [Bool.and_eq_true, decide_eq_true_eq] at h7
          exact .add i h1 hp0 h6 ho (List.mem_range.1 h8) h7.1 h7.2
    · have he : lsF (apL r cc s.d a) s.k s.t (r - s.t) ≠ (s.t : Int) := by rw [h1]; omega
      have htn : (lsF (apL r cc s.d a) s.k s.t (r - s.t)).toNat = p := by rw [h1]; rfl
      simp only [if_pos he, htn, Option.toList_some]
      exact .swap p h1 (by omega) (by omega) h4 h6
theorem PInv.next (hm : Mx r cc a) (km : BdM N a) {s : PS} (h : PInv r cc N a s) (ht : s.t < r) (hk : s.k < cc) : PInv r cc N a (s.next r cc a) := by
  have hn := nx_ok (cc := cc) (a := a) ht
  have hcb := h.cb hk
  generalize s.next r cc a = s' at hn ⊢
  cases hn with
  | skip h1 hz => exact h.col hm km hk (by have := h.tk; omega) h.tr
  | swap p h0 h1 h2 h3 h4 =>
    obtain ⟨c1, c2⟩ := swap_col hk hcb ht h2
    exact h.op hk (vO_swap h2 ht (by omega)) c1 (by simp only [gO, if_neg (show ¬ (1 : Nat) = 3 by decide), Nat.one_mul]; exact Nat.le_of_eq c2)
  | neg h0 h1 h4 =>
    obtain ⟨c1, c2⟩ := neg_col hk hcb ht h1
    exact h.op hk (vO_neg ht) c1 (by simp only [gO, if_neg (show ¬ (2 : Nat) = 3 by decide), Nat.one_mul]; exact c2)
  | add i h0 hp h4 ho hi hne hq =>
    obtain ⟨c1, c2, _, _⟩ := add_col hk hcb ht hi hp
    exact h.op hk (vO_add hi ht hne) c1 c2
  | adv h0 hp ho hz => exact h.col hm km hk (by have := h.tk; omega) ht
theorem PInv.run (hm : Mx r cc a) (km : BdM N a) : ∀ (n : Nat) {s : PS}, PInv r cc N a s → PInv r cc N a (s.run r cc a n)
  | 0, _, h => h
  | n + 1, s, h => by
    simp only [PS.run]
    split
    · exact h
    · rename_i hf
      simp only [PS.fin, Bool.or_eq_true, decide_eq_true_eq, not_or] at hf
      exact PInv.run hm km n (h.next hm km (by omega) (by omega))
end
end Go.AM
/- Division of integers: integer.DivMod, given what integer.divide answers. -/
namespace Go.AM
open Go.Proofs.Tryz
theorem divmod_of {x y : Int} {L : Nat} {ql rl : List Nat} (hy : y ≠ 0) (hx : x.natAbs * 4294967296 < 4294967296 ^ L) (hy2 : y.natAbs * 4294967296 < 4294967296 ^ L) (hL : L ≤ 1073741824)
    (h167 : FnD prog 118 [vs (lim (digs x.natAbs)), vs (lim (digs y.natAbs))] (.tup [eD (dL (lim ql)), eD (dL (lim rl))]) []) (bq : ∀ z ∈ ql, z < 4294967296) (br : ∀ z ∈ rl, z < 4294967296) (lq : ql.length ≤ 1073741824) (lr : rl.length ≤ 1073741824)
    (hq : val ql = x.natAbs / y.natAbs) (hr : val rl = x.natAbs % y.natAbs) :
    FnD prog 96 [eI x, eI y] (.tup [ei (x / y), ei (x % y), eD (dI 0)]) [] := by
  have hsz : ∀ {z : Int}, z.natAbs < 4294967296 ^ L → Sz z := fun h => Sz.of_lt L hL h
  have mk : ∀ l : List Nat, (∀ z ∈ l, z < 4294967296) → l.length ≤ 1073741824 → FnD prog 92 [vs (lim l), vb false] (eI ((val l : Nat) : Int)) [] := fun l h1 h2 => by
    have := norm_eI l false h1 (by omega)
    simpa using this
  have mq := mk ql bq lq
  have mr := mk rl br lr
  rw [hq] at mq
  rw [hr] at mr
  have hY : 0 < y.natAbs := by omega
  have hdm := Nat.div_add_mod x.natAbs y.natAbs
  have hml := Nat.mod_lt x.natAbs hY
  have hqle : x.natAbs / y.natAbs ≤ x.natAbs := Nat.div_le_self _ _
  have hcast : ((y.natAbs : Nat) : Int) * ((x.natAbs / y.natAbs : Nat) : Int) + ((x.natAbs % y.natAbs : Nat) : Int) = ((x.natAbs : Nat) : Int) := by
    rw [← Int.natCast_mul, ← Int.natCast_add, hdm]
  generalize hQ : x.natAbs / y.natAbs = Q at *
  generalize hM : x.natAbs % y.natAbs = M at *
  clear hdm hQ hM
  have hlM : ((lim (digs M)).length : Int) > 0 ↔ 0 < M := by
    rw [lim_length]
    constructor
    · intro h
      rcases Nat.eq_zero_or_pos M with h0 | h0
      · subst h0; rw [digs_zero] at h; simp at h
      · exact h0
    · intro h
      have : (digs M).length ≠ 0 := fun e => by have := digs_nil.1 (List.length_eq_zero_iff.1 e); omega
      omega
  have ly := digs_len (n := y.natAbs) (k := L) (by omega)
  refine vc96_ok _ _ _ _ (R := Out _) ?_
  unfold vc96
  refine ⟨fun h => ?_, fun _ => ⟨_, _, h167, _, _, _, _, mq, mr, fun hneg => ?_, fun hneg => ?_⟩⟩
  · exfalso
    rw [lim_length] at h
    have h0 : (digs y.natAbs).length = 0 := by simpa using (natEq _ 0).symm.trans h
    have := digs_nil.1 (List.length_eq_zero_iff.1 h0)
    omega
  · have hx0 : x < 0 := by simpa using hneg
    simp only [Int.natAbs_natCast]
    refine ⟨fun hp => ?_, fun hp => ?_⟩
    · have hM0 : 0 < M := hlM.1 (by simpa using hp)
      have f1 := of_ok 1 (by decide) (by decide)
      have f2 := add_ok (x := (Q : Int)) (y := 1) (hsz (by rw [Int.natAbs_natCast]; omega)) (Sz.of_lt 1 (by decide) (by decide))
      have f3 := minus_ok (a := digs y.natAbs) (b := digs M) (digs_lt _) (digs_lt _) (by omega) (len_le_of_val (digs_lt _) (digs_canon _) (by rw [val_digs, val_digs]; omega)) (by rw [val_digs, val_digs]; omega)
      rw [val_digs, val_digs] at f3
      have f4 := mk (padD (digs y.natAbs).length (y.natAbs - M)) (padD_lt _ _) (by rw [padD_length]; omega)
      rw [val_padD _ _ (by have := val_lt (digs_lt y.natAbs); rw [val_digs] at this; omega), Int.natCast_sub (by omega)] at f4
      refine ⟨_, _, _, _, f1, f2, _, _, _, f3, f4, fun hs => ?_, fun hs => ?_⟩
      · have hy0 : ¬ y < 0 := by
          intro hy0
          simp [hx0, hy0] at hs
        have := ediv_uniq (a := x) (b := y) (q := -((Q : Int) + 1)) (r := ((y.natAbs : Nat) : Int) - M) hy (by
          have e : ((y.natAbs : Nat) : Int) = y := by omega
          rw [e] at hcast ⊢
          rw [Int.mul_neg, Int.mul_add, Int.mul_one]; omega) (by omega) (by omega)
        exact ⟨_, _, neg_ok ((Q : Int) + 1), out3 this.1.symm this.2.symm⟩
      · have hy0 : y < 0 := by
          apply Classical.byContradiction
          intro hy0
          simp [hx0, hy0] at hs
        have := ediv_uniq (a := x) (b := y) (q := (Q : Int) + 1) (r := ((y.natAbs : Nat) : Int) - M) hy (by
          have e : ((y.natAbs : Nat) : Int) = -y := by omega
          rw [e] at hcast ⊢
          rw [Int.neg_mul] at hcast
          rw [Int.mul_add, Int.mul_one]; omega) (by omega) (by omega)
        exact out3 this.1.symm this.2.symm
    · have hM0 : M = 0 := by
        have : ¬ 0 < M := fun h => by
          have := hlM.2 h
          simp only [decide_eq_false_iff_not] at hp
          exact hp this
        omega
      subst hM0
      refine ⟨fun hs => ?_, fun hs => ?_⟩
      · have hy0 : ¬ y < 0 := by
          intro hy0
          simp [hx0, hy0] at hs
        have := ediv_uniq (a := x) (b := y) (q := -(Q : Int)) (r := ((0 : Nat) : Int)) hy (by
          have e : ((y.natAbs : Nat) : Int) = y := by omega
          rw [e] at hcast
          rw [Int.mul_neg]; omega) (by omega) (by omega)
        exact ⟨_, _, neg_ok (Q : Int), out3 this.1.symm this.2.symm⟩
      · have hy0 : y < 0 := by
          apply Classical.byContradiction
          intro hy0
          simp [hx0, hy0] at hs
        have := ediv_uniq (a := x) (b := y) (q := (Q : Int)) (r := ((0 : Nat) : Int)) hy (by
          have e : ((y.natAbs : Nat) : Int) = -y := by omega
          rw [e, Int.neg_mul] at hcast
          omega) (by omega) (by omega)
        exact out3 this.1.symm this.2.symm
  · have hx0 : ¬ x < 0 := by simpa using hneg
    refine ⟨fun hs => ?_, fun hs => ?_⟩
    · have hy0 : y < 0 := by
        apply Classical.byContradiction
        intro hy0
        simp [hx0, hy0] at hs
      have := ediv_uniq (a := x) (b := y) (q := -(Q : Int)) (r := (M : Int)) hy (by
        have e : ((y.natAbs : Nat) : Int) = -y := by omega
        rw [e, Int.neg_mul] at hcast
        rw [Int.mul_neg]; omega) (by omega) (by omega)
      exact ⟨_, _, neg_ok (Q : Int), out3 this.1.symm this.2.symm⟩
    · have hy0 : ¬ y < 0 := by
        intro hy0
        simp [hx0, hy0] at hs
      have := ediv_uniq (a := x) (b := y) (q := (Q : Int)) (r := (M : Int)) hy (by
        have e : ((y.natAbs : Nat) : Int) = y := by omega
        rw [e] at hcast
        omega) (by omega) (by omega)
      exact out3 this.1.symm this.2.symm
end Go.AM
/- Division of integers: integer.divide, given what integer.long answers. -/
namespace Go.AM
open Go.Proofs.Tryz
theorem divide_of {A D : Nat} (hD : 0 < D) (lA : (digs A).length ≤ 1073741823) (lD : (digs D).length ≤ 1073741823)
    (h170 : 2 ≤ (digs D).length → D ≤ A → ∃ ql rl : List Nat, (∀ z ∈ ql, z < 4294967296) ∧ (∀ z ∈ rl, z < 4294967296) ∧ ql.length ≤ 1073741824 ∧ rl.length ≤ 1073741824 ∧ val ql = A / D ∧ val rl = A % D ∧
      FnD prog 128 [vs (lim (digs A)), vs (lim (digs D))] (.tup [eD (dL (lim ql)), eD (dL (lim rl))]) []) :
    ∃ ql rl : List Nat, (∀ z ∈ ql, z < 4294967296) ∧ (∀ z ∈ rl, z < 4294967296) ∧ ql.length ≤ 1073741824 ∧ rl.length ≤ 1073741824 ∧ val ql = A / D ∧ val rl = A % D ∧
      FnD prog 118 [vs (lim (digs A)), vs (lim (digs D))] (.tup [eD (dL (lim ql)), eD (dL (lim rl))]) [] := by
  have hcmp := compare_ok (a := digs A) (b := digs D) (digs_lt _) (digs_lt _) (digs_canon _) (digs_canon _) (by omega)
  rw [val_digs, val_digs] at hcmp
  have hc : decide (cmpI (A : Int) (D : Int) < 0) = decide (A < D) := by
    unfold cmpI
    by_cases h : A < D
    · have : (A : Int) < (D : Int) := by omega
      simp [h, this]
    · have : ¬ (A : Int) < (D : Int) := by omega
      rw [decide_eq_false h]
      simp only [this, if_false]
      split <;> decide
  rcases Nat.lt_or_ge A D with hlt | hge
  · refine ⟨[], digs A, by simp, digs_lt _, by simp, by omega, by rw [Nat.div_eq_of_lt hlt]; rfl, by rw [val_digs, Nat.mod_eq_of_lt hlt], ?_⟩
    refine vc118_ok _ _ (R := Out _) ?_
    unfold vc118
    refine ⟨_, hcmp, fun _ => ⟨_, clone_ok (lim_one _) (by rw [lim_length]; omega), rfl, rfl⟩, fun h => ?_⟩
    rw [hc] at h
    simp [hlt] at h
  · have hn : ¬ A < D := by omega
    by_cases h1 : (digs D).length = 1
    · obtain ⟨d, hd⟩ : ∃ d, digs D = [d] := List.length_eq_one_iff.1 h1
      have hdv : D = d := by have := val_digs D; rw [hd] at this; simpa [val] using this.symm
      have hdl := digs_lt D d (by rw [hd]; simp)
      subst hdv
      obtain ⟨e1, e2⟩ := sQ_div (d := D) hD (digs A)
      rw [val_digs] at e1 e2
      have hr := sQ_lt (d := D) hD (digs A)
      have h169 := short_ok (l := digs A) (d := D) (digs_lt A) (by omega) hD hdl
      refine ⟨(sQ D (digs A)).1, [(sQ D (digs A)).2], sQ_dig hD _ (digs_lt A), fun z hz => by simp at hz; omega, by rw [sQ_len]; omega, by simp, e1, by simp [val, e2], ?_⟩
      refine vc118_ok _ _ (R := Out _) ?_
      unfold vc118
      refine ⟨_, hcmp, fun h => ?_, fun _ => ⟨fun _ => ⟨(D : Int), _, _, ⟨by decide, by rw [lim_length, h1]; decide⟩, by rw [hd]; rfl, h169, rfl, rfl⟩, fun h => ?_⟩⟩
      · rw [hc] at h; simp [hn] at h
      · rw [lim_length, h1] at h; simp at h
    · have h0 : (digs D).length ≠ 0 := fun e => by have := digs_nil.1 (List.length_eq_zero_iff.1 e); omega
      obtain ⟨ql, rl, b1, b2, b3, b4, b5, b6, h⟩ := h170 (by omega) hge
      refine ⟨ql, rl, b1, b2, b3, b4, b5, b6, ?_⟩
      refine vc118_ok _ _ (R := Out _) ?_
      unfold vc118
      refine ⟨_, hcmp, fun h => ?_, fun _ => ⟨fun h => ?_, fun _ => ⟨_, _, h, rfl, rfl⟩⟩⟩
      · rw [hc] at h; simp [hn] at h
      · rw [lim_length] at h
        exact absurd (by simpa using (natEq _ 1).symm.trans h) h1
end Go.AM
/- Long division in plain Lean: the rest is shifted back. -/
namespace Go.AM
def shR (k : Nat) : List Nat → List Nat
  | x :: y :: l => (x / 2 ^ k + (y * 2 ^ (32 - k)) % 4294967296) :: shR k (y :: l)
  | _ => []
theorem shR_len (k : Nat) : ∀ l : List Nat, (shR k l).length = l.length - 1
  | [] => rfl
  | [_] => rfl
  | _ :: y :: l => by simp [shR, shR_len k (y :: l)]
theorem shR_val {k : Nat} (hk : k ≤ 32) : ∀ (l : List Nat) (x : Nat), val (shR k (x :: l)) + 4294967296 ^ l.length * ((x :: l).getLast (by simp) / 2 ^ k) = val (x :: l) / 2 ^ k
  | [], x => by simp [shR, val]
  | y :: l, x => by
    have ih := shR_val hk l y
    have hp : 0 < 2 ^ k := Nat.pow_pos (by decide)
    have e : (4294967296 : Nat) = 2 ^ k * 2 ^ (32 - k) := by rw [← Nat.pow_add, show k + (32 - k) = 32 by omega]
    have hT : val (y :: l) % 2 ^ k = y % 2 ^ k := by
      simp only [val]
      rw [e, Nat.mul_assoc, Nat.add_mul_mod_self_left]
    have hlo : (y * 2 ^ (32 - k)) % 4294967296 = (y % 2 ^ k) * 2 ^ (32 - k) := by
      conv => lhs; rw [e]
      rw [Nat.mul_mod_mul_right]
    have hdm := Nat.div_add_mod (val (y :: l)) (2 ^ k)
    rw [hT] at hdm
    have hval : val (x :: y :: l) / 2 ^ k = x / 2 ^ k + 2 ^ (32 - k) * val (y :: l) := by
      show (x + 4294967296 * val (y :: l)) / 2 ^ k = _
      conv => lhs; rw [e]
      rw [Nat.mul_assoc, Nat.add_mul_div_left _ _ hp]
    have h3 : 2 ^ (32 - k) * val (y :: l) = 4294967296 * (val (y :: l) / 2 ^ k) + (y % 2 ^ k) * 2 ^ (32 - k) := by
      conv => lhs; rw [← hdm]
      rw [Nat.mul_add, ← Nat.mul_assoc, Nat.mul_comm (2 ^ (32 - k)) (2 ^ k), ← e, Nat.mul_comm (2 ^ (32 - k)) (y % 2 ^ k)]
    have hl : (x :: y :: l).getLast (by simp) = (y :: l).getLast (by simp) := rfl
    rw [hval, h3, ← ih, hl]
    simp only [shR, val, hlo, List.length_cons, Nat.pow_succ]
    rw [Nat.mul_add, Nat.mul_comm (4294967296 ^ l.length) 4294967296, Nat.mul_assoc 4294967296]
    omega
end Go.AM
/- Long division: the words of a round, one by one. -/
namespace Go.AM
theorem sub_word {u lo bo : Nat} (hu : u < 4294967296) (hl : lo < 4294967296) (hb : bo ≤ 1) :
    IntKind.u64.wrap (IntKind.u64.wrap ((u : Int) - (lo : Int)) - (bo : Int)) = (((u + 18446744073709551616 - lo - bo) % 18446744073709551616 : Nat) : Int) := by
  rw [wu64', wu64']; omega
theorem sub_low {u lo bo : Nat} (hu : u < 4294967296) (hl : lo < 4294967296) (hb : bo ≤ 1) :
    IntKind.u32.wrap (((u + 18446744073709551616 - lo - bo) % 18446744073709551616 : Nat) : Int) = ((sbD u lo bo : Nat) : Int) := by
  rw [wu32]; unfold sbD; omega
theorem sub_high {u lo bo : Nat} (hu : u < 4294967296) (hl : lo < 4294967296) (hb : bo ≤ 1) :
    ((((u + 18446744073709551616 - lo - bo) % 18446744073709551616 : Nat) : Int)).fdiv (2 ^ (min (63 : Int).toNat IntKind.u64.bits)) = ((sbB u lo bo : Nat) : Int) := by
  have : ((2 : Int) ^ (min (63 : Int).toNat IntKind.u64.bits)) = 9223372036854775808 := by decide
  rw [this, Int.fdiv_eq_ediv_of_nonneg _ (by decide)]
  unfold sbB
  split <;> omega
end Go.AM
/- integer.long: the end of a round. -/
namespace Go.AM
open Go.Proofs.Tryz
def tailP (v : List (List D)) (i : Int) (u q : List (List D)) (guess : Int) (J0 : (List (List D)) → (List (List D)) → Int → Prop) (μ0 : (List (List D)) → (List (List D)) → Int → Nat) : Prop :=
  ∃ (J2 : (List (List D)) → Int → Int → Int → Prop) (μ2 : (List (List D)) → Int → Int → Int → Nat),
  J2 u (0 : Int) (0 : Int) (0 : Int) ∧ ∀ (u1 : List (List D)) (t : Int) (carry : Int) (borrow : Int), J2 u1 t carry borrow →
    ((decide (t < (v.length : Int))) = true →
      ∃ (vx18 : Int),
      (0 ≤ t ∧ t < (v.length : Int)) ∧
      (v[(t).toNat]? = some [(dU vx18)]) ∧
      (∃ (vx19 : Int),
      (0 ≤ (IntKind.i64.wrap (i + t)) ∧ (IntKind.i64.wrap (i + t)) < (u1.length : Int)) ∧
      (u1[((IntKind.i64.wrap (i + t))).toNat]? = some [(dU vx19)]) ∧
      ((0 ≤ (63 : Int)) ∧
      (J2 (u1.set ((IntKind.i64.wrap (i + t))).toNat [(dU (IntKind.u32.wrap (IntKind.u64.wrap ((IntKind.u64.wrap ((IntKind.u64.wrap vx19) - (IntKind.u64.wrap (IntKind.u32.wrap (IntKind.u64.wrap (carry + (IntKind.u64.wrap (guess * (IntKind.u64.wrap vx18))))))))) - borrow))))]) (IntKind.i64.wrap (t + (1 : Int))) ((IntKind.u64.wrap (carry + (IntKind.u64.wrap (guess * (IntKind.u64.wrap vx18))))).fdiv (2 ^ (min (32 : Int).toNat IntKind.u64.bits))) ((IntKind.u64.wrap ((IntKind.u64.wrap ((IntKind.u64.wrap vx19) - (IntKind.u64.wrap (IntKind.u32.wrap (IntKind.u64.wrap (carry + (IntKind.u64.wrap (guess * (IntKind.u64.wrap vx18))))))))) - borrow)).fdiv (2 ^ (min (63 : Int).toNat IntKind.u64.bits))) ∧ μ2 (u1.set ((IntKind.i64.wrap (i + t))).toNat [(dU (IntKind.u32.wrap (IntKind.u64.wrap ((IntKind.u64.wrap ((IntKind.u64.wrap vx19) - (IntKind.u64.wrap (IntKind.u32.wrap (IntKind.u64.wrap (carry + (IntKind.u64.wrap (guess * (IntKind.u64.wrap vx18))))))))) - borrow))))]) (IntKind.i64.wrap (t + (1 : Int))) ((IntKind.u64.wrap (carry + (IntKind.u64.wrap (guess * (IntKind.u64.wrap vx18))))).fdiv (2 ^ (min (32 : Int).toNat IntKind.u64.bits))) ((IntKind.u64.wrap ((IntKind.u64.wrap ((IntKind.u64.wrap vx19) - (IntKind.u64.wrap (IntKind.u32.wrap (IntKind.u64.wrap (carry + (IntKind.u64.wrap (guess * (IntKind.u64.wrap vx18))))))))) - borrow)).fdiv (2 ^ (min (63 : Int).toNat IntKind.u64.bits))) < μ2 u1 t carry borrow)))) ∧
    ((decide (t < (v.length : Int))) = false →
      ∃ (vx20 : Int),
      (0 ≤ (IntKind.i64.wrap (i + (v.length : Int))) ∧ (IntKind.i64.wrap (i + (v.length : Int))) < (u1.length : Int)) ∧
      (u1[((IntKind.i64.wrap (i + (v.length : Int)))).toNat]? = some [(dU vx20)]) ∧
      ((0 ≤ (63 : Int)) ∧
      (((((IntKind.u64.wrap ((IntKind.u64.wrap ((IntKind.u64.wrap vx20) - carry)) - borrow)).fdiv (2 ^ (min (63 : Int).toNat IntKind.u64.bits))) == (1 : Int)) = true →
        ∃ (J3 : (List (List D)) → Int → Int → Prop) (μ3 : (List (List D)) → Int → Int → Nat),
        J3 (u1.set ((IntKind.i64.wrap (i + (v.length : Int)))).toNat [(dU (IntKind.u32.wrap (IntKind.u64.wrap ((IntKind.u64.wrap ((IntKind.u64.wrap vx20) - carry)) - borrow))))]) (0 : Int) (0 : Int) ∧ ∀ (u2 : List (List D)) (t : Int) (c : Int), J3 u2 t c →
          ((decide (t < (v.length : Int))) = true →
            ∃ (vx21 : Int),
            (0 ≤ t ∧ t < (v.length : Int)) ∧
            (v[(t).toNat]? = some [(dU vx21)]) ∧
            (∃ (vx22 : Int) (r5 : Int) (r6 : Int),
            (0 ≤ (IntKind.i64.wrap (i + t)) ∧ (IntKind.i64.wrap (i + t)) < (u2.length : Int)) ∧
            (u2[((IntKind.i64.wrap (i + t))).toNat]? = some [(dU vx22)]) ∧
            (FnD prog 130 [(vD (dU vx22)), (vD (dU vx21)), (vD (dU c))] (V.tup [(eD (dU r5)), (eD (dU r6))]) []) ∧
            (J3 (u2.set ((IntKind.i64.wrap (i + t))).toNat [(dU r5)]) (IntKind.i64.wrap (t + (1 : Int))) r6 ∧ μ3 (u2.set ((IntKind.i64.wrap (i + t))).toNat [(dU r5)]) (IntKind.i64.wrap (t + (1 : Int))) r6 < μ3 u2 t c))) ∧
          ((decide (t < (v.length : Int))) = false →
            ∃ (vx23 : Int),
            (0 ≤ (IntKind.i64.wrap (i + (v.length : Int))) ∧ (IntKind.i64.wrap (i + (v.length : Int))) < (u2.length : Int)) ∧
            (u2[((IntKind.i64.wrap (i + (v.length : Int)))).toNat]? = some [(dU vx23)]) ∧
            ((0 ≤ i ∧ i < (q.length : Int)) ∧
            (J0 (q.set (i).toNat [(dU (IntKind.u32.wrap (IntKind.u64.wrap (guess - (1 : Int)))))]) (u2.set ((IntKind.i64.wrap (i + (v.length : Int)))).toNat [(dU (IntKind.u32.wrap (vx23 + c)))]) (IntKind.i64.wrap (i - (1 : Int))) ∧ μ0 (q.set (i).toNat [(dU (IntKind.u32.wrap (IntKind.u64.wrap (guess - (1 : Int)))))]) (u2.set ((IntKind.i64.wrap (i + (v.length : Int)))).toNat [(dU (IntKind.u32.wrap (vx23 + c)))]) (IntKind.i64.wrap (i - (1 : Int))) < μ0 q u i)))) ∧
      ((((IntKind.u64.wrap ((IntKind.u64.wrap ((IntKind.u64.wrap vx20) - carry)) - borrow)).fdiv (2 ^ (min (63 : Int).toNat IntKind.u64.bits))) == (1 : Int)) = false →
        (0 ≤ i ∧ i < (q.length : Int)) ∧
        (J0 (q.set (i).toNat [(dU (IntKind.u32.wrap guess))]) (u1.set ((IntKind.i64.wrap (i + (v.length : Int)))).toNat [(dU (IntKind.u32.wrap (IntKind.u64.wrap ((IntKind.u64.wrap ((IntKind.u64.wrap vx20) - carry)) - borrow))))]) (IntKind.i64.wrap (i - (1 : Int))) ∧ μ0 (q.set (i).toNat [(dU (IntKind.u32.wrap guess))]) (u1.set ((IntKind.i64.wrap (i + (v.length : Int)))).toNat [(dU (IntKind.u32.wrap (IntKind.u64.wrap ((IntKind.u64.wrap ((IntKind.u64.wrap vx20) - carry)) - borrow))))]) (IntKind.i64.wrap (i - (1 : Int))) < μ0 q u i)))))
theorem mS_snoc {g u y : Nat} : ∀ (us vs : List Nat) (c bo : Nat), us.length = vs.length →
    mS g c bo (us ++ [u]) (vs ++ [y]) = ((mS g c bo us vs).1 ++ [sbD u (((mS g c bo us vs).2.1 + g * y) % 4294967296) (mS g c bo us vs).2.2],
      ((mS g c bo us vs).2.1 + g * y) / 4294967296, sbB u (((mS g c bo us vs).2.1 + g * y) % 4294967296) (mS g c bo us vs).2.2)
  | [], [], _, _, _ => rfl
  | [], _ :: _, _, _, h => by simp at h
  | _ :: _, [], _, _, h => by simp at h
  | a :: us, b :: vs, c, bo, h => by
    simp only [List.cons_append, mS]
    rw [mS_snoc us vs _ _ (by simpa using h)]
theorem mS_carry {g : Nat} (hg : g ≤ 4294967296) : ∀ (us vs : List Nat) (c bo : Nat), us.length = vs.length → (∀ y ∈ vs, y < 4294967296) → c < 4294967296 → (mS g c bo us vs).2.1 < 4294967296
  | [], [], _, _, _, _, hc => hc
  | [], _ :: _, _, _, h, _, _ => by simp at h
  | _ :: _, [], _, _, h, _, _ => by simp at h
  | a :: us, b :: vs, c, bo, h, hv, hc => by
    simp only [mS]
    refine mS_carry hg us vs _ _ (by simpa using h) (fun y hy => hv y (by simp [hy])) ?_
    have h1 := hv b (by simp)
    have h2 : g * b ≤ 4294967296 * 4294967295 := Nat.mul_le_mul hg (by omega)
    omega
theorem aB_snoc {u y : Nat} : ∀ (us vs : List Nat) (c : Nat), us.length = vs.length →
    aB c (us ++ [u]) (vs ++ [y]) = ((aB c us vs).1 ++ [(u + y + (aB c us vs).2) % 4294967296], (u + y + (aB c us vs).2) / 4294967296)
  | [], [], _, _ => rfl
  | [], _ :: _, _, h => by simp at h
  | _ :: _, [], _, h => by simp at h
  | a :: us, b :: vs, c, h => by
    simp only [List.cons_append, aB]
    rw [aB_snoc us vs _ (by simpa using h)]
theorem set_mid {α : Type} (A B : List α) (x y : α) : (A ++ x :: B).set A.length y = A ++ y :: B := by simp
theorem lim_mid (A B : List Nat) (x : Nat) : (lim (A ++ x :: B))[A.length]? = some [D.int .u32 (x : Int)] := by
  have := lim_get (l := A ++ x :: B) (i := A.length) (by simp)
  rw [this]; simp
theorem lim_setmid (A B : List Nat) (x y : Nat) : (lim (A ++ x :: B)).set A.length [D.int .u32 (y : Int)] = lim (A ++ y :: B) := by
  rw [lim_set, set_mid]
theorem top_bit {u c b : Nat} (hu : u < 4294967296) (hc : c < 4294967296) (hb : b ≤ 1) :
    ((((IntKind.u64.wrap (IntKind.u64.wrap ((u : Int) - (c : Int)) - (b : Int))).fdiv (2 ^ (min (63 : Int).toNat IntKind.u64.bits))) == (1 : Int)) = decide (u < c + b)) := by
  rw [sub_word hu hc hb, sub_high hu hc hb]
  unfold sbB
  split
  · rename_i h; rw [decide_eq_true h]; rfl
  · rename_i h; rw [decide_eq_false h]; rfl
theorem tail_ok {pre seg post vs qs : List Nat} {ut g W v : Nat} (hn : seg.length = vs.length) (hu : ∀ x ∈ pre ++ seg ++ ut :: post, x < 4294967296) (hv : ∀ x ∈ vs, x < 4294967296)
    (hW : W = val seg + ut * 4294967296 ^ seg.length) (hvv : v = val vs) (hv0 : 0 < v) (h1 : W / v ≤ g) (h2 : g ≤ W / v + 1) (hgB : g ≤ 4294967296) (hd : W / v < 4294967296)
    (hq : pre.length < qs.length) (hlen : (pre ++ seg ++ ut :: post).length ≤ 4294967296) (hql : qs.length ≤ 4294967296)
    {J0 : (List (List D)) → (List (List D)) → Int → Prop} {μ0 : (List (List D)) → (List (List D)) → Int → Nat}
    (hJ : ∀ R : List Nat, R.length = vs.length → (∀ x ∈ R, x < 4294967296) → val R = W % v →
      J0 (lim (qs.set pre.length (W / v))) (lim (pre ++ R ++ 0 :: post)) (IntKind.i64.wrap ((pre.length : Int) - 1)) ∧
      μ0 (lim (qs.set pre.length (W / v))) (lim (pre ++ R ++ 0 :: post)) (IntKind.i64.wrap ((pre.length : Int) - 1)) < μ0 (lim qs) (lim (pre ++ seg ++ ut :: post)) (pre.length : Int)) :
    tailP (lim vs) (pre.length : Int) (lim (pre ++ seg ++ ut :: post)) (lim qs) (g : Int) J0 μ0 := by
  have hut : ut < 4294967296 := hu ut (by simp)
  have hseg : ∀ x ∈ seg, x < 4294967296 := fun x hx => hu x (by simp [hx])
  obtain ⟨kr1, kr2⟩ := knuth_round (us := seg) (vs := vs) (ut := ut) (g := g) hn hseg hv hW hvv hv0 h1 h2
  have hl : pre.length + seg.length + 1 + post.length ≤ 4294967296 := by simp only [List.length_append, List.length_cons] at hlen; omega
  unfold tailP
  simp only [lim_length]
  refine ⟨fun u1 t carry borrow => ∃ sk rem vk vrem : List Nat, sk.length = vk.length ∧ rem.length = vrem.length ∧ seg = sk ++ rem ∧ vs = vk ++ vrem ∧ t = (sk.length : Int) ∧ u1 = lim (pre ++ (mS g 0 0 sk vk).1 ++ rem ++ ut :: post) ∧
    carry = (((mS g 0 0 sk vk).2.1 : Nat) : Int) ∧ borrow = (((mS g 0 0 sk vk).2.2 : Nat) : Int), fun _ t _ _ => ((vs.length : Int) - t).toNat, ⟨[], seg, [], vs, rfl, hn, rfl, rfl, rfl, by simp [mS], rfl, rfl⟩, ?_⟩
  rintro _ _ _ _ ⟨sk, rem, vk, vrem, l1, l2, rfl, rfl, rfl, rfl, rfl, rfl⟩
  have hsk : ∀ x ∈ sk, x < 4294967296 := fun x hx => hseg x (by simp [hx])
  have hvk : ∀ x ∈ vk, x < 4294967296 := fun x hx => hv x (by simp [hx])
  obtain ⟨_, m2, m3, m4⟩ := mS_val (g := g) sk vk 0 0 l1 hsk (by omega)
  have mc := mS_carry hgB sk vk 0 0 l1 hvk (by omega)
  simp only [List.length_append] at hl hn
  refine ⟨fun h => ?_, fun h => ?_⟩
  · have hk : sk.length < (vk ++ vrem).length := by have h' := of_decide_eq_true h; omega
    simp only [List.length_append] at hk
    obtain ⟨u, rem', rfl⟩ : ∃ u rem', rem = u :: rem' := by
      cases rem with
      | nil => simp at l2; omega
      | cons x l => exact ⟨x, l, rfl⟩
    obtain ⟨y, vrem', rfl⟩ : ∃ y vrem', vrem = y :: vrem' := by
      cases vrem with
      | nil => simp at l2
      | cons x l => exact ⟨x, l, rfl⟩
    have hu0 : u < 4294967296 := hseg u (by simp)
    have hy0 : y < 4294967296 := hv y (by simp)
    simp only [List.length_cons] at hl hn l2 hk
    have hgy : g * y ≤ 4294967296 * 4294967295 := Nat.mul_le_mul hgB (by omega)
    generalize hC : (mS g 0 0 sk vk).2.1 = C at mc
    generalize hB : (mS g 0 0 sk vk).2.2 = Bo at m2
    generalize hDs : (mS g 0 0 sk vk).1 = Ds at m3 m4
    have e1 : IntKind.u64.wrap (y : Int) = (y : Int) := wu64 (by omega) (by omega)
    have e2 : IntKind.u64.wrap ((g : Int) * (y : Int)) = ((g * y : Nat) : Int) := by rw [← Int.natCast_mul]; exact wu64 (by omega) (by omega)
    have e3 : IntKind.u64.wrap ((C : Int) + ((g * y : Nat) : Int)) = ((C + g * y : Nat) : Int) := by rw [← Int.natCast_add]; exact wu64 (by omega) (by omega)
    have e4 : IntKind.u32.wrap ((C + g * y : Nat) : Int) = (((C + g * y) % 4294967296 : Nat) : Int) := by rw [wu32]; omega
    have e5 : IntKind.u64.wrap (((C + g * y) % 4294967296 : Nat) : Int) = (((C + g * y) % 4294967296 : Nat) : Int) := wu64 (by omega) (by omega)
    have e6 : IntKind.u64.wrap (u : Int) = (u : Int) := wu64 (by omega) (by omega)
    have e7 : (((C + g * y : Nat) : Int)).fdiv (2 ^ (min (32 : Int).toNat IntKind.u64.bits)) = (((C + g * y) / 4294967296 : Nat) : Int) := by
      have : ((2 : Int) ^ (min (32 : Int).toNat IntKind.u64.bits)) = 4294967296 := by decide
      rw [this, Int.fdiv_eq_ediv_of_nonneg _ (by decide)]; omega
    have ei : IntKind.i64.wrap ((pre.length : Int) + (sk.length : Int)) = (((pre ++ Ds).length : Nat) : Int) := by
      rw [w64 (by omega) (by omega), List.length_append, m4]; omega
    have hlo : (C + g * y) % 4294967296 < 4294967296 := Nat.mod_lt _ (by decide)
    refine ⟨(y : Int), ⟨by omega, by simp only [List.length_append, List.length_cons]; omega⟩, ?_, (u : Int), ⟨?_, ?_⟩, ?_, by decide, ?_⟩
    · rw [Int.toNat_natCast, show sk.length = vk.length from l1]; exact lim_mid _ _ _
    · rw [ei]; omega
    · rw [ei]; simp only [lim_length, List.length_append, List.length_cons]; omega
    · rw [ei, Int.toNat_natCast]
      rw [show pre ++ Ds ++ u :: rem' ++ ut :: post = pre ++ Ds ++ u :: (rem' ++ ut :: post) by simp]
      exact lim_mid _ _ _
    · rw [ei, Int.toNat_natCast, e1, e2, e3, e4, e5, e6, e7, sub_word hu0 hlo m2, sub_low hu0 hlo m2, sub_high hu0 hlo m2]
      rw [show pre ++ Ds ++ u :: rem' ++ ut :: post = pre ++ Ds ++ u :: (rem' ++ ut :: post) by simp, lim_setmid]
      have es := mS_snoc (g := g) (u := u) (y := y) sk vk 0 0 l1
      rw [hC, hB, hDs] at es
      refine ⟨⟨sk ++ [u], rem', vk ++ [y], vrem', by simp [l1], by omega, by simp, by simp, ?_, ?_, ?_, ?_⟩, ?_⟩
      · rw [w64 (by omega) (by omega)]; simp
      · rw [es]; simp
      · rw [es]
      · rw [es]
      · rw [w64 (by omega) (by omega)]; simp only [List.length_append, List.length_cons]; omega
  · have hk : (vk ++ vrem).length ≤ sk.length := by have h' := of_decide_eq_false h; omega
    simp only [List.length_append] at hk
    obtain rfl : vrem = [] := List.length_eq_zero_iff.1 (by omega)
    obtain rfl : rem = [] := List.length_eq_zero_iff.1 (by simpa using l2)
    simp only [List.append_nil] at *
    generalize hC : (mS g 0 0 sk vk).2.1 = C at *
    generalize hB : (mS g 0 0 sk vk).2.2 = Bo at *
    generalize hDs : (mS g 0 0 sk vk).1 = Ds at *
    have ei : IntKind.i64.wrap ((pre.length : Int) + (vk.length : Int)) = (((pre ++ Ds).length : Nat) : Int) := by
      rw [w64 (by omega) (by omega), List.length_append, m4]; omega
    have e6 : IntKind.u64.wrap (ut : Int) = (ut : Int) := wu64 (by omega) (by omega)
    refine ⟨(ut : Int), ⟨?_, ?_⟩, ?_, by decide, fun h => ?_, fun h => ?_⟩
    · rw [ei]; omega
    · rw [ei]; simp only [lim_length, List.length_append, List.length_cons]; omega
    · rw [ei, Int.toNat_natCast]; exact lim_mid _ _ _
    · rw [e6, top_bit hut mc m2] at h
      obtain ⟨k1, k2, k3, k4⟩ := kr2 (by simpa using h)
      have es : IntKind.u32.wrap (IntKind.u64.wrap (IntKind.u64.wrap ((ut : Int) - (C : Int)) - (Bo : Int))) = ((4294967295 : Nat) : Int) := by
        rw [sub_word hut mc m2, wu32]; omega
      rw [e6, es, ei, Int.toNat_natCast, lim_setmid]
      refine ⟨fun u2 t c => ∃ sk2 rem vk2 vrem : List Nat, sk2.length = vk2.length ∧ rem.length = vrem.length ∧ Ds = sk2 ++ rem ∧ vk = vk2 ++ vrem ∧ t = (sk2.length : Int) ∧ u2 = lim (pre ++ (aB 0 sk2 vk2).1 ++ rem ++ 4294967295 :: post) ∧
        c = (((aB 0 sk2 vk2).2 : Nat) : Int), fun _ t _ => ((vk.length : Int) - t).toNat, ⟨[], Ds, [], vk, rfl, by omega, rfl, rfl, rfl, by simp [aB], rfl⟩, ?_⟩
      rintro _ _ _ ⟨sk2, rem, vk2, vrem, l3, l4, rfl, rfl, rfl, rfl, rfl⟩
      obtain ⟨_, a2, a3, a4⟩ := aB_val sk2 vk2 0 l3 (fun x hx => m3 x (by simp [hx])) (fun x hx => hv x (by simp [hx])) (by omega)
      simp only [List.length_append] at m4 hk l1 hl
      refine ⟨fun h => ?_, fun h => ?_⟩
      · have hk2 : sk2.length < (vk2 ++ vrem).length := by have h' := of_decide_eq_true h; omega
        simp only [List.length_append] at hk2
        obtain ⟨u, rem', rfl⟩ : ∃ u rem', rem = u :: rem' := by
          cases rem with
          | nil => simp at l4; omega
          | cons x l => exact ⟨x, l, rfl⟩
        obtain ⟨y, vrem', rfl⟩ : ∃ y vrem', vrem = y :: vrem' := by
          cases vrem with
          | nil => simp at l4
          | cons x l => exact ⟨x, l, rfl⟩
        have hu0 : u < 4294967296 := m3 u (by simp)
        have hy0 : y < 4294967296 := hv y (by simp)
        simp only [List.length_cons] at m4 hk l1 hl l4 hk2
        generalize hDa : (aB 0 sk2 vk2).1 = Da at a3 a4
        generalize hCa : (aB 0 sk2 vk2).2 = Ca at a2
        have ej : IntKind.i64.wrap ((pre.length : Int) + (sk2.length : Int)) = (((pre ++ Da).length : Nat) : Int) := by
          rw [w64 (by omega) (by omega), List.length_append, a4]; omega
        refine ⟨(y : Int), ⟨by omega, by simp only [List.length_append, List.length_cons]; omega⟩, ?_, (u : Int), _, _, ⟨?_, ?_⟩, ?_, add32_ok u y Ca hu0 hy0 a2, ?_⟩
        · rw [Int.toNat_natCast, show sk2.length = vk2.length from l3]; exact lim_mid _ _ _
        · rw [ej]; omega
        · rw [ej]; simp only [lim_length, List.length_append, List.length_cons]; omega
        · rw [ej, Int.toNat_natCast]
          rw [show pre ++ Da ++ u :: rem' ++ 4294967295 :: post = pre ++ Da ++ u :: (rem' ++ 4294967295 :: post) by simp]
          exact lim_mid _ _ _
        · rw [ej, Int.toNat_natCast]
          rw [show pre ++ Da ++ u :: rem' ++ 4294967295 :: post = pre ++ Da ++ u :: (rem' ++ 4294967295 :: post) by simp, lim_setmid]
          have es := aB_snoc (u := u) (y := y) sk2 vk2 0 l3
          rw [hDa, hCa] at es
          refine ⟨⟨sk2 ++ [u], rem', vk2 ++ [y], vrem', by simp [l3], by omega, by simp, by simp, ?_, ?_, ?_⟩, ?_⟩
          · rw [w64 (by omega) (by omega)]; simp
          · rw [es]; simp
          · rw [es]
          · rw [w64 (by omega) (by omega)]; simp only [List.length_append, List.length_cons]; omega
      · have hk2 : (vk2 ++ vrem).length ≤ sk2.length := by have h' := of_decide_eq_false h; omega
        simp only [List.length_append] at hk2
        obtain rfl : vrem = [] := List.length_eq_zero_iff.1 (by omega)
        obtain rfl : rem = [] := List.length_eq_zero_iff.1 (by simpa using l4)
        simp only [List.append_nil] at *
        have ej : (pre ++ sk2).length = (pre ++ (aB 0 sk2 vk2).1).length := by rw [List.length_append, List.length_append, a4]
        refine ⟨((4294967295 : Nat) : Int), ⟨?_, ?_⟩, ?_, ⟨by omega, by omega⟩, ?_⟩
        · rw [ej]; omega
        · rw [ej]; simp only [lim_length, List.length_append, List.length_cons]; omega
        · rw [ej]; exact lim_mid _ _ _
        · have e8 : IntKind.u32.wrap (((4294967295 : Nat) : Int) + ((((aB 0 sk2 vk2).2) : Nat) : Int)) = ((0 : Nat) : Int) := by rw [k3, wu32]; decide
          have e9 : IntKind.u32.wrap (IntKind.u64.wrap ((g : Int) - 1)) = ((W / v : Nat) : Int) := by
            have hk1 := k1
            generalize W / v = Q at hk1 hd
            rw [wu64 (by omega) (by omega), wu32]; omega
          rw [ej, Int.toNat_natCast, e8, e9, lim_setmid, lim_set]
          exact hJ _ (by omega) a3 k4
    · rw [e6, top_bit hut mc m2] at h
      have hge : ¬ ut < C + Bo := by simpa using h
      obtain ⟨k1, k2, k3⟩ := kr1 (by omega)
      have es : IntKind.u32.wrap (IntKind.u64.wrap (IntKind.u64.wrap ((ut : Int) - (C : Int)) - (Bo : Int))) = ((0 : Nat) : Int) := by
        rw [sub_word hut mc m2, wu32]; omega
      have e9 : IntKind.u32.wrap (g : Int) = ((W / v : Nat) : Int) := by
        have hk1 := k1
        generalize W / v = Q at hk1 hd
        rw [wu32]; omega
      rw [e6, es, ei, Int.toNat_natCast, Int.toNat_natCast, e9, lim_setmid, lim_set]
      exact ⟨⟨by omega, by omega⟩, hJ _ (by omega) m3 k2⟩
end Go.AM
/- integer.long: a round. -/
namespace Go.AM
open Go.Proofs.Tryz
def roundP (v : List (List D)) (u q : List (List D)) (i : Int) (J0 : (List (List D)) → (List (List D)) → Int → Prop) (μ0 : (List (List D)) → (List (List D)) → Int → Nat) : Prop :=
  ∃ (vx1 : Int) (vx2 : Int),
  (0 ≤ (IntKind.i64.wrap (i + (v.length : Int))) ∧ (IntKind.i64.wrap (i + (v.length : Int))) < (u.length : Int)) ∧
  (u[((IntKind.i64.wrap (i + (v.length : Int)))).toNat]? = some [(dU vx1)]) ∧
  (0 ≤ (32 : Int)) ∧
  (0 ≤ (IntKind.i64.wrap ((IntKind.i64.wrap (i + (v.length : Int))) - (1 : Int))) ∧ (IntKind.i64.wrap ((IntKind.i64.wrap (i + (v.length : Int))) - (1 : Int))) < (u.length : Int)) ∧
  (u[((IntKind.i64.wrap ((IntKind.i64.wrap (i + (v.length : Int))) - (1 : Int)))).toNat]? = some [(dU vx2)]) ∧
  (∃ (vx3 : Int),
  (0 ≤ (IntKind.i64.wrap ((v.length : Int) - (1 : Int))) ∧ (IntKind.i64.wrap ((v.length : Int) - (1 : Int))) < (v.length : Int)) ∧
  (v[((IntKind.i64.wrap ((v.length : Int) - (1 : Int)))).toNat]? = some [(dU vx3)]) ∧
  ((IntKind.u64.wrap vx3) ≠ 0) ∧
  (∃ (J1 : Int → Int → Prop) (μ1 : Int → Int → Nat),
  J1 (IntKind.u64.wrap ((bitsI .u64 (· ||| ·) (IntKind.u64.wrap ((IntKind.u64.wrap vx1) * 2 ^ (min (32 : Int).toNat IntKind.u64.bits))) (IntKind.u64.wrap vx2)).tdiv (IntKind.u64.wrap vx3))) ((bitsI .u64 (· ||| ·) (IntKind.u64.wrap ((IntKind.u64.wrap vx1) * 2 ^ (min (32 : Int).toNat IntKind.u64.bits))) (IntKind.u64.wrap vx2)).tmod (IntKind.u64.wrap vx3)) ∧ ∀ (guess : Int) (rest : Int), J1 guess rest →
    ((decide (guess > (4294967295 : Int))) = true →
      ((decide ((IntKind.u64.wrap (rest + (IntKind.u64.wrap vx3))) > (4294967295 : Int))) = true →
        ∃ (J2 : (List (List D)) → Int → Int → Int → Prop) (μ2 : (List (List D)) → Int → Int → Int → Nat),
        J2 u (0 : Int) (0 : Int) (0 : Int) ∧ ∀ (u1 : List (List D)) (t127 : Int) (carry : Int) (borrow : Int), J2 u1 t127 carry borrow →
          ((decide (t127 < (v.length : Int))) = true →
            ∃ (vx4 : Int),
            (0 ≤ t127 ∧ t127 < (v.length : Int)) ∧
            (v[(t127).toNat]? = some [(dU vx4)]) ∧
            (∃ (vx5 : Int),
            (0 ≤ (IntKind.i64.wrap (i + t127)) ∧ (IntKind.i64.wrap (i + t127)) < (u1.length : Int)) ∧
            (u1[((IntKind.i64.wrap (i + t127))).toNat]? = some [(dU vx5)]) ∧
            ((0 ≤ (63 : Int)) ∧
            (J2 (u1.set ((IntKind.i64.wrap (i + t127))).toNat [(dU (IntKind.u32.wrap (IntKind.u64.wrap ((IntKind.u64.wrap ((IntKind.u64.wrap vx5) - (IntKind.u64.wrap (IntKind.u32.wrap (IntKind.u64.wrap (carry + (IntKind.u64.wrap ((IntKind.u64.wrap (guess - (1 : Int))) * (IntKind.u64.wrap vx4))))))))) - borrow))))]) (IntKind.i64.wrap (t127 + (1 : Int))) ((IntKind.u64.wrap (carry + (IntKind.u64.wrap ((IntKind.u64.wrap (guess - (1 : Int))) * (IntKind.u64.wrap vx4))))).fdiv (2 ^ (min (32 : Int).toNat IntKind.u64.bits))) ((IntKind.u64.wrap ((IntKind.u64.wrap ((IntKind.u64.wrap vx5) - (IntKind.u64.wrap (IntKind.u32.wrap (IntKind.u64.wrap (carry + (IntKind.u64.wrap ((IntKind.u64.wrap (guess - (1 : Int))) * (IntKind.u64.wrap vx4))))))))) - borrow)).fdiv (2 ^ (min (63 : Int).toNat IntKind.u64.bits))) ∧ μ2 (u1.set ((IntKind.i64.wrap (i + t127))).toNat [(dU (IntKind.u32.wrap (IntKind.u64.wrap ((IntKind.u64.wrap ((IntKind.u64.wrap vx5) - (IntKind.u64.wrap (IntKind.u32.wrap (IntKind.u64.wrap (carry + (IntKind.u64.wrap ((IntKind.u64.wrap (guess - (1 : Int))) * (IntKind.u64.wrap vx4))))))))) - borrow))))]) (IntKind.i64.wrap (t127 + (1 : Int))) ((IntKind.u64.wrap (carry + (IntKind.u64.wrap ((IntKind.u64.wrap (guess - (1 : Int))) * (IntKind.u64.wrap vx4))))).fdiv (2 ^ (min (32 : Int).toNat IntKind.u64.bits))) ((IntKind.u64.wrap ((IntKind.u64.wrap ((IntKind.u64.wrap vx5) - (IntKind.u64.wrap (IntKind.u32.wrap (IntKind.u64.wrap (carry + (IntKind.u64.wrap ((IntKind.u64.wrap (guess - (1 : Int))) * (IntKind.u64.wrap vx4))))))))) - borrow)).fdiv (2 ^ (min (63 : Int).toNat IntKind.u64.bits))) < μ2 u1 t127 carry borrow)))) ∧
          ((decide (t127 < (v.length : Int))) = false →
            ∃ (vx6 : Int),
            (0 ≤ (IntKind.i64.wrap (i + (v.length : Int))) ∧ (IntKind.i64.wrap (i + (v.length : Int))) < (u1.length : Int)) ∧
            (u1[((IntKind.i64.wrap (i + (v.length : Int)))).toNat]? = some [(dU vx6)]) ∧
            ((0 ≤ (63 : Int)) ∧
            (((((IntKind.u64.wrap ((IntKind.u64.wrap ((IntKind.u64.wrap vx6) - carry)) - borrow)).fdiv (2 ^ (min (63 : Int).toNat IntKind.u64.bits))) == (1 : Int)) = true →
              ∃ (J3 : (List (List D)) → Int → Int → Prop) (μ3 : (List (List D)) → Int → Int → Nat),
              J3 (u1.set ((IntKind.i64.wrap (i + (v.length : Int)))).toNat [(dU (IntKind.u32.wrap (IntKind.u64.wrap ((IntKind.u64.wrap ((IntKind.u64.wrap vx6) - carry)) - borrow))))]) (0 : Int) (0 : Int) ∧ ∀ (u2 : List (List D)) (t188 : Int) (c : Int), J3 u2 t188 c →
                ((decide (t188 < (v.length : Int))) = true →
                  ∃ (vx7 : Int),
                  (0 ≤ t188 ∧ t188 < (v.length : Int)) ∧
                  (v[(t188).toNat]? = some [(dU vx7)]) ∧
                  (∃ (vx8 : Int) (r1 : Int) (r2 : Int),
                  (0 ≤ (IntKind.i64.wrap (i + t188)) ∧ (IntKind.i64.wrap (i + t188)) < (u2.length : Int)) ∧
                  (u2[((IntKind.i64.wrap (i + t188))).toNat]? = some [(dU vx8)]) ∧
                  (FnD prog 130 [(vD (dU vx8)), (vD (dU vx7)), (vD (dU c))] (V.tup [(eD (dU r1)), (eD (dU r2))]) []) ∧
                  (J3 (u2.set ((IntKind.i64.wrap (i + t188))).toNat [(dU r1)]) (IntKind.i64.wrap (t188 + (1 : Int))) r2 ∧ μ3 (u2.set ((IntKind.i64.wrap (i + t188))).toNat [(dU r1)]) (IntKind.i64.wrap (t188 + (1 : Int))) r2 < μ3 u2 t188 c))) ∧
                ((decide (t188 < (v.length : Int))) = false →
                  ∃ (vx9 : Int),
                  (0 ≤ (IntKind.i64.wrap (i + (v.length : Int))) ∧ (IntKind.i64.wrap (i + (v.length : Int))) < (u2.length : Int)) ∧
                  (u2[((IntKind.i64.wrap (i + (v.length : Int)))).toNat]? = some [(dU vx9)]) ∧
                  ((0 ≤ i ∧ i < (q.length : Int)) ∧
                  (J0 (q.set (i).toNat [(dU (IntKind.u32.wrap (IntKind.u64.wrap ((IntKind.u64.wrap (guess - (1 : Int))) - (1 : Int)))))]) (u2.set ((IntKind.i64.wrap (i + (v.length : Int)))).toNat [(dU (IntKind.u32.wrap (vx9 + c)))]) (IntKind.i64.wrap (i - (1 : Int))) ∧ μ0 (q.set (i).toNat [(dU (IntKind.u32.wrap (IntKind.u64.wrap ((IntKind.u64.wrap (guess - (1 : Int))) - (1 : Int)))))]) (u2.set ((IntKind.i64.wrap (i + (v.length : Int)))).toNat [(dU (IntKind.u32.wrap (vx9 + c)))]) (IntKind.i64.wrap (i - (1 : Int))) < μ0 q u i)))) ∧
            ((((IntKind.u64.wrap ((IntKind.u64.wrap ((IntKind.u64.wrap vx6) - carry)) - borrow)).fdiv (2 ^ (min (63 : Int).toNat IntKind.u64.bits))) == (1 : Int)) = false →
              (0 ≤ i ∧ i < (q.length : Int)) ∧
              (J0 (q.set (i).toNat [(dU (IntKind.u32.wrap (IntKind.u64.wrap (guess - (1 : Int)))))]) (u1.set ((IntKind.i64.wrap (i + (v.length : Int)))).toNat [(dU (IntKind.u32.wrap (IntKind.u64.wrap ((IntKind.u64.wrap ((IntKind.u64.wrap vx6) - carry)) - borrow))))]) (IntKind.i64.wrap (i - (1 : Int))) ∧ μ0 (q.set (i).toNat [(dU (IntKind.u32.wrap (IntKind.u64.wrap (guess - (1 : Int)))))]) (u1.set ((IntKind.i64.wrap (i + (v.length : Int)))).toNat [(dU (IntKind.u32.wrap (IntKind.u64.wrap ((IntKind.u64.wrap ((IntKind.u64.wrap vx6) - carry)) - borrow))))]) (IntKind.i64.wrap (i - (1 : Int))) < μ0 q u i)))))) ∧
      ((decide ((IntKind.u64.wrap (rest + (IntKind.u64.wrap vx3))) > (4294967295 : Int))) = false →
        J1 (IntKind.u64.wrap (guess - (1 : Int))) (IntKind.u64.wrap (rest + (IntKind.u64.wrap vx3))) ∧ μ1 (IntKind.u64.wrap (guess - (1 : Int))) (IntKind.u64.wrap (rest + (IntKind.u64.wrap vx3))) < μ1 guess rest)) ∧
    ((decide (guess > (4294967295 : Int))) = false →
      ∃ (vx10 : Int) (vx11 : Int),
      (0 ≤ (IntKind.i64.wrap ((v.length : Int) - (2 : Int))) ∧ (IntKind.i64.wrap ((v.length : Int) - (2 : Int))) < (v.length : Int)) ∧
      (v[((IntKind.i64.wrap ((v.length : Int) - (2 : Int)))).toNat]? = some [(dU vx10)]) ∧
      (0 ≤ (IntKind.i64.wrap ((IntKind.i64.wrap (i + (v.length : Int))) - (2 : Int))) ∧ (IntKind.i64.wrap ((IntKind.i64.wrap (i + (v.length : Int))) - (2 : Int))) < (u.length : Int)) ∧
      (u[((IntKind.i64.wrap ((IntKind.i64.wrap (i + (v.length : Int))) - (2 : Int)))).toNat]? = some [(dU vx11)]) ∧
      (((decide ((IntKind.u64.wrap (guess * (IntKind.u64.wrap vx10))) > (bitsI .u64 (· ||| ·) (IntKind.u64.wrap (rest * 2 ^ (min (32 : Int).toNat IntKind.u64.bits))) (IntKind.u64.wrap vx11)))) = true →
        ((decide ((IntKind.u64.wrap (rest + (IntKind.u64.wrap vx3))) > (4294967295 : Int))) = true →
          ∃ (J4 : (List (List D)) → Int → Int → Int → Prop) (μ4 : (List (List D)) → Int → Int → Int → Nat),
          J4 u (0 : Int) (0 : Int) (0 : Int) ∧ ∀ (u3 : List (List D)) (t1271 : Int) (carry1 : Int) (borrow1 : Int), J4 u3 t1271 carry1 borrow1 →
            ((decide (t1271 < (v.length : Int))) = true →
              ∃ (vx12 : Int),
              (0 ≤ t1271 ∧ t1271 < (v.length : Int)) ∧
              (v[(t1271).toNat]? = some [(dU vx12)]) ∧
              (∃ (vx13 : Int),
              (0 ≤ (IntKind.i64.wrap (i + t1271)) ∧ (IntKind.i64.wrap (i + t1271)) < (u3.length : Int)) ∧
              (u3[((IntKind.i64.wrap (i + t1271))).toNat]? = some [(dU vx13)]) ∧
              ((0 ≤ (63 : Int)) ∧
              (J4 (u3.set ((IntKind.i64.wrap (i + t1271))).toNat [(dU (IntKind.u32.wrap (IntKind.u64.wrap ((IntKind.u64.wrap ((IntKind.u64.wrap vx13) - (IntKind.u64.wrap (IntKind.u32.wrap (IntKind.u64.wrap (carry1 + (IntKind.u64.wrap ((IntKind.u64.wrap (guess - (1 : Int))) * (IntKind.u64.wrap vx12))))))))) - borrow1))))]) (IntKind.i64.wrap (t1271 + (1 : Int))) ((IntKind.u64.wrap (carry1 + (IntKind.u64.wrap ((IntKind.u64.wrap (guess - (1 : Int))) * (IntKind.u64.wrap vx12))))).fdiv (2 ^ (min (32 : Int).toNat IntKind.u64.bits))) ((IntKind.u64.wrap ((IntKind.u64.wrap ((IntKind.u64.wrap vx13) - (IntKind.u64.wrap (IntKind.u32.wrap (IntKind.u64.wrap (carry1 + (IntKind.u64.wrap ((IntKind.u64.wrap (guess - (1 : Int))) * (IntKind.u64.wrap vx12))))))))) - borrow1)).fdiv (2 ^ (min (63 : Int).toNat IntKind.u64.bits))) ∧ μ4 (u3.set ((IntKind.i64.wrap (i + t1271))).toNat [(dU (IntKind.u32.wrap (IntKind.u64.wrap ((IntKind.u64.wrap ((IntKind.u64.wrap vx13) - (IntKind.u64.wrap (IntKind.u32.wrap (IntKind.u64.wrap (carry1 + (IntKind.u64.wrap ((IntKind.u64.wrap (guess - (1 : Int))) * (IntKind.u64.wrap vx12))))))))) - borrow1))))]) (IntKind.i64.wrap (t1271 + (1 : Int))) ((IntKind.u64.wrap (carry1 + (IntKind.u64.wrap ((IntKind.u64.wrap (guess - (1 : Int))) * (IntKind.u64.wrap vx12))))).fdiv (2 ^ (min (32 : Int).toNat IntKind.u64.bits))) ((IntKind.u64.wrap ((IntKind.u64.wrap ((IntKind.u64.wrap vx13) - (IntKind.u64.wrap (IntKind.u32.wrap (IntKind.u64.wrap (carry1 + (IntKind.u64.wrap ((IntKind.u64.wrap (guess - (1 : Int))) * (IntKind.u64.wrap vx12))))))))) - borrow1)).fdiv (2 ^ (min (63 : Int).toNat IntKind.u64.bits))) < μ4 u3 t1271 carry1 borrow1)))) ∧
            ((decide (t1271 < (v.length : Int))) = false →
              ∃ (vx14 : Int),
              (0 ≤ (IntKind.i64.wrap (i + (v.length : Int))) ∧ (IntKind.i64.wrap (i + (v.length : Int))) < (u3.length : Int)) ∧
              (u3[((IntKind.i64.wrap (i + (v.length : Int)))).toNat]? = some [(dU vx14)]) ∧
              ((0 ≤ (63 : Int)) ∧
              (((((IntKind.u64.wrap ((IntKind.u64.wrap ((IntKind.u64.wrap vx14) - carry1)) - borrow1)).fdiv (2 ^ (min (63 : Int).toNat IntKind.u64.bits))) == (1 : Int)) = true →
                ∃ (J5 : (List (List D)) → Int → Int → Prop) (μ5 : (List (List D)) → Int → Int → Nat),
                J5 (u3.set ((IntKind.i64.wrap (i + (v.length : Int)))).toNat [(dU (IntKind.u32.wrap (IntKind.u64.wrap ((IntKind.u64.wrap ((IntKind.u64.wrap vx14) - carry1)) - borrow1))))]) (0 : Int) (0 : Int) ∧ ∀ (u4 : List (List D)) (t1881 : Int) (c1 : Int), J5 u4 t1881 c1 →
                  ((decide (t1881 < (v.length : Int))) = true →
                    ∃ (vx15 : Int),
                    (0 ≤ t1881 ∧ t1881 < (v.length : Int)) ∧
                    (v[(t1881).toNat]? = some [(dU vx15)]) ∧
                    (∃ (vx16 : Int) (r3 : Int) (r4 : Int),
                    (0 ≤ (IntKind.i64.wrap (i + t1881)) ∧ (IntKind.i64.wrap (i + t1881)) < (u4.length : Int)) ∧
                    (u4[((IntKind.i64.wrap (i + t1881))).toNat]? = some [(dU vx16)]) ∧
                    (FnD prog 130 [(vD (dU vx16)), (vD (dU vx15)), (vD (dU c1))] (V.tup [(eD (dU r3)), (eD (dU r4))]) []) ∧
                    (J5 (u4.set ((IntKind.i64.wrap (i + t1881))).toNat [(dU r3)]) (IntKind.i64.wrap (t1881 + (1 : Int))) r4 ∧ μ5 (u4.set ((IntKind.i64.wrap (i + t1881))).toNat [(dU r3)]) (IntKind.i64.wrap (t1881 + (1 : Int))) r4 < μ5 u4 t1881 c1))) ∧
                  ((decide (t1881 < (v.length : Int))) = false →
                    ∃ (vx17 : Int),
                    (0 ≤ (IntKind.i64.wrap (i + (v.length : Int))) ∧ (IntKind.i64.wrap (i + (v.length : Int))) < (u4.length : Int)) ∧
                    (u4[((IntKind.i64.wrap (i + (v.length : Int)))).toNat]? = some [(dU vx17)]) ∧
                    ((0 ≤ i ∧ i < (q.length : Int)) ∧
                    (J0 (q.set (i).toNat [(dU (IntKind.u32.wrap (IntKind.u64.wrap ((IntKind.u64.wrap (guess - (1 : Int))) - (1 : Int)))))]) (u4.set ((IntKind.i64.wrap (i + (v.length : Int)))).toNat [(dU (IntKind.u32.wrap (vx17 + c1)))]) (IntKind.i64.wrap (i - (1 : Int))) ∧ μ0 (q.set (i).toNat [(dU (IntKind.u32.wrap (IntKind.u64.wrap ((IntKind.u64.wrap (guess - (1 : Int))) - (1 : Int)))))]) (u4.set ((IntKind.i64.wrap (i + (v.length : Int)))).toNat [(dU (IntKind.u32.wrap (vx17 + c1)))]) (IntKind.i64.wrap (i - (1 : Int))) < μ0 q u i)))) ∧
              ((((IntKind.u64.wrap ((IntKind.u64.wrap ((IntKind.u64.wrap vx14) - carry1)) - borrow1)).fdiv (2 ^ (min (63 : Int).toNat IntKind.u64.bits))) == (1 : Int)) = false →
                (0 ≤ i ∧ i < (q.length : Int)) ∧
                (J0 (q.set (i).toNat [(dU (IntKind.u32.wrap (IntKind.u64.wrap (guess - (1 : Int)))))]) (u3.set ((IntKind.i64.wrap (i + (v.length : Int)))).toNat [(dU (IntKind.u32.wrap (IntKind.u64.wrap ((IntKind.u64.wrap ((IntKind.u64.wrap vx14) - carry1)) - borrow1))))]) (IntKind.i64.wrap (i - (1 : Int))) ∧ μ0 (q.set (i).toNat [(dU (IntKind.u32.wrap (IntKind.u64.wrap (guess - (1 : Int)))))]) (u3.set ((IntKind.i64.wrap (i + (v.length : Int)))).toNat [(dU (IntKind.u32.wrap (IntKind.u64.wrap ((IntKind.u64.wrap ((IntKind.u64.wrap vx14) - carry1)) - borrow1))))]) (IntKind.i64.wrap (i - (1 : Int))) < μ0 q u i)))))) ∧
        ((decide ((IntKind.u64.wrap (rest + (IntKind.u64.wrap vx3))) > (4294967295 : Int))) = false →
          J1 (IntKind.u64.wrap (guess - (1 : Int))) (IntKind.u64.wrap (rest + (IntKind.u64.wrap vx3))) ∧ μ1 (IntKind.u64.wrap (guess - (1 : Int))) (IntKind.u64.wrap (rest + (IntKind.u64.wrap vx3))) < μ1 guess rest)) ∧
      ((decide ((IntKind.u64.wrap (guess * (IntKind.u64.wrap vx10))) > (bitsI .u64 (· ||| ·) (IntKind.u64.wrap (rest * 2 ^ (min (32 : Int).toNat IntKind.u64.bits))) (IntKind.u64.wrap vx11)))) = false →
        ∃ (J6 : (List (List D)) → Int → Int → Int → Prop) (μ6 : (List (List D)) → Int → Int → Int → Nat),
        J6 u (0 : Int) (0 : Int) (0 : Int) ∧ ∀ (u5 : List (List D)) (t1272 : Int) (carry2 : Int) (borrow2 : Int), J6 u5 t1272 carry2 borrow2 →
          ((decide (t1272 < (v.length : Int))) = true →
            ∃ (vx18 : Int),
            (0 ≤ t1272 ∧ t1272 < (v.length : Int)) ∧
            (v[(t1272).toNat]? = some [(dU vx18)]) ∧
            (∃ (vx19 : Int),
            (0 ≤ (IntKind.i64.wrap (i + t1272)) ∧ (IntKind.i64.wrap (i + t1272)) < (u5.length : Int)) ∧
            (u5[((IntKind.i64.wrap (i + t1272))).toNat]? = some [(dU vx19)]) ∧
            ((0 ≤ (63 : Int)) ∧
            (J6 (u5.set ((IntKind.i64.wrap (i + t1272))).toNat [(dU (IntKind.u32.wrap (IntKind.u64.wrap ((IntKind.u64.wrap ((IntKind.u64.wrap vx19) - (IntKind.u64.wrap (IntKind.u32.wrap (IntKind.u64.wrap (carry2 + (IntKind.u64.wrap (guess * (IntKind.u64.wrap vx18))))))))) - borrow2))))]) (IntKind.i64.wrap (t1272 + (1 : Int))) ((IntKind.u64.wrap (carry2 + (IntKind.u64.wrap (guess * (IntKind.u64.wrap vx18))))).fdiv (2 ^ (min (32 : Int).toNat IntKind.u64.bits))) ((IntKind.u64.wrap ((IntKind.u64.wrap ((IntKind.u64.wrap vx19) - (IntKind.u64.wrap (IntKind.u32.wrap (IntKind.u64.wrap (carry2 + (IntKind.u64.wrap (guess * (IntKind.u64.wrap vx18))))))))) - borrow2)).fdiv (2 ^ (min (63 : Int).toNat IntKind.u64.bits))) ∧ μ6 (u5.set ((IntKind.i64.wrap (i + t1272))).toNat [(dU (IntKind.u32.wrap (IntKind.u64.wrap ((IntKind.u64.wrap ((IntKind.u64.wrap vx19) - (IntKind.u64.wrap (IntKind.u32.wrap (IntKind.u64.wrap (carry2 + (IntKind.u64.wrap (guess * (IntKind.u64.wrap vx18))))))))) - borrow2))))]) (IntKind.i64.wrap (t1272 + (1 : Int))) ((IntKind.u64.wrap (carry2 + (IntKind.u64.wrap (guess * (IntKind.u64.wrap vx18))))).fdiv (2 ^ (min (32 : Int).toNat IntKind.u64.bits))) ((IntKind.u64.wrap ((IntKind.u64.wrap ((IntKind.u64.wrap vx19) - (IntKind.u64.wrap (IntKind.u32.wrap (IntKind.u64.wrap (carry2 + (IntKind.u64.wrap (guess * (IntKind.u64.wrap vx18))))))))) - borrow2)).fdiv (2 ^ (min (63 : Int).toNat IntKind.u64.bits))) < μ6 u5 t1272 carry2 borrow2)))) ∧
          ((decide (t1272 < (v.length : Int))) = false →
            ∃ (vx20 : Int),
            (0 ≤ (IntKind.i64.wrap (i + (v.length : Int))) ∧ (IntKind.i64.wrap (i + (v.length : Int))) < (u5.length : Int)) ∧
            (u5[((IntKind.i64.wrap (i + (v.length : Int)))).toNat]? = some [(dU vx20)]) ∧
            ((0 ≤ (63 : Int)) ∧
            (((((IntKind.u64.wrap ((IntKind.u64.wrap ((IntKind.u64.wrap vx20) - carry2)) - borrow2)).fdiv (2 ^ (min (63 : Int).toNat IntKind.u64.bits))) == (1 : Int)) = true →
              ∃ (J7 : (List (List D)) → Int → Int → Prop) (μ7 : (List (List D)) → Int → Int → Nat),
              J7 (u5.set ((IntKind.i64.wrap (i + (v.length : Int)))).toNat [(dU (IntKind.u32.wrap (IntKind.u64.wrap ((IntKind.u64.wrap ((IntKind.u64.wrap vx20) - carry2)) - borrow2))))]) (0 : Int) (0 : Int) ∧ ∀ (u6 : List (List D)) (t1882 : Int) (c2 : Int), J7 u6 t1882 c2 →
                ((decide (t1882 < (v.length : Int))) = true →
                  ∃ (vx21 : Int),
                  (0 ≤ t1882 ∧ t1882 < (v.length : Int)) ∧
                  (v[(t1882).toNat]? = some [(dU vx21)]) ∧
                  (∃ (vx22 : Int) (r5 : Int) (r6 : Int),
                  (0 ≤ (IntKind.i64.wrap (i + t1882)) ∧ (IntKind.i64.wrap (i + t1882)) < (u6.length : Int)) ∧
                  (u6[((IntKind.i64.wrap (i + t1882))).toNat]? = some [(dU vx22)]) ∧
                  (FnD prog 130 [(vD (dU vx22)), (vD (dU vx21)), (vD (dU c2))] (V.tup [(eD (dU r5)), (eD (dU r6))]) []) ∧
                  (J7 (u6.set ((IntKind.i64.wrap (i + t1882))).toNat [(dU r5)]) (IntKind.i64.wrap (t1882 + (1 : Int))) r6 ∧ μ7 (u6.set ((IntKind.i64.wrap (i + t1882))).toNat [(dU r5)]) (IntKind.i64.wrap (t1882 + (1 : Int))) r6 < μ7 u6 t1882 c2))) ∧
                ((decide (t1882 < (v.length : Int))) = false →
                  ∃ (vx23 : Int),
                  (0 ≤ (IntKind.i64.wrap (i + (v.length : Int))) ∧ (IntKind.i64.wrap (i + (v.length : Int))) < (u6.length : Int)) ∧
                  (u6[((IntKind.i64.wrap (i + (v.length : Int)))).toNat]? = some [(dU vx23)]) ∧
                  ((0 ≤ i ∧ i < (q.length : Int)) ∧
                  (J0 (q.set (i).toNat [(dU (IntKind.u32.wrap (IntKind.u64.wrap (guess - (1 : Int)))))]) (u6.set ((IntKind.i64.wrap (i + (v.length : Int)))).toNat [(dU (IntKind.u32.wrap (vx23 + c2)))]) (IntKind.i64.wrap (i - (1 : Int))) ∧ μ0 (q.set (i).toNat [(dU (IntKind.u32.wrap (IntKind.u64.wrap (guess - (1 : Int)))))]) (u6.set ((IntKind.i64.wrap (i + (v.length : Int)))).toNat [(dU (IntKind.u32.wrap (vx23 + c2)))]) (IntKind.i64.wrap (i - (1 : Int))) < μ0 q u i)))) ∧
            ((((IntKind.u64.wrap ((IntKind.u64.wrap ((IntKind.u64.wrap vx20) - carry2)) - borrow2)).fdiv (2 ^ (min (63 : Int).toNat IntKind.u64.bits))) == (1 : Int)) = false →
              (0 ≤ i ∧ i < (q.length : Int)) ∧
              (J0 (q.set (i).toNat [(dU (IntKind.u32.wrap guess))]) (u5.set ((IntKind.i64.wrap (i + (v.length : Int)))).toNat [(dU (IntKind.u32.wrap (IntKind.u64.wrap ((IntKind.u64.wrap ((IntKind.u64.wrap vx20) - carry2)) - borrow2))))]) (IntKind.i64.wrap (i - (1 : Int))) ∧ μ0 (q.set (i).toNat [(dU (IntKind.u32.wrap guess))]) (u5.set ((IntKind.i64.wrap (i + (v.length : Int)))).toNat [(dU (IntKind.u32.wrap (IntKind.u64.wrap ((IntKind.u64.wrap ((IntKind.u64.wrap vx20) - carry2)) - borrow2))))]) (IntKind.i64.wrap (i - (1 : Int))) < μ0 q u i))))))))))
theorem val_two (l : List Nat) (x y : Nat) : val (l ++ [x, y]) = val l + 4294967296 ^ l.length * (x + 4294967296 * y) := by
  rw [val_append]; simp [val]
set_option maxRecDepth 100000 in
theorem round_ok {pre lows lowv post qs : List Nat} {ut u2 lo v1 v2 W V : Nat} (hl : lows.length = lowv.length) (hu : ∀ x ∈ pre ++ (lows ++ [u2, lo]) ++ ut :: post, x < 4294967296) (hv : ∀ x ∈ lowv ++ [v2, v1], x < 4294967296)
    (hv1 : 2147483648 ≤ v1) (hW : W = val (lows ++ [u2, lo]) + ut * 4294967296 ^ (lows ++ [u2, lo]).length) (hV : V = val (lowv ++ [v2, v1])) (hlt : W < V * 4294967296)
    (hq : pre.length < qs.length) (hlen : (pre ++ (lows ++ [u2, lo]) ++ ut :: post).length ≤ 4294967296) (hql : qs.length ≤ 4294967296)
    {J0 : (List (List D)) → (List (List D)) → Int → Prop} {μ0 : (List (List D)) → (List (List D)) → Int → Nat}
    (hJ : ∀ R : List Nat, R.length = (lowv ++ [v2, v1]).length → (∀ x ∈ R, x < 4294967296) → val R = W % V →
      J0 (lim (qs.set pre.length (W / V))) (lim (pre ++ R ++ 0 :: post)) (IntKind.i64.wrap ((pre.length : Int) - 1)) ∧
      μ0 (lim (qs.set pre.length (W / V))) (lim (pre ++ R ++ 0 :: post)) (IntKind.i64.wrap ((pre.length : Int) - 1)) < μ0 (lim qs) (lim (pre ++ (lows ++ [u2, lo]) ++ ut :: post)) (pre.length : Int)) :
    roundP (lim (lowv ++ [v2, v1])) (lim (pre ++ (lows ++ [u2, lo]) ++ ut :: post)) (lim qs) (pre.length : Int) J0 μ0 := by
  have hut : ut < 4294967296 := hu ut (by simp)
  have hlo : lo < 4294967296 := hu lo (by simp)
  have hu2 : u2 < 4294967296 := hu u2 (by simp)
  have hv1b : v1 < 4294967296 := hv v1 (by simp)
  have hv2 : v2 < 4294967296 := hv v2 (by simp)
  have hwr : val lows < 4294967296 ^ lows.length := val_lt fun x hx => hu x (by simp [hx])
  have hvr : val lowv < 4294967296 ^ lows.length := by rw [hl]; exact val_lt fun x hx => hv x (by simp [hx])
  have hWe : W = ((ut * 4294967296 + lo) * 4294967296 + u2) * 4294967296 ^ lows.length + val lows := by
    rw [hW, val_two]
    simp only [List.length_append, List.length_cons, List.length_nil, Nat.zero_add, Nat.pow_succ]
    generalize 4294967296 ^ lows.length = P
    have a1 : ut * (P * 4294967296 * 4294967296) = ut * 4294967296 * 4294967296 * P := by
      rw [Nat.mul_assoc P, Nat.mul_comm P, ← Nat.mul_assoc, ← Nat.mul_assoc]
    have a2 : ((ut * 4294967296 + lo) * 4294967296 + u2) * P = ut * 4294967296 * 4294967296 * P + (u2 + 4294967296 * lo) * P := by
      rw [← Nat.add_mul]; exact congrArg (· * P) (by omega)
    rw [a1, a2, Nat.mul_comm P]
    omega
  have hVe : V = (v1 * 4294967296 + v2) * 4294967296 ^ lows.length + val lowv := by
    rw [hV, val_two, ← hl]
    generalize 4294967296 ^ lows.length = P
    rw [Nat.mul_comm P, show v2 + 4294967296 * v1 = v1 * 4294967296 + v2 by omega]
    omega
  have hP : 0 < 4294967296 ^ lows.length := Nat.pow_pos (by decide)
  have hV0 : 0 < V := by
    have : 0 < (v1 * 4294967296 + v2) * 4294967296 ^ lows.length := Nat.mul_pos (by omega) hP
    omega
  have hdig : W / V < 4294967296 := by rw [Nat.div_lt_iff_lt_mul hV0, Nat.mul_comm]; exact hlt
  have tl : ∀ g : Nat, W / V ≤ g → g ≤ W / V + 1 → g ≤ 4294967296 → tailP (lim (lowv ++ [v2, v1])) (pre.length : Int) (lim (pre ++ (lows ++ [u2, lo]) ++ ut :: post)) (lim qs) (g : Int) J0 μ0 := fun g h1 h2 h3 =>
    tail_ok (v := V) (W := W) (by simp [hl]) hu hv hW hV hV0 h1 h2 h3 hdig hq hlen hql hJ
  obtain ⟨f1, f2, f3, f4, f5⟩ := guess_first (v1 := v1) (v2 := v2) (vr := val lowv) (P := 4294967296 ^ lows.length) (u2 := u2) (wr := val lows) (hi := ut) (lo := lo) hv1 hv2 hvr hlo hu2 rfl rfl (by rw [← hWe, ← hVe]; exact hlt) hwr
  rw [← hWe, ← hVe] at f5
  have dec : ∀ {g r : Nat}, g * v1 + r = ut * 4294967296 + lo → (4294967296 ≤ g ∨ r * 4294967296 + u2 < g * v2) → W / V < g := fun {g r} h1 h2 => by
    have := guess_dec (v1 := v1) (v2 := v2) (vr := val lowv) (P := 4294967296 ^ lows.length) (u2 := u2) (wr := val lows) h1 hwr (by rw [← hWe, ← hVe]; exact hlt) h2
    rwa [← hWe, ← hVe] at this
  have gend : ∀ {g r : Nat}, g * v1 + r = ut * 4294967296 + lo → g ≤ 4294967296 → (4294967296 ≤ r ∨ g * v2 ≤ r * 4294967296 + u2) → g ≤ W / V + 1 := fun {g r} h1 h2 h3 => by
    have := guess_end (v1 := v1) (v2 := v2) (vr := val lowv) (P := 4294967296 ^ lows.length) (u2 := u2) (wr := val lows) h1 hv1 hv2 hvr h2 h3
    rwa [← hWe, ← hVe] at this
  clear hWe hVe
  generalize W / V = Q at *
  have L1 : (lim (lowv ++ [v2, v1])).length = lows.length + 2 := by rw [lim_length]; simp [hl]
  have L2 : (lim (pre ++ (lows ++ [u2, lo]) ++ ut :: post)).length = pre.length + lows.length + 3 + post.length := by rw [lim_length]; simp; omega
  have hlen' : pre.length + lows.length + 3 + post.length ≤ 4294967296 := by rw [lim_length] at L2; omega
  have g0 : (lim (pre ++ (lows ++ [u2, lo]) ++ ut :: post))[pre.length + (lows.length + 2)]? = some [dU (ut : Int)] := by
    have := lim_mid (pre ++ (lows ++ [u2, lo])) post ut
    simpa using this
  have g1 : (lim (pre ++ (lows ++ [u2, lo]) ++ ut :: post))[pre.length + (lows.length + 1)]? = some [dU (lo : Int)] := by
    have := lim_mid (pre ++ (lows ++ [u2])) (ut :: post) lo
    simpa using this
  have g2 : (lim (pre ++ (lows ++ [u2, lo]) ++ ut :: post))[pre.length + lows.length]? = some [dU (u2 : Int)] := by
    have := lim_mid (pre ++ lows) (lo :: ut :: post) u2
    simpa using this
  have k1 : (lim (lowv ++ [v2, v1]))[lows.length + 1]? = some [dU (v1 : Int)] := by
    have := lim_mid (lowv ++ [v2]) [] v1
    simpa [hl] using this
  have k2 : (lim (lowv ++ [v2, v1]))[lows.length]? = some [dU (v2 : Int)] := by
    have := lim_mid lowv [v1] v2
    rw [hl]; simpa using this
  generalize hvl : lim (lowv ++ [v2, v1]) = vl at *
  generalize hul : lim (pre ++ (lows ++ [u2, lo]) ++ ut :: post) = ul at *
  unfold roundP
  have i0 : IntKind.i64.wrap ((pre.length : Int) + (vl.length : Int)) = ((pre.length + (lows.length + 2) : Nat) : Int) := by rw [L1, w64 (by omega) (by omega)]; omega
  have i1 : IntKind.i64.wrap (((pre.length + (lows.length + 2) : Nat) : Int) - 1) = ((pre.length + (lows.length + 1) : Nat) : Int) := by rw [w64 (by omega) (by omega)]; omega
  have i2 : IntKind.i64.wrap (((pre.length + (lows.length + 2) : Nat) : Int) - 2) = ((pre.length + lows.length : Nat) : Int) := by rw [w64 (by omega) (by omega)]; omega
  have i3 : IntKind.i64.wrap ((vl.length : Int) - 1) = ((lows.length + 1 : Nat) : Int) := by rw [L1, w64 (by omega) (by omega)]; omega
  have i4 : IntKind.i64.wrap ((vl.length : Int) - 2) = ((lows.length : Nat) : Int) := by rw [L1, w64 (by omega) (by omega)]; omega
  have e1 : IntKind.u64.wrap (v1 : Int) = (v1 : Int) := wu64 (by omega) (by omega)
  have e1' : IntKind.u64.wrap (v2 : Int) = (v2 : Int) := wu64 (by omega) (by omega)
  have e2 : IntKind.u64.wrap (ut : Int) = (ut : Int) := wu64 (by omega) (by omega)
  have e3 : IntKind.u64.wrap (u2 : Int) = (u2 : Int) := wu64 (by omega) (by omega)
  have e4 : bitsI .u64 (· ||| ·) (IntKind.u64.wrap ((ut : Int) * 2 ^ (min (32 : Int).toNat IntKind.u64.bits))) (IntKind.u64.wrap (lo : Int)) = ((ut * 4294967296 + lo : Nat) : Int) := by
    rw [shl32 hut, wu64 (n := (lo : Int)) (by omega) (by omega), or32 hut hlo]
  have e5 : (((ut * 4294967296 + lo : Nat) : Int).tdiv (v1 : Int)) = (((ut * 4294967296 + lo) / v1 : Nat) : Int) := by rw [Int.tdiv_eq_ediv_of_nonneg (by omega)]; rfl
  have e6 : (((ut * 4294967296 + lo : Nat) : Int).tmod (v1 : Int)) = (((ut * 4294967296 + lo) % v1 : Nat) : Int) := by rw [Int.tmod_eq_emod_of_nonneg (by omega)]; rfl
  refine ⟨(ut : Int), (lo : Int), ?_, ?_, by decide, ?_, ?_, (v1 : Int), ?_, ?_, ?_, ?_⟩
  · rw [i0]; omega
  · rw [i0, Int.toNat_natCast]; exact g0
  · rw [i0, i1]; omega
  · rw [i0, i1, Int.toNat_natCast]; exact g1
  · rw [i3]; omega
  · rw [i3, Int.toNat_natCast]; exact k1
  · rw [e1]; omega
  refine ⟨fun guess rest => ∃ g r : Nat, guess = (g : Int) ∧ rest = (r : Int) ∧ g * v1 + r = ut * 4294967296 + lo ∧ Q ≤ g ∧ g ≤ 4294967297 ∧ r < 4294967296, fun guess _ => guess.toNat, ?_, ?_⟩
  · rw [e2, e4, e1, e5, e6]
    generalize (ut * 4294967296 + lo) / v1 = g at *
    generalize (ut * 4294967296 + lo) % v1 = r at *
    exact ⟨g, r, wu64 (by omega) (by omega), rfl, f1, f5, f4, by omega⟩
  clear f1 f2 f3 f4 f5 e4 e5 e6
  rintro _ _ ⟨g, r, rfl, rfl, hg, hge, hgB, hr⟩
  have rr : IntKind.u64.wrap ((r : Int) + (v1 : Int)) = ((r + v1 : Nat) : Int) := by rw [wu64 (by omega) (by omega)]; omega
  rw [e1, rr]
  have less : (4294967296 ≤ g ∨ r * 4294967296 + u2 < g * v2) → IntKind.u64.wrap ((g : Int) - 1) = ((g - 1 : Nat) : Int) ∧ (g - 1) * v1 + (r + v1) = ut * 4294967296 + lo ∧ Q ≤ g - 1 ∧ 1 ≤ g := fun h => by
    have h1 := dec hg h
    have h2 : (g - 1) * v1 + v1 = g * v1 := by
      rw [show g = (g - 1) + 1 by omega, Nat.add_mul (g - 1) 1 v1, Nat.one_mul]; rfl
    exact ⟨by rw [wu64 (by omega) (by omega)]; omega, by omega, by omega, by omega⟩
  have stop : (4294967296 ≤ g ∨ r * 4294967296 + u2 < g * v2) → decide (((r + v1 : Nat) : Int) > 4294967295) = true → tailP vl (pre.length : Int) ul (lim qs) (IntKind.u64.wrap ((g : Int) - 1)) J0 μ0 := fun h h2 => by
    obtain ⟨a1, a2, a3, a4⟩ := less h
    have h3 : 4294967296 ≤ r + v1 := by have : ((r + v1 : Nat) : Int) > 4294967295 := by simpa using h2
                                        omega
    rw [a1]
    exact tl (g - 1) a3 (gend a2 (by omega) (.inl h3)) (by omega)
  have goon : (4294967296 ≤ g ∨ r * 4294967296 + u2 < g * v2) → decide (((r + v1 : Nat) : Int) > 4294967295) = false →
      (∃ g' r' : Nat, IntKind.u64.wrap ((g : Int) - 1) = (g' : Int) ∧ ((r + v1 : Nat) : Int) = (r' : Int) ∧ g' * v1 + r' = ut * 4294967296 + lo ∧ Q ≤ g' ∧ g' ≤ 4294967297 ∧ r' < 4294967296) ∧ (IntKind.u64.wrap ((g : Int) - 1)).toNat < ((g : Int)).toNat := fun h h2 => by
    obtain ⟨a1, a2, a3, a4⟩ := less h
    have h3 : r + v1 < 4294967296 := by have : ¬ ((r + v1 : Nat) : Int) > 4294967295 := by simpa using h2
                                        omega
    exact ⟨⟨g - 1, r + v1, a1, rfl, a2, a3, by omega, h3⟩, by rw [a1]; omega⟩
  refine ⟨fun h => ?_, fun h => ?_⟩
  · have hb : 4294967296 ≤ g := by have : (g : Int) > 4294967295 := by simpa using h
                                   omega
    exact ⟨fun h2 => stop (.inl hb) h2, fun h2 => goon (.inl hb) h2⟩
  · have hb : g < 4294967296 := by have : ¬ (g : Int) > 4294967295 := by simpa using h
                                   omega
    have e7 : IntKind.u64.wrap ((g : Int) * (v2 : Int)) = ((g * v2 : Nat) : Int) := by
      have : g * v2 ≤ 4294967295 * 4294967295 := Nat.mul_le_mul (by omega) (by omega)
      rw [← Int.natCast_mul]; exact wu64 (by omega) (by omega)
    have e8 : bitsI .u64 (· ||| ·) (IntKind.u64.wrap ((r : Int) * 2 ^ (min (32 : Int).toNat IntKind.u64.bits))) (u2 : Int) = ((r * 4294967296 + u2 : Nat) : Int) := by
      rw [shl32 hr, or32 hr hu2]
    refine ⟨(v2 : Int), (u2 : Int), ?_, ?_, ?_, ?_, ?_⟩
    · rw [i4]; omega
    · rw [i4, Int.toNat_natCast]; exact k2
    · rw [i0, i2]; omega
    · rw [i0, i2, Int.toNat_natCast]; exact g2
    rw [e1', e3, e7, e8]
    refine ⟨fun h2 => ?_, fun h2 => ?_⟩
    · have hc : r * 4294967296 + u2 < g * v2 := by have : ((g * v2 : Nat) : Int) > ((r * 4294967296 + u2 : Nat) : Int) := by simpa using h2
                                                   omega
      exact ⟨fun h3 => stop (.inr hc) h3, fun h3 => goon (.inr hc) h3⟩
    · have hc : g * v2 ≤ r * 4294967296 + u2 := by have : ¬ ((g * v2 : Nat) : Int) > ((r * 4294967296 + u2 : Nat) : Int) := by simpa using h2
                                                   omega
      exact tl g hge (gend hg (by omega) (.inr hc)) (by omega)
end Go.AM
/- integer.long: what it answers. -/
namespace Go.AM
open Go.Proofs.Tryz
def padK : Nat → Nat → List Nat
  | 0, _ => []
  | m + 1, q => q % 4294967296 :: padK m (q / 4294967296)
theorem padK_len : ∀ (m q : Nat), (padK m q).length = m
  | 0, _ => rfl
  | m + 1, q => by simp [padK, padK_len m]
theorem padK_lt : ∀ (m q : Nat), ∀ x ∈ padK m q, x < 4294967296
  | 0, _, x, h => by simp [padK] at h
  | m + 1, q, x, h => by
    simp only [padK, List.mem_cons] at h
    rcases h with rfl | h
    · exact Nat.mod_lt _ (by decide)
    · exact padK_lt m _ x h
theorem padK_val : ∀ (m q : Nat), q < 4294967296 ^ m → val (padK m q) = q
  | 0, q, h => by simp at h; subst h; rfl
  | m + 1, q, h => by
    rw [Nat.pow_succ] at h
    simp only [padK, val]
    rw [padK_val m _ ((Nat.div_lt_iff_lt_mul (by decide)).2 h)]
    have := Nat.div_add_mod q 4294967296
    omega
theorem padK_of : ∀ {l : List Nat}, (∀ x ∈ l, x < 4294967296) → padK l.length (val l) = l
  | [], _ => rfl
  | x :: l, h => by
    have hx := h x (by simp)
    simp only [List.length_cons, padK, val]
    rw [show (x + 4294967296 * val l) % 4294967296 = x by omega, show (x + 4294967296 * val l) / 4294967296 = val l by omega, padK_of fun y hy => h y (by simp [hy])]
theorem split2 {α : Type} {l : List α} (h : 2 ≤ l.length) : ∃ p x y, l = p ++ [x, y] ∧ p.length + 2 = l.length := by
  refine ⟨l.take (l.length - 2), l[l.length - 2], l[l.length - 1], ?_, by rw [List.length_take]; omega⟩
  have h1 := List.take_append_drop (l.length - 2) l
  have h2 : l.drop (l.length - 2) = [l[l.length - 2], l[l.length - 1]] := by
    rw [List.drop_eq_getElem_cons (by omega)]
    congr 1
    rw [List.drop_eq_getElem_cons (by omega)]
    have e : l.length - 2 + 1 = l.length - 1 := by omega
    congr 1
    · simp only [e]
    · exact List.drop_eq_nil_iff.2 (by omega)
  rw [h2] at h1
  exact h1.symm
theorem shR_get (k : Nat) : ∀ (l : List Nat) (c : Nat) (h : c + 1 < l.length), (shR k l)[c]? = some (l[c] / 2 ^ k + (l[c + 1] * 2 ^ (32 - k)) % 4294967296)
  | [], c, h => by simp at h
  | [x], c, h => by simp at h
  | x :: y :: l, 0, h => rfl
  | x :: y :: l, c + 1, h => by
    have := shR_get k (y :: l) c (by simpa using h)
    simpa [shR] using this
theorem shR_lt {k : Nat} (hk : k ≤ 32) {l : List Nat} (hl : ∀ x ∈ l, x < 4294967296) : ∀ z ∈ shR k l, z < 4294967296 := fun z hz => by
  obtain ⟨c, hc⟩ := List.mem_iff_getElem?.1 hz
  have hcl : c < (shR k l).length := by
    rcases Nat.lt_or_ge c (shR k l).length with h | h
    · exact h
    · rw [List.getElem?_eq_none h] at hc; simp at hc
  rw [shR_len] at hcl
  rw [shR_get k l c (by omega), Option.some.injEq] at hc
  subst hc
  have h1 : l[c] < 4294967296 := hl _ (List.getElem_mem _)
  have h2 : l[c] / 2 ^ k < 2 ^ (32 - k) := by
    rw [Nat.div_lt_iff_lt_mul (Nat.pow_pos (by decide)), ← Nat.pow_add, show 32 - k + k = 32 by omega]; exact h1
  have := lo_add (k := 32 - k) (by omega) h2 l[c + 1]
  omega
end Go.AM
/- integer.long: what it answers; integer.divide, integer.DivMod. -/
namespace Go.AM
open Go.Proofs.Tryz
theorem split3 {α : Type} {l : List α} {i n : Nat} (h : i + n < l.length) : ∃ pre seg ut post, l = pre ++ seg ++ ut :: post ∧ pre.length = i ∧ seg.length = n := by
  refine ⟨l.take i, (l.drop i).take n, l[i + n], l.drop (i + n + 1), ?_, by rw [List.length_take]; omega, by rw [List.length_take, List.length_drop]; omega⟩
  have h1 : (l.drop i).drop n = l[i + n] :: l.drop (i + n + 1) := by rw [List.drop_drop, List.drop_eq_getElem_cons h]
  rw [← h1, List.append_assoc, List.take_append_drop, List.take_append_drop]
theorem drop_set1 {l : List Nat} {i d : Nat} (h : i < l.length) : (l.set i d).drop i = d :: l.drop (i + 1) := by
  apply List.ext_getElem?
  intro c
  rw [List.getElem?_drop]
  match c with
  | 0 => simp [h]
  | c + 1 => rw [List.getElem?_set_ne (by omega), List.getElem?_cons_succ, List.getElem?_drop]; congr 1; omega
theorem fill_set {l : List Nat} {c : Nat} (h : c < l.length) : (l.take c ++ List.replicate (l.length - c) 0).set c l[c] = l.take (c + 1) ++ List.replicate (l.length - (c + 1)) 0 := by
  rw [List.set_append_right _ _ (by rw [List.length_take]; omega), List.length_take, Nat.min_eq_left (by omega), Nat.sub_self,
    show l.length - c = (l.length - (c + 1)) + 1 by omega, List.replicate_succ, List.set_cons_zero]
  have : l.take (c + 1) = l.take c ++ [l[c]] := by rw [List.take_add_one, List.getElem?_eq_getElem h]; rfl
  rw [this, List.append_assoc]; rfl
theorem lg1 {V N P S X : Nat} (hVN : V ≤ N) (h : S + P * (N * 4294967296 * X) < V * (P * 4294967296)) : X = 0 := by
  rcases Nat.eq_zero_or_pos X with h0 | h0
  · exact h0
  · exfalso
    have h1 : P * (N * 4294967296 * 1) ≤ P * (N * 4294967296 * X) := Nat.mul_le_mul_left _ (Nat.mul_le_mul_left _ h0)
    have h2 : V * (P * 4294967296) ≤ N * (P * 4294967296) := Nat.mul_le_mul_right _ hVN
    have h3 : N * (P * 4294967296) = P * (N * 4294967296 * 1) := by rw [Nat.mul_one, Nat.mul_left_comm]
    omega
theorem lg2 {V P S W : Nat} (h : S + P * W < V * (P * 4294967296)) : W < V * 4294967296 := by
  apply Classical.byContradiction
  intro hc
  have h1 : P * (V * 4294967296) ≤ P * W := Nat.mul_le_mul_left _ (by omega)
  have h2 : P * (V * 4294967296) = V * (P * 4294967296) := by rw [Nat.mul_left_comm]
  omega
theorem lg3 (a S P N ut X : Nat) : a + P * S + P * N * (ut + 4294967296 * X) = a + P * (S + ut * N) + P * (N * 4294967296 * X) := by
  simp only [Nat.mul_add, Nat.mul_assoc, Nat.mul_comm, Nat.mul_left_comm]
  omega
theorem lg4 {Qo P V W a : Nat} : Qo * (P * 4294967296) * V + (a + P * W) = (W / V + 4294967296 * Qo) * P * V + (a + P * (W % V)) := by
  have hWdm := Nat.div_add_mod W V
  generalize W / V = d at *
  generalize W % V = md at *
  have a1 : Qo * (P * 4294967296) * V = 4294967296 * Qo * P * V := by rw [Nat.mul_comm P, ← Nat.mul_assoc, Nat.mul_comm Qo]
  have a2 : P * W = d * P * V + P * md := by
    rw [← hWdm, Nat.mul_add]
    congr 1
    rw [Nat.mul_comm V d, ← Nat.mul_assoc, Nat.mul_comm P d]
  rw [Nat.add_mul, Nat.add_mul, a1, a2]
  omega
theorem lg5 {V P W a : Nat} (ha : a < P) (hV : 0 < V) : a + P * (W % V) < V * P := by
  have h1 : P * (W % V + 1) ≤ P * V := Nat.mul_le_mul_left _ (Nat.mod_lt W hV)
  rw [Nat.mul_add P _ 1, Nat.mul_one] at h1
  rw [Nat.mul_comm V P]
  omega
theorem wdec {p : Nat} (h : p ≤ 4294967296) : IntKind.i64.wrap ((p : Int) - 1) = (p : Int) - 1 := w64 (by omega) (by omega)
theorem len3 {pre seg R post : List Nat} {ut x : Nat} (h : R.length = seg.length) : (pre ++ R ++ x :: post).length = (pre ++ seg ++ ut :: post).length := by simp [h]
theorem dec_lt (p : Nat) : ((p : Int) - 1 + 1).toNat < ((p : Int) + 1).toNat := by omega
def J0L (m n U V : Nat) (q u : List (List D)) (i : Int) : Prop := ∃ (j : Nat) (qs ws : List Nat), i = (j : Int) - 1 ∧ j ≤ m ∧ q = lim qs ∧ u = lim ws ∧ qs.length = m ∧ ws.length = m + n ∧
  (∀ x ∈ qs, x < 4294967296) ∧ (∀ x ∈ ws, x < 4294967296) ∧ U = val (qs.drop j) * 4294967296 ^ j * V + val ws ∧ val ws < V * 4294967296 ^ j
def μ0L (_ _ : List (List D)) (i : Int) : Nat := (i + 1).toNat
theorem J0_round {m n U V v1 v2 : Nat} {lowv : List Nat} (hmn : m + n ≤ 2147483648) (hn : lowv.length + 2 = n) (dV : ∀ x ∈ lowv ++ [v2, v1], x < 4294967296) (hv1 : 2147483648 ≤ v1) (vV : val (lowv ++ [v2, v1]) = V) (hVN : V ≤ 4294967296 ^ n) (hV0 : 0 < V)
    {q u : List (List D)} {i : Int} (hJ : J0L m n U V q u i) (hi : decide (i ≥ 0) = true) : roundP (lim (lowv ++ [v2, v1])) u q i (J0L m n U V) μ0L := by
  obtain ⟨j, qs, ws, rfl, hj, rfl, rfl, lq, lw, dq, dw, hU', hlt'⟩ := hJ
  have hj1 : 1 ≤ j := by have := of_decide_eq_true hi; omega
  obtain ⟨i, rfl⟩ : ∃ i, j = i + 1 := ⟨j - 1, by omega⟩
  rw [show (((i + 1 : Nat) : Int) - 1) = (i : Int) by omega]
  obtain ⟨pre, seg, ut, post, rfl, rfl, hseg⟩ := split3 (l := ws) (i := i) (n := n) (by omega)
  obtain ⟨lows, u2, lo, rfl, lowsl⟩ := split2 (l := seg) (by omega)
  have hqi : pre.length < qs.length := by omega
  have hpm : pre.length ≤ m := by omega
  have hqB : qs.length ≤ 4294967296 := by omega
  have hpB : pre.length ≤ 4294967296 := by omega
  have hwB : (pre ++ (lows ++ [u2, lo]) ++ ut :: post).length ≤ 4294967296 := by omega
  have hll : lows.length = lowv.length := by omega
  have hsl : (lowv ++ [v2, v1]).length = (lows ++ [u2, lo]).length := by simp [hll]
  have hpre := val_lt (l := pre) fun x hx => dw x (by simp [hx])
  have vws : val (pre ++ (lows ++ [u2, lo]) ++ ut :: post) = val pre + 4294967296 ^ pre.length * (val (lows ++ [u2, lo]) + ut * 4294967296 ^ (lows ++ [u2, lo]).length) + 4294967296 ^ pre.length * (4294967296 ^ n * 4294967296 * val post) := by
    rw [val_append, val_append, List.length_append, hseg, Nat.pow_add]
    exact lg3 _ _ _ _ _ _
  obtain ⟨W, hW⟩ : ∃ W, W = val (lows ++ [u2, lo]) + ut * 4294967296 ^ (lows ++ [u2, lo]).length := ⟨_, rfl⟩
  rw [← hW] at vws
  rw [Nat.pow_succ] at hlt' hU'
  have hpost : val post = 0 := lg1 (V := V) (N := 4294967296 ^ n) (P := 4294967296 ^ pre.length) (S := val pre + 4294967296 ^ pre.length * W) hVN (by rw [← vws]; exact hlt')
  rw [hpost, Nat.mul_zero, Nat.mul_zero, Nat.add_zero] at vws
  have hWV : W < V * 4294967296 := lg2 (P := 4294967296 ^ pre.length) (S := val pre) (by rw [← vws]; exact hlt')
  have hdig : W / V < 4294967296 := by rw [Nat.div_lt_iff_lt_mul hV0, Nat.mul_comm]; exact hWV
  refine round_ok (J0 := J0L m n U V) (μ0 := μ0L) (W := W) (V := V) hll dw dV hv1 hW vV.symm hWV hqi hwB hqB fun R hR dR vR => ?_
  have vnew : val (pre ++ R ++ 0 :: post) = val pre + 4294967296 ^ pre.length * (W % V) := by
    rw [val_append, val_append, vR]; simp [val, hpost]
  rw [wdec hpB]
  refine ⟨⟨pre.length, qs.set pre.length (W / V), pre ++ R ++ 0 :: post, rfl, hpm, rfl, rfl, (List.length_set ..).trans lq, (len3 (hR.trans hsl)).trans lw, fun x hx => ?_, fun x hx => ?_, ?_, ?_⟩, dec_lt _⟩
  · rcases List.mem_or_eq_of_mem_set hx with h | rfl
    · exact dq x h
    · exact hdig
  · simp only [List.mem_append, List.mem_cons] at hx
    rcases hx with (h | h) | rfl | h
    · exact dw x (by simp [h])
    · exact dR x h
    · decide
    · exact dw x (by simp [h])
  · rw [drop_set1 hqi, hU', vws, vnew]
    exact lg4
  · rw [vnew]
    exact lg5 hpre hV0
theorem J0_end {m n U V : Nat} (hV0 : 0 < V) {q u : List (List D)} {i : Int} (hJ : J0L m n U V q u i) (hi : decide (i ≥ 0) = false) : q = lim (padK m (U / V)) ∧ u = lim (padK (m + n) (U % V)) := by
  obtain ⟨j, qs, ws, rfl, hj, rfl, rfl, lq, lw, dq, dw, hU', hlt'⟩ := hJ
  have hj0 : j = 0 := by have := of_decide_eq_false hi; omega
  subst hj0
  rw [Nat.pow_zero, Nat.mul_one] at hU' hlt'
  simp only [List.drop_zero] at hU'
  have u1 : val qs = U / V ∧ val ws = U % V := by
    rw [hU']
    constructor
    · rw [Nat.mul_comm, Nat.mul_add_div hV0, Nat.div_eq_of_lt hlt', Nat.add_zero]
    · rw [Nat.mul_comm, Nat.mul_add_mod, Nat.mod_eq_of_lt hlt']
  exact ⟨by rw [← u1.1, ← lq, padK_of dq], by rw [← u1.2, ← lw, padK_of dw]⟩
theorem back_val {k x y : Nat} (hk : k ≤ 31) (x1 : x < 4294967296) (x2 : y < 4294967296) :
    bitsI .u32 (· ||| ·) (((x : Nat) : Int).fdiv (2 ^ (min (k : Int).toNat IntKind.u32.bits))) (IntKind.u32.wrap ((IntKind.u64.wrap ((IntKind.u64.wrap ((y : Nat) : Int)) * 2 ^ (min (32 : Int).toNat IntKind.u64.bits))).fdiv (2 ^ (min (k : Int).toNat IntKind.u64.bits)))) =
      ((x / 2 ^ k + (y * 2 ^ (32 - k)) % 4294967296 : Nat) : Int) := by
  have hpk : 0 < 2 ^ k := Nat.pow_pos (by decide)
  have h2 : x / 2 ^ k < 2 ^ (32 - k) := by
    rw [Nat.div_lt_iff_lt_mul hpk, ← Nat.pow_add, show 32 - k + k = 32 by omega]; exact x1
  have g2 := orC (k := 32 - k) (c := x / 2 ^ k) (x := y) (by omega) h2
  have g3 : (((y * 4294967296 : Nat) : Int)).fdiv (2 ^ (min (k : Int).toNat IntKind.u64.bits)) = ((y * 2 ^ (32 - k) : Nat) : Int) := by
    have hb : IntKind.u64.bits = 64 := rfl
    rw [hb, Int.toNat_natCast, Nat.min_eq_left (by omega), show ((2 : Int) ^ k) = ((2 ^ k : Nat) : Int) by simp]
    rw [Int.fdiv_eq_ediv_of_nonneg _ (by omega)]
    have : y * 4294967296 = y * 2 ^ (32 - k) * 2 ^ k := by rw [Nat.mul_assoc, ← Nat.pow_add, show 32 - k + k = 32 by omega]
    rw [this, ← Int.natCast_ediv, Nat.mul_div_cancel _ hpk]
  rw [u32_shr _ _ (by omega), wu64 (n := ((y : Nat) : Int)) (by omega) (by omega), shl32 x2, g3]
  have g4 : IntKind.u32.wrap ((y * 2 ^ (32 - k) : Nat) : Int) = (((y * 2 ^ (32 - k)) % 4294967296 : Nat) : Int) := by rw [wu32]; omega
  rw [g4, g2, Nat.add_comm]
def backP (v u q : List (List D)) (r : Int) (R : V → Heap → Prop) : Prop :=
  (∃ (J8 : (List (List D)) → Int → Prop) (μ8 : (List (List D)) → Int → Nat),
  J8 (List.replicate ((v.length : Int)).toNat [(dU (0 : Int))]) (0 : Int) ∧ ∀ (r7 : List (List D)) (t228 : Int), J8 r7 t228 →
    ((decide (t228 < (v.length : Int))) = true →
      ∃ (vx24 : Int) (vx25 : Int),
      (0 ≤ t228 ∧ t228 < (u.length : Int)) ∧
      (u[(t228).toNat]? = some [(dU vx24)]) ∧
      (0 ≤ r) ∧
      (0 ≤ (IntKind.i64.wrap (t228 + (1 : Int))) ∧ (IntKind.i64.wrap (t228 + (1 : Int))) < (u.length : Int)) ∧
      (u[((IntKind.i64.wrap (t228 + (1 : Int)))).toNat]? = some [(dU vx25)]) ∧
      (0 ≤ (32 : Int)) ∧
      (0 ≤ t228 ∧ t228 < (r7.length : Int)) ∧
      (J8 (r7.set (t228).toNat [(dU (bitsI .u32 (· ||| ·) (vx24.fdiv (2 ^ (min r.toNat IntKind.u32.bits))) (IntKind.u32.wrap ((IntKind.u64.wrap ((IntKind.u64.wrap vx25) * 2 ^ (min (32 : Int).toNat IntKind.u64.bits))).fdiv (2 ^ (min r.toNat IntKind.u64.bits))))))]) (IntKind.i64.wrap (t228 + (1 : Int))) ∧ μ8 (r7.set (t228).toNat [(dU (bitsI .u32 (· ||| ·) (vx24.fdiv (2 ^ (min r.toNat IntKind.u32.bits))) (IntKind.u32.wrap ((IntKind.u64.wrap ((IntKind.u64.wrap vx25) * 2 ^ (min (32 : Int).toNat IntKind.u64.bits))).fdiv (2 ^ (min r.toNat IntKind.u64.bits))))))]) (IntKind.i64.wrap (t228 + (1 : Int))) < μ8 r7 t228)) ∧
    ((decide (t228 < (v.length : Int))) = false →
      R (V.tup [(eD (dL q)), (eD (dL r7))]) []))
theorem shback_ok {us SR : List Nat} {n N k : Nat} {v : List (List D)} {q : List (List D)} {R : V → Heap → Prop} (hv : v.length = n) (lr : us.length = N) (hN : n + 1 ≤ N) (hNB : N ≤ 2147483648) (dr : ∀ x ∈ us, x < 4294967296) (hk31 : k ≤ 31)
    (hSRe : SR = shR k (us.take (n + 1))) (hR : R (V.tup [(eD (dL q)), (eD (dL (lim SR)))]) []) : backP v (lim us) q (k : Int) R := by
  have lt1 : (us.take (n + 1)).length = n + 1 := by rw [List.length_take]; omega
  have lSR : SR.length = n := by rw [hSRe, shR_len, lt1]; omega
  have hSR : ∀ c : Nat, c < n → ∀ x y, us[c]? = some x → us[c + 1]? = some y → SR[c]? = some (x / 2 ^ k + (y * 2 ^ (32 - k)) % 4294967296) := fun c hc x y hx hy => by
    rw [hSRe, shR_get k _ c (by omega)]
    simp only [List.getElem_take]
    rw [List.getElem?_eq_getElem (by omega), Option.some.injEq] at hx hy
    rw [hx, hy]
  clear hSRe lt1
  have lw' : (lim us).length = N := by rw [lim_length]; exact lr
  unfold backP
  rw [hv]
  refine ⟨fun r t => ∃ c : Nat, t = (c : Int) ∧ c ≤ n ∧ r = lim (SR.take c ++ List.replicate (SR.length - c) 0), fun _ t => ((n : Int) - t).toNat, ⟨0, rfl, by omega, ?_⟩, ?_⟩
  · rw [Int.toNat_natCast, lim_rep, lSR]; simp
  rintro _ _ ⟨c, rfl, hc, rfl⟩
  refine ⟨fun h => ?_, fun h => ?_⟩
  · have hc1 : c < n := by have := of_decide_eq_true h; omega
    have ec : IntKind.i64.wrap ((c : Int) + 1) = ((c + 1 : Nat) : Int) := by rw [w64 (by omega) (by omega)]; omega
    have x1 := dr _ (List.getElem_mem (l := us) (n := c) (by omega))
    have x2 := dr _ (List.getElem_mem (l := us) (n := c + 1) (by omega))
    have hx : us[c]? = some us[c] := List.getElem?_eq_getElem (by omega)
    have hy : us[c + 1]? = some us[c + 1] := List.getElem?_eq_getElem (by omega)
    have gx : (lim us)[c]? = some [dU ((us[c] : Nat) : Int)] := lim_get (by omega)
    have gy : (lim us)[c + 1]? = some [dU ((us[c + 1] : Nat) : Int)] := lim_get (by omega)
    generalize us[c] = x at *
    generalize us[c + 1] = y at *
    have g1 := hSR c hc1 x y hx hy
    have hval := back_val (k := k) hk31 x1 x2
    have hcS : c < SR.length := by omega
    rw [List.getElem?_eq_getElem hcS, Option.some.injEq] at g1
    rw [← g1] at hval
    have hl : (lim (SR.take c ++ List.replicate (SR.length - c) 0)).length = SR.length := by rw [lim_length, List.length_append, List.length_take, List.length_replicate]; omega
    refine ⟨(x : Int), (y : Int), ⟨by omega, by omega⟩, ?_, by omega, ?_, ?_, by decide, ⟨by omega, by omega⟩, ?_⟩
    · rw [Int.toNat_natCast]; exact gx
    · rw [ec]; omega
    · rw [ec, Int.toNat_natCast]; exact gy
    · rw [hval, ec, Int.toNat_natCast, lim_set, fill_set hcS]
      exact ⟨⟨c + 1, rfl, by omega, rfl⟩, by show ((n : Int) - ((c + 1 : Nat) : Int)).toNat < ((n : Int) - (c : Int)).toNat; omega⟩
  · have hc1 : c = n := by have := of_decide_eq_false h; omega
    subst hc1
    rw [← lSR, List.take_length, Nat.sub_self, List.replicate_zero, List.append_nil]
    exact hR
set_option maxRecDepth 100000 in
set_option maxHeartbeats 2000000 in
theorem long_ok {A D : Nat} (lA : (digs A).length ≤ 1073741823) (hn : 2 ≤ (digs D).length) (hle : D ≤ A) :
    ∃ ql rl : List Nat, (∀ z ∈ ql, z < 4294967296) ∧ (∀ z ∈ rl, z < 4294967296) ∧ ql.length ≤ 1073741824 ∧ rl.length ≤ 1073741824 ∧ val ql = A / D ∧ val rl = A % D ∧
      FnD prog 128 [vs (lim (digs A)), vs (lim (digs D))] (.tup [eD (dL (lim ql)), eD (dL (lim rl))]) [] := by
  have ba := digs_lt A
  have bb := digs_lt D
  have va := val_digs A
  have vb' := val_digs D
  have cb := digs_canon D
  have hlen : (digs D).length ≤ (digs A).length := by
    rcases Nat.lt_or_ge (digs A).length (digs D).length with h | h
    · have := val_lt_of_len ba cb h
      omega
    · exact h
  generalize digs A = a at *
  generalize digs D = b at *
  obtain ⟨bl, top, rfl⟩ : ∃ bl top, b = bl ++ [top] := ⟨b.dropLast, b.getLast (by intro h; subst h; simp at hn), (List.dropLast_concat_getLast _).symm⟩
  have htop0 : top ≠ 0 := cb top (by simp)
  have htopB : top < 4294967296 := bb top (by simp)
  have hbl : ∀ x ∈ bl, x < 4294967296 := fun x hx => bb x (by simp [hx])
  have hn1 : 1 ≤ bl.length := by simp at hn; omega
  obtain ⟨z1, z2⟩ := lz_top htop0 htopB
  have hble := blen_le (x := top) (k := 32) htopB
  have hbl1 : 1 ≤ blen top := by unfold blen; rw [if_neg htop0]; omega
  have hb2 := (blen_bounds htop0).2
  have hlz := lz32_ok htopB
  obtain ⟨k, hk⟩ : ∃ k, k = 32 - blen top := ⟨_, rfl⟩
  rw [← hk] at z1 z2 hlz
  have hk31 : k ≤ 31 := by omega
  have hpk : 0 < 2 ^ k := Nat.pow_pos (by decide)
  have hk2 : 2 ^ k ≤ 2147483648 := by have := Nat.pow_le_pow_right (n := 2) (by decide) hk31; simpa using this
  have htk : (top + 1) * 2 ^ k ≤ 4294967296 := by
    have h1 : (top + 1) * 2 ^ k ≤ 2 ^ blen top * 2 ^ k := Nat.mul_le_mul_right _ hb2
    rw [← Nat.pow_add, show blen top + k = 32 by omega] at h1
    simpa using h1
  have sA := shift_ok (l := a) (k := k) ba (by omega) hk31
  have sB := shift_ok (l := bl ++ [top]) (k := k) bb (by omega) hk31
  have lSA := shG_len k a 0
  have lSB := shG_len k (bl ++ [top]) 0
  have vSA := shG_val k a 0
  have vSB := shG_val k (bl ++ [top]) 0
  have dSA := shG_dig (k := k) (by omega) a 0 hpk ba
  have dSB := shG_dig (k := k) (by omega) (bl ++ [top]) 0 hpk bb
  rw [va, Nat.add_zero] at vSA
  rw [vb', Nat.add_zero] at vSB
  generalize shG k 0 a = SA at *
  generalize shG k 0 (bl ++ [top]) = SB at *
  have vD' : val bl + 4294967296 ^ bl.length * top = D := by rw [← vb', val_append]; simp [val]
  have hvbl := val_lt hbl
  have hn2 : (bl ++ [top]).length = bl.length + 1 := by simp
  rw [hn2] at hlen lSB hn
  have hSBs : SB = SB.take (bl.length + 1) ++ SB.drop (bl.length + 1) := (List.take_append_drop _ _).symm
  have lV : (SB.take (bl.length + 1)).length = bl.length + 1 := by rw [List.length_take]; omega
  have dV : ∀ x ∈ SB.take (bl.length + 1), x < 4294967296 := fun x hx => dSB x (List.mem_of_mem_take hx)
  have hDk : D * 2 ^ k < 4294967296 ^ bl.length * 4294967296 ∧ 2147483648 * 4294967296 ^ bl.length ≤ D * 2 ^ k := by
    generalize 4294967296 ^ bl.length = N at hvbl vD'
    constructor
    · have h1 : D + 1 ≤ N * (top + 1) := by rw [Nat.mul_add, Nat.mul_one]; omega
      have h2 : (D + 1) * 2 ^ k ≤ N * (top + 1) * 2 ^ k := Nat.mul_le_mul_right _ h1
      rw [Nat.mul_assoc] at h2
      have h3 : N * ((top + 1) * 2 ^ k) ≤ N * 4294967296 := Nat.mul_le_mul_left _ htk
      rw [Nat.add_mul D 1, Nat.one_mul] at h2
      omega
    · have h1 : N * top * 2 ^ k ≤ D * 2 ^ k := Nat.mul_le_mul_right _ (by omega)
      have h2 : N * 2147483648 ≤ N * (top * 2 ^ k) := Nat.mul_le_mul_left _ z1
      rw [Nat.mul_assoc] at h1
      omega
  obtain ⟨hDk1, hDk2⟩ := hDk
  have vV : val (SB.take (bl.length + 1)) = D * 2 ^ k := by
    have h1 := congrArg val hSBs
    rw [val_append, lV, vSB, Nat.pow_succ] at h1
    rcases Nat.eq_zero_or_pos (val (SB.drop (bl.length + 1))) with h0 | h0
    · rw [h0, Nat.mul_zero, Nat.add_zero] at h1; exact h1.symm
    · have : 4294967296 ^ bl.length * 4294967296 * 1 ≤ 4294967296 ^ bl.length * 4294967296 * val (SB.drop (bl.length + 1)) := Nat.mul_le_mul_left _ h0
      omega
  obtain ⟨VS, hVS⟩ : ∃ VS, VS = SB.take (bl.length + 1) := ⟨_, rfl⟩
  rw [← hVS] at vV lV dV
  obtain ⟨lowv, v2, v1, rfl, lowl⟩ := split2 (l := VS) (by omega)
  rw [lV] at lowl
  have hv1b : v1 < 4294967296 := dV v1 (by simp)
  have hv2b : v2 < 4294967296 := dV v2 (by simp)
  have hlowv := val_lt (l := lowv) fun x hx => dV x (by simp [hx])
  have ebl : bl.length = lowv.length + 1 := by omega
  have hv1 : 2147483648 ≤ v1 := by
    rw [val_two] at vV
    rw [ebl, Nat.pow_succ] at hDk2
    rw [← vV] at hDk2
    generalize 4294967296 ^ lowv.length = P at *
    apply Classical.byContradiction
    intro hc
    have h1 : P * (v2 + 4294967296 * v1 + 1) ≤ P * (4294967296 * 2147483648) := Nat.mul_le_mul_left _ (by omega)
    rw [Nat.mul_add P _ 1, Nat.mul_one] at h1
    omega
  obtain ⟨V, hV⟩ : ∃ V, V = D * 2 ^ k := ⟨_, rfl⟩
  rw [← hV] at vV hDk1 hDk2
  have hV0 : 0 < V := by
    have : 0 < 4294967296 ^ bl.length := Nat.pow_pos (by decide)
    omega
  obtain ⟨m, hm⟩ : ∃ m, a.length = bl.length + m := ⟨a.length - bl.length, by omega⟩
  have hm1 : 1 ≤ m := by omega
  obtain ⟨U, hU⟩ : ∃ U, U = A * 2 ^ k := ⟨_, rfl⟩
  have hA := val_lt ba
  rw [va, hm] at hA
  have hUlt : U < V * 4294967296 ^ m := by
    rw [Nat.pow_add] at hA
    have h1 : A * 2 ^ k < 4294967296 ^ bl.length * 4294967296 ^ m * 2 ^ k := Nat.mul_lt_mul_of_pos_right hA hpk
    have h2 : 4294967296 ^ bl.length * 4294967296 ^ m * 2 ^ k ≤ 4294967296 ^ bl.length * 4294967296 ^ m * 2147483648 := Nat.mul_le_mul_left _ hk2
    have h3 : 2147483648 * 4294967296 ^ bl.length * 4294967296 ^ m ≤ V * 4294967296 ^ m := Nat.mul_le_mul_right _ hDk2
    rw [Nat.mul_comm _ 2147483648, ← Nat.mul_assoc] at h2
    omega
  have hdiv : U / V = A / D := by rw [hU, hV]; exact Nat.mul_div_mul_right _ _ hpk
  have hmod : U % V = A % D * 2 ^ k := by rw [hU, hV]; exact Nat.mul_mod_mul_right _ _ _
  have hD0 : 0 < D := by
    rcases Nat.eq_zero_or_pos D with h | h
    · rw [h, Nat.zero_mul] at hV; omega
    · exact h
  have hXV : U % V < V := Nat.mod_lt _ hV0
  have hXn : U % V < 4294967296 ^ bl.length * 4294967296 := by omega
  have hq : val (padK m (U / V)) = U / V := padK_val _ _ (by rw [Nat.div_lt_iff_lt_mul hV0, Nat.mul_comm]; exact hUlt)
  have hle2 : 4294967296 ^ bl.length * 4294967296 ≤ 4294967296 ^ (m + (bl.length + 1)) := by rw [← Nat.pow_succ]; exact Nat.pow_le_pow_right (by decide) (by omega)
  have hr := padK_val (m + (bl.length + 1)) (U % V) (by omega)
  have lr := padK_len (m + (bl.length + 1)) (U % V)
  have dr := padK_lt (m + (bl.length + 1)) (U % V)
  obtain ⟨us, hus⟩ : ∃ us, us = padK (m + (bl.length + 1)) (U % V) := ⟨_, rfl⟩
  rw [← hus] at hr lr dr
  have lt1 : (us.take (bl.length + 2)).length = bl.length + 2 := by rw [List.length_take]; omega
  have dt1 : ∀ x ∈ us.take (bl.length + 2), x < 4294967296 := fun x hx => dr x (List.mem_of_mem_take hx)
  have vtake : ∀ j, bl.length + 1 ≤ j → j ≤ us.length → val (us.take j) = U % V := fun j h1 h2 => by
    have h3 := congrArg val (List.take_append_drop j us)
    rw [val_append, hr, List.length_take, Nat.min_eq_left h2] at h3
    rcases Nat.eq_zero_or_pos (val (us.drop j)) with h0 | h0
    · rw [h0, Nat.mul_zero, Nat.add_zero] at h3; exact h3
    · have h4 : 4294967296 ^ (bl.length + 1) ≤ 4294967296 ^ j := Nat.pow_le_pow_right (by decide) h1
      rw [Nat.pow_succ] at h4
      have : 4294967296 ^ j * 1 ≤ 4294967296 ^ j * val (us.drop j) := Nat.mul_le_mul_left _ h0
      omega
  have hrv : val (shR k (us.take (bl.length + 2))) = A % D := by
    obtain ⟨x, l, hxl⟩ : ∃ x l, us.take (bl.length + 2) = x :: l := by
      cases h : us.take (bl.length + 2) with
      | nil => rw [h] at lt1; simp at lt1
      | cons x l => exact ⟨x, l, rfl⟩
    have h1 := shR_val (k := k) (by omega) l x
    have h2 : (x :: l).getLast (by simp) = 0 := by
      have e1 := vtake (bl.length + 1) (by omega) (by omega)
      have e2 := vtake (bl.length + 2) (by omega) (by omega)
      have e3 : us.take (bl.length + 2) = us.take (bl.length + 1) ++ [(x :: l).getLast (by simp)] := by
        have g1 : us.take (bl.length + 1) = (x :: l).dropLast := by
          rw [← hxl, List.dropLast_eq_take, List.take_take, lt1]; congr 1; omega
        rw [g1, List.dropLast_concat_getLast, hxl]
      rw [e3, val_append, e1] at e2
      simp only [val, Nat.mul_zero, Nat.add_zero] at e2
      have g2 : 0 < 4294967296 ^ (us.take (bl.length + 1)).length := Nat.pow_pos (by decide)
      have g3 : 4294967296 ^ (us.take (bl.length + 1)).length * (x :: l).getLast (by simp) = 0 := by omega
      rcases Nat.mul_eq_zero.1 g3 with h | h
      · omega
      · exact h
    rw [h2, Nat.zero_div, Nat.mul_zero, Nat.add_zero, ← hxl, vtake _ (by omega) (by omega), hmod, Nat.mul_div_cancel _ hpk] at h1
    exact h1
  refine ⟨padK m (U / V), shR k (us.take (bl.length + 2)), padK_lt _ _, shR_lt (by omega) dt1, by rw [padK_len]; omega, by rw [shR_len, lt1]; omega, by rw [hq, hdiv], hrv, ?_⟩
  refine vc128_ok _ _ (R := Out _) ?_
  unfold vc128
  have e0 : (lim (bl ++ [top])).length = bl.length + 1 := by rw [lim_length]; simp
  have ev : (lim SB).take (((lim (bl ++ [top])).length : Int)).toNat = lim (lowv ++ [v2, v1]) := by rw [e0, Int.toNat_natCast, lim_take, hVS]
  have ei : IntKind.i64.wrap (((lim (bl ++ [top])).length : Int) - 1) = (bl.length : Int) := by rw [e0, w64 (by omega) (by omega)]; omega
  have lv : (lim (lowv ++ [v2, v1])).length = bl.length + 1 := by rw [lim_length]; omega
  have lSA' : (lim SA).length = m + (bl.length + 1) := by rw [lim_length]; omega
  have lSB' : (lim SB).length = bl.length + 2 := by rw [lim_length]; omega
  have em : IntKind.i64.wrap (((lim SA).length : Int) - ((lim (lowv ++ [v2, v1])).length : Int)) = (m : Int) := by rw [lSA', lv, w64 (by omega) (by omega)]; omega
  refine ⟨(top : Int), (k : Int), ?_, ?_, hlz, lim SA, lim SB, sA, sB, ?_⟩
  · rw [ei, e0]; omega
  · rw [ei, Int.toNat_natCast]; exact lim_mid bl [] top
  rw [ev]
  refine ⟨?_, ?_, J0L m (bl.length + 1) U V, μ0L, ?_, fun q u i hJ => ⟨fun h => ?_, fun h => ?_⟩⟩
  · rw [e0, lSB']; omega
  · rw [em]; omega
  · rw [em]
    refine ⟨m, List.replicate m 0, SA, ?_, Nat.le_refl _, ?_, rfl, by simp, by omega, fun x hx => by rw [List.eq_of_mem_replicate hx]; decide, dSA, ?_, ?_⟩
    · rw [w64 (by omega) (by omega)]
    · rw [Int.toNat_natCast]; exact lim_rep m
    · rw [vSA, ← hU, List.drop_of_length_le (by simp)]; simp [val]
    · rw [vSA, ← hU]; exact hUlt
  · exact J0_round (by omega) lowl dV hv1 vV (by rw [Nat.pow_succ]; omega) hV0 hJ h
  · obtain ⟨rfl, rfl⟩ := J0_end hV0 hJ h
    rw [← hus]
    exact ⟨by rw [lv]; omega, shback_ok lv lr (by omega) (by omega) dr hk31 rfl ⟨rfl, rfl⟩⟩
theorem idivmod_ok {x y : Int} {L : Nat} (hy : y ≠ 0) (hx : x.natAbs * 4294967296 < 4294967296 ^ L) (hy2 : y.natAbs * 4294967296 < 4294967296 ^ L) (hL : L ≤ 1073741824) :
    FnD prog 96 [eI x, eI y] (.tup [ei (x / y), ei (x % y), eD (dI 0)]) [] := by
  have len : ∀ {z : Int}, z.natAbs * 4294967296 < 4294967296 ^ L → (digs z.natAbs).length ≤ 1073741823 := fun {z} h => by
    obtain ⟨M, rfl⟩ : ∃ M, L = M + 1 := ⟨L - 1, by
      rcases Nat.eq_zero_or_pos L with h0 | h0
      · subst h0
        have h1 : y.natAbs * 4294967296 < 1 := by simpa using hy2
        omega
      · omega⟩
    rw [Nat.pow_succ] at h
    have := digs_len (n := z.natAbs) (k := M) (Nat.lt_of_mul_lt_mul_right h)
    omega
  obtain ⟨ql, rl, h1, h2, h3, h4, h5, h6, h7⟩ := divide_of (A := x.natAbs) (D := y.natAbs) (by omega) (len hx) (len hy2) (fun a b => long_ok (len hx) a b)
  exact divmod_of hy hx hy2 hL h7 h1 h2 h3 h4 h5 h6
end Go.AM
