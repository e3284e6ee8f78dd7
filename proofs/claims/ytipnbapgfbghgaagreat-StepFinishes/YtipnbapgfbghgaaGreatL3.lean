/- From what a row's step is handed to what the machine reads: inputs of any form that is made of bools, integers, slices, structs and arrays. -/
import Derived.Test.YtipnbapgfbghgaaGreatL2
import Derived.ChangeSlices
import Derived.OpenShut
import Derived.RowKit
import Derived.WideShapes
namespace Go.AM
open Go.ChangeShapes Go.WideShapes Go.RowKit
inductive Sp where
  | b
  | i (k : IntKind)
  | sl (e : List Sp)
mutual
def DOK : Sp → D → Prop
  | .b, .bool _ => True
  | .i k, .int k' n => k' = k ∧ k.min ≤ n ∧ n ≤ k.max
  | .sl es, .sl l => l.length ≤ 9223372036854775807 ∧ ∀ x ∈ l, DOKL es x
  | _, _ => False
def DOKL : List Sp → List D → Prop
  | [], [] => True
  | s :: ss, d :: ds => DOK s d ∧ DOKL ss ds
  | _, _ => False
end
def exD : Sp → (D → Prop) → Prop
  | .b, K => ∃ b, K (.bool b)
  | .i k, K => ∃ n, (k.min ≤ n ∧ n ≤ k.max) ∧ K (.int k n)
  | .sl es, K => ∃ l, (l.length ≤ 9223372036854775807 ∧ ∀ x ∈ l, DOKL es x) ∧ K (.sl l)
def exDL : List Sp → (List D → Prop) → Prop
  | [], K => K []
  | s :: ss, K => exD s fun d => exDL ss fun ds => K (d :: ds)
theorem exD_of {s : Sp} {d : D} (h : DOK s d) {K : D → Prop} (hk : K d) : exD s K := by
  cases s <;> cases d <;> simp only [DOK] at h <;> first | exact h.elim | skip
  · exact ⟨_, hk⟩
  · obtain ⟨rfl, h1, h2⟩ := h; exact ⟨_, ⟨h1, h2⟩, hk⟩
  · exact ⟨_, h, hk⟩
theorem exDL_of : ∀ {ss : List Sp} {ds : List D}, DOKL ss ds → ∀ {K : List D → Prop}, K ds → exDL ss K
  | [], [], _, _, hk => hk
  | [], _ :: _, h, _, _ => by simp [DOKL] at h
  | _ :: _, [], h, _, _ => by simp [DOKL] at h
  | s :: ss, d :: ds, h, K, hk => by
    simp only [DOKL] at h
    exact exD_of h.1 (exDL_of h.2 hk)
theorem DOKL_append : ∀ {s1 s2 : List Sp} {d1 d2 : List D}, DOKL s1 d1 → DOKL s2 d2 → DOKL (s1 ++ s2) (d1 ++ d2)
  | [], _, [], _, _, h => h
  | [], _, _ :: _, _, h, _ => by simp [DOKL] at h
  | _ :: _, _, [], _, h, _ => by simp [DOKL] at h
  | s :: ss, _, d :: ds, _, h1, h2 => by
    simp only [DOKL] at h1
    simp only [List.cons_append, DOKL]
    exact ⟨h1.1, DOKL_append h1.2 h2⟩
theorem DOKL_length : ∀ {ss : List Sp} {ds : List D}, DOKL ss ds → ds.length = ss.length
  | [], [], _ => rfl
  | [], _ :: _, h => by simp [DOKL] at h
  | _ :: _, [], h => by simp [DOKL] at h
  | s :: ss, d :: ds, h => by simp only [DOKL] at h; simp [DOKL_length h.2]
theorem ints_of {k : IntKind} : ∀ {l : DL}, (∀ x ∈ l, DOKL [.i k] x) → ∃ zs : List Int, l = zs.map (fun n => [D.int k n]) ∧ ∀ z ∈ zs, k.min ≤ z ∧ z ≤ k.max
  | [], _ => ⟨[], rfl, fun _ h => by simp at h⟩
  | x :: l, h => by
    obtain ⟨zs, rfl, h2⟩ := ints_of (l := l) fun y hy => h y (by simp [hy])
    obtain ⟨n, h3, hx⟩ := exDL_of (h x (by simp)) (K := fun ds => x = ds) rfl
    exact ⟨n :: zs, by rw [hx]; rfl, fun z hz => by
      rcases List.mem_cons.1 hz with rfl | hz
      · exact h3
      · exact h2 z hz⟩
def shapeFs (sh : TypeId → Option (List Sp)) (P : Program) : List Field → Nat → Option (List Sp)
  | [], _ => some []
  | f :: fs, off =>
    match sh f.type with
    | some s => if f.offset == off && P.cellsOf f.type == s.length then (shapeFs sh P fs (off + s.length)).map (s ++ ·) else none
    | none => none
def shapeOf (P : Program) : Nat → TypeId → Option (List Sp)
  | 0, _ => none
  | n + 1, t =>
    match P.underlying t with
    | some .bool => some [.b]
    | some (.int k) => some [.i k]
    | some (.slice e) => match shapeOf P n e with
      | some es => if P.cellsOf e == es.length && !es.isEmpty then some [.sl es] else none
      | none => none
    | some (.struct fs) => match shapeFs (shapeOf P n) P fs.toList 0 with
      | some ss => if P.cellsOf t == ss.length then some ss else none
      | none => none
    | some (.array m e) => match shapeOf P n e with
      | some es => if P.cellsOf e == es.length && P.cellsOf t == m * es.length then some (List.replicate m es).flatten else none
      | none => none
    | _ => none
theorem cell_some' {w : World} {a : Addr} {v : Value} (h : w.cell? a = some v) : a.spot = none ∧ ∃ cs t fr, w.heap[a.block]? = some (.cells cs t fr) ∧ cs[a.off]? = some v := by
  unfold World.cell? at h
  split at h
  · rename_i cs t fr hb
    cases hs : a.spot with
    | none => rw [hs] at h; exact ⟨rfl, cs, t, fr, hb, by simpa using h⟩
    | some x => rw [hs] at h; simp at h
  · simp at h
def oldI (w : World) : Nat → Prop := fun b => b < w.heap.size
def RdL (w : World) (cs : List Value) (ds : List D) : Prop := cs.length = ds.length ∧ ∀ (i : Nat) v d, cs[i]? = some v → ds[i]? = some d → Reads w (oldI w) v d
theorem RdL.append {w : World} {c1 c2 : List Value} {d1 d2 : List D} (h1 : RdL w c1 d1) (h2 : RdL w c2 d2) : RdL w (c1 ++ c2) (d1 ++ d2) := by
  refine ⟨by simp [h1.1, h2.1], fun i v d hv hd => ?_⟩
  by_cases hi : i < c1.length
  · rw [List.getElem?_append_left hi] at hv
    rw [List.getElem?_append_left (h1.1 ▸ hi)] at hd
    exact h1.2 i v d hv hd
  · rw [List.getElem?_append_right (by omega)] at hv
    rw [List.getElem?_append_right (by have := h1.1; omega)] at hd
    exact h2.2 _ v d hv (h1.1 ▸ hd)
section
variable {H : Type} {enc : TypeId × Value → H} {P : Program} {w : World} {spare : Nat → Bool} {held : Bool}
theorem fields_read {sh : TypeId → Option (List Sp)} {n : Nat} (ih : ∀ t ss cs x, sh t = some ss → DataW.trod enc P w 0 spare held n t cs = some x → ∃ ds, DOKL ss ds ∧ RdL w cs ds) {cs : List Value} :
    ∀ (fs : List Field) (xs : List (DataW H × List MemPlace)) (off : Nat) (ss : List Sp), shapeFs sh P fs off = some ss → xs.length = fs.length →
      (∀ (i : Nat) (f : Field), fs[i]? = some f → DataW.trod enc P w 0 spare held n f.type ((cs.drop f.offset).take (P.cellsOf f.type)) = xs[i]?) → off + ss.length ≤ cs.length →
      ∃ ds, DOKL ss ds ∧ RdL w ((cs.drop off).take ss.length) ds
  | [], xs, off, ss, hs, _, _, _ => by
    simp only [shapeFs, Option.some.injEq] at hs; subst hs
    exact ⟨[], trivial, by simp [RdL]⟩
  | f :: fs, xs, off, ss, hs, hl, hx, hle => by
    simp only [shapeFs] at hs
    split at hs
    case h_2 => simp at hs
    rename_i s hsf
    split at hs
    case isFalse => simp at hs
    rename_i hc
    simp only [Bool.and_eq_true, beq_iff_eq] at hc
    simp only [Option.map_eq_some_iff] at hs
    obtain ⟨ss', hs', rfl⟩ := hs
    match xs, hl with
    | x :: xs, hl =>
      have h0 := hx 0 f rfl
      simp only [List.getElem?_cons_zero] at h0
      obtain ⟨d1, g1, g2⟩ := ih _ _ _ _ hsf h0
      rw [List.length_append] at hle
      obtain ⟨d2, g3, g4⟩ := fields_read ih fs xs (off + s.length) ss' hs' (by simpa using hl) (fun i f' hf => by simpa using hx (i + 1) f' (by simpa using hf)) (by omega)
      refine ⟨d1 ++ d2, DOKL_append g1 g3, ?_⟩
      rw [hc.1, hc.2] at g2
      have : (cs.drop off).take (s ++ ss').length = (cs.drop off).take s.length ++ (cs.drop (off + s.length)).take ss'.length := by
        rw [List.length_append, List.take_add, List.drop_drop]
      rw [this]
      exact g2.append g4
theorem array_read {n : Nat} {e : TypeId} {es : List Sp} (ih : ∀ cs x, DataW.trod enc P w 0 spare held n e cs = some x → ∃ ds, DOKL es ds ∧ RdL w cs ds) {cs : List Value} {xs : List (DataW H × List MemPlace)} :
    ∀ (k m : Nat), k + m ≤ xs.length → (∀ i, i < xs.length → DataW.trod enc P w 0 spare held n e ((cs.drop (i * es.length)).take es.length) = xs[i]?) → (k + m) * es.length ≤ cs.length →
      ∃ ds, DOKL (List.replicate k es).flatten ds ∧ RdL w ((cs.drop (m * es.length)).take (k * es.length)) ds
  | 0, m, _, _, _ => ⟨[], by simp [DOKL], by simp [RdL]⟩
  | k + 1, m, hk, hx, hle => by
    have h0 := hx m (by omega)
    rw [List.getElem?_eq_getElem (by omega)] at h0
    obtain ⟨d1, g1, g2⟩ := ih _ _ h0
    obtain ⟨d2, g3, g4⟩ := array_read ih k (m + 1) (by omega) hx (by rw [show k + (m + 1) = k + 1 + m by omega]; exact hle)
    refine ⟨d1 ++ d2, ?_, ?_⟩
    · rw [List.replicate_succ, List.flatten_cons]; exact DOKL_append g1 g3
    · have : (cs.drop (m * es.length)).take ((k + 1) * es.length) = (cs.drop (m * es.length)).take es.length ++ (cs.drop ((m + 1) * es.length)).take (k * es.length) := by
        rw [show (k + 1) * es.length = es.length + k * es.length by rw [Nat.add_mul]; omega, List.take_add, List.drop_drop, show m * es.length + es.length = (m + 1) * es.length by rw [Nat.add_mul]; omega]
      rw [this]
      exact g2.append g4
theorem shape_reads : ∀ (fuel n : Nat) (t : TypeId) (ss : List Sp) (cs : List Value) (x : DataW H × List MemPlace), shapeOf P n t = some ss → DataW.trod enc P w 0 spare held fuel t cs = some x →
    ∃ ds, DOKL ss ds ∧ RdL w cs ds := by
  intro fuel
  induction fuel with
  | zero => intro n t ss cs x _ h; simp [DataW.trod] at h
  | succ fuel ih =>
    intro n t ss cs x hs h
    cases n with
    | zero => simp [shapeOf] at hs
    | succ n =>
      simp only [shapeOf] at hs
      have one : ∀ {v : Value} {d : D} {s : Sp}, DOK s d → Reads w (oldI w) v d → ∃ ds, DOKL [s] ds ∧ RdL w [v] ds := fun {v d s} h1 h2 =>
        ⟨[d], ⟨h1, trivial⟩, rfl, fun i u e hu he => by
          match i, hu, he with
          | 0, hu, he => simp at hu he; subst hu; subst he; exact h2⟩
      split at hs
      · rename_i ht
        simp only [Option.some.injEq] at hs; subst hs
        obtain ⟨b, rfl, _⟩ := DataW.trod_bool ht h
        exact one (d := .bool b) trivial (.bool b)
      · rename_i k ht
        simp only [Option.some.injEq] at hs; subst hs
        obtain ⟨m, rfl, _, hw⟩ := DataW.trod_int ht h
        exact one (d := .int k m) ⟨rfl, by simpa [Lit.wf] using hw⟩ (.int k m)
      · rename_i e ht
        split at hs
        case h_2 => simp at hs
        rename_i es hes
        split at hs
        case isFalse => simp at hs
        rename_i hc
        simp only [Option.some.injEq] at hs; subst hs
        simp only [Bool.and_eq_true, beq_iff_eq, Bool.not_eq_true', List.isEmpty_eq_false_iff] at hc
        obtain ⟨hce, hne⟩ := hc
        have hpos : 0 < es.length := List.length_pos_iff.2 hne
        rcases DataW.trod_slice ht h with ⟨rfl, _⟩ | ⟨a, len, cap, elems, rest, m, hm, rfl, _, _, hl, hcap, hel, heach, _, _⟩
        · exact one (d := .sl []) ⟨by simp, fun _ h => by simp at h⟩ (.slnil none 0)
        simp only [Nat.add_right_cancel_iff] at hm; subst hm
        have each : ∀ i, i < len → ∃ ds, DOKL es ds ∧ ∀ j d, ds[j]? = some d → ∃ v, w.cell? ((a.add (i * es.length)).add j) = some v ∧ Reads w (oldI w) v d := fun i hi => by
          have h1 := heach i hi
          rw [List.getElem?_eq_getElem (by omega), Option.bind_eq_some_iff] at h1
          obtain ⟨cs', hcs, hy⟩ := h1
          obtain ⟨ds, g1, g2, g3⟩ := ih n e es cs' _ hes hy
          obtain ⟨_, k2, k3⟩ := World.cells?_some hcs
          refine ⟨ds, g1, fun j d hd => ?_⟩
          have hj : j < cs'.length := by
            rw [g2]
            rcases Nat.lt_or_ge j ds.length with h | h
            · exact h
            · rw [List.getElem?_eq_none h] at hd; simp at hd
          have := k3 j (by omega)
          rw [List.getElem?_eq_getElem hj, hce] at this
          exact ⟨_, this, g3 j _ d (List.getElem?_eq_getElem hj) hd⟩
        by_cases h0 : len = 0
        · subst h0; exact one (d := .sl []) ⟨by simp, fun _ h => by simp at h⟩ (.slnil _ _)
        have hch : ∃ f : Nat → List D, ∀ i, i < len → DOKL es (f i) ∧ ∀ j d, (f i)[j]? = some d → ∃ v, w.cell? ((a.add (i * es.length)).add j) = some v ∧ Reads w (oldI w) v d :=
          ⟨fun i => if hi : i < len then (each i hi).choose else [], fun i hi => by
            simp only [dif_pos hi]; exact (each i hi).choose_spec⟩
        obtain ⟨f, hf⟩ := hch
        have hcell : ∀ i j d, i < len → (f i)[j]? = some d → ∃ b off cs ty fr, a = ⟨b, off, none⟩ ∧ w.heap[b]? = some (.cells cs ty fr) ∧ ∃ v, cs[off + i * es.length + j]? = some v ∧ Reads w (oldI w) v d := fun i j d hi hd => by
          obtain ⟨v, hv, hr⟩ := (hf i hi).2 j d hd
          have h00 : ∃ v, w.cell? a = some v := by
            have hl0 := DOKL_length (hf 0 (by omega)).1
            obtain ⟨v, hv, _⟩ := (hf 0 (by omega)).2 0 ((f 0)[0]'(by omega)) (List.getElem?_eq_getElem (by omega))
            exact ⟨v, by simpa [Addr.add] using hv⟩
          obtain ⟨v0, hv0⟩ := h00
          obtain ⟨hsp, cs, ty, fr, hb, _⟩ := cell_some' hv0
          obtain ⟨b, off, spot⟩ := a
          simp only at hsp hb
          subst hsp
          refine ⟨b, off, cs, ty, fr, rfl, hb, v, ?_, hr⟩
          rw [show ((Addr.mk b off none).add (i * es.length)).add j = ⟨b, off + i * es.length + j, none⟩ by
            unfold Addr.add; by_cases h1 : i * es.length = 0 <;> by_cases h2 : j = 0 <;> simp [h1, h2]] at hv
          obtain ⟨_, cs', ty', fr', hb', hc'⟩ := cell_some' hv
          simp only at hb' hc'
          rw [hb] at hb'
          simp only [Option.some.injEq, Obj.cells.injEq] at hb'
          rw [hb'.1]; exact hc'
        have h0d := DOKL_length (hf 0 (by omega)).1
        obtain ⟨b, off, cs, ty, fr, ha, hb, _⟩ := hcell 0 0 ((f 0)[0]'(by omega)) (by omega) (List.getElem?_eq_getElem (by omega))
        subst ha
        have hlt : b < w.heap.size := by
          rcases Nat.lt_or_ge b w.heap.size with h | h
          · exact h
          · rw [Array.getElem?_eq_none h] at hb; simp at hb
        have hat : ∀ i j d, at2 ((List.range len).map f) i j = some d → i < len ∧ (f i)[j]? = some d := fun i j d hd => by
          simp only [at2, List.getElem?_map, Option.bind_eq_some_iff, Option.map_eq_some_iff] at hd
          obtain ⟨y, ⟨k, hk, rfl⟩, hd⟩ := hd
          have hkl : k = i ∧ i < len := by
            rcases Nat.lt_or_ge i len with h | h
            · rw [List.getElem?_range h, Option.some.injEq] at hk; exact ⟨hk.symm, h⟩
            · rw [List.getElem?_eq_none (by simpa using h)] at hk; simp at hk
          obtain ⟨rfl, hil⟩ := hkl
          exact ⟨hil, hd⟩
        have hval : ∀ i j d, i < len → (f i)[j]? = some d → ∃ v, cs[off + i * es.length + j]? = some v ∧ Reads w (oldI w) v d := fun i j d hi hd => by
          obtain ⟨b', off', cs', ty', fr', ha', hb', v, hv, hr⟩ := hcell i j d hi hd
          simp only [Addr.mk.injEq] at ha'
          obtain ⟨rfl, rfl, _⟩ := ha'
          rw [hb] at hb'
          simp only [Option.some.injEq, Obj.cells.injEq] at hb'
          exact ⟨v, by rw [hb'.1]; exact hv, hr⟩
        have hlen : ((List.range len).map f).length = len := by simp
        refine one (d := .sl ((List.range len).map f)) ⟨by rw [hlen]; unfold maxLen at hcap; omega, fun y hy => ?_⟩ ?_
        · simp only [List.mem_map, List.mem_range] at hy
          obtain ⟨i, hi, rfl⟩ := hy
          exact (hf i hi).1
        · have := Reads.sl (w := w) (I := oldI w) (b := b) (off := off) (cap := cap) (s := es.length) (cs := cs) (t := ty) (fr := fr) ((List.range len).map f) (fun i j => (cs[off + i * es.length + j]?).getD undef) hlt hb (fun y hy => by
            simp only [List.mem_map, List.mem_range] at hy
            obtain ⟨i, hi, rfl⟩ := hy
            exact DOKL_length (hf i hi).1) (by rw [hlen]; exact hl) (fun i j d hd => by
              obtain ⟨hi, hd'⟩ := hat i j d hd
              obtain ⟨v, hv, _⟩ := hval i j d hi hd'
              rw [hv]; rfl) (fun i j d hd => by
              obtain ⟨hi, hd'⟩ := hat i j d hd
              obtain ⟨v, hv, hr⟩ := hval i j d hi hd'
              rw [hv]; exact hr)
          rw [hlen] at this; exact this
      · rename_i fs ht
        split at hs
        case h_2 => simp at hs
        rename_i ss' hss
        split at hs
        case isFalse => simp at hs
        rename_i hc
        simp only [Option.some.injEq] at hs; subst hs
        simp only [beq_iff_eq] at hc
        obtain ⟨xs, m, hm, _, hl, hxl, hf⟩ := DataW.trod_struct ht h
        simp only [Nat.add_right_cancel_iff] at hm; subst hm
        obtain ⟨ds, g1, g2⟩ := fields_read (fun t ss cs x => ih n t ss cs x) (cs := cs) fs.toList xs 0 ss' hss (by simpa using hxl) (fun i f hi => hf i f (by simpa using hi)) (by omega)
        rw [List.drop_zero, ← hc, ← hl, List.take_length] at g2
        exact ⟨ds, g1, g2⟩
      · rename_i m e ht
        split at hs
        case h_2 => simp at hs
        rename_i es hes
        split at hs
        case isFalse => simp at hs
        rename_i hc
        simp only [Option.some.injEq] at hs; subst hs
        simp only [Bool.and_eq_true, beq_iff_eq] at hc
        obtain ⟨xs, q, hq, _, hl, hxl, hf⟩ := DataW.trod_array ht h
        simp only [Nat.add_right_cancel_iff] at hq; subst hq
        obtain ⟨ds, g1, g2⟩ := array_read (fun cs x => ih n e es cs x hes) (cs := cs) (xs := xs) m 0 (by omega) (fun i hi => by have := hf i (by omega); rwa [hc.1] at this) (by rw [Nat.add_zero, ← hc.2, hl]; exact Nat.le_refl _)
        rw [Nat.zero_mul, List.drop_zero, ← hc.2, ← hl, List.take_length] at g2
        exact ⟨ds, g1, g2⟩
      · simp at hs
def aggT (P : Program) (t : TypeId) : Bool :=
  match P.underlying t with
  | some (.struct _) | some (.array _ _) => true
  | _ => false
def argOf (b : Bool) (ds : List D) : V := bif b then .e (.agg (ds.map .dat)) else .e (.sc (.dat (ds.headD default)))
theorem open_arg {n : Nat} {t : TypeId} {b : Bool} {ss : List Sp} (hs : shapeOf P n t = some ss) (ha : aggT P t = b) (h1 : ss.length = 1 ∨ b = true) {base : Nat} {v : Value} (hok : Value.okWide P w .any base t v) {d : DataW H} {p : List MemPlace} (h : DataW.Trod enc P w 0 spare held t v d p) :
    exDL ss fun ds => RelV w (oldI w) [] v (argOf b ds) := by
  obtain ⟨fuel, hf⟩ := h
  obtain ⟨ds, g1, g2, g3⟩ := shape_reads fuel n t ss _ _ hs hf
  refine exDL_of g1 ?_
  unfold aggT at ha
  have agg : ∀ {cs : Array Value}, v = .agg cs → b = true → RelV w (oldI w) [] v (argOf b ds) := fun {cs} hv hb => by
    subst hv; subst hb
    refine ⟨cs, rfl, by simpa [Value.cells] using g2, fun i u s hu hs => ?_⟩
    simp only [List.getElem?_map, Option.map_eq_some_iff] at hs
    obtain ⟨d, hd, rfl⟩ := hs
    exact g3 i u d (by simpa [Value.cells] using hu) hd
  split at ha
  · rename_i fs ht
    obtain ⟨cs, hv, _⟩ := okWide_struct ht hok
    exact agg hv ha.symm
  · rename_i m e ht
    unfold Value.okWide at hok
    rw [ht] at hok
    obtain ⟨cs, hv, _⟩ := hok
    exact agg hv ha.symm
  · rename_i hn1 hn2
    subst ha
    have hl : ds.length = 1 := by rw [DOKL_length g1]; rcases h1 with h | h; exact h; simp at h
    have hv : v.cells.toList = [v] := by
      cases n with
      | zero => simp [shapeOf] at hs
      | succ n =>
        simp only [shapeOf] at hs
        split at hs
        · rename_i ht; obtain ⟨_, rfl⟩ := okWide_bool ht hok; rfl
        · rename_i ht; obtain ⟨_, rfl⟩ := okWide_int ht hok; rfl
        · rename_i ht; obtain ⟨_, _, _, rfl⟩ := okWide_slice ht hok; rfl
        · rename_i ht; exact (hn1 _ ht).elim
        · rename_i ht; exact (hn2 _ _ ht).elim
        · simp at hs
    match ds, hl with
    | [d], _ => exact g3 0 v d (by rw [hv]; rfl) rfl
end
theorem sim_old (w : World) : SimH (oldI w) [] [] w := SimH.nil fun _ h => h
theorem law_end {P : Program} {k : FuncId} {args : List V} (hf : FnD P k args (.e (.sc (.dat (.bool true)))) []) {w : World} {vs : List Value} (hr : RelVL w (oldI w) [] vs args) :
    Calls P k vs.toArray w fun e w' => e = .returned (.bool true) ∧ Below w.heap.size w w' := by
  refine (hf.2 (oldI w) [] w vs (sim_old w) hr).mono ?_
  rintro e w' ⟨v, r, h', I', M', he, ⟨rfl, rfl⟩, hrel, _, hext, _, _⟩
  have hv := relV_bool hrel
  subst hv
  refine ⟨he, hext.os, hext.tape, hext.output, hext.size, fun k hk => hext.heap k hk ?_⟩
  rintro ⟨o, ho⟩
  simp [fpAt] at ho
theorem relVL_nil (w : World) (I : Nat → Prop) (M : Mem) : RelVL w I M [] [] := ⟨rfl, fun i v x h => by simp at h⟩
theorem relVL_cons {w : World} {I : Nat → Prop} {M : Mem} {v : Value} {x : V} {vs : List Value} {xs : List V} (h : RelV w I M v x) (t : RelVL w I M vs xs) : RelVL w I M (v :: vs) (x :: xs) :=
  ⟨by simp [t.1], fun i u y hu hy => by
    match i, hu, hy with
    | 0, hu, hy => simp at hu hy; subst hu; subst hy; exact h
    | i + 1, hu, hy => exact t.2 i u y (by simpa using hu) (by simpa using hy)⟩
end Go.AM
/- What the functions of package matrix' reference answer: sums, multiples, products, blocks, picking. -/
namespace Go.AM
open Go.Proofs.Tryz
theorem om_len {r c : Nat} {g : Nat → Nat → Int} : (om (table r c g)).length = r := by simp [om_length, table]
theorem at2_om {r c : Nat} {g : Nat → Nat → Int} {i j : Nat} (hi : i < r) (hj : j < c) : at2 (om (table r c g)) i j = some (cI (g i j)) := by
  simp [at2, om, table, hi, row, tableR, hj]
theorem sz_le {z : Int} {K : Nat} (h : z.natAbs ≤ K) (hK : K ≤ 1329227995784915872903807060280344576) : Sz z := sz_of (Nat.le_trans h (Nat.le_trans hK (by decide)))
theorem m5scale_ok {r c K : Nat} {a : List (List Int)} {k : Int} (ha : Mx r c a) (ka : BdM K a) (hk : k.natAbs ≤ 1329227995784915872903807060280344576) (hr : r ≤ 4294967296) (hc : c ≤ 4294967296) (hK : K ≤ 1329227995784915872903807060280344576) :
    FnD prog 75 [eM r c a, eI k] (eMo r c) (oM (table r c fun i j => el a i j * k)) := by
  refine vc75_ok _ _ _ _ _ (R := OutM r c _) ?_
  unfold vc75
  obtain ⟨f, hf⟩ : ∃ f : Nat → Nat → Int, f = fun i j => el a i j * k := ⟨_, rfl⟩
  refine ⟨_, _, _, rnew_ok hr hc, fun o t => ∃ i : Nat, t = (i : Int) ∧ i ≤ r ∧ o = om (table r c (gF f i 0)), fun _ t => ((r : Int) - t).toNat, ⟨0, rfl, by omega, gF_zero f⟩, ?_⟩
  rintro _ _ ⟨i, rfl, hi, rfl⟩
  refine ⟨fun h => ?_, fun h => outM ?_⟩
  · have hir : i < r := by simpa using h
    refine ⟨fun o t => ∃ j : Nat, t = (j : Int) ∧ j ≤ c ∧ o = om (table r c (gF f i j)), fun _ t => ((c : Int) - t).toNat, ⟨0, rfl, by omega, rfl⟩, ?_⟩
    rintro _ _ ⟨j, rfl, hj, rfl⟩
    refine ⟨fun h2 => ?_, fun h2 => ?_⟩
    · have hjc : j < c := by simpa using h2
      obtain ⟨e1, e2, e3, e4⟩ := read_el ha hir hjc
      have hb := el_bd ha ka hir hjc
      refine ⟨_, _, _, decide (f i j < 0), lim (dz (f i j)), ⟨by omega, by rw [om_len]; omega⟩, ⟨by omega, e4⟩, e1, ⟨by omega, e3⟩, e2, ?_, om_in hir hjc, ?_⟩
      · subst hf; exact rmul_ok (sz_le hb hK) (sz_le hk (Nat.le_refl _))
      rw [inc64 (by omega)]
      refine ⟨⟨j + 1, rfl, by omega, ?_⟩, by show ((c : Int) - ((j + 1 : Nat) : Int)).toNat < ((c : Int) - (j : Int)).toNat; omega⟩
      rw [Int.toNat_natCast, Int.toNat_natCast]
      exact gF_step hir hjc
    · have hjc : c ≤ j := by simpa using h2
      rw [inc64 (by omega)]
      exact ⟨⟨i + 1, rfl, by omega, gF_next fun b h1 h2 => by omega⟩, by show ((r : Int) - ((i + 1 : Nat) : Int)).toNat < ((r : Int) - (i : Int)).toNat; omega⟩
  · have hir : i = r := by have : r ≤ i := by simpa using h
                           omega
    subst hir
    subst hf
    exact gF_all
theorem m5copied_ok {r c K : Nat} {a : List (List Int)} (ha : Mx r c a) (ka : BdM K a) (hr : r ≤ 4294967296) (hc : c ≤ 4294967296) (hK : K ≤ 1329227995784915872903807060280344576) :
    FnD prog 42 [eM r c a] (eMo r c) (oM a) := by
  refine vc42_ok _ _ _ (R := OutM r c _) ?_
  unfold vc42
  refine ⟨_, _, _, _, _, rof_ok 1 (by decide) (by decide), m5scale_ok ha ka (by decide) hr hc hK, outM ?_⟩
  congr 1
  refine Eq.trans (table_congr fun i j _ _ => ?_) (mx_table ha).symm
  rw [Int.mul_one]
theorem outME {r c e : Int} {m : List (List Int)} {o : DL} (h : o = rows m) : Out (eME r c m e) (V.tup [(E.agg [S.dat (D.int .i64 r), S.dat (D.int .i64 c), S.dat (D.sl o)]), E.sc (S.dat (D.int .i64 e))]) [] := by subst h; exact ⟨rfl, rfl⟩
def gM (f _g : Nat → Nat → Int) (i j : Nat) (v : Int) : Nat → Nat → Int := fun a b => if a = i ∧ b = j then v else gF f i j a b
theorem gM_start {r c : Nat} {f : Nat → Nat → Int} {i j : Nat} : om (table r c (gF f i j)) = om (table r c (gM f f i j 0)) := by
  congr 1
  refine table_congr fun a b _ _ => ?_
  unfold gM
  by_cases h : a = i ∧ b = j
  · rw [if_pos h]; unfold gF; rw [if_neg (by omega)]
  · rw [if_neg h]
theorem gM_step {r c : Nat} {f : Nat → Nat → Int} {i j : Nat} {v w : Int} (hi : i < r) (hj : j < c) : (om (table r c (gM f f i j v))).modify i (fun q => q.set j (cI w)) = om (table r c (gM f f i j w)) := by
  refine Eq.trans (om_set hi hj) ?_
  congr 1
  refine table_congr fun a b _ _ => ?_
  unfold gM
  by_cases h : a = i ∧ b = j
  · rw [if_pos h, if_pos h]
  · rw [if_neg h, if_neg h, if_neg h]
theorem gM_end {r c : Nat} {f : Nat → Nat → Int} {i j : Nat} : om (table r c (gM f f i j (f i j))) = om (table r c (gF f i (j + 1))) := by
  congr 1
  refine table_congr fun a b _ _ => ?_
  unfold gM gF
  by_cases h : a = i ∧ b = j
  · rw [if_pos h, if_pos (by omega), h.1, h.2]
  · rw [if_neg h]
    by_cases h2 : a < i ∨ (a = i ∧ b < j)
    · rw [if_pos h2, if_pos (by omega)]
    · rw [if_neg h2, if_neg (by omega)]
end Go.AM
/- The law of the ring of matrices. -/
namespace Go.AM
open Go.Proofs.Tryz
theorem i8s_of {l : DL} (h : l.length ≤ 9223372036854775807 ∧ ∀ x ∈ l, DOKL [.i .i8] x) : ∃ zs : List Int, l = i8s zs ∧ ∀ z ∈ zs, -128 ≤ z ∧ z ≤ 127 := by
  obtain ⟨zs, h1, h2⟩ := ints_of h.2
  exact ⟨zs, h1, h2⟩
end Go.AM
/- What the functions of package matrix, and of its reference, answer: comparing, picking, blocks of the reference. -/
namespace Go.AM
open Go.Proofs.Tryz
theorem cmp_zero (x y : Int) : (cmpI x y == 0) = decide (x = y) := by
  unfold cmpI
  by_cases h1 : x < y
  · simp [h1]; omega
  · by_cases h2 : y < x
    · simp [h1, h2]; omega
    · simp [h1, h2]; omega
theorem same118_ok {x y : Int} (hx : Sz x) (hy : Sz y) : FnD prog 110 [eI x, eI y] (vb (decide (x = y))) [] := by
  refine vc110_ok _ _ _ _ (R := Out _) ?_
  unfold vc110
  exact ⟨_, cmp_ok hx hy, outb (cmp_zero x y)⟩
theorem eqRow_ok {a b : List Int} (ha : SzR a) (hb : SzR b) (hl : a.length ≤ 4294967296) : FnD prog 109 [vs (row a), vs (row b), .e (.sc (.dat (.fn (.func 110) ([] : List D))))] (vb (decide (a = b))) [] := by
  refine vc109_ok _ _ _ _ (R := Out _) ?_
  unfold vc109
  simp only [row_length]
  refine ⟨fun h => outb ?_, fun h => ?_⟩
  · have h : ¬ ((a.length : Int) = (b.length : Int)) := by simpa using h
    rw [eq_comm, decide_eq_false_iff_not]
    intro e; subst e; exact h rfl
  · have hlen : a.length = b.length := by
      have : (a.length : Int) = (b.length : Int) := by simpa using h
      omega
    refine ⟨fun t => ∃ i : Nat, t = (i : Int) ∧ i ≤ a.length ∧ ∀ k, k < i → elr a k = elr b k, fun t => ((a.length : Int) - t).toNat, ⟨0, rfl, by omega, fun k hk => by omega⟩, ?_⟩
    rintro _ ⟨i, rfl, hi, hinv⟩
    refine ⟨fun h2 => ?_, fun h2 => outb ?_⟩
    · have hia : i < a.length := by simpa using h2
      have hib : i < b.length := by omega
      refine ⟨_, _, ⟨by omega, by omega⟩, row_getN hia, _, _, ⟨by omega, by omega⟩, row_getN hib, decide (elr a i = elr b i), same118_ok (ha _ (elr_mem hia)) (hb _ (elr_mem hib)), fun h3 => outb ?_, fun h3 => ?_⟩
      · rw [eq_comm, decide_eq_false_iff_not]
        intro e; subst e; simp at h3
      · have he : elr a i = elr b i := by simpa using h3
        rw [inc64 (by omega)]
        refine ⟨⟨i + 1, rfl, by omega, fun k hk => ?_⟩, by show ((a.length : Int) - ((i + 1 : Nat) : Int)).toNat < ((a.length : Int) - (i : Int)).toNat; omega⟩
        by_cases hki : k = i
        · subst hki; exact he
        · exact hinv k (by omega)
    · have hia : i = a.length := by have : a.length ≤ i := by simpa using h2
                                    omega
      have : a = b := list_ext hlen fun k hk => hinv k (by omega)
      simp [this]
theorem eqRows_ok {a b : List (List Int)} (ha : SzM a) (hb : SzM b) (hl : a.length ≤ 4294967296) (hc : ∀ x ∈ a, x.length ≤ 4294967296) :
    FnD prog 107 [vs (rows a), vs (rows b), .e (.sc (.dat (.fn (.func 108) ([] : List D))))] (vb (decide (a = b))) [] := by
  refine vc107_ok _ _ _ _ (R := Out _) ?_
  unfold vc107
  simp only [rows_length]
  refine ⟨fun h => outb ?_, fun h => ?_⟩
  · have h : ¬ ((a.length : Int) = (b.length : Int)) := by simpa using h
    rw [eq_comm, decide_eq_false_iff_not]
    intro e; subst e; exact h rfl
  · have hlen : a.length = b.length := by
      have : (a.length : Int) = (b.length : Int) := by simpa using h
      omega
    refine ⟨fun t => ∃ i : Nat, t = (i : Int) ∧ i ≤ a.length ∧ ∀ k, k < i → a.getD k [] = b.getD k [], fun t => ((a.length : Int) - t).toNat, ⟨0, rfl, by omega, fun k hk => by omega⟩, ?_⟩
    rintro _ ⟨i, rfl, hi, hinv⟩
    refine ⟨fun h4 => ?_, fun h4 => outb ?_⟩
    · have hia : i < a.length := by simpa using h4
      have hib : i < b.length := by omega
      have e116 : FnD prog 108 [vs (row (a.getD i [])), vs (row (b.getD i []))] (vb (decide (a.getD i [] = b.getD i []))) [] := by
        refine vc108_ok _ _ (R := Out _) ?_
        unfold vc108
        exact ⟨_, eqRow_ok (ha _ (getD_mem hia)) (hb _ (getD_mem hib)) (hc _ (getD_mem hia)), rfl, rfl⟩
      refine ⟨_, ⟨by omega, by omega⟩, rows_getN hia, _, ⟨by omega, by omega⟩, rows_getN hib, decide (a.getD i [] = b.getD i []), e116, fun h5 => outb ?_, fun h5 => ?_⟩
      · rw [eq_comm, decide_eq_false_iff_not]
        rintro e; subst e; simp at h5
      · have he : a.getD i [] = b.getD i [] := by simpa using h5
        rw [inc64 (by omega)]
        refine ⟨⟨i + 1, rfl, by omega, fun k hk => ?_⟩, by show ((a.length : Int) - ((i + 1 : Nat) : Int)).toNat < ((a.length : Int) - (i : Int)).toNat; omega⟩
        by_cases hki : k = i
        · subst hki; exact he
        · exact hinv k (by omega)
    · have hia : i = a.length := by have : a.length ≤ i := by simpa using h4
                                    omega
      have : a = b := lists_ext hlen fun k hk => hinv k (by omega)
      simp [this]
theorem equal_ok {r c r' c' : Int} {a b : List (List Int)} (ha : SzM a) (hb : SzM b) (hl : a.length ≤ 4294967296) (hc : ∀ x ∈ a, x.length ≤ 4294967296) :
    FnD prog 80 [eM r c a, eM r' c' b] (vb (decide (r = r' ∧ c = c' ∧ a = b))) [] := by
  refine vc80_ok _ _ _ _ _ _ (R := Out _) ?_
  unfold vc80
  refine ⟨_, _, _, _, size_ok r c a, size_ok r' c' b, fun h => ⟨_, eqRows_ok ha hb hl hc, outb ?_⟩, fun h => outb ?_⟩
  · have h : r = r' ∧ c = c' := by simpa using h
    simp [h.1, h.2]
  · rw [eq_comm, decide_eq_false_iff_not]
    rintro ⟨rfl, rfl, _⟩
    simp at h
theorem rawmade_ok {x y : Int} (v : List Int) (hx : 0 ≤ x) (hy : 0 ≤ y) : ∃ r c : Nat, r ≤ 4 ∧ c ≤ 4 ∧
    FnD prog 9 [.e (.agg [.dat (.int .u8 x), .dat (.int .u8 y), .dat (.sl (i8s v))])] (eMo r c) (oM (table r c (fillG c v))) := by
  obtain ⟨r, e0, b0⟩ := mod5 hx
  obtain ⟨c, e1, b1⟩ := mod5 hy
  refine ⟨r, c, b0, b1, ?_⟩
  refine vc9_ok _ _ _ (R := OutM r c _) ?_
  unfold vc9
  rw [e0, e1]
  exact ⟨_, _, _, by decide, filled_ok (by omega) (by omega), outM rfl⟩
end Go.AM
/- oplog.Apply: the operations on a matrix of one's own. -/
namespace Go.AM
open Go.Proofs.Tryz
def rF (o : Opz) (f : Nat → Nat → Int) (t : Nat) (a b : Nat) : Int := if a = o.i ∧ b < t then opF o f a b else f a b
theorem rF_zero {r c : Nat} {o : Opz} {m : List (List Int)} (hm : Mx r c m) : om m = om (table r c (rF o (el m) 0)) := by
  congr 1
  refine Eq.trans (mx_table hm) (table_congr fun a b _ _ => ?_)
  simp [rF]
theorem rF_step {r c : Nat} {o : Opz} {f : Nat → Nat → Int} {t : Nat} (hi : o.i < r) (ht : t < c) : (om (table r c (rF o f t))).modify o.i (fun q => q.set t (cI (opF o f o.i t))) = om (table r c (rF o f (t + 1))) := by
  refine Eq.trans (om_set hi ht) ?_
  congr 1
  refine table_congr fun a b _ _ => ?_
  unfold rF
  by_cases h1 : a = o.i ∧ b = t
  · rw [if_pos h1, if_pos (by omega), h1.1, h1.2]
  · rw [if_neg h1]
    by_cases h2 : a = o.i ∧ b < t
    · rw [if_pos h2, if_pos (by omega)]
    · rw [if_neg h2, if_neg (by omega)]
theorem rF_all {r c : Nat} {o : Opz} {m : List (List Int)} (hk : o.k ≠ 1) : om (table r c (rF o (el m) c)) = om (apO r c o m) := by
  unfold apO
  congr 1
  refine table_congr fun a b _ hb => ?_
  unfold rF
  by_cases h : a = o.i
  · rw [if_pos ⟨h, hb⟩]
  · rw [if_neg (by omega)]
    unfold opF
    simp [hk, h]
end Go.AM
/- oplog.Valid, Apply, Undo, Matrix, Invert. -/
namespace Go.AM
open Go.Proofs.Tryz
theorem natEq (a b : Nat) : ((a : Int) == (b : Int)) = decide (a = b) := by
  by_cases h : a = b
  · simp [h]
  · have h1 : (a : Int) ≠ b := by omega
    simp [h, h1]
end Go.AM
/- torsionref18.Made: a list of operations out of a description. -/
namespace Go.AM
open Go.Proofs.Tryz
def mvZ (n : Nat) (x0 x1 x2 x3 : Int) : Opz :=
  { k := 1 + (x0 % 3).toNat, i := (x1 % n).toNat, j := if (x0 % 3).toNat = 1 then 0 else (x2 % n).toNat, z := if (x0 % 3).toNat = 2 then x3 else 0 }
def mvOf (n : Nat) : List D → Option Opz
  | [.int _ x0, .int _ x1, .int _ x2, .int _ x3] => if (mvZ n x0 x1 x2 x3).k = 2 ∨ (mvZ n x0 x1 x2 x3).i ≠ (mvZ n x0 x1 x2 x3).j then some (mvZ n x0 x1 x2 x3) else none
  | _ => none
def madeT (n : Nat) (l : DL) (t : Nat) : List Opz := (l.take t).filterMap (mvOf n)
def made (n : Nat) (l : DL) (m : Nat) : List Opz := if n = 0 then [] else madeT n l (min l.length m)
end Go.AM
/- What functions of the program come to: group Oe. Printed by vc.py. -/
set_option maxRecDepth 100000
set_option linter.unusedVariables false
namespace Go.AM
open Go.Proofs.Tryz
def vc50 (a0 : Bool) (a1 : DL) (b0 : Bool) (b1 : DL) (R : V → Heap → Prop) : Prop :=
 ∃ (r0 : Bool) (r1 : DL) (r01 : Bool) (r11 : DL),
 (FnD prog 56 [vD (dL a1), vD (dB a0)] (vA [sD (dB r0), sD (dL r1)]) []) ∧
 (FnD prog 56 [vD (dL b1), vD (dB b0)] (vA [sD (dB r01), sD (dL r11)]) []) ∧
 (∃ (r : Int),
 (FnD prog 41 [vA [sD (dB r01), sD (dL r11)]] (vD (dI r)) []) ∧
 (((r == (0 : Int)) = true →
 R (V.tup [E.agg [sD (dB false), sD (dL ([] : DL))], E.agg [sD (dB false), sD (dL ([] : DL))], eD (dI (3 : Int))]) []) ∧
 ((r == (0 : Int)) = false →
 ∃ (r02 : Bool) (r12 : DL) (r03 : Bool) (r13 : DL),
 (FnD prog 89 [vD (dL r1), vD (dL r11)] (V.tup [E.agg [sD (dB r02), sD (dL r12)], E.agg [sD (dB r03), sD (dL r13)]]) []) ∧
 ((r0 = true →
 ∃ (r2 : Int),
 (FnD prog 41 [vA [sD (dB r03), sD (dL r13)]] (vD (dI r2)) []) ∧
 ((decide (r2 > (0 : Int)) = true →
 ∃ (r04 : Bool) (r14 : DL) (r05 : Bool) (r15 : DL),
 (FnD prog 25 [vD (dI (1 : Int))] (vA [sD (dB r04), sD (dL r14)]) []) ∧
 (FnD prog 24 [vA [sD (dB r02), sD (dL r12)], vA [sD (dB r04), sD (dL r14)]] (vA [sD (dB r05), sD (dL r15)]) []) ∧
 (∃ (r06 : Bool) (r16 : DL) (r07 : Bool) (r17 : DL),
 (FnD prog 56 [vD (dL r11), vD (dB false)] (vA [sD (dB r06), sD (dL r16)]) []) ∧
 (FnD prog 90 [vA [sD (dB r06), sD (dL r16)], vA [sD (dB r03), sD (dL r13)]] (vA [sD (dB r07), sD (dL r17)]) []) ∧
 (((!(r0 == r01)) = true →
 ∃ (r08 : Bool) (r18 : DL),
 (FnD prog 52 [vA [sD (dB r05), sD (dL r15)]] (vA [sD (dB r08), sD (dL r18)]) []) ∧
 (R (V.tup [E.agg [sD (dB r08), sD (dL r18)], E.agg [sD (dB r07), sD (dL r17)], eD (dI (0 : Int))]) [])) ∧
 ((!(r0 == r01)) = false →
 R (V.tup [E.agg [sD (dB r05), sD (dL r15)], E.agg [sD (dB r07), sD (dL r17)], eD (dI (0 : Int))]) [])))) ∧
 (decide (r2 > (0 : Int)) = false →
 ((!(r0 == r01)) = true →
 ∃ (r09 : Bool) (r19 : DL),
 (FnD prog 52 [vA [sD (dB r02), sD (dL r12)]] (vA [sD (dB r09), sD (dL r19)]) []) ∧
 (R (V.tup [E.agg [sD (dB r09), sD (dL r19)], E.agg [sD (dB r03), sD (dL r13)], eD (dI (0 : Int))]) [])) ∧
 ((!(r0 == r01)) = false →
 R (V.tup [E.agg [sD (dB r02), sD (dL r12)], E.agg [sD (dB r03), sD (dL r13)], eD (dI (0 : Int))]) [])))) ∧
 (r0 = false →
 ((!(r0 == r01)) = true →
 ∃ (r010 : Bool) (r110 : DL),
 (FnD prog 52 [vA [sD (dB r02), sD (dL r12)]] (vA [sD (dB r010), sD (dL r110)]) []) ∧
 (R (V.tup [E.agg [sD (dB r010), sD (dL r110)], E.agg [sD (dB r03), sD (dL r13)], eD (dI (0 : Int))]) [])) ∧
 ((!(r0 == r01)) = false →
 R (V.tup [E.agg [sD (dB r02), sD (dL r12)], E.agg [sD (dB r03), sD (dL r13)], eD (dI (0 : Int))]) []))))))
theorem vc50_ok (a0 : Bool) (a1 : DL) (b0 : Bool) (b1 : DL) {R : V → Heap → Prop} (h : vc50 a0 a1 b0 b1 R) : FnG prog 50 [vA [sD (dB a0), sD (dL a1)], vA [sD (dB b0), sD (dL b1)]] [] R :=
  FnG.vcg hT func50 ntmps50 (.reg 4 [(0, Or.none, 0, 1), (1, Or.none, 1, 1), (2, Or.none, 2, 1), (3, Or.none, 3, 1)] [2, 3, 4, 5] [0, 1, 2, 3] [] <| .exb fun r0 => .exl fun r1 => .exb fun r01 => .exl fun r11 => .drw 0 [(4, (Or.call (vA [sD (dB r0), sD (dL r1)]) [] [], 0, 0), []), (9, (Or.call (vA [sD (dB r01), sD (dL r11)]) [] [], 0, 0), []), (10, (Or.none, 0, 0), [0]), (11, (Or.none, 0, 0), [1])] [2, 3, 4, 5] [0, 1, 2, 3] [] <| .ex fun r => .reg 0 [(1, Or.call (vD (dI r)) [] [], 0, 0)] [2, 3, 4, 5, 21] [0, 1, 2, 3] [] <| .c2 (.r1 [4, 5, 6] [2, 3] <| .nrm [4, 5, 6] [0, 1] <| .ret []) (.exb fun r02 => .exl fun r12 => .exb fun r03 => .exl fun r13 => .reg 2 [(4, Or.call (V.tup [E.agg [sD (dB r02), sD (dL r12)], E.agg [sD (dB r03), sD (dL r13)]]) [] [], 0, 0), (8, Or.none, 4, 1), (9, Or.none, 5, 1)] [2, 3, 4, 5, 7, 8] [0, 1, 2, 3, 4, 5] [] <| .spl r0 (.ex fun r2 => .reg 0 [(2, Or.bool true, 0, 0), (4, Or.call (vD (dI r2)) [] [], 0, 0)] [2, 3, 4, 5, 7, 8, 38] [0, 1, 2, 3, 4, 5] [.old 0] <| .c2 (.exb fun r04 => .exl fun r14 => .exb fun r05 => .exl fun r15 => .drw 0 [(1, (Or.call (vA [sD (dB r04), sD (dL r14)]) [] [], 0, 0), []), (2, (Or.call (vA [sD (dB r05), sD (dL r15)]) [] [], 0, 0), []), (3, (Or.none, 0, 0), [4])] [2, 3, 4, 5, 7, 8] [0, 1, 2, 3, 4, 5] [] <| .exb fun r06 => .exl fun r16 => .exb fun r07 => .exl fun r17 => .drw 0 [(2, (Or.call (vA [sD (dB r06), sD (dL r16)]) [] [], 0, 0), []), (4, (Or.call (vA [sD (dB r07), sD (dL r17)]) [] [], 0, 0), []), (5, (Or.none, 0, 0), [5])] [2, 3, 4, 5, 7, 8] [0, 1, 2, 3, 4, 5] [] <| .r1 [4, 5, 7, 8, 51] [2, 3, 4, 5] <| .c2 (.exb fun r08 => .exl fun r18 => .reg 0 [(1, Or.call (vA [sD (dB r08), sD (dL r18)]) [] [], 0, 0)] [4, 5, 7, 8] [0, 1, 2, 3] [] <| .drw 0 [(2, (Or.none, 0, 0), [0]), (3, (Or.none, 0, 0), [1])] [4, 5, 6] [0, 1] [] <| .ret []) (.drw 0 [(2, (Or.none, 0, 0), [0]), (3, (Or.none, 0, 0), [1])] [4, 5, 6] [0, 1] [] <| .ret [])) (.r1 [4, 5, 7, 8, 51] [2, 3, 4, 5] <| .c2 (.exb fun r09 => .exl fun r19 => .reg 0 [(1, Or.call (vA [sD (dB r09), sD (dL r19)]) [] [], 0, 0)] [4, 5, 7, 8] [0, 1, 2, 3] [] <| .drw 0 [(2, (Or.none, 0, 0), [0]), (3, (Or.none, 0, 0), [1])] [4, 5, 6] [0, 1] [] <| .ret []) (.drw 0 [(2, (Or.none, 0, 0), [0]), (3, (Or.none, 0, 0), [1])] [4, 5, 6] [0, 1] [] <| .ret []))) (.reg 0 [(2, Or.bool false, 0, 0)] [2, 3, 4, 5, 7, 8, 38] [0, 1, 2, 3, 4, 5] [.old 0] <| .ct false none <| .r1 [4, 5, 7, 8, 51] [2, 3, 4, 5] <| .c2 (.exb fun r010 => .exl fun r110 => .reg 0 [(1, Or.call (vA [sD (dB r010), sD (dL r110)]) [] [], 0, 0)] [4, 5, 7, 8] [0, 1, 2, 3] [] <| .drw 0 [(2, (Or.none, 0, 0), [0]), (3, (Or.none, 0, 0), [1])] [4, 5, 6] [0, 1] [] <| .ret []) (.drw 0 [(2, (Or.none, 0, 0), [0]), (3, (Or.none, 0, 0), [1])] [4, 5, 6] [0, 1] [] <| .ret []))))
    (by kernel_rfl) (by kernel_rfl) (by kernel_rfl) h
def vc55 (a0 : Bool) (a1 : DL) (b0 : Bool) (b1 : DL) (R : V → Heap → Prop) : Prop :=
 ∃ (r0 : Bool) (r1 : DL) (r01 : Bool) (r11 : DL) (r : Int),
 (FnD prog 50 [vA [sD (dB a0), sD (dL a1)], vA [sD (dB b0), sD (dL b1)]] (V.tup [E.agg [sD (dB r0), sD (dL r1)], E.agg [sD (dB r01), sD (dL r11)], eD (dI r)]) []) ∧
 (R (vA [sD (dB r0), sD (dL r1)]) [])
theorem vc55_ok (a0 : Bool) (a1 : DL) (b0 : Bool) (b1 : DL) {R : V → Heap → Prop} (h : vc55 a0 a1 b0 b1 R) : FnG prog 55 [vA [sD (dB a0), sD (dL a1)], vA [sD (dB b0), sD (dL b1)]] [] R :=
  FnG.vcg hT func55 ntmps55 (.reg 3 [(0, Or.none, 0, 1), (1, Or.none, 1, 1), (2, Or.none, 2, 1)] [2, 3, 4] [0, 1, 2] [] <| .exb fun r0 => .exl fun r1 => .exb fun r01 => .exl fun r11 => .ex fun r => .reg 2 [(2, Or.call (V.tup [E.agg [sD (dB r0), sD (dL r1)], E.agg [sD (dB r01), sD (dL r11)], eD (dI r)]) [] [], 0, 0), (7, Or.none, 3, 1), (8, Or.none, 4, 1)] [4, 5] [2, 3] [] <| .r1 [4] [0] <| .ret [])
    (by kernel_rfl) (by kernel_rfl) (by kernel_rfl) h
def vc90 (a0 : Bool) (a1 : DL) (b0 : Bool) (b1 : DL) (R : V → Heap → Prop) : Prop :=
 ∃ (r0 : Bool) (r1 : DL) (r01 : Bool) (r11 : DL),
 (FnD prog 52 [vA [sD (dB b0), sD (dL b1)]] (vA [sD (dB r0), sD (dL r1)]) []) ∧
 (FnD prog 24 [vA [sD (dB a0), sD (dL a1)], vA [sD (dB r0), sD (dL r1)]] (vA [sD (dB r01), sD (dL r11)]) []) ∧
 (R (vA [sD (dB r01), sD (dL r11)]) [])
theorem vc90_ok (a0 : Bool) (a1 : DL) (b0 : Bool) (b1 : DL) {R : V → Heap → Prop} (h : vc90 a0 a1 b0 b1 R) : FnG prog 90 [vA [sD (dB a0), sD (dL a1)], vA [sD (dB b0), sD (dL b1)]] [] R :=
  FnG.vcg hT func90 ntmps90 (.reg 3 [(0, Or.none, 0, 1), (1, Or.none, 1, 1), (2, Or.none, 2, 1)] [2, 3, 4] [0, 1, 2] [] <| .exb fun r0 => .exl fun r1 => .exb fun r01 => .exl fun r11 => .drw 0 [(2, (Or.call (vA [sD (dB r0), sD (dL r1)]) [] [], 0, 0), []), (3, (Or.call (vA [sD (dB r01), sD (dL r11)]) [] [], 0, 0), []), (4, (Or.none, 0, 0), [2])] [4] [2] [] <| .ret [])
    (by kernel_rfl) (by kernel_rfl) (by kernel_rfl) h
def vc89 (a b : DL) (R : V → Heap → Prop) : Prop :=
 (((b.length : Int) == (1 : Int)) = true →
 ∃ (vx : Int) (r : DL) (r1 : Int),
 (0 ≤ (0 : Int) ∧ (0 : Int) < (b.length : Int)) ∧
 (b[0]? = some [dU vx]) ∧
 (FnD prog 115 [vD (dL a), vD (dU vx)] (V.tup [eD (dL r), eD (dU r1)]) []) ∧
 (∃ (r0 : Bool) (r11 : DL) (r01 : Bool) (r12 : DL),
 (FnD prog 56 [vD (dL r), vD (dB false)] (vA [sD (dB r0), sD (dL r11)]) []) ∧
 (FnD prog 56 [vD (dL [[dU r1]]), vD (dB false)] (vA [sD (dB r01), sD (dL r12)]) []) ∧
 (R (V.tup [E.agg [sD (dB r0), sD (dL r11)], E.agg [sD (dB r01), sD (dL r12)]]) []))) ∧
 (((b.length : Int) == (1 : Int)) = false →
 ∃ (J0 : Int → Prop) (μ0 : Int → Nat),
 J0 (1 : Int) ∧ ∀ (scale : Int), J0 scale →
 ∃ (vx1 : Int),
 (0 ≤ (IntKind.i64.wrap ((b.length : Int) - (1 : Int))) ∧ (IntKind.i64.wrap ((b.length : Int) - (1 : Int))) < (b.length : Int)) ∧
 (b[((IntKind.i64.wrap ((b.length : Int) - (1 : Int)))).toNat]? = some [dU vx1]) ∧
 (((decide ((IntKind.u64.wrap ((IntKind.u64.wrap vx1) * (IntKind.u64.wrap scale))) < (2147483648 : Int))) = true →
 J0 (IntKind.u32.wrap ((2 : Int) * scale)) ∧ μ0 (IntKind.u32.wrap ((2 : Int) * scale)) < μ0 scale) ∧
 ((decide ((IntKind.u64.wrap ((IntKind.u64.wrap vx1) * (IntKind.u64.wrap scale))) < (2147483648 : Int))) = false →
 ∃ (r02 : Bool) (r13 : DL),
 (FnD prog 56 [vD (dL [[dU scale]]), vD (dB false)] (vA [sD (dB r02), sD (dL r13)]) []) ∧
 (∃ (r03 : Bool) (r14 : DL) (r04 : Bool) (r15 : DL) (r05 : Bool) (r16 : DL) (r06 : Bool) (r17 : DL),
 (FnD prog 56 [vD (dL a), vD (dB false)] (vA [sD (dB r03), sD (dL r14)]) []) ∧
 (FnD prog 91 [vA [sD (dB r03), sD (dL r14)], vA [sD (dB r02), sD (dL r13)]] (vA [sD (dB r04), sD (dL r15)]) []) ∧
 (FnD prog 56 [vD (dL b), vD (dB false)] (vA [sD (dB r05), sD (dL r16)]) []) ∧
 (FnD prog 91 [vA [sD (dB r05), sD (dL r16)], vA [sD (dB r02), sD (dL r13)]] (vA [sD (dB r06), sD (dL r17)]) []) ∧
 (∃ (J1 : Bool → (DL) → Bool → (DL) → Prop) (μ1 : Bool → (DL) → Bool → (DL) → Nat),
 J1 r04 r15 false ([] : DL) ∧ ∀ (r07 : Bool) (r18 : DL) (q0 : Bool) (q1 : DL), J1 r07 r18 q0 q1 →
 ∃ (r2 : Bool),
 (FnD prog 58 [vD (dL r18), vD (dL r17)] (vD (dB r2)) []) ∧
 (((!r2) = true →
 ∃ (r08 : Bool) (r19 : DL),
 (FnD prog 116 [vD (dL r18), vD (dL r17)] (vA [sD (dB r08), sD (dL r19)]) []) ∧
 (∃ (r09 : Bool) (r110 : DL),
 (FnD prog 24 [vA [sD (dB q0), sD (dL q1)], vA [sD (dB r08), sD (dL r19)]] (vA [sD (dB r09), sD (dL r110)]) []) ∧
 (∃ (r010 : Bool) (r111 : DL) (r011 : Bool) (r112 : DL),
 (FnD prog 91 [vA [sD (dB r08), sD (dL r19)], vA [sD (dB r06), sD (dL r17)]] (vA [sD (dB r010), sD (dL r111)]) []) ∧
 (FnD prog 90 [vA [sD (dB r07), sD (dL r18)], vA [sD (dB r010), sD (dL r111)]] (vA [sD (dB r011), sD (dL r112)]) []) ∧
 (J1 r011 r112 r09 r110 ∧ μ1 r011 r112 r09 r110 < μ1 r07 r18 q0 q1)))) ∧
 ((!r2) = false →
 ∃ (r3 : DL) (r4 : Int),
 (FnD prog 115 [vD (dL r18), vD (dU scale)] (V.tup [eD (dL r3), eD (dU r4)]) []) ∧
 (∃ (r012 : Bool) (r113 : DL),
 (FnD prog 56 [vD (dL r3), vD (dB false)] (vA [sD (dB r012), sD (dL r113)]) []) ∧
 (R (V.tup [E.agg [sD (dB q0), sD (dL q1)], E.agg [sD (dB r012), sD (dL r113)]]) [])))))))))
theorem vc89_ok (a b : DL) {R : V → Heap → Prop} (h : vc89 a b R) : FnG prog 89 [vD (dL a), vD (dL b)] [] R :=
  FnG.vcg hT func89 ntmps89 (.reg 2 [(0, Or.none, 0, 1), (1, Or.none, 1, 1)] [0, 1, 4, 5] [0, 1] [] <| .r1 [0, 1, 4, 5, 18] [0, 1] <| .c2 (.ex fun vx => .exl fun r => .ex fun r1 => .reg 0 [(3, Or.cells [dU vx], 0, 0), (4, Or.call (V.tup [eD (dL r), eD (dU r1)]) [] [], 0, 0)] [4, 5, 6, 7] [0, 1] [] <| .exb fun r0 => .exl fun r11 => .exb fun r01 => .exl fun r12 => .reg 1 [(1, Or.call (vA [sD (dB r0), sD (dL r11)]) [] [], 0, 0), (3, Or.frz, 2, 1), (4, Or.call (vA [sD (dB r01), sD (dL r12)]) [] [], 0, 0)] [4, 5] [0, 1] [] <| .ret []) (.r1 [0, 1, 4, 5, 8] [0, 1] <| .lp [.i] (fun scale => ⟨[(0, vD (dL a)), (1, vD (dL b)), (4, vP 0 0), (5, vP 1 0), (8, vD (dU scale))], [some (Obj.box [sD (dB false), sD (D.raw (.slice none 0 0))]), some (Obj.box [sD (dB false), sD (D.raw (.slice none 0 0))])], 86⟩) [.i (1 : Int)] <| .fi fun scale => .beg <| .ex fun vx1 => .reg 0 [(5, Or.cells [dU vx1], 0, 0)] [0, 1, 4, 5, 8, 42] [0, 1] [] <| .c2 (.r1 [0, 1, 4, 5, 8] [0, 1] <| .bk 0 [.i (IntKind.u32.wrap ((2 : Int) * scale))]) (.exb fun r02 => .exl fun r13 => .reg 2 [(1, Or.frz, 2, 1), (2, Or.call (vA [sD (dB r02), sD (dL r13)]) [] [], 0, 0), (3, Or.none, 3, 1)] [0, 1, 4, 5, 8, 9] [0, 1, 3] [] <| .exb fun r03 => .exl fun r14 => .exb fun r04 => .exl fun r15 => .exb fun r05 => .exl fun r16 => .exb fun r06 => .exl fun r17 => .drw 3 [(1, (Or.call (vA [sD (dB r03), sD (dL r14)]) [] [], 0, 0), []), (3, (Or.call (vA [sD (dB r04), sD (dL r15)]) [] [], 0, 0), []), (5, (Or.call (vA [sD (dB r05), sD (dL r16)]) [] [], 0, 0), []), (7, (Or.call (vA [sD (dB r06), sD (dL r17)]) [] [], 0, 0), []), (9, (Or.none, 3, 1), [3]), (10, (Or.none, 4, 1), [4]), (11, (Or.none, 5, 1), [5]), (12, (Or.none, 0, 0), [3]), (13, (Or.none, 0, 0), [4]), (14, (Or.none, 0, 0), [5])] [4, 5, 8, 10, 11, 12] [0, 1, 3, 4, 5] [] <| .nrm [] [4] <| .lp [.b, .l, .b, .l] (fun r07 r18 q0 q1 => ⟨[(4, vP 0 0), (5, vP 1 0), (8, vD (dU scale)), (10, vP 2 0), (11, vP 3 0), (12, vP 4 0)], [some (Obj.box [sD (dB false), sD (D.raw (.slice none 0 0))]), some (Obj.box [sD (dB false), sD (D.raw (.slice none 0 0))]), some (Obj.box [sD (dB r07), sD (dL r18)]), some (Obj.box [sD (dB r06), sD (dL r17)]), some (Obj.box [sD (dB q0), sD (dL q1)])], 86⟩) [.b r04, .l r15, .b false, .l ([] : DL)] <| .fb fun r07 => .fl fun r18 => .fb fun q0 => .fl fun q1 => .beg <| .exb fun r2 => .reg 0 [(4, Or.call (vD (dB r2)) [] [], 0, 0)] [4, 5, 8, 10, 11, 12, 62] [0, 1, 2, 3, 4] [] <| .c2 (.exb fun r08 => .exl fun r19 => .reg 1 [(4, Or.call (vA [sD (dB r08), sD (dL r19)]) [] [], 0, 0), (5, Or.none, 5, 1)] [4, 5, 8, 10, 11, 12, 13] [0, 1, 2, 3, 4, 5] [] <| .exb fun r09 => .exl fun r110 => .reg 0 [(2, Or.call (vA [sD (dB r09), sD (dL r110)]) [] [], 0, 0)] [4, 5, 8, 10, 11, 12, 13] [0, 1, 2, 3, 4, 5] [] <| .exb fun r010 => .exl fun r111 => .exb fun r011 => .exl fun r112 => .drw 0 [(3, (Or.call (vA [sD (dB r010), sD (dL r111)]) [] [], 0, 0), []), (4, (Or.call (vA [sD (dB r011), sD (dL r112)]) [] [], 0, 0), []), (5, (Or.none, 0, 0), [2])] [4, 5, 8, 10, 11, 12] [0, 1, 2, 3, 4] [] <| .bk 0 [.b r011, .l r112, .b r09, .l r110]) (.exl fun r3 => .ex fun r4 => .reg 0 [(3, Or.call (V.tup [eD (dL r3), eD (dU r4)]) [] [], 0, 0)] [4, 5, 12, 14] [0, 1, 4] [] <| .exb fun r012 => .exl fun r113 => .drw 0 [(2, (Or.call (vA [sD (dB r012), sD (dL r113)]) [] [], 0, 0), []), (3, (Or.none, 0, 0), [0]), (4, (Or.none, 0, 0), [1])] [4, 5] [0, 1] [] <| .ret []))))
    (by kernel_rfl) (by kernel_rfl) (by kernel_rfl) h
def vc115 (a : DL) (d : Int) (R : V → Heap → Prop) : Prop :=
 (0 ≤ (a.length : Int) ∧ (a.length : Int) ≤ (a.length : Int) ∧ (a.length : Int) * (4 : Nat) ≤ 281474976710656) ∧
 (∃ (J0 : (DL) → Int → Int → Prop) (μ0 : (DL) → Int → Int → Nat),
 J0 (List.replicate ((a.length : Int)).toNat [dU (0 : Int)]) (0 : Int) (IntKind.i64.wrap ((a.length : Int) - (1 : Int))) ∧ ∀ (out : DL) (rest i : Int), J0 out rest i →
 (decide (i ≥ (0 : Int)) = true →
 ∃ (vx : Int),
 (0 ≤ i ∧ i < (a.length : Int)) ∧
 (a[(i).toNat]? = some [dU vx]) ∧
 (((IntKind.u64.wrap d) ≠ 0) ∧
 (0 ≤ i ∧ i < (out.length : Int)) ∧
 (J0 (out.set (i).toNat [dU (IntKind.u32.wrap (IntKind.u64.wrap ((IntKind.u64.wrap ((IntKind.u64.wrap (rest * (4294967296 : Int))) + (IntKind.u64.wrap vx))).tdiv (IntKind.u64.wrap d))))]) ((IntKind.u64.wrap ((IntKind.u64.wrap (rest * (4294967296 : Int))) + (IntKind.u64.wrap vx))).tmod (IntKind.u64.wrap d)) (IntKind.i64.wrap (i - (1 : Int))) ∧ μ0 (out.set (i).toNat [dU (IntKind.u32.wrap (IntKind.u64.wrap ((IntKind.u64.wrap ((IntKind.u64.wrap (rest * (4294967296 : Int))) + (IntKind.u64.wrap vx))).tdiv (IntKind.u64.wrap d))))]) ((IntKind.u64.wrap ((IntKind.u64.wrap (rest * (4294967296 : Int))) + (IntKind.u64.wrap vx))).tmod (IntKind.u64.wrap d)) (IntKind.i64.wrap (i - (1 : Int))) < μ0 out rest i))) ∧
 (decide (i ≥ (0 : Int)) = false →
 R (V.tup [eD (dL out), eD (dU (IntKind.u32.wrap rest))]) []))
theorem vc115_ok (a : DL) (d : Int) {R : V → Heap → Prop} (h : vc115 a d R) : FnG prog 115 [vD (dL a), vD (dU d)] [] R :=
  FnG.vcg hT func115 ntmps115 (.r0 [0, 1] <| .reg 1 [(2, Or.none, 0, 1)] [0, 1, 6, 7] [0] [] <| .r1 [0, 1, 6, 7, 8] [0] <| .lp [.l, .i, .i] (fun out rest i => ⟨[(0, vD (dL a)), (1, vD (dU d)), (6, vR 0), (7, vD (D.int .u64 rest)), (8, vD (dI i))], [some (Obj.arr 1 out)], 42⟩) [.l (List.replicate ((a.length : Int)).toNat [dU (0 : Int)]), .i (0 : Int), .i (IntKind.i64.wrap ((a.length : Int) - (1 : Int)))] <| .fl fun out => .fi fun rest => .fi fun i => .beg <| .r1 [0, 1, 6, 7, 8, 16] [0] <| .c2 (.ex fun vx => .reg 0 [(5, Or.cells [dU vx], 0, 0)] [0, 1, 6, 7, 8] [0] [] <| .r1 [0, 1, 6, 7, 8] [0] <| .reg 0 [] [0, 1, 6, 7, 8] [0] [.old 1] <| .r1 [0, 1, 6, 7, 8] [0] <| .bk 0 [.l (out.set (i).toNat [dU (IntKind.u32.wrap (IntKind.u64.wrap ((IntKind.u64.wrap ((IntKind.u64.wrap (rest * (4294967296 : Int))) + (IntKind.u64.wrap vx))).tdiv (IntKind.u64.wrap d))))]), .i ((IntKind.u64.wrap ((IntKind.u64.wrap (rest * (4294967296 : Int))) + (IntKind.u64.wrap vx))).tmod (IntKind.u64.wrap d)), .i (IntKind.i64.wrap (i - (1 : Int)))]) (.r1 [4, 5] [0] <| .frz [0] <| .ret []))
    (by kernel_rfl) (by kernel_rfl) (by kernel_rfl) h
def vc116 (r d : DL) (R : V → Heap → Prop) : Prop :=
 ∃ (vx : Int),
 (0 ≤ (IntKind.i64.wrap ((d.length : Int) - (1 : Int))) ∧ (IntKind.i64.wrap ((d.length : Int) - (1 : Int))) < (d.length : Int)) ∧
 (d[((IntKind.i64.wrap ((d.length : Int) - (1 : Int)))).toNat]? = some [dU vx]) ∧
 ((((IntKind.i64.wrap ((r.length : Int) - (d.length : Int))) == (0 : Int)) = true →
 ∃ (vx1 : Int) (r0 : Bool) (r1 : DL),
 (0 ≤ (IntKind.i64.wrap ((r.length : Int) - (1 : Int))) ∧ (IntKind.i64.wrap ((r.length : Int) - (1 : Int))) < (r.length : Int)) ∧
 (r[((IntKind.i64.wrap ((r.length : Int) - (1 : Int)))).toNat]? = some [dU vx1]) ∧
 ((IntKind.u64.wrap ((IntKind.u64.wrap vx) + (1 : Int))) ≠ 0) ∧
 (FnD prog 25 [vD (dI (IntKind.i64.wrap (if (IntKind.u64.wrap ((IntKind.u64.wrap vx1).tdiv (IntKind.u64.wrap ((IntKind.u64.wrap vx) + (1 : Int))))) > (1 : Int) then (IntKind.u64.wrap ((IntKind.u64.wrap vx1).tdiv (IntKind.u64.wrap ((IntKind.u64.wrap vx) + (1 : Int))))) else (1 : Int))))] (vA [sD (dB r0), sD (dL r1)]) []) ∧
 (R (vA [sD (dB r0), sD (dL r1)]) [])) ∧
 (((IntKind.i64.wrap ((r.length : Int) - (d.length : Int))) == (0 : Int)) = false →
 ∃ (vx2 vx3 : Int),
 (0 ≤ (IntKind.i64.wrap ((r.length : Int) - (1 : Int))) ∧ (IntKind.i64.wrap ((r.length : Int) - (1 : Int))) < (r.length : Int)) ∧
 (r[((IntKind.i64.wrap ((r.length : Int) - (1 : Int)))).toNat]? = some [dU vx2]) ∧
 (0 ≤ (IntKind.i64.wrap ((r.length : Int) - (2 : Int))) ∧ (IntKind.i64.wrap ((r.length : Int) - (2 : Int))) < (r.length : Int)) ∧
 (r[((IntKind.i64.wrap ((r.length : Int) - (2 : Int)))).toNat]? = some [dU vx3]) ∧
 ((IntKind.u64.wrap ((IntKind.u64.wrap vx) + (1 : Int))) ≠ 0) ∧
 ((0 ≤ (IntKind.i64.wrap ((IntKind.i64.wrap ((r.length : Int) - (d.length : Int))) - (1 : Int))) ∧ (IntKind.i64.wrap ((IntKind.i64.wrap ((r.length : Int) - (d.length : Int))) - (1 : Int))) ≤ (IntKind.i64.wrap ((IntKind.i64.wrap ((r.length : Int) - (d.length : Int))) - (1 : Int))) ∧ (IntKind.i64.wrap ((IntKind.i64.wrap ((r.length : Int) - (d.length : Int))) - (1 : Int))) * (4 : Nat) ≤ 281474976710656) ∧
 (∃ (r01 : Bool) (r11 : DL),
 (0 ≤ (32 : Int)) ∧
 (((List.replicate ((IntKind.i64.wrap ((IntKind.i64.wrap ((r.length : Int) - (d.length : Int))) - (1 : Int)))).toNat [dU (0 : Int)]).length + ([[dU (IntKind.u32.wrap (IntKind.u64.wrap ((IntKind.u64.wrap ((IntKind.u64.wrap ((IntKind.u64.wrap vx2) * (4294967296 : Int))) + (IntKind.u64.wrap vx3))).tdiv (IntKind.u64.wrap ((IntKind.u64.wrap vx) + (1 : Int))))))], [dU (IntKind.u32.wrap ((IntKind.u64.wrap ((IntKind.u64.wrap ((IntKind.u64.wrap ((IntKind.u64.wrap vx2) * (4294967296 : Int))) + (IntKind.u64.wrap vx3))).tdiv (IntKind.u64.wrap ((IntKind.u64.wrap vx) + (1 : Int))))).fdiv (2 ^ (min (32 : Int).toNat IntKind.u64.bits))))]] : DL).length) * 4 ≤ 140737488355328) ∧
 (FnD prog 56 [vD (dL ((List.replicate ((IntKind.i64.wrap ((IntKind.i64.wrap ((r.length : Int) - (d.length : Int))) - (1 : Int)))).toNat [dU (0 : Int)]) ++ [[dU (IntKind.u32.wrap (IntKind.u64.wrap ((IntKind.u64.wrap ((IntKind.u64.wrap ((IntKind.u64.wrap vx2) * (4294967296 : Int))) + (IntKind.u64.wrap vx3))).tdiv (IntKind.u64.wrap ((IntKind.u64.wrap vx) + (1 : Int))))))], [dU (IntKind.u32.wrap ((IntKind.u64.wrap ((IntKind.u64.wrap ((IntKind.u64.wrap ((IntKind.u64.wrap vx2) * (4294967296 : Int))) + (IntKind.u64.wrap vx3))).tdiv (IntKind.u64.wrap ((IntKind.u64.wrap vx) + (1 : Int))))).fdiv (2 ^ (min (32 : Int).toNat IntKind.u64.bits))))]])), vD (dB false)] (vA [sD (dB r01), sD (dL r11)]) []) ∧
 (R (vA [sD (dB r01), sD (dL r11)]) [])))))
theorem vc116_ok (r d : DL) {R : V → Heap → Prop} (h : vc116 r d R) : FnG prog 116 [vD (dL r), vD (dL d)] [] R :=
  FnG.vcg hT func116 ntmps116 (.reg 1 [(0, Or.none, 0, 1)] [0, 1, 4] [0] [] <| .ex fun vx => .drw 0 [(12, (Or.cells [dU vx], 0, 0), [])] [0, 4, 5, 6, 7] [0] [] <| .r1 [0, 4, 5, 6, 7, 26] [0] <| .c2 (.ex fun vx1 => .exb fun r0 => .exl fun r1 => .reg 0 [(4, Or.cells [dU vx1], 0, 0), (10, Or.call (vA [sD (dB r0), sD (dL r1)]) [] [], 0, 0)] [4] [0] [] <| .ret []) (.ex fun vx2 => .ex fun vx3 => .drw 0 [(4, (Or.cells [dU vx2], 0, 0), []), (11, (Or.cells [dU vx3], 0, 0), [])] [4, 5, 8] [0] [] <| .reg 1 [(2, Or.none, 1, 1)] [4, 8, 9] [0, 1] [] <| .exb fun r01 => .exl fun r11 => .reg 2 [(6, Or.none, 2, 1), (7, Or.frz, 3, 1), (8, Or.call (vA [sD (dB r01), sD (dL r11)]) [] [], 0, 0)] [4] [0] [] <| .ret []))
    (by kernel_rfl) (by kernel_rfl) (by kernel_rfl) h
def vc117 (a0 : Bool) (a1 : DL) (R : V → Heap → Prop) : Prop :=
 R (vA [sD (dB false), sD (dL a1)]) []
theorem vc117_ok (a0 : Bool) (a1 : DL) {R : V → Heap → Prop} (h : vc117 a0 a1 R) : FnG prog 117 [vA [sD (dB a0), sD (dL a1)]] [] R :=
  FnG.vcg hT func117 ntmps117 (.reg 2 [(0, Or.none, 0, 1), (1, Or.none, 1, 1)] [1, 2] [0, 1] [] <| .r1 [2] [1] <| .ret [])
    (by kernel_rfl) (by kernel_rfl) (by kernel_rfl) h
def vc96 (a0 : Bool) (a1 : DL) (b0 : Bool) (b1 : DL) (R : V → Heap → Prop) : Prop :=
 (((b1.length : Int) == (0 : Int)) = true →
 R (V.tup [E.agg [sD (dB false), sD (dL ([] : DL))], E.agg [sD (dB false), sD (dL ([] : DL))], eD (dI (3 : Int))]) []) ∧
 (((b1.length : Int) == (0 : Int)) = false →
 ∃ (r r1 : DL),
 (FnD prog 118 [vD (dL a1), vD (dL b1)] (V.tup [eD (dL r), eD (dL r1)]) []) ∧
 (∃ (r0 : Bool) (r11 : DL) (r01 : Bool) (r12 : DL),
 (FnD prog 92 [vD (dL r), vD (dB false)] (vA [sD (dB r0), sD (dL r11)]) []) ∧
 (FnD prog 92 [vD (dL r1), vD (dB false)] (vA [sD (dB r01), sD (dL r12)]) []) ∧
 ((a0 = true →
 (decide ((r12.length : Int) > (0 : Int)) = true →
 ∃ (r02 : Bool) (r13 : DL) (r03 : Bool) (r14 : DL),
 (FnD prog 63 [vD (dI (1 : Int))] (vA [sD (dB r02), sD (dL r13)]) []) ∧
 (FnD prog 99 [vA [sD (dB r0), sD (dL r11)], vA [sD (dB r02), sD (dL r13)]] (vA [sD (dB r03), sD (dL r14)]) []) ∧
 (∃ (r2 : DL) (r04 : Bool) (r15 : DL),
 (FnD prog 119 [vD (dL b1), vD (dL r12)] (vD (dL r2)) []) ∧
 (FnD prog 92 [vD (dL r2), vD (dB false)] (vA [sD (dB r04), sD (dL r15)]) []) ∧
 (((!(a0 == b0)) = true →
 ∃ (r05 : Bool) (r16 : DL),
 (FnD prog 95 [vA [sD (dB r03), sD (dL r14)]] (vA [sD (dB r05), sD (dL r16)]) []) ∧
 (R (V.tup [E.agg [sD (dB r05), sD (dL r16)], E.agg [sD (dB r04), sD (dL r15)], eD (dI (0 : Int))]) [])) ∧
 ((!(a0 == b0)) = false →
 R (V.tup [E.agg [sD (dB r03), sD (dL r14)], E.agg [sD (dB r04), sD (dL r15)], eD (dI (0 : Int))]) [])))) ∧
 (decide ((r12.length : Int) > (0 : Int)) = false →
 ((!(a0 == b0)) = true →
 ∃ (r06 : Bool) (r17 : DL),
 (FnD prog 95 [vA [sD (dB r0), sD (dL r11)]] (vA [sD (dB r06), sD (dL r17)]) []) ∧
 (R (V.tup [E.agg [sD (dB r06), sD (dL r17)], E.agg [sD (dB r01), sD (dL r12)], eD (dI (0 : Int))]) [])) ∧
 ((!(a0 == b0)) = false →
 R (V.tup [E.agg [sD (dB r0), sD (dL r11)], E.agg [sD (dB r01), sD (dL r12)], eD (dI (0 : Int))]) []))) ∧
 (a0 = false →
 ((!(a0 == b0)) = true →
 ∃ (r07 : Bool) (r18 : DL),
 (FnD prog 95 [vA [sD (dB r0), sD (dL r11)]] (vA [sD (dB r07), sD (dL r18)]) []) ∧
 (R (V.tup [E.agg [sD (dB r07), sD (dL r18)], E.agg [sD (dB r01), sD (dL r12)], eD (dI (0 : Int))]) [])) ∧
 ((!(a0 == b0)) = false →
 R (V.tup [E.agg [sD (dB r0), sD (dL r11)], E.agg [sD (dB r01), sD (dL r12)], eD (dI (0 : Int))]) [])))))
theorem vc96_ok (a0 : Bool) (a1 : DL) (b0 : Bool) (b1 : DL) {R : V → Heap → Prop} (h : vc96 a0 a1 b0 b1 R) : FnG prog 96 [vA [sD (dB a0), sD (dL a1)], vA [sD (dB b0), sD (dL b1)]] [] R :=
  FnG.vcg hT func96 ntmps96 (.reg 4 [(0, Or.none, 0, 1), (1, Or.none, 1, 1), (2, Or.none, 2, 1), (3, Or.none, 3, 1)] [2, 3, 4, 5] [0, 1, 2, 3] [] <| .r1 [2, 3, 4, 5, 14] [0, 1, 2, 3] <| .c2 (.r1 [4, 5, 6] [2, 3] <| .nrm [4, 5, 6] [0, 1] <| .ret []) (.exl fun r => .exl fun r1 => .reg 0 [(4, Or.call (V.tup [eD (dL r), eD (dL r1)]) [] [], 0, 0)] [2, 3, 4, 5, 7, 8] [0, 1, 2, 3] [] <| .exb fun r0 => .exl fun r11 => .exb fun r01 => .exl fun r12 => .reg 2 [(1, Or.call (vA [sD (dB r0), sD (dL r11)]) [] [], 0, 0), (3, Or.call (vA [sD (dB r01), sD (dL r12)]) [] [], 0, 0), (4, Or.none, 4, 1), (5, Or.none, 5, 1)] [2, 3, 4, 5, 9, 10] [0, 1, 2, 3, 4, 5] [] <| .spl a0 (.reg 0 [(2, Or.bool true, 0, 0)] [2, 3, 4, 5, 9, 10, 36] [0, 1, 2, 3, 4, 5] [.old 0] <| .c2 (.exb fun r02 => .exl fun r13 => .exb fun r03 => .exl fun r14 => .drw 0 [(1, (Or.call (vA [sD (dB r02), sD (dL r13)]) [] [], 0, 0), []), (2, (Or.call (vA [sD (dB r03), sD (dL r14)]) [] [], 0, 0), []), (3, (Or.none, 0, 0), [4])] [2, 3, 4, 5, 9, 10] [0, 1, 2, 3, 4, 5] [] <| .exl fun r2 => .exb fun r04 => .exl fun r15 => .reg 0 [(4, Or.call (vD (dL r2)) [] [], 0, 0), (5, Or.call (vA [sD (dB r04), sD (dL r15)]) [] [], 0, 0)] [2, 3, 4, 5, 9, 10] [0, 1, 2, 3, 4, 5] [] <| .r1 [4, 5, 9, 10, 50] [2, 3, 4, 5] <| .c2 (.exb fun r05 => .exl fun r16 => .reg 0 [(1, Or.call (vA [sD (dB r05), sD (dL r16)]) [] [], 0, 0)] [4, 5, 9, 10] [0, 1, 2, 3] [] <| .drw 0 [(2, (Or.none, 0, 0), [0]), (3, (Or.none, 0, 0), [1])] [4, 5, 6] [0, 1] [] <| .ret []) (.drw 0 [(2, (Or.none, 0, 0), [0]), (3, (Or.none, 0, 0), [1])] [4, 5, 6] [0, 1] [] <| .ret [])) (.r1 [4, 5, 9, 10, 50] [2, 3, 4, 5] <| .c2 (.exb fun r06 => .exl fun r17 => .reg 0 [(1, Or.call (vA [sD (dB r06), sD (dL r17)]) [] [], 0, 0)] [4, 5, 9, 10] [0, 1, 2, 3] [] <| .drw 0 [(2, (Or.none, 0, 0), [0]), (3, (Or.none, 0, 0), [1])] [4, 5, 6] [0, 1] [] <| .ret []) (.drw 0 [(2, (Or.none, 0, 0), [0]), (3, (Or.none, 0, 0), [1])] [4, 5, 6] [0, 1] [] <| .ret []))) (.reg 0 [(2, Or.bool false, 0, 0)] [2, 3, 4, 5, 9, 10, 36] [0, 1, 2, 3, 4, 5] [.old 0] <| .ct false none <| .r1 [4, 5, 9, 10, 50] [2, 3, 4, 5] <| .c2 (.exb fun r07 => .exl fun r18 => .reg 0 [(1, Or.call (vA [sD (dB r07), sD (dL r18)]) [] [], 0, 0)] [4, 5, 9, 10] [0, 1, 2, 3] [] <| .drw 0 [(2, (Or.none, 0, 0), [0]), (3, (Or.none, 0, 0), [1])] [4, 5, 6] [0, 1] [] <| .ret []) (.drw 0 [(2, (Or.none, 0, 0), [0]), (3, (Or.none, 0, 0), [1])] [4, 5, 6] [0, 1] [] <| .ret []))))
    (by kernel_rfl) (by kernel_rfl) (by kernel_rfl) h
def vc118 (a b : DL) (R : V → Heap → Prop) : Prop :=
 ∃ (r : Int),
 (FnD prog 113 [vD (dL a), vD (dL b)] (vD (dI r)) []) ∧
 ((decide (r < (0 : Int)) = true →
 ∃ (r1 : DL),
 (FnD prog 126 [vD (dL a)] (vD (dL r1)) []) ∧
 (R (V.tup [eD (dL ([] : DL)), eD (dL r1)]) [])) ∧
 (decide (r < (0 : Int)) = false →
 (((b.length : Int) == (1 : Int)) = true →
 ∃ (vx : Int) (r2 : DL) (r3 : Int),
 (0 ≤ (0 : Int) ∧ (0 : Int) < (b.length : Int)) ∧
 (b[0]? = some [dU vx]) ∧
 (FnD prog 127 [vD (dL a), vD (dU vx)] (V.tup [eD (dL r2), eD (dU r3)]) []) ∧
 (R (V.tup [eD (dL r2), eD (dL [[dU r3]])]) [])) ∧
 (((b.length : Int) == (1 : Int)) = false →
 ∃ (r4 r5 : DL),
 (FnD prog 128 [vD (dL a), vD (dL b)] (V.tup [eD (dL r4), eD (dL r5)]) []) ∧
 (R (V.tup [eD (dL r4), eD (dL r5)]) []))))
theorem vc118_ok (a b : DL) {R : V → Heap → Prop} (h : vc118 a b R) : FnG prog 118 [vD (dL a), vD (dL b)] [] R :=
  FnG.vcg hT func118 ntmps118 (.r0 [0, 1] <| .ex fun r => .reg 0 [(2, Or.call (vD (dI r)) [] [], 0, 0)] [0, 1, 8] [] [] <| .c2 (.exl fun r1 => .reg 0 [(1, Or.call (vD (dL r1)) [] [], 0, 0)] [4, 5] [] [] <| .nrm [4, 5] [] <| .ret []) (.r0 [0, 1, 15] <| .c2 (.ex fun vx => .exl fun r2 => .ex fun r3 => .reg 0 [(3, Or.cells [dU vx], 0, 0), (4, Or.call (V.tup [eD (dL r2), eD (dU r3)]) [] [], 0, 0)] [6, 7] [] [] <| .reg 1 [(2, Or.none, 0, 1)] [4, 5] [0] [] <| .frz [0] <| .ret []) (.exl fun r4 => .exl fun r5 => .reg 0 [(2, Or.call (V.tup [eD (dL r4), eD (dL r5)]) [] [], 0, 0)] [4, 5] [] [] <| .ret [])))
    (by kernel_rfl) (by kernel_rfl) (by kernel_rfl) h
def vc23 (a0 a1 : Int) (a2 : DL) (R : V → Heap → Prop) : Prop :=
 ∃ (b b1 : Int) (b2 b3 : Int) (b4 b5 : Int) (m m1 m2 : DLL),
 (FnO prog 49 [vA [sD (dI a0), sD (dI a1), sD (dL a2)]] [] (V.e (E.sc (S.ptr 0 0))) [some (Obj.box [sD (dI b), sD (dI b1), S.ref 1, sD (dI b2), sD (dI b3), S.ref 2, sD (dI b4), sD (dI b5), S.ref 3]), some (Obj.mat 2 m), some (Obj.mat 2 m1), some (Obj.mat 2 m2)]) ∧
 (∃ (J0 : Int → Int → Int → Int → Int → Int → (DLL) → (DLL) → (DLL) → Int → Int → Prop) (μ0 : Int → Int → Int → Int → Int → Int → (DLL) → (DLL) → (DLL) → Int → Int → Nat),
 J0 b b1 b2 b3 b4 b5 m m1 m2 (0 : Int) (0 : Int) ∧ ∀ (w0 w1 : Int) (w3 w4 : Int) (w6 w7 : Int) (o3 o4 o5 : DLL) (top c : Int), J0 w0 w1 w3 w4 w6 w7 o3 o4 o5 top c →
 (decide (c < a1) = true →
 (decide (top < a0) = true →
 ∃ (J1 : Int → Int → Int → Int → Int → Int → (DLL) → (DLL) → (DLL) → Int → Prop) (μ1 : Int → Int → Int → Int → Int → Int → (DLL) → (DLL) → (DLL) → Int → Nat),
 J1 w0 w1 w3 w4 w6 w7 o3 o4 o5 (IntKind.i64.wrap (top + (1 : Int))) ∧ ∀ (w01 w11 : Int) (w31 w41 : Int) (w61 w71 : Int) (o31 o41 o51 : DLL) (i : Int), J1 w01 w11 w31 w41 w61 w71 o31 o41 o51 i →
 (decide (i < a0) = true →
 ∃ (J2 : Int → Int → Int → Int → Int → Int → (DLL) → (DLL) → (DLL) → Prop) (μ2 : Int → Int → Int → Int → Int → Int → (DLL) → (DLL) → (DLL) → Nat),
 J2 w01 w11 w31 w41 w61 w71 o31 o41 o51 ∧ ∀ (w02 w12 : Int) (w32 w42 : Int) (w62 w72 : Int) (o32 o42 o52 : DLL), J2 w02 w12 w32 w42 w62 w72 o32 o42 o52 →
 ∃ (x0 : Bool) (x1 : DL) (r : Int),
 (0 ≤ i ∧ i < (o32.length : Int)) ∧
 (∃ l, o32[(i).toNat]? = some l ∧ 0 ≤ c ∧ c < (l.length : Int)) ∧
 (at2 o32 (i).toNat (c).toNat = some [dB x0, dL x1]) ∧
 (FnD prog 41 [vA [sD (dB x0), sD (dL x1)]] (vD (dI r)) []) ∧
 (((r != (0 : Int)) = true →
 ∃ (x01 : Bool) (x11 : DL) (r1 : Int),
 (0 ≤ top ∧ top < (o32.length : Int)) ∧
 (∃ l, o32[(top).toNat]? = some l ∧ 0 ≤ c ∧ c < (l.length : Int)) ∧
 (at2 o32 (top).toNat (c).toNat = some [dB x01, dL x11]) ∧
 (FnD prog 41 [vA [sD (dB x01), sD (dL x11)]] (vD (dI r1)) []) ∧
 (((r1 != (0 : Int)) = true →
 ∃ (r0 : Bool) (r11 : DL) (r01 : Bool) (r12 : DL) (r2 : Int),
 (FnD prog 50 [vA [sD (dB x01), sD (dL x11)], vA [sD (dB x0), sD (dL x1)]] (V.tup [E.agg [sD (dB r0), sD (dL r11)], E.agg [sD (dB r01), sD (dL r12)], eD (dI r2)]) []) ∧
 (∃ (r02 : Bool) (r13 : DL) (b6 b7 : Int) (b8 b9 : Int) (b10 b11 : Int) (m3 m4 m5 : DLL),
 (FnD prog 52 [vA [sD (dB r0), sD (dL r11)]] (vA [sD (dB r02), sD (dL r13)]) []) ∧
 (FnO prog 51 [V.e (E.sc (S.ptr 0 0)), vD (dI top), vD (dI i), vA [sD (dB r02), sD (dL r13)]] [some (Obj.box [sD (dI w02), sD (dI w12), S.ref 1, sD (dI w32), sD (dI w42), S.ref 2, sD (dI w62), sD (dI w72), S.ref 3]), some (Obj.mat 2 o32), some (Obj.mat 2 o42), some (Obj.mat 2 o52)] (V.tup []) [some (Obj.box [sD (dI b6), sD (dI b7), S.ref 1, sD (dI b8), sD (dI b9), S.ref 2, sD (dI b10), sD (dI b11), S.ref 3]), some (Obj.mat 2 m3), some (Obj.mat 2 m4), some (Obj.mat 2 m5)]) ∧
 (∃ (b12 b13 : Int) (b14 b15 : Int) (b16 b17 : Int) (m6 m7 m8 : DLL),
 (FnO prog 53 [V.e (E.sc (S.ptr 0 0)), vD (dI top), vD (dI i)] [some (Obj.box [sD (dI b6), sD (dI b7), S.ref 1, sD (dI b8), sD (dI b9), S.ref 2, sD (dI b10), sD (dI b11), S.ref 3]), some (Obj.mat 2 m3), some (Obj.mat 2 m4), some (Obj.mat 2 m5)] (V.tup []) [some (Obj.box [sD (dI b12), sD (dI b13), S.ref 4, sD (dI b14), sD (dI b15), S.ref 5, sD (dI b16), sD (dI b17), S.ref 3]), some (Obj.fwd (S.ref 4)), some (Obj.fwd (S.ref 5)), some (Obj.mat 2 m6), some (Obj.mat 2 m7), some (Obj.mat 2 m8)]) ∧
 (J2 b12 b13 b14 b15 b16 b17 m7 m8 m6 ∧ μ2 b12 b13 b14 b15 b16 b17 m7 m8 m6 < μ2 w02 w12 w32 w42 w62 w72 o32 o42 o52)))) ∧
 ((r1 != (0 : Int)) = false →
 ∃ (b18 b19 : Int) (b20 b21 : Int) (b22 b23 : Int) (m9 m10 m11 : DLL),
 (FnO prog 53 [V.e (E.sc (S.ptr 0 0)), vD (dI top), vD (dI i)] [some (Obj.box [sD (dI w02), sD (dI w12), S.ref 1, sD (dI w32), sD (dI w42), S.ref 2, sD (dI w62), sD (dI w72), S.ref 3]), some (Obj.mat 2 o32), some (Obj.mat 2 o42), some (Obj.mat 2 o52)] (V.tup []) [some (Obj.box [sD (dI b18), sD (dI b19), S.ref 4, sD (dI b20), sD (dI b21), S.ref 5, sD (dI b22), sD (dI b23), S.ref 3]), some (Obj.fwd (S.ref 4)), some (Obj.fwd (S.ref 5)), some (Obj.mat 2 m9), some (Obj.mat 2 m10), some (Obj.mat 2 m11)]) ∧
 (J2 b18 b19 b20 b21 b22 b23 m10 m11 m9 ∧ μ2 b18 b19 b20 b21 b22 b23 m10 m11 m9 < μ2 w02 w12 w32 w42 w62 w72 o32 o42 o52)))) ∧
 ((r != (0 : Int)) = false →
 J1 w02 w12 w32 w42 w62 w72 o32 o42 o52 (IntKind.i64.wrap (i + (1 : Int))) ∧ μ1 w02 w12 w32 w42 w62 w72 o32 o42 o52 (IntKind.i64.wrap (i + (1 : Int))) < μ1 w01 w11 w31 w41 w61 w71 o31 o41 o51 i))) ∧
 (decide (i < a0) = false →
 ∃ (x02 : Bool) (x12 : DL) (r3 : Int),
 (0 ≤ top ∧ top < (o31.length : Int)) ∧
 (∃ l, o31[(top).toNat]? = some l ∧ 0 ≤ c ∧ c < (l.length : Int)) ∧
 (at2 o31 (top).toNat (c).toNat = some [dB x02, dL x12]) ∧
 (FnD prog 41 [vA [sD (dB x02), sD (dL x12)]] (vD (dI r3)) []) ∧
 (((r3 == (0 : Int)) = true →
 J0 w01 w11 w31 w41 w61 w71 o31 o41 o51 top (IntKind.i64.wrap (c + (1 : Int))) ∧ μ0 w01 w11 w31 w41 w61 w71 o31 o41 o51 top (IntKind.i64.wrap (c + (1 : Int))) < μ0 w0 w1 w3 w4 w6 w7 o3 o4 o5 top c) ∧
 ((r3 == (0 : Int)) = false →
 ∃ (r4 : Int),
 (FnD prog 41 [vA [sD (dB x02), sD (dL x12)]] (vD (dI r4)) []) ∧
 ((decide (r4 < (0 : Int)) = true →
 ∃ (b24 b25 : Int) (b26 b27 : Int) (b28 b29 : Int) (m12 m13 m14 : DLL),
 (FnO prog 54 [V.e (E.sc (S.ptr 0 0)), vD (dI top)] [some (Obj.box [sD (dI w01), sD (dI w11), S.ref 1, sD (dI w31), sD (dI w41), S.ref 2, sD (dI w61), sD (dI w71), S.ref 3]), some (Obj.mat 2 o31), some (Obj.mat 2 o41), some (Obj.mat 2 o51)] (V.tup []) [some (Obj.box [sD (dI b24), sD (dI b25), S.ref 1, sD (dI b26), sD (dI b27), S.ref 2, sD (dI b28), sD (dI b29), S.ref 3]), some (Obj.mat 2 m12), some (Obj.mat 2 m13), some (Obj.mat 2 m14)]) ∧
 (∃ (J3 : Int → Int → Int → Int → Int → Int → (DLL) → (DLL) → (DLL) → Int → Prop) (μ3 : Int → Int → Int → Int → Int → Int → (DLL) → (DLL) → (DLL) → Int → Nat),
 J3 b24 b25 b26 b27 b28 b29 m12 m13 m14 (0 : Int) ∧ ∀ (w03 w13 : Int) (w33 w43 : Int) (w63 w73 : Int) (o33 o43 o53 : DLL) (i1 : Int), J3 w03 w13 w33 w43 w63 w73 o33 o43 o53 i1 →
 (decide (i1 < top) = true →
 ∃ (x03 : Bool) (x13 : DL) (x04 : Bool) (x14 : DL) (r03 : Bool) (r14 : DL) (r04 : Bool) (r15 : DL) (b30 b31 : Int) (b32 b33 : Int) (b34 b35 : Int) (m15 m16 m17 : DLL),
 (0 ≤ i1 ∧ i1 < (o33.length : Int)) ∧
 (∃ l, o33[(i1).toNat]? = some l ∧ 0 ≤ c ∧ c < (l.length : Int)) ∧
 (at2 o33 (i1).toNat (c).toNat = some [dB x03, dL x13]) ∧
 (0 ≤ top ∧ top < (o33.length : Int)) ∧
 (∃ l, o33[(top).toNat]? = some l ∧ 0 ≤ c ∧ c < (l.length : Int)) ∧
 (at2 o33 (top).toNat (c).toNat = some [dB x04, dL x14]) ∧
 (FnD prog 55 [vA [sD (dB x03), sD (dL x13)], vA [sD (dB x04), sD (dL x14)]] (vA [sD (dB r03), sD (dL r14)]) []) ∧
 (FnD prog 52 [vA [sD (dB r03), sD (dL r14)]] (vA [sD (dB r04), sD (dL r15)]) []) ∧
 (FnO prog 51 [V.e (E.sc (S.ptr 0 0)), vD (dI i1), vD (dI top), vA [sD (dB r04), sD (dL r15)]] [some (Obj.box [sD (dI w03), sD (dI w13), S.ref 1, sD (dI w33), sD (dI w43), S.ref 2, sD (dI w63), sD (dI w73), S.ref 3]), some (Obj.mat 2 o33), some (Obj.mat 2 o43), some (Obj.mat 2 o53)] (V.tup []) [some (Obj.box [sD (dI b30), sD (dI b31), S.ref 1, sD (dI b32), sD (dI b33), S.ref 2, sD (dI b34), sD (dI b35), S.ref 3]), some (Obj.mat 2 m15), some (Obj.mat 2 m16), some (Obj.mat 2 m17)]) ∧
 (J3 b30 b31 b32 b33 b34 b35 m15 m16 m17 (IntKind.i64.wrap (i1 + (1 : Int))) ∧ μ3 b30 b31 b32 b33 b34 b35 m15 m16 m17 (IntKind.i64.wrap (i1 + (1 : Int))) < μ3 w03 w13 w33 w43 w63 w73 o33 o43 o53 i1)) ∧
 (decide (i1 < top) = false →
 J0 w03 w13 w33 w43 w63 w73 o33 o43 o53 (IntKind.i64.wrap (top + (1 : Int))) (IntKind.i64.wrap (c + (1 : Int))) ∧ μ0 w03 w13 w33 w43 w63 w73 o33 o43 o53 (IntKind.i64.wrap (top + (1 : Int))) (IntKind.i64.wrap (c + (1 : Int))) < μ0 w0 w1 w3 w4 w6 w7 o3 o4 o5 top c))) ∧
 (decide (r4 < (0 : Int)) = false →
 ∃ (J4 : Int → Int → Int → Int → Int → Int → (DLL) → (DLL) → (DLL) → Int → Prop) (μ4 : Int → Int → Int → Int → Int → Int → (DLL) → (DLL) → (DLL) → Int → Nat),
 J4 w01 w11 w31 w41 w61 w71 o31 o41 o51 (0 : Int) ∧ ∀ (w04 w14 : Int) (w34 w44 : Int) (w64 w74 : Int) (o34 o44 o54 : DLL) (i2 : Int), J4 w04 w14 w34 w44 w64 w74 o34 o44 o54 i2 →
 (decide (i2 < top) = true →
 ∃ (x05 : Bool) (x15 : DL) (x06 : Bool) (x16 : DL) (r05 : Bool) (r16 : DL) (r06 : Bool) (r17 : DL) (b36 b37 : Int) (b38 b39 : Int) (b40 b41 : Int) (m18 m19 m20 : DLL),
 (0 ≤ i2 ∧ i2 < (o34.length : Int)) ∧
 (∃ l, o34[(i2).toNat]? = some l ∧ 0 ≤ c ∧ c < (l.length : Int)) ∧
 (at2 o34 (i2).toNat (c).toNat = some [dB x05, dL x15]) ∧
 (0 ≤ top ∧ top < (o34.length : Int)) ∧
 (∃ l, o34[(top).toNat]? = some l ∧ 0 ≤ c ∧ c < (l.length : Int)) ∧
 (at2 o34 (top).toNat (c).toNat = some [dB x06, dL x16]) ∧
 (FnD prog 55 [vA [sD (dB x05), sD (dL x15)], vA [sD (dB x06), sD (dL x16)]] (vA [sD (dB r05), sD (dL r16)]) []) ∧
 (FnD prog 52 [vA [sD (dB r05), sD (dL r16)]] (vA [sD (dB r06), sD (dL r17)]) []) ∧
 (FnO prog 51 [V.e (E.sc (S.ptr 0 0)), vD (dI i2), vD (dI top), vA [sD (dB r06), sD (dL r17)]] [some (Obj.box [sD (dI w04), sD (dI w14), S.ref 1, sD (dI w34), sD (dI w44), S.ref 2, sD (dI w64), sD (dI w74), S.ref 3]), some (Obj.mat 2 o34), some (Obj.mat 2 o44), some (Obj.mat 2 o54)] (V.tup []) [some (Obj.box [sD (dI b36), sD (dI b37), S.ref 1, sD (dI b38), sD (dI b39), S.ref 2, sD (dI b40), sD (dI b41), S.ref 3]), some (Obj.mat 2 m18), some (Obj.mat 2 m19), some (Obj.mat 2 m20)]) ∧
 (J4 b36 b37 b38 b39 b40 b41 m18 m19 m20 (IntKind.i64.wrap (i2 + (1 : Int))) ∧ μ4 b36 b37 b38 b39 b40 b41 m18 m19 m20 (IntKind.i64.wrap (i2 + (1 : Int))) < μ4 w04 w14 w34 w44 w64 w74 o34 o44 o54 i2)) ∧
 (decide (i2 < top) = false →
 J0 w04 w14 w34 w44 w64 w74 o34 o44 o54 (IntKind.i64.wrap (top + (1 : Int))) (IntKind.i64.wrap (c + (1 : Int))) ∧ μ0 w04 w14 w34 w44 w64 w74 o34 o44 o54 (IntKind.i64.wrap (top + (1 : Int))) (IntKind.i64.wrap (c + (1 : Int))) < μ0 w0 w1 w3 w4 w6 w7 o3 o4 o5 top c))))))) ∧
 (decide (top < a0) = false →
 R (vA [sD (dI w0), sD (dI w1), sD (dL (matD o3)), sD (dI w3), sD (dI w4), sD (dL (matD o4)), sD (dI w6), sD (dI w7), sD (dL (matD o5))]) [])) ∧
 (decide (c < a1) = false →
 R (vA [sD (dI w0), sD (dI w1), sD (dL (matD o3)), sD (dI w3), sD (dI w4), sD (dL (matD o4)), sD (dI w6), sD (dI w7), sD (dL (matD o5))]) []))
theorem vc23_ok (a0 a1 : Int) (a2 : DL) {R : V → Heap → Prop} (h : vc23 a0 a1 a2 R) : FnG prog 23 [vA [sD (dI a0), sD (dI a1), sD (dL a2)]] [] R :=
  FnG.vcg hT func23 ntmps23 (.reg 2 [(0, Or.none, 0, 1), (1, Or.none, 1, 1)] [1, 2] [0, 1] [] <| .ex fun b => .ex fun b1 => .ex fun b2 => .ex fun b3 => .ex fun b4 => .ex fun b5 => .exm fun m => .exm fun m1 => .exm fun m2 => .reg 4 [(1, Or.callO [] (V.e (E.sc (S.ptr 0 0))) [some (Obj.box [sD (dI b), sD (dI b1), S.ref 1, sD (dI b2), sD (dI b3), S.ref 2, sD (dI b4), sD (dI b5), S.ref 3]), some (Obj.mat 2 m), some (Obj.mat 2 m1), some (Obj.mat 2 m2)], 2, 4)] [1, 2, 3] [0, 1, 2, 3, 4, 5] [] <| .r1 [1, 2, 3, 4] [0, 1, 2, 3, 4, 5] <| .r1 [1, 2, 3, 4, 5] [0, 1, 2, 3, 4, 5] <| .lp [.i, .i, .i, .i, .i, .i, .m, .m, .m, .i, .i] (fun w0 w1 w3 w4 w6 w7 o3 o4 o5 top c => ⟨[(1, vP 0 0), (2, vP 1 0), (3, vP 2 0), (4, vD (dI top)), (5, vD (dI c))], [some (Obj.box [sD (dI a0), sD (dI a1), sD (dL a2)]), some (Obj.box [sD (dI (0 : Int)), sD (dI (0 : Int)), sD (D.raw (.slice none 0 0)), sD (dI (0 : Int)), sD (dI (0 : Int)), sD (D.raw (.slice none 0 0)), sD (dI (0 : Int)), sD (dI (0 : Int)), sD (D.raw (.slice none 0 0))]), some (Obj.box [sD (dI w0), sD (dI w1), S.ref 3, sD (dI w3), sD (dI w4), S.ref 4, sD (dI w6), sD (dI w7), S.ref 5]), some (Obj.mat 2 o3), some (Obj.mat 2 o4), some (Obj.mat 2 o5)], 173⟩) [.i b, .i b1, .i b2, .i b3, .i b4, .i b5, .m m, .m m1, .m m2, .i (0 : Int), .i (0 : Int)] <| .fi fun w0 => .fi fun w1 => .fi fun w3 => .fi fun w4 => .fi fun w6 => .fi fun w7 => .fm fun o3 => .fm fun o4 => .fm fun o5 => .fi fun top => .fi fun c => .beg <| .spl ((decide (c < a1))) (.reg 0 [(4, Or.bool true, 0, 0)] [1, 2, 3, 4, 5, 22] [0, 1, 2, 3, 4, 5] [.old 0] <| .c2 (.r1 [1, 2, 3, 4, 5, 6] [0, 1, 2, 3, 4, 5] <| .lp [.i, .i, .i, .i, .i, .i, .m, .m, .m, .i] (fun w01 w11 w31 w41 w61 w71 o31 o41 o51 i => ⟨[(1, vP 0 0), (2, vP 1 0), (3, vP 2 0), (4, vD (dI top)), (5, vD (dI c)), (6, vD (dI i))], [some (Obj.box [sD (dI a0), sD (dI a1), sD (dL a2)]), some (Obj.box [sD (dI (0 : Int)), sD (dI (0 : Int)), sD (D.raw (.slice none 0 0)), sD (dI (0 : Int)), sD (dI (0 : Int)), sD (D.raw (.slice none 0 0)), sD (dI (0 : Int)), sD (dI (0 : Int)), sD (D.raw (.slice none 0 0))]), some (Obj.box [sD (dI w01), sD (dI w11), S.ref 3, sD (dI w31), sD (dI w41), S.ref 4, sD (dI w61), sD (dI w71), S.ref 5]), some (Obj.mat 2 o31), some (Obj.mat 2 o41), some (Obj.mat 2 o51)], 173⟩) [.i w0, .i w1, .i w3, .i w4, .i w6, .i w7, .m o3, .m o4, .m o5, .i (IntKind.i64.wrap (top + (1 : Int)))] <| .fi fun w01 => .fi fun w11 => .fi fun w31 => .fi fun w41 => .fi fun w61 => .fi fun w71 => .fm fun o31 => .fm fun o41 => .fm fun o51 => .fi fun i => .beg <| .r1 [1, 2, 3, 4, 5, 6, 30] [0, 1, 2, 3, 4, 5] <| .c2 (.viw [1, 2, 3, 4, 5, 6] [0, 1, 2, 3, 4, 5] <| .lp [.i, .i, .i, .i, .i, .i, .m, .m, .m] (fun w02 w12 w32 w42 w62 w72 o32 o42 o52 => ⟨[(1, vP 0 0), (2, vP 1 0), (3, vP 2 0), (4, vD (dI top)), (5, vD (dI c)), (6, vD (dI i))], [some (Obj.box [sD (dI a0), sD (dI a1), sD (dL a2)]), some (Obj.box [sD (dI (0 : Int)), sD (dI (0 : Int)), sD (D.raw (.slice none 0 0)), sD (dI (0 : Int)), sD (dI (0 : Int)), sD (D.raw (.slice none 0 0)), sD (dI (0 : Int)), sD (dI (0 : Int)), sD (D.raw (.slice none 0 0))]), some (Obj.box [sD (dI w02), sD (dI w12), S.ref 3, sD (dI w32), sD (dI w42), S.ref 4, sD (dI w62), sD (dI w72), S.ref 5]), some (Obj.mat 2 o32), some (Obj.mat 2 o42), some (Obj.mat 2 o52)], 173⟩) [.i w01, .i w11, .i w31, .i w41, .i w61, .i w71, .m o31, .m o41, .m o51] <| .fi fun w02 => .fi fun w12 => .fi fun w32 => .fi fun w42 => .fi fun w62 => .fi fun w72 => .fm fun o32 => .fm fun o42 => .fm fun o52 => .beg <| .exb fun x0 => .exl fun x1 => .ex fun r => .reg 0 [(10, Or.cells [dB x0, dL x1], 0, 0), (11, Or.call (vD (dI r)) [] [], 0, 0)] [1, 2, 3, 4, 5, 6, 45] [0, 1, 2, 3, 4, 5] [] <| .c2 (.exb fun x01 => .exl fun x11 => .ex fun r1 => .reg 0 [(10, Or.cells [dB x01, dL x11], 0, 0), (11, Or.call (vD (dI r1)) [] [], 0, 0)] [1, 2, 3, 4, 5, 6, 58] [0, 1, 2, 3, 4, 5] [] <| .c2 (.exb fun r0 => .exl fun r11 => .exb fun r01 => .exl fun r12 => .ex fun r2 => .drw 2 [(10, (Or.cells [dB x01, dL x11], 0, 0), []), (21, (Or.cells [dB x0, dL x1], 0, 0), []), (22, (Or.call (V.tup [E.agg [sD (dB r0), sD (dL r11)], E.agg [sD (dB r01), sD (dL r12)], eD (dI r2)]) [] [], 0, 0), []), (27, (Or.none, 6, 1), [6]), (28, (Or.none, 7, 1), [7]), (29, (Or.none, 0, 0), [6]), (30, (Or.none, 0, 0), [7])] [1, 2, 3, 4, 5, 6, 7] [0, 1, 2, 6, 3, 4, 5] [.old 4, .old 3, .old 2, .old 9, .old 8, .old 7] <| .exb fun r02 => .exl fun r13 => .ex fun b6 => .ex fun b7 => .ex fun b8 => .ex fun b9 => .ex fun b10 => .ex fun b11 => .exm fun m3 => .exm fun m4 => .exm fun m5 => .reg 0 [(4, Or.call (vA [sD (dB r02), sD (dL r13)]) [] [], 0, 0), (5, Or.callO [2, 4, 5, 6] (V.tup []) [some (Obj.box [sD (dI b6), sD (dI b7), S.ref 1, sD (dI b8), sD (dI b9), S.ref 2, sD (dI b10), sD (dI b11), S.ref 3]), some (Obj.mat 2 m3), some (Obj.mat 2 m4), some (Obj.mat 2 m5)], 0, 0)] [1, 2, 3, 4, 5, 6] [0, 1, 2, 4, 5, 6] [] <| .ex fun b12 => .ex fun b13 => .ex fun b14 => .ex fun b15 => .ex fun b16 => .ex fun b17 => .exm fun m6 => .exm fun m7 => .exm fun m8 => .reg 2 [(3, Or.callO [2, 3, 4, 5] (V.tup []) [some (Obj.box [sD (dI b12), sD (dI b13), S.ref 4, sD (dI b14), sD (dI b15), S.ref 5, sD (dI b16), sD (dI b17), S.ref 3]), some (Obj.fwd (S.ref 4)), some (Obj.fwd (S.ref 5)), some (Obj.mat 2 m6), some (Obj.mat 2 m7), some (Obj.mat 2 m8)], 6, 2)] [1, 2, 3, 4, 5, 6] [0, 1, 2, 6, 7, 5] [] <| .bk 0 [.i b12, .i b13, .i b14, .i b15, .i b16, .i b17, .m m7, .m m8, .m m6]) (.ex fun b18 => .ex fun b19 => .ex fun b20 => .ex fun b21 => .ex fun b22 => .ex fun b23 => .exm fun m9 => .exm fun m10 => .exm fun m11 => .reg 2 [(3, Or.callO [2, 3, 4, 5] (V.tup []) [some (Obj.box [sD (dI b18), sD (dI b19), S.ref 4, sD (dI b20), sD (dI b21), S.ref 5, sD (dI b22), sD (dI b23), S.ref 3]), some (Obj.fwd (S.ref 4)), some (Obj.fwd (S.ref 5)), some (Obj.mat 2 m9), some (Obj.mat 2 m10), some (Obj.mat 2 m11)], 6, 2)] [1, 2, 3, 4, 5, 6] [0, 1, 2, 6, 7, 5] [] <| .bk 0 [.i b18, .i b19, .i b20, .i b21, .i b22, .i b23, .m m10, .m m11, .m m9])) (.r1 [1, 2, 3, 4, 5, 6] [0, 1, 2, 3, 4, 5] <| .bk 1 [.i w02, .i w12, .i w32, .i w42, .i w62, .i w72, .m o32, .m o42, .m o52, .i (IntKind.i64.wrap (i + (1 : Int)))])) (.exb fun x02 => .exl fun x12 => .ex fun r3 => .reg 0 [(10, Or.cells [dB x02, dL x12], 0, 0), (11, Or.call (vD (dI r3)) [] [], 0, 0)] [1, 2, 3, 4, 5, 108] [0, 1, 2, 3, 4, 5] [] <| .c2 (.r1 [1, 2, 3, 4, 5] [0, 1, 2, 3, 4, 5] <| .bk 1 [.i w01, .i w11, .i w31, .i w41, .i w61, .i w71, .m o31, .m o41, .m o51, .i top, .i (IntKind.i64.wrap (c + (1 : Int)))]) (.ex fun r4 => .reg 0 [(10, Or.cells [dB x02, dL x12], 0, 0), (11, Or.call (vD (dI r4)) [] [], 0, 0)] [1, 2, 3, 4, 5, 121] [0, 1, 2, 3, 4, 5] [.old 4, .old 3, .old 2] <| .c2 (.ex fun b24 => .ex fun b25 => .ex fun b26 => .ex fun b27 => .ex fun b28 => .ex fun b29 => .exm fun m12 => .exm fun m13 => .exm fun m14 => .reg 0 [(2, Or.callO [2, 3, 4, 5] (V.tup []) [some (Obj.box [sD (dI b24), sD (dI b25), S.ref 1, sD (dI b26), sD (dI b27), S.ref 2, sD (dI b28), sD (dI b29), S.ref 3]), some (Obj.mat 2 m12), some (Obj.mat 2 m13), some (Obj.mat 2 m14)], 0, 0)] [1, 2, 3, 4, 5] [0, 1, 2, 3, 4, 5] [] <| .r1 [1, 2, 3, 4, 5, 10] [0, 1, 2, 3, 4, 5] <| .lp [.i, .i, .i, .i, .i, .i, .m, .m, .m, .i] (fun w03 w13 w33 w43 w63 w73 o33 o43 o53 i1 => ⟨[(1, vP 0 0), (2, vP 1 0), (3, vP 2 0), (4, vD (dI top)), (5, vD (dI c)), (10, vD (dI i1))], [some (Obj.box [sD (dI a0), sD (dI a1), sD (dL a2)]), some (Obj.box [sD (dI (0 : Int)), sD (dI (0 : Int)), sD (D.raw (.slice none 0 0)), sD (dI (0 : Int)), sD (dI (0 : Int)), sD (D.raw (.slice none 0 0)), sD (dI (0 : Int)), sD (dI (0 : Int)), sD (D.raw (.slice none 0 0))]), some (Obj.box [sD (dI w03), sD (dI w13), S.ref 3, sD (dI w33), sD (dI w43), S.ref 4, sD (dI w63), sD (dI w73), S.ref 5]), some (Obj.mat 2 o33), some (Obj.mat 2 o43), some (Obj.mat 2 o53)], 173⟩) [.i b24, .i b25, .i b26, .i b27, .i b28, .i b29, .m m12, .m m13, .m m14, .i (0 : Int)] <| .fi fun w03 => .fi fun w13 => .fi fun w33 => .fi fun w43 => .fi fun w63 => .fi fun w73 => .fm fun o33 => .fm fun o43 => .fm fun o53 => .fi fun i1 => .beg <| .r1 [1, 2, 3, 4, 5, 10, 127] [0, 1, 2, 3, 4, 5] <| .c2 (.exb fun x03 => .exl fun x13 => .exb fun x04 => .exl fun x14 => .exb fun r03 => .exl fun r14 => .exb fun r04 => .exl fun r15 => .ex fun b30 => .ex fun b31 => .ex fun b32 => .ex fun b33 => .ex fun b34 => .ex fun b35 => .exm fun m15 => .exm fun m16 => .exm fun m17 => .drw 0 [(13, (Or.cells [dB x03, dL x13], 0, 0), []), (24, (Or.cells [dB x04, dL x14], 0, 0), []), (25, (Or.call (vA [sD (dB r03), sD (dL r14)]) [] [], 0, 0), []), (26, (Or.call (vA [sD (dB r04), sD (dL r15)]) [] [], 0, 0), []), (27, (Or.callO [2, 3, 4, 5] (V.tup []) [some (Obj.box [sD (dI b30), sD (dI b31), S.ref 1, sD (dI b32), sD (dI b33), S.ref 2, sD (dI b34), sD (dI b35), S.ref 3]), some (Obj.mat 2 m15), some (Obj.mat 2 m16), some (Obj.mat 2 m17)], 0, 0), [2, 3, 4, 5])] [1, 2, 3, 4, 5, 10] [0, 1, 2, 3, 4, 5] [] <| .r1 [1, 2, 3, 4, 5, 10] [0, 1, 2, 3, 4, 5] <| .bk 0 [.i b30, .i b31, .i b32, .i b33, .i b34, .i b35, .m m15, .m m16, .m m17, .i (IntKind.i64.wrap (i1 + (1 : Int)))]) (.r1 [1, 2, 3, 4, 5] [0, 1, 2, 3, 4, 5] <| .r1 [1, 2, 3, 4, 5] [0, 1, 2, 3, 4, 5] <| .bk 2 [.i w03, .i w13, .i w33, .i w43, .i w63, .i w73, .m o33, .m o43, .m o53, .i (IntKind.i64.wrap (top + (1 : Int))), .i (IntKind.i64.wrap (c + (1 : Int)))])) (.r1 [1, 2, 3, 4, 5, 10] [0, 1, 2, 3, 4, 5] <| .lp [.i, .i, .i, .i, .i, .i, .m, .m, .m, .i] (fun w04 w14 w34 w44 w64 w74 o34 o44 o54 i2 => ⟨[(1, vP 0 0), (2, vP 1 0), (3, vP 2 0), (4, vD (dI top)), (5, vD (dI c)), (10, vD (dI i2))], [some (Obj.box [sD (dI a0), sD (dI a1), sD (dL a2)]), some (Obj.box [sD (dI (0 : Int)), sD (dI (0 : Int)), sD (D.raw (.slice none 0 0)), sD (dI (0 : Int)), sD (dI (0 : Int)), sD (D.raw (.slice none 0 0)), sD (dI (0 : Int)), sD (dI (0 : Int)), sD (D.raw (.slice none 0 0))]), some (Obj.box [sD (dI w04), sD (dI w14), S.ref 3, sD (dI w34), sD (dI w44), S.ref 4, sD (dI w64), sD (dI w74), S.ref 5]), some (Obj.mat 2 o34), some (Obj.mat 2 o44), some (Obj.mat 2 o54)], 173⟩) [.i w01, .i w11, .i w31, .i w41, .i w61, .i w71, .m o31, .m o41, .m o51, .i (0 : Int)] <| .fi fun w04 => .fi fun w14 => .fi fun w34 => .fi fun w44 => .fi fun w64 => .fi fun w74 => .fm fun o34 => .fm fun o44 => .fm fun o54 => .fi fun i2 => .beg <| .r1 [1, 2, 3, 4, 5, 10, 127] [0, 1, 2, 3, 4, 5] <| .c2 (.exb fun x05 => .exl fun x15 => .exb fun x06 => .exl fun x16 => .exb fun r05 => .exl fun r16 => .exb fun r06 => .exl fun r17 => .ex fun b36 => .ex fun b37 => .ex fun b38 => .ex fun b39 => .ex fun b40 => .ex fun b41 => .exm fun m18 => .exm fun m19 => .exm fun m20 => .drw 0 [(13, (Or.cells [dB x05, dL x15], 0, 0), []), (24, (Or.cells [dB x06, dL x16], 0, 0), []), (25, (Or.call (vA [sD (dB r05), sD (dL r16)]) [] [], 0, 0), []), (26, (Or.call (vA [sD (dB r06), sD (dL r17)]) [] [], 0, 0), []), (27, (Or.callO [2, 3, 4, 5] (V.tup []) [some (Obj.box [sD (dI b36), sD (dI b37), S.ref 1, sD (dI b38), sD (dI b39), S.ref 2, sD (dI b40), sD (dI b41), S.ref 3]), some (Obj.mat 2 m18), some (Obj.mat 2 m19), some (Obj.mat 2 m20)], 0, 0), [2, 3, 4, 5])] [1, 2, 3, 4, 5, 10] [0, 1, 2, 3, 4, 5] [] <| .r1 [1, 2, 3, 4, 5, 10] [0, 1, 2, 3, 4, 5] <| .bk 0 [.i b36, .i b37, .i b38, .i b39, .i b40, .i b41, .m m18, .m m19, .m m20, .i (IntKind.i64.wrap (i2 + (1 : Int)))]) (.r1 [1, 2, 3, 4, 5] [0, 1, 2, 3, 4, 5] <| .r1 [1, 2, 3, 4, 5] [0, 1, 2, 3, 4, 5] <| .bk 2 [.i w04, .i w14, .i w34, .i w44, .i w64, .i w74, .m o34, .m o44, .m o54, .i (IntKind.i64.wrap (top + (1 : Int))), .i (IntKind.i64.wrap (c + (1 : Int)))]))))) (.drw 0 [(13, (Or.none, 0, 0), [1])] [2] [1, 3, 4, 5] [] <| .frz [1, 2, 3] <| .ret [])) (.reg 0 [(4, Or.bool false, 0, 0)] [1, 2, 3, 4, 5, 22] [0, 1, 2, 3, 4, 5] [.old 0] <| .ct false none <| .drw 0 [(13, (Or.none, 0, 0), [1])] [2] [1, 3, 4, 5] [] <| .frz [1, 2, 3] <| .ret []))
    (by kernel_rfl) (by kernel_rfl) (by kernel_rfl) h
end Go.AM
/- What functions of the program come to: group Ob. Printed by vc.py. -/
set_option maxRecDepth 100000
set_option linter.unusedVariables false
namespace Go.AM
open Go.Proofs.Tryz
def vc49 (a0 a1 : Int) (a2 : DL) (R : V → Heap → Prop) : Prop :=
 ∃ (r0 r1 : Int) (rrows : DLL) (r01 r11 : Int) (rrows1 : DLL) (r02 r12 : Int) (rrows2 : DLL),
 (FnD prog 42 [vA [sD (dI a0), sD (dI a1), sD (dL a2)]] (vA [sD (dI r0), sD (dI r1), S.ref 0]) [some (Obj.mat 2 rrows)]) ∧
 (FnD prog 30 [vD (dI a0)] (vA [sD (dI r01), sD (dI r11), S.ref 0]) [some (Obj.mat 2 rrows1)]) ∧
 (FnD prog 30 [vD (dI a0)] (vA [sD (dI r02), sD (dI r12), S.ref 0]) [some (Obj.mat 2 rrows2)]) ∧
 (R (V.e (E.sc (S.ptr 0 0))) [some (Obj.box [sD (dI r0), sD (dI r1), S.ref 1, sD (dI r01), sD (dI r11), S.ref 2, sD (dI r02), sD (dI r12), S.ref 3]), some (Obj.mat 2 rrows), some (Obj.mat 2 rrows1), some (Obj.mat 2 rrows2)])
theorem vc49_ok (a0 a1 : Int) (a2 : DL) {R : V → Heap → Prop} (h : vc49 a0 a1 a2 R) : FnG prog 49 [vA [sD (dI a0), sD (dI a1), sD (dL a2)]] [] R :=
  FnG.vcg hT func49 ntmps49 (.reg 1 [(0, Or.none, 0, 1)] [1] [0] [] <| .ex fun r0 => .ex fun r1 => .exm fun rrows => .ex fun r01 => .ex fun r11 => .exm fun rrows1 => .ex fun r02 => .ex fun r12 => .exm fun rrows2 => .drw 4 [(1, (Or.call (vA [sD (dI r0), sD (dI r1), S.ref 0]) [some (Obj.mat 2 rrows)] [], 1, 1), [1]), (4, (Or.call (vA [sD (dI r01), sD (dI r11), S.ref 0]) [some (Obj.mat 2 rrows1)] [], 2, 1), [2]), (7, (Or.call (vA [sD (dI r02), sD (dI r12), S.ref 0]) [some (Obj.mat 2 rrows2)] [], 3, 1), [3]), (9, (Or.none, 4, 1), [4])] [2] [4, 1, 2, 3] [] <| .ret [0, 1, 2, 3])
    (by kernel_rfl) (by kernel_rfl) (by kernel_rfl) h
def vc53 (w0 w1 : Int) (w2 : DLL) (w3 w4 : Int) (w5 : DLL) (w6 w7 : Int) (w8 : DLL) (i j : Int) (R : V → Heap → Prop) : Prop :=
 (0 ≤ i ∧ i < (w2.length : Int)) ∧
 ((0 ≤ j ∧ j < (w2.length : Int)) ∧
 (((j).toNat = (j).toNat) ∧
 ((i).toNat = (i).toNat) ∧
 ((0 ≤ i ∧ i < (w5.length : Int)) ∧
 ((0 ≤ j ∧ j < (w5.length : Int)) ∧
 (∃ (J0 : (DLL) → Int → Prop) (μ0 : (DLL) → Int → Nat),
 J0 w8 (0 : Int) ∧ ∀ (o3 : DLL) (r : Int), J0 o3 r →
 (decide (r < w6) = true →
 ∃ (x0 : Bool) (x1 : DL),
 (0 ≤ r ∧ r < (o3.length : Int)) ∧
 (∃ l, o3[(r).toNat]? = some l ∧ 0 ≤ i ∧ i < (l.length : Int)) ∧
 (at2 o3 (r).toNat (i).toNat = some [dB x0, dL x1]) ∧
 (∃ (x01 : Bool) (x11 : DL),
 (∃ l, o3[(r).toNat]? = some l ∧ 0 ≤ j ∧ j < (l.length : Int)) ∧
 (at2 o3 (r).toNat (j).toNat = some [dB x01, dL x11]) ∧
 ((0 ≤ r ∧ r < ((o3.modify (r).toNat (fun qz => qz.set (i).toNat [dB x01, dL x11])).length : Int)) ∧
 (∃ l, (o3.modify (r).toNat (fun qz => qz.set (i).toNat [dB x01, dL x11]))[(r).toNat]? = some l ∧ 0 ≤ j ∧ j < (l.length : Int)) ∧
 (J0 ((o3.modify (r).toNat (fun qz => qz.set (i).toNat [dB x01, dL x11])).modify (r).toNat (fun qz => qz.set (j).toNat [dB x0, dL x1])) (IntKind.i64.wrap (r + (1 : Int))) ∧ μ0 ((o3.modify (r).toNat (fun qz => qz.set (i).toNat [dB x01, dL x11])).modify (r).toNat (fun qz => qz.set (j).toNat [dB x0, dL x1])) (IntKind.i64.wrap (r + (1 : Int))) < μ0 o3 r)))) ∧
 (decide (r < w6) = false →
 R (V.tup []) [some (Obj.box [sD (dI w0), sD (dI w1), S.ref 4, sD (dI w3), sD (dI w4), S.ref 5, sD (dI w6), sD (dI w7), S.ref 3]), some (Obj.fwd (S.ref 4)), some (Obj.fwd (S.ref 5)), some (Obj.mat 2 o3), some (Obj.mat 2 (swapR w2 ((i).toNat) ((j).toNat))), some (Obj.mat 2 (swapR w5 ((i).toNat) ((j).toNat)))]))))))
theorem vc53_ok (w0 w1 : Int) (w2 : DLL) (w3 w4 : Int) (w5 : DLL) (w6 w7 : Int) (w8 : DLL) (i j : Int) {R : V → Heap → Prop} (h : vc53 w0 w1 w2 w3 w4 w5 w6 w7 w8 i j R) : FnG prog 53 [V.e (E.sc (S.ptr 0 0)), vD (dI i), vD (dI j)] [some (Obj.box [sD (dI w0), sD (dI w1), S.ref 1, sD (dI w3), sD (dI w4), S.ref 2, sD (dI w6), sD (dI w7), S.ref 3]), some (Obj.mat 2 w2), some (Obj.mat 2 w5), some (Obj.mat 2 w8)] R :=
  FnG.vcg hT func53 ntmps53 (.r1 [0, 1, 2, 6] [0, 1, 2, 3] <| .drw 0 [(15, (Or.none, 0, 0), [1])] [0, 1, 2, 6] [0, 1, 2, 3] [.new, .old 1] <| .reg 1 [(8, Or.none, 4, 1)] [0, 1, 2] [0, 1, 2, 3, 4] [.old 0] <| .fwd [] [0] <| .r1 [0, 1, 2, 6] [0, 1, 2, 3, 4] <| .fwd [] [] <| .drw 0 [(15, (Or.none, 0, 0), [2])] [0, 1, 2, 6] [0, 1, 2, 3, 4] [.new, .old 1] <| .fwd [] [] <| .reg 1 [(8, Or.none, 5, 1)] [0, 1, 2] [0, 1, 2, 3, 4, 5] [.old 0, .old 3, .old 2] <| .fwd [] [0] <| .r1 [0, 1, 2, 7] [0, 1, 2, 3, 4, 5] <| .fwd [] [] <| .lp [.m, .i] (fun o3 r => ⟨[(0, vP 0 0), (1, vD (dI i)), (2, vD (dI j)), (7, vD (dI r))], [some (Obj.box [sD (dI w0), sD (dI w1), S.ref 4, sD (dI w3), sD (dI w4), S.ref 5, sD (dI w6), sD (dI w7), S.ref 3]), some (Obj.fwd (S.ref 4)), some (Obj.fwd (S.ref 5)), some (Obj.mat 2 o3), some (Obj.mat 2 (swapR w2 ((i).toNat) ((j).toNat))), some (Obj.mat 2 (swapR w5 ((i).toNat) ((j).toNat)))], 123⟩) [.m w8, .i (0 : Int)] <| .fm fun o3 => .fi fun r => .beg <| .r1 [0, 1, 2, 7, 77] [0, 1, 2, 3, 4, 5] <| .fwd [] [] <| .c2 (.exb fun x0 => .exl fun x1 => .reg 1 [(10, Or.cells [dB x0, dL x1], 0, 0), (11, Or.none, 6, 1)] [0, 1, 2, 7, 8] [0, 1, 2, 3, 6, 4, 5] [] <| .fwd [] [] <| .exb fun x01 => .exl fun x11 => .drw 0 [(19, (Or.cells [dB x01, dL x11], 0, 0), []), (21, (Or.none, 0, 0), [3])] [0, 1, 2, 7, 8] [0, 1, 2, 3, 4, 5, 6] [.old 2, .old 2, .new, .new, .old 3] <| .fwd [] [] <| .drw 0 [(11, (Or.none, 0, 0), [3])] [0, 1, 2, 7] [0, 1, 2, 3, 5, 6] [] <| .fwd [] [] <| .r1 [0, 1, 2, 7] [0, 1, 2, 3, 4, 5] <| .fwd [] [] <| .bk 0 [.m ((o3.modify (r).toNat (fun qz => qz.set (i).toNat [dB x01, dL x11])).modify (r).toNat (fun qz => qz.set (j).toNat [dB x0, dL x1])), .i (IntKind.i64.wrap (r + (1 : Int)))]) (.ret [0, 1, 2, 3, 4, 5]))
    (by kernel_rfl) (by kernel_rfl) (by kernel_rfl) h
def vc54 (w0 w1 : Int) (w2 : DLL) (w3 w4 : Int) (w5 : DLL) (w6 w7 : Int) (w8 : DLL) (i : Int) (R : V → Heap → Prop) : Prop :=
 ∃ (J0 : (DLL) → Int → Prop) (μ0 : (DLL) → Int → Nat),
 J0 w2 (0 : Int) ∧ ∀ (o1 : DLL) (c : Int), J0 o1 c →
 (decide (c < w1) = true →
 ∃ (x0 : Bool) (x1 : DL) (r0 : Bool) (r1 : DL),
 (0 ≤ i ∧ i < (o1.length : Int)) ∧
 (∃ l, o1[(i).toNat]? = some l ∧ 0 ≤ c ∧ c < (l.length : Int)) ∧
 (at2 o1 (i).toNat (c).toNat = some [dB x0, dL x1]) ∧
 (FnD prog 52 [vA [sD (dB x0), sD (dL x1)]] (vA [sD (dB r0), sD (dL r1)]) []) ∧
 (J0 (o1.modify (i).toNat (fun qz => qz.set (c).toNat [dB r0, dL r1])) (IntKind.i64.wrap (c + (1 : Int))) ∧ μ0 (o1.modify (i).toNat (fun qz => qz.set (c).toNat [dB r0, dL r1])) (IntKind.i64.wrap (c + (1 : Int))) < μ0 o1 c)) ∧
 (decide (c < w1) = false →
 ∃ (J1 : (DLL) → Int → Prop) (μ1 : (DLL) → Int → Nat),
 J1 w5 (0 : Int) ∧ ∀ (o2 : DLL) (c1 : Int), J1 o2 c1 →
 (decide (c1 < w4) = true →
 ∃ (x01 : Bool) (x11 : DL) (r01 : Bool) (r11 : DL),
 (0 ≤ i ∧ i < (o2.length : Int)) ∧
 (∃ l, o2[(i).toNat]? = some l ∧ 0 ≤ c1 ∧ c1 < (l.length : Int)) ∧
 (at2 o2 (i).toNat (c1).toNat = some [dB x01, dL x11]) ∧
 (FnD prog 52 [vA [sD (dB x01), sD (dL x11)]] (vA [sD (dB r01), sD (dL r11)]) []) ∧
 (J1 (o2.modify (i).toNat (fun qz => qz.set (c1).toNat [dB r01, dL r11])) (IntKind.i64.wrap (c1 + (1 : Int))) ∧ μ1 (o2.modify (i).toNat (fun qz => qz.set (c1).toNat [dB r01, dL r11])) (IntKind.i64.wrap (c1 + (1 : Int))) < μ1 o2 c1)) ∧
 (decide (c1 < w4) = false →
 ∃ (J2 : (DLL) → Int → Prop) (μ2 : (DLL) → Int → Nat),
 J2 w8 (0 : Int) ∧ ∀ (o3 : DLL) (r : Int), J2 o3 r →
 (decide (r < w6) = true →
 ∃ (x02 : Bool) (x12 : DL) (r02 : Bool) (r12 : DL),
 (0 ≤ r ∧ r < (o3.length : Int)) ∧
 (∃ l, o3[(r).toNat]? = some l ∧ 0 ≤ i ∧ i < (l.length : Int)) ∧
 (at2 o3 (r).toNat (i).toNat = some [dB x02, dL x12]) ∧
 (FnD prog 52 [vA [sD (dB x02), sD (dL x12)]] (vA [sD (dB r02), sD (dL r12)]) []) ∧
 (J2 (o3.modify (r).toNat (fun qz => qz.set (i).toNat [dB r02, dL r12])) (IntKind.i64.wrap (r + (1 : Int))) ∧ μ2 (o3.modify (r).toNat (fun qz => qz.set (i).toNat [dB r02, dL r12])) (IntKind.i64.wrap (r + (1 : Int))) < μ2 o3 r)) ∧
 (decide (r < w6) = false →
 R (V.tup []) [some (Obj.box [sD (dI w0), sD (dI w1), S.ref 1, sD (dI w3), sD (dI w4), S.ref 2, sD (dI w6), sD (dI w7), S.ref 3]), some (Obj.mat 2 o1), some (Obj.mat 2 o2), some (Obj.mat 2 o3)])))
theorem vc54_ok (w0 w1 : Int) (w2 : DLL) (w3 w4 : Int) (w5 : DLL) (w6 w7 : Int) (w8 : DLL) (i : Int) {R : V → Heap → Prop} (h : vc54 w0 w1 w2 w3 w4 w5 w6 w7 w8 i R) : FnG prog 54 [V.e (E.sc (S.ptr 0 0)), vD (dI i)] [some (Obj.box [sD (dI w0), sD (dI w1), S.ref 1, sD (dI w3), sD (dI w4), S.ref 2, sD (dI w6), sD (dI w7), S.ref 3]), some (Obj.mat 2 w2), some (Obj.mat 2 w5), some (Obj.mat 2 w8)] R :=
  FnG.vcg hT func54 ntmps54 (.r1 [0, 1, 4] [0, 1, 2, 3] <| .lp [.m, .i] (fun o1 c => ⟨[(0, vP 0 0), (1, vD (dI i)), (4, vD (dI c))], [some (Obj.box [sD (dI w0), sD (dI w1), S.ref 1, sD (dI w3), sD (dI w4), S.ref 2, sD (dI w6), sD (dI w7), S.ref 3]), some (Obj.mat 2 o1), some (Obj.mat 2 w5), some (Obj.mat 2 w8)], 100⟩) [.m w2, .i (0 : Int)] <| .fm fun o1 => .fi fun c => .beg <| .r1 [0, 1, 4, 13] [0, 1, 2, 3] <| .c2 (.exb fun x0 => .exl fun x1 => .exb fun r0 => .exl fun r1 => .drw 0 [(19, (Or.cells [dB x0, dL x1], 0, 0), []), (20, (Or.call (vA [sD (dB r0), sD (dL r1)]) [] [], 0, 0), []), (22, (Or.none, 0, 0), [1])] [0, 1, 4] [0, 1, 2, 3] [.new, .old 0, .new, .new, .new, .old 2] <| .r1 [0, 1, 4] [0, 1, 2, 3] <| .bk 0 [.m (o1.modify (i).toNat (fun qz => qz.set (c).toNat [dB r0, dL r1])), .i (IntKind.i64.wrap (c + (1 : Int)))]) (.r1 [0, 1, 5] [0, 1, 2, 3] <| .lp [.m, .i] (fun o2 c1 => ⟨[(0, vP 0 0), (1, vD (dI i)), (5, vD (dI c1))], [some (Obj.box [sD (dI w0), sD (dI w1), S.ref 1, sD (dI w3), sD (dI w4), S.ref 2, sD (dI w6), sD (dI w7), S.ref 3]), some (Obj.mat 2 o1), some (Obj.mat 2 o2), some (Obj.mat 2 w8)], 100⟩) [.m w5, .i (0 : Int)] <| .fm fun o2 => .fi fun c1 => .beg <| .r1 [0, 1, 5, 44] [0, 1, 2, 3] <| .c2 (.exb fun x01 => .exl fun x11 => .exb fun r01 => .exl fun r11 => .drw 0 [(19, (Or.cells [dB x01, dL x11], 0, 0), []), (20, (Or.call (vA [sD (dB r01), sD (dL r11)]) [] [], 0, 0), []), (22, (Or.none, 0, 0), [2])] [0, 1, 5] [0, 1, 2, 3] [.new, .old 0, .new, .new, .new, .old 2] <| .r1 [0, 1, 5] [0, 1, 2, 3] <| .bk 0 [.m (o2.modify (i).toNat (fun qz => qz.set (c1).toNat [dB r01, dL r11])), .i (IntKind.i64.wrap (c1 + (1 : Int)))]) (.r1 [0, 1, 6] [0, 1, 2, 3] <| .lp [.m, .i] (fun o3 r => ⟨[(0, vP 0 0), (1, vD (dI i)), (6, vD (dI r))], [some (Obj.box [sD (dI w0), sD (dI w1), S.ref 1, sD (dI w3), sD (dI w4), S.ref 2, sD (dI w6), sD (dI w7), S.ref 3]), some (Obj.mat 2 o1), some (Obj.mat 2 o2), some (Obj.mat 2 o3)], 100⟩) [.m w8, .i (0 : Int)] <| .fm fun o3 => .fi fun r => .beg <| .r1 [0, 1, 6, 75] [0, 1, 2, 3] <| .c2 (.exb fun x02 => .exl fun x12 => .exb fun r02 => .exl fun r12 => .drw 0 [(19, (Or.cells [dB x02, dL x12], 0, 0), []), (20, (Or.call (vA [sD (dB r02), sD (dL r12)]) [] [], 0, 0), []), (22, (Or.none, 0, 0), [3])] [0, 1, 6] [0, 1, 2, 3] [.new, .old 0, .new, .new, .new, .old 2] <| .r1 [0, 1, 6] [0, 1, 2, 3] <| .bk 0 [.m (o3.modify (r).toNat (fun qz => qz.set (i).toNat [dB r02, dL r12])), .i (IntKind.i64.wrap (r + (1 : Int)))]) (.ret [0, 1, 2, 3]))))
    (by kernel_rfl) (by kernel_rfl) (by kernel_rfl) h
def vc51 (w0 w1 : Int) (w2 : DLL) (w3 w4 : Int) (w5 : DLL) (w6 w7 : Int) (w8 : DLL) (i j : Int) (k0 : Bool) (k1 : DL) (R : V → Heap → Prop) : Prop :=
 ∃ (J0 : (DLL) → Int → Prop) (μ0 : (DLL) → Int → Nat),
 J0 w2 (0 : Int) ∧ ∀ (o1 : DLL) (c : Int), J0 o1 c →
 (decide (c < w1) = true →
 ∃ (x0 : Bool) (x1 : DL) (x01 : Bool) (x11 : DL) (r0 : Bool) (r1 : DL) (r01 : Bool) (r11 : DL),
 (0 ≤ i ∧ i < (o1.length : Int)) ∧
 (∃ l, o1[(i).toNat]? = some l ∧ 0 ≤ c ∧ c < (l.length : Int)) ∧
 (at2 o1 (i).toNat (c).toNat = some [dB x0, dL x1]) ∧
 (0 ≤ j ∧ j < (o1.length : Int)) ∧
 (∃ l, o1[(j).toNat]? = some l ∧ 0 ≤ c ∧ c < (l.length : Int)) ∧
 (at2 o1 (j).toNat (c).toNat = some [dB x01, dL x11]) ∧
 (FnD prog 91 [vA [sD (dB k0), sD (dL k1)], vA [sD (dB x01), sD (dL x11)]] (vA [sD (dB r0), sD (dL r1)]) []) ∧
 (FnD prog 24 [vA [sD (dB x0), sD (dL x1)], vA [sD (dB r0), sD (dL r1)]] (vA [sD (dB r01), sD (dL r11)]) []) ∧
 (J0 (o1.modify (i).toNat (fun qz => qz.set (c).toNat [dB r01, dL r11])) (IntKind.i64.wrap (c + (1 : Int))) ∧ μ0 (o1.modify (i).toNat (fun qz => qz.set (c).toNat [dB r01, dL r11])) (IntKind.i64.wrap (c + (1 : Int))) < μ0 o1 c)) ∧
 (decide (c < w1) = false →
 ∃ (J1 : (DLL) → Int → Prop) (μ1 : (DLL) → Int → Nat),
 J1 w5 (0 : Int) ∧ ∀ (o2 : DLL) (c1 : Int), J1 o2 c1 →
 (decide (c1 < w4) = true →
 ∃ (x02 : Bool) (x12 : DL) (x03 : Bool) (x13 : DL) (r02 : Bool) (r12 : DL) (r03 : Bool) (r13 : DL),
 (0 ≤ i ∧ i < (o2.length : Int)) ∧
 (∃ l, o2[(i).toNat]? = some l ∧ 0 ≤ c1 ∧ c1 < (l.length : Int)) ∧
 (at2 o2 (i).toNat (c1).toNat = some [dB x02, dL x12]) ∧
 (0 ≤ j ∧ j < (o2.length : Int)) ∧
 (∃ l, o2[(j).toNat]? = some l ∧ 0 ≤ c1 ∧ c1 < (l.length : Int)) ∧
 (at2 o2 (j).toNat (c1).toNat = some [dB x03, dL x13]) ∧
 (FnD prog 91 [vA [sD (dB k0), sD (dL k1)], vA [sD (dB x03), sD (dL x13)]] (vA [sD (dB r02), sD (dL r12)]) []) ∧
 (FnD prog 24 [vA [sD (dB x02), sD (dL x12)], vA [sD (dB r02), sD (dL r12)]] (vA [sD (dB r03), sD (dL r13)]) []) ∧
 (J1 (o2.modify (i).toNat (fun qz => qz.set (c1).toNat [dB r03, dL r13])) (IntKind.i64.wrap (c1 + (1 : Int))) ∧ μ1 (o2.modify (i).toNat (fun qz => qz.set (c1).toNat [dB r03, dL r13])) (IntKind.i64.wrap (c1 + (1 : Int))) < μ1 o2 c1)) ∧
 (decide (c1 < w4) = false →
 ∃ (J2 : (DLL) → Int → Prop) (μ2 : (DLL) → Int → Nat),
 J2 w8 (0 : Int) ∧ ∀ (o3 : DLL) (r : Int), J2 o3 r →
 (decide (r < w6) = true →
 ∃ (x04 : Bool) (x14 : DL) (x05 : Bool) (x15 : DL) (r04 : Bool) (r14 : DL) (r05 : Bool) (r15 : DL),
 (0 ≤ r ∧ r < (o3.length : Int)) ∧
 (∃ l, o3[(r).toNat]? = some l ∧ 0 ≤ j ∧ j < (l.length : Int)) ∧
 (at2 o3 (r).toNat (j).toNat = some [dB x04, dL x14]) ∧
 (∃ l, o3[(r).toNat]? = some l ∧ 0 ≤ i ∧ i < (l.length : Int)) ∧
 (at2 o3 (r).toNat (i).toNat = some [dB x05, dL x15]) ∧
 (FnD prog 91 [vA [sD (dB k0), sD (dL k1)], vA [sD (dB x05), sD (dL x15)]] (vA [sD (dB r04), sD (dL r14)]) []) ∧
 (FnD prog 90 [vA [sD (dB x04), sD (dL x14)], vA [sD (dB r04), sD (dL r14)]] (vA [sD (dB r05), sD (dL r15)]) []) ∧
 (J2 (o3.modify (r).toNat (fun qz => qz.set (j).toNat [dB r05, dL r15])) (IntKind.i64.wrap (r + (1 : Int))) ∧ μ2 (o3.modify (r).toNat (fun qz => qz.set (j).toNat [dB r05, dL r15])) (IntKind.i64.wrap (r + (1 : Int))) < μ2 o3 r)) ∧
 (decide (r < w6) = false →
 R (V.tup []) [some (Obj.box [sD (dI w0), sD (dI w1), S.ref 1, sD (dI w3), sD (dI w4), S.ref 2, sD (dI w6), sD (dI w7), S.ref 3]), some (Obj.mat 2 o1), some (Obj.mat 2 o2), some (Obj.mat 2 o3)])))
theorem vc51_ok (w0 w1 : Int) (w2 : DLL) (w3 w4 : Int) (w5 : DLL) (w6 w7 : Int) (w8 : DLL) (i j : Int) (k0 : Bool) (k1 : DL) {R : V → Heap → Prop} (h : vc51 w0 w1 w2 w3 w4 w5 w6 w7 w8 i j k0 k1 R) : FnG prog 51 [V.e (E.sc (S.ptr 0 0)), vD (dI i), vD (dI j), vA [sD (dB k0), sD (dL k1)]] [some (Obj.box [sD (dI w0), sD (dI w1), S.ref 1, sD (dI w3), sD (dI w4), S.ref 2, sD (dI w6), sD (dI w7), S.ref 3]), some (Obj.mat 2 w2), some (Obj.mat 2 w5), some (Obj.mat 2 w8)] R :=
  FnG.vcg hT func51 ntmps51 (.reg 1 [(0, Or.none, 4, 1)] [0, 1, 2, 7] [0, 1, 2, 3, 4] [] <| .r1 [0, 1, 2, 7, 8] [0, 1, 2, 3, 4] <| .lp [.m, .i] (fun o1 c => ⟨[(0, vP 0 0), (1, vD (dI i)), (2, vD (dI j)), (7, vP 4 0), (8, vD (dI c))], [some (Obj.box [sD (dI w0), sD (dI w1), S.ref 1, sD (dI w3), sD (dI w4), S.ref 2, sD (dI w6), sD (dI w7), S.ref 3]), some (Obj.mat 2 o1), some (Obj.mat 2 w5), some (Obj.mat 2 w8), some (Obj.box [sD (dB k0), sD (dL k1)])], 143⟩) [.m w2, .i (0 : Int)] <| .fm fun o1 => .fi fun c => .beg <| .r1 [0, 1, 2, 7, 8, 17] [0, 1, 2, 3, 4] <| .c2 (.exb fun x0 => .exl fun x1 => .exb fun x01 => .exl fun x11 => .exb fun r0 => .exl fun r1 => .exb fun r01 => .exl fun r11 => .drw 0 [(19, (Or.cells [dB x0, dL x1], 0, 0), []), (31, (Or.cells [dB x01, dL x11], 0, 0), []), (32, (Or.call (vA [sD (dB r0), sD (dL r1)]) [] [], 0, 0), []), (33, (Or.call (vA [sD (dB r01), sD (dL r11)]) [] [], 0, 0), []), (35, (Or.none, 0, 0), [1])] [0, 1, 2, 7, 8] [0, 1, 2, 3, 4] [.new, .old 0, .new, .new, .new, .new, .new, .new, .new, .old 6] <| .r1 [0, 1, 2, 7, 8] [0, 1, 2, 3, 4] <| .bk 0 [.m (o1.modify (i).toNat (fun qz => qz.set (c).toNat [dB r01, dL r11])), .i (IntKind.i64.wrap (c + (1 : Int)))]) (.r1 [0, 1, 2, 7, 9] [0, 1, 2, 3, 4] <| .lp [.m, .i] (fun o2 c1 => ⟨[(0, vP 0 0), (1, vD (dI i)), (2, vD (dI j)), (7, vP 4 0), (9, vD (dI c1))], [some (Obj.box [sD (dI w0), sD (dI w1), S.ref 1, sD (dI w3), sD (dI w4), S.ref 2, sD (dI w6), sD (dI w7), S.ref 3]), some (Obj.mat 2 o1), some (Obj.mat 2 o2), some (Obj.mat 2 w8), some (Obj.box [sD (dB k0), sD (dL k1)])], 143⟩) [.m w5, .i (0 : Int)] <| .fm fun o2 => .fi fun c1 => .beg <| .r1 [0, 1, 2, 7, 9, 61] [0, 1, 2, 3, 4] <| .c2 (.exb fun x02 => .exl fun x12 => .exb fun x03 => .exl fun x13 => .exb fun r02 => .exl fun r12 => .exb fun r03 => .exl fun r13 => .drw 0 [(19, (Or.cells [dB x02, dL x12], 0, 0), []), (31, (Or.cells [dB x03, dL x13], 0, 0), []), (32, (Or.call (vA [sD (dB r02), sD (dL r12)]) [] [], 0, 0), []), (33, (Or.call (vA [sD (dB r03), sD (dL r13)]) [] [], 0, 0), []), (35, (Or.none, 0, 0), [2])] [0, 1, 2, 7, 9] [0, 1, 2, 3, 4] [.new, .old 0, .new, .new, .new, .new, .new, .new, .new, .old 6] <| .r1 [0, 1, 2, 7, 9] [0, 1, 2, 3, 4] <| .bk 0 [.m (o2.modify (i).toNat (fun qz => qz.set (c1).toNat [dB r03, dL r13])), .i (IntKind.i64.wrap (c1 + (1 : Int)))]) (.r1 [0, 1, 2, 7, 10] [0, 1, 2, 3, 4] <| .lp [.m, .i] (fun o3 r => ⟨[(0, vP 0 0), (1, vD (dI i)), (2, vD (dI j)), (7, vP 4 0), (10, vD (dI r))], [some (Obj.box [sD (dI w0), sD (dI w1), S.ref 1, sD (dI w3), sD (dI w4), S.ref 2, sD (dI w6), sD (dI w7), S.ref 3]), some (Obj.mat 2 o1), some (Obj.mat 2 o2), some (Obj.mat 2 o3), some (Obj.box [sD (dB k0), sD (dL k1)])], 143⟩) [.m w8, .i (0 : Int)] <| .fm fun o3 => .fi fun r => .beg <| .r1 [0, 1, 2, 7, 10, 105] [0, 1, 2, 3, 4] <| .c2 (.exb fun x04 => .exl fun x14 => .exb fun x05 => .exl fun x15 => .exb fun r04 => .exl fun r14 => .exb fun r05 => .exl fun r15 => .drw 0 [(19, (Or.cells [dB x04, dL x14], 0, 0), []), (31, (Or.cells [dB x05, dL x15], 0, 0), []), (32, (Or.call (vA [sD (dB r04), sD (dL r14)]) [] [], 0, 0), []), (33, (Or.call (vA [sD (dB r05), sD (dL r15)]) [] [], 0, 0), []), (35, (Or.none, 0, 0), [3])] [0, 1, 2, 7, 10] [0, 1, 2, 3, 4] [.new, .old 0, .new, .new, .old 2, .new, .new, .new, .new, .old 5] <| .r1 [0, 1, 2, 7, 10] [0, 1, 2, 3, 4] <| .bk 0 [.m (o3.modify (r).toNat (fun qz => qz.set (j).toNat [dB r05, dL r15])), .i (IntKind.i64.wrap (r + (1 : Int)))]) (.ret [0, 1, 2, 3]))))
    (by kernel_rfl) (by kernel_rfl) (by kernel_rfl) h
end Go.AM
/- torsionref18.Apply: the operations on a matrix with its transforms. -/
namespace Go.AM
open Go.Proofs.Tryz
theorem rsub_ok {x y : Int} (hx : Sz x) (hy : Sz y) : FnD prog 90 [eI x, eI y] (eI (x - y)) [] := by
  refine vc90_ok _ _ _ _ (R := Out _) ?_
  unfold vc90
  have hy' : Sz (-y) := by unfold Sz; rw [Int.natAbs_neg]; exact hy
  have h := radd_ok hx hy'
  rw [← Int.sub_eq_add_neg] at h
  exact ⟨_, _, _, _, rneg_ok hy, h, rfl, rfl⟩
def colF (o : Opz) (f : Nat → Nat → Int) (a b : Nat) : Int :=
  if o.k = 1 then (if b = o.i then f a o.j else if b = o.j then f a o.i else f a b)
  else if o.k = 2 then (if b = o.i then - f a b else f a b)
  else if b = o.j then f a b - o.z * f a o.i else f a b
def apC (n : Nat) (o : Opz) (m : List (List Int)) : List (List Int) := table n n (colF o (el m))
def apCL (n : Nat) : List Opz → List (List Int) → List (List Int)
  | [], m => m
  | o :: l, m => apCL n l (apC n o m)
theorem apC_mx (n : Nat) (o : Opz) (m : List (List Int)) : Mx n n (apC n o m) := table_mx _ _ _
theorem apCL_mx {n : Nat} : ∀ (l : List Opz) {m : List (List Int)}, Mx n n m → Mx n n (apCL n l m)
  | [], _, h => h
  | _ :: l, _, _ => apCL_mx l (apC_mx _ _ _)
theorem apCL_append {n : Nat} : ∀ (l l' : List Opz) (m : List (List Int)), apCL n (l ++ l') m = apCL n l' (apCL n l m)
  | [], _, _ => rfl
  | o :: l, l', m => by simp only [List.cons_append, apCL]; exact apCL_append l l' _
def cP (o : Opz) (f : Nat → Nat → Int) (t : Nat) (a b : Nat) : Int := if a < t then colF o f a b else f a b
theorem cP_zero {n : Nat} {o : Opz} {m : List (List Int)} (hm : Mx n n m) : om m = om (table n n (cP o (el m) 0)) := by
  congr 1
  refine Eq.trans (mx_table hm) (table_congr fun a b _ _ => ?_)
  simp [cP]
theorem cP_all {n : Nat} {o : Opz} {m : List (List Int)} : om (table n n (cP o (el m) n)) = om (apC n o m) := by
  unfold apC
  congr 1
  exact table_congr fun a b ha _ => by unfold cP; rw [if_pos ha]
theorem cP_at {o : Opz} {f : Nat → Nat → Int} {t b : Nat} : cP o f t t b = f t b := by unfold cP; rw [if_neg (by omega)]
theorem cP_one {n : Nat} {o : Opz} {f : Nat → Nat → Int} {t j : Nat} {v : Int} (ht : t < n) (hj : j < n) (hv : colF o f t j = v) (ho : ∀ b, b < n → b ≠ j → colF o f t b = f t b) :
    (om (table n n (cP o f t))).modify t (fun q => q.set j (cI v)) = om (table n n (cP o f (t + 1))) := by
  refine Eq.trans (om_set ht hj) ?_
  congr 1
  refine table_congr fun a b _ hb => ?_
  unfold cP
  by_cases h1 : a = t ∧ b = j
  · rw [if_pos h1, if_pos (by omega), h1.1, h1.2, hv]
  · rw [if_neg h1]
    by_cases h2 : a < t
    · rw [if_pos h2, if_pos (by omega)]
    · rw [if_neg h2]
      by_cases h3 : a = t
      · subst h3
        rw [if_pos (by omega), ho b hb (by omega)]
      · rw [if_neg (by omega)]
def wH (r c : Nat) (m u v : List (List Int)) : Heap :=
  [some (.box [sD (dI r), sD (dI c), .ref 1, sD (dI r), sD (dI r), .ref 2, sD (dI r), sD (dI r), .ref 3]), some (.mat 2 (om m)), some (.mat 2 (om u)), some (.mat 2 (om v))]
theorem start_ok {r c K : Nat} {m : List (List Int)} (hm : Mx r c m) (km : BdM K m) (hr : r ≤ 4294967296) (hc : c ≤ 4294967296) (hK : K ≤ 1329227995784915872903807060280344576) :
    FnO prog 49 [eM r c m] [] (vP 0 0) (wH r c m (table r r delta) (table r r delta)) := by
  refine vc49_ok _ _ _ (R := fun x y => x = vP 0 0 ∧ y = wH r c m (table r r delta) (table r r delta)) ?_
  unfold vc49
  exact ⟨_, _, _, _, _, _, _, _, _, m5copied_ok hm km hr hc hK, rident_ok hr, rident_ok hr, rfl, rfl⟩
theorem swapR_om {r c : Nat} {o : Opz} {m : List (List Int)} (h : vO r o = true) (hk : o.k = 1) (hm : Mx r c m) : swapR (om m) o.i o.j = om (apO r c o m) := by
  obtain ⟨hi, _⟩ := vO_ok h
  have hj := vO_j h (by omega)
  rw [mx_table hm]
  unfold swapR apO
  apply List.ext_getElem?
  intro k
  have hlen : (om (table r c (el m))).length = r := om_len
  have hg : ∀ a, a < r → (om (table r c (el m))).getD a [] = row (tableR c (el m a)) := fun a ha => by
    simp [om, table, ha]
  have hF : ∀ a, a < r → (om (table r c (opF o (el (table r c (el m))))))[a]? = some (row (tableR c (opF o (el (table r c (el m))) a))) := fun a ha => by
    simp [om, table, ha]
  have hE : ∀ a b, a < r → b < c → el (table r c (el m)) a b = el m a b := fun a b ha hb => el_table ha hb
  have hrow : ∀ {f g : Nat → Int}, (∀ b, b < c → f b = g b) → tableR c f = tableR c g := fun hfg => List.map_congr_left fun b hb => hfg b (List.mem_range.1 hb)
  by_cases hkr : k < r
  · rw [hF k hkr, hg _ hi, hg _ hj]
    by_cases e1 : o.j = k
    · subst e1
      rw [List.getElem?_set_self (by simp [hlen]; exact hj)]
      congr 2
      refine hrow fun b hb => ?_
      by_cases e2 : o.j = o.i
      · simp only [opF, hk, if_true, e2]; rw [hE _ _ hi hb]
      · simp only [opF, hk, if_true, if_neg e2]; rw [hE _ _ hi hb]
    · rw [List.getElem?_set_ne e1]
      by_cases e2 : o.i = k
      · subst e2
        rw [List.getElem?_set_self (by rw [hlen]; exact hi)]
        congr 2
        refine hrow fun b hb => ?_
        simp only [opF, hk, if_true]; rw [hE _ _ hj hb]
      · rw [List.getElem?_set_ne e2]
        have : (om (table r c (el m)))[k]? = some (row (tableR c (el m k))) := by simp [om, table, hkr]
        rw [this]
        congr 2
        refine hrow fun b hb => ?_
        simp only [opF, hk, if_true, if_neg (Ne.symm e2), if_neg (Ne.symm e1)]; rw [hE _ _ hkr hb]
  · rw [List.getElem?_eq_none (by simp [hlen]; omega), List.getElem?_eq_none (by rw [om_len]; omega)]
def wHs (r c : Nat) (m u v : List (List Int)) : Heap :=
  [some (.box [sD (dI r), sD (dI c), .ref 4, sD (dI r), sD (dI r), .ref 5, sD (dI r), sD (dI r), .ref 3]), some (.fwd (.ref 4)), some (.fwd (.ref 5)), some (.mat 2 (om v)), some (.mat 2 (om m)), some (.mat 2 (om u))]
theorem wswap_ok {r c : Nat} {o : Opz} {m u v : List (List Int)} (h : vO r o = true) (hk : o.k = 1) (hm : Mx r c m) (hu : Mx r r u) (hv : Mx r r v) (hr : r ≤ 4294967296) :
    FnO prog 53 [vP 0 0, vi o.i, vi o.j] (wH r c m u v) (.tup []) (wHs r c (apO r c o m) (apO r r o u) (apC r o v)) := by
  obtain ⟨hi, hcase⟩ := vO_ok h
  have hj := vO_j h (by omega)
  have hne : o.i ≠ o.j := by
    rcases hcase with h | h | h
    · omega
    · exact h.2.2.1
    · exact h.2.2
  refine vc53_ok _ _ _ _ _ _ _ _ _ _ _ (R := fun x y => x = .tup [] ∧ y = wHs r c (apO r c o m) (apO r r o u) (apC r o v)) ?_
  unfold vc53
  have lm : (om m).length = r := by rw [om_length, hm.1]
  have lu : (om u).length = r := by rw [om_length, hu.1]
  refine ⟨⟨by omega, by omega⟩, ⟨by omega, by omega⟩, rfl, rfl, ⟨by omega, by omega⟩, ⟨by omega, by omega⟩, ?_⟩
  refine ⟨fun a t => ∃ n : Nat, t = (n : Int) ∧ n ≤ r ∧ a = om (table r r (cP o (el v) n)), fun _ t => ((r : Int) - t).toNat, ⟨0, rfl, by omega, cP_zero hv⟩, ?_⟩
  rintro _ _ ⟨n, rfl, hn, rfl⟩
  refine ⟨fun h2 => ?_, fun h2 => ?_⟩
  · have hnr : n < r := by simpa using h2
    have e1 : (om (table r r (cP o (el v) n))).modify (n : Int).toNat (fun q => q.set (o.i : Int).toNat (cI (el v n o.j))) = om (table r r fun a b => if a = n ∧ b = o.i then el v n o.j else cP o (el v) n a b) := by
      rw [Int.toNat_natCast, Int.toNat_natCast]; exact om_set hnr hi
    have e2 : cP o (el v) n (n : Int).toNat (o.i : Int).toNat = el v n o.i := by rw [Int.toNat_natCast, Int.toNat_natCast]; exact cP_at
    have e3 : cP o (el v) n (n : Int).toNat (o.j : Int).toNat = el v n o.j := by rw [Int.toNat_natCast, Int.toNat_natCast]; exact cP_at
    have a1 := at2_om (r := r) (c := r) (g := cP o (el v) n) (i := (n : Int).toNat) (j := (o.i : Int).toNat) (by omega) (by omega)
    have a2 := at2_om (r := r) (c := r) (g := cP o (el v) n) (i := (n : Int).toNat) (j := (o.j : Int).toNat) (by omega) (by omega)
    rw [e2] at a1
    rw [e3] at a2
    refine ⟨_, _, ⟨by omega, by rw [om_len]; omega⟩, om_in hnr hi, a1, _, _, om_in hnr hj, a2, ?_⟩
    have e1' : (om (table r r (cP o (el v) n))).modify (n : Int).toNat (fun q => q.set (o.i : Int).toNat [dB (decide (el v n o.j < 0)), dL (lim (digs (el v n o.j).natAbs))]) = om (table r r fun a b => if a = n ∧ b = o.i then el v n o.j else cP o (el v) n a b) := e1
    rw [e1', inc64 (by omega)]
    refine ⟨⟨by omega, by rw [om_len]; omega⟩, om_in hnr hj, ⟨n + 1, rfl, by omega, ?_⟩, by show ((r : Int) - ((n + 1 : Nat) : Int)).toNat < ((r : Int) - (n : Int)).toNat; omega⟩
    rw [Int.toNat_natCast, Int.toNat_natCast]
    refine Eq.trans (om_set hnr hj) ?_
    congr 1
    refine table_congr fun a b _ _ => ?_
    unfold cP colF
    simp only [hk, if_true]
    by_cases ha : a = n
    · subst ha
      by_cases hb : b = o.j
      · subst hb
        simp [Ne.symm hne]
      · by_cases hb' : b = o.i
        · subst hb'; simp [hne]
        · simp [hb, hb']
    · by_cases ha' : a < n
      · simp [ha, ha', show a < n + 1 by omega]
      · simp [ha, ha', show ¬ a < n + 1 by omega]
  · have hnr : n = r := by have : r ≤ n := by simpa using h2
                           omega
    subst hnr
    rw [Int.toNat_natCast, Int.toNat_natCast, swapR_om h hk hm, swapR_om h hk hu, cP_all]
    exact ⟨rfl, rfl⟩
end Go.AM
/- torsionref18: Negate and AddTo on the work matrices; Valid, Apply, Matrix, Invert. -/
namespace Go.AM
open Go.Proofs.Tryz
theorem rowM_in {r c : Nat} {g : Nat → Nat → Int} {i j : Nat} (hi : i < r) (hj : j < c) : at2 (om (table r c g)) (i : Int).toNat (j : Int).toNat = some (cI (g i j)) := by
  rw [Int.toNat_natCast, Int.toNat_natCast]; exact at2_om hi hj
end Go.AM
/- The work matrices' operations, for numbers of any size that fits. -/
namespace Go.AM
open Go.Proofs.Tryz
theorem wneg_gen {r c K : Nat} {o : Opz} {m u v : List (List Int)} (h : vO r o = true) (hk : o.k = 2) (hm : Mx r c m) (hu : Mx r r u) (hv : Mx r r v) (km : BdM K m) (ku : BdM K u) (kv : BdM K v)
    (hK : ∀ y : Int, y.natAbs ≤ K → Sz y) (hr : r ≤ 4294967296) (hc : c ≤ 4294967296) :
    FnO prog 54 [vP 0 0, vi o.i] (wH r c m u v) (.tup []) (wH r c (apO r c o m) (apO r r o u) (apC r o v)) := by
  obtain ⟨hi, _⟩ := vO_ok h
  refine vc54_ok _ _ _ _ _ _ _ _ _ _ (R := fun x y => x = .tup [] ∧ y = wH r c (apO r c o m) (apO r r o u) (apC r o v)) ?_
  unfold vc54
  have sz : ∀ {z : Int}, z.natAbs ≤ K → Sz z := fun h => hK _ h
  refine ⟨fun a t => ∃ n : Nat, t = (n : Int) ∧ n ≤ c ∧ a = om (table r c (rF o (el m) n)), fun _ t => ((c : Int) - t).toNat, ⟨0, rfl, by omega, rF_zero hm⟩, ?_⟩
  rintro _ _ ⟨n, rfl, hn, rfl⟩
  refine ⟨fun h2 => ?_, fun h2 => ?_⟩
  · have hnc : n < c := by simpa using h2
    have e : rF o (el m) n o.i n = el m o.i n := by unfold rF; rw [if_neg (by omega)]
    have e2 : opF o (el m) o.i n = - el m o.i n := by simp [opF, hk]
    have a1 := rowM_in (r := r) (c := c) (g := rF o (el m) n) hi hnc
    rw [e] at a1
    have f1 := rneg_ok (sz (el_bd hm km hi hnc))
    rw [← e2] at f1
    refine ⟨_, _, _, _, ⟨by omega, by rw [om_len]; omega⟩, om_in hi hnc, a1, f1, ?_⟩
    rw [inc64 (by omega)]
    refine ⟨⟨n + 1, rfl, by omega, ?_⟩, by show ((c : Int) - ((n + 1 : Nat) : Int)).toNat < ((c : Int) - (n : Int)).toNat; omega⟩
    rw [Int.toNat_natCast, Int.toNat_natCast]
    exact rF_step hi hnc
  have hnc : n = c := by have : c ≤ n := by simpa using h2
                         omega
  subst hnc
  refine ⟨fun a t => ∃ n : Nat, t = (n : Int) ∧ n ≤ r ∧ a = om (table r r (rF o (el u) n)), fun _ t => ((r : Int) - t).toNat, ⟨0, rfl, by omega, rF_zero hu⟩, ?_⟩
  rintro _ _ ⟨p, rfl, hp, rfl⟩
  refine ⟨fun h2 => ?_, fun h2 => ?_⟩
  · have hnc : p < r := by simpa using h2
    have e : rF o (el u) p o.i p = el u o.i p := by unfold rF; rw [if_neg (by omega)]
    have e2 : opF o (el u) o.i p = - el u o.i p := by simp [opF, hk]
    have a1 := rowM_in (r := r) (c := r) (g := rF o (el u) p) hi hnc
    rw [e] at a1
    have f1 := rneg_ok (sz (el_bd hu ku hi hnc))
    rw [← e2] at f1
    refine ⟨_, _, _, _, ⟨by omega, by rw [om_len]; omega⟩, om_in hi hnc, a1, f1, ?_⟩
    rw [inc64 (by omega)]
    refine ⟨⟨p + 1, rfl, by omega, ?_⟩, by show ((r : Int) - ((p + 1 : Nat) : Int)).toNat < ((r : Int) - (p : Int)).toNat; omega⟩
    rw [Int.toNat_natCast, Int.toNat_natCast]
    exact rF_step hi hnc
  have hpr : p = r := by have : r ≤ p := by simpa using h2
                         omega
  subst hpr
  refine ⟨fun a t => ∃ q : Nat, t = (q : Int) ∧ q ≤ p ∧ a = om (table p p (cP o (el v) q)), fun _ t => ((p : Int) - t).toNat, ⟨0, rfl, by omega, cP_zero hv⟩, ?_⟩
  rintro _ _ ⟨q, rfl, hq, rfl⟩
  refine ⟨fun h2 => ?_, fun h2 => ?_⟩
  · have hqr : q < p := by simpa using h2
    have a1 := rowM_in (r := p) (c := p) (g := cP o (el v) q) hqr hi
    rw [cP_at] at a1
    have f1 := rneg_ok (sz (el_bd hv kv hqr hi))
    refine ⟨_, _, _, _, ⟨by omega, by rw [om_len]; omega⟩, om_in hqr hi, a1, f1, ?_⟩
    rw [inc64 (by omega)]
    refine ⟨⟨q + 1, rfl, by omega, ?_⟩, by show ((p : Int) - ((q + 1 : Nat) : Int)).toNat < ((p : Int) - (q : Int)).toNat; omega⟩
    rw [Int.toNat_natCast, Int.toNat_natCast]
    exact cP_one hqr hi (by simp [colF, hk]) fun b _ hb => by simp [colF, hk, hb]
  · have hqr : q = p := by have : p ≤ q := by simpa using h2
                           omega
    subst hqr
    rw [rF_all (by omega), rF_all (by omega), cP_all]
    exact ⟨rfl, rfl⟩
theorem wadd_gen {r c K : Nat} {o : Opz} {m u v : List (List Int)} (h : vO r o = true) (hk : o.k = 3) (hm : Mx r c m) (hu : Mx r r u) (hv : Mx r r v) (km : BdM K m) (ku : BdM K u) (kv : BdM K v) (hz : Sz o.z)
    (hK : ∀ y : Int, y.natAbs ≤ K → Sz y ∧ Sz (o.z * y)) (hr : r ≤ 4294967296) (hc : c ≤ 4294967296) :
    FnO prog 51 [vP 0 0, vi o.i, vi o.j, eI o.z] (wH r c m u v) (.tup []) (wH r c (apO r c o m) (apO r r o u) (apC r o v)) := by
  obtain ⟨hi, hcase⟩ := vO_ok h
  have hj := vO_j h (by omega)
  have hne : o.i ≠ o.j := by
    rcases hcase with h | h | h
    · omega
    · omega
    · exact h.2.2
  refine vc51_ok _ _ _ _ _ _ _ _ _ _ _ _ _ (R := fun x y => x = .tup [] ∧ y = wH r c (apO r c o m) (apO r r o u) (apC r o v)) ?_
  unfold vc51
  have szm : ∀ {x y : Int}, x.natAbs ≤ K → y.natAbs ≤ K → Sz x ∧ Sz y ∧ Sz o.z ∧ Sz (o.z * y) := fun {x y} hx hy =>
    ⟨(hK x hx).1, (hK y hy).1, hz, (hK y hy).2⟩
  refine ⟨fun a t => ∃ n : Nat, t = (n : Int) ∧ n ≤ c ∧ a = om (table r c (rF o (el m) n)), fun _ t => ((c : Int) - t).toNat, ⟨0, rfl, by omega, rF_zero hm⟩, ?_⟩
  rintro _ _ ⟨n, rfl, hn, rfl⟩
  refine ⟨fun h2 => ?_, fun h2 => ?_⟩
  · have hnc : n < c := by simpa using h2
    have e : rF o (el m) n o.i n = el m o.i n := by unfold rF; rw [if_neg (by omega)]
    have e' : rF o (el m) n o.j n = el m o.j n := by unfold rF; rw [if_neg (by omega)]
    have e2 : opF o (el m) o.i n = el m o.i n + o.z * el m o.j n := by simp [opF, hk]
    have a1 := rowM_in (r := r) (c := c) (g := rF o (el m) n) hi hnc
    have a2 := rowM_in (r := r) (c := c) (g := rF o (el m) n) hj hnc
    rw [e] at a1
    rw [e'] at a2
    obtain ⟨s1, s2, s3, s4⟩ := szm (el_bd hm km hi hnc) (el_bd hm km hj hnc)
    have f1 := rmul_ok s3 s2
    have f2 := radd_ok s1 s4
    rw [← e2] at f2
    refine ⟨_, _, _, _, _, _, _, _, ⟨by omega, by rw [om_len]; omega⟩, om_in hi hnc, a1, ⟨by omega, by rw [om_len]; omega⟩, om_in hj hnc, a2, f1, f2, ?_⟩
    rw [inc64 (by omega)]
    refine ⟨⟨n + 1, rfl, by omega, ?_⟩, by show ((c : Int) - ((n + 1 : Nat) : Int)).toNat < ((c : Int) - (n : Int)).toNat; omega⟩
    rw [Int.toNat_natCast, Int.toNat_natCast]
    exact rF_step hi hnc
  have hnc : n = c := by have : c ≤ n := by simpa using h2
                         omega
  subst hnc
  refine ⟨fun a t => ∃ n : Nat, t = (n : Int) ∧ n ≤ r ∧ a = om (table r r (rF o (el u) n)), fun _ t => ((r : Int) - t).toNat, ⟨0, rfl, by omega, rF_zero hu⟩, ?_⟩
  rintro _ _ ⟨p, rfl, hp, rfl⟩
  refine ⟨fun h2 => ?_, fun h2 => ?_⟩
  · have hnc : p < r := by simpa using h2
    have e : rF o (el u) p o.i p = el u o.i p := by unfold rF; rw [if_neg (by omega)]
    have e' : rF o (el u) p o.j p = el u o.j p := by unfold rF; rw [if_neg (by omega)]
    have e2 : opF o (el u) o.i p = el u o.i p + o.z * el u o.j p := by simp [opF, hk]
    have a1 := rowM_in (r := r) (c := r) (g := rF o (el u) p) hi hnc
    have a2 := rowM_in (r := r) (c := r) (g := rF o (el u) p) hj hnc
    rw [e] at a1
    rw [e'] at a2
    obtain ⟨s1, s2, s3, s4⟩ := szm (el_bd hu ku hi hnc) (el_bd hu ku hj hnc)
    have f1 := rmul_ok s3 s2
    have f2 := radd_ok s1 s4
    rw [← e2] at f2
    refine ⟨_, _, _, _, _, _, _, _, ⟨by omega, by rw [om_len]; omega⟩, om_in hi hnc, a1, ⟨by omega, by rw [om_len]; omega⟩, om_in hj hnc, a2, f1, f2, ?_⟩
    rw [inc64 (by omega)]
    refine ⟨⟨p + 1, rfl, by omega, ?_⟩, by show ((r : Int) - ((p + 1 : Nat) : Int)).toNat < ((r : Int) - (p : Int)).toNat; omega⟩
    rw [Int.toNat_natCast, Int.toNat_natCast]
    exact rF_step hi hnc
  have hpr : p = r := by have : r ≤ p := by simpa using h2
                         omega
  subst hpr
  refine ⟨fun a t => ∃ q : Nat, t = (q : Int) ∧ q ≤ p ∧ a = om (table p p (cP o (el v) q)), fun _ t => ((p : Int) - t).toNat, ⟨0, rfl, by omega, cP_zero hv⟩, ?_⟩
  rintro _ _ ⟨q, rfl, hq, rfl⟩
  refine ⟨fun h2 => ?_, fun h2 => ?_⟩
  · have hqr : q < p := by simpa using h2
    have a1 := rowM_in (r := p) (c := p) (g := cP o (el v) q) hqr hj
    have a2 := rowM_in (r := p) (c := p) (g := cP o (el v) q) hqr hi
    rw [cP_at] at a1 a2
    obtain ⟨s1, s2, s3, s4⟩ := szm (el_bd hv kv hqr hj) (el_bd hv kv hqr hi)
    have f1 := rmul_ok s3 s2
    have f2 := rsub_ok s1 s4
    refine ⟨_, _, _, _, _, _, _, _, ⟨by omega, by rw [om_len]; omega⟩, om_in hqr hj, a1, om_in hqr hi, a2, f1, f2, ?_⟩
    rw [inc64 (by omega)]
    refine ⟨⟨q + 1, rfl, by omega, ?_⟩, by show ((p : Int) - ((q + 1 : Nat) : Int)).toNat < ((p : Int) - (q : Int)).toNat; omega⟩
    rw [Int.toNat_natCast, Int.toNat_natCast]
    exact cP_one hqr hj (by simp [colF, hk]) fun b _ hb => by simp [colF, hk, hb]
  · have hqr : q = p := by have : p ≤ q := by simpa using h2
                           omega
    subst hqr
    rw [rF_all (by omega), rF_all (by omega), cP_all]
    exact ⟨rfl, rfl⟩
end Go.AM
/- Row operations in plain Lean: how much lists of them can make the elements grow. -/
namespace Go.AM
abbrev addO (i j : Nat) (z : Int) : Opz := ⟨3, i, j, z⟩
abbrev swapO (i j : Nat) : Opz := ⟨1, i, j, 0⟩
abbrev negO (i : Nat) : Opz := ⟨2, i, 0, 0⟩
theorem vO_add {r i j : Nat} {z : Int} (hi : i < r) (hj : j < r) (h : i ≠ j) : vO r (addO i j z) = true := by simp [vO, hi, hj, h]
theorem vO_swap {r i j : Nat} (hi : i < r) (hj : j < r) (h : i ≠ j) : vO r (swapO i j) = true := by simp [vO, hi, hj, h]
theorem vO_neg {r i : Nat} (hi : i < r) : vO r (negO i) = true := by simp [vO, hi]
def gO (o : Opz) : Nat := if o.k = 3 then 1 + o.z.natAbs else 1
def gL : List Opz → Nat
  | [] => 1
  | o :: l => gO o * gL l
theorem gO_pos (o : Opz) : 1 ≤ gO o := by unfold gO; split <;> omega
theorem gL_pos : ∀ l : List Opz, 1 ≤ gL l
  | [] => Nat.le_refl _
  | o :: l => Nat.mul_le_mul (gO_pos o) (gL_pos l)
theorem gL_append : ∀ l k : List Opz, gL (l ++ k) = gL l * gL k
  | [], k => by simp [gL]
  | o :: l, k => by simp only [List.cons_append, gL, gL_append l k, Nat.mul_assoc]
theorem gL_prefix {d e l : List Opz} (h : d ++ e = l) : gL d ≤ gL l := by
  rw [← h, gL_append]
  exact Nat.le_trans (by omega) (Nat.mul_le_mul_left (gL d) (gL_pos e))
theorem one_mul_le {K o : Nat} (h : 1 ≤ o) : K ≤ o * K := by
  have := Nat.mul_le_mul_right K h
  omega
theorem apO_g {r c K : Nat} {o : Opz} {m : List (List Int)} (h : vO r o = true) (hm : Mx r c m) (km : BdM K m) : BdM (gO o * K) (apO r c o m) := table_bd fun a b ha hb => by
  obtain ⟨hi, hcase⟩ := vO_ok h
  have h0 : ∀ x : Nat, x < r → (el m x b).natAbs ≤ K := fun x hx => el_bd hm km hx hb
  have hK := one_mul_le (K := K) (gO_pos o)
  unfold opF
  rcases hcase with ⟨hk, _, _⟩ | ⟨hk, hj, _, _⟩ | ⟨hk, hj, _⟩
  · rw [hk, if_neg (by decide), if_pos rfl]
    have := h0 a ha
    split
    · rw [Int.natAbs_neg]; omega
    · omega
  · rw [hk, if_pos rfl]
    have h1 := h0 _ hj
    have h2 := h0 _ hi
    have h3 := h0 a ha
    split
    · omega
    · split <;> omega
  · rw [hk, if_neg (by decide), if_neg (by decide)]
    have h1 := h0 _ hj
    have h3 := h0 a ha
    split
    · have e : gO o = 1 + o.z.natAbs := by simp [gO, hk]
      rw [e, Nat.add_mul, Nat.one_mul]
      have h4 := Int.natAbs_add_le (el m a b) (o.z * el m o.j b)
      rw [Int.natAbs_mul] at h4
      have h5 := Nat.mul_le_mul_left o.z.natAbs h1
      omega
    · omega
theorem apL_g {r c : Nat} : ∀ {l : List Opz} {K : Nat} {m : List (List Int)}, (∀ o ∈ l, vO r o = true) → Mx r c m → BdM K m → BdM (gL l * K) (apL r c l m)
  | [], K, m, _, _, km => km.mono (by simp [gL])
  | o :: l, K, m, h, hm, km => by
    have := apL_g (l := l) (fun x hx => h x (by simp [hx])) (apO_mx r c o m) (apO_g (h o (by simp)) hm km)
    refine BdM.mono this ?_
    simp only [gL]
    exact Nat.le_of_eq (by rw [Nat.mul_comm (gO o) (gL l), Nat.mul_assoc])
theorem apC_g {n K : Nat} {o : Opz} {m : List (List Int)} (h : vO n o = true) (hm : Mx n n m) (km : BdM K m) : BdM (gO o * K) (apC n o m) := table_bd fun a b ha hb => by
  obtain ⟨hi, hcase⟩ := vO_ok h
  have h0 : ∀ x : Nat, x < n → (el m a x).natAbs ≤ K := fun x hx => el_bd hm km ha hx
  have hK := one_mul_le (K := K) (gO_pos o)
  unfold colF
  rcases hcase with ⟨hk, _, _⟩ | ⟨hk, hj, _, _⟩ | ⟨hk, hj, _⟩
  · rw [hk, if_neg (by decide), if_pos rfl]
    have := h0 b hb
    split
    · rw [Int.natAbs_neg]; omega
    · omega
  · rw [hk, if_pos rfl]
    have h1 := h0 _ hj
    have h2 := h0 _ hi
    have h3 := h0 b hb
    split
    · omega
    · split <;> omega
  · rw [hk, if_neg (by decide), if_neg (by decide)]
    have h1 := h0 _ hi
    have h3 := h0 b hb
    split
    · have e : gO o = 1 + o.z.natAbs := by simp [gO, hk]
      rw [e, Nat.add_mul, Nat.one_mul]
      have h4 := Int.natAbs_sub_le (el m a b) (o.z * el m a o.i)
      rw [Int.natAbs_mul] at h4
      have h5 := Nat.mul_le_mul_left o.z.natAbs h1
      omega
    · omega
theorem apCL_g {n : Nat} : ∀ {l : List Opz} {K : Nat} {m : List (List Int)}, (∀ o ∈ l, vO n o = true) → Mx n n m → BdM K m → BdM (gL l * K) (apCL n l m)
  | [], K, m, _, _, km => km.mono (by simp [gL])
  | o :: l, K, m, h, hm, km => by
    have := apCL_g (l := l) (fun x hx => h x (by simp [hx])) (apC_mx n o m) (apC_g (h o (by simp)) hm km)
    refine BdM.mono this ?_
    simp only [gL]
    exact Nat.le_of_eq (by rw [Nat.mul_comm (gO o) (gL l), Nat.mul_assoc])
def euL (r cc c top i : Nat) : Nat → List (List Int) → List Opz
  | 0, _ => []
  | f + 1, m =>
    if el m i c = 0 then []
    else if el m top c = 0 then swapO top i :: euL r cc c top i f (apO r cc (swapO top i) m)
    else addO top i (-(el m top c / el m i c)) :: swapO top i :: euL r cc c top i f (apO r cc (swapO top i) (apO r cc (addO top i (-(el m top c / el m i c))) m))
theorem mod_eq (x y : Int) : x + -(x / y) * y = x % y := by
  have := Int.emod_add_mul_ediv x y
  rw [Int.neg_mul, Int.mul_comm]; omega
section
variable {r cc c top i : Nat}
theorem el_swap {m : List (List Int)} {a b : Nat} (ha : a < r) (hb : b < cc) : el (apO r cc (swapO top i) m) a b = if a = top then el m i b else if a = i then el m top b else el m a b := by
  rw [el_apO ha hb]; simp [opF]
theorem el_add {m : List (List Int)} {z : Int} {a b : Nat} (ha : a < r) (hb : b < cc) : el (apO r cc (addO top i z) m) a b = if a = top then el m a b + z * el m i b else el m a b := by
  rw [el_apO ha hb]; simp [opF]
variable (ht : top < r) (hi : i < r) (hc : c < cc) (hne : top ≠ i)
include ht hi hne
theorem el_both {m : List (List Int)} {z : Int} {a b : Nat} (ha : a < r) (hb : b < cc) :
    el (apO r cc (swapO top i) (apO r cc (addO top i z) m)) a b = if a = top then el m i b else if a = i then el m top b + z * el m i b else el m a b := by
  rw [el_swap ha hb, el_add hi hb, el_add ht hb, el_add ha hb]
  rw [if_neg (Ne.symm hne), if_pos rfl]
  by_cases h1 : a = top
  · simp [h1]
  · by_cases h2 : a = i
    · simp [h2]
    · simp [h1, h2]
theorem euL_valid : ∀ (f : Nat) (m : List (List Int)), ∀ o ∈ euL r cc c top i f m, vO r o = true
  | 0, _, o, h => by simp [euL] at h
  | f + 1, m, o, h => by
    simp only [euL] at h
    split at h
    · simp at h
    · split at h
      · rcases List.mem_cons.1 h with rfl | h
        · exact vO_swap ht hi hne
        · exact euL_valid f _ o h
      · rcases List.mem_cons.1 h with rfl | h
        · exact vO_add ht hi hne
        · rcases List.mem_cons.1 h with rfl | h
          · exact vO_swap ht hi hne
          · exact euL_valid f _ o h
theorem euL_rest : ∀ (f : Nat) (m : List (List Int)) (a b : Nat), a < r → b < cc → a ≠ top → a ≠ i → el (apL r cc (euL r cc c top i f m) m) a b = el m a b
  | 0, m, a, b, _, _, _, _ => rfl
  | f + 1, m, a, b, ha, hb, h1, h2 => by
    simp only [euL]
    split
    · rfl
    · split
      · simp only [apL]
        rw [euL_rest f _ a b ha hb h1 h2, el_swap ha hb, if_neg h1, if_neg h2]
      · simp only [apL]
        rw [euL_rest f _ a b ha hb h1 h2, el_both ht hi hne ha hb, if_neg h1, if_neg h2]
theorem euL_zero : ∀ (f : Nat) (m : List (List Int)) (b : Nat), b < cc → el m top b = 0 → el m i b = 0 → el (apL r cc (euL r cc c top i f m) m) top b = 0 ∧ el (apL r cc (euL r cc c top i f m) m) i b = 0
  | 0, m, b, _, h1, h2 => ⟨h1, h2⟩
  | f + 1, m, b, hb, h1, h2 => by
    simp only [euL]
    split
    · exact ⟨h1, h2⟩
    · split
      · simp only [apL]
        refine euL_zero f _ b hb ?_ ?_
        · rw [el_swap ht hb, if_pos rfl]; exact h2
        · rw [el_swap hi hb, if_neg (Ne.symm hne), if_pos rfl]; exact h1
      · simp only [apL]
        refine euL_zero f _ b hb ?_ ?_
        · rw [el_both ht hi hne ht hb, if_pos rfl]; exact h2
        · rw [el_both ht hi hne hi hb, if_neg (Ne.symm hne), if_pos rfl, h1, h2]; simp
include hc
theorem euL_end : ∀ (f : Nat) (m : List (List Int)), (el m i c).natAbs < f → ∀ A, (el m top c).natAbs ≤ A → (el m i c).natAbs ≤ A →
    el (apL r cc (euL r cc c top i f m) m) i c = 0 ∧ (el (apL r cc (euL r cc c top i f m) m) top c).natAbs ≤ A
  | 0, m, h, _, _, _ => by omega
  | f + 1, m, h, A, h1, h2 => by
    simp only [euL]
    split
    · rename_i h0; exact ⟨h0, h1⟩
    · rename_i hy
      split
      · rename_i hx
        simp only [apL]
        have e1 : el (apO r cc (swapO top i) m) top c = el m i c := by rw [el_swap ht hc, if_pos rfl]
        have e2 : el (apO r cc (swapO top i) m) i c = el m top c := by rw [el_swap hi hc, if_neg (Ne.symm hne), if_pos rfl]
        refine euL_end f _ ?_ A ?_ ?_
        · rw [e2, hx]
          have : (el m i c).natAbs ≠ 0 := by omega
          show 0 < f; omega
        · rw [e1]; exact h2
        · rw [e2]; exact h1
      · simp only [apL]
        have e1 : el (apO r cc (swapO top i) (apO r cc (addO top i (-(el m top c / el m i c))) m)) top c = el m i c := by rw [el_both ht hi hne ht hc, if_pos rfl]
        have e2 : el (apO r cc (swapO top i) (apO r cc (addO top i (-(el m top c / el m i c))) m)) i c = el m top c % el m i c := by
          rw [el_both ht hi hne hi hc, if_neg (Ne.symm hne), if_pos rfl]; exact mod_eq _ _
        have h3 := Int.emod_nonneg (el m top c) hy
        have h4 := Int.emod_lt (el m top c) hy
        refine euL_end f _ ?_ A ?_ ?_
        · rw [e2]; omega
        · rw [e1]; exact h2
        · rw [e2]; omega
end
end Go.AM
/- The operations of torsionref12.Form in plain Lean, and how much they can make the elements grow. -/
namespace Go.AM
theorem eu_num0 {x y : Int} (hx : 0 ≤ x) (hy : 0 < y) : (1 + (x / y).natAbs) * ((x % y).natAbs + 1) ≤ x.natAbs + 1 := by
  have h1 := Int.emod_nonneg x (by omega : y ≠ 0)
  have h2 := Int.emod_lt_of_pos x hy
  have h3 := Int.emod_add_mul_ediv x y
  have h4 := Int.ediv_nonneg hx (Int.le_of_lt hy)
  obtain ⟨q, hq⟩ := Int.eq_ofNat_of_zero_le h4
  obtain ⟨r, hr⟩ := Int.eq_ofNat_of_zero_le h1
  obtain ⟨n, hn⟩ := Int.eq_ofNat_of_zero_le (Int.le_of_lt hy)
  obtain ⟨a, ha⟩ := Int.eq_ofNat_of_zero_le hx
  rw [hq, hr, hn, ha] at h3
  rw [hq, hr, ha]
  simp only [Int.natAbs_natCast]
  have h5 : r + n * q = a := by exact_mod_cast h3
  have h6 : r + 1 ≤ n := by omega
  have h7 : (r + 1) * q ≤ n * q := Nat.mul_le_mul_right _ h6
  rw [Nat.add_mul 1 q, Nat.one_mul, Nat.mul_comm q]
  omega
theorem eu_num {x y : Int} (hy : y ≠ 0) : (1 + (x / y).natAbs) * ((x % y).natAbs + 1) ≤ x.natAbs + 2 * y.natAbs := by
  have h1 := Int.emod_nonneg x hy
  have h2 := Int.emod_lt x hy
  have h3 := Int.emod_add_mul_ediv x y
  have h5 : (y * (x / y)).natAbs = y.natAbs * (x / y).natAbs := Int.natAbs_mul ..
  have h6 : (x % y).natAbs + 1 ≤ y.natAbs := by omega
  have h7 : (1 + (x / y).natAbs) * ((x % y).natAbs + 1) ≤ (1 + (x / y).natAbs) * y.natAbs := Nat.mul_le_mul_left _ h6
  rw [Nat.add_mul 1 (x / y).natAbs y.natAbs, Nat.one_mul, Nat.mul_comm (x / y).natAbs] at h7
  omega
def eE (A : Nat) : Nat := (3 * A + 1) * (3 * (A + 1))
theorem eE_pos (A : Nat) : 1 ≤ eE A := by
  unfold eE
  have := Nat.mul_le_mul (show 1 ≤ 3 * A + 1 by omega) (show 1 ≤ 3 * (A + 1) by omega)
  omega
theorem eE_ge (A : Nat) : A + 1 ≤ eE A := by
  unfold eE
  have := Nat.mul_le_mul (show 1 ≤ 3 * A + 1 by omega) (show A + 1 ≤ 3 * (A + 1) by omega)
  omega
section
variable {r cc c top i : Nat} (ht : top < r) (hi : i < r) (hc : c < cc) (hne : top ≠ i)
include ht hi hc hne
theorem eu_next {m : List (List Int)} : el (apO r cc (swapO top i) (apO r cc (addO top i (-(el m top c / el m i c))) m)) top c = el m i c ∧
    el (apO r cc (swapO top i) (apO r cc (addO top i (-(el m top c / el m i c))) m)) i c = el m top c % el m i c := by
  refine ⟨by rw [el_both ht hi hne ht hc, if_pos rfl], ?_⟩
  rw [el_both ht hi hne hi hc, if_neg (Ne.symm hne), if_pos rfl]; exact mod_eq _ _
theorem eu_swap {m : List (List Int)} : el (apO r cc (swapO top i) m) top c = el m i c ∧ el (apO r cc (swapO top i) m) i c = el m top c := by
  refine ⟨by rw [el_swap ht hc, if_pos rfl], by rw [el_swap hi hc, if_neg (Ne.symm hne), if_pos rfl]⟩
theorem eu_g0 : ∀ (f : Nat) (m : List (List Int)), 0 ≤ el m top c → 0 ≤ el m i c → gL (euL r cc c top i f m) ≤ ((el m top c).natAbs + 1) * ((el m i c).natAbs + 1)
  | 0, m, _, _ => Nat.mul_le_mul (Nat.le_add_left 1 _) (Nat.le_add_left 1 _)
  | f + 1, m, hx, hy => by
    simp only [euL]
    split
    · exact Nat.mul_le_mul (Nat.le_add_left 1 _) (Nat.le_add_left 1 _)
    · rename_i h0
      split
      · rename_i hx0
        obtain ⟨e1, e2⟩ := eu_swap ht hi hc hne (m := m)
        have := eu_g0 f (apO r cc (swapO top i) m) (by rw [e1]; exact hy) (by rw [e2]; exact hx)
        rw [e1, e2, hx0] at this
        simp only [gL, gO, if_neg (show ¬ (1 : Nat) = 3 by decide), Nat.one_mul, hx0]
        rw [Nat.mul_comm]
        exact this
      · obtain ⟨e1, e2⟩ := eu_next ht hi hc hne (m := m)
        have := eu_g0 f (apO r cc (swapO top i) (apO r cc (addO top i (-(el m top c / el m i c))) m)) (by rw [e1]; exact hy) (by rw [e2]; exact Int.emod_nonneg _ h0)
        rw [e1, e2] at this
        simp only [gL, gO, if_neg (show ¬ (1 : Nat) = 3 by decide), Nat.one_mul, if_pos, Int.natAbs_neg]
        have h2 := eu_num0 hx (show 0 < el m i c by omega)
        refine Nat.le_trans (Nat.mul_le_mul_left _ this) ?_
        rw [Nat.mul_left_comm, Nat.mul_comm ((el m top c).natAbs + 1)]
        exact Nat.mul_le_mul_left _ h2
theorem eu_g1 (f : Nat) (m : List (List Int)) (hy : 0 ≤ el m i c) : gL (euL r cc c top i f m) ≤ ((el m top c).natAbs + 2 * (el m i c).natAbs + 1) * ((el m i c).natAbs + 1) := by
  match f with
  | 0 => exact Nat.mul_le_mul (Nat.le_add_left 1 _) (Nat.le_add_left 1 _)
  | f + 1 =>
    simp only [euL]
    split
    · exact Nat.mul_le_mul (Nat.le_add_left 1 _) (Nat.le_add_left 1 _)
    · rename_i h0
      split
      · rename_i hx0
        obtain ⟨e1, e2⟩ := eu_swap ht hi hc hne (m := m)
        have := eu_g0 ht hi hc hne f (apO r cc (swapO top i) m) (by rw [e1]; exact hy) (by rw [e2, hx0]; exact Int.le_refl _)
        rw [e1, e2, hx0] at this
        simp only [gL, gO, if_neg (show ¬ (1 : Nat) = 3 by decide), Nat.one_mul, hx0]
        simp only [Int.natAbs_zero, Nat.zero_add, Nat.mul_one] at this ⊢
        refine Nat.le_trans this ?_
        have := Nat.mul_le_mul_right ((el m i c).natAbs + 1) (show 1 ≤ 2 * (el m i c).natAbs + 1 by omega)
        omega
      · obtain ⟨e1, e2⟩ := eu_next ht hi hc hne (m := m)
        have := eu_g0 ht hi hc hne f (apO r cc (swapO top i) (apO r cc (addO top i (-(el m top c / el m i c))) m)) (by rw [e1]; exact hy) (by rw [e2]; exact Int.emod_nonneg _ h0)
        rw [e1, e2] at this
        simp only [gL, gO, if_neg (show ¬ (1 : Nat) = 3 by decide), Nat.one_mul, if_pos, Int.natAbs_neg]
        have h2 := eu_num (x := el m top c) h0
        refine Nat.le_trans (Nat.mul_le_mul_left _ this) ?_
        rw [Nat.mul_left_comm, Nat.mul_comm ((el m top c).natAbs + 2 * (el m i c).natAbs + 1)]
        exact Nat.mul_le_mul_left _ (by omega)
theorem eu_g2 (f : Nat) (m : List (List Int)) : gL (euL r cc c top i f m) ≤ ((el m top c).natAbs + 2 * (el m i c).natAbs + 1) * (3 * ((el m i c).natAbs + 1)) := by
  match f with
  | 0 => exact Nat.mul_le_mul (Nat.le_add_left 1 _) (show 1 ≤ 3 * ((el m i c).natAbs + 1) by omega)
  | f + 1 =>
    simp only [euL]
    split
    · exact Nat.mul_le_mul (Nat.le_add_left 1 _) (show 1 ≤ 3 * ((el m i c).natAbs + 1) by omega)
    · rename_i h0
      split
      · rename_i hx0
        obtain ⟨e1, e2⟩ := eu_swap ht hi hc hne (m := m)
        have := eu_g1 ht hi hc hne f (apO r cc (swapO top i) m) (by rw [e2, hx0]; exact Int.le_refl _)
        rw [e1, e2, hx0] at this
        simp only [gL, gO, if_neg (show ¬ (1 : Nat) = 3 by decide), Nat.one_mul, hx0]
        simp only [Int.natAbs_zero, Nat.zero_add, Nat.mul_one, Nat.mul_zero, Nat.add_zero] at this ⊢
        refine Nat.le_trans this ?_
        have := Nat.mul_le_mul_right (3 * ((el m i c).natAbs + 1)) (show 1 ≤ 2 * (el m i c).natAbs + 1 by omega)
        omega
      · obtain ⟨e1, e2⟩ := eu_next ht hi hc hne (m := m)
        have := eu_g1 ht hi hc hne f (apO r cc (swapO top i) (apO r cc (addO top i (-(el m top c / el m i c))) m)) (by rw [e2]; exact Int.emod_nonneg _ h0)
        rw [e1, e2] at this
        simp only [gL, gO, if_neg (show ¬ (1 : Nat) = 3 by decide), Nat.one_mul, if_pos, Int.natAbs_neg]
        have h2 := eu_num (x := el m top c) h0
        have h3 := Int.emod_nonneg (el m top c) h0
        have h4 := Int.emod_lt (el m top c) h0
        refine Nat.le_trans (Nat.mul_le_mul_left _ this) ?_
        rw [Nat.mul_left_comm, Nat.mul_comm ((el m top c).natAbs + 2 * (el m i c).natAbs + 1)]
        exact Nat.mul_le_mul (by omega) (by omega)
theorem eu_g {A : Nat} (f : Nat) {m : List (List Int)} (h1 : (el m top c).natAbs ≤ A) (h2 : (el m i c).natAbs ≤ A) : gL (euL r cc c top i f m) ≤ eE A :=
  Nat.le_trans (eu_g2 ht hi hc hne f m) (Nat.mul_le_mul (by omega) (by omega))
end
def rowsL (r cc c top : Nat) : List Nat → List (List Int) → List Opz
  | [], _ => []
  | i :: is, m => euL r cc c top i ((el m i c).natAbs + 1) m ++ rowsL r cc c top is (apL r cc (euL r cc c top i ((el m i c).natAbs + 1) m) m)
def redL (r cc c top : Nat) : List Nat → List (List Int) → List Opz
  | [], _ => []
  | i :: is, m => addO i top (-(el m i c / el m top c)) :: redL r cc c top is (apO r cc (addO i top (-(el m i c / el m top c))) m)
def ColB (r c A : Nat) (m : List (List Int)) : Prop := ∀ a, a < r → (el m a c).natAbs ≤ A
section
variable {r cc c top : Nat} (ht : top < r) (hc : c < cc)
include ht hc
theorem rowsL_ok {A : Nat} : ∀ (is : List Nat) (m : List (List Int)), (∀ i ∈ is, i < r ∧ top ≠ i) → ColB r c A m →
    (∀ o ∈ rowsL r cc c top is m, vO r o = true) ∧ gL (rowsL r cc c top is m) ≤ eE A ^ is.length ∧ ColB r c A (apL r cc (rowsL r cc c top is m) m) ∧
    (∀ a, a < r → a ≠ top → (a ∈ is ∨ el m a c = 0) → el (apL r cc (rowsL r cc c top is m) m) a c = 0) ∧
    (∀ a b, a < r → b < cc → a ≠ top → a ∉ is → el (apL r cc (rowsL r cc c top is m) m) a b = el m a b)
  | [], m, _, hA => ⟨by simp [rowsL], by simp [rowsL, gL], hA, fun a _ _ h => by
      rcases h with h | h
      · simp at h
      · exact h, fun _ _ _ _ _ _ => rfl⟩
  | i :: is, m, h, hA => by
    obtain ⟨hi, hne⟩ := h i (by simp)
    have v1 := euL_valid (cc := cc) (c := c) ht hi hne ((el m i c).natAbs + 1) m
    have g1 := eu_g ht hi hc hne ((el m i c).natAbs + 1) (hA top ht) (hA i hi)
    have e1 := euL_end ht hi hc hne ((el m i c).natAbs + 1) m (by omega) A (hA top ht) (hA i hi)
    have r1 := fun a b => euL_rest (cc := cc) (c := c) ht hi hne ((el m i c).natAbs + 1) m a b
    simp only [rowsL]
    generalize euL r cc c top i ((el m i c).natAbs + 1) m = l at *
    have hA2 : ColB r c A (apL r cc l m) := fun a ha => by
      by_cases h1 : a = top
      · rw [h1]; exact e1.2
      · by_cases h2 : a = i
        · rw [h2, e1.1]; simp
        · rw [r1 a c ha hc h1 h2]; exact hA a ha
    obtain ⟨v2, g2, A2, z2, k2⟩ := rowsL_ok is (apL r cc l m) (fun j hj => h j (by simp [hj])) hA2
    rw [apL_append]
    refine ⟨fun o ho => ?_, ?_, A2, fun a ha h1 h2 => ?_, fun a b ha hb h1 h2 => ?_⟩
    · rcases List.mem_append.1 ho with h | h
      · exact v1 o h
      · exact v2 o h
    · rw [gL_append, List.length_cons, Nat.pow_succ, Nat.mul_comm (eE A ^ is.length)]
      exact Nat.mul_le_mul g1 g2
    · refine z2 a ha h1 ?_
      by_cases h3 : a ∈ is
      · exact .inl h3
      · right
        by_cases h4 : a = i
        · rw [h4]; exact e1.1
        · rw [r1 a c ha hc h1 h4]
          rcases h2 with h2 | h2
          · rcases List.mem_cons.1 h2 with h2 | h2
            · exact absurd h2 h4
            · exact absurd h2 h3
          · exact h2
    · simp only [List.mem_cons, not_or] at h2
      rw [k2 a b ha hb h1 h2.2, r1 a b ha hb h1 h2.1]
theorem rowsL_zero : ∀ (is : List Nat) (m : List (List Int)) (b : Nat), (∀ i ∈ is, i < r ∧ top ≠ i) → b < cc → (∀ a, a < r → (a = top ∨ a ∈ is) → el m a b = 0) →
    ∀ a, a < r → (a = top ∨ a ∈ is) → el (apL r cc (rowsL r cc c top is m) m) a b = 0
  | [], m, b, _, _, h0, a, ha, h1 => h0 a ha h1
  | i :: is, m, b, h, hb, h0, a, ha, h1 => by
    obtain ⟨hi, hne⟩ := h i (by simp)
    obtain ⟨z1, z2⟩ := euL_zero (cc := cc) (c := c) ht hi hne ((el m i c).natAbs + 1) m b hb (h0 top ht (.inl rfl)) (h0 i hi (.inr (by simp)))
    have r1 := fun a b => euL_rest (cc := cc) (c := c) ht hi hne ((el m i c).natAbs + 1) m a b
    simp only [rowsL]
    rw [apL_append]
    generalize euL r cc c top i ((el m i c).natAbs + 1) m = l at *
    have key : ∀ a, a < r → (a = top ∨ a ∈ i :: is) → el (apL r cc l m) a b = 0 := fun a ha h2 => by
      by_cases e1 : a = top
      · rw [e1]; exact z1
      · by_cases e2 : a = i
        · rw [e2]; exact z2
        · rw [r1 a b ha hb e1 e2]; exact h0 a ha h2
    by_cases e : a = top ∨ a ∈ is
    · exact rowsL_zero is _ b (fun j hj => h j (by simp [hj])) hb (fun a ha h2 => key a ha (h2.imp id (List.mem_cons_of_mem _))) a ha e
    · simp only [not_or] at e
      rw [(rowsL_ok ht hc (A := (List.range r).foldl (fun k a => k + (el (apL r cc l m) a c).natAbs) 0) is (apL r cc l m) (fun j hj => h j (by simp [hj])) fun a ha => ?_).2.2.2.2 a b ha hb e.1 e.2]
      · exact key a ha h1
      · have : ∀ (l2 : List Nat) (k : Nat) (g : Nat → Nat), (∀ x ∈ l2, g x ≤ l2.foldl (fun k a => k + g a) k) ∧ k ≤ l2.foldl (fun k a => k + g a) k := by
          intro l2
          induction l2 with
          | nil => intro k g; simp
          | cons y l2 ih =>
            intro k g
            simp only [List.foldl_cons]
            refine ⟨fun x hx => ?_, by have := (ih (k + g y) g).2; omega⟩
            rcases List.mem_cons.1 hx with rfl | hx
            · have := (ih (k + g x) g).2; omega
            · exact (ih _ g).1 x hx
        exact (this (List.range r) 0 fun a => (el (apL r cc l m) a c).natAbs).1 a (List.mem_range.2 ha)
theorem redL_ok {A : Nat} : ∀ (is : List Nat) (m : List (List Int)), (∀ i ∈ is, i < r ∧ i ≠ top) → ColB r c A m → 0 < el m top c →
    (∀ o ∈ redL r cc c top is m, vO r o = true) ∧ gL (redL r cc c top is m) ≤ (A + 1) ^ is.length ∧
    (∀ a b, a < r → b < cc → (a = top ∨ a ∉ is) → el (apL r cc (redL r cc c top is m) m) a b = el m a b) ∧
    (∀ a b, a < r → b < cc → el m top b = 0 → el (apL r cc (redL r cc c top is m) m) a b = el m a b) ∧
    (∀ a, a < r → a ∈ is → 0 ≤ el (apL r cc (redL r cc c top is m) m) a c ∧ el (apL r cc (redL r cc c top is m) m) a c < el m top c)
  | [], m, _, hA, _ => ⟨by simp [redL], by simp [redL, gL], fun _ _ _ _ _ => rfl, fun _ _ _ _ _ => rfl, fun _ _ h => by simp at h⟩
  | i :: is, m, h, hA, hp => by
    obtain ⟨hi, hne⟩ := h i (by simp)
    have e1 : ∀ a b, a < r → b < cc → el (apO r cc (addO i top (-(el m i c / el m top c))) m) a b = if a = i then el m a b + -(el m i c / el m top c) * el m top b else el m a b := fun a b ha hb => el_add ha hb
    have etop : ∀ b, b < cc → el (apO r cc (addO i top (-(el m i c / el m top c))) m) top b = el m top b := fun b hb => by rw [e1 top b ht hb, if_neg (Ne.symm hne)]
    have em : el (apO r cc (addO i top (-(el m i c / el m top c))) m) i c = el m i c % el m top c := by rw [e1 i c hi hc, if_pos rfl]; exact mod_eq _ _
    have h1 := Int.emod_nonneg (el m i c) (by omega : el m top c ≠ 0)
    have h2 := Int.emod_lt_of_pos (el m i c) hp
    have hA2 : ColB r c A (apO r cc (addO i top (-(el m i c / el m top c))) m) := fun a ha => by
      by_cases ea : a = i
      · rw [ea, em]; have := hA top ht; omega
      · rw [e1 a c ha hc, if_neg ea]; exact hA a ha
    have hz : (el m i c / el m top c).natAbs ≤ A := by
      have h3 := hA i hi
      have h4 := Int.natAbs_ediv_le_natAbs (el m i c) (el m top c)
      omega
    obtain ⟨v2, g2, k2, z2, n2⟩ := redL_ok is (apO r cc (addO i top (-(el m i c / el m top c))) m) (fun j hj => h j (by simp [hj])) hA2 (by rw [etop c hc]; exact hp)
    simp only [redL, apL]
    refine ⟨fun o ho => ?_, ?_, fun a b ha hb h5 => ?_, fun a b ha hb h5 => ?_, fun a ha h5 => ?_⟩
    · rcases List.mem_cons.1 ho with rfl | ho
      · exact vO_add hi ht hne
      · exact v2 o ho
    · rw [List.length_cons, Nat.pow_succ, Nat.mul_comm ((A + 1) ^ is.length)]
      simp only [gL, gO, if_pos, Int.natAbs_neg]
      exact Nat.mul_le_mul (by omega) g2
    · rw [k2 a b ha hb (h5.imp id fun h6 h7 => h6 (List.mem_cons_of_mem _ h7)), e1 a b ha hb, if_neg]
      rintro rfl
      rcases h5 with h5 | h5
      · exact hne h5
      · exact h5 (by simp)
    · rw [z2 a b ha hb (by rw [etop b hb]; exact h5), e1 a b ha hb, h5, Int.mul_zero, Int.add_zero]
      split <;> rfl
    · by_cases h6 : a ∈ is
      · have := n2 a ha h6
        rwa [etop c hc] at this
      · have ea : a = i := by
          rcases List.mem_cons.1 h5 with h | h
          · exact h
          · exact absurd h h6
        subst ea
        rw [k2 a c ha hc (.inr h6), em]
        exact ⟨h1, h2⟩
end
end Go.AM
/- The operations of torsionref12.Form: a column, all columns; bounds. -/
namespace Go.AM
def pivL (r cc c top : Nat) (K : List (List Int) → List Opz) (m : List (List Int)) : List Opz :=
  redL r cc c top (List.range top) m ++ K (apL r cc (redL r cc c top (List.range top) m) m)
def tailL (r cc c top : Nat) (K0 K1 : List (List Int) → List Opz) (m : List (List Int)) : List Opz :=
  if el m top c = 0 then K0 m
  else if el m top c < 0 then negO top :: pivL r cc c top K1 (apO r cc (negO top) m)
  else pivL r cc c top K1 m
def lowL (r cc c top i : Nat) (K : List (List Int) → List Opz) (m : List (List Int)) : List Opz :=
  rowsL r cc c top (List.range' i (r - i)) m ++ K (apL r cc (rowsL r cc c top (List.range' i (r - i)) m) m)
def formL (r cc : Nat) : Nat → Nat → Nat → List (List Int) → List Opz
  | 0, _, _, _ => []
  | n + 1, c, top, m => if top < r then lowL r cc c top (top + 1) (tailL r cc c top (formL r cc n (c + 1) top) (formL r cc n (c + 1) (top + 1))) m else []
def gB (r : Nat) : Nat → Nat → Nat
  | 0, _ => 1
  | n + 1, N => eE N ^ r * gB r n (eE N ^ r * N)
theorem gB_pos (r : Nat) : ∀ n N, 1 ≤ gB r n N
  | 0, _ => Nat.le_refl _
  | n + 1, N => Nat.mul_le_mul (Nat.pow_pos (eE_pos N)) (gB_pos r n _)
theorem colB_of {r cc c A : Nat} {m : List (List Int)} (hm : Mx r cc m) (km : BdM A m) (hc : c < cc) : ColB r c A m := fun _ ha => el_bd hm km ha hc
section
variable {r cc : Nat}
theorem lowL_low {c top i : Nat} {K : List (List Int) → List Opz} {m : List (List Int)} (h : i < r) :
    lowL r cc c top i K m = euL r cc c top i ((el m i c).natAbs + 1) m ++ lowL r cc c top (i + 1) K (apL r cc (euL r cc c top i ((el m i c).natAbs + 1) m) m) := by
  unfold lowL
  rw [show r - i = (r - (i + 1)) + 1 by omega, List.range'_succ]
  simp only [rowsL]
  rw [apL_append, List.append_assoc]
theorem lowL_end {c top : Nat} {K : List (List Int) → List Opz} {m : List (List Int)} : lowL r cc c top r K m = K m := by
  unfold lowL
  simp [rowsL, apL]
theorem below {top : Nat} : ∀ i ∈ List.range' (top + 1) (r - (top + 1)), i < r ∧ top ≠ i := fun i hi => by
  simp only [List.mem_range'_1] at hi
  omega
theorem formL_ok : ∀ (n c top : Nat) (m : List (List Int)) (N : Nat), c + n ≤ cc → Mx r cc m → BdM N m →
    (∀ o ∈ formL r cc n c top m, vO r o = true) ∧ gL (formL r cc n c top m) ≤ gB r n N
  | 0, c, top, m, N, _, _, _ => ⟨by simp [formL], by simp [formL, gL, gB]⟩
  | n + 1, c, top, m, N, hcc, hm, km => by
    have hc : c < cc := by omega
    simp only [formL]
    split
    case isFalse => exact ⟨by simp, by simp only [gL]; exact gB_pos r _ _⟩
    rename_i ht
    have hA := colB_of hm km hc
    obtain ⟨v1, g1, A1, z1, k1⟩ := rowsL_ok (cc := cc) ht hc (List.range' (top + 1) (r - (top + 1))) m below hA
    unfold lowL
    have lm : Mx r cc (apL r cc (rowsL r cc c top (List.range' (top + 1) (r - (top + 1))) m) m) := apL_mx _ hm
    have lk := apL_g v1 hm km
    rw [List.length_range'] at g1
    generalize rowsL r cc c top (List.range' (top + 1) (r - (top + 1))) m = l1 at *
    generalize apL r cc l1 m = m1 at *
    have hr1 : eE N ^ (r - (top + 1)) ≤ eE N ^ r := Nat.pow_le_pow_right (eE_pos N) (by omega)
    have fin0 : ∀ top', (∀ o ∈ formL r cc n (c + 1) top' m1, vO r o = true) ∧ gL (formL r cc n (c + 1) top' m1) ≤ gB r n (eE N ^ r * N) := fun top' =>
      formL_ok n (c + 1) top' m1 (eE N ^ r * N) (by omega) lm (lk.mono (Nat.mul_le_mul_right _ (Nat.le_trans g1 hr1)))
    have piv : ∀ (l2 : List Opz) (m2 : List (List Int)), (∀ o ∈ l2, vO r o = true) → gL l2 = 1 → m2 = apL r cc l2 m1 → ColB r c N m2 → 0 < el m2 top c →
        (∀ o ∈ l2 ++ pivL r cc c top (formL r cc n (c + 1) (top + 1)) m2, vO r o = true) ∧ gL l1 * gL (l2 ++ pivL r cc c top (formL r cc n (c + 1) (top + 1)) m2) ≤ gB r (n + 1) N := fun l2 m2 v2 g2 hm2 A2 hp => by
      obtain ⟨v3, g3, _, _, _⟩ := redL_ok (cc := cc) ht hc (A := N) (List.range top) m2 (fun i hi => by simp only [List.mem_range] at hi; omega) A2 hp
      unfold pivL
      rw [List.length_range] at g3
      have lm2 : Mx r cc m2 := hm2 ▸ apL_mx _ lm
      have lk2 : BdM (gL l1 * N) m2 := by
        have := apL_g v2 lm lk
        rw [g2, Nat.one_mul] at this
        rw [hm2]; exact this
      have lk3 := apL_g v3 lm2 lk2
      have lm3 : Mx r cc (apL r cc (redL r cc c top (List.range top) m2) m2) := apL_mx _ lm2
      generalize redL r cc c top (List.range top) m2 = l3 at *
      generalize apL r cc l3 m2 = m3 at *
      have g13 : gL l1 * gL l3 ≤ eE N ^ r := by
        have h1 : (N + 1) ^ top ≤ eE N ^ top := Nat.pow_le_pow_left (eE_ge N) top
        have h2 : gL l1 * gL l3 ≤ eE N ^ (r - (top + 1)) * eE N ^ top := Nat.mul_le_mul g1 (Nat.le_trans g3 h1)
        rw [← Nat.pow_add] at h2
        exact Nat.le_trans h2 (Nat.pow_le_pow_right (eE_pos N) (by omega))
      obtain ⟨v4, g4⟩ := formL_ok n (c + 1) (top + 1) m3 (eE N ^ r * N) (by omega) lm3 (lk3.mono (by
        rw [← Nat.mul_assoc, Nat.mul_comm (gL l3)]
        exact Nat.mul_le_mul_right _ g13))
      refine ⟨fun o ho => ?_, ?_⟩
      · rcases List.mem_append.1 ho with h | h
        · exact v2 o h
        · rcases List.mem_append.1 h with h | h
          · exact v3 o h
          · exact v4 o h
      · rw [gL_append, gL_append, g2, Nat.one_mul, ← Nat.mul_assoc]
        exact Nat.mul_le_mul g13 g4
    unfold tailL
    split
    · refine ⟨fun o ho => ?_, ?_⟩
      · rcases List.mem_append.1 ho with h | h
        · exact v1 o h
        · exact (fin0 top).1 o h
      · rw [gL_append]
        exact Nat.mul_le_mul (Nat.le_trans g1 hr1) (fin0 top).2
    · rename_i h0
      split
      · rename_i hneg
        have e1 : ∀ a b, a < r → b < cc → el (apO r cc (negO top) m1) a b = if a = top then - el m1 a b else el m1 a b := fun a b ha hb => by rw [el_apO ha hb]; simp [opF]
        obtain ⟨p1, p2⟩ := piv [negO top] (apO r cc (negO top) m1) (fun o ho => by simp only [List.mem_singleton] at ho; subst ho; exact vO_neg ht) rfl rfl
          (fun a ha => by
            rw [e1 a c ha hc]
            split
            · rw [Int.natAbs_neg]; exact A1 a ha
            · exact A1 a ha)
          (by rw [e1 top c ht hc, if_pos rfl]; omega)
        refine ⟨fun o ho => ?_, ?_⟩
        · rcases List.mem_append.1 ho with h | h
          · exact v1 o h
          · exact p1 o h
        · rw [gL_append]; exact p2
      · obtain ⟨p1, p2⟩ := piv [] m1 (by simp) rfl rfl A1 (by omega)
        refine ⟨fun o ho => ?_, ?_⟩
        · rcases List.mem_append.1 ho with h | h
          · exact v1 o h
          · exact p1 o h
        · rw [gL_append]; exact p2
end
theorem gB_pow (r : Nat) : ∀ (n N : Nat), 1 ≤ N → N * gB r n N ≤ (24 * N) ^ ((2 * r + 2) ^ n)
  | 0, N, h => by simp [gB]; omega
  | n + 1, N, h => by
    have hE : eE N ≤ (24 * N) ^ 2 := by
      unfold eE
      have h1 : (3 * N + 1) * (3 * (N + 1)) ≤ (24 * N) * (24 * N) := Nat.mul_le_mul (by omega) (by omega)
      rw [Nat.pow_two]; exact h1
    have hEr : eE N ^ r ≤ (24 * N) ^ (2 * r) := by rw [Nat.pow_mul]; exact Nat.pow_le_pow_left hE r
    have hN1 : 1 ≤ eE N ^ r * N := Nat.mul_le_mul (Nat.pow_pos (eE_pos N)) h
    have ih := gB_pow r n (eE N ^ r * N) hN1
    simp only [gB]
    have e1 : N * (eE N ^ r * gB r n (eE N ^ r * N)) = (eE N ^ r * N) * gB r n (eE N ^ r * N) := by rw [← Nat.mul_assoc, Nat.mul_comm N]
    rw [e1]
    refine Nat.le_trans ih ?_
    have h2 : 24 * (eE N ^ r * N) ≤ (24 * N) ^ (2 * r + 2) := by
      have h3 : eE N ^ r * (24 * N) ≤ (24 * N) ^ (2 * r) * (24 * N) := Nat.mul_le_mul_right _ hEr
      have h4 : (24 * N) ^ (2 * r) * (24 * N) ≤ (24 * N) ^ (2 * r + 2) := by
        rw [← Nat.pow_succ]
        exact Nat.pow_le_pow_right (by omega) (by omega)
      have e2 : 24 * (eE N ^ r * N) = eE N ^ r * (24 * N) := Nat.mul_left_comm _ _ _
      omega
    refine Nat.le_trans (Nat.pow_le_pow_left h2 _) ?_
    rw [← Nat.pow_mul, Nat.pow_succ, Nat.mul_comm (2 * r + 2)]
    exact Nat.le_refl _
end Go.AM
/- Division of integers: by one limb (torsionref01.short). -/
namespace Go.AM
open Go.Proofs.Tryz
def sQ (d : Nat) : List Nat → List Nat × Nat
  | [] => ([], 0)
  | x :: l => ((((sQ d l).2 * 4294967296 + x) / d) :: (sQ d l).1, ((sQ d l).2 * 4294967296 + x) % d)
theorem sQ_len (d : Nat) : ∀ l, (sQ d l).1.length = l.length
  | [] => rfl
  | _ :: l => by simp [sQ, sQ_len d l]
theorem sQ_lt {d : Nat} (hd : 0 < d) : ∀ l, (sQ d l).2 < d
  | [] => hd
  | _ :: _ => Nat.mod_lt _ hd
theorem sQ_val {d : Nat} : ∀ l, d * val (sQ d l).1 + (sQ d l).2 = val l
  | [] => by simp [sQ, val]
  | x :: l => by
    have ih := sQ_val (d := d) l
    have h := Nat.div_add_mod ((sQ d l).2 * 4294967296 + x) d
    simp only [sQ, val]
    rw [← ih, Nat.mul_add, Nat.mul_left_comm]
    omega
theorem sQ_dig {d : Nat} (hd : 0 < d) : ∀ l, (∀ x ∈ l, x < 4294967296) → ∀ z ∈ (sQ d l).1, z < 4294967296
  | [], _, z, hz => by simp [sQ] at hz
  | x :: l, h, z, hz => by
    simp only [sQ, List.mem_cons] at hz
    rcases hz with rfl | hz
    · rw [Nat.div_lt_iff_lt_mul hd]
      have h1 := sQ_lt hd l
      have h2 := h x (by simp)
      have h3 : ((sQ d l).2 + 1) * 4294967296 ≤ d * 4294967296 := Nat.mul_le_mul_right _ h1
      omega
    · exact sQ_dig hd l (fun y hy => h y (by simp [hy])) z hz
theorem sQ_div {d : Nat} (hd : 0 < d) (l : List Nat) : val (sQ d l).1 = val l / d ∧ (sQ d l).2 = val l % d := by
  have h1 := sQ_val (d := d) l
  have h2 := sQ_lt hd l
  have h3 : (d * val (sQ d l).1 + (sQ d l).2) / d = val (sQ d l).1 := by
    rw [Nat.mul_add_div hd, Nat.div_eq_of_lt h2, Nat.add_zero]
  have h4 : (d * val (sQ d l).1 + (sQ d l).2) % d = (sQ d l).2 := by
    rw [Nat.mul_add_mod, Nat.mod_eq_of_lt h2]
  rw [h1] at h3 h4
  exact ⟨h3.symm, h4.symm⟩
theorem rep_set (n v : Nat) (q : List Nat) : (List.replicate (n + 1) 0 ++ q).set n v = List.replicate n 0 ++ (v :: q) := by
  rw [List.set_append_left _ _ (by simp), List.replicate_succ', List.set_append_right _ _ (by simp)]
  simp
theorem u32_id {n : Int} (h0 : 0 ≤ n) (h1 : n < 4294967296) : IntKind.u32.wrap n = n := by rw [wu32]; omega
theorem rshort_ok {l : List Nat} {d : Nat} (hB : ∀ x ∈ l, x < 4294967296) (hl : l.length ≤ 1099511627776) (hd : 0 < d) (hd' : d < 4294967296) :
    FnD prog 115 [vs (lim l), vD (dU d)] (.tup [eD (dL (lim (sQ d l).1)), eD (dU (sQ d l).2)]) [] := by
  refine vc115_ok _ _ (R := Out _) ?_
  unfold vc115
  simp only [lim_length]
  have hq := sQ_len d
  refine ⟨⟨by omega, by omega, by omega⟩, fun out rest t => ∃ n : Nat, t = (n : Int) - 1 ∧ n ≤ l.length ∧ out = lim (List.replicate n 0 ++ (sQ d (l.drop n)).1) ∧ rest = ((sQ d (l.drop n)).2 : Nat), fun _ _ t => (t + 1).toNat,
    ⟨l.length, by rw [w64 (by omega) (by omega)], Nat.le_refl _, ?_, ?_⟩, ?_⟩
  · rw [Int.toNat_natCast, List.drop_length]; simp [sQ, lim]
  · rw [List.drop_length]; rfl
  rintro _ _ _ ⟨n, rfl, hn, rfl, rfl⟩
  refine ⟨fun h => ?_, fun h => ?_⟩
  · have h1 : 0 < n := by simp at h; omega
    obtain ⟨i, rfl⟩ : ∃ i, n = i + 1 := ⟨n - 1, by omega⟩
    have hi : i < l.length := by omega
    have ei : (((i + 1 : Nat) : Int) - 1) = (i : Int) := by omega
    have hdrop : l.drop i = l[i] :: l.drop (i + 1) := List.drop_eq_getElem_cons hi
    have hx := hB _ (List.getElem_mem hi)
    have hr := sQ_lt hd (l.drop (i + 1))
    have hs : (sQ d (l.drop i)) = (((((sQ d (l.drop (i + 1))).2 * 4294967296 + l[i]) / d) :: (sQ d (l.drop (i + 1))).1), ((sQ d (l.drop (i + 1))).2 * 4294967296 + l[i]) % d) := by rw [hdrop]; rfl
    generalize hrr : (sQ d (l.drop (i + 1))).2 = r at *
    generalize (sQ d (l.drop (i + 1))).1 = qs at *
    have hsum : r * 4294967296 + l[i] < d * 4294967296 := by
      have : (r + 1) * 4294967296 ≤ d * 4294967296 := Nat.mul_le_mul_right _ hr
      omega
    have hdiv : (r * 4294967296 + l[i]) / d < 4294967296 := by rw [Nat.div_lt_iff_lt_mul hd]; omega
    have e1 : IntKind.u64.wrap (IntKind.u64.wrap ((r : Int) * 4294967296) + IntKind.u64.wrap ((l[i] : Nat) : Int)) = ((r * 4294967296 + l[i] : Nat) : Int) := by
      rw [wu64 (n := (r : Int) * 4294967296) (by omega) (by omega), wu64 (n := ((l[i] : Nat) : Int)) (by omega) (by omega), wu64 (by omega) (by omega)]
      omega
    have e2 : IntKind.u64.wrap (d : Int) = (d : Int) := wu64 (by omega) (by omega)
    have e3 : (((r * 4294967296 + l[i] : Nat) : Int).tdiv (d : Int)) = (((r * 4294967296 + l[i]) / d : Nat) : Int) := by rw [Int.tdiv_eq_ediv_of_nonneg (by omega)]; rfl
    have e4 : (((r * 4294967296 + l[i] : Nat) : Int).tmod (d : Int)) = (((r * 4294967296 + l[i]) % d : Nat) : Int) := by rw [Int.tmod_eq_emod_of_nonneg (by omega)]; rfl
    rw [ei]
    refine ⟨((l[i] : Nat) : Int), ⟨by omega, by omega⟩, by rw [Int.toNat_natCast]; exact lim_get hi, ?_, ⟨by omega, by rw [lim_length]; simp; omega⟩, ?_⟩
    · rw [e2]; omega
    generalize (r * 4294967296 + l[i]) / d = qq at *
    generalize (r * 4294967296 + l[i]) % d = mm at *
    rw [e1, e2, e3, e4, wu64 (n := (qq : Int)) (by omega) (by omega), u32_id (by omega) (by omega), w64 (by omega) (by omega), Int.toNat_natCast, lim_set, rep_set]
    refine ⟨⟨i, by omega, by omega, ?_, ?_⟩, ?_⟩
    · rw [hs]
    · rw [hs]
    · show ((i : Int) - 1 + 1).toNat < ((i : Int) + 1).toNat; omega
  · have hn0 : n = 0 := by simp at h; omega
    subst hn0
    have hr := sQ_lt hd l
    simp only [List.drop_zero, List.replicate_zero, List.nil_append]
    rw [u32_id (by omega) (by omega)]
    exact ⟨rfl, rfl⟩
end Go.AM
/- Division of integers: the estimate of a quotient (torsionref01.estimate). -/
namespace Go.AM
open Go.Proofs.Tryz
theorem val_last {l : List Nat} {m : Nat} (hm : l.length = m + 1) : val l = val (l.take m) + 4294967296 ^ m * l[m] := by
  have h1 : l = l.take m ++ [l[m]] := by
    conv => lhs; rw [← List.take_append_drop m l]
    rw [List.drop_eq_getElem_cons (by omega), List.drop_of_length_le (by omega)]
  have h2 : (l.take m).length = m := by simp; omega
  conv => lhs; rw [h1]
  rw [val_append, h2]; simp [val]
theorem val_last2 {l : List Nat} {m : Nat} (hm : l.length = m + 2) : val l = val (l.take m) + 4294967296 ^ m * (l[m + 1] * 4294967296 + l[m]) := by
  have h1 : l = l.take m ++ [l[m], l[m + 1]] := by
    conv => lhs; rw [← List.take_append_drop m l]
    rw [List.drop_eq_getElem_cons (by omega), List.drop_eq_getElem_cons (by omega), List.drop_of_length_le (by omega)]
  have h2 : (l.take m).length = m := by simp; omega
  conv => lhs; rw [h1]
  rw [val_append, h2]; simp only [val]; congr 2; omega
theorem take_lt' {l : List Nat} (hB : ∀ x ∈ l, x < 4294967296) (m : Nat) (hm : m ≤ l.length) : val (l.take m) < 4294967296 ^ m := by
  have := val_lt (l := l.take m) fun x hx => hB x (List.mem_of_mem_take hx)
  rwa [List.length_take, Nat.min_eq_left hm] at this
theorem rep_val (n : Nat) (l : List Nat) : val (List.replicate n 0 ++ l) = 4294967296 ^ n * val l := by
  rw [val_append, List.length_replicate]
  have : val (List.replicate n 0) = 0 := by
    induction n with
    | zero => rfl
    | succ n ih => simp [List.replicate_succ, val, ih]
  omega
theorem restim_ok {R D : Nat} (hD : 2 ≤ (digs D).length) (htop : ∀ x, (digs D).getLast? = some x → 2147483648 ≤ x) (hle : D ≤ R) (hlen : (digs R).length ≤ 1099511627776) :
    ∃ s : Nat, 0 < s ∧ s * D ≤ R ∧ FnD prog 116 [vs (lim (digs R)), vs (lim (digs D))] (eI s) [] := by
  obtain ⟨a, ha⟩ : ∃ a, a = digs R := ⟨_, rfl⟩
  obtain ⟨b, hb⟩ : ∃ b, b = digs D := ⟨_, rfl⟩
  have la : ∀ x ∈ a, x < 4294967296 := ha ▸ digs_lt R
  have lb : ∀ x ∈ b, x < 4294967296 := hb ▸ digs_lt D
  have va : val a = R := ha ▸ val_digs R
  have vb' : val b = D := hb ▸ val_digs D
  have ca : canon a := ha ▸ digs_canon R
  have cb : canon b := hb ▸ digs_canon D
  rw [← hb] at hD htop ⊢
  rw [← ha] at hlen ⊢
  have hnm : b.length ≤ a.length := len_le_of_val la cb (by omega)
  obtain ⟨m, hm⟩ : ∃ m, b.length = m + 2 := ⟨b.length - 2, by omega⟩
  obtain ⟨n, hn⟩ : ∃ n, a.length = n + 2 := ⟨a.length - 2, by omega⟩
  have hlast : b.getLast? = some b[m + 1] := by rw [List.getLast?_eq_getElem?, show b.length - 1 = m + 1 by omega]; exact List.getElem?_eq_getElem (by omega)
  have alast : a.getLast? = some a[n + 1] := by rw [List.getLast?_eq_getElem?, show a.length - 1 = n + 1 by omega]; exact List.getElem?_eq_getElem (by omega)
  have hdt := htop _ hlast
  have hdl := lb _ (List.getElem_mem (show m + 1 < b.length by omega))
  have hr1 := la _ (List.getElem_mem (show n + 1 < a.length by omega))
  have hr2 := la _ (List.getElem_mem (show n < a.length by omega))
  have hr0 : a[n + 1] ≠ 0 := ca _ alast
  have vD1 := val_last (l := b) (m := m + 1) (by omega)
  have tD := take_lt' lb (m + 1) (by omega)
  have vR1 := val_last (l := a) (m := n + 1) (by omega)
  have vR2 := val_last2 (l := a) (m := n) hn
  rw [vb'] at vD1
  rw [va] at vR1 vR2
  have gb : (lim b)[((m + 1 : Nat) : Int).toNat]? = some [dU ((b[m + 1] : Nat) : Int)] := by rw [Int.toNat_natCast]; exact lim_get (by omega)
  have ga1 : (lim a)[((n + 1 : Nat) : Int).toNat]? = some [dU ((a[n + 1] : Nat) : Int)] := by rw [Int.toNat_natCast]; exact lim_get (by omega)
  have ga2 : (lim a)[((n : Nat) : Int).toNat]? = some [dU ((a[n] : Nat) : Int)] := by rw [Int.toNat_natCast]; exact lim_get (by omega)
  generalize b[m + 1] = dt at *
  generalize a[n + 1] = r1 at *
  generalize a[n] = r2 at *
  have hDlt : D < 4294967296 ^ (m + 1) * (dt + 1) := by rw [Nat.mul_add]; omega
  have w1 : IntKind.i64.wrap ((b.length : Int) - 1) = ((m + 1 : Nat) : Int) := by rw [w64 (by omega) (by omega)]; omega
  have w2 : IntKind.i64.wrap ((a.length : Int) - 1) = ((n + 1 : Nat) : Int) := by rw [w64 (by omega) (by omega)]; omega
  have w3 : IntKind.i64.wrap ((a.length : Int) - 2) = ((n : Nat) : Int) := by rw [w64 (by omega) (by omega)]; omega
  have w4 : IntKind.i64.wrap ((a.length : Int) - (b.length : Int)) = ((n - m : Nat) : Int) := by rw [w64 (by omega) (by omega)]; omega
  have u1 : IntKind.u64.wrap (IntKind.u64.wrap (dt : Int) + 1) = ((dt + 1 : Nat) : Int) := by rw [wu64 (n := (dt : Int)) (by omega) (by omega), wu64 (by omega) (by omega)]; omega
  have u2 : IntKind.u64.wrap (r1 : Int) = (r1 : Int) := wu64 (by omega) (by omega)
  have u3 : IntKind.u64.wrap (IntKind.u64.wrap ((r1 : Int) * 4294967296) + IntKind.u64.wrap (r2 : Int)) = ((r1 * 4294967296 + r2 : Nat) : Int) := by
    rw [wu64 (n := (r1 : Int) * 4294967296) (by omega) (by omega), wu64 (n := (r2 : Int)) (by omega) (by omega), wu64 (by omega) (by omega)]; omega
  by_cases hk : n = m
  · subst hk
    obtain ⟨v, hv⟩ : ∃ v, v = r1 / (dt + 1) := ⟨_, rfl⟩
    have hv1 : v * (dt + 1) ≤ r1 := by rw [hv]; exact Nat.div_mul_le_self _ _
    have hv2 : v ≤ r1 := by rw [hv]; exact Nat.div_le_self _ _
    have e1 : ((r1 : Int)).tdiv ((dt + 1 : Nat) : Int) = (v : Int) := by rw [Int.tdiv_eq_ediv_of_nonneg (by omega), hv]; rfl
    have e2 : (if (v : Int) > 1 then (v : Int) else 1) = ((max v 1 : Nat) : Int) := by split <;> omega
    refine ⟨max v 1, by omega, ?_, ?_⟩
    · by_cases h1 : v ≤ 1
      · rw [Nat.max_eq_right h1]; omega
      · rw [Nat.max_eq_left (by omega)]
        have h2 : v * D ≤ v * (4294967296 ^ (n + 1) * (dt + 1)) := Nat.mul_le_mul_left _ (Nat.le_of_lt hDlt)
        have h3 : v * (4294967296 ^ (n + 1) * (dt + 1)) = 4294967296 ^ (n + 1) * (v * (dt + 1)) := by rw [Nat.mul_left_comm]
        have h4 : 4294967296 ^ (n + 1) * (v * (dt + 1)) ≤ 4294967296 ^ (n + 1) * r1 := Nat.mul_le_mul_left _ hv1
        omega
    · refine vc116_ok _ _ (R := Out _) ?_
      unfold vc116
      simp only [lim_length]
      refine ⟨(dt : Int), ?_⟩
      rw [w1, w2, w4, u1]
      refine ⟨⟨by omega, by omega⟩, gb, fun _ => ⟨(r1 : Int), _, _, ⟨by omega, by omega⟩, ga1, by omega, ?_, oute rfl⟩, fun h => absurd h (by simp)⟩
      rw [u2, e1, wu64 (n := (v : Int)) (by omega) (by omega), e2, w64 (by omega) (by omega)]
      exact rof_ok _ (by omega) (by omega)
  · obtain ⟨k, hk'⟩ : ∃ k, n = m + k + 1 := ⟨n - m - 1, by omega⟩
    obtain ⟨e, he⟩ : ∃ e, e = (r1 * 4294967296 + r2) / (dt + 1) := ⟨_, rfl⟩
    have he1 : e * (dt + 1) ≤ r1 * 4294967296 + r2 := by rw [he]; exact Nat.div_mul_le_self _ _
    have he0 : 0 < e := by rw [he]; exact Nat.div_pos (by omega) (by omega)
    have he2 : e < 8589934592 := by rw [he, Nat.div_lt_iff_lt_mul (by omega)]; omega
    have e1 : (((r1 * 4294967296 + r2 : Nat) : Int)).tdiv ((dt + 1 : Nat) : Int) = (e : Int) := by rw [Int.tdiv_eq_ediv_of_nonneg (by omega), he]; rfl
    have w5 : IntKind.i64.wrap (((n - m : Nat) : Int) - 1) = (k : Int) := by rw [w64 (by omega) (by omega)]; omega
    have u5 : IntKind.u64.wrap (e : Int) = (e : Int) := wu64 (by omega) (by omega)
    have u6 : IntKind.u32.wrap (e : Int) = ((e % 4294967296 : Nat) : Int) := by rw [wu32]; omega
    have u7 : IntKind.u32.wrap ((e : Int).fdiv (2 ^ (min (32 : Int).toNat IntKind.u64.bits))) = ((e / 4294967296 : Nat) : Int) := by
      have : ((2 : Int) ^ (min (32 : Int).toNat IntKind.u64.bits)) = 4294967296 := by decide
      rw [this, Int.fdiv_eq_ediv_of_nonneg _ (by decide), u32_id (by omega) (by omega)]; omega
    have hlist : (List.replicate ((k : Int)).toNat [dU (0 : Int)]) ++ [[dU ((e % 4294967296 : Nat) : Int)], [dU ((e / 4294967296 : Nat) : Int)]] = lim (List.replicate k 0 ++ [e % 4294967296, e / 4294967296]) := by
      rw [Int.toNat_natCast, lim_rep, lim_append]; rfl
    have hval : val (List.replicate k 0 ++ [e % 4294967296, e / 4294967296]) = 4294967296 ^ k * e := by
      rw [rep_val]; simp only [val]; congr 1; omega
    have hmade := made_eI (List.replicate k 0 ++ [e % 4294967296, e / 4294967296]) false (fun x hx => by
      simp only [List.mem_append, List.mem_replicate, List.mem_cons, List.not_mem_nil, or_false] at hx
      rcases hx with ⟨_, rfl⟩ | rfl | rfl
      · decide
      · exact Nat.mod_lt _ (by decide)
      · omega) (by simp; omega)
    rw [hval, ← hlist] at hmade
    simp only [Bool.false_eq_true, if_false] at hmade
    refine ⟨4294967296 ^ k * e, Nat.mul_pos (Nat.pow_pos (by decide)) he0, ?_, ?_⟩
    · have h2 : 4294967296 ^ k * e * D ≤ 4294967296 ^ k * e * (4294967296 ^ (m + 1) * (dt + 1)) := Nat.mul_le_mul_left _ (Nat.le_of_lt hDlt)
      have h3 : 4294967296 ^ k * e * (4294967296 ^ (m + 1) * (dt + 1)) = 4294967296 ^ n * (e * (dt + 1)) := by
        rw [Nat.mul_mul_mul_comm, ← Nat.pow_add, show k + (m + 1) = n by omega]
      have h4 : 4294967296 ^ n * (e * (dt + 1)) ≤ 4294967296 ^ n * (r1 * 4294967296 + r2) := Nat.mul_le_mul_left _ he1
      omega
    · refine vc116_ok _ _ (R := Out _) ?_
      unfold vc116
      simp only [lim_length]
      refine ⟨(dt : Int), ?_⟩
      rw [w1, w2, w3, w4, w5, u1]
      refine ⟨⟨by omega, by omega⟩, gb, fun h => absurd h (by simp; omega), fun _ => ⟨(r1 : Int), (r2 : Int), ⟨by omega, by omega⟩, ga1, ⟨by omega, by omega⟩, ga2, by omega, ⟨by omega, by omega, by omega⟩, _, _, by decide, ?_, ?_, oute rfl⟩⟩
      · simp only [List.length_replicate, List.length_cons, List.length_nil]; omega
      · rw [u2, u3, e1, u5, u6, u7]
        exact hmade
end Go.AM
/- Division of integers: torsionref01.divide. -/
namespace Go.AM
open Go.Proofs.Tryz
def ei (z : Int) : E := .agg [.dat (.bool (decide (z < 0))), .dat (.sl (lim (digs z.natAbs)))]
def valD (l : DL) : Nat := val (l.map fun x => match x with | [D.int _ n] => n.toNat | _ => 0)
theorem valD_lim (l : List Nat) : valD (lim l) = val l := by
  unfold valD lim
  rw [List.map_map]
  congr 1
  conv => rhs; rw [← List.map_id l]
  exact List.map_congr_left fun x _ => by simp
theorem topdig {X m : Nat} (h1 : 4294967296 ^ (m + 1) * 2147483648 ≤ X) (h2 : X < 4294967296 ^ (m + 2)) : (digs X).length = m + 2 ∧ ∀ x, (digs X).getLast? = some x → 2147483648 ≤ x := by
  have hl := digs_len h2
  have hB := digs_lt X
  have hv := val_digs X
  have hp : 0 < 4294967296 ^ (m + 1) := Nat.pow_pos (by decide)
  have hlen : (digs X).length = m + 2 := by
    rcases Nat.lt_or_ge (digs X).length (m + 2) with h | h
    · have h3 := val_lt hB
      have h4 : 4294967296 ^ (digs X).length ≤ 4294967296 ^ (m + 1) := Nat.pow_le_pow_right (by decide) (by omega)
      omega
    · omega
  refine ⟨hlen, fun x hx => ?_⟩
  have hxe : x = (digs X)[m + 1] := by
    rw [List.getLast?_eq_getElem?, show (digs X).length - 1 = m + 1 by omega, List.getElem?_eq_getElem (by omega)] at hx
    exact (Option.some.inj hx).symm
  have h3 := val_last (l := digs X) (m := m + 1) (by omega)
  have h4 := take_lt' hB (m + 1) (by omega)
  rw [hv, ← hxe] at h3
  apply Classical.byContradiction
  intro hn
  have h5 : 4294967296 ^ (m + 1) * (x + 1) ≤ 4294967296 ^ (m + 1) * 2147483648 := Nat.mul_le_mul_left _ (by omega)
  rw [Nat.mul_add] at h5
  omega
theorem div_end {A D s Q R : Nat} (hs : 0 < s) (h : Q * (D * s) + R = A * s) (hR : R < D * s) : A / D = Q ∧ A % D = R / s := by
  have hD : 0 < D := by
    rcases Nat.eq_zero_or_pos D with h0 | h0
    · subst h0; omega
    · exact h0
  have h1 : Q * D ≤ A := by
    have : Q * D * s ≤ A * s := by rw [Nat.mul_assoc]; omega
    exact Nat.le_of_mul_le_mul_right this hs
  have h2 : R = (A - Q * D) * s := by rw [Nat.sub_mul, Nat.mul_assoc]; omega
  have h3 : R / s = A - Q * D := by rw [h2, Nat.mul_div_cancel _ hs]
  have h4 : A - Q * D < D := by
    rw [h2] at hR
    exact Nat.lt_of_mul_lt_mul_right hR
  have h5 : A = D * Q + (A - Q * D) := by rw [Nat.mul_comm D Q]; omega
  constructor
  · rw [h5, Nat.mul_add_div hD, Nat.div_eq_of_lt h4, Nat.add_zero]
  · rw [h3]
    conv => lhs; rw [h5]
    rw [Nat.mul_add_mod, Nat.mod_eq_of_lt h4]
theorem rdivide_ok {A D L : Nat} (hD : 0 < D) (hA : A * 4294967296 < 4294967296 ^ L) (hDL : D * 4294967296 < 4294967296 ^ L) (hL : L ≤ 1073741824) :
    FnD prog 89 [vs (lim (digs A)), vs (lim (digs D))] (.tup [ei ((A / D : Nat) : Int), ei ((A % D : Nat) : Int)]) [] := by
  have hsz : ∀ {z : Int} {y : Nat}, z.natAbs ≤ y → y < 4294967296 ^ L → Sz z := fun h1 h2 => Sz.of_lt L hL (by omega)
  have la := digs_len (n := A) (k := L) (by omega)
  have ld := digs_len (n := D) (k := L) (by omega)
  refine vc89_ok _ _ (R := Out _) ?_
  unfold vc89
  simp only [lim_length]
  have made : ∀ (l : List Nat), (∀ x ∈ l, x < 4294967296) → l.length ≤ 1073741824 → FnD prog 56 [vs (lim l), vb false] (eI ((val l : Nat) : Int)) [] := fun l h1 h2 => by
    have := made_eI l false h1 (by omega)
    simpa using this
  refine ⟨fun h1 => ?_, fun h1 => ?_⟩
  · -- one limb
    have hl1 : (digs D).length = 1 := by simpa using (natEq _ 1).symm.trans h1
    obtain ⟨d, hd⟩ : ∃ d, digs D = [d] := List.length_eq_one_iff.1 hl1
    have hdv : D = d := by have := val_digs D; rw [hd] at this; simpa [val] using this.symm
    have hdl := digs_lt D d (by rw [hd]; simp)
    have h161 := rshort_ok (l := digs A) (d := d) (digs_lt A) (by omega) (by omega) hdl
    obtain ⟨e1, e2⟩ := sQ_div (d := d) (by omega) (digs A)
    rw [val_digs] at e1 e2
    have m1 := made (sQ d (digs A)).1 (sQ_dig (by omega) _ (digs_lt A)) (by rw [sQ_len]; omega)
    rw [e1] at m1
    have hr := sQ_lt (d := d) (by omega) (digs A)
    have m2 := made [(sQ d (digs A)).2] (fun x hx => by simp at hx; omega) (by simp)
    rw [show val [(sQ d (digs A)).2] = A % d by simp [val, e2]] at m2
    subst hdv
    rw [hd]
    exact ⟨(D : Int), _, _, ⟨by decide, by simp⟩, rfl, h161, _, _, _, _, m1, m2, rfl, rfl⟩
  · have hl1 : (digs D).length ≠ 1 := by simpa using (natEq _ 1).symm.trans h1
    have hl0 : (digs D).length ≠ 0 := fun h => by have := digs_nil.1 (List.length_eq_zero_iff.1 h); omega
    obtain ⟨m, hm⟩ : ∃ m, (digs D).length = m + 2 := ⟨(digs D).length - 2, by omega⟩
    have hB := digs_lt D
    obtain ⟨dt, hdt⟩ : ∃ dt, dt = (digs D)[m + 1] := ⟨_, rfl⟩
    have hdl : dt < 4294967296 := hdt ▸ hB _ (List.getElem_mem _)
    have hd0 : dt ≠ 0 := digs_canon D dt (by rw [List.getLast?_eq_getElem?, show (digs D).length - 1 = m + 1 by omega, List.getElem?_eq_getElem (by omega), hdt])
    have vD := val_last (l := digs D) (m := m + 1) (by omega)
    have tD := take_lt' hB (m + 1) (by omega)
    rw [val_digs, ← hdt] at vD
    have gb : (lim (digs D))[((m + 1 : Nat) : Int).toNat]? = some [dU (dt : Int)] := by rw [Int.toNat_natCast, hdt]; exact lim_get (by omega)
    have w1 : IntKind.i64.wrap (((digs D).length : Int) - 1) = ((m + 1 : Nat) : Int) := by rw [w64 (by omega) (by omega)]; omega
    rw [w1]
    refine ⟨fun t => ∃ k : Nat, t = ((2 ^ k : Nat) : Int) ∧ dt * 2 ^ k < 4294967296, fun t => (4294967296 - t).toNat, ⟨0, rfl, by omega⟩, ?_⟩
    rintro _ ⟨k, rfl, hk⟩
    have hpk : 0 < 2 ^ k := Nat.pow_pos (by decide)
    have hk2 : 2 ^ k ≤ dt * 2 ^ k := Nat.le_mul_of_pos_left _ (by omega)
    have hk32 : k < 32 := by
      rcases Nat.lt_or_ge k 32 with h | h
      · exact h
      · have : 2 ^ 32 ≤ 2 ^ k := Nat.pow_le_pow_right (by decide) h
        omega
    have hdvd : (dt + 1) * 2 ^ k ≤ 4294967296 := by
      have e : (4294967296 : Nat) = 2 ^ (32 - k) * 2 ^ k := by rw [← Nat.pow_add, show 32 - k + k = 32 by omega]
      rw [e] at hk ⊢
      exact Nat.mul_le_mul_right _ (Nat.lt_of_mul_lt_mul_right hk)
    have hpow : 2 ^ (k + 1) = 2 * 2 ^ k := by rw [Nat.pow_succ, Nat.mul_comm]
    generalize hs : 2 ^ k = s at *
    have e1 : IntKind.u64.wrap (IntKind.u64.wrap (dt : Int) * IntKind.u64.wrap (s : Int)) = ((dt * s : Nat) : Int) := by
      rw [wu64 (n := (dt : Int)) (by omega) (by omega), wu64 (n := (s : Int)) (by omega) (by omega), ← Int.natCast_mul, wu64 (by omega) (by omega)]
    refine ⟨(dt : Int), ⟨by omega, by omega⟩, gb, ?_⟩
    rw [e1]
    refine ⟨fun h2 => ?_, fun h2 => ?_⟩
    · have h3 : dt * s < 2147483648 := by simp only [decide_eq_true_eq] at h2; omega
      have e2 : IntKind.u32.wrap ((2 : Int) * (s : Int)) = ((2 * s : Nat) : Int) := by rw [u32_id (by omega) (by omega)]; omega
      rw [e2]
      refine ⟨⟨k + 1, by rw [hpow], ?_⟩, ?_⟩
      · rw [hpow, Nat.mul_left_comm]; omega
      · show (4294967296 - ((2 * s : Nat) : Int)).toNat < (4294967296 - (s : Int)).toNat; omega
    · have h3 : 2147483648 ≤ dt * s := by simp only [decide_eq_false_iff_not] at h2; omega
      have hA' : A * s < 4294967296 ^ L := Nat.lt_of_le_of_lt (Nat.mul_le_mul_left A (by omega)) hA
      have hD' : D * s < 4294967296 ^ L := Nat.lt_of_le_of_lt (Nat.mul_le_mul_left D (by omega)) hDL
      have hP : 0 < 4294967296 ^ (m + 1) := Nat.pow_pos (by decide)
      have t1 : 4294967296 ^ (m + 1) * 2147483648 ≤ D * s := by
        have g1 : 4294967296 ^ (m + 1) * 2147483648 ≤ 4294967296 ^ (m + 1) * (dt * s) := Nat.mul_le_mul_left _ h3
        have g2 : 4294967296 ^ (m + 1) * dt * s ≤ D * s := Nat.mul_le_mul_right _ (by omega)
        rw [Nat.mul_assoc] at g2
        omega
      have t2 : D * s < 4294967296 ^ (m + 2) := by
        have g1 : D < 4294967296 ^ (m + 1) * (dt + 1) := by rw [Nat.mul_add]; omega
        have g2 : D * s < 4294967296 ^ (m + 1) * (dt + 1) * s := Nat.mul_lt_mul_of_pos_right g1 hpk
        have g3 : 4294967296 ^ (m + 1) * ((dt + 1) * s) ≤ 4294967296 ^ (m + 1) * 4294967296 := Nat.mul_le_mul_left _ hdvd
        rw [Nat.pow_succ 4294967296 (m + 1)]
        rw [Nat.mul_assoc] at g2
        omega
      obtain ⟨dlen, dtop⟩ := topdig t1 t2
      have mS := made [s] (fun x hx => by simp at hx; omega) (by simp)
      rw [show val [s] = s by simp [val]] at mS
      have mA := made (digs A) (digs_lt A) (by omega)
      rw [val_digs] at mA
      have mD := made (digs D) (digs_lt D) (by omega)
      rw [val_digs] at mD
      have szS : Sz (s : Int) := Sz.of_lt 1 (by decide) (by simp; omega)
      have xA := rmul_ok (x := (A : Int)) (y := (s : Int)) (hsz (y := A) (by simp) (by omega)) szS
      have xD := rmul_ok (x := (D : Int)) (y := (s : Int)) (hsz (y := D) (by simp) (by omega)) szS
      rw [← Int.natCast_mul] at xA xD
      have hneg : ∀ n : Nat, decide ((n : Int) < 0) = false := fun n => decide_eq_false (by omega)
      refine ⟨_, _, mS, _, _, _, _, _, _, _, _, mA, xA, mD, xD, ?_⟩
      refine ⟨fun r0 r1 q0 q1 => ∃ R Q : Nat, r0 = false ∧ r1 = lim (digs R) ∧ q0 = false ∧ q1 = lim (digs Q) ∧ Q * (D * s) + R = A * s, fun _ r1 _ _ => valD r1, ⟨A * s, 0, hneg _, by rw [Int.natAbs_natCast], rfl, rfl, by omega⟩, ?_⟩
      rintro _ _ _ _ ⟨R, Q, rfl, rfl, rfl, rfl, hinv⟩
      have hRle : R ≤ A * s := by omega
      have hRlen := digs_len (n := R) (k := L) (by omega)
      have hless := less_ok (a := digs R) (b := digs (D * s)) (digs_lt _) (digs_lt _) (digs_canon _) (digs_canon _) (by omega)
      rw [val_digs, val_digs] at hless
      have eD : (((D * s : Nat) : Int)).natAbs = D * s := Int.natAbs_natCast _
      simp only [eD]
      refine ⟨_, hless, fun hlt => ?_, fun hlt => ?_⟩
      · have hle : D * s ≤ R := by simpa using hlt
        obtain ⟨st, hst0, hst1, hest⟩ := restim_ok (R := R) (D := D * s) (by omega) dtop hle (by omega)
        have hDs : 0 < D * s := Nat.mul_pos hD hpk
        have hstR : st ≤ st * (D * s) := Nat.le_mul_of_pos_right _ hDs
        have hQ : Q ≤ Q * (D * s) := Nat.le_mul_of_pos_right _ hDs
        have f1 := radd_ok (x := (Q : Int)) (y := (st : Int)) (hsz (y := A * s) (by rw [Int.natAbs_natCast]; omega) hA') (hsz (y := A * s) (by rw [Int.natAbs_natCast]; omega) hA')
        have f2 := rmul_ok (x := (st : Int)) (y := ((D * s : Nat) : Int)) (hsz (y := A * s) (by rw [Int.natAbs_natCast]; omega) hA') (hsz (y := D * s) (by rw [Int.natAbs_natCast]; omega) hD')
        rw [← Int.natCast_mul] at f2
        have f3 := rsub_ok (x := (R : Int)) (y := ((st * (D * s) : Nat) : Int)) (hsz (y := A * s) (by rw [Int.natAbs_natCast]; omega) hA') (hsz (y := A * s) (by rw [Int.natAbs_natCast]; omega) hA')
        rw [← Int.natCast_add] at f1
        rw [← Int.natCast_sub hst1] at f3
        have hR1 : R - st * (D * s) < R := by
          have : 0 < st * (D * s) := Nat.mul_pos hst0 hDs
          omega
        refine ⟨_, _, hest, _, _, f1, _, _, _, _, f2, f3, ⟨R - st * (D * s), Q + st, hneg _, by rw [Int.natAbs_natCast], hneg _, by rw [Int.natAbs_natCast], ?_⟩, ?_⟩
        · rw [Nat.add_mul]; omega
        · show valD _ < valD _
          rw [valD_lim, valD_lim, val_digs, val_digs, Int.natAbs_natCast]; exact hR1
      · have hlt' : R < D * s := by simpa using hlt
        obtain ⟨q1, q2⟩ := div_end hpk hinv hlt'
        have g1 := rshort_ok (l := digs R) (d := s) (digs_lt R) (by omega) hpk (by omega)
        obtain ⟨e3, e4⟩ := sQ_div (d := s) hpk (digs R)
        rw [val_digs] at e3
        have g2 := made (sQ s (digs R)).1 (sQ_dig hpk _ (digs_lt R)) (by rw [sQ_len]; omega)
        rw [e3, ← q2] at g2
        refine ⟨_, _, g1, _, _, g2, ?_⟩
        rw [q1]
        exact ⟨by simp only [ei, hneg, Int.natAbs_natCast], rfl⟩
end Go.AM
/- Division of integers: torsionref01.DivMod, torsionref12.Floor. -/
namespace Go.AM
open Go.Proofs.Tryz
theorem ediv_uniq {a b q r : Int} (hb : b ≠ 0) (h : r + b * q = a) (h0 : 0 ≤ r) (h1 : r < b.natAbs) : a / b = q ∧ a % b = r := by
  rcases Int.lt_or_gt_of_ne hb with hn | hp
  · have := (Int.ediv_emod_unique (a := a) (b := -b) (q := -q) (r := r) (by omega)).2 ⟨by rw [Int.neg_mul_neg]; exact h, h0, by omega⟩
    rw [Int.ediv_neg, Int.emod_neg] at this
    exact ⟨by omega, this.2⟩
  · exact (Int.ediv_emod_unique hp).2 ⟨h, h0, by omega⟩
theorem out3 {q q' r r' : Int} {e : Int} (h1 : q = q') (h2 : r = r') : Out (.tup [ei q', ei r', eD (dI e)])
    (V.tup [(E.agg [(sD (dB (decide (q < 0)))), (sD (dL (lim (digs q.natAbs))))]), (E.agg [(sD (dB (decide (r < 0)))), (sD (dL (lim (digs r.natAbs))))]), (eD (dI e))]) [] := by
  subst h1; subst h2; exact ⟨rfl, rfl⟩
theorem rdivmod_ok {x y : Int} {L : Nat} (hy : y ≠ 0) (hx : x.natAbs * 4294967296 < 4294967296 ^ L) (hy2 : y.natAbs * 4294967296 < 4294967296 ^ L) (hL : L ≤ 1073741824) :
    FnD prog 50 [eI x, eI y] (.tup [ei (x / y), ei (x % y), eD (dI 0)]) [] := by
  have hsz : ∀ {z : Int}, z.natAbs < 4294967296 ^ L → Sz z := fun h => Sz.of_lt L hL h
  have mk : ∀ z : Int, z.natAbs < 4294967296 ^ L → FnD prog 56 [vs (lim (digs z.natAbs)), vb (decide (z < 0))] (eI z) [] := fun z hz => by
    have := made_eI (digs z.natAbs) (decide (z < 0)) (digs_lt _) (Nat.le_trans (digs_len hz) (by omega))
    rw [val_digs] at this
    have e : (if decide (z < 0) = true then -((z.natAbs : Nat) : Int) else ((z.natAbs : Nat) : Int)) = z := by
      simp only [decide_eq_true_eq]; split <;> omega
    rwa [e] at this
  have mk' : ∀ z : Int, z.natAbs < 4294967296 ^ L → FnD prog 56 [vs (lim (digs z.natAbs)), vb false] (eI ((z.natAbs : Nat) : Int)) [] := fun z hz => by
    have := made_eI (digs z.natAbs) false (digs_lt _) (Nat.le_trans (digs_len hz) (by omega))
    rw [val_digs] at this
    simpa using this
  have hY : 0 < y.natAbs := by omega
  have h152 := rdivide_ok (A := x.natAbs) (D := y.natAbs) hY hx hy2 hL
  have hdm := Nat.div_add_mod x.natAbs y.natAbs
  have hml := Nat.mod_lt x.natAbs hY
  have hqle : x.natAbs / y.natAbs ≤ x.natAbs := Nat.div_le_self _ _
  have hcast : ((y.natAbs : Nat) : Int) * ((x.natAbs / y.natAbs : Nat) : Int) + ((x.natAbs % y.natAbs : Nat) : Int) = ((x.natAbs : Nat) : Int) := by
    rw [← Int.natCast_mul, ← Int.natCast_add, hdm]
  generalize hQ : x.natAbs / y.natAbs = Q at *
  generalize hM : x.natAbs % y.natAbs = M at *
  clear hdm hQ hM
  have hpos : ∀ n : Nat, (if ((n : Nat) : Int) = 0 then (0 : Int) else if ((n : Nat) : Int) < 0 then -1 else 1) > 0 ↔ 0 < n := fun n => by
    split
    · omega
    · split <;> omega
  have rs := rsign_ok (M : Int)
  refine vc50_ok _ _ _ _ (R := Out _) ?_
  unfold vc50
  refine ⟨_, _, _, _, mk x (by omega), mk y (by omega), _, rsign_ok y, fun h => ?_, fun _ => ⟨_, _, _, _, h152, fun hneg => ?_, fun hneg => ?_⟩⟩
  · exfalso
    rw [if_neg hy] at h
    split at h <;> simp at h
  · have hx0 : x < 0 := by simpa using hneg
    refine ⟨_, rs, fun hp => ?_, fun hp => ?_⟩
    · have hM0 : 0 < M := (hpos M).1 (by simpa using hp)
      have f1 := rof_ok 1 (by decide) (by decide)
      have f2 := radd_ok (x := (Q : Int)) (y := 1) (hsz (by rw [Int.natAbs_natCast]; omega)) (Sz.of_lt 1 (by decide) (by decide))
      have f3 := rsub_ok (x := ((y.natAbs : Nat) : Int)) (y := (M : Int)) (hsz (by rw [Int.natAbs_natCast]; omega)) (hsz (by rw [Int.natAbs_natCast]; omega))
      refine ⟨_, _, _, _, f1, f2, _, _, _, _, mk' y (by omega), f3, fun hs => ?_, fun hs => ?_⟩
      · have hy0 : ¬ y < 0 := by
          intro hy0
          simp [hx0, hy0] at hs
        have := ediv_uniq (a := x) (b := y) (q := -((Q : Int) + 1)) (r := ((y.natAbs : Nat) : Int) - M) hy (by
          have e : ((y.natAbs : Nat) : Int) = y := by omega
          rw [e] at hcast ⊢
          rw [Int.mul_neg, Int.mul_add, Int.mul_one]; omega) (by omega) (by omega)
        exact ⟨_, _, rneg_ok (z := (Q : Int) + 1) (hsz (by omega)), out3 this.1.symm this.2.symm⟩
      · have hy0 : y < 0 := by
          apply Classical.byContradiction
          intro hy0
          simp [hx0, hy0] at hs
        have := ediv_uniq (a := x) (b := y) (q := (Q : Int) + 1) (r := ((y.natAbs : Nat) : Int) - M) hy (by
          have e : ((y.natAbs : Nat) : Int) = -y := by omega
          rw [e] at hcast ⊢
          rw [Int.neg_mul] at hcast
          rw [Int.mul_add, Int.mul_one]; omega) (by omega) (by omega)
        exact out3 this.1.symm this.2.symm
    · have hM0 : M = 0 := by
        have : ¬ 0 < M := fun h => by
          have := (hpos M).2 h
          simp only [decide_eq_false_iff_not] at hp
          exact hp this
        omega
      subst hM0
      refine ⟨fun hs => ?_, fun hs => ?_⟩
      · have hy0 : ¬ y < 0 := by
          intro hy0
          simp [hx0, hy0] at hs
        have := ediv_uniq (a := x) (b := y) (q := -(Q : Int)) (r := ((0 : Nat) : Int)) hy (by
          have e : ((y.natAbs : Nat) : Int) = y := by omega
          rw [e] at hcast
          rw [Int.mul_neg]; omega) (by omega) (by omega)
        exact ⟨_, _, rneg_ok (z := (Q : Int)) (hsz (by rw [Int.natAbs_natCast]; omega)), out3 this.1.symm this.2.symm⟩
      · have hy0 : y < 0 := by
          apply Classical.byContradiction
          intro hy0
          simp [hx0, hy0] at hs
        have := ediv_uniq (a := x) (b := y) (q := (Q : Int)) (r := ((0 : Nat) : Int)) hy (by
          have e : ((y.natAbs : Nat) : Int) = -y := by omega
          rw [e, Int.neg_mul] at hcast
          omega) (by omega) (by omega)
        exact out3 this.1.symm this.2.symm
  · have hx0 : ¬ x < 0 := by simpa using hneg
    refine ⟨fun hs => ?_, fun hs => ?_⟩
    · have hy0 : y < 0 := by
        apply Classical.byContradiction
        intro hy0
        simp [hx0, hy0] at hs
      have := ediv_uniq (a := x) (b := y) (q := -(Q : Int)) (r := (M : Int)) hy (by
        have e : ((y.natAbs : Nat) : Int) = -y := by omega
        rw [e, Int.neg_mul] at hcast
        rw [Int.mul_neg]; omega) (by omega) (by omega)
      exact ⟨_, _, rneg_ok (z := (Q : Int)) (hsz (by rw [Int.natAbs_natCast]; omega)), out3 this.1.symm this.2.symm⟩
    · have hy0 : ¬ y < 0 := by
        intro hy0
        simp [hx0, hy0] at hs
      have := ediv_uniq (a := x) (b := y) (q := (Q : Int)) (r := (M : Int)) hy (by
        have e : ((y.natAbs : Nat) : Int) = y := by omega
        rw [e] at hcast
        omega) (by omega) (by omega)
      exact out3 this.1.symm this.2.symm
theorem floor_ok {x y : Int} {L : Nat} (hy : y ≠ 0) (hx : x.natAbs * 4294967296 < 4294967296 ^ L) (hy2 : y.natAbs * 4294967296 < 4294967296 ^ L) (hL : L ≤ 1073741824) :
    FnD prog 55 [eI x, eI y] (eI (x / y)) [] := by
  refine vc55_ok _ _ _ _ (R := Out _) ?_
  unfold vc55
  exact ⟨_, _, _, _, _, rdivmod_ok hy hx hy2 hL, rfl, rfl⟩
end Go.AM
/- What functions of the program come to: group Oi. Printed by vc.py. -/
set_option maxRecDepth 100000
set_option linter.unusedVariables false
namespace Go.AM
open Go.Proofs.Tryz
def vc127 (a : DL) (d : Int) (R : V → Heap → Prop) : Prop :=
 (0 ≤ (a.length : Int) ∧ (a.length : Int) ≤ (a.length : Int) ∧ (a.length : Int) * (4 : Nat) ≤ 281474976710656) ∧
 (∃ (J0 : (DL) → Int → Int → Prop) (μ0 : (DL) → Int → Int → Nat),
 J0 (List.replicate ((a.length : Int)).toNat [dU (0 : Int)]) (0 : Int) (IntKind.i64.wrap ((a.length : Int) - (1 : Int))) ∧ ∀ (out : DL) (rest i : Int), J0 out rest i →
 (decide (i ≥ (0 : Int)) = true →
 ∃ (vx : Int),
 (0 ≤ (32 : Int)) ∧
 (0 ≤ i ∧ i < (a.length : Int)) ∧
 (a[(i).toNat]? = some [dU vx]) ∧
 (((IntKind.u64.wrap d) ≠ 0) ∧
 (0 ≤ i ∧ i < (out.length : Int)) ∧
 (J0 (out.set (i).toNat [dU (IntKind.u32.wrap (IntKind.u64.wrap ((bitsI .u64 (· ||| ·) (IntKind.u64.wrap (rest * 2 ^ (min (32 : Int).toNat IntKind.u64.bits))) (IntKind.u64.wrap vx)).tdiv (IntKind.u64.wrap d))))]) ((bitsI .u64 (· ||| ·) (IntKind.u64.wrap (rest * 2 ^ (min (32 : Int).toNat IntKind.u64.bits))) (IntKind.u64.wrap vx)).tmod (IntKind.u64.wrap d)) (IntKind.i64.wrap (i - (1 : Int))) ∧ μ0 (out.set (i).toNat [dU (IntKind.u32.wrap (IntKind.u64.wrap ((bitsI .u64 (· ||| ·) (IntKind.u64.wrap (rest * 2 ^ (min (32 : Int).toNat IntKind.u64.bits))) (IntKind.u64.wrap vx)).tdiv (IntKind.u64.wrap d))))]) ((bitsI .u64 (· ||| ·) (IntKind.u64.wrap (rest * 2 ^ (min (32 : Int).toNat IntKind.u64.bits))) (IntKind.u64.wrap vx)).tmod (IntKind.u64.wrap d)) (IntKind.i64.wrap (i - (1 : Int))) < μ0 out rest i))) ∧
 (decide (i ≥ (0 : Int)) = false →
 R (V.tup [eD (dL out), eD (dU (IntKind.u32.wrap rest))]) []))
theorem vc127_ok (a : DL) (d : Int) {R : V → Heap → Prop} (h : vc127 a d R) : FnG prog 127 [vD (dL a), vD (dU d)] [] R :=
  FnG.vcg hT func127 ntmps127 (.r0 [0, 1] <| .reg 1 [(2, Or.none, 0, 1)] [0, 1, 6] [0] [] <| .r1 [0, 1, 6, 7] [0] <| .r1 [0, 1, 6, 7, 8] [0] <| .lp [.l, .i, .i] (fun out rest i => ⟨[(0, vD (dL a)), (1, vD (dU d)), (6, vR 0), (7, vD (D.int .u64 rest)), (8, vD (dI i))], [some (Obj.arr 1 out)], 42⟩) [.l (List.replicate ((a.length : Int)).toNat [dU (0 : Int)]), .i (0 : Int), .i (IntKind.i64.wrap ((a.length : Int) - (1 : Int)))] <| .fl fun out => .fi fun rest => .fi fun i => .beg <| .r1 [0, 1, 6, 7, 8, 16] [0] <| .c2 (.ex fun vx => .reg 0 [(5, Or.cells [dU vx], 0, 0)] [0, 1, 6, 7, 8] [0] [] <| .r1 [0, 1, 6, 7, 8] [0] <| .reg 0 [] [0, 1, 6, 7, 8] [0] [.old 1] <| .r1 [0, 1, 6, 7, 8] [0] <| .bk 0 [.l (out.set (i).toNat [dU (IntKind.u32.wrap (IntKind.u64.wrap ((bitsI .u64 (· ||| ·) (IntKind.u64.wrap (rest * 2 ^ (min (32 : Int).toNat IntKind.u64.bits))) (IntKind.u64.wrap vx)).tdiv (IntKind.u64.wrap d))))]), .i ((bitsI .u64 (· ||| ·) (IntKind.u64.wrap (rest * 2 ^ (min (32 : Int).toNat IntKind.u64.bits))) (IntKind.u64.wrap vx)).tmod (IntKind.u64.wrap d)), .i (IntKind.i64.wrap (i - (1 : Int)))]) (.r1 [4, 5] [0] <| .frz [0] <| .ret []))
    (by kernel_rfl) (by kernel_rfl) (by kernel_rfl) h
def vc133 (vx : Int) (R : V → Heap → Prop) : Prop :=
 ∃ (r : Int),
 (FnD prog 135 [vD (dU vx)] (vD (dI r)) []) ∧
 (R (vD (dI (IntKind.i64.wrap ((32 : Int) - r)))) [])
theorem vc133_ok (vx : Int) {R : V → Heap → Prop} (h : vc133 vx R) : FnG prog 133 [vD (dU vx)] [] R :=
  FnG.vcg hT func133 ntmps133 (.r0 [0] <| .ex fun r => .reg 0 [(1, Or.call (vD (dI r)) [] [], 0, 0)] [2] [] [] <| .ret [])
    (by kernel_rfl) (by kernel_rfl) (by kernel_rfl) h
end Go.AM
/- Division of integers: integer.short. -/
namespace Go.AM
open Go.Proofs.Tryz
theorem or32 {r x : Nat} (hr : r < 4294967296) (hx : x < 4294967296) : bitsI .u64 (· ||| ·) ((r * 4294967296 : Nat) : Int) (x : Int) = ((r * 4294967296 + x : Nat) : Int) := by
  unfold bitsI
  have hb : IntKind.u64.bits = 64 := rfl
  have e1 : BitVec.ofInt IntKind.u64.bits ((r * 4294967296 : Nat) : Int) = BitVec.ofNat 64 (r * 4294967296) := BitVec.ofInt_natCast ..
  have e2 : BitVec.ofInt IntKind.u64.bits (x : Int) = BitVec.ofNat 64 x := BitVec.ofInt_natCast ..
  rw [e1, e2]
  have e3 : ((BitVec.ofNat 64 (r * 4294967296) ||| BitVec.ofNat 64 x : BitVec 64)).toNat = r * 4294967296 + x := by
    rw [BitVec.toNat_or, BitVec.toNat_ofNat, BitVec.toNat_ofNat, Nat.mod_eq_of_lt (by omega), Nat.mod_eq_of_lt (by omega)]
    have := Nat.shiftLeft_add_eq_or_of_lt (i := 32) (b := x) (by omega) r
    rw [Nat.shiftLeft_eq] at this
    exact this.symm
  have e4 : (((BitVec.ofNat 64 (r * 4294967296)) ||| (BitVec.ofNat 64 x) : BitVec 64).toNat : Int) = ((r * 4294967296 + x : Nat) : Int) := by rw [e3]
  exact (congrArg IntKind.u64.wrap e4).trans (wu64 (by omega) (by omega))
theorem shl32 {r : Nat} (hr : r < 4294967296) : IntKind.u64.wrap ((r : Int) * 2 ^ (min (32 : Int).toNat IntKind.u64.bits)) = ((r * 4294967296 : Nat) : Int) := by
  have : ((2 : Int) ^ (min (32 : Int).toNat IntKind.u64.bits)) = 4294967296 := by decide
  rw [this, wu64 (by omega) (by omega)]; omega
theorem short_ok {l : List Nat} {d : Nat} (hB : ∀ x ∈ l, x < 4294967296) (hl : l.length ≤ 1099511627776) (hd : 0 < d) (hd' : d < 4294967296) :
    FnD prog 127 [vs (lim l), vD (dU d)] (.tup [eD (dL (lim (sQ d l).1)), eD (dU (sQ d l).2)]) [] := by
  refine vc127_ok _ _ (R := Out _) ?_
  unfold vc127
  simp only [lim_length]
  refine ⟨⟨by omega, by omega, by omega⟩, fun out rest t => ∃ n : Nat, t = (n : Int) - 1 ∧ n ≤ l.length ∧ out = lim (List.replicate n 0 ++ (sQ d (l.drop n)).1) ∧ rest = ((sQ d (l.drop n)).2 : Nat), fun _ _ t => (t + 1).toNat,
    ⟨l.length, by rw [w64 (by omega) (by omega)], Nat.le_refl _, ?_, ?_⟩, ?_⟩
  · rw [Int.toNat_natCast, List.drop_length]; simp [sQ, lim]
  · rw [List.drop_length]; rfl
  rintro _ _ _ ⟨n, rfl, hn, rfl, rfl⟩
  refine ⟨fun h => ?_, fun h => ?_⟩
  · have h1 : 0 < n := by simp at h; omega
    obtain ⟨i, rfl⟩ : ∃ i, n = i + 1 := ⟨n - 1, by omega⟩
    have hi : i < l.length := by omega
    have ei : (((i + 1 : Nat) : Int) - 1) = (i : Int) := by omega
    have hdrop : l.drop i = l[i] :: l.drop (i + 1) := List.drop_eq_getElem_cons hi
    have hx := hB _ (List.getElem_mem hi)
    have hr := sQ_lt hd (l.drop (i + 1))
    have hs : (sQ d (l.drop i)) = (((((sQ d (l.drop (i + 1))).2 * 4294967296 + l[i]) / d) :: (sQ d (l.drop (i + 1))).1), ((sQ d (l.drop (i + 1))).2 * 4294967296 + l[i]) % d) := by rw [hdrop]; rfl
    generalize hrr : (sQ d (l.drop (i + 1))).2 = r at *
    generalize (sQ d (l.drop (i + 1))).1 = qs at *
    have hsum : r * 4294967296 + l[i] < d * 4294967296 := by
      have : (r + 1) * 4294967296 ≤ d * 4294967296 := Nat.mul_le_mul_right _ hr
      omega
    have hdiv : (r * 4294967296 + l[i]) / d < 4294967296 := by rw [Nat.div_lt_iff_lt_mul hd]; omega
    have e1 : bitsI .u64 (· ||| ·) (IntKind.u64.wrap ((r : Int) * 2 ^ (min (32 : Int).toNat IntKind.u64.bits))) (IntKind.u64.wrap ((l[i] : Nat) : Int)) = ((r * 4294967296 + l[i] : Nat) : Int) := by
      rw [shl32 (by omega), wu64 (n := ((l[i] : Nat) : Int)) (by omega) (by omega), or32 (by omega) hx]
    have e2 : IntKind.u64.wrap (d : Int) = (d : Int) := wu64 (by omega) (by omega)
    have e3 : (((r * 4294967296 + l[i] : Nat) : Int).tdiv (d : Int)) = (((r * 4294967296 + l[i]) / d : Nat) : Int) := by rw [Int.tdiv_eq_ediv_of_nonneg (by omega)]; rfl
    have e4 : (((r * 4294967296 + l[i] : Nat) : Int).tmod (d : Int)) = (((r * 4294967296 + l[i]) % d : Nat) : Int) := by rw [Int.tmod_eq_emod_of_nonneg (by omega)]; rfl
    rw [ei]
    refine ⟨((l[i] : Nat) : Int), by decide, ⟨by omega, by omega⟩, by rw [Int.toNat_natCast]; exact lim_get hi, ?_, ⟨by omega, by rw [lim_length]; simp; omega⟩, ?_⟩
    · rw [e2]; omega
    generalize (r * 4294967296 + l[i]) / d = qq at *
    generalize (r * 4294967296 + l[i]) % d = mm at *
    rw [e1, e2, e3, e4, wu64 (n := (qq : Int)) (by omega) (by omega), u32_id (by omega) (by omega), w64 (by omega) (by omega), Int.toNat_natCast, lim_set, rep_set]
    refine ⟨⟨i, by omega, by omega, ?_, ?_⟩, ?_⟩
    · rw [hs]
    · rw [hs]
    · show ((i : Int) - 1 + 1).toNat < ((i : Int) + 1).toNat; omega
  · have hn0 : n = 0 := by simp at h; omega
    subst hn0
    have hr := sQ_lt hd l
    simp only [List.drop_zero, List.replicate_zero, List.nil_append]
    rw [u32_id (by omega) (by omega)]
    exact ⟨rfl, rfl⟩
end Go.AM
/- bits.Len32, bits.LeadingZeros32. -/
namespace Go.AM
open Go.Proofs.Tryz
def blen (n : Nat) : Nat := if n = 0 then 0 else Nat.log2 n + 1
theorem blen_div {n k : Nat} (h : 2 ^ k ≤ n) : blen (n / 2 ^ k) + k = blen n := by
  have hp : 0 < 2 ^ k := Nat.pow_pos (by decide)
  have h0 : n ≠ 0 := by omega
  have h1 : n / 2 ^ k ≠ 0 := by
    have := Nat.div_pos h hp
    omega
  unfold blen
  rw [if_neg h0, if_neg h1]
  have a1 : k ≤ Nat.log2 n := (Nat.le_log2 h0).2 h
  have a2 : 2 ^ Nat.log2 n ≤ n := Nat.log2_self_le h0
  have a3 : n < 2 ^ (Nat.log2 n + 1) := Nat.lt_log2_self
  have b1 : Nat.log2 n - k ≤ Nat.log2 (n / 2 ^ k) := by
    rw [Nat.le_log2 h1, Nat.le_div_iff_mul_le hp, ← Nat.pow_add, Nat.sub_add_cancel a1]; exact a2
  have b2 : Nat.log2 (n / 2 ^ k) < Nat.log2 n - k + 1 := by
    rw [Nat.log2_lt h1, Nat.div_lt_iff_lt_mul hp, ← Nat.pow_add]
    rw [show Nat.log2 n - k + 1 + k = Nat.log2 n + 1 by omega]; exact a3
  omega
theorem blen_bounds {n : Nat} (h : n ≠ 0) : 2 ^ (blen n - 1) ≤ n ∧ n < 2 ^ blen n := by
  unfold blen
  rw [if_neg h]
  exact ⟨by simpa using Nat.log2_self_le h, Nat.lt_log2_self⟩
theorem u32_shr (x : Nat) (k : Nat) (hk : k ≤ 32) : ((x : Int)).fdiv (2 ^ (min (k : Int).toNat IntKind.u32.bits)) = ((x / 2 ^ k : Nat) : Int) := by
  have hb : IntKind.u32.bits = 32 := rfl
  rw [hb, Int.toNat_natCast, Nat.min_eq_left hk]
  rw [Int.fdiv_eq_ediv_of_nonneg _ (by exact Int.le_of_lt (Int.pow_pos (by decide)))]
  rw [show ((2 : Int) ^ k) = ((2 ^ k : Nat) : Int) by simp]
  rfl
theorem Does.cond {P : Program} {n0 : Nat} {c : Operand} {x y : Code} {σ σ' : St} {t : Bool} (hc : ev σ.t c = some (vbool t)) (h : Does P n0 (if t then x else y) σ σ') : Does P n0 (.cond c x y) σ σ' := fun ro n I M a w s =>
  wpIn_cond (relV_bool (s.ev hc)) (h ro n I M a w s)
theorem Does.skip {P : Program} {n0 : Nat} {σ : St} : Does P n0 .skip σ σ := fun _ _ I M _ _ s =>
  wpIn_skip ⟨rfl, I, M, s, Ext.refl _ _ _, fun _ h => .inl h, fun _ _ _ h => h⟩
abbrev lnT (x n : Nat) : St := ⟨[(0, vD (dU x)), (2, vD (dI n))], [], 19⟩
def lenTab : ByteArray := ⟨#[0] ++ Array.replicate 1 1 ++ Array.replicate 2 2 ++ Array.replicate 4 3 ++ Array.replicate 8 4 ++ Array.replicate 16 5 ++ Array.replicate 32 6 ++ Array.replicate 64 7 ++ Array.replicate 128 8⟩
theorem lenTab_ok : ∀ y : Fin 256, (lenTab.data[y.val]?).map (·.toNat) = some (blen y.val) := by decide +kernel
theorem lenTab_at {y : Nat} (h : y < 256) : ∃ b : UInt8, lenTab[y]? = some b ∧ b.toNat = blen y := by
  have := lenTab_ok ⟨y, h⟩
  simp only [Option.map_eq_some_iff] at this
  obtain ⟨b, h1, h2⟩ := this
  refine ⟨b, ?_, h2⟩
  rw [← h1]; rfl
theorem u9 : prog.underlying 9 = some .string := by kernel_rfl
theorem wpIn_table {n : Nat} {a : Act} {w : World} {o : Oper} {x i : Operand} {y : Nat} {next : Act → World → Prop} {Q : Exit → Act → World → Prop}
    (ho : o.op = .index 9 x i) (hx : a.eval x = .string lenTab) (hi : a.eval i = .int .u8 (y : Int)) (hy : y < 256) (h : next (a.put o.dst (.int .u8 ((blen y : Nat) : Int))) w) : o.wpIn Fence.wide n prog a w next Q := by
  obtain ⟨b, h1, h2⟩ := lenTab_at hy
  refine ⟨fun _ _ => trivial, ?_⟩
  have hrun : (o.semAt none a.eval).run prog w = .ok (.value (.int .u8 ((blen y : Nat) : Int))) w := by
    rw [Oper.semAt_none]
    obtain ⟨dst, op, ty, pos, after, guard⟩ := o
    simp only at ho
    subst ho
    simp [execOp, hx, hi, Instr.index, asIntOf, run_underlying u9, h1, h2]
  show o.uponIn Fence.wide n prog a next Q ((o.semAt none a.eval).run prog w)
  rw [hrun, Oper.uponIn_value]
  exact h
set_option maxRecDepth 100000 in
set_option maxHeartbeats 1000000 in
theorem len32_ok {x : Nat} (hx : x < 4294967296) : FnD prog 135 [vD (dU x)] (vi ((blen x : Nat) : Int)) [] := by
  refine ⟨⟨f135, func135, rfl, by kernel_rfl⟩, fun I M w vs s hr => ?_⟩
  refine (callsIn_wide (n := 0)).1 (callsIn_of_wp func135 rfl trivial ?_)
  have s0 := Sim.start (fn := f135) ntmps135 (args := [vD (dU x)]) (by simp) s hr
  refine wpIn_seq (wpIn_mono (Does.regV hT (n0 := 0) [0, 2] [] (σ' := lnT x 0) (cnt := 0) (ins := [o0]) (obs := []) (by kernel_rfl) rfl rfl (by kernel_rfl) trivial none 0 I M _ w s0) ?_)
  rintro e a1 w1 ⟨rfl, I1, M1, s1, n1⟩
  have d1 : ∃ y m : Nat, y < 65536 ∧ m ≤ 16 ∧ blen y + m = blen x ∧ (65536 ≤ x ∧ y = x / 2 ^ 16 ∧ m = 16 ∨ x < 65536 ∧ y = x ∧ m = 0) := by
    by_cases h : 65536 ≤ x
    · exact ⟨x / 2 ^ 16, 16, by omega, by omega, blen_div (by omega), .inl ⟨h, rfl, rfl⟩⟩
    · exact ⟨x, 0, by omega, by omega, rfl, .inr ⟨by omega, rfl, rfl⟩⟩
  obtain ⟨y, m, hy, hm, hb, hcase⟩ := d1
  have e16 : ((x : Int)).fdiv (2 ^ (min (16 : Int).toNat IntKind.u32.bits)) = ((x / 2 ^ 16 : Nat) : Int) := u32_shr x 16 (by decide)
  refine wpIn_seq (wpIn_mono (Does.seq (σ1 := ⟨[(0, vD (dU x)), (2, vD (dI 0)), (4, vD (dB (decide ((x : Int) ≥ 65536))))], [], 19⟩) (σ2 := lnT y m) (n0 := 0)
    (Does.regV hT [0, 2, 4] [] (cnt := 0) (ins := [o0, o0]) (obs := []) (by kernel_rfl) rfl rfl (by kernel_rfl) trivial)
    (Does.cond (t := decide ((x : Int) ≥ 65536)) rfl ?_) none 0 I1 M1 a1 w1 s1) ?_)
  · rcases hcase with ⟨h1, rfl, rfl⟩ | ⟨h1, rfl, rfl⟩
    · rw [decide_eq_true (by omega), if_pos rfl]
      refine Does.seq (σ1 := lnT (x / 2 ^ 16) 0) (by
        show Does prog 0 _ _ ⟨[(0, vD (dU ((x / 2 ^ 16 : Nat) : Int))), (2, vD (dI 0))], [], 19⟩
        rw [← e16]
        exact Does.regV hT [0, 2] [] (cnt := 0) (ins := [o0, o0, o0]) (obs := [0 ≤ (16 : Int)]) (by kernel_rfl) rfl rfl (by kernel_rfl) ⟨by decide, trivial⟩) (Does.regV hT [0, 2] [] (cnt := 0) (ins := [o0]) (obs := []) (by kernel_rfl) rfl rfl (by kernel_rfl) trivial)
    · rw [decide_eq_false (by omega), if_neg (by simp)]
      exact (Does.skip (n0 := 0)).wk (xview_ok (live := [0, 2]) (ids := []) (by kernel_rfl) rfl rfl)
  rintro e a2 w2 ⟨rfl, I2, M2, s2, n2⟩
  have d2 : ∃ z k : Nat, z < 256 ∧ k ≤ 8 ∧ blen z + k = blen y ∧ (256 ≤ y ∧ z = y / 2 ^ 8 ∧ k = 8 ∨ y < 256 ∧ z = y ∧ k = 0) := by
    by_cases h : 256 ≤ y
    · exact ⟨y / 2 ^ 8, 8, by omega, by omega, blen_div (by omega), .inl ⟨h, rfl, rfl⟩⟩
    · exact ⟨y, 0, by omega, by omega, rfl, .inr ⟨by omega, rfl, rfl⟩⟩
  obtain ⟨z, k, hz, hk, hb2, hcase2⟩ := d2
  have e8 : ((y : Int)).fdiv (2 ^ (min (8 : Int).toNat IntKind.u32.bits)) = ((y / 2 ^ 8 : Nat) : Int) := u32_shr y 8 (by decide)
  have em : IntKind.i64.wrap ((m : Int) + 8) = ((m + 8 : Nat) : Int) := by rw [w64 (by omega) (by omega)]; omega
  refine wpIn_seq (wpIn_mono (Does.seq (σ1 := ⟨[(0, vD (dU y)), (2, vD (dI m)), (8, vD (dB (decide ((y : Int) ≥ 256))))], [], 19⟩) (σ2 := lnT z (m + k)) (n0 := 0)
    (Does.regV hT [0, 2, 8] [] (cnt := 0) (ins := [o0, o0]) (obs := []) (by kernel_rfl) rfl rfl (by kernel_rfl) trivial)
    (Does.cond (t := decide ((y : Int) ≥ 256)) rfl ?_) none 0 I2 M2 a2 w2 s2) ?_)
  · clear hcase
    rcases hcase2 with ⟨h1, rfl, rfl⟩ | ⟨h1, rfl, rfl⟩
    · rw [decide_eq_true (by omega), if_pos rfl]
      refine Does.seq (σ1 := lnT (y / 2 ^ 8) m) (by
        show Does prog 0 _ _ ⟨[(0, vD (dU ((y / 2 ^ 8 : Nat) : Int))), (2, vD (dI m))], [], 19⟩
        rw [← e8]
        exact Does.regV hT [0, 2] [] (cnt := 0) (ins := [o0, o0, o0]) (obs := [0 ≤ (8 : Int)]) (by kernel_rfl) rfl rfl (by kernel_rfl) ⟨by decide, trivial⟩) (by
        show Does prog 0 _ _ ⟨[(0, vD (dU ((y / 2 ^ 8 : Nat) : Int))), (2, vD (dI ((m + 8 : Nat) : Int)))], [], 19⟩
        rw [← em]
        exact Does.regV hT [0, 2] [] (cnt := 0) (ins := [o0, o0, o0]) (obs := []) (by kernel_rfl) rfl rfl (by kernel_rfl) trivial)
    · rw [decide_eq_false (by omega), if_neg (by simp)]
      exact (Does.skip (n0 := 0)).wk (xview_ok (live := [0, 2]) (ids := []) (by kernel_rfl) rfl rfl)
  rintro e a3 w3 ⟨rfl, I3, M3, s3, n3⟩
  have ez : IntKind.u8.wrap (z : Int) = (z : Int) := by show (z : Int) % 256 = z; omega
  have hbz : blen z ≤ 8 := by
    unfold blen
    split
    · omega
    · rename_i h0
      have := (Nat.log2_lt (k := 8) h0).2 (by omega)
      omega
  refine wpIn_seq (wpIn_region (xpart_ok (k := 0) (c := 3) (rest := [3, 4, 5, 6]) hT (ins := [o0, o0, o0]) (live := [13, 15]) (σ' := ⟨[(13, vD (dI ((m + k : Nat) : Int))), (15, vD (D.int .u8 (IntKind.u8.wrap (z : Int))))], [], 19⟩) (obs := []) (by kernel_rfl) trivial s3 ?_))
  intro a4 w4 I4 M4 s4 n4
  have h15 : a4.eval (.tmp 15) = .int .u8 (z : Int) := by
    have h : Reads w4 I4 (a4.tmps.getD 15 undef) (.int .u8 (IntKind.u8.wrap (z : Int))) := s4.tm 15 (vD (D.int .u8 (IntKind.u8.wrap (z : Int)))) (by simp)
    rw [ez] at h
    show a4.tmps.getD 15 undef = _
    generalize a4.tmps.getD 15 undef = q at h
    cases h; rfl
  refine wpOpsIn_one rfl rfl (wpIn_table rfl (by kernel_rfl) h15 hz ?_)
  have s5 : Sim I4 M4 ⟨[(13, vD (dI ((m + k : Nat) : Int))), (16, vD (D.int .u8 ((blen z : Nat) : Int)))], [], 19⟩ (a4.put (some 16) (.int .u8 ((blen z : Nat) : Int))) w4 := by
    have hsz : a4.tmps.size = 19 := s4.size
    refine { toSimH := s4.toSimH, tm := fun i v hv => ?_, size := by simp [Act.put, hsz], defers := s4.defers }
    simp only [List.mem_cons, Prod.mk.injEq, List.not_mem_nil, or_false] at hv
    rcases hv with ⟨rfl, rfl⟩ | ⟨rfl, rfl⟩
    · have : (a4.put (some 16) (.int .u8 ((blen z : Nat) : Int))).tmps.getD 13 undef = a4.tmps.getD 13 undef := by simp [Act.put, Array.getD_eq_getD_getElem?]
      rw [this]; exact s4.tm 13 _ (by simp)
    · have : (a4.put (some 16) (.int .u8 ((blen z : Nat) : Int))).tmps.getD 16 undef = .int .u8 ((blen z : Nat) : Int) := by simp [Act.put, Array.getD_eq_getD_getElem?, hsz]
      rw [this]; exact Reads.int _ _
  refine xpart_ok (k := 4) (c := 3) (rest := []) hT (ins := [o0, o0, o0]) (live := [2]) (σ' := ⟨[(2, vD (dI (IntKind.i64.wrap (((m + k : Nat) : Int) + IntKind.i64.wrap ((blen z : Nat) : Int)))))], [], 19⟩) (obs := []) (by kernel_rfl) trivial s5 ?_
  intro a6 w6 I6 M6 s6 n6
  refine wpIn_ret ?_
  have er : IntKind.i64.wrap (((m + k : Nat) : Int) + IntKind.i64.wrap ((blen z : Nat) : Int)) = ((blen x : Nat) : Int) := by
    rw [w64 (n := ((blen z : Nat) : Int)) (by omega) (by omega), w64 (by omega) (by omega)]; omega
  rw [er] at s6
  obtain ⟨u, h1, h2⟩ := results_ok hT s6 (fn := f135) (r := vi ((blen x : Nat) : Int)) (by kernel_rfl)
  have no0 : ∀ {M : Mem} b, ¬ fpAll M [] b := fun b ⟨o, ho⟩ => by simp [fpAt] at ho
  have nA := (((n1.trans n2).trans n3).trans n4).trans ⟨n6.ext, n6.fp, n6.mono⟩
  refine ⟨s6.defers, u, h1, u, _, [], I6, M6, rfl, ⟨rfl, rfl⟩, h2, s6.toSimH, nA.ext, fun b hb => absurd hb (no0 b), fun o e ho => by simp at ho⟩
theorem blen_le {x k : Nat} (h : x < 2 ^ k) : blen x ≤ k := by
  unfold blen
  split
  · omega
  · rename_i h0
    have := (Nat.log2_lt (k := k) h0).2 h
    omega
theorem lz32_ok {x : Nat} (hx : x < 4294967296) : FnD prog 133 [vD (dU x)] (vi ((32 - blen x : Nat) : Int)) [] := by
  refine vc133_ok _ (R := Out _) ?_
  unfold vc133
  have h := blen_le (k := 32) hx
  refine ⟨_, len32_ok hx, outi ?_⟩
  rw [w64 (by omega) (by omega)]; omega
theorem lz_top {x : Nat} (h0 : x ≠ 0) (hx : x < 4294967296) : 2147483648 ≤ x * 2 ^ (32 - blen x) ∧ x * 2 ^ (32 - blen x) < 4294967296 := by
  obtain ⟨h1, h2⟩ := blen_bounds h0
  have h3 := blen_le (k := 32) hx
  have h4 : 0 < blen x := by unfold blen; rw [if_neg h0]; omega
  have e1 : 2 ^ (blen x - 1) * 2 ^ (32 - blen x) = 2147483648 := by rw [← Nat.pow_add, show blen x - 1 + (32 - blen x) = 31 by omega]
  have e2 : 2 ^ blen x * 2 ^ (32 - blen x) = 4294967296 := by rw [← Nat.pow_add, show blen x + (32 - blen x) = 32 by omega]
  have p : 0 < 2 ^ (32 - blen x) := Nat.pow_pos (by decide)
  exact ⟨by rw [← e1]; exact Nat.mul_le_mul_right _ h1, by rw [← e2]; exact Nat.mul_lt_mul_of_pos_right h2 p⟩
end Go.AM
/- What functions of the program come to: group Oj. Printed by vc.py. -/
set_option maxRecDepth 100000
set_option linter.unusedVariables false
namespace Go.AM
open Go.Proofs.Tryz
def vc134o (a : DL) (k : Int) (R : V → Heap → Prop) : Prop :=
 (0 ≤ (IntKind.i64.wrap ((a.length : Int) + (1 : Int))) ∧ (IntKind.i64.wrap ((a.length : Int) + (1 : Int))) ≤ (IntKind.i64.wrap ((a.length : Int) + (1 : Int))) ∧ (IntKind.i64.wrap ((a.length : Int) + (1 : Int))) * (4 : Nat) ≤ 281474976710656) ∧
 (∃ (J0 : (DL) → Int → Prop) (μ0 : (DL) → Int → Nat),
 J0 (List.replicate ((IntKind.i64.wrap ((a.length : Int) + (1 : Int)))).toNat [dU (0 : Int)]) (0 : Int) ∧ ∀ (out : DL) (t15 : Int), J0 out t15 →
 (decide (t15 < (a.length : Int)) = true →
 ∃ (vx : Int),
 (0 ≤ t15 ∧ t15 < (a.length : Int)) ∧
 (a[(t15).toNat]? = some [dU vx]) ∧
 ((0 ≤ k) ∧
 (∃ (vx1 : Int),
 (0 ≤ t15 ∧ t15 < (out.length : Int)) ∧
 (out[(t15).toNat]? = some [dU vx1]) ∧
 ((0 ≤ (32 : Int)) ∧
 (0 ≤ (IntKind.i64.wrap (t15 + (1 : Int))) ∧ (IntKind.i64.wrap (t15 + (1 : Int))) < ((out.set (t15).toNat [dU (bitsI .u32 (· ||| ·) vx1 (IntKind.u32.wrap (IntKind.u64.wrap ((IntKind.u64.wrap vx) * 2 ^ (min k.toNat IntKind.u64.bits)))))]).length : Int)) ∧
 (J0 ((out.set (t15).toNat [dU (bitsI .u32 (· ||| ·) vx1 (IntKind.u32.wrap (IntKind.u64.wrap ((IntKind.u64.wrap vx) * 2 ^ (min k.toNat IntKind.u64.bits)))))]).set ((IntKind.i64.wrap (t15 + (1 : Int)))).toNat [dU (IntKind.u32.wrap ((IntKind.u64.wrap ((IntKind.u64.wrap vx) * 2 ^ (min k.toNat IntKind.u64.bits))).fdiv (2 ^ (min (32 : Int).toNat IntKind.u64.bits))))]) (IntKind.i64.wrap (t15 + (1 : Int))) ∧ μ0 ((out.set (t15).toNat [dU (bitsI .u32 (· ||| ·) vx1 (IntKind.u32.wrap (IntKind.u64.wrap ((IntKind.u64.wrap vx) * 2 ^ (min k.toNat IntKind.u64.bits)))))]).set ((IntKind.i64.wrap (t15 + (1 : Int)))).toNat [dU (IntKind.u32.wrap ((IntKind.u64.wrap ((IntKind.u64.wrap vx) * 2 ^ (min k.toNat IntKind.u64.bits))).fdiv (2 ^ (min (32 : Int).toNat IntKind.u64.bits))))]) (IntKind.i64.wrap (t15 + (1 : Int))) < μ0 out t15))))) ∧
 (decide (t15 < (a.length : Int)) = false →
 R (V.e (E.sc (S.ref 0))) [some (Obj.arr 1 out)]))
theorem vc134o_ok (a : DL) (k : Int) {R : V → Heap → Prop} (h : vc134o a k R) : FnG prog 134 [vD (dL a), vD (dI k)] [] R :=
  FnG.vcg hT func134 ntmps134 (.r0 [0, 1] <| .reg 1 [(3, Or.none, 0, 1)] [0, 1, 5] [0] [] <| .r1 [1, 5, 13, 14, 15] [0] <| .lp [.l, .i] (fun out t15 => ⟨[(1, vD (dI k)), (5, vR 0), (13, vD (dL a)), (14, vD (dI (a.length : Int))), (15, vD (dI t15))], [some (Obj.arr 1 out)], 41⟩) [.l (List.replicate ((IntKind.i64.wrap ((a.length : Int) + (1 : Int)))).toNat [dU (0 : Int)]), .i (0 : Int)] <| .fl fun out => .fi fun t15 => .beg <| .r1 [1, 5, 13, 14, 15, 16] [0] <| .c2 (.ex fun vx => .reg 0 [(2, Or.cells [dU vx], 0, 0)] [1, 5, 6, 7, 13, 14, 15] [0] [] <| .r1 [1, 5, 6, 8, 13, 14, 15] [0] <| .ex fun vx1 => .reg 0 [(3, Or.cells [dU vx1], 0, 0)] [1, 5, 6, 8, 13, 14, 15] [0] [.new, .new, .old 1] <| .r1 [1, 5, 13, 14, 15] [0] <| .r1 [1, 5, 13, 14, 15] [0] <| .bk 0 [.l ((out.set (t15).toNat [dU (bitsI .u32 (· ||| ·) vx1 (IntKind.u32.wrap (IntKind.u64.wrap ((IntKind.u64.wrap vx) * 2 ^ (min k.toNat IntKind.u64.bits)))))]).set ((IntKind.i64.wrap (t15 + (1 : Int)))).toNat [dU (IntKind.u32.wrap ((IntKind.u64.wrap ((IntKind.u64.wrap vx) * 2 ^ (min k.toNat IntKind.u64.bits))).fdiv (2 ^ (min (32 : Int).toNat IntKind.u64.bits))))]), .i (IntKind.i64.wrap (t15 + (1 : Int)))]) (.r1 [4] [0] <| .ret [0]))
    (by kernel_rfl) (by kernel_rfl) (by kernel_rfl) h
def tailP (v : DL) (i : Int) (u q : DL) (guess : Int) (J0 : (DL) → (DL) → Int → Prop) (μ0 : (DL) → (DL) → Int → Nat) : Prop :=
  ∃ (J2 : (DL) → Int → Int → Int → Prop) (μ2 : (DL) → Int → Int → Int → Nat),
  J2 u (0 : Int) (0 : Int) (0 : Int) ∧ ∀ (u1 : DL) (t : Int) (carry : Int) (borrow : Int), J2 u1 t carry borrow →
    ((decide (t < (v.length : Int))) = true →
      ∃ (vx18 : Int),
      (0 ≤ t ∧ t < (v.length : Int)) ∧
      (v[(t).toNat]? = some [(dU vx18)]) ∧
      (∃ (vx19 : Int),
      (0 ≤ (IntKind.i64.wrap (i + t)) ∧ (IntKind.i64.wrap (i + t)) < (u1.length : Int)) ∧
      (u1[((IntKind.i64.wrap (i + t))).toNat]? = some [(dU vx19)]) ∧
      ((0 ≤ (63 : Int)) ∧
      (J2 (u1.set ((IntKind.i64.wrap (i + t))).toNat [(dU (IntKind.u32.wrap (IntKind.u64.wrap ((IntKind.u64.wrap ((IntKind.u64.wrap vx19) - (IntKind.u64.wrap (IntKind.u32.wrap (IntKind.u64.wrap (carry + (IntKind.u64.wrap (guess * (IntKind.u64.wrap vx18))))))))) - borrow))))]) (IntKind.i64.wrap (t + (1 : Int))) ((IntKind.u64.wrap (carry + (IntKind.u64.wrap (guess * (IntKind.u64.wrap vx18))))).fdiv (2 ^ (min (32 : Int).toNat IntKind.u64.bits))) ((IntKind.u64.wrap ((IntKind.u64.wrap ((IntKind.u64.wrap vx19) - (IntKind.u64.wrap (IntKind.u32.wrap (IntKind.u64.wrap (carry + (IntKind.u64.wrap (guess * (IntKind.u64.wrap vx18))))))))) - borrow)).fdiv (2 ^ (min (63 : Int).toNat IntKind.u64.bits))) ∧ μ2 (u1.set ((IntKind.i64.wrap (i + t))).toNat [(dU (IntKind.u32.wrap (IntKind.u64.wrap ((IntKind.u64.wrap ((IntKind.u64.wrap vx19) - (IntKind.u64.wrap (IntKind.u32.wrap (IntKind.u64.wrap (carry + (IntKind.u64.wrap (guess * (IntKind.u64.wrap vx18))))))))) - borrow))))]) (IntKind.i64.wrap (t + (1 : Int))) ((IntKind.u64.wrap (carry + (IntKind.u64.wrap (guess * (IntKind.u64.wrap vx18))))).fdiv (2 ^ (min (32 : Int).toNat IntKind.u64.bits))) ((IntKind.u64.wrap ((IntKind.u64.wrap ((IntKind.u64.wrap vx19) - (IntKind.u64.wrap (IntKind.u32.wrap (IntKind.u64.wrap (carry + (IntKind.u64.wrap (guess * (IntKind.u64.wrap vx18))))))))) - borrow)).fdiv (2 ^ (min (63 : Int).toNat IntKind.u64.bits))) < μ2 u1 t carry borrow)))) ∧
    ((decide (t < (v.length : Int))) = false →
      ∃ (vx20 : Int),
      (0 ≤ (IntKind.i64.wrap (i + (v.length : Int))) ∧ (IntKind.i64.wrap (i + (v.length : Int))) < (u1.length : Int)) ∧
      (u1[((IntKind.i64.wrap (i + (v.length : Int)))).toNat]? = some [(dU vx20)]) ∧
      ((0 ≤ (63 : Int)) ∧
      (((((IntKind.u64.wrap ((IntKind.u64.wrap ((IntKind.u64.wrap vx20) - carry)) - borrow)).fdiv (2 ^ (min (63 : Int).toNat IntKind.u64.bits))) == (1 : Int)) = true →
        ∃ (J3 : (DL) → Int → Int → Prop) (μ3 : (DL) → Int → Int → Nat),
        J3 (u1.set ((IntKind.i64.wrap (i + (v.length : Int)))).toNat [(dU (IntKind.u32.wrap (IntKind.u64.wrap ((IntKind.u64.wrap ((IntKind.u64.wrap vx20) - carry)) - borrow))))]) (0 : Int) (0 : Int) ∧ ∀ (u2 : DL) (t : Int) (c : Int), J3 u2 t c →
          ((decide (t < (v.length : Int))) = true →
            ∃ (vx21 : Int),
            (0 ≤ t ∧ t < (v.length : Int)) ∧
            (v[(t).toNat]? = some [(dU vx21)]) ∧
            (∃ (vx22 : Int) (r5 : Int) (r6 : Int),
            (0 ≤ (IntKind.i64.wrap (i + t)) ∧ (IntKind.i64.wrap (i + t)) < (u2.length : Int)) ∧
            (u2[((IntKind.i64.wrap (i + t))).toNat]? = some [(dU vx22)]) ∧
            (FnD prog 130 [(vD (dU vx22)), (vD (dU vx21)), (vD (dU c))] (V.tup [(eD (dU r5)), (eD (dU r6))]) []) ∧
            (J3 (u2.set ((IntKind.i64.wrap (i + t))).toNat [(dU r5)]) (IntKind.i64.wrap (t + (1 : Int))) r6 ∧ μ3 (u2.set ((IntKind.i64.wrap (i + t))).toNat [(dU r5)]) (IntKind.i64.wrap (t + (1 : Int))) r6 < μ3 u2 t c))) ∧
          ((decide (t < (v.length : Int))) = false →
            ∃ (vx23 : Int),
            (0 ≤ (IntKind.i64.wrap (i + (v.length : Int))) ∧ (IntKind.i64.wrap (i + (v.length : Int))) < (u2.length : Int)) ∧
            (u2[((IntKind.i64.wrap (i + (v.length : Int)))).toNat]? = some [(dU vx23)]) ∧
            ((0 ≤ i ∧ i < (q.length : Int)) ∧
            (J0 (q.set (i).toNat [(dU (IntKind.u32.wrap (IntKind.u64.wrap (guess - (1 : Int)))))]) (u2.set ((IntKind.i64.wrap (i + (v.length : Int)))).toNat [(dU (IntKind.u32.wrap (vx23 + c)))]) (IntKind.i64.wrap (i - (1 : Int))) ∧ μ0 (q.set (i).toNat [(dU (IntKind.u32.wrap (IntKind.u64.wrap (guess - (1 : Int)))))]) (u2.set ((IntKind.i64.wrap (i + (v.length : Int)))).toNat [(dU (IntKind.u32.wrap (vx23 + c)))]) (IntKind.i64.wrap (i - (1 : Int))) < μ0 q u i)))) ∧
      ((((IntKind.u64.wrap ((IntKind.u64.wrap ((IntKind.u64.wrap vx20) - carry)) - borrow)).fdiv (2 ^ (min (63 : Int).toNat IntKind.u64.bits))) == (1 : Int)) = false →
        (0 ≤ i ∧ i < (q.length : Int)) ∧
        (J0 (q.set (i).toNat [(dU (IntKind.u32.wrap guess))]) (u1.set ((IntKind.i64.wrap (i + (v.length : Int)))).toNat [(dU (IntKind.u32.wrap (IntKind.u64.wrap ((IntKind.u64.wrap ((IntKind.u64.wrap vx20) - carry)) - borrow))))]) (IntKind.i64.wrap (i - (1 : Int))) ∧ μ0 (q.set (i).toNat [(dU (IntKind.u32.wrap guess))]) (u1.set ((IntKind.i64.wrap (i + (v.length : Int)))).toNat [(dU (IntKind.u32.wrap (IntKind.u64.wrap ((IntKind.u64.wrap ((IntKind.u64.wrap vx20) - carry)) - borrow))))]) (IntKind.i64.wrap (i - (1 : Int))) < μ0 q u i)))))
def roundP (v : DL) (u q : DL) (i : Int) (J0 : (DL) → (DL) → Int → Prop) (μ0 : (DL) → (DL) → Int → Nat) : Prop :=
  ∃ (vx1 : Int) (vx2 : Int),
  (0 ≤ (IntKind.i64.wrap (i + (v.length : Int))) ∧ (IntKind.i64.wrap (i + (v.length : Int))) < (u.length : Int)) ∧
  (u[((IntKind.i64.wrap (i + (v.length : Int)))).toNat]? = some [(dU vx1)]) ∧
  (0 ≤ (32 : Int)) ∧
  (0 ≤ (IntKind.i64.wrap ((IntKind.i64.wrap (i + (v.length : Int))) - (1 : Int))) ∧ (IntKind.i64.wrap ((IntKind.i64.wrap (i + (v.length : Int))) - (1 : Int))) < (u.length : Int)) ∧
  (u[((IntKind.i64.wrap ((IntKind.i64.wrap (i + (v.length : Int))) - (1 : Int)))).toNat]? = some [(dU vx2)]) ∧
  (∃ (vx3 : Int),
  (0 ≤ (IntKind.i64.wrap ((v.length : Int) - (1 : Int))) ∧ (IntKind.i64.wrap ((v.length : Int) - (1 : Int))) < (v.length : Int)) ∧
  (v[((IntKind.i64.wrap ((v.length : Int) - (1 : Int)))).toNat]? = some [(dU vx3)]) ∧
  ((IntKind.u64.wrap vx3) ≠ 0) ∧
  (∃ (J1 : Int → Int → Prop) (μ1 : Int → Int → Nat),
  J1 (IntKind.u64.wrap ((bitsI .u64 (· ||| ·) (IntKind.u64.wrap ((IntKind.u64.wrap vx1) * 2 ^ (min (32 : Int).toNat IntKind.u64.bits))) (IntKind.u64.wrap vx2)).tdiv (IntKind.u64.wrap vx3))) ((bitsI .u64 (· ||| ·) (IntKind.u64.wrap ((IntKind.u64.wrap vx1) * 2 ^ (min (32 : Int).toNat IntKind.u64.bits))) (IntKind.u64.wrap vx2)).tmod (IntKind.u64.wrap vx3)) ∧ ∀ (guess : Int) (rest : Int), J1 guess rest →
    ((decide (guess > (4294967295 : Int))) = true →
      ((decide ((IntKind.u64.wrap (rest + (IntKind.u64.wrap vx3))) > (4294967295 : Int))) = true →
        tailP v i u q (IntKind.u64.wrap (guess - (1 : Int))) J0 μ0) ∧
      ((decide ((IntKind.u64.wrap (rest + (IntKind.u64.wrap vx3))) > (4294967295 : Int))) = false →
        J1 (IntKind.u64.wrap (guess - (1 : Int))) (IntKind.u64.wrap (rest + (IntKind.u64.wrap vx3))) ∧ μ1 (IntKind.u64.wrap (guess - (1 : Int))) (IntKind.u64.wrap (rest + (IntKind.u64.wrap vx3))) < μ1 guess rest)) ∧
    ((decide (guess > (4294967295 : Int))) = false →
      ∃ (vx10 : Int) (vx11 : Int),
      (0 ≤ (IntKind.i64.wrap ((v.length : Int) - (2 : Int))) ∧ (IntKind.i64.wrap ((v.length : Int) - (2 : Int))) < (v.length : Int)) ∧
      (v[((IntKind.i64.wrap ((v.length : Int) - (2 : Int)))).toNat]? = some [(dU vx10)]) ∧
      (0 ≤ (IntKind.i64.wrap ((IntKind.i64.wrap (i + (v.length : Int))) - (2 : Int))) ∧ (IntKind.i64.wrap ((IntKind.i64.wrap (i + (v.length : Int))) - (2 : Int))) < (u.length : Int)) ∧
      (u[((IntKind.i64.wrap ((IntKind.i64.wrap (i + (v.length : Int))) - (2 : Int)))).toNat]? = some [(dU vx11)]) ∧
      (((decide ((IntKind.u64.wrap (guess * (IntKind.u64.wrap vx10))) > (bitsI .u64 (· ||| ·) (IntKind.u64.wrap (rest * 2 ^ (min (32 : Int).toNat IntKind.u64.bits))) (IntKind.u64.wrap vx11)))) = true →
        ((decide ((IntKind.u64.wrap (rest + (IntKind.u64.wrap vx3))) > (4294967295 : Int))) = true →
          tailP v i u q (IntKind.u64.wrap (guess - (1 : Int))) J0 μ0) ∧
        ((decide ((IntKind.u64.wrap (rest + (IntKind.u64.wrap vx3))) > (4294967295 : Int))) = false →
          J1 (IntKind.u64.wrap (guess - (1 : Int))) (IntKind.u64.wrap (rest + (IntKind.u64.wrap vx3))) ∧ μ1 (IntKind.u64.wrap (guess - (1 : Int))) (IntKind.u64.wrap (rest + (IntKind.u64.wrap vx3))) < μ1 guess rest)) ∧
      ((decide ((IntKind.u64.wrap (guess * (IntKind.u64.wrap vx10))) > (bitsI .u64 (· ||| ·) (IntKind.u64.wrap (rest * 2 ^ (min (32 : Int).toNat IntKind.u64.bits))) (IntKind.u64.wrap vx11)))) = false →
        tailP v i u q guess J0 μ0)))))
def vc128 (a b : DL) (R : V → Heap → Prop) : Prop :=
 ∃ (vx r : Int),
 (0 ≤ (IntKind.i64.wrap ((b.length : Int) - (1 : Int))) ∧ (IntKind.i64.wrap ((b.length : Int) - (1 : Int))) < (b.length : Int)) ∧
 (b[((IntKind.i64.wrap ((b.length : Int) - (1 : Int)))).toNat]? = some [dU vx]) ∧
 (FnD prog 133 [vD (dU vx)] (vD (dI r)) []) ∧
 (∃ (rrow rrow1 : DL),
 (FnD prog 134 [vD (dL a), vD (dI r)] (V.e (E.sc (S.ref 0))) [some (Obj.arr 1 rrow)]) ∧
 (FnD prog 134 [vD (dL b), vD (dI r)] (V.e (E.sc (S.ref 0))) [some (Obj.arr 1 rrow1)]) ∧
 (0 ≤ (b.length : Int) ∧ (b.length : Int) ≤ (rrow1.length : Int)) ∧
 ((0 ≤ (IntKind.i64.wrap ((rrow.length : Int) - ((rrow1.take ((b.length : Int)).toNat).length : Int))) ∧ (IntKind.i64.wrap ((rrow.length : Int) - ((rrow1.take ((b.length : Int)).toNat).length : Int))) ≤ (IntKind.i64.wrap ((rrow.length : Int) - ((rrow1.take ((b.length : Int)).toNat).length : Int))) ∧ (IntKind.i64.wrap ((rrow.length : Int) - ((rrow1.take ((b.length : Int)).toNat).length : Int))) * (4 : Nat) ≤ 281474976710656) ∧
 (∃ (J0 : (DL) → (DL) → Int → Prop) (μ0 : (DL) → (DL) → Int → Nat),
 J0 (List.replicate ((IntKind.i64.wrap ((rrow.length : Int) - ((rrow1.take ((b.length : Int)).toNat).length : Int)))).toNat [dU (0 : Int)]) rrow (IntKind.i64.wrap ((IntKind.i64.wrap ((rrow.length : Int) - ((rrow1.take ((b.length : Int)).toNat).length : Int))) - (1 : Int))) ∧ ∀ (q u : DL) (i : Int), J0 q u i →
 (decide (i ≥ (0 : Int)) = true →
 roundP (rrow1.take ((b.length : Int)).toNat) u q i J0 μ0) ∧
 (decide (i ≥ (0 : Int)) = false →
 (0 ≤ ((rrow1.take ((b.length : Int)).toNat).length : Int) ∧ ((rrow1.take ((b.length : Int)).toNat).length : Int) ≤ ((rrow1.take ((b.length : Int)).toNat).length : Int) ∧ ((rrow1.take ((b.length : Int)).toNat).length : Int) * (4 : Nat) ≤ 281474976710656) ∧
 (∃ (J8 : (DL) → Int → Prop) (μ8 : (DL) → Int → Nat),
 J8 (List.replicate (((rrow1.take ((b.length : Int)).toNat).length : Int)).toNat [dU (0 : Int)]) (0 : Int) ∧ ∀ (r7 : DL) (t228 : Int), J8 r7 t228 →
 ((decide (t228 < ((rrow1.take ((b.length : Int)).toNat).length : Int))) = true →
 ∃ (vx24 vx25 : Int),
 (0 ≤ t228 ∧ t228 < (u.length : Int)) ∧
 (u[(t228).toNat]? = some [dU vx24]) ∧
 (0 ≤ r) ∧
 (0 ≤ (IntKind.i64.wrap (t228 + (1 : Int))) ∧ (IntKind.i64.wrap (t228 + (1 : Int))) < (u.length : Int)) ∧
 (u[((IntKind.i64.wrap (t228 + (1 : Int)))).toNat]? = some [dU vx25]) ∧
 (0 ≤ (32 : Int)) ∧
 (0 ≤ t228 ∧ t228 < (r7.length : Int)) ∧
 (J8 (r7.set (t228).toNat [dU (bitsI .u32 (· ||| ·) (vx24.fdiv (2 ^ (min r.toNat IntKind.u32.bits))) (IntKind.u32.wrap ((IntKind.u64.wrap ((IntKind.u64.wrap vx25) * 2 ^ (min (32 : Int).toNat IntKind.u64.bits))).fdiv (2 ^ (min r.toNat IntKind.u64.bits)))))]) (IntKind.i64.wrap (t228 + (1 : Int))) ∧ μ8 (r7.set (t228).toNat [dU (bitsI .u32 (· ||| ·) (vx24.fdiv (2 ^ (min r.toNat IntKind.u32.bits))) (IntKind.u32.wrap ((IntKind.u64.wrap ((IntKind.u64.wrap vx25) * 2 ^ (min (32 : Int).toNat IntKind.u64.bits))).fdiv (2 ^ (min r.toNat IntKind.u64.bits)))))]) (IntKind.i64.wrap (t228 + (1 : Int))) < μ8 r7 t228)) ∧
 ((decide (t228 < ((rrow1.take ((b.length : Int)).toNat).length : Int))) = false →
 R (V.tup [eD (dL q), eD (dL r7)]) []))))))
theorem vc128_ok (a b : DL) {R : V → Heap → Prop} (h : vc128 a b R) : FnG prog 128 [vD (dL a), vD (dL b)] [] R :=
  FnG.vcg hT func128 ntmps128 (.r0 [0, 1] <| .ex fun vx => .ex fun r => .reg 0 [(5, Or.cells [dU vx], 0, 0), (6, Or.call (vD (dI r)) [] [], 0, 0)] [0, 1, 6] [] [] <| .exl fun rrow => .exl fun rrow1 => .drw 3 [(2, (Or.call (V.e (E.sc (S.ref 0))) [some (Obj.arr 1 rrow)] [], 0, 1), [0]), (5, (Or.call (V.e (E.sc (S.ref 0))) [some (Obj.arr 1 rrow1)] [], 1, 1), [1]), (8, (Or.none, 2, 1), [1, 2])] [6, 7, 8] [0, 2] [] <| .r1 [6, 7, 8, 9] [0, 1] <| .reg 1 [(4, Or.none, 2, 1)] [4, 6, 7, 8, 9] [2, 0, 1] [] <| .r1 [4, 6, 7, 8, 9, 10] [0, 1, 2] <| .lp [.l, .l, .i] (fun q u i => ⟨[(4, vR 0), (6, vD (dI r)), (7, vR 1), (8, vR 2), (9, vD (dI ((rrow1.take ((b.length : Int)).toNat).length : Int))), (10, vD (dI i))], [some (Obj.arr 1 q), some (Obj.arr 1 u), some (Obj.arr 1 (rrow1.take ((b.length : Int)).toNat))], 254⟩) [.l (List.replicate ((IntKind.i64.wrap ((rrow.length : Int) - ((rrow1.take ((b.length : Int)).toNat).length : Int)))).toNat [dU (0 : Int)]), .l rrow, .i (IntKind.i64.wrap ((IntKind.i64.wrap ((rrow.length : Int) - ((rrow1.take ((b.length : Int)).toNat).length : Int))) - (1 : Int)))] <| .fl fun q => .fl fun u => .fi fun i => .beg <| .r1 [4, 6, 7, 8, 9, 10, 53] [0, 1, 2] <| .c2 (.ex fun vx1 => .ex fun vx2 => .drw 0 [(5, (Or.cells [dU vx1], 0, 0), []), (14, (Or.cells [dU vx2], 0, 0), [])] [4, 6, 7, 8, 9, 10, 11] [0, 1, 2] [] <| .ex fun vx3 => .drw 0 [(5, (Or.cells [dU vx3], 0, 0), []), (13, (Or.cells [dU vx3], 0, 0), [])] [4, 6, 7, 8, 9, 10, 12, 13] [0, 1, 2] [.new, .new, .new, .old 2, .old 1, .old 0] <| .lp [.i, .i] (fun guess rest => ⟨[(4, vR 0), (6, vD (dI r)), (7, vR 1), (8, vR 2), (9, vD (dI ((rrow1.take ((b.length : Int)).toNat).length : Int))), (10, vD (dI i)), (12, vD (D.int .u64 guess)), (13, vD (D.int .u64 rest))], [some (Obj.arr 1 q), some (Obj.arr 1 u), some (Obj.arr 1 (rrow1.take ((b.length : Int)).toNat))], 254⟩) [.i (IntKind.u64.wrap ((bitsI .u64 (· ||| ·) (IntKind.u64.wrap ((IntKind.u64.wrap vx1) * 2 ^ (min (32 : Int).toNat IntKind.u64.bits))) (IntKind.u64.wrap vx2)).tdiv (IntKind.u64.wrap vx3))), .i ((bitsI .u64 (· ||| ·) (IntKind.u64.wrap ((IntKind.u64.wrap vx1) * 2 ^ (min (32 : Int).toNat IntKind.u64.bits))) (IntKind.u64.wrap vx2)).tmod (IntKind.u64.wrap vx3))] <| .fi fun guess => .fi fun rest => .beg <| .spl ((decide (guess > (4294967295 : Int)))) (.drw 0 [(2, (Or.bool true, 0, 0), [])] [4, 6, 7, 8, 9, 10, 12, 13, 112] [0, 1, 2] [.old 0] <| .ct true none <| .r1 [4, 6, 7, 8, 9, 10, 12, 13] [0, 1, 2] <| .reg 0 [(5, Or.cells [dU vx3], 0, 0)] [4, 6, 7, 8, 9, 10, 12, 13] [0, 1, 2] [.old 3, .old 2] <| .r1 [4, 6, 7, 8, 9, 10, 12, 13, 124] [0, 1, 2] <| .c2 (.r1 [4, 6, 7, 8, 9, 10, 12, 14, 15] [0, 1, 2] <| .r1 [4, 6, 7, 8, 9, 10, 12, 14, 15, 125, 126, 127] [0, 1, 2] <| .lp [.l, .i, .i, .i] (fun u1 t127 carry borrow => ⟨[(4, vR 0), (6, vD (dI r)), (7, vR 1), (8, vR 2), (9, vD (dI ((rrow1.take ((b.length : Int)).toNat).length : Int))), (10, vD (dI i)), (12, vD (D.int .u64 (IntKind.u64.wrap (guess - (1 : Int))))), (14, vD (D.int .u64 carry)), (15, vD (D.int .u64 borrow)), (125, vR 2), (126, vD (dI ((rrow1.take ((b.length : Int)).toNat).length : Int))), (127, vD (dI t127))], [some (Obj.arr 1 q), some (Obj.arr 1 u1), some (Obj.arr 1 (rrow1.take ((b.length : Int)).toNat))], 254⟩) [.l u, .i (0 : Int), .i (0 : Int), .i (0 : Int)] <| .fl fun u1 => .fi fun t127 => .fi fun carry => .fi fun borrow => .beg <| .r1 [4, 6, 7, 8, 9, 10, 12, 14, 15, 125, 126, 127, 128] [0, 1, 2] <| .c2 (.ex fun vx4 => .reg 0 [(2, Or.cells [dU vx4], 0, 0)] [4, 6, 7, 8, 9, 10, 12, 14, 15, 16, 17, 125, 126, 127] [0, 1, 2] [] <| .r1 [4, 6, 7, 8, 9, 10, 12, 14, 15, 16, 125, 126, 127] [0, 1, 2] <| .ex fun vx5 => .reg 0 [(5, Or.cells [dU vx5], 0, 0)] [4, 6, 7, 8, 9, 10, 12, 14, 16, 18, 125, 126, 127] [0, 1, 2] [] <| .reg 0 [] [4, 6, 7, 8, 9, 10, 12, 14, 15, 125, 126, 127] [0, 1, 2] [.new, .old 2] <| .reg 0 [] [4, 6, 7, 8, 9, 10, 12, 14, 15, 125, 126, 127] [0, 1, 2] [.old 13] <| .r1 [4, 6, 7, 8, 9, 10, 12, 14, 15, 125, 126, 127] [0, 1, 2] <| .bk 0 [.l (u1.set ((IntKind.i64.wrap (i + t127))).toNat [dU (IntKind.u32.wrap (IntKind.u64.wrap ((IntKind.u64.wrap ((IntKind.u64.wrap vx5) - (IntKind.u64.wrap (IntKind.u32.wrap (IntKind.u64.wrap (carry + (IntKind.u64.wrap ((IntKind.u64.wrap (guess - (1 : Int))) * (IntKind.u64.wrap vx4))))))))) - borrow)))]), .i (IntKind.i64.wrap (t127 + (1 : Int))), .i ((IntKind.u64.wrap (carry + (IntKind.u64.wrap ((IntKind.u64.wrap (guess - (1 : Int))) * (IntKind.u64.wrap vx4))))).fdiv (2 ^ (min (32 : Int).toNat IntKind.u64.bits))), .i ((IntKind.u64.wrap ((IntKind.u64.wrap ((IntKind.u64.wrap vx5) - (IntKind.u64.wrap (IntKind.u32.wrap (IntKind.u64.wrap (carry + (IntKind.u64.wrap ((IntKind.u64.wrap (guess - (1 : Int))) * (IntKind.u64.wrap vx4))))))))) - borrow)).fdiv (2 ^ (min (63 : Int).toNat IntKind.u64.bits)))]) (.ex fun vx6 => .reg 0 [(5, Or.cells [dU vx6], 0, 0)] [4, 6, 7, 8, 9, 10, 12, 19] [0, 1, 2] [] <| .reg 0 [] [4, 6, 7, 8, 9, 10, 12, 19] [0, 1, 2] [.old 1] <| .r1 [4, 6, 7, 8, 9, 10, 12, 183] [0, 1, 2] <| .c2 (.r1 [4, 6, 7, 8, 9, 10, 12] [0, 1, 2] <| .r1 [4, 6, 7, 8, 9, 10, 12, 20] [0, 1, 2] <| .r1 [4, 6, 7, 8, 9, 10, 12, 20, 186, 187, 188] [0, 1, 2] <| .lp [.l, .i, .i] (fun u2 t188 c => ⟨[(4, vR 0), (6, vD (dI r)), (7, vR 1), (8, vR 2), (9, vD (dI ((rrow1.take ((b.length : Int)).toNat).length : Int))), (10, vD (dI i)), (12, vD (D.int .u64 (IntKind.u64.wrap ((IntKind.u64.wrap (guess - (1 : Int))) - (1 : Int))))), (20, vD (dU c)), (186, vR 2), (187, vD (dI ((rrow1.take ((b.length : Int)).toNat).length : Int))), (188, vD (dI t188))], [some (Obj.arr 1 q), some (Obj.arr 1 u2), some (Obj.arr 1 (rrow1.take ((b.length : Int)).toNat))], 254⟩) [.l (u1.set ((IntKind.i64.wrap (i + ((rrow1.take ((b.length : Int)).toNat).length : Int)))).toNat [dU (IntKind.u32.wrap (IntKind.u64.wrap ((IntKind.u64.wrap ((IntKind.u64.wrap vx6) - carry)) - borrow)))]), .i (0 : Int), .i (0 : Int)] <| .fl fun u2 => .fi fun t188 => .fi fun c => .beg <| .r1 [4, 6, 7, 8, 9, 10, 12, 20, 186, 187, 188, 189] [0, 1, 2] <| .c2 (.ex fun vx7 => .reg 0 [(2, Or.cells [dU vx7], 0, 0)] [4, 6, 7, 8, 9, 10, 12, 20, 21, 22, 186, 187, 188] [0, 1, 2] [] <| .ex fun vx8 => .ex fun r1 => .ex fun r2 => .reg 0 [(9, Or.cells [dU vx8], 0, 0), (12, Or.call (V.tup [eD (dU r1), eD (dU r2)]) [] [], 0, 0)] [4, 6, 7, 8, 9, 10, 12, 20, 186, 187, 188] [0, 1, 2] [.new, .new, .new, .old 2] <| .r1 [4, 6, 7, 8, 9, 10, 12, 20, 186, 187, 188] [0, 1, 2] <| .bk 0 [.l (u2.set ((IntKind.i64.wrap (i + t188))).toNat [dU r1]), .i (IntKind.i64.wrap (t188 + (1 : Int))), .i r2]) (.ex fun vx9 => .reg 0 [(5, Or.cells [dU vx9], 0, 0)] [4, 6, 7, 8, 9, 10, 12] [0, 1, 2] [.new, .new, .old 1] <| .r1 [4, 6, 7, 8, 9, 10] [0, 1, 2] <| .r1 [4, 6, 7, 8, 9, 10] [0, 1, 2] <| .bk 3 [.l (q.set (i).toNat [dU (IntKind.u32.wrap (IntKind.u64.wrap ((IntKind.u64.wrap (guess - (1 : Int))) - (1 : Int))))]), .l (u2.set ((IntKind.i64.wrap (i + ((rrow1.take ((b.length : Int)).toNat).length : Int)))).toNat [dU (IntKind.u32.wrap (vx9 + c))]), .i (IntKind.i64.wrap (i - (1 : Int)))])) (.r1 [4, 6, 7, 8, 9, 10] [0, 1, 2] <| .r1 [4, 6, 7, 8, 9, 10] [0, 1, 2] <| .bk 2 [.l (q.set (i).toNat [dU (IntKind.u32.wrap (IntKind.u64.wrap (guess - (1 : Int))))]), .l (u1.set ((IntKind.i64.wrap (i + ((rrow1.take ((b.length : Int)).toNat).length : Int)))).toNat [dU (IntKind.u32.wrap (IntKind.u64.wrap ((IntKind.u64.wrap ((IntKind.u64.wrap vx6) - carry)) - borrow)))]), .i (IntKind.i64.wrap (i - (1 : Int)))]))) (.viw [4, 6, 7, 8, 9, 10, 12, 13] [0, 1, 2] <| .bk 0 [.i (IntKind.u64.wrap (guess - (1 : Int))), .i (IntKind.u64.wrap (rest + (IntKind.u64.wrap vx3)))])) (.ex fun vx10 => .ex fun vx11 => .drw 0 [(2, (Or.bool false, 0, 0), []), (8, (Or.cells [dU vx10], 0, 0), []), (19, (Or.cells [dU vx11], 0, 0), [])] [4, 6, 7, 8, 9, 10, 12, 13, 112] [0, 1, 2] [.old 0, .new, .new, .old 8] <| .c2 (.r1 [4, 6, 7, 8, 9, 10, 12, 13] [0, 1, 2] <| .reg 0 [(5, Or.cells [dU vx3], 0, 0)] [4, 6, 7, 8, 9, 10, 12, 13] [0, 1, 2] [.old 8, .old 7] <| .r1 [4, 6, 7, 8, 9, 10, 12, 13, 124] [0, 1, 2] <| .c2 (.r1 [4, 6, 7, 8, 9, 10, 12, 14, 15] [0, 1, 2] <| .r1 [4, 6, 7, 8, 9, 10, 12, 14, 15, 125, 126, 127] [0, 1, 2] <| .lp [.l, .i, .i, .i] (fun u3 t1271 carry1 borrow1 => ⟨[(4, vR 0), (6, vD (dI r)), (7, vR 1), (8, vR 2), (9, vD (dI ((rrow1.take ((b.length : Int)).toNat).length : Int))), (10, vD (dI i)), (12, vD (D.int .u64 (IntKind.u64.wrap (guess - (1 : Int))))), (14, vD (D.int .u64 carry1)), (15, vD (D.int .u64 borrow1)), (125, vR 2), (126, vD (dI ((rrow1.take ((b.length : Int)).toNat).length : Int))), (127, vD (dI t1271))], [some (Obj.arr 1 q), some (Obj.arr 1 u3), some (Obj.arr 1 (rrow1.take ((b.length : Int)).toNat))], 254⟩) [.l u, .i (0 : Int), .i (0 : Int), .i (0 : Int)] <| .fl fun u3 => .fi fun t1271 => .fi fun carry1 => .fi fun borrow1 => .beg <| .r1 [4, 6, 7, 8, 9, 10, 12, 14, 15, 125, 126, 127, 128] [0, 1, 2] <| .c2 (.ex fun vx12 => .reg 0 [(2, Or.cells [dU vx12], 0, 0)] [4, 6, 7, 8, 9, 10, 12, 14, 15, 16, 17, 125, 126, 127] [0, 1, 2] [] <| .r1 [4, 6, 7, 8, 9, 10, 12, 14, 15, 16, 125, 126, 127] [0, 1, 2] <| .ex fun vx13 => .reg 0 [(5, Or.cells [dU vx13], 0, 0)] [4, 6, 7, 8, 9, 10, 12, 14, 16, 18, 125, 126, 127] [0, 1, 2] [] <| .reg 0 [] [4, 6, 7, 8, 9, 10, 12, 14, 15, 125, 126, 127] [0, 1, 2] [.new, .old 2] <| .reg 0 [] [4, 6, 7, 8, 9, 10, 12, 14, 15, 125, 126, 127] [0, 1, 2] [.old 18] <| .r1 [4, 6, 7, 8, 9, 10, 12, 14, 15, 125, 126, 127] [0, 1, 2] <| .bk 0 [.l (u3.set ((IntKind.i64.wrap (i + t1271))).toNat [dU (IntKind.u32.wrap (IntKind.u64.wrap ((IntKind.u64.wrap ((IntKind.u64.wrap vx13) - (IntKind.u64.wrap (IntKind.u32.wrap (IntKind.u64.wrap (carry1 + (IntKind.u64.wrap ((IntKind.u64.wrap (guess - (1 : Int))) * (IntKind.u64.wrap vx12))))))))) - borrow1)))]), .i (IntKind.i64.wrap (t1271 + (1 : Int))), .i ((IntKind.u64.wrap (carry1 + (IntKind.u64.wrap ((IntKind.u64.wrap (guess - (1 : Int))) * (IntKind.u64.wrap vx12))))).fdiv (2 ^ (min (32 : Int).toNat IntKind.u64.bits))), .i ((IntKind.u64.wrap ((IntKind.u64.wrap ((IntKind.u64.wrap vx13) - (IntKind.u64.wrap (IntKind.u32.wrap (IntKind.u64.wrap (carry1 + (IntKind.u64.wrap ((IntKind.u64.wrap (guess - (1 : Int))) * (IntKind.u64.wrap vx12))))))))) - borrow1)).fdiv (2 ^ (min (63 : Int).toNat IntKind.u64.bits)))]) (.ex fun vx14 => .reg 0 [(5, Or.cells [dU vx14], 0, 0)] [4, 6, 7, 8, 9, 10, 12, 19] [0, 1, 2] [] <| .reg 0 [] [4, 6, 7, 8, 9, 10, 12, 19] [0, 1, 2] [.old 1] <| .r1 [4, 6, 7, 8, 9, 10, 12, 183] [0, 1, 2] <| .c2 (.r1 [4, 6, 7, 8, 9, 10, 12] [0, 1, 2] <| .r1 [4, 6, 7, 8, 9, 10, 12, 20] [0, 1, 2] <| .r1 [4, 6, 7, 8, 9, 10, 12, 20, 186, 187, 188] [0, 1, 2] <| .lp [.l, .i, .i] (fun u4 t1881 c1 => ⟨[(4, vR 0), (6, vD (dI r)), (7, vR 1), (8, vR 2), (9, vD (dI ((rrow1.take ((b.length : Int)).toNat).length : Int))), (10, vD (dI i)), (12, vD (D.int .u64 (IntKind.u64.wrap ((IntKind.u64.wrap (guess - (1 : Int))) - (1 : Int))))), (20, vD (dU c1)), (186, vR 2), (187, vD (dI ((rrow1.take ((b.length : Int)).toNat).length : Int))), (188, vD (dI t1881))], [some (Obj.arr 1 q), some (Obj.arr 1 u4), some (Obj.arr 1 (rrow1.take ((b.length : Int)).toNat))], 254⟩) [.l (u3.set ((IntKind.i64.wrap (i + ((rrow1.take ((b.length : Int)).toNat).length : Int)))).toNat [dU (IntKind.u32.wrap (IntKind.u64.wrap ((IntKind.u64.wrap ((IntKind.u64.wrap vx14) - carry1)) - borrow1)))]), .i (0 : Int), .i (0 : Int)] <| .fl fun u4 => .fi fun t1881 => .fi fun c1 => .beg <| .r1 [4, 6, 7, 8, 9, 10, 12, 20, 186, 187, 188, 189] [0, 1, 2] <| .c2 (.ex fun vx15 => .reg 0 [(2, Or.cells [dU vx15], 0, 0)] [4, 6, 7, 8, 9, 10, 12, 20, 21, 22, 186, 187, 188] [0, 1, 2] [] <| .ex fun vx16 => .ex fun r3 => .ex fun r4 => .reg 0 [(9, Or.cells [dU vx16], 0, 0), (12, Or.call (V.tup [eD (dU r3), eD (dU r4)]) [] [], 0, 0)] [4, 6, 7, 8, 9, 10, 12, 20, 186, 187, 188] [0, 1, 2] [.new, .new, .new, .old 2] <| .r1 [4, 6, 7, 8, 9, 10, 12, 20, 186, 187, 188] [0, 1, 2] <| .bk 0 [.l (u4.set ((IntKind.i64.wrap (i + t1881))).toNat [dU r3]), .i (IntKind.i64.wrap (t1881 + (1 : Int))), .i r4]) (.ex fun vx17 => .reg 0 [(5, Or.cells [dU vx17], 0, 0)] [4, 6, 7, 8, 9, 10, 12] [0, 1, 2] [.new, .new, .old 1] <| .r1 [4, 6, 7, 8, 9, 10] [0, 1, 2] <| .r1 [4, 6, 7, 8, 9, 10] [0, 1, 2] <| .bk 3 [.l (q.set (i).toNat [dU (IntKind.u32.wrap (IntKind.u64.wrap ((IntKind.u64.wrap (guess - (1 : Int))) - (1 : Int))))]), .l (u4.set ((IntKind.i64.wrap (i + ((rrow1.take ((b.length : Int)).toNat).length : Int)))).toNat [dU (IntKind.u32.wrap (vx17 + c1))]), .i (IntKind.i64.wrap (i - (1 : Int)))])) (.r1 [4, 6, 7, 8, 9, 10] [0, 1, 2] <| .r1 [4, 6, 7, 8, 9, 10] [0, 1, 2] <| .bk 2 [.l (q.set (i).toNat [dU (IntKind.u32.wrap (IntKind.u64.wrap (guess - (1 : Int))))]), .l (u3.set ((IntKind.i64.wrap (i + ((rrow1.take ((b.length : Int)).toNat).length : Int)))).toNat [dU (IntKind.u32.wrap (IntKind.u64.wrap ((IntKind.u64.wrap ((IntKind.u64.wrap vx14) - carry1)) - borrow1)))]), .i (IntKind.i64.wrap (i - (1 : Int)))]))) (.viw [4, 6, 7, 8, 9, 10, 12, 13] [0, 1, 2] <| .bk 0 [.i (IntKind.u64.wrap (guess - (1 : Int))), .i (IntKind.u64.wrap (rest + (IntKind.u64.wrap vx3)))])) (.r1 [4, 6, 7, 8, 9, 10, 12, 14, 15] [0, 1, 2] <| .r1 [4, 6, 7, 8, 9, 10, 12, 14, 15, 125, 126, 127] [0, 1, 2] <| .lp [.l, .i, .i, .i] (fun u5 t1272 carry2 borrow2 => ⟨[(4, vR 0), (6, vD (dI r)), (7, vR 1), (8, vR 2), (9, vD (dI ((rrow1.take ((b.length : Int)).toNat).length : Int))), (10, vD (dI i)), (12, vD (D.int .u64 guess)), (14, vD (D.int .u64 carry2)), (15, vD (D.int .u64 borrow2)), (125, vR 2), (126, vD (dI ((rrow1.take ((b.length : Int)).toNat).length : Int))), (127, vD (dI t1272))], [some (Obj.arr 1 q), some (Obj.arr 1 u5), some (Obj.arr 1 (rrow1.take ((b.length : Int)).toNat))], 254⟩) [.l u, .i (0 : Int), .i (0 : Int), .i (0 : Int)] <| .fl fun u5 => .fi fun t1272 => .fi fun carry2 => .fi fun borrow2 => .beg <| .r1 [4, 6, 7, 8, 9, 10, 12, 14, 15, 125, 126, 127, 128] [0, 1, 2] <| .c2 (.ex fun vx18 => .reg 0 [(2, Or.cells [dU vx18], 0, 0)] [4, 6, 7, 8, 9, 10, 12, 14, 15, 16, 17, 125, 126, 127] [0, 1, 2] [] <| .r1 [4, 6, 7, 8, 9, 10, 12, 14, 15, 16, 125, 126, 127] [0, 1, 2] <| .ex fun vx19 => .reg 0 [(5, Or.cells [dU vx19], 0, 0)] [4, 6, 7, 8, 9, 10, 12, 14, 16, 18, 125, 126, 127] [0, 1, 2] [] <| .reg 0 [] [4, 6, 7, 8, 9, 10, 12, 14, 15, 125, 126, 127] [0, 1, 2] [.new, .old 2] <| .reg 0 [] [4, 6, 7, 8, 9, 10, 12, 14, 15, 125, 126, 127] [0, 1, 2] [.old 17] <| .r1 [4, 6, 7, 8, 9, 10, 12, 14, 15, 125, 126, 127] [0, 1, 2] <| .bk 0 [.l (u5.set ((IntKind.i64.wrap (i + t1272))).toNat [dU (IntKind.u32.wrap (IntKind.u64.wrap ((IntKind.u64.wrap ((IntKind.u64.wrap vx19) - (IntKind.u64.wrap (IntKind.u32.wrap (IntKind.u64.wrap (carry2 + (IntKind.u64.wrap (guess * (IntKind.u64.wrap vx18))))))))) - borrow2)))]), .i (IntKind.i64.wrap (t1272 + (1 : Int))), .i ((IntKind.u64.wrap (carry2 + (IntKind.u64.wrap (guess * (IntKind.u64.wrap vx18))))).fdiv (2 ^ (min (32 : Int).toNat IntKind.u64.bits))), .i ((IntKind.u64.wrap ((IntKind.u64.wrap ((IntKind.u64.wrap vx19) - (IntKind.u64.wrap (IntKind.u32.wrap (IntKind.u64.wrap (carry2 + (IntKind.u64.wrap (guess * (IntKind.u64.wrap vx18))))))))) - borrow2)).fdiv (2 ^ (min (63 : Int).toNat IntKind.u64.bits)))]) (.ex fun vx20 => .reg 0 [(5, Or.cells [dU vx20], 0, 0)] [4, 6, 7, 8, 9, 10, 12, 19] [0, 1, 2] [] <| .reg 0 [] [4, 6, 7, 8, 9, 10, 12, 19] [0, 1, 2] [.old 1] <| .r1 [4, 6, 7, 8, 9, 10, 12, 183] [0, 1, 2] <| .c2 (.r1 [4, 6, 7, 8, 9, 10, 12] [0, 1, 2] <| .r1 [4, 6, 7, 8, 9, 10, 12, 20] [0, 1, 2] <| .r1 [4, 6, 7, 8, 9, 10, 12, 20, 186, 187, 188] [0, 1, 2] <| .lp [.l, .i, .i] (fun u6 t1882 c2 => ⟨[(4, vR 0), (6, vD (dI r)), (7, vR 1), (8, vR 2), (9, vD (dI ((rrow1.take ((b.length : Int)).toNat).length : Int))), (10, vD (dI i)), (12, vD (D.int .u64 (IntKind.u64.wrap (guess - (1 : Int))))), (20, vD (dU c2)), (186, vR 2), (187, vD (dI ((rrow1.take ((b.length : Int)).toNat).length : Int))), (188, vD (dI t1882))], [some (Obj.arr 1 q), some (Obj.arr 1 u6), some (Obj.arr 1 (rrow1.take ((b.length : Int)).toNat))], 254⟩) [.l (u5.set ((IntKind.i64.wrap (i + ((rrow1.take ((b.length : Int)).toNat).length : Int)))).toNat [dU (IntKind.u32.wrap (IntKind.u64.wrap ((IntKind.u64.wrap ((IntKind.u64.wrap vx20) - carry2)) - borrow2)))]), .i (0 : Int), .i (0 : Int)] <| .fl fun u6 => .fi fun t1882 => .fi fun c2 => .beg <| .r1 [4, 6, 7, 8, 9, 10, 12, 20, 186, 187, 188, 189] [0, 1, 2] <| .c2 (.ex fun vx21 => .reg 0 [(2, Or.cells [dU vx21], 0, 0)] [4, 6, 7, 8, 9, 10, 12, 20, 21, 22, 186, 187, 188] [0, 1, 2] [] <| .ex fun vx22 => .ex fun r5 => .ex fun r6 => .reg 0 [(9, Or.cells [dU vx22], 0, 0), (12, Or.call (V.tup [eD (dU r5), eD (dU r6)]) [] [], 0, 0)] [4, 6, 7, 8, 9, 10, 12, 20, 186, 187, 188] [0, 1, 2] [.new, .new, .new, .old 2] <| .r1 [4, 6, 7, 8, 9, 10, 12, 20, 186, 187, 188] [0, 1, 2] <| .bk 0 [.l (u6.set ((IntKind.i64.wrap (i + t1882))).toNat [dU r5]), .i (IntKind.i64.wrap (t1882 + (1 : Int))), .i r6]) (.ex fun vx23 => .reg 0 [(5, Or.cells [dU vx23], 0, 0)] [4, 6, 7, 8, 9, 10, 12] [0, 1, 2] [.new, .new, .old 1] <| .r1 [4, 6, 7, 8, 9, 10] [0, 1, 2] <| .r1 [4, 6, 7, 8, 9, 10] [0, 1, 2] <| .bk 3 [.l (q.set (i).toNat [dU (IntKind.u32.wrap (IntKind.u64.wrap (guess - (1 : Int))))]), .l (u6.set ((IntKind.i64.wrap (i + ((rrow1.take ((b.length : Int)).toNat).length : Int)))).toNat [dU (IntKind.u32.wrap (vx23 + c2))]), .i (IntKind.i64.wrap (i - (1 : Int)))])) (.r1 [4, 6, 7, 8, 9, 10] [0, 1, 2] <| .r1 [4, 6, 7, 8, 9, 10] [0, 1, 2] <| .bk 2 [.l (q.set (i).toNat [dU (IntKind.u32.wrap guess)]), .l (u5.set ((IntKind.i64.wrap (i + ((rrow1.take ((b.length : Int)).toNat).length : Int)))).toNat [dU (IntKind.u32.wrap (IntKind.u64.wrap ((IntKind.u64.wrap ((IntKind.u64.wrap vx20) - carry2)) - borrow2)))]), .i (IntKind.i64.wrap (i - (1 : Int)))]))))) (.reg 1 [(1, Or.none, 3, 1)] [4, 5, 6, 7, 9] [0, 3, 1] [] <| .r1 [4, 5, 6, 7, 227, 228] [0, 1, 2] <| .lp [.l, .i] (fun r7 t228 => ⟨[(4, vR 0), (5, vR 1), (6, vD (dI r)), (7, vR 2), (227, vD (dI ((rrow1.take ((b.length : Int)).toNat).length : Int))), (228, vD (dI t228))], [some (Obj.arr 1 q), some (Obj.arr 1 r7), some (Obj.arr 1 u)], 254⟩) [.l (List.replicate (((rrow1.take ((b.length : Int)).toNat).length : Int)).toNat [dU (0 : Int)]), .i (0 : Int)] <| .fl fun r7 => .fi fun t228 => .beg <| .r1 [4, 5, 6, 7, 227, 228, 229] [0, 1, 2] <| .c2 (.r1 [4, 5, 6, 7, 23, 227, 228] [0, 1, 2] <| .ex fun vx24 => .ex fun vx25 => .drw 0 [(5, (Or.cells [dU vx24], 0, 0), []), (12, (Or.cells [dU vx25], 0, 0), []), (20, (Or.none, 0, 0), [1])] [4, 5, 6, 7, 227, 228] [0, 1, 2] [.new, .new, .new, .new, .new, .new, .old 3] <| .r1 [4, 5, 6, 7, 227, 228] [0, 1, 2] <| .bk 0 [.l (r7.set (t228).toNat [dU (bitsI .u32 (· ||| ·) (vx24.fdiv (2 ^ (min r.toNat IntKind.u32.bits))) (IntKind.u32.wrap ((IntKind.u64.wrap ((IntKind.u64.wrap vx25) * 2 ^ (min (32 : Int).toNat IntKind.u64.bits))).fdiv (2 ^ (min r.toNat IntKind.u64.bits)))))]), .i (IntKind.i64.wrap (t228 + (1 : Int)))]) (.r1 [4, 5] [0, 1] <| .frz [0, 1] <| .ret [])))
    (by kernel_rfl) (by kernel_rfl) (by kernel_rfl) h
end Go.AM
/- Division of integers: integer.shift. -/
namespace Go.AM
open Go.Proofs.Tryz
def shG (k : Nat) : Nat → List Nat → List Nat
  | c, [] => [c]
  | c, x :: l => ((x * 2 ^ k) % 4294967296 + c) :: shG k ((x * 2 ^ k) / 4294967296) l
theorem shG_len (k : Nat) : ∀ (l : List Nat) (c : Nat), (shG k c l).length = l.length + 1
  | [], _ => rfl
  | _ :: l, _ => by simp [shG, shG_len k l]
theorem shG_val (k : Nat) : ∀ (l : List Nat) (c : Nat), val (shG k c l) = val l * 2 ^ k + c
  | [], c => by simp [shG, val]
  | x :: l, c => by
    have h := Nat.div_add_mod (x * 2 ^ k) 4294967296
    simp only [shG, val, shG_val k l]
    rw [Nat.mul_add, Nat.add_mul, Nat.mul_assoc]
    omega
theorem lo_form {k : Nat} (hk : k ≤ 32) (x : Nat) : (x * 2 ^ k) % 4294967296 = (x % 2 ^ (32 - k)) * 2 ^ k := by
  have e : (4294967296 : Nat) = 2 ^ (32 - k) * 2 ^ k := by rw [← Nat.pow_add, show 32 - k + k = 32 by omega]
  conv => lhs; rw [e]
  rw [Nat.mul_mod_mul_right]
theorem lo_add {k c : Nat} (hk : k ≤ 32) (hc : c < 2 ^ k) (x : Nat) : (x * 2 ^ k) % 4294967296 + c < 4294967296 := by
  have e : (4294967296 : Nat) = 2 ^ (32 - k) * 2 ^ k := by rw [← Nat.pow_add, show 32 - k + k = 32 by omega]
  have h1 : x % 2 ^ (32 - k) + 1 ≤ 2 ^ (32 - k) := Nat.mod_lt _ (Nat.pow_pos (by decide))
  have h2 : (x % 2 ^ (32 - k) + 1) * 2 ^ k ≤ 2 ^ (32 - k) * 2 ^ k := Nat.mul_le_mul_right _ h1
  rw [lo_form hk, e]
  rw [Nat.add_mul] at h2
  omega
theorem hi_lt {k x : Nat} (hx : x < 4294967296) : (x * 2 ^ k) / 4294967296 < 2 ^ k := by
  rw [Nat.div_lt_iff_lt_mul (by decide), Nat.mul_comm]
  exact Nat.mul_lt_mul_of_pos_left hx (Nat.pow_pos (by decide))
theorem shG_dig {k : Nat} (hk : k ≤ 32) : ∀ (l : List Nat) (c : Nat), c < 2 ^ k → (∀ x ∈ l, x < 4294967296) → ∀ z ∈ shG k c l, z < 4294967296
  | [], c, hc, _, z, hz => by
    have : 2 ^ k ≤ 2 ^ 32 := Nat.pow_le_pow_right (by decide) hk
    simp [shG] at hz; omega
  | x :: l, c, hc, h, z, hz => by
    simp only [shG, List.mem_cons] at hz
    rcases hz with rfl | hz
    · exact lo_add hk hc x
    · exact shG_dig hk l _ (hi_lt (h x (by simp))) (fun y hy => h y (by simp [hy])) z hz
theorem shG_last {k : Nat} : ∀ (l : List Nat) (c : Nat), c < 2 ^ k → (∀ x ∈ l, x < 4294967296) → (shG k c l).getD l.length 0 < 2 ^ k
  | [], c, hc, _ => by simpa [shG] using hc
  | x :: l, c, _, h => by
    have := shG_last (k := k) l ((x * 2 ^ k) / 4294967296) (hi_lt (h x (by simp))) fun y hy => h y (by simp [hy])
    simpa [shG] using this
theorem shG_snoc {k x : Nat} : ∀ (l : List Nat) (c : Nat), shG k c (l ++ [x]) = (shG k c l).set l.length ((x * 2 ^ k) % 4294967296 + (shG k c l).getD l.length 0) ++ [(x * 2 ^ k) / 4294967296]
  | [], c => by simp [shG]
  | y :: l, c => by
    have := shG_snoc (k := k) (x := x) l ((y * 2 ^ k) / 4294967296)
    simp only [List.cons_append, shG, this, List.length_cons, List.set_cons_succ, List.getD_cons_succ]
theorem orC {k c x : Nat} (hk : k ≤ 32) (hc : c < 2 ^ k) : bitsI .u32 (· ||| ·) (c : Int) (((x * 2 ^ k) % 4294967296 : Nat) : Int) = (((x * 2 ^ k) % 4294967296 + c : Nat) : Int) := by
  have hl := lo_add hk hc x
  have e1 : BitVec.ofInt IntKind.u32.bits (c : Int) = BitVec.ofNat 32 c := BitVec.ofInt_natCast ..
  have e2 : BitVec.ofInt IntKind.u32.bits (((x * 2 ^ k) % 4294967296 : Nat) : Int) = BitVec.ofNat 32 ((x * 2 ^ k) % 4294967296) := BitVec.ofInt_natCast ..
  have e3 : ((BitVec.ofNat 32 c ||| BitVec.ofNat 32 ((x * 2 ^ k) % 4294967296) : BitVec 32)).toNat = (x * 2 ^ k) % 4294967296 + c := by
    rw [BitVec.toNat_or, BitVec.toNat_ofNat, BitVec.toNat_ofNat, Nat.mod_eq_of_lt (a := c) (by omega), Nat.mod_eq_of_lt (a := (x * 2 ^ k) % 4294967296) (by omega), Nat.or_comm, lo_form hk]
    have := Nat.shiftLeft_add_eq_or_of_lt (i := k) (b := c) hc (x % 2 ^ (32 - k))
    rw [Nat.shiftLeft_eq] at this
    exact this.symm
  unfold bitsI
  rw [e1, e2]
  have e4 : (((BitVec.ofNat 32 c) ||| (BitVec.ofNat 32 ((x * 2 ^ k) % 4294967296)) : BitVec 32).toNat : Int) = (((x * 2 ^ k) % 4294967296 + c : Nat) : Int) := by rw [e3]
  exact (congrArg IntKind.u32.wrap e4).trans (u32_id (by omega) (by omega))
def OutA (l : List Nat) : V → Heap → Prop := fun v h => v = vR 0 ∧ h = [some (.arr 1 (lim l))]
theorem shift_ok {l : List Nat} {k : Nat} (hB : ∀ x ∈ l, x < 4294967296) (hl : l.length ≤ 1099511627776) (hk : k ≤ 31) :
    FnD prog 134 [vs (lim l), vi k] (vR 0) [some (.arr 1 (lim (shG k 0 l)))] := by
  refine vc134o_ok _ _ (R := OutA (shG k 0 l)) ?_
  unfold vc134o
  simp only [lim_length]
  have w1 : IntKind.i64.wrap ((l.length : Int) + 1) = ((l.length + 1 : Nat) : Int) := by rw [w64 (by omega) (by omega)]; omega
  rw [w1]
  refine ⟨⟨by omega, by omega, by omega⟩, fun out t => ∃ i : Nat, t = (i : Int) ∧ i ≤ l.length ∧ out = lim (shG k 0 (l.take i) ++ List.replicate (l.length - i) 0), fun _ t => ((l.length : Int) - t).toNat, ⟨0, rfl, by omega, ?_⟩, ?_⟩
  · rw [Int.toNat_natCast, lim_rep, List.replicate_succ]; simp [shG]
  rintro _ _ ⟨i, rfl, hi, rfl⟩
  refine ⟨fun h => ?_, fun h => ?_⟩
  · have hil : i < l.length := by simpa using h
    have hx := hB _ (List.getElem_mem hil)
    have hBt : ∀ x ∈ l.take i, x < 4294967296 := fun x hx => hB x (List.mem_of_mem_take hx)
    have hlt : (l.take i).length = i := by simp; omega
    have hS := shG_len k (l.take i) 0
    have hc := shG_last (k := k) (l.take i) 0 (Nat.pow_pos (by decide)) hBt
    have hsn := shG_snoc (k := k) (x := l[i]) (l.take i) 0
    have htk : l.take (i + 1) = l.take i ++ [l[i]] := by rw [List.take_add_one, List.getElem?_eq_getElem hil]; rfl
    rw [hlt] at hS hc hsn
    rw [← htk] at hsn
    generalize hSe : shG k 0 (l.take i) = S at *
    have hget : (lim (S ++ List.replicate (l.length - i) 0))[((i : Nat) : Int).toNat]? = some [dU ((S.getD i 0 : Nat) : Int)] := by
      rw [Int.toNat_natCast, lim_get (by simp; omega)]
      simp [List.getElem_append_left (show i < S.length by omega), List.getElem?_eq_getElem (show i < S.length by omega)]
    generalize hce : S.getD i 0 = c at *
    have hwide : l[i] * 2 ^ k < 18446744073709551616 := by
      have h1 : 2 ^ k ≤ 2 ^ 31 := Nat.pow_le_pow_right (by decide) hk
      have h2 : l[i] * 2 ^ k ≤ l[i] * 2 ^ 31 := Nat.mul_le_mul_left _ h1
      omega
    have ek : (2 : Int) ^ (min (k : Int).toNat IntKind.u64.bits) = ((2 ^ k : Nat) : Int) := by
      have hb : IntKind.u64.bits = 64 := rfl
      rw [hb, Int.toNat_natCast, Nat.min_eq_left (by omega)]; simp
    have e1 : IntKind.u64.wrap (IntKind.u64.wrap ((l[i] : Nat) : Int) * 2 ^ (min (k : Int).toNat IntKind.u64.bits)) = ((l[i] * 2 ^ k : Nat) : Int) := by
      rw [wu64 (n := ((l[i] : Nat) : Int)) (by omega) (by omega), ek, ← Int.natCast_mul, wu64 (by omega) (by omega)]
    have hhi := hi_lt (k := k) hx
    generalize hW : l[i] * 2 ^ k = W at *
    have e2 : IntKind.u32.wrap (W : Int) = ((W % 4294967296 : Nat) : Int) := by rw [wu32]; omega
    have e3 : IntKind.u32.wrap ((W : Int).fdiv (2 ^ (min (32 : Int).toNat IntKind.u64.bits))) = ((W / 4294967296 : Nat) : Int) := by
      rw [sh32, u32_id (by omega) (by omega)]; omega
    have e4 : bitsI .u32 (· ||| ·) (c : Int) ((W % 4294967296 : Nat) : Int) = ((W % 4294967296 + c : Nat) : Int) := by
      have := orC (k := k) (c := c) (x := l[i]) (by omega) hc
      rwa [hW] at this
    have e5 : IntKind.i64.wrap ((i : Int) + 1) = ((i + 1 : Nat) : Int) := inc64 (by omega)
    refine ⟨((l[i] : Nat) : Int), ⟨by omega, by omega⟩, by rw [Int.toNat_natCast]; exact lim_get hil, by omega, (c : Int), ⟨by omega, by rw [lim_length]; simp; omega⟩, hget, by decide, ?_⟩
    rw [e1, e2, e3, e4, e5, Int.toNat_natCast, Int.toNat_natCast, lim_set, lim_set]
    have hset : ((S ++ List.replicate (l.length - i) 0).set i (W % 4294967296 + c)).set (i + 1) (W / 4294967296) = shG k 0 (l.take (i + 1)) ++ List.replicate (l.length - (i + 1)) 0 := by
      rw [hsn, List.set_append_left _ _ (by omega), List.set_append_right _ _ (by simp; omega), List.length_set, hS, Nat.sub_self,
        show l.length - i = (l.length - (i + 1)) + 1 by omega, List.replicate_succ, List.set_cons_zero, List.append_assoc]
      rfl
    refine ⟨⟨by omega, by rw [lim_length]; simp; omega⟩, ⟨i + 1, rfl, by omega, by rw [hset]⟩, by show ((l.length : Int) - ((i + 1 : Nat) : Int)).toNat < ((l.length : Int) - (i : Int)).toNat; omega⟩
  · have hil : i = l.length := by have : l.length ≤ i := by simpa using h
                                  omega
    subst hil
    rw [List.take_length, Nat.sub_self, List.replicate_zero, List.append_nil]
    exact ⟨rfl, rfl⟩
end Go.AM
/- slices.Clone at limbs (f168). -/
namespace Go.AM
open Go.Proofs.Tryz
theorem u27 : prog.underlying 53 = some (.slice 91) := by kernel_rfl
theorem wpIn_isNil {n : Nat} {a : Act} {w : World} {o : Oper} {x : Operand} {ad : Option Addr} {len cap : Nat} {next : Act → World → Prop} {Q : Exit → Act → World → Prop}
    (ho : ∃ ty, o.op = .binOp .eql 53 x (.const (.slice none 0 0)) ty) (hx : a.eval x = .slice ad len cap) (h : next (a.put o.dst (.bool ad.isNone)) w) : o.wpIn Fence.wide n prog a w next Q := by
  refine ⟨fun f hf => trivial, ?_⟩
  have hrun : (o.semAt none a.eval).run prog w = .ok (.value (.bool ad.isNone)) w := by
    rw [Oper.semAt_none]
    obtain ⟨dst, op, ty, pos, after, guard⟩ := o
    obtain ⟨ty2, ho⟩ := ho
    simp only at ho
    subst ho
    have he : a.eval (.const (.slice none 0 0)) = .slice none 0 0 := rfl
    have heq : (Op.equal 53 (.slice ad len cap) (.slice none 0 0)).run prog w = .ok ad.isNone w := by
      obtain ⟨d, hd⟩ : ∃ d, Op.maxDepth = d + 1 := ⟨_, rfl⟩
      unfold Op.equal
      rw [hd]
      unfold Op.equalIn
      cases ad <;> simp [run_underlying u27, Sem.run_bind, Result.andThen]
    have hb : (binOp .eql 53 (.slice ad len cap) (.slice none 0 0)).run prog w = .ok (.bool ad.isNone) w := by
      show (do pure (Value.bool (← Op.equal 53 (.slice ad len cap) (.slice none 0 0))) : Sem Value).run prog w = _
      rw [Sem.run_bind, heq]; rfl
    have hg : (eqGuard .eql 53 x (.const (.slice none 0 0)) (.slice ad len cap) (.slice none 0 0)).run prog w = .ok () w := by
      unfold eqGuard; simp
    simp only [execOp, hx, he, Sem.run_bind, hg, hb, Result.andThen, Sem.run_pure]
  show o.uponIn Fence.wide n prog a next Q ((o.semAt none a.eval).run prog w)
  rw [hrun, Oper.uponIn_value]
  exact h
set_option maxRecDepth 100000 in
set_option maxHeartbeats 1000000 in
theorem clone_ok {l : DL} (h1 : ∀ y ∈ l, y.length = 1) (h2 : l.length * 4 ≤ 140737488355328) : FnD prog 126 [vD (dL l)] (vD (dL l)) [] := by
  refine ⟨⟨f126, func126, rfl, by kernel_rfl⟩, fun I M w vs s hr => ?_⟩
  refine (callsIn_wide (n := 0)).1 (callsIn_of_wp func126 rfl trivial ?_)
  have s0 := Sim.start (fn := f126) ntmps126 (args := [vD (dL l)]) (by simp) s hr
  have no0 : ∀ {M : Mem} b, ¬ fpAll M [] b := fun b ⟨o, ho⟩ => by simp [fpAt] at ho
  refine wpIn_seq (wpIn_mono (Does.regV hT (n0 := 0) [0] [] (σ' := ⟨[(0, vD (dL l))], [], 8⟩) (cnt := 0) (ins := [o0]) (obs := []) (by kernel_rfl) rfl rfl (by kernel_rfl) trivial none 0 I M _ w s0) ?_)
  rintro e a1 w1 ⟨rfl, I1, M1, s1, n1⟩
  refine wpIn_seq (wpIn_seq (wpIn_region (xpart_ok (k := 0) (c := 1) (rest := [1]) hT (ins := [o0]) (live := [0, 3]) (σ' := ⟨[(0, vD (dL l)), (3, vD (dL l))], [], 8⟩) (obs := []) (by kernel_rfl) trivial s1 ?_)))
  intro a2 w2 I2 M2 s2 n2
  have h3 : Reads w2 I2 (a2.tmps.getD 3 undef) (.sl l) := s2.tm 3 (vD (dL l)) (by simp)
  obtain ⟨ad, len, cap, hv, hnil⟩ : ∃ ad len cap, a2.tmps.getD 3 undef = .slice ad len cap ∧ (ad.isNone = true → l = []) := by
    generalize a2.tmps.getD 3 undef = z at h3
    cases h3 with
    | slnil a c => exact ⟨a, 0, c, rfl, fun _ => rfl⟩
    | sl elems vs hI hb hs hcap hc hr => exact ⟨_, _, _, rfl, fun h => by simp at h⟩
  refine wpOpsIn_one rfl rfl (wpIn_isNil ⟨_, rfl⟩ hv ?_)
  have s3 : Sim I2 M2 ⟨[(0, vD (dL l)), (4, vD (dB ad.isNone))], [], 8⟩ (a2.put (some 4) (.bool ad.isNone)) w2 := by
    have hsz : a2.tmps.size = 8 := s2.size
    refine { toSimH := s2.toSimH, tm := fun i v hv => ?_, size := by simp [Act.put, hsz], defers := s2.defers }
    simp only [List.mem_cons, Prod.mk.injEq, List.not_mem_nil, or_false] at hv
    rcases hv with ⟨rfl, rfl⟩ | ⟨rfl, rfl⟩
    · have : (a2.put (some 4) (.bool ad.isNone)).tmps.getD 0 undef = a2.tmps.getD 0 undef := by simp [Act.put, Array.getD_eq_getD_getElem?]
      rw [this]; exact s2.tm 0 _ (by simp)
    · have : (a2.put (some 4) (.bool ad.isNone)).tmps.getD 4 undef = .bool ad.isNone := by simp [Act.put, Array.getD_eq_getD_getElem?, hsz]
      rw [this]; exact Reads.bool _
  have nB := n1.trans n2
  show Code.wpIn _ _ _ _ _ _ _
  refine wpIn_cond_split (t := ad.isNone) (relV_bool (s3.ev rfl)) (fun hc => ?_) (fun hc => ?_)
  · -- nil
    obtain rfl := hnil hc
    refine wpIn_seq (wpIn_mono (Does.regV hT (n0 := 0) [2] [] (σ' := ⟨[(2, vD (.raw nilS))], [], 8⟩) (cnt := 0) (ins := [o0]) (obs := []) (by kernel_rfl) rfl rfl (by kernel_rfl) trivial none 0 I2 M2 _ w2 s3) ?_)
    rintro e a4 w4 ⟨rfl, I4, M4, s4, n4⟩
    refine wpIn_ret ?_
    obtain ⟨u, g1, g2⟩ := results_ok hT s4 (fn := f126) (r := vD (.raw nilS)) (by kernel_rfl)
    have nA := nB.trans n4
    exact ⟨s4.defers, u, g1, u, _, [], I4, M4, rfl, ⟨rfl, rfl⟩, normD_ok g2, s4.toSimH, nA.ext, fun b hb => absurd hb (no0 b), fun o e ho => by simp at ho⟩
  · refine wpIn_skip ?_
    refine wpIn_seq (wpIn_mono (((Does.regV hT (n0 := 0) [2] [1] (σ' := ⟨[(2, vR 0)], [some (.arr 1 ([] ++ l))], 8⟩) (cnt := 2) (ins := [(Or.none, 0, 1), o0, (Or.none, 1, 1), o0])
      (obs := [∀ y ∈ l, y.length = 1, (([] : DL).length + l.length) * 4 ≤ 140737488355328]) (by kernel_rfl) rfl rfl (by kernel_rfl) ⟨h1, by simpa using h2, trivial⟩).wk
      (xfreeze_ok (ids := [0]) (σ' := ⟨[(2, vD (dL ([] ++ l)))], [none], 8⟩) (by kernel_rfl))).wk (xview_ok (live := [2]) (ids := []) (σ' := ⟨[(2, vD (dL ([] ++ l)))], [], 8⟩) (by kernel_rfl) rfl rfl) none 0 I2 M2 _ w2 s3) ?_)
    rintro e a4 w4 ⟨rfl, I4, M4, s4, n4⟩
    refine wpIn_ret ?_
    obtain ⟨u, g1, g2⟩ := results_ok hT s4 (fn := f126) (r := vD (dL ([] ++ l))) (by kernel_rfl)
    have nA := nB.trans n4
    exact ⟨s4.defers, u, g1, u, _, [], I4, M4, rfl, ⟨rfl, rfl⟩, g2, s4.toSimH, nA.ext, fun b hb => absurd hb (no0 b), fun o e ho => by simp at ho⟩
end Go.AM
/- Long division in plain Lean: how good the guess of a digit is. -/
namespace Go.AM
theorem guess_dec {v1 v2 vr P u2 wr top g r : Nat} (hg : g * v1 + r = top) (hw : wr < P) (hlt : (top * 4294967296 + u2) * P + wr < ((v1 * 4294967296 + v2) * P + vr) * 4294967296)
    (h : 4294967296 ≤ g ∨ r * 4294967296 + u2 < g * v2) : ((top * 4294967296 + u2) * P + wr) / ((v1 * 4294967296 + v2) * P + vr) < g := by
  obtain ⟨W, hW⟩ : ∃ W, W = (top * 4294967296 + u2) * P + wr := ⟨_, rfl⟩
  obtain ⟨v, hv⟩ : ∃ v, v = (v1 * 4294967296 + v2) * P + vr := ⟨_, rfl⟩
  rw [← hW, ← hv] at hlt ⊢
  have hv0 : 0 < v := by
    rcases Nat.eq_zero_or_pos v with h0 | h0
    · rw [h0] at hlt; omega
    · exact h0
  rw [Nat.div_lt_iff_lt_mul hv0]
  rcases h with h | h
  · have : v * 4294967296 ≤ v * g := Nat.mul_le_mul_left _ h
    rw [Nat.mul_comm g v]; omega
  · have h1 : (top * 4294967296 + u2 + 1) * P ≤ (g * (v1 * 4294967296 + v2)) * P := by
      refine Nat.mul_le_mul_right _ ?_
      rw [← hg, Nat.add_mul, Nat.mul_add, ← Nat.mul_assoc]; omega
    have h2 : (g * (v1 * 4294967296 + v2)) * P ≤ g * v := by
      rw [Nat.mul_assoc, hv]; exact Nat.mul_le_mul_left _ (Nat.le_add_right _ _)
    rw [Nat.add_mul _ 1 P, Nat.one_mul] at h1
    omega
theorem guess_end {v1 v2 vr P u2 wr top g r : Nat} (hg : g * v1 + r = top) (hv1 : 2147483648 ≤ v1) (hv2 : v2 < 4294967296) (hvr : vr < P) (hgB : g ≤ 4294967296)
    (h : 4294967296 ≤ r ∨ g * v2 ≤ r * 4294967296 + u2) : g ≤ ((top * 4294967296 + u2) * P + wr) / ((v1 * 4294967296 + v2) * P + vr) + 1 := by
  have h1 : g * v2 ≤ r * 4294967296 + u2 := by
    rcases h with h | h
    · have a1 : g * v2 ≤ 4294967296 * v2 := Nat.mul_le_mul_right _ hgB
      omega
    · exact h
  obtain ⟨W, hW⟩ : ∃ W, W = (top * 4294967296 + u2) * P + wr := ⟨_, rfl⟩
  obtain ⟨v, hv⟩ : ∃ v, v = (v1 * 4294967296 + v2) * P + vr := ⟨_, rfl⟩
  rw [← hW, ← hv]
  have hP : 0 < P := by omega
  have hvB : 4294967296 * P ≤ v := by
    have : 4294967296 * P ≤ (v1 * 4294967296 + v2) * P := Nat.mul_le_mul_right _ (by omega)
    omega
  have hv0 : 0 < v := by omega
  have h2 : (g * (v1 * 4294967296 + v2)) * P ≤ (top * 4294967296 + u2) * P := by
    refine Nat.mul_le_mul_right _ ?_
    rw [← hg, Nat.add_mul, Nat.mul_add, ← Nat.mul_assoc]; omega
  have h3 : g * v ≤ W + g * P := by
    rw [hv, Nat.mul_add, ← Nat.mul_assoc]
    have : g * vr ≤ g * P := Nat.mul_le_mul_left _ (by omega)
    omega
  have h4 : g * P ≤ v := Nat.le_trans (Nat.mul_le_mul_right _ hgB) hvB
  rcases Nat.eq_zero_or_pos g with h0 | h0
  · rw [h0]; exact Nat.zero_le _
  · have h5 : (g - 1) * v ≤ W := by rw [Nat.sub_mul, Nat.one_mul]; omega
    have := (Nat.le_div_iff_mul_le hv0).2 h5
    omega
theorem guess_first {v1 v2 vr P u2 wr hi lo g r : Nat} (hv1 : 2147483648 ≤ v1) (hv2 : v2 < 4294967296) (hvr : vr < P) (hlo : lo < 4294967296) (hu : u2 < 4294967296)
    (hg : g = (hi * 4294967296 + lo) / v1) (hr : r = (hi * 4294967296 + lo) % v1)
    (hlt : ((hi * 4294967296 + lo) * 4294967296 + u2) * P + wr < ((v1 * 4294967296 + v2) * P + vr) * 4294967296) (hw : wr < P) :
    g * v1 + r = hi * 4294967296 + lo ∧ r < v1 ∧ hi ≤ v1 ∧ g ≤ 4294967297 ∧ (((hi * 4294967296 + lo) * 4294967296 + u2) * P + wr) / ((v1 * 4294967296 + v2) * P + vr) ≤ g := by
  have hP : 0 < P := by omega
  have h1 : g * v1 + r = hi * 4294967296 + lo := by rw [hg, hr, Nat.mul_comm]; exact Nat.div_add_mod _ _
  have h2 : r < v1 := by rw [hr]; exact Nat.mod_lt _ (by omega)
  have h3 : hi ≤ v1 := by
    apply Classical.byContradiction
    intro hn
    have a1 : (v1 + 1) * (4294967296 * (4294967296 * P)) ≤ hi * (4294967296 * (4294967296 * P)) := Nat.mul_le_mul_right _ (by omega)
    have a2 : ((hi * 4294967296 + lo) * 4294967296 + u2) * P = hi * (4294967296 * (4294967296 * P)) + (lo * 4294967296 + u2) * P := by
      simp only [Nat.add_mul, Nat.mul_assoc]; omega
    have a3 : ((v1 * 4294967296 + v2) * P + vr) * 4294967296 = v1 * (4294967296 * (4294967296 * P)) + (v2 * P + vr) * 4294967296 := by
      simp only [Nat.add_mul, Nat.mul_assoc, Nat.mul_comm P 4294967296]; omega
    have a4 : (v2 + 1) * P ≤ 4294967296 * P := Nat.mul_le_mul_right _ (by omega)
    rw [Nat.add_mul, Nat.one_mul] at a1 a4
    rw [a2, a3] at hlt
    omega
  refine ⟨h1, h2, h3, ?_, ?_⟩
  · rw [hg]
    have : hi * 4294967296 + lo < v1 * 4294967298 := by omega
    have := (Nat.div_lt_iff_lt_mul (by omega)).2 (show hi * 4294967296 + lo < 4294967298 * v1 by omega)
    omega
  · obtain ⟨W, hW⟩ : ∃ W, W = ((hi * 4294967296 + lo) * 4294967296 + u2) * P + wr := ⟨_, rfl⟩
    rw [← hW]
    obtain ⟨v, hv⟩ : ∃ v, v = (v1 * 4294967296 + v2) * P + vr := ⟨_, rfl⟩
    rw [← hv]
    obtain ⟨t, ht⟩ : ∃ t, t = hi * 4294967296 + lo := ⟨_, rfl⟩
    rw [← ht] at hW h1
    have hv0 : 0 < v := by
      have : 0 < (v1 * 4294967296 + v2) * P := Nat.mul_pos (by omega) hP
      omega
    have c1 : t + 1 ≤ (g + 1) * v1 := by rw [Nat.add_mul g 1, Nat.one_mul]; omega
    have c2 : (t + 1) * (4294967296 * P) ≤ (g + 1) * v1 * (4294967296 * P) := Nat.mul_le_mul_right _ c1
    have c3 : (u2 + 1) * P ≤ 4294967296 * P := Nat.mul_le_mul_right _ hu
    rw [Nat.add_mul u2 1, Nat.one_mul] at c3
    have c4 : W < (t + 1) * (4294967296 * P) := by
      rw [hW, Nat.add_mul t 1, Nat.one_mul, Nat.add_mul (t * 4294967296) u2, Nat.mul_assoc t]
      omega
    have c6 : v1 * 4294967296 * P ≤ (v1 * 4294967296 + v2) * P := Nat.mul_le_mul_right _ (by omega)
    have c5 : (g + 1) * v1 * (4294967296 * P) ≤ (g + 1) * v := by
      rw [hv, Nat.mul_assoc (g + 1)]
      refine Nat.mul_le_mul_left _ ?_
      rw [← Nat.mul_assoc]
      omega
    have := (Nat.div_lt_iff_lt_mul hv0).2 (show W < (g + 1) * v by omega)
    omega
end Go.AM
/- Long division in plain Lean: a multiple of the divisor is subtracted; the divisor is added back. -/
namespace Go.AM
def sbD (u lo bo : Nat) : Nat := (u + 8589934592 - lo - bo) % 4294967296
def sbB (u lo bo : Nat) : Nat := if u < lo + bo then 1 else 0
theorem sb_ok {u lo bo : Nat} (hu : u < 4294967296) (hl : lo < 4294967296) (hb : bo ≤ 1) : u + sbB u lo bo * 4294967296 = sbD u lo bo + lo + bo ∧ sbD u lo bo < 4294967296 ∧ sbB u lo bo ≤ 1 := by
  unfold sbB sbD
  split <;> omega
def mS (g : Nat) : Nat → Nat → List Nat → List Nat → List Nat × Nat × Nat
  | c, bo, u :: us, y :: vs =>
    (sbD u ((c + g * y) % 4294967296) bo :: (mS g ((c + g * y) / 4294967296) (sbB u ((c + g * y) % 4294967296) bo) us vs).1,
      (mS g ((c + g * y) / 4294967296) (sbB u ((c + g * y) % 4294967296) bo) us vs).2)
  | c, bo, _, _ => ([], c, bo)
theorem mS_val {g : Nat} : ∀ (us vs : List Nat) (c bo : Nat), us.length = vs.length → (∀ x ∈ us, x < 4294967296) → bo ≤ 1 →
    val us + ((mS g c bo us vs).2.1 + (mS g c bo us vs).2.2) * 4294967296 ^ us.length = val (mS g c bo us vs).1 + g * val vs + c + bo ∧ (mS g c bo us vs).2.2 ≤ 1 ∧ (∀ z ∈ (mS g c bo us vs).1, z < 4294967296) ∧ (mS g c bo us vs).1.length = us.length
  | [], [], c, bo, _, _, hb => by simp [mS, val, hb]
  | [], _ :: _, _, _, h, _, _ => by simp at h
  | _ :: _, [], _, _, h, _, _ => by simp at h
  | u :: us, y :: vs, c, bo, h, hu, hb => by
    have h0 := hu u (by simp)
    obtain ⟨s1, s2, s3⟩ := sb_ok h0 (Nat.mod_lt (c + g * y) (by decide : 0 < 4294967296)) hb
    have hdm := Nat.div_add_mod (c + g * y) 4294967296
    simp only [mS]
    generalize hlo : (c + g * y) % 4294967296 = lo at *
    generalize hhi : (c + g * y) / 4294967296 = hi at *
    obtain ⟨i1, i2, i3, i4⟩ := mS_val us vs hi (sbB u lo bo) (by simpa using h) (fun x hx => hu x (by simp [hx])) s3
    generalize hms : mS g hi (sbB u lo bo) us vs = r at *
    refine ⟨?_, i2, fun z hz => ?_, by simp [i4]⟩
    · simp only [val, List.length_cons, Nat.pow_succ]
      have e1 : (r.2.1 + r.2.2) * (4294967296 ^ us.length * 4294967296) = 4294967296 * ((r.2.1 + r.2.2) * 4294967296 ^ us.length) := by
        rw [← Nat.mul_assoc, Nat.mul_comm]
      have e2 : g * (y + 4294967296 * val vs) = g * y + 4294967296 * (g * val vs) := by
        rw [Nat.mul_add, Nat.mul_left_comm]
      rw [e1, e2]
      omega
    · rcases List.mem_cons.1 hz with rfl | hz
      · exact s2
      · exact i3 z hz
def aB : Nat → List Nat → List Nat → List Nat × Nat
  | c, u :: us, y :: vs => ((u + y + c) % 4294967296 :: (aB ((u + y + c) / 4294967296) us vs).1, (aB ((u + y + c) / 4294967296) us vs).2)
  | c, _, _ => ([], c)
theorem aB_val : ∀ (us vs : List Nat) (c : Nat), us.length = vs.length → (∀ x ∈ us, x < 4294967296) → (∀ x ∈ vs, x < 4294967296) → c ≤ 1 →
    val us + val vs + c = val (aB c us vs).1 + (aB c us vs).2 * 4294967296 ^ us.length ∧ (aB c us vs).2 ≤ 1 ∧ (∀ z ∈ (aB c us vs).1, z < 4294967296) ∧ (aB c us vs).1.length = us.length
  | [], [], c, _, _, _, hc => by simp [aB, val, hc]
  | [], _ :: _, _, h, _, _, _ => by simp at h
  | _ :: _, [], _, h, _, _, _ => by simp at h
  | u :: us, y :: vs, c, h, hu, hv, hc => by
    have h0 := hu u (by simp)
    have h1 := hv y (by simp)
    have hdm := Nat.div_add_mod (u + y + c) 4294967296
    have hlt := Nat.mod_lt (u + y + c) (by decide : 0 < 4294967296)
    have hhi : (u + y + c) / 4294967296 ≤ 1 := by omega
    simp only [aB]
    generalize (u + y + c) % 4294967296 = lo at *
    generalize (u + y + c) / 4294967296 = hi at *
    obtain ⟨i1, i2, i3, i4⟩ := aB_val us vs hi (by simpa using h) (fun x hx => hu x (by simp [hx])) (fun x hx => hv x (by simp [hx])) hhi
    generalize hms : aB hi us vs = r at *
    refine ⟨?_, i2, fun z hz => ?_, by simp [i4]⟩
    · simp only [val, List.length_cons, Nat.pow_succ]
      have e1 : r.2 * (4294967296 ^ us.length * 4294967296) = 4294967296 * (r.2 * 4294967296 ^ us.length) := by
        rw [← Nat.mul_assoc, Nat.mul_comm]
      rw [e1]
      omega
    · rcases List.mem_cons.1 hz with rfl | hz
      · exact hlt
      · exact i3 z hz
end Go.AM
/- Long division in plain Lean: a round. -/
namespace Go.AM
theorem uniq_dm {a b x y N : Nat} (h : a + x * N = b + y * N) (ha : a < N) (hb : b < N) : a = b ∧ x = y := by
  have hN : 0 < N := by omega
  have h1 : (a + x * N) / N = x := by rw [Nat.add_mul_div_right _ _ hN, Nat.div_eq_of_lt ha, Nat.zero_add]
  have h2 : (b + y * N) / N = y := by rw [Nat.add_mul_div_right _ _ hN, Nat.div_eq_of_lt hb, Nat.zero_add]
  have h3 : x = y := by rw [← h1, h, h2]
  subst h3
  exact ⟨by omega, rfl⟩
theorem knuth_round {us vs : List Nat} {ut g W v : Nat} (hl : us.length = vs.length) (hu : ∀ x ∈ us, x < 4294967296) (hv : ∀ x ∈ vs, x < 4294967296) (hW : W = val us + ut * 4294967296 ^ us.length) (hvv : v = val vs) (hv0 : 0 < v)
    (h1 : W / v ≤ g) (h2 : g ≤ W / v + 1) :
    ((mS g 0 0 us vs).2.1 + (mS g 0 0 us vs).2.2 ≤ ut → g = W / v ∧ val (mS g 0 0 us vs).1 = W % v ∧ (mS g 0 0 us vs).2.1 + (mS g 0 0 us vs).2.2 = ut) ∧
    (ut < (mS g 0 0 us vs).2.1 + (mS g 0 0 us vs).2.2 → g = W / v + 1 ∧ (mS g 0 0 us vs).2.1 + (mS g 0 0 us vs).2.2 = ut + 1 ∧ (aB 0 (mS g 0 0 us vs).1 vs).2 = 1 ∧ val (aB 0 (mS g 0 0 us vs).1 vs).1 = W % v) := by
  obtain ⟨m1, _, m3, m4⟩ := mS_val (g := g) us vs 0 0 hl hu (by omega)
  have vlt : v < 4294967296 ^ us.length := by rw [hvv, hl]; exact val_lt hv
  have dlt : val (mS g 0 0 us vs).1 < 4294967296 ^ us.length := by have := val_lt m3; rwa [m4] at this
  obtain ⟨a1, a2, a3, a4⟩ := aB_val (mS g 0 0 us vs).1 vs 0 (by rw [m4]; exact hl) m3 hv (by omega)
  have elt : val (aB 0 (mS g 0 0 us vs).1 vs).1 < 4294967296 ^ us.length := by have := val_lt a3; rwa [a4, m4] at this
  rw [m4] at a1
  have hdm := Nat.div_add_mod W v
  have hR := Nat.mod_lt W hv0
  generalize hS : (mS g 0 0 us vs).2.1 + (mS g 0 0 us vs).2.2 = S at *
  generalize (mS g 0 0 us vs).1 = ds at *
  generalize (aB 0 ds vs).1 = es at *
  generalize (aB 0 ds vs).2 = ce at *
  generalize 4294967296 ^ us.length = N at *
  generalize hQ : W / v = Q at *
  generalize W % v = Rm at *
  rw [← hvv] at m1 a1
  rcases Nat.lt_or_ge Q g with hg | hg
  · have hg' : g = Q + 1 := by omega
    subst hg'
    have e : Rm + S * N = val ds + v + ut * N := by
      rw [Nat.add_mul Q 1 v, Nat.one_mul] at m1
      rw [Nat.mul_comm v Q] at hdm
      omega
    have hS1 : S = ut + 1 := by
      rcases Nat.lt_trichotomy S (ut + 1) with h | h | h
      · have : S * N ≤ ut * N := Nat.mul_le_mul_right _ (by omega)
        omega
      · exact h
      · have : (ut + 2) * N ≤ S * N := Nat.mul_le_mul_right _ (by omega)
        rw [Nat.add_mul ut 2] at this
        omega
    subst hS1
    rw [Nat.add_mul ut 1 N, Nat.one_mul] at e
    refine ⟨fun h => by omega, fun _ => ⟨rfl, rfl, ?_⟩⟩
    have f : val es + ce * N = Rm + 1 * N := by omega
    have := uniq_dm f elt (by omega)
    exact ⟨this.2, this.1⟩
  · have hg' : g = Q := by omega
    subst hg'
    have e : Rm + S * N = val ds + ut * N := by
      rw [Nat.mul_comm v g] at hdm
      omega
    have := uniq_dm e (by omega) dlt
    exact ⟨fun _ => ⟨rfl, this.1.symm, this.2⟩, fun h => by omega⟩
end Go.AM
/- integer.Abs, oplog.least. -/
namespace Go.AM
open Go.Proofs.Tryz
theorem abs_ok (x : Int) : FnD prog 117 [eI x] (eI ((x.natAbs : Nat) : Int)) [] := by
  refine vc117_ok _ _ (R := Out _) ?_
  unfold vc117
  have h : decide (((x.natAbs : Nat) : Int) < 0) = false := decide_eq_false (by omega)
  exact ⟨by unfold eI; rw [h, Int.natAbs_natCast], rfl⟩
def lsS (m : List (List Int)) (c : Nat) (best : Int) (i : Nat) : Int :=
  if el m i c ≠ 0 ∧ (best < 0 ∨ (el m i c).natAbs < (el m best.toNat c).natAbs) then (i : Int) else best
def lsF (m : List (List Int)) (c top : Nat) : Nat → Int
  | 0 => -1
  | n + 1 => lsS m c (lsF m c top n) (top + n)
theorem lsF_ok {m : List (List Int)} {c top : Nat} : ∀ n, (lsF m c top n = -1 ∧ ∀ i, top ≤ i → i < top + n → el m i c = 0) ∨
    ∃ p : Nat, lsF m c top n = (p : Int) ∧ top ≤ p ∧ p < top + n ∧ el m p c ≠ 0 ∧ ∀ i, top ≤ i → i < top + n → el m i c ≠ 0 → (el m p c).natAbs ≤ (el m i c).natAbs
  | 0 => .inl ⟨rfl, fun i h1 h2 => by omega⟩
  | n + 1 => by
    simp only [lsF, lsS]
    rcases lsF_ok (m := m) (c := c) (top := top) n with ⟨h1, h2⟩ | ⟨p, h1, h2, h3, h4, h5⟩
    · rw [h1]
      by_cases h : el m (top + n) c = 0
      · rw [if_neg (by simp [h])]
        refine .inl ⟨rfl, fun i g1 g2 => ?_⟩
        by_cases hi : i = top + n
        · subst hi; exact h
        · exact h2 i g1 (by omega)
      · rw [if_pos ⟨h, .inl (by decide)⟩]
        refine .inr ⟨top + n, rfl, by omega, by omega, h, fun i g1 g2 g3 => ?_⟩
        by_cases hi : i = top + n
        · subst hi; exact Nat.le_refl _
        · exact absurd (h2 i g1 (by omega)) g3
    · rw [h1]
      have hnn : ¬ ((p : Int) < 0) := by omega
      by_cases h : el m (top + n) c ≠ 0 ∧ (el m (top + n) c).natAbs < (el m p c).natAbs
      · rw [if_pos ⟨h.1, .inr (by rw [Int.toNat_natCast]; exact h.2)⟩]
        refine .inr ⟨top + n, rfl, by omega, by omega, h.1, fun i g1 g2 g3 => ?_⟩
        by_cases hi : i = top + n
        · subst hi; exact Nat.le_refl _
        · have := h5 i g1 (by omega) g3; omega
      · rw [if_neg (by rw [Int.toNat_natCast]; exact fun ⟨a, b⟩ => b.elim hnn fun b => h ⟨a, b⟩)]
        refine .inr ⟨p, rfl, h2, by omega, h4, fun i g1 g2 g3 => ?_⟩
        by_cases hi : i = top + n
        · subst hi
          apply Classical.byContradiction
          intro hn
          exact h ⟨g3, by omega⟩
        · exact h5 i g1 (by omega) g3
end Go.AM
