/- The abstract machine: addresses, slices, lengths, conversions; one function for all operations that only compute and read. -/
import Derived.Test.YtbodjgljjaafaaaAmLoad
namespace Go.AM

/-- A pointer moved on by n cells. -/
def S.add (n : Nat) : S → Option S
  | .ptr o k => some (.ptr o (k + n))
  | .aptr o i k => some (.aptr o i (k + n))
  | .eptr z elems i k => some (.eptr z elems i (k + n))
  | .rptr o r i k => some (.rptr o r i (k + n))
  | .bptr ds k => some (.bptr ds (k + n))
  | .dat (.box ds) => some (.bptr ds n)
  | _ => none

theorem S.add_ok {w : World} {I : Nat → Prop} {M : Mem} {v : Value} {s s' : S} {n : Nat} (h : RelS w I M v s) (hs : s.add n = some s') :
    ∃ b off, v = .pointer (some ⟨b, off, none⟩) ∧ RelS w I M (.pointer (some ⟨b, off + n, none⟩)) s' := by
  cases s <;> simp only [S.add, Option.some.injEq, reduceCtorEq] at hs
  case dat d =>
    cases d <;> simp only [S.add, Option.some.injEq, reduceCtorEq] at hs
    subst hs; obtain ⟨b, rfl, hb⟩ := Reads.boxAt h; exact ⟨_, _, rfl, b, hb, by rw [Nat.zero_add]⟩
  case bptr ds k => subst hs; obtain ⟨b, h1, rfl⟩ := h; exact ⟨_, _, rfl, b, h1, rfl⟩
  case ptr o k => subst hs; obtain ⟨e, h1, rfl⟩ := h; exact ⟨_, _, rfl, e, h1, rfl⟩
  case aptr o i k => subst hs; obtain ⟨e, h1, h2, rfl⟩ := h; exact ⟨_, _, rfl, e, h1, h2, by rw [Nat.add_assoc]⟩
  case eptr z elems i k => subst hs; obtain ⟨b, off, s, h1, h2, rfl⟩ := h; exact ⟨_, _, rfl, b, off, s, h1, h2, by rw [Nat.add_assoc]⟩
  case rptr o r i k => subst hs; obtain ⟨e, b, n', cap, h1, h2, h3, rfl⟩ := h; exact ⟨_, _, rfl, e, b, n', cap, h1, h2, h3, by rw [Nat.add_assoc]⟩

section
variable {P : Program} {w : World} {I : Nat → Prop} {M : Mem}

def xfieldAddr (T : Tab) (t : Nat) (v : V) (f : Nat) : Option (V × List Prop) :=
  match tfind T t, v with
  | some ti, .e (.sc s) =>
    match ti.k with
    | .struct fs => match fs[f]? with
      | some (off, ft) => match tfind T ft with
        | some tf => if tf.size == 0 then none else (s.add off).map fun s' => (.e (.sc s'), [])
        | none => none
      | none => none
    | _ => none
  | _, _ => none

theorem xfieldAddr_ok {T : Tab} (hT : TOK P T) {t f : Nat} {v r : V} {obs : List Prop} (hx : xfieldAddr T t v f = some (r, obs)) {u : Value} (hu : RelV w I M u v) :
    ∃ x, (Instr.fieldAt t u f).run P w = .ok x w ∧ RelV w I M x r := by
  unfold xfieldAddr at hx
  split at hx
  case h_2 => simp at hx
  rename_i ti s hti
  split at hx
  case h_2 => simp at hx
  rename_i fs hk
  split at hx
  case h_2 => simp at hx
  rename_i off ft hf
  split at hx
  case h_2 => simp at hx
  rename_i tf htf
  split at hx
  · simp at hx
  · rename_i hsz
    simp only [Option.map_eq_some_iff, Prod.mk.injEq] at hx
    obtain ⟨s', hs, rfl, rfl⟩ := hx
    obtain ⟨gs, hg, hoffs⟩ := (hT.find hti).struct hk
    obtain ⟨b, o, rfl, hrel⟩ := S.add_ok hu hs
    rw [← hoffs] at hf
    simp only [offs, List.getElem?_map, Option.map_eq_some_iff, Prod.mk.injEq] at hf
    obtain ⟨g, hgf, rfl, rfl⟩ := hf
    have hgf' : gs[f]? = some g := by simpa using hgf
    have hsize := (hT.find htf).sizeOf w
    refine ⟨_, ?_, hrel⟩
    have hne : ¬ tf.size = 0 := by simpa using hsz
    simp [Instr.fieldAt, run_underlying hg, hgf', Instr.sureAddr, fieldPlace, hsize, hne, Addr.add_lit]

/-- 'x[i]' of a slice, an array behind a pointer. -/
def xindexAddr (T : Tab) (h : Heap) (t : Nat) (x i : V) : Option (V × List Prop) :=
  match tfind T t, i with
  | some ti, .e (.sc (.dat (.int _ n))) =>
    match ti.k with
    | .slice e =>
      match tfind T e with
      | some te =>
        match x with
        | .e (.sc (.dat (.sl elems))) => some (.e (.sc (.eptr te.size elems n.toNat 0)), [0 ≤ n ∧ n < (elems.length : Int)])
        | .e (.sc (.ref o)) =>
          match h[o]? with
          | some (some (.arr s elems)) => if s == te.size then some (.e (.sc (.aptr o n.toNat 0)), [0 ≤ n ∧ n < (elems.length : Int)]) else none
          | some (some (.mat _ rows)) => if te.size == 1 then some (.e (.sc (.mptr o n.toNat)), [0 ≤ n ∧ n < (rows.length : Int)]) else none
          | _ => none
        | .e (.sc (.row o r)) =>
          match h[o]? with
          | some (some (.mat s rows)) => if s == te.size then some (.e (.sc (.rptr o r n.toNat 0)), [∃ l, rows[r]? = some l ∧ 0 ≤ n ∧ n < (l.length : Int)]) else none
          | _ => none
        | _ => none
      | none => none
    | .array len e =>
      match tfind T e, x with
      | some te, .e (.sc s) => (s.add (n.toNat * te.size)).map fun s' => (.e (.sc s'), [0 ≤ n ∧ n < (len : Int)])
      | _, _ => none
    | _ => none
  | _, _ => none

theorem run_indexAt_some {t e : Nat} (hu : P.underlying t = some (.slice e)) {te : TI} (he : TIOK P e te) {b off len cap : Nat} {k : IntKind} {n : Int} (hn : 0 ≤ n ∧ n < (len : Int)) :
    (Instr.indexAt t (.slice (some ⟨b, off, none⟩) len cap) (.int k n)).run P w = .ok (.pointer (some ⟨b, off + n.toNat * te.size, none⟩)) w := by
  simp [Instr.indexAt, run_underlying hu, asIntOf, hn, he.sizeOf, Addr.add_lit]

theorem xindexAddr_ok {T : Tab} (hT : TOK P T) {h : Heap} {t : Nat} {x i r : V} {obs : List Prop} (hx : xindexAddr T h t x i = some (r, obs)) (ho : AllP obs)
    (s : SimH I M h w) {u j : Value} (hu : RelV w I M u x) (hj : RelV w I M j i) : ∃ y, (Instr.indexAt t u j).run P w = .ok y w ∧ RelV w I M y r := by
  unfold xindexAddr at hx
  split at hx
  · rename_i ti k n hti
    cases hj
    split at hx
    · rename_i e hk
      have hund := (hT.find hti).slice hk
      split at hx
      · rename_i te hte
        have he := hT.find hte
        split at hx
        · rename_i elems
          simp only [Option.some.injEq, Prod.mk.injEq] at hx
          obtain ⟨rfl, rfl⟩ := hx
          have hn := ho.1
          cases hu with
          | slnil a cap => simp at hn; omega
          | sl _ vs hI hb hs hcap hc hr =>
            exact ⟨_, run_indexAt_some hund he hn, _, _, _, ⟨hI, _, _, _, hb, hs, fun i j d hd => ⟨_, hc i j d hd, hr i j d hd⟩⟩, by omega, rfl⟩
        · rename_i o
          obtain ⟨m, hm, rfl⟩ := hu
          split at hx
          · rename_i s' elems hcell
            split at hx
            · rename_i hsz
              simp only [beq_iff_eq] at hsz
              simp only [Option.some.injEq, Prod.mk.injEq] at hx
              obtain ⟨rfl, rfl⟩ := hx
              obtain ⟨m', hm', h1, h2, h0⟩ := s.obj o _ hcell
              rw [hm] at hm'; simp only [Option.some.injEq] at hm'; subst hm'
              have hn := ho.1
              have hnil := m.nil_of (fun h => by have h00 := (by first | (exact h0.1 h) | (exact h0.2.1 h) : _ = []); rw [h00] at hn; simp at hn; omega)
              rw [← h2] at hn
              simp only [ME.val, hnil, Bool.false_eq_true, if_false]
              refine ⟨_, run_indexAt_some hund he hn, m, hm, by omega, ?_⟩
              simp [h1, hsz]
            · simp at hx
          · rename_i s' rows hcell
            split at hx
            · rename_i hsz
              simp only [beq_iff_eq] at hsz
              simp only [Option.some.injEq, Prod.mk.injEq] at hx
              obtain ⟨rfl, rfl⟩ := hx
              obtain ⟨m', hm', h1, h2, h0⟩ := s.obj o _ hcell
              rw [hm] at hm'; simp only [Option.some.injEq] at hm'; subst hm'
              have hn := ho.1
              have hnil := m.nil_of (fun h => by have h00 := (by first | (exact h0.1 h) | (exact h0.2.1 h) : _ = []); rw [h00] at hn; simp at hn; omega)
              rw [← h2] at hn
              simp only [ME.val, hnil, Bool.false_eq_true, if_false]
              refine ⟨_, run_indexAt_some hund he hn, m, hm, by omega, ?_⟩
              simp [hsz]
            · simp at hx
          · simp at hx
        · rename_i o r0
          obtain ⟨m, hm, hrow⟩ := hu
          split at hx
          · rename_i s' rows hcell
            split at hx
            · rename_i hsz
              simp only [beq_iff_eq] at hsz
              simp only [Option.some.injEq, Prod.mk.injEq] at hx
              obtain ⟨rfl, rfl⟩ := hx
              obtain ⟨m', hm', h1, h2, h4, h0, hh⟩ := s.obj o _ hcell
              rw [hm] at hm'; simp only [Option.some.injEq] at hm'; subst hm'
              obtain ⟨l, hl, hn⟩ := ho.1
              obtain ⟨h3, cs, t', hb, h5, h6, h7⟩ := hh (m.nil_of (fun h => by rw [h0 h] at hl; simp at hl))
              obtain ⟨a, cap, rfl, hne⟩ := h7 r0 _ l hrow hl
              obtain ⟨b, cs', t'', rfl, _⟩ := hne (by rintro rfl; simp at hn; omega)
              refine ⟨_, run_indexAt_some hund he hn, m, b, l.length, cap, hm, hrow, by omega, ?_⟩
              simp [h1, hsz]
            · simp at hx
          · simp at hx
        · simp at hx
      · simp at hx
    · rename_i len e hk
      have hund := (hT.find hti).array hk
      split at hx
      · rename_i te s' hte
        have he := hT.find hte
        simp only [Option.map_eq_some_iff, Prod.mk.injEq] at hx
        obtain ⟨s'', hs, rfl, rfl⟩ := hx
        obtain ⟨b, off, rfl, hrel⟩ := S.add_ok hu hs
        refine ⟨_, ?_, hrel⟩
        have hn := ho.1
        simp [Instr.indexAt, run_underlying hund, asIntOf, hn, Instr.sureAddr, he.sizeOf, Addr.add_lit]
      · simp at hx
    · simp at hx
  · simp at hx

/-- 'len(x)' of a slice. -/
def xlen (h : Heap) (x : V) : Option V :=
  match x with
  | .e (.sc (.dat (.sl elems))) => some (vint .i64 (elems.length : Int))
  | .e (.sc (.dat (.raw (.slice none 0 0)))) => some (vint .i64 0)
  | .e (.sc (.ref o)) =>
    match h[o]? with
    | some (some (.arr _ elems)) => some (vint .i64 (elems.length : Int))
    | some (some (.mat _ rows)) => some (vint .i64 (rows.length : Int))
    | _ => none
  | _ => none

theorem xlen_ok {h : Heap} {x r : V} (hx : xlen h x = some r) (s : SimH I M h w) {u : Value} (hu : RelV w I M u x) :
    ∃ a n cap, u = .slice a n cap ∧ r = vint .i64 (n : Int) := by
  unfold xlen at hx
  split at hx
  · simp only [Option.some.injEq] at hx; subst hx
    cases hu with
    | slnil a cap => exact ⟨a, 0, cap, rfl, rfl⟩
    | sl _ vs hI hb hs hcap hc hr => exact ⟨_, _, _, rfl, rfl⟩
  · simp only [Option.some.injEq] at hx; subst hx
    cases hu; exact ⟨none, 0, 0, rfl, rfl⟩
  · rename_i o
    obtain ⟨m, hm, rfl⟩ := hu
    split at hx
    · rename_i hcell
      obtain ⟨m', hm', h1, h2, h0⟩ := s.obj o _ hcell
      rw [hm] at hm'; simp only [Option.some.injEq] at hm' hx; subst hm'; subst hx
      unfold ME.val
      split
      · rename_i hn
        have h00 := (by first | (exact h0.1 hn) | (exact h0.2.1 hn) : _ = [])
        exact ⟨_, _, _, rfl, by rw [h00]; rfl⟩
      · exact ⟨_, _, _, rfl, by rw [h2]⟩
    · rename_i hcell
      obtain ⟨m', hm', h1, h2, h0⟩ := s.obj o _ hcell
      rw [hm] at hm'; simp only [Option.some.injEq] at hm' hx; subst hm'; subst hx
      unfold ME.val
      split
      · rename_i hn
        have h00 := (by first | (exact h0.1 hn) | (exact h0.2.1 hn) : _ = [])
        exact ⟨_, _, _, rfl, by rw [h00]; rfl⟩
      · exact ⟨_, _, _, rfl, by rw [h2]⟩
    · simp at hx
  · simp at hx
end

end Go.AM
