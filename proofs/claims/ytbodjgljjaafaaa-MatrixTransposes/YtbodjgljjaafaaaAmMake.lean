/- The abstract machine: slices that the call makes. -/
import Derived.Test.YtbodjgljjaafaaaAmAct
namespace Go.AM

def zrep (ti : TI) (n : Nat) : List S := (List.range n).map fun i => (zeroS ti).getD (i % ti.zero.length) .undef

def chunk {α : Type} (s len : Nat) (l : List α) : List (List α) := (List.range len).map fun i => (l.drop (i * s)).take s

theorem chunk_at {α : Type} {s len : Nat} {l : List α} {i j : Nat} {d : α} (h : at2 (chunk s len l) i j = some d) : l[i * s + j]? = some d := by
  simp only [at2, chunk, List.getElem?_map, Option.bind_eq_some_iff, Option.map_eq_some_iff] at h
  obtain ⟨x, ⟨i', hi, rfl⟩, hd⟩ := h
  rcases Nat.lt_or_ge i len with hl | hl
  · rw [List.getElem?_range hl, Option.some.injEq] at hi; subst hi
    rw [List.getElem?_take] at hd
    split at hd
    · rw [List.getElem?_drop] at hd; exact hd
    · simp at hd
  · rw [List.getElem?_eq_none (by simpa using hl)] at hi; simp at hi

theorem chunk_len {α : Type} {s len : Nat} {l : List α} (hl : l.length = len * s) : ∀ x ∈ chunk s len l, x.length = s := by
  intro x hx
  simp only [chunk, List.mem_map, List.mem_range] at hx
  obtain ⟨i, hi, rfl⟩ := hx
  simp only [List.length_take, List.length_drop, hl]
  have : (i + 1) * s ≤ len * s := Nat.mul_le_mul_right _ hi
  rw [Nat.add_mul] at this
  omega

theorem chunk_length {α : Type} {s len : Nat} {l : List α} : (chunk s len l).length = len := by simp [chunk]

section
variable {P : Program} {I : Nat → Prop} {M : Mem} {h : Heap} {w : World}

theorem zrep_ok (ti : TI) (hone : ∀ v ∈ ti.zero, v.oneCell' = true) {z : Array Value} (hz : z.toList = ti.zero) (n : Nat) : RelL w I M ((Array.range n).map (z[· % z.size]!)).toList (zrep ti n) := by
  have hsz : z.size = ti.zero.length := by rw [← hz]; simp
  refine ⟨by simp [zrep], fun i v s hv hs => ?_⟩
  simp only [zrep, List.getElem?_map, Option.map_eq_some_iff, Array.toList_map, Array.toList_range] at hv hs
  obtain ⟨i', hi, rfl⟩ := hv
  obtain ⟨i'', hi', rfl⟩ := hs
  rw [hi] at hi'; simp only [Option.some.injEq] at hi'; subst hi'
  rw [hsz]
  by_cases h0 : i' % ti.zero.length < ti.zero.length
  · have h1 : (zeroS ti).getD (i' % ti.zero.length) .undef = .dat (cdat ti.zero[i' % ti.zero.length]) := by
      simp [zeroS, h0]
    have h2 : z[i' % ti.zero.length]! = ti.zero[i' % ti.zero.length] := by
      have hlt : i' % ti.zero.length < z.size := by omega
      have e1 : z[i' % ti.zero.length]? = ti.zero[i' % ti.zero.length]? := by rw [← hz]; simp
      rw [getElem!_pos z _ hlt]
      rw [Array.getElem?_eq_getElem hlt, List.getElem?_eq_getElem h0, Option.some.injEq] at e1
      exact e1
    rw [h1, h2]; exact cdat_ok w I _ (hone _ (List.getElem_mem _))
  · have : (zeroS ti).getD (i' % ti.zero.length) .undef = .undef := by
      have h1 : (zeroS ti)[i' % ti.zero.length]? = none := List.getElem?_eq_none (by simp [zeroS]; omega)
      simp [List.getD, h1]
    rw [this]; trivial

/-- '[]T{..}'. -/
def xbuildSlice (T : Tab) (σ : St) (or : Or) (nid t len : Nat) (parts : List (Nat × Operand)) : Option (V × Heap × List Nat × List Prop) :=
  match tfind T t with
  | some ti =>
    match ti.k with
    | .slice e =>
      match tfind T e, evParts σ.t parts with
      | some te, some ps =>
        if len * te.size ≤ 16777216 then
          match xfill (fun i => some (i * te.size, te.size)) (zrep te (len * te.size)) ps with
          | some cells =>
            match cells.mapM S.toD, or with
            | some ds, .frz => some (.e (.sc (.dat (.sl (chunk te.size len ds)))), σ.h, [], [])
            | some ds, _ => some (.e (.sc (.ref nid)), σ.h.set nid (some (.arr te.size (chunk te.size len ds))), [nid], [])
            | none, _ => none
          | none => none
        else none
      | _, _ => none
    | _ => none
  | none => none

theorem lt_of_none {l : Mem} {n : Nat} (hn : l[n]? = some none) : n < l.length := by
  rcases Nat.lt_or_ge n l.length with hl | hl
  · exact hl
  · rw [List.getElem?_eq_none hl] at hn; simp at hn

theorem xbuildSlice_ok {T : Tab} (hT : TOK P T) {σ : St} {a : Act} (s : Sim I M σ a w) {or : Or} {nid t len : Nat} {parts : Array (Nat × Operand)} {r : V} {h' : Heap} {ids : List Nat} {obs : List Prop}
    (hx : xbuildSlice T σ or nid t len parts.toList = some (r, h', ids, obs)) (hn : M[nid]? = some none) :
    ∃ x I' M' w', (Instr.buildSlice t len (parts.map fun p => (p.1, a.eval p.2))).run P w = .ok x w' ∧ Eff ids I M σ.h w I' M' h' w' ∧ RelV w' I' M' x r := by
  unfold xbuildSlice at hx
  split at hx
  case h_2 => simp at hx
  rename_i ti hti
  split at hx
  case h_2 => simp at hx
  rename_i e hk
  have hund := (hT.find hti).slice hk
  split at hx
  case h_2 => simp at hx
  rename_i te ps hte hps
  have he := hT.find hte
  split at hx
  case isFalse => simp at hx
  rename_i hle
  split at hx
  case h_2 => simp at hx
  rename_i cells hfill
  obtain ⟨h1, h2⟩ := evParts_ok s _ _ hps
  obtain ⟨z, hz, hzl⟩ := he.zeroValue
  obtain ⟨cs', hf, hrel⟩ := xfill_ok (w := w) (I := I) (M := M) (fun i => some (i * te.size, te.size)) ps _ _ _ ((Array.range (len * te.size)).map (z.cells[· % z.cells.size]!)) hfill h1 h2 (zrep_ok te he.zone hzl _)
  have hlen' : cells.length = len * te.size := by
    have : ∀ (ps : List (Nat × E)) (c c' : List S), xfill (fun i => some (i * te.size, te.size)) c ps = some c' → c'.length = c.length := by
      intro ps
      induction ps with
      | nil => intro c c' hc; simp only [xfill, Option.some.injEq] at hc; rw [hc]
      | cons p ps ih =>
        intro c c' hc
        obtain ⟨i, x⟩ := p
        simp only [xfill] at hc
        split at hc
        · rename_i hcond
          simp only [Bool.and_eq_true, decide_eq_true_eq] at hcond
          rw [ih _ _ hc]
          simp only [patch, List.length_append, List.length_take, List.length_drop]
          omega
        · simp at hc
    rw [this _ _ _ hfill]; simp [zrep]
  have hrun : ∃ arr : Array Value, arr = cs' ∧ (Instr.buildSlice t len (parts.map fun p => (p.1, a.eval p.2))).run P w =
      .ok (.slice (some ⟨w.heap.size, 0, none⟩) len len) { w with heap := w.heap.push (.cells arr e) } := by
    refine ⟨cs', rfl, ?_⟩
    have hsm : ¬ (16777216 < len * te.size) := by omega
    by_cases h0 : len * te.size = 0
    · have hcs0 : (Array.range (len * te.size)).map (z.cells[· % z.cells.size]!) = #[] := by rw [h0, Array.range_zero', Array.map_empty]
      rw [hcs0] at hf
      simp only [Instr.buildSlice, Sem.run_bind, run_underlying hund, Result.andThen, he.sizeOf]
      rw [if_neg (by simpa using hsm), h0]
      simp only [if_true, Sem.run_pure, Array.range_zero', Array.map_empty, Array.toList_map, Sem.run_bind, Result.andThen, hf]
      simp [newRow]
    · simp only [Instr.buildSlice, Sem.run_bind, run_underlying hund, Result.andThen, he.sizeOf]
      rw [if_neg (by simpa using hsm), if_neg h0]
      simp only [Sem.run_bind, hz, Result.andThen, Sem.run_pure, Array.toList_map, hf]
      simp [newRow]
  obtain ⟨arr, rfl, hrun⟩ := hrun
  split at hx
  · rename_i ds hds
    simp only [Option.some.injEq, Prod.mk.injEq] at hx
    obtain ⟨rfl, rfl, rfl, rfl⟩ := hx
    have heff : Eff [] I M σ.h w (fun b => I b ∨ b = w.heap.size) M σ.h { w with heap := w.heap.push (.cells arr e) } := Eff.frz s.toSimH rfl rfl rfl rfl
    refine ⟨_, _, _, _, hrun, heff, ?_⟩
    obtain ⟨h3, h4⟩ := mapM_toD hds (hrel.mono (s.toSimH.heapI heff) heff.imm heff.mono)
    have hdl : ds.length = len * te.size := by rw [← h3, ← hlen']; exact hrel.1
    have hcl := chunk_length (s := te.size) (len := len) (l := ds)
    show Reads _ _ _ _
    rw [show Value.slice (some ⟨w.heap.size, 0, none⟩) len len = Value.slice (some ⟨w.heap.size, 0, none⟩) (chunk te.size len ds).length len from by rw [hcl]]
    have hv : ∀ i j d, at2 (chunk te.size len ds) i j = some d → ∃ v, arr.toList[i * te.size + j]? = some v ∧ Reads { w with heap := w.heap.push (.cells arr e) } (fun b => I b ∨ b = w.heap.size) v d := fun i j d hd => by
      have hd' := chunk_at hd
      have hlt : i * te.size + j < ds.length := by
        rcases Nat.lt_or_ge (i * te.size + j) ds.length with hl | hl
        · exact hl
        · rw [List.getElem?_eq_none hl] at hd'; simp at hd'
      have hlt' : i * te.size + j < arr.toList.length := by omega
      exact ⟨arr.toList[i * te.size + j], List.getElem?_eq_getElem hlt', h4 _ _ _ (List.getElem?_eq_getElem hlt') hd'⟩
    refine Reads.sl (t := e) (fr := (0, 0)) (cs := arr) _ (fun i j => (arr.toList[i * te.size + j]?).getD undef) (.inr rfl) (by exact push_new) (chunk_len hdl) (by omega) (fun i j d hd => ?_) (fun i j d hd => ?_)
    · obtain ⟨v, p, _⟩ := hv i j d hd
      rw [p, Nat.zero_add, ← Array.getElem?_toList, p]; rfl
    · obtain ⟨v, p, q⟩ := hv i j d hd
      rw [p]; exact q
  · rename_i ds hds _
    simp only [Option.some.injEq, Prod.mk.injEq] at hx
    obtain ⟨rfl, rfl, rfl, rfl⟩ := hx
    have hcl := chunk_length (s := te.size) (len := len) (l := ds)
    refine ⟨_, I, M.set nid (some ⟨false, w.heap.size, len, len, te.size, []⟩), _, hrun, ?_, ⟨false, w.heap.size, len, len, te.size, []⟩, by simp [lt_of_none hn], rfl⟩
    refine Eff.new s.toSimH hn (e := ⟨false, w.heap.size, len, len, te.size, []⟩) rfl rfl rfl rfl rfl fun hI hm => ?_
    obtain ⟨h3, h4⟩ := mapM_toD hds (hrel.mono hI (fun _ h => h) hm)
    have hdl : ds.length = len * te.size := by rw [← h3, ← hlen']; exact hrel.1
    have hal : arr.size = len * te.size := by have := hrel.1; rw [hlen'] at this; simpa using this
    refine ⟨rfl, hcl.symm, fun h => by simp at h, fun _ => ⟨Nat.le_refl _, arr, e, push_new, hal, chunk_len hdl, fun i j d hd => ?_⟩⟩
    have hd' := chunk_at hd
    have hlt : i * te.size + j < ds.length := by
      rcases Nat.lt_or_ge (i * te.size + j) ds.length with hl | hl
      · exact hl
      · rw [List.getElem?_eq_none hl] at hd'; simp at hd'
    have hlt' : i * te.size + j < arr.toList.length := by omega
    exact ⟨arr.toList[i * te.size + j], by rw [← Array.getElem?_toList]; exact List.getElem?_eq_getElem hlt', h4 _ _ _ (List.getElem?_eq_getElem hlt') hd'⟩
  · simp at hx

/-! ### make -/

def zeroD (ti : TI) : List D := ti.zero.map fun v => normD (cdat v)

def xmake (T : Tab) (h : Heap) (nid t : Nat) (len cap : V) : Option (V × Heap × List Nat × List Prop) :=
  match len, cap with
  | .e (.sc (.dat (.int _ n))), .e (.sc (.dat (.int _ c))) =>
    match tfind T t with
    | some ti =>
      match ti.k with
      | .slice e =>
        match tfind T e with
        | some te =>
          if te.bytes == 0 || te.zero.length != te.size then none else
          match te.k with
          | .slice e2 => match tfind T e2 with
            | some te2 => if te.size == 1 && veqL te.zero [nilS] then
                some (.e (.sc (.ref nid)), h.set nid (some (.mat te2.size (List.replicate n.toNat []))), [nid], [0 ≤ n ∧ n ≤ c ∧ c * te.bytes ≤ 281474976710656]) else none
            | none => none
          | _ => some (.e (.sc (.ref nid)), h.set nid (some (.arr te.size (List.replicate n.toNat (zeroD te)))), [nid], [0 ≤ n ∧ n ≤ c ∧ c * te.bytes ≤ 281474976710656])
        | none => none
      | _ => none
    | none => none
  | _, _ => none

theorem wrap_small {n : Int} (h0 : 0 ≤ n) (h1 : n ≤ 9223372036854775807) : IntKind.i64.wrap n = n :=
  IntWalk.i64_in n ⟨by omega, by omega⟩

theorem run_makeSlice {t e : Nat} (hu : P.underlying t = some (.slice e)) {te : TI} (he : TIOK P e te) (hb : te.bytes ≠ 0) {k k' : IntKind} {n c : Int}
    (hn : 0 ≤ n ∧ n ≤ c ∧ c * te.bytes ≤ 281474976710656) {z : Value} (hz : ∀ w, (zeroValue e).run P w = .ok z w) :
    (Instr.makeSlice t (.int k n) (.int k' c)).run P w = .ok (.slice (some ⟨w.heap.size, 0, none⟩) n.toNat c.toNat)
      { w with heap := w.heap.push (.cells ((Array.range (c.toNat * te.size)).map ((if c.toNat * te.size = 0 then #[] else z.cells)[· % (if c.toNat * te.size = 0 then #[] else z.cells).size]!)) e) } := by
  obtain ⟨f, hf, hfs, hfb⟩ := he.typeInfo
  have hc : c ≤ 281474976710656 := by
    have h1 : c * 1 ≤ c * te.bytes := Int.mul_le_mul_of_nonneg_left (by omega) (by omega)
    omega
  have hw1 : IntKind.i64.wrap n = n := wrap_small hn.1 (by omega)
  have hw2 : IntKind.i64.wrap c = c := wrap_small (by omega) (by omega)
  have hbig : ¬ (281474976710656 < (te.bytes : Int) * c) := by rw [Int.mul_comm]; omega
  have hneg : ¬ c < 0 := by omega
  have hneg' : ¬ n < 0 := by omega
  have hlc : ¬ c < n := by omega
  by_cases h0 : c.toNat * te.size = 0
  · simp [Instr.makeSlice, run_underlying hu, asInt, asIntOf, hf, hfb, hw1, hw2, hbig, hneg, hneg', hlc, he.sizeOf, h0, newRow]
  · simp [Instr.makeSlice, run_underlying hu, asInt, asIntOf, hf, hfb, hw1, hw2, hbig, hneg, hneg', hlc, he.sizeOf, h0, newRow, hz]

theorem xmake_ok {T : Tab} (hT : TOK P T) {nid t : Nat} {len cap r : V} {h' : Heap} {ids : List Nat} {obs : List Prop} (hx : xmake T h nid t len cap = some (r, h', ids, obs)) (ho : AllP obs)
    (s : SimH I M h w) (hn : M[nid]? = some none) {u v : Value} (hu : RelV w I M u len) (hv : RelV w I M v cap) :
    ∃ x I' M' w', (Instr.makeSlice t u v).run P w = .ok x w' ∧ Eff ids I M h w I' M' h' w' ∧ RelV w' I' M' x r := by
  unfold xmake at hx
  split at hx
  case h_2 => simp at hx
  rename_i k n k' c
  have := relV_int hu; subst this
  have := relV_int hv; subst this
  split at hx
  case h_2 => simp at hx
  rename_i ti hti
  split at hx
  case h_2 => simp at hx
  rename_i e hk
  have hund := (hT.find hti).slice hk
  split at hx
  case h_2 => simp at hx
  rename_i te hte
  have he := hT.find hte
  split at hx
  · simp at hx
  rename_i hbz
  simp only [Bool.or_eq_true, beq_iff_eq, bne_iff_ne, ne_eq, not_or, Decidable.not_not] at hbz
  obtain ⟨hb, hzlen⟩ := hbz
  obtain ⟨z, hz, hzl⟩ := he.zeroValue
  split at hx
  · rename_i e2 hk2
    split at hx
    case h_2 => simp at hx
    rename_i te2 hte2
    split at hx
    case isFalse => simp at hx
    rename_i hsz
    simp only [Bool.and_eq_true, beq_iff_eq] at hsz
    obtain ⟨hsz1, hzero⟩ := hsz
    have hzero := veqL_ok hzero
    simp only [Option.some.injEq, Prod.mk.injEq] at hx
    obtain ⟨rfl, rfl, rfl, rfl⟩ := hx
    have hrun := run_makeSlice (P := P) (w := w) hund he hb (k := k) (k' := k') ho.1 hz
    refine ⟨_, I, M.set nid (some ⟨false, w.heap.size, n.toNat, c.toNat, te2.size, List.replicate n.toNat nilS⟩), _, hrun, ?_, ⟨false, w.heap.size, n.toNat, c.toNat, te2.size, List.replicate n.toNat nilS⟩, by simp [lt_of_none hn], rfl⟩
    refine Eff.new s hn (e := ⟨false, w.heap.size, n.toNat, c.toNat, te2.size, List.replicate n.toNat nilS⟩) rfl rfl rfl rfl (by
      simp only [fpE, Bool.false_eq_true, if_false]
      have : (List.replicate n.toNat nilS).flatMap rowBlk = [] := by
        rw [List.flatMap_eq_nil_iff]
        intro x hx; rw [List.eq_of_mem_replicate hx]; rfl
      rw [this]) fun hI hm => ?_
    have hzc : z.cells = #[nilS] := by apply Array.ext'; rw [hzl, hzero]
    have hnc := ho.1
    refine ⟨rfl, by simp, by simp, fun h => by simp at h, fun _ => ⟨by simp; omega, _, e, push_new, by simp [hsz1], fun k v hv => ?_, fun k v elems hv hel => ?_⟩⟩
    · simp only [List.getElem?_replicate] at hv
      split at hv
      · rename_i hk
        simp only [Option.some.injEq] at hv; subst hv
        have hkc : k < c.toNat * te.size := by rw [hsz1]; omega
        have h0 : ¬ (c.toNat * te.size = 0) := by omega
        simp [hkc, h0, hzc, Nat.mod_one]
      · simp at hv
    · simp only [List.getElem?_replicate] at hv hel
      split at hv
      · rename_i hk
        simp only [Option.some.injEq] at hv; subst hv
        rw [if_pos hk] at hel; simp only [Option.some.injEq] at hel; subst hel
        exact ⟨none, 0, rfl, fun h => absurd rfl h⟩
      · simp at hv
  · simp only [Option.some.injEq, Prod.mk.injEq] at hx
    obtain ⟨rfl, rfl, rfl, rfl⟩ := hx
    have hrun := run_makeSlice (P := P) (w := w) hund he hb (k := k) (k' := k') ho.1 hz
    have hnc := ho.1
    refine ⟨_, I, M.set nid (some ⟨false, w.heap.size, n.toNat, c.toNat, te.size, []⟩), _, hrun, ?_, ⟨false, w.heap.size, n.toNat, c.toNat, te.size, []⟩, by simp [lt_of_none hn], rfl⟩
    refine Eff.new s hn (e := ⟨false, w.heap.size, n.toNat, c.toNat, te.size, []⟩) rfl rfl rfl rfl rfl fun hI hm => ?_
    refine ⟨rfl, by simp, fun h => by simp at h, fun _ => ⟨by simp; omega, _, e, push_new, by simp, fun x hx => by rw [List.eq_of_mem_replicate hx]; simp [zeroD, hzlen], fun i j d hd => ?_⟩⟩
    simp only [at2, List.getElem?_replicate, Option.bind_eq_some_iff] at hd
    obtain ⟨x, hx, hd⟩ := hd
    split at hx
    · rename_i hi
      simp only [Option.some.injEq] at hx; subst hx
      simp only [zeroD, List.getElem?_map, Option.map_eq_some_iff] at hd
      obtain ⟨v, hv, rfl⟩ := hd
      have hj : j < te.zero.length := by
        rcases Nat.lt_or_ge j te.zero.length with hl | hl
        · exact hl
        · rw [List.getElem?_eq_none hl] at hv; simp at hv
      have hlt : i * te.size + j < c.toNat * te.size := by
        have h1 : (i + 1) * te.size ≤ c.toNat * te.size := Nat.mul_le_mul_right _ (by omega)
        rw [Nat.add_mul] at h1; omega
      have h0 : ¬ (c.toNat * te.size = 0) := by omega
      refine ⟨v, ?_, normD_ok (cdat_ok _ _ _ (he.zone _ (List.mem_of_getElem? hv)))⟩
      have hzsz : z.cells.size = te.size := by rw [← hzlen, ← hzl]; simp
      have hmod : (i * te.size + j) % te.size = j := by
        rw [Nat.mul_comm, Nat.mul_add_mod, Nat.mod_eq_of_lt (by omega)]
      have hjz : j < z.cells.size := by omega
      have hzj : z.cells[j]! = v := by
        rw [getElem!_pos z.cells j hjz]
        have e1 : z.cells[j]? = some v := by rw [← hv, ← hzl]; simp
        rw [Array.getElem?_eq_getElem hjz, Option.some.injEq] at e1; exact e1
      simp [hlt, h0, hzsz, hmod, hzj]
    · simp at hx
end

end Go.AM
