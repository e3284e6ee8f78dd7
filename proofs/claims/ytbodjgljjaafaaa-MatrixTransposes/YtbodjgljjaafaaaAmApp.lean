/- The abstract machine: append and copy. -/
import Derived.Test.YtbodjgljjaafaaaAmStore
namespace Go.AM

section
variable {P : Program} {I : Nat → Prop} {M : Mem} {h : Heap} {w : World}

/-- Object o becomes object nid. -/
theorem Eff.move (s : SimH I M h w) {o nid : Nat} (hn : M[nid]? = some none) {e e' : ME} {obj obj' : Obj} (he : M[o]? = some (some e)) (hobj : h[o]? = some (some obj))
    {w' : World} (hsz : w.heap.size ≤ w'.heap.size) (hheap : ∀ k, k < w.heap.size → k ∉ fpE e obj → w'.heap[k]? = w.heap[k]?) (ho : w'.os = w.os) (ht : w'.tape = w.tape) (hp : w'.output = w.output)
    (hfp : ∀ b ∈ fpE e' obj', b < w'.heap.size ∧ (w.heap.size ≤ b ∨ b ∈ fpE e obj)) (hnd : (fpE e' obj').Nodup)
    (hok : (∀ b, I b → w'.heap[b]? = w.heap[b]?) → M.le (M.set nid (some e')) → ObjOK w' I (M.set nid (some e')) e' obj') :
    Eff [o, nid] I M h w I (M.set nid (some e')) ((h.set o none).set nid (some obj')) w' := by
  have hlt := lt_of_none hn
  have hlth : nid < h.length := s.len ▸ hlt
  have hne : o ≠ nid := fun heq => by subst heq; rw [hn] at he; simp at he
  have hmono : M.le (M.set nid (some e')) := fun o' e1 h1 => by
    by_cases heq : nid = o'
    · subst heq; rw [hn] at h1; simp at h1
    · rw [List.getElem?_set_ne heq]; exact h1
  have hget : (M.set nid (some e'))[nid]? = some (some e') := by simp [hlt]
  have hgeth : ((h.set o none).set nid (some obj'))[nid]? = some (some obj') := by simp [hlth]
  have hgeto : ((h.set o none).set nid (some obj'))[o]? = some none := by
    have : o < h.length := by
      rcases Nat.lt_or_ge o h.length with hl | hl
      · exact hl
      · rw [List.getElem?_eq_none hl] at hobj; simp at hobj
    rw [List.getElem?_set_ne (Ne.symm hne)]; simp [this]
  have hfpn : fpAt (M.set nid (some e')) ((h.set o none).set nid (some obj')) nid = fpE e' obj' := by simp only [fpAt, hget, hgeth]
  have hfpo : fpAt (M.set nid (some e')) ((h.set o none).set nid (some obj')) o = [] := by simp only [fpAt, hgeto]
  have hfpold : fpAt M h o = fpE e obj := by simp only [fpAt, hobj, he]
  have hnidold : fpAt M h nid = [] := by simp only [fpAt, hn]; split <;> simp_all
  have hI : ∀ b, I b → w'.heap[b]? = w.heap[b]? := fun b hb => hheap b (s.imm b hb).1 fun hin => (s.imm b hb).2 o (hfpold ▸ hin)
  refine ⟨by simp, by simp, hmono, fun o' ho' => ?_, fun o' ho' => ?_, ho, ht, hp, hsz, fun b hb hnb => hheap b hb fun hin => hnb o (by simp) (hfpold ▸ hin), fun _ h => h,
    fun b hb => ⟨by have := (s.imm b hb).1; omega, .inl hb⟩, fun o' ho' obj'' hobj'' => ?_, fun o1 o2 b h1 h2 b1 b2 => ?_, fun o' ho' => ?_, fun o' b ho' hb => ?_⟩
  · simp only [List.mem_cons, List.not_mem_nil, or_false, not_or] at ho'
    rw [List.getElem?_set_ne (Ne.symm ho'.2)]
  · simp only [List.mem_cons, List.not_mem_nil, or_false, not_or] at ho'
    rw [List.getElem?_set_ne (Ne.symm ho'.2), List.getElem?_set_ne (Ne.symm ho'.1)]
  · simp only [List.mem_cons, List.not_mem_nil, or_false] at ho'
    rcases ho' with rfl | rfl
    · rw [hgeto] at hobj''; simp at hobj''
    · rw [hgeth] at hobj''; simp only [Option.some.injEq] at hobj''; subst hobj''
      exact ⟨e', hget, hok hI hmono⟩
  · simp only [List.mem_cons, List.not_mem_nil, or_false] at h1 h2
    rcases h1 with rfl | rfl <;> rcases h2 with rfl | rfl
    · rfl
    · rw [hfpo] at b1; simp at b1
    · rw [hfpo] at b2; simp at b2
    · rfl
  · simp only [List.mem_cons, List.not_mem_nil, or_false] at ho'
    rcases ho' with rfl | rfl
    · rw [hfpo]; exact List.nodup_nil
    · rw [hfpn]; exact hnd
  · simp only [List.mem_cons, List.not_mem_nil, or_false] at ho'
    rcases ho' with rfl | rfl
    · rw [hfpo] at hb; simp at hb
    · rw [hfpn] at hb
      obtain ⟨h1, h2⟩ := hfp b hb
      exact ⟨h1, h2.imp id fun h3 => ⟨o, by simp, hfpold ▸ h3⟩⟩

theorem drew_alloc_size (w : World) (o : Go.Obj) : (w.drew.alloc o).heap.size = w.heap.size + 1 := by
  show (w.heap.push o).size = _
  simp

/-- The elements that are appended or copied. -/
def srcEl (te : TI) (h : Heap) (v : V) : Option (List (List D) × List Prop) :=
  match v with
  | .e (.sc (.dat (.sl es))) => some (es, [∀ y ∈ es, y.length = te.size])
  | .e (.sc (.dat (.raw (.slice none 0 0)))) => some ([], [])
  | .e (.sc (.ref o)) =>
    match h[o]? with
    | some (some (.arr s es)) => if s == te.size then some (es, []) else none
    | _ => none
  | _ => none

theorem news_of {s off : Nat} {es : List (List D)} {cs : Array Value} (hl : ∀ x ∈ es, x.length = s) (hc : ∀ i j d, at2 es i j = some d → ∃ v, cs[off + i * s + j]? = some v ∧ Reads w I v d) (hs : 0 < s) :
    ∃ news : List Value, news.length = es.length * s ∧ (∀ (j : Nat) u, news[j]? = some u → cs[off + j]? = some u) ∧ (∀ u ∈ news, u.oneCell' = true) ∧
      ∀ i j d, at2 es i j = some d → ∃ v, news[i * s + j]? = some v ∧ Reads w I v d := by
  have hall : ∀ k, k < es.length * s → ∃ v d, cs[off + k]? = some v ∧ at2 es (k / s) (k % s) = some d ∧ Reads w I v d := fun k hk => by
    have hd : k / s < es.length := Nat.div_lt_of_lt_mul (by rw [Nat.mul_comm]; exact hk)
    have hm : k % s < s := Nat.mod_lt _ hs
    have hlen := hl _ (List.getElem_mem hd)
    have hat : at2 es (k / s) (k % s) = some (es[k / s][k % s]'(by omega)) := by simp [at2, hd]
    obtain ⟨v, p, q⟩ := hc _ _ _ hat
    rw [show off + k / s * s + k % s = off + k by have := Nat.div_add_mod k s; rw [Nat.mul_comm] at this; omega] at p
    exact ⟨v, _, p, hat, q⟩
  have hex : ∃ news : List Value, news.length = es.length * s ∧ ∀ (j : Nat), j < es.length * s → news[j]? = cs[off + j]? := by
    refine ⟨(cs.toList.drop off).take (es.length * s), ?_, fun j hj => ?_⟩
    · simp only [List.length_take, List.length_drop, Array.length_toList]
      rcases Nat.eq_zero_or_pos (es.length * s) with h0 | h0
      · omega
      · obtain ⟨v, _, p, _⟩ := hall (es.length * s - 1) (by omega)
        have := (Array.getElem?_eq_some_iff.1 p).1
        omega
    · rw [List.getElem?_take, if_pos hj, List.getElem?_drop]; simp
  obtain ⟨news, hnl, hnc⟩ := hex
  have hin : ∀ (j : Nat) u, news[j]? = some u → j < es.length * s := fun j u hu => by
    rcases Nat.lt_or_ge j news.length with h | h
    · omega
    · rw [List.getElem?_eq_none h] at hu; simp at hu
  refine ⟨news, hnl, fun j u hu => by rw [← hnc j (hin j u hu)]; exact hu, fun u hu => ?_, fun i j d hat => ?_⟩
  · obtain ⟨j, hj⟩ := List.mem_iff_getElem?.1 hu
    obtain ⟨v, d, p, _, q⟩ := hall j (hin j u hj)
    rw [hnc j (hin j u hj), p, Option.some.injEq] at hj
    subst hj; exact q.one
  · have hi : i < es.length ∧ j < s := by
      simp only [at2, Option.bind_eq_some_iff] at hat
      obtain ⟨x, hx, hd⟩ := hat
      have h1 : i < es.length := by
        rcases Nat.lt_or_ge i es.length with h | h
        · exact h
        · rw [List.getElem?_eq_none h] at hx; simp at hx
      have := hl _ (List.mem_of_getElem? hx)
      rcases Nat.lt_or_ge j x.length with h | h
      · omega
      · rw [List.getElem?_eq_none h] at hd; simp at hd
    have hlt : i * s + j < es.length * s := by
      have : (i + 1) * s ≤ es.length * s := Nat.mul_le_mul_right _ hi.1
      rw [Nat.add_mul] at this; omega
    obtain ⟨v, p, q⟩ := hc i j d hat
    exact ⟨v, by rw [hnc _ hlt, ← Nat.add_assoc]; exact p, q⟩

theorem src_ok {te : TI} {v : V} {es : List (List D)} {obs : List Prop} (hx : srcEl te h v = some (es, obs)) (ho : AllP obs) (s : SimH I M h w) (hs : 0 < te.size) {u : Value} (hu : RelV w I M u v) :
    ∃ a cap, u = .slice a es.length cap ∧ (es ≠ [] → ∃ b off, a = some ⟨b, off, none⟩ ∧ ∃ news : List Value, news.length = es.length * te.size ∧ (∀ (j : Nat) u, news[j]? = some u → w.cell? ⟨b, off + j, none⟩ = some u) ∧
      (∀ u ∈ news, u.oneCell' = true) ∧ ∀ i j d, at2 es i j = some d → ∃ v, news[i * te.size + j]? = some v ∧ Reads w I v d) ∧ (∀ x ∈ es, x.length = te.size) := by
  unfold srcEl at hx
  split at hx
  · simp only [Option.some.injEq, Prod.mk.injEq] at hx
    obtain ⟨rfl, rfl⟩ := hx
    have hu' : Reads w I u (.sl _) := hu
    cases hu' with
    | slnil a cap => exact ⟨a, cap, rfl, fun h => absurd rfl h, ho.1⟩
    | sl _ vs hI hb hs' hcap hc hr =>
      rename_i es b off cap s' cs t fr
      refine ⟨_, _, rfl, fun hne => ?_, ho.1⟩
      have hsz : s' = te.size := by
        cases es with
        | nil => exact absurd rfl hne
        | cons x l => rw [← hs' x (by simp), ho.1 x (by simp)]
      subst hsz
      obtain ⟨news, h1, h2, h3, h4⟩ := news_of (w := w) (I := I) (off := off) hs' (fun i j d hd => ⟨_, hc i j d hd, hr i j d hd⟩) hs
      exact ⟨b, off, rfl, news, h1, fun j u hu => by rw [cell_of hb]; exact h2 j u hu, h3, h4⟩
  · simp only [Option.some.injEq, Prod.mk.injEq] at hx
    obtain ⟨rfl, rfl⟩ := hx
    cases hu
    exact ⟨none, 0, rfl, fun h => absurd rfl h, fun x hx => by simp at hx⟩
  · rename_i o
    split at hx
    · rename_i s' es' hobj
      split at hx
      · rename_i hsz
        simp only [beq_iff_eq] at hsz; subst hsz
        simp only [Option.some.injEq, Prod.mk.injEq] at hx
        obtain ⟨rfl, rfl⟩ := hx
        obtain ⟨e, he, rfl⟩ := hu
        obtain ⟨e', he', h1, h2, h0, hh⟩ := s.obj o _ hobj
        rw [he] at he'; simp only [Option.some.injEq] at he'; subst he'
        cases hnil : e.nil with
        | true =>
          have := h0 hnil; subst this
          exact ⟨none, 0, by simp [ME.val, hnil], fun h => absurd rfl h, fun x hx => by simp at hx⟩
        | false =>
          obtain ⟨h3, cs, t, hb, h4, h5, h6⟩ := hh hnil
          refine ⟨some ⟨e.b, 0, none⟩, e.cap, by simp [ME.val, hnil, h2], fun _ => ⟨e.b, 0, rfl, ?_⟩, h5⟩
          obtain ⟨news, g1, g2, g3, g4⟩ := news_of (w := w) (I := I) (off := 0) (cs := cs) h5 (fun i j d hd => by simpa using h6 i j d hd) hs
          exact ⟨news, g1, fun j u hu => by rw [cell_of hb]; exact g2 j u hu, g3, g4⟩
      · simp at hx
    · simp at hx
  · simp at hx

theorem at2_append {a b : List (List D)} {i j : Nat} {d : D} (h : at2 (a ++ b) i j = some d) : (i < a.length ∧ at2 a i j = some d) ∨ (a.length ≤ i ∧ at2 b (i - a.length) j = some d) := by
  simp only [at2] at h ⊢
  rcases Nat.lt_or_ge i a.length with hl | hl
  · rw [List.getElem?_append_left hl] at h; exact .inl ⟨hl, h⟩
  · rw [List.getElem?_append_right hl] at h; exact .inr ⟨hl, h⟩

/-- Two rows of cells, one behind the other, read as the two lists. -/
theorem reads_append {w' : World} {s : Nat} {a b : List (List D)} {xs ys : List Value} {cs : Array Value} (hxl : xs.length = a.length * s)
    (hx : ∀ i j d, at2 a i j = some d → ∃ v, xs[i * s + j]? = some v ∧ Reads w I v d) (hy : ∀ i j d, at2 b i j = some d → ∃ v, ys[i * s + j]? = some v ∧ Reads w I v d)
    (hcs : ∀ (k : Nat) v, (xs ++ ys)[k]? = some v → cs[k]? = some v) (hI : ∀ b, I b → w'.heap[b]? = w.heap[b]?) :
    ∀ i j d, at2 (a ++ b) i j = some d → ∃ v, cs[i * s + j]? = some v ∧ Reads w' I v d := fun i j d hd => by
  rcases at2_append hd with ⟨hl, hat⟩ | ⟨hl, hat⟩
  · obtain ⟨v, p, q⟩ := hx i j d hat
    refine ⟨v, hcs _ v ?_, q.mono hI (fun _ h => h)⟩
    rw [List.getElem?_append_left ?_]
    · exact p
    · rcases Nat.lt_or_ge (i * s + j) xs.length with h | h
      · exact h
      · rw [List.getElem?_eq_none h] at p; simp at p
  · obtain ⟨v, p, q⟩ := hy _ j d hat
    refine ⟨v, hcs _ v ?_, q.mono hI (fun _ h => h)⟩
    have : i * s = a.length * s + (i - a.length) * s := by rw [← Nat.add_mul]; congr 1; omega
    rw [List.getElem?_append_right (by rw [hxl]; omega), hxl, this]
    rw [show a.length * s + (i - a.length) * s + j - a.length * s = (i - a.length) * s + j by omega]
    exact p

def xappend (T : Tab) (h : Heap) (nid t : Nat) (sv xv : V) : Option (V × Heap × List Nat × List Prop) :=
  match tfind T t with
  | some ti =>
    match ti.k with
    | .slice e =>
      match tfind T e with
      | some te =>
        if te.bytes == 0 || te.size == 0 || te.zero.length != te.size then none else
        match sv with
        | .e (.sc (.ref o)) =>
          match h[o]?, srcEl te h xv with
          | some (some (.arr s elems)), some (es, obs) =>
            if s == te.size then some (.e (.sc (.ref nid)), (h.set o none).set nid (some (.arr s (elems ++ es))), [o, nid], obs ++ [(elems.length + es.length) * te.bytes ≤ 140737488355328])
            else none
          | _, _ => none
        | _ => none
      | none => none
    | _ => none
  | none => none

theorem AllP_append {a b : List Prop} (h : AllP (a ++ b)) : AllP a ∧ AllP b := by
  induction a with
  | nil => exact ⟨trivial, h⟩
  | cons p l ih => exact ⟨⟨h.1, (ih h.2).1⟩, (ih h.2).2⟩

theorem run_app_room {t e : Nat} (hu : P.underlying t = some (.slice e)) {te : TI} (he : TIOK P e te) {g n m cap : Nat} {cur : Array Value} {et : TypeId} (hg : w.heap[g]? = some (.cells cur et (0, 0)))
    {a : Addr} {c : Nat} {news : List Value} (hl : news.length = m * te.size) (hnews : ∀ (j : Nat) u, news[j]? = some u → w.cell? (a.add j) = some u) (h1 : ∀ u ∈ news, u.oneCell' = true)
    (hroom : n + m ≤ cap) (hfit : n * te.size + news.length ≤ cur.size) (ty : TypeId) :
    (Builtin.append_ #[t, t] ty #[.slice (some ⟨g, 0, none⟩) n cap, .slice (some a) m c]).run P w =
      .ok (.slice (some ⟨g, 0, none⟩) (n + m) cap) (w.setRow g (patchG cur.toList (n * te.size) news).toArray) := by
  have hf := run_firstCells_some (P := P) w te.size m a m c news hl hnews
  have hst := run_storeCells_at P g (n * te.size) et news 0 cur w hg (by simpa using hfit) h1
  simp only [Nat.add_zero] at hst
  simp [Builtin.append_, run_underlying hu, he.sizeOf, Builtin.lenOf, hroom, hf, Addr.add_lit, hst, patchG]

theorem run_app_nothing {t e : Nat} (hu : P.underlying t = some (.slice e)) {te : TI} (he : TIOK P e te) {b : Option Addr} {n cap : Nat} (hn : n ≤ cap) {a : Option Addr} {c : Nat} (ty : TypeId) :
    (Builtin.append_ #[t, t] ty #[.slice b n cap, .slice a 0 c]).run P w = .ok (.slice b n cap) w := by
  have hf : (Builtin.firstCells te.size 0 (.slice a 0 c)).run P w = .ok #[] w := by
    cases a <;> simp [Builtin.firstCells, loadCells, loadCellsFrom]
  cases b <;> simp [Builtin.append_, run_underlying hu, he.sizeOf, Builtin.lenOf, hn, hf, storeCells]

theorem xappend_ok {T : Tab} (hT : TOK P T) {nid t : Nat} {sv xv r : V} {h' : Heap} {ids : List Nat} {obs : List Prop} (hx : xappend T h nid t sv xv = some (r, h', ids, obs)) (ho : AllP obs)
    (s : SimH I M h w) (hn : M[nid]? = some none) {u x : Value} (hu : RelV w I M u sv) (hxr : RelV w I M x xv) (ty : TypeId) :
    ∃ y I' M' w', (Builtin.append_ #[t, t] ty #[u, x]).run P w = .ok y w' ∧ Eff ids I M h w I' M' h' w' ∧ RelV w' I' M' y r := by
  unfold xappend at hx
  split at hx
  case h_2 => simp at hx
  rename_i ti hti
  split at hx
  case h_2 => simp at hx
  rename_i e hk
  have hund := (hT.find hti).slice hk
  split at hx
  case h_2 => simp at hx
  rename_i te hte
  have he := hT.find hte
  split at hx
  · simp at hx
  rename_i hbz
  simp only [Bool.or_eq_true, beq_iff_eq, bne_iff_ne, ne_eq, not_or, Decidable.not_not] at hbz
  obtain ⟨⟨hb0, hs0⟩, hzl0⟩ := hbz
  have hspos : 0 < te.size := by omega
  split at hx
  case h_2 => simp at hx
  rename_i o
  split at hx
  case h_2 => simp at hx
  rename_i s' elems es obs' hobj hsrc
  split at hx
  case isFalse => simp at hx
  rename_i hsz
  simp only [beq_iff_eq] at hsz; subst hsz
  simp only [Option.some.injEq, Prod.mk.injEq] at hx
  obtain ⟨rfl, rfl, rfl, rfl⟩ := hx
  obtain ⟨ho1, ho2⟩ := AllP_append ho
  have hbytes := ho2.1
  obtain ⟨m, hm, rfl⟩ := hu
  obtain ⟨m', hm', h1, h2, h0, hh⟩ := s.obj o _ hobj
  rw [hm] at hm'; simp only [Option.some.injEq] at hm'; subst hm'
  obtain ⟨a, cap, rfl, hne, hlen⟩ := src_ok hsrc ho1 s hspos hxr
  obtain ⟨z, hz, hzl⟩ := he.zeroValue
  obtain ⟨f, z', hinf, hf1, hf2, hf3, hf4⟩ := he.info
  have hlt := lt_of_none hn
  have hsmall : elems.length + es.length ≤ 140737488355328 := by
    have : (elems.length + es.length) * 1 ≤ (elems.length + es.length) * te.bytes := Nat.mul_le_mul_left _ (by omega)
    omega
  have hgetn : ∀ e' : ME, (M.set nid (some e'))[nid]? = some (some e') := fun e' => by simp [hlt]
  have hlenapp : ∀ x ∈ elems, x.length = te.size → ∀ x ∈ elems ++ es, True := fun _ _ _ _ _ => trivial
  clear hlenapp
  cases hnil : m.nil with
  | true =>
    have hel := h0 hnil; subst hel
    by_cases hes : es = []
    · subst hes
      refine ⟨.slice none 0 0, I, M.set nid (some ⟨true, 0, 0, 0, te.size, []⟩), w, by simpa [ME.val, hnil] using run_app_nothing (P := P) (w := w) hund he (b := none) (n := 0) (cap := 0) (Nat.le_refl _) ty, ?_, ⟨_, hgetn _, rfl⟩⟩
      exact Eff.move s hn hm hobj (e' := ⟨true, 0, 0, 0, te.size, []⟩) (Nat.le_refl _) (fun _ _ _ => rfl) rfl rfl rfl (fun b hb => by simp [fpE] at hb) (by simp [fpE]) fun _ _ => ⟨rfl, rfl, fun _ => rfl, fun h => by simp at h⟩
    · obtain ⟨b, off, rfl, news, g1, g2, g3, g4⟩ := hne hes
      have hpos : 0 < es.length := List.length_pos_iff.2 hes
      simp only [List.length_nil, Nat.zero_add] at hbytes hsmall
      have hrun := run_append_nil (P := P) w t ty e f z' hund hinf hf3 ⟨b, off, none⟩ es.length cap news (by rw [hf1]; exact g1) (fun j u hu => by rw [add_off]; exact g2 j u hu) hpos (by omega) (by rw [hf2]; omega)
      have hcap := grownCap_ge w es.length 0 e
      refine ⟨_, I, M.set nid (some ⟨false, w.heap.size, es.length, grownCap w es.length 0 e, te.size, []⟩), _, by simpa [ME.val, hnil] using hrun, ?_, ⟨_, hgetn _, rfl⟩⟩
      refine Eff.move s hn hm hobj (e' := ⟨false, w.heap.size, es.length, grownCap w es.length 0 e, te.size, []⟩) (by rw [drew_alloc_size]; omega) (fun k hk _ => push_old hk) rfl rfl rfl
        (fun b hb => by simp only [fpE, Bool.false_eq_true, if_false, List.mem_singleton] at hb; subst hb; exact ⟨by rw [drew_alloc_size]; omega, .inl (Nat.le_refl _)⟩) (by simp [fpE]) fun hI _ => ?_
      refine ⟨rfl, by simp, fun h => by simp at h, fun _ => ⟨hcap, _, e, push_new, ?_, by simpa using hlen, ?_⟩⟩
      · simp only [Array.size_append, List.size_toArray, size_zeroCells, g1]
        have : z'.cells.size = te.size := by rw [← hzl0, ← hf4]; simp
        rw [this, ← Nat.add_mul]; congr 1; omega
      · exact reads_append (w := w) (I := I) (xs := []) (a := []) (by simp) (fun i j d h => by simp [at2] at h) g4 (fun k v hv => by
          simp only [List.nil_append] at hv
          rw [Array.getElem?_append_left]
          · simpa using hv
          · rcases Nat.lt_or_ge k news.length with h | h
            · simpa using h
            · rw [List.getElem?_eq_none h] at hv; simp at hv) hI
  | false =>
    obtain ⟨h3, cs, et, hb, h4, h5, h6⟩ := hh hnil
    have hval : m.val = .slice (some ⟨m.b, 0, none⟩) elems.length m.cap := by simp [ME.val, hnil, h2]
    rw [hval]
    rw [h2] at h3
    obtain ⟨olds, o1, o2, o3, o4⟩ := news_of (w := w) (I := I) (off := 0) (cs := cs) h5 (fun i j d hd => by simpa using h6 i j d hd) hspos
    have hall : ∀ x ∈ elems ++ es, x.length = te.size := fun x hx => by
      rcases List.mem_append.1 hx with h | h
      · exact h5 x h
      · exact hlen x h
    by_cases hes : es = []
    · subst hes
      refine ⟨_, I, M.set nid (some { m with n := elems.length }), w, run_app_nothing (P := P) (w := w) hund he h3 ty, ?_, ⟨_, hgetn _, by simp [ME.val, hnil]⟩⟩
      refine Eff.move s hn hm hobj (e' := { m with n := elems.length }) (Nat.le_refl _) (fun _ _ _ => rfl) rfl rfl rfl (fun b hb => ?_) (by simp [fpE, hnil]) fun _ _ => ?_
      · refine ⟨s.lt o b ?_, .inr ?_⟩
        · simp only [fpAt, hobj, hm]; simpa [fpE, hnil] using hb
        · simpa [fpE, hnil] using hb
      · refine ⟨h1, by simp, fun h => by simp [hnil] at h, fun _ => ⟨h3, cs, et, hb, h4, by simpa using h5, by simpa using h6⟩⟩
    · obtain ⟨b, off, rfl, news, g1, g2, g3, g4⟩ := hne hes
      by_cases hroom : elems.length + es.length ≤ m.cap
      · have hfit : elems.length * te.size + news.length ≤ cs.size := by rw [g1, h4, ← Nat.add_mul]; exact Nat.mul_le_mul_right _ hroom
        have hrun := run_app_room (P := P) hund he hb (n := elems.length) (m := es.length) (a := ⟨b, off, none⟩) (c := cap) g1 (fun j u hu => by rw [add_off]; exact g2 j u hu) g3 hroom hfit ty
        obtain ⟨w1, w2, w3, w4⟩ := setRow_world w m.b (patchG cs.toList (elems.length * te.size) news).toArray
        refine ⟨_, I, M.set nid (some { m with n := elems.length + es.length }), _, hrun, ?_, ⟨_, hgetn _, by simp [ME.val, hnil]⟩⟩
        refine Eff.move s hn hm hobj (e' := { m with n := elems.length + es.length }) (by omega) (fun k hk hnb => setRow_other w m.b k _ (fun heq => hnb (by simp [fpE, hnil, heq]))) w1 w2 w3 (fun b hb => ?_) (by simp [fpE, hnil]) fun hI _ => ?_
        · refine ⟨?_, .inr ?_⟩
          · rw [w4]; exact s.lt o b (by simp only [fpAt, hobj, hm]; simpa [fpE, hnil] using hb)
          · simpa [fpE, hnil] using hb
        · refine ⟨h1, by simp, fun h => by simp [hnil] at h, fun _ => ⟨hroom, _, et, setRow_heap w m.b cs _ et _ hb, ?_, hall, ?_⟩⟩
          · rw [← h4]
            simp only [List.size_toArray]
            rw [patchG_length (by simpa using hfit)]; simp
          · refine reads_append (w := w) (I := I) (xs := olds) o1 o4 g4 (fun k v hv => ?_) hI
            simp only [List.getElem?_toArray]
            rw [patchG_at (by simpa using hfit)]
            by_cases hk : k < olds.length
            · rw [List.getElem?_append_left hk] at hv
              rw [if_neg (by omega)]
              have := o2 k v hv
              simpa using this
            · rw [List.getElem?_append_right (by omega)] at hv
              have hk2 : k - olds.length < news.length := by
                rcases Nat.lt_or_ge (k - olds.length) news.length with h | h
                · exact h
                · rw [List.getElem?_eq_none h] at hv; simp at hv
              rw [if_pos (by omega), ← o1]; exact hv
      · have hrun := run_append_grow (P := P) w t ty e f z' hund hinf hf3 ⟨m.b, 0, none⟩ elems.length m.cap olds (by rw [hf1]; exact o1) (fun j u hu => by rw [add_off, cell_of hb]; exact o2 j u hu)
          ⟨b, off, none⟩ es.length cap news (by rw [hf1]; exact g1) (fun j u hu => by rw [add_off]; exact g2 j u hu) (by omega) (by omega) (by rw [hf2]; exact growslice_fits (by omega) hbytes)
        have hcap := grownCap_ge w (elems.length + es.length) m.cap e
        refine ⟨_, I, M.set nid (some ⟨false, w.heap.size, elems.length + es.length, grownCap w (elems.length + es.length) m.cap e, te.size, []⟩), _, hrun, ?_, ⟨_, hgetn _, rfl⟩⟩
        refine Eff.move s hn hm hobj (e' := ⟨false, w.heap.size, elems.length + es.length, grownCap w (elems.length + es.length) m.cap e, te.size, []⟩) (by rw [drew_alloc_size]; omega) (fun k hk _ => push_old hk) rfl rfl rfl
          (fun b hb => by simp only [fpE, Bool.false_eq_true, if_false, List.mem_singleton] at hb; subst hb; exact ⟨by rw [drew_alloc_size]; omega, .inl (Nat.le_refl _)⟩) (by simp [fpE]) fun hI _ => ?_
        refine ⟨rfl, by simp, fun h => by simp at h, fun _ => ⟨hcap, _, e, push_new, ?_, hall, ?_⟩⟩
        · simp only [Array.size_append, List.size_toArray, size_zeroCells, g1, o1]
          have : z'.cells.size = te.size := by rw [← hzl0, ← hf4]; simp
          rw [this, ← Nat.add_mul, ← Nat.add_mul]; congr 1; omega
        · refine reads_append (w := w) (I := I) (xs := olds) o1 o4 g4 (fun k v hv => ?_) hI
          rw [Array.getElem?_append_left]
          · simpa using hv
          · rcases Nat.lt_or_ge k (olds ++ news).length with h | h
            · simpa using h
            · rw [List.getElem?_eq_none h] at hv; simp at hv

end

end Go.AM
