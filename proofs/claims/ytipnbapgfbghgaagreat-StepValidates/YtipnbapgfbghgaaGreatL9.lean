/- Package step: Valid of changed states agrees with the reference. -/
import Derived.Test.YtipnbapgfbghgaaGreatL8
namespace Go.AM
open Go.Proofs.Tryz
def chE (r c : Nat) (m : List (List Int)) (i j : Nat) (z : Int) : List (List Int) := table r c fun a b => if a = i ∧ b = j then z else el m a b
theorem chE_bd {r c K : Nat} {m : List (List Int)} (hm : Mx r c m) (km : BdM K m) {i j : Nat} {z : Int} (hz : z.natAbs ≤ K + 128) : BdM (K + 128) (chE r c m i j z) := table_bd fun a b ha hb => by
  split
  · exact hz
  · have := el_bd hm km ha hb; omega
theorem tmod_ix {x : Int} {n : Nat} (h0 : 0 ≤ x) (hn : 0 < n) : ∃ i : Nat, x.tmod n = (i : Int) ∧ i < n := by
  have h1 := Int.tmod_nonneg (n : Int) h0
  have h2 := Int.tmod_lt_of_pos x (b := (n : Int)) (by omega)
  exact ⟨(x.tmod n).toNat, by omega, by omega⟩
theorem chg_ok {r c K : Nat} {m : List (List Int)} (hm : Mx r c m) (km : BdM K m) (hS : ∀ y : Int, y.natAbs ≤ K + 128 → Sz y) {c1 c2 c3 : Int} (h1 : 0 ≤ c1 ∧ c1 ≤ 255) (h2 : 0 ≤ c2 ∧ c2 ≤ 255) (h3 : -128 ≤ c3 ∧ c3 ≤ 127)
    {Rest : DLL → Prop} (h : ∀ m', Mx r c m' → BdM (K + 128) m' → Rest (om m')) :
    ((decide ((r : Int) > (0 : Int))) = true →
      ((decide ((c : Int) > (0 : Int))) = true →
        ((r : Int) ≠ 0) ∧
        (((c : Int) ≠ 0) ∧
        (∃ (x01 : Bool) (x11 : DL) (r04 : Bool) (r110 : DL) (r05 : Bool) (r113 : DL),
        (0 ≤ ((IntKind.i64.wrap c1).tmod (r : Int)) ∧ ((IntKind.i64.wrap c1).tmod (r : Int)) < ((om m).length : Int)) ∧
        (∃ l, (om m)[(((IntKind.i64.wrap c1).tmod (r : Int))).toNat]? = some l ∧ 0 ≤ ((IntKind.i64.wrap c2).tmod (c : Int)) ∧ ((IntKind.i64.wrap c2).tmod (c : Int)) < (l.length : Int)) ∧
        (at2 (om m) (((IntKind.i64.wrap c1).tmod (r : Int))).toNat (((IntKind.i64.wrap c2).tmod (c : Int))).toNat = some [(dB x01), (dL x11)]) ∧
        (FnD prog 25 [(vD (dI (IntKind.i64.wrap c3)))] (vA [(sD (dB r04)), (sD (dL r110))]) []) ∧
        (FnD prog 24 [(vA [(sD (dB x01)), (sD (dL x11))]), (vA [(sD (dB r04)), (sD (dL r110))])] (vA [(sD (dB r05)), (sD (dL r113))]) []) ∧
        Rest ((om m).modify (((IntKind.i64.wrap c1).tmod (r : Int))).toNat (fun qz => qz.set (((IntKind.i64.wrap c2).tmod (c : Int))).toNat [(dB r05), (dL r113)]))))) ∧
      ((decide ((c : Int) > (0 : Int))) = false → Rest (om m))) ∧
    ((decide ((r : Int) > (0 : Int))) = false → Rest (om m)) := by
  have stay : Rest (om m) := h m hm (km.mono (Nat.le_add_right _ _))
  refine ⟨fun g1 => ⟨fun g2 => ?_, fun _ => stay⟩, fun _ => stay⟩
  have g1 := of_decide_eq_true g1
  have g2 := of_decide_eq_true g2
  rw [w64 (n := c1) (by omega) (by omega), w64 (n := c2) (by omega) (by omega), w64 (n := c3) (by omega) (by omega)]
  obtain ⟨i, ei, hi⟩ := tmod_ix h1.1 (show 0 < r by omega)
  obtain ⟨j, ej, hj⟩ := tmod_ix h2.1 (show 0 < c by omega)
  rw [ei, ej]
  have hb := el_bd hm km hi hj
  have e1 : (om m).modify (i : Int).toNat (fun qz => qz.set (j : Int).toNat (cI (el m i j + c3))) = om (chE r c m i j (el m i j + c3)) := by
    have := om_set (r := r) (c := c) (g := el m) (z := el m i j + c3) hi hj
    rw [← mx_table hm] at this
    rw [Int.toNat_natCast, Int.toNat_natCast]
    exact this
  refine ⟨by omega, by omega, _, _, _, _, _, _, ⟨by omega, by rw [omx_len hm]; omega⟩, omx_in hm hi hj, at2_elN hm hi hj, rof_ok c3 (by omega) (by omega), radd_ok (hS _ (by omega)) (hS _ (by omega)), ?_⟩
  have := h (chE r c m i j (el m i j + c3)) (table_mx _ _ _) (chE_bd hm km (by omega))
  rw [← e1] at this
  exact this
theorem psized_no {n : Nat} (hn : 0 < n) : FnD prog 44 [eM 0 0 [], vi n, vi n] (vb false) [] := by
  refine vc44_ok _ _ _ _ _ (R := Out _) ?_
  unfold vc44
  have hz : Mx 0 0 ([] : List (List Int)) := ⟨rfl, fun _ h => by simp at h⟩
  refine ⟨_, mvalid_ok hz (fun _ h => by simp at h) (by decide) (by decide), fun _ => ⟨fun h => ?_, fun _ => outb rfl⟩, fun h => absurd h (by decide)⟩
  have : (0 : Int) = (n : Int) := by simpa using h
  omega
def eO (r c : Nat) (RA RM : DLL) (ur : Int) (RU : DL) (RV : DLL) (t k : Int) (b : Bool) : V :=
  vA [(sD (dI r)), (sD (dI c)), (sD (dL (matD RA))), (sD (dI r)), (sD (dI c)), (sD (dL (matD RM))), (sD (dI ur)), (sD (dI ur)), (sD (dL RU)), (sD (dI r)), (sD (dI r)), (sD (dL (matD RV))), (sD (dI t)), (sD (dI k)), (sD (dB b))]
def LfS (r c : Nat) (RA RM : DLL) (ur : Int) (RU : DL) (RV : DLL) (t k : Int) (b : Bool) : Prop :=
  (true = true → ∃ (x y : Bool), (FnD prog 19 [eO r c RA RM ur RU RV t k b] (vD (dB x)) []) ∧ (FnD prog 17 [eO r c RA RM ur RU RV t k b] (vD (dB y)) []) ∧ (Out (vb true) (vD (dB (x == y))) [])) ∧
  (true = false → Out (vb true) (vD (dB false)) [])
theorem lf_ok {r c K : Nat} {A m u v : List (List Int)} (C : VX r c K A m u v) (t k : Int) (b : Bool) : LfS r c (om A) (om m) r (matD (om u)) (om v) t k b := by
  unfold LfS eO
  rw [matD_om, matD_om, matD_om, matD_om]
  exact ⟨fun _ => ⟨_, _, pvalid_ok C t k b, rvalidP_ok C t k b, outb (by simp)⟩, fun h => absurd h (by decide)⟩
theorem lf_no {r c K : Nat} {A m u v : List (List Int)} (C : VX r c K A m u v) (t k : Int) (b : Bool) : LfS r c (om A) (om m) 0 [] (om v) t k b := by
  have hr := C.hr; have hc := C.hc
  have sA := C.kA.szm C.hS; have sm := C.km.szm C.hS; have sv := C.kv.szm C.hS
  have hz : Mx 0 0 ([] : List (List Int)) := ⟨rfl, fun _ h => by simp at h⟩
  by_cases h0 : r = 0
  · subst h0
    have C' : VX 0 c K A m [] v := ⟨C.hA, C.hm, hz, C.hv, C.kA, C.km, fun _ h => by simp at h, C.kv, C.hS, C.hr, C.hc⟩
    have := lf_ok C' t k b
    exact this
  · unfold LfS eO
    rw [matD_om, matD_om, matD_om]
    have e1 := sized_ok C.hm sm hr hc r c
    have e2 := sized_ok hz (fun _ h => by simp at h) (by decide) (by decide) r r
    have e3 := sized_ok C.hv sv hr hr r r
    rw [decide_eq_true ⟨rfl, rfl⟩] at e1 e3
    rw [decide_eq_false (by omega)] at e2
    have q1 : FnD prog 19 [vA [(sD (dI r)), (sD (dI c)), (sD (dL (rows A))), (sD (dI r)), (sD (dI c)), (sD (dL (rows m))), (sD (dI (0 : Int))), (sD (dI (0 : Int))), (sD (dL [])), (sD (dI r)), (sD (dI r)), (sD (dL (rows v))), (sD (dI t)), (sD (dI k)), (sD (dB b))]] (vb false) [] := by
      refine vc19_ok _ _ _ _ _ _ _ _ _ _ _ _ _ _ _ (R := Out _) ?_
      unfold vc19
      exact ⟨_, mvalid_ok C.hA sA hr hc, fun h => absurd h (by decide), fun _ => ⟨_, psized_ok C.hm sm hr hc, fun h => absurd h (by decide), fun _ => ⟨_, psized_no (by omega), fun _ => outb rfl, fun h => absurd h (by decide)⟩⟩⟩
    have q2 : FnD prog 17 [vA [(sD (dI r)), (sD (dI c)), (sD (dL (rows A))), (sD (dI r)), (sD (dI c)), (sD (dL (rows m))), (sD (dI (0 : Int))), (sD (dI (0 : Int))), (sD (dL [])), (sD (dI r)), (sD (dI r)), (sD (dL (rows v))), (sD (dI t)), (sD (dI k)), (sD (dB b))]] (vb false) [] := by
      refine vc17_ok _ _ _ _ _ _ _ _ _ _ _ _ _ _ _ (R := Out _) ?_
      unfold vc17
      exact ⟨_, rvalidM_ok C.hA sA hr hc, fun h => absurd h (by decide), fun _ => ⟨_, e1, _, e2, _, e3, fun h => absurd h (by decide), fun _ => ⟨fun _ => outb rfl, fun h => absurd h (by decide)⟩⟩⟩
    exact ⟨fun _ => ⟨_, _, q1, q2, outb rfl⟩, fun h => absurd h (by decide)⟩
theorem rcopiedO_ok {r c N L : Nat} {A : List (List Int)} (X : PSx r c N L A) {s : PS} (h : PInv r c N A s) :
    FnD prog 18 [eS r c A s] (vA [(sD (dI r)), (sD (dI c)), (S.ref 0), (sD (dI r)), (sD (dI c)), (S.ref 1), (sD (dI r)), (sD (dI r)), (S.ref 2), (sD (dI r)), (sD (dI r)), (S.ref 3), (sD (dI s.t)), (sD (dI s.k)), (sD (dB (s.fin r c)))])
      [(some (Obj.mat 2 (om A))), (some (Obj.mat 2 (om (apL r c s.d A)))), (some (Obj.mat 2 (om (apL r r s.d (idM r))))), (some (Obj.mat 2 (om (apCL r s.d (idM r)))))] := by
  refine vc18o_ok _ _ _ _ _ _ _ _ _ _ _ _ _ _ _ (R := fun v h => v = _ ∧ h = _) ?_
  unfold vc18o
  have V := X.vx h
  have cp : ∀ {n k : Nat} {m : List (List Int)}, Mx n k m → BdM (N * qB r N c) m → n ≤ 4294967296 → k ≤ 4294967296 → FnD prog 42 [eM n k m] (eMo n k) (oM m) := fun hm km hn hk => rcopied_ok hm (fun i j hi hj => X.sz (el_bd hm km hi hj)) hn hk
  exact ⟨_, _, _, _, _, _, _, _, _, _, _, _, cp V.hA V.kA X.hr X.hc, cp V.hm V.km X.hr X.hc, cp V.hu V.ku X.hr X.hr, cp V.hv V.kv X.hr X.hr, rfl, rfl⟩
theorem big_ch : ∀ r, r ≤ 4 → ∀ c, c ≤ 4 → 4294967296 * ((9 * qB r 9 c + 128) * (9 * qB r 9 c + 128)) < 4294967296 ^ 1000 := by decide +kernel
set_option maxRecDepth 100000 in
theorem stepValidates_ok (x0 : Int) (g0 : IntKind.u8.min ≤ x0 ∧ x0 ≤ IntKind.u8.max) (x1 : Int) (g1 : IntKind.u8.min ≤ x1 ∧ x1 ≤ IntKind.u8.max) (l2 : DL) (g2 : l2.length ≤ 9223372036854775807 ∧ ∀ x ∈ l2, DOKL [.i .i8] x)
    (n : Int) (gn : IntKind.u8.min ≤ n ∧ n ≤ IntKind.u8.max) (c0 : Int) (h0 : IntKind.u8.min ≤ c0 ∧ c0 ≤ IntKind.u8.max) (c1 : Int) (h1 : IntKind.u8.min ≤ c1 ∧ c1 ≤ IntKind.u8.max) (c2 : Int) (h2 : IntKind.u8.min ≤ c2 ∧ c2 ≤ IntKind.u8.max) (c3 : Int) (h3 : IntKind.i8.min ≤ c3 ∧ c3 ≤ IntKind.i8.max) :
    FnD prog 7 [.e (.agg [.dat (.int .u8 x0), .dat (.int .u8 x1), .dat (.sl l2)]), .e (.sc (.dat (.int .u8 n))), .e (.agg [.dat (.int .u8 c0), .dat (.int .u8 c1), .dat (.int .u8 c2), .dat (.int .i8 c3)])] (vb true) [] := by
  have h1 : 0 ≤ c1 ∧ c1 ≤ 255 := h1
  have h2 : 0 ≤ c2 ∧ c2 ≤ 255 := h2
  have h3 : -128 ≤ c3 ∧ c3 ≤ 127 := h3
  have h0 : 0 ≤ c0 ∧ c0 ≤ 255 := h0
  have gn : 0 ≤ n ∧ n ≤ 255 := gn
  obtain ⟨v, rfl, _⟩ := i8s_of g2
  obtain ⟨r, c, hr, hc, hA⟩ := rawmade_ok v g0.1 g1.1
  obtain ⟨a, ea⟩ : ∃ a, a = table r c (fillG c v) := ⟨_, rfl⟩
  have ma : Mx r c a := ea ▸ table_mx _ _ _
  have ka : BdM 9 a := ea ▸ filled_bd
  rw [← ea] at hA
  clear ea
  have X := pxs_small ma ka hr hc
  obtain ⟨q, hq, hq31⟩ := tmod_ix gn.1 (show 0 < 31 by decide)
  have e31 : IntKind.i64.wrap (n.tmod 31) = (q : Int) := by
    rw [show n.tmod 31 = (q : Int) from hq, w64 (by omega) (by omega)]
  have hi : PInv r c 9 a (PS.run r c a q ⟨[], 0, 0⟩) := PInv.run ma ka q (PInv.start ma ka)
  have V := X.vx hi
  obtain ⟨s, es⟩ : ∃ s, s = PS.run r c a q ⟨[], 0, 0⟩ := ⟨_, rfl⟩
  obtain ⟨K, eK⟩ : ∃ K, K = 9 * qB r 9 c := ⟨_, rfl⟩
  have rs : FnD prog 14 [eS r c a ⟨[], 0, 0⟩, vi q] (eS r c a s) [] := by rw [es]; exact rstep_ok X (PInv.start ma ka) (n0 := (q : Int)) (by omega)
  rw [← es] at hi V
  clear es
  have cp := rcopiedO_ok X hi
  rw [← eK] at V
  have hS : ∀ y : Int, y.natAbs ≤ 4294967296 * ((K + 128) * (K + 128)) → Sz y := fun y hy => by
    refine Sz.of_lt 1000 (by decide) (Nat.lt_of_le_of_lt hy ?_)
    rw [eK]; exact big_ch r hr c hc
  have hS1 : ∀ y : Int, y.natAbs ≤ K + 128 → Sz y := fun y hy => bigK hS hy
  have up : ∀ {m : List (List Int)}, BdM K m → BdM (K + 128) m := fun h => h.mono (Nat.le_add_right _ _)
  have mk : ∀ {A' m' u' v' : List (List Int)}, Mx r c A' → Mx r c m' → Mx r r u' → Mx r r v' → BdM (K + 128) A' → BdM (K + 128) m' → BdM (K + 128) u' → BdM (K + 128) v' → VX r c (K + 128) A' m' u' v' :=
    fun a1 a2 a3 a4 b1 b2 b3 b4 => ⟨a1, a2, a3, a4, b1, b2, b3, b4, hS, by omega, by omega⟩
  refine vc7_ok _ _ _ _ _ _ _ _ (R := Out _) ?_
  unfold vc7
  rw [e31]
  have r0 : FnD prog 12 [vA [sD (dI r), sD (dI c), sD (dL (matD (om a)))]] (eS r c a ⟨[], 0, 0⟩) [] := by rw [matD_om]; exact rstart_ok X
  refine ⟨_, sanity21_ok, _, _, _, hA, _, _, _, _, _, _, _, _, _, _, _, _, _, _, _, _, _, _, _, _, _, _, _, _, _, _, _, _, _, _, _, _, _, _, _, _, _, _, _, _, _, _, _, _, _, r0, by decide, rs, cp, by decide, ?_⟩
  refine ⟨fun _ => lf_ok V _ _ _, fun n4 => ⟨fun _ => lf_ok V _ _ _, fun n5 => ⟨fun _ => lf_ok V _ _ _, fun n6 => ⟨fun _ => lf_no V _ _ _, fun n7 => ?_⟩⟩⟩⟩
  refine ⟨fun _ => ⟨by decide, ?_⟩, fun n0 => ⟨fun _ => ⟨by decide, ?_⟩, fun n1 => ⟨fun _ => ⟨by decide, ?_⟩, fun n2 => ⟨?_, by decide, ?_⟩⟩⟩⟩
  · exact chg_ok V.hA V.kA hS1 h1 h2 h3 (Rest := fun z => LfS r c z (om (apL r c s.d a)) r (matD (om (apL r r s.d (idM r)))) (om (apCL r s.d (idM r))) s.t s.k (s.fin r c)) fun m' hm' km' => lf_ok (mk hm' V.hm V.hu V.hv km' (up V.km) (up V.ku) (up V.kv)) _ _ _
  · exact chg_ok V.hm V.km hS1 h1 h2 h3 (Rest := fun z => LfS r c (om a) z r (matD (om (apL r r s.d (idM r)))) (om (apCL r s.d (idM r))) s.t s.k (s.fin r c)) fun m' hm' km' => lf_ok (mk V.hA hm' V.hu V.hv (up V.kA) km' (up V.ku) (up V.kv)) _ _ _
  · exact chg_ok V.hu V.ku hS1 h1 h2 h3 (Rest := fun z => LfS r c (om a) (om (apL r c s.d a)) r (matD z) (om (apCL r s.d (idM r))) s.t s.k (s.fin r c)) fun m' hm' km' => lf_ok (mk V.hA V.hm hm' V.hv (up V.kA) (up V.km) km' (up V.kv)) _ _ _
  · obtain ⟨i, e, hi8⟩ := tmod_ix h0.1 (show 0 < 8 by decide)
    have e : c0.tmod 8 = (i : Int) := e
    rw [e] at n4 n5 n6 n7 n0 n1 n2 ⊢
    simp only [beq_eq_false_iff_ne, ne_eq, decide_eq_false_iff_not] at n4 n5 n6 n7 n0 n1 n2
    exact decide_eq_true (by omega)
  · exact chg_ok V.hv V.kv hS1 h1 h2 h3 (Rest := fun z => LfS r c (om a) (om (apL r c s.d a)) r (matD (om (apL r r s.d (idM r)))) z s.t s.k (s.fin r c)) fun m' hm' km' => lf_ok (mk V.hA V.hm V.hu hm' (up V.kA) (up V.km) (up V.ku) km') _ _ _
end Go.AM
