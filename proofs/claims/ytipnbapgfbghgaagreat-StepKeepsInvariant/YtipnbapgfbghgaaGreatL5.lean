/- Package step: every state of the run is valid; the laws of validity and of resuming. -/
import Derived.Test.YtipnbapgfbghgaaGreatL4
namespace Go.AM
open Go.Proofs.Tryz
theorem take_elr {w : List Int} {k j : Nat} (h : j < k) : elr (w.take k) j = elr w j := by simp [elr, List.getElem?_take, h]
theorem piv_is {w : List Int} {p : Nat} (hp : p < w.length) (hz : ∀ j, j < p → elr w j = 0) (hn : elr w p ≠ 0) : piv w = (p : Int) := by
  rcases piv_cases w with ⟨_, h⟩ | ⟨q, h1, h2, h3, h4⟩
  · exact absurd (h p hp) hn
  · rcases Nat.lt_trichotomy q p with g | g | g
    · exact absurd (hz q g) h3
    · rw [h1, g]
    · exact absurd (h4 p g) hn
theorem HI.valid {r c t k : Nat} {m : List (List Int)} (hm : Mx r c m) (h : HI r t k m) (ht : t ≤ r) (hk : k ≤ c) : validR r t k m = true := by
  obtain ⟨p, hp⟩ := h.pv
  have cr : ∀ i, i < t → (cor t k m).getD i [] = (m.getD i []).take k := fun i hi => cor_row hi (by rw [hm.1]; exact ht)
  have ce : ∀ i j, i < t → j < k → el (cor t k m) i j = el m i j := fun i j hi hj => by
    rw [← elr_el, cr i hi, take_elr hj, elr_el]
  have pv : ∀ i, i < t → piv ((cor t k m).getD i []) = (p i : Int) := fun i hi => by
    obtain ⟨g1, g2, g3, _⟩ := hp i hi
    obtain ⟨_, hl⟩ := mx_row hm (show i < r by omega)
    rw [cr i hi]
    refine piv_is (by rw [List.length_take]; omega) (fun j hj => by rw [take_elr (by omega), elr_el]; exact g2 j hj) ?_
    rw [take_elr g1, elr_el]
    omega
  rw [validR_iff]
  refine ⟨isHB_true fun n hn => ?_, (rankF_full _ _).2 fun i hi => by rw [pv i hi]; omega, ?_⟩
  · rw [rowIs_iff (pv n hn)]
    obtain ⟨g1, g2, g3, g4⟩ := hp n hn
    refine ⟨?_, by rw [ce n _ hn g1]; exact g3, fun l hl => by rw [ce l _ (by omega) g1, ce n _ hn g1]; exact (g4 l hl).2⟩
    cases n with
    | zero => show (-1 : Int) < _; omega
    | succ n =>
      rw [lastP_succ, pv n (by omega), if_neg (by omega)]
      have := (g4 n (by omega)).1
      omega
  · unfold zeroB
    rw [List.all_eq_true]
    intro i hi
    have hi := List.mem_range.1 hi
    by_cases hit : i < t
    · simp [hit]
    · obtain ⟨_, hl⟩ := mx_row hm hi
      rw [(zP_iff (by omega)).2 fun j hj => h.ze i (by omega) hi j hj, Bool.or_true]
section
variable {r c N L : Nat} {A : List (List Int)} (X : PSx r c N L A)
include X
theorem PSx.vx {s : PS} (h : PInv r c N A s) : VX r c (N * qB r N c) A (apL r c s.d A) (apL r r s.d (idM r)) (apCL r s.d (idM r)) := by
  obtain ⟨b1, b2, b3⟩ := X.bds h
  refine ⟨X.hm, apL_mx _ X.hm, apL_mx _ (table_mx _ _ _), apCL_mx _ (table_mx _ _ _), X.km.mono (Nat.le_mul_of_pos_right _ (qB_pos _ _ _)), b1, b2, b3, fun y hy => ?_, X.hr, X.hc⟩
  refine Sz.of_lt L X.hL (Nat.lt_of_le_of_lt hy ?_)
  rw [Nat.mul_comm]; exact X.big
theorem PSx.valid {s : PS} (h : PInv r c N A s) (g : HI r s.t s.k (apL r c s.d A)) : validI r c A (apL r c s.d A) (apL r r s.d (idM r)) (apCL r s.d (idM r)) s.t s.k (s.fin r c) = true := by
  have e1 : mmul r r c (apL r r s.d (idM r)) A = apL r c s.d A := (apL_mat h.va X.hm).symm
  have e2 : mmul r r r (apL r r s.d (idM r)) (apCL r s.d (idM r)) = idM r := uv_id h.va
  have e3 : finI r c s.t s.k = s.fin r c := by simp [finI, PS.fin]
  have h1 := h.tr; have h2 := h.tk; have h3 := h.kc
  unfold validI
  rw [Int.toNat_natCast, Int.toNat_natCast, HI.valid (apL_mx _ X.hm) g h1 h3, e1, e2, e3]
  simp [h1, h2, h3]
theorem PSx.rvalid {s : PS} (h : PInv r c N A s) (g : HI r s.t s.k (apL r c s.d A)) : FnD prog 17 [eS r c A s] (vb true) [] := by
  have := rvalidP_ok (X.vx h) s.t s.k (s.fin r c)
  rw [X.valid h g] at this
  exact this
theorem PSx.pvalid {s : PS} (h : PInv r c N A s) (g : HI r s.t s.k (apL r c s.d A)) : FnD prog 19 [eS r c A s] (vb true) [] := by
  have := pvalid_ok (X.vx h) s.t s.k (s.fin r c)
  rw [X.valid h g] at this
  exact this
theorem PSx.same {s : PS} (hs : PInv r c N A s) : FnD prog 11 [eS r c A s, eS r c A s] (vb true) [] := by
  obtain ⟨b1, b2, b3⟩ := X.bds hs
  have szm : ∀ {m : List (List Int)}, BdM (N * qB r N c) m → SzM m := fun h x hx z hz => X.sz (h x hx z hz)
  exact psame_ok X.hm (apL_mx _ X.hm) (apL_mx _ (table_mx _ _ _)) (apCL_mx _ (table_mx _ _ _)) (szm (X.km.mono (Nat.le_mul_of_pos_right _ (qB_pos _ _ _)))) (szm b1) (szm b2) (szm b3) X.hr X.hc
end
theorem hi_run {r c : Nat} {a : List (List Int)} (n : Nat) : HI r (PS.run r c a n ⟨[], 0, 0⟩).t (PS.run r c a n ⟨[], 0, 0⟩).k (apL r c (PS.run r c a n ⟨[], 0, 0⟩).d a) :=
  HI.run n (s := ⟨[], 0, 0⟩) HI.zero
theorem run_mono {r c : Nat} {a : List (List Int)} (n : Nat) : (PS.run r c a n ⟨[], 0, 0⟩).t ≤ (PS.run r c a (n + 1) ⟨[], 0, 0⟩).t ∧ (PS.run r c a n ⟨[], 0, 0⟩).k ≤ (PS.run r c a (n + 1) ⟨[], 0, 0⟩).k := by
  cases hf : (PS.run r c a n ⟨[], 0, 0⟩).fin r c with
  | true => rw [PS.run_add, PS.run_fin hf]; exact ⟨Nat.le_refl _, Nat.le_refl _⟩
  | false =>
    rw [← run_next n _ hf]
    simp only [PS.fin, Bool.or_eq_false_iff, decide_eq_false_iff_not] at hf
    exact PS.next_mono (by omega)
theorem stepKeeps_ok (x0 : Int) (g0 : IntKind.u8.min ≤ x0 ∧ x0 ≤ IntKind.u8.max) (x1 : Int) (g1 : IntKind.u8.min ≤ x1 ∧ x1 ≤ IntKind.u8.max) (l2 : List (List D)) (g2 : l2.length ≤ 9223372036854775807 ∧ ∀ x ∈ l2, DOKL [.i .i8] x) :
    FnD prog 5 [.e (.agg [.dat (.int .u8 x0), .dat (.int .u8 x1), .dat (.sl l2)])] (vb true) [] := by
  obtain ⟨v, rfl, _⟩ := i8s_of g2
  obtain ⟨r, c, hr, hc, hA⟩ := rawmade_ok v g0.1 g1.1
  obtain ⟨a, ea⟩ : ∃ a, a = table r c (fillG c v) := ⟨_, rfl⟩
  have ma : Mx r c a := ea ▸ table_mx _ _ _
  have ka : BdM 9 a := ea ▸ filled_bd
  rw [← ea] at hA
  clear ea
  have X := pxs_small ma ka hr hc
  have hI : ∀ n, PInv r c 9 a (PS.run r c a n ⟨[], 0, 0⟩) := fun n => PInv.run ma ka n (PInv.start ma ka)
  refine vc5_ok _ _ _ (R := Out _) ?_
  unfold vc5
  have p0 : FnD prog 10 [vA [sD (dI r), sD (dI c), sD (dL (matD (om a)))]] (eS r c a ⟨[], 0, 0⟩) [] := by rw [matD_om]; exact pstart_ok X
  refine ⟨_, sanity21_ok, _, _, _, hA, _, _, _, _, _, _, _, _, _, _, _, _, _, _, _, p0, ?_⟩
  refine ⟨fun p0 p1 p10 p11 p12 p13 p14 p2 p3 p4 p5 p6 p7 p8 p9 z => ∃ n : Nat, St0 r c 9 a p0 p1 p10 p11 p12 p13 p14 p2 p3 p4 p5 p6 p7 p8 p9 (PS.run r c a n ⟨[], 0, 0⟩) ∧ z = (n : Int) ∧ n ≤ 40,
    fun _ _ _ _ _ _ _ _ _ _ _ _ _ _ _ z => ((40 : Int) - z).toNat, ⟨0, ⟨⟨rfl, rfl, rfl, rfl, rfl, rfl, rfl, rfl, rfl, rfl, rfl, rfl, rfl, rfl, rfl⟩, hI 0⟩, rfl, by omega⟩, ?_⟩
  rintro _ _ _ _ _ _ _ _ _ _ _ _ _ _ _ _ ⟨n, ⟨⟨rfl, rfl, rfl, rfl, rfl, rfl, rfl, rfl, rfl, rfl, rfl, rfl, rfl, rfl, rfl⟩, hi⟩, rfl, hn⟩
  refine ⟨fun h => ?_, fun h => outb rfl⟩
  have hlt : n < 40 := by have := of_decide_eq_true h; omega
  have h1 := pstep_ok X hi (n0 := 1) (by decide)
  rw [show (1 : Int).toNat = 1 from rfl, ← PS.run_add] at h1
  obtain ⟨m1, m2⟩ := run_mono (r := r) (c := c) (a := a) n
  have nx : (∃ m : Nat, St0 r c 9 a r c r (rows (apCL r (PS.run r c a (n + 1) ⟨[], 0, 0⟩).d (idM r))) (PS.run r c a (n + 1) ⟨[], 0, 0⟩).t (PS.run r c a (n + 1) ⟨[], 0, 0⟩).k ((PS.run r c a (n + 1) ⟨[], 0, 0⟩).fin r c) (rows a) r c (rows (apL r c (PS.run r c a (n + 1) ⟨[], 0, 0⟩).d a)) r r (rows (apL r r (PS.run r c a (n + 1) ⟨[], 0, 0⟩).d (idM r))) r (PS.run r c a m ⟨[], 0, 0⟩) ∧ IntKind.i64.wrap ((n : Int) + 1) = (m : Int) ∧ m ≤ 40) ∧ ((40 : Int) - IntKind.i64.wrap ((n : Int) + 1)).toNat < ((40 : Int) - (n : Int)).toNat := by
    rw [inc64 (by omega)]
    exact ⟨⟨n + 1, ⟨⟨rfl, rfl, rfl, rfl, rfl, rfl, rfl, rfl, rfl, rfl, rfl, rfl, rfl, rfl, rfl⟩, hI (n + 1)⟩, rfl, by omega⟩, by omega⟩
  refine ⟨_, X.rvalid hi (hi_run n), fun h => absurd h (by decide), fun _ => ⟨_, X.pvalid hi (hi_run n), fun h => absurd h (by decide), fun _ => ?_⟩⟩
  refine ⟨_, _, _, _, _, _, _, _, _, _, _, _, _, _, _, h1, fun h => ?_, fun _ => ⟨fun h => ?_, fun _ => ⟨fun hf => ?_, fun _ => nx⟩⟩⟩
  · have := of_decide_eq_true h; omega
  · have := of_decide_eq_true h; omega
  · have e : PS.run r c a (n + 1) ⟨[], 0, 0⟩ = PS.run r c a n ⟨[], 0, 0⟩ := by rw [PS.run_add, PS.run_fin hf]
    have h11 : FnD prog 11 [eS r c a (PS.run r c a n ⟨[], 0, 0⟩), eS r c a (PS.run r c a (n + 1) ⟨[], 0, 0⟩)] (vb true) [] := by rw [e]; exact X.same hi
    exact ⟨_, h11, fun h => absurd h (by decide), fun _ => nx⟩
end Go.AM
