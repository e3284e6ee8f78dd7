/- The law of transposes holds at every input: MatrixTransposes returns true, and the input reads as it did. -/
import Derived.Test.YtbodjgljjaafaaaOpn
import Derived.Test.YtbodjgljjaafaaaRows
import Derived.WalkKit
import Derived.ProofKit
import Derived.OpenShut
import Derived.ShutString
import Derived.ChangeOld
import Derived.Below
import Derived.Carry
namespace Go.Proofs.Ytbodjgljjaafaaa
open Go.ChangeShapes Go.WideShapes Go.ChangeAt Go.RowKit Go.Joins Go.AM
open Go.ChangeMaps (open_string shut_string)
set_option linter.unusedVariables false

theorem own : ownKnob Try.prog.godebug = none := by kernel_rfl
theorem laidOut : laidOutB Try.prog = true := by kernel_rfl

theorem byte_nonneg {n : Int} (h : (Lit.int .u8 n).wf = true) : 0 ≤ n := by
  have h1 : IntKind.u8.min ≤ n ∧ n ≤ IntKind.u8.max := by simpa [Lit.wf] using h
  have h2 : IntKind.u8.min = 0 := by decide
  omega

set_option maxRecDepth 100000 in
/-- The input, opened. -/
theorem opened3 {W : World} {H : Type} {enc : TypeId × Value → H} {v0 : Value} {d0 : DataW H} {p0 : List MemPlace} {base : Nat} (hok : Value.okWide Try.prog W .any base 41 v0) (h : DataW.Trod enc Try.prog W 0 (fun _ => true) true 41 v0 d0 p0) :
    ∃ (x0 x1 x2 x3 : Int) (a b c : List Int), 0 ≤ x0 ∧ 0 ≤ x1 ∧ 0 ≤ x2 ∧ 0 ≤ x3 ∧ RelVL W (oldI W) [] [v0] [d3 x0 x1 x2 x3 a b c] := by
  obtain ⟨cs, rfl, hsz⟩ := okWide_struct Try.underlying41 hok
  have hc41 : Try.prog.cellsOf 41 = 7 := by kernel_rfl
  have hc39 : Try.prog.cellsOf 39 = 4 := by kernel_rfl
  have hc22 : Try.prog.cellsOf 22 = 1 := by kernel_rfl
  have hc5 : Try.prog.cellsOf 5 = 1 := by kernel_rfl
  have hc25 : Try.prog.cellsOf 25 = 1 := by kernel_rfl
  rw [hc41] at hsz
  obtain ⟨l⟩ := cs
  match l, hsz with
  | [c0, c1, c2, c3, c4, c5, c6], _ =>
    obtain ⟨fuel, hf⟩ := h
    have hf' : DataW.trod enc Try.prog W 0 (fun _ => true) true fuel 41 [c0, c1, c2, c3, c4, c5, c6] = some (d0, p0) := by simpa [Value.cells] using hf
    obtain ⟨y0, y1, y2, y3, n, _, _, g0, g1, g2, g3⟩ := trod_struct4 Try.underlying41 hf'
    simp only [hc39, hc22, List.drop_zero, List.take, List.drop] at g0 g1 g2 g3
    obtain ⟨z0, z1, z2, z3, m, _, k0, k1, k2, k3⟩ := trod_array4 Try.underlying39 hc5 g0
    obtain ⟨x0, e0, _, w0⟩ := DataW.trod_int Try.underlying5 k0
    obtain ⟨x1, e1, _, w1⟩ := DataW.trod_int Try.underlying5 k1
    obtain ⟨x2, e2, _, w2⟩ := DataW.trod_int Try.underlying5 k2
    obtain ⟨x3, e3, _, w3⟩ := DataW.trod_int Try.underlying5 k3
    obtain ⟨u4, a, e4, r4⟩ := reads_opened Try.underlying22 Try.underlying25 hc25 g1
    obtain ⟨u5, b, e5, r5⟩ := reads_opened Try.underlying22 Try.underlying25 hc25 g2
    obtain ⟨u6, c, e6, r6⟩ := reads_opened Try.underlying22 Try.underlying25 hc25 g3
    simp only [List.cons.injEq, and_true] at e0 e1 e2 e3 e4 e5 e6
    subst e0; subst e1; subst e2; subst e3; subst e4; subst e5; subst e6
    refine ⟨x0, x1, x2, x3, a, b, c, byte_nonneg w0, byte_nonneg w1, byte_nonneg w2, byte_nonneg w3, rfl, fun i v x hv hx => ?_⟩
    match i, hv, hx with
    | 0, hv, hx =>
      simp only [List.getElem?_cons_zero, Option.some.injEq] at hv hx
      subst hv; subst hx
      refine ⟨_, rfl, rfl, fun j u s hu hs => ?_⟩
      match j, hu, hs with
      | 0, hu, hs => simp at hu hs; subst hu; subst hs; exact Reads.int _ _
      | 1, hu, hs => simp at hu hs; subst hu; subst hs; exact Reads.int _ _
      | 2, hu, hs => simp at hu hs; subst hu; subst hs; exact Reads.int _ _
      | 3, hu, hs => simp at hu hs; subst hu; subst hs; exact Reads.int _ _
      | 4, hu, hs => simp at hu hs; subst hu; subst hs; exact r4
      | 5, hu, hs => simp at hu hs; subst hu; subst hs; exact r5
      | 6, hu, hs => simp at hu hs; subst hu; subst hs; exact r6
      | j + 7, hu, hs => simp at hu
    | i + 1, hv, hx => simp at hv

set_option maxRecDepth 100000 in
theorem lifted (os : Os) (started : os.Started) (H : Type) (enc : TypeId × Value → H) :
    ReturnsInHanded {} Try.checked os 4 .any (Rows.matrixTransposesSpec.pre6 enc Try.prog Try.f4 Rows.matrixTransposesRow.domain false) (Rows.matrixTransposesSpec.post enc Try.prog Try.f4 false true false false) := by
  refine returnsInHanded_of_change (C := Try.checked) own started (by kernel_rfl) Try.func4
    (ChangeSpec.witness6 (enc := enc) (C := Try.checked) false ⟨#[], #[.agg #[.int .u8 0, .int .u8 0, .int .u8 0, .int .u8 0, .slice none 0 0, .slice none 0 0, .slice none 0 0]], []⟩ 8 (by kernel_rfl) (by kernel_rfl) (by kernel_rfl) (by kernel_rfl)) ?_
  intro W base args ds gs before hval0 hW hcnd _
  have hval : ∀ (j : Nat) t v, Try.f4.params[j]? = some t → args[j]? = some v → Value.okWide Try.prog W .any base t v := hval0
  have hW' := hW
  obtain ⟨p, q, hA0, hV, rfl, hfz, hnd⟩ := hW
  have hA : DataW.TrodAll enc Try.prog W 0 (fun _ => true) true Try.f4.params.toList args.toList ds p := hA0
  rw [Try.params4] at hA hval
  obtain ⟨v0, vs0, d0, ds0, p0, q0, hargs, rfl, rfl, h0, r0⟩ := trodAll_cons hA
  obtain ⟨rfl, rfl, rfl⟩ := trodAll_nil r0
  obtain rfl : args = #[v0] := by cases args; simp_all
  obtain ⟨rfl, rfl⟩ := trodVars_none hV
  have k0 := h0
  have lt0 : ∀ x ∈ p0, x.block < W.heap.size := by obtain ⟨m, hm⟩ := k0; exact DataW.trod_lt m _ _ _ hm
  obtain ⟨x0, x1, x2, x3, a, b, c, b0, b1, b2, b3, hrel⟩ := opened3 (hval 0 41 v0 rfl rfl) h0
  clear hA0 hval0
  refine (law_end (transposes_ok sanity_ok a b c b0 b1 b2 b3) hrel).mono fun e W' ⟨he, bel⟩ => ?_
  subst he
  exact ⟨_, rfl, _, _, _, [], _, [], hW', trodAll_mk1 (shut_bool Try.underlying4 _), (trodAll_cons_mk (Below.trod laidOut (by kernel_rfl) (of_decide_eq_true (by kernel_rfl)) k0 bel lt0) trodAll_mk0), rfl, bel.frame _, fun h => by cases h⟩

theorem over : Rows.matrixTransposesRow.holds Try.pinned (OpenSpec.ofChange Rows.matrixTransposesSpec) :=
  OpenClaim.holds_of_wide 4 Try.f4 rfl rfl rfl rfl rfl rfl rfl ⟨rfl, rfl, rfl, rfl, rfl⟩ rfl rfl rfl rfl rfl (by kernel_rfl) Try.func4 (by kernel_rfl)
    (of_decide_eq_true (by kernel_rfl)) (by unfold Func.isWrapper; first | (rw [if_pos (by decide +kernel)]; kernel_rfl) | (rw [if_neg (by decide +kernel)]; exact ⟨rfl, rfl⟩))
    (fun os started H enc _ => lifted os started H enc)

/-- The statement. -/
theorem proved : Rows.MatrixTransposesSaid := over

end Go.Proofs.Ytbodjgljjaafaaa
