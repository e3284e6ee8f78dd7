/- The law of the ring of matrices. -/
import Derived.Test.YtbodjgljjaafaaaL3
namespace Go.AM
open Go.Proofs.Try

/-- 'Three' opened: bytes in lists. -/
theorem i8s_of {l : List (List D)} (h : l.length ≤ 9223372036854775807 ∧ ∀ x ∈ l, DOKL [.i .i8] x) : ∃ zs : List Int, l = i8s zs ∧ ∀ z ∈ zs, -128 ≤ z ∧ z ≤ 127 := by
  obtain ⟨zs, h1, h2⟩ := ints_of h.2
  exact ⟨zs, h1, h2⟩

abbrev BIG : Nat := 1329227995784915872903807060280344576

theorem ring_ok (x0 : Int) (g0 : IntKind.u8.min ≤ x0 ∧ x0 ≤ IntKind.u8.max) (x1 : Int) (g1 : IntKind.u8.min ≤ x1 ∧ x1 ≤ IntKind.u8.max) (x2 : Int) (g2 : IntKind.u8.min ≤ x2 ∧ x2 ≤ IntKind.u8.max) (x3 : Int) (g3 : IntKind.u8.min ≤ x3 ∧ x3 ≤ IntKind.u8.max)
    (l4 : List (List D)) (g4 : l4.length ≤ 9223372036854775807 ∧ ∀ x ∈ l4, DOKL [.i .i8] x) (l5 : List (List D)) (g5 : l5.length ≤ 9223372036854775807 ∧ ∀ x ∈ l5, DOKL [.i .i8] x) (l6 : List (List D)) (g6 : l6.length ≤ 9223372036854775807 ∧ ∀ x ∈ l6, DOKL [.i .i8] x)
    (l7 : List (List D)) (g7 : l7.length ≤ 9223372036854775807 ∧ ∀ x ∈ l7, DOKL [.i .i8] x) :
    FnD prog 11 [.e (.agg [.dat (.int .u8 x0), .dat (.int .u8 x1), .dat (.int .u8 x2), .dat (.int .u8 x3), .dat (.sl l4), .dat (.sl l5), .dat (.sl l6)]), .e (.sc (.dat (.sl l7)))] (vb true) [] := by
  obtain ⟨a, rfl, _⟩ := i8s_of g4
  obtain ⟨b, rfl, _⟩ := i8s_of g5
  obtain ⟨c, rfl, _⟩ := i8s_of g6
  obtain ⟨d, rfl, _⟩ := i8s_of g7
  obtain ⟨n0, n1, n2, n3, b0, b1, b2, b3, hchain⟩ := chain_ok a b c g0.1 g1.1 g2.1 g3.1
  obtain ⟨A, hA⟩ : ∃ A, A = table n0 n1 (fillG n1 a) := ⟨_, rfl⟩
  obtain ⟨B, hB⟩ : ∃ B, B = table n1 n2 (fillG n2 b) := ⟨_, rfl⟩
  obtain ⟨C, hC⟩ : ∃ C, C = table n2 n3 (fillG n3 c) := ⟨_, rfl⟩
  obtain ⟨B2, hB2⟩ : ∃ B2, B2 = table n1 n2 (fillG n2 d) := ⟨_, rfl⟩
  have mA : Mx n0 n1 A := hA ▸ table_mx _ _ _
  have mB : Mx n1 n2 B := hB ▸ table_mx _ _ _
  have mC : Mx n2 n3 C := hC ▸ table_mx _ _ _
  have mB2 : Mx n1 n2 B2 := hB2 ▸ table_mx _ _ _
  have kA : BdM 9 A := hA ▸ filled_bd
  have kB : BdM 9 B := hB ▸ filled_bd
  have kC : BdM 9 C := hC ▸ filled_bd
  have kB2 : BdM 9 B2 := hB2 ▸ filled_bd
  have hfill := filled_ok (r := n1) (c := n2) (v := d) (by omega) (by omega)
  rw [← hA, ← hB, ← hC] at hchain
  rw [← hB2] at hfill
  clear hA hB hC hB2
  have big : ∀ K : Nat, K ≤ 1000000 → K ≤ BIG := fun K h => by unfold BIG; omega
  have mAB := mmul_mx n0 n1 n2 A B
  have kAB : BdM 1000 (mmul n0 n1 n2 A B) := (mmul_bd mA mB kA kB).mono (by omega)
  have mBC := mmul_mx n1 n2 n3 B C
  have kBC : BdM 1000 (mmul n1 n2 n3 B C) := (mmul_bd mB mC kB kC).mono (by omega)
  have mS := mcomb_mx n1 n2 (· + ·) B B2
  have kS : BdM 1000 (mcomb n1 n2 (· + ·) B B2) := (mcomb_bd mB mB2 kB kB2).1.mono (by omega)
  have mO := mmul_mx n0 n1 n2 A B2
  have kO : BdM 1000 (mmul n0 n1 n2 A B2) := (mmul_bd mA mB2 kA kB2).mono (by omega)
  have mI : Mx n1 n1 (table n1 n1 delta) := table_mx _ _ _
  have kI := (ident_bd n1).mono (L := 1000) (by omega)
  have up : ∀ {m : List (List Int)}, BdM 9 m → BdM 1000 m := fun h => h.mono (by omega)
  refine vc11_ok _ _ _ _ _ _ _ _ (R := Out _) ?_
  unfold vc11
  refine ⟨true, sanity_ok, _, _, _, _, _, _, _, _, _, hchain, _, _, _, hfill, ?_⟩
  simp only [matD_om]
  refine ⟨_, _, _, _, mmul_ok mA mB kA kB (by omega) (by omega) (by omega) (by omega), _, _, _, _, mmul_ok mB mC kB kC (by omega) (by omega) (by omega) (by omega), _, _, _, _, madd_ok mB mB2 kB kB2 (by omega) (by omega) (by omega),
    _, _, _, _, madd_ok mB2 mB kB2 kB (by omega) (by omega) (by omega), fun h => absurd h (by decide), fun _ => ⟨fun h => absurd h (by decide), fun _ => ⟨fun h => absurd h (by decide), fun _ => ⟨fun h => absurd h (by decide), fun _ => ?_⟩⟩⟩⟩
  refine ⟨true, sized_yes mAB kAB (by omega) (by omega) (big _ (by omega)), fun h => absurd h (by decide), fun _ => ?_⟩
  refine ⟨true, sized_yes mBC kBC (by omega) (by omega) (big _ (by omega)), fun h => absurd h (by decide), fun _ => ?_⟩
  refine ⟨true, sized_yes mS kS (by omega) (by omega) (big _ (by omega)), fun h => absurd h (by decide), fun _ => ?_⟩
  refine ⟨_, _, _, _, mmul_ok mAB mC kAB (up kC) (by omega) (by omega) (by omega) (by omega), _, _, _, _, mmul_ok mA mBC (up kA) kBC (by omega) (by omega) (by omega) (by omega), _, _, _, _, mmul_ok mA mS (up kA) kS (by omega) (by omega) (by omega) (by omega),
    _, _, _, _, mmul_ok mA mB2 kA kB2 (by omega) (by omega) (by omega) (by omega), fun h => absurd h (by decide), fun _ => ⟨fun h => absurd h (by decide), fun _ => ⟨fun h => absurd h (by decide), fun _ => ⟨fun h => absurd h (by decide), fun _ => ?_⟩⟩⟩⟩
  refine ⟨true, sized_yes mO kO (by omega) (by omega) (big _ (by omega)), fun h => absurd h (by decide), fun _ => ?_⟩
  refine ⟨_, _, _, _, madd_ok mAB mO kAB kO (by omega) (by omega) (by omega), _, _, _, _, _, _, _, mident_ok (by omega), mmul_ok mA mI (up kA) kI (by omega) (by omega) (by omega) (by omega), _, _, _, _, msub_ok mS mB2 kS (up kB2) (by omega) (by omega) (by omega),
    fun _ => ⟨fun _ => ⟨fun _ => ?_, fun h => absurd h (by decide)⟩, fun h => absurd h (by decide)⟩, fun h => absurd h (by decide)⟩
  have kL := mmul_bd mAB mC kAB (up kC)
  have kR := mmul_bd mA mBC (up kA) kBC
  have kP := (mcomb_bd mAB mO kAB kO).1
  have kQ := mmul_bd mA mS (up kA) kS
  have L : ∀ n, n ≤ 4 → n * (1000 * 1000) ≤ 4000000 := fun n h => by omega
  refine ⟨true, same_yes (K := 4000000) (mmul_mx _ _ _ _ _) (kL.mono (L _ b2)) (kR.mono (L _ b1)) (mmul_assoc A B C) (by omega) (by omega) (by omega), fun _ => ?_, fun h => nomatch h⟩
  refine ⟨true, same_yes (K := 4000000) (mmul_mx _ _ _ _ _) (kQ.mono (L _ b1)) (kP.mono (by omega)) (mmul_add_right A B B2) (by omega) (by omega) (by omega), fun _ => ?_, fun h => nomatch h⟩
  refine ⟨true, same_yes (K := 1000) mS kS (mcomb_comm n1 n2 B B2 ▸ kS) (mcomb_comm n1 n2 B B2) (by omega) (by omega) (by omega), fun _ => ?_, fun h => nomatch h⟩
  refine ⟨true, same_yes (K := 1000) (mmul_mx _ _ _ _ _) ((mmul_ident mA).symm ▸ up kA) (up kA) (mmul_ident mA) (by omega) (by omega) (by omega), fun _ => ?_, fun h => nomatch h⟩
  refine ⟨true, same_yes (K := 1000) (mcomb_mx _ _ _ _ _) ((mcomb_sub mB).symm ▸ up kB) (up kB) (mcomb_sub mB) (by omega) (by omega) (by omega), fun _ => ⟨rfl, rfl⟩, fun h => nomatch h⟩

end Go.AM

/- What functions of the program come to: group P5. Printed by vc.py. -/
set_option maxRecDepth 100000
set_option linter.unusedVariables false

namespace Go.AM
open Go.Proofs.Try

/- f5 torsion/torsionlaw05.MatrixBlocks -/
def vc5 (x0 : Int) (x1 : Int) (x2 : Int) (x3 : Int) (x4 : List (List D)) (x5 : List (List D)) (x6 : List (List D)) (d : List (List D)) (k : Int) (R : V → Heap → Prop) : Prop :=
  ∃ (r : Bool),
  (FnD prog 14 [] (vD (dB r)) []) ∧
  (∃ (r0 : Int) (r1 : Int) (r2 : List (List D)) (r01 : Int) (r11 : Int) (r21 : List (List D)) (r02 : Int) (r12 : Int) (r22 : List (List D)),
  (FnD prog 19 [(vA [(sD (D.int .u8 x0)), (sD (D.int .u8 x1)), (sD (D.int .u8 x2)), (sD (D.int .u8 x3)), (sD (dL x4)), (sD (dL x5)), (sD (dL x6))])] (V.tup [(E.agg [(sD (dI r0)), (sD (dI r1)), (sD (dL r2))]), (E.agg [(sD (dI r01)), (sD (dI r11)), (sD (dL r21))]), (E.agg [(sD (dI r02)), (sD (dI r12)), (sD (dL r22))])]) []) ∧
  (∃ (r03 : Int) (r13 : Int) (rrows : List (List (List D))),
  ((4 : Int) ≠ 0) ∧
  (FnD prog 24 [(vD (dI (IntKind.i64.wrap (k.tmod (4 : Int))))), (vD (dI r1)), (vD (dL d))] (vA [(sD (dI r03)), (sD (dI r13)), (S.ref 0)]) [(some (Obj.mat 2 rrows))]) ∧
  (∃ (r04 : Int) (r14 : Int) (rrows1 : List (List (List D))),
  (FnD prog 24 [(vD (dI r01)), (vD (dI (IntKind.i64.wrap (k.tmod (4 : Int))))), (vD (dL d))] (vA [(sD (dI r04)), (sD (dI r14)), (S.ref 0)]) [(some (Obj.mat 2 rrows1))]) ∧
  (∃ (r05 : Int) (r15 : Int) (r23 : List (List D)) (r3 : Int),
  (FnD prog 25 [(vA [(sD (dI r0)), (sD (dI r1)), (sD (dL r2))]), (vA [(sD (dI r03)), (sD (dI r13)), (sD (dL (matD rrows)))])] (V.tup [(E.agg [(sD (dI r05)), (sD (dI r15)), (sD (dL r23))]), (eD (dI r3))]) []) ∧
  (∃ (r06 : Int) (r16 : Int) (r24 : List (List D)) (r4 : Int),
  (FnD prog 26 [(vA [(sD (dI r01)), (sD (dI r11)), (sD (dL r21))]), (vA [(sD (dI r04)), (sD (dI r14)), (sD (dL (matD rrows1)))])] (V.tup [(E.agg [(sD (dI r06)), (sD (dI r16)), (sD (dL r24))]), (eD (dI r4))]) []) ∧
  (((r3 != (0 : Int)) = true →
    R (vD (dB false)) []) ∧
  ((r3 != (0 : Int)) = false →
    ((r4 != (0 : Int)) = true →
      R (vD (dB false)) []) ∧
    ((r4 != (0 : Int)) = false →
      ∃ (r5 : Bool),
      (FnD prog 22 [(vA [(sD (dI r05)), (sD (dI r15)), (sD (dL r23))]), (vD (dI (IntKind.i64.wrap (r0 + r03)))), (vD (dI r1))] (vD (dB r5)) []) ∧
      (((!r5) = true →
        R (vD (dB false)) []) ∧
      ((!r5) = false →
        ∃ (r6 : Bool),
        (FnD prog 22 [(vA [(sD (dI r06)), (sD (dI r16)), (sD (dL r24))]), (vD (dI r01)), (vD (dI (IntKind.i64.wrap (r11 + r14))))] (vD (dB r6)) []) ∧
        (((!r6) = true →
          R (vD (dB false)) []) ∧
        ((!r6) = false →
          ∃ (r07 : Int) (r17 : Int) (r25 : List (List D)) (r7 : Int),
          (FnD prog 20 [(vA [(sD (dI r05)), (sD (dI r15)), (sD (dL r23))]), (vA [(sD (dI r01)), (sD (dI r11)), (sD (dL r21))])] (V.tup [(E.agg [(sD (dI r07)), (sD (dI r17)), (sD (dL r25))]), (eD (dI r7))]) []) ∧
          (∃ (r08 : Int) (r18 : Int) (r26 : List (List D)) (r8 : Int),
          (FnD prog 20 [(vA [(sD (dI r0)), (sD (dI r1)), (sD (dL r2))]), (vA [(sD (dI r06)), (sD (dI r16)), (sD (dL r24))])] (V.tup [(E.agg [(sD (dI r08)), (sD (dI r18)), (sD (dL r26))]), (eD (dI r8))]) []) ∧
          (∃ (r09 : Int) (r19 : Int) (r27 : List (List D)) (r010 : Int) (r110 : Int) (r28 : List (List D)) (r011 : Int) (r111 : Int) (r29 : List (List D)),
          (FnD prog 27 [(vA [(sD (dI r0)), (sD (dI r1)), (sD (dL r2))]), (vA [(sD (dI r01)), (sD (dI r11)), (sD (dL r21))])] (vA [(sD (dI r09)), (sD (dI r19)), (sD (dL r27))]) []) ∧
          (FnD prog 27 [(vA [(sD (dI r03)), (sD (dI r13)), (sD (dL (matD rrows)))]), (vA [(sD (dI r01)), (sD (dI r11)), (sD (dL r21))])] (vA [(sD (dI r010)), (sD (dI r110)), (sD (dL r28))]) []) ∧
          (FnD prog 27 [(vA [(sD (dI r0)), (sD (dI r1)), (sD (dL r2))]), (vA [(sD (dI r04)), (sD (dI r14)), (sD (dL (matD rrows1)))])] (vA [(sD (dI r011)), (sD (dI r111)), (sD (dL r29))]) []) ∧
          (∃ (r012 : Int) (r112 : Int) (r210 : List (List D)) (r9 : Int),
          (FnD prog 25 [(vA [(sD (dI r09)), (sD (dI r19)), (sD (dL r27))]), (vA [(sD (dI r010)), (sD (dI r110)), (sD (dL r28))])] (V.tup [(E.agg [(sD (dI r012)), (sD (dI r112)), (sD (dL r210))]), (eD (dI r9))]) []) ∧
          (∃ (r013 : Int) (r113 : Int) (r211 : List (List D)) (r10 : Int),
          (FnD prog 26 [(vA [(sD (dI r09)), (sD (dI r19)), (sD (dL r27))]), (vA [(sD (dI r011)), (sD (dI r111)), (sD (dL r29))])] (V.tup [(E.agg [(sD (dI r013)), (sD (dI r113)), (sD (dL r211))]), (eD (dI r10))]) []) ∧
          (∃ (r014 : Int) (r114 : Int) (rrows2 : List (List (List D))),
          (FnD prog 24 [(vD (dI r0)), (vD (dI (IntKind.i64.wrap (k.tmod (4 : Int))))), (vD (dL d))] (vA [(sD (dI r014)), (sD (dI r114)), (S.ref 0)]) [(some (Obj.mat 2 rrows2))]) ∧
          (∃ (r015 : Int) (r115 : Int) (r212 : List (List D)) (r20 : Int),
          (FnD prog 26 [(vA [(sD (dI r0)), (sD (dI r1)), (sD (dL r2))]), (vA [(sD (dI r014)), (sD (dI r114)), (sD (dL (matD rrows2)))])] (V.tup [(E.agg [(sD (dI r015)), (sD (dI r115)), (sD (dL r212))]), (eD (dI r20))]) []) ∧
          (∃ (r016 : Int) (r116 : Int) (rrows3 : List (List (List D))),
          (FnD prog 24 [(vD (dI (IntKind.i64.wrap (k.tmod (4 : Int))))), (vD (dI r11)), (vD (dL d))] (vA [(sD (dI r016)), (sD (dI r116)), (S.ref 0)]) [(some (Obj.mat 2 rrows3))]) ∧
          (∃ (r017 : Int) (r117 : Int) (r213 : List (List D)) (r30 : Int),
          (FnD prog 25 [(vA [(sD (dI r01)), (sD (dI r11)), (sD (dL r21))]), (vA [(sD (dI r016)), (sD (dI r116)), (sD (dL (matD rrows3)))])] (V.tup [(E.agg [(sD (dI r017)), (sD (dI r117)), (sD (dL r213))]), (eD (dI r30))]) []) ∧
          (((r7 != (0 : Int)) = true →
            R (vD (dB false)) []) ∧
          ((r7 != (0 : Int)) = false →
            ((r8 != (0 : Int)) = true →
              R (vD (dB false)) []) ∧
            ((r8 != (0 : Int)) = false →
              ((r9 != (0 : Int)) = true →
                R (vD (dB false)) []) ∧
              ((r9 != (0 : Int)) = false →
                ((r10 != (0 : Int)) = true →
                  R (vD (dB false)) []) ∧
                ((r10 != (0 : Int)) = false →
                  ((r20 != (0 : Int)) = true →
                    R (vD (dB false)) []) ∧
                  ((r20 != (0 : Int)) = false →
                    ((r30 != (0 : Int)) = true →
                      R (vD (dB false)) []) ∧
                    ((r30 != (0 : Int)) = false →
                      ∃ (r31 : Bool),
                      (FnD prog 22 [(vA [(sD (dI r015)), (sD (dI r115)), (sD (dL r212))]), (vD (dI r0)), (vD (dI (IntKind.i64.wrap (r1 + r114))))] (vD (dB r31)) []) ∧
                      (((!r31) = true →
                        R (vD (dB false)) []) ∧
                      ((!r31) = false →
                        ∃ (r32 : Bool),
                        (FnD prog 22 [(vA [(sD (dI r017)), (sD (dI r117)), (sD (dL r213))]), (vD (dI (IntKind.i64.wrap (r01 + r016)))), (vD (dI r11))] (vD (dB r32)) []) ∧
                        (((!r32) = true →
                          R (vD (dB false)) []) ∧
                        ((!r32) = false →
                          ∃ (r018 : Int) (r118 : Int) (r214 : List (List D)) (r33 : Int),
                          (FnD prog 20 [(vA [(sD (dI r015)), (sD (dI r115)), (sD (dL r212))]), (vA [(sD (dI r017)), (sD (dI r117)), (sD (dL r213))])] (V.tup [(E.agg [(sD (dI r018)), (sD (dI r118)), (sD (dL r214))]), (eD (dI r33))]) []) ∧
                          (∃ (r019 : Int) (r119 : Int) (r215 : List (List D)) (r020 : Int) (r120 : Int) (r216 : List (List D)) (r34 : Int),
                          (FnD prog 27 [(vA [(sD (dI r014)), (sD (dI r114)), (sD (dL (matD rrows2)))]), (vA [(sD (dI r016)), (sD (dI r116)), (sD (dL (matD rrows3)))])] (vA [(sD (dI r019)), (sD (dI r119)), (sD (dL r215))]) []) ∧
                          (FnD prog 28 [(vA [(sD (dI r09)), (sD (dI r19)), (sD (dL r27))]), (vA [(sD (dI r019)), (sD (dI r119)), (sD (dL r215))])] (V.tup [(E.agg [(sD (dI r020)), (sD (dI r120)), (sD (dL r216))]), (eD (dI r34))]) []) ∧
                          (((r33 == (0 : Int)) = true →
                            ((r34 == (0 : Int)) = true →
                              ∃ (r35 : Bool),
                              (FnD prog 23 [(vA [(sD (dI r07)), (sD (dI r17)), (sD (dL r25))]), (vA [(sD (dI r012)), (sD (dI r112)), (sD (dL r210))])] (vD (dB r35)) []) ∧
                              ((r35 = true →
                                ∃ (r36 : Bool),
                                (FnD prog 23 [(vA [(sD (dI r08)), (sD (dI r18)), (sD (dL r26))]), (vA [(sD (dI r013)), (sD (dI r113)), (sD (dL r211))])] (vD (dB r36)) []) ∧
                                ((r36 = true →
                                  ∃ (r37 : Bool),
                                  (FnD prog 23 [(vA [(sD (dI r018)), (sD (dI r118)), (sD (dL r214))]), (vA [(sD (dI r020)), (sD (dI r120)), (sD (dL r216))])] (vD (dB r37)) []) ∧
                                  ((r37 = true →
                                    R (vD (dB r)) []) ∧
                                  (r37 = false →
                                    R (vD (dB false)) []))) ∧
                                (r36 = false →
                                  R (vD (dB false)) []))) ∧
                              (r35 = false →
                                R (vD (dB false)) []))) ∧
                            ((r34 == (0 : Int)) = false →
                              R (vD (dB false)) [])) ∧
                          ((r33 == (0 : Int)) = false →
                            R (vD (dB false)) []))))))))))))))))))))))))))))))))))

theorem vc5_ok (x0 : Int) (x1 : Int) (x2 : Int) (x3 : Int) (x4 : List (List D)) (x5 : List (List D)) (x6 : List (List D)) (d : List (List D)) (k : Int) {R : V → Heap → Prop} (h : vc5 x0 x1 x2 x3 x4 x5 x6 d k R) : FnG prog 5 [(vA [(sD (D.int .u8 x0)), (sD (D.int .u8 x1)), (sD (D.int .u8 x2)), (sD (D.int .u8 x3)), (sD (dL x4)), (sD (dL x5)), (sD (dL x6))]), (vD (dL d)), (vD (D.int .u8 k))] [] R :=
  FnG.vcg hT func5 ntmps5 (.reg 1 [(0, Or.none, 0, 1)] [1, 2, 3] [0] [] <| .exb fun r => .reg 0 [(0, (Or.call (vD (dB r)) [] []), 0, 0)] [1, 2, 3, 7] [0] [] <| .ex fun r0 => .ex fun r1 => .exl fun r2 => .ex fun r01 => .ex fun r11 => .exl fun r21 => .ex fun r02 => .ex fun r12 => .exl fun r22 => .reg 3 [(1, (Or.call (V.tup [(E.agg [(sD (dI r0)), (sD (dI r1)), (sD (dL r2))]), (E.agg [(sD (dI r01)), (sD (dI r11)), (sD (dL r21))]), (E.agg [(sD (dI r02)), (sD (dI r12)), (sD (dL r22))])]) [] []), 0, 0), (6, Or.none, 1, 1), (7, Or.none, 2, 1), (8, Or.none, 3, 1)] [1, 2, 7, 8, 9] [1, 2] [] <| .ex fun r03 => .ex fun r13 => .exm fun rrows => .reg 2 [(6, (Or.call (vA [(sD (dI r03)), (sD (dI r13)), (S.ref 0)]) [(some (Obj.mat 2 rrows))] []), 2, 1), (7, Or.none, 3, 1)] [1, 2, 7, 8, 9, 11] [0, 1, 3, 2] [] <| .ex fun r04 => .ex fun r14 => .exm fun rrows1 => .reg 2 [(6, (Or.call (vA [(sD (dI r04)), (sD (dI r14)), (S.ref 0)]) [(some (Obj.mat 2 rrows1))] []), 4, 1), (7, Or.none, 5, 1)] [1, 2, 7, 8, 9, 11, 12] [0, 1, 2, 5, 3, 4] [.old 1] <| .frz [4] <| .ex fun r05 => .ex fun r15 => .exl fun r23 => .ex fun r3 => .reg 1 [(2, (Or.call (V.tup [(E.agg [(sD (dI r05)), (sD (dI r15)), (sD (dL r23))]), (eD (dI r3))]) [] []), 0, 0), (6, Or.none, 6, 1)] [1, 2, 7, 8, 9, 11, 12, 13, 14] [0, 1, 2, 3, 6, 5] [] <| .frz [5] <| .ex fun r06 => .ex fun r16 => .exl fun r24 => .ex fun r4 => .reg 1 [(2, (Or.call (V.tup [(E.agg [(sD (dI r06)), (sD (dI r16)), (sD (dL r24))]), (eD (dI r4))]) [] []), 0, 0), (6, Or.none, 6, 1)] [1, 2, 7, 8, 9, 11, 12, 13, 14, 15, 16] [0, 1, 2, 3, 4, 6] [] <| .spl ((r3 != (0 : Int))) (.reg 0 [(2, (Or.bool true), 0, 0)] [1, 2, 7, 8, 9, 11, 12, 13, 15, 100] [0, 1, 2, 3, 4, 5] [.old 0] <| .ct true none <| .r0 [6] <| .ret []) (.spl ((r4 != (0 : Int))) (.reg 0 [(2, (Or.bool false), 0, 0), (6, (Or.bool true), 0, 0)] [1, 2, 7, 8, 9, 11, 12, 13, 15, 100] [0, 1, 2, 3, 4, 5] [.old 1, .old 0] <| .ct true none <| .r0 [6] <| .ret []) (.exb fun r5 => .ob (FnD prog 22 [(vA [(sD (dI r05)), (sD (dI r15)), (sD (dL r23))]), (vD (dI (IntKind.i64.wrap (r0 + r03)))), (vD (dI r1))] (vD (dB r5)) []) <| .spl ((!r5)) (.reg 0 [(2, (Or.bool false), 0, 0), (6, (Or.bool false), 0, 0), (15, (Or.call (vD (dB r5)) [] []), 0, 0), (18, (Or.bool true), 0, 0)] [1, 2, 7, 8, 9, 11, 12, 13, 15, 100] [0, 1, 2, 3, 4, 5] [.old 3, .old 2, .old 1, .old 0] <| .ct true none <| .r0 [6] <| .ret []) (.exb fun r6 => .reg 0 [(2, (Or.bool false), 0, 0), (6, (Or.bool false), 0, 0), (15, (Or.call (vD (dB r5)) [] []), 0, 0), (18, (Or.bool false), 0, 0), (27, (Or.call (vD (dB r6)) [] []), 0, 0)] [1, 2, 7, 8, 9, 11, 12, 13, 15, 100] [0, 1, 2, 3, 4, 5] [.old 3, .old 2, .old 1, .old 0] <| .c2 (.r0 [6] <| .ret []) (.ex fun r07 => .ex fun r17 => .exl fun r25 => .ex fun r7 => .reg 1 [(2, (Or.call (V.tup [(E.agg [(sD (dI r07)), (sD (dI r17)), (sD (dL r25))]), (eD (dI r7))]) [] []), 0, 0), (6, Or.none, 6, 1)] [1, 2, 7, 8, 9, 11, 12, 15, 17, 18] [0, 1, 2, 3, 5, 6] [] <| .ex fun r08 => .ex fun r18 => .exl fun r26 => .ex fun r8 => .reg 1 [(2, (Or.call (V.tup [(E.agg [(sD (dI r08)), (sD (dI r18)), (sD (dL r26))]), (eD (dI r8))]) [] []), 0, 0), (6, Or.none, 6, 1)] [1, 2, 7, 8, 9, 11, 12, 17, 18, 19, 20] [0, 1, 2, 3, 5, 6] [] <| .ex fun r09 => .ex fun r19 => .exl fun r27 => .ex fun r010 => .ex fun r110 => .exl fun r28 => .ex fun r011 => .ex fun r111 => .exl fun r29 => .drw 3 [(2, ((Or.call (vA [(sD (dI r09)), (sD (dI r19)), (sD (dL r27))]) [] []), 0, 0), []), (5, ((Or.call (vA [(sD (dI r010)), (sD (dI r110)), (sD (dL r28))]) [] []), 0, 0), []), (8, ((Or.call (vA [(sD (dI r011)), (sD (dI r111)), (sD (dL r29))]) [] []), 0, 0), []), (9, (Or.none, 6, 1), [6]), (10, (Or.none, 7, 1), [7]), (11, (Or.none, 8, 1), [8]), (12, (Or.none, 0, 0), [6]), (13, (Or.none, 0, 0), [7]), (14, (Or.none, 0, 0), [8])] [1, 2, 7, 8, 9, 17, 18, 19, 20, 21, 22, 23] [0, 1, 4, 5, 6, 7, 8] [] <| .ex fun r012 => .ex fun r112 => .exl fun r210 => .ex fun r9 => .reg 1 [(2, (Or.call (V.tup [(E.agg [(sD (dI r012)), (sD (dI r112)), (sD (dL r210))]), (eD (dI r9))]) [] []), 0, 0), (6, Or.none, 7, 1)] [1, 2, 7, 8, 9, 17, 18, 19, 20, 21, 23, 24, 25] [0, 1, 2, 3, 4, 6, 7] [] <| .ex fun r013 => .ex fun r113 => .exl fun r211 => .ex fun r10 => .reg 1 [(2, (Or.call (V.tup [(E.agg [(sD (dI r013)), (sD (dI r113)), (sD (dL r211))]), (eD (dI r10))]) [] []), 0, 0), (6, Or.none, 7, 1)] [1, 2, 7, 8, 9, 17, 18, 19, 20, 21, 24, 25, 26, 27] [0, 1, 2, 3, 4, 6, 7] [] <| .ex fun r014 => .ex fun r114 => .exm fun rrows2 => .reg 2 [(6, (Or.call (vA [(sD (dI r014)), (sD (dI r114)), (S.ref 0)]) [(some (Obj.mat 2 rrows2))] []), 7, 1), (7, Or.none, 8, 1)] [1, 2, 7, 8, 9, 17, 18, 19, 20, 21, 24, 25, 26, 27, 28] [0, 1, 2, 3, 4, 5, 6, 8, 7] [.old 17] <| .frz [8] <| .ex fun r015 => .ex fun r115 => .exl fun r212 => .ex fun r20 => .reg 1 [(2, (Or.call (V.tup [(E.agg [(sD (dI r015)), (sD (dI r115)), (sD (dL r212))]), (eD (dI r20))]) [] []), 0, 0), (6, Or.none, 9, 1)] [1, 2, 7, 8, 9, 17, 18, 19, 20, 21, 24, 25, 26, 27, 28, 29, 30] [0, 1, 2, 3, 4, 5, 6, 7, 9] [] <| .ex fun r016 => .ex fun r116 => .exm fun rrows3 => .reg 2 [(6, (Or.call (vA [(sD (dI r016)), (sD (dI r116)), (S.ref 0)]) [(some (Obj.mat 2 rrows3))] []), 9, 1), (7, Or.none, 10, 1)] [7, 8, 9, 17, 18, 19, 20, 21, 24, 25, 26, 27, 28, 29, 30, 31] [0, 1, 2, 3, 4, 5, 6, 7, 8, 10, 9] [.old 19] <| .frz [10] <| .ex fun r017 => .ex fun r117 => .exl fun r213 => .ex fun r30 => .reg 1 [(2, (Or.call (V.tup [(E.agg [(sD (dI r017)), (sD (dI r117)), (sD (dL r213))]), (eD (dI r30))]) [] []), 0, 0), (6, Or.none, 11, 1)] [7, 8, 9, 17, 18, 19, 20, 21, 24, 25, 26, 27, 28, 29, 30, 31, 32, 33] [0, 1, 2, 3, 4, 5, 6, 7, 8, 9, 11] [] <| .spl ((r7 != (0 : Int))) (.reg 0 [(2, (Or.bool true), 0, 0)] [7, 17, 19, 21, 24, 26, 28, 29, 31, 32, 205] [2, 3, 4, 5, 6, 7, 8, 9, 10] [.old 0] <| .ct true none <| .r0 [6] <| .ret []) (.spl ((r8 != (0 : Int))) (.reg 0 [(2, (Or.bool false), 0, 0), (6, (Or.bool true), 0, 0)] [7, 17, 19, 21, 24, 26, 28, 29, 31, 32, 205] [2, 3, 4, 5, 6, 7, 8, 9, 10] [.old 1, .old 0] <| .ct true none <| .r0 [6] <| .ret []) (.spl ((r9 != (0 : Int))) (.reg 0 [(2, (Or.bool false), 0, 0), (6, (Or.bool false), 0, 0), (10, (Or.bool true), 0, 0)] [7, 17, 19, 21, 24, 26, 28, 29, 31, 32, 205] [2, 3, 4, 5, 6, 7, 8, 9, 10] [.old 2, .old 1, .old 0] <| .ct true none <| .r0 [6] <| .ret []) (.spl ((r10 != (0 : Int))) (.reg 0 [(2, (Or.bool false), 0, 0), (6, (Or.bool false), 0, 0), (10, (Or.bool false), 0, 0), (14, (Or.bool true), 0, 0)] [7, 17, 19, 21, 24, 26, 28, 29, 31, 32, 205] [2, 3, 4, 5, 6, 7, 8, 9, 10] [.old 3, .old 2, .old 1, .old 0] <| .ct true none <| .r0 [6] <| .ret []) (.spl ((r20 != (0 : Int))) (.reg 0 [(2, (Or.bool false), 0, 0), (6, (Or.bool false), 0, 0), (10, (Or.bool false), 0, 0), (14, (Or.bool false), 0, 0), (18, (Or.bool true), 0, 0)] [7, 17, 19, 21, 24, 26, 28, 29, 31, 32, 205] [2, 3, 4, 5, 6, 7, 8, 9, 10] [.old 4, .old 3, .old 2, .old 1, .old 0] <| .ct true none <| .r0 [6] <| .ret []) (.spl ((r30 != (0 : Int))) (.reg 0 [(2, (Or.bool false), 0, 0), (6, (Or.bool false), 0, 0), (10, (Or.bool false), 0, 0), (14, (Or.bool false), 0, 0), (18, (Or.bool false), 0, 0), (22, (Or.bool true), 0, 0)] [7, 17, 19, 21, 24, 26, 28, 29, 31, 32, 205] [2, 3, 4, 5, 6, 7, 8, 9, 10] [.old 5, .old 4, .old 3, .old 2, .old 1, .old 0] <| .ct true none <| .r0 [6] <| .ret []) (.exb fun r31 => .ob (FnD prog 22 [(vA [(sD (dI r015)), (sD (dI r115)), (sD (dL r212))]), (vD (dI r0)), (vD (dI (IntKind.i64.wrap (r1 + r114))))] (vD (dB r31)) []) <| .spl ((!r31)) (.reg 0 [(2, (Or.bool false), 0, 0), (6, (Or.bool false), 0, 0), (10, (Or.bool false), 0, 0), (14, (Or.bool false), 0, 0), (18, (Or.bool false), 0, 0), (22, (Or.bool false), 0, 0), (31, (Or.call (vD (dB r31)) [] []), 0, 0), (34, (Or.bool true), 0, 0)] [7, 17, 19, 21, 24, 26, 28, 29, 31, 32, 205] [2, 3, 4, 5, 6, 7, 8, 9, 10] [.old 7, .old 6, .old 5, .old 4, .old 3, .old 2, .old 1, .old 0] <| .ct true none <| .r0 [6] <| .ret []) (.exb fun r32 => .reg 0 [(2, (Or.bool false), 0, 0), (6, (Or.bool false), 0, 0), (10, (Or.bool false), 0, 0), (14, (Or.bool false), 0, 0), (18, (Or.bool false), 0, 0), (22, (Or.bool false), 0, 0), (31, (Or.call (vD (dB r31)) [] []), 0, 0), (34, (Or.bool false), 0, 0), (43, (Or.call (vD (dB r32)) [] []), 0, 0)] [7, 17, 19, 21, 24, 26, 28, 29, 31, 32, 205] [2, 3, 4, 5, 6, 7, 8, 9, 10] [.old 7, .old 6, .old 5, .old 4, .old 3, .old 2, .old 1, .old 0] <| .c2 (.r0 [6] <| .ret []) (.ex fun r018 => .ex fun r118 => .exl fun r214 => .ex fun r33 => .reg 1 [(2, (Or.call (V.tup [(E.agg [(sD (dI r018)), (sD (dI r118)), (sD (dL r214))]), (eD (dI r33))]) [] []), 0, 0), (6, Or.none, 9, 1)] [7, 17, 19, 21, 24, 26, 28, 31, 34, 35] [0, 1, 2, 3, 4, 5, 7, 9] [] <| .ex fun r019 => .ex fun r119 => .exl fun r215 => .ex fun r020 => .ex fun r120 => .exl fun r216 => .ex fun r34 => .drw 1 [(3, ((Or.call (vA [(sD (dI r019)), (sD (dI r119)), (sD (dL r215))]) [] []), 0, 0), []), (4, ((Or.call (V.tup [(E.agg [(sD (dI r020)), (sD (dI r120)), (sD (dL r216))]), (eD (dI r34))]) [] []), 0, 0), []), (8, (Or.none, 8, 1), [8]), (9, (Or.none, 0, 0), [8])] [7, 17, 19, 24, 26, 34, 35, 36, 37] [0, 1, 3, 4, 7, 8] [] <| .spl ((r33 == (0 : Int))) (.spl ((r34 == (0 : Int))) (.exb fun r35 => .ob (FnD prog 23 [(vA [(sD (dI r07)), (sD (dI r17)), (sD (dL r25))]), (vA [(sD (dI r012)), (sD (dI r112)), (sD (dL r210))])] (vD (dB r35)) []) <| .spl r35 (.exb fun r36 => .ob (FnD prog 23 [(vA [(sD (dI r08)), (sD (dI r18)), (sD (dL r26))]), (vA [(sD (dI r013)), (sD (dI r113)), (sD (dL r211))])] (vD (dB r36)) []) <| .spl r36 (.exb fun r37 => .ob (FnD prog 23 [(vA [(sD (dI r018)), (sD (dI r118)), (sD (dL r214))]), (vA [(sD (dI r020)), (sD (dI r120)), (sD (dL r216))])] (vD (dB r37)) []) <| .spl r37 (.reg 0 [(2, (Or.bool true), 0, 0), (6, (Or.bool true), 0, 0), (9, (Or.call (vD (dB r35)) [] []), 0, 0), (11, (Or.bool true), 0, 0), (14, (Or.call (vD (dB r36)) [] []), 0, 0), (16, (Or.bool true), 0, 0), (19, (Or.call (vD (dB r37)) [] []), 0, 0), (21, (Or.bool true), 0, 0)] [6] [] [.old 7, .old 6, .old 5, .old 4, .old 3, .old 2, .old 1, .old 0] <| .ret []) (.reg 0 [(2, (Or.bool true), 0, 0), (6, (Or.bool true), 0, 0), (9, (Or.call (vD (dB r35)) [] []), 0, 0), (11, (Or.bool true), 0, 0), (14, (Or.call (vD (dB r36)) [] []), 0, 0), (16, (Or.bool true), 0, 0), (19, (Or.call (vD (dB r37)) [] []), 0, 0), (21, (Or.bool false), 0, 0)] [6] [] [.old 7, .old 6, .old 5, .old 4, .old 3, .old 2, .old 1, .old 0] <| .ret [])) (.reg 0 [(2, (Or.bool true), 0, 0), (6, (Or.bool true), 0, 0), (9, (Or.call (vD (dB r35)) [] []), 0, 0), (11, (Or.bool true), 0, 0), (14, (Or.call (vD (dB r36)) [] []), 0, 0), (16, (Or.bool false), 0, 0)] [6] [] [.old 5, .old 4, .old 3, .old 2, .old 1, .old 0] <| .ret [])) (.reg 0 [(2, (Or.bool true), 0, 0), (6, (Or.bool true), 0, 0), (9, (Or.call (vD (dB r35)) [] []), 0, 0), (11, (Or.bool false), 0, 0)] [6] [] [.old 3, .old 2, .old 1, .old 0] <| .ret [])) (.reg 0 [(2, (Or.bool true), 0, 0), (6, (Or.bool false), 0, 0)] [6] [] [.old 1, .old 0] <| .ret [])) (.reg 0 [(2, (Or.bool false), 0, 0)] [6] [] [.old 0] <| .ret []))))))))))))))
    (by kernel_rfl) (by kernel_rfl) (by kernel_rfl) h

end Go.AM

/- The law of blocks of matrices. -/
namespace Go.AM
open Go.Proofs.Try

theorem el_append {r : Nat} {a b : List (List Int)} (ha : a.length = r) (i j : Nat) : el (a ++ b) i j = if i < r then el a i j else el b (i - r) j := by
  unfold el
  simp only [List.getD_eq_getElem?_getD, List.getElem?_append, ha]
  by_cases h : i < r <;> simp [h]

theorem append_mx {r s c : Nat} {a b : List (List Int)} (ha : Mx r c a) (hb : Mx s c b) : Mx (r + s) c (a ++ b) :=
  ⟨by rw [List.length_append, ha.1, hb.1], fun x hx => by
    rcases List.mem_append.1 hx with h | h
    · exact ha.2 x h
    · exact hb.2 x h⟩

theorem append_bd {K : Nat} {a b : List (List Int)} (ha : BdM K a) (hb : BdM K b) : BdM K (a ++ b) := fun x hx => by
  rcases List.mem_append.1 hx with h | h
  · exact ha x h
  · exact hb x h

/-- Two matrices side by side. -/
def besM (r c d : Nat) (a b : List (List Int)) : List (List Int) := table r (c + d) fun i j => if j < c then el a i j else el b i (j - c)

theorem besM_bd {r c d K : Nat} {a b : List (List Int)} (ha : Mx r c a) (hb : Mx r d b) (ka : BdM K a) (kb : BdM K b) : BdM K (besM r c d a b) := table_bd fun i j hi hj => by
  by_cases h : j < c
  · simp only [if_pos h]; exact el_bd ha ka hi h
  · simp only [if_neg h]; exact el_bd hb kb hi (by omega)

theorem el_besM {r c d : Nat} {a b : List (List Int)} {i j : Nat} (hi : i < r) (hj : j < c + d) : el (besM r c d a b) i j = if j < c then el a i j else el b i (j - c) := el_table hi hj

theorem mmul_stack {r s n c : Nat} {a b m : List (List Int)} (ha : Mx r n a) : mmul (r + s) n c (a ++ b) m = mmul r n c a m ++ mmul s n c b m := by
  refine mx_ext (mmul_mx _ _ _ _ _) (append_mx (mmul_mx r n c a m) (mmul_mx s n c b m)) fun i j hi hj => ?_
  rw [el_mmul hi hj, el_append (mmul_mx r n c a m).1]
  by_cases h : i < r
  · rw [if_pos h, el_mmul h hj]
    exact sm_congr n fun k _ => by rw [el_append ha.1, if_pos h]
  · rw [if_neg h, el_mmul (by omega) hj]
    exact sm_congr n fun k _ => by rw [el_append ha.1, if_neg h]

theorem mmul_beside {r n c d : Nat} (a m w : List (List Int)) : mmul r n (c + d) a (besM n c d m w) = besM r c d (mmul r n c a m) (mmul r n d a w) := by
  refine mx_ext (mmul_mx _ _ _ _ _) (table_mx _ _ _) fun i j hi hj => ?_
  rw [el_mmul hi hj, el_besM hi hj]
  by_cases h : j < c
  · rw [if_pos h, el_mmul hi h]
    exact sm_congr n fun k hk => by rw [el_besM hk hj, if_pos h]
  · rw [if_neg h, el_mmul hi (by omega)]
    exact sm_congr n fun k hk => by rw [el_besM hk hj, if_neg h]

theorem mmul_blocks {r n s c : Nat} {a t b u : List (List Int)} (hb : Mx n c b) : mmul r (n + s) c (besM r n s a t) (b ++ u) = mcomb r c (· + ·) (mmul r n c a b) (mmul r s c t u) := by
  refine mx_ext (mmul_mx _ _ _ _ _) (mcomb_mx _ _ _ _ _) fun i j hi hj => ?_
  rw [el_mmul hi hj, el_mcomb hi hj, el_mmul hi hj, el_mmul hi hj, sm_split]
  have e1 : sm (fun k => el (besM r n s a t) i k * el (b ++ u) k j) n = sm (fun k => el a i k * el b k j) n :=
    sm_congr n fun k hk => by rw [el_besM hi (by omega), if_pos hk, el_append hb.1, if_pos hk]
  have e2 : sm (fun k => el (besM r n s a t) i (n + k) * el (b ++ u) (n + k) j) s = sm (fun k => el t i k * el u k j) s :=
    sm_congr s fun k hk => by rw [el_besM hi (by omega), if_neg (by omega), el_append hb.1, if_neg (by omega), Nat.add_sub_cancel_left]
  rw [e1, e2]

theorem mod4 {x : Int} (h0 : 0 ≤ x) : ∃ n : Nat, IntKind.i64.wrap (x.tmod 4) = (n : Int) ∧ n ≤ 3 := by
  refine ⟨(x % 4).toNat, ?_, by omega⟩
  rw [Int.tmod_eq_emod_of_nonneg h0, w64 (by omega) (by omega)]; omega

theorem wadd {a b : Nat} (h : a + b ≤ 4611686018427387904) : IntKind.i64.wrap ((a : Int) + (b : Int)) = ((a + b : Nat) : Int) := by rw [w64 (by omega) (by omega)]; simp

theorem blocks_ok (x0 : Int) (g0 : IntKind.u8.min ≤ x0 ∧ x0 ≤ IntKind.u8.max) (x1 : Int) (g1 : IntKind.u8.min ≤ x1 ∧ x1 ≤ IntKind.u8.max) (x2 : Int) (g2 : IntKind.u8.min ≤ x2 ∧ x2 ≤ IntKind.u8.max) (x3 : Int) (g3 : IntKind.u8.min ≤ x3 ∧ x3 ≤ IntKind.u8.max)
    (l4 : List (List D)) (g4 : l4.length ≤ 9223372036854775807 ∧ ∀ x ∈ l4, DOKL [.i .i8] x) (l5 : List (List D)) (g5 : l5.length ≤ 9223372036854775807 ∧ ∀ x ∈ l5, DOKL [.i .i8] x) (l6 : List (List D)) (g6 : l6.length ≤ 9223372036854775807 ∧ ∀ x ∈ l6, DOKL [.i .i8] x)
    (l7 : List (List D)) (g7 : l7.length ≤ 9223372036854775807 ∧ ∀ x ∈ l7, DOKL [.i .i8] x) (x8 : Int) (g8 : IntKind.u8.min ≤ x8 ∧ x8 ≤ IntKind.u8.max) :
    FnD prog 5 [.e (.agg [.dat (.int .u8 x0), .dat (.int .u8 x1), .dat (.int .u8 x2), .dat (.int .u8 x3), .dat (.sl l4), .dat (.sl l5), .dat (.sl l6)]), .e (.sc (.dat (.sl l7))), .e (.sc (.dat (.int .u8 x8)))] (vb true) [] := by
  obtain ⟨a, rfl, _⟩ := i8s_of g4
  obtain ⟨b, rfl, _⟩ := i8s_of g5
  obtain ⟨c, rfl, _⟩ := i8s_of g6
  obtain ⟨d, rfl, _⟩ := i8s_of g7
  obtain ⟨n0, n1, n2, n3, b0, b1, b2, b3, hchain⟩ := chain_ok a b c g0.1 g1.1 g2.1 g3.1
  obtain ⟨k, hk, bk⟩ := mod4 (x := x8) g8.1
  obtain ⟨A, hA⟩ : ∃ A, A = table n0 n1 (fillG n1 a) := ⟨_, rfl⟩
  obtain ⟨B, hB⟩ : ∃ B, B = table n1 n2 (fillG n2 b) := ⟨_, rfl⟩
  obtain ⟨W, hW⟩ : ∃ W, W = table k n1 (fillG n1 d) := ⟨_, rfl⟩
  obtain ⟨X, hX⟩ : ∃ X, X = table n1 k (fillG k d) := ⟨_, rfl⟩
  obtain ⟨T, hT⟩ : ∃ T, T = table n0 k (fillG k d) := ⟨_, rfl⟩
  obtain ⟨F, hF⟩ : ∃ F, F = table k n2 (fillG n2 d) := ⟨_, rfl⟩
  have mA : Mx n0 n1 A := hA ▸ table_mx _ _ _
  have mB : Mx n1 n2 B := hB ▸ table_mx _ _ _
  have mW : Mx k n1 W := hW ▸ table_mx _ _ _
  have mX : Mx n1 k X := hX ▸ table_mx _ _ _
  have mT : Mx n0 k T := hT ▸ table_mx _ _ _
  have mF : Mx k n2 F := hF ▸ table_mx _ _ _
  have kA : BdM 9 A := hA ▸ filled_bd
  have kB : BdM 9 B := hB ▸ filled_bd
  have kW : BdM 9 W := hW ▸ filled_bd
  have kX : BdM 9 X := hX ▸ filled_bd
  have kT : BdM 9 T := hT ▸ filled_bd
  have kF : BdM 9 F := hF ▸ filled_bd
  have fW := filled_ok (r := k) (c := n1) (v := d) (by omega) (by omega)
  have fX := filled_ok (r := n1) (c := k) (v := d) (by omega) (by omega)
  have fT := filled_ok (r := n0) (c := k) (v := d) (by omega) (by omega)
  have fF := filled_ok (r := k) (c := n2) (v := d) (by omega) (by omega)
  rw [← hA, ← hB] at hchain
  rw [← hW] at fW
  rw [← hX] at fX
  rw [← hT] at fT
  rw [← hF] at fF
  clear hA hB hW hX hT hF
  have mS := append_mx mA mW
  have kS := append_bd kA kW
  have mV : Mx n1 (n2 + k) (besM n1 n2 k B X) := table_mx _ _ _
  have kV := besM_bd mB mX kB kX
  have mR : Mx n0 (n1 + k) (besM n0 n1 k A T) := table_mx _ _ _
  have kR := besM_bd mA mT kA kT
  have mC := append_mx mB mF
  have kC := append_bd kB kF
  have L : ∀ n, n ≤ 8 → n * (9 * 9) ≤ 1000 := fun n h => by omega
  have mAB := mmul_mx n0 n1 n2 A B
  have kAB := (mmul_bd mA mB kA kB).mono (L n1 (by omega))
  have mWB := mmul_mx k n1 n2 W B
  have kWB := (mmul_bd mW mB kW kB).mono (L n1 (by omega))
  have mAX := mmul_mx n0 n1 k A X
  have kAX := (mmul_bd mA mX kA kX).mono (L n1 (by omega))
  have mTF := mmul_mx n0 k n2 T F
  have kTF := (mmul_bd mT mF kT kF).mono (L k (by omega))
  refine vc5_ok _ _ _ _ _ _ _ _ _ (R := Out _) ?_
  unfold vc5
  rw [hk]
  refine ⟨true, sanity_ok, _, _, _, _, _, _, _, _, _, hchain, _, _, _, by decide, fW, _, _, _, fX, ?_⟩
  simp only [matD_om]
  refine ⟨_, _, _, _, stack_ok mA.1 mW.1 (by omega) (by omega), _, _, _, _, beside_ok mB mX (by omega) (by omega) (by omega), fun h => absurd h (by decide), fun _ => ⟨fun h => absurd h (by decide), fun _ => ?_⟩⟩
  rw [wadd (by omega), wadd (by omega)]
  refine ⟨true, sized_yes mS kS (by omega) (by omega) (by decide), fun h => absurd h (by decide), fun _ => ?_⟩
  refine ⟨true, sized_yes mV kV (by omega) (by omega) (by decide), fun h => absurd h (by decide), fun _ => ?_⟩
  refine ⟨_, _, _, _, mmul_ok mS mB kS kB (by omega) (by omega) (by omega) (by omega), _, _, _, _, mmul_ok mA mV kA kV (by omega) (by omega) (by omega) (by omega), ?_⟩
  refine ⟨_, _, _, _, _, _, _, _, _, m5prod_ok mA mB kA kB (by omega) (by omega) (by omega) (by omega), m5prod_ok mW mB kW kB (by omega) (by omega) (by omega) (by omega), m5prod_ok mA mX kA kX (by omega) (by omega) (by omega) (by omega), ?_⟩
  refine ⟨_, _, _, _, stack_ok mAB.1 mWB.1 (by omega) (by omega), _, _, _, _, beside_ok mAB mAX (by omega) (by omega) (by omega), _, _, _, fT, ?_⟩
  simp only [matD_om]
  refine ⟨_, _, _, _, beside_ok mA mT (by omega) (by omega) (by omega), _, _, _, fF, ?_⟩
  simp only [matD_om]
  refine ⟨_, _, _, _, stack_ok mB.1 mF.1 (by omega) (by omega), ?_⟩
  refine ⟨fun h => absurd h (by decide), fun _ => ⟨fun h => absurd h (by decide), fun _ => ⟨fun h => absurd h (by decide), fun _ => ⟨fun h => absurd h (by decide), fun _ => ⟨fun h => absurd h (by decide), fun _ => ⟨fun h => absurd h (by decide), fun _ => ?_⟩⟩⟩⟩⟩⟩
  rw [wadd (by omega)]
  refine ⟨true, sized_yes mR kR (by omega) (by omega) (by decide), fun h => absurd h (by decide), fun _ => ?_⟩
  refine ⟨true, sized_yes mC kC (by omega) (by omega) (by decide), fun h => absurd h (by decide), fun _ => ?_⟩
  refine ⟨_, _, _, _, mmul_ok mR mC kR kC (by omega) (by omega) (by omega) (by omega), _, _, _, _, _, _, _, m5prod_ok mT mF kT kF (by omega) (by omega) (by omega) (by omega), m5add_ok mAB mTF kAB kTF (by omega) (by omega) (by omega), ?_⟩
  refine ⟨fun _ => ⟨fun _ => ?_, fun h => absurd h (by decide)⟩, fun h => absurd h (by decide)⟩
  have kP := (mcomb_bd mAB mTF kAB kTF).1
  have kSB := (mmul_bd mS mB kS kB).mono (L n1 (by omega))
  have kAV := (mmul_bd mA mV kA kV).mono (L n1 (by omega))
  have kRC := (mmul_bd mR mC kR kC).mono (L (n1 + k) (by omega))
  refine ⟨true, same_yes (K := 1000) (mmul_mx _ _ _ _ _) kSB (append_bd kAB kWB) (mmul_stack mA) (by omega) (by omega) (by omega), fun _ => ?_, fun h => nomatch h⟩
  refine ⟨true, same_yes (K := 1000) (mmul_mx _ _ _ _ _) kAV (besM_bd mAB mAX kAB kAX) (mmul_beside A B X) (by omega) (by omega) (by omega), fun _ => ?_, fun h => nomatch h⟩
  exact ⟨true, same_yes (K := 2000) (mmul_mx _ _ _ _ _) (kRC.mono (by omega)) (kP.mono (by omega)) (mmul_blocks mB) (by omega) (by omega) (by omega), fun _ => ⟨rfl, rfl⟩, fun h => nomatch h⟩

end Go.AM
