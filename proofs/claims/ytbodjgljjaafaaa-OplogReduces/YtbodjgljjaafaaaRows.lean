/-
  No cell of these rows narrows 'for every input' (looked for: loops, veiled, ifaces, maps, wideKeys, modest, calm, conditions, laid).
  DERIVED. THE GIVEN ROWS OF THIS SEAT. 11 by the template 'for every input the law returns true; each argument reads behind the call as it read before'; 0 by the template 'total and deterministic' (their statements: YtbodjgljjaafaaaTotals.lean).
  GIVEN WITH THE SEED: the statements are not yours to turn. If you find one false, say at which input.
  Laid BY PROGRAM, IN A SANDBOX (cutbox-rows.mjs): the forced cells as the released guide's own fill.sh prints them over the translation 428bbd5e0ab94aa8… (all of the seat's roots in one cut). By AI agents, Wed Nov 11 2026. No macro, syntax, notation, axiom, sorry.
-/
import Derived.Test.YtbodjgljjaafaaaChecked
import GoSem.Claim
import GoSem.ClaimJoined
import GoSem.ClaimMapViews
import Derived.JoinedTies
import Derived.KernelRfl
namespace Go.Proofs.Ytbodjgljjaafaaa
/- THE CELL 'sum', in the pinned program and in every row, IS THE sha256 OF THE DUMP (.gsa) THAT YtbodjgljjaafaaaProg.lean LOADS. Nothing in Lean hashes anything: it is a label: what it is worth is what the hold of that sum in a sandbox is worth. -/
noncomputable def Try.pinned : Pinned := { name := "ytbodjgljjaafaaa", sum := "428bbd5e0ab94aa81918f4a38a919abca3117e833741d71f84c53b4da6aa9dde", checked := Try.checked }
namespace Rows
def none {H : Type} : Left H := { results := [], args := [] }

/-- 'torsionlaw05.MatrixValidMatchesReference': WHATEVER THE INPUT: true; the input reads as it did. -/
def matrixValidMatchesReferenceSpec : ChangeSpec := { name := "matrixValidMatchesReference", fn := fun _ => fun
  | [d1, d2, d3] => { results := [.lit (.bool true)], args := [d1, d2, d3] }
  | _ => none }
def matrixValidMatchesReferenceRow : OpenClaim := { program := "ytbodjgljjaafaaa", sum := "428bbd5e0ab94aa81918f4a38a919abca3117e833741d71f84c53b4da6aa9dde", func := "torsion/torsionlaw05.MatrixValidMatchesReference", spec := "matrixValidMatchesReference", unfollowed := true, recurses := true, apart := false }
def MatrixValidMatchesReferenceSaid : Prop := matrixValidMatchesReferenceRow.holds Try.pinned (OpenSpec.ofChange matrixValidMatchesReferenceSpec)

/-- ITS FALSE NEIGHBOUR: 'it returns false'. Refute it at one input. -/
def matrixValidMatchesReferenceWrong : ChangeSpec := { name := "matrixValidMatchesReference", fn := fun _ => fun
  | [d1, d2, d3] => { results := [.lit (.bool false)], args := [d1, d2, d3] }
  | _ => none }
def MatrixValidMatchesReferenceWrongFalsely : Prop := matrixValidMatchesReferenceRow.holds Try.pinned (OpenSpec.ofChange matrixValidMatchesReferenceWrong)

/-- 'torsionlaw05.MatrixTransposes': WHATEVER THE INPUT: true; the input reads as it did. -/
def matrixTransposesSpec : ChangeSpec := { name := "matrixTransposes", fn := fun _ => fun
  | [d] => { results := [.lit (.bool true)], args := [d] }
  | _ => none }
def matrixTransposesRow : OpenClaim := { program := "ytbodjgljjaafaaa", sum := "428bbd5e0ab94aa81918f4a38a919abca3117e833741d71f84c53b4da6aa9dde", func := "torsion/torsionlaw05.MatrixTransposes", spec := "matrixTransposes", unfollowed := true, recurses := true, apart := false }
def MatrixTransposesSaid : Prop := matrixTransposesRow.holds Try.pinned (OpenSpec.ofChange matrixTransposesSpec)

/-- ITS FALSE NEIGHBOUR: 'it returns false'. Refute it at one input. -/
def matrixTransposesWrong : ChangeSpec := { name := "matrixTransposes", fn := fun _ => fun
  | [d] => { results := [.lit (.bool false)], args := [d] }
  | _ => none }
def MatrixTransposesWrongFalsely : Prop := matrixTransposesRow.holds Try.pinned (OpenSpec.ofChange matrixTransposesWrong)

/-- 'torsionlaw05.MatrixBlocks': WHATEVER THE INPUT: true; the input reads as it did. -/
def matrixBlocksSpec : ChangeSpec := { name := "matrixBlocks", fn := fun _ => fun
  | [d1, d2, d3] => { results := [.lit (.bool true)], args := [d1, d2, d3] }
  | _ => none }
def matrixBlocksRow : OpenClaim := { program := "ytbodjgljjaafaaa", sum := "428bbd5e0ab94aa81918f4a38a919abca3117e833741d71f84c53b4da6aa9dde", func := "torsion/torsionlaw05.MatrixBlocks", spec := "matrixBlocks", unfollowed := true, recurses := true, apart := false }
def MatrixBlocksSaid : Prop := matrixBlocksRow.holds Try.pinned (OpenSpec.ofChange matrixBlocksSpec)

/-- ITS FALSE NEIGHBOUR: 'it returns false'. Refute it at one input. -/
def matrixBlocksWrong : ChangeSpec := { name := "matrixBlocks", fn := fun _ => fun
  | [d1, d2, d3] => { results := [.lit (.bool false)], args := [d1, d2, d3] }
  | _ => none }
def MatrixBlocksWrongFalsely : Prop := matrixBlocksRow.holds Try.pinned (OpenSpec.ofChange matrixBlocksWrong)

/-- 'torsionlaw05.MatrixPicks': WHATEVER THE INPUT: true; the input reads as it did. -/
def matrixPicksSpec : ChangeSpec := { name := "matrixPicks", fn := fun _ => fun
  | [d1, d2, d3] => { results := [.lit (.bool true)], args := [d1, d2, d3] }
  | _ => none }
def matrixPicksRow : OpenClaim := { program := "ytbodjgljjaafaaa", sum := "428bbd5e0ab94aa81918f4a38a919abca3117e833741d71f84c53b4da6aa9dde", func := "torsion/torsionlaw05.MatrixPicks", spec := "matrixPicks", unfollowed := true, recurses := true, apart := false }
def MatrixPicksSaid : Prop := matrixPicksRow.holds Try.pinned (OpenSpec.ofChange matrixPicksSpec)

/-- ITS FALSE NEIGHBOUR: 'it returns false'. Refute it at one input. -/
def matrixPicksWrong : ChangeSpec := { name := "matrixPicks", fn := fun _ => fun
  | [d1, d2, d3] => { results := [.lit (.bool false)], args := [d1, d2, d3] }
  | _ => none }
def MatrixPicksWrongFalsely : Prop := matrixPicksRow.holds Try.pinned (OpenSpec.ofChange matrixPicksWrong)

/-- 'torsionlaw05.MatrixRows': WHATEVER THE INPUT: true; the input reads as it did. -/
def matrixRowsSpec : ChangeSpec := { name := "matrixRows", fn := fun _ => fun
  | [d1, d2, d3] => { results := [.lit (.bool true)], args := [d1, d2, d3] }
  | _ => none }
def matrixRowsRow : OpenClaim := { program := "ytbodjgljjaafaaa", sum := "428bbd5e0ab94aa81918f4a38a919abca3117e833741d71f84c53b4da6aa9dde", func := "torsion/torsionlaw05.MatrixRows", spec := "matrixRows", unfollowed := true, recurses := true, apart := false }
def MatrixRowsSaid : Prop := matrixRowsRow.holds Try.pinned (OpenSpec.ofChange matrixRowsSpec)

/-- ITS FALSE NEIGHBOUR: 'it returns false'. Refute it at one input. -/
def matrixRowsWrong : ChangeSpec := { name := "matrixRows", fn := fun _ => fun
  | [d1, d2, d3] => { results := [.lit (.bool false)], args := [d1, d2, d3] }
  | _ => none }
def MatrixRowsWrongFalsely : Prop := matrixRowsRow.holds Try.pinned (OpenSpec.ofChange matrixRowsWrong)

/-- 'torsionlaw18.OplogUndoes': WHATEVER THE INPUT: true; the input reads as it did. -/
def oplogUndoesSpec : ChangeSpec := { name := "oplogUndoes", fn := fun _ => fun
  | [d1, d2] => { results := [.lit (.bool true)], args := [d1, d2] }
  | _ => none }
def oplogUndoesRow : OpenClaim := { program := "ytbodjgljjaafaaa", sum := "428bbd5e0ab94aa81918f4a38a919abca3117e833741d71f84c53b4da6aa9dde", func := "torsion/torsionlaw18.OplogUndoes", spec := "oplogUndoes", unfollowed := true, recurses := true, apart := false }
def OplogUndoesSaid : Prop := oplogUndoesRow.holds Try.pinned (OpenSpec.ofChange oplogUndoesSpec)

/-- ITS FALSE NEIGHBOUR: 'it returns false'. Refute it at one input. -/
def oplogUndoesWrong : ChangeSpec := { name := "oplogUndoes", fn := fun _ => fun
  | [d1, d2] => { results := [.lit (.bool false)], args := [d1, d2] }
  | _ => none }
def OplogUndoesWrongFalsely : Prop := oplogUndoesRow.holds Try.pinned (OpenSpec.ofChange oplogUndoesWrong)

/-- 'torsionlaw18.OplogComposes': WHATEVER THE INPUT: true; the input reads as it did. -/
def oplogComposesSpec : ChangeSpec := { name := "oplogComposes", fn := fun _ => fun
  | [d1, d2, d3] => { results := [.lit (.bool true)], args := [d1, d2, d3] }
  | _ => none }
def oplogComposesRow : OpenClaim := { program := "ytbodjgljjaafaaa", sum := "428bbd5e0ab94aa81918f4a38a919abca3117e833741d71f84c53b4da6aa9dde", func := "torsion/torsionlaw18.OplogComposes", spec := "oplogComposes", unfollowed := true, recurses := true, apart := false }
def OplogComposesSaid : Prop := oplogComposesRow.holds Try.pinned (OpenSpec.ofChange oplogComposesSpec)

/-- ITS FALSE NEIGHBOUR: 'it returns false'. Refute it at one input. -/
def oplogComposesWrong : ChangeSpec := { name := "oplogComposes", fn := fun _ => fun
  | [d1, d2, d3] => { results := [.lit (.bool false)], args := [d1, d2, d3] }
  | _ => none }
def OplogComposesWrongFalsely : Prop := oplogComposesRow.holds Try.pinned (OpenSpec.ofChange oplogComposesWrong)

/-- 'torsionlaw18.OplogCompacts': WHATEVER THE INPUT: true; the input reads as it did. -/
def oplogCompactsSpec : ChangeSpec := { name := "oplogCompacts", fn := fun _ => fun
  | [d1, d2] => { results := [.lit (.bool true)], args := [d1, d2] }
  | _ => none }
def oplogCompactsRow : OpenClaim := { program := "ytbodjgljjaafaaa", sum := "428bbd5e0ab94aa81918f4a38a919abca3117e833741d71f84c53b4da6aa9dde", func := "torsion/torsionlaw18.OplogCompacts", spec := "oplogCompacts", unfollowed := true, recurses := true, apart := false }
def OplogCompactsSaid : Prop := oplogCompactsRow.holds Try.pinned (OpenSpec.ofChange oplogCompactsSpec)

/-- ITS FALSE NEIGHBOUR: 'it returns false'. Refute it at one input. -/
def oplogCompactsWrong : ChangeSpec := { name := "oplogCompacts", fn := fun _ => fun
  | [d1, d2] => { results := [.lit (.bool false)], args := [d1, d2] }
  | _ => none }
def OplogCompactsWrongFalsely : Prop := oplogCompactsRow.holds Try.pinned (OpenSpec.ofChange oplogCompactsWrong)

/-- 'torsionlaw05.MatrixRing': WHATEVER THE INPUT: true; the input reads as it did. -/
def matrixRingSpec : ChangeSpec := { name := "matrixRing", fn := fun _ => fun
  | [d1, d2] => { results := [.lit (.bool true)], args := [d1, d2] }
  | _ => none }
def matrixRingRow : OpenClaim := { program := "ytbodjgljjaafaaa", sum := "428bbd5e0ab94aa81918f4a38a919abca3117e833741d71f84c53b4da6aa9dde", func := "torsion/torsionlaw05.MatrixRing", spec := "matrixRing", unfollowed := true, recurses := true, apart := false }
def MatrixRingSaid : Prop := matrixRingRow.holds Try.pinned (OpenSpec.ofChange matrixRingSpec)

/-- ITS FALSE NEIGHBOUR: 'it returns false'. Refute it at one input. -/
def matrixRingWrong : ChangeSpec := { name := "matrixRing", fn := fun _ => fun
  | [d1, d2] => { results := [.lit (.bool false)], args := [d1, d2] }
  | _ => none }
def MatrixRingWrongFalsely : Prop := matrixRingRow.holds Try.pinned (OpenSpec.ofChange matrixRingWrong)

/-- 'torsionlaw05.MatrixMatchesReference': WHATEVER THE INPUT: true; the input reads as it did. -/
def matrixMatchesReferenceSpec : ChangeSpec := { name := "matrixMatchesReference", fn := fun _ => fun
  | [d1, d2, d3] => { results := [.lit (.bool true)], args := [d1, d2, d3] }
  | _ => none }
def matrixMatchesReferenceRow : OpenClaim := { program := "ytbodjgljjaafaaa", sum := "428bbd5e0ab94aa81918f4a38a919abca3117e833741d71f84c53b4da6aa9dde", func := "torsion/torsionlaw05.MatrixMatchesReference", spec := "matrixMatchesReference", unfollowed := true, recurses := true, apart := false }
def MatrixMatchesReferenceSaid : Prop := matrixMatchesReferenceRow.holds Try.pinned (OpenSpec.ofChange matrixMatchesReferenceSpec)

/-- ITS FALSE NEIGHBOUR: 'it returns false'. Refute it at one input. -/
def matrixMatchesReferenceWrong : ChangeSpec := { name := "matrixMatchesReference", fn := fun _ => fun
  | [d1, d2, d3] => { results := [.lit (.bool false)], args := [d1, d2, d3] }
  | _ => none }
def MatrixMatchesReferenceWrongFalsely : Prop := matrixMatchesReferenceRow.holds Try.pinned (OpenSpec.ofChange matrixMatchesReferenceWrong)

/-- 'torsionlaw18.OplogReduces': WHATEVER THE INPUT: true; the input reads as it did. -/
def oplogReducesSpec : ChangeSpec := { name := "oplogReduces", fn := fun _ => fun
  | [d] => { results := [.lit (.bool true)], args := [d] }
  | _ => none }
def oplogReducesRow : OpenClaim := { program := "ytbodjgljjaafaaa", sum := "428bbd5e0ab94aa81918f4a38a919abca3117e833741d71f84c53b4da6aa9dde", func := "torsion/torsionlaw18.OplogReduces", spec := "oplogReduces", unfollowed := true, recurses := true, apart := false }
def OplogReducesSaid : Prop := oplogReducesRow.holds Try.pinned (OpenSpec.ofChange oplogReducesSpec)

/-- ITS FALSE NEIGHBOUR: 'it returns false'. Refute it at one input. -/
def oplogReducesWrong : ChangeSpec := { name := "oplogReduces", fn := fun _ => fun
  | [d] => { results := [.lit (.bool false)], args := [d] }
  | _ => none }
def OplogReducesWrongFalsely : Prop := oplogReducesRow.holds Try.pinned (OpenSpec.ofChange oplogReducesWrong)

/- THE SECOND FORM. 'bulk': how many values and letters a reading holds, each counted each time it is reached (what is shared counts as often as it is met; a slice's spare places count too). A statement '..UptoSaid' is the law's where the arguments, and the package variables that the reading takes, are together of bulk at most 1048576: NARROWER than '..Said'. Prove '..Said' where nothing that the law and all that it calls make is longer than what came in: it says more and counts as full. Else prove '..UptoSaid'. A law counts once. -/
mutual
def uptoBulk {H : Type} : DataW H → Nat
  | .lit (.string bytes) => bytes.length + 1
  | .lit _ => 1
  | .nil => 1
  | .ptr d => uptoBulk d + 1
  | .slice elems spare => uptoBulkAll elems + uptoBulkAll spare + 1
  | .agg parts => uptoBulkAll parts + 1
  | .iface _ d => uptoBulk d + 1
  | .map entries => uptoBulkEntries entries + 1
  | .held _ => 1
def uptoBulkAll {H : Type} : List (DataW H) → Nat
  | [] => 0
  | d :: r => uptoBulk d + uptoBulkAll r
def uptoBulkEntries {H : Type} : List (Lit × DataW H) → Nat
  | [] => 0
  | x :: r => uptoBulkEntry x + uptoBulkEntries r
def uptoBulkEntry {H : Type} : Lit × DataW H → Nat
  | (.string bytes, d) => bytes.length + uptoBulk d + 1
  | (_, d) => uptoBulk d + 1
 end
def uptoSmall : (H : Type) → List (DataW H) → Bool := fun _ ds => decide (uptoBulkAll ds ≤ 1048576)
def OpenSpec.upto (s : _root_.Go.ChangeSpec) : _root_.Go.OpenSpec := { _root_.Go.OpenSpec.ofChange s with cond := some uptoSmall }

/-- 'torsionlaw05.MatrixValidMatchesReference', WHERE WHAT IT READS IS OF BULK AT MOST 1048576: true; the input reads as it did. -/
def matrixValidMatchesReferenceUptoRow : OpenClaim := { program := "ytbodjgljjaafaaa", sum := "428bbd5e0ab94aa81918f4a38a919abca3117e833741d71f84c53b4da6aa9dde", func := "torsion/torsionlaw05.MatrixValidMatchesReference", spec := "matrixValidMatchesReference", unfollowed := true, recurses := true, apart := false, narrowed := true }
def MatrixValidMatchesReferenceUptoSaid : Prop := matrixValidMatchesReferenceUptoRow.holds Try.pinned (OpenSpec.upto matrixValidMatchesReferenceSpec)

/-- 'torsionlaw05.MatrixTransposes', WHERE WHAT IT READS IS OF BULK AT MOST 1048576: true; the input reads as it did. -/
def matrixTransposesUptoRow : OpenClaim := { program := "ytbodjgljjaafaaa", sum := "428bbd5e0ab94aa81918f4a38a919abca3117e833741d71f84c53b4da6aa9dde", func := "torsion/torsionlaw05.MatrixTransposes", spec := "matrixTransposes", unfollowed := true, recurses := true, apart := false, narrowed := true }
def MatrixTransposesUptoSaid : Prop := matrixTransposesUptoRow.holds Try.pinned (OpenSpec.upto matrixTransposesSpec)

/-- 'torsionlaw05.MatrixBlocks', WHERE WHAT IT READS IS OF BULK AT MOST 1048576: true; the input reads as it did. -/
def matrixBlocksUptoRow : OpenClaim := { program := "ytbodjgljjaafaaa", sum := "428bbd5e0ab94aa81918f4a38a919abca3117e833741d71f84c53b4da6aa9dde", func := "torsion/torsionlaw05.MatrixBlocks", spec := "matrixBlocks", unfollowed := true, recurses := true, apart := false, narrowed := true }
def MatrixBlocksUptoSaid : Prop := matrixBlocksUptoRow.holds Try.pinned (OpenSpec.upto matrixBlocksSpec)

/-- 'torsionlaw05.MatrixPicks', WHERE WHAT IT READS IS OF BULK AT MOST 1048576: true; the input reads as it did. -/
def matrixPicksUptoRow : OpenClaim := { program := "ytbodjgljjaafaaa", sum := "428bbd5e0ab94aa81918f4a38a919abca3117e833741d71f84c53b4da6aa9dde", func := "torsion/torsionlaw05.MatrixPicks", spec := "matrixPicks", unfollowed := true, recurses := true, apart := false, narrowed := true }
def MatrixPicksUptoSaid : Prop := matrixPicksUptoRow.holds Try.pinned (OpenSpec.upto matrixPicksSpec)

/-- 'torsionlaw05.MatrixRows', WHERE WHAT IT READS IS OF BULK AT MOST 1048576: true; the input reads as it did. -/
def matrixRowsUptoRow : OpenClaim := { program := "ytbodjgljjaafaaa", sum := "428bbd5e0ab94aa81918f4a38a919abca3117e833741d71f84c53b4da6aa9dde", func := "torsion/torsionlaw05.MatrixRows", spec := "matrixRows", unfollowed := true, recurses := true, apart := false, narrowed := true }
def MatrixRowsUptoSaid : Prop := matrixRowsUptoRow.holds Try.pinned (OpenSpec.upto matrixRowsSpec)

/-- 'torsionlaw18.OplogUndoes', WHERE WHAT IT READS IS OF BULK AT MOST 1048576: true; the input reads as it did. -/
def oplogUndoesUptoRow : OpenClaim := { program := "ytbodjgljjaafaaa", sum := "428bbd5e0ab94aa81918f4a38a919abca3117e833741d71f84c53b4da6aa9dde", func := "torsion/torsionlaw18.OplogUndoes", spec := "oplogUndoes", unfollowed := true, recurses := true, apart := false, narrowed := true }
def OplogUndoesUptoSaid : Prop := oplogUndoesUptoRow.holds Try.pinned (OpenSpec.upto oplogUndoesSpec)

/-- 'torsionlaw18.OplogComposes', WHERE WHAT IT READS IS OF BULK AT MOST 1048576: true; the input reads as it did. -/
def oplogComposesUptoRow : OpenClaim := { program := "ytbodjgljjaafaaa", sum := "428bbd5e0ab94aa81918f4a38a919abca3117e833741d71f84c53b4da6aa9dde", func := "torsion/torsionlaw18.OplogComposes", spec := "oplogComposes", unfollowed := true, recurses := true, apart := false, narrowed := true }
def OplogComposesUptoSaid : Prop := oplogComposesUptoRow.holds Try.pinned (OpenSpec.upto oplogComposesSpec)

/-- 'torsionlaw18.OplogCompacts', WHERE WHAT IT READS IS OF BULK AT MOST 1048576: true; the input reads as it did. -/
def oplogCompactsUptoRow : OpenClaim := { program := "ytbodjgljjaafaaa", sum := "428bbd5e0ab94aa81918f4a38a919abca3117e833741d71f84c53b4da6aa9dde", func := "torsion/torsionlaw18.OplogCompacts", spec := "oplogCompacts", unfollowed := true, recurses := true, apart := false, narrowed := true }
def OplogCompactsUptoSaid : Prop := oplogCompactsUptoRow.holds Try.pinned (OpenSpec.upto oplogCompactsSpec)

/-- 'torsionlaw05.MatrixRing', WHERE WHAT IT READS IS OF BULK AT MOST 1048576: true; the input reads as it did. -/
def matrixRingUptoRow : OpenClaim := { program := "ytbodjgljjaafaaa", sum := "428bbd5e0ab94aa81918f4a38a919abca3117e833741d71f84c53b4da6aa9dde", func := "torsion/torsionlaw05.MatrixRing", spec := "matrixRing", unfollowed := true, recurses := true, apart := false, narrowed := true }
def MatrixRingUptoSaid : Prop := matrixRingUptoRow.holds Try.pinned (OpenSpec.upto matrixRingSpec)

/-- 'torsionlaw05.MatrixMatchesReference', WHERE WHAT IT READS IS OF BULK AT MOST 1048576: true; the input reads as it did. -/
def matrixMatchesReferenceUptoRow : OpenClaim := { program := "ytbodjgljjaafaaa", sum := "428bbd5e0ab94aa81918f4a38a919abca3117e833741d71f84c53b4da6aa9dde", func := "torsion/torsionlaw05.MatrixMatchesReference", spec := "matrixMatchesReference", unfollowed := true, recurses := true, apart := false, narrowed := true }
def MatrixMatchesReferenceUptoSaid : Prop := matrixMatchesReferenceUptoRow.holds Try.pinned (OpenSpec.upto matrixMatchesReferenceSpec)

/-- 'torsionlaw18.OplogReduces', WHERE WHAT IT READS IS OF BULK AT MOST 1048576: true; the input reads as it did. -/
def oplogReducesUptoRow : OpenClaim := { program := "ytbodjgljjaafaaa", sum := "428bbd5e0ab94aa81918f4a38a919abca3117e833741d71f84c53b4da6aa9dde", func := "torsion/torsionlaw18.OplogReduces", spec := "oplogReduces", unfollowed := true, recurses := true, apart := false, narrowed := true }
def OplogReducesUptoSaid : Prop := oplogReducesUptoRow.holds Try.pinned (OpenSpec.upto oplogReducesSpec)

end Rows
end Go.Proofs.Ytbodjgljjaafaaa
