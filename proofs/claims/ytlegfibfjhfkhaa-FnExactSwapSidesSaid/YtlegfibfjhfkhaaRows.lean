/-
  No cell of these rows narrows 'for every input' (looked for: loops, veiled, ifaces, maps, wideKeys, modest, calm, conditions, laid).
  DERIVED. THE GIVEN ROWS OF THIS SEAT. 11 by the template 'for every input the law returns true; each argument reads behind the call as it read before'; 0 by the template 'total and deterministic' (their statements: YtlegfibfjhfkhaaTotals.lean).
  GIVEN WITH THE SEED: the statements are not yours to turn. If you find one false, say at which input.
  Laid BY PROGRAM, IN A SANDBOX (cutbox-rows.mjs): the forced cells as the released guide's own fill.sh prints them over the translation 98081f215c28a35b… (all of the seat's roots in one cut). By AI agents, Wed Nov 11 2026. No macro, syntax, notation, axiom, sorry.
-/
import Derived.Test.YtlegfibfjhfkhaaChecked
import GoSem.Claim
import GoSem.ClaimJoined
import GoSem.ClaimMapViews
import Derived.JoinedTies
import Derived.KernelRfl
namespace Go.Proofs.Ytlegfibfjhfkhaa
/- THE CELL 'sum', in the pinned program and in every row, IS THE sha256 OF THE DUMP (.gsa) THAT YtlegfibfjhfkhaaProg.lean LOADS. Nothing in Lean hashes anything: it is a label: what it is worth is what the hold of that sum in a sandbox is worth. -/
noncomputable def Try.pinned : Pinned := { name := "ytlegfibfjhfkhaa", sum := "98081f215c28a35bc92cfa46396a2d149298c3c3a14bf331f437ce5a6ac241cb", checked := Try.checked }
namespace Rows
def none {H : Type} : Left H := { results := [], args := [] }

/-- 'laws.FnExactSwapSides': WHATEVER THE INPUT: true; the input reads as it did. -/
def fnExactSwapSidesSpec : ChangeSpec := { name := "fnExactSwapSides", fn := fun _ => fun
  | [d1, d2] => { results := [.lit (.bool true)], args := [d1, d2] }
  | _ => none }
def fnExactSwapSidesRow : OpenClaim := { program := "ytlegfibfjhfkhaa", sum := "98081f215c28a35bc92cfa46396a2d149298c3c3a14bf331f437ce5a6ac241cb", func := "loop.example/g01080/laws.FnExactSwapSides", spec := "fnExactSwapSides", unfollowed := true, recurses := true, apart := false }
def FnExactSwapSidesSaid : Prop := fnExactSwapSidesRow.holds Try.pinned (OpenSpec.ofChange fnExactSwapSidesSpec)

/-- ITS FALSE NEIGHBOUR: 'it returns false'. Refute it at one input. -/
def fnExactSwapSidesWrong : ChangeSpec := { name := "fnExactSwapSides", fn := fun _ => fun
  | [d1, d2] => { results := [.lit (.bool false)], args := [d1, d2] }
  | _ => none }
def FnExactSwapSidesWrongFalsely : Prop := fnExactSwapSidesRow.holds Try.pinned (OpenSpec.ofChange fnExactSwapSidesWrong)

/-- 'laws.FnExactFirstBrokenSide': WHATEVER THE INPUT: true; the input reads as it did. -/
def fnExactFirstBrokenSideSpec : ChangeSpec := { name := "fnExactFirstBrokenSide", fn := fun _ => fun
  | [d1, d2, d3] => { results := [.lit (.bool true)], args := [d1, d2, d3] }
  | _ => none }
def fnExactFirstBrokenSideRow : OpenClaim := { program := "ytlegfibfjhfkhaa", sum := "98081f215c28a35bc92cfa46396a2d149298c3c3a14bf331f437ce5a6ac241cb", func := "loop.example/g01080/laws.FnExactFirstBrokenSide", spec := "fnExactFirstBrokenSide", unfollowed := true, recurses := true, apart := false }
def FnExactFirstBrokenSideSaid : Prop := fnExactFirstBrokenSideRow.holds Try.pinned (OpenSpec.ofChange fnExactFirstBrokenSideSpec)

/-- ITS FALSE NEIGHBOUR: 'it returns false'. Refute it at one input. -/
def fnExactFirstBrokenSideWrong : ChangeSpec := { name := "fnExactFirstBrokenSide", fn := fun _ => fun
  | [d1, d2, d3] => { results := [.lit (.bool false)], args := [d1, d2, d3] }
  | _ => none }
def FnExactFirstBrokenSideWrongFalsely : Prop := fnExactFirstBrokenSideRow.holds Try.pinned (OpenSpec.ofChange fnExactFirstBrokenSideWrong)

/-- 'laws.FnExactSharedValues': WHATEVER THE INPUT: true; the input reads as it did. -/
def fnExactSharedValuesSpec : ChangeSpec := { name := "fnExactSharedValues", fn := fun _ => fun
  | [d1, d2, d3] => { results := [.lit (.bool true)], args := [d1, d2, d3] }
  | _ => none }
def fnExactSharedValuesRow : OpenClaim := { program := "ytlegfibfjhfkhaa", sum := "98081f215c28a35bc92cfa46396a2d149298c3c3a14bf331f437ce5a6ac241cb", func := "loop.example/g01080/laws.FnExactSharedValues", spec := "fnExactSharedValues", unfollowed := true, recurses := true, apart := false }
def FnExactSharedValuesSaid : Prop := fnExactSharedValuesRow.holds Try.pinned (OpenSpec.ofChange fnExactSharedValuesSpec)

/-- ITS FALSE NEIGHBOUR: 'it returns false'. Refute it at one input. -/
def fnExactSharedValuesWrong : ChangeSpec := { name := "fnExactSharedValues", fn := fun _ => fun
  | [d1, d2, d3] => { results := [.lit (.bool false)], args := [d1, d2, d3] }
  | _ => none }
def FnExactSharedValuesWrongFalsely : Prop := fnExactSharedValuesRow.holds Try.pinned (OpenSpec.ofChange fnExactSharedValuesWrong)

/-- 'laws.FnExactIsInterpolant': WHATEVER THE INPUT: true; the input reads as it did. -/
def fnExactIsInterpolantSpec : ChangeSpec := { name := "fnExactIsInterpolant", fn := fun _ => fun
  | [d1, d2, d3] => { results := [.lit (.bool true)], args := [d1, d2, d3] }
  | _ => none }
def fnExactIsInterpolantRow : OpenClaim := { program := "ytlegfibfjhfkhaa", sum := "98081f215c28a35bc92cfa46396a2d149298c3c3a14bf331f437ce5a6ac241cb", func := "loop.example/g01080/laws.FnExactIsInterpolant", spec := "fnExactIsInterpolant", unfollowed := true, recurses := true, apart := false }
def FnExactIsInterpolantSaid : Prop := fnExactIsInterpolantRow.holds Try.pinned (OpenSpec.ofChange fnExactIsInterpolantSpec)

/-- ITS FALSE NEIGHBOUR: 'it returns false'. Refute it at one input. -/
def fnExactIsInterpolantWrong : ChangeSpec := { name := "fnExactIsInterpolant", fn := fun _ => fun
  | [d1, d2, d3] => { results := [.lit (.bool false)], args := [d1, d2, d3] }
  | _ => none }
def FnExactIsInterpolantWrongFalsely : Prop := fnExactIsInterpolantRow.holds Try.pinned (OpenSpec.ofChange fnExactIsInterpolantWrong)

/-- 'laws.FnExactHullCircuit': WHATEVER THE INPUT: true; the input reads as it did. -/
def fnExactHullCircuitSpec : ChangeSpec := { name := "fnExactHullCircuit", fn := fun _ => fun
  | [d1, d2] => { results := [.lit (.bool true)], args := [d1, d2] }
  | _ => none }
def fnExactHullCircuitRow : OpenClaim := { program := "ytlegfibfjhfkhaa", sum := "98081f215c28a35bc92cfa46396a2d149298c3c3a14bf331f437ce5a6ac241cb", func := "loop.example/g01080/laws.FnExactHullCircuit", spec := "fnExactHullCircuit", unfollowed := true, recurses := true, apart := false }
def FnExactHullCircuitSaid : Prop := fnExactHullCircuitRow.holds Try.pinned (OpenSpec.ofChange fnExactHullCircuitSpec)

/-- ITS FALSE NEIGHBOUR: 'it returns false'. Refute it at one input. -/
def fnExactHullCircuitWrong : ChangeSpec := { name := "fnExactHullCircuit", fn := fun _ => fun
  | [d1, d2] => { results := [.lit (.bool false)], args := [d1, d2] }
  | _ => none }
def FnExactHullCircuitWrongFalsely : Prop := fnExactHullCircuitRow.holds Try.pinned (OpenSpec.ofChange fnExactHullCircuitWrong)

/-- 'laws.FnExactLeastCut': WHATEVER THE INPUT: true; the input reads as it did. -/
def fnExactLeastCutSpec : ChangeSpec := { name := "fnExactLeastCut", fn := fun _ => fun
  | [d] => { results := [.lit (.bool true)], args := [d] }
  | _ => none }
def fnExactLeastCutRow : OpenClaim := { program := "ytlegfibfjhfkhaa", sum := "98081f215c28a35bc92cfa46396a2d149298c3c3a14bf331f437ce5a6ac241cb", func := "loop.example/g01080/laws.FnExactLeastCut", spec := "fnExactLeastCut", unfollowed := true, recurses := true, apart := false }
def FnExactLeastCutSaid : Prop := fnExactLeastCutRow.holds Try.pinned (OpenSpec.ofChange fnExactLeastCutSpec)

/-- ITS FALSE NEIGHBOUR: 'it returns false'. Refute it at one input. -/
def fnExactLeastCutWrong : ChangeSpec := { name := "fnExactLeastCut", fn := fun _ => fun
  | [d] => { results := [.lit (.bool false)], args := [d] }
  | _ => none }
def FnExactLeastCutWrongFalsely : Prop := fnExactLeastCutRow.holds Try.pinned (OpenSpec.ofChange fnExactLeastCutWrong)

/-- 'laws.FnExactMergeVertices': WHATEVER THE INPUT: true; the input reads as it did. -/
def fnExactMergeVerticesSpec : ChangeSpec := { name := "fnExactMergeVertices", fn := fun _ => fun
  | [d1, d2] => { results := [.lit (.bool true)], args := [d1, d2] }
  | _ => none }
def fnExactMergeVerticesRow : OpenClaim := { program := "ytlegfibfjhfkhaa", sum := "98081f215c28a35bc92cfa46396a2d149298c3c3a14bf331f437ce5a6ac241cb", func := "loop.example/g01080/laws.FnExactMergeVertices", spec := "fnExactMergeVertices", unfollowed := true, recurses := true, apart := false }
def FnExactMergeVerticesSaid : Prop := fnExactMergeVerticesRow.holds Try.pinned (OpenSpec.ofChange fnExactMergeVerticesSpec)

/-- ITS FALSE NEIGHBOUR: 'it returns false'. Refute it at one input. -/
def fnExactMergeVerticesWrong : ChangeSpec := { name := "fnExactMergeVertices", fn := fun _ => fun
  | [d1, d2] => { results := [.lit (.bool false)], args := [d1, d2] }
  | _ => none }
def FnExactMergeVerticesWrongFalsely : Prop := fnExactMergeVerticesRow.holds Try.pinned (OpenSpec.ofChange fnExactMergeVerticesWrong)

/-- 'laws.FnExactParityCnf': WHATEVER THE INPUT: true; the input reads as it did. -/
def fnExactParityCnfSpec : ChangeSpec := { name := "fnExactParityCnf", fn := fun _ => fun
  | [d] => { results := [.lit (.bool true)], args := [d] }
  | _ => none }
def fnExactParityCnfRow : OpenClaim := { program := "ytlegfibfjhfkhaa", sum := "98081f215c28a35bc92cfa46396a2d149298c3c3a14bf331f437ce5a6ac241cb", func := "loop.example/g01080/laws.FnExactParityCnf", spec := "fnExactParityCnf", apart := false }
def FnExactParityCnfSaid : Prop := fnExactParityCnfRow.holds Try.pinned (OpenSpec.ofChange fnExactParityCnfSpec)

/-- ITS FALSE NEIGHBOUR: 'it returns false'. Refute it at one input. -/
def fnExactParityCnfWrong : ChangeSpec := { name := "fnExactParityCnf", fn := fun _ => fun
  | [d] => { results := [.lit (.bool false)], args := [d] }
  | _ => none }
def FnExactParityCnfWrongFalsely : Prop := fnExactParityCnfRow.holds Try.pinned (OpenSpec.ofChange fnExactParityCnfWrong)

/-- 'laws.FnExactHallSet': WHATEVER THE INPUT: true; the input reads as it did. -/
def fnExactHallSetSpec : ChangeSpec := { name := "fnExactHallSet", fn := fun _ => fun
  | [d] => { results := [.lit (.bool true)], args := [d] }
  | _ => none }
def fnExactHallSetRow : OpenClaim := { program := "ytlegfibfjhfkhaa", sum := "98081f215c28a35bc92cfa46396a2d149298c3c3a14bf331f437ce5a6ac241cb", func := "loop.example/g01080/laws.FnExactHallSet", spec := "fnExactHallSet", unfollowed := true, recurses := true, apart := false }
def FnExactHallSetSaid : Prop := fnExactHallSetRow.holds Try.pinned (OpenSpec.ofChange fnExactHallSetSpec)

/-- ITS FALSE NEIGHBOUR: 'it returns false'. Refute it at one input. -/
def fnExactHallSetWrong : ChangeSpec := { name := "fnExactHallSet", fn := fun _ => fun
  | [d] => { results := [.lit (.bool false)], args := [d] }
  | _ => none }
def FnExactHallSetWrongFalsely : Prop := fnExactHallSetRow.holds Try.pinned (OpenSpec.ofChange fnExactHallSetWrong)

/-- 'laws.FnExactChoiceCnf': WHATEVER THE INPUT: true; the input reads as it did. -/
def fnExactChoiceCnfSpec : ChangeSpec := { name := "fnExactChoiceCnf", fn := fun _ => fun
  | [d] => { results := [.lit (.bool true)], args := [d] }
  | _ => none }
def fnExactChoiceCnfRow : OpenClaim := { program := "ytlegfibfjhfkhaa", sum := "98081f215c28a35bc92cfa46396a2d149298c3c3a14bf331f437ce5a6ac241cb", func := "loop.example/g01080/laws.FnExactChoiceCnf", spec := "fnExactChoiceCnf", unfollowed := true, recurses := true, apart := false }
def FnExactChoiceCnfSaid : Prop := fnExactChoiceCnfRow.holds Try.pinned (OpenSpec.ofChange fnExactChoiceCnfSpec)

/-- ITS FALSE NEIGHBOUR: 'it returns false'. Refute it at one input. -/
def fnExactChoiceCnfWrong : ChangeSpec := { name := "fnExactChoiceCnf", fn := fun _ => fun
  | [d] => { results := [.lit (.bool false)], args := [d] }
  | _ => none }
def FnExactChoiceCnfWrongFalsely : Prop := fnExactChoiceCnfRow.holds Try.pinned (OpenSpec.ofChange fnExactChoiceCnfWrong)

/-- 'laws.FnExactEdgeCnf': WHATEVER THE INPUT: true; the input reads as it did. -/
def fnExactEdgeCnfSpec : ChangeSpec := { name := "fnExactEdgeCnf", fn := fun _ => fun
  | [d] => { results := [.lit (.bool true)], args := [d] }
  | _ => none }
def fnExactEdgeCnfRow : OpenClaim := { program := "ytlegfibfjhfkhaa", sum := "98081f215c28a35bc92cfa46396a2d149298c3c3a14bf331f437ce5a6ac241cb", func := "loop.example/g01080/laws.FnExactEdgeCnf", spec := "fnExactEdgeCnf", unfollowed := true, recurses := true, apart := false }
def FnExactEdgeCnfSaid : Prop := fnExactEdgeCnfRow.holds Try.pinned (OpenSpec.ofChange fnExactEdgeCnfSpec)

/-- ITS FALSE NEIGHBOUR: 'it returns false'. Refute it at one input. -/
def fnExactEdgeCnfWrong : ChangeSpec := { name := "fnExactEdgeCnf", fn := fun _ => fun
  | [d] => { results := [.lit (.bool false)], args := [d] }
  | _ => none }
def FnExactEdgeCnfWrongFalsely : Prop := fnExactEdgeCnfRow.holds Try.pinned (OpenSpec.ofChange fnExactEdgeCnfWrong)

/- THE SECOND FORM. 'bulk': how many values and letters a reading holds, each counted each time it is reached (what is shared counts as often as it is met; a slice's spare places count too). A statement '..UptoSaid' is the law's where the arguments, and the package variables that the reading takes, are together of bulk at most 1048576: NARROWER than '..Said'. Prove '..Said' where nothing that the law and all that it calls make is longer than what came in: it says more and counts as full. Else prove '..UptoSaid'. A law counts once. -/
mutual
def uptoBulk {H : Type} : DataW H → Nat
  | .lit (.string bytes) => bytes.length + 1
  | .lit _ => 1
  | .nil => 1
  | .ptr d => uptoBulk d + 1
  | .slice elems spare => uptoBulkAll elems + uptoBulkAll spare + 1
  | .agg parts => uptoBulkAll parts + 1
  | .iface _ d => uptoBulk d + 1
  | .map entries => uptoBulkEntries entries + 1
  | .held _ => 1
def uptoBulkAll {H : Type} : List (DataW H) → Nat
  | [] => 0
  | d :: r => uptoBulk d + uptoBulkAll r
def uptoBulkEntries {H : Type} : List (Lit × DataW H) → Nat
  | [] => 0
  | x :: r => uptoBulkEntry x + uptoBulkEntries r
def uptoBulkEntry {H : Type} : Lit × DataW H → Nat
  | (.string bytes, d) => bytes.length + uptoBulk d + 1
  | (_, d) => uptoBulk d + 1
 end
def uptoSmall : (H : Type) → List (DataW H) → Bool := fun _ ds => decide (uptoBulkAll ds ≤ 1048576)
def OpenSpec.upto (s : _root_.Go.ChangeSpec) : _root_.Go.OpenSpec := { _root_.Go.OpenSpec.ofChange s with cond := some uptoSmall }

/-- 'laws.FnExactSwapSides', WHERE WHAT IT READS IS OF BULK AT MOST 1048576: true; the input reads as it did. -/
def fnExactSwapSidesUptoRow : OpenClaim := { program := "ytlegfibfjhfkhaa", sum := "98081f215c28a35bc92cfa46396a2d149298c3c3a14bf331f437ce5a6ac241cb", func := "loop.example/g01080/laws.FnExactSwapSides", spec := "fnExactSwapSides", unfollowed := true, recurses := true, apart := false, narrowed := true }
def FnExactSwapSidesUptoSaid : Prop := fnExactSwapSidesUptoRow.holds Try.pinned (OpenSpec.upto fnExactSwapSidesSpec)

/-- 'laws.FnExactFirstBrokenSide', WHERE WHAT IT READS IS OF BULK AT MOST 1048576: true; the input reads as it did. -/
def fnExactFirstBrokenSideUptoRow : OpenClaim := { program := "ytlegfibfjhfkhaa", sum := "98081f215c28a35bc92cfa46396a2d149298c3c3a14bf331f437ce5a6ac241cb", func := "loop.example/g01080/laws.FnExactFirstBrokenSide", spec := "fnExactFirstBrokenSide", unfollowed := true, recurses := true, apart := false, narrowed := true }
def FnExactFirstBrokenSideUptoSaid : Prop := fnExactFirstBrokenSideUptoRow.holds Try.pinned (OpenSpec.upto fnExactFirstBrokenSideSpec)

/-- 'laws.FnExactSharedValues', WHERE WHAT IT READS IS OF BULK AT MOST 1048576: true; the input reads as it did. -/
def fnExactSharedValuesUptoRow : OpenClaim := { program := "ytlegfibfjhfkhaa", sum := "98081f215c28a35bc92cfa46396a2d149298c3c3a14bf331f437ce5a6ac241cb", func := "loop.example/g01080/laws.FnExactSharedValues", spec := "fnExactSharedValues", unfollowed := true, recurses := true, apart := false, narrowed := true }
def FnExactSharedValuesUptoSaid : Prop := fnExactSharedValuesUptoRow.holds Try.pinned (OpenSpec.upto fnExactSharedValuesSpec)

/-- 'laws.FnExactIsInterpolant', WHERE WHAT IT READS IS OF BULK AT MOST 1048576: true; the input reads as it did. -/
def fnExactIsInterpolantUptoRow : OpenClaim := { program := "ytlegfibfjhfkhaa", sum := "98081f215c28a35bc92cfa46396a2d149298c3c3a14bf331f437ce5a6ac241cb", func := "loop.example/g01080/laws.FnExactIsInterpolant", spec := "fnExactIsInterpolant", unfollowed := true, recurses := true, apart := false, narrowed := true }
def FnExactIsInterpolantUptoSaid : Prop := fnExactIsInterpolantUptoRow.holds Try.pinned (OpenSpec.upto fnExactIsInterpolantSpec)

/-- 'laws.FnExactHullCircuit', WHERE WHAT IT READS IS OF BULK AT MOST 1048576: true; the input reads as it did. -/
def fnExactHullCircuitUptoRow : OpenClaim := { program := "ytlegfibfjhfkhaa", sum := "98081f215c28a35bc92cfa46396a2d149298c3c3a14bf331f437ce5a6ac241cb", func := "loop.example/g01080/laws.FnExactHullCircuit", spec := "fnExactHullCircuit", unfollowed := true, recurses := true, apart := false, narrowed := true }
def FnExactHullCircuitUptoSaid : Prop := fnExactHullCircuitUptoRow.holds Try.pinned (OpenSpec.upto fnExactHullCircuitSpec)

/-- 'laws.FnExactLeastCut', WHERE WHAT IT READS IS OF BULK AT MOST 1048576: true; the input reads as it did. -/
def fnExactLeastCutUptoRow : OpenClaim := { program := "ytlegfibfjhfkhaa", sum := "98081f215c28a35bc92cfa46396a2d149298c3c3a14bf331f437ce5a6ac241cb", func := "loop.example/g01080/laws.FnExactLeastCut", spec := "fnExactLeastCut", unfollowed := true, recurses := true, apart := false, narrowed := true }
def FnExactLeastCutUptoSaid : Prop := fnExactLeastCutUptoRow.holds Try.pinned (OpenSpec.upto fnExactLeastCutSpec)

/-- 'laws.FnExactMergeVertices', WHERE WHAT IT READS IS OF BULK AT MOST 1048576: true; the input reads as it did. -/
def fnExactMergeVerticesUptoRow : OpenClaim := { program := "ytlegfibfjhfkhaa", sum := "98081f215c28a35bc92cfa46396a2d149298c3c3a14bf331f437ce5a6ac241cb", func := "loop.example/g01080/laws.FnExactMergeVertices", spec := "fnExactMergeVertices", unfollowed := true, recurses := true, apart := false, narrowed := true }
def FnExactMergeVerticesUptoSaid : Prop := fnExactMergeVerticesUptoRow.holds Try.pinned (OpenSpec.upto fnExactMergeVerticesSpec)

/-- 'laws.FnExactParityCnf', WHERE WHAT IT READS IS OF BULK AT MOST 1048576: true; the input reads as it did. -/
def fnExactParityCnfUptoRow : OpenClaim := { program := "ytlegfibfjhfkhaa", sum := "98081f215c28a35bc92cfa46396a2d149298c3c3a14bf331f437ce5a6ac241cb", func := "loop.example/g01080/laws.FnExactParityCnf", spec := "fnExactParityCnf", apart := false, narrowed := true }
def FnExactParityCnfUptoSaid : Prop := fnExactParityCnfUptoRow.holds Try.pinned (OpenSpec.upto fnExactParityCnfSpec)

/-- 'laws.FnExactHallSet', WHERE WHAT IT READS IS OF BULK AT MOST 1048576: true; the input reads as it did. -/
def fnExactHallSetUptoRow : OpenClaim := { program := "ytlegfibfjhfkhaa", sum := "98081f215c28a35bc92cfa46396a2d149298c3c3a14bf331f437ce5a6ac241cb", func := "loop.example/g01080/laws.FnExactHallSet", spec := "fnExactHallSet", unfollowed := true, recurses := true, apart := false, narrowed := true }
def FnExactHallSetUptoSaid : Prop := fnExactHallSetUptoRow.holds Try.pinned (OpenSpec.upto fnExactHallSetSpec)

/-- 'laws.FnExactChoiceCnf', WHERE WHAT IT READS IS OF BULK AT MOST 1048576: true; the input reads as it did. -/
def fnExactChoiceCnfUptoRow : OpenClaim := { program := "ytlegfibfjhfkhaa", sum := "98081f215c28a35bc92cfa46396a2d149298c3c3a14bf331f437ce5a6ac241cb", func := "loop.example/g01080/laws.FnExactChoiceCnf", spec := "fnExactChoiceCnf", unfollowed := true, recurses := true, apart := false, narrowed := true }
def FnExactChoiceCnfUptoSaid : Prop := fnExactChoiceCnfUptoRow.holds Try.pinned (OpenSpec.upto fnExactChoiceCnfSpec)

/-- 'laws.FnExactEdgeCnf', WHERE WHAT IT READS IS OF BULK AT MOST 1048576: true; the input reads as it did. -/
def fnExactEdgeCnfUptoRow : OpenClaim := { program := "ytlegfibfjhfkhaa", sum := "98081f215c28a35bc92cfa46396a2d149298c3c3a14bf331f437ce5a6ac241cb", func := "loop.example/g01080/laws.FnExactEdgeCnf", spec := "fnExactEdgeCnf", unfollowed := true, recurses := true, apart := false, narrowed := true }
def FnExactEdgeCnfUptoSaid : Prop := fnExactEdgeCnfUptoRow.holds Try.pinned (OpenSpec.upto fnExactEdgeCnfSpec)

end Rows
end Go.Proofs.Ytlegfibfjhfkhaa
