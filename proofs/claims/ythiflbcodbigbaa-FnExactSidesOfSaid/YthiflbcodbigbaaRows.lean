/-
  No cell of these rows narrows 'for every input' (looked for: loops, veiled, ifaces, maps, wideKeys, modest, calm, conditions, laid).
  DERIVED. THE GIVEN ROWS OF THIS SEAT. 15 by the template 'for every input the law returns true; each argument reads behind the call as it read before'; 0 by the template 'total and deterministic' (their statements: YthiflbcodbigbaaTotals.lean).
  GIVEN WITH THE SEED: the statements are not yours to turn. If you find one false, say at which input.
  Laid BY PROGRAM, IN A SANDBOX (cutbox-rows.mjs): the forced cells as the released guide's own fill.sh prints them over the translation aeae94562b487365… (all of the seat's roots in one cut). By AI agents, Wed Nov 11 2026. No macro, syntax, notation, axiom, sorry.
-/
import Derived.Test.YthiflbcodbigbaaChecked
import GoSem.Claim
import GoSem.ClaimJoined
import GoSem.ClaimMapViews
import Derived.JoinedTies
import Derived.KernelRfl
namespace Go.Proofs.Ythiflbcodbigbaa
/- THE CELL 'sum', in the pinned program and in every row, IS THE sha256 OF THE DUMP (.gsa) THAT YthiflbcodbigbaaProg.lean LOADS. Nothing in Lean hashes anything: it is a label: what it is worth is what the hold of that sum in a sandbox is worth. -/
noncomputable def Try.pinned : Pinned := { name := "ythiflbcodbigbaa", sum := "aeae94562b487365d3ba99e8a65a04ebf4d932f92f4561a2b072a1c958f2335c", checked := Try.checked }
namespace Rows
def none {H : Type} : Left H := { results := [], args := [] }

/-- 'laws.FnExactIsLeftPositive': WHATEVER THE INPUT: true; the input reads as it did. -/
def fnExactIsLeftPositiveSpec : ChangeSpec := { name := "fnExactIsLeftPositive", fn := fun _ => fun
  | [d1, d2] => { results := [.lit (.bool true)], args := [d1, d2] }
  | _ => none }
def fnExactIsLeftPositiveRow : OpenClaim := { program := "ythiflbcodbigbaa", sum := "aeae94562b487365d3ba99e8a65a04ebf4d932f92f4561a2b072a1c958f2335c", func := "loop.example/g01080/laws.FnExactIsLeftPositive", spec := "fnExactIsLeftPositive", unfollowed := true, recurses := true, apart := false }
def FnExactIsLeftPositiveSaid : Prop := fnExactIsLeftPositiveRow.holds Try.pinned (OpenSpec.ofChange fnExactIsLeftPositiveSpec)

/-- ITS FALSE NEIGHBOUR: 'it returns false'. Refute it at one input. -/
def fnExactIsLeftPositiveWrong : ChangeSpec := { name := "fnExactIsLeftPositive", fn := fun _ => fun
  | [d1, d2] => { results := [.lit (.bool false)], args := [d1, d2] }
  | _ => none }
def FnExactIsLeftPositiveWrongFalsely : Prop := fnExactIsLeftPositiveRow.holds Try.pinned (OpenSpec.ofChange fnExactIsLeftPositiveWrong)

/-- 'laws.FnExactIsRightNegative': WHATEVER THE INPUT: true; the input reads as it did. -/
def fnExactIsRightNegativeSpec : ChangeSpec := { name := "fnExactIsRightNegative", fn := fun _ => fun
  | [d1, d2] => { results := [.lit (.bool true)], args := [d1, d2] }
  | _ => none }
def fnExactIsRightNegativeRow : OpenClaim := { program := "ythiflbcodbigbaa", sum := "aeae94562b487365d3ba99e8a65a04ebf4d932f92f4561a2b072a1c958f2335c", func := "loop.example/g01080/laws.FnExactIsRightNegative", spec := "fnExactIsRightNegative", unfollowed := true, recurses := true, apart := false }
def FnExactIsRightNegativeSaid : Prop := fnExactIsRightNegativeRow.holds Try.pinned (OpenSpec.ofChange fnExactIsRightNegativeSpec)

/-- ITS FALSE NEIGHBOUR: 'it returns false'. Refute it at one input. -/
def fnExactIsRightNegativeWrong : ChangeSpec := { name := "fnExactIsRightNegative", fn := fun _ => fun
  | [d1, d2] => { results := [.lit (.bool false)], args := [d1, d2] }
  | _ => none }
def FnExactIsRightNegativeWrongFalsely : Prop := fnExactIsRightNegativeRow.holds Try.pinned (OpenSpec.ofChange fnExactIsRightNegativeWrong)

/-- 'laws.FnExactSidesOf': WHATEVER THE INPUT: true; the input reads as it did. -/
def fnExactSidesOfSpec : ChangeSpec := { name := "fnExactSidesOf", fn := fun _ => fun
  | [d1, d2] => { results := [.lit (.bool true)], args := [d1, d2] }
  | _ => none }
def fnExactSidesOfRow : OpenClaim := { program := "ythiflbcodbigbaa", sum := "aeae94562b487365d3ba99e8a65a04ebf4d932f92f4561a2b072a1c958f2335c", func := "loop.example/g01080/laws.FnExactSidesOf", spec := "fnExactSidesOf", unfollowed := true, recurses := true, apart := false }
def FnExactSidesOfSaid : Prop := fnExactSidesOfRow.holds Try.pinned (OpenSpec.ofChange fnExactSidesOfSpec)

/-- ITS FALSE NEIGHBOUR: 'it returns false'. Refute it at one input. -/
def fnExactSidesOfWrong : ChangeSpec := { name := "fnExactSidesOf", fn := fun _ => fun
  | [d1, d2] => { results := [.lit (.bool false)], args := [d1, d2] }
  | _ => none }
def FnExactSidesOfWrongFalsely : Prop := fnExactSidesOfRow.holds Try.pinned (OpenSpec.ofChange fnExactSidesOfWrong)

/-- 'laws.FnExactSwapSides': WHATEVER THE INPUT: true; the input reads as it did. -/
def fnExactSwapSidesSpec : ChangeSpec := { name := "fnExactSwapSides", fn := fun _ => fun
  | [d1, d2] => { results := [.lit (.bool true)], args := [d1, d2] }
  | _ => none }
def fnExactSwapSidesRow : OpenClaim := { program := "ythiflbcodbigbaa", sum := "aeae94562b487365d3ba99e8a65a04ebf4d932f92f4561a2b072a1c958f2335c", func := "loop.example/g01080/laws.FnExactSwapSides", spec := "fnExactSwapSides", unfollowed := true, recurses := true, apart := false }
def FnExactSwapSidesSaid : Prop := fnExactSwapSidesRow.holds Try.pinned (OpenSpec.ofChange fnExactSwapSidesSpec)

/-- ITS FALSE NEIGHBOUR: 'it returns false'. Refute it at one input. -/
def fnExactSwapSidesWrong : ChangeSpec := { name := "fnExactSwapSides", fn := fun _ => fun
  | [d1, d2] => { results := [.lit (.bool false)], args := [d1, d2] }
  | _ => none }
def FnExactSwapSidesWrongFalsely : Prop := fnExactSwapSidesRow.holds Try.pinned (OpenSpec.ofChange fnExactSwapSidesWrong)

/-- 'laws.FnExactFreeChoices': WHATEVER THE INPUT: true; the input reads as it did. -/
def fnExactFreeChoicesSpec : ChangeSpec := { name := "fnExactFreeChoices", fn := fun _ => fun
  | [d1, d2] => { results := [.lit (.bool true)], args := [d1, d2] }
  | _ => none }
def fnExactFreeChoicesRow : OpenClaim := { program := "ythiflbcodbigbaa", sum := "aeae94562b487365d3ba99e8a65a04ebf4d932f92f4561a2b072a1c958f2335c", func := "loop.example/g01080/laws.FnExactFreeChoices", spec := "fnExactFreeChoices", unfollowed := true, recurses := true, apart := false }
def FnExactFreeChoicesSaid : Prop := fnExactFreeChoicesRow.holds Try.pinned (OpenSpec.ofChange fnExactFreeChoicesSpec)

/-- ITS FALSE NEIGHBOUR: 'it returns false'. Refute it at one input. -/
def fnExactFreeChoicesWrong : ChangeSpec := { name := "fnExactFreeChoices", fn := fun _ => fun
  | [d1, d2] => { results := [.lit (.bool false)], args := [d1, d2] }
  | _ => none }
def FnExactFreeChoicesWrongFalsely : Prop := fnExactFreeChoicesRow.holds Try.pinned (OpenSpec.ofChange fnExactFreeChoicesWrong)

/-- 'laws.FnExactStrongestValues': WHATEVER THE INPUT: true; the input reads as it did. -/
def fnExactStrongestValuesSpec : ChangeSpec := { name := "fnExactStrongestValues", fn := fun _ => fun
  | [d1, d2] => { results := [.lit (.bool true)], args := [d1, d2] }
  | _ => none }
def fnExactStrongestValuesRow : OpenClaim := { program := "ythiflbcodbigbaa", sum := "aeae94562b487365d3ba99e8a65a04ebf4d932f92f4561a2b072a1c958f2335c", func := "loop.example/g01080/laws.FnExactStrongestValues", spec := "fnExactStrongestValues", unfollowed := true, recurses := true, apart := false }
def FnExactStrongestValuesSaid : Prop := fnExactStrongestValuesRow.holds Try.pinned (OpenSpec.ofChange fnExactStrongestValuesSpec)

/-- ITS FALSE NEIGHBOUR: 'it returns false'. Refute it at one input. -/
def fnExactStrongestValuesWrong : ChangeSpec := { name := "fnExactStrongestValues", fn := fun _ => fun
  | [d1, d2] => { results := [.lit (.bool false)], args := [d1, d2] }
  | _ => none }
def FnExactStrongestValuesWrongFalsely : Prop := fnExactStrongestValuesRow.holds Try.pinned (OpenSpec.ofChange fnExactStrongestValuesWrong)

/-- 'laws.FnExactWeakestValues': WHATEVER THE INPUT: true; the input reads as it did. -/
def fnExactWeakestValuesSpec : ChangeSpec := { name := "fnExactWeakestValues", fn := fun _ => fun
  | [d1, d2] => { results := [.lit (.bool true)], args := [d1, d2] }
  | _ => none }
def fnExactWeakestValuesRow : OpenClaim := { program := "ythiflbcodbigbaa", sum := "aeae94562b487365d3ba99e8a65a04ebf4d932f92f4561a2b072a1c958f2335c", func := "loop.example/g01080/laws.FnExactWeakestValues", spec := "fnExactWeakestValues", unfollowed := true, recurses := true, apart := false }
def FnExactWeakestValuesSaid : Prop := fnExactWeakestValuesRow.holds Try.pinned (OpenSpec.ofChange fnExactWeakestValuesSpec)

/-- ITS FALSE NEIGHBOUR: 'it returns false'. Refute it at one input. -/
def fnExactWeakestValuesWrong : ChangeSpec := { name := "fnExactWeakestValues", fn := fun _ => fun
  | [d1, d2] => { results := [.lit (.bool false)], args := [d1, d2] }
  | _ => none }
def FnExactWeakestValuesWrongFalsely : Prop := fnExactWeakestValuesRow.holds Try.pinned (OpenSpec.ofChange fnExactWeakestValuesWrong)

/-- 'laws.FnExactFirstBrokenSide': WHATEVER THE INPUT: true; the input reads as it did. -/
def fnExactFirstBrokenSideSpec : ChangeSpec := { name := "fnExactFirstBrokenSide", fn := fun _ => fun
  | [d1, d2, d3] => { results := [.lit (.bool true)], args := [d1, d2, d3] }
  | _ => none }
def fnExactFirstBrokenSideRow : OpenClaim := { program := "ythiflbcodbigbaa", sum := "aeae94562b487365d3ba99e8a65a04ebf4d932f92f4561a2b072a1c958f2335c", func := "loop.example/g01080/laws.FnExactFirstBrokenSide", spec := "fnExactFirstBrokenSide", unfollowed := true, recurses := true, apart := false }
def FnExactFirstBrokenSideSaid : Prop := fnExactFirstBrokenSideRow.holds Try.pinned (OpenSpec.ofChange fnExactFirstBrokenSideSpec)

/-- ITS FALSE NEIGHBOUR: 'it returns false'. Refute it at one input. -/
def fnExactFirstBrokenSideWrong : ChangeSpec := { name := "fnExactFirstBrokenSide", fn := fun _ => fun
  | [d1, d2, d3] => { results := [.lit (.bool false)], args := [d1, d2, d3] }
  | _ => none }
def FnExactFirstBrokenSideWrongFalsely : Prop := fnExactFirstBrokenSideRow.holds Try.pinned (OpenSpec.ofChange fnExactFirstBrokenSideWrong)

/-- 'laws.FnExactSharedValues': WHATEVER THE INPUT: true; the input reads as it did. -/
def fnExactSharedValuesSpec : ChangeSpec := { name := "fnExactSharedValues", fn := fun _ => fun
  | [d1, d2, d3] => { results := [.lit (.bool true)], args := [d1, d2, d3] }
  | _ => none }
def fnExactSharedValuesRow : OpenClaim := { program := "ythiflbcodbigbaa", sum := "aeae94562b487365d3ba99e8a65a04ebf4d932f92f4561a2b072a1c958f2335c", func := "loop.example/g01080/laws.FnExactSharedValues", spec := "fnExactSharedValues", unfollowed := true, recurses := true, apart := false }
def FnExactSharedValuesSaid : Prop := fnExactSharedValuesRow.holds Try.pinned (OpenSpec.ofChange fnExactSharedValuesSpec)

/-- ITS FALSE NEIGHBOUR: 'it returns false'. Refute it at one input. -/
def fnExactSharedValuesWrong : ChangeSpec := { name := "fnExactSharedValues", fn := fun _ => fun
  | [d1, d2, d3] => { results := [.lit (.bool false)], args := [d1, d2, d3] }
  | _ => none }
def FnExactSharedValuesWrongFalsely : Prop := fnExactSharedValuesRow.holds Try.pinned (OpenSpec.ofChange fnExactSharedValuesWrong)

/-- 'laws.FnExactIsInterpolant': WHATEVER THE INPUT: true; the input reads as it did. -/
def fnExactIsInterpolantSpec : ChangeSpec := { name := "fnExactIsInterpolant", fn := fun _ => fun
  | [d1, d2, d3] => { results := [.lit (.bool true)], args := [d1, d2, d3] }
  | _ => none }
def fnExactIsInterpolantRow : OpenClaim := { program := "ythiflbcodbigbaa", sum := "aeae94562b487365d3ba99e8a65a04ebf4d932f92f4561a2b072a1c958f2335c", func := "loop.example/g01080/laws.FnExactIsInterpolant", spec := "fnExactIsInterpolant", unfollowed := true, recurses := true, apart := false }
def FnExactIsInterpolantSaid : Prop := fnExactIsInterpolantRow.holds Try.pinned (OpenSpec.ofChange fnExactIsInterpolantSpec)

/-- ITS FALSE NEIGHBOUR: 'it returns false'. Refute it at one input. -/
def fnExactIsInterpolantWrong : ChangeSpec := { name := "fnExactIsInterpolant", fn := fun _ => fun
  | [d1, d2, d3] => { results := [.lit (.bool false)], args := [d1, d2, d3] }
  | _ => none }
def FnExactIsInterpolantWrongFalsely : Prop := fnExactIsInterpolantRow.holds Try.pinned (OpenSpec.ofChange fnExactIsInterpolantWrong)

/-- 'laws.FnExactHasMonotone': WHATEVER THE INPUT: true; the input reads as it did. -/
def fnExactHasMonotoneSpec : ChangeSpec := { name := "fnExactHasMonotone", fn := fun _ => fun
  | [d1, d2] => { results := [.lit (.bool true)], args := [d1, d2] }
  | _ => none }
def fnExactHasMonotoneRow : OpenClaim := { program := "ythiflbcodbigbaa", sum := "aeae94562b487365d3ba99e8a65a04ebf4d932f92f4561a2b072a1c958f2335c", func := "loop.example/g01080/laws.FnExactHasMonotone", spec := "fnExactHasMonotone", unfollowed := true, recurses := true, apart := false }
def FnExactHasMonotoneSaid : Prop := fnExactHasMonotoneRow.holds Try.pinned (OpenSpec.ofChange fnExactHasMonotoneSpec)

/-- ITS FALSE NEIGHBOUR: 'it returns false'. Refute it at one input. -/
def fnExactHasMonotoneWrong : ChangeSpec := { name := "fnExactHasMonotone", fn := fun _ => fun
  | [d1, d2] => { results := [.lit (.bool false)], args := [d1, d2] }
  | _ => none }
def FnExactHasMonotoneWrongFalsely : Prop := fnExactHasMonotoneRow.holds Try.pinned (OpenSpec.ofChange fnExactHasMonotoneWrong)

/-- 'laws.FnExactFirstBlock': WHATEVER THE INPUT: true; the input reads as it did. -/
def fnExactFirstBlockSpec : ChangeSpec := { name := "fnExactFirstBlock", fn := fun _ => fun
  | [d1, d2] => { results := [.lit (.bool true)], args := [d1, d2] }
  | _ => none }
def fnExactFirstBlockRow : OpenClaim := { program := "ythiflbcodbigbaa", sum := "aeae94562b487365d3ba99e8a65a04ebf4d932f92f4561a2b072a1c958f2335c", func := "loop.example/g01080/laws.FnExactFirstBlock", spec := "fnExactFirstBlock", unfollowed := true, recurses := true, apart := false }
def FnExactFirstBlockSaid : Prop := fnExactFirstBlockRow.holds Try.pinned (OpenSpec.ofChange fnExactFirstBlockSpec)

/-- ITS FALSE NEIGHBOUR: 'it returns false'. Refute it at one input. -/
def fnExactFirstBlockWrong : ChangeSpec := { name := "fnExactFirstBlock", fn := fun _ => fun
  | [d1, d2] => { results := [.lit (.bool false)], args := [d1, d2] }
  | _ => none }
def FnExactFirstBlockWrongFalsely : Prop := fnExactFirstBlockRow.holds Try.pinned (OpenSpec.ofChange fnExactFirstBlockWrong)

/-- 'laws.FnExactHullValues': WHATEVER THE INPUT: true; the input reads as it did. -/
def fnExactHullValuesSpec : ChangeSpec := { name := "fnExactHullValues", fn := fun _ => fun
  | [d1, d2] => { results := [.lit (.bool true)], args := [d1, d2] }
  | _ => none }
def fnExactHullValuesRow : OpenClaim := { program := "ythiflbcodbigbaa", sum := "aeae94562b487365d3ba99e8a65a04ebf4d932f92f4561a2b072a1c958f2335c", func := "loop.example/g01080/laws.FnExactHullValues", spec := "fnExactHullValues", unfollowed := true, recurses := true, apart := false }
def FnExactHullValuesSaid : Prop := fnExactHullValuesRow.holds Try.pinned (OpenSpec.ofChange fnExactHullValuesSpec)

/-- ITS FALSE NEIGHBOUR: 'it returns false'. Refute it at one input. -/
def fnExactHullValuesWrong : ChangeSpec := { name := "fnExactHullValues", fn := fun _ => fun
  | [d1, d2] => { results := [.lit (.bool false)], args := [d1, d2] }
  | _ => none }
def FnExactHullValuesWrongFalsely : Prop := fnExactHullValuesRow.holds Try.pinned (OpenSpec.ofChange fnExactHullValuesWrong)

/-- 'laws.FnExactLeastTrue': WHATEVER THE INPUT: true; the input reads as it did. -/
def fnExactLeastTrueSpec : ChangeSpec := { name := "fnExactLeastTrue", fn := fun _ => fun
  | [d1, d2] => { results := [.lit (.bool true)], args := [d1, d2] }
  | _ => none }
def fnExactLeastTrueRow : OpenClaim := { program := "ythiflbcodbigbaa", sum := "aeae94562b487365d3ba99e8a65a04ebf4d932f92f4561a2b072a1c958f2335c", func := "loop.example/g01080/laws.FnExactLeastTrue", spec := "fnExactLeastTrue", unfollowed := true, recurses := true, apart := false }
def FnExactLeastTrueSaid : Prop := fnExactLeastTrueRow.holds Try.pinned (OpenSpec.ofChange fnExactLeastTrueSpec)

/-- ITS FALSE NEIGHBOUR: 'it returns false'. Refute it at one input. -/
def fnExactLeastTrueWrong : ChangeSpec := { name := "fnExactLeastTrue", fn := fun _ => fun
  | [d1, d2] => { results := [.lit (.bool false)], args := [d1, d2] }
  | _ => none }
def FnExactLeastTrueWrongFalsely : Prop := fnExactLeastTrueRow.holds Try.pinned (OpenSpec.ofChange fnExactLeastTrueWrong)

/-- 'laws.FnExactHullCircuit': WHATEVER THE INPUT: true; the input reads as it did. -/
def fnExactHullCircuitSpec : ChangeSpec := { name := "fnExactHullCircuit", fn := fun _ => fun
  | [d1, d2] => { results := [.lit (.bool true)], args := [d1, d2] }
  | _ => none }
def fnExactHullCircuitRow : OpenClaim := { program := "ythiflbcodbigbaa", sum := "aeae94562b487365d3ba99e8a65a04ebf4d932f92f4561a2b072a1c958f2335c", func := "loop.example/g01080/laws.FnExactHullCircuit", spec := "fnExactHullCircuit", unfollowed := true, recurses := true, apart := false }
def FnExactHullCircuitSaid : Prop := fnExactHullCircuitRow.holds Try.pinned (OpenSpec.ofChange fnExactHullCircuitSpec)

/-- ITS FALSE NEIGHBOUR: 'it returns false'. Refute it at one input. -/
def fnExactHullCircuitWrong : ChangeSpec := { name := "fnExactHullCircuit", fn := fun _ => fun
  | [d1, d2] => { results := [.lit (.bool false)], args := [d1, d2] }
  | _ => none }
def FnExactHullCircuitWrongFalsely : Prop := fnExactHullCircuitRow.holds Try.pinned (OpenSpec.ofChange fnExactHullCircuitWrong)

/- THE SECOND FORM. 'bulk': how many values and letters a reading holds, each counted each time it is reached (what is shared counts as often as it is met; a slice's spare places count too). A statement '..UptoSaid' is the law's where the arguments, and the package variables that the reading takes, are together of bulk at most 1048576: NARROWER than '..Said'. Prove '..Said' where nothing that the law and all that it calls make is longer than what came in: it says more and counts as full. Else prove '..UptoSaid'. A law counts once. -/
mutual
def uptoBulk {H : Type} : DataW H → Nat
  | .lit (.string bytes) => bytes.length + 1
  | .lit _ => 1
  | .nil => 1
  | .ptr d => uptoBulk d + 1
  | .slice elems spare => uptoBulkAll elems + uptoBulkAll spare + 1
  | .agg parts => uptoBulkAll parts + 1
  | .iface _ d => uptoBulk d + 1
  | .map entries => uptoBulkEntries entries + 1
  | .held _ => 1
def uptoBulkAll {H : Type} : List (DataW H) → Nat
  | [] => 0
  | d :: r => uptoBulk d + uptoBulkAll r
def uptoBulkEntries {H : Type} : List (Lit × DataW H) → Nat
  | [] => 0
  | x :: r => uptoBulkEntry x + uptoBulkEntries r
def uptoBulkEntry {H : Type} : Lit × DataW H → Nat
  | (.string bytes, d) => bytes.length + uptoBulk d + 1
  | (_, d) => uptoBulk d + 1
 end
def uptoSmall : (H : Type) → List (DataW H) → Bool := fun _ ds => decide (uptoBulkAll ds ≤ 1048576)
def OpenSpec.upto (s : _root_.Go.ChangeSpec) : _root_.Go.OpenSpec := { _root_.Go.OpenSpec.ofChange s with cond := some uptoSmall }

/-- 'laws.FnExactIsLeftPositive', WHERE WHAT IT READS IS OF BULK AT MOST 1048576: true; the input reads as it did. -/
def fnExactIsLeftPositiveUptoRow : OpenClaim := { program := "ythiflbcodbigbaa", sum := "aeae94562b487365d3ba99e8a65a04ebf4d932f92f4561a2b072a1c958f2335c", func := "loop.example/g01080/laws.FnExactIsLeftPositive", spec := "fnExactIsLeftPositive", unfollowed := true, recurses := true, apart := false, narrowed := true }
def FnExactIsLeftPositiveUptoSaid : Prop := fnExactIsLeftPositiveUptoRow.holds Try.pinned (OpenSpec.upto fnExactIsLeftPositiveSpec)

/-- 'laws.FnExactIsRightNegative', WHERE WHAT IT READS IS OF BULK AT MOST 1048576: true; the input reads as it did. -/
def fnExactIsRightNegativeUptoRow : OpenClaim := { program := "ythiflbcodbigbaa", sum := "aeae94562b487365d3ba99e8a65a04ebf4d932f92f4561a2b072a1c958f2335c", func := "loop.example/g01080/laws.FnExactIsRightNegative", spec := "fnExactIsRightNegative", unfollowed := true, recurses := true, apart := false, narrowed := true }
def FnExactIsRightNegativeUptoSaid : Prop := fnExactIsRightNegativeUptoRow.holds Try.pinned (OpenSpec.upto fnExactIsRightNegativeSpec)

/-- 'laws.FnExactSidesOf', WHERE WHAT IT READS IS OF BULK AT MOST 1048576: true; the input reads as it did. -/
def fnExactSidesOfUptoRow : OpenClaim := { program := "ythiflbcodbigbaa", sum := "aeae94562b487365d3ba99e8a65a04ebf4d932f92f4561a2b072a1c958f2335c", func := "loop.example/g01080/laws.FnExactSidesOf", spec := "fnExactSidesOf", unfollowed := true, recurses := true, apart := false, narrowed := true }
def FnExactSidesOfUptoSaid : Prop := fnExactSidesOfUptoRow.holds Try.pinned (OpenSpec.upto fnExactSidesOfSpec)

/-- 'laws.FnExactSwapSides', WHERE WHAT IT READS IS OF BULK AT MOST 1048576: true; the input reads as it did. -/
def fnExactSwapSidesUptoRow : OpenClaim := { program := "ythiflbcodbigbaa", sum := "aeae94562b487365d3ba99e8a65a04ebf4d932f92f4561a2b072a1c958f2335c", func := "loop.example/g01080/laws.FnExactSwapSides", spec := "fnExactSwapSides", unfollowed := true, recurses := true, apart := false, narrowed := true }
def FnExactSwapSidesUptoSaid : Prop := fnExactSwapSidesUptoRow.holds Try.pinned (OpenSpec.upto fnExactSwapSidesSpec)

/-- 'laws.FnExactFreeChoices', WHERE WHAT IT READS IS OF BULK AT MOST 1048576: true; the input reads as it did. -/
def fnExactFreeChoicesUptoRow : OpenClaim := { program := "ythiflbcodbigbaa", sum := "aeae94562b487365d3ba99e8a65a04ebf4d932f92f4561a2b072a1c958f2335c", func := "loop.example/g01080/laws.FnExactFreeChoices", spec := "fnExactFreeChoices", unfollowed := true, recurses := true, apart := false, narrowed := true }
def FnExactFreeChoicesUptoSaid : Prop := fnExactFreeChoicesUptoRow.holds Try.pinned (OpenSpec.upto fnExactFreeChoicesSpec)

/-- 'laws.FnExactStrongestValues', WHERE WHAT IT READS IS OF BULK AT MOST 1048576: true; the input reads as it did. -/
def fnExactStrongestValuesUptoRow : OpenClaim := { program := "ythiflbcodbigbaa", sum := "aeae94562b487365d3ba99e8a65a04ebf4d932f92f4561a2b072a1c958f2335c", func := "loop.example/g01080/laws.FnExactStrongestValues", spec := "fnExactStrongestValues", unfollowed := true, recurses := true, apart := false, narrowed := true }
def FnExactStrongestValuesUptoSaid : Prop := fnExactStrongestValuesUptoRow.holds Try.pinned (OpenSpec.upto fnExactStrongestValuesSpec)

/-- 'laws.FnExactWeakestValues', WHERE WHAT IT READS IS OF BULK AT MOST 1048576: true; the input reads as it did. -/
def fnExactWeakestValuesUptoRow : OpenClaim := { program := "ythiflbcodbigbaa", sum := "aeae94562b487365d3ba99e8a65a04ebf4d932f92f4561a2b072a1c958f2335c", func := "loop.example/g01080/laws.FnExactWeakestValues", spec := "fnExactWeakestValues", unfollowed := true, recurses := true, apart := false, narrowed := true }
def FnExactWeakestValuesUptoSaid : Prop := fnExactWeakestValuesUptoRow.holds Try.pinned (OpenSpec.upto fnExactWeakestValuesSpec)

/-- 'laws.FnExactFirstBrokenSide', WHERE WHAT IT READS IS OF BULK AT MOST 1048576: true; the input reads as it did. -/
def fnExactFirstBrokenSideUptoRow : OpenClaim := { program := "ythiflbcodbigbaa", sum := "aeae94562b487365d3ba99e8a65a04ebf4d932f92f4561a2b072a1c958f2335c", func := "loop.example/g01080/laws.FnExactFirstBrokenSide", spec := "fnExactFirstBrokenSide", unfollowed := true, recurses := true, apart := false, narrowed := true }
def FnExactFirstBrokenSideUptoSaid : Prop := fnExactFirstBrokenSideUptoRow.holds Try.pinned (OpenSpec.upto fnExactFirstBrokenSideSpec)

/-- 'laws.FnExactSharedValues', WHERE WHAT IT READS IS OF BULK AT MOST 1048576: true; the input reads as it did. -/
def fnExactSharedValuesUptoRow : OpenClaim := { program := "ythiflbcodbigbaa", sum := "aeae94562b487365d3ba99e8a65a04ebf4d932f92f4561a2b072a1c958f2335c", func := "loop.example/g01080/laws.FnExactSharedValues", spec := "fnExactSharedValues", unfollowed := true, recurses := true, apart := false, narrowed := true }
def FnExactSharedValuesUptoSaid : Prop := fnExactSharedValuesUptoRow.holds Try.pinned (OpenSpec.upto fnExactSharedValuesSpec)

/-- 'laws.FnExactIsInterpolant', WHERE WHAT IT READS IS OF BULK AT MOST 1048576: true; the input reads as it did. -/
def fnExactIsInterpolantUptoRow : OpenClaim := { program := "ythiflbcodbigbaa", sum := "aeae94562b487365d3ba99e8a65a04ebf4d932f92f4561a2b072a1c958f2335c", func := "loop.example/g01080/laws.FnExactIsInterpolant", spec := "fnExactIsInterpolant", unfollowed := true, recurses := true, apart := false, narrowed := true }
def FnExactIsInterpolantUptoSaid : Prop := fnExactIsInterpolantUptoRow.holds Try.pinned (OpenSpec.upto fnExactIsInterpolantSpec)

/-- 'laws.FnExactHasMonotone', WHERE WHAT IT READS IS OF BULK AT MOST 1048576: true; the input reads as it did. -/
def fnExactHasMonotoneUptoRow : OpenClaim := { program := "ythiflbcodbigbaa", sum := "aeae94562b487365d3ba99e8a65a04ebf4d932f92f4561a2b072a1c958f2335c", func := "loop.example/g01080/laws.FnExactHasMonotone", spec := "fnExactHasMonotone", unfollowed := true, recurses := true, apart := false, narrowed := true }
def FnExactHasMonotoneUptoSaid : Prop := fnExactHasMonotoneUptoRow.holds Try.pinned (OpenSpec.upto fnExactHasMonotoneSpec)

/-- 'laws.FnExactFirstBlock', WHERE WHAT IT READS IS OF BULK AT MOST 1048576: true; the input reads as it did. -/
def fnExactFirstBlockUptoRow : OpenClaim := { program := "ythiflbcodbigbaa", sum := "aeae94562b487365d3ba99e8a65a04ebf4d932f92f4561a2b072a1c958f2335c", func := "loop.example/g01080/laws.FnExactFirstBlock", spec := "fnExactFirstBlock", unfollowed := true, recurses := true, apart := false, narrowed := true }
def FnExactFirstBlockUptoSaid : Prop := fnExactFirstBlockUptoRow.holds Try.pinned (OpenSpec.upto fnExactFirstBlockSpec)

/-- 'laws.FnExactHullValues', WHERE WHAT IT READS IS OF BULK AT MOST 1048576: true; the input reads as it did. -/
def fnExactHullValuesUptoRow : OpenClaim := { program := "ythiflbcodbigbaa", sum := "aeae94562b487365d3ba99e8a65a04ebf4d932f92f4561a2b072a1c958f2335c", func := "loop.example/g01080/laws.FnExactHullValues", spec := "fnExactHullValues", unfollowed := true, recurses := true, apart := false, narrowed := true }
def FnExactHullValuesUptoSaid : Prop := fnExactHullValuesUptoRow.holds Try.pinned (OpenSpec.upto fnExactHullValuesSpec)

/-- 'laws.FnExactLeastTrue', WHERE WHAT IT READS IS OF BULK AT MOST 1048576: true; the input reads as it did. -/
def fnExactLeastTrueUptoRow : OpenClaim := { program := "ythiflbcodbigbaa", sum := "aeae94562b487365d3ba99e8a65a04ebf4d932f92f4561a2b072a1c958f2335c", func := "loop.example/g01080/laws.FnExactLeastTrue", spec := "fnExactLeastTrue", unfollowed := true, recurses := true, apart := false, narrowed := true }
def FnExactLeastTrueUptoSaid : Prop := fnExactLeastTrueUptoRow.holds Try.pinned (OpenSpec.upto fnExactLeastTrueSpec)

/-- 'laws.FnExactHullCircuit', WHERE WHAT IT READS IS OF BULK AT MOST 1048576: true; the input reads as it did. -/
def fnExactHullCircuitUptoRow : OpenClaim := { program := "ythiflbcodbigbaa", sum := "aeae94562b487365d3ba99e8a65a04ebf4d932f92f4561a2b072a1c958f2335c", func := "loop.example/g01080/laws.FnExactHullCircuit", spec := "fnExactHullCircuit", unfollowed := true, recurses := true, apart := false, narrowed := true }
def FnExactHullCircuitUptoSaid : Prop := fnExactHullCircuitUptoRow.holds Try.pinned (OpenSpec.upto fnExactHullCircuitSpec)

end Rows
end Go.Proofs.Ythiflbcodbigbaa
