/-
  No cell of these rows narrows 'for every input' (looked for: loops, veiled, ifaces, maps, wideKeys, modest, calm, conditions, laid).
  DERIVED. THE GIVEN ROWS OF THIS SEAT. 12 by the template 'for every input the law returns true; each argument reads behind the call as it read before'; 0 by the template 'total and deterministic' (their statements: YtegaablidoibdaaTotals.lean).
  GIVEN WITH THE SEED: the statements are not yours to turn. If you find one false, say at which input.
  Laid BY PROGRAM, IN A SANDBOX (cutbox-rows.mjs): the forced cells as the released guide's own fill.sh prints them over the translation 90be4a7535d519f2… (all of the seat's roots in one cut). By AI agents, Wed Nov 11 2026. No macro, syntax, notation, axiom, sorry.
-/
import Derived.Test.YtegaablidoibdaaChecked
import GoSem.Claim
import GoSem.ClaimJoined
import GoSem.ClaimMapViews
import Derived.JoinedTies
import Derived.KernelRfl
namespace Go.Proofs.Ytegaablidoibdaa
/- THE CELL 'sum', in the pinned program and in every row, IS THE sha256 OF THE DUMP (.gsa) THAT YtegaablidoibdaaProg.lean LOADS. Nothing in Lean hashes anything: it is a label: what it is worth is what the hold of that sum in a sandbox is worth. -/
noncomputable def Try.pinned : Pinned := { name := "ytegaablidoibdaa", sum := "90be4a7535d519f279058774e16cd2e06bfb6737967e9c141f536d4268c07127", checked := Try.checked }
namespace Rows
def none {H : Type} : Left H := { results := [], args := [] }

/-- 'laws.FnExactIsMonotoneList': WHATEVER THE INPUT: true; the input reads as it did. -/
def fnExactIsMonotoneListSpec : ChangeSpec := { name := "fnExactIsMonotoneList", fn := fun _ => fun
  | [d] => { results := [.lit (.bool true)], args := [d] }
  | _ => none }
def fnExactIsMonotoneListRow : OpenClaim := { program := "ytegaablidoibdaa", sum := "90be4a7535d519f279058774e16cd2e06bfb6737967e9c141f536d4268c07127", func := "loop.example/g01080/laws.FnExactIsMonotoneList", spec := "fnExactIsMonotoneList", apart := false }
def FnExactIsMonotoneListSaid : Prop := fnExactIsMonotoneListRow.holds Try.pinned (OpenSpec.ofChange fnExactIsMonotoneListSpec)

/-- ITS FALSE NEIGHBOUR: 'it returns false'. Refute it at one input. -/
def fnExactIsMonotoneListWrong : ChangeSpec := { name := "fnExactIsMonotoneList", fn := fun _ => fun
  | [d] => { results := [.lit (.bool false)], args := [d] }
  | _ => none }
def FnExactIsMonotoneListWrongFalsely : Prop := fnExactIsMonotoneListRow.holds Try.pinned (OpenSpec.ofChange fnExactIsMonotoneListWrong)

/-- 'laws.FnExactBitsOfMap': WHATEVER THE INPUT: true; the input reads as it did. -/
def fnExactBitsOfMapSpec : ChangeSpec := { name := "fnExactBitsOfMap", fn := fun _ => fun
  | [d1, d2] => { results := [.lit (.bool true)], args := [d1, d2] }
  | _ => none }
def fnExactBitsOfMapRow : OpenClaim := { program := "ytegaablidoibdaa", sum := "90be4a7535d519f279058774e16cd2e06bfb6737967e9c141f536d4268c07127", func := "loop.example/g01080/laws.FnExactBitsOfMap", spec := "fnExactBitsOfMap", unfollowed := true, recurses := true, apart := false }
def FnExactBitsOfMapSaid : Prop := fnExactBitsOfMapRow.holds Try.pinned (OpenSpec.ofChange fnExactBitsOfMapSpec)

/-- ITS FALSE NEIGHBOUR: 'it returns false'. Refute it at one input. -/
def fnExactBitsOfMapWrong : ChangeSpec := { name := "fnExactBitsOfMap", fn := fun _ => fun
  | [d1, d2] => { results := [.lit (.bool false)], args := [d1, d2] }
  | _ => none }
def FnExactBitsOfMapWrongFalsely : Prop := fnExactBitsOfMapRow.holds Try.pinned (OpenSpec.ofChange fnExactBitsOfMapWrong)

/-- 'laws.FnExactIsChoice': WHATEVER THE INPUT: true; the input reads as it did. -/
def fnExactIsChoiceSpec : ChangeSpec := { name := "fnExactIsChoice", fn := fun _ => fun
  | [d] => { results := [.lit (.bool true)], args := [d] }
  | _ => none }
def fnExactIsChoiceRow : OpenClaim := { program := "ytegaablidoibdaa", sum := "90be4a7535d519f279058774e16cd2e06bfb6737967e9c141f536d4268c07127", func := "loop.example/g01080/laws.FnExactIsChoice", spec := "fnExactIsChoice", apart := false }
def FnExactIsChoiceSaid : Prop := fnExactIsChoiceRow.holds Try.pinned (OpenSpec.ofChange fnExactIsChoiceSpec)

/-- ITS FALSE NEIGHBOUR: 'it returns false'. Refute it at one input. -/
def fnExactIsChoiceWrong : ChangeSpec := { name := "fnExactIsChoice", fn := fun _ => fun
  | [d] => { results := [.lit (.bool false)], args := [d] }
  | _ => none }
def FnExactIsChoiceWrongFalsely : Prop := fnExactIsChoiceRow.holds Try.pinned (OpenSpec.ofChange fnExactIsChoiceWrong)

/-- 'laws.FnExactLeftPigeon': WHATEVER THE INPUT: true; the input reads as it did. -/
def fnExactLeftPigeonSpec : ChangeSpec := { name := "fnExactLeftPigeon", fn := fun _ => fun
  | [d1, d2] => { results := [.lit (.bool true)], args := [d1, d2] }
  | _ => none }
def fnExactLeftPigeonRow : OpenClaim := { program := "ytegaablidoibdaa", sum := "90be4a7535d519f279058774e16cd2e06bfb6737967e9c141f536d4268c07127", func := "loop.example/g01080/laws.FnExactLeftPigeon", spec := "fnExactLeftPigeon", unfollowed := true, recurses := true, apart := false }
def FnExactLeftPigeonSaid : Prop := fnExactLeftPigeonRow.holds Try.pinned (OpenSpec.ofChange fnExactLeftPigeonSpec)

/-- ITS FALSE NEIGHBOUR: 'it returns false'. Refute it at one input. -/
def fnExactLeftPigeonWrong : ChangeSpec := { name := "fnExactLeftPigeon", fn := fun _ => fun
  | [d1, d2] => { results := [.lit (.bool false)], args := [d1, d2] }
  | _ => none }
def FnExactLeftPigeonWrongFalsely : Prop := fnExactLeftPigeonRow.holds Try.pinned (OpenSpec.ofChange fnExactLeftPigeonWrong)

/-- 'laws.FnExactCycleGraph': WHATEVER THE INPUT: true; the input reads as it did. -/
def fnExactCycleGraphSpec : ChangeSpec := { name := "fnExactCycleGraph", fn := fun _ => fun
  | [d1, d2] => { results := [.lit (.bool true)], args := [d1, d2] }
  | _ => none }
def fnExactCycleGraphRow : OpenClaim := { program := "ytegaablidoibdaa", sum := "90be4a7535d519f279058774e16cd2e06bfb6737967e9c141f536d4268c07127", func := "loop.example/g01080/laws.FnExactCycleGraph", spec := "fnExactCycleGraph", apart := false }
def FnExactCycleGraphSaid : Prop := fnExactCycleGraphRow.holds Try.pinned (OpenSpec.ofChange fnExactCycleGraphSpec)

/-- ITS FALSE NEIGHBOUR: 'it returns false'. Refute it at one input. -/
def fnExactCycleGraphWrong : ChangeSpec := { name := "fnExactCycleGraph", fn := fun _ => fun
  | [d1, d2] => { results := [.lit (.bool false)], args := [d1, d2] }
  | _ => none }
def FnExactCycleGraphWrongFalsely : Prop := fnExactCycleGraphRow.holds Try.pinned (OpenSpec.ofChange fnExactCycleGraphWrong)

/-- 'laws.FnExactLadderGraph': WHATEVER THE INPUT: true; the input reads as it did. -/
def fnExactLadderGraphSpec : ChangeSpec := { name := "fnExactLadderGraph", fn := fun _ => fun
  | [d1, d2] => { results := [.lit (.bool true)], args := [d1, d2] }
  | _ => none }
def fnExactLadderGraphRow : OpenClaim := { program := "ytegaablidoibdaa", sum := "90be4a7535d519f279058774e16cd2e06bfb6737967e9c141f536d4268c07127", func := "loop.example/g01080/laws.FnExactLadderGraph", spec := "fnExactLadderGraph", apart := false }
def FnExactLadderGraphSaid : Prop := fnExactLadderGraphRow.holds Try.pinned (OpenSpec.ofChange fnExactLadderGraphSpec)

/-- ITS FALSE NEIGHBOUR: 'it returns false'. Refute it at one input. -/
def fnExactLadderGraphWrong : ChangeSpec := { name := "fnExactLadderGraph", fn := fun _ => fun
  | [d1, d2] => { results := [.lit (.bool false)], args := [d1, d2] }
  | _ => none }
def FnExactLadderGraphWrongFalsely : Prop := fnExactLadderGraphRow.holds Try.pinned (OpenSpec.ofChange fnExactLadderGraphWrong)

/-- 'laws.FnExactIsCharged': WHATEVER THE INPUT: true; the input reads as it did. -/
def fnExactIsChargedSpec : ChangeSpec := { name := "fnExactIsCharged", fn := fun _ => fun
  | [d] => { results := [.lit (.bool true)], args := [d] }
  | _ => none }
def fnExactIsChargedRow : OpenClaim := { program := "ytegaablidoibdaa", sum := "90be4a7535d519f279058774e16cd2e06bfb6737967e9c141f536d4268c07127", func := "loop.example/g01080/laws.FnExactIsCharged", spec := "fnExactIsCharged", apart := false }
def FnExactIsChargedSaid : Prop := fnExactIsChargedRow.holds Try.pinned (OpenSpec.ofChange fnExactIsChargedSpec)

/-- ITS FALSE NEIGHBOUR: 'it returns false'. Refute it at one input. -/
def fnExactIsChargedWrong : ChangeSpec := { name := "fnExactIsCharged", fn := fun _ => fun
  | [d] => { results := [.lit (.bool false)], args := [d] }
  | _ => none }
def FnExactIsChargedWrongFalsely : Prop := fnExactIsChargedRow.holds Try.pinned (OpenSpec.ofChange fnExactIsChargedWrong)

/-- 'laws.FnExactSharedValues': WHATEVER THE INPUT: true; the input reads as it did. -/
def fnExactSharedValuesSpec : ChangeSpec := { name := "fnExactSharedValues", fn := fun _ => fun
  | [d1, d2, d3] => { results := [.lit (.bool true)], args := [d1, d2, d3] }
  | _ => none }
def fnExactSharedValuesRow : OpenClaim := { program := "ytegaablidoibdaa", sum := "90be4a7535d519f279058774e16cd2e06bfb6737967e9c141f536d4268c07127", func := "loop.example/g01080/laws.FnExactSharedValues", spec := "fnExactSharedValues", unfollowed := true, recurses := true, apart := false }
def FnExactSharedValuesSaid : Prop := fnExactSharedValuesRow.holds Try.pinned (OpenSpec.ofChange fnExactSharedValuesSpec)

/-- ITS FALSE NEIGHBOUR: 'it returns false'. Refute it at one input. -/
def fnExactSharedValuesWrong : ChangeSpec := { name := "fnExactSharedValues", fn := fun _ => fun
  | [d1, d2, d3] => { results := [.lit (.bool false)], args := [d1, d2, d3] }
  | _ => none }
def FnExactSharedValuesWrongFalsely : Prop := fnExactSharedValuesRow.holds Try.pinned (OpenSpec.ofChange fnExactSharedValuesWrong)

/-- 'laws.FnExactCriticalBits': WHATEVER THE INPUT: true; the input reads as it did. -/
def fnExactCriticalBitsSpec : ChangeSpec := { name := "fnExactCriticalBits", fn := fun _ => fun
  | [d] => { results := [.lit (.bool true)], args := [d] }
  | _ => none }
def fnExactCriticalBitsRow : OpenClaim := { program := "ytegaablidoibdaa", sum := "90be4a7535d519f279058774e16cd2e06bfb6737967e9c141f536d4268c07127", func := "loop.example/g01080/laws.FnExactCriticalBits", spec := "fnExactCriticalBits", unfollowed := true, recurses := true, apart := false }
def FnExactCriticalBitsSaid : Prop := fnExactCriticalBitsRow.holds Try.pinned (OpenSpec.ofChange fnExactCriticalBitsSpec)

/-- ITS FALSE NEIGHBOUR: 'it returns false'. Refute it at one input. -/
def fnExactCriticalBitsWrong : ChangeSpec := { name := "fnExactCriticalBits", fn := fun _ => fun
  | [d] => { results := [.lit (.bool false)], args := [d] }
  | _ => none }
def FnExactCriticalBitsWrongFalsely : Prop := fnExactCriticalBitsRow.holds Try.pinned (OpenSpec.ofChange fnExactCriticalBitsWrong)

/-- 'laws.FnExactIsBook': WHATEVER THE INPUT: true; the input reads as it did. -/
def fnExactIsBookSpec : ChangeSpec := { name := "fnExactIsBook", fn := fun _ => fun
  | [d] => { results := [.lit (.bool true)], args := [d] }
  | _ => none }
def fnExactIsBookRow : OpenClaim := { program := "ytegaablidoibdaa", sum := "90be4a7535d519f279058774e16cd2e06bfb6737967e9c141f536d4268c07127", func := "loop.example/g01080/laws.FnExactIsBook", spec := "fnExactIsBook", inPlace := ["internal/bytealg.abigen_runtime_cmpstring"], apart := false }
def FnExactIsBookSaid : Prop := fnExactIsBookRow.holds Try.pinned (OpenSpec.ofChange fnExactIsBookSpec)

/-- ITS FALSE NEIGHBOUR: 'it returns false'. Refute it at one input. -/
def fnExactIsBookWrong : ChangeSpec := { name := "fnExactIsBook", fn := fun _ => fun
  | [d] => { results := [.lit (.bool false)], args := [d] }
  | _ => none }
def FnExactIsBookWrongFalsely : Prop := fnExactIsBookRow.holds Try.pinned (OpenSpec.ofChange fnExactIsBookWrong)

/-- 'laws.FnExactFirstMatching': WHATEVER THE INPUT: true; the input reads as it did. -/
def fnExactFirstMatchingSpec : ChangeSpec := { name := "fnExactFirstMatching", fn := fun _ => fun
  | [d] => { results := [.lit (.bool true)], args := [d] }
  | _ => none }
def fnExactFirstMatchingRow : OpenClaim := { program := "ytegaablidoibdaa", sum := "90be4a7535d519f279058774e16cd2e06bfb6737967e9c141f536d4268c07127", func := "loop.example/g01080/laws.FnExactFirstMatching", spec := "fnExactFirstMatching", recurses := true, apart := false }
def FnExactFirstMatchingSaid : Prop := fnExactFirstMatchingRow.holds Try.pinned (OpenSpec.ofChange fnExactFirstMatchingSpec)

/-- ITS FALSE NEIGHBOUR: 'it returns false'. Refute it at one input. -/
def fnExactFirstMatchingWrong : ChangeSpec := { name := "fnExactFirstMatching", fn := fun _ => fun
  | [d] => { results := [.lit (.bool false)], args := [d] }
  | _ => none }
def FnExactFirstMatchingWrongFalsely : Prop := fnExactFirstMatchingRow.holds Try.pinned (OpenSpec.ofChange fnExactFirstMatchingWrong)

/-- 'laws.FnExactSmallestSystem': WHATEVER THE INPUT: true; the input reads as it did. -/
def fnExactSmallestSystemSpec : ChangeSpec := { name := "fnExactSmallestSystem", fn := fun _ => fun
  | [d1, d2] => { results := [.lit (.bool true)], args := [d1, d2] }
  | _ => none }
def fnExactSmallestSystemRow : OpenClaim := { program := "ytegaablidoibdaa", sum := "90be4a7535d519f279058774e16cd2e06bfb6737967e9c141f536d4268c07127", func := "loop.example/g01080/laws.FnExactSmallestSystem", spec := "fnExactSmallestSystem", inPlace := ["internal/bytealg.abigen_runtime_cmpstring"], apart := false }
def FnExactSmallestSystemSaid : Prop := fnExactSmallestSystemRow.holds Try.pinned (OpenSpec.ofChange fnExactSmallestSystemSpec)

/-- ITS FALSE NEIGHBOUR: 'it returns false'. Refute it at one input. -/
def fnExactSmallestSystemWrong : ChangeSpec := { name := "fnExactSmallestSystem", fn := fun _ => fun
  | [d1, d2] => { results := [.lit (.bool false)], args := [d1, d2] }
  | _ => none }
def FnExactSmallestSystemWrongFalsely : Prop := fnExactSmallestSystemRow.holds Try.pinned (OpenSpec.ofChange fnExactSmallestSystemWrong)

/- THE SECOND FORM. 'bulk': how many values and letters a reading holds, each counted each time it is reached (what is shared counts as often as it is met; a slice's spare places count too). A statement '..UptoSaid' is the law's where the arguments, and the package variables that the reading takes, are together of bulk at most 1048576: NARROWER than '..Said'. Prove '..Said' where nothing that the law and all that it calls make is longer than what came in: it says more and counts as full. Else prove '..UptoSaid'. A law counts once. -/
mutual
def uptoBulk {H : Type} : DataW H → Nat
  | .lit (.string bytes) => bytes.length + 1
  | .lit _ => 1
  | .nil => 1
  | .ptr d => uptoBulk d + 1
  | .slice elems spare => uptoBulkAll elems + uptoBulkAll spare + 1
  | .agg parts => uptoBulkAll parts + 1
  | .iface _ d => uptoBulk d + 1
  | .map entries => uptoBulkEntries entries + 1
  | .held _ => 1
def uptoBulkAll {H : Type} : List (DataW H) → Nat
  | [] => 0
  | d :: r => uptoBulk d + uptoBulkAll r
def uptoBulkEntries {H : Type} : List (Lit × DataW H) → Nat
  | [] => 0
  | x :: r => uptoBulkEntry x + uptoBulkEntries r
def uptoBulkEntry {H : Type} : Lit × DataW H → Nat
  | (.string bytes, d) => bytes.length + uptoBulk d + 1
  | (_, d) => uptoBulk d + 1
 end
def uptoSmall : (H : Type) → List (DataW H) → Bool := fun _ ds => decide (uptoBulkAll ds ≤ 1048576)
def OpenSpec.upto (s : _root_.Go.ChangeSpec) : _root_.Go.OpenSpec := { _root_.Go.OpenSpec.ofChange s with cond := some uptoSmall }

/-- 'laws.FnExactIsMonotoneList', WHERE WHAT IT READS IS OF BULK AT MOST 1048576: true; the input reads as it did. -/
def fnExactIsMonotoneListUptoRow : OpenClaim := { program := "ytegaablidoibdaa", sum := "90be4a7535d519f279058774e16cd2e06bfb6737967e9c141f536d4268c07127", func := "loop.example/g01080/laws.FnExactIsMonotoneList", spec := "fnExactIsMonotoneList", apart := false, narrowed := true }
def FnExactIsMonotoneListUptoSaid : Prop := fnExactIsMonotoneListUptoRow.holds Try.pinned (OpenSpec.upto fnExactIsMonotoneListSpec)

/-- 'laws.FnExactBitsOfMap', WHERE WHAT IT READS IS OF BULK AT MOST 1048576: true; the input reads as it did. -/
def fnExactBitsOfMapUptoRow : OpenClaim := { program := "ytegaablidoibdaa", sum := "90be4a7535d519f279058774e16cd2e06bfb6737967e9c141f536d4268c07127", func := "loop.example/g01080/laws.FnExactBitsOfMap", spec := "fnExactBitsOfMap", unfollowed := true, recurses := true, apart := false, narrowed := true }
def FnExactBitsOfMapUptoSaid : Prop := fnExactBitsOfMapUptoRow.holds Try.pinned (OpenSpec.upto fnExactBitsOfMapSpec)

/-- 'laws.FnExactIsChoice', WHERE WHAT IT READS IS OF BULK AT MOST 1048576: true; the input reads as it did. -/
def fnExactIsChoiceUptoRow : OpenClaim := { program := "ytegaablidoibdaa", sum := "90be4a7535d519f279058774e16cd2e06bfb6737967e9c141f536d4268c07127", func := "loop.example/g01080/laws.FnExactIsChoice", spec := "fnExactIsChoice", apart := false, narrowed := true }
def FnExactIsChoiceUptoSaid : Prop := fnExactIsChoiceUptoRow.holds Try.pinned (OpenSpec.upto fnExactIsChoiceSpec)

/-- 'laws.FnExactLeftPigeon', WHERE WHAT IT READS IS OF BULK AT MOST 1048576: true; the input reads as it did. -/
def fnExactLeftPigeonUptoRow : OpenClaim := { program := "ytegaablidoibdaa", sum := "90be4a7535d519f279058774e16cd2e06bfb6737967e9c141f536d4268c07127", func := "loop.example/g01080/laws.FnExactLeftPigeon", spec := "fnExactLeftPigeon", unfollowed := true, recurses := true, apart := false, narrowed := true }
def FnExactLeftPigeonUptoSaid : Prop := fnExactLeftPigeonUptoRow.holds Try.pinned (OpenSpec.upto fnExactLeftPigeonSpec)

/-- 'laws.FnExactCycleGraph', WHERE WHAT IT READS IS OF BULK AT MOST 1048576: true; the input reads as it did. -/
def fnExactCycleGraphUptoRow : OpenClaim := { program := "ytegaablidoibdaa", sum := "90be4a7535d519f279058774e16cd2e06bfb6737967e9c141f536d4268c07127", func := "loop.example/g01080/laws.FnExactCycleGraph", spec := "fnExactCycleGraph", apart := false, narrowed := true }
def FnExactCycleGraphUptoSaid : Prop := fnExactCycleGraphUptoRow.holds Try.pinned (OpenSpec.upto fnExactCycleGraphSpec)

/-- 'laws.FnExactLadderGraph', WHERE WHAT IT READS IS OF BULK AT MOST 1048576: true; the input reads as it did. -/
def fnExactLadderGraphUptoRow : OpenClaim := { program := "ytegaablidoibdaa", sum := "90be4a7535d519f279058774e16cd2e06bfb6737967e9c141f536d4268c07127", func := "loop.example/g01080/laws.FnExactLadderGraph", spec := "fnExactLadderGraph", apart := false, narrowed := true }
def FnExactLadderGraphUptoSaid : Prop := fnExactLadderGraphUptoRow.holds Try.pinned (OpenSpec.upto fnExactLadderGraphSpec)

/-- 'laws.FnExactIsCharged', WHERE WHAT IT READS IS OF BULK AT MOST 1048576: true; the input reads as it did. -/
def fnExactIsChargedUptoRow : OpenClaim := { program := "ytegaablidoibdaa", sum := "90be4a7535d519f279058774e16cd2e06bfb6737967e9c141f536d4268c07127", func := "loop.example/g01080/laws.FnExactIsCharged", spec := "fnExactIsCharged", apart := false, narrowed := true }
def FnExactIsChargedUptoSaid : Prop := fnExactIsChargedUptoRow.holds Try.pinned (OpenSpec.upto fnExactIsChargedSpec)

/-- 'laws.FnExactSharedValues', WHERE WHAT IT READS IS OF BULK AT MOST 1048576: true; the input reads as it did. -/
def fnExactSharedValuesUptoRow : OpenClaim := { program := "ytegaablidoibdaa", sum := "90be4a7535d519f279058774e16cd2e06bfb6737967e9c141f536d4268c07127", func := "loop.example/g01080/laws.FnExactSharedValues", spec := "fnExactSharedValues", unfollowed := true, recurses := true, apart := false, narrowed := true }
def FnExactSharedValuesUptoSaid : Prop := fnExactSharedValuesUptoRow.holds Try.pinned (OpenSpec.upto fnExactSharedValuesSpec)

/-- 'laws.FnExactCriticalBits', WHERE WHAT IT READS IS OF BULK AT MOST 1048576: true; the input reads as it did. -/
def fnExactCriticalBitsUptoRow : OpenClaim := { program := "ytegaablidoibdaa", sum := "90be4a7535d519f279058774e16cd2e06bfb6737967e9c141f536d4268c07127", func := "loop.example/g01080/laws.FnExactCriticalBits", spec := "fnExactCriticalBits", unfollowed := true, recurses := true, apart := false, narrowed := true }
def FnExactCriticalBitsUptoSaid : Prop := fnExactCriticalBitsUptoRow.holds Try.pinned (OpenSpec.upto fnExactCriticalBitsSpec)

/-- 'laws.FnExactIsBook', WHERE WHAT IT READS IS OF BULK AT MOST 1048576: true; the input reads as it did. -/
def fnExactIsBookUptoRow : OpenClaim := { program := "ytegaablidoibdaa", sum := "90be4a7535d519f279058774e16cd2e06bfb6737967e9c141f536d4268c07127", func := "loop.example/g01080/laws.FnExactIsBook", spec := "fnExactIsBook", inPlace := ["internal/bytealg.abigen_runtime_cmpstring"], apart := false, narrowed := true }
def FnExactIsBookUptoSaid : Prop := fnExactIsBookUptoRow.holds Try.pinned (OpenSpec.upto fnExactIsBookSpec)

/-- 'laws.FnExactFirstMatching', WHERE WHAT IT READS IS OF BULK AT MOST 1048576: true; the input reads as it did. -/
def fnExactFirstMatchingUptoRow : OpenClaim := { program := "ytegaablidoibdaa", sum := "90be4a7535d519f279058774e16cd2e06bfb6737967e9c141f536d4268c07127", func := "loop.example/g01080/laws.FnExactFirstMatching", spec := "fnExactFirstMatching", recurses := true, apart := false, narrowed := true }
def FnExactFirstMatchingUptoSaid : Prop := fnExactFirstMatchingUptoRow.holds Try.pinned (OpenSpec.upto fnExactFirstMatchingSpec)

/-- 'laws.FnExactSmallestSystem', WHERE WHAT IT READS IS OF BULK AT MOST 1048576: true; the input reads as it did. -/
def fnExactSmallestSystemUptoRow : OpenClaim := { program := "ytegaablidoibdaa", sum := "90be4a7535d519f279058774e16cd2e06bfb6737967e9c141f536d4268c07127", func := "loop.example/g01080/laws.FnExactSmallestSystem", spec := "fnExactSmallestSystem", inPlace := ["internal/bytealg.abigen_runtime_cmpstring"], apart := false, narrowed := true }
def FnExactSmallestSystemUptoSaid : Prop := fnExactSmallestSystemUptoRow.holds Try.pinned (OpenSpec.upto fnExactSmallestSystemSpec)

end Rows
end Go.Proofs.Ytegaablidoibdaa
