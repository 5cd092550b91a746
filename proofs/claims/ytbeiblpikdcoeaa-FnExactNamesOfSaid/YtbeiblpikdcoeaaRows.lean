/-
  No cell of these rows narrows 'for every input' (looked for: loops, veiled, ifaces, maps, wideKeys, modest, calm, conditions, laid).
  DERIVED. THE GIVEN ROWS OF THIS SEAT. 7 by the template 'for every input the law returns true; each argument reads behind the call as it read before'; 0 by the template 'total and deterministic' (their statements: YtbeiblpikdcoeaaTotals.lean).
  GIVEN WITH THE SEED: the statements are not yours to turn. If you find one false, say at which input.
  Laid BY PROGRAM, IN A SANDBOX (cutbox-rows.mjs): the forced cells as the released guide's own fill.sh prints them over the translation 3da2017100b890f8… (all of the seat's roots in one cut). By AI agents, Wed Nov 11 2026. No macro, syntax, notation, axiom, sorry.
-/
import Derived.Test.YtbeiblpikdcoeaaChecked
import GoSem.Claim
import GoSem.ClaimJoined
import GoSem.ClaimMapViews
import Derived.JoinedTies
import Derived.KernelRfl
namespace Go.Proofs.Ytbeiblpikdcoeaa
/- THE CELL 'sum', in the pinned program and in every row, IS THE sha256 OF THE DUMP (.gsa) THAT YtbeiblpikdcoeaaProg.lean LOADS. Nothing in Lean hashes anything: it is a label: what it is worth is what the hold of that sum in a sandbox is worth. -/
noncomputable def Try.pinned : Pinned := { name := "ytbeiblpikdcoeaa", sum := "3da2017100b890f8e6264970613f8ec7f841d60b6fd67fe8143548ce5f12a0c2", checked := Try.checked }
namespace Rows
def none {H : Type} : Left H := { results := [], args := [] }

/-- 'laws.FnExactSwapSides': WHATEVER THE INPUT: true; the input reads as it did. -/
def fnExactSwapSidesSpec : ChangeSpec := { name := "fnExactSwapSides", fn := fun _ => fun
  | [d1, d2] => { results := [.lit (.bool true)], args := [d1, d2] }
  | _ => none }
def fnExactSwapSidesRow : OpenClaim := { program := "ytbeiblpikdcoeaa", sum := "3da2017100b890f8e6264970613f8ec7f841d60b6fd67fe8143548ce5f12a0c2", func := "loop.example/g01080/laws.FnExactSwapSides", spec := "fnExactSwapSides", unfollowed := true, recurses := true, apart := false }
def FnExactSwapSidesSaid : Prop := fnExactSwapSidesRow.holds Try.pinned (OpenSpec.ofChange fnExactSwapSidesSpec)

/-- ITS FALSE NEIGHBOUR: 'it returns false'. Refute it at one input. -/
def fnExactSwapSidesWrong : ChangeSpec := { name := "fnExactSwapSides", fn := fun _ => fun
  | [d1, d2] => { results := [.lit (.bool false)], args := [d1, d2] }
  | _ => none }
def FnExactSwapSidesWrongFalsely : Prop := fnExactSwapSidesRow.holds Try.pinned (OpenSpec.ofChange fnExactSwapSidesWrong)

/-- 'laws.FnExactFirstBrokenSide': WHATEVER THE INPUT: true; the input reads as it did. -/
def fnExactFirstBrokenSideSpec : ChangeSpec := { name := "fnExactFirstBrokenSide", fn := fun _ => fun
  | [d1, d2, d3] => { results := [.lit (.bool true)], args := [d1, d2, d3] }
  | _ => none }
def fnExactFirstBrokenSideRow : OpenClaim := { program := "ytbeiblpikdcoeaa", sum := "3da2017100b890f8e6264970613f8ec7f841d60b6fd67fe8143548ce5f12a0c2", func := "loop.example/g01080/laws.FnExactFirstBrokenSide", spec := "fnExactFirstBrokenSide", unfollowed := true, recurses := true, apart := false }
def FnExactFirstBrokenSideSaid : Prop := fnExactFirstBrokenSideRow.holds Try.pinned (OpenSpec.ofChange fnExactFirstBrokenSideSpec)

/-- ITS FALSE NEIGHBOUR: 'it returns false'. Refute it at one input. -/
def fnExactFirstBrokenSideWrong : ChangeSpec := { name := "fnExactFirstBrokenSide", fn := fun _ => fun
  | [d1, d2, d3] => { results := [.lit (.bool false)], args := [d1, d2, d3] }
  | _ => none }
def FnExactFirstBrokenSideWrongFalsely : Prop := fnExactFirstBrokenSideRow.holds Try.pinned (OpenSpec.ofChange fnExactFirstBrokenSideWrong)

/-- 'laws.FnExactSharedValues': WHATEVER THE INPUT: true; the input reads as it did. -/
def fnExactSharedValuesSpec : ChangeSpec := { name := "fnExactSharedValues", fn := fun _ => fun
  | [d1, d2, d3] => { results := [.lit (.bool true)], args := [d1, d2, d3] }
  | _ => none }
def fnExactSharedValuesRow : OpenClaim := { program := "ytbeiblpikdcoeaa", sum := "3da2017100b890f8e6264970613f8ec7f841d60b6fd67fe8143548ce5f12a0c2", func := "loop.example/g01080/laws.FnExactSharedValues", spec := "fnExactSharedValues", unfollowed := true, recurses := true, apart := false }
def FnExactSharedValuesSaid : Prop := fnExactSharedValuesRow.holds Try.pinned (OpenSpec.ofChange fnExactSharedValuesSpec)

/-- ITS FALSE NEIGHBOUR: 'it returns false'. Refute it at one input. -/
def fnExactSharedValuesWrong : ChangeSpec := { name := "fnExactSharedValues", fn := fun _ => fun
  | [d1, d2, d3] => { results := [.lit (.bool false)], args := [d1, d2, d3] }
  | _ => none }
def FnExactSharedValuesWrongFalsely : Prop := fnExactSharedValuesRow.holds Try.pinned (OpenSpec.ofChange fnExactSharedValuesWrong)

/-- 'laws.FnExactIsInterpolant': WHATEVER THE INPUT: true; the input reads as it did. -/
def fnExactIsInterpolantSpec : ChangeSpec := { name := "fnExactIsInterpolant", fn := fun _ => fun
  | [d1, d2, d3] => { results := [.lit (.bool true)], args := [d1, d2, d3] }
  | _ => none }
def fnExactIsInterpolantRow : OpenClaim := { program := "ytbeiblpikdcoeaa", sum := "3da2017100b890f8e6264970613f8ec7f841d60b6fd67fe8143548ce5f12a0c2", func := "loop.example/g01080/laws.FnExactIsInterpolant", spec := "fnExactIsInterpolant", unfollowed := true, recurses := true, apart := false }
def FnExactIsInterpolantSaid : Prop := fnExactIsInterpolantRow.holds Try.pinned (OpenSpec.ofChange fnExactIsInterpolantSpec)

/-- ITS FALSE NEIGHBOUR: 'it returns false'. Refute it at one input. -/
def fnExactIsInterpolantWrong : ChangeSpec := { name := "fnExactIsInterpolant", fn := fun _ => fun
  | [d1, d2, d3] => { results := [.lit (.bool false)], args := [d1, d2, d3] }
  | _ => none }
def FnExactIsInterpolantWrongFalsely : Prop := fnExactIsInterpolantRow.holds Try.pinned (OpenSpec.ofChange fnExactIsInterpolantWrong)

/-- 'laws.FnExactHullCircuit': WHATEVER THE INPUT: true; the input reads as it did. -/
def fnExactHullCircuitSpec : ChangeSpec := { name := "fnExactHullCircuit", fn := fun _ => fun
  | [d1, d2] => { results := [.lit (.bool true)], args := [d1, d2] }
  | _ => none }
def fnExactHullCircuitRow : OpenClaim := { program := "ytbeiblpikdcoeaa", sum := "3da2017100b890f8e6264970613f8ec7f841d60b6fd67fe8143548ce5f12a0c2", func := "loop.example/g01080/laws.FnExactHullCircuit", spec := "fnExactHullCircuit", unfollowed := true, recurses := true, apart := false }
def FnExactHullCircuitSaid : Prop := fnExactHullCircuitRow.holds Try.pinned (OpenSpec.ofChange fnExactHullCircuitSpec)

/-- ITS FALSE NEIGHBOUR: 'it returns false'. Refute it at one input. -/
def fnExactHullCircuitWrong : ChangeSpec := { name := "fnExactHullCircuit", fn := fun _ => fun
  | [d1, d2] => { results := [.lit (.bool false)], args := [d1, d2] }
  | _ => none }
def FnExactHullCircuitWrongFalsely : Prop := fnExactHullCircuitRow.holds Try.pinned (OpenSpec.ofChange fnExactHullCircuitWrong)

/-- 'laws.FnExactNamesOf': WHATEVER THE INPUT: true; the input reads as it did. -/
def fnExactNamesOfSpec : ChangeSpec := { name := "fnExactNamesOf", fn := fun _ => fun
  | [d] => { results := [.lit (.bool true)], args := [d] }
  | _ => none }
def fnExactNamesOfRow : OpenClaim := { program := "ytbeiblpikdcoeaa", sum := "3da2017100b890f8e6264970613f8ec7f841d60b6fd67fe8143548ce5f12a0c2", func := "loop.example/g01080/laws.FnExactNamesOf", spec := "fnExactNamesOf", inPlace := ["internal/bytealg.abigen_runtime_cmpstring"], apart := false }
def FnExactNamesOfSaid : Prop := fnExactNamesOfRow.holds Try.pinned (OpenSpec.ofChange fnExactNamesOfSpec)

/-- ITS FALSE NEIGHBOUR: 'it returns false'. Refute it at one input. -/
def fnExactNamesOfWrong : ChangeSpec := { name := "fnExactNamesOf", fn := fun _ => fun
  | [d] => { results := [.lit (.bool false)], args := [d] }
  | _ => none }
def FnExactNamesOfWrongFalsely : Prop := fnExactNamesOfRow.holds Try.pinned (OpenSpec.ofChange fnExactNamesOfWrong)

/-- 'laws.FnExactDropName': WHATEVER THE INPUT: true; the input reads as it did. -/
def fnExactDropNameSpec : ChangeSpec := { name := "fnExactDropName", fn := fun _ => fun
  | [d1, d2] => { results := [.lit (.bool true)], args := [d1, d2] }
  | _ => none }
def fnExactDropNameRow : OpenClaim := { program := "ytbeiblpikdcoeaa", sum := "3da2017100b890f8e6264970613f8ec7f841d60b6fd67fe8143548ce5f12a0c2", func := "loop.example/g01080/laws.FnExactDropName", spec := "fnExactDropName", inPlace := ["internal/bytealg.abigen_runtime_cmpstring"], unfollowed := true, recurses := true, apart := false }
def FnExactDropNameSaid : Prop := fnExactDropNameRow.holds Try.pinned (OpenSpec.ofChange fnExactDropNameSpec)

/-- ITS FALSE NEIGHBOUR: 'it returns false'. Refute it at one input. -/
def fnExactDropNameWrong : ChangeSpec := { name := "fnExactDropName", fn := fun _ => fun
  | [d1, d2] => { results := [.lit (.bool false)], args := [d1, d2] }
  | _ => none }
def FnExactDropNameWrongFalsely : Prop := fnExactDropNameRow.holds Try.pinned (OpenSpec.ofChange fnExactDropNameWrong)

/- THE SECOND FORM. 'bulk': how many values and letters a reading holds, each counted each time it is reached (what is shared counts as often as it is met; a slice's spare places count too). A statement '..UptoSaid' is the law's where the arguments, and the package variables that the reading takes, are together of bulk at most 1048576: NARROWER than '..Said'. Prove '..Said' where nothing that the law and all that it calls make is longer than what came in: it says more and counts as full. Else prove '..UptoSaid'. A law counts once. -/
mutual
def uptoBulk {H : Type} : DataW H → Nat
  | .lit (.string bytes) => bytes.length + 1
  | .lit _ => 1
  | .nil => 1
  | .ptr d => uptoBulk d + 1
  | .slice elems spare => uptoBulkAll elems + uptoBulkAll spare + 1
  | .agg parts => uptoBulkAll parts + 1
  | .iface _ d => uptoBulk d + 1
  | .map entries => uptoBulkEntries entries + 1
  | .held _ => 1
def uptoBulkAll {H : Type} : List (DataW H) → Nat
  | [] => 0
  | d :: r => uptoBulk d + uptoBulkAll r
def uptoBulkEntries {H : Type} : List (Lit × DataW H) → Nat
  | [] => 0
  | x :: r => uptoBulkEntry x + uptoBulkEntries r
def uptoBulkEntry {H : Type} : Lit × DataW H → Nat
  | (.string bytes, d) => bytes.length + uptoBulk d + 1
  | (_, d) => uptoBulk d + 1
 end
def uptoSmall : (H : Type) → List (DataW H) → Bool := fun _ ds => decide (uptoBulkAll ds ≤ 1048576)
def OpenSpec.upto (s : _root_.Go.ChangeSpec) : _root_.Go.OpenSpec := { _root_.Go.OpenSpec.ofChange s with cond := some uptoSmall }

/-- 'laws.FnExactSwapSides', WHERE WHAT IT READS IS OF BULK AT MOST 1048576: true; the input reads as it did. -/
def fnExactSwapSidesUptoRow : OpenClaim := { program := "ytbeiblpikdcoeaa", sum := "3da2017100b890f8e6264970613f8ec7f841d60b6fd67fe8143548ce5f12a0c2", func := "loop.example/g01080/laws.FnExactSwapSides", spec := "fnExactSwapSides", unfollowed := true, recurses := true, apart := false, narrowed := true }
def FnExactSwapSidesUptoSaid : Prop := fnExactSwapSidesUptoRow.holds Try.pinned (OpenSpec.upto fnExactSwapSidesSpec)

/-- 'laws.FnExactFirstBrokenSide', WHERE WHAT IT READS IS OF BULK AT MOST 1048576: true; the input reads as it did. -/
def fnExactFirstBrokenSideUptoRow : OpenClaim := { program := "ytbeiblpikdcoeaa", sum := "3da2017100b890f8e6264970613f8ec7f841d60b6fd67fe8143548ce5f12a0c2", func := "loop.example/g01080/laws.FnExactFirstBrokenSide", spec := "fnExactFirstBrokenSide", unfollowed := true, recurses := true, apart := false, narrowed := true }
def FnExactFirstBrokenSideUptoSaid : Prop := fnExactFirstBrokenSideUptoRow.holds Try.pinned (OpenSpec.upto fnExactFirstBrokenSideSpec)

/-- 'laws.FnExactSharedValues', WHERE WHAT IT READS IS OF BULK AT MOST 1048576: true; the input reads as it did. -/
def fnExactSharedValuesUptoRow : OpenClaim := { program := "ytbeiblpikdcoeaa", sum := "3da2017100b890f8e6264970613f8ec7f841d60b6fd67fe8143548ce5f12a0c2", func := "loop.example/g01080/laws.FnExactSharedValues", spec := "fnExactSharedValues", unfollowed := true, recurses := true, apart := false, narrowed := true }
def FnExactSharedValuesUptoSaid : Prop := fnExactSharedValuesUptoRow.holds Try.pinned (OpenSpec.upto fnExactSharedValuesSpec)

/-- 'laws.FnExactIsInterpolant', WHERE WHAT IT READS IS OF BULK AT MOST 1048576: true; the input reads as it did. -/
def fnExactIsInterpolantUptoRow : OpenClaim := { program := "ytbeiblpikdcoeaa", sum := "3da2017100b890f8e6264970613f8ec7f841d60b6fd67fe8143548ce5f12a0c2", func := "loop.example/g01080/laws.FnExactIsInterpolant", spec := "fnExactIsInterpolant", unfollowed := true, recurses := true, apart := false, narrowed := true }
def FnExactIsInterpolantUptoSaid : Prop := fnExactIsInterpolantUptoRow.holds Try.pinned (OpenSpec.upto fnExactIsInterpolantSpec)

/-- 'laws.FnExactHullCircuit', WHERE WHAT IT READS IS OF BULK AT MOST 1048576: true; the input reads as it did. -/
def fnExactHullCircuitUptoRow : OpenClaim := { program := "ytbeiblpikdcoeaa", sum := "3da2017100b890f8e6264970613f8ec7f841d60b6fd67fe8143548ce5f12a0c2", func := "loop.example/g01080/laws.FnExactHullCircuit", spec := "fnExactHullCircuit", unfollowed := true, recurses := true, apart := false, narrowed := true }
def FnExactHullCircuitUptoSaid : Prop := fnExactHullCircuitUptoRow.holds Try.pinned (OpenSpec.upto fnExactHullCircuitSpec)

/-- 'laws.FnExactNamesOf', WHERE WHAT IT READS IS OF BULK AT MOST 1048576: true; the input reads as it did. -/
def fnExactNamesOfUptoRow : OpenClaim := { program := "ytbeiblpikdcoeaa", sum := "3da2017100b890f8e6264970613f8ec7f841d60b6fd67fe8143548ce5f12a0c2", func := "loop.example/g01080/laws.FnExactNamesOf", spec := "fnExactNamesOf", inPlace := ["internal/bytealg.abigen_runtime_cmpstring"], apart := false, narrowed := true }
def FnExactNamesOfUptoSaid : Prop := fnExactNamesOfUptoRow.holds Try.pinned (OpenSpec.upto fnExactNamesOfSpec)

/-- 'laws.FnExactDropName', WHERE WHAT IT READS IS OF BULK AT MOST 1048576: true; the input reads as it did. -/
def fnExactDropNameUptoRow : OpenClaim := { program := "ytbeiblpikdcoeaa", sum := "3da2017100b890f8e6264970613f8ec7f841d60b6fd67fe8143548ce5f12a0c2", func := "loop.example/g01080/laws.FnExactDropName", spec := "fnExactDropName", inPlace := ["internal/bytealg.abigen_runtime_cmpstring"], unfollowed := true, recurses := true, apart := false, narrowed := true }
def FnExactDropNameUptoSaid : Prop := fnExactDropNameUptoRow.holds Try.pinned (OpenSpec.upto fnExactDropNameSpec)

end Rows
end Go.Proofs.Ytbeiblpikdcoeaa
