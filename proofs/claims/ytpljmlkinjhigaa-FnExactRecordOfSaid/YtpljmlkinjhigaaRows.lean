/-
  No cell of these rows narrows 'for every input' (looked for: loops, veiled, ifaces, maps, wideKeys, modest, calm, conditions, laid).
  DERIVED. THE GIVEN ROWS OF THIS SEAT. 10 by the template 'for every input the law returns true; each argument reads behind the call as it read before'; 0 by the template 'total and deterministic' (their statements: YtpljmlkinjhigaaTotals.lean).
  GIVEN WITH THE SEED: the statements are not yours to turn. If you find one false, say at which input.
  Laid BY PROGRAM, IN A SANDBOX (cutbox-rows.mjs): the forced cells as the released guide's own fill.sh prints them over the translation 5770f470819ddb2a… (all of the seat's roots in one cut). By AI agents, Wed Nov 11 2026. No macro, syntax, notation, axiom, sorry.
-/
import Derived.Test.YtpljmlkinjhigaaChecked
import GoSem.Claim
import GoSem.ClaimJoined
import GoSem.ClaimMapViews
import Derived.JoinedTies
import Derived.KernelRfl
namespace Go.Proofs.Ytpljmlkinjhigaa
/- THE CELL 'sum', in the pinned program and in every row, IS THE sha256 OF THE DUMP (.gsa) THAT YtpljmlkinjhigaaProg.lean LOADS. Nothing in Lean hashes anything: it is a label: what it is worth is what the hold of that sum in a sandbox is worth. -/
noncomputable def Try.pinned : Pinned := { name := "ytpljmlkinjhigaa", sum := "5770f470819ddb2a72b01fd820e6835f86c2cec3ee256734c60c41ecf6d25975", checked := Try.checked }
namespace Rows
def none {H : Type} : Left H := { results := [], args := [] }

/-- 'laws.FnExactRecordOf': WHATEVER THE INPUT: true; the input reads as it did. -/
def fnExactRecordOfSpec : ChangeSpec := { name := "fnExactRecordOf", fn := fun _ => fun
  | [d1, d2, d3] => { results := [.lit (.bool true)], args := [d1, d2, d3] }
  | _ => none }
def fnExactRecordOfRow : OpenClaim := { program := "ytpljmlkinjhigaa", sum := "5770f470819ddb2a72b01fd820e6835f86c2cec3ee256734c60c41ecf6d25975", func := "loop.example/g01080/laws.FnExactRecordOf", spec := "fnExactRecordOf", inPlace := ["internal/bytealg.abigen_runtime_cmpstring"], unfollowed := true, recurses := true, apart := false }
def FnExactRecordOfSaid : Prop := fnExactRecordOfRow.holds Try.pinned (OpenSpec.ofChange fnExactRecordOfSpec)

/-- ITS FALSE NEIGHBOUR: 'it returns false'. Refute it at one input. -/
def fnExactRecordOfWrong : ChangeSpec := { name := "fnExactRecordOf", fn := fun _ => fun
  | [d1, d2, d3] => { results := [.lit (.bool false)], args := [d1, d2, d3] }
  | _ => none }
def FnExactRecordOfWrongFalsely : Prop := fnExactRecordOfRow.holds Try.pinned (OpenSpec.ofChange fnExactRecordOfWrong)

/-- 'laws.FnExactEdgesAt': WHATEVER THE INPUT: true; the input reads as it did. -/
def fnExactEdgesAtSpec : ChangeSpec := { name := "fnExactEdgesAt", fn := fun _ => fun
  | [d1, d2] => { results := [.lit (.bool true)], args := [d1, d2] }
  | _ => none }
def fnExactEdgesAtRow : OpenClaim := { program := "ytpljmlkinjhigaa", sum := "5770f470819ddb2a72b01fd820e6835f86c2cec3ee256734c60c41ecf6d25975", func := "loop.example/g01080/laws.FnExactEdgesAt", spec := "fnExactEdgesAt", apart := false }
def FnExactEdgesAtSaid : Prop := fnExactEdgesAtRow.holds Try.pinned (OpenSpec.ofChange fnExactEdgesAtSpec)

/-- ITS FALSE NEIGHBOUR: 'it returns false'. Refute it at one input. -/
def fnExactEdgesAtWrong : ChangeSpec := { name := "fnExactEdgesAt", fn := fun _ => fun
  | [d1, d2] => { results := [.lit (.bool false)], args := [d1, d2] }
  | _ => none }
def FnExactEdgesAtWrongFalsely : Prop := fnExactEdgesAtRow.holds Try.pinned (OpenSpec.ofChange fnExactEdgesAtWrong)

/-- 'laws.FnExactCountCritical': WHATEVER THE INPUT: true; the input reads as it did. -/
def fnExactCountCriticalSpec : ChangeSpec := { name := "fnExactCountCritical", fn := fun _ => fun
  | [d1, d2] => { results := [.lit (.bool true)], args := [d1, d2] }
  | _ => none }
def fnExactCountCriticalRow : OpenClaim := { program := "ytpljmlkinjhigaa", sum := "5770f470819ddb2a72b01fd820e6835f86c2cec3ee256734c60c41ecf6d25975", func := "loop.example/g01080/laws.FnExactCountCritical", spec := "fnExactCountCritical", unfollowed := true, recurses := true, apart := false }
def FnExactCountCriticalSaid : Prop := fnExactCountCriticalRow.holds Try.pinned (OpenSpec.ofChange fnExactCountCriticalSpec)

/-- ITS FALSE NEIGHBOUR: 'it returns false'. Refute it at one input. -/
def fnExactCountCriticalWrong : ChangeSpec := { name := "fnExactCountCritical", fn := fun _ => fun
  | [d1, d2] => { results := [.lit (.bool false)], args := [d1, d2] }
  | _ => none }
def FnExactCountCriticalWrongFalsely : Prop := fnExactCountCriticalRow.holds Try.pinned (OpenSpec.ofChange fnExactCountCriticalWrong)

/-- 'laws.FnExactCutSize': WHATEVER THE INPUT: true; the input reads as it did. -/
def fnExactCutSizeSpec : ChangeSpec := { name := "fnExactCutSize", fn := fun _ => fun
  | [d1, d2] => { results := [.lit (.bool true)], args := [d1, d2] }
  | _ => none }
def fnExactCutSizeRow : OpenClaim := { program := "ytpljmlkinjhigaa", sum := "5770f470819ddb2a72b01fd820e6835f86c2cec3ee256734c60c41ecf6d25975", func := "loop.example/g01080/laws.FnExactCutSize", spec := "fnExactCutSize", apart := false }
def FnExactCutSizeSaid : Prop := fnExactCutSizeRow.holds Try.pinned (OpenSpec.ofChange fnExactCutSizeSpec)

/-- ITS FALSE NEIGHBOUR: 'it returns false'. Refute it at one input. -/
def fnExactCutSizeWrong : ChangeSpec := { name := "fnExactCutSize", fn := fun _ => fun
  | [d1, d2] => { results := [.lit (.bool false)], args := [d1, d2] }
  | _ => none }
def FnExactCutSizeWrongFalsely : Prop := fnExactCutSizeRow.holds Try.pinned (OpenSpec.ofChange fnExactCutSizeWrong)

/-- 'laws.FnExactWrongVertices': WHATEVER THE INPUT: true; the input reads as it did. -/
def fnExactWrongVerticesSpec : ChangeSpec := { name := "fnExactWrongVertices", fn := fun _ => fun
  | [d1, d2] => { results := [.lit (.bool true)], args := [d1, d2] }
  | _ => none }
def fnExactWrongVerticesRow : OpenClaim := { program := "ytpljmlkinjhigaa", sum := "5770f470819ddb2a72b01fd820e6835f86c2cec3ee256734c60c41ecf6d25975", func := "loop.example/g01080/laws.FnExactWrongVertices", spec := "fnExactWrongVertices", apart := false }
def FnExactWrongVerticesSaid : Prop := fnExactWrongVerticesRow.holds Try.pinned (OpenSpec.ofChange fnExactWrongVerticesSpec)

/-- ITS FALSE NEIGHBOUR: 'it returns false'. Refute it at one input. -/
def fnExactWrongVerticesWrong : ChangeSpec := { name := "fnExactWrongVertices", fn := fun _ => fun
  | [d1, d2] => { results := [.lit (.bool false)], args := [d1, d2] }
  | _ => none }
def FnExactWrongVerticesWrongFalsely : Prop := fnExactWrongVerticesRow.holds Try.pinned (OpenSpec.ofChange fnExactWrongVerticesWrong)

/-- 'laws.FnExactClauseWeight': WHATEVER THE INPUT: true; the input reads as it did. -/
def fnExactClauseWeightSpec : ChangeSpec := { name := "fnExactClauseWeight", fn := fun _ => fun
  | [d1, d2] => { results := [.lit (.bool true)], args := [d1, d2] }
  | _ => none }
def fnExactClauseWeightRow : OpenClaim := { program := "ytpljmlkinjhigaa", sum := "5770f470819ddb2a72b01fd820e6835f86c2cec3ee256734c60c41ecf6d25975", func := "loop.example/g01080/laws.FnExactClauseWeight", spec := "fnExactClauseWeight", unfollowed := true, recurses := true, apart := false }
def FnExactClauseWeightSaid : Prop := fnExactClauseWeightRow.holds Try.pinned (OpenSpec.ofChange fnExactClauseWeightSpec)

/-- ITS FALSE NEIGHBOUR: 'it returns false'. Refute it at one input. -/
def fnExactClauseWeightWrong : ChangeSpec := { name := "fnExactClauseWeight", fn := fun _ => fun
  | [d1, d2] => { results := [.lit (.bool false)], args := [d1, d2] }
  | _ => none }
def FnExactClauseWeightWrongFalsely : Prop := fnExactClauseWeightRow.holds Try.pinned (OpenSpec.ofChange fnExactClauseWeightWrong)

/-- 'laws.FnExactCutSum': WHATEVER THE INPUT: true; the input reads as it did. -/
def fnExactCutSumSpec : ChangeSpec := { name := "fnExactCutSum", fn := fun _ => fun
  | [d1, d2, d3] => { results := [.lit (.bool true)], args := [d1, d2, d3] }
  | _ => none }
def fnExactCutSumRow : OpenClaim := { program := "ytpljmlkinjhigaa", sum := "5770f470819ddb2a72b01fd820e6835f86c2cec3ee256734c60c41ecf6d25975", func := "loop.example/g01080/laws.FnExactCutSum", spec := "fnExactCutSum", apart := false }
def FnExactCutSumSaid : Prop := fnExactCutSumRow.holds Try.pinned (OpenSpec.ofChange fnExactCutSumSpec)

/-- ITS FALSE NEIGHBOUR: 'it returns false'. Refute it at one input. -/
def fnExactCutSumWrong : ChangeSpec := { name := "fnExactCutSum", fn := fun _ => fun
  | [d1, d2, d3] => { results := [.lit (.bool false)], args := [d1, d2, d3] }
  | _ => none }
def FnExactCutSumWrongFalsely : Prop := fnExactCutSumRow.holds Try.pinned (OpenSpec.ofChange fnExactCutSumWrong)

/-- 'laws.FnExactNamesOf': WHATEVER THE INPUT: true; the input reads as it did. -/
def fnExactNamesOfSpec : ChangeSpec := { name := "fnExactNamesOf", fn := fun _ => fun
  | [d] => { results := [.lit (.bool true)], args := [d] }
  | _ => none }
def fnExactNamesOfRow : OpenClaim := { program := "ytpljmlkinjhigaa", sum := "5770f470819ddb2a72b01fd820e6835f86c2cec3ee256734c60c41ecf6d25975", func := "loop.example/g01080/laws.FnExactNamesOf", spec := "fnExactNamesOf", inPlace := ["internal/bytealg.abigen_runtime_cmpstring"], apart := false }
def FnExactNamesOfSaid : Prop := fnExactNamesOfRow.holds Try.pinned (OpenSpec.ofChange fnExactNamesOfSpec)

/-- ITS FALSE NEIGHBOUR: 'it returns false'. Refute it at one input. -/
def fnExactNamesOfWrong : ChangeSpec := { name := "fnExactNamesOf", fn := fun _ => fun
  | [d] => { results := [.lit (.bool false)], args := [d] }
  | _ => none }
def FnExactNamesOfWrongFalsely : Prop := fnExactNamesOfRow.holds Try.pinned (OpenSpec.ofChange fnExactNamesOfWrong)

/-- 'laws.FnExactSeededCnf': WHATEVER THE INPUT: true; the input reads as it did. -/
def fnExactSeededCnfSpec : ChangeSpec := { name := "fnExactSeededCnf", fn := fun _ => fun
  | [d1, d2, d3, d4] => { results := [.lit (.bool true)], args := [d1, d2, d3, d4] }
  | _ => none }
def fnExactSeededCnfRow : OpenClaim := { program := "ytpljmlkinjhigaa", sum := "5770f470819ddb2a72b01fd820e6835f86c2cec3ee256734c60c41ecf6d25975", func := "loop.example/g01080/laws.FnExactSeededCnf", spec := "fnExactSeededCnf", unfollowed := true, recurses := true, apart := false }
def FnExactSeededCnfSaid : Prop := fnExactSeededCnfRow.holds Try.pinned (OpenSpec.ofChange fnExactSeededCnfSpec)

/-- ITS FALSE NEIGHBOUR: 'it returns false'. Refute it at one input. -/
def fnExactSeededCnfWrong : ChangeSpec := { name := "fnExactSeededCnf", fn := fun _ => fun
  | [d1, d2, d3, d4] => { results := [.lit (.bool false)], args := [d1, d2, d3, d4] }
  | _ => none }
def FnExactSeededCnfWrongFalsely : Prop := fnExactSeededCnfRow.holds Try.pinned (OpenSpec.ofChange fnExactSeededCnfWrong)

/-- 'laws.FnExactDropName': WHATEVER THE INPUT: true; the input reads as it did. -/
def fnExactDropNameSpec : ChangeSpec := { name := "fnExactDropName", fn := fun _ => fun
  | [d1, d2] => { results := [.lit (.bool true)], args := [d1, d2] }
  | _ => none }
def fnExactDropNameRow : OpenClaim := { program := "ytpljmlkinjhigaa", sum := "5770f470819ddb2a72b01fd820e6835f86c2cec3ee256734c60c41ecf6d25975", func := "loop.example/g01080/laws.FnExactDropName", spec := "fnExactDropName", inPlace := ["internal/bytealg.abigen_runtime_cmpstring"], unfollowed := true, recurses := true, apart := false }
def FnExactDropNameSaid : Prop := fnExactDropNameRow.holds Try.pinned (OpenSpec.ofChange fnExactDropNameSpec)

/-- ITS FALSE NEIGHBOUR: 'it returns false'. Refute it at one input. -/
def fnExactDropNameWrong : ChangeSpec := { name := "fnExactDropName", fn := fun _ => fun
  | [d1, d2] => { results := [.lit (.bool false)], args := [d1, d2] }
  | _ => none }
def FnExactDropNameWrongFalsely : Prop := fnExactDropNameRow.holds Try.pinned (OpenSpec.ofChange fnExactDropNameWrong)

/- THE SECOND FORM. 'bulk': how many values and letters a reading holds, each counted each time it is reached (what is shared counts as often as it is met; a slice's spare places count too). A statement '..UptoSaid' is the law's where the arguments, and the package variables that the reading takes, are together of bulk at most 1048576: NARROWER than '..Said'. Prove '..Said' where nothing that the law and all that it calls make is longer than what came in: it says more and counts as full. Else prove '..UptoSaid'. A law counts once. -/
mutual
def uptoBulk {H : Type} : DataW H → Nat
  | .lit (.string bytes) => bytes.length + 1
  | .lit _ => 1
  | .nil => 1
  | .ptr d => uptoBulk d + 1
  | .slice elems spare => uptoBulkAll elems + uptoBulkAll spare + 1
  | .agg parts => uptoBulkAll parts + 1
  | .iface _ d => uptoBulk d + 1
  | .map entries => uptoBulkEntries entries + 1
  | .held _ => 1
def uptoBulkAll {H : Type} : List (DataW H) → Nat
  | [] => 0
  | d :: r => uptoBulk d + uptoBulkAll r
def uptoBulkEntries {H : Type} : List (Lit × DataW H) → Nat
  | [] => 0
  | x :: r => uptoBulkEntry x + uptoBulkEntries r
def uptoBulkEntry {H : Type} : Lit × DataW H → Nat
  | (.string bytes, d) => bytes.length + uptoBulk d + 1
  | (_, d) => uptoBulk d + 1
 end
def uptoSmall : (H : Type) → List (DataW H) → Bool := fun _ ds => decide (uptoBulkAll ds ≤ 1048576)
def OpenSpec.upto (s : _root_.Go.ChangeSpec) : _root_.Go.OpenSpec := { _root_.Go.OpenSpec.ofChange s with cond := some uptoSmall }

/-- 'laws.FnExactRecordOf', WHERE WHAT IT READS IS OF BULK AT MOST 1048576: true; the input reads as it did. -/
def fnExactRecordOfUptoRow : OpenClaim := { program := "ytpljmlkinjhigaa", sum := "5770f470819ddb2a72b01fd820e6835f86c2cec3ee256734c60c41ecf6d25975", func := "loop.example/g01080/laws.FnExactRecordOf", spec := "fnExactRecordOf", inPlace := ["internal/bytealg.abigen_runtime_cmpstring"], unfollowed := true, recurses := true, apart := false, narrowed := true }
def FnExactRecordOfUptoSaid : Prop := fnExactRecordOfUptoRow.holds Try.pinned (OpenSpec.upto fnExactRecordOfSpec)

/-- 'laws.FnExactEdgesAt', WHERE WHAT IT READS IS OF BULK AT MOST 1048576: true; the input reads as it did. -/
def fnExactEdgesAtUptoRow : OpenClaim := { program := "ytpljmlkinjhigaa", sum := "5770f470819ddb2a72b01fd820e6835f86c2cec3ee256734c60c41ecf6d25975", func := "loop.example/g01080/laws.FnExactEdgesAt", spec := "fnExactEdgesAt", apart := false, narrowed := true }
def FnExactEdgesAtUptoSaid : Prop := fnExactEdgesAtUptoRow.holds Try.pinned (OpenSpec.upto fnExactEdgesAtSpec)

/-- 'laws.FnExactCountCritical', WHERE WHAT IT READS IS OF BULK AT MOST 1048576: true; the input reads as it did. -/
def fnExactCountCriticalUptoRow : OpenClaim := { program := "ytpljmlkinjhigaa", sum := "5770f470819ddb2a72b01fd820e6835f86c2cec3ee256734c60c41ecf6d25975", func := "loop.example/g01080/laws.FnExactCountCritical", spec := "fnExactCountCritical", unfollowed := true, recurses := true, apart := false, narrowed := true }
def FnExactCountCriticalUptoSaid : Prop := fnExactCountCriticalUptoRow.holds Try.pinned (OpenSpec.upto fnExactCountCriticalSpec)

/-- 'laws.FnExactCutSize', WHERE WHAT IT READS IS OF BULK AT MOST 1048576: true; the input reads as it did. -/
def fnExactCutSizeUptoRow : OpenClaim := { program := "ytpljmlkinjhigaa", sum := "5770f470819ddb2a72b01fd820e6835f86c2cec3ee256734c60c41ecf6d25975", func := "loop.example/g01080/laws.FnExactCutSize", spec := "fnExactCutSize", apart := false, narrowed := true }
def FnExactCutSizeUptoSaid : Prop := fnExactCutSizeUptoRow.holds Try.pinned (OpenSpec.upto fnExactCutSizeSpec)

/-- 'laws.FnExactWrongVertices', WHERE WHAT IT READS IS OF BULK AT MOST 1048576: true; the input reads as it did. -/
def fnExactWrongVerticesUptoRow : OpenClaim := { program := "ytpljmlkinjhigaa", sum := "5770f470819ddb2a72b01fd820e6835f86c2cec3ee256734c60c41ecf6d25975", func := "loop.example/g01080/laws.FnExactWrongVertices", spec := "fnExactWrongVertices", apart := false, narrowed := true }
def FnExactWrongVerticesUptoSaid : Prop := fnExactWrongVerticesUptoRow.holds Try.pinned (OpenSpec.upto fnExactWrongVerticesSpec)

/-- 'laws.FnExactClauseWeight', WHERE WHAT IT READS IS OF BULK AT MOST 1048576: true; the input reads as it did. -/
def fnExactClauseWeightUptoRow : OpenClaim := { program := "ytpljmlkinjhigaa", sum := "5770f470819ddb2a72b01fd820e6835f86c2cec3ee256734c60c41ecf6d25975", func := "loop.example/g01080/laws.FnExactClauseWeight", spec := "fnExactClauseWeight", unfollowed := true, recurses := true, apart := false, narrowed := true }
def FnExactClauseWeightUptoSaid : Prop := fnExactClauseWeightUptoRow.holds Try.pinned (OpenSpec.upto fnExactClauseWeightSpec)

/-- 'laws.FnExactCutSum', WHERE WHAT IT READS IS OF BULK AT MOST 1048576: true; the input reads as it did. -/
def fnExactCutSumUptoRow : OpenClaim := { program := "ytpljmlkinjhigaa", sum := "5770f470819ddb2a72b01fd820e6835f86c2cec3ee256734c60c41ecf6d25975", func := "loop.example/g01080/laws.FnExactCutSum", spec := "fnExactCutSum", apart := false, narrowed := true }
def FnExactCutSumUptoSaid : Prop := fnExactCutSumUptoRow.holds Try.pinned (OpenSpec.upto fnExactCutSumSpec)

/-- 'laws.FnExactNamesOf', WHERE WHAT IT READS IS OF BULK AT MOST 1048576: true; the input reads as it did. -/
def fnExactNamesOfUptoRow : OpenClaim := { program := "ytpljmlkinjhigaa", sum := "5770f470819ddb2a72b01fd820e6835f86c2cec3ee256734c60c41ecf6d25975", func := "loop.example/g01080/laws.FnExactNamesOf", spec := "fnExactNamesOf", inPlace := ["internal/bytealg.abigen_runtime_cmpstring"], apart := false, narrowed := true }
def FnExactNamesOfUptoSaid : Prop := fnExactNamesOfUptoRow.holds Try.pinned (OpenSpec.upto fnExactNamesOfSpec)

/-- 'laws.FnExactSeededCnf', WHERE WHAT IT READS IS OF BULK AT MOST 1048576: true; the input reads as it did. -/
def fnExactSeededCnfUptoRow : OpenClaim := { program := "ytpljmlkinjhigaa", sum := "5770f470819ddb2a72b01fd820e6835f86c2cec3ee256734c60c41ecf6d25975", func := "loop.example/g01080/laws.FnExactSeededCnf", spec := "fnExactSeededCnf", unfollowed := true, recurses := true, apart := false, narrowed := true }
def FnExactSeededCnfUptoSaid : Prop := fnExactSeededCnfUptoRow.holds Try.pinned (OpenSpec.upto fnExactSeededCnfSpec)

/-- 'laws.FnExactDropName', WHERE WHAT IT READS IS OF BULK AT MOST 1048576: true; the input reads as it did. -/
def fnExactDropNameUptoRow : OpenClaim := { program := "ytpljmlkinjhigaa", sum := "5770f470819ddb2a72b01fd820e6835f86c2cec3ee256734c60c41ecf6d25975", func := "loop.example/g01080/laws.FnExactDropName", spec := "fnExactDropName", inPlace := ["internal/bytealg.abigen_runtime_cmpstring"], unfollowed := true, recurses := true, apart := false, narrowed := true }
def FnExactDropNameUptoSaid : Prop := fnExactDropNameUptoRow.holds Try.pinned (OpenSpec.upto fnExactDropNameSpec)

end Rows
end Go.Proofs.Ytpljmlkinjhigaa
