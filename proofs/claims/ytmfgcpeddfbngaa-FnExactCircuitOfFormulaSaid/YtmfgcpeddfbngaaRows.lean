/-
  No cell of these rows narrows 'for every input' (looked for: loops, veiled, ifaces, maps, wideKeys, modest, calm, conditions, laid).
  DERIVED. THE GIVEN ROWS OF THIS SEAT. 5 by the template 'for every input the law returns true; each argument reads behind the call as it read before'; 0 by the template 'total and deterministic' (their statements: YtmfgcpeddfbngaaTotals.lean).
  GIVEN WITH THE SEED: the statements are not yours to turn. If you find one false, say at which input.
  Laid BY PROGRAM, IN A SANDBOX (cutbox-rows.mjs): the forced cells as the released guide's own fill.sh prints them over the translation df7f6a5ff928775e… (all of the seat's roots in one cut). By AI agents, Wed Nov 11 2026. No macro, syntax, notation, axiom, sorry.
-/
import Derived.Test.YtmfgcpeddfbngaaChecked
import GoSem.Claim
import GoSem.ClaimJoined
import GoSem.ClaimMapViews
import Derived.JoinedTies
import Derived.KernelRfl
namespace Go.Proofs.Ytmfgcpeddfbngaa
/- THE CELL 'sum', in the pinned program and in every row, IS THE sha256 OF THE DUMP (.gsa) THAT YtmfgcpeddfbngaaProg.lean LOADS. Nothing in Lean hashes anything: it is a label: what it is worth is what the hold of that sum in a sandbox is worth. -/
noncomputable def Try.pinned : Pinned := { name := "ytmfgcpeddfbngaa", sum := "df7f6a5ff928775e31fdf8deb7021ce1412c26eb70013a3d85c8e5b57402fc1a", checked := Try.checked }
namespace Rows
def none {H : Type} : Left H := { results := [], args := [] }

/-- 'laws.FnExactFormulaParts': WHATEVER THE INPUT: true; the input reads as it did. -/
def fnExactFormulaPartsSpec : ChangeSpec := { name := "fnExactFormulaParts", fn := fun _ => fun
  | [d] => { results := [.lit (.bool true)], args := [d] }
  | _ => none }
def fnExactFormulaPartsRow : OpenClaim := { program := "ytmfgcpeddfbngaa", sum := "df7f6a5ff928775e31fdf8deb7021ce1412c26eb70013a3d85c8e5b57402fc1a", func := "loop.example/g01080/laws.FnExactFormulaParts", spec := "fnExactFormulaParts", inPlace := ["internal/bytealg.IndexByteString", "internal/bytealg.IndexString", "internal/bytealg.abigen_runtime_cmpstring"], unfollowed := true, recurses := true, named := ["internal/bytealg.MaxLen"], apart := false }
def FnExactFormulaPartsSaid : Prop := fnExactFormulaPartsRow.holds Try.pinned (OpenSpec.ofChange fnExactFormulaPartsSpec)

/-- ITS FALSE NEIGHBOUR: 'it returns false'. Refute it at one input. -/
def fnExactFormulaPartsWrong : ChangeSpec := { name := "fnExactFormulaParts", fn := fun _ => fun
  | [d] => { results := [.lit (.bool false)], args := [d] }
  | _ => none }
def FnExactFormulaPartsWrongFalsely : Prop := fnExactFormulaPartsRow.holds Try.pinned (OpenSpec.ofChange fnExactFormulaPartsWrong)

/-- 'laws.FnExactCircuitOfFormula': WHATEVER THE INPUT: true; the input reads as it did. -/
def fnExactCircuitOfFormulaSpec : ChangeSpec := { name := "fnExactCircuitOfFormula", fn := fun _ => fun
  | [d] => { results := [.lit (.bool true)], args := [d] }
  | _ => none }
def fnExactCircuitOfFormulaRow : OpenClaim := { program := "ytmfgcpeddfbngaa", sum := "df7f6a5ff928775e31fdf8deb7021ce1412c26eb70013a3d85c8e5b57402fc1a", func := "loop.example/g01080/laws.FnExactCircuitOfFormula", spec := "fnExactCircuitOfFormula", inPlace := ["internal/bytealg.IndexByteString", "internal/bytealg.IndexString", "internal/bytealg.abigen_runtime_cmpstring"], unfollowed := true, recurses := true, named := ["internal/bytealg.MaxLen"], apart := false }
def FnExactCircuitOfFormulaSaid : Prop := fnExactCircuitOfFormulaRow.holds Try.pinned (OpenSpec.ofChange fnExactCircuitOfFormulaSpec)

/-- ITS FALSE NEIGHBOUR: 'it returns false'. Refute it at one input. -/
def fnExactCircuitOfFormulaWrong : ChangeSpec := { name := "fnExactCircuitOfFormula", fn := fun _ => fun
  | [d] => { results := [.lit (.bool false)], args := [d] }
  | _ => none }
def FnExactCircuitOfFormulaWrongFalsely : Prop := fnExactCircuitOfFormulaRow.holds Try.pinned (OpenSpec.ofChange fnExactCircuitOfFormulaWrong)

/-- 'laws.FnExactDefiningCnf': WHATEVER THE INPUT: true; the input reads as it did. -/
def fnExactDefiningCnfSpec : ChangeSpec := { name := "fnExactDefiningCnf", fn := fun _ => fun
  | [d] => { results := [.lit (.bool true)], args := [d] }
  | _ => none }
def fnExactDefiningCnfRow : OpenClaim := { program := "ytmfgcpeddfbngaa", sum := "df7f6a5ff928775e31fdf8deb7021ce1412c26eb70013a3d85c8e5b57402fc1a", func := "loop.example/g01080/laws.FnExactDefiningCnf", spec := "fnExactDefiningCnf", inPlace := ["internal/bytealg.IndexByteString", "internal/bytealg.IndexString", "internal/bytealg.abigen_runtime_cmpstring"], unfollowed := true, recurses := true, named := ["internal/bytealg.MaxLen"], apart := false }
def FnExactDefiningCnfSaid : Prop := fnExactDefiningCnfRow.holds Try.pinned (OpenSpec.ofChange fnExactDefiningCnfSpec)

/-- ITS FALSE NEIGHBOUR: 'it returns false'. Refute it at one input. -/
def fnExactDefiningCnfWrong : ChangeSpec := { name := "fnExactDefiningCnf", fn := fun _ => fun
  | [d] => { results := [.lit (.bool false)], args := [d] }
  | _ => none }
def FnExactDefiningCnfWrongFalsely : Prop := fnExactDefiningCnfRow.holds Try.pinned (OpenSpec.ofChange fnExactDefiningCnfWrong)

/-- 'laws.FnExactFollowsFrom': WHATEVER THE INPUT: true; the input reads as it did. -/
def fnExactFollowsFromSpec : ChangeSpec := { name := "fnExactFollowsFrom", fn := fun _ => fun
  | [d1, d2] => { results := [.lit (.bool true)], args := [d1, d2] }
  | _ => none }
def fnExactFollowsFromRow : OpenClaim := { program := "ytmfgcpeddfbngaa", sum := "df7f6a5ff928775e31fdf8deb7021ce1412c26eb70013a3d85c8e5b57402fc1a", func := "loop.example/g01080/laws.FnExactFollowsFrom", spec := "fnExactFollowsFrom", inPlace := ["internal/bytealg.IndexByteString", "internal/bytealg.IndexString", "internal/bytealg.abigen_runtime_cmpstring"], unfollowed := true, recurses := true, named := ["internal/bytealg.MaxLen"], apart := false }
def FnExactFollowsFromSaid : Prop := fnExactFollowsFromRow.holds Try.pinned (OpenSpec.ofChange fnExactFollowsFromSpec)

/-- ITS FALSE NEIGHBOUR: 'it returns false'. Refute it at one input. -/
def fnExactFollowsFromWrong : ChangeSpec := { name := "fnExactFollowsFrom", fn := fun _ => fun
  | [d1, d2] => { results := [.lit (.bool false)], args := [d1, d2] }
  | _ => none }
def FnExactFollowsFromWrongFalsely : Prop := fnExactFollowsFromRow.holds Try.pinned (OpenSpec.ofChange fnExactFollowsFromWrong)

/-- 'laws.FnExactCounterOf': WHATEVER THE INPUT: true; the input reads as it did. -/
def fnExactCounterOfSpec : ChangeSpec := { name := "fnExactCounterOf", fn := fun _ => fun
  | [d1, d2] => { results := [.lit (.bool true)], args := [d1, d2] }
  | _ => none }
def fnExactCounterOfRow : OpenClaim := { program := "ytmfgcpeddfbngaa", sum := "df7f6a5ff928775e31fdf8deb7021ce1412c26eb70013a3d85c8e5b57402fc1a", func := "loop.example/g01080/laws.FnExactCounterOf", spec := "fnExactCounterOf", inPlace := ["internal/bytealg.IndexByteString", "internal/bytealg.IndexString", "internal/bytealg.abigen_runtime_cmpstring"], unfollowed := true, recurses := true, named := ["internal/bytealg.MaxLen"], apart := false }
def FnExactCounterOfSaid : Prop := fnExactCounterOfRow.holds Try.pinned (OpenSpec.ofChange fnExactCounterOfSpec)

/-- ITS FALSE NEIGHBOUR: 'it returns false'. Refute it at one input. -/
def fnExactCounterOfWrong : ChangeSpec := { name := "fnExactCounterOf", fn := fun _ => fun
  | [d1, d2] => { results := [.lit (.bool false)], args := [d1, d2] }
  | _ => none }
def FnExactCounterOfWrongFalsely : Prop := fnExactCounterOfRow.holds Try.pinned (OpenSpec.ofChange fnExactCounterOfWrong)

/- THE SECOND FORM. 'bulk': how many values and letters a reading holds, each counted each time it is reached (what is shared counts as often as it is met; a slice's spare places count too). A statement '..UptoSaid' is the law's where the arguments, and the package variables that the reading takes, are together of bulk at most 1048576: NARROWER than '..Said'. Prove '..Said' where nothing that the law and all that it calls make is longer than what came in: it says more and counts as full. Else prove '..UptoSaid'. A law counts once. -/
mutual
def uptoBulk {H : Type} : DataW H → Nat
  | .lit (.string bytes) => bytes.length + 1
  | .lit _ => 1
  | .nil => 1
  | .ptr d => uptoBulk d + 1
  | .slice elems spare => uptoBulkAll elems + uptoBulkAll spare + 1
  | .agg parts => uptoBulkAll parts + 1
  | .iface _ d => uptoBulk d + 1
  | .map entries => uptoBulkEntries entries + 1
  | .held _ => 1
def uptoBulkAll {H : Type} : List (DataW H) → Nat
  | [] => 0
  | d :: r => uptoBulk d + uptoBulkAll r
def uptoBulkEntries {H : Type} : List (Lit × DataW H) → Nat
  | [] => 0
  | x :: r => uptoBulkEntry x + uptoBulkEntries r
def uptoBulkEntry {H : Type} : Lit × DataW H → Nat
  | (.string bytes, d) => bytes.length + uptoBulk d + 1
  | (_, d) => uptoBulk d + 1
 end
def uptoSmall : (H : Type) → List (DataW H) → Bool := fun _ ds => decide (uptoBulkAll ds ≤ 1048576)
def OpenSpec.upto (s : _root_.Go.ChangeSpec) : _root_.Go.OpenSpec := { _root_.Go.OpenSpec.ofChange s with cond := some uptoSmall }

/-- 'laws.FnExactFormulaParts', WHERE WHAT IT READS IS OF BULK AT MOST 1048576: true; the input reads as it did. -/
def fnExactFormulaPartsUptoRow : OpenClaim := { program := "ytmfgcpeddfbngaa", sum := "df7f6a5ff928775e31fdf8deb7021ce1412c26eb70013a3d85c8e5b57402fc1a", func := "loop.example/g01080/laws.FnExactFormulaParts", spec := "fnExactFormulaParts", inPlace := ["internal/bytealg.IndexByteString", "internal/bytealg.IndexString", "internal/bytealg.abigen_runtime_cmpstring"], unfollowed := true, recurses := true, named := ["internal/bytealg.MaxLen"], apart := false, narrowed := true }
def FnExactFormulaPartsUptoSaid : Prop := fnExactFormulaPartsUptoRow.holds Try.pinned (OpenSpec.upto fnExactFormulaPartsSpec)

/-- 'laws.FnExactCircuitOfFormula', WHERE WHAT IT READS IS OF BULK AT MOST 1048576: true; the input reads as it did. -/
def fnExactCircuitOfFormulaUptoRow : OpenClaim := { program := "ytmfgcpeddfbngaa", sum := "df7f6a5ff928775e31fdf8deb7021ce1412c26eb70013a3d85c8e5b57402fc1a", func := "loop.example/g01080/laws.FnExactCircuitOfFormula", spec := "fnExactCircuitOfFormula", inPlace := ["internal/bytealg.IndexByteString", "internal/bytealg.IndexString", "internal/bytealg.abigen_runtime_cmpstring"], unfollowed := true, recurses := true, named := ["internal/bytealg.MaxLen"], apart := false, narrowed := true }
def FnExactCircuitOfFormulaUptoSaid : Prop := fnExactCircuitOfFormulaUptoRow.holds Try.pinned (OpenSpec.upto fnExactCircuitOfFormulaSpec)

/-- 'laws.FnExactDefiningCnf', WHERE WHAT IT READS IS OF BULK AT MOST 1048576: true; the input reads as it did. -/
def fnExactDefiningCnfUptoRow : OpenClaim := { program := "ytmfgcpeddfbngaa", sum := "df7f6a5ff928775e31fdf8deb7021ce1412c26eb70013a3d85c8e5b57402fc1a", func := "loop.example/g01080/laws.FnExactDefiningCnf", spec := "fnExactDefiningCnf", inPlace := ["internal/bytealg.IndexByteString", "internal/bytealg.IndexString", "internal/bytealg.abigen_runtime_cmpstring"], unfollowed := true, recurses := true, named := ["internal/bytealg.MaxLen"], apart := false, narrowed := true }
def FnExactDefiningCnfUptoSaid : Prop := fnExactDefiningCnfUptoRow.holds Try.pinned (OpenSpec.upto fnExactDefiningCnfSpec)

/-- 'laws.FnExactFollowsFrom', WHERE WHAT IT READS IS OF BULK AT MOST 1048576: true; the input reads as it did. -/
def fnExactFollowsFromUptoRow : OpenClaim := { program := "ytmfgcpeddfbngaa", sum := "df7f6a5ff928775e31fdf8deb7021ce1412c26eb70013a3d85c8e5b57402fc1a", func := "loop.example/g01080/laws.FnExactFollowsFrom", spec := "fnExactFollowsFrom", inPlace := ["internal/bytealg.IndexByteString", "internal/bytealg.IndexString", "internal/bytealg.abigen_runtime_cmpstring"], unfollowed := true, recurses := true, named := ["internal/bytealg.MaxLen"], apart := false, narrowed := true }
def FnExactFollowsFromUptoSaid : Prop := fnExactFollowsFromUptoRow.holds Try.pinned (OpenSpec.upto fnExactFollowsFromSpec)

/-- 'laws.FnExactCounterOf', WHERE WHAT IT READS IS OF BULK AT MOST 1048576: true; the input reads as it did. -/
def fnExactCounterOfUptoRow : OpenClaim := { program := "ytmfgcpeddfbngaa", sum := "df7f6a5ff928775e31fdf8deb7021ce1412c26eb70013a3d85c8e5b57402fc1a", func := "loop.example/g01080/laws.FnExactCounterOf", spec := "fnExactCounterOf", inPlace := ["internal/bytealg.IndexByteString", "internal/bytealg.IndexString", "internal/bytealg.abigen_runtime_cmpstring"], unfollowed := true, recurses := true, named := ["internal/bytealg.MaxLen"], apart := false, narrowed := true }
def FnExactCounterOfUptoSaid : Prop := fnExactCounterOfUptoRow.holds Try.pinned (OpenSpec.upto fnExactCounterOfSpec)

end Rows
end Go.Proofs.Ytmfgcpeddfbngaa
