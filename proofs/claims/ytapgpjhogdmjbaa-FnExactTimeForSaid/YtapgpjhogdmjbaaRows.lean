/-
  No cell of these rows narrows 'for every input' (looked for: loops, veiled, ifaces, maps, wideKeys, modest, calm, conditions, laid).
  DERIVED. THE GIVEN ROWS OF THIS SEAT. 4 by the template 'for every input the law returns true; each argument reads behind the call as it read before'; 0 by the template 'total and deterministic' (their statements: YtapgpjhogdmjbaaTotals.lean).
  GIVEN WITH THE SEED: the statements are not yours to turn. If you find one false, say at which input.
  Laid BY PROGRAM, IN A SANDBOX (cutbox-rows.mjs): the forced cells as the released guide's own fill.sh prints them over the translation a837f101edc751ec… (all of the seat's roots in one cut). By AI agents, Wed Nov 11 2026. No macro, syntax, notation, axiom, sorry.
-/
import Derived.Test.YtapgpjhogdmjbaaChecked
import GoSem.Claim
import GoSem.ClaimJoined
import GoSem.ClaimMapViews
import Derived.JoinedTies
import Derived.KernelRfl
namespace Go.Proofs.Ytapgpjhogdmjbaa
/- THE CELL 'sum', in the pinned program and in every row, IS THE sha256 OF THE DUMP (.gsa) THAT YtapgpjhogdmjbaaProg.lean LOADS. Nothing in Lean hashes anything: it is a label: what it is worth is what the hold of that sum in a sandbox is worth. -/
noncomputable def Try.pinned : Pinned := { name := "ytapgpjhogdmjbaa", sum := "a837f101edc751ec1612d218764904f183a75510ac7f5d70369a10749072f560", checked := Try.checked }
namespace Rows
def none {H : Type} : Left H := { results := [], args := [] }

/-- 'laws.FnExactTimeFor': WHATEVER THE INPUT: true; the input reads as it did. -/
def fnExactTimeForSpec : ChangeSpec := { name := "fnExactTimeFor", fn := fun _ => fun
  | [d1, d2, d3] => { results := [.lit (.bool true)], args := [d1, d2, d3] }
  | _ => none }
def fnExactTimeForRow : OpenClaim := { program := "ytapgpjhogdmjbaa", sum := "a837f101edc751ec1612d218764904f183a75510ac7f5d70369a10749072f560", func := "loop.example/g01080/laws.FnExactTimeFor", spec := "fnExactTimeFor", unfollowed := true, recurses := true, apart := false }
def FnExactTimeForSaid : Prop := fnExactTimeForRow.holds Try.pinned (OpenSpec.ofChange fnExactTimeForSpec)

/-- ITS FALSE NEIGHBOUR: 'it returns false'. Refute it at one input. -/
def fnExactTimeForWrong : ChangeSpec := { name := "fnExactTimeFor", fn := fun _ => fun
  | [d1, d2, d3] => { results := [.lit (.bool false)], args := [d1, d2, d3] }
  | _ => none }
def FnExactTimeForWrongFalsely : Prop := fnExactTimeForRow.holds Try.pinned (OpenSpec.ofChange fnExactTimeForWrong)

/-- 'laws.FnExactPebblingNumber': WHATEVER THE INPUT: true; the input reads as it did. -/
def fnExactPebblingNumberSpec : ChangeSpec := { name := "fnExactPebblingNumber", fn := fun _ => fun
  | [d] => { results := [.lit (.bool true)], args := [d] }
  | _ => none }
def fnExactPebblingNumberRow : OpenClaim := { program := "ytapgpjhogdmjbaa", sum := "a837f101edc751ec1612d218764904f183a75510ac7f5d70369a10749072f560", func := "loop.example/g01080/laws.FnExactPebblingNumber", spec := "fnExactPebblingNumber", unfollowed := true, recurses := true, apart := false }
def FnExactPebblingNumberSaid : Prop := fnExactPebblingNumberRow.holds Try.pinned (OpenSpec.ofChange fnExactPebblingNumberSpec)

/-- ITS FALSE NEIGHBOUR: 'it returns false'. Refute it at one input. -/
def fnExactPebblingNumberWrong : ChangeSpec := { name := "fnExactPebblingNumber", fn := fun _ => fun
  | [d] => { results := [.lit (.bool false)], args := [d] }
  | _ => none }
def FnExactPebblingNumberWrongFalsely : Prop := fnExactPebblingNumberRow.holds Try.pinned (OpenSpec.ofChange fnExactPebblingNumberWrong)

/-- 'laws.FnExactReversibleNumber': WHATEVER THE INPUT: true; the input reads as it did. -/
def fnExactReversibleNumberSpec : ChangeSpec := { name := "fnExactReversibleNumber", fn := fun _ => fun
  | [d] => { results := [.lit (.bool true)], args := [d] }
  | _ => none }
def fnExactReversibleNumberRow : OpenClaim := { program := "ytapgpjhogdmjbaa", sum := "a837f101edc751ec1612d218764904f183a75510ac7f5d70369a10749072f560", func := "loop.example/g01080/laws.FnExactReversibleNumber", spec := "fnExactReversibleNumber", unfollowed := true, recurses := true, apart := false }
def FnExactReversibleNumberSaid : Prop := fnExactReversibleNumberRow.holds Try.pinned (OpenSpec.ofChange fnExactReversibleNumberSpec)

/-- ITS FALSE NEIGHBOUR: 'it returns false'. Refute it at one input. -/
def fnExactReversibleNumberWrong : ChangeSpec := { name := "fnExactReversibleNumber", fn := fun _ => fun
  | [d] => { results := [.lit (.bool false)], args := [d] }
  | _ => none }
def FnExactReversibleNumberWrongFalsely : Prop := fnExactReversibleNumberRow.holds Try.pinned (OpenSpec.ofChange fnExactReversibleNumberWrong)

/-- 'laws.FnExactShortestPebbling': WHATEVER THE INPUT: true; the input reads as it did. -/
def fnExactShortestPebblingSpec : ChangeSpec := { name := "fnExactShortestPebbling", fn := fun _ => fun
  | [d1, d2] => { results := [.lit (.bool true)], args := [d1, d2] }
  | _ => none }
def fnExactShortestPebblingRow : OpenClaim := { program := "ytapgpjhogdmjbaa", sum := "a837f101edc751ec1612d218764904f183a75510ac7f5d70369a10749072f560", func := "loop.example/g01080/laws.FnExactShortestPebbling", spec := "fnExactShortestPebbling", unfollowed := true, recurses := true, apart := false }
def FnExactShortestPebblingSaid : Prop := fnExactShortestPebblingRow.holds Try.pinned (OpenSpec.ofChange fnExactShortestPebblingSpec)

/-- ITS FALSE NEIGHBOUR: 'it returns false'. Refute it at one input. -/
def fnExactShortestPebblingWrong : ChangeSpec := { name := "fnExactShortestPebbling", fn := fun _ => fun
  | [d1, d2] => { results := [.lit (.bool false)], args := [d1, d2] }
  | _ => none }
def FnExactShortestPebblingWrongFalsely : Prop := fnExactShortestPebblingRow.holds Try.pinned (OpenSpec.ofChange fnExactShortestPebblingWrong)

/- THE SECOND FORM. 'bulk': how many values and letters a reading holds, each counted each time it is reached (what is shared counts as often as it is met; a slice's spare places count too). A statement '..UptoSaid' is the law's where the arguments, and the package variables that the reading takes, are together of bulk at most 1048576: NARROWER than '..Said'. Prove '..Said' where nothing that the law and all that it calls make is longer than what came in: it says more and counts as full. Else prove '..UptoSaid'. A law counts once. -/
mutual
def uptoBulk {H : Type} : DataW H → Nat
  | .lit (.string bytes) => bytes.length + 1
  | .lit _ => 1
  | .nil => 1
  | .ptr d => uptoBulk d + 1
  | .slice elems spare => uptoBulkAll elems + uptoBulkAll spare + 1
  | .agg parts => uptoBulkAll parts + 1
  | .iface _ d => uptoBulk d + 1
  | .map entries => uptoBulkEntries entries + 1
  | .held _ => 1
def uptoBulkAll {H : Type} : List (DataW H) → Nat
  | [] => 0
  | d :: r => uptoBulk d + uptoBulkAll r
def uptoBulkEntries {H : Type} : List (Lit × DataW H) → Nat
  | [] => 0
  | x :: r => uptoBulkEntry x + uptoBulkEntries r
def uptoBulkEntry {H : Type} : Lit × DataW H → Nat
  | (.string bytes, d) => bytes.length + uptoBulk d + 1
  | (_, d) => uptoBulk d + 1
 end
def uptoSmall : (H : Type) → List (DataW H) → Bool := fun _ ds => decide (uptoBulkAll ds ≤ 1048576)
def OpenSpec.upto (s : _root_.Go.ChangeSpec) : _root_.Go.OpenSpec := { _root_.Go.OpenSpec.ofChange s with cond := some uptoSmall }

/-- 'laws.FnExactTimeFor', WHERE WHAT IT READS IS OF BULK AT MOST 1048576: true; the input reads as it did. -/
def fnExactTimeForUptoRow : OpenClaim := { program := "ytapgpjhogdmjbaa", sum := "a837f101edc751ec1612d218764904f183a75510ac7f5d70369a10749072f560", func := "loop.example/g01080/laws.FnExactTimeFor", spec := "fnExactTimeFor", unfollowed := true, recurses := true, apart := false, narrowed := true }
def FnExactTimeForUptoSaid : Prop := fnExactTimeForUptoRow.holds Try.pinned (OpenSpec.upto fnExactTimeForSpec)

/-- 'laws.FnExactPebblingNumber', WHERE WHAT IT READS IS OF BULK AT MOST 1048576: true; the input reads as it did. -/
def fnExactPebblingNumberUptoRow : OpenClaim := { program := "ytapgpjhogdmjbaa", sum := "a837f101edc751ec1612d218764904f183a75510ac7f5d70369a10749072f560", func := "loop.example/g01080/laws.FnExactPebblingNumber", spec := "fnExactPebblingNumber", unfollowed := true, recurses := true, apart := false, narrowed := true }
def FnExactPebblingNumberUptoSaid : Prop := fnExactPebblingNumberUptoRow.holds Try.pinned (OpenSpec.upto fnExactPebblingNumberSpec)

/-- 'laws.FnExactReversibleNumber', WHERE WHAT IT READS IS OF BULK AT MOST 1048576: true; the input reads as it did. -/
def fnExactReversibleNumberUptoRow : OpenClaim := { program := "ytapgpjhogdmjbaa", sum := "a837f101edc751ec1612d218764904f183a75510ac7f5d70369a10749072f560", func := "loop.example/g01080/laws.FnExactReversibleNumber", spec := "fnExactReversibleNumber", unfollowed := true, recurses := true, apart := false, narrowed := true }
def FnExactReversibleNumberUptoSaid : Prop := fnExactReversibleNumberUptoRow.holds Try.pinned (OpenSpec.upto fnExactReversibleNumberSpec)

/-- 'laws.FnExactShortestPebbling', WHERE WHAT IT READS IS OF BULK AT MOST 1048576: true; the input reads as it did. -/
def fnExactShortestPebblingUptoRow : OpenClaim := { program := "ytapgpjhogdmjbaa", sum := "a837f101edc751ec1612d218764904f183a75510ac7f5d70369a10749072f560", func := "loop.example/g01080/laws.FnExactShortestPebbling", spec := "fnExactShortestPebbling", unfollowed := true, recurses := true, apart := false, narrowed := true }
def FnExactShortestPebblingUptoSaid : Prop := fnExactShortestPebblingUptoRow.holds Try.pinned (OpenSpec.upto fnExactShortestPebblingSpec)

end Rows
end Go.Proofs.Ytapgpjhogdmjbaa
