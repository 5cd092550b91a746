/-
  No cell of these rows narrows 'for every input' (looked for: loops, veiled, ifaces, maps, wideKeys, modest, calm, conditions, laid).
  DERIVED. THE GIVEN ROWS OF THIS SEAT. 3 by the template 'for every input the law returns true; each argument reads behind the call as it read before'; 0 by the template 'total and deterministic' (their statements: YtgkifandgacncaaTotals.lean).
  GIVEN WITH THE SEED: the statements are not yours to turn. If you find one false, say at which input.
  Laid BY PROGRAM, IN A SANDBOX (cutbox-rows.mjs): the forced cells as the released guide's own fill.sh prints them over the translation 6aa1f4ec5abd5162… (all of the seat's roots in one cut). By AI agents, Wed Nov 11 2026. No macro, syntax, notation, axiom, sorry.
-/
import Derived.Test.YtgkifandgacncaaChecked
import GoSem.Claim
import GoSem.ClaimJoined
import GoSem.ClaimMapViews
import Derived.JoinedTies
import Derived.KernelRfl
namespace Go.Proofs.Ytgkifandgacncaa
/- THE CELL 'sum', in the pinned program and in every row, IS THE sha256 OF THE DUMP (.gsa) THAT YtgkifandgacncaaProg.lean LOADS. Nothing in Lean hashes anything: it is a label: what it is worth is what the hold of that sum in a sandbox is worth. -/
noncomputable def Try.pinned : Pinned := { name := "ytgkifandgacncaa", sum := "6aa1f4ec5abd5162a8d40e65b77d2ed32edcd10ac5db8c6814630a9e27c01454", checked := Try.checked }
namespace Rows
def none {H : Type} : Left H := { results := [], args := [] }

/-- 'laws.FnExactParityCnf': WHATEVER THE INPUT: true; the input reads as it did. -/
def fnExactParityCnfSpec : ChangeSpec := { name := "fnExactParityCnf", fn := fun _ => fun
  | [d] => { results := [.lit (.bool true)], args := [d] }
  | _ => none }
def fnExactParityCnfRow : OpenClaim := { program := "ytgkifandgacncaa", sum := "6aa1f4ec5abd5162a8d40e65b77d2ed32edcd10ac5db8c6814630a9e27c01454", func := "loop.example/g01080/laws.FnExactParityCnf", spec := "fnExactParityCnf", apart := false }
def FnExactParityCnfSaid : Prop := fnExactParityCnfRow.holds Try.pinned (OpenSpec.ofChange fnExactParityCnfSpec)

/-- ITS FALSE NEIGHBOUR: 'it returns false'. Refute it at one input. -/
def fnExactParityCnfWrong : ChangeSpec := { name := "fnExactParityCnf", fn := fun _ => fun
  | [d] => { results := [.lit (.bool false)], args := [d] }
  | _ => none }
def FnExactParityCnfWrongFalsely : Prop := fnExactParityCnfRow.holds Try.pinned (OpenSpec.ofChange fnExactParityCnfWrong)

/-- 'laws.FnExactEdgeCnf': WHATEVER THE INPUT: true; the input reads as it did. -/
def fnExactEdgeCnfSpec : ChangeSpec := { name := "fnExactEdgeCnf", fn := fun _ => fun
  | [d] => { results := [.lit (.bool true)], args := [d] }
  | _ => none }
def fnExactEdgeCnfRow : OpenClaim := { program := "ytgkifandgacncaa", sum := "6aa1f4ec5abd5162a8d40e65b77d2ed32edcd10ac5db8c6814630a9e27c01454", func := "loop.example/g01080/laws.FnExactEdgeCnf", spec := "fnExactEdgeCnf", unfollowed := true, recurses := true, apart := false }
def FnExactEdgeCnfSaid : Prop := fnExactEdgeCnfRow.holds Try.pinned (OpenSpec.ofChange fnExactEdgeCnfSpec)

/-- ITS FALSE NEIGHBOUR: 'it returns false'. Refute it at one input. -/
def fnExactEdgeCnfWrong : ChangeSpec := { name := "fnExactEdgeCnf", fn := fun _ => fun
  | [d] => { results := [.lit (.bool false)], args := [d] }
  | _ => none }
def FnExactEdgeCnfWrongFalsely : Prop := fnExactEdgeCnfRow.holds Try.pinned (OpenSpec.ofChange fnExactEdgeCnfWrong)

/-- 'laws.FnExactSeededCnf': WHATEVER THE INPUT: true; the input reads as it did. -/
def fnExactSeededCnfSpec : ChangeSpec := { name := "fnExactSeededCnf", fn := fun _ => fun
  | [d1, d2, d3, d4] => { results := [.lit (.bool true)], args := [d1, d2, d3, d4] }
  | _ => none }
def fnExactSeededCnfRow : OpenClaim := { program := "ytgkifandgacncaa", sum := "6aa1f4ec5abd5162a8d40e65b77d2ed32edcd10ac5db8c6814630a9e27c01454", func := "loop.example/g01080/laws.FnExactSeededCnf", spec := "fnExactSeededCnf", unfollowed := true, recurses := true, apart := false }
def FnExactSeededCnfSaid : Prop := fnExactSeededCnfRow.holds Try.pinned (OpenSpec.ofChange fnExactSeededCnfSpec)

/-- ITS FALSE NEIGHBOUR: 'it returns false'. Refute it at one input. -/
def fnExactSeededCnfWrong : ChangeSpec := { name := "fnExactSeededCnf", fn := fun _ => fun
  | [d1, d2, d3, d4] => { results := [.lit (.bool false)], args := [d1, d2, d3, d4] }
  | _ => none }
def FnExactSeededCnfWrongFalsely : Prop := fnExactSeededCnfRow.holds Try.pinned (OpenSpec.ofChange fnExactSeededCnfWrong)

/- THE SECOND FORM. 'bulk': how many values and letters a reading holds, each counted each time it is reached (what is shared counts as often as it is met; a slice's spare places count too). A statement '..UptoSaid' is the law's where the arguments, and the package variables that the reading takes, are together of bulk at most 1048576: NARROWER than '..Said'. Prove '..Said' where nothing that the law and all that it calls make is longer than what came in: it says more and counts as full. Else prove '..UptoSaid'. A law counts once. -/
mutual
def uptoBulk {H : Type} : DataW H → Nat
  | .lit (.string bytes) => bytes.length + 1
  | .lit _ => 1
  | .nil => 1
  | .ptr d => uptoBulk d + 1
  | .slice elems spare => uptoBulkAll elems + uptoBulkAll spare + 1
  | .agg parts => uptoBulkAll parts + 1
  | .iface _ d => uptoBulk d + 1
  | .map entries => uptoBulkEntries entries + 1
  | .held _ => 1
def uptoBulkAll {H : Type} : List (DataW H) → Nat
  | [] => 0
  | d :: r => uptoBulk d + uptoBulkAll r
def uptoBulkEntries {H : Type} : List (Lit × DataW H) → Nat
  | [] => 0
  | x :: r => uptoBulkEntry x + uptoBulkEntries r
def uptoBulkEntry {H : Type} : Lit × DataW H → Nat
  | (.string bytes, d) => bytes.length + uptoBulk d + 1
  | (_, d) => uptoBulk d + 1
 end
def uptoSmall : (H : Type) → List (DataW H) → Bool := fun _ ds => decide (uptoBulkAll ds ≤ 1048576)
def OpenSpec.upto (s : _root_.Go.ChangeSpec) : _root_.Go.OpenSpec := { _root_.Go.OpenSpec.ofChange s with cond := some uptoSmall }

/-- 'laws.FnExactParityCnf', WHERE WHAT IT READS IS OF BULK AT MOST 1048576: true; the input reads as it did. -/
def fnExactParityCnfUptoRow : OpenClaim := { program := "ytgkifandgacncaa", sum := "6aa1f4ec5abd5162a8d40e65b77d2ed32edcd10ac5db8c6814630a9e27c01454", func := "loop.example/g01080/laws.FnExactParityCnf", spec := "fnExactParityCnf", apart := false, narrowed := true }
def FnExactParityCnfUptoSaid : Prop := fnExactParityCnfUptoRow.holds Try.pinned (OpenSpec.upto fnExactParityCnfSpec)

/-- 'laws.FnExactEdgeCnf', WHERE WHAT IT READS IS OF BULK AT MOST 1048576: true; the input reads as it did. -/
def fnExactEdgeCnfUptoRow : OpenClaim := { program := "ytgkifandgacncaa", sum := "6aa1f4ec5abd5162a8d40e65b77d2ed32edcd10ac5db8c6814630a9e27c01454", func := "loop.example/g01080/laws.FnExactEdgeCnf", spec := "fnExactEdgeCnf", unfollowed := true, recurses := true, apart := false, narrowed := true }
def FnExactEdgeCnfUptoSaid : Prop := fnExactEdgeCnfUptoRow.holds Try.pinned (OpenSpec.upto fnExactEdgeCnfSpec)

/-- 'laws.FnExactSeededCnf', WHERE WHAT IT READS IS OF BULK AT MOST 1048576: true; the input reads as it did. -/
def fnExactSeededCnfUptoRow : OpenClaim := { program := "ytgkifandgacncaa", sum := "6aa1f4ec5abd5162a8d40e65b77d2ed32edcd10ac5db8c6814630a9e27c01454", func := "loop.example/g01080/laws.FnExactSeededCnf", spec := "fnExactSeededCnf", unfollowed := true, recurses := true, apart := false, narrowed := true }
def FnExactSeededCnfUptoSaid : Prop := fnExactSeededCnfUptoRow.holds Try.pinned (OpenSpec.upto fnExactSeededCnfSpec)

end Rows
end Go.Proofs.Ytgkifandgacncaa
