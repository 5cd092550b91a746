/-
  No cell of these rows narrows 'for every input' (looked for: loops, veiled, ifaces, maps, wideKeys, modest, calm, conditions, laid).
  DERIVED. THE GIVEN ROWS OF THIS SEAT. 4 by the template 'for every input the law returns true; each argument reads behind the call as it read before'; 0 by the template 'total and deterministic' (their statements: YtljhcofehhpinaaTotals.lean).
  GIVEN WITH THE SEED: the statements are not yours to turn. If you find one false, say at which input.
  Laid BY PROGRAM, IN A SANDBOX (cutbox-rows.mjs): the forced cells as the released guide's own fill.sh prints them over the translation 081f438c011ea330… (all of the seat's roots in one cut). By AI agents, Wed Nov 11 2026. No macro, syntax, notation, axiom, sorry.
-/
import Derived.Test.YtljhcofehhpinaaChecked
import GoSem.Claim
import GoSem.ClaimJoined
import GoSem.ClaimMapViews
import Derived.JoinedTies
import Derived.KernelRfl
namespace Go.Proofs.Ytljhcofehhpinaa
/- THE CELL 'sum', in the pinned program and in every row, IS THE sha256 OF THE DUMP (.gsa) THAT YtljhcofehhpinaaProg.lean LOADS. Nothing in Lean hashes anything: it is a label: what it is worth is what the hold of that sum in a sandbox is worth. -/
noncomputable def Try.pinned : Pinned := { name := "ytljhcofehhpinaa", sum := "081f438c011ea330c966a8eb41dec84ca30eecbcbb83aa6aa022c3a4d34514b1", checked := Try.checked }
namespace Rows
def none {H : Type} : Left H := { results := [], args := [] }

/-- 'laws.FnExactMergeVertices': WHATEVER THE INPUT: true; the input reads as it did. -/
def fnExactMergeVerticesSpec : ChangeSpec := { name := "fnExactMergeVertices", fn := fun _ => fun
  | [d1, d2] => { results := [.lit (.bool true)], args := [d1, d2] }
  | _ => none }
def fnExactMergeVerticesRow : OpenClaim := { program := "ytljhcofehhpinaa", sum := "081f438c011ea330c966a8eb41dec84ca30eecbcbb83aa6aa022c3a4d34514b1", func := "loop.example/g01080/laws.FnExactMergeVertices", spec := "fnExactMergeVertices", unfollowed := true, recurses := true, apart := false }
def FnExactMergeVerticesSaid : Prop := fnExactMergeVerticesRow.holds Try.pinned (OpenSpec.ofChange fnExactMergeVerticesSpec)

/-- ITS FALSE NEIGHBOUR: 'it returns false'. Refute it at one input. -/
def fnExactMergeVerticesWrong : ChangeSpec := { name := "fnExactMergeVertices", fn := fun _ => fun
  | [d1, d2] => { results := [.lit (.bool false)], args := [d1, d2] }
  | _ => none }
def FnExactMergeVerticesWrongFalsely : Prop := fnExactMergeVerticesRow.holds Try.pinned (OpenSpec.ofChange fnExactMergeVerticesWrong)

/-- 'laws.FnExactParityCnf': WHATEVER THE INPUT: true; the input reads as it did. -/
def fnExactParityCnfSpec : ChangeSpec := { name := "fnExactParityCnf", fn := fun _ => fun
  | [d] => { results := [.lit (.bool true)], args := [d] }
  | _ => none }
def fnExactParityCnfRow : OpenClaim := { program := "ytljhcofehhpinaa", sum := "081f438c011ea330c966a8eb41dec84ca30eecbcbb83aa6aa022c3a4d34514b1", func := "loop.example/g01080/laws.FnExactParityCnf", spec := "fnExactParityCnf", apart := false }
def FnExactParityCnfSaid : Prop := fnExactParityCnfRow.holds Try.pinned (OpenSpec.ofChange fnExactParityCnfSpec)

/-- ITS FALSE NEIGHBOUR: 'it returns false'. Refute it at one input. -/
def fnExactParityCnfWrong : ChangeSpec := { name := "fnExactParityCnf", fn := fun _ => fun
  | [d] => { results := [.lit (.bool false)], args := [d] }
  | _ => none }
def FnExactParityCnfWrongFalsely : Prop := fnExactParityCnfRow.holds Try.pinned (OpenSpec.ofChange fnExactParityCnfWrong)

/-- 'laws.FnExactEdgeCnf': WHATEVER THE INPUT: true; the input reads as it did. -/
def fnExactEdgeCnfSpec : ChangeSpec := { name := "fnExactEdgeCnf", fn := fun _ => fun
  | [d] => { results := [.lit (.bool true)], args := [d] }
  | _ => none }
def fnExactEdgeCnfRow : OpenClaim := { program := "ytljhcofehhpinaa", sum := "081f438c011ea330c966a8eb41dec84ca30eecbcbb83aa6aa022c3a4d34514b1", func := "loop.example/g01080/laws.FnExactEdgeCnf", spec := "fnExactEdgeCnf", unfollowed := true, recurses := true, apart := false }
def FnExactEdgeCnfSaid : Prop := fnExactEdgeCnfRow.holds Try.pinned (OpenSpec.ofChange fnExactEdgeCnfSpec)

/-- ITS FALSE NEIGHBOUR: 'it returns false'. Refute it at one input. -/
def fnExactEdgeCnfWrong : ChangeSpec := { name := "fnExactEdgeCnf", fn := fun _ => fun
  | [d] => { results := [.lit (.bool false)], args := [d] }
  | _ => none }
def FnExactEdgeCnfWrongFalsely : Prop := fnExactEdgeCnfRow.holds Try.pinned (OpenSpec.ofChange fnExactEdgeCnfWrong)

/-- 'laws.FnExactSeededCnf': WHATEVER THE INPUT: true; the input reads as it did. -/
def fnExactSeededCnfSpec : ChangeSpec := { name := "fnExactSeededCnf", fn := fun _ => fun
  | [d1, d2, d3, d4] => { results := [.lit (.bool true)], args := [d1, d2, d3, d4] }
  | _ => none }
def fnExactSeededCnfRow : OpenClaim := { program := "ytljhcofehhpinaa", sum := "081f438c011ea330c966a8eb41dec84ca30eecbcbb83aa6aa022c3a4d34514b1", func := "loop.example/g01080/laws.FnExactSeededCnf", spec := "fnExactSeededCnf", unfollowed := true, recurses := true, apart := false }
def FnExactSeededCnfSaid : Prop := fnExactSeededCnfRow.holds Try.pinned (OpenSpec.ofChange fnExactSeededCnfSpec)

/-- ITS FALSE NEIGHBOUR: 'it returns false'. Refute it at one input. -/
def fnExactSeededCnfWrong : ChangeSpec := { name := "fnExactSeededCnf", fn := fun _ => fun
  | [d1, d2, d3, d4] => { results := [.lit (.bool false)], args := [d1, d2, d3, d4] }
  | _ => none }
def FnExactSeededCnfWrongFalsely : Prop := fnExactSeededCnfRow.holds Try.pinned (OpenSpec.ofChange fnExactSeededCnfWrong)

/- THE SECOND FORM. 'bulk': how many values and letters a reading holds, each counted each time it is reached (what is shared counts as often as it is met; a slice's spare places count too). A statement '..UptoSaid' is the law's where the arguments, and the package variables that the reading takes, are together of bulk at most 1048576: NARROWER than '..Said'. Prove '..Said' where nothing that the law and all that it calls make is longer than what came in: it says more and counts as full. Else prove '..UptoSaid'. A law counts once. -/
mutual
def uptoBulk {H : Type} : DataW H → Nat
  | .lit (.string bytes) => bytes.length + 1
  | .lit _ => 1
  | .nil => 1
  | .ptr d => uptoBulk d + 1
  | .slice elems spare => uptoBulkAll elems + uptoBulkAll spare + 1
  | .agg parts => uptoBulkAll parts + 1
  | .iface _ d => uptoBulk d + 1
  | .map entries => uptoBulkEntries entries + 1
  | .held _ => 1
def uptoBulkAll {H : Type} : List (DataW H) → Nat
  | [] => 0
  | d :: r => uptoBulk d + uptoBulkAll r
def uptoBulkEntries {H : Type} : List (Lit × DataW H) → Nat
  | [] => 0
  | x :: r => uptoBulkEntry x + uptoBulkEntries r
def uptoBulkEntry {H : Type} : Lit × DataW H → Nat
  | (.string bytes, d) => bytes.length + uptoBulk d + 1
  | (_, d) => uptoBulk d + 1
 end
def uptoSmall : (H : Type) → List (DataW H) → Bool := fun _ ds => decide (uptoBulkAll ds ≤ 1048576)
def OpenSpec.upto (s : _root_.Go.ChangeSpec) : _root_.Go.OpenSpec := { _root_.Go.OpenSpec.ofChange s with cond := some uptoSmall }

/-- 'laws.FnExactMergeVertices', WHERE WHAT IT READS IS OF BULK AT MOST 1048576: true; the input reads as it did. -/
def fnExactMergeVerticesUptoRow : OpenClaim := { program := "ytljhcofehhpinaa", sum := "081f438c011ea330c966a8eb41dec84ca30eecbcbb83aa6aa022c3a4d34514b1", func := "loop.example/g01080/laws.FnExactMergeVertices", spec := "fnExactMergeVertices", unfollowed := true, recurses := true, apart := false, narrowed := true }
def FnExactMergeVerticesUptoSaid : Prop := fnExactMergeVerticesUptoRow.holds Try.pinned (OpenSpec.upto fnExactMergeVerticesSpec)

/-- 'laws.FnExactParityCnf', WHERE WHAT IT READS IS OF BULK AT MOST 1048576: true; the input reads as it did. -/
def fnExactParityCnfUptoRow : OpenClaim := { program := "ytljhcofehhpinaa", sum := "081f438c011ea330c966a8eb41dec84ca30eecbcbb83aa6aa022c3a4d34514b1", func := "loop.example/g01080/laws.FnExactParityCnf", spec := "fnExactParityCnf", apart := false, narrowed := true }
def FnExactParityCnfUptoSaid : Prop := fnExactParityCnfUptoRow.holds Try.pinned (OpenSpec.upto fnExactParityCnfSpec)

/-- 'laws.FnExactEdgeCnf', WHERE WHAT IT READS IS OF BULK AT MOST 1048576: true; the input reads as it did. -/
def fnExactEdgeCnfUptoRow : OpenClaim := { program := "ytljhcofehhpinaa", sum := "081f438c011ea330c966a8eb41dec84ca30eecbcbb83aa6aa022c3a4d34514b1", func := "loop.example/g01080/laws.FnExactEdgeCnf", spec := "fnExactEdgeCnf", unfollowed := true, recurses := true, apart := false, narrowed := true }
def FnExactEdgeCnfUptoSaid : Prop := fnExactEdgeCnfUptoRow.holds Try.pinned (OpenSpec.upto fnExactEdgeCnfSpec)

/-- 'laws.FnExactSeededCnf', WHERE WHAT IT READS IS OF BULK AT MOST 1048576: true; the input reads as it did. -/
def fnExactSeededCnfUptoRow : OpenClaim := { program := "ytljhcofehhpinaa", sum := "081f438c011ea330c966a8eb41dec84ca30eecbcbb83aa6aa022c3a4d34514b1", func := "loop.example/g01080/laws.FnExactSeededCnf", spec := "fnExactSeededCnf", unfollowed := true, recurses := true, apart := false, narrowed := true }
def FnExactSeededCnfUptoSaid : Prop := fnExactSeededCnfUptoRow.holds Try.pinned (OpenSpec.upto fnExactSeededCnfSpec)

end Rows
end Go.Proofs.Ytljhcofehhpinaa
