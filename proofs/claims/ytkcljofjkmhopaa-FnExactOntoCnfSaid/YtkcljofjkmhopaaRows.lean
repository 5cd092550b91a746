/-
  No cell of these rows narrows 'for every input' (looked for: loops, veiled, ifaces, maps, wideKeys, modest, calm, conditions, laid).
  DERIVED. THE GIVEN ROWS OF THIS SEAT. 11 by the template 'for every input the law returns true; each argument reads behind the call as it read before'; 0 by the template 'total and deterministic' (their statements: YtkcljofjkmhopaaTotals.lean).
  GIVEN WITH THE SEED: the statements are not yours to turn. If you find one false, say at which input.
  Laid BY PROGRAM, IN A SANDBOX (cutbox-rows.mjs): the forced cells as the released guide's own fill.sh prints them over the translation 18088d6b381f7c2e… (all of the seat's roots in one cut). By AI agents, Wed Nov 11 2026. No macro, syntax, notation, axiom, sorry.
-/
import Derived.Test.YtkcljofjkmhopaaChecked
import GoSem.Claim
import GoSem.ClaimJoined
import GoSem.ClaimMapViews
import Derived.JoinedTies
import Derived.KernelRfl
namespace Go.Proofs.Ytkcljofjkmhopaa
/- THE CELL 'sum', in the pinned program and in every row, IS THE sha256 OF THE DUMP (.gsa) THAT YtkcljofjkmhopaaProg.lean LOADS. Nothing in Lean hashes anything: it is a label: what it is worth is what the hold of that sum in a sandbox is worth. -/
noncomputable def Try.pinned : Pinned := { name := "ytkcljofjkmhopaa", sum := "18088d6b381f7c2e1c2d5f29937fccf65b524b977b80e28543716b0b0ac0561a", checked := Try.checked }
namespace Rows
def none {H : Type} : Left H := { results := [], args := [] }

/-- 'laws.FnExactLeastCut': WHATEVER THE INPUT: true; the input reads as it did. -/
def fnExactLeastCutSpec : ChangeSpec := { name := "fnExactLeastCut", fn := fun _ => fun
  | [d] => { results := [.lit (.bool true)], args := [d] }
  | _ => none }
def fnExactLeastCutRow : OpenClaim := { program := "ytkcljofjkmhopaa", sum := "18088d6b381f7c2e1c2d5f29937fccf65b524b977b80e28543716b0b0ac0561a", func := "loop.example/g01080/laws.FnExactLeastCut", spec := "fnExactLeastCut", unfollowed := true, recurses := true, apart := false }
def FnExactLeastCutSaid : Prop := fnExactLeastCutRow.holds Try.pinned (OpenSpec.ofChange fnExactLeastCutSpec)

/-- ITS FALSE NEIGHBOUR: 'it returns false'. Refute it at one input. -/
def fnExactLeastCutWrong : ChangeSpec := { name := "fnExactLeastCut", fn := fun _ => fun
  | [d] => { results := [.lit (.bool false)], args := [d] }
  | _ => none }
def FnExactLeastCutWrongFalsely : Prop := fnExactLeastCutRow.holds Try.pinned (OpenSpec.ofChange fnExactLeastCutWrong)

/-- 'laws.FnExactMergeVertices': WHATEVER THE INPUT: true; the input reads as it did. -/
def fnExactMergeVerticesSpec : ChangeSpec := { name := "fnExactMergeVertices", fn := fun _ => fun
  | [d1, d2] => { results := [.lit (.bool true)], args := [d1, d2] }
  | _ => none }
def fnExactMergeVerticesRow : OpenClaim := { program := "ytkcljofjkmhopaa", sum := "18088d6b381f7c2e1c2d5f29937fccf65b524b977b80e28543716b0b0ac0561a", func := "loop.example/g01080/laws.FnExactMergeVertices", spec := "fnExactMergeVertices", unfollowed := true, recurses := true, apart := false }
def FnExactMergeVerticesSaid : Prop := fnExactMergeVerticesRow.holds Try.pinned (OpenSpec.ofChange fnExactMergeVerticesSpec)

/-- ITS FALSE NEIGHBOUR: 'it returns false'. Refute it at one input. -/
def fnExactMergeVerticesWrong : ChangeSpec := { name := "fnExactMergeVertices", fn := fun _ => fun
  | [d1, d2] => { results := [.lit (.bool false)], args := [d1, d2] }
  | _ => none }
def FnExactMergeVerticesWrongFalsely : Prop := fnExactMergeVerticesRow.holds Try.pinned (OpenSpec.ofChange fnExactMergeVerticesWrong)

/-- 'laws.FnExactParityCnf': WHATEVER THE INPUT: true; the input reads as it did. -/
def fnExactParityCnfSpec : ChangeSpec := { name := "fnExactParityCnf", fn := fun _ => fun
  | [d] => { results := [.lit (.bool true)], args := [d] }
  | _ => none }
def fnExactParityCnfRow : OpenClaim := { program := "ytkcljofjkmhopaa", sum := "18088d6b381f7c2e1c2d5f29937fccf65b524b977b80e28543716b0b0ac0561a", func := "loop.example/g01080/laws.FnExactParityCnf", spec := "fnExactParityCnf", apart := false }
def FnExactParityCnfSaid : Prop := fnExactParityCnfRow.holds Try.pinned (OpenSpec.ofChange fnExactParityCnfSpec)

/-- ITS FALSE NEIGHBOUR: 'it returns false'. Refute it at one input. -/
def fnExactParityCnfWrong : ChangeSpec := { name := "fnExactParityCnf", fn := fun _ => fun
  | [d] => { results := [.lit (.bool false)], args := [d] }
  | _ => none }
def FnExactParityCnfWrongFalsely : Prop := fnExactParityCnfRow.holds Try.pinned (OpenSpec.ofChange fnExactParityCnfWrong)

/-- 'laws.FnExactPlacePigeon': WHATEVER THE INPUT: true; the input reads as it did. -/
def fnExactPlacePigeonSpec : ChangeSpec := { name := "fnExactPlacePigeon", fn := fun _ => fun
  | [d1, d2, d3] => { results := [.lit (.bool true)], args := [d1, d2, d3] }
  | _ => none }
def fnExactPlacePigeonRow : OpenClaim := { program := "ytkcljofjkmhopaa", sum := "18088d6b381f7c2e1c2d5f29937fccf65b524b977b80e28543716b0b0ac0561a", func := "loop.example/g01080/laws.FnExactPlacePigeon", spec := "fnExactPlacePigeon", unfollowed := true, recurses := true, apart := false }
def FnExactPlacePigeonSaid : Prop := fnExactPlacePigeonRow.holds Try.pinned (OpenSpec.ofChange fnExactPlacePigeonSpec)

/-- ITS FALSE NEIGHBOUR: 'it returns false'. Refute it at one input. -/
def fnExactPlacePigeonWrong : ChangeSpec := { name := "fnExactPlacePigeon", fn := fun _ => fun
  | [d1, d2, d3] => { results := [.lit (.bool false)], args := [d1, d2, d3] }
  | _ => none }
def FnExactPlacePigeonWrongFalsely : Prop := fnExactPlacePigeonRow.holds Try.pinned (OpenSpec.ofChange fnExactPlacePigeonWrong)

/-- 'laws.FnExactPositiveForm': WHATEVER THE INPUT: true; the input reads as it did. -/
def fnExactPositiveFormSpec : ChangeSpec := { name := "fnExactPositiveForm", fn := fun _ => fun
  | [d1, d2] => { results := [.lit (.bool true)], args := [d1, d2] }
  | _ => none }
def fnExactPositiveFormRow : OpenClaim := { program := "ytkcljofjkmhopaa", sum := "18088d6b381f7c2e1c2d5f29937fccf65b524b977b80e28543716b0b0ac0561a", func := "loop.example/g01080/laws.FnExactPositiveForm", spec := "fnExactPositiveForm", recurses := true, apart := false }
def FnExactPositiveFormSaid : Prop := fnExactPositiveFormRow.holds Try.pinned (OpenSpec.ofChange fnExactPositiveFormSpec)

/-- ITS FALSE NEIGHBOUR: 'it returns false'. Refute it at one input. -/
def fnExactPositiveFormWrong : ChangeSpec := { name := "fnExactPositiveForm", fn := fun _ => fun
  | [d1, d2] => { results := [.lit (.bool false)], args := [d1, d2] }
  | _ => none }
def FnExactPositiveFormWrongFalsely : Prop := fnExactPositiveFormRow.holds Try.pinned (OpenSpec.ofChange fnExactPositiveFormWrong)

/-- 'laws.FnExactIsHallSet': WHATEVER THE INPUT: true; the input reads as it did. -/
def fnExactIsHallSetSpec : ChangeSpec := { name := "fnExactIsHallSet", fn := fun _ => fun
  | [d1, d2] => { results := [.lit (.bool true)], args := [d1, d2] }
  | _ => none }
def fnExactIsHallSetRow : OpenClaim := { program := "ytkcljofjkmhopaa", sum := "18088d6b381f7c2e1c2d5f29937fccf65b524b977b80e28543716b0b0ac0561a", func := "loop.example/g01080/laws.FnExactIsHallSet", spec := "fnExactIsHallSet", unfollowed := true, recurses := true, apart := false }
def FnExactIsHallSetSaid : Prop := fnExactIsHallSetRow.holds Try.pinned (OpenSpec.ofChange fnExactIsHallSetSpec)

/-- ITS FALSE NEIGHBOUR: 'it returns false'. Refute it at one input. -/
def fnExactIsHallSetWrong : ChangeSpec := { name := "fnExactIsHallSet", fn := fun _ => fun
  | [d1, d2] => { results := [.lit (.bool false)], args := [d1, d2] }
  | _ => none }
def FnExactIsHallSetWrongFalsely : Prop := fnExactIsHallSetRow.holds Try.pinned (OpenSpec.ofChange fnExactIsHallSetWrong)

/-- 'laws.FnExactHallSet': WHATEVER THE INPUT: true; the input reads as it did. -/
def fnExactHallSetSpec : ChangeSpec := { name := "fnExactHallSet", fn := fun _ => fun
  | [d] => { results := [.lit (.bool true)], args := [d] }
  | _ => none }
def fnExactHallSetRow : OpenClaim := { program := "ytkcljofjkmhopaa", sum := "18088d6b381f7c2e1c2d5f29937fccf65b524b977b80e28543716b0b0ac0561a", func := "loop.example/g01080/laws.FnExactHallSet", spec := "fnExactHallSet", unfollowed := true, recurses := true, apart := false }
def FnExactHallSetSaid : Prop := fnExactHallSetRow.holds Try.pinned (OpenSpec.ofChange fnExactHallSetSpec)

/-- ITS FALSE NEIGHBOUR: 'it returns false'. Refute it at one input. -/
def fnExactHallSetWrong : ChangeSpec := { name := "fnExactHallSet", fn := fun _ => fun
  | [d] => { results := [.lit (.bool false)], args := [d] }
  | _ => none }
def FnExactHallSetWrongFalsely : Prop := fnExactHallSetRow.holds Try.pinned (OpenSpec.ofChange fnExactHallSetWrong)

/-- 'laws.FnExactFunctionalCnf': WHATEVER THE INPUT: true; the input reads as it did. -/
def fnExactFunctionalCnfSpec : ChangeSpec := { name := "fnExactFunctionalCnf", fn := fun _ => fun
  | [d] => { results := [.lit (.bool true)], args := [d] }
  | _ => none }
def fnExactFunctionalCnfRow : OpenClaim := { program := "ytkcljofjkmhopaa", sum := "18088d6b381f7c2e1c2d5f29937fccf65b524b977b80e28543716b0b0ac0561a", func := "loop.example/g01080/laws.FnExactFunctionalCnf", spec := "fnExactFunctionalCnf", unfollowed := true, recurses := true, apart := false }
def FnExactFunctionalCnfSaid : Prop := fnExactFunctionalCnfRow.holds Try.pinned (OpenSpec.ofChange fnExactFunctionalCnfSpec)

/-- ITS FALSE NEIGHBOUR: 'it returns false'. Refute it at one input. -/
def fnExactFunctionalCnfWrong : ChangeSpec := { name := "fnExactFunctionalCnf", fn := fun _ => fun
  | [d] => { results := [.lit (.bool false)], args := [d] }
  | _ => none }
def FnExactFunctionalCnfWrongFalsely : Prop := fnExactFunctionalCnfRow.holds Try.pinned (OpenSpec.ofChange fnExactFunctionalCnfWrong)

/-- 'laws.FnExactOntoCnf': WHATEVER THE INPUT: true; the input reads as it did. -/
def fnExactOntoCnfSpec : ChangeSpec := { name := "fnExactOntoCnf", fn := fun _ => fun
  | [d] => { results := [.lit (.bool true)], args := [d] }
  | _ => none }
def fnExactOntoCnfRow : OpenClaim := { program := "ytkcljofjkmhopaa", sum := "18088d6b381f7c2e1c2d5f29937fccf65b524b977b80e28543716b0b0ac0561a", func := "loop.example/g01080/laws.FnExactOntoCnf", spec := "fnExactOntoCnf", unfollowed := true, recurses := true, apart := false }
def FnExactOntoCnfSaid : Prop := fnExactOntoCnfRow.holds Try.pinned (OpenSpec.ofChange fnExactOntoCnfSpec)

/-- ITS FALSE NEIGHBOUR: 'it returns false'. Refute it at one input. -/
def fnExactOntoCnfWrong : ChangeSpec := { name := "fnExactOntoCnf", fn := fun _ => fun
  | [d] => { results := [.lit (.bool false)], args := [d] }
  | _ => none }
def FnExactOntoCnfWrongFalsely : Prop := fnExactOntoCnfRow.holds Try.pinned (OpenSpec.ofChange fnExactOntoCnfWrong)

/-- 'laws.FnExactChoiceCnf': WHATEVER THE INPUT: true; the input reads as it did. -/
def fnExactChoiceCnfSpec : ChangeSpec := { name := "fnExactChoiceCnf", fn := fun _ => fun
  | [d] => { results := [.lit (.bool true)], args := [d] }
  | _ => none }
def fnExactChoiceCnfRow : OpenClaim := { program := "ytkcljofjkmhopaa", sum := "18088d6b381f7c2e1c2d5f29937fccf65b524b977b80e28543716b0b0ac0561a", func := "loop.example/g01080/laws.FnExactChoiceCnf", spec := "fnExactChoiceCnf", unfollowed := true, recurses := true, apart := false }
def FnExactChoiceCnfSaid : Prop := fnExactChoiceCnfRow.holds Try.pinned (OpenSpec.ofChange fnExactChoiceCnfSpec)

/-- ITS FALSE NEIGHBOUR: 'it returns false'. Refute it at one input. -/
def fnExactChoiceCnfWrong : ChangeSpec := { name := "fnExactChoiceCnf", fn := fun _ => fun
  | [d] => { results := [.lit (.bool false)], args := [d] }
  | _ => none }
def FnExactChoiceCnfWrongFalsely : Prop := fnExactChoiceCnfRow.holds Try.pinned (OpenSpec.ofChange fnExactChoiceCnfWrong)

/-- 'laws.FnExactEdgeCnf': WHATEVER THE INPUT: true; the input reads as it did. -/
def fnExactEdgeCnfSpec : ChangeSpec := { name := "fnExactEdgeCnf", fn := fun _ => fun
  | [d] => { results := [.lit (.bool true)], args := [d] }
  | _ => none }
def fnExactEdgeCnfRow : OpenClaim := { program := "ytkcljofjkmhopaa", sum := "18088d6b381f7c2e1c2d5f29937fccf65b524b977b80e28543716b0b0ac0561a", func := "loop.example/g01080/laws.FnExactEdgeCnf", spec := "fnExactEdgeCnf", unfollowed := true, recurses := true, apart := false }
def FnExactEdgeCnfSaid : Prop := fnExactEdgeCnfRow.holds Try.pinned (OpenSpec.ofChange fnExactEdgeCnfSpec)

/-- ITS FALSE NEIGHBOUR: 'it returns false'. Refute it at one input. -/
def fnExactEdgeCnfWrong : ChangeSpec := { name := "fnExactEdgeCnf", fn := fun _ => fun
  | [d] => { results := [.lit (.bool false)], args := [d] }
  | _ => none }
def FnExactEdgeCnfWrongFalsely : Prop := fnExactEdgeCnfRow.holds Try.pinned (OpenSpec.ofChange fnExactEdgeCnfWrong)

/- THE SECOND FORM. 'bulk': how many values and letters a reading holds, each counted each time it is reached (what is shared counts as often as it is met; a slice's spare places count too). A statement '..UptoSaid' is the law's where the arguments, and the package variables that the reading takes, are together of bulk at most 1048576: NARROWER than '..Said'. Prove '..Said' where nothing that the law and all that it calls make is longer than what came in: it says more and counts as full. Else prove '..UptoSaid'. A law counts once. -/
mutual
def uptoBulk {H : Type} : DataW H → Nat
  | .lit (.string bytes) => bytes.length + 1
  | .lit _ => 1
  | .nil => 1
  | .ptr d => uptoBulk d + 1
  | .slice elems spare => uptoBulkAll elems + uptoBulkAll spare + 1
  | .agg parts => uptoBulkAll parts + 1
  | .iface _ d => uptoBulk d + 1
  | .map entries => uptoBulkEntries entries + 1
  | .held _ => 1
def uptoBulkAll {H : Type} : List (DataW H) → Nat
  | [] => 0
  | d :: r => uptoBulk d + uptoBulkAll r
def uptoBulkEntries {H : Type} : List (Lit × DataW H) → Nat
  | [] => 0
  | x :: r => uptoBulkEntry x + uptoBulkEntries r
def uptoBulkEntry {H : Type} : Lit × DataW H → Nat
  | (.string bytes, d) => bytes.length + uptoBulk d + 1
  | (_, d) => uptoBulk d + 1
 end
def uptoSmall : (H : Type) → List (DataW H) → Bool := fun _ ds => decide (uptoBulkAll ds ≤ 1048576)
def OpenSpec.upto (s : _root_.Go.ChangeSpec) : _root_.Go.OpenSpec := { _root_.Go.OpenSpec.ofChange s with cond := some uptoSmall }

/-- 'laws.FnExactLeastCut', WHERE WHAT IT READS IS OF BULK AT MOST 1048576: true; the input reads as it did. -/
def fnExactLeastCutUptoRow : OpenClaim := { program := "ytkcljofjkmhopaa", sum := "18088d6b381f7c2e1c2d5f29937fccf65b524b977b80e28543716b0b0ac0561a", func := "loop.example/g01080/laws.FnExactLeastCut", spec := "fnExactLeastCut", unfollowed := true, recurses := true, apart := false, narrowed := true }
def FnExactLeastCutUptoSaid : Prop := fnExactLeastCutUptoRow.holds Try.pinned (OpenSpec.upto fnExactLeastCutSpec)

/-- 'laws.FnExactMergeVertices', WHERE WHAT IT READS IS OF BULK AT MOST 1048576: true; the input reads as it did. -/
def fnExactMergeVerticesUptoRow : OpenClaim := { program := "ytkcljofjkmhopaa", sum := "18088d6b381f7c2e1c2d5f29937fccf65b524b977b80e28543716b0b0ac0561a", func := "loop.example/g01080/laws.FnExactMergeVertices", spec := "fnExactMergeVertices", unfollowed := true, recurses := true, apart := false, narrowed := true }
def FnExactMergeVerticesUptoSaid : Prop := fnExactMergeVerticesUptoRow.holds Try.pinned (OpenSpec.upto fnExactMergeVerticesSpec)

/-- 'laws.FnExactParityCnf', WHERE WHAT IT READS IS OF BULK AT MOST 1048576: true; the input reads as it did. -/
def fnExactParityCnfUptoRow : OpenClaim := { program := "ytkcljofjkmhopaa", sum := "18088d6b381f7c2e1c2d5f29937fccf65b524b977b80e28543716b0b0ac0561a", func := "loop.example/g01080/laws.FnExactParityCnf", spec := "fnExactParityCnf", apart := false, narrowed := true }
def FnExactParityCnfUptoSaid : Prop := fnExactParityCnfUptoRow.holds Try.pinned (OpenSpec.upto fnExactParityCnfSpec)

/-- 'laws.FnExactPlacePigeon', WHERE WHAT IT READS IS OF BULK AT MOST 1048576: true; the input reads as it did. -/
def fnExactPlacePigeonUptoRow : OpenClaim := { program := "ytkcljofjkmhopaa", sum := "18088d6b381f7c2e1c2d5f29937fccf65b524b977b80e28543716b0b0ac0561a", func := "loop.example/g01080/laws.FnExactPlacePigeon", spec := "fnExactPlacePigeon", unfollowed := true, recurses := true, apart := false, narrowed := true }
def FnExactPlacePigeonUptoSaid : Prop := fnExactPlacePigeonUptoRow.holds Try.pinned (OpenSpec.upto fnExactPlacePigeonSpec)

/-- 'laws.FnExactPositiveForm', WHERE WHAT IT READS IS OF BULK AT MOST 1048576: true; the input reads as it did. -/
def fnExactPositiveFormUptoRow : OpenClaim := { program := "ytkcljofjkmhopaa", sum := "18088d6b381f7c2e1c2d5f29937fccf65b524b977b80e28543716b0b0ac0561a", func := "loop.example/g01080/laws.FnExactPositiveForm", spec := "fnExactPositiveForm", recurses := true, apart := false, narrowed := true }
def FnExactPositiveFormUptoSaid : Prop := fnExactPositiveFormUptoRow.holds Try.pinned (OpenSpec.upto fnExactPositiveFormSpec)

/-- 'laws.FnExactIsHallSet', WHERE WHAT IT READS IS OF BULK AT MOST 1048576: true; the input reads as it did. -/
def fnExactIsHallSetUptoRow : OpenClaim := { program := "ytkcljofjkmhopaa", sum := "18088d6b381f7c2e1c2d5f29937fccf65b524b977b80e28543716b0b0ac0561a", func := "loop.example/g01080/laws.FnExactIsHallSet", spec := "fnExactIsHallSet", unfollowed := true, recurses := true, apart := false, narrowed := true }
def FnExactIsHallSetUptoSaid : Prop := fnExactIsHallSetUptoRow.holds Try.pinned (OpenSpec.upto fnExactIsHallSetSpec)

/-- 'laws.FnExactHallSet', WHERE WHAT IT READS IS OF BULK AT MOST 1048576: true; the input reads as it did. -/
def fnExactHallSetUptoRow : OpenClaim := { program := "ytkcljofjkmhopaa", sum := "18088d6b381f7c2e1c2d5f29937fccf65b524b977b80e28543716b0b0ac0561a", func := "loop.example/g01080/laws.FnExactHallSet", spec := "fnExactHallSet", unfollowed := true, recurses := true, apart := false, narrowed := true }
def FnExactHallSetUptoSaid : Prop := fnExactHallSetUptoRow.holds Try.pinned (OpenSpec.upto fnExactHallSetSpec)

/-- 'laws.FnExactFunctionalCnf', WHERE WHAT IT READS IS OF BULK AT MOST 1048576: true; the input reads as it did. -/
def fnExactFunctionalCnfUptoRow : OpenClaim := { program := "ytkcljofjkmhopaa", sum := "18088d6b381f7c2e1c2d5f29937fccf65b524b977b80e28543716b0b0ac0561a", func := "loop.example/g01080/laws.FnExactFunctionalCnf", spec := "fnExactFunctionalCnf", unfollowed := true, recurses := true, apart := false, narrowed := true }
def FnExactFunctionalCnfUptoSaid : Prop := fnExactFunctionalCnfUptoRow.holds Try.pinned (OpenSpec.upto fnExactFunctionalCnfSpec)

/-- 'laws.FnExactOntoCnf', WHERE WHAT IT READS IS OF BULK AT MOST 1048576: true; the input reads as it did. -/
def fnExactOntoCnfUptoRow : OpenClaim := { program := "ytkcljofjkmhopaa", sum := "18088d6b381f7c2e1c2d5f29937fccf65b524b977b80e28543716b0b0ac0561a", func := "loop.example/g01080/laws.FnExactOntoCnf", spec := "fnExactOntoCnf", unfollowed := true, recurses := true, apart := false, narrowed := true }
def FnExactOntoCnfUptoSaid : Prop := fnExactOntoCnfUptoRow.holds Try.pinned (OpenSpec.upto fnExactOntoCnfSpec)

/-- 'laws.FnExactChoiceCnf', WHERE WHAT IT READS IS OF BULK AT MOST 1048576: true; the input reads as it did. -/
def fnExactChoiceCnfUptoRow : OpenClaim := { program := "ytkcljofjkmhopaa", sum := "18088d6b381f7c2e1c2d5f29937fccf65b524b977b80e28543716b0b0ac0561a", func := "loop.example/g01080/laws.FnExactChoiceCnf", spec := "fnExactChoiceCnf", unfollowed := true, recurses := true, apart := false, narrowed := true }
def FnExactChoiceCnfUptoSaid : Prop := fnExactChoiceCnfUptoRow.holds Try.pinned (OpenSpec.upto fnExactChoiceCnfSpec)

/-- 'laws.FnExactEdgeCnf', WHERE WHAT IT READS IS OF BULK AT MOST 1048576: true; the input reads as it did. -/
def fnExactEdgeCnfUptoRow : OpenClaim := { program := "ytkcljofjkmhopaa", sum := "18088d6b381f7c2e1c2d5f29937fccf65b524b977b80e28543716b0b0ac0561a", func := "loop.example/g01080/laws.FnExactEdgeCnf", spec := "fnExactEdgeCnf", unfollowed := true, recurses := true, apart := false, narrowed := true }
def FnExactEdgeCnfUptoSaid : Prop := fnExactEdgeCnfUptoRow.holds Try.pinned (OpenSpec.upto fnExactEdgeCnfSpec)

end Rows
end Go.Proofs.Ytkcljofjkmhopaa
