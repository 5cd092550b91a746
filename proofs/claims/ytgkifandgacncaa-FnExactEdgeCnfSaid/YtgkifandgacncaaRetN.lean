/-
  What a function with a formula and a bool ends in. No condition.
-/
import Derived.Test.YtgkifandgacncaaFamC
namespace Go.Proofs.Ytgkifandgacncaa
open Go.RowKit
def RetN (w : World) (f : Cnf) (q : Bool) : Ending → World → Prop := fun e w' => ∃ u, e = .returned (.tuple #[u, .bool q]) ∧ Own_Cnf w' w.heap.size w'.heap.size u f ∧ Ext w w'
theorem RetN.zero {w w' : World} {f : Cnf} {q : Bool} (hf : Hid (f = ⟨0, []⟩)) (hx : Ext w w') (hq : q = false) : RetN w f q (.returned (.tuple #[.agg #[.int .i64 0, .slice none 0 0], .bool false])) w' := by
  subst hq
  rw [hf.out]
  exact ⟨_, rfl, ⟨_, rfl, ownSS_nil _ _ _ _ _⟩, hx⟩
end Go.Proofs.Ytgkifandgacncaa
