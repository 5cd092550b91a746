/-
  Functions of package slices that take a function whose calls may make memory of their own. Conditions: list lengths up to 2^30.
-/
import Derived.Test.YtgkifandgacncaaGrow
import Derived.Test.YtgkifandgacncaaHo2
namespace Go.Proofs.Ytgkifandgacncaa
open Go.RowKit
/-- The function value of g with captured values cs answers p, in w and whatever extends w. -/
def AnsX (g : FuncId) (cs : Array Value) (p : Int → Bool) (xs : List Int) (w : World) : Prop := ∀ x ∈ xs, ∀ (w' : World), Ext w w' → Calls Try.prog g (#[.int .i64 x] ++ cs) w' (RetX w' (.bool (p x)))
end Go.Proofs.Ytgkifandgacncaa
