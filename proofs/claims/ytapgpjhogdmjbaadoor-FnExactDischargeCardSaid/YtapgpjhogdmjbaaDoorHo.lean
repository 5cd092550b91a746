/-
  Functions of package slices that take a function: for every function value whose calls answer a given question and only draw. Conditions: list lengths up to 2^30.
-/
import Derived.Test.YtapgpjhogdmjbaaDoorC1
namespace Go.Proofs.YtapgpjhogdmjbaaDoor
open Go.RowKit

/-- A call of function g enters it. -/
def Enters (g : FuncId) : Prop := ∀ (args : Array Value) (w : World), (callFunc g args).run Tryd.prog w = .ok (.enter g args) w
/-- The function value of g with captured values cs answers p, in w and whatever w has drawn. -/
def AnsQ (g : FuncId) (cs : Array Value) (p : Int → Bool) (xs : List Int) (w : World) : Prop := ∀ x ∈ xs, ∀ (n : Nat), Calls Tryd.prog g (#[.int .i64 x] ++ cs) (w.drewN n) (RetQ (w.drewN n) (.bool (p x)))
def findI (p : Int → Bool) : List Int → Int → Int
  | [], _ => -1
  | y :: r, k => if p y then k else findI p r (k + 1)
def anyI (p : Int → Bool) : List Int → Bool
  | [] => false
  | y :: r => if p y then true else anyI p r
theorem anyI_eq (p : Int → Bool) (xs : List Int) : anyI p xs = xs.any p := by
  induction xs with
  | nil => rfl
  | cons y r ih => unfold anyI; cases h : p y <;> simp [h, ih]
theorem findI_any (p : Int → Bool) (xs : List Int) : ∀ k : Int, 0 ≤ k → decide (0 ≤ findI p xs k) = anyI p xs := by
  induction xs with
  | nil => intro k _; rfl
  | cons y r ih =>
    intro k hk
    unfold findI anyI
    by_cases h : p y = true
    · rw [if_pos h, if_pos h]; simp [hk]
    · rw [if_neg h, if_neg h]; exact ih _ (by omega)