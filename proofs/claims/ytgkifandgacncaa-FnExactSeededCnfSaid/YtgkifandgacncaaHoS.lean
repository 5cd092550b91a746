/-
  Functions of package slices at lists of lists of numbers that take a function. Conditions: list lengths up to 2^30.
-/
import Derived.Test.YtgkifandgacncaaHoX
namespace Go.Proofs.Ytgkifandgacncaa
open Go.RowKit
/-- The function value of g with captured values cs answers p of a list, in w and whatever extends w. -/
def AnsS (g : FuncId) (cs : Array Value) (p : List Int → Bool) (xss : List (List Int)) (w : World) : Prop := ∀ xs ∈ xss, ∀ (u : Value) (w' : World), Ext w w' → RdI w' u xs → Calls Try.prog g (#[u] ++ cs) w' (RetX w' (.bool (p xs)))
def findL (p : List Int → Bool) : List (List Int) → Int → Int
  | [], _ => -1
  | x :: r, k => if p x then k else findL p r (k + 1)
def anyL (p : List Int → Bool) : List (List Int) → Bool
  | [] => false
  | x :: r => if p x then true else anyL p r
theorem anyL_eq (p : List Int → Bool) (xs : List (List Int)) : anyL p xs = xs.any p := by
  induction xs with
  | nil => rfl
  | cons x r ih => unfold anyL; cases h : p x <;> simp [h, ih]
theorem findL_any (p : List Int → Bool) (xs : List (List Int)) : ∀ k : Int, 0 ≤ k → decide (0 ≤ findL p xs k) = anyL p xs := by
  induction xs with
  | nil => intro k _; rfl
  | cons x r ih =>
    intro k hk
    unfold findL anyL
    cases p x
    · simpa using ih (k + 1) (by omega)
    · simpa using hk
end Go.Proofs.Ytgkifandgacncaa
