/-
  Small functions on numbers and lists of numbers of both sides, and of package slices. Conditions: list lengths up to 2^30.
-/
import Derived.Test.YtapgpjhogdmjbaaDoorHelp
namespace Go.Proofs.YtapgpjhogdmjbaaDoor
open Go.RowKit

def inB (x lo hi : Int) : Bool := decide (lo ≤ x) && decide (x ≤ hi)
theorem inB_iff {x lo hi : Int} : inB x lo hi = true ↔ lo ≤ x ∧ x ≤ hi := by simp [inB]
theorem inB_no {x lo hi : Int} : inB x lo hi = false ↔ x < lo ∨ hi < x := by
  rw [← Bool.not_eq_true, inB_iff]; omega

theorem s_l1In (x lo hi : Int) (w : World) : Calls Tryd.prog 17 #[.int .i64 x, .int .i64 lo, .int .i64 hi] w (Ret w (.bool (inB x lo hi))) := by
  go_enter Tryd.func17, Tryd.ntmps17
  by_cases h1 : lo ≤ x <;> by_cases h2 : x ≤ hi
  all_goals
    go_wp2
    go_ret
    exact Ret.mk (by simp [inB, h1, h2])
theorem i_within (x lo hi : Int) (w : World) : Calls Tryd.prog 22 #[.int .i64 x, .int .i64 lo, .int .i64 hi] w (Ret w (.bool (inB x lo hi))) := by
  go_enter Tryd.func22, Tryd.ntmps22
  by_cases h1 : lo ≤ x <;> by_cases h2 : x ≤ hi
  all_goals
    go_wp2
    go_ret
    exact Ret.mk (by simp [inB, h1, h2])
/-- Membership. -/
def hasI : List Int → Int → Bool
  | [], _ => false
  | y :: r, x => if y = x then true else hasI r x
theorem hasI_iff (xs : List Int) (x : Int) : hasI xs x = true ↔ x ∈ xs := by
  induction xs with
  | nil => simp [hasI]
  | cons y r ih =>
    unfold hasI
    by_cases h : y = x
    · simp [h]
    · rw [if_neg h, ih]; simp; intro h'; exact absurd h'.symm h
/-- The first place of a number, or -1. -/
def indexI (x : Int) : List Int → Int → Int
  | [], _ => -1
  | y :: r, k => if x = y then k else indexI x r (k + 1)
theorem indexI_has (x : Int) (xs : List Int) : ∀ k : Int, 0 ≤ k → (decide (0 ≤ indexI x xs k)) = hasI xs x := by
  induction xs with
  | nil => intro k _; rfl
  | cons y r ih =>
    intro k hk
    unfold indexI hasI
    by_cases h : x = y
    · subst h; simp [hk]
    · rw [if_neg h, if_neg (fun e => h e.symm)]; exact ih _ (by omega)
/-- Rising within bounds, behind a number (or none). -/
def risingG (lo hi : Int) : Option Int → List Int → Bool
  | _, [] => true
  | none, x :: r => if inB x lo hi then risingG lo hi (some x) r else false
  | some p, x :: r => if inB x lo hi then (if p < x then risingG lo hi (some x) r else false) else false
def risingB (lo hi : Int) (xs : List Int) : Bool := risingG lo hi none xs