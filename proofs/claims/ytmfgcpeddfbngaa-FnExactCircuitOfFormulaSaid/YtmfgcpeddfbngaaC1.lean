/-
  Small functions on numbers and lists of numbers of both sides, and of package slices. Conditions: list lengths up to 2^30.
-/
import Derived.Test.YtmfgcpeddfbngaaHelp
namespace Go.Proofs.Ytmfgcpeddfbngaa
open Go.RowKit

def inB (x lo hi : Int) : Bool := decide (lo ≤ x) && decide (x ≤ hi)
theorem inB_iff {x lo hi : Int} : inB x lo hi = true ↔ lo ≤ x ∧ x ≤ hi := by simp [inB]
theorem inB_no {x lo hi : Int} : inB x lo hi = false ↔ x < lo ∨ hi < x := by
  rw [← Bool.not_eq_true, inB_iff]; omega

/-- Membership. -/
def hasI : List Int → Int → Bool
  | [], _ => false
  | y :: r, x => if y = x then true else hasI r x
theorem hasI_iff (xs : List Int) (x : Int) : hasI xs x = true ↔ x ∈ xs := by
  induction xs with
  | nil => simp [hasI]
  | cons y r ih =>
    unfold hasI
    by_cases h : y = x
    · simp [h]
    · rw [if_neg h, ih]; simp; intro h'; exact absurd h'.symm h
/-- The first place of a number, or -1. -/
def indexI (x : Int) : List Int → Int → Int
  | [], _ => -1
  | y :: r, k => if x = y then k else indexI x r (k + 1)
theorem indexI_has (x : Int) (xs : List Int) : ∀ k : Int, 0 ≤ k → (decide (0 ≤ indexI x xs k)) = hasI xs x := by
  induction xs with
  | nil => intro k _; rfl
  | cons y r ih =>
    intro k hk
    unfold indexI hasI
    by_cases h : x = y
    · subst h; simp [hk]
    · rw [if_neg h, if_neg (fun e => h e.symm)]; exact ih _ (by omega)
theorem s_l1Has (xs : List Int) (v : Value) (x : Int) (w : World) (h : RdI w v xs) (hl : xs.length ≤ 1073741824) :
    Calls Try.prog 134 #[v, .int .i64 x] w (Ret w (.bool (hasI xs x))) := by
  obtain ⟨A, c, rfl, h1, h2, ha⟩ := h.form
  clear h
  go_enter Try.func134, Try.ntmps134
  go_wp2
  go_loop [5] (fun i => ∃ k : Nat, k ≤ xs.length ∧ i = .int .i64 k ∧ Hid (hasI xs x = hasI (xs.drop k) x)) (fun i => xs.length - (intOf i).toNat)
  case atStart => exact ⟨0, by omega, rfl, rfl⟩
  case round =>
    obtain ⟨k, hk, rfl, HR⟩ := hrel
    by_cases hlt : k < xs.length
    · obtain ⟨a, rfl, hc⟩ := RdI.at_ ha hlt
      rw [drop_cons hlt] at HR
      generalize xs[k] = y at *
      by_cases hxy : y = x
      · subst hxy
        go_wp2
        go_ret
        exact Ret.mk (by rw [HR.out]; simp [hasI])
      · go_wp2
        go_round
        case rel => exact ⟨k + 1, by omega, by go_num, hd (by rw [HR.out]; simp [hasI, hxy])⟩
        case measure => simp [intOf]; omega
    · go_wp2
      go_ret
      exact Ret.mk (by rw [HR.out, List.drop_eq_nil_of_le (by omega)]; rfl)
/-- Rising within bounds, behind a number (or none). -/
def risingG (lo hi : Int) : Option Int → List Int → Bool
  | _, [] => true
  | none, x :: r => if inB x lo hi then risingG lo hi (some x) r else false
  | some p, x :: r => if inB x lo hi then (if p < x then risingG lo hi (some x) r else false) else false
def risingB (lo hi : Int) (xs : List Int) : Bool := risingG lo hi none xs