import Derived.Test.YtbdcomkbpapcaaaGreatMg1
import Derived.Test.YtbdcomkbpapcaaaGreatCnf
import Derived.Test.YtbdcomkbpapcaaaGreatHelp
/-
  How the arguments' readings are opened: formulas in conjunctive normal form. No condition.
-/
/-
  Small functions on numbers and lists of numbers of both sides, and of package slices. Conditions: list lengths up to 2^30.
-/

namespace Go.Proofs.YtbdcomkbpapcaaaGreat
open Go.RowKit Go.ChangeShapes Go.WideShapes Go.ChangeAt Go.Deep Go.Joins
section
variable {H : Type} {enc : TypeId × Value → H} {W : World} {b0 : Nat} {r : Reach} {base : Nat} {spare : Nat → Bool} {held : Bool}
set_option maxRecDepth 100000 in
theorem open_cnf {v : Value} {d : DataW H} {p : List MemPlace} (hv : Value.okWide Tryz.prog W r b0 24 v) (h : DataW.Trod enc Tryz.prog W base spare held 24 v d p) :
    ∃ f, Rd_Cnf W v f ∧ I64_Cnf f := by
  obtain ⟨v0, v1, y0, y1, n, rfl, _, _, h0, h1⟩ := open_agg2 Tryz.underlying24 (by kernel_rfl) (by kernel_rfl) hv h
  obtain ⟨z, hz, _, hw⟩ := DataW.trod_int Tryz.underlying3 h0
  injection hz with hz
  subst hz
  obtain ⟨cs, hcs, hb⟩ := read_intss Tryz.underlying22 Tryz.underlying37 Tryz.underlying3 (by kernel_rfl) (by kernel_rfl) h1
  exact ⟨⟨z, cs⟩, ⟨_, rfl, hcs⟩, i64_of_wf hw, hb⟩
end
end Go.Proofs.YtbdcomkbpapcaaaGreat
namespace Go.Proofs.YtbdcomkbpapcaaaGreat
open Go.RowKit

def inB (x lo hi : Int) : Bool := decide (lo ≤ x) && decide (x ≤ hi)
theorem inB_iff {x lo hi : Int} : inB x lo hi = true ↔ lo ≤ x ∧ x ≤ hi := by simp [inB]
theorem inB_no {x lo hi : Int} : inB x lo hi = false ↔ x < lo ∨ hi < x := by
  rw [← Bool.not_eq_true, inB_iff]; omega

theorem s_l1In (x lo hi : Int) (w : World) : Calls Tryz.prog 41 #[.int .i64 x, .int .i64 lo, .int .i64 hi] w (Ret w (.bool (inB x lo hi))) := by
  go_enter Tryz.func41, Tryz.ntmps41
  by_cases h1 : lo ≤ x <;> by_cases h2 : x ≤ hi
  all_goals
    go_wp2
    go_ret
    exact Ret.mk (by simp [inB, h1, h2])
theorem i_within (x lo hi : Int) (w : World) : Calls Tryz.prog 32 #[.int .i64 x, .int .i64 lo, .int .i64 hi] w (Ret w (.bool (inB x lo hi))) := by
  go_enter Tryz.func32, Tryz.ntmps32
  by_cases h1 : lo ≤ x <;> by_cases h2 : x ≤ hi
  all_goals
    go_wp2
    go_ret
    exact Ret.mk (by simp [inB, h1, h2])
/-- Membership. -/
def hasI : List Int → Int → Bool
  | [], _ => false
  | y :: r, x => if y = x then true else hasI r x
theorem hasI_iff (xs : List Int) (x : Int) : hasI xs x = true ↔ x ∈ xs := by
  induction xs with
  | nil => simp [hasI]
  | cons y r ih =>
    unfold hasI
    by_cases h : y = x
    · simp [h]
    · rw [if_neg h, ih]; simp; intro h'; exact absurd h'.symm h
/-- The first place of a number, or -1. -/
def indexI (x : Int) : List Int → Int → Int
  | [], _ => -1
  | y :: r, k => if x = y then k else indexI x r (k + 1)
theorem indexI_has (x : Int) (xs : List Int) : ∀ k : Int, 0 ≤ k → (decide (0 ≤ indexI x xs k)) = hasI xs x := by
  induction xs with
  | nil => intro k _; rfl
  | cons y r ih =>
    intro k hk
    unfold indexI hasI
    by_cases h : x = y
    · subst h; simp [hk]
    · rw [if_neg h, if_neg (fun e => h e.symm)]; exact ih _ (by omega)
theorem s_l1Has (xs : List Int) (v : Value) (x : Int) (w : World) (h : RdI w v xs) (hl : xs.length ≤ 1073741824) :
    Calls Tryz.prog 66 #[v, .int .i64 x] w (Ret w (.bool (hasI xs x))) := by
  obtain ⟨A, c, rfl, h1, h2, ha⟩ := h.form
  clear h
  go_enter Tryz.func66, Tryz.ntmps66
  go_wp2
  go_loop [5] (fun i => ∃ k : Nat, k ≤ xs.length ∧ i = .int .i64 k ∧ Hid (hasI xs x = hasI (xs.drop k) x)) (fun i => xs.length - (intOf i).toNat)
  case atStart => exact ⟨0, by omega, rfl, rfl⟩
  case round =>
    obtain ⟨k, hk, rfl, HR⟩ := hrel
    by_cases hlt : k < xs.length
    · obtain ⟨a, rfl, hc⟩ := RdI.at_ ha hlt
      rw [drop_cons hlt] at HR
      generalize xs[k] = y at *
      by_cases hxy : y = x
      · subst hxy
        go_wp2
        go_ret
        exact Ret.mk (by rw [HR.out]; simp [hasI])
      · go_wp2
        go_round
        case rel => exact ⟨k + 1, by omega, by go_num, hd (by rw [HR.out]; simp [hasI, hxy])⟩
        case measure => simp [intOf]; omega
    · go_wp2
      go_ret
      exact Ret.mk (by rw [HR.out, List.drop_eq_nil_of_le (by omega)]; rfl)
theorem slices_Index (xs : List Int) (v : Value) (x : Int) (w : World) (h : RdI w v xs) (hl : xs.length ≤ 1073741824) :
    Calls Tryz.prog 100 #[v, .int .i64 x] w (Ret w (.int .i64 (indexI x xs 0))) := by
  obtain ⟨A, c, rfl, h1, h2, ha⟩ := h.form
  clear h
  go_enter Tryz.func100, Tryz.ntmps100
  go_wp2
  go_loop [8] (fun i => ∃ k : Nat, k ≤ xs.length ∧ i = .int .i64 k ∧ Hid (indexI x xs 0 = indexI x (xs.drop k) k)) (fun i => xs.length - (intOf i).toNat)
  case atStart => exact ⟨0, by omega, rfl, rfl⟩
  case round =>
    obtain ⟨k, hk, rfl, HR⟩ := hrel
    by_cases hlt : k < xs.length
    · obtain ⟨a, rfl, hc⟩ := RdI.at_ ha hlt
      rw [drop_cons hlt] at HR
      generalize xs[k] = y at *
      by_cases hxy : x = y
      · subst hxy
        go_wp2
        go_ret
        exact Ret.mk (by rw [HR.out]; simp [indexI])
      · go_wp2
        go_round
        case rel => exact ⟨k + 1, by omega, by go_num, hd (by rw [HR.out]; simp [indexI, hxy])⟩
        case measure => simp [intOf]; omega
    · go_wp2
      go_ret
      exact Ret.mk (by rw [HR.out, List.drop_eq_nil_of_le (by omega)]; rfl)
theorem slices_Contains (xs : List Int) (v : Value) (x : Int) (w : World) (h : RdI w v xs) (hl : xs.length ≤ 1073741824) :
    Calls Tryz.prog 86 #[v, .int .i64 x] w (Ret w (.bool (hasI xs x))) := by
  have HB := hd (indexI_has x xs 0 (Int.le_refl _))
  have HA := hd h
  clear h
  go_enter Tryz.func86, Tryz.ntmps86
  go_wp2_with fail
  refine (slices_Index xs v x _ HA.out hl).mono ?_
  rintro e w1 ⟨rfl, rfl⟩
  go_wp2
  go_ret
  exact Ret.mk (by rw [← HB.out]; rfl)
/-- Rising within bounds, behind a number (or none). -/
def risingG (lo hi : Int) : Option Int → List Int → Bool
  | _, [] => true
  | none, x :: r => if inB x lo hi then risingG lo hi (some x) r else false
  | some p, x :: r => if inB x lo hi then (if p < x then risingG lo hi (some x) r else false) else false
def risingB (lo hi : Int) (xs : List Int) : Bool := risingG lo hi none xs
end Go.Proofs.YtbdcomkbpapcaaaGreat
