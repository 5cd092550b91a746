/-
  Small functions on numbers and lists of numbers of both sides, and of package slices. Conditions: list lengths up to 2^30.
-/
import Derived.Test.YtapgpjhogdmjbaaHelp
namespace Go.Proofs.Ytapgpjhogdmjbaa
open Go.RowKit

def inB (x lo hi : Int) : Bool := decide (lo ≤ x) && decide (x ≤ hi)
theorem inB_iff {x lo hi : Int} : inB x lo hi = true ↔ lo ≤ x ∧ x ≤ hi := by simp [inB]
theorem inB_no {x lo hi : Int} : inB x lo hi = false ↔ x < lo ∨ hi < x := by
  rw [← Bool.not_eq_true, inB_iff]; omega

theorem s_l1In (x lo hi : Int) (w : World) : Calls Try.prog 24 #[.int .i64 x, .int .i64 lo, .int .i64 hi] w (Ret w (.bool (inB x lo hi))) := by
  go_enter Try.func24, Try.ntmps24
  by_cases h1 : lo ≤ x <;> by_cases h2 : x ≤ hi
  all_goals
    go_wp2
    go_ret
    exact Ret.mk (by simp [inB, h1, h2])
theorem i_within (x lo hi : Int) (w : World) : Calls Try.prog 28 #[.int .i64 x, .int .i64 lo, .int .i64 hi] w (Ret w (.bool (inB x lo hi))) := by
  go_enter Try.func28, Try.ntmps28
  by_cases h1 : lo ≤ x <;> by_cases h2 : x ≤ hi
  all_goals
    go_wp2
    go_ret
    exact Ret.mk (by simp [inB, h1, h2])
/-- Membership. -/
def hasI : List Int → Int → Bool
  | [], _ => false
  | y :: r, x => if y = x then true else hasI r x
theorem hasI_iff (xs : List Int) (x : Int) : hasI xs x = true ↔ x ∈ xs := by
  induction xs with
  | nil => simp [hasI]
  | cons y r ih =>
    unfold hasI
    by_cases h : y = x
    · simp [h]
    · rw [if_neg h, ih]; simp; intro h'; exact absurd h'.symm h
/-- The first place of a number, or -1. -/
def indexI (x : Int) : List Int → Int → Int
  | [], _ => -1
  | y :: r, k => if x = y then k else indexI x r (k + 1)
theorem indexI_has (x : Int) (xs : List Int) : ∀ k : Int, 0 ≤ k → (decide (0 ≤ indexI x xs k)) = hasI xs x := by
  induction xs with
  | nil => intro k _; rfl
  | cons y r ih =>
    intro k hk
    unfold indexI hasI
    by_cases h : x = y
    · subst h; simp [hk]
    · rw [if_neg h, if_neg (fun e => h e.symm)]; exact ih _ (by omega)
/-- Rising within bounds, behind a number (or none). -/
def risingG (lo hi : Int) : Option Int → List Int → Bool
  | _, [] => true
  | none, x :: r => if inB x lo hi then risingG lo hi (some x) r else false
  | some p, x :: r => if inB x lo hi then (if p < x then risingG lo hi (some x) r else false) else false
def risingB (lo hi : Int) (xs : List Int) : Bool := risingG lo hi none xs
set_option maxHeartbeats 800000 in
theorem s_l1Rising (xs : List Int) (v : Value) (lo hi : Int) (w : World) (h : RdI w v xs) (hl : xs.length ≤ 1073741824) :
    Calls Try.prog 38 #[v, .int .i64 lo, .int .i64 hi] w (RetQ w (.bool (risingB lo hi xs))) := by
  obtain ⟨A, c, rfl, h1, h2, ha⟩ := h.form
  clear h
  go_enter Try.func38, Try.ntmps38
  go_wp2
  go_loopw [7] (fun i wr => ∃ k n : Nat, k ≤ xs.length ∧ i = .int .i64 k ∧ Hid (risingB lo hi xs = risingG lo hi (if k = 0 then none else xs[k - 1]?) (xs.drop k)) ∧ wr = w.drewN n) (fun i _ => xs.length - (intOf i).toNat)
  case atStart => exact ⟨0, 0, by omega, rfl, rfl, rfl⟩
  case round =>
    obtain ⟨k, n, hk, rfl, HR, rfl⟩ := hrel
    by_cases hlt : k < xs.length
    · obtain ⟨a, rfl, hc⟩ := RdI.at_ ha hlt
      rw [drop_cons hlt] at HR
      have e1 : (0 : Int) ≤ (k : Int) := by omega
      have e2 : (k : Int) < (xs.length : Int) := by omega
      have HX : Hid (xs[k]? = some xs[k]) := hd (List.getElem?_eq_getElem hlt)
      generalize xs[k] = y at *
      obtain ⟨b, hb⟩ : ∃ b, inB y lo hi = b := ⟨_, rfl⟩
      have HB := hd hb
      clear hb
      rcases Nat.eq_zero_or_pos k with rfl | hpos
      · rw [Addr.add_zero'] at hc
        have e3 : decide ((0 : Int) < ((0 : Nat) : Int)) = false := rfl
        cases b
        all_goals
          go_wp2_with fail
          go_quiet ((go_at_call 24; first | exact q_same (rt (s_l1In _ _ _ _) HB) | exact q_same' (rt (s_l1In _ _ _ _) HB)))
          go_wp2
        · go_ret
          rw [World.drewN_drewN]
          exact RetQ.mkN (by rw [HR.out]; simp [risingG, HB.out])
        · go_roundw
          case rel => exact ⟨1, _, by omega, by go_num, hd (by rw [HR.out]; simp [risingG, HB.out]; rw [HX.out]), rfl⟩
          case measure => simp [intOf]; omega
      · obtain ⟨a', ha', hc'⟩ := RdI.at_ ha (k := k - 1) (by omega)
        cases ha'
        have HP : Hid (xs[k - 1]? = some (xs[k - 1]'(by omega))) := hd (List.getElem?_eq_getElem (by omega))
        generalize xs[k - 1]'(by omega) = p at *
        have e3 : decide ((0 : Int) < (k : Int)) = true := by simp; omega
        have e4 : (0 : Int) ≤ (k : Int) - 1 := by omega
        have e5 : (k : Int) - 1 < (xs.length : Int) := by omega
        have hc2 : w.cell? (a.add ((k : Int) - 1).toNat) = some (.int .i64 p) := by rw [show ((k : Int) - 1).toNat = k - 1 from by omega]; exact hc'
        have HK : Hid (k ≠ 0) := hd (by omega)
        by_cases hp : p < y <;> cases b
        all_goals
          go_wp2_with fail
          go_quiet ((go_at_call 24; first | exact q_same (rt (s_l1In _ _ _ _) HB) | exact q_same' (rt (s_l1In _ _ _ _) HB)))
          go_wp2
        all_goals first
          | (go_ret
             rw [World.drewN_drewN]
             exact RetQ.mkN (by rw [HR.out, if_neg HK.out, HP.out]; simp [risingG, HB.out]; try (intro h; omega)))
          | (go_roundw
             case rel => exact ⟨k + 1, _, by omega, by go_num, hd (by rw [HR.out, if_neg HK.out, HP.out, if_neg (by omega), Nat.add_sub_cancel, HX.out]; simp [risingG, HB.out, hp]), rfl⟩
             case measure => simp [intOf]; omega)
    · go_wp2
      go_ret
      exact RetQ.mkN (by rw [HR.out, List.drop_eq_nil_of_le (by omega)]; unfold risingG; rfl)
end Go.Proofs.Ytapgpjhogdmjbaa
