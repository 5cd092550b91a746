/-
  Chapters 17 and 28: pigeons. Conditions: list lengths up to 2^30.
-/
import Derived.Test.YtpljmlkinjhigaaHo
namespace Go.Proofs.Ytpljmlkinjhigaa
open Go.RowKit

def holesB (n : Int) : Bool := inB n 1 3
theorem holesB_cases {n : Int} (h : holesB n = true) : n = 1 ∨ n = 2 ∨ n = 3 := by
  unfold holesB at h; rw [inB_iff] at h; omega
theorem s_l17Holes (n : Int) (w : World) : Calls Try.prog 112 #[.int .i64 n] w (Ret w (.bool (holesB n))) := by
  go_enter Try.func112, Try.ntmps112
  go_wp2_with fail
  refine (s_l1In _ _ _ _).mono ?_
  rintro e w1 ⟨rfl, rfl⟩
  go_wp2
  go_ret
  exact Ret.mk rfl
theorem i_holesOk (n : Int) (w : World) : Calls Try.prog 116 #[.int .i64 n] w (Ret w (.bool (holesB n))) := by
  go_enter Try.func116, Try.ntmps116
  go_wp2_with fail
  refine (i_within _ _ _ _).mono ?_
  rintro e w1 ⟨rfl, rfl⟩
  go_wp2
  go_ret
  exact Ret.mk rfl
/-- The pigeon variable of pigeon i and hole j. -/
def pvar (n i j : Int) : Int := (i - 1) * n + j
theorem s_l17Var (n i j : Int) (w : World) (h : 0 ≤ n ∧ n ≤ 1000) (hi : 1 ≤ i ∧ i ≤ 1000) (hj : 0 ≤ j ∧ j ≤ 1000) : Calls Try.prog 141 #[.int .i64 n, .int .i64 i, .int .i64 j] w (Ret w (.int .i64 (pvar n i j))) := by
  have hm1 : 0 ≤ (i - 1) * n := Int.mul_nonneg (by omega) h.1
  have hm2 : (i - 1) * n ≤ 1000 * 1000 := Int.mul_le_mul (by omega) h.2 h.1 (by omega)
  go_enter Try.func141, Try.ntmps141
  go_wp2
  go_ret
  exact Ret.mk rfl
theorem i_pigeonVar (n i j : Int) (w : World) (h : 0 ≤ n ∧ n ≤ 1000) (hi : 1 ≤ i ∧ i ≤ 1000) (hj : 0 ≤ j ∧ j ≤ 1000) : Calls Try.prog 155 #[.int .i64 n, .int .i64 i, .int .i64 j] w (Ret w (.int .i64 (pvar n i j))) := by
  have hm1 : 0 ≤ (i - 1) * n := Int.mul_nonneg (by omega) h.1
  have hm2 : (i - 1) * n ≤ 1000 * 1000 := Int.mul_le_mul (by omega) h.2 h.1 (by omega)
  go_enter Try.func155, Try.ntmps155
  go_wp2
  go_ret
  exact Ret.mk rfl