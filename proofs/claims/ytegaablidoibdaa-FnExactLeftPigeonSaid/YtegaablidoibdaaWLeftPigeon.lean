/-
  FnExactLeftPigeon: the walk: for all numbers the law returns true. No condition.
-/
import Derived.Test.YtegaablidoibdaaFrame
import Derived.Test.YtegaablidoibdaaC28e
namespace Go.Proofs.Ytegaablidoibdaa
open Go.RowKit
set_option maxHeartbeats 1600000 in
theorem w_FnExactLeftPigeon (w : World) (n : Int) (_ : I64 n) (bs : Int) (_ : I64 bs) :
    Calls Try.prog 6 #[.int .i64 n, .int .i64 bs] w (RetT w) := by
  go_enter Try.func6, Try.ntmps6
  go_wp2_with fail
  refine (s_LeftPigeon n bs _).mono ?_
  rintro e w2 ⟨rfl, rfl⟩
  unfold leftV
  go_wp2_with fail
  refine (i_LeftPigeon n bs _).mono ?_
  rintro e w4 ⟨rfl, hx4⟩
  unfold leftV
  go_wp2
  go_ret
  exact RetT.mk rfl hx4
end Go.Proofs.Ytegaablidoibdaa
