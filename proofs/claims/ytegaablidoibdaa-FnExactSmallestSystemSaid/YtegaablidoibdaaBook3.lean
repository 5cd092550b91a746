/-
  IsBook, both sides, as the law calls them. No condition of its own.
-/
import Derived.Test.YtegaablidoibdaaBook2
namespace Go.Proofs.Ytegaablidoibdaa
open Go.RowKit
theorem s_IsBook (rs : List Rec) (v : Value) (w : World) (h : Rd_RecordS w v rs) (b : Bd_RecordS rs) (_ : I64_RecordS rs) :
    Calls Try.prog 58 #[v] w (RetX w (.bool (bookB rs))) := by
  go_enter Try.func58, Try.ntmps58
  go_wp2_with fail
  refine (s_l31Good rs v w h b.1).mono ?_
  rintro e w1 ⟨rfl, hx⟩
  go_wp2
  go_ret
  exact RetX.mk rfl hx
theorem i_IsBook' (rs : List Rec) (v : Value) (w : World) (h : Rd_RecordS w v rs) (b : Bd_RecordS rs) (_ : I64_RecordS rs) :
    Calls Try.prog 60 #[v] w (RetX w (.bool (bookB rs))) := i_IsBook rs v w h b.1
end Go.Proofs.Ytegaablidoibdaa
