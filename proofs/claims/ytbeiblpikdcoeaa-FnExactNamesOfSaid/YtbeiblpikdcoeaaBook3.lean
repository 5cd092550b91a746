/-
  IsBook, both sides, as the law calls them. No condition of its own.
-/
import Derived.Test.YtbeiblpikdcoeaaBook2
namespace Go.Proofs.Ytbeiblpikdcoeaa
open Go.RowKit
theorem i_IsBook' (rs : List Rec) (v : Value) (w : World) (h : Rd_RecordS w v rs) (b : Bd_RecordS rs) (_ : I64_RecordS rs) :
    Calls Try.prog 79 #[v] w (RetX w (.bool (bookB rs))) := i_IsBook rs v w h b.1
end Go.Proofs.Ytbeiblpikdcoeaa
