/-
  FnExactCaseOf: the walk: for all arguments the law returns true. No condition.
-/
import Derived.Test.YtmfgcpeddfbngaaDoorLaw
import Derived.Test.YtmfgcpeddfbngaaDoorFrame
import Derived.Test.YtmfgcpeddfbngaaDoorCas2
namespace Go.Proofs.YtmfgcpeddfbngaaDoor
open Go.RowKit
set_option maxRecDepth 100000 in
set_option maxHeartbeats 3200000 in
theorem w_FnExactCaseOf (w : World) (hg : GlobS w) (k : Int) (hk : I64 k) (a : ByteArray) (ha : a.size ≤ 9223372036854775807) (b : ByteArray) (hb : b.size ≤ 9223372036854775807) (c : ByteArray) (hc : c.size ≤ 9223372036854775807) :
    Calls Tryd.prog 3 #[.int .i64 k, .string a, .string b, .string c] w (RetT w) := by
  have HIk := hd hk; clear hk
  have X := hd (Ext.refl w)
  have HG := hd hg
  clear hg
  go_enter Tryd.func3, Tryd.ntmps3
  by_cases hbiga : 1048576 < a.size
  · go_wp2
    go_ret
    exact RetT.mk rfl X.out
  ·
    have ba := hd (Nat.le_of_not_lt hbiga)
    by_cases hbigb : 1048576 < b.size
    · go_wp2
      go_ret
      exact RetT.mk rfl X.out
    ·
      have bb := hd (Nat.le_of_not_lt hbigb)
      by_cases hbigc : 1048576 < c.size
      · go_wp2
        go_ret
        exact RetT.mk rfl X.out
      ·
        have bc := hd (Nat.le_of_not_lt hbigc)
        go_wp2_with fail
        refine (s_CaseOf k a b c _ HIk.out ba.out bb.out bc.out).mono ?_
        rintro e w2 ⟨rfl, hx⟩
        have szw2 := hx.size
        replace X := hd (X.out.trans hx)
        clear hx
        go_wp2_with fail
        refine (i_CaseOf k a b c _ (HG.out.ext X.out) HIk.out ba.out bb.out bc.out).mono ?_
        rintro e w4 ⟨rfl, hx⟩
        have szw4 := hx.size
        replace X := hd (X.out.trans hx)
        clear hx
        go_wp2
        go_ret
        exact RetT.mk rfl X.out
end Go.Proofs.YtmfgcpeddfbngaaDoor
