/-
  FnExactIdentityProof: the walk: for all arguments the law returns true. No condition.
-/
import Derived.Test.YtmfgcpeddfbngaaDoorLaw
import Derived.Test.YtmfgcpeddfbngaaDoorFrame
import Derived.Test.YtmfgcpeddfbngaaDoorIdnJ
namespace Go.Proofs.YtmfgcpeddfbngaaDoor
open Go.RowKit
set_option maxRecDepth 100000 in
set_option maxHeartbeats 3200000 in
theorem w_FnExactIdentityProof (w : World) (hg : GlobS w) (s : ByteArray) (hs : s.size ≤ 9223372036854775807) :
    Calls Tryd.prog 4 #[.string s] w (RetT w) := by
  have X := hd (Ext.refl w)
  have HG := hd hg
  clear hg
  go_enter Tryd.func4, Tryd.ntmps4
  by_cases hbigs : 1048576 < s.size
  · go_wp2
    go_ret
    exact RetT.mk rfl X.out
  ·
    have bs := hd (Nat.le_of_not_lt hbigs)
    go_wp2_with fail
    refine (s_IdentityProof s _ bs.out).mono ?_
    rintro e w2 ⟨u0, rfl, hu0, hx⟩
    have szw2 := hx.size
    replace X := hd (X.out.trans hx)
    have O3 := hd hu0
    clear hx hu0
    go_wp2_with fail
    refine (i_IdentityProof s _ (HG.out.ext X.out) bs.out).mono ?_
    rintro e w5 ⟨u0, rfl, hu0, hx⟩
    have szw5 := hx.size
    replace X := hd (X.out.trans hx)
    replace O3 := hd (O3.out.ext hx)
    have O6 := hd hu0
    clear hx hu0
    go_wp2_with fail
    refine (u_eq_FregeStepS (idV s) _ _ _ O6.out.rd O3.out.rd (idV_bd s)).mono ?_
    rintro e w7 ⟨rfl, hx⟩
    have szw7 := hx.size
    replace X := hd (X.out.trans hx)
    replace O3 := hd (O3.out.ext hx)
    replace O6 := hd (O6.out.ext hx)
    clear hx
    have lnO6 := len_FregeStepS_bd (idV_bd s)
    go_wp2_with fail
    refine (u_mark_FregeStepS (idV s) _ _ _ _ _ O6.out (by omega) (idV_bd s) (by omega) (by omega)).mono ?_
    rintro e w8 ⟨rfl, hm, ht⟩
    clear O6
    have szw8 := ht.size
    replace X := hd (touch_ext X.out ht (by omega))
    replace O3 := hd (O3.out.touch ht (by omega))
    have M9 := hd hm
    clear hm ht
    go_wp2_with fail
    refine (u_held_FregeStepS (idV s) _ _ _ M9.out (idV_bd s) (by omega) (by omega)).mono ?_
    rintro e w10 ⟨rfl, hx⟩
    have szw10 := hx.size
    replace X := hd (X.out.trans hx)
    replace O3 := hd (O3.out.ext hx)
    replace M9 := hd (M9.out.ext hx)
    clear hx
    go_wp2_with fail
    refine (i_IdentityProof s _ (HG.out.ext X.out) bs.out).mono ?_
    rintro e w12 ⟨u0, rfl, hu0, hx⟩
    have szw12 := hx.size
    replace X := hd (X.out.trans hx)
    replace O3 := hd (O3.out.ext hx)
    replace M9 := hd (M9.out.ext hx)
    have O13 := hd hu0
    clear hx hu0
    go_wp2_with fail
    refine (u_eq_FregeStepS (idV s) _ _ _ O13.out.rd O3.out.rd (idV_bd s)).mono ?_
    rintro e w14 ⟨rfl, hx⟩
    have szw14 := hx.size
    replace X := hd (X.out.trans hx)
    replace O3 := hd (O3.out.ext hx)
    replace M9 := hd (M9.out.ext hx)
    replace O13 := hd (O13.out.ext hx)
    clear hx
    go_wp2_with fail
    refine (u_held_FregeStepS (idV s) _ _ _ M9.out (idV_bd s) (by omega) (by omega)).mono ?_
    rintro e w15 ⟨rfl, hx⟩
    have szw15 := hx.size
    replace X := hd (X.out.trans hx)
    replace O3 := hd (O3.out.ext hx)
    replace M9 := hd (M9.out.ext hx)
    replace O13 := hd (O13.out.ext hx)
    clear hx
    go_wp2
    go_ret
    exact RetT.mk rfl X.out
end Go.Proofs.YtmfgcpeddfbngaaDoor
