/-
  FnExactFirstMatching: the walk: for all arguments the law returns true. No condition.
-/
import Derived.Test.YtegaablidoibdaaLaw
import Derived.Test.YtegaablidoibdaaFrame
import Derived.Test.YtegaablidoibdaaC28f
namespace Go.Proofs.Ytegaablidoibdaa
open Go.RowKit
set_option maxRecDepth 100000 in
set_option maxHeartbeats 3200000 in
theorem w_FnExactFirstMatching (w : World) (xss : List (List Int)) (vxss : Value) (hxss : Rd_IntSS w vxss xss) (hixss : I64_IntSS xss) :
    Calls Try.prog 13 #[vxss] w (RetT w) := by
  have HIxss := hd hixss; clear hixss
  have HAxss := hd hxss
  obtain ⟨Axss, cxss, rfl, h1xss, h2xss, -⟩ := hxss.form; unfold maxLen at h2xss
  clear hxss
  have hbz0 := sz_IntSS_bd xss 1048576 (by omega)
  generalize hz : sz_IntSS xss 1048576 = z0 at *
  have Hz0 := hd hz; clear hz
  have X := hd (Ext.refl w)
  go_enter Try.func13, Try.ntmps13
  go_wp2_with fail
  refine (u_sz_IntSS xss _ _ _ (HAxss.out.ext X.out) (by omega) (by omega)).mono ?_
  rintro e w1 ⟨rfl, hx⟩
  rw [Hz0.out]
  have szw1 := hx.size
  replace X := hd (X.out.trans hx)
  clear hx
  by_cases hneg0 : z0 < 0
  · go_wp2
    go_ret
    exact RetT.mk rfl X.out
  ·
    have bxss : Hid (Bd_IntSS xss) := hd (sz_IntSS_ok (by rw [Hz0.out]; exact hneg0) (by omega))
    go_wp2_with fail
    refine (u_to_IntSS xss _ _ (HAxss.out.ext X.out) bxss.out).mono ?_
    rintro e w2 ⟨u, rfl, hu, hx⟩
    have szw2 := hx.size
    replace X := hd (X.out.trans hx)
    have O3 := hd hu
    clear hx hu
    go_wp2_with fail
    refine (s_FirstMatching xss _ _ O3.out.rd bxss.out HIxss.out).mono ?_
    rintro e w4 ⟨u0, rfl, hu0, hx⟩
    have szw4 := hx.size
    replace X := hd (X.out.trans hx)
    replace O3 := hd (O3.out.ext hx)
    have O5 := hd hu0
    clear hx hu0
    clear O3
    go_wp2_with fail
    refine (u_to_IntSS xss _ _ (HAxss.out.ext X.out) bxss.out).mono ?_
    rintro e w6 ⟨u, rfl, hu, hx⟩
    have szw6 := hx.size
    replace X := hd (X.out.trans hx)
    replace O5 := hd (O5.out.ext hx)
    have O7 := hd hu
    clear hx hu
    go_wp2_with fail
    refine (i_FirstMatching xss _ _ O7.out.rd bxss.out HIxss.out).mono ?_
    rintro e w8 ⟨u0, rfl, hu0, hx⟩
    have szw8 := hx.size
    replace X := hd (X.out.trans hx)
    replace O5 := hd (O5.out.ext hx)
    replace O7 := hd (O7.out.ext hx)
    have O9 := hd hu0
    clear hx hu0
    go_wp2_with fail
    refine (u_eq_IntS (firstL xss) _ _ _ O9.out.rd O5.out.rd (firstL_bd xss bxss.out)).mono ?_
    rintro e w10 ⟨rfl, hx⟩
    have szw10 := hx.size
    replace X := hd (X.out.trans hx)
    replace O5 := hd (O5.out.ext hx)
    replace O7 := hd (O7.out.ext hx)
    replace O9 := hd (O9.out.ext hx)
    clear hx
    go_wp2_with fail
    refine (u_to_IntSS xss _ _ (HAxss.out.ext X.out) bxss.out).mono ?_
    rintro e w11 ⟨u, rfl, hu, hx⟩
    have szw11 := hx.size
    replace X := hd (X.out.trans hx)
    replace O5 := hd (O5.out.ext hx)
    replace O7 := hd (O7.out.ext hx)
    replace O9 := hd (O9.out.ext hx)
    have O12 := hd hu
    clear hx hu
    go_wp2_with fail
    refine (u_eq_IntSS xss _ _ _ O7.out.rd O12.out.rd bxss.out).mono ?_
    rintro e w13 ⟨rfl, hx⟩
    have szw13 := hx.size
    replace X := hd (X.out.trans hx)
    replace O5 := hd (O5.out.ext hx)
    replace O7 := hd (O7.out.ext hx)
    replace O9 := hd (O9.out.ext hx)
    replace O12 := hd (O12.out.ext hx)
    clear hx
    have lnO7 := len_IntSS_bd bxss.out
    go_wp2_with fail
    refine (u_mark_IntSS xss _ _ _ _ _ O7.out (by omega) bxss.out (by omega) (by omega)).mono ?_
    rintro e w14 ⟨rfl, hm, ht⟩
    clear O7
    have szw14 := ht.size
    replace X := hd (touch_ext X.out ht (by omega))
    replace O5 := hd (O5.out.touch ht (by omega))
    replace O9 := hd (O9.out.touch ht (by omega))
    replace O12 := hd (O12.out.touch ht (by omega))
    clear hm ht
    go_wp2_with fail
    refine (u_eq_IntS (firstL xss) _ _ _ O9.out.rd O5.out.rd (firstL_bd xss bxss.out)).mono ?_
    rintro e w16 ⟨rfl, hx⟩
    have szw16 := hx.size
    replace X := hd (X.out.trans hx)
    replace O5 := hd (O5.out.ext hx)
    replace O9 := hd (O9.out.ext hx)
    replace O12 := hd (O12.out.ext hx)
    clear hx
    have lnO9 := len_IntS_bd (firstL_bd xss bxss.out)
    go_wp2_with fail
    refine (u_mark_IntS (firstL xss) _ _ _ _ _ O9.out (by omega) (firstL_bd xss bxss.out) (by omega) (by omega)).mono ?_
    rintro e w17 ⟨rfl, hm, ht⟩
    clear O9
    have szw17 := ht.size
    replace X := hd (touch_ext X.out ht (by omega))
    replace O5 := hd (O5.out.touch ht (by omega))
    replace O12 := hd (O12.out.touch ht (by omega))
    have M18 := hd hm
    clear hm ht
    go_wp2_with fail
    refine (u_held_IntS (firstL xss) _ _ _ M18.out (firstL_bd xss bxss.out) (by omega) (by omega)).mono ?_
    rintro e w19 ⟨rfl, hx⟩
    have szw19 := hx.size
    replace X := hd (X.out.trans hx)
    replace O5 := hd (O5.out.ext hx)
    replace O12 := hd (O12.out.ext hx)
    replace M18 := hd (M18.out.ext hx)
    clear hx
    go_wp2_with fail
    refine (u_to_IntSS xss _ _ (HAxss.out.ext X.out) bxss.out).mono ?_
    rintro e w20 ⟨u, rfl, hu, hx⟩
    have szw20 := hx.size
    replace X := hd (X.out.trans hx)
    replace O5 := hd (O5.out.ext hx)
    replace O12 := hd (O12.out.ext hx)
    replace M18 := hd (M18.out.ext hx)
    have O21 := hd hu
    clear hx hu
    go_wp2_with fail
    refine (i_FirstMatching xss _ _ O21.out.rd bxss.out HIxss.out).mono ?_
    rintro e w22 ⟨u0, rfl, hu0, hx⟩
    have szw22 := hx.size
    replace X := hd (X.out.trans hx)
    replace O5 := hd (O5.out.ext hx)
    replace O12 := hd (O12.out.ext hx)
    replace M18 := hd (M18.out.ext hx)
    replace O21 := hd (O21.out.ext hx)
    have O23 := hd hu0
    clear hx hu0
    clear O21
    go_wp2_with fail
    refine (u_eq_IntS (firstL xss) _ _ _ O23.out.rd O5.out.rd (firstL_bd xss bxss.out)).mono ?_
    rintro e w24 ⟨rfl, hx⟩
    have szw24 := hx.size
    replace X := hd (X.out.trans hx)
    replace O5 := hd (O5.out.ext hx)
    replace O12 := hd (O12.out.ext hx)
    replace M18 := hd (M18.out.ext hx)
    replace O23 := hd (O23.out.ext hx)
    clear hx
    go_wp2_with fail
    refine (u_held_IntS (firstL xss) _ _ _ M18.out (firstL_bd xss bxss.out) (by omega) (by omega)).mono ?_
    rintro e w25 ⟨rfl, hx⟩
    have szw25 := hx.size
    replace X := hd (X.out.trans hx)
    replace O5 := hd (O5.out.ext hx)
    replace O12 := hd (O12.out.ext hx)
    replace M18 := hd (M18.out.ext hx)
    replace O23 := hd (O23.out.ext hx)
    clear hx
    go_wp2
    go_ret
    exact RetT.mk rfl X.out
end Go.Proofs.Ytegaablidoibdaa
