/-
  FnExactHallSet: the walk: for all arguments the law returns true. No condition.
-/
import Derived.Test.YtjeeffmpfdhppaaLaw
import Derived.Test.YtjeeffmpfdhppaaFrame
import Derived.Test.YtjeeffmpfdhppaaHallI
namespace Go.Proofs.Ytjeeffmpfdhppaa
open Go.RowKit
set_option maxRecDepth 100000 in
set_option maxHeartbeats 3200000 in
theorem w_FnExactHallSet (w : World) (xss : List (List Int)) (vxss : Value) (hxss : Rd_IntSS w vxss xss) (hixss : I64_IntSS xss) :
    Calls Try.prog 8 #[vxss] w (RetT w) := by
  have HIxss := hd hixss; clear hixss
  have HAxss := hd hxss
  obtain ⟨Axss, cxss, rfl, h1xss, h2xss, -⟩ := hxss.form; unfold maxLen at h2xss
  clear hxss
  have hbz0 := sz_IntSS_bd xss 1048576 (by omega)
  generalize hz : sz_IntSS xss 1048576 = z0 at *
  have Hz0 := hd hz; clear hz
  have X := hd (Ext.refl w)
  go_enter Try.func8, Try.ntmps8
  go_wp2_with fail
  refine (u_sz_IntSS xss _ _ _ (HAxss.out.ext X.out) (by omega) (by omega)).mono ?_
  rintro e w1 ⟨rfl, hx⟩
  rw [Hz0.out]
  have szw1 := hx.size
  replace X := hd (X.out.trans hx)
  clear hx
  by_cases hneg0 : z0 < 0
  · go_wp2
    go_ret
    exact RetT.mk rfl X.out
  ·
    have bxss : Hid (Bd_IntSS xss) := hd (sz_IntSS_ok (by rw [Hz0.out]; exact hneg0) (by omega))
    go_wp2_with fail
    refine (u_to_IntSS xss _ _ (HAxss.out.ext X.out) bxss.out).mono ?_
    rintro e w2 ⟨u, rfl, hu, hx⟩
    have szw2 := hx.size
    replace X := hd (X.out.trans hx)
    have O3 := hd hu
    clear hx hu
    go_wp2_with fail
    refine (s_HallSet xss _ _ O3.out.rd bxss.out HIxss.out).mono ?_
    rintro e w5 ⟨u0, rfl, hu0, hx⟩
    have szw5 := hx.size
    replace X := hd (X.out.trans hx)
    replace O3 := hd (O3.out.ext hx)
    have O6 := hd hu0
    clear hx hu0
    clear O3
    go_wp2_with fail
    refine (u_to_IntSS xss _ _ (HAxss.out.ext X.out) bxss.out).mono ?_
    rintro e w7 ⟨u, rfl, hu, hx⟩
    have szw7 := hx.size
    replace X := hd (X.out.trans hx)
    replace O6 := hd (O6.out.ext hx)
    have O8 := hd hu
    clear hx hu
    go_wp2_with fail
    refine (i_HallSet xss _ _ O8.out.rd bxss.out HIxss.out).mono ?_
    rintro e w10 ⟨u0, rfl, hu0, hx⟩
    have szw10 := hx.size
    replace X := hd (X.out.trans hx)
    replace O6 := hd (O6.out.ext hx)
    replace O8 := hd (O8.out.ext hx)
    have O11 := hd hu0
    clear hx hu0
    go_wp2_with fail
    refine (u_eq_IntS ((hallR xss).1) _ _ _ O11.out.rd O6.out.rd (hallR_bd xss)).mono ?_
    rintro e w12 ⟨rfl, hx⟩
    have szw12 := hx.size
    replace X := hd (X.out.trans hx)
    replace O6 := hd (O6.out.ext hx)
    replace O8 := hd (O8.out.ext hx)
    replace O11 := hd (O11.out.ext hx)
    clear hx
    go_wp2_with fail
    refine (u_to_IntSS xss _ _ (HAxss.out.ext X.out) bxss.out).mono ?_
    rintro e w13 ⟨u, rfl, hu, hx⟩
    have szw13 := hx.size
    replace X := hd (X.out.trans hx)
    replace O6 := hd (O6.out.ext hx)
    replace O8 := hd (O8.out.ext hx)
    replace O11 := hd (O11.out.ext hx)
    have O14 := hd hu
    clear hx hu
    go_wp2_with fail
    refine (u_eq_IntSS xss _ _ _ O8.out.rd O14.out.rd bxss.out).mono ?_
    rintro e w15 ⟨rfl, hx⟩
    have szw15 := hx.size
    replace X := hd (X.out.trans hx)
    replace O6 := hd (O6.out.ext hx)
    replace O8 := hd (O8.out.ext hx)
    replace O11 := hd (O11.out.ext hx)
    replace O14 := hd (O14.out.ext hx)
    clear hx
    have lnO8 := len_IntSS_bd bxss.out
    go_wp2_with fail
    refine (u_mark_IntSS xss _ _ _ _ _ O8.out (by omega) bxss.out (by omega) (by omega)).mono ?_
    rintro e w16 ⟨rfl, hm, ht⟩
    clear O8
    have szw16 := ht.size
    replace X := hd (touch_ext X.out ht (by omega))
    replace O6 := hd (O6.out.touch ht (by omega))
    replace O11 := hd (O11.out.touch ht (by omega))
    replace O14 := hd (O14.out.touch ht (by omega))
    clear hm ht
    go_wp2_with fail
    refine (u_eq_IntS ((hallR xss).1) _ _ _ O11.out.rd O6.out.rd (hallR_bd xss)).mono ?_
    rintro e w18 ⟨rfl, hx⟩
    have szw18 := hx.size
    replace X := hd (X.out.trans hx)
    replace O6 := hd (O6.out.ext hx)
    replace O11 := hd (O11.out.ext hx)
    replace O14 := hd (O14.out.ext hx)
    clear hx
    have lnO11 := len_IntS_bd (hallR_bd xss)
    go_wp2_with fail
    refine (u_mark_IntS ((hallR xss).1) _ _ _ _ _ O11.out (by omega) (hallR_bd xss) (by omega) (by omega)).mono ?_
    rintro e w19 ⟨rfl, hm, ht⟩
    clear O11
    have szw19 := ht.size
    replace X := hd (touch_ext X.out ht (by omega))
    replace O6 := hd (O6.out.touch ht (by omega))
    replace O14 := hd (O14.out.touch ht (by omega))
    have M20 := hd hm
    clear hm ht
    go_wp2_with fail
    refine (u_held_IntS ((hallR xss).1) _ _ _ M20.out (hallR_bd xss) (by omega) (by omega)).mono ?_
    rintro e w21 ⟨rfl, hx⟩
    have szw21 := hx.size
    replace X := hd (X.out.trans hx)
    replace O6 := hd (O6.out.ext hx)
    replace O14 := hd (O14.out.ext hx)
    replace M20 := hd (M20.out.ext hx)
    clear hx
    go_wp2_with fail
    refine (u_to_IntSS xss _ _ (HAxss.out.ext X.out) bxss.out).mono ?_
    rintro e w22 ⟨u, rfl, hu, hx⟩
    have szw22 := hx.size
    replace X := hd (X.out.trans hx)
    replace O6 := hd (O6.out.ext hx)
    replace O14 := hd (O14.out.ext hx)
    replace M20 := hd (M20.out.ext hx)
    have O23 := hd hu
    clear hx hu
    go_wp2_with fail
    refine (i_HallSet xss _ _ O23.out.rd bxss.out HIxss.out).mono ?_
    rintro e w25 ⟨u0, rfl, hu0, hx⟩
    have szw25 := hx.size
    replace X := hd (X.out.trans hx)
    replace O6 := hd (O6.out.ext hx)
    replace O14 := hd (O14.out.ext hx)
    replace M20 := hd (M20.out.ext hx)
    replace O23 := hd (O23.out.ext hx)
    have O26 := hd hu0
    clear hx hu0
    clear O23
    go_wp2_with fail
    refine (u_eq_IntS ((hallR xss).1) _ _ _ O26.out.rd O6.out.rd (hallR_bd xss)).mono ?_
    rintro e w27 ⟨rfl, hx⟩
    have szw27 := hx.size
    replace X := hd (X.out.trans hx)
    replace O6 := hd (O6.out.ext hx)
    replace O14 := hd (O14.out.ext hx)
    replace M20 := hd (M20.out.ext hx)
    replace O26 := hd (O26.out.ext hx)
    clear hx
    go_wp2_with fail
    refine (u_held_IntS ((hallR xss).1) _ _ _ M20.out (hallR_bd xss) (by omega) (by omega)).mono ?_
    rintro e w28 ⟨rfl, hx⟩
    have szw28 := hx.size
    replace X := hd (X.out.trans hx)
    replace O6 := hd (O6.out.ext hx)
    replace O14 := hd (O14.out.ext hx)
    replace M20 := hd (M20.out.ext hx)
    replace O26 := hd (O26.out.ext hx)
    clear hx
    go_wp2
    go_ret
    exact RetT.mk rfl X.out
end Go.Proofs.Ytjeeffmpfdhppaa
