/-
  FnExactIsHallSet: the walk: for all arguments the law returns true. No condition.
-/
import Derived.Test.YtkcljofjkmhopaaLaw
import Derived.Test.YtkcljofjkmhopaaFrame
import Derived.Test.YtkcljofjkmhopaaHall2
namespace Go.Proofs.Ytkcljofjkmhopaa
open Go.RowKit
set_option maxRecDepth 100000 in
set_option maxHeartbeats 3200000 in
theorem w_FnExactIsHallSet (w : World) (xss : List (List Int)) (vxss : Value) (hxss : Rd_IntSS w vxss xss) (hixss : I64_IntSS xss) (sm : List Int) (vsm : Value) (hsm : Rd_IntS w vsm sm) (hism : I64_IntS sm) :
    Calls Try.prog 8 #[vxss, vsm] w (RetT w) := by
  have HIxss := hd hixss; clear hixss
  have HAxss := hd hxss
  obtain ⟨Axss, cxss, rfl, h1xss, h2xss, -⟩ := hxss.form; unfold maxLen at h2xss
  clear hxss
  have HIsm := hd hism; clear hism
  have HAsm := hd hsm
  obtain ⟨Asm, csm, rfl, h1sm, h2sm, -⟩ := hsm.form; unfold maxLen at h2sm
  clear hsm
  have hbz0 := sz_IntSS_bd xss 1048576 (by omega)
  generalize hz : sz_IntSS xss 1048576 = z0 at *
  have Hz0 := hd hz; clear hz
  have X := hd (Ext.refl w)
  go_enter Try.func8, Try.ntmps8
  by_cases hbigsm : 1048576 < sm.length
  · go_wp2
    go_ret
    exact RetT.mk rfl X.out
  ·
    have bsm : Hid (Bd_IntS sm) := hd (Nat.le_of_not_lt hbigsm)
    go_wp2_with fail
    refine (u_sz_IntSS xss _ _ _ (HAxss.out.ext X.out) (by omega) (by omega)).mono ?_
    rintro e w1 ⟨rfl, hx⟩
    rw [Hz0.out]
    have szw1 := hx.size
    replace X := hd (X.out.trans hx)
    clear hx
    by_cases hneg0 : z0 < 0
    · go_wp2
      go_ret
      exact RetT.mk rfl X.out
    ·
      have bxss : Hid (Bd_IntSS xss) := hd (sz_IntSS_ok (by rw [Hz0.out]; exact hneg0) (by omega))
      go_wp2_with fail
      refine (u_to_IntSS xss _ _ (HAxss.out.ext X.out) bxss.out).mono ?_
      rintro e w2 ⟨u, rfl, hu, hx⟩
      have szw2 := hx.size
      replace X := hd (X.out.trans hx)
      have O3 := hd hu
      clear hx hu
      go_wp2_with fail
      refine (u_to_IntS sm _ _ (HAsm.out.ext X.out) bsm.out).mono ?_
      rintro e w4 ⟨u, rfl, hu, hx⟩
      have szw4 := hx.size
      replace X := hd (X.out.trans hx)
      replace O3 := hd (O3.out.ext hx)
      have O5 := hd hu
      clear hx hu
      go_wp2_with fail
      refine (s_IsHallSet xss _ sm _ _ O3.out.rd bxss.out HIxss.out O5.out.rd bsm.out HIsm.out).mono ?_
      rintro e w7 ⟨rfl, hx⟩
      have szw7 := hx.size
      replace X := hd (X.out.trans hx)
      replace O3 := hd (O3.out.ext hx)
      replace O5 := hd (O5.out.ext hx)
      clear hx
      clear O3
      clear O5
      go_wp2_with fail
      refine (u_to_IntSS xss _ _ (HAxss.out.ext X.out) bxss.out).mono ?_
      rintro e w8 ⟨u, rfl, hu, hx⟩
      have szw8 := hx.size
      replace X := hd (X.out.trans hx)
      have O9 := hd hu
      clear hx hu
      go_wp2_with fail
      refine (u_to_IntS sm _ _ (HAsm.out.ext X.out) bsm.out).mono ?_
      rintro e w10 ⟨u, rfl, hu, hx⟩
      have szw10 := hx.size
      replace X := hd (X.out.trans hx)
      replace O9 := hd (O9.out.ext hx)
      have O11 := hd hu
      clear hx hu
      go_wp2_with fail
      refine (i_IsHallSet xss _ sm _ _ O9.out.rd bxss.out HIxss.out O11.out.rd bsm.out HIsm.out).mono ?_
      rintro e w13 ⟨rfl, hx⟩
      have szw13 := hx.size
      replace X := hd (X.out.trans hx)
      replace O9 := hd (O9.out.ext hx)
      replace O11 := hd (O11.out.ext hx)
      clear hx
      go_wp2_with fail
      refine (u_to_IntSS xss _ _ (HAxss.out.ext X.out) bxss.out).mono ?_
      rintro e w14 ⟨u, rfl, hu, hx⟩
      have szw14 := hx.size
      replace X := hd (X.out.trans hx)
      replace O9 := hd (O9.out.ext hx)
      replace O11 := hd (O11.out.ext hx)
      have O15 := hd hu
      clear hx hu
      go_wp2_with fail
      refine (u_eq_IntSS xss _ _ _ O9.out.rd O15.out.rd bxss.out).mono ?_
      rintro e w16 ⟨rfl, hx⟩
      have szw16 := hx.size
      replace X := hd (X.out.trans hx)
      replace O9 := hd (O9.out.ext hx)
      replace O11 := hd (O11.out.ext hx)
      replace O15 := hd (O15.out.ext hx)
      clear hx
      go_wp2_with fail
      refine (u_to_IntS sm _ _ (HAsm.out.ext X.out) bsm.out).mono ?_
      rintro e w17 ⟨u, rfl, hu, hx⟩
      have szw17 := hx.size
      replace X := hd (X.out.trans hx)
      replace O9 := hd (O9.out.ext hx)
      replace O11 := hd (O11.out.ext hx)
      replace O15 := hd (O15.out.ext hx)
      have O18 := hd hu
      clear hx hu
      go_wp2_with fail
      refine (u_eq_IntS sm _ _ _ O11.out.rd O18.out.rd bsm.out).mono ?_
      rintro e w19 ⟨rfl, hx⟩
      have szw19 := hx.size
      replace X := hd (X.out.trans hx)
      replace O9 := hd (O9.out.ext hx)
      replace O11 := hd (O11.out.ext hx)
      replace O15 := hd (O15.out.ext hx)
      replace O18 := hd (O18.out.ext hx)
      clear hx
      go_wp2
      go_ret
      exact RetT.mk rfl X.out
end Go.Proofs.Ytkcljofjkmhopaa
