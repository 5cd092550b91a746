/-
  FnExactDischarge: the walk: for all arguments the law returns true. No condition.
-/
import Derived.Test.YtapgpjhogdmjbaaDoorLaw
import Derived.Test.YtapgpjhogdmjbaaDoorFrame
import Derived.Test.YtapgpjhogdmjbaaDoorFrgY
import Derived.Test.YtapgpjhogdmjbaaDoorFrgO
namespace Go.Proofs.YtapgpjhogdmjbaaDoor
open Go.RowKit
set_option maxRecDepth 100000 in
set_option maxHeartbeats 3200000 in
theorem w_FnExactDischarge (w : World) (hg : GlobS w) (gs : List (List UInt8)) (vgs : Value) (hgs : Rd_StringS w vgs gs) (higs : I64_StringS gs) (rs : List Rec) (vrs : Value) (hrs : Rd_FregeStepS w vrs rs) (hirs : I64_FregeStepS rs) (i : Int) (hi : I64 i) :
    Calls Tryd.prog 3 #[vgs, vrs, .int .i64 i] w (RetT w) := by
  have HIgs := hd higs; clear higs
  have HAgs := hd hgs
  obtain ⟨Ags, cgs, rfl, h1gs, h2gs, -⟩ := hgs.form; unfold maxLen at h2gs
  clear hgs
  have HIrs := hd hirs; clear hirs
  have HArs := hd hrs
  obtain ⟨Ars, crs, rfl, h1rs, h2rs, -⟩ := hrs.form; unfold maxLen at h2rs
  clear hrs
  have HIi := hd hi; clear hi
  have hbz0 := sz_StringS_bd gs 1048576 (by omega)
  generalize hz : sz_StringS gs 1048576 = z0 at *
  have Hz0 := hd hz; clear hz
  have hbz1 := sz_FregeStepS_bd rs z0 (by omega)
  generalize hz : sz_FregeStepS rs z0 = z1 at *
  have Hz1 := hd hz; clear hz
  have X := hd (Ext.refl w)
  have HG := hd hg
  clear hg
  go_enter Tryd.func3, Tryd.ntmps3
  go_wp2_with fail
  refine (u_sz_StringS gs _ _ _ (HAgs.out.ext X.out) HIgs (by omega) (by omega)).mono ?_
  rintro e w1 ⟨rfl, hx⟩
  rw [Hz0.out]
  have szw1 := hx.size
  replace X := hd (X.out.trans hx)
  clear hx
  by_cases hneg0 : z0 < 0
  · go_wp2
    go_ret
    exact RetT.mk rfl X.out
  ·
    have bgs : Hid (Bd_StringS gs) := hd (sz_StringS_ok (by rw [Hz0.out]; exact hneg0) (by omega))
    go_wp2_with fail
    refine (u_sz_FregeStepS rs _ _ _ (HArs.out.ext X.out) (by omega) (by omega)).mono ?_
    rintro e w2 ⟨rfl, hx⟩
    rw [Hz1.out]
    have szw2 := hx.size
    replace X := hd (X.out.trans hx)
    clear hx
    by_cases hneg1 : z1 < 0
    · go_wp2
      go_ret
      exact RetT.mk rfl X.out
    ·
      have brs : Hid (Bd_FregeStepS rs) := hd (sz_FregeStepS_ok (by rw [Hz1.out]; exact hneg1) (by omega))
      go_wp2_with fail
      refine (u_to_StringS gs _ _ (HAgs.out.ext X.out) bgs.out).mono ?_
      rintro e w3 ⟨u, rfl, hu, hx⟩
      have szw3 := hx.size
      replace X := hd (X.out.trans hx)
      have O4 := hd hu
      clear hx hu
      go_wp2_with fail
      refine (u_to_FregeStepS rs _ _ (HArs.out.ext X.out) brs.out).mono ?_
      rintro e w5 ⟨u, rfl, hu, hx⟩
      have szw5 := hx.size
      replace X := hd (X.out.trans hx)
      replace O4 := hd (O4.out.ext hx)
      have O6 := hd hu
      clear hx hu
      go_wp2_with fail
      refine (s_Discharge gs _ rs _ i _ O4.out.rd bgs.out HIgs.out O6.out.rd brs.out HIrs.out HIi.out).mono ?_
      rintro e w8 ⟨u0, rfl, hu0, hx⟩
      have szw8 := hx.size
      replace X := hd (X.out.trans hx)
      replace O4 := hd (O4.out.ext hx)
      replace O6 := hd (O6.out.ext hx)
      have O9 := hd hu0
      clear hx hu0
      clear O4
      clear O6
      go_wp2_with fail
      refine (u_to_StringS gs _ _ (HAgs.out.ext X.out) bgs.out).mono ?_
      rintro e w10 ⟨u, rfl, hu, hx⟩
      have szw10 := hx.size
      replace X := hd (X.out.trans hx)
      replace O9 := hd (O9.out.ext hx)
      have O11 := hd hu
      clear hx hu
      go_wp2_with fail
      refine (u_to_FregeStepS rs _ _ (HArs.out.ext X.out) brs.out).mono ?_
      rintro e w12 ⟨u, rfl, hu, hx⟩
      have szw12 := hx.size
      replace X := hd (X.out.trans hx)
      replace O9 := hd (O9.out.ext hx)
      replace O11 := hd (O11.out.ext hx)
      have O13 := hd hu
      clear hx hu
      go_wp2_with fail
      refine (i_Discharge gs _ rs _ i _ (HG.out.ext X.out) O11.out.rd bgs.out HIgs.out O13.out.rd brs.out HIrs.out HIi.out).mono ?_
      rintro e w15 ⟨u0, rfl, hu0, hx⟩
      have szw15 := hx.size
      replace X := hd (X.out.trans hx)
      replace O9 := hd (O9.out.ext hx)
      replace O11 := hd (O11.out.ext hx)
      replace O13 := hd (O13.out.ext hx)
      have O16 := hd hu0
      clear hx hu0
      go_wp2_with fail
      refine (u_eq_FregeStepS (disV gs rs i) _ _ _ O16.out.rd O9.out.rd (disV_bd gs rs i)).mono ?_
      rintro e w17 ⟨rfl, hx⟩
      have szw17 := hx.size
      replace X := hd (X.out.trans hx)
      replace O9 := hd (O9.out.ext hx)
      replace O11 := hd (O11.out.ext hx)
      replace O13 := hd (O13.out.ext hx)
      replace O16 := hd (O16.out.ext hx)
      clear hx
      go_wp2_with fail
      refine (u_to_StringS gs _ _ (HAgs.out.ext X.out) bgs.out).mono ?_
      rintro e w18 ⟨u, rfl, hu, hx⟩
      have szw18 := hx.size
      replace X := hd (X.out.trans hx)
      replace O9 := hd (O9.out.ext hx)
      replace O11 := hd (O11.out.ext hx)
      replace O13 := hd (O13.out.ext hx)
      replace O16 := hd (O16.out.ext hx)
      have O19 := hd hu
      clear hx hu
      go_wp2_with fail
      refine (u_eq_StringS gs _ _ _ O11.out.rd O19.out.rd bgs.out).mono ?_
      rintro e w20 ⟨rfl, hx⟩
      have szw20 := hx.size
      replace X := hd (X.out.trans hx)
      replace O9 := hd (O9.out.ext hx)
      replace O11 := hd (O11.out.ext hx)
      replace O13 := hd (O13.out.ext hx)
      replace O16 := hd (O16.out.ext hx)
      replace O19 := hd (O19.out.ext hx)
      clear hx
      go_wp2_with fail
      refine (u_to_FregeStepS rs _ _ (HArs.out.ext X.out) brs.out).mono ?_
      rintro e w21 ⟨u, rfl, hu, hx⟩
      have szw21 := hx.size
      replace X := hd (X.out.trans hx)
      replace O9 := hd (O9.out.ext hx)
      replace O11 := hd (O11.out.ext hx)
      replace O13 := hd (O13.out.ext hx)
      replace O16 := hd (O16.out.ext hx)
      replace O19 := hd (O19.out.ext hx)
      have O22 := hd hu
      clear hx hu
      go_wp2_with fail
      refine (u_eq_FregeStepS rs _ _ _ O13.out.rd O22.out.rd brs.out).mono ?_
      rintro e w23 ⟨rfl, hx⟩
      have szw23 := hx.size
      replace X := hd (X.out.trans hx)
      replace O9 := hd (O9.out.ext hx)
      replace O11 := hd (O11.out.ext hx)
      replace O13 := hd (O13.out.ext hx)
      replace O16 := hd (O16.out.ext hx)
      replace O19 := hd (O19.out.ext hx)
      replace O22 := hd (O22.out.ext hx)
      clear hx
      have lnO11 := len_StringS_bd bgs.out
      go_wp2_with fail
      refine (u_mark_StringS gs _ _ _ _ _ O11.out (by omega) bgs.out (by omega) (by omega)).mono ?_
      rintro e w24 ⟨rfl, hm, ht⟩
      clear O11
      have szw24 := ht.size
      replace X := hd (touch_ext X.out ht (by omega))
      replace O9 := hd (O9.out.touch ht (by omega))
      replace O13 := hd (O13.out.touch ht (by omega))
      replace O16 := hd (O16.out.touch ht (by omega))
      replace O19 := hd (O19.out.touch ht (by omega))
      replace O22 := hd (O22.out.touch ht (by omega))
      clear hm ht
      have lnO13 := len_FregeStepS_bd brs.out
      go_wp2_with fail
      refine (u_mark_FregeStepS rs _ _ _ _ _ O13.out (by omega) brs.out (by omega) (by omega)).mono ?_
      rintro e w26 ⟨rfl, hm, ht⟩
      clear O13
      have szw26 := ht.size
      replace X := hd (touch_ext X.out ht (by omega))
      replace O9 := hd (O9.out.touch ht (by omega))
      replace O16 := hd (O16.out.touch ht (by omega))
      replace O19 := hd (O19.out.touch ht (by omega))
      replace O22 := hd (O22.out.touch ht (by omega))
      clear hm ht
      go_wp2_with fail
      refine (u_eq_FregeStepS (disV gs rs i) _ _ _ O16.out.rd O9.out.rd (disV_bd gs rs i)).mono ?_
      rintro e w28 ⟨rfl, hx⟩
      have szw28 := hx.size
      replace X := hd (X.out.trans hx)
      replace O9 := hd (O9.out.ext hx)
      replace O16 := hd (O16.out.ext hx)
      replace O19 := hd (O19.out.ext hx)
      replace O22 := hd (O22.out.ext hx)
      clear hx
      have lnO16 := len_FregeStepS_bd (disV_bd gs rs i)
      go_wp2_with fail
      refine (u_mark_FregeStepS (disV gs rs i) _ _ _ _ _ O16.out (by omega) (disV_bd gs rs i) (by omega) (by omega)).mono ?_
      rintro e w29 ⟨rfl, hm, ht⟩
      clear O16
      have szw29 := ht.size
      replace X := hd (touch_ext X.out ht (by omega))
      replace O9 := hd (O9.out.touch ht (by omega))
      replace O19 := hd (O19.out.touch ht (by omega))
      replace O22 := hd (O22.out.touch ht (by omega))
      have M30 := hd hm
      clear hm ht
      go_wp2_with fail
      refine (u_held_FregeStepS (disV gs rs i) _ _ _ M30.out (disV_bd gs rs i) (by omega) (by omega)).mono ?_
      rintro e w31 ⟨rfl, hx⟩
      have szw31 := hx.size
      replace X := hd (X.out.trans hx)
      replace O9 := hd (O9.out.ext hx)
      replace O19 := hd (O19.out.ext hx)
      replace O22 := hd (O22.out.ext hx)
      replace M30 := hd (M30.out.ext hx)
      clear hx
      go_wp2_with fail
      refine (u_to_StringS gs _ _ (HAgs.out.ext X.out) bgs.out).mono ?_
      rintro e w32 ⟨u, rfl, hu, hx⟩
      have szw32 := hx.size
      replace X := hd (X.out.trans hx)
      replace O9 := hd (O9.out.ext hx)
      replace O19 := hd (O19.out.ext hx)
      replace O22 := hd (O22.out.ext hx)
      replace M30 := hd (M30.out.ext hx)
      have O33 := hd hu
      clear hx hu
      go_wp2_with fail
      refine (u_to_FregeStepS rs _ _ (HArs.out.ext X.out) brs.out).mono ?_
      rintro e w34 ⟨u, rfl, hu, hx⟩
      have szw34 := hx.size
      replace X := hd (X.out.trans hx)
      replace O9 := hd (O9.out.ext hx)
      replace O19 := hd (O19.out.ext hx)
      replace O22 := hd (O22.out.ext hx)
      replace M30 := hd (M30.out.ext hx)
      replace O33 := hd (O33.out.ext hx)
      have O35 := hd hu
      clear hx hu
      go_wp2_with fail
      refine (i_Discharge gs _ rs _ i _ (HG.out.ext X.out) O33.out.rd bgs.out HIgs.out O35.out.rd brs.out HIrs.out HIi.out).mono ?_
      rintro e w37 ⟨u0, rfl, hu0, hx⟩
      have szw37 := hx.size
      replace X := hd (X.out.trans hx)
      replace O9 := hd (O9.out.ext hx)
      replace O19 := hd (O19.out.ext hx)
      replace O22 := hd (O22.out.ext hx)
      replace M30 := hd (M30.out.ext hx)
      replace O33 := hd (O33.out.ext hx)
      replace O35 := hd (O35.out.ext hx)
      have O38 := hd hu0
      clear hx hu0
      clear O33
      clear O35
      go_wp2_with fail
      refine (u_eq_FregeStepS (disV gs rs i) _ _ _ O38.out.rd O9.out.rd (disV_bd gs rs i)).mono ?_
      rintro e w39 ⟨rfl, hx⟩
      have szw39 := hx.size
      replace X := hd (X.out.trans hx)
      replace O9 := hd (O9.out.ext hx)
      replace O19 := hd (O19.out.ext hx)
      replace O22 := hd (O22.out.ext hx)
      replace M30 := hd (M30.out.ext hx)
      replace O38 := hd (O38.out.ext hx)
      clear hx
      go_wp2_with fail
      refine (u_held_FregeStepS (disV gs rs i) _ _ _ M30.out (disV_bd gs rs i) (by omega) (by omega)).mono ?_
      rintro e w40 ⟨rfl, hx⟩
      have szw40 := hx.size
      replace X := hd (X.out.trans hx)
      replace O9 := hd (O9.out.ext hx)
      replace O19 := hd (O19.out.ext hx)
      replace O22 := hd (O22.out.ext hx)
      replace M30 := hd (M30.out.ext hx)
      replace O38 := hd (O38.out.ext hx)
      clear hx
      go_wp2
      go_ret
      exact RetT.mk rfl X.out
end Go.Proofs.YtapgpjhogdmjbaaDoor
