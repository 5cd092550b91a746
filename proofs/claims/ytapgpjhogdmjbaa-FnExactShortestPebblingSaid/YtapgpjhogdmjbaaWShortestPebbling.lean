/-
  FnExactShortestPebbling: the walk: for all arguments the law returns true. No condition.
-/
import Derived.Test.YtapgpjhogdmjbaaLaw
import Derived.Test.YtapgpjhogdmjbaaFrame
import Derived.Test.YtapgpjhogdmjbaaFrameD
import Derived.Test.YtapgpjhogdmjbaaPebZ
namespace Go.Proofs.Ytapgpjhogdmjbaa
open Go.RowKit
set_option maxRecDepth 100000 in
set_option maxHeartbeats 3200000 in
theorem w_FnExactShortestPebbling (w : World) (g : List (List Int)) (vg : Value) (hg : Rd_Dag w vg g) (hig : I64_Dag g) (s : Int) (hs : I64 s) :
    Calls Try.prog 6 #[vg, .int .i64 s] w (RetT w) := by
  have HIg := hd hig; clear hig
  have HAg := hd hg
  obtain ⟨Ag, cg, rfl⟩ := hg.form
  clear hg
  have HIs := hd hs; clear hs
  have hbz0 := sz_Dag_bd g 1048576 (by omega)
  generalize hz : sz_Dag g 1048576 = z0 at *
  have Hz0 := hd hz; clear hz
  have X := hd (Ext.refl w)
  replace X := hd (X.out.alloc (.cells #[.slice Ag g.length cg] 24))
  have B1 := hd (blk_new (w := w) (.cells #[.slice Ag g.length cg] 24) rfl)
  have sB1 : w.heap.size < (w.alloc (.cells #[.slice Ag g.length cg] 24)).heap.size := by simp
  go_enter Try.func6, Try.ntmps6
  have kB1_0 := blk1 B1.out
  go_wp2_with fail
  refine (u_sz_Dag g _ _ _ (HAg.out.ext X.out) (by omega) (by omega)).mono ?_
  rintro e w2 ⟨rfl, hx⟩
  rw [Hz0.out]
  have szw2 := hx.size
  replace X := hd (X.out.trans hx)
  replace B1 := hd (hx.heap B1.out)
  clear hx kB1_0
  by_cases hneg0 : z0 < 0
  · go_wp2
    go_ret
    exact RetT.mk rfl X.out
  ·
    have bg : Hid (Bd_Dag g) := hd (sz_Dag_ok (by rw [Hz0.out]; exact hneg0) (by omega))
    have kB1_0 := blk1 B1.out
    go_wp2_with fail
    refine (u_to_Dag g _ _ (HAg.out.ext X.out) bg.out).mono ?_
    rintro e w3 ⟨u, rfl, hu, hx⟩
    have szw3 := hx.size
    replace X := hd (X.out.trans hx)
    replace B1 := hd (hx.heap B1.out)
    obtain ⟨At4, ct4, rfl, O4⟩ := hu.form
    clear hx hu kB1_0
    go_wp2_with fail
    refine (s_ShortestPebbling g _ s _ O4.out.rd bg.out HIg.out HIs.out).mono ?_
    rintro e w6 ⟨u0, rfl, hu0, hx⟩
    have szw6 := hx.size
    replace X := hd (X.out.trans hx)
    replace B1 := hd (hx.heap B1.out)
    replace O4 := hd (O4.out.ext hx)
    have O7 := hd hu0
    clear hx hu0
    clear O4
    have kB1_0 := blk1 B1.out
    go_wp2_with fail
    refine (u_to_Dag g _ _ (HAg.out.ext X.out) bg.out).mono ?_
    rintro e w8 ⟨u, rfl, hu, hx⟩
    have szw8 := hx.size
    replace X := hd (X.out.trans hx)
    replace B1 := hd (hx.heap B1.out)
    replace O7 := hd (O7.out.ext hx)
    obtain ⟨At9, ct9, rfl, O9⟩ := hu.form
    clear hx hu kB1_0
    replace X := hd (X.out.alloc (.cells #[.slice At9 g.length ct9] 28))
    replace B1 := hd (blk_old (o' := .cells #[.slice At9 g.length ct9] 28) B1.out)
    replace O7 := hd (O7.out.ext (Ext.new w8 (.cells #[.slice At9 g.length ct9] 28)))
    replace O9 := hd (O9.out.ext (Ext.new w8 (.cells #[.slice At9 g.length ct9] 28)))
    have B10 := hd (blk_new (w := w8) (.cells #[.slice At9 g.length ct9] 28) rfl)
    have sB10 : w8.heap.size < (w8.alloc (.cells #[.slice At9 g.length ct9] 28)).heap.size := by simp
    have kB10_0 := blk1 B10.out
    go_wp2_with fail
    refine (i_ShortestPebbling g _ s _ O9.out.rd bg.out HIg.out HIs.out).mono ?_
    rintro e w12 ⟨u0, rfl, hu0, hx⟩
    have szw12 := hx.size
    replace X := hd (X.out.trans hx)
    replace B1 := hd (hx.heap B1.out)
    replace O7 := hd (O7.out.ext hx)
    replace O9 := hd (O9.out.ext hx)
    replace B10 := hd (hx.heap B10.out)
    have O13 := hd hu0
    clear hx hu0 kB10_0
    go_wp2_with fail
    refine (u_eq_PebbleMoveS (shoL g s) _ _ _ O13.out.rd O7.out.rd (shoL_bd g s)).mono ?_
    rintro e w14 ⟨rfl, hx⟩
    have szw14 := hx.size
    replace X := hd (X.out.trans hx)
    replace B1 := hd (hx.heap B1.out)
    replace O7 := hd (O7.out.ext hx)
    replace O9 := hd (O9.out.ext hx)
    replace B10 := hd (hx.heap B10.out)
    replace O13 := hd (O13.out.ext hx)
    clear hx
    have kB10_0 := blk1 B10.out
    have kB1_0 := blk1 B1.out
    go_wp2_with fail
    go_region_held3 (fun w' => (w'.cell? ⟨w8.heap.size, 0, none⟩ = some (.slice At9 g.length ct9) ∧ w'.cell? ⟨w.heap.size, 0, none⟩ = some (.slice Ag g.length cg)) ∧ Ext w14 w')
      ((refine ⟨⟨Ext.cell ?_ kB10_0, Ext.cell ?_ kB1_0⟩, ?_⟩ <;> (first | assumption | exact Ext.refl _ | exact (Ext.refl _).drew)))
      (first
        | (go_at_call 9; refine (u_to_Dag g _ _ (HAg.out.ext (X.out.trans ((Ext.refl _).drew))) bg.out).mono ?_; rintro e wt ⟨ut, rfl, hut, hxt⟩; have Yt : Ext w14 wt := ((Ext.refl _).drew).trans hxt)
        | (go_at_call 11; refine (u_eq_Dag g _ _ _ (O9.out.ext Yt).rd hut.rd bg.out).mono ?_; rintro e w16 ⟨rfl, hxe⟩; have hx : Ext w14 w16 := Yt.trans hxe))
    have szw16 := hx.size
    replace X := hd (X.out.trans hx)
    replace B1 := hd (hx.heap B1.out)
    replace O7 := hd (O7.out.ext hx)
    replace O9 := hd (O9.out.ext hx)
    replace B10 := hd (hx.heap B10.out)
    replace O13 := hd (O13.out.ext hx)
    clear hx hxe Yt hxt hut kB10_0 kB1_0
    have lnO9 := len_Dag_bd bg.out
    have kB10_0 := blk1 B10.out
    go_wp2_with fail
    refine (u_mark_Dag g _ _ _ _ _ O9.out (by omega) bg.out (by omega) (by omega)).mono ?_
    rintro e w17 ⟨rfl, hm, ht⟩
    clear O9
    have szw17 := ht.size
    replace X := hd (touch_ext X.out ht (by omega))
    replace B1 := hd (touch_blk' ht B1.out (by omega))
    replace O7 := hd (O7.out.touch ht (by omega))
    replace B10 := hd (touch_blk' ht B10.out (by omega))
    replace O13 := hd (O13.out.touch ht (by omega))
    clear hm ht kB10_0
    go_wp2_with fail
    refine (u_eq_PebbleMoveS (shoL g s) _ _ _ O13.out.rd O7.out.rd (shoL_bd g s)).mono ?_
    rintro e w19 ⟨rfl, hx⟩
    have szw19 := hx.size
    replace X := hd (X.out.trans hx)
    replace B1 := hd (hx.heap B1.out)
    replace O7 := hd (O7.out.ext hx)
    replace B10 := hd (hx.heap B10.out)
    replace O13 := hd (O13.out.ext hx)
    clear hx
    have lnO13 := len_PebbleMoveS_bd (shoL_bd g s)
    go_wp2_with fail
    refine (u_mark_PebbleMoveS (shoL g s) _ _ _ _ _ O13.out (by omega) (shoL_bd g s) (by omega) (by omega)).mono ?_
    rintro e w20 ⟨rfl, hm, ht⟩
    clear O13
    have szw20 := ht.size
    replace X := hd (touch_ext X.out ht (by omega))
    replace B1 := hd (touch_blk' ht B1.out (by omega))
    replace O7 := hd (O7.out.touch ht (by omega))
    replace B10 := hd (touch_blk' ht B10.out (by omega))
    have M21 := hd hm
    clear hm ht
    go_wp2_with fail
    refine (u_held_PebbleMoveS (shoL g s) _ _ _ M21.out (shoL_bd g s) (by omega) (by omega)).mono ?_
    rintro e w22 ⟨rfl, hx⟩
    have szw22 := hx.size
    replace X := hd (X.out.trans hx)
    replace B1 := hd (hx.heap B1.out)
    replace O7 := hd (O7.out.ext hx)
    replace B10 := hd (hx.heap B10.out)
    replace M21 := hd (M21.out.ext hx)
    clear hx
    have kB1_0 := blk1 B1.out
    go_wp2_with fail
    refine (u_to_Dag g _ _ (HAg.out.ext X.out) bg.out).mono ?_
    rintro e w23 ⟨u, rfl, hu, hx⟩
    have szw23 := hx.size
    replace X := hd (X.out.trans hx)
    replace B1 := hd (hx.heap B1.out)
    replace O7 := hd (O7.out.ext hx)
    replace B10 := hd (hx.heap B10.out)
    replace M21 := hd (M21.out.ext hx)
    obtain ⟨At24, ct24, rfl, O24⟩ := hu.form
    clear hx hu kB1_0
    go_wp2_with fail
    refine (i_ShortestPebbling g _ s _ O24.out.rd bg.out HIg.out HIs.out).mono ?_
    rintro e w26 ⟨u0, rfl, hu0, hx⟩
    have szw26 := hx.size
    replace X := hd (X.out.trans hx)
    replace B1 := hd (hx.heap B1.out)
    replace O7 := hd (O7.out.ext hx)
    replace B10 := hd (hx.heap B10.out)
    replace M21 := hd (M21.out.ext hx)
    replace O24 := hd (O24.out.ext hx)
    have O27 := hd hu0
    clear hx hu0
    clear O24
    go_wp2_with fail
    refine (u_eq_PebbleMoveS (shoL g s) _ _ _ O27.out.rd O7.out.rd (shoL_bd g s)).mono ?_
    rintro e w28 ⟨rfl, hx⟩
    have szw28 := hx.size
    replace X := hd (X.out.trans hx)
    replace B1 := hd (hx.heap B1.out)
    replace O7 := hd (O7.out.ext hx)
    replace B10 := hd (hx.heap B10.out)
    replace M21 := hd (M21.out.ext hx)
    replace O27 := hd (O27.out.ext hx)
    clear hx
    go_wp2_with fail
    refine (u_held_PebbleMoveS (shoL g s) _ _ _ M21.out (shoL_bd g s) (by omega) (by omega)).mono ?_
    rintro e w29 ⟨rfl, hx⟩
    have szw29 := hx.size
    replace X := hd (X.out.trans hx)
    replace B1 := hd (hx.heap B1.out)
    replace O7 := hd (O7.out.ext hx)
    replace B10 := hd (hx.heap B10.out)
    replace M21 := hd (M21.out.ext hx)
    replace O27 := hd (O27.out.ext hx)
    clear hx
    go_wp2
    go_ret
    exact RetT.mk rfl X.out
end Go.Proofs.Ytapgpjhogdmjbaa
