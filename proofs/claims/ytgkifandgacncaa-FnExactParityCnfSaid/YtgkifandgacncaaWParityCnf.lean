/-
  FnExactParityCnf: the walk: for all arguments the law returns true. No condition.
-/
import Derived.Test.YtgkifandgacncaaLaw
import Derived.Test.YtgkifandgacncaaFrame
import Derived.Test.YtgkifandgacncaaFrameC
import Derived.Test.YtgkifandgacncaaLawC
import Derived.Test.YtgkifandgacncaaParJ
namespace Go.Proofs.Ytgkifandgacncaa
open Go.RowKit
set_option maxRecDepth 100000 in
set_option maxHeartbeats 3200000 in
theorem w_FnExactParityCnf (w : World) (g : Chg) (vg : Value) (hg : Rd_Charged w vg g) (hig : I64_Charged g) :
    Calls Try.prog 3 #[vg] w (RetT w) := by
  have HIg := hd hig; clear hig
  have HAg := hd hg
  obtain ⟨Ag, cg, Ag', cg', rfl⟩ := hg.form
  clear hg
  have hbz0 := sz_Charged_bd g 1048576 (by omega)
  generalize hz : sz_Charged g 1048576 = z0 at *
  have Hz0 := hd hz; clear hz
  have X := hd (Ext.refl w)
  replace X := hd (X.out.alloc (.cells #[.int .i64 g.n, .slice Ag g.es.length cg, .slice Ag' g.cs.length cg'] 25))
  have B1 := hd (blk_new (w := w) (.cells #[.int .i64 g.n, .slice Ag g.es.length cg, .slice Ag' g.cs.length cg'] 25) rfl)
  have sB1 : w.heap.size < (w.alloc (.cells #[.int .i64 g.n, .slice Ag g.es.length cg, .slice Ag' g.cs.length cg'] 25)).heap.size := by simp
  go_enter Try.func3, Try.ntmps3
  obtain ⟨kB1_0, kB1_1, kB1_2⟩ := blk3 B1.out
  go_wp2_with fail
  refine (u_sz_Charged g _ _ _ (HAg.out.ext X.out) (by omega) (by omega)).mono ?_
  rintro e w2 ⟨rfl, hx⟩
  rw [Hz0.out]
  have szw2 := hx.size
  replace X := hd (X.out.trans hx)
  replace B1 := hd (hx.heap B1.out)
  clear hx kB1_0 kB1_1 kB1_2
  by_cases hneg0 : z0 < 0
  · go_wp2
    go_ret
    exact RetT.mk rfl X.out
  ·
    have bg : Hid (Bd_Charged g) := hd (sz_Charged_ok (by rw [Hz0.out]; exact hneg0) (by omega))
    obtain ⟨kB1_0, kB1_1, kB1_2⟩ := blk3 B1.out
    go_wp2_with fail
    refine (u_to_Charged g _ _ (HAg.out.ext X.out) bg.out).mono ?_
    rintro e w3 ⟨u, rfl, hu, hx⟩
    have szw3 := hx.size
    replace X := hd (X.out.trans hx)
    replace B1 := hd (hx.heap B1.out)
    obtain ⟨At4, ct4, At4', ct4', rfl, O4⟩ := hu.form
    clear hx hu kB1_0 kB1_1 kB1_2
    go_wp2_with fail
    refine (s_ParityCnf g _ _ O4.out.rd bg.out HIg.out).mono ?_
    rintro e w6 ⟨u0, rfl, hu0, hx⟩
    have szw6 := hx.size
    replace X := hd (X.out.trans hx)
    replace B1 := hd (hx.heap B1.out)
    replace O4 := hd (O4.out.ext hx)
    obtain ⟨Ar7, cr7, rfl, O7⟩ := hu0.form
    clear hx hu0
    clear O4
    replace X := hd (X.out.alloc (.cells #[.int .i64 (parV g).n, .slice Ar7 (parV g).cs.length cr7] 29))
    replace B1 := hd (blk_old (o' := .cells #[.int .i64 (parV g).n, .slice Ar7 (parV g).cs.length cr7] 29) B1.out)
    replace O7 := hd (O7.out.ext (Ext.new w6 (.cells #[.int .i64 (parV g).n, .slice Ar7 (parV g).cs.length cr7] 29)))
    have B8 := hd (blk_new (w := w6) (.cells #[.int .i64 (parV g).n, .slice Ar7 (parV g).cs.length cr7] 29) rfl)
    have sB8 : w6.heap.size < (w6.alloc (.cells #[.int .i64 (parV g).n, .slice Ar7 (parV g).cs.length cr7] 29)).heap.size := by simp
    obtain ⟨kB1_0, kB1_1, kB1_2⟩ := blk3 B1.out
    go_wp2_with fail
    refine (u_to_Charged g _ _ (HAg.out.ext X.out) bg.out).mono ?_
    rintro e w9 ⟨u, rfl, hu, hx⟩
    have szw9 := hx.size
    replace X := hd (X.out.trans hx)
    replace B1 := hd (hx.heap B1.out)
    replace O7 := hd (O7.out.ext hx)
    replace B8 := hd (hx.heap B8.out)
    obtain ⟨At10, ct10, At10', ct10', rfl, O10⟩ := hu.form
    clear hx hu kB1_0 kB1_1 kB1_2
    replace X := hd (X.out.alloc (.cells #[.int .i64 g.n, .slice At10 g.es.length ct10, .slice At10' g.cs.length ct10'] 32))
    replace B1 := hd (blk_old (o' := .cells #[.int .i64 g.n, .slice At10 g.es.length ct10, .slice At10' g.cs.length ct10'] 32) B1.out)
    replace O7 := hd (O7.out.ext (Ext.new w9 (.cells #[.int .i64 g.n, .slice At10 g.es.length ct10, .slice At10' g.cs.length ct10'] 32)))
    replace B8 := hd (blk_old (o' := .cells #[.int .i64 g.n, .slice At10 g.es.length ct10, .slice At10' g.cs.length ct10'] 32) B8.out)
    replace O10 := hd (O10.out.ext (Ext.new w9 (.cells #[.int .i64 g.n, .slice At10 g.es.length ct10, .slice At10' g.cs.length ct10'] 32)))
    have B11 := hd (blk_new (w := w9) (.cells #[.int .i64 g.n, .slice At10 g.es.length ct10, .slice At10' g.cs.length ct10'] 32) rfl)
    have sB11 : w9.heap.size < (w9.alloc (.cells #[.int .i64 g.n, .slice At10 g.es.length ct10, .slice At10' g.cs.length ct10'] 32)).heap.size := by simp
    obtain ⟨kB11_0, kB11_1, kB11_2⟩ := blk3 B11.out
    go_wp2_with fail
    refine (i_ParityCnf g _ _ O10.out.rd bg.out HIg.out).mono ?_
    rintro e w13 ⟨u0, rfl, hu0, hx⟩
    have szw13 := hx.size
    replace X := hd (X.out.trans hx)
    replace B1 := hd (hx.heap B1.out)
    replace O7 := hd (O7.out.ext hx)
    replace B8 := hd (hx.heap B8.out)
    replace O10 := hd (O10.out.ext hx)
    replace B11 := hd (hx.heap B11.out)
    obtain ⟨Ar14, cr14, rfl, O14⟩ := hu0.form
    clear hx hu0 kB11_0 kB11_1 kB11_2
    replace X := hd (X.out.alloc (.cells #[.int .i64 (parV g).n, .slice Ar14 (parV g).cs.length cr14] 29))
    replace B1 := hd (blk_old (o' := .cells #[.int .i64 (parV g).n, .slice Ar14 (parV g).cs.length cr14] 29) B1.out)
    replace O7 := hd (O7.out.ext (Ext.new w13 (.cells #[.int .i64 (parV g).n, .slice Ar14 (parV g).cs.length cr14] 29)))
    replace B8 := hd (blk_old (o' := .cells #[.int .i64 (parV g).n, .slice Ar14 (parV g).cs.length cr14] 29) B8.out)
    replace O10 := hd (O10.out.ext (Ext.new w13 (.cells #[.int .i64 (parV g).n, .slice Ar14 (parV g).cs.length cr14] 29)))
    replace B11 := hd (blk_old (o' := .cells #[.int .i64 (parV g).n, .slice Ar14 (parV g).cs.length cr14] 29) B11.out)
    replace O14 := hd (O14.out.ext (Ext.new w13 (.cells #[.int .i64 (parV g).n, .slice Ar14 (parV g).cs.length cr14] 29)))
    have B15 := hd (blk_new (w := w13) (.cells #[.int .i64 (parV g).n, .slice Ar14 (parV g).cs.length cr14] 29) rfl)
    have sB15 : w13.heap.size < (w13.alloc (.cells #[.int .i64 (parV g).n, .slice Ar14 (parV g).cs.length cr14] 29)).heap.size := by simp
    obtain ⟨kB15_0, kB15_1⟩ := blk2 B15.out
    obtain ⟨kB8_0, kB8_1⟩ := blk2 B8.out
    go_wp2_with fail
    refine (u_eq_Cnf (parV g) _ _ _ O14.out.rd O7.out.rd (parV_bd g)).mono ?_
    rintro e w16 ⟨rfl, hx⟩
    have szw16 := hx.size
    replace X := hd (X.out.trans hx)
    replace B1 := hd (hx.heap B1.out)
    replace O7 := hd (O7.out.ext hx)
    replace B8 := hd (hx.heap B8.out)
    replace O10 := hd (O10.out.ext hx)
    replace B11 := hd (hx.heap B11.out)
    replace O14 := hd (O14.out.ext hx)
    replace B15 := hd (hx.heap B15.out)
    clear hx kB15_0 kB15_1 kB8_0 kB8_1
    obtain ⟨kB11_0, kB11_1, kB11_2⟩ := blk3 B11.out
    obtain ⟨kB1_0, kB1_1, kB1_2⟩ := blk3 B1.out
    go_wp2_with fail
    go_region_held3 (fun w' => (w'.cell? ⟨w9.heap.size, 0, none⟩ = some (.int .i64 g.n) ∧ w'.cell? ⟨w9.heap.size, 1, none⟩ = some (.slice At10 g.es.length ct10) ∧ w'.cell? ⟨w9.heap.size, 2, none⟩ = some (.slice At10' g.cs.length ct10') ∧ w'.cell? ⟨w.heap.size, 0, none⟩ = some (.int .i64 g.n) ∧ w'.cell? ⟨w.heap.size, 1, none⟩ = some (.slice Ag g.es.length cg) ∧ w'.cell? ⟨w.heap.size, 2, none⟩ = some (.slice Ag' g.cs.length cg')) ∧ Ext w16 w')
      ((refine ⟨⟨Ext.cell ?_ kB11_0, Ext.cell ?_ kB11_1, Ext.cell ?_ kB11_2, Ext.cell ?_ kB1_0, Ext.cell ?_ kB1_1, Ext.cell ?_ kB1_2⟩, ?_⟩ <;> (first | assumption | exact Ext.refl _ | exact (Ext.refl _).drew)))
      (first
        | (go_at_call 8; refine (u_to_Charged g _ _ (HAg.out.ext (X.out.trans ((Ext.refl _).drew))) bg.out).mono ?_; rintro e wt ⟨ut, rfl, hut, hxt⟩; have Yt : Ext w16 wt := ((Ext.refl _).drew).trans hxt)
        | (go_at_call 11; refine (u_eq_Charged g _ _ _ (O10.out.ext Yt).rd hut.rd bg.out).mono ?_; rintro e w18 ⟨rfl, hxe⟩; have hx : Ext w16 w18 := Yt.trans hxe))
    have szw18 := hx.size
    replace X := hd (X.out.trans hx)
    replace B1 := hd (hx.heap B1.out)
    replace O7 := hd (O7.out.ext hx)
    replace B8 := hd (hx.heap B8.out)
    replace O10 := hd (O10.out.ext hx)
    replace B11 := hd (hx.heap B11.out)
    replace O14 := hd (O14.out.ext hx)
    replace B15 := hd (hx.heap B15.out)
    clear hx hxe Yt hxt hut kB11_0 kB11_1 kB11_2 kB1_0 kB1_1 kB1_2
    have lnO10 := len_Charged_bd bg.out
    obtain ⟨kB11_0, kB11_1, kB11_2⟩ := blk3 B11.out
    go_wp2_with fail
    refine (u_mark_Charged g _ _ _ _ _ O10.out (by omega) bg.out (by omega) (by omega)).mono ?_
    rintro e w19 ⟨rfl, hm, ht⟩
    clear O10
    have szw19 := ht.size
    replace X := hd (touch_ext X.out ht (by omega))
    replace B1 := hd (touch_blk' ht B1.out (by omega))
    replace O7 := hd (O7.out.touch ht (by omega))
    replace B8 := hd (touch_blk' ht B8.out (by omega))
    replace B11 := hd (touch_blk' ht B11.out (by omega))
    replace O14 := hd (O14.out.touch ht (by omega))
    replace B15 := hd (touch_blk' ht B15.out (by omega))
    clear hm ht kB11_0 kB11_1 kB11_2
    obtain ⟨kB15_0, kB15_1⟩ := blk2 B15.out
    obtain ⟨kB8_0, kB8_1⟩ := blk2 B8.out
    go_wp2_with fail
    refine (u_eq_Cnf (parV g) _ _ _ O14.out.rd O7.out.rd (parV_bd g)).mono ?_
    rintro e w21 ⟨rfl, hx⟩
    have szw21 := hx.size
    replace X := hd (X.out.trans hx)
    replace B1 := hd (hx.heap B1.out)
    replace O7 := hd (O7.out.ext hx)
    replace B8 := hd (hx.heap B8.out)
    replace B11 := hd (hx.heap B11.out)
    replace O14 := hd (O14.out.ext hx)
    replace B15 := hd (hx.heap B15.out)
    clear hx kB15_0 kB15_1 kB8_0 kB8_1
    have lnO14 := len_Cnf_bd (parV_bd g)
    obtain ⟨kB15_0, kB15_1⟩ := blk2 B15.out
    go_wp2_with fail
    refine (u_mark_Cnf (parV g) _ _ _ _ _ O14.out (by omega) (parV_bd g) (by omega) (by omega)).mono ?_
    rintro e w22 ⟨rfl, hm, ht⟩
    clear O14
    have szw22 := ht.size
    replace X := hd (touch_ext X.out ht (by omega))
    replace B1 := hd (touch_blk' ht B1.out (by omega))
    replace O7 := hd (O7.out.touch ht (by omega))
    replace B8 := hd (touch_blk' ht B8.out (by omega))
    replace B11 := hd (touch_blk' ht B11.out (by omega))
    replace B15 := hd (touch_blk' ht B15.out (by omega))
    have M23 := hd hm
    clear hm ht kB15_0 kB15_1
    obtain ⟨kB15_0, kB15_1⟩ := blk2 B15.out
    go_wp2_with fail
    refine (u_held_Cnf (parV g) _ _ _ M23.out (parV_bd g) (by omega) (by omega)).mono ?_
    rintro e w24 ⟨rfl, hx⟩
    have szw24 := hx.size
    replace X := hd (X.out.trans hx)
    replace B1 := hd (hx.heap B1.out)
    replace O7 := hd (O7.out.ext hx)
    replace B8 := hd (hx.heap B8.out)
    replace B11 := hd (hx.heap B11.out)
    replace B15 := hd (hx.heap B15.out)
    replace M23 := hd (M23.out.ext hx)
    clear hx kB15_0 kB15_1
    obtain ⟨kB1_0, kB1_1, kB1_2⟩ := blk3 B1.out
    go_wp2_with fail
    refine (u_to_Charged g _ _ (HAg.out.ext X.out) bg.out).mono ?_
    rintro e w25 ⟨u, rfl, hu, hx⟩
    have szw25 := hx.size
    replace X := hd (X.out.trans hx)
    replace B1 := hd (hx.heap B1.out)
    replace O7 := hd (O7.out.ext hx)
    replace B8 := hd (hx.heap B8.out)
    replace B11 := hd (hx.heap B11.out)
    replace B15 := hd (hx.heap B15.out)
    replace M23 := hd (M23.out.ext hx)
    obtain ⟨At26, ct26, At26', ct26', rfl, O26⟩ := hu.form
    clear hx hu kB1_0 kB1_1 kB1_2
    go_wp2_with fail
    refine (i_ParityCnf g _ _ O26.out.rd bg.out HIg.out).mono ?_
    rintro e w28 ⟨u0, rfl, hu0, hx⟩
    have szw28 := hx.size
    replace X := hd (X.out.trans hx)
    replace B1 := hd (hx.heap B1.out)
    replace O7 := hd (O7.out.ext hx)
    replace B8 := hd (hx.heap B8.out)
    replace B11 := hd (hx.heap B11.out)
    replace B15 := hd (hx.heap B15.out)
    replace M23 := hd (M23.out.ext hx)
    replace O26 := hd (O26.out.ext hx)
    obtain ⟨Ar29, cr29, rfl, O29⟩ := hu0.form
    clear hx hu0
    clear O26
    replace X := hd (X.out.alloc (.cells #[.int .i64 (parV g).n, .slice Ar29 (parV g).cs.length cr29] 29))
    replace B1 := hd (blk_old (o' := .cells #[.int .i64 (parV g).n, .slice Ar29 (parV g).cs.length cr29] 29) B1.out)
    replace O7 := hd (O7.out.ext (Ext.new w28 (.cells #[.int .i64 (parV g).n, .slice Ar29 (parV g).cs.length cr29] 29)))
    replace B8 := hd (blk_old (o' := .cells #[.int .i64 (parV g).n, .slice Ar29 (parV g).cs.length cr29] 29) B8.out)
    replace B11 := hd (blk_old (o' := .cells #[.int .i64 (parV g).n, .slice Ar29 (parV g).cs.length cr29] 29) B11.out)
    replace B15 := hd (blk_old (o' := .cells #[.int .i64 (parV g).n, .slice Ar29 (parV g).cs.length cr29] 29) B15.out)
    replace M23 := hd (M23.out.ext (Ext.new w28 (.cells #[.int .i64 (parV g).n, .slice Ar29 (parV g).cs.length cr29] 29)))
    replace O29 := hd (O29.out.ext (Ext.new w28 (.cells #[.int .i64 (parV g).n, .slice Ar29 (parV g).cs.length cr29] 29)))
    have B30 := hd (blk_new (w := w28) (.cells #[.int .i64 (parV g).n, .slice Ar29 (parV g).cs.length cr29] 29) rfl)
    have sB30 : w28.heap.size < (w28.alloc (.cells #[.int .i64 (parV g).n, .slice Ar29 (parV g).cs.length cr29] 29)).heap.size := by simp
    obtain ⟨kB30_0, kB30_1⟩ := blk2 B30.out
    obtain ⟨kB8_0, kB8_1⟩ := blk2 B8.out
    go_wp2_with fail
    refine (u_eq_Cnf (parV g) _ _ _ O29.out.rd O7.out.rd (parV_bd g)).mono ?_
    rintro e w31 ⟨rfl, hx⟩
    have szw31 := hx.size
    replace X := hd (X.out.trans hx)
    replace B1 := hd (hx.heap B1.out)
    replace O7 := hd (O7.out.ext hx)
    replace B8 := hd (hx.heap B8.out)
    replace B11 := hd (hx.heap B11.out)
    replace B15 := hd (hx.heap B15.out)
    replace M23 := hd (M23.out.ext hx)
    replace O29 := hd (O29.out.ext hx)
    replace B30 := hd (hx.heap B30.out)
    clear hx kB30_0 kB30_1 kB8_0 kB8_1
    obtain ⟨kB15_0, kB15_1⟩ := blk2 B15.out
    go_wp2_with fail
    refine (u_held_Cnf (parV g) _ _ _ M23.out (parV_bd g) (by omega) (by omega)).mono ?_
    rintro e w32 ⟨rfl, hx⟩
    have szw32 := hx.size
    replace X := hd (X.out.trans hx)
    replace B1 := hd (hx.heap B1.out)
    replace O7 := hd (O7.out.ext hx)
    replace B8 := hd (hx.heap B8.out)
    replace B11 := hd (hx.heap B11.out)
    replace B15 := hd (hx.heap B15.out)
    replace M23 := hd (M23.out.ext hx)
    replace O29 := hd (O29.out.ext hx)
    replace B30 := hd (hx.heap B30.out)
    clear hx kB15_0 kB15_1
    go_wp2
    go_ret
    exact RetT.mk rfl X.out
end Go.Proofs.Ytgkifandgacncaa
