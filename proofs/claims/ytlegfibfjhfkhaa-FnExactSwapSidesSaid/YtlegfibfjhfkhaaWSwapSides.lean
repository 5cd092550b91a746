/-
  FnExactSwapSides: the walk: for all arguments the law returns true. No condition.
-/
import Derived.Test.YtlegfibfjhfkhaaLaw
import Derived.Test.YtlegfibfjhfkhaaFrame
import Derived.Test.YtlegfibfjhfkhaaFrameN
import Derived.Test.YtlegfibfjhfkhaaSwap
import Derived.Test.YtlegfibfjhfkhaaSwapI
namespace Go.Proofs.Ytlegfibfjhfkhaa
open Go.RowKit
set_option maxRecDepth 100000 in
set_option maxHeartbeats 3200000 in
theorem w_FnExactSwapSides (w : World) (f : Cnf) (vf : Value) (hf : Rd_Cnf w vf f) (hif : I64_Cnf f) (k : Int) (hk : I64 k) :
    Calls Try.prog 3 #[vf, .int .i64 k] w (RetT w) := by
  have HIf := hd hif; clear hif
  have HAf := hd hf
  obtain ⟨Af, cf, rfl⟩ := hf.form
  clear hf
  have HIk := hd hk; clear hk
  have hbz0 := sz_Cnf_bd f 1048576 (by omega)
  generalize hz : sz_Cnf f 1048576 = z0 at *
  have Hz0 := hd hz; clear hz
  have X := hd (Ext.refl w)
  replace X := hd (X.out.alloc (.cells #[.int .i64 f.n, .slice Af f.cs.length cf] 24))
  have B1 := hd (blk_new (w := w) (.cells #[.int .i64 f.n, .slice Af f.cs.length cf] 24) rfl)
  have sB1 : w.heap.size < (w.alloc (.cells #[.int .i64 f.n, .slice Af f.cs.length cf] 24)).heap.size := by simp
  go_enter Try.func3, Try.ntmps3
  obtain ⟨kB1_0, kB1_1⟩ := blk2 B1.out
  go_wp2_with fail
  refine (u_sz_Cnf f _ _ _ (HAf.out.ext X.out) (by omega) (by omega)).mono ?_
  rintro e w2 ⟨rfl, hx⟩
  rw [Hz0.out]
  have szw2 := hx.size
  replace X := hd (X.out.trans hx)
  replace B1 := hd (hx.heap B1.out)
  clear hx kB1_0 kB1_1
  by_cases hneg0 : z0 < 0
  · go_wp2
    go_ret
    exact RetT.mk rfl X.out
  ·
    have bf : Hid (Bd_Cnf f) := hd (sz_Cnf_ok (by rw [Hz0.out]; exact hneg0) (by omega))
    obtain ⟨kB1_0, kB1_1⟩ := blk2 B1.out
    go_wp2_with fail
    refine (u_to_Cnf f _ _ (HAf.out.ext X.out) bf.out).mono ?_
    rintro e w3 ⟨u, rfl, hu, hx⟩
    have szw3 := hx.size
    replace X := hd (X.out.trans hx)
    replace B1 := hd (hx.heap B1.out)
    obtain ⟨At4, ct4, rfl, O4⟩ := hu.form
    clear hx hu kB1_0 kB1_1
    go_wp2_with fail
    refine (s_SwapSides f _ k _ O4.out.rd bf.out HIf.out HIk.out).mono ?_
    rintro e w6 ⟨u0, rfl, hu0, hx⟩
    have szw6 := hx.size
    replace X := hd (X.out.trans hx)
    replace B1 := hd (hx.heap B1.out)
    replace O4 := hd (O4.out.ext hx)
    obtain ⟨Ar7, cr7, rfl, O7⟩ := hu0.form
    clear hx hu0
    clear O4
    replace X := hd (X.out.alloc (.cells #[.int .i64 (swapV f k).n, .slice Ar7 (swapV f k).cs.length cr7] 26))
    replace B1 := hd (blk_old (o' := .cells #[.int .i64 (swapV f k).n, .slice Ar7 (swapV f k).cs.length cr7] 26) B1.out)
    replace O7 := hd (O7.out.ext (Ext.new w6 (.cells #[.int .i64 (swapV f k).n, .slice Ar7 (swapV f k).cs.length cr7] 26)))
    have B8 := hd (blk_new (w := w6) (.cells #[.int .i64 (swapV f k).n, .slice Ar7 (swapV f k).cs.length cr7] 26) rfl)
    have sB8 : w6.heap.size < (w6.alloc (.cells #[.int .i64 (swapV f k).n, .slice Ar7 (swapV f k).cs.length cr7] 26)).heap.size := by simp
    obtain ⟨kB1_0, kB1_1⟩ := blk2 B1.out
    go_wp2_with fail
    refine (u_to_Cnf f _ _ (HAf.out.ext X.out) bf.out).mono ?_
    rintro e w9 ⟨u, rfl, hu, hx⟩
    have szw9 := hx.size
    replace X := hd (X.out.trans hx)
    replace B1 := hd (hx.heap B1.out)
    replace O7 := hd (O7.out.ext hx)
    replace B8 := hd (hx.heap B8.out)
    obtain ⟨At10, ct10, rfl, O10⟩ := hu.form
    clear hx hu kB1_0 kB1_1
    replace X := hd (X.out.alloc (.cells #[.int .i64 f.n, .slice At10 f.cs.length ct10] 26))
    replace B1 := hd (blk_old (o' := .cells #[.int .i64 f.n, .slice At10 f.cs.length ct10] 26) B1.out)
    replace O7 := hd (O7.out.ext (Ext.new w9 (.cells #[.int .i64 f.n, .slice At10 f.cs.length ct10] 26)))
    replace B8 := hd (blk_old (o' := .cells #[.int .i64 f.n, .slice At10 f.cs.length ct10] 26) B8.out)
    replace O10 := hd (O10.out.ext (Ext.new w9 (.cells #[.int .i64 f.n, .slice At10 f.cs.length ct10] 26)))
    have B11 := hd (blk_new (w := w9) (.cells #[.int .i64 f.n, .slice At10 f.cs.length ct10] 26) rfl)
    have sB11 : w9.heap.size < (w9.alloc (.cells #[.int .i64 f.n, .slice At10 f.cs.length ct10] 26)).heap.size := by simp
    obtain ⟨kB11_0, kB11_1⟩ := blk2 B11.out
    go_wp2_with fail
    refine (i_SwapSides f _ k _ O10.out.rd bf.out HIf.out HIk.out).mono ?_
    rintro e w13 ⟨u0, rfl, hu0, hx⟩
    have szw13 := hx.size
    replace X := hd (X.out.trans hx)
    replace B1 := hd (hx.heap B1.out)
    replace O7 := hd (O7.out.ext hx)
    replace B8 := hd (hx.heap B8.out)
    replace O10 := hd (O10.out.ext hx)
    replace B11 := hd (hx.heap B11.out)
    obtain ⟨Ar14, cr14, rfl, O14⟩ := hu0.form
    clear hx hu0 kB11_0 kB11_1
    replace X := hd (X.out.alloc (.cells #[.int .i64 (swapV f k).n, .slice Ar14 (swapV f k).cs.length cr14] 26))
    replace B1 := hd (blk_old (o' := .cells #[.int .i64 (swapV f k).n, .slice Ar14 (swapV f k).cs.length cr14] 26) B1.out)
    replace O7 := hd (O7.out.ext (Ext.new w13 (.cells #[.int .i64 (swapV f k).n, .slice Ar14 (swapV f k).cs.length cr14] 26)))
    replace B8 := hd (blk_old (o' := .cells #[.int .i64 (swapV f k).n, .slice Ar14 (swapV f k).cs.length cr14] 26) B8.out)
    replace O10 := hd (O10.out.ext (Ext.new w13 (.cells #[.int .i64 (swapV f k).n, .slice Ar14 (swapV f k).cs.length cr14] 26)))
    replace B11 := hd (blk_old (o' := .cells #[.int .i64 (swapV f k).n, .slice Ar14 (swapV f k).cs.length cr14] 26) B11.out)
    replace O14 := hd (O14.out.ext (Ext.new w13 (.cells #[.int .i64 (swapV f k).n, .slice Ar14 (swapV f k).cs.length cr14] 26)))
    have B15 := hd (blk_new (w := w13) (.cells #[.int .i64 (swapV f k).n, .slice Ar14 (swapV f k).cs.length cr14] 26) rfl)
    have sB15 : w13.heap.size < (w13.alloc (.cells #[.int .i64 (swapV f k).n, .slice Ar14 (swapV f k).cs.length cr14] 26)).heap.size := by simp
    obtain ⟨kB15_0, kB15_1⟩ := blk2 B15.out
    obtain ⟨kB8_0, kB8_1⟩ := blk2 B8.out
    go_wp2_with fail
    refine (u_eq_Cnf (swapV f k) _ _ _ O14.out.rd O7.out.rd (swapV_bd k bf.out)).mono ?_
    rintro e w16 ⟨rfl, hx⟩
    have szw16 := hx.size
    replace X := hd (X.out.trans hx)
    replace B1 := hd (hx.heap B1.out)
    replace O7 := hd (O7.out.ext hx)
    replace B8 := hd (hx.heap B8.out)
    replace O10 := hd (O10.out.ext hx)
    replace B11 := hd (hx.heap B11.out)
    replace O14 := hd (O14.out.ext hx)
    replace B15 := hd (hx.heap B15.out)
    clear hx kB15_0 kB15_1 kB8_0 kB8_1
    obtain ⟨kB11_0, kB11_1⟩ := blk2 B11.out
    obtain ⟨kB1_0, kB1_1⟩ := blk2 B1.out
    go_wp2_with fail
    go_region_held3 (fun w' => (w'.cell? ⟨w9.heap.size, 0, none⟩ = some (.int .i64 f.n) ∧ w'.cell? ⟨w9.heap.size, 1, none⟩ = some (.slice At10 f.cs.length ct10) ∧ w'.cell? ⟨w.heap.size, 0, none⟩ = some (.int .i64 f.n) ∧ w'.cell? ⟨w.heap.size, 1, none⟩ = some (.slice Af f.cs.length cf)) ∧ Ext w16 w')
      ((refine ⟨⟨Ext.cell ?_ kB11_0, Ext.cell ?_ kB11_1, Ext.cell ?_ kB1_0, Ext.cell ?_ kB1_1⟩, ?_⟩ <;> (first | assumption | exact Ext.refl _ | exact (Ext.refl _).drew)))
      (first
        | (go_at_call 16; refine (u_to_Cnf f _ _ (HAf.out.ext (X.out.trans ((Ext.refl _).drew))) bf.out).mono ?_; rintro e wt ⟨ut, rfl, hut, hxt⟩; have Yt : Ext w16 wt := ((Ext.refl _).drew).trans hxt)
        | (go_at_call 18; refine (u_eq_Cnf f _ _ _ (O10.out.ext Yt).rd hut.rd bf.out).mono ?_; rintro e w18 ⟨rfl, hxe⟩; have hx : Ext w16 w18 := Yt.trans hxe))
    have szw18 := hx.size
    replace X := hd (X.out.trans hx)
    replace B1 := hd (hx.heap B1.out)
    replace O7 := hd (O7.out.ext hx)
    replace B8 := hd (hx.heap B8.out)
    replace O10 := hd (O10.out.ext hx)
    replace B11 := hd (hx.heap B11.out)
    replace O14 := hd (O14.out.ext hx)
    replace B15 := hd (hx.heap B15.out)
    clear hx hxe Yt hxt hut kB11_0 kB11_1 kB1_0 kB1_1
    have lnO10 := len_Cnf_bd bf.out
    obtain ⟨kB11_0, kB11_1⟩ := blk2 B11.out
    go_wp2_with fail
    refine (u_mark_Cnf f _ _ _ _ _ O10.out (by omega) bf.out (by omega) (by omega)).mono ?_
    rintro e w19 ⟨rfl, hm, ht⟩
    clear O10
    have szw19 := ht.size
    replace X := hd (touch_ext X.out ht (by omega))
    replace B1 := hd (touch_blk' ht B1.out (by omega))
    replace O7 := hd (O7.out.touch ht (by omega))
    replace B8 := hd (touch_blk' ht B8.out (by omega))
    replace B11 := hd (touch_blk' ht B11.out (by omega))
    replace O14 := hd (O14.out.touch ht (by omega))
    replace B15 := hd (touch_blk' ht B15.out (by omega))
    clear hm ht kB11_0 kB11_1
    obtain ⟨kB15_0, kB15_1⟩ := blk2 B15.out
    obtain ⟨kB8_0, kB8_1⟩ := blk2 B8.out
    go_wp2_with fail
    refine (u_eq_Cnf (swapV f k) _ _ _ O14.out.rd O7.out.rd (swapV_bd k bf.out)).mono ?_
    rintro e w21 ⟨rfl, hx⟩
    have szw21 := hx.size
    replace X := hd (X.out.trans hx)
    replace B1 := hd (hx.heap B1.out)
    replace O7 := hd (O7.out.ext hx)
    replace B8 := hd (hx.heap B8.out)
    replace B11 := hd (hx.heap B11.out)
    replace O14 := hd (O14.out.ext hx)
    replace B15 := hd (hx.heap B15.out)
    clear hx kB15_0 kB15_1 kB8_0 kB8_1
    have lnO14 := len_Cnf_bd (swapV_bd k bf.out)
    obtain ⟨kB15_0, kB15_1⟩ := blk2 B15.out
    go_wp2_with fail
    refine (u_mark_Cnf (swapV f k) _ _ _ _ _ O14.out (by omega) (swapV_bd k bf.out) (by omega) (by omega)).mono ?_
    rintro e w22 ⟨rfl, hm, ht⟩
    clear O14
    have szw22 := ht.size
    replace X := hd (touch_ext X.out ht (by omega))
    replace B1 := hd (touch_blk' ht B1.out (by omega))
    replace O7 := hd (O7.out.touch ht (by omega))
    replace B8 := hd (touch_blk' ht B8.out (by omega))
    replace B11 := hd (touch_blk' ht B11.out (by omega))
    replace B15 := hd (touch_blk' ht B15.out (by omega))
    have M23 := hd hm
    clear hm ht kB15_0 kB15_1
    obtain ⟨kB15_0, kB15_1⟩ := blk2 B15.out
    go_wp2_with fail
    refine (u_held_Cnf (swapV f k) _ _ _ M23.out (swapV_bd k bf.out) (by omega) (by omega)).mono ?_
    rintro e w24 ⟨rfl, hx⟩
    have szw24 := hx.size
    replace X := hd (X.out.trans hx)
    replace B1 := hd (hx.heap B1.out)
    replace O7 := hd (O7.out.ext hx)
    replace B8 := hd (hx.heap B8.out)
    replace B11 := hd (hx.heap B11.out)
    replace B15 := hd (hx.heap B15.out)
    replace M23 := hd (M23.out.ext hx)
    clear hx kB15_0 kB15_1
    obtain ⟨kB1_0, kB1_1⟩ := blk2 B1.out
    go_wp2_with fail
    refine (u_to_Cnf f _ _ (HAf.out.ext X.out) bf.out).mono ?_
    rintro e w25 ⟨u, rfl, hu, hx⟩
    have szw25 := hx.size
    replace X := hd (X.out.trans hx)
    replace B1 := hd (hx.heap B1.out)
    replace O7 := hd (O7.out.ext hx)
    replace B8 := hd (hx.heap B8.out)
    replace B11 := hd (hx.heap B11.out)
    replace B15 := hd (hx.heap B15.out)
    replace M23 := hd (M23.out.ext hx)
    obtain ⟨At26, ct26, rfl, O26⟩ := hu.form
    clear hx hu kB1_0 kB1_1
    go_wp2_with fail
    refine (i_SwapSides f _ k _ O26.out.rd bf.out HIf.out HIk.out).mono ?_
    rintro e w28 ⟨u0, rfl, hu0, hx⟩
    have szw28 := hx.size
    replace X := hd (X.out.trans hx)
    replace B1 := hd (hx.heap B1.out)
    replace O7 := hd (O7.out.ext hx)
    replace B8 := hd (hx.heap B8.out)
    replace B11 := hd (hx.heap B11.out)
    replace B15 := hd (hx.heap B15.out)
    replace M23 := hd (M23.out.ext hx)
    replace O26 := hd (O26.out.ext hx)
    obtain ⟨Ar29, cr29, rfl, O29⟩ := hu0.form
    clear hx hu0
    clear O26
    replace X := hd (X.out.alloc (.cells #[.int .i64 (swapV f k).n, .slice Ar29 (swapV f k).cs.length cr29] 26))
    replace B1 := hd (blk_old (o' := .cells #[.int .i64 (swapV f k).n, .slice Ar29 (swapV f k).cs.length cr29] 26) B1.out)
    replace O7 := hd (O7.out.ext (Ext.new w28 (.cells #[.int .i64 (swapV f k).n, .slice Ar29 (swapV f k).cs.length cr29] 26)))
    replace B8 := hd (blk_old (o' := .cells #[.int .i64 (swapV f k).n, .slice Ar29 (swapV f k).cs.length cr29] 26) B8.out)
    replace B11 := hd (blk_old (o' := .cells #[.int .i64 (swapV f k).n, .slice Ar29 (swapV f k).cs.length cr29] 26) B11.out)
    replace B15 := hd (blk_old (o' := .cells #[.int .i64 (swapV f k).n, .slice Ar29 (swapV f k).cs.length cr29] 26) B15.out)
    replace M23 := hd (M23.out.ext (Ext.new w28 (.cells #[.int .i64 (swapV f k).n, .slice Ar29 (swapV f k).cs.length cr29] 26)))
    replace O29 := hd (O29.out.ext (Ext.new w28 (.cells #[.int .i64 (swapV f k).n, .slice Ar29 (swapV f k).cs.length cr29] 26)))
    have B30 := hd (blk_new (w := w28) (.cells #[.int .i64 (swapV f k).n, .slice Ar29 (swapV f k).cs.length cr29] 26) rfl)
    have sB30 : w28.heap.size < (w28.alloc (.cells #[.int .i64 (swapV f k).n, .slice Ar29 (swapV f k).cs.length cr29] 26)).heap.size := by simp
    obtain ⟨kB30_0, kB30_1⟩ := blk2 B30.out
    obtain ⟨kB8_0, kB8_1⟩ := blk2 B8.out
    go_wp2_with fail
    refine (u_eq_Cnf (swapV f k) _ _ _ O29.out.rd O7.out.rd (swapV_bd k bf.out)).mono ?_
    rintro e w31 ⟨rfl, hx⟩
    have szw31 := hx.size
    replace X := hd (X.out.trans hx)
    replace B1 := hd (hx.heap B1.out)
    replace O7 := hd (O7.out.ext hx)
    replace B8 := hd (hx.heap B8.out)
    replace B11 := hd (hx.heap B11.out)
    replace B15 := hd (hx.heap B15.out)
    replace M23 := hd (M23.out.ext hx)
    replace O29 := hd (O29.out.ext hx)
    replace B30 := hd (hx.heap B30.out)
    clear hx kB30_0 kB30_1 kB8_0 kB8_1
    obtain ⟨kB15_0, kB15_1⟩ := blk2 B15.out
    go_wp2_with fail
    refine (u_held_Cnf (swapV f k) _ _ _ M23.out (swapV_bd k bf.out) (by omega) (by omega)).mono ?_
    rintro e w32 ⟨rfl, hx⟩
    have szw32 := hx.size
    replace X := hd (X.out.trans hx)
    replace B1 := hd (hx.heap B1.out)
    replace O7 := hd (O7.out.ext hx)
    replace B8 := hd (hx.heap B8.out)
    replace B11 := hd (hx.heap B11.out)
    replace B15 := hd (hx.heap B15.out)
    replace M23 := hd (M23.out.ext hx)
    replace O29 := hd (O29.out.ext hx)
    replace B30 := hd (hx.heap B30.out)
    clear hx kB15_0 kB15_1
    go_wp2
    go_ret
    exact RetT.mk rfl X.out
end Go.Proofs.Ytlegfibfjhfkhaa
