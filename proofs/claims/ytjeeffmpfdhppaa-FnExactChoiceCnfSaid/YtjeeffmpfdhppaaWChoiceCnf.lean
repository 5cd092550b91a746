/-
  FnExactChoiceCnf: the walk: for all arguments the law returns true. No condition.
-/
import Derived.Test.YtjeeffmpfdhppaaLaw
import Derived.Test.YtjeeffmpfdhppaaFrame
import Derived.Test.YtjeeffmpfdhppaaChoiI
namespace Go.Proofs.Ytjeeffmpfdhppaa
open Go.RowKit
set_option maxRecDepth 100000 in
set_option maxHeartbeats 3200000 in
theorem w_FnExactChoiceCnf (w : World) (xss : List (List Int)) (vxss : Value) (hxss : Rd_IntSS w vxss xss) (hixss : I64_IntSS xss) :
    Calls Try.prog 9 #[vxss] w (RetT w) := by
  have HIxss := hd hixss; clear hixss
  have HAxss := hd hxss
  obtain ⟨Axss, cxss, rfl, h1xss, h2xss, -⟩ := hxss.form; unfold maxLen at h2xss
  clear hxss
  have hbz0 := sz_IntSS_bd xss 1048576 (by omega)
  generalize hz : sz_IntSS xss 1048576 = z0 at *
  have Hz0 := hd hz; clear hz
  have X := hd (Ext.refl w)
  go_enter Try.func9, Try.ntmps9
  go_wp2_with fail
  refine (u_sz_IntSS xss _ _ _ (HAxss.out.ext X.out) (by omega) (by omega)).mono ?_
  rintro e w1 ⟨rfl, hx⟩
  rw [Hz0.out]
  have szw1 := hx.size
  replace X := hd (X.out.trans hx)
  clear hx
  by_cases hneg0 : z0 < 0
  · go_wp2
    go_ret
    exact RetT.mk rfl X.out
  ·
    have bxss : Hid (Bd_IntSS xss) := hd (sz_IntSS_ok (by rw [Hz0.out]; exact hneg0) (by omega))
    go_wp2_with fail
    refine (u_to_IntSS xss _ _ (HAxss.out.ext X.out) bxss.out).mono ?_
    rintro e w2 ⟨u, rfl, hu, hx⟩
    have szw2 := hx.size
    replace X := hd (X.out.trans hx)
    have O3 := hd hu
    clear hx hu
    go_wp2_with fail
    refine (s_ChoiceCnf xss _ _ O3.out.rd bxss.out HIxss.out).mono ?_
    rintro e w5 ⟨u0, rfl, hu0, hx⟩
    have szw5 := hx.size
    replace X := hd (X.out.trans hx)
    replace O3 := hd (O3.out.ext hx)
    obtain ⟨Ar6, cr6, rfl, O6⟩ := hu0.form
    clear hx hu0
    clear O3
    replace X := hd (X.out.alloc (.cells #[.int .i64 (choV xss).n, .slice Ar6 (choV xss).cs.length cr6] 31))
    replace O6 := hd (O6.out.ext (Ext.new w5 (.cells #[.int .i64 (choV xss).n, .slice Ar6 (choV xss).cs.length cr6] 31)))
    have B7 := hd (blk_new (w := w5) (.cells #[.int .i64 (choV xss).n, .slice Ar6 (choV xss).cs.length cr6] 31) rfl)
    have sB7 : w5.heap.size < (w5.alloc (.cells #[.int .i64 (choV xss).n, .slice Ar6 (choV xss).cs.length cr6] 31)).heap.size := by simp
    go_wp2_with fail
    refine (u_to_IntSS xss _ _ (HAxss.out.ext X.out) bxss.out).mono ?_
    rintro e w8 ⟨u, rfl, hu, hx⟩
    have szw8 := hx.size
    replace X := hd (X.out.trans hx)
    replace O6 := hd (O6.out.ext hx)
    replace B7 := hd (hx.heap B7.out)
    have O9 := hd hu
    clear hx hu
    go_wp2_with fail
    refine (i_ChoiceCnf xss _ _ O9.out.rd bxss.out HIxss.out).mono ?_
    rintro e w11 ⟨u0, rfl, hu0, hx⟩
    have szw11 := hx.size
    replace X := hd (X.out.trans hx)
    replace O6 := hd (O6.out.ext hx)
    replace B7 := hd (hx.heap B7.out)
    replace O9 := hd (O9.out.ext hx)
    obtain ⟨Ar12, cr12, rfl, O12⟩ := hu0.form
    clear hx hu0
    replace X := hd (X.out.alloc (.cells #[.int .i64 (choV xss).n, .slice Ar12 (choV xss).cs.length cr12] 31))
    replace O6 := hd (O6.out.ext (Ext.new w11 (.cells #[.int .i64 (choV xss).n, .slice Ar12 (choV xss).cs.length cr12] 31)))
    replace B7 := hd (blk_old (o' := .cells #[.int .i64 (choV xss).n, .slice Ar12 (choV xss).cs.length cr12] 31) B7.out)
    replace O9 := hd (O9.out.ext (Ext.new w11 (.cells #[.int .i64 (choV xss).n, .slice Ar12 (choV xss).cs.length cr12] 31)))
    replace O12 := hd (O12.out.ext (Ext.new w11 (.cells #[.int .i64 (choV xss).n, .slice Ar12 (choV xss).cs.length cr12] 31)))
    have B13 := hd (blk_new (w := w11) (.cells #[.int .i64 (choV xss).n, .slice Ar12 (choV xss).cs.length cr12] 31) rfl)
    have sB13 : w11.heap.size < (w11.alloc (.cells #[.int .i64 (choV xss).n, .slice Ar12 (choV xss).cs.length cr12] 31)).heap.size := by simp
    obtain ⟨kB13_0, kB13_1⟩ := blk2 B13.out
    obtain ⟨kB7_0, kB7_1⟩ := blk2 B7.out
    go_wp2_with fail
    refine (u_eq_Cnf (choV xss) _ _ _ O12.out.rd O6.out.rd (choV_bd xss)).mono ?_
    rintro e w14 ⟨rfl, hx⟩
    have szw14 := hx.size
    replace X := hd (X.out.trans hx)
    replace O6 := hd (O6.out.ext hx)
    replace B7 := hd (hx.heap B7.out)
    replace O9 := hd (O9.out.ext hx)
    replace O12 := hd (O12.out.ext hx)
    replace B13 := hd (hx.heap B13.out)
    clear hx kB13_0 kB13_1 kB7_0 kB7_1
    go_wp2_with fail
    refine (u_to_IntSS xss _ _ (HAxss.out.ext X.out) bxss.out).mono ?_
    rintro e w15 ⟨u, rfl, hu, hx⟩
    have szw15 := hx.size
    replace X := hd (X.out.trans hx)
    replace O6 := hd (O6.out.ext hx)
    replace B7 := hd (hx.heap B7.out)
    replace O9 := hd (O9.out.ext hx)
    replace O12 := hd (O12.out.ext hx)
    replace B13 := hd (hx.heap B13.out)
    have O16 := hd hu
    clear hx hu
    go_wp2_with fail
    refine (u_eq_IntSS xss _ _ _ O9.out.rd O16.out.rd bxss.out).mono ?_
    rintro e w17 ⟨rfl, hx⟩
    have szw17 := hx.size
    replace X := hd (X.out.trans hx)
    replace O6 := hd (O6.out.ext hx)
    replace B7 := hd (hx.heap B7.out)
    replace O9 := hd (O9.out.ext hx)
    replace O12 := hd (O12.out.ext hx)
    replace B13 := hd (hx.heap B13.out)
    replace O16 := hd (O16.out.ext hx)
    clear hx
    have lnO9 := len_IntSS_bd bxss.out
    go_wp2_with fail
    refine (u_mark_IntSS xss _ _ _ _ _ O9.out (by omega) bxss.out (by omega) (by omega)).mono ?_
    rintro e w18 ⟨rfl, hm, ht⟩
    clear O9
    have szw18 := ht.size
    replace X := hd (touch_ext X.out ht (by omega))
    replace O6 := hd (O6.out.touch ht (by omega))
    replace B7 := hd (touch_blk' ht B7.out (by omega))
    replace O12 := hd (O12.out.touch ht (by omega))
    replace B13 := hd (touch_blk' ht B13.out (by omega))
    replace O16 := hd (O16.out.touch ht (by omega))
    clear hm ht
    obtain ⟨kB13_0, kB13_1⟩ := blk2 B13.out
    obtain ⟨kB7_0, kB7_1⟩ := blk2 B7.out
    go_wp2_with fail
    refine (u_eq_Cnf (choV xss) _ _ _ O12.out.rd O6.out.rd (choV_bd xss)).mono ?_
    rintro e w20 ⟨rfl, hx⟩
    have szw20 := hx.size
    replace X := hd (X.out.trans hx)
    replace O6 := hd (O6.out.ext hx)
    replace B7 := hd (hx.heap B7.out)
    replace O12 := hd (O12.out.ext hx)
    replace B13 := hd (hx.heap B13.out)
    replace O16 := hd (O16.out.ext hx)
    clear hx kB13_0 kB13_1 kB7_0 kB7_1
    have lnO12 := len_Cnf_bd (choV_bd xss)
    obtain ⟨kB13_0, kB13_1⟩ := blk2 B13.out
    go_wp2_with fail
    refine (u_mark_Cnf (choV xss) _ _ _ _ _ O12.out (by omega) (choV_bd xss) (by omega) (by omega)).mono ?_
    rintro e w21 ⟨rfl, hm, ht⟩
    clear O12
    have szw21 := ht.size
    replace X := hd (touch_ext X.out ht (by omega))
    replace O6 := hd (O6.out.touch ht (by omega))
    replace B7 := hd (touch_blk' ht B7.out (by omega))
    replace B13 := hd (touch_blk' ht B13.out (by omega))
    replace O16 := hd (O16.out.touch ht (by omega))
    have M22 := hd hm
    clear hm ht kB13_0 kB13_1
    obtain ⟨kB13_0, kB13_1⟩ := blk2 B13.out
    go_wp2_with fail
    refine (u_held_Cnf (choV xss) _ _ _ M22.out (choV_bd xss) (by omega) (by omega)).mono ?_
    rintro e w23 ⟨rfl, hx⟩
    have szw23 := hx.size
    replace X := hd (X.out.trans hx)
    replace O6 := hd (O6.out.ext hx)
    replace B7 := hd (hx.heap B7.out)
    replace B13 := hd (hx.heap B13.out)
    replace O16 := hd (O16.out.ext hx)
    replace M22 := hd (M22.out.ext hx)
    clear hx kB13_0 kB13_1
    go_wp2_with fail
    refine (u_to_IntSS xss _ _ (HAxss.out.ext X.out) bxss.out).mono ?_
    rintro e w24 ⟨u, rfl, hu, hx⟩
    have szw24 := hx.size
    replace X := hd (X.out.trans hx)
    replace O6 := hd (O6.out.ext hx)
    replace B7 := hd (hx.heap B7.out)
    replace B13 := hd (hx.heap B13.out)
    replace O16 := hd (O16.out.ext hx)
    replace M22 := hd (M22.out.ext hx)
    have O25 := hd hu
    clear hx hu
    go_wp2_with fail
    refine (i_ChoiceCnf xss _ _ O25.out.rd bxss.out HIxss.out).mono ?_
    rintro e w27 ⟨u0, rfl, hu0, hx⟩
    have szw27 := hx.size
    replace X := hd (X.out.trans hx)
    replace O6 := hd (O6.out.ext hx)
    replace B7 := hd (hx.heap B7.out)
    replace B13 := hd (hx.heap B13.out)
    replace O16 := hd (O16.out.ext hx)
    replace M22 := hd (M22.out.ext hx)
    replace O25 := hd (O25.out.ext hx)
    obtain ⟨Ar28, cr28, rfl, O28⟩ := hu0.form
    clear hx hu0
    clear O25
    replace X := hd (X.out.alloc (.cells #[.int .i64 (choV xss).n, .slice Ar28 (choV xss).cs.length cr28] 31))
    replace O6 := hd (O6.out.ext (Ext.new w27 (.cells #[.int .i64 (choV xss).n, .slice Ar28 (choV xss).cs.length cr28] 31)))
    replace B7 := hd (blk_old (o' := .cells #[.int .i64 (choV xss).n, .slice Ar28 (choV xss).cs.length cr28] 31) B7.out)
    replace B13 := hd (blk_old (o' := .cells #[.int .i64 (choV xss).n, .slice Ar28 (choV xss).cs.length cr28] 31) B13.out)
    replace O16 := hd (O16.out.ext (Ext.new w27 (.cells #[.int .i64 (choV xss).n, .slice Ar28 (choV xss).cs.length cr28] 31)))
    replace M22 := hd (M22.out.ext (Ext.new w27 (.cells #[.int .i64 (choV xss).n, .slice Ar28 (choV xss).cs.length cr28] 31)))
    replace O28 := hd (O28.out.ext (Ext.new w27 (.cells #[.int .i64 (choV xss).n, .slice Ar28 (choV xss).cs.length cr28] 31)))
    have B29 := hd (blk_new (w := w27) (.cells #[.int .i64 (choV xss).n, .slice Ar28 (choV xss).cs.length cr28] 31) rfl)
    have sB29 : w27.heap.size < (w27.alloc (.cells #[.int .i64 (choV xss).n, .slice Ar28 (choV xss).cs.length cr28] 31)).heap.size := by simp
    obtain ⟨kB29_0, kB29_1⟩ := blk2 B29.out
    obtain ⟨kB7_0, kB7_1⟩ := blk2 B7.out
    go_wp2_with fail
    refine (u_eq_Cnf (choV xss) _ _ _ O28.out.rd O6.out.rd (choV_bd xss)).mono ?_
    rintro e w30 ⟨rfl, hx⟩
    have szw30 := hx.size
    replace X := hd (X.out.trans hx)
    replace O6 := hd (O6.out.ext hx)
    replace B7 := hd (hx.heap B7.out)
    replace B13 := hd (hx.heap B13.out)
    replace O16 := hd (O16.out.ext hx)
    replace M22 := hd (M22.out.ext hx)
    replace O28 := hd (O28.out.ext hx)
    replace B29 := hd (hx.heap B29.out)
    clear hx kB29_0 kB29_1 kB7_0 kB7_1
    obtain ⟨kB13_0, kB13_1⟩ := blk2 B13.out
    go_wp2_with fail
    refine (u_held_Cnf (choV xss) _ _ _ M22.out (choV_bd xss) (by omega) (by omega)).mono ?_
    rintro e w31 ⟨rfl, hx⟩
    have szw31 := hx.size
    replace X := hd (X.out.trans hx)
    replace O6 := hd (O6.out.ext hx)
    replace B7 := hd (hx.heap B7.out)
    replace B13 := hd (hx.heap B13.out)
    replace O16 := hd (O16.out.ext hx)
    replace M22 := hd (M22.out.ext hx)
    replace O28 := hd (O28.out.ext hx)
    replace B29 := hd (hx.heap B29.out)
    clear hx kB13_0 kB13_1
    go_wp2
    go_ret
    exact RetT.mk rfl X.out
end Go.Proofs.Ytjeeffmpfdhppaa
