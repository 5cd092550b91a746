/-
  FnExactEdgeCnf: the walk: for all arguments the law returns true. No condition.
-/
import Derived.Test.YtgkifandgacncaaLaw
import Derived.Test.YtgkifandgacncaaFrame
import Derived.Test.YtgkifandgacncaaEdgJ
namespace Go.Proofs.Ytgkifandgacncaa
open Go.RowKit
set_option maxRecDepth 100000 in
set_option maxHeartbeats 3200000 in
theorem w_FnExactEdgeCnf (w : World) (n : Int) (hn : I64 n) :
    Calls Try.prog 4 #[.int .i64 n] w (RetT w) := by
  have HIn := hd hn; clear hn
  have X := hd (Ext.refl w)
  go_enter Try.func4, Try.ntmps4
  go_wp2_with fail
  refine (s_EdgeCnf n _ HIn.out).mono ?_
  rintro e w2 ⟨u0, rfl, hu0, hx⟩
  have szw2 := hx.size
  replace X := hd (X.out.trans hx)
  obtain ⟨Ar3, cr3, rfl, O3⟩ := hu0.form
  clear hx hu0
  replace X := hd (X.out.alloc (.cells #[.int .i64 (edgeV n).n, .slice Ar3 (edgeV n).cs.length cr3] 29))
  replace O3 := hd (O3.out.ext (Ext.new w2 (.cells #[.int .i64 (edgeV n).n, .slice Ar3 (edgeV n).cs.length cr3] 29)))
  have B4 := hd (blk_new (w := w2) (.cells #[.int .i64 (edgeV n).n, .slice Ar3 (edgeV n).cs.length cr3] 29) rfl)
  have sB4 : w2.heap.size < (w2.alloc (.cells #[.int .i64 (edgeV n).n, .slice Ar3 (edgeV n).cs.length cr3] 29)).heap.size := by simp
  go_wp2_with fail
  refine (i_EdgeCnf n _ HIn.out).mono ?_
  rintro e w6 ⟨u0, rfl, hu0, hx⟩
  have szw6 := hx.size
  replace X := hd (X.out.trans hx)
  replace O3 := hd (O3.out.ext hx)
  replace B4 := hd (hx.heap B4.out)
  obtain ⟨Ar7, cr7, rfl, O7⟩ := hu0.form
  clear hx hu0
  replace X := hd (X.out.alloc (.cells #[.int .i64 (edgeV n).n, .slice Ar7 (edgeV n).cs.length cr7] 29))
  replace O3 := hd (O3.out.ext (Ext.new w6 (.cells #[.int .i64 (edgeV n).n, .slice Ar7 (edgeV n).cs.length cr7] 29)))
  replace B4 := hd (blk_old (o' := .cells #[.int .i64 (edgeV n).n, .slice Ar7 (edgeV n).cs.length cr7] 29) B4.out)
  replace O7 := hd (O7.out.ext (Ext.new w6 (.cells #[.int .i64 (edgeV n).n, .slice Ar7 (edgeV n).cs.length cr7] 29)))
  have B8 := hd (blk_new (w := w6) (.cells #[.int .i64 (edgeV n).n, .slice Ar7 (edgeV n).cs.length cr7] 29) rfl)
  have sB8 : w6.heap.size < (w6.alloc (.cells #[.int .i64 (edgeV n).n, .slice Ar7 (edgeV n).cs.length cr7] 29)).heap.size := by simp
  obtain ⟨kB8_0, kB8_1⟩ := blk2 B8.out
  obtain ⟨kB4_0, kB4_1⟩ := blk2 B4.out
  go_wp2_with fail
  refine (u_eq_Cnf (edgeV n) _ _ _ O7.out.rd O3.out.rd (edgeV_bd n)).mono ?_
  rintro e w9 ⟨rfl, hx⟩
  have szw9 := hx.size
  replace X := hd (X.out.trans hx)
  replace O3 := hd (O3.out.ext hx)
  replace B4 := hd (hx.heap B4.out)
  replace O7 := hd (O7.out.ext hx)
  replace B8 := hd (hx.heap B8.out)
  clear hx kB8_0 kB8_1 kB4_0 kB4_1
  have lnO7 := len_Cnf_bd (edgeV_bd n)
  obtain ⟨kB8_0, kB8_1⟩ := blk2 B8.out
  go_wp2_with fail
  refine (u_mark_Cnf (edgeV n) _ _ _ _ _ O7.out (by omega) (edgeV_bd n) (by omega) (by omega)).mono ?_
  rintro e w10 ⟨rfl, hm, ht⟩
  clear O7
  have szw10 := ht.size
  replace X := hd (touch_ext X.out ht (by omega))
  replace O3 := hd (O3.out.touch ht (by omega))
  replace B4 := hd (touch_blk' ht B4.out (by omega))
  replace B8 := hd (touch_blk' ht B8.out (by omega))
  have M11 := hd hm
  clear hm ht kB8_0 kB8_1
  obtain ⟨kB8_0, kB8_1⟩ := blk2 B8.out
  go_wp2_with fail
  refine (u_held_Cnf (edgeV n) _ _ _ M11.out (edgeV_bd n) (by omega) (by omega)).mono ?_
  rintro e w12 ⟨rfl, hx⟩
  have szw12 := hx.size
  replace X := hd (X.out.trans hx)
  replace O3 := hd (O3.out.ext hx)
  replace B4 := hd (hx.heap B4.out)
  replace B8 := hd (hx.heap B8.out)
  replace M11 := hd (M11.out.ext hx)
  clear hx kB8_0 kB8_1
  go_wp2_with fail
  refine (i_EdgeCnf n _ HIn.out).mono ?_
  rintro e w14 ⟨u0, rfl, hu0, hx⟩
  have szw14 := hx.size
  replace X := hd (X.out.trans hx)
  replace O3 := hd (O3.out.ext hx)
  replace B4 := hd (hx.heap B4.out)
  replace B8 := hd (hx.heap B8.out)
  replace M11 := hd (M11.out.ext hx)
  obtain ⟨Ar15, cr15, rfl, O15⟩ := hu0.form
  clear hx hu0
  replace X := hd (X.out.alloc (.cells #[.int .i64 (edgeV n).n, .slice Ar15 (edgeV n).cs.length cr15] 29))
  replace O3 := hd (O3.out.ext (Ext.new w14 (.cells #[.int .i64 (edgeV n).n, .slice Ar15 (edgeV n).cs.length cr15] 29)))
  replace B4 := hd (blk_old (o' := .cells #[.int .i64 (edgeV n).n, .slice Ar15 (edgeV n).cs.length cr15] 29) B4.out)
  replace B8 := hd (blk_old (o' := .cells #[.int .i64 (edgeV n).n, .slice Ar15 (edgeV n).cs.length cr15] 29) B8.out)
  replace M11 := hd (M11.out.ext (Ext.new w14 (.cells #[.int .i64 (edgeV n).n, .slice Ar15 (edgeV n).cs.length cr15] 29)))
  replace O15 := hd (O15.out.ext (Ext.new w14 (.cells #[.int .i64 (edgeV n).n, .slice Ar15 (edgeV n).cs.length cr15] 29)))
  have B16 := hd (blk_new (w := w14) (.cells #[.int .i64 (edgeV n).n, .slice Ar15 (edgeV n).cs.length cr15] 29) rfl)
  have sB16 : w14.heap.size < (w14.alloc (.cells #[.int .i64 (edgeV n).n, .slice Ar15 (edgeV n).cs.length cr15] 29)).heap.size := by simp
  obtain ⟨kB16_0, kB16_1⟩ := blk2 B16.out
  obtain ⟨kB4_0, kB4_1⟩ := blk2 B4.out
  go_wp2_with fail
  refine (u_eq_Cnf (edgeV n) _ _ _ O15.out.rd O3.out.rd (edgeV_bd n)).mono ?_
  rintro e w17 ⟨rfl, hx⟩
  have szw17 := hx.size
  replace X := hd (X.out.trans hx)
  replace O3 := hd (O3.out.ext hx)
  replace B4 := hd (hx.heap B4.out)
  replace B8 := hd (hx.heap B8.out)
  replace M11 := hd (M11.out.ext hx)
  replace O15 := hd (O15.out.ext hx)
  replace B16 := hd (hx.heap B16.out)
  clear hx kB16_0 kB16_1 kB4_0 kB4_1
  obtain ⟨kB8_0, kB8_1⟩ := blk2 B8.out
  go_wp2_with fail
  refine (u_held_Cnf (edgeV n) _ _ _ M11.out (edgeV_bd n) (by omega) (by omega)).mono ?_
  rintro e w18 ⟨rfl, hx⟩
  have szw18 := hx.size
  replace X := hd (X.out.trans hx)
  replace O3 := hd (O3.out.ext hx)
  replace B4 := hd (hx.heap B4.out)
  replace B8 := hd (hx.heap B8.out)
  replace M11 := hd (M11.out.ext hx)
  replace O15 := hd (O15.out.ext hx)
  replace B16 := hd (hx.heap B16.out)
  clear hx kB8_0 kB8_1
  go_wp2
  go_ret
  exact RetT.mk rfl X.out
end Go.Proofs.Ytgkifandgacncaa
