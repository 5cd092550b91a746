/-
  FnExactWrongVertices: the walk: for all arguments the law returns true. No condition.
-/
import Derived.Test.YtpljmlkinjhigaaLaw
import Derived.Test.YtpljmlkinjhigaaFrame
import Derived.Test.YtpljmlkinjhigaaFrameC
import Derived.Test.YtpljmlkinjhigaaLawC
import Derived.Test.YtpljmlkinjhigaaWrong
namespace Go.Proofs.Ytpljmlkinjhigaa
open Go.RowKit
set_option maxRecDepth 100000 in
set_option maxHeartbeats 3200000 in
theorem w_FnExactWrongVertices (w : World) (g : Chg) (vg : Value) (hg : Rd_Charged w vg g) (hig : I64_Charged g) (bs : Int) (hbs : I64 bs) :
    Calls Try.prog 7 #[vg, .int .i64 bs] w (RetT w) := by
  have HIg := hd hig; clear hig
  have HAg := hd hg
  obtain ⟨Ag, cg, Ag', cg', rfl⟩ := hg.form
  clear hg
  have HIbs := hd hbs; clear hbs
  have hbz0 := sz_Charged_bd g 1048576 (by omega)
  generalize hz : sz_Charged g 1048576 = z0 at *
  have Hz0 := hd hz; clear hz
  have X := hd (Ext.refl w)
  replace X := hd (X.out.alloc (.cells #[.int .i64 g.n, .slice Ag g.es.length cg, .slice Ag' g.cs.length cg'] 36))
  have B1 := hd (blk_new (w := w) (.cells #[.int .i64 g.n, .slice Ag g.es.length cg, .slice Ag' g.cs.length cg'] 36) rfl)
  have sB1 : w.heap.size < (w.alloc (.cells #[.int .i64 g.n, .slice Ag g.es.length cg, .slice Ag' g.cs.length cg'] 36)).heap.size := by simp
  go_enter Try.func7, Try.ntmps7
  obtain ⟨kB1_0, kB1_1, kB1_2⟩ := blk3 B1.out
  go_wp2_with fail
  refine (u_sz_Charged g _ _ _ (HAg.out.ext X.out) (by omega) (by omega)).mono ?_
  rintro e w2 ⟨rfl, hx⟩
  rw [Hz0.out]
  have szw2 := hx.size
  replace X := hd (X.out.trans hx)
  replace B1 := hd (hx.heap B1.out)
  clear hx kB1_0 kB1_1 kB1_2
  by_cases hneg0 : z0 < 0
  · go_wp2
    go_ret
    exact RetT.mk rfl X.out
  ·
    have bg : Hid (Bd_Charged g) := hd (sz_Charged_ok (by rw [Hz0.out]; exact hneg0) (by omega))
    obtain ⟨kB1_0, kB1_1, kB1_2⟩ := blk3 B1.out
    go_wp2_with fail
    refine (u_to_Charged g _ _ (HAg.out.ext X.out) bg.out).mono ?_
    rintro e w3 ⟨u, rfl, hu, hx⟩
    have szw3 := hx.size
    replace X := hd (X.out.trans hx)
    replace B1 := hd (hx.heap B1.out)
    obtain ⟨At4, ct4, At4', ct4', rfl, O4⟩ := hu.form
    clear hx hu kB1_0 kB1_1 kB1_2
    go_wp2_with fail
    refine (s_WrongVertices g _ bs _ O4.out.rd bg.out HIg.out HIbs.out).mono ?_
    rintro e w5 ⟨u0, rfl, hu0, hx⟩
    have szw5 := hx.size
    replace X := hd (X.out.trans hx)
    replace B1 := hd (hx.heap B1.out)
    replace O4 := hd (O4.out.ext hx)
    have O6 := hd hu0
    clear hx hu0
    clear O4
    obtain ⟨kB1_0, kB1_1, kB1_2⟩ := blk3 B1.out
    go_wp2_with fail
    refine (u_to_Charged g _ _ (HAg.out.ext X.out) bg.out).mono ?_
    rintro e w7 ⟨u, rfl, hu, hx⟩
    have szw7 := hx.size
    replace X := hd (X.out.trans hx)
    replace B1 := hd (hx.heap B1.out)
    replace O6 := hd (O6.out.ext hx)
    obtain ⟨At8, ct8, At8', ct8', rfl, O8⟩ := hu.form
    clear hx hu kB1_0 kB1_1 kB1_2
    replace X := hd (X.out.alloc (.cells #[.int .i64 g.n, .slice At8 g.es.length ct8, .slice At8' g.cs.length ct8'] 40))
    replace B1 := hd (blk_old (o' := .cells #[.int .i64 g.n, .slice At8 g.es.length ct8, .slice At8' g.cs.length ct8'] 40) B1.out)
    replace O6 := hd (O6.out.ext (Ext.new w7 (.cells #[.int .i64 g.n, .slice At8 g.es.length ct8, .slice At8' g.cs.length ct8'] 40)))
    replace O8 := hd (O8.out.ext (Ext.new w7 (.cells #[.int .i64 g.n, .slice At8 g.es.length ct8, .slice At8' g.cs.length ct8'] 40)))
    have B9 := hd (blk_new (w := w7) (.cells #[.int .i64 g.n, .slice At8 g.es.length ct8, .slice At8' g.cs.length ct8'] 40) rfl)
    have sB9 : w7.heap.size < (w7.alloc (.cells #[.int .i64 g.n, .slice At8 g.es.length ct8, .slice At8' g.cs.length ct8'] 40)).heap.size := by simp
    obtain ⟨kB9_0, kB9_1, kB9_2⟩ := blk3 B9.out
    go_wp2_with fail
    refine (i_WrongVertices g _ bs _ O8.out.rd bg.out HIg.out HIbs.out).mono ?_
    rintro e w10 ⟨u0, rfl, hu0, hx⟩
    have szw10 := hx.size
    replace X := hd (X.out.trans hx)
    replace B1 := hd (hx.heap B1.out)
    replace O6 := hd (O6.out.ext hx)
    replace O8 := hd (O8.out.ext hx)
    replace B9 := hd (hx.heap B9.out)
    have O11 := hd hu0
    clear hx hu0 kB9_0 kB9_1 kB9_2
    go_wp2_with fail
    refine (u_eq_IntS (wrongL g bs) _ _ _ O11.out.rd O6.out.rd (wrongL_bd g bs)).mono ?_
    rintro e w12 ⟨rfl, hx⟩
    have szw12 := hx.size
    replace X := hd (X.out.trans hx)
    replace B1 := hd (hx.heap B1.out)
    replace O6 := hd (O6.out.ext hx)
    replace O8 := hd (O8.out.ext hx)
    replace B9 := hd (hx.heap B9.out)
    replace O11 := hd (O11.out.ext hx)
    clear hx
    obtain ⟨kB9_0, kB9_1, kB9_2⟩ := blk3 B9.out
    obtain ⟨kB1_0, kB1_1, kB1_2⟩ := blk3 B1.out
    go_wp2_with fail
    go_region_held3 (fun w' => (w'.cell? ⟨w7.heap.size, 0, none⟩ = some (.int .i64 g.n) ∧ w'.cell? ⟨w7.heap.size, 1, none⟩ = some (.slice At8 g.es.length ct8) ∧ w'.cell? ⟨w7.heap.size, 2, none⟩ = some (.slice At8' g.cs.length ct8') ∧ w'.cell? ⟨w.heap.size, 0, none⟩ = some (.int .i64 g.n) ∧ w'.cell? ⟨w.heap.size, 1, none⟩ = some (.slice Ag g.es.length cg) ∧ w'.cell? ⟨w.heap.size, 2, none⟩ = some (.slice Ag' g.cs.length cg')) ∧ Ext w12 w')
      ((refine ⟨⟨Ext.cell ?_ kB9_0, Ext.cell ?_ kB9_1, Ext.cell ?_ kB9_2, Ext.cell ?_ kB1_0, Ext.cell ?_ kB1_1, Ext.cell ?_ kB1_2⟩, ?_⟩ <;> (first | assumption | exact Ext.refl _ | exact (Ext.refl _).drew)))
      (first
        | (go_at_call 21; refine (u_to_Charged g _ _ (HAg.out.ext (X.out.trans ((Ext.refl _).drew))) bg.out).mono ?_; rintro e wt ⟨ut, rfl, hut, hxt⟩; have Yt : Ext w12 wt := ((Ext.refl _).drew).trans hxt)
        | (go_at_call 24; refine (u_eq_Charged g _ _ _ (O8.out.ext Yt).rd hut.rd bg.out).mono ?_; rintro e w14 ⟨rfl, hxe⟩; have hx : Ext w12 w14 := Yt.trans hxe))
    have szw14 := hx.size
    replace X := hd (X.out.trans hx)
    replace B1 := hd (hx.heap B1.out)
    replace O6 := hd (O6.out.ext hx)
    replace O8 := hd (O8.out.ext hx)
    replace B9 := hd (hx.heap B9.out)
    replace O11 := hd (O11.out.ext hx)
    clear hx hxe Yt hxt hut kB9_0 kB9_1 kB9_2 kB1_0 kB1_1 kB1_2
    have lnO8 := len_Charged_bd bg.out
    obtain ⟨kB9_0, kB9_1, kB9_2⟩ := blk3 B9.out
    go_wp2_with fail
    refine (u_mark_Charged g _ _ _ _ _ O8.out (by omega) bg.out (by omega) (by omega)).mono ?_
    rintro e w15 ⟨rfl, hm, ht⟩
    clear O8
    have szw15 := ht.size
    replace X := hd (touch_ext X.out ht (by omega))
    replace B1 := hd (touch_blk' ht B1.out (by omega))
    replace O6 := hd (O6.out.touch ht (by omega))
    replace B9 := hd (touch_blk' ht B9.out (by omega))
    replace O11 := hd (O11.out.touch ht (by omega))
    clear hm ht kB9_0 kB9_1 kB9_2
    go_wp2_with fail
    refine (u_eq_IntS (wrongL g bs) _ _ _ O11.out.rd O6.out.rd (wrongL_bd g bs)).mono ?_
    rintro e w17 ⟨rfl, hx⟩
    have szw17 := hx.size
    replace X := hd (X.out.trans hx)
    replace B1 := hd (hx.heap B1.out)
    replace O6 := hd (O6.out.ext hx)
    replace B9 := hd (hx.heap B9.out)
    replace O11 := hd (O11.out.ext hx)
    clear hx
    have lnO11 := len_IntS_bd (wrongL_bd g bs)
    go_wp2_with fail
    refine (u_mark_IntS (wrongL g bs) _ _ _ _ _ O11.out (by omega) (wrongL_bd g bs) (by omega) (by omega)).mono ?_
    rintro e w18 ⟨rfl, hm, ht⟩
    clear O11
    have szw18 := ht.size
    replace X := hd (touch_ext X.out ht (by omega))
    replace B1 := hd (touch_blk' ht B1.out (by omega))
    replace O6 := hd (O6.out.touch ht (by omega))
    replace B9 := hd (touch_blk' ht B9.out (by omega))
    have M19 := hd hm
    clear hm ht
    go_wp2_with fail
    refine (u_held_IntS (wrongL g bs) _ _ _ M19.out (wrongL_bd g bs) (by omega) (by omega)).mono ?_
    rintro e w20 ⟨rfl, hx⟩
    have szw20 := hx.size
    replace X := hd (X.out.trans hx)
    replace B1 := hd (hx.heap B1.out)
    replace O6 := hd (O6.out.ext hx)
    replace B9 := hd (hx.heap B9.out)
    replace M19 := hd (M19.out.ext hx)
    clear hx
    obtain ⟨kB1_0, kB1_1, kB1_2⟩ := blk3 B1.out
    go_wp2_with fail
    refine (u_to_Charged g _ _ (HAg.out.ext X.out) bg.out).mono ?_
    rintro e w21 ⟨u, rfl, hu, hx⟩
    have szw21 := hx.size
    replace X := hd (X.out.trans hx)
    replace B1 := hd (hx.heap B1.out)
    replace O6 := hd (O6.out.ext hx)
    replace B9 := hd (hx.heap B9.out)
    replace M19 := hd (M19.out.ext hx)
    obtain ⟨At22, ct22, At22', ct22', rfl, O22⟩ := hu.form
    clear hx hu kB1_0 kB1_1 kB1_2
    go_wp2_with fail
    refine (i_WrongVertices g _ bs _ O22.out.rd bg.out HIg.out HIbs.out).mono ?_
    rintro e w23 ⟨u0, rfl, hu0, hx⟩
    have szw23 := hx.size
    replace X := hd (X.out.trans hx)
    replace B1 := hd (hx.heap B1.out)
    replace O6 := hd (O6.out.ext hx)
    replace B9 := hd (hx.heap B9.out)
    replace M19 := hd (M19.out.ext hx)
    replace O22 := hd (O22.out.ext hx)
    have O24 := hd hu0
    clear hx hu0
    clear O22
    go_wp2_with fail
    refine (u_eq_IntS (wrongL g bs) _ _ _ O24.out.rd O6.out.rd (wrongL_bd g bs)).mono ?_
    rintro e w25 ⟨rfl, hx⟩
    have szw25 := hx.size
    replace X := hd (X.out.trans hx)
    replace B1 := hd (hx.heap B1.out)
    replace O6 := hd (O6.out.ext hx)
    replace B9 := hd (hx.heap B9.out)
    replace M19 := hd (M19.out.ext hx)
    replace O24 := hd (O24.out.ext hx)
    clear hx
    go_wp2_with fail
    refine (u_held_IntS (wrongL g bs) _ _ _ M19.out (wrongL_bd g bs) (by omega) (by omega)).mono ?_
    rintro e w26 ⟨rfl, hx⟩
    have szw26 := hx.size
    replace X := hd (X.out.trans hx)
    replace B1 := hd (hx.heap B1.out)
    replace O6 := hd (O6.out.ext hx)
    replace B9 := hd (hx.heap B9.out)
    replace M19 := hd (M19.out.ext hx)
    replace O24 := hd (O24.out.ext hx)
    clear hx
    go_wp2
    go_ret
    exact RetT.mk rfl X.out
end Go.Proofs.Ytpljmlkinjhigaa
