/-
  FnExactCutSum: the walk: for all arguments the law returns true. No condition.
-/
import Derived.Test.YtpljmlkinjhigaaLaw
import Derived.Test.YtpljmlkinjhigaaFrame
import Derived.Test.YtpljmlkinjhigaaFrameC
import Derived.Test.YtpljmlkinjhigaaLawC
import Derived.Test.YtpljmlkinjhigaaCutSum
namespace Go.Proofs.Ytpljmlkinjhigaa
open Go.RowKit
set_option maxRecDepth 100000 in
set_option maxHeartbeats 3200000 in
theorem w_FnExactCutSum (w : World) (g : Chg) (vg : Value) (hg : Rd_Charged w vg g) (hig : I64_Charged g) (xs : List Int) (vxs : Value) (hxs : Rd_IntS w vxs xs) (hixs : I64_IntS xs) (bs : Int) (hbs : I64 bs) :
    Calls Try.prog 9 #[vg, vxs, .int .i64 bs] w (RetT w) := by
  have HIg := hd hig; clear hig
  have HAg := hd hg
  obtain ⟨Ag, cg, Ag', cg', rfl⟩ := hg.form
  clear hg
  have HIxs := hd hixs; clear hixs
  have HAxs := hd hxs
  obtain ⟨Axs, cxs, rfl, h1xs, h2xs, -⟩ := hxs.form; unfold maxLen at h2xs
  clear hxs
  have HIbs := hd hbs; clear hbs
  have hbz0 := sz_Charged_bd g 1048576 (by omega)
  generalize hz : sz_Charged g 1048576 = z0 at *
  have Hz0 := hd hz; clear hz
  have X := hd (Ext.refl w)
  replace X := hd (X.out.alloc (.cells #[.int .i64 g.n, .slice Ag g.es.length cg, .slice Ag' g.cs.length cg'] 36))
  have B1 := hd (blk_new (w := w) (.cells #[.int .i64 g.n, .slice Ag g.es.length cg, .slice Ag' g.cs.length cg'] 36) rfl)
  have sB1 : w.heap.size < (w.alloc (.cells #[.int .i64 g.n, .slice Ag g.es.length cg, .slice Ag' g.cs.length cg'] 36)).heap.size := by simp
  go_enter Try.func9, Try.ntmps9
  by_cases hbigxs : 1048576 < xs.length
  · go_wp2
    go_ret
    exact RetT.mk rfl X.out
  ·
    have bxs : Hid (Bd_IntS xs) := hd (Nat.le_of_not_lt hbigxs)
    obtain ⟨kB1_0, kB1_1, kB1_2⟩ := blk3 B1.out
    go_wp2_with fail
    refine (u_sz_Charged g _ _ _ (HAg.out.ext X.out) (by omega) (by omega)).mono ?_
    rintro e w2 ⟨rfl, hx⟩
    rw [Hz0.out]
    have szw2 := hx.size
    replace X := hd (X.out.trans hx)
    replace B1 := hd (hx.heap B1.out)
    clear hx kB1_0 kB1_1 kB1_2
    by_cases hneg0 : z0 < 0
    · go_wp2
      go_ret
      exact RetT.mk rfl X.out
    ·
      have bg : Hid (Bd_Charged g) := hd (sz_Charged_ok (by rw [Hz0.out]; exact hneg0) (by omega))
      obtain ⟨kB1_0, kB1_1, kB1_2⟩ := blk3 B1.out
      go_wp2_with fail
      refine (u_to_Charged g _ _ (HAg.out.ext X.out) bg.out).mono ?_
      rintro e w3 ⟨u, rfl, hu, hx⟩
      have szw3 := hx.size
      replace X := hd (X.out.trans hx)
      replace B1 := hd (hx.heap B1.out)
      obtain ⟨At4, ct4, At4', ct4', rfl, O4⟩ := hu.form
      clear hx hu kB1_0 kB1_1 kB1_2
      go_wp2_with fail
      refine (u_to_IntS xs _ _ (HAxs.out.ext X.out) bxs.out).mono ?_
      rintro e w5 ⟨u, rfl, hu, hx⟩
      have szw5 := hx.size
      replace X := hd (X.out.trans hx)
      replace B1 := hd (hx.heap B1.out)
      replace O4 := hd (O4.out.ext hx)
      have O6 := hd hu
      clear hx hu
      go_wp2_with fail
      refine (s_CutSum g _ xs _ bs _ O4.out.rd bg.out HIg.out O6.out.rd bxs.out HIxs.out HIbs.out).mono ?_
      rintro e w7 ⟨rfl, hx⟩
      have szw7 := hx.size
      replace X := hd (X.out.trans hx)
      replace B1 := hd (hx.heap B1.out)
      replace O4 := hd (O4.out.ext hx)
      replace O6 := hd (O6.out.ext hx)
      clear hx
      clear O4
      clear O6
      obtain ⟨kB1_0, kB1_1, kB1_2⟩ := blk3 B1.out
      go_wp2_with fail
      refine (u_to_Charged g _ _ (HAg.out.ext X.out) bg.out).mono ?_
      rintro e w8 ⟨u, rfl, hu, hx⟩
      have szw8 := hx.size
      replace X := hd (X.out.trans hx)
      replace B1 := hd (hx.heap B1.out)
      obtain ⟨At9, ct9, At9', ct9', rfl, O9⟩ := hu.form
      clear hx hu kB1_0 kB1_1 kB1_2
      replace X := hd (X.out.alloc (.cells #[.int .i64 g.n, .slice At9 g.es.length ct9, .slice At9' g.cs.length ct9'] 40))
      replace B1 := hd (blk_old (o' := .cells #[.int .i64 g.n, .slice At9 g.es.length ct9, .slice At9' g.cs.length ct9'] 40) B1.out)
      replace O9 := hd (O9.out.ext (Ext.new w8 (.cells #[.int .i64 g.n, .slice At9 g.es.length ct9, .slice At9' g.cs.length ct9'] 40)))
      have B10 := hd (blk_new (w := w8) (.cells #[.int .i64 g.n, .slice At9 g.es.length ct9, .slice At9' g.cs.length ct9'] 40) rfl)
      have sB10 : w8.heap.size < (w8.alloc (.cells #[.int .i64 g.n, .slice At9 g.es.length ct9, .slice At9' g.cs.length ct9'] 40)).heap.size := by simp
      go_wp2_with fail
      refine (u_to_IntS xs _ _ (HAxs.out.ext X.out) bxs.out).mono ?_
      rintro e w11 ⟨u, rfl, hu, hx⟩
      have szw11 := hx.size
      replace X := hd (X.out.trans hx)
      replace B1 := hd (hx.heap B1.out)
      replace O9 := hd (O9.out.ext hx)
      replace B10 := hd (hx.heap B10.out)
      have O12 := hd hu
      clear hx hu
      obtain ⟨kB10_0, kB10_1, kB10_2⟩ := blk3 B10.out
      go_wp2_with fail
      refine (i_CutSum g _ xs _ bs _ O9.out.rd bg.out HIg.out O12.out.rd bxs.out HIxs.out HIbs.out).mono ?_
      rintro e w13 ⟨rfl, hx⟩
      have szw13 := hx.size
      replace X := hd (X.out.trans hx)
      replace B1 := hd (hx.heap B1.out)
      replace O9 := hd (O9.out.ext hx)
      replace B10 := hd (hx.heap B10.out)
      replace O12 := hd (O12.out.ext hx)
      clear hx kB10_0 kB10_1 kB10_2
      obtain ⟨kB10_0, kB10_1, kB10_2⟩ := blk3 B10.out
      obtain ⟨kB1_0, kB1_1, kB1_2⟩ := blk3 B1.out
      go_wp2_with fail
      go_region_held3 (fun w' => (w'.cell? ⟨w8.heap.size, 0, none⟩ = some (.int .i64 g.n) ∧ w'.cell? ⟨w8.heap.size, 1, none⟩ = some (.slice At9 g.es.length ct9) ∧ w'.cell? ⟨w8.heap.size, 2, none⟩ = some (.slice At9' g.cs.length ct9') ∧ w'.cell? ⟨w.heap.size, 0, none⟩ = some (.int .i64 g.n) ∧ w'.cell? ⟨w.heap.size, 1, none⟩ = some (.slice Ag g.es.length cg) ∧ w'.cell? ⟨w.heap.size, 2, none⟩ = some (.slice Ag' g.cs.length cg')) ∧ Ext w13 w')
        ((refine ⟨⟨Ext.cell ?_ kB10_0, Ext.cell ?_ kB10_1, Ext.cell ?_ kB10_2, Ext.cell ?_ kB1_0, Ext.cell ?_ kB1_1, Ext.cell ?_ kB1_2⟩, ?_⟩ <;> (first | assumption | exact Ext.refl _ | exact (Ext.refl _).drew)))
        (first
          | (go_at_call 21; refine (u_to_Charged g _ _ (HAg.out.ext (X.out.trans ((Ext.refl _).drew))) bg.out).mono ?_; rintro e wt ⟨ut, rfl, hut, hxt⟩; have Yt : Ext w13 wt := ((Ext.refl _).drew).trans hxt)
          | (go_at_call 24; refine (u_eq_Charged g _ _ _ (O9.out.ext Yt).rd hut.rd bg.out).mono ?_; rintro e w15 ⟨rfl, hxe⟩; have hx : Ext w13 w15 := Yt.trans hxe))
      have szw15 := hx.size
      replace X := hd (X.out.trans hx)
      replace B1 := hd (hx.heap B1.out)
      replace O9 := hd (O9.out.ext hx)
      replace B10 := hd (hx.heap B10.out)
      replace O12 := hd (O12.out.ext hx)
      clear hx hxe Yt hxt hut kB10_0 kB10_1 kB10_2 kB1_0 kB1_1 kB1_2
      go_wp2_with fail
      refine (u_to_IntS xs _ _ (HAxs.out.ext X.out) bxs.out).mono ?_
      rintro e w16 ⟨u, rfl, hu, hx⟩
      have szw16 := hx.size
      replace X := hd (X.out.trans hx)
      replace B1 := hd (hx.heap B1.out)
      replace O9 := hd (O9.out.ext hx)
      replace B10 := hd (hx.heap B10.out)
      replace O12 := hd (O12.out.ext hx)
      have O17 := hd hu
      clear hx hu
      go_wp2_with fail
      refine (u_eq_IntS xs _ _ _ O12.out.rd O17.out.rd bxs.out).mono ?_
      rintro e w18 ⟨rfl, hx⟩
      have szw18 := hx.size
      replace X := hd (X.out.trans hx)
      replace B1 := hd (hx.heap B1.out)
      replace O9 := hd (O9.out.ext hx)
      replace B10 := hd (hx.heap B10.out)
      replace O12 := hd (O12.out.ext hx)
      replace O17 := hd (O17.out.ext hx)
      clear hx
      go_wp2
      go_ret
      exact RetT.mk rfl X.out
end Go.Proofs.Ytpljmlkinjhigaa
