/-
  FnExactIsInterpolant: the walk: for all arguments the law returns true. No condition.
-/
import Derived.Test.YtjeeffmpfdhppaaLaw
import Derived.Test.YtjeeffmpfdhppaaFrame
import Derived.Test.YtjeeffmpfdhppaaFrameN
import Derived.Test.YtjeeffmpfdhppaaFrameG
import Derived.Test.YtjeeffmpfdhppaaInterp
namespace Go.Proofs.Ytjeeffmpfdhppaa
open Go.RowKit
set_option maxRecDepth 100000 in
set_option maxHeartbeats 3200000 in
theorem w_FnExactIsInterpolant (w : World) (f : Cnf) (vf : Value) (hf : Rd_Cnf w vf f) (hif : I64_Cnf f) (k : Int) (hk : I64 k) (gs : List Gat) (vgs : Value) (hgs : Rd_GateS w vgs gs) (higs : I64_GateS gs) :
    Calls Try.prog 4 #[vf, .int .i64 k, vgs] w (RetT w) := by
  have HIf := hd hif; clear hif
  have HAf := hd hf
  obtain ⟨Af, cf, rfl⟩ := hf.form
  clear hf
  have HIk := hd hk; clear hk
  have HIgs := hd higs; clear higs
  have HAgs := hd hgs
  obtain ⟨Ags, cgs, rfl, h1gs, h2gs, -⟩ := hgs.form; unfold maxLen at h2gs
  clear hgs
  have hbz0 := sz_Cnf_bd f 1048576 (by omega)
  generalize hz : sz_Cnf f 1048576 = z0 at *
  have Hz0 := hd hz; clear hz
  have hbz1 := sz_GateS_bd gs z0 (by omega)
  generalize hz : sz_GateS gs z0 = z1 at *
  have Hz1 := hd hz; clear hz
  have X := hd (Ext.refl w)
  replace X := hd (X.out.alloc (.cells #[.int .i64 f.n, .slice Af f.cs.length cf] 24))
  have B1 := hd (blk_new (w := w) (.cells #[.int .i64 f.n, .slice Af f.cs.length cf] 24) rfl)
  have sB1 : w.heap.size < (w.alloc (.cells #[.int .i64 f.n, .slice Af f.cs.length cf] 24)).heap.size := by simp
  go_enter Try.func4, Try.ntmps4
  obtain ⟨kB1_0, kB1_1⟩ := blk2 B1.out
  go_wp2_with fail
  refine (u_sz_Cnf f _ _ _ (HAf.out.ext X.out) (by omega) (by omega)).mono ?_
  rintro e w2 ⟨rfl, hx⟩
  rw [Hz0.out]
  have szw2 := hx.size
  replace X := hd (X.out.trans hx)
  replace B1 := hd (hx.heap B1.out)
  clear hx kB1_0 kB1_1
  by_cases hneg0 : z0 < 0
  · go_wp2
    go_ret
    exact RetT.mk rfl X.out
  ·
    have bf : Hid (Bd_Cnf f) := hd (sz_Cnf_ok (by rw [Hz0.out]; exact hneg0) (by omega))
    go_wp2_with fail
    refine (u_sz_GateS gs _ _ _ (HAgs.out.ext X.out) (by omega) (by omega)).mono ?_
    rintro e w3 ⟨rfl, hx⟩
    rw [Hz1.out]
    have szw3 := hx.size
    replace X := hd (X.out.trans hx)
    replace B1 := hd (hx.heap B1.out)
    clear hx
    by_cases hneg1 : z1 < 0
    · go_wp2
      go_ret
      exact RetT.mk rfl X.out
    ·
      have bgs : Hid (Bd_GateS gs) := hd (sz_GateS_ok (by rw [Hz1.out]; exact hneg1) (by omega))
      obtain ⟨kB1_0, kB1_1⟩ := blk2 B1.out
      go_wp2_with fail
      refine (u_to_Cnf f _ _ (HAf.out.ext X.out) bf.out).mono ?_
      rintro e w4 ⟨u, rfl, hu, hx⟩
      have szw4 := hx.size
      replace X := hd (X.out.trans hx)
      replace B1 := hd (hx.heap B1.out)
      obtain ⟨At5, ct5, rfl, O5⟩ := hu.form
      clear hx hu kB1_0 kB1_1
      go_wp2_with fail
      refine (u_to_GateS gs _ _ (HAgs.out.ext X.out) bgs.out).mono ?_
      rintro e w6 ⟨u, rfl, hu, hx⟩
      have szw6 := hx.size
      replace X := hd (X.out.trans hx)
      replace B1 := hd (hx.heap B1.out)
      replace O5 := hd (O5.out.ext hx)
      have O7 := hd hu
      clear hx hu
      go_wp2_with fail
      refine (s_IsInterpolant f _ k gs _ _ O5.out.rd bf.out HIf.out HIk.out O7.out.rd bgs.out HIgs.out).mono ?_
      rintro e w9 ⟨rfl, hx⟩
      have szw9 := hx.size
      replace X := hd (X.out.trans hx)
      replace B1 := hd (hx.heap B1.out)
      replace O5 := hd (O5.out.ext hx)
      replace O7 := hd (O7.out.ext hx)
      clear hx
      clear O5
      clear O7
      obtain ⟨kB1_0, kB1_1⟩ := blk2 B1.out
      go_wp2_with fail
      refine (u_to_Cnf f _ _ (HAf.out.ext X.out) bf.out).mono ?_
      rintro e w10 ⟨u, rfl, hu, hx⟩
      have szw10 := hx.size
      replace X := hd (X.out.trans hx)
      replace B1 := hd (hx.heap B1.out)
      obtain ⟨At11, ct11, rfl, O11⟩ := hu.form
      clear hx hu kB1_0 kB1_1
      replace X := hd (X.out.alloc (.cells #[.int .i64 f.n, .slice At11 f.cs.length ct11] 31))
      replace B1 := hd (blk_old (o' := .cells #[.int .i64 f.n, .slice At11 f.cs.length ct11] 31) B1.out)
      replace O11 := hd (O11.out.ext (Ext.new w10 (.cells #[.int .i64 f.n, .slice At11 f.cs.length ct11] 31)))
      have B12 := hd (blk_new (w := w10) (.cells #[.int .i64 f.n, .slice At11 f.cs.length ct11] 31) rfl)
      have sB12 : w10.heap.size < (w10.alloc (.cells #[.int .i64 f.n, .slice At11 f.cs.length ct11] 31)).heap.size := by simp
      go_wp2_with fail
      refine (u_to_GateS gs _ _ (HAgs.out.ext X.out) bgs.out).mono ?_
      rintro e w13 ⟨u, rfl, hu, hx⟩
      have szw13 := hx.size
      replace X := hd (X.out.trans hx)
      replace B1 := hd (hx.heap B1.out)
      replace O11 := hd (O11.out.ext hx)
      replace B12 := hd (hx.heap B12.out)
      have O14 := hd hu
      clear hx hu
      obtain ⟨kB12_0, kB12_1⟩ := blk2 B12.out
      go_wp2_with fail
      refine (i_IsInterpolant f _ k gs _ _ O11.out.rd bf.out HIf.out HIk.out O14.out.rd bgs.out HIgs.out).mono ?_
      rintro e w16 ⟨rfl, hx⟩
      have szw16 := hx.size
      replace X := hd (X.out.trans hx)
      replace B1 := hd (hx.heap B1.out)
      replace O11 := hd (O11.out.ext hx)
      replace B12 := hd (hx.heap B12.out)
      replace O14 := hd (O14.out.ext hx)
      clear hx kB12_0 kB12_1
      obtain ⟨kB12_0, kB12_1⟩ := blk2 B12.out
      obtain ⟨kB1_0, kB1_1⟩ := blk2 B1.out
      go_wp2_with fail
      go_region_held3 (fun w' => (w'.cell? ⟨w10.heap.size, 0, none⟩ = some (.int .i64 f.n) ∧ w'.cell? ⟨w10.heap.size, 1, none⟩ = some (.slice At11 f.cs.length ct11) ∧ w'.cell? ⟨w.heap.size, 0, none⟩ = some (.int .i64 f.n) ∧ w'.cell? ⟨w.heap.size, 1, none⟩ = some (.slice Af f.cs.length cf)) ∧ Ext w16 w')
        ((refine ⟨⟨Ext.cell ?_ kB12_0, Ext.cell ?_ kB12_1, Ext.cell ?_ kB1_0, Ext.cell ?_ kB1_1⟩, ?_⟩ <;> (first | assumption | exact Ext.refl _ | exact (Ext.refl _).drew)))
        (first
          | (go_at_call 15; refine (u_to_Cnf f _ _ (HAf.out.ext (X.out.trans ((Ext.refl _).drew))) bf.out).mono ?_; rintro e wt ⟨ut, rfl, hut, hxt⟩; have Yt : Ext w16 wt := ((Ext.refl _).drew).trans hxt)
          | (go_at_call 19; refine (u_eq_Cnf f _ _ _ (O11.out.ext Yt).rd hut.rd bf.out).mono ?_; rintro e w18 ⟨rfl, hxe⟩; have hx : Ext w16 w18 := Yt.trans hxe))
      have szw18 := hx.size
      replace X := hd (X.out.trans hx)
      replace B1 := hd (hx.heap B1.out)
      replace O11 := hd (O11.out.ext hx)
      replace B12 := hd (hx.heap B12.out)
      replace O14 := hd (O14.out.ext hx)
      clear hx hxe Yt hxt hut kB12_0 kB12_1 kB1_0 kB1_1
      go_wp2_with fail
      refine (u_to_GateS gs _ _ (HAgs.out.ext X.out) bgs.out).mono ?_
      rintro e w19 ⟨u, rfl, hu, hx⟩
      have szw19 := hx.size
      replace X := hd (X.out.trans hx)
      replace B1 := hd (hx.heap B1.out)
      replace O11 := hd (O11.out.ext hx)
      replace B12 := hd (hx.heap B12.out)
      replace O14 := hd (O14.out.ext hx)
      have O20 := hd hu
      clear hx hu
      go_wp2_with fail
      refine (u_eq_GateS gs _ _ _ O14.out.rd O20.out.rd bgs.out).mono ?_
      rintro e w21 ⟨rfl, hx⟩
      have szw21 := hx.size
      replace X := hd (X.out.trans hx)
      replace B1 := hd (hx.heap B1.out)
      replace O11 := hd (O11.out.ext hx)
      replace B12 := hd (hx.heap B12.out)
      replace O14 := hd (O14.out.ext hx)
      replace O20 := hd (O20.out.ext hx)
      clear hx
      go_wp2
      go_ret
      exact RetT.mk rfl X.out
end Go.Proofs.Ytjeeffmpfdhppaa
