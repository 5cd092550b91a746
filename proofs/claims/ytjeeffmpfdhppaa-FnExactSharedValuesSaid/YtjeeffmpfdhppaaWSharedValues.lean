/-
  FnExactSharedValues: the walk: for all arguments the law returns true. No condition.
-/
import Derived.Test.YtjeeffmpfdhppaaLaw
import Derived.Test.YtjeeffmpfdhppaaFrame
import Derived.Test.YtjeeffmpfdhppaaFrameN
import Derived.Test.YtjeeffmpfdhppaaFrameG
import Derived.Test.YtjeeffmpfdhppaaGateM
import Derived.Test.YtjeeffmpfdhppaaSharedX
namespace Go.Proofs.Ytjeeffmpfdhppaa
open Go.RowKit
set_option maxRecDepth 100000 in
set_option maxHeartbeats 3200000 in
theorem w_FnExactSharedValues (w : World) (f : Cnf) (vf : Value) (hf : Rd_Cnf w vf f) (hif : I64_Cnf f) (k : Int) (hk : I64 k) (gs : List Gat) (vgs : Value) (hgs : Rd_GateS w vgs gs) (higs : I64_GateS gs) :
    Calls Try.prog 3 #[vf, .int .i64 k, vgs] w (RetT w) := by
  have HIf := hd hif; clear hif
  have HAf := hd hf
  obtain ⟨Af, cf, rfl⟩ := hf.form
  clear hf
  have HIk := hd hk; clear hk
  have HIgs := hd higs; clear higs
  have HAgs := hd hgs
  obtain ⟨Ags, cgs, rfl, h1gs, h2gs, -⟩ := hgs.form; unfold maxLen at h2gs
  clear hgs
  have hbz0 := sz_Cnf_bd f 1048576 (by omega)
  generalize hz : sz_Cnf f 1048576 = z0 at *
  have Hz0 := hd hz; clear hz
  have hbz1 := sz_GateS_bd gs z0 (by omega)
  generalize hz : sz_GateS gs z0 = z1 at *
  have Hz1 := hd hz; clear hz
  have X := hd (Ext.refl w)
  replace X := hd (X.out.alloc (.cells #[.int .i64 f.n, .slice Af f.cs.length cf] 24))
  have B1 := hd (blk_new (w := w) (.cells #[.int .i64 f.n, .slice Af f.cs.length cf] 24) rfl)
  have sB1 : w.heap.size < (w.alloc (.cells #[.int .i64 f.n, .slice Af f.cs.length cf] 24)).heap.size := by simp
  go_enter Try.func3, Try.ntmps3
  obtain ⟨kB1_0, kB1_1⟩ := blk2 B1.out
  go_wp2_with fail
  refine (u_sz_Cnf f _ _ _ (HAf.out.ext X.out) (by omega) (by omega)).mono ?_
  rintro e w2 ⟨rfl, hx⟩
  rw [Hz0.out]
  have szw2 := hx.size
  replace X := hd (X.out.trans hx)
  replace B1 := hd (hx.heap B1.out)
  clear hx kB1_0 kB1_1
  by_cases hneg0 : z0 < 0
  · go_wp2
    go_ret
    exact RetT.mk rfl X.out
  ·
    have bf : Hid (Bd_Cnf f) := hd (sz_Cnf_ok (by rw [Hz0.out]; exact hneg0) (by omega))
    go_wp2_with fail
    refine (u_sz_GateS gs _ _ _ (HAgs.out.ext X.out) (by omega) (by omega)).mono ?_
    rintro e w3 ⟨rfl, hx⟩
    rw [Hz1.out]
    have szw3 := hx.size
    replace X := hd (X.out.trans hx)
    replace B1 := hd (hx.heap B1.out)
    clear hx
    by_cases hneg1 : z1 < 0
    · go_wp2
      go_ret
      exact RetT.mk rfl X.out
    ·
      have bgs : Hid (Bd_GateS gs) := hd (sz_GateS_ok (by rw [Hz1.out]; exact hneg1) (by omega))
      obtain ⟨kB1_0, kB1_1⟩ := blk2 B1.out
      go_wp2_with fail
      refine (u_to_Cnf f _ _ (HAf.out.ext X.out) bf.out).mono ?_
      rintro e w4 ⟨u, rfl, hu, hx⟩
      have szw4 := hx.size
      replace X := hd (X.out.trans hx)
      replace B1 := hd (hx.heap B1.out)
      obtain ⟨At5, ct5, rfl, O5⟩ := hu.form
      clear hx hu kB1_0 kB1_1
      go_wp2_with fail
      refine (u_to_GateS gs _ _ (HAgs.out.ext X.out) bgs.out).mono ?_
      rintro e w6 ⟨u, rfl, hu, hx⟩
      have szw6 := hx.size
      replace X := hd (X.out.trans hx)
      replace B1 := hd (hx.heap B1.out)
      replace O5 := hd (O5.out.ext hx)
      have O7 := hd hu
      clear hx hu
      go_wp2_with fail
      refine (s_SharedValues f _ k gs _ _ O5.out.rd bf.out HIf.out HIk.out O7.out.rd bgs.out HIgs.out).mono ?_
      rintro e w9 ⟨u0, rfl, hu0, hx⟩
      have szw9 := hx.size
      replace X := hd (X.out.trans hx)
      replace B1 := hd (hx.heap B1.out)
      replace O5 := hd (O5.out.ext hx)
      replace O7 := hd (O7.out.ext hx)
      have O10 := hd hu0
      clear hx hu0
      clear O5
      clear O7
      obtain ⟨kB1_0, kB1_1⟩ := blk2 B1.out
      go_wp2_with fail
      refine (u_to_Cnf f _ _ (HAf.out.ext X.out) bf.out).mono ?_
      rintro e w11 ⟨u, rfl, hu, hx⟩
      have szw11 := hx.size
      replace X := hd (X.out.trans hx)
      replace B1 := hd (hx.heap B1.out)
      replace O10 := hd (O10.out.ext hx)
      obtain ⟨At12, ct12, rfl, O12⟩ := hu.form
      clear hx hu kB1_0 kB1_1
      replace X := hd (X.out.alloc (.cells #[.int .i64 f.n, .slice At12 f.cs.length ct12] 31))
      replace B1 := hd (blk_old (o' := .cells #[.int .i64 f.n, .slice At12 f.cs.length ct12] 31) B1.out)
      replace O10 := hd (O10.out.ext (Ext.new w11 (.cells #[.int .i64 f.n, .slice At12 f.cs.length ct12] 31)))
      replace O12 := hd (O12.out.ext (Ext.new w11 (.cells #[.int .i64 f.n, .slice At12 f.cs.length ct12] 31)))
      have B13 := hd (blk_new (w := w11) (.cells #[.int .i64 f.n, .slice At12 f.cs.length ct12] 31) rfl)
      have sB13 : w11.heap.size < (w11.alloc (.cells #[.int .i64 f.n, .slice At12 f.cs.length ct12] 31)).heap.size := by simp
      go_wp2_with fail
      refine (u_to_GateS gs _ _ (HAgs.out.ext X.out) bgs.out).mono ?_
      rintro e w14 ⟨u, rfl, hu, hx⟩
      have szw14 := hx.size
      replace X := hd (X.out.trans hx)
      replace B1 := hd (hx.heap B1.out)
      replace O10 := hd (O10.out.ext hx)
      replace O12 := hd (O12.out.ext hx)
      replace B13 := hd (hx.heap B13.out)
      have O15 := hd hu
      clear hx hu
      obtain ⟨kB13_0, kB13_1⟩ := blk2 B13.out
      go_wp2_with fail
      refine (i_SharedValues f _ k gs _ _ O12.out.rd bf.out HIf.out HIk.out O15.out.rd bgs.out HIgs.out).mono ?_
      rintro e w17 ⟨u0, rfl, hu0, hx⟩
      have szw17 := hx.size
      replace X := hd (X.out.trans hx)
      replace B1 := hd (hx.heap B1.out)
      replace O10 := hd (O10.out.ext hx)
      replace O12 := hd (O12.out.ext hx)
      replace B13 := hd (hx.heap B13.out)
      replace O15 := hd (O15.out.ext hx)
      have O18 := hd hu0
      clear hx hu0 kB13_0 kB13_1
      go_wp2_with fail
      refine (u_eq_BoolS (shV f k gs) _ _ _ O18.out.rd O10.out.rd (shV_bd f k gs)).mono ?_
      rintro e w19 ⟨rfl, hx⟩
      have szw19 := hx.size
      replace X := hd (X.out.trans hx)
      replace B1 := hd (hx.heap B1.out)
      replace O10 := hd (O10.out.ext hx)
      replace O12 := hd (O12.out.ext hx)
      replace B13 := hd (hx.heap B13.out)
      replace O15 := hd (O15.out.ext hx)
      replace O18 := hd (O18.out.ext hx)
      clear hx
      obtain ⟨kB13_0, kB13_1⟩ := blk2 B13.out
      obtain ⟨kB1_0, kB1_1⟩ := blk2 B1.out
      go_wp2_with fail
      go_region_held3 (fun w' => (w'.cell? ⟨w11.heap.size, 0, none⟩ = some (.int .i64 f.n) ∧ w'.cell? ⟨w11.heap.size, 1, none⟩ = some (.slice At12 f.cs.length ct12) ∧ w'.cell? ⟨w.heap.size, 0, none⟩ = some (.int .i64 f.n) ∧ w'.cell? ⟨w.heap.size, 1, none⟩ = some (.slice Af f.cs.length cf)) ∧ Ext w19 w')
        ((refine ⟨⟨Ext.cell ?_ kB13_0, Ext.cell ?_ kB13_1, Ext.cell ?_ kB1_0, Ext.cell ?_ kB1_1⟩, ?_⟩ <;> (first | assumption | exact Ext.refl _ | exact (Ext.refl _).drew)))
        (first
          | (go_at_call 15; refine (u_to_Cnf f _ _ (HAf.out.ext (X.out.trans ((Ext.refl _).drew))) bf.out).mono ?_; rintro e wt ⟨ut, rfl, hut, hxt⟩; have Yt : Ext w19 wt := ((Ext.refl _).drew).trans hxt)
          | (go_at_call 19; refine (u_eq_Cnf f _ _ _ (O12.out.ext Yt).rd hut.rd bf.out).mono ?_; rintro e w21 ⟨rfl, hxe⟩; have hx : Ext w19 w21 := Yt.trans hxe))
      have szw21 := hx.size
      replace X := hd (X.out.trans hx)
      replace B1 := hd (hx.heap B1.out)
      replace O10 := hd (O10.out.ext hx)
      replace O12 := hd (O12.out.ext hx)
      replace B13 := hd (hx.heap B13.out)
      replace O15 := hd (O15.out.ext hx)
      replace O18 := hd (O18.out.ext hx)
      clear hx hxe Yt hxt hut kB13_0 kB13_1 kB1_0 kB1_1
      go_wp2_with fail
      refine (u_to_GateS gs _ _ (HAgs.out.ext X.out) bgs.out).mono ?_
      rintro e w22 ⟨u, rfl, hu, hx⟩
      have szw22 := hx.size
      replace X := hd (X.out.trans hx)
      replace B1 := hd (hx.heap B1.out)
      replace O10 := hd (O10.out.ext hx)
      replace O12 := hd (O12.out.ext hx)
      replace B13 := hd (hx.heap B13.out)
      replace O15 := hd (O15.out.ext hx)
      replace O18 := hd (O18.out.ext hx)
      have O23 := hd hu
      clear hx hu
      go_wp2_with fail
      refine (u_eq_GateS gs _ _ _ O15.out.rd O23.out.rd bgs.out).mono ?_
      rintro e w24 ⟨rfl, hx⟩
      have szw24 := hx.size
      replace X := hd (X.out.trans hx)
      replace B1 := hd (hx.heap B1.out)
      replace O10 := hd (O10.out.ext hx)
      replace O12 := hd (O12.out.ext hx)
      replace B13 := hd (hx.heap B13.out)
      replace O15 := hd (O15.out.ext hx)
      replace O18 := hd (O18.out.ext hx)
      replace O23 := hd (O23.out.ext hx)
      clear hx
      have lnO12 := len_Cnf_bd bf.out
      obtain ⟨kB13_0, kB13_1⟩ := blk2 B13.out
      go_wp2_with fail
      refine (u_mark_Cnf f _ _ _ _ _ O12.out (by omega) bf.out (by omega) (by omega)).mono ?_
      rintro e w25 ⟨rfl, hm, ht⟩
      clear O12
      have szw25 := ht.size
      replace X := hd (touch_ext X.out ht (by omega))
      replace B1 := hd (touch_blk' ht B1.out (by omega))
      replace O10 := hd (O10.out.touch ht (by omega))
      replace B13 := hd (touch_blk' ht B13.out (by omega))
      replace O15 := hd (O15.out.touch ht (by omega))
      replace O18 := hd (O18.out.touch ht (by omega))
      replace O23 := hd (O23.out.touch ht (by omega))
      clear hm ht kB13_0 kB13_1
      have lnO15 := len_GateS_bd bgs.out
      go_wp2_with fail
      refine (u_mark_GateS gs _ _ _ _ _ O15.out (by omega) bgs.out (by omega) (by omega)).mono ?_
      rintro e w27 ⟨rfl, hm, ht⟩
      clear O15
      have szw27 := ht.size
      replace X := hd (touch_ext X.out ht (by omega))
      replace B1 := hd (touch_blk' ht B1.out (by omega))
      replace O10 := hd (O10.out.touch ht (by omega))
      replace B13 := hd (touch_blk' ht B13.out (by omega))
      replace O18 := hd (O18.out.touch ht (by omega))
      replace O23 := hd (O23.out.touch ht (by omega))
      clear hm ht
      go_wp2_with fail
      refine (u_eq_BoolS (shV f k gs) _ _ _ O18.out.rd O10.out.rd (shV_bd f k gs)).mono ?_
      rintro e w29 ⟨rfl, hx⟩
      have szw29 := hx.size
      replace X := hd (X.out.trans hx)
      replace B1 := hd (hx.heap B1.out)
      replace O10 := hd (O10.out.ext hx)
      replace B13 := hd (hx.heap B13.out)
      replace O18 := hd (O18.out.ext hx)
      replace O23 := hd (O23.out.ext hx)
      clear hx
      have lnO18 := len_BoolS_bd (shV_bd f k gs)
      go_wp2_with fail
      refine (u_mark_BoolS (shV f k gs) _ _ _ _ _ O18.out (by omega) (shV_bd f k gs) (by omega) (by omega)).mono ?_
      rintro e w30 ⟨rfl, hm, ht⟩
      clear O18
      have szw30 := ht.size
      replace X := hd (touch_ext X.out ht (by omega))
      replace B1 := hd (touch_blk' ht B1.out (by omega))
      replace O10 := hd (O10.out.touch ht (by omega))
      replace B13 := hd (touch_blk' ht B13.out (by omega))
      replace O23 := hd (O23.out.touch ht (by omega))
      have M31 := hd hm
      clear hm ht
      go_wp2_with fail
      refine (u_held_BoolS (shV f k gs) _ _ _ M31.out (shV_bd f k gs) (by omega) (by omega)).mono ?_
      rintro e w32 ⟨rfl, hx⟩
      have szw32 := hx.size
      replace X := hd (X.out.trans hx)
      replace B1 := hd (hx.heap B1.out)
      replace O10 := hd (O10.out.ext hx)
      replace B13 := hd (hx.heap B13.out)
      replace O23 := hd (O23.out.ext hx)
      replace M31 := hd (M31.out.ext hx)
      clear hx
      obtain ⟨kB1_0, kB1_1⟩ := blk2 B1.out
      go_wp2_with fail
      refine (u_to_Cnf f _ _ (HAf.out.ext X.out) bf.out).mono ?_
      rintro e w33 ⟨u, rfl, hu, hx⟩
      have szw33 := hx.size
      replace X := hd (X.out.trans hx)
      replace B1 := hd (hx.heap B1.out)
      replace O10 := hd (O10.out.ext hx)
      replace B13 := hd (hx.heap B13.out)
      replace O23 := hd (O23.out.ext hx)
      replace M31 := hd (M31.out.ext hx)
      obtain ⟨At34, ct34, rfl, O34⟩ := hu.form
      clear hx hu kB1_0 kB1_1
      go_wp2_with fail
      refine (u_to_GateS gs _ _ (HAgs.out.ext X.out) bgs.out).mono ?_
      rintro e w35 ⟨u, rfl, hu, hx⟩
      have szw35 := hx.size
      replace X := hd (X.out.trans hx)
      replace B1 := hd (hx.heap B1.out)
      replace O10 := hd (O10.out.ext hx)
      replace B13 := hd (hx.heap B13.out)
      replace O23 := hd (O23.out.ext hx)
      replace M31 := hd (M31.out.ext hx)
      replace O34 := hd (O34.out.ext hx)
      have O36 := hd hu
      clear hx hu
      go_wp2_with fail
      refine (i_SharedValues f _ k gs _ _ O34.out.rd bf.out HIf.out HIk.out O36.out.rd bgs.out HIgs.out).mono ?_
      rintro e w38 ⟨u0, rfl, hu0, hx⟩
      have szw38 := hx.size
      replace X := hd (X.out.trans hx)
      replace B1 := hd (hx.heap B1.out)
      replace O10 := hd (O10.out.ext hx)
      replace B13 := hd (hx.heap B13.out)
      replace O23 := hd (O23.out.ext hx)
      replace M31 := hd (M31.out.ext hx)
      replace O34 := hd (O34.out.ext hx)
      replace O36 := hd (O36.out.ext hx)
      have O39 := hd hu0
      clear hx hu0
      clear O34
      clear O36
      go_wp2_with fail
      refine (u_eq_BoolS (shV f k gs) _ _ _ O39.out.rd O10.out.rd (shV_bd f k gs)).mono ?_
      rintro e w40 ⟨rfl, hx⟩
      have szw40 := hx.size
      replace X := hd (X.out.trans hx)
      replace B1 := hd (hx.heap B1.out)
      replace O10 := hd (O10.out.ext hx)
      replace B13 := hd (hx.heap B13.out)
      replace O23 := hd (O23.out.ext hx)
      replace M31 := hd (M31.out.ext hx)
      replace O39 := hd (O39.out.ext hx)
      clear hx
      go_wp2_with fail
      refine (u_held_BoolS (shV f k gs) _ _ _ M31.out (shV_bd f k gs) (by omega) (by omega)).mono ?_
      rintro e w41 ⟨rfl, hx⟩
      have szw41 := hx.size
      replace X := hd (X.out.trans hx)
      replace B1 := hd (hx.heap B1.out)
      replace O10 := hd (O10.out.ext hx)
      replace B13 := hd (hx.heap B13.out)
      replace O23 := hd (O23.out.ext hx)
      replace M31 := hd (M31.out.ext hx)
      replace O39 := hd (O39.out.ext hx)
      clear hx
      go_wp2
      go_ret
      exact RetT.mk rfl X.out
end Go.Proofs.Ytjeeffmpfdhppaa
