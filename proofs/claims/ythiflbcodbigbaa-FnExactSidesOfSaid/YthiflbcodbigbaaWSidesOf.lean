/-
  FnExactSidesOf: the walk: for all arguments the law returns true. No condition.
-/
import Derived.Test.YthiflbcodbigbaaLaw
import Derived.Test.YthiflbcodbigbaaFrame
import Derived.Test.YthiflbcodbigbaaFrameN
import Derived.Test.YthiflbcodbigbaaSides
namespace Go.Proofs.Ythiflbcodbigbaa
open Go.RowKit
set_option maxRecDepth 100000 in
set_option maxHeartbeats 3200000 in
theorem w_FnExactSidesOf (w : World) (f : Cnf) (vf : Value) (hf : Rd_Cnf w vf f) (hif : I64_Cnf f) (k : Int) (hk : I64 k) :
    Calls Try.prog 5 #[vf, .int .i64 k] w (RetT w) := by
  have HIf := hd hif; clear hif
  have HAf := hd hf
  obtain ⟨Af, cf, rfl⟩ := hf.form
  clear hf
  have HIk := hd hk; clear hk
  have hbz0 := sz_Cnf_bd f 1048576 (by omega)
  generalize hz : sz_Cnf f 1048576 = z0 at *
  have Hz0 := hd hz; clear hz
  have X := hd (Ext.refl w)
  replace X := hd (X.out.alloc (.cells #[.int .i64 f.n, .slice Af f.cs.length cf] 24))
  have B1 := hd (blk_new (w := w) (.cells #[.int .i64 f.n, .slice Af f.cs.length cf] 24) rfl)
  have sB1 : w.heap.size < (w.alloc (.cells #[.int .i64 f.n, .slice Af f.cs.length cf] 24)).heap.size := by simp
  go_enter Try.func5, Try.ntmps5
  obtain ⟨kB1_0, kB1_1⟩ := blk2 B1.out
  go_wp2_with fail
  refine (u_sz_Cnf f _ _ _ (HAf.out.ext X.out) (by omega) (by omega)).mono ?_
  rintro e w2 ⟨rfl, hx⟩
  rw [Hz0.out]
  have szw2 := hx.size
  replace X := hd (X.out.trans hx)
  replace B1 := hd (hx.heap B1.out)
  clear hx kB1_0 kB1_1
  by_cases hneg0 : z0 < 0
  · go_wp2
    go_ret
    exact RetT.mk rfl X.out
  ·
    have bf : Hid (Bd_Cnf f) := hd (sz_Cnf_ok (by rw [Hz0.out]; exact hneg0) (by omega))
    obtain ⟨kB1_0, kB1_1⟩ := blk2 B1.out
    go_wp2_with fail
    refine (u_to_Cnf f _ _ (HAf.out.ext X.out) bf.out).mono ?_
    rintro e w3 ⟨u, rfl, hu, hx⟩
    have szw3 := hx.size
    replace X := hd (X.out.trans hx)
    replace B1 := hd (hx.heap B1.out)
    obtain ⟨At4, ct4, rfl, O4⟩ := hu.form
    clear hx hu kB1_0 kB1_1
    go_wp2_with fail
    refine (s_SidesOf f _ k _ O4.out.rd bf.out HIf.out HIk.out).mono ?_
    rintro e w6 ⟨u0, u1, u2, rfl, hu0, hu1, hu2, hx⟩
    have szw6 := hx.size
    replace X := hd (X.out.trans hx)
    replace B1 := hd (hx.heap B1.out)
    replace O4 := hd (O4.out.ext hx)
    have O7 := hd hu0
    have O8 := hd hu1
    have O9 := hd hu2
    clear hx hu0 hu1 hu2
    clear O4
    obtain ⟨kB1_0, kB1_1⟩ := blk2 B1.out
    go_wp2_with fail
    refine (u_to_Cnf f _ _ (HAf.out.ext X.out) bf.out).mono ?_
    rintro e w10 ⟨u, rfl, hu, hx⟩
    have szw10 := hx.size
    replace X := hd (X.out.trans hx)
    replace B1 := hd (hx.heap B1.out)
    replace O7 := hd (O7.out.ext hx)
    replace O8 := hd (O8.out.ext hx)
    replace O9 := hd (O9.out.ext hx)
    obtain ⟨At11, ct11, rfl, O11⟩ := hu.form
    clear hx hu kB1_0 kB1_1
    replace X := hd (X.out.alloc (.cells #[.int .i64 f.n, .slice At11 f.cs.length ct11] 28))
    replace B1 := hd (blk_old (o' := .cells #[.int .i64 f.n, .slice At11 f.cs.length ct11] 28) B1.out)
    replace O7 := hd (O7.out.ext (Ext.new w10 (.cells #[.int .i64 f.n, .slice At11 f.cs.length ct11] 28)))
    replace O8 := hd (O8.out.ext (Ext.new w10 (.cells #[.int .i64 f.n, .slice At11 f.cs.length ct11] 28)))
    replace O9 := hd (O9.out.ext (Ext.new w10 (.cells #[.int .i64 f.n, .slice At11 f.cs.length ct11] 28)))
    replace O11 := hd (O11.out.ext (Ext.new w10 (.cells #[.int .i64 f.n, .slice At11 f.cs.length ct11] 28)))
    have B12 := hd (blk_new (w := w10) (.cells #[.int .i64 f.n, .slice At11 f.cs.length ct11] 28) rfl)
    have sB12 : w10.heap.size < (w10.alloc (.cells #[.int .i64 f.n, .slice At11 f.cs.length ct11] 28)).heap.size := by simp
    obtain ⟨kB12_0, kB12_1⟩ := blk2 B12.out
    go_wp2_with fail
    refine (i_SidesOf f _ k _ O11.out.rd bf.out HIf.out HIk.out).mono ?_
    rintro e w14 ⟨u0, u1, u2, x13, y13, rfl, hu0, hu1, hu2, ia13, ib13, ic13, hx⟩
    have szw14 := hx.size
    replace X := hd (X.out.trans hx)
    replace B1 := hd (hx.heap B1.out)
    replace O7 := hd (O7.out.ext hx)
    replace O8 := hd (O8.out.ext hx)
    replace O9 := hd (O9.out.ext hx)
    replace O11 := hd (O11.out.ext hx)
    replace B12 := hd (hx.heap B12.out)
    have O15 := hd hu0
    have O16 := hd hu1
    have O17 := hd hu2
    clear hx hu0 hu1 hu2 kB12_0 kB12_1
    go_wp2_with fail
    refine (u_eq_IntS (sideL f k) _ _ _ O15.out.rd O7.out.rd (sideL_bd f k)).mono ?_
    rintro e w18 ⟨rfl, hx⟩
    have szw18 := hx.size
    replace X := hd (X.out.trans hx)
    replace B1 := hd (hx.heap B1.out)
    replace O7 := hd (O7.out.ext hx)
    replace O8 := hd (O8.out.ext hx)
    replace O9 := hd (O9.out.ext hx)
    replace O11 := hd (O11.out.ext hx)
    replace B12 := hd (hx.heap B12.out)
    replace O15 := hd (O15.out.ext hx)
    replace O16 := hd (O16.out.ext hx)
    replace O17 := hd (O17.out.ext hx)
    clear hx
    go_wp2_with fail
    refine (u_eq_IntS (sideR f k) _ _ _ O16.out.rd O8.out.rd (sideR_bd f k)).mono ?_
    rintro e w19 ⟨rfl, hx⟩
    have szw19 := hx.size
    replace X := hd (X.out.trans hx)
    replace B1 := hd (hx.heap B1.out)
    replace O7 := hd (O7.out.ext hx)
    replace O8 := hd (O8.out.ext hx)
    replace O9 := hd (O9.out.ext hx)
    replace O11 := hd (O11.out.ext hx)
    replace B12 := hd (hx.heap B12.out)
    replace O15 := hd (O15.out.ext hx)
    replace O16 := hd (O16.out.ext hx)
    replace O17 := hd (O17.out.ext hx)
    clear hx
    go_wp2_with fail
    refine (u_eq_IntS (sideS f k) _ _ _ O17.out.rd O9.out.rd (sideS_bd f k)).mono ?_
    rintro e w20 ⟨rfl, hx⟩
    have szw20 := hx.size
    replace X := hd (X.out.trans hx)
    replace B1 := hd (hx.heap B1.out)
    replace O7 := hd (O7.out.ext hx)
    replace O8 := hd (O8.out.ext hx)
    replace O9 := hd (O9.out.ext hx)
    replace O11 := hd (O11.out.ext hx)
    replace B12 := hd (hx.heap B12.out)
    replace O15 := hd (O15.out.ext hx)
    replace O16 := hd (O16.out.ext hx)
    replace O17 := hd (O17.out.ext hx)
    clear hx
    obtain ⟨kB12_0, kB12_1⟩ := blk2 B12.out
    obtain ⟨kB1_0, kB1_1⟩ := blk2 B1.out
    go_wp2_with fail
    go_region_held3 (fun w' => (w'.cell? ⟨w10.heap.size, 0, none⟩ = some (.int .i64 f.n) ∧ w'.cell? ⟨w10.heap.size, 1, none⟩ = some (.slice At11 f.cs.length ct11) ∧ w'.cell? ⟨w.heap.size, 0, none⟩ = some (.int .i64 f.n) ∧ w'.cell? ⟨w.heap.size, 1, none⟩ = some (.slice Af f.cs.length cf)) ∧ Ext w20 w')
      ((refine ⟨⟨Ext.cell ?_ kB12_0, Ext.cell ?_ kB12_1, Ext.cell ?_ kB1_0, Ext.cell ?_ kB1_1⟩, ?_⟩ <;> (first | assumption | exact Ext.refl _ | exact (Ext.refl _).drew)))
      (first
        | (go_at_call 20; refine (u_to_Cnf f _ _ (HAf.out.ext (X.out.trans ((Ext.refl _).drew))) bf.out).mono ?_; rintro e wt ⟨ut, rfl, hut, hxt⟩; have Yt : Ext w20 wt := ((Ext.refl _).drew).trans hxt)
        | (go_at_call 22; refine (u_eq_Cnf f _ _ _ (O11.out.ext Yt).rd hut.rd bf.out).mono ?_; rintro e w22 ⟨rfl, hxe⟩; have hx : Ext w20 w22 := Yt.trans hxe))
    have szw22 := hx.size
    replace X := hd (X.out.trans hx)
    replace B1 := hd (hx.heap B1.out)
    replace O7 := hd (O7.out.ext hx)
    replace O8 := hd (O8.out.ext hx)
    replace O9 := hd (O9.out.ext hx)
    replace O11 := hd (O11.out.ext hx)
    replace B12 := hd (hx.heap B12.out)
    replace O15 := hd (O15.out.ext hx)
    replace O16 := hd (O16.out.ext hx)
    replace O17 := hd (O17.out.ext hx)
    clear hx hxe Yt hxt hut kB12_0 kB12_1 kB1_0 kB1_1
    have lnO11 := len_Cnf_bd bf.out
    obtain ⟨kB12_0, kB12_1⟩ := blk2 B12.out
    go_wp2_with fail
    refine (u_mark_Cnf f _ _ _ _ _ O11.out (by omega) bf.out (by omega) (by omega)).mono ?_
    rintro e w23 ⟨rfl, hm, ht⟩
    clear O11
    have szw23 := ht.size
    replace X := hd (touch_ext X.out ht (by omega))
    replace B1 := hd (touch_blk' ht B1.out (by omega))
    replace O7 := hd (O7.out.touch ht (by omega))
    replace O8 := hd (O8.out.touch ht (by omega))
    replace O9 := hd (O9.out.touch ht (by omega))
    replace B12 := hd (touch_blk' ht B12.out (by omega))
    replace O15 := hd (O15.out.touch ht (by omega))
    replace O16 := hd (O16.out.touch ht (by omega))
    replace O17 := hd (O17.out.touch ht (by omega))
    clear hm ht kB12_0 kB12_1
    go_wp2_with fail
    refine (u_eq_IntS (sideL f k) _ _ _ O15.out.rd O7.out.rd (sideL_bd f k)).mono ?_
    rintro e w25 ⟨rfl, hx⟩
    have szw25 := hx.size
    replace X := hd (X.out.trans hx)
    replace B1 := hd (hx.heap B1.out)
    replace O7 := hd (O7.out.ext hx)
    replace O8 := hd (O8.out.ext hx)
    replace O9 := hd (O9.out.ext hx)
    replace B12 := hd (hx.heap B12.out)
    replace O15 := hd (O15.out.ext hx)
    replace O16 := hd (O16.out.ext hx)
    replace O17 := hd (O17.out.ext hx)
    clear hx
    go_wp2_with fail
    refine (u_eq_IntS (sideR f k) _ _ _ O16.out.rd O8.out.rd (sideR_bd f k)).mono ?_
    rintro e w26 ⟨rfl, hx⟩
    have szw26 := hx.size
    replace X := hd (X.out.trans hx)
    replace B1 := hd (hx.heap B1.out)
    replace O7 := hd (O7.out.ext hx)
    replace O8 := hd (O8.out.ext hx)
    replace O9 := hd (O9.out.ext hx)
    replace B12 := hd (hx.heap B12.out)
    replace O15 := hd (O15.out.ext hx)
    replace O16 := hd (O16.out.ext hx)
    replace O17 := hd (O17.out.ext hx)
    clear hx
    go_wp2_with fail
    refine (u_eq_IntS (sideS f k) _ _ _ O17.out.rd O9.out.rd (sideS_bd f k)).mono ?_
    rintro e w27 ⟨rfl, hx⟩
    have szw27 := hx.size
    replace X := hd (X.out.trans hx)
    replace B1 := hd (hx.heap B1.out)
    replace O7 := hd (O7.out.ext hx)
    replace O8 := hd (O8.out.ext hx)
    replace O9 := hd (O9.out.ext hx)
    replace B12 := hd (hx.heap B12.out)
    replace O15 := hd (O15.out.ext hx)
    replace O16 := hd (O16.out.ext hx)
    replace O17 := hd (O17.out.ext hx)
    clear hx
    have lnO15 := len_IntS_bd (sideL_bd f k)
    go_wp2_with fail
    refine (u_markO_IntS (sideL f k) _ _ _ _ _ O15.out (by omega) (sideL_bd f k) (by omega) (by omega)).mono ?_
    rintro e w28 ⟨rfl, hm, ht⟩
    clear O15
    have szw28 := ht.size
    replace X := hd (touch_ext X.out ht (by omega))
    replace B1 := hd (touch_blk' ht B1.out (by omega))
    replace O7 := hd (O7.out.touch ht (by omega))
    replace O8 := hd (O8.out.touch ht (by omega))
    replace O9 := hd (O9.out.touch ht (by omega))
    replace B12 := hd (touch_blk' ht B12.out (by omega))
    replace O16 := hd (O16.out.touch ht (by omega))
    replace O17 := hd (O17.out.touch ht (by omega))
    have M29 := hd hm
    clear hm ht
    have lnO16 := len_IntS_bd (sideR_bd f k)
    go_wp2_with fail
    refine (u_markO_IntS (sideR f k) _ _ _ _ _ O16.out (by omega) (sideR_bd f k) (by omega) (by omega)).mono ?_
    rintro e w30 ⟨rfl, hm, ht⟩
    clear O16
    have szw30 := ht.size
    replace X := hd (touch_ext X.out ht (by omega))
    replace B1 := hd (touch_blk' ht B1.out (by omega))
    replace O7 := hd (O7.out.touch ht (by omega))
    replace O8 := hd (O8.out.touch ht (by omega))
    replace O9 := hd (O9.out.touch ht (by omega))
    replace B12 := hd (touch_blk' ht B12.out (by omega))
    replace O17 := hd (O17.out.touch ht (by omega))
    replace M29 := hd (M29.out.touch ht (by omega))
    have M31 := hd hm
    clear hm ht
    have lnO17 := len_IntS_bd (sideS_bd f k)
    go_wp2_with fail
    refine (u_markO_IntS (sideS f k) _ _ _ _ _ O17.out (by omega) (sideS_bd f k) (by omega) (by omega)).mono ?_
    rintro e w32 ⟨rfl, hm, ht⟩
    clear O17
    have szw32 := ht.size
    replace X := hd (touch_ext X.out ht (by omega))
    replace B1 := hd (touch_blk' ht B1.out (by omega))
    replace O7 := hd (O7.out.touch ht (by omega))
    replace O8 := hd (O8.out.touch ht (by omega))
    replace O9 := hd (O9.out.touch ht (by omega))
    replace B12 := hd (touch_blk' ht B12.out (by omega))
    replace M29 := hd (M29.out.touch ht (by omega))
    replace M31 := hd (M31.out.touch ht (by omega))
    have M33 := hd hm
    clear hm ht
    go_wp2_with fail
    refine (u_held_IntS (sideL f k) _ _ _ M29.out.rd (sideL_bd f k) (by omega) (by omega)).mono ?_
    rintro e w34 ⟨rfl, hx⟩
    have szw34 := hx.size
    replace X := hd (X.out.trans hx)
    replace B1 := hd (hx.heap B1.out)
    replace O7 := hd (O7.out.ext hx)
    replace O8 := hd (O8.out.ext hx)
    replace O9 := hd (O9.out.ext hx)
    replace B12 := hd (hx.heap B12.out)
    replace M29 := hd (M29.out.ext hx)
    replace M31 := hd (M31.out.ext hx)
    replace M33 := hd (M33.out.ext hx)
    clear hx
    go_wp2_with fail
    refine (u_held_IntS (sideR f k) _ _ _ M31.out.rd (sideR_bd f k) (by omega) (by omega)).mono ?_
    rintro e w35 ⟨rfl, hx⟩
    have szw35 := hx.size
    replace X := hd (X.out.trans hx)
    replace B1 := hd (hx.heap B1.out)
    replace O7 := hd (O7.out.ext hx)
    replace O8 := hd (O8.out.ext hx)
    replace O9 := hd (O9.out.ext hx)
    replace B12 := hd (hx.heap B12.out)
    replace M29 := hd (M29.out.ext hx)
    replace M31 := hd (M31.out.ext hx)
    replace M33 := hd (M33.out.ext hx)
    clear hx
    go_wp2_with fail
    refine (u_held_IntS (sideS f k) _ _ _ M33.out.rd (sideS_bd f k) (by omega) (by omega)).mono ?_
    rintro e w36 ⟨rfl, hx⟩
    have szw36 := hx.size
    replace X := hd (X.out.trans hx)
    replace B1 := hd (hx.heap B1.out)
    replace O7 := hd (O7.out.ext hx)
    replace O8 := hd (O8.out.ext hx)
    replace O9 := hd (O9.out.ext hx)
    replace B12 := hd (hx.heap B12.out)
    replace M29 := hd (M29.out.ext hx)
    replace M31 := hd (M31.out.ext hx)
    replace M33 := hd (M33.out.ext hx)
    clear hx
    obtain ⟨kB1_0, kB1_1⟩ := blk2 B1.out
    go_wp2_with fail
    refine (u_to_Cnf f _ _ (HAf.out.ext X.out) bf.out).mono ?_
    rintro e w37 ⟨u, rfl, hu, hx⟩
    have szw37 := hx.size
    replace X := hd (X.out.trans hx)
    replace B1 := hd (hx.heap B1.out)
    replace O7 := hd (O7.out.ext hx)
    replace O8 := hd (O8.out.ext hx)
    replace O9 := hd (O9.out.ext hx)
    replace B12 := hd (hx.heap B12.out)
    replace M29 := hd (M29.out.ext hx)
    replace M31 := hd (M31.out.ext hx)
    replace M33 := hd (M33.out.ext hx)
    obtain ⟨At38, ct38, rfl, O38⟩ := hu.form
    clear hx hu kB1_0 kB1_1
    go_wp2_with fail
    refine (i_SidesOf f _ k _ O38.out.rd bf.out HIf.out HIk.out).mono ?_
    rintro e w40 ⟨u0, u1, u2, x39, y39, rfl, hu0, hu1, hu2, ia39, ib39, ic39, hx⟩
    have szw40 := hx.size
    replace X := hd (X.out.trans hx)
    replace B1 := hd (hx.heap B1.out)
    replace O7 := hd (O7.out.ext hx)
    replace O8 := hd (O8.out.ext hx)
    replace O9 := hd (O9.out.ext hx)
    replace B12 := hd (hx.heap B12.out)
    replace M29 := hd (M29.out.ext hx)
    replace M31 := hd (M31.out.ext hx)
    replace M33 := hd (M33.out.ext hx)
    replace O38 := hd (O38.out.ext hx)
    have O41 := hd hu0
    have O42 := hd hu1
    have O43 := hd hu2
    clear hx hu0 hu1 hu2
    clear O38
    go_wp2_with fail
    refine (u_eq_IntS (sideL f k) _ _ _ O41.out.rd O7.out.rd (sideL_bd f k)).mono ?_
    rintro e w44 ⟨rfl, hx⟩
    have szw44 := hx.size
    replace X := hd (X.out.trans hx)
    replace B1 := hd (hx.heap B1.out)
    replace O7 := hd (O7.out.ext hx)
    replace O8 := hd (O8.out.ext hx)
    replace O9 := hd (O9.out.ext hx)
    replace B12 := hd (hx.heap B12.out)
    replace M29 := hd (M29.out.ext hx)
    replace M31 := hd (M31.out.ext hx)
    replace M33 := hd (M33.out.ext hx)
    replace O41 := hd (O41.out.ext hx)
    replace O42 := hd (O42.out.ext hx)
    replace O43 := hd (O43.out.ext hx)
    clear hx
    go_wp2_with fail
    refine (u_eq_IntS (sideR f k) _ _ _ O42.out.rd O8.out.rd (sideR_bd f k)).mono ?_
    rintro e w45 ⟨rfl, hx⟩
    have szw45 := hx.size
    replace X := hd (X.out.trans hx)
    replace B1 := hd (hx.heap B1.out)
    replace O7 := hd (O7.out.ext hx)
    replace O8 := hd (O8.out.ext hx)
    replace O9 := hd (O9.out.ext hx)
    replace B12 := hd (hx.heap B12.out)
    replace M29 := hd (M29.out.ext hx)
    replace M31 := hd (M31.out.ext hx)
    replace M33 := hd (M33.out.ext hx)
    replace O41 := hd (O41.out.ext hx)
    replace O42 := hd (O42.out.ext hx)
    replace O43 := hd (O43.out.ext hx)
    clear hx
    go_wp2_with fail
    refine (u_eq_IntS (sideS f k) _ _ _ O43.out.rd O9.out.rd (sideS_bd f k)).mono ?_
    rintro e w46 ⟨rfl, hx⟩
    have szw46 := hx.size
    replace X := hd (X.out.trans hx)
    replace B1 := hd (hx.heap B1.out)
    replace O7 := hd (O7.out.ext hx)
    replace O8 := hd (O8.out.ext hx)
    replace O9 := hd (O9.out.ext hx)
    replace B12 := hd (hx.heap B12.out)
    replace M29 := hd (M29.out.ext hx)
    replace M31 := hd (M31.out.ext hx)
    replace M33 := hd (M33.out.ext hx)
    replace O41 := hd (O41.out.ext hx)
    replace O42 := hd (O42.out.ext hx)
    replace O43 := hd (O43.out.ext hx)
    clear hx
    go_wp2_with fail
    refine (u_held_IntS (sideL f k) _ _ _ M29.out.rd (sideL_bd f k) (by omega) (by omega)).mono ?_
    rintro e w47 ⟨rfl, hx⟩
    have szw47 := hx.size
    replace X := hd (X.out.trans hx)
    replace B1 := hd (hx.heap B1.out)
    replace O7 := hd (O7.out.ext hx)
    replace O8 := hd (O8.out.ext hx)
    replace O9 := hd (O9.out.ext hx)
    replace B12 := hd (hx.heap B12.out)
    replace M29 := hd (M29.out.ext hx)
    replace M31 := hd (M31.out.ext hx)
    replace M33 := hd (M33.out.ext hx)
    replace O41 := hd (O41.out.ext hx)
    replace O42 := hd (O42.out.ext hx)
    replace O43 := hd (O43.out.ext hx)
    clear hx
    go_wp2_with fail
    refine (u_held_IntS (sideR f k) _ _ _ M31.out.rd (sideR_bd f k) (by omega) (by omega)).mono ?_
    rintro e w48 ⟨rfl, hx⟩
    have szw48 := hx.size
    replace X := hd (X.out.trans hx)
    replace B1 := hd (hx.heap B1.out)
    replace O7 := hd (O7.out.ext hx)
    replace O8 := hd (O8.out.ext hx)
    replace O9 := hd (O9.out.ext hx)
    replace B12 := hd (hx.heap B12.out)
    replace M29 := hd (M29.out.ext hx)
    replace M31 := hd (M31.out.ext hx)
    replace M33 := hd (M33.out.ext hx)
    replace O41 := hd (O41.out.ext hx)
    replace O42 := hd (O42.out.ext hx)
    replace O43 := hd (O43.out.ext hx)
    clear hx
    go_wp2_with fail
    refine (u_held_IntS (sideS f k) _ _ _ M33.out.rd (sideS_bd f k) (by omega) (by omega)).mono ?_
    rintro e w49 ⟨rfl, hx⟩
    have szw49 := hx.size
    replace X := hd (X.out.trans hx)
    replace B1 := hd (hx.heap B1.out)
    replace O7 := hd (O7.out.ext hx)
    replace O8 := hd (O8.out.ext hx)
    replace O9 := hd (O9.out.ext hx)
    replace B12 := hd (hx.heap B12.out)
    replace M29 := hd (M29.out.ext hx)
    replace M31 := hd (M31.out.ext hx)
    replace M33 := hd (M33.out.ext hx)
    replace O41 := hd (O41.out.ext hx)
    replace O42 := hd (O42.out.ext hx)
    replace O43 := hd (O43.out.ext hx)
    clear hx
    go_wp2
    go_ret
    exact RetT.mk rfl X.out
end Go.Proofs.Ythiflbcodbigbaa
