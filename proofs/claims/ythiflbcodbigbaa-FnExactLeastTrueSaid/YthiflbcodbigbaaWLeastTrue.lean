/-
  FnExactLeastTrue: the walk: for all arguments the law returns true. No condition.
-/
import Derived.Test.YthiflbcodbigbaaLaw
import Derived.Test.YthiflbcodbigbaaFrame
import Derived.Test.YthiflbcodbigbaaFrameN
import Derived.Test.YthiflbcodbigbaaLeast
namespace Go.Proofs.Ythiflbcodbigbaa
open Go.RowKit
set_option maxRecDepth 100000 in
set_option maxHeartbeats 3200000 in
theorem w_FnExactLeastTrue (w : World) (f : Cnf) (vf : Value) (hf : Rd_Cnf w vf f) (hif : I64_Cnf f) (k : Int) (hk : I64 k) :
    Calls Try.prog 16 #[vf, .int .i64 k] w (RetT w) := by
  have HIf := hd hif; clear hif
  have HAf := hd hf
  obtain ⟨Af, cf, rfl⟩ := hf.form
  clear hf
  have HIk := hd hk; clear hk
  have hbz0 := sz_Cnf_bd f 1048576 (by omega)
  generalize hz : sz_Cnf f 1048576 = z0 at *
  have Hz0 := hd hz; clear hz
  have X := hd (Ext.refl w)
  replace X := hd (X.out.alloc (.cells #[.int .i64 f.n, .slice Af f.cs.length cf] 24))
  have B1 := hd (blk_new (w := w) (.cells #[.int .i64 f.n, .slice Af f.cs.length cf] 24) rfl)
  have sB1 : w.heap.size < (w.alloc (.cells #[.int .i64 f.n, .slice Af f.cs.length cf] 24)).heap.size := by simp
  go_enter Try.func16, Try.ntmps16
  obtain ⟨kB1_0, kB1_1⟩ := blk2 B1.out
  go_wp2_with fail
  refine (u_sz_Cnf f _ _ _ (HAf.out.ext X.out) (by omega) (by omega)).mono ?_
  rintro e w2 ⟨rfl, hx⟩
  rw [Hz0.out]
  have szw2 := hx.size
  replace X := hd (X.out.trans hx)
  replace B1 := hd (hx.heap B1.out)
  clear hx kB1_0 kB1_1
  by_cases hneg0 : z0 < 0
  · go_wp2
    go_ret
    exact RetT.mk rfl X.out
  ·
    have bf : Hid (Bd_Cnf f) := hd (sz_Cnf_ok (by rw [Hz0.out]; exact hneg0) (by omega))
    obtain ⟨kB1_0, kB1_1⟩ := blk2 B1.out
    go_wp2_with fail
    refine (u_to_Cnf f _ _ (HAf.out.ext X.out) bf.out).mono ?_
    rintro e w3 ⟨u, rfl, hu, hx⟩
    have szw3 := hx.size
    replace X := hd (X.out.trans hx)
    replace B1 := hd (hx.heap B1.out)
    obtain ⟨At4, ct4, rfl, O4⟩ := hu.form
    clear hx hu kB1_0 kB1_1
    go_wp2_with fail
    refine (s_LeastTrue f _ k _ O4.out.rd bf.out HIf.out HIk.out).mono ?_
    rintro e w5 ⟨u0, rfl, hu0, hx⟩
    have szw5 := hx.size
    replace X := hd (X.out.trans hx)
    replace B1 := hd (hx.heap B1.out)
    replace O4 := hd (O4.out.ext hx)
    have O6 := hd hu0
    clear hx hu0
    clear O4
    obtain ⟨kB1_0, kB1_1⟩ := blk2 B1.out
    go_wp2_with fail
    refine (u_to_Cnf f _ _ (HAf.out.ext X.out) bf.out).mono ?_
    rintro e w7 ⟨u, rfl, hu, hx⟩
    have szw7 := hx.size
    replace X := hd (X.out.trans hx)
    replace B1 := hd (hx.heap B1.out)
    replace O6 := hd (O6.out.ext hx)
    obtain ⟨At8, ct8, rfl, O8⟩ := hu.form
    clear hx hu kB1_0 kB1_1
    replace X := hd (X.out.alloc (.cells #[.int .i64 f.n, .slice At8 f.cs.length ct8] 28))
    replace B1 := hd (blk_old (o' := .cells #[.int .i64 f.n, .slice At8 f.cs.length ct8] 28) B1.out)
    replace O6 := hd (O6.out.ext (Ext.new w7 (.cells #[.int .i64 f.n, .slice At8 f.cs.length ct8] 28)))
    replace O8 := hd (O8.out.ext (Ext.new w7 (.cells #[.int .i64 f.n, .slice At8 f.cs.length ct8] 28)))
    have B9 := hd (blk_new (w := w7) (.cells #[.int .i64 f.n, .slice At8 f.cs.length ct8] 28) rfl)
    have sB9 : w7.heap.size < (w7.alloc (.cells #[.int .i64 f.n, .slice At8 f.cs.length ct8] 28)).heap.size := by simp
    obtain ⟨kB9_0, kB9_1⟩ := blk2 B9.out
    go_wp2_with fail
    refine (i_LeastTrue f _ k _ O8.out.rd bf.out HIf.out HIk.out).mono ?_
    rintro e w10 ⟨u0, rfl, hu0, hx⟩
    have szw10 := hx.size
    replace X := hd (X.out.trans hx)
    replace B1 := hd (hx.heap B1.out)
    replace O6 := hd (O6.out.ext hx)
    replace O8 := hd (O8.out.ext hx)
    replace B9 := hd (hx.heap B9.out)
    have O11 := hd hu0
    clear hx hu0 kB9_0 kB9_1
    go_wp2_with fail
    refine (u_eq_IntS (leastV f k) _ _ _ O11.out.rd O6.out.rd (leastV_bd f k)).mono ?_
    rintro e w12 ⟨rfl, hx⟩
    have szw12 := hx.size
    replace X := hd (X.out.trans hx)
    replace B1 := hd (hx.heap B1.out)
    replace O6 := hd (O6.out.ext hx)
    replace O8 := hd (O8.out.ext hx)
    replace B9 := hd (hx.heap B9.out)
    replace O11 := hd (O11.out.ext hx)
    clear hx
    obtain ⟨kB9_0, kB9_1⟩ := blk2 B9.out
    obtain ⟨kB1_0, kB1_1⟩ := blk2 B1.out
    go_wp2_with fail
    go_region_held3 (fun w' => (w'.cell? ⟨w7.heap.size, 0, none⟩ = some (.int .i64 f.n) ∧ w'.cell? ⟨w7.heap.size, 1, none⟩ = some (.slice At8 f.cs.length ct8) ∧ w'.cell? ⟨w.heap.size, 0, none⟩ = some (.int .i64 f.n) ∧ w'.cell? ⟨w.heap.size, 1, none⟩ = some (.slice Af f.cs.length cf)) ∧ Ext w12 w')
      ((refine ⟨⟨Ext.cell ?_ kB9_0, Ext.cell ?_ kB9_1, Ext.cell ?_ kB1_0, Ext.cell ?_ kB1_1⟩, ?_⟩ <;> (first | assumption | exact Ext.refl _ | exact (Ext.refl _).drew)))
      (first
        | (go_at_call 20; refine (u_to_Cnf f _ _ (HAf.out.ext (X.out.trans ((Ext.refl _).drew))) bf.out).mono ?_; rintro e wt ⟨ut, rfl, hut, hxt⟩; have Yt : Ext w12 wt := ((Ext.refl _).drew).trans hxt)
        | (go_at_call 22; refine (u_eq_Cnf f _ _ _ (O8.out.ext Yt).rd hut.rd bf.out).mono ?_; rintro e w14 ⟨rfl, hxe⟩; have hx : Ext w12 w14 := Yt.trans hxe))
    have szw14 := hx.size
    replace X := hd (X.out.trans hx)
    replace B1 := hd (hx.heap B1.out)
    replace O6 := hd (O6.out.ext hx)
    replace O8 := hd (O8.out.ext hx)
    replace B9 := hd (hx.heap B9.out)
    replace O11 := hd (O11.out.ext hx)
    clear hx hxe Yt hxt hut kB9_0 kB9_1 kB1_0 kB1_1
    have lnO8 := len_Cnf_bd bf.out
    obtain ⟨kB9_0, kB9_1⟩ := blk2 B9.out
    go_wp2_with fail
    refine (u_mark_Cnf f _ _ _ _ _ O8.out (by omega) bf.out (by omega) (by omega)).mono ?_
    rintro e w15 ⟨rfl, hm, ht⟩
    clear O8
    have szw15 := ht.size
    replace X := hd (touch_ext X.out ht (by omega))
    replace B1 := hd (touch_blk' ht B1.out (by omega))
    replace O6 := hd (O6.out.touch ht (by omega))
    replace B9 := hd (touch_blk' ht B9.out (by omega))
    replace O11 := hd (O11.out.touch ht (by omega))
    clear hm ht kB9_0 kB9_1
    go_wp2_with fail
    refine (u_eq_IntS (leastV f k) _ _ _ O11.out.rd O6.out.rd (leastV_bd f k)).mono ?_
    rintro e w17 ⟨rfl, hx⟩
    have szw17 := hx.size
    replace X := hd (X.out.trans hx)
    replace B1 := hd (hx.heap B1.out)
    replace O6 := hd (O6.out.ext hx)
    replace B9 := hd (hx.heap B9.out)
    replace O11 := hd (O11.out.ext hx)
    clear hx
    have lnO11 := len_IntS_bd (leastV_bd f k)
    go_wp2_with fail
    refine (u_mark_IntS (leastV f k) _ _ _ _ _ O11.out (by omega) (leastV_bd f k) (by omega) (by omega)).mono ?_
    rintro e w18 ⟨rfl, hm, ht⟩
    clear O11
    have szw18 := ht.size
    replace X := hd (touch_ext X.out ht (by omega))
    replace B1 := hd (touch_blk' ht B1.out (by omega))
    replace O6 := hd (O6.out.touch ht (by omega))
    replace B9 := hd (touch_blk' ht B9.out (by omega))
    have M19 := hd hm
    clear hm ht
    go_wp2_with fail
    refine (u_held_IntS (leastV f k) _ _ _ M19.out (leastV_bd f k) (by omega) (by omega)).mono ?_
    rintro e w20 ⟨rfl, hx⟩
    have szw20 := hx.size
    replace X := hd (X.out.trans hx)
    replace B1 := hd (hx.heap B1.out)
    replace O6 := hd (O6.out.ext hx)
    replace B9 := hd (hx.heap B9.out)
    replace M19 := hd (M19.out.ext hx)
    clear hx
    obtain ⟨kB1_0, kB1_1⟩ := blk2 B1.out
    go_wp2_with fail
    refine (u_to_Cnf f _ _ (HAf.out.ext X.out) bf.out).mono ?_
    rintro e w21 ⟨u, rfl, hu, hx⟩
    have szw21 := hx.size
    replace X := hd (X.out.trans hx)
    replace B1 := hd (hx.heap B1.out)
    replace O6 := hd (O6.out.ext hx)
    replace B9 := hd (hx.heap B9.out)
    replace M19 := hd (M19.out.ext hx)
    obtain ⟨At22, ct22, rfl, O22⟩ := hu.form
    clear hx hu kB1_0 kB1_1
    go_wp2_with fail
    refine (i_LeastTrue f _ k _ O22.out.rd bf.out HIf.out HIk.out).mono ?_
    rintro e w23 ⟨u0, rfl, hu0, hx⟩
    have szw23 := hx.size
    replace X := hd (X.out.trans hx)
    replace B1 := hd (hx.heap B1.out)
    replace O6 := hd (O6.out.ext hx)
    replace B9 := hd (hx.heap B9.out)
    replace M19 := hd (M19.out.ext hx)
    replace O22 := hd (O22.out.ext hx)
    have O24 := hd hu0
    clear hx hu0
    clear O22
    go_wp2_with fail
    refine (u_eq_IntS (leastV f k) _ _ _ O24.out.rd O6.out.rd (leastV_bd f k)).mono ?_
    rintro e w25 ⟨rfl, hx⟩
    have szw25 := hx.size
    replace X := hd (X.out.trans hx)
    replace B1 := hd (hx.heap B1.out)
    replace O6 := hd (O6.out.ext hx)
    replace B9 := hd (hx.heap B9.out)
    replace M19 := hd (M19.out.ext hx)
    replace O24 := hd (O24.out.ext hx)
    clear hx
    go_wp2_with fail
    refine (u_held_IntS (leastV f k) _ _ _ M19.out (leastV_bd f k) (by omega) (by omega)).mono ?_
    rintro e w26 ⟨rfl, hx⟩
    have szw26 := hx.size
    replace X := hd (X.out.trans hx)
    replace B1 := hd (hx.heap B1.out)
    replace O6 := hd (O6.out.ext hx)
    replace B9 := hd (hx.heap B9.out)
    replace M19 := hd (M19.out.ext hx)
    replace O24 := hd (O24.out.ext hx)
    clear hx
    go_wp2
    go_ret
    exact RetT.mk rfl X.out
end Go.Proofs.Ythiflbcodbigbaa
