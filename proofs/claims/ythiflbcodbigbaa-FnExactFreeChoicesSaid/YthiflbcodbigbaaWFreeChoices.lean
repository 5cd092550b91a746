/-
  FnExactFreeChoices: the walk: for all arguments the law returns true. No condition.
-/
import Derived.Test.YthiflbcodbigbaaLaw
import Derived.Test.YthiflbcodbigbaaFrame
import Derived.Test.YthiflbcodbigbaaFrameN
import Derived.Test.YthiflbcodbigbaaFreeI
namespace Go.Proofs.Ythiflbcodbigbaa
open Go.RowKit
set_option maxRecDepth 100000 in
set_option maxHeartbeats 3200000 in
theorem w_FnExactFreeChoices (w : World) (f : Cnf) (vf : Value) (hf : Rd_Cnf w vf f) (hif : I64_Cnf f) (k : Int) (hk : I64 k) :
    Calls Try.prog 7 #[vf, .int .i64 k] w (RetT w) := by
  have HIf := hd hif; clear hif
  have HAf := hd hf
  obtain ⟨Af, cf, rfl⟩ := hf.form
  clear hf
  have HIk := hd hk; clear hk
  have hbz0 := sz_Cnf_bd f 1048576 (by omega)
  generalize hz : sz_Cnf f 1048576 = z0 at *
  have Hz0 := hd hz; clear hz
  have X := hd (Ext.refl w)
  replace X := hd (X.out.alloc (.cells #[.int .i64 f.n, .slice Af f.cs.length cf] 24))
  have B1 := hd (blk_new (w := w) (.cells #[.int .i64 f.n, .slice Af f.cs.length cf] 24) rfl)
  have sB1 : w.heap.size < (w.alloc (.cells #[.int .i64 f.n, .slice Af f.cs.length cf] 24)).heap.size := by simp
  go_enter Try.func7, Try.ntmps7
  obtain ⟨kB1_0, kB1_1⟩ := blk2 B1.out
  go_wp2_with fail
  refine (u_sz_Cnf f _ _ _ (HAf.out.ext X.out) (by omega) (by omega)).mono ?_
  rintro e w2 ⟨rfl, hx⟩
  rw [Hz0.out]
  have szw2 := hx.size
  replace X := hd (X.out.trans hx)
  replace B1 := hd (hx.heap B1.out)
  clear hx kB1_0 kB1_1
  by_cases hneg0 : z0 < 0
  · go_wp2
    go_ret
    exact RetT.mk rfl X.out
  ·
    have bf : Hid (Bd_Cnf f) := hd (sz_Cnf_ok (by rw [Hz0.out]; exact hneg0) (by omega))
    obtain ⟨kB1_0, kB1_1⟩ := blk2 B1.out
    go_wp2_with fail
    refine (u_to_Cnf f _ _ (HAf.out.ext X.out) bf.out).mono ?_
    rintro e w3 ⟨u, rfl, hu, hx⟩
    have szw3 := hx.size
    replace X := hd (X.out.trans hx)
    replace B1 := hd (hx.heap B1.out)
    obtain ⟨At4, ct4, rfl, O4⟩ := hu.form
    clear hx hu kB1_0 kB1_1
    go_wp2_with fail
    refine (s_FreeChoices f _ k _ O4.out.rd bf.out HIf.out HIk.out).mono ?_
    rintro e w5 ⟨rfl, hx⟩
    have szw5 := hx.size
    replace X := hd (X.out.trans hx)
    replace B1 := hd (hx.heap B1.out)
    replace O4 := hd (O4.out.ext hx)
    clear hx
    clear O4
    obtain ⟨kB1_0, kB1_1⟩ := blk2 B1.out
    go_wp2_with fail
    refine (u_to_Cnf f _ _ (HAf.out.ext X.out) bf.out).mono ?_
    rintro e w6 ⟨u, rfl, hu, hx⟩
    have szw6 := hx.size
    replace X := hd (X.out.trans hx)
    replace B1 := hd (hx.heap B1.out)
    obtain ⟨At7, ct7, rfl, O7⟩ := hu.form
    clear hx hu kB1_0 kB1_1
    replace X := hd (X.out.alloc (.cells #[.int .i64 f.n, .slice At7 f.cs.length ct7] 28))
    replace B1 := hd (blk_old (o' := .cells #[.int .i64 f.n, .slice At7 f.cs.length ct7] 28) B1.out)
    replace O7 := hd (O7.out.ext (Ext.new w6 (.cells #[.int .i64 f.n, .slice At7 f.cs.length ct7] 28)))
    have B8 := hd (blk_new (w := w6) (.cells #[.int .i64 f.n, .slice At7 f.cs.length ct7] 28) rfl)
    have sB8 : w6.heap.size < (w6.alloc (.cells #[.int .i64 f.n, .slice At7 f.cs.length ct7] 28)).heap.size := by simp
    obtain ⟨kB8_0, kB8_1⟩ := blk2 B8.out
    go_wp2_with fail
    refine (i_FreeChoices f _ k _ O7.out.rd bf.out HIf.out HIk.out).mono ?_
    rintro e w9 ⟨rfl, hx⟩
    have szw9 := hx.size
    replace X := hd (X.out.trans hx)
    replace B1 := hd (hx.heap B1.out)
    replace O7 := hd (O7.out.ext hx)
    replace B8 := hd (hx.heap B8.out)
    clear hx kB8_0 kB8_1
    obtain ⟨kB8_0, kB8_1⟩ := blk2 B8.out
    obtain ⟨kB1_0, kB1_1⟩ := blk2 B1.out
    go_wp2_with fail
    go_region_held3 (fun w' => (w'.cell? ⟨w6.heap.size, 0, none⟩ = some (.int .i64 f.n) ∧ w'.cell? ⟨w6.heap.size, 1, none⟩ = some (.slice At7 f.cs.length ct7) ∧ w'.cell? ⟨w.heap.size, 0, none⟩ = some (.int .i64 f.n) ∧ w'.cell? ⟨w.heap.size, 1, none⟩ = some (.slice Af f.cs.length cf)) ∧ Ext w9 w')
      ((refine ⟨⟨Ext.cell ?_ kB8_0, Ext.cell ?_ kB8_1, Ext.cell ?_ kB1_0, Ext.cell ?_ kB1_1⟩, ?_⟩ <;> (first | assumption | exact Ext.refl _ | exact (Ext.refl _).drew)))
      (first
        | (go_at_call 20; refine (u_to_Cnf f _ _ (HAf.out.ext (X.out.trans ((Ext.refl _).drew))) bf.out).mono ?_; rintro e wt ⟨ut, rfl, hut, hxt⟩; have Yt : Ext w9 wt := ((Ext.refl _).drew).trans hxt)
        | (go_at_call 22; refine (u_eq_Cnf f _ _ _ (O7.out.ext Yt).rd hut.rd bf.out).mono ?_; rintro e w11 ⟨rfl, hxe⟩; have hx : Ext w9 w11 := Yt.trans hxe))
    have szw11 := hx.size
    replace X := hd (X.out.trans hx)
    replace B1 := hd (hx.heap B1.out)
    replace O7 := hd (O7.out.ext hx)
    replace B8 := hd (hx.heap B8.out)
    clear hx hxe Yt hxt hut kB8_0 kB8_1 kB1_0 kB1_1
    go_wp2
    go_ret
    exact RetT.mk rfl X.out
end Go.Proofs.Ythiflbcodbigbaa
