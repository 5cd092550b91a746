/-
  FnExactFirstBlock: the walk: for all arguments the law returns true. No condition.
-/
import Derived.Test.YthiflbcodbigbaaLaw
import Derived.Test.YthiflbcodbigbaaFrame
import Derived.Test.YthiflbcodbigbaaFrameN
import Derived.Test.YthiflbcodbigbaaBlock
namespace Go.Proofs.Ythiflbcodbigbaa
open Go.RowKit
set_option maxRecDepth 100000 in
set_option maxHeartbeats 3200000 in
theorem w_FnExactFirstBlock (w : World) (f : Cnf) (vf : Value) (hf : Rd_Cnf w vf f) (hif : I64_Cnf f) (k : Int) (hk : I64 k) :
    Calls Try.prog 14 #[vf, .int .i64 k] w (RetT w) := by
  have HIf := hd hif; clear hif
  have HAf := hd hf
  obtain ⟨Af, cf, rfl⟩ := hf.form
  clear hf
  have HIk := hd hk; clear hk
  have hbz0 := sz_Cnf_bd f 1048576 (by omega)
  generalize hz : sz_Cnf f 1048576 = z0 at *
  have Hz0 := hd hz; clear hz
  obtain ⟨px, py, hpv⟩ := pairV_form (blockV f k)
  have SC : Hid (∀ (_ : Cnf) (v : Value) (_ : Int) (w' : World), Rd_Cnf w' v f → Bd_Cnf f → I64_Cnf f → I64 k → Calls Try.prog 55 #[v, .int .i64 k] w' (RetX w' (.tuple #[.agg #[.int .i64 px, .int .i64 py], .bool (blockV f k).isSome]))) := hd fun _ v _ w' h1 h2 h3 h4 => (by have c := s_FirstBlock f v k w' h1 h2 h3 h4; rw [hpv] at c; exact c)
  have IC : Hid (∀ (_ : Cnf) (v : Value) (_ : Int) (w' : World), Rd_Cnf w' v f → Bd_Cnf f → I64_Cnf f → I64 k → Calls Try.prog 56 #[v, .int .i64 k] w' (RetX w' (.tuple #[.agg #[.int .i64 px, .int .i64 py], .bool (blockV f k).isSome]))) := hd fun _ v _ w' h1 h2 h3 h4 => (by have c := i_FirstBlock f v k w' h1 h2 h3 h4; rw [hpv] at c; exact c)
  clear hpv
  have X := hd (Ext.refl w)
  replace X := hd (X.out.alloc (.cells #[.int .i64 f.n, .slice Af f.cs.length cf] 24))
  have B1 := hd (blk_new (w := w) (.cells #[.int .i64 f.n, .slice Af f.cs.length cf] 24) rfl)
  have sB1 : w.heap.size < (w.alloc (.cells #[.int .i64 f.n, .slice Af f.cs.length cf] 24)).heap.size := by simp
  go_enter Try.func14, Try.ntmps14
  obtain ⟨kB1_0, kB1_1⟩ := blk2 B1.out
  go_wp2_with fail
  refine (u_sz_Cnf f _ _ _ (HAf.out.ext X.out) (by omega) (by omega)).mono ?_
  rintro e w2 ⟨rfl, hx⟩
  rw [Hz0.out]
  have szw2 := hx.size
  replace X := hd (X.out.trans hx)
  replace B1 := hd (hx.heap B1.out)
  clear hx kB1_0 kB1_1
  by_cases hneg0 : z0 < 0
  · go_wp2
    go_ret
    exact RetT.mk rfl X.out
  ·
    have bf : Hid (Bd_Cnf f) := hd (sz_Cnf_ok (by rw [Hz0.out]; exact hneg0) (by omega))
    obtain ⟨kB1_0, kB1_1⟩ := blk2 B1.out
    go_wp2_with fail
    refine (u_to_Cnf f _ _ (HAf.out.ext X.out) bf.out).mono ?_
    rintro e w3 ⟨u, rfl, hu, hx⟩
    have szw3 := hx.size
    replace X := hd (X.out.trans hx)
    replace B1 := hd (hx.heap B1.out)
    obtain ⟨At4, ct4, rfl, O4⟩ := hu.form
    clear hx hu kB1_0 kB1_1
    go_wp2_with fail
    refine (SC.out f _ k _ O4.out.rd bf.out HIf.out HIk.out).mono ?_
    rintro e w5 ⟨rfl, hx⟩
    have szw5 := hx.size
    replace X := hd (X.out.trans hx)
    replace B1 := hd (hx.heap B1.out)
    replace O4 := hd (O4.out.ext hx)
    clear hx
    clear O4
    replace X := hd (X.out.alloc (.cells #[.int .i64 px, .int .i64 py] 57))
    replace B1 := hd (blk_old (o' := .cells #[.int .i64 px, .int .i64 py] 57) B1.out)
    have B6 := hd (blk_new (w := w5) (.cells #[.int .i64 px, .int .i64 py] 57) rfl)
    have sB6 : w5.heap.size < (w5.alloc (.cells #[.int .i64 px, .int .i64 py] 57)).heap.size := by simp
    obtain ⟨kB1_0, kB1_1⟩ := blk2 B1.out
    go_wp2_with fail
    refine (u_to_Cnf f _ _ (HAf.out.ext X.out) bf.out).mono ?_
    rintro e w7 ⟨u, rfl, hu, hx⟩
    have szw7 := hx.size
    replace X := hd (X.out.trans hx)
    replace B1 := hd (hx.heap B1.out)
    replace B6 := hd (hx.heap B6.out)
    obtain ⟨At8, ct8, rfl, O8⟩ := hu.form
    clear hx hu kB1_0 kB1_1
    replace X := hd (X.out.alloc (.cells #[.int .i64 f.n, .slice At8 f.cs.length ct8] 28))
    replace B1 := hd (blk_old (o' := .cells #[.int .i64 f.n, .slice At8 f.cs.length ct8] 28) B1.out)
    replace B6 := hd (blk_old (o' := .cells #[.int .i64 f.n, .slice At8 f.cs.length ct8] 28) B6.out)
    replace O8 := hd (O8.out.ext (Ext.new w7 (.cells #[.int .i64 f.n, .slice At8 f.cs.length ct8] 28)))
    have B9 := hd (blk_new (w := w7) (.cells #[.int .i64 f.n, .slice At8 f.cs.length ct8] 28) rfl)
    have sB9 : w7.heap.size < (w7.alloc (.cells #[.int .i64 f.n, .slice At8 f.cs.length ct8] 28)).heap.size := by simp
    obtain ⟨kB9_0, kB9_1⟩ := blk2 B9.out
    go_wp2_with fail
    refine (IC.out f _ k _ O8.out.rd bf.out HIf.out HIk.out).mono ?_
    rintro e w10 ⟨rfl, hx⟩
    have szw10 := hx.size
    replace X := hd (X.out.trans hx)
    replace B1 := hd (hx.heap B1.out)
    replace B6 := hd (hx.heap B6.out)
    replace O8 := hd (O8.out.ext hx)
    replace B9 := hd (hx.heap B9.out)
    clear hx kB9_0 kB9_1
    replace X := hd (X.out.alloc (.cells #[.int .i64 px, .int .i64 py] 57))
    replace B1 := hd (blk_old (o' := .cells #[.int .i64 px, .int .i64 py] 57) B1.out)
    replace B6 := hd (blk_old (o' := .cells #[.int .i64 px, .int .i64 py] 57) B6.out)
    replace O8 := hd (O8.out.ext (Ext.new w10 (.cells #[.int .i64 px, .int .i64 py] 57)))
    replace B9 := hd (blk_old (o' := .cells #[.int .i64 px, .int .i64 py] 57) B9.out)
    have B11 := hd (blk_new (w := w10) (.cells #[.int .i64 px, .int .i64 py] 57) rfl)
    have sB11 : w10.heap.size < (w10.alloc (.cells #[.int .i64 px, .int .i64 py] 57)).heap.size := by simp
    obtain ⟨kB11_0, kB11_1⟩ := blk2 B11.out
    obtain ⟨kB6_0, kB6_1⟩ := blk2 B6.out
    go_wp2_with fail
    refine (l_eqIntA2 px py _).mono ?_
    rintro e w12 ⟨rfl, hx⟩
    have szw12 := hx.size
    replace X := hd (X.out.trans hx)
    replace B1 := hd (hx.heap B1.out)
    replace B6 := hd (hx.heap B6.out)
    replace O8 := hd (O8.out.ext hx)
    replace B9 := hd (hx.heap B9.out)
    replace B11 := hd (hx.heap B11.out)
    clear hx kB11_0 kB11_1 kB6_0 kB6_1
    obtain ⟨kB9_0, kB9_1⟩ := blk2 B9.out
    obtain ⟨kB1_0, kB1_1⟩ := blk2 B1.out
    go_wp2_with fail
    go_region_held3 (fun w' => (w'.cell? ⟨w7.heap.size, 0, none⟩ = some (.int .i64 f.n) ∧ w'.cell? ⟨w7.heap.size, 1, none⟩ = some (.slice At8 f.cs.length ct8) ∧ w'.cell? ⟨w.heap.size, 0, none⟩ = some (.int .i64 f.n) ∧ w'.cell? ⟨w.heap.size, 1, none⟩ = some (.slice Af f.cs.length cf)) ∧ Ext w12 w')
      ((refine ⟨⟨Ext.cell ?_ kB9_0, Ext.cell ?_ kB9_1, Ext.cell ?_ kB1_0, Ext.cell ?_ kB1_1⟩, ?_⟩ <;> (first | assumption | exact Ext.refl _ | exact (Ext.refl _).drew)))
      (first
        | (go_at_call 20; refine (u_to_Cnf f _ _ (HAf.out.ext (X.out.trans ((Ext.refl _).drew))) bf.out).mono ?_; rintro e wt ⟨ut, rfl, hut, hxt⟩; have Yt : Ext w12 wt := ((Ext.refl _).drew).trans hxt)
        | (go_at_call 22; refine (u_eq_Cnf f _ _ _ (O8.out.ext Yt).rd hut.rd bf.out).mono ?_; rintro e w14 ⟨rfl, hxe⟩; have hx : Ext w12 w14 := Yt.trans hxe))
    have szw14 := hx.size
    replace X := hd (X.out.trans hx)
    replace B1 := hd (hx.heap B1.out)
    replace B6 := hd (hx.heap B6.out)
    replace O8 := hd (O8.out.ext hx)
    replace B9 := hd (hx.heap B9.out)
    replace B11 := hd (hx.heap B11.out)
    clear hx hxe Yt hxt hut kB9_0 kB9_1 kB1_0 kB1_1
    go_wp2
    go_ret
    exact RetT.mk rfl X.out
end Go.Proofs.Ythiflbcodbigbaa
