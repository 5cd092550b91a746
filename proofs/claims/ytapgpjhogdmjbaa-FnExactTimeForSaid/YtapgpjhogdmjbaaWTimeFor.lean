/-
  FnExactTimeFor: the walk: for all arguments the law returns true. No condition.
-/
import Derived.Test.YtapgpjhogdmjbaaLaw
import Derived.Test.YtapgpjhogdmjbaaFrame
import Derived.Test.YtapgpjhogdmjbaaFrameD
import Derived.Test.YtapgpjhogdmjbaaPebA
namespace Go.Proofs.Ytapgpjhogdmjbaa
open Go.RowKit
set_option maxRecDepth 100000 in
set_option maxHeartbeats 3200000 in
theorem w_FnExactTimeFor (w : World) (g : List (List Int)) (vg : Value) (hg : Rd_Dag w vg g) (hig : I64_Dag g) (s : Int) (hs : I64 s) (r : Bool) :
    Calls Try.prog 3 #[vg, .int .i64 s, .bool r] w (RetT w) := by
  have HIg := hd hig; clear hig
  have HAg := hd hg
  obtain ⟨Ag, cg, rfl⟩ := hg.form
  clear hg
  have HIs := hd hs; clear hs
  have hbz0 := sz_Dag_bd g 1048576 (by omega)
  generalize hz : sz_Dag g 1048576 = z0 at *
  have Hz0 := hd hz; clear hz
  have X := hd (Ext.refl w)
  replace X := hd (X.out.alloc (.cells #[.slice Ag g.length cg] 24))
  have B1 := hd (blk_new (w := w) (.cells #[.slice Ag g.length cg] 24) rfl)
  have sB1 : w.heap.size < (w.alloc (.cells #[.slice Ag g.length cg] 24)).heap.size := by simp
  go_enter Try.func3, Try.ntmps3
  have kB1_0 := blk1 B1.out
  go_wp2_with fail
  refine (u_sz_Dag g _ _ _ (HAg.out.ext X.out) (by omega) (by omega)).mono ?_
  rintro e w2 ⟨rfl, hx⟩
  rw [Hz0.out]
  have szw2 := hx.size
  replace X := hd (X.out.trans hx)
  replace B1 := hd (hx.heap B1.out)
  clear hx kB1_0
  by_cases hneg0 : z0 < 0
  · go_wp2
    go_ret
    exact RetT.mk rfl X.out
  ·
    have bg : Hid (Bd_Dag g) := hd (sz_Dag_ok (by rw [Hz0.out]; exact hneg0) (by omega))
    have kB1_0 := blk1 B1.out
    go_wp2_with fail
    refine (u_to_Dag g _ _ (HAg.out.ext X.out) bg.out).mono ?_
    rintro e w3 ⟨u, rfl, hu, hx⟩
    have szw3 := hx.size
    replace X := hd (X.out.trans hx)
    replace B1 := hd (hx.heap B1.out)
    obtain ⟨At4, ct4, rfl, O4⟩ := hu.form
    clear hx hu kB1_0
    go_wp2_with fail
    refine (s_TimeForL g _ s r _ O4.out.rd bg.out HIg.out HIs.out).mono ?_
    rintro e w6 ⟨rfl, hx⟩
    have szw6 := hx.size
    replace X := hd (X.out.trans hx)
    replace B1 := hd (hx.heap B1.out)
    replace O4 := hd (O4.out.ext hx)
    clear hx
    clear O4
    have kB1_0 := blk1 B1.out
    go_wp2_with fail
    refine (u_to_Dag g _ _ (HAg.out.ext X.out) bg.out).mono ?_
    rintro e w7 ⟨u, rfl, hu, hx⟩
    have szw7 := hx.size
    replace X := hd (X.out.trans hx)
    replace B1 := hd (hx.heap B1.out)
    obtain ⟨At8, ct8, rfl, O8⟩ := hu.form
    clear hx hu kB1_0
    replace X := hd (X.out.alloc (.cells #[.slice At8 g.length ct8] 28))
    replace B1 := hd (blk_old (o' := .cells #[.slice At8 g.length ct8] 28) B1.out)
    replace O8 := hd (O8.out.ext (Ext.new w7 (.cells #[.slice At8 g.length ct8] 28)))
    have B9 := hd (blk_new (w := w7) (.cells #[.slice At8 g.length ct8] 28) rfl)
    have sB9 : w7.heap.size < (w7.alloc (.cells #[.slice At8 g.length ct8] 28)).heap.size := by simp
    have kB9_0 := blk1 B9.out
    go_wp2_with fail
    refine (i_TimeForL g _ s r _ O8.out.rd bg.out HIg.out HIs.out).mono ?_
    rintro e w11 ⟨rfl, hx⟩
    have szw11 := hx.size
    replace X := hd (X.out.trans hx)
    replace B1 := hd (hx.heap B1.out)
    replace O8 := hd (O8.out.ext hx)
    replace B9 := hd (hx.heap B9.out)
    clear hx kB9_0
    have kB9_0 := blk1 B9.out
    have kB1_0 := blk1 B1.out
    go_wp2_with fail
    go_region_held3 (fun w' => (w'.cell? ⟨w7.heap.size, 0, none⟩ = some (.slice At8 g.length ct8) ∧ w'.cell? ⟨w.heap.size, 0, none⟩ = some (.slice Ag g.length cg)) ∧ Ext w11 w')
      ((refine ⟨⟨Ext.cell ?_ kB9_0, Ext.cell ?_ kB1_0⟩, ?_⟩ <;> (first | assumption | exact Ext.refl _ | exact (Ext.refl _).drew)))
      (first
        | (go_at_call 9; refine (u_to_Dag g _ _ (HAg.out.ext (X.out.trans ((Ext.refl _).drew))) bg.out).mono ?_; rintro e wt ⟨ut, rfl, hut, hxt⟩; have Yt : Ext w11 wt := ((Ext.refl _).drew).trans hxt)
        | (go_at_call 11; refine (u_eq_Dag g _ _ _ (O8.out.ext Yt).rd hut.rd bg.out).mono ?_; rintro e w13 ⟨rfl, hxe⟩; have hx : Ext w11 w13 := Yt.trans hxe))
    have szw13 := hx.size
    replace X := hd (X.out.trans hx)
    replace B1 := hd (hx.heap B1.out)
    replace O8 := hd (O8.out.ext hx)
    replace B9 := hd (hx.heap B9.out)
    clear hx hxe Yt hxt hut kB9_0 kB1_0
    go_wp2
    go_ret
    exact RetT.mk rfl X.out
end Go.Proofs.Ytapgpjhogdmjbaa
