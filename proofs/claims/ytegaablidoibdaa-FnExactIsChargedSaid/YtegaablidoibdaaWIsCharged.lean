/-
  FnExactIsCharged: the walk: for all graphs the law returns true. No condition.
-/
import Derived.Test.YtegaablidoibdaaFrameC
import Derived.Test.YtegaablidoibdaaChgG
import Derived.Test.YtegaablidoibdaaChgH
namespace Go.Proofs.Ytegaablidoibdaa
open Go.RowKit
theorem s_IsCharged (g : Chg) (gv : Value) (w : World) (h : RdC w gv g) : Calls Try.prog 38 #[gv] w (RetX w (.bool (goodC g))) := by
  have HG := hd h
  obtain ⟨ve, vc, rfl, -, -⟩ := h
  go_enter Try.func38, Try.ntmps38
  go_wp2_with fail
  refine (s_l27Good g _ _ (HG.out.ext (Ext.new _ _))).mono ?_
  rintro e w1 ⟨rfl, hx⟩
  go_wp2
  go_ret
  exact RetX.mk rfl hx.box
set_option maxRecDepth 100000 in
set_option maxHeartbeats 1600000 in
theorem w_FnExactIsCharged (w : World) (g : Chg) (v : Value) (h : RdC w v g ∧ I64 g.n ∧ (∀ e ∈ g.es, I64 e.1 ∧ I64 e.2) ∧ ∀ x ∈ g.cs, I64 x) :
    Calls Try.prog 9 #[v] w (RetT w) := by
  obtain ⟨h, -⟩ := h
  have HA := hd h
  obtain ⟨A, c, A', c', rfl⟩ := h.form
  clear h
  have hbd := szC_bd g 1048576 (by omega)
  generalize hz : szC g 1048576 = z at *
  have HZ := hd hz
  clear hz
  have B0 := hd (blk_new (w := w) (.cells #[.int .i64 g.n, .slice A g.es.length c, .slice A' g.cs.length c'] 49) rfl)
  have X0 := hd (Ext.new w (.cells #[.int .i64 g.n, .slice A g.es.length c, .slice A' g.cs.length c'] 49))
  go_enter Try.func9, Try.ntmps9
  go_wp2_with fail
  refine (l_szCharged g _ _ _ (HA.out.ext X0.out) (by omega) (by omega)).mono ?_
  rintro e w1 ⟨rfl, hx1⟩
  rw [HZ.out]
  have X1 := hd (X0.out.trans hx1)
  have B1 := hd (hx1.heap B0.out)
  clear hx1
  by_cases hneg : z < 0
  · go_wp2
    go_ret
    exact RetT.mk rfl X1.out
  · have hok := szC_ok (g := g) (left := 1048576) (by rw [HZ.out]; exact hneg)
    have HBD := hd hok
    clear hok
    obtain ⟨k0, k1, k2⟩ := blk3 B1.out
    go_wp2_with fail
    refine (l_toCharged g _ _ (HA.out.ext X1.out) (by have := HBD.out; omega) (by have := HBD.out; omega)).mono ?_
    rintro e w2 ⟨u2, rfl, hu2, hx2⟩
    have X2 := hd (X1.out.trans hx2)
    have B2 := hd (hx2.heap B1.out)
    have R2 := hd hu2.rd
    clear hu2 hx2 k0 k1 k2
    go_wp2_with fail
    refine (s_IsCharged g _ _ R2.out).mono ?_
    rintro e w3 ⟨rfl, hx3⟩
    have X3 := hd (X2.out.trans hx3)
    have B3 := hd (hx3.heap B2.out)
    clear hx3
    obtain ⟨k0, k1, k2⟩ := blk3 B3.out
    go_wp2_with fail
    refine (l_toCharged g _ _ (HA.out.ext X3.out) (by have := HBD.out; omega) (by have := HBD.out; omega)).mono ?_
    rintro e w4 ⟨u4, rfl, hu4, hx4⟩
    obtain ⟨A4, c4, A4', c4', rfl, O4⟩ := hu4.form
    have X4 := hd ((X3.out.trans hx4).alloc (.cells #[.int .i64 g.n, .slice A4 g.es.length c4, .slice A4' g.cs.length c4'] 43))
    have B4 := hd (blk_old (o' := .cells #[.int .i64 g.n, .slice A4 g.es.length c4, .slice A4' g.cs.length c4'] 43) (hx4.heap B3.out))
    have B4' := hd (blk_new (w := w4) (.cells #[.int .i64 g.n, .slice A4 g.es.length c4, .slice A4' g.cs.length c4'] 43) rfl)
    have R4 := hd (O4.out.rd.ext (Ext.new w4 (.cells #[.int .i64 g.n, .slice A4 g.es.length c4, .slice A4' g.cs.length c4'] 43)))
    clear hu4 hx4 k0 k1 k2
    go_wp2_with fail
    refine (i_IsCharged g _ _ R4.out).mono ?_
    rintro e w5 ⟨rfl, hx5⟩
    have X5 := hd (X4.out.trans hx5)
    have B5 := hd (hx5.heap B4.out)
    have B5' := hd (hx5.heap B4'.out)
    have R5 := hd (R4.out.ext hx5)
    clear hx5
    obtain ⟨k0, k1, k2⟩ := blk3 B5.out
    obtain ⟨j0, j1, j2⟩ := blk3 B5'.out
    go_wp2_with fail
    go_region_held3 (fun w' => (w'.cell? ⟨w.heap.size, 0, none⟩ = some (.int .i64 g.n) ∧ w'.cell? ⟨w.heap.size, 1, none⟩ = some (.slice A g.es.length c) ∧ w'.cell? ⟨w.heap.size, 2, none⟩ = some (.slice A' g.cs.length c') ∧ w'.cell? ⟨w4.heap.size, 0, none⟩ = some (.int .i64 g.n) ∧ w'.cell? ⟨w4.heap.size, 1, none⟩ = some (.slice A4 g.es.length c4) ∧ w'.cell? ⟨w4.heap.size, 2, none⟩ = some (.slice A4' g.cs.length c4')) ∧ Ext w5 w')
      ((refine ⟨⟨Ext.cell ?_ k0, Ext.cell ?_ k1, Ext.cell ?_ k2, Ext.cell ?_ j0, Ext.cell ?_ j1, Ext.cell ?_ j2⟩, ?_⟩ <;> (first | assumption | exact Ext.refl _ | exact (Ext.refl _).drew)))
      (first
        | (go_at_call 39; refine (l_toCharged g _ _ (HA.out.ext (X5.out.trans ((Ext.refl _).drew))) (by have := HBD.out; omega) (by have := HBD.out; omega)).mono ?_; rintro e w6 ⟨u6, rfl, hu6, hx6⟩; have Y6 : Ext w5 w6 := ((Ext.refl _).drew).trans hx6)
        | (go_at_call 32; refine (l_eqCharged g _ _ _ (R5.out.ext Y6) hu6.rd (by have := HBD.out; omega) (by have := HBD.out; omega)).mono ?_; rintro e w7 ⟨rfl, hx7⟩; have Y7 : Ext w5 w7 := Y6.trans hx7))
    have X7 := hd (X5.out.trans Y7)
    go_wp2
    go_ret
    exact RetT.mk rfl X7.out
end Go.Proofs.Ytegaablidoibdaa
