/-
  FnExactLadderGraph: the walk: for all numbers and bools the law returns true. No condition.
-/
import Derived.Test.YtegaablidoibdaaFrame
import Derived.Test.YtegaablidoibdaaChgL
namespace Go.Proofs.Ytegaablidoibdaa
open Go.RowKit
theorem ladG_bd (n : Int) (odd : Bool) : (ladG n odd).es.length ≤ 12 ∧ (ladG n odd).cs.length ≤ 8 := by
  unfold ladG
  by_cases h : inB n 2 4 = true
  · have := inB_iff.1 h
    rw [if_pos h]
    simp only [length_sideE, length_chgs]; omega
  · rw [if_neg h]
    simp
set_option maxRecDepth 100000 in
set_option maxHeartbeats 1600000 in
theorem w_FnExactLadderGraph (w : World) (n : Int) (_ : I64 n) (odd : Bool) :
    Calls Try.prog 8 #[.int .i64 n, .bool odd] w (RetT w) := by
  have hbd := ladG_bd n odd
  generalize hg : ladG n odd = g at *
  generalize hbo : inB n 2 4 = bo at *
  have HG := hd hg
  have HBO := hd hbo
  have HBD := hd hbd
  clear hg hbo hbd
  go_enter Try.func8, Try.ntmps8
  go_wp2_with fail
  refine (s_LadderGraph n odd _).mono ?_
  rintro e w1 ⟨u1, rfl, hu1, hx1⟩
  rw [HG.out] at hu1
  rw [HBO.out]
  obtain ⟨A1, c1, A1', c1', rfl, O1⟩ := hu1.form
  have X1 := hd hx1
  have B1 := hd (blk_new (w := w1) (.cells #[.int .i64 g.n, .slice A1 g.es.length c1, .slice A1' g.cs.length c1'] 43) rfl)
  have O1a := hd (O1.out.ext (Ext.new w1 (.cells #[.int .i64 g.n, .slice A1 g.es.length c1, .slice A1' g.cs.length c1'] 43)))
  have X1a := hd (X1.out.alloc (.cells #[.int .i64 g.n, .slice A1 g.es.length c1, .slice A1' g.cs.length c1'] 43))
  clear hu1 hx1
  go_wp2_with fail
  refine (i_LadderGraph n odd _).mono ?_
  rintro e w2 ⟨u2, rfl, hu2, hx2⟩
  rw [HG.out] at hu2
  rw [HBO.out]
  obtain ⟨A2, c2, A2', c2', rfl, O2⟩ := hu2.form
  have X2 := hd (X1a.out.trans hx2)
  have O1b := hd (O1a.out.ext hx2)
  have B1b := hd (hx2.heap B1.out)
  have X2a := hd (X2.out.alloc (.cells #[.int .i64 g.n, .slice A2 g.es.length c2, .slice A2' g.cs.length c2'] 43))
  have O1c := hd (O1b.out.ext (Ext.new w2 (.cells #[.int .i64 g.n, .slice A2 g.es.length c2, .slice A2' g.cs.length c2'] 43)))
  have O2c := hd (O2.out.ext (Ext.new w2 (.cells #[.int .i64 g.n, .slice A2 g.es.length c2, .slice A2' g.cs.length c2'] 43)))
  clear hu2 hx2
  obtain ⟨k0, k1, k2⟩ := blk3 B1b.out
  have hs1 := blk_lt B1b.out
  go_wp2_with fail
  refine (l_eqCharged g _ _ _ O2c.out.rd O1c.out.rd (by have := HBD.out; omega) (by have := HBD.out; omega)).mono ?_
  rintro e w3 ⟨rfl, hx3⟩
  have B2 := hd (hx3.heap (blk_new (w := w2) (.cells #[.int .i64 g.n, .slice A2 g.es.length c2, .slice A2' g.cs.length c2'] 43) rfl))
  have B1d := hd (hx3.heap (blk_old (o' := .cells #[.int .i64 g.n, .slice A2 g.es.length c2, .slice A2' g.cs.length c2'] 43) B1b.out))
  have X3 := hd (X2a.out.trans hx3)
  have O1d := hd (O1c.out.ext hx3)
  have O2d := hd (O2c.out.ext hx3)
  clear hx3 k0 k1 k2
  obtain ⟨k0, k1, k2⟩ := blk3 B2.out
  have hs2 := blk_lt B2.out
  go_wp2_with fail
  refine (l_markCharged g _ 1 _ _ _ O2d.out (by omega) (by have := HBD.out; omega) (by have := HBD.out; omega) (by omega) (by omega)).mono ?_
  rintro e w4 ⟨rfl, hm, ht4⟩
  have M4 := hd hm
  have B2e := hd (touch_blk ht4 B2.out (by omega))
  have B1e := hd (touch_blk ht4 B1d.out (by simp))
  have O1e := hd (O1d.out.touch ht4 (by simp))
  have X4 : Hid (Ext w w4) := hd (ht4.below X3.out (by have := X1a.out.size; exact this) X3.out.size)
  clear hm ht4 k0 k1 k2
  obtain ⟨k0, k1, k2⟩ := blk3 B2e.out
  have hs4 := blk_lt B2e.out
  go_wp2_with fail
  refine (l_heldCharged g _ 1 _ M4.out (by have := HBD.out; omega) (by have := HBD.out; omega) (by omega) (by omega)).mono ?_
  rintro e w5 ⟨rfl, hx5⟩
  have M5 := hd (M4.out.ext hx5)
  have B2f := hd (hx5.heap B2e.out)
  have B1f := hd (hx5.heap B1e.out)
  have O1f := hd (O1e.out.ext hx5)
  have X5 := hd (X4.out.trans hx5)
  clear hx5 k0 k1 k2
  go_wp2_with fail
  refine (i_LadderGraph n odd _).mono ?_
  rintro e w6 ⟨u6, rfl, hu6, hx6⟩
  rw [HG.out] at hu6
  rw [HBO.out]
  obtain ⟨A6, c6, A6', c6', rfl, O6⟩ := hu6.form
  have M6 := hd ((M5.out.ext hx6).ext (Ext.new w6 (.cells #[.int .i64 g.n, .slice A6 g.es.length c6, .slice A6' g.cs.length c6'] 43)))
  have B2g := hd (hx6.heap B2f.out)
  have B1g := hd (hx6.heap B1f.out)
  have O1g := hd ((O1f.out.ext hx6).ext (Ext.new w6 (.cells #[.int .i64 g.n, .slice A6 g.es.length c6, .slice A6' g.cs.length c6'] 43)))
  have O6g := hd (O6.out.ext (Ext.new w6 (.cells #[.int .i64 g.n, .slice A6 g.es.length c6, .slice A6' g.cs.length c6'] 43)))
  have X6 := hd ((X5.out.trans hx6).alloc (.cells #[.int .i64 g.n, .slice A6 g.es.length c6, .slice A6' g.cs.length c6'] 43))
  clear hu6 hx6
  obtain ⟨k0, k1, k2⟩ := blk3 B1g.out
  have hs6 := blk_lt B1g.out
  have hs62 := blk_lt B2g.out
  go_wp2_with fail
  refine (l_eqCharged g _ _ _ O6g.out.rd O1g.out.rd (by have := HBD.out; omega) (by have := HBD.out; omega)).mono ?_
  rintro e w7 ⟨rfl, hx7⟩
  have M7 := hd (M6.out.ext hx7)
  have B2h := hd (hx7.heap (blk_old B2g.out))
  have X7 := hd (X6.out.trans hx7)
  clear hx7 k0 k1 k2
  obtain ⟨k0, k1, k2⟩ := blk3 B2h.out
  go_wp2_with fail
  refine (l_heldCharged g _ 1 _ M7.out (by have := HBD.out; omega) (by have := HBD.out; omega) (by omega) (by omega)).mono ?_
  rintro e w8 ⟨rfl, hx8⟩
  go_wp2
  go_ret
  exact RetT.mk rfl (X7.out.trans hx8)
end Go.Proofs.Ytegaablidoibdaa
