/-
  FnExactBitsOfMap: the walk: for all numbers and lists the law returns true. No condition.
-/
import Derived.Test.YtegaablidoibdaaFrame
import Derived.Test.YtegaablidoibdaaC28b
namespace Go.Proofs.Ytegaablidoibdaa
open Go.RowKit
set_option maxHeartbeats 1600000 in
theorem w_FnExactBitsOfMap (w : World) (n : Int) (hn : I64 n) (xs : List Int) (v : Value) (h : RdI w v xs) (_ : ∀ x ∈ xs, I64 x) :
    Calls Try.prog 4 #[.int .i64 n, v] w (RetT w) := by
  have HA := hd h
  have HN := hd hn
  obtain ⟨A, c, rfl, h1, h2, -⟩ := h.form
  clear h hn
  unfold maxLen at h2
  go_enter Try.func4, Try.ntmps4
  by_cases hbig : 1048576 < xs.length
  · go_wp2
    go_ret
    exact RetT.mk rfl (Ext.refl _)
  · go_wp2_with fail
    refine (l_toIntS xs _ _ HA.out (by omega)).mono ?_
    rintro e w1 ⟨u1, rfl, hu1, hx1⟩
    have R1 := hd hu1.rd
    have X1 := hd hx1
    go_wp2_with fail
    refine (s_BitsOfMap n xs _ _ R1.out (by omega) HN.out).mono ?_
    rintro e w2 ⟨rfl, rfl⟩
    unfold optN
    go_wp2_with fail
    refine (l_toIntS xs _ _ (HA.out.ext X1.out) (by omega)).mono ?_
    rintro e w3 ⟨u3, rfl, hu3, hx3⟩
    have R3 := hd hu3.rd
    have X3 := hd (X1.out.trans hx3)
    go_wp2_with fail
    refine (i_BitsOfMap n xs _ _ R3.out (by omega) HN.out).mono ?_
    rintro e w4 ⟨rfl, hx4⟩
    unfold optN
    have R4 := hd (R3.out.ext hx4)
    have X4 := hd (X3.out.trans hx4)
    go_wp2_with fail
    refine (l_toIntS xs _ _ (HA.out.ext X4.out) (by omega)).mono ?_
    rintro e w5 ⟨u5, rfl, hu5, hx5⟩
    have R5 := hd hu5.rd
    have X5 := hd (X4.out.trans hx5)
    go_wp2_with fail
    refine (rtq (l_eqIntS xs xs _ _ _ (R4.out.ext hx5) R5.out (by omega) (by omega)) (hd (eqI_refl xs))).mono ?_
    rintro e w6 ⟨rfl, n6, rfl⟩
    go_wp2
    go_ret
    exact RetT.mk rfl (X5.out.drewN _)
end Go.Proofs.Ytegaablidoibdaa
