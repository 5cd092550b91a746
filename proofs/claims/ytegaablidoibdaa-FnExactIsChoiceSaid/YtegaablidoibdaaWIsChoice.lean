/-
  FnExactIsChoice: the walk: for all lists the law returns true. No condition.
-/
import Derived.Test.YtegaablidoibdaaFrame
import Derived.Test.YtegaablidoibdaaC28
namespace Go.Proofs.Ytegaablidoibdaa
open Go.RowKit
set_option maxHeartbeats 1600000 in
theorem w_FnExactIsChoice (w : World) (xss : List (List Int)) (v : Value) (h : RdSS w v xss) (_ : ∀ xs ∈ xss, ∀ x ∈ xs, I64 x) :
    Calls Try.prog 5 #[v] w (RetT w) := by
  have HA := hd h
  clear h
  have hbd := szII_bd xss 1048576 (by omega)
  generalize hz : szII xss 1048576 = z at *
  have HZ := hd hz
  clear hz
  go_enter Try.func5, Try.ntmps5
  by_cases hneg : z < 0
  · go_wp2_with (go_at_call 23; refine (l_szIntSS xss _ _ _ HA.out (by omega) (by omega)).mono ?_; rintro e w1 ⟨rfl, rfl⟩; rw [HZ.out])
    go_ret
    exact RetT.mk rfl (Ext.refl _)
  · have hok := szII_ok (xss := xss) (left := 1048576) (by rw [HZ.out]; exact hneg)
    have hl : xss.length ≤ 1073741824 := by omega
    have HLE : Hid (∀ xs ∈ xss, xs.length ≤ 1073741824) := hd fun xs hx => by have := hok.2.1 xs hx; omega
    clear hok
    go_wp2_with fail
    refine (l_szIntSS xss _ _ _ HA.out (by omega) (by omega)).mono ?_
    rintro e w1 ⟨rfl, rfl⟩
    rw [HZ.out]
    go_wp2_with fail
    refine (l_toIntSS xss _ _ HA.out hl HLE).mono ?_
    rintro e w1 ⟨u1, rfl, hu1, hx1⟩
    have R1 := hd hu1.rd
    have X1 := hd hx1
    go_wp2_with fail
    refine (s_IsChoice xss _ _ R1.out hl HLE).mono ?_
    rintro e w2 ⟨rfl, n2, rfl⟩
    go_wp2_with fail
    refine (l_toIntSS xss _ _ (HA.out.ext (X1.out.drewN _)) hl HLE).mono ?_
    rintro e w3 ⟨u3, rfl, hu3, hx3⟩
    have R3 := hd hu3.rd
    have X3 := hd ((X1.out.drewN _).trans hx3)
    go_wp2_with fail
    refine (i_IsChoice xss _ _ R3.out hl HLE).mono ?_
    rintro e w4 ⟨rfl, rfl⟩
    go_wp2_with fail
    refine (l_toIntSS xss _ _ (HA.out.ext X3.out) hl HLE).mono ?_
    rintro e w5 ⟨u5, rfl, hu5, hx5⟩
    have R5 := hd hu5.rd
    have X5 := hd (X3.out.trans hx5)
    go_wp2_with fail
    refine (rtq (l_eqIntSS xss xss _ _ _ (R3.out.ext hx5) R5.out hl hl HLE HLE) (hd (eqII_refl xss))).mono ?_
    rintro e w6 ⟨rfl, n6, rfl⟩
    go_wp2
    go_ret
    exact RetT.mk rfl (X5.out.drewN _)
end Go.Proofs.Ytegaablidoibdaa
