/-
  Numbers that are bits of so many variables. Condition: up to 60 variables.
-/
import Derived.Test.YtpljmlkinjhigaaNum
import Derived.Test.YtpljmlkinjhigaaC1
namespace Go.Proofs.Ytpljmlkinjhigaa
open Go.RowKit
def bitsB (vars : Nat) (bits : Int) : Bool := inB bits 0 ((2 ^ vars : Nat) - 1 : Int)
theorem s_l6Bits (vars : Nat) (bs : Int) (w : World) (hv : vars ≤ 60) : Calls Try.prog 80 #[.int .i64 vars, .int .i64 bs] w (Ret w (.bool (bitsB vars bs))) := by
  have hw := wrap_pow (m := vars) (by omega)
  have hP := pow_lt62 (m := vars) (by omega)
  unfold bitsB
  generalize 2 ^ vars = P at *
  go_enter Try.func80, Try.ntmps80
  go_wp2_with fail
  refine (s_l1In _ _ _ _).mono ?_
  rintro e w1 ⟨rfl, rfl⟩
  go_wp2
  go_ret
  exact Ret.mk rfl
theorem i_bitsOk (vars : Nat) (bs : Int) (w : World) (hv : vars ≤ 60) : Calls Try.prog 124 #[.int .i64 vars, .int .i64 bs] w (Ret w (.bool (bitsB vars bs))) := by
  have hw := wrap_pow (m := vars) (by omega)
  have hP := pow_lt62 (m := vars) (by omega)
  unfold bitsB
  generalize 2 ^ vars = P at *
  go_enter Try.func124, Try.ntmps124
  go_wp2_with fail
  refine (i_within _ _ _ _).mono ?_
  rintro e w1 ⟨rfl, rfl⟩
  go_wp2
  go_ret
  exact Ret.mk rfl
theorem bitsB_nat {v : Nat} {bs : Int} (h : bitsB v bs = true) : ∃ b : Nat, bs = (b : Int) ∧ b < 2 ^ v := by
  unfold bitsB at h
  rw [inB_iff] at h
  obtain ⟨b, rfl⟩ := Int.eq_ofNat_of_zero_le h.1
  have := Nat.two_pow_pos v
  exact ⟨b, rfl, by omega⟩
end Go.Proofs.Ytpljmlkinjhigaa
