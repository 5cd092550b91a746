/-
  Numbers that are bits of so many variables. Condition: up to 60 variables.
-/
import Derived.Test.YtjeeffmpfdhppaaNum
import Derived.Test.YtjeeffmpfdhppaaC1
namespace Go.Proofs.Ytjeeffmpfdhppaa
open Go.RowKit
def bitsB (vars : Nat) (bits : Int) : Bool := inB bits 0 ((2 ^ vars : Nat) - 1 : Int)
theorem bitsB_nat {v : Nat} {bs : Int} (h : bitsB v bs = true) : ∃ b : Nat, bs = (b : Int) ∧ b < 2 ^ v := by
  unfold bitsB at h
  rw [inB_iff] at h
  obtain ⟨b, rfl⟩ := Int.eq_ofNat_of_zero_le h.1
  have := Nat.two_pow_pos v
  exact ⟨b, rfl, by omega⟩
end Go.Proofs.Ytjeeffmpfdhppaa
