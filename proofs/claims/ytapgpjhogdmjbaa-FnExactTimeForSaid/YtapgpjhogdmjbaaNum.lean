/-
  Numbers as bits: shifts and masks of numbers that are not negative. Conditions: below 2^62.
-/
import Derived.Test.YtapgpjhogdmjbaaBase
namespace Go.Proofs.Ytapgpjhogdmjbaa
open Go.RowKit

theorem pow_lt62 {m : Nat} (h : m ≤ 61) : 2 ^ m ≤ 2305843009213693952 := by
  have := Nat.pow_le_pow_right (n := 2) (by decide) h
  simpa using this
theorem wrap_pow {m : Nat} (h : m ≤ 61) : wrap64 ((2 : Int) ^ m) = ((2 ^ m : Nat) : Int) := by
  have h1 := pow_lt62 h
  have e : (2 : Int) ^ m = ((2 ^ m : Nat) : Int) := by simp
  rw [e]
  generalize (2 ^ m : Nat) = z at *
  unfold wrap64; omega
theorem or_pow {b m : Nat} (hb : b < 2305843009213693952) (h : m ≤ 60) : bits .or .i64 (b : Int) (wrap64 ((2 : Int) ^ m)) = ((b ||| 2 ^ m : Nat) : Int) := by
  have h1 := pow_lt62 (m := m) (by omega)
  rw [wrap_pow (by omega), or64 _ _ (by omega) (by omega)]
theorem or_lt {b m k : Nat} (hb : b < 2 ^ k) (h : m < k) : b ||| 2 ^ m < 2 ^ k := Nat.or_lt_two_pow hb (Nat.pow_lt_pow_right (by decide) h)
/-- The bit k of b, as the text computes it: (b >> k) & 1. -/
def bitN (b k : Nat) : Nat := b / 2 ^ k % 2
theorem bitN_lt (b k : Nat) : bitN b k < 2 := Nat.mod_lt _ (by decide)
theorem and_one (a : Nat) (ha : a < 9223372036854775808) : bits .and .i64 (a : Int) 1 = ((a % 2 : Nat) : Int) := by
  have := and64 a 1 ha (by decide)
  rw [Nat.and_one_is_mod] at this
  exact this
theorem shr_and {b k : Nat} (hb : b < 9223372036854775808) : bits .and .i64 ((b : Int) / 2 ^ k) 1 = ((bitN b k : Nat) : Int) := by
  have e : (b : Int) / 2 ^ k = ((b / 2 ^ k : Nat) : Int) := by simp
  rw [e, and_one _ (Nat.lt_of_le_of_lt (Nat.div_le_self _ _) hb)]
  rfl
end Go.Proofs.Ytapgpjhogdmjbaa
