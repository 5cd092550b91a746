/-
  Bits that are made; the number of the shared values turns on their bits alone: plain words. No condition.
-/
import Derived.Test.YtjeeffmpfdhppaaVal
namespace Go.Proofs.Ytjeeffmpfdhppaa
open Go.RowKit
/-! ### bits -/
def mkBits (p : Nat → Bool) : Nat → Nat
  | 0 => 0
  | n + 1 => mkBits p n + (if p n then 2 ^ n else 0)
theorem mkBits_lt (p : Nat → Bool) : ∀ n, mkBits p n < 2 ^ n
  | 0 => by simp [mkBits]
  | n + 1 => by
    have := mkBits_lt p n
    unfold mkBits
    rw [Nat.pow_succ]
    split <;> omega
theorem mkBits_bit (p : Nat → Bool) : ∀ n i, i < n → bitN (mkBits p n) i = if p i then 1 else 0
  | 0, i, h => by omega
  | n + 1, i, h => by
    have hlt := mkBits_lt p n
    unfold mkBits
    by_cases e : i = n
    · subst e
      unfold bitN
      cases p i
      · simp only [Bool.false_eq_true, if_false, Nat.add_zero]
        rw [Nat.div_eq_of_lt hlt]
      · simp only [if_true]
        rw [Nat.add_div_right _ (Nat.two_pow_pos i), Nat.div_eq_of_lt hlt]
    · have ih := mkBits_bit p n i (by omega)
      rw [← ih]
      unfold bitN
      cases p n
      · simp
      · simp only [if_true]
        have e2 : 2 ^ n = 2 ^ i * (2 * 2 ^ (n - i - 1)) := by rw [← Nat.pow_succ', ← Nat.pow_add]; congr 1; omega
        rw [e2, Nat.add_mul_div_left _ _ (Nat.two_pow_pos i)]
        omega
theorem numU_inj {vs : List Int} {b c : Nat} : ∀ k, numU vs b k = numU vs c k → ∀ i, i < k → bitN b (vs.getD i 1 - 1).toNat = bitN c (vs.getD i 1 - 1).toNat
  | 0, _, i, hi => by omega
  | k + 1, h, i, hi => by
    have h1 := numU_lt vs b k
    have h2 := numU_lt vs c k
    have t1 := bitN_lt b (vs.getD k 1 - 1).toNat
    have t2 := bitN_lt c (vs.getD k 1 - 1).toNat
    unfold numU at h
    have key : numU vs b k = numU vs c k ∧ bitN b (vs.getD k 1 - 1).toNat = bitN c (vs.getD k 1 - 1).toNat := by
      generalize bitN b (vs.getD k 1 - 1).toNat = x at *
      generalize bitN c (vs.getD k 1 - 1).toNat = y at *
      generalize numU vs b k = u at *
      generalize numU vs c k = v at *
      generalize 2 ^ k = P at *
      have hx : x = 0 ∨ x = 1 := by omega
      have hy : y = 0 ∨ y = 1 := by omega
      rcases hx with rfl | rfl <;> rcases hy with rfl | rfl <;> simp at h ⊢ <;> omega
    by_cases e : i = k
    · subst e; exact key.2
    · exact numU_inj k key.1 i (by omega)
theorem numOf_mem {vs : List Int} {b c : Nat} (h : numOf vs b = numOf vs c) {v : Int} (hv : v ∈ vs) : bitN b (v - 1).toNat = bitN c (v - 1).toNat := by
  obtain ⟨i, hi, rfl⟩ := List.mem_iff_getElem.1 hv
  have := numU_inj vs.length h i hi
  rwa [show vs.getD i 1 = vs[i] by simp [List.getD, hi]] at this
end Go.Proofs.Ytjeeffmpfdhppaa
