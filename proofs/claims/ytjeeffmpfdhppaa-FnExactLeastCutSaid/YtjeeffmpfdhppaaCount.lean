/-
  CountCritical of both sides. Condition: sizes up to 2^20.
-/
import Derived.Test.YtjeeffmpfdhppaaC2
import Derived.Test.YtjeeffmpfdhppaaC28e
import Derived.Test.YtjeeffmpfdhppaaHoX
import Derived.Test.YtjeeffmpfdhppaaLaw
namespace Go.Proofs.Ytjeeffmpfdhppaa
open Go.RowKit
def takesB (n : Int) (c : List Int) : Bool := holesB n && clauseB (n * (n + 1)) c
/-- Which of the numbers make the clause false, how many. -/
def falseL (c : List Int) (L : List Int) : List Int := L.filter fun b => !trueB b.toNat c
def cntG (c : List Int) : List Int → Nat → Nat
  | [], s => s
  | b :: r, s => cntG c r (if trueB b.toNat c then s else s + 1)
theorem cntG_eq (c : List Int) : ∀ (L : List Int) (s : Nat), cntG c L s = s + (falseL c L).length
  | [], s => rfl
  | b :: r, s => by
    unfold cntG falseL
    rw [cntG_eq c r]
    cases h : trueB b.toNat c <;> simp [falseL, h] <;> omega
theorem falseL_len (c L : List Int) : (falseL c L).length ≤ L.length := List.length_filter_le _ _
def critNN (n : Int) : List Int := allL n.toNat (2 ^ (n.toNat * (n.toNat + 1)))
def countN (n : Int) (c : List Int) : Int := if takesB n c then ((falseL c (critNN n)).length : Int) else 0
/-- What a good pair of number and clause comes to. -/
theorem takes_inv {n : Int} {c : List Int} (h : takesB n c = true) : (∃ m : Nat, n = m ∧ 1 ≤ m ∧ m ≤ 3) ∧ (∀ x ∈ c, -12 ≤ x ∧ x ≤ 12 ∧ x ≠ 0) := by
  unfold takesB at h
  rw [Bool.and_eq_true] at h
  have hn := holesB_cases h.1
  obtain ⟨a, b, d, _⟩ := clause_inv h.2
  refine ⟨⟨n.toNat, by omega, by omega, by omega⟩, fun x hx => ?_⟩
  have := d x hx
  omega
theorem allL_mem {n k : Nat} {x : Int} (h : x ∈ allL n k) : ∃ b : Nat, x = b ∧ b < k ∧ 0 < critS n b := by
  unfold allL at h
  obtain ⟨b, hb, rfl⟩ := List.mem_map.1 h
  have := List.mem_filter.1 hb
  exact ⟨b, rfl, List.mem_range.1 this.1, by simpa using this.2⟩
theorem critNN_mem {m : Nat} (hm : 1 ≤ m ∧ m ≤ 3) {x : Int} (h : x ∈ critNN (m : Int)) : ∃ b : Nat, x = b ∧ b < 4096 ∧ 0 < critS m b := by
  unfold critNN at h
  rw [Int.toNat_natCast] at h
  obtain ⟨b, h1, h2, h3⟩ := allL_mem h
  obtain ⟨mm, P, e1, e2, _, _, _, _, _, hP2⟩ := nn_facts hm
  rw [← e1, ← e2] at h2
  exact ⟨b, h1, by omega, h3⟩
theorem critNN_len {m : Nat} (hm : 1 ≤ m ∧ m ≤ 3) : (critNN (m : Int)).length ≤ 4096 := by
  unfold critNN
  rw [Int.toNat_natCast]
  have h := allL_len m (2 ^ (m * (m + 1)))
  obtain ⟨mm, P, e1, e2, _, _, _, _, _, hP2⟩ := nn_facts hm
  rw [← e1, ← e2] at h ⊢
  omega
end Go.Proofs.Ytjeeffmpfdhppaa
