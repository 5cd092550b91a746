/-
  Indexes chosen by a test, and sums of bits. No condition.
-/
import Derived.Test.YtljhcofehhpinaaNum
import Derived.Test.YtljhcofehhpinaaC1
namespace Go.Proofs.Ytljhcofehhpinaa
open Go.RowKit
def selN (p : Nat → Bool) (k : Nat) : List Int := ((List.range k).filter p).map fun j : Nat => (j : Int)
section
variable {p q : Nat → Bool} {k : Nat}
theorem selN_yes (h : p k = true) : selN p (k + 1) = selN p k ++ [(k : Int)] := by simp [selN, List.range_succ, List.filter_append, h]
theorem selN_no (h : p k = false) : selN p (k + 1) = selN p k := by simp [selN, List.range_succ, List.filter_append, h]
theorem selN_len (p : Nat → Bool) (k : Nat) : (selN p k).length ≤ k := by
  unfold selN
  rw [List.length_map]
  exact Nat.le_trans (List.length_filter_le _ _) (by simp)
theorem selN_mem {x : Int} (h : x ∈ selN p k) : ∃ j : Nat, x = j ∧ j < k ∧ p j = true := by
  obtain ⟨j, hj, rfl⟩ := List.mem_map.1 h
  have := List.mem_filter.1 hj
  exact ⟨j, rfl, List.mem_range.1 this.1, this.2⟩
theorem selN_congr (h : ∀ j, j < k → p j = q j) : selN p k = selN q k := by
  unfold selN
  congr 1
  apply List.filter_congr
  intro j hj
  exact h j (List.mem_range.1 hj)
end
/-- The bits of b at the indexes, added to s. -/
def sumBits (b : Nat) : List Int → Int → Int
  | [], s => s
  | k :: r, s => sumBits b r (s + (bitN b k.toNat : Nat))
/-- Every number of the list is an index below n. -/
def Idx (n : Nat) (xs : List Int) : Prop := ∀ x ∈ xs, ∃ j : Nat, x = j ∧ j < n
theorem Idx.get {n : Nat} {xs : List Int} (h : Idx n xs) {k : Nat} (hk : k < xs.length) : ∃ j : Nat, xs[k] = j ∧ j < n := h _ (List.getElem_mem hk)
theorem selN_idx (p : Nat → Bool) (k : Nat) : Idx k (selN p k) := fun _ hx => by
  obtain ⟨j, h1, h2, _⟩ := selN_mem hx
  exact ⟨j, h1, h2⟩
end Go.Proofs.Ytljhcofehhpinaa
