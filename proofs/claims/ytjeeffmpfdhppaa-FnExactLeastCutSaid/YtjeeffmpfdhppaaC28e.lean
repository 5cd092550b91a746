/-
  Chapter 28: LeftPigeon and CriticalBits of both sides. Condition: the arguments are int64 numbers.
-/
import Derived.Test.YtjeeffmpfdhppaaC28d
import Derived.Test.YtjeeffmpfdhppaaBits
namespace Go.Proofs.Ytjeeffmpfdhppaa
open Go.RowKit

/-- A call returns a new slice of the numbers xs and b, and leaves all old memory alone. -/
def RetI2 (w : World) (e : TypeId) (xs : List Int) (b : Bool) : Ending → World → Prop := fun en w' => ∃ v, en = .returned (.tuple #[v, .bool b]) ∧ OwnI w' w.heap.size e v xs ∧ Ext w w'
theorem RetI2.mk {w w' : World} {e : TypeId} {xs : List Int} {b b' : Bool} {v : Value} (hb : b' = b) (h : OwnI w' w.heap.size e v xs) (hx : Ext w w') : RetI2 w e xs b (.returned (.tuple #[v, .bool b'])) w' := ⟨v, by rw [hb], h, hx⟩
theorem ownI_empty (w : World) (e : TypeId) : OwnI (w.alloc (.cells #[] e)) w.heap.size e (.slice (some ⟨w.heap.size, 0, none⟩) 0 0) [] := own_lit w _ e 1 #[] 0 (Nat.le_refl _) (Nat.zero_le _) rfl

def allL (n : Nat) (k : Nat) : List Int := ((List.range k).filter fun b => decide (0 < critS n b)).map fun b : Nat => (b : Int)
theorem allL_yes {n k : Nat} (h : 0 < critS n k) : allL n (k + 1) = allL n k ++ [(k : Int)] := by simp [allL, List.range_succ, List.filter_append, h]
theorem allL_no {n k : Nat} (h : critS n k = 0) : allL n (k + 1) = allL n k := by simp [allL, List.range_succ, List.filter_append, h]
theorem allL_len (n k : Nat) : (allL n k).length ≤ k := by
  unfold allL
  rw [List.length_map]
  exact Nat.le_trans (List.length_filter_le _ _) (by simp)
theorem crit2G_le (n b : Nat) : ∀ f i l : Nat, l ≤ 100 → i + f ≤ 100 → crit2G n b f i l ≤ 100
  | 0, _, l, h, _ => h
  | f + 1, i, l, h, h2 => by
    unfold crit2G
    split
    · omega
    · exact crit2G_le n b f (i + 1) _ (by split <;> omega) (by omega)
theorem critS_le (n b : Nat) (hn : n ≤ 3) : critS n b ≤ 100 := by
  unfold critS
  split
  · exact crit2G_le _ _ _ _ _ (by omega) (by omega)
  · omega
theorem nn_facts {n : Nat} (hn : 1 ≤ n ∧ n ≤ 3) : ∃ m P : Nat, m = n * (n + 1) ∧ P = 2 ^ m ∧ (n : Int) * ((n : Int) + 1) = (m : Int) ∧ 2 ≤ m ∧ m ≤ 12 ∧ wrap64 ((2 : Int) ^ m) = (P : Int) ∧ 1 ≤ P ∧ P ≤ 4096 := by
  refine ⟨_, _, rfl, rfl, by simp, ?_⟩
  rcases (by omega : n = 1 ∨ n = 2 ∨ n = 3) with rfl | rfl | rfl <;> simp [wrap64]
def critAll (n : Int) : List Int := if holesB n then allL n.toNat (2 ^ (n.toNat * (n.toNat + 1))) else []
def leftP (n bs : Int) : Nat := if holesB n then (if bitsB (n.toNat * (n.toNat + 1)) bs then critS n.toNat bs.toNat else 0) else 0
def leftV (n bs : Int) : Value := .tuple #[.int .i64 (leftP n bs : Nat), .bool (decide (0 < leftP n bs))]
theorem critAll_len (n : Int) : (critAll n).length ≤ 4096 := by
  unfold critAll
  obtain ⟨b, hb⟩ : ∃ b, holesB n = b := ⟨_, rfl⟩
  cases b
  · rw [hb]; simp
  · have hn := holesB_cases hb
    rw [hb, if_pos rfl]
    have h := allL_len n.toNat (2 ^ (n.toNat * (n.toNat + 1)))
    obtain ⟨m, P, hm, hP, _, _, _, _, _, hP2⟩ := nn_facts (n := n.toNat) (by omega)
    rw [← hm, ← hP] at h ⊢
    omega
end Go.Proofs.Ytjeeffmpfdhppaa
