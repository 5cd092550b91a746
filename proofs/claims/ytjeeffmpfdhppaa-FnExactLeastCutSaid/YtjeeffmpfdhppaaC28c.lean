/-
  Chapter 28: critical bits: the left pigeon. Conditions: 1 to 3 holes, bits below 4096.
-/
import Derived.Test.YtjeeffmpfdhppaaC28
import Derived.Test.YtjeeffmpfdhppaaNum
import Derived.Test.YtjeeffmpfdhppaaHo2
namespace Go.Proofs.Ytjeeffmpfdhppaa
open Go.RowKit

def cntJ (n b j : Nat) : Nat → Nat
  | 0 => 0
  | k + 1 => cntJ n b j k + bitN b (k * n + j - 1)
def cntI (n b i : Nat) : Nat → Nat
  | 0 => 0
  | k + 1 => cntI n b i k + bitN b ((i - 1) * n + (k + 1) - 1)
theorem cntJ_le (n b j k : Nat) : cntJ n b j k ≤ k := by
  induction k with
  | zero => exact Nat.le_refl _
  | succ k ih => unfold cntJ; have := bitN_lt b (k * n + j - 1); omega
theorem cntI_le (n b i k : Nat) : cntI n b i k ≤ k := by
  induction k with
  | zero => exact Nat.le_refl _
  | succ k ih => unfold cntI; have := bitN_lt b ((i - 1) * n + (k + 1) - 1); omega
def crit2G (n b : Nat) : Nat → Nat → Nat → Nat
  | 0, _, l => l
  | f + 1, i, l => if 1 < cntI n b i n then 0 else crit2G n b f (i + 1) (if cntI n b i n = 0 then i else l)
def critS (n b : Nat) : Nat := if (List.range n).all (fun j => cntJ n b (j + 1) (n + 1) == 1) then crit2G n b (n + 1) 1 0 else 0
def holesL (n b i : Nat) : List Int := (seqI 1 n).filter fun j => !(bitN b (pvar n i j - 1).toNat == 0)
def leftG (n b : Nat) : Nat → Nat → Nat → List Int → Nat
  | 0, _, l, _ => l
  | f + 1, i, l, us => match holesL n b i with
    | [] => if l = 0 then leftG n b f (i + 1) i us else 0
    | [h] => if hasI us h then 0 else leftG n b f (i + 1) l (us ++ [h])
    | _ => 0
def leftI (n b : Nat) : Nat := leftG n b (n + 1) 1 0 []
theorem left1 : ∀ b, b < 4 → leftI 1 b = critS 1 b := by decide +kernel
theorem left2 : ∀ b, b < 64 → leftI 2 b = critS 2 b := by decide +kernel
theorem left3' : ∀ a, a < 64 → ∀ c, c < 64 → leftI 3 (64 * a + c) = critS 3 (64 * a + c) := by decide +kernel
theorem left3 : ∀ b, b < 4096 → leftI 3 b = critS 3 b := fun b hb => by
  have := left3' (b / 64) (by omega) (b % 64) (by omega)
  rwa [show 64 * (b / 64) + b % 64 = b from by omega] at this
theorem left_eq {n b : Nat} (hn : 1 ≤ n ∧ n ≤ 3) (hb : b < 2 ^ (n * (n + 1))) : leftI n b = critS n b := by
  rcases (by omega : n = 1 ∨ n = 2 ∨ n = 3) with rfl | rfl | rfl
  · exact left1 b hb
  · exact left2 b hb
  · exact left3 b hb

theorem pvar_nat (n i j : Nat) (hi : 1 ≤ i) : pvar n i j = (((i - 1) * n + j : Nat) : Int) := by
  unfold pvar
  rw [Int.natCast_add, Int.natCast_mul, Int.natCast_sub hi]; rfl