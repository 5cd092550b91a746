/-
  FunctionalCnf of the impl's side. Condition: none beyond the argument's range.
-/
import Derived.Test.YtjeeffmpfdhppaaPig
import Derived.Test.YtjeeffmpfdhppaaC28
namespace Go.Proofs.Ytjeeffmpfdhppaa
open Go.RowKit
def fPair (m i j x : Nat) : List Int := [-(pvar m ((i : Int) + 1) ((j : Int) + 1)), -(pvar m ((i : Int) + 1) ((x : Int) + 1))]
def fP (m i j t : Nat) : List (List Int) := (List.range t).map fun d => fPair m i j (j + 1 + d)
def fQ (m i j : Nat) : List (List Int) := (List.range j).flatMap fun y => fP m i y (m - (y + 1))
def fR (m i : Nat) : List (List Int) := (List.range i).flatMap fun z => fQ m z m
theorem fP_succ (m i j t : Nat) : fP m i j (t + 1) = fP m i j t ++ [fPair m i j (j + 1 + t)] := by simp [fP, List.range_succ]
theorem fQ_succ (m i j : Nat) : fQ m i (j + 1) = fQ m i j ++ fP m i j (m - (j + 1)) := by simp [fQ, List.range_succ]
theorem fR_succ (m i : Nat) : fR m (i + 1) = fR m i ++ fQ m i m := by simp [fR, List.range_succ]
theorem fP_len (m i j t : Nat) : (fP m i j t).length = t := by simp [fP]
theorem fQ_len (m i j : Nat) : (fQ m i j).length ≤ j * m := by
  induction j with
  | zero => simp [fQ]
  | succ j ih => rw [fQ_succ, List.length_append, fP_len, Nat.succ_mul]; omega
theorem fR_len (m i : Nat) : (fR m i).length ≤ i * (m * m) := by
  induction i with
  | zero => simp [fR]
  | succ i ih => rw [fR_succ, List.length_append, Nat.succ_mul]; have := fQ_len m i m; omega
theorem fPair_ok {m i j x : Nat} (hm : 1 ≤ m ∧ m ≤ 3) (hi : i ≤ m) (hj : j < x) (hx : x < m) : (fPair m i j x).Pairwise (fun a b => absI a < absI b) ∧ ∀ z ∈ fPair m i j x, -1000 ≤ z ∧ z ≤ 1000 := by
  have key : ∀ m ∈ [1, 2, 3], ∀ i ∈ [0, 1, 2, 3], ∀ j ∈ [0, 1, 2], ∀ x ∈ [0, 1, 2], i ≤ m → j < x → x < m → (fPair m i j x).Pairwise (fun a b => absI a < absI b) ∧ ∀ z ∈ fPair m i j x, -1000 ≤ z ∧ z ≤ 1000 := by decide
  exact key m (by simp; omega) i (by simp; omega) j (by simp; omega) x (by simp; omega) hi hj hx
def func17 (m : Nat) : Cnf := ⟨((m : Int) + 1) * (m : Int), (cnf17 m).cs ++ fR m (m + 1)⟩
end Go.Proofs.Ytjeeffmpfdhppaa
