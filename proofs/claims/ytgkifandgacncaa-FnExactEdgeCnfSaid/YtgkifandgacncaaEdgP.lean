/-
  EdgeCnf in plain words: the clauses for two and three vertices. No condition.
-/
import Derived.Test.YtgkifandgacncaaGood
import Derived.Test.YtgkifandgacncaaApp
namespace Go.Proofs.Ytgkifandgacncaa
open Go.RowKit
/-- How many pairs there are whose first vertex is less than u. -/
def numE (m : Nat) : Nat → Nat
  | 0 => 0
  | u + 1 => numE m u + (if u = 0 then 0 else m - u)
def pE (m u v : Nat) : Int := if u < v then ((numE m u + (v - u) : Nat) : Int) else ((numE m v + (u - v) : Nat) : Int)
def pM (m : Nat) : Int := ((m * (m - 1) / 2 : Nat) : Int)
def edA (m k : Nat) : List (List Int) := (List.range k).map fun i : Nat => seqI (pM m + (i : Int) * (m : Int) + 1) m
def edB (m k : Nat) : List (List Int) := (List.range k).map fun v : Nat => [-(pM m + ((v : Int) + 1)), -(pM m + (m : Int) + ((v : Int) + 1))]
def edCx (m u v : Nat) : List Int := [pE m (u + 1) (v + 1), -(pM m + ((u : Int) + 1)), -(pM m + (m : Int) + ((v : Int) + 1))]
def edCr (m u k : Nat) : List (List Int) := (List.range k).flatMap fun v : Nat => if u = v then [] else [edCx m u v]
def edC (m k : Nat) : List (List Int) := (List.range k).flatMap fun u : Nat => edCr m u m
def edD (m k : Nat) : List (List Int) := (List.range k).map fun v : Nat => [pM m + 2 * (m : Int) + ((v : Int) + 1)]
def edEx (m u v : Nat) : List Int := [-(pE m (u + 1) (v + 1)), -(pM m + 2 * (m : Int) + ((u : Int) + 1)), -(pM m + 2 * (m : Int) + ((v : Int) + 1))]
def edEr (m u k : Nat) : List (List Int) := (List.range k).map fun t : Nat => edEx m u (u + 1 + t)
def edE (m k : Nat) : List (List Int) := (List.range k).flatMap fun u : Nat => edEr m u (m - (u + 1))
def ed1 (m : Nat) : List (List Int) := edA m 2 ++ edB m m ++ edC m m
def edL (m : Nat) : List (List Int) := ed1 m ++ edD m m ++ edE m m
def edF (m : Nat) : Cnf := ⟨pM m + 3 * (m : Int), edL m⟩
def edK (m : Nat) : Int := ((ed1 m).length : Int)
def edgeV (n : Int) : Cnf := if inB n 2 3 then edF n.toNat else ⟨0, []⟩
def edgeK (n : Int) : Int := if inB n 2 3 then edK n.toNat else 0
def edgeB (n : Int) : Bool := inB n 2 3
theorem edA_succ (m k : Nat) : edA m (k + 1) = edA m k ++ [seqI (pM m + (k : Int) * (m : Int) + 1) m] := by simp [edA, List.range_succ]
theorem edB_succ (m k : Nat) : edB m (k + 1) = edB m k ++ [[-(pM m + ((k : Int) + 1)), -(pM m + (m : Int) + ((k : Int) + 1))]] := by simp [edB, List.range_succ]
theorem edCr_succ (m u k : Nat) : edCr m u (k + 1) = edCr m u k ++ (if u = k then [] else [edCx m u k]) := by simp [edCr, List.range_succ]
theorem edC_succ (m k : Nat) : edC m (k + 1) = edC m k ++ edCr m k m := by simp [edC, List.range_succ]
theorem edD_succ (m k : Nat) : edD m (k + 1) = edD m k ++ [[pM m + 2 * (m : Int) + ((k : Int) + 1)]] := by simp [edD, List.range_succ]
theorem edEr_succ (m u k : Nat) : edEr m u (k + 1) = edEr m u k ++ [edEx m u (u + 1 + k)] := by simp [edEr, List.range_succ]
theorem edE_succ (m k : Nat) : edE m (k + 1) = edE m k ++ edEr m k (m - (k + 1)) := by simp [edE, List.range_succ]
theorem two_three {m : Nat} (h : 2 ≤ m ∧ m ≤ 3) : m = 2 ∨ m = 3 := by omega
theorem pM_bd {m : Nat} (h : 2 ≤ m ∧ m ≤ 3) : 1 ≤ pM m ∧ pM m ≤ 3 := by
  rcases two_three h with rfl | rfl <;> decide
theorem ed_len {m : Nat} (h : 2 ≤ m ∧ m ≤ 3) : (edL m).length ≤ 30 := by
  rcases two_three h with rfl | rfl <;> decide
theorem ed_good {m : Nat} (h : 2 ≤ m ∧ m ≤ 3) : goodB (edF m) = true := by
  rcases two_three h with rfl | rfl <;> decide +kernel
theorem ed_bd {m : Nat} (h : 2 ≤ m ∧ m ≤ 3) : Bd_IntSS (edL m) := by
  rcases two_three h with rfl | rfl
  · exact ⟨by decide, by decide, by decide⟩
  · exact ⟨by decide, by decide, by decide⟩
/-- What the program adds, and the clause that comes of it. -/
theorem edCx_ok {m u v : Nat} (h : 2 ≤ m ∧ m ≤ 3) (hu : u < m) (hv : v < m) (hne : u ≠ v) : (edCx m u v).Perm [-(pM m + ((u : Int) + 1)), -(pM m + (m : Int) + ((v : Int) + 1)), pE m (u + 1) (v + 1)] ∧ ((edCx m u v).Pairwise fun a b => absI a < absI b) ∧ (∀ x ∈ edCx m u v, -1000 ≤ x ∧ x ≤ 1000) := by
  have key : ∀ m ∈ [2, 3], ∀ u ∈ List.range 3, ∀ v ∈ List.range 3, u < m → v < m → u ≠ v → (edCx m u v).Perm [-(pM m + ((u : Int) + 1)), -(pM m + (m : Int) + ((v : Int) + 1)), pE m (u + 1) (v + 1)] ∧ ((edCx m u v).Pairwise fun a b => absI a < absI b) ∧ (∀ x ∈ edCx m u v, -1000 ≤ x ∧ x ≤ 1000) := by decide +kernel
  exact key m (by have := two_three h; simp; omega) u (List.mem_range.2 (by omega)) v (List.mem_range.2 (by omega)) hu hv hne
theorem edEx_ok {m u v : Nat} (h : 2 ≤ m ∧ m ≤ 3) (hu : u < v) (hv : v < m) : ((edEx m u v).Pairwise fun a b => absI a < absI b) ∧ (∀ x ∈ edEx m u v, -1000 ≤ x ∧ x ≤ 1000) := by
  have key : ∀ m ∈ [2, 3], ∀ u ∈ List.range 3, ∀ v ∈ List.range 3, u < v → v < m → ((edEx m u v).Pairwise fun a b => absI a < absI b) ∧ (∀ x ∈ edEx m u v, -1000 ≤ x ∧ x ≤ 1000) := by decide +kernel
  exact key m (by have := two_three h; simp; omega) u (List.mem_range.2 (by omega)) v (List.mem_range.2 (by omega)) hu hv
def pairs8 : List (Int × Int × Int × Int) := [(2, 1, 2, 1), (2, 2, 1, 1), (3, 1, 2, 1), (3, 2, 1, 1), (3, 1, 3, 2), (3, 3, 1, 2), (3, 2, 3, 3), (3, 3, 2, 3)]
theorem pE_mem {m u v : Nat} (h : 2 ≤ m ∧ m ≤ 3) (hu : u < m) (hv : v < m) (hne : u ≠ v) : ((m : Int), (u : Int) + 1, (v : Int) + 1, pE m (u + 1) (v + 1)) ∈ pairs8 := by
  have key : ∀ m ∈ [2, 3], ∀ u ∈ List.range 3, ∀ v ∈ List.range 3, u < m → v < m → u ≠ v → ((m : Int), (u : Int) + 1, (v : Int) + 1, pE m (u + 1) (v + 1)) ∈ pairs8 := by decide +kernel
  exact key m (by have := two_three h; simp; omega) u (List.mem_range.2 (by omega)) v (List.mem_range.2 (by omega)) hu hv hne
theorem pE_bd {m u v : Nat} (h : 2 ≤ m ∧ m ≤ 3) (hu : u < m) (hv : v < m) : 0 ≤ pE m (u + 1) (v + 1) ∧ pE m (u + 1) (v + 1) ≤ 3 := by
  have key : ∀ m ∈ [2, 3], ∀ u ∈ List.range 3, ∀ v ∈ List.range 3, u < m → v < m → 0 ≤ pE m (u + 1) (v + 1) ∧ pE m (u + 1) (v + 1) ≤ 3 := by decide +kernel
  exact key m (by have := two_three h; simp; omega) u (List.mem_range.2 (by omega)) v (List.mem_range.2 (by omega)) hu hv
theorem edA_ok {m i : Nat} (h : 2 ≤ m ∧ m ≤ 3) (hi : i < 2) : ((seqI (pM m + (i : Int) * (m : Int) + 1) m).Pairwise fun a b => absI a < absI b) ∧ (∀ x ∈ seqI (pM m + (i : Int) * (m : Int) + 1) m, -1000 ≤ x ∧ x ≤ 1000) := by
  have key : ∀ m ∈ [2, 3], ∀ i ∈ List.range 2, ((seqI (pM m + (i : Int) * (m : Int) + 1) m).Pairwise fun a b => absI a < absI b) ∧ (∀ x ∈ seqI (pM m + (i : Int) * (m : Int) + 1) m, -1000 ≤ x ∧ x ≤ 1000) := by decide +kernel
  exact key m (by have := two_three h; simp; omega) i (List.mem_range.2 hi)
theorem edB_ok {m v : Nat} (h : 2 ≤ m ∧ m ≤ 3) (hv : v < m) : ([-(pM m + ((v : Int) + 1)), -(pM m + (m : Int) + ((v : Int) + 1))].Pairwise fun a b => absI a < absI b) := by
  have key : ∀ m ∈ [2, 3], ∀ v ∈ List.range 3, v < m → ([-(pM m + ((v : Int) + 1)), -(pM m + (m : Int) + ((v : Int) + 1))].Pairwise fun a b => absI a < absI b) := by decide +kernel
  exact key m (by have := two_three h; simp; omega) v (List.mem_range.2 (by omega)) hv
theorem ed1_len {m : Nat} (h : 2 ≤ m ∧ m ≤ 3) : ∀ k, k ≤ m → (edA m 2 ++ edB m k).length ≤ 30 ∧ (edA m 2 ++ edB m m ++ edC m k).length ≤ 30 ∧ (ed1 m ++ edD m k).length ≤ 30 ∧ (ed1 m ++ edD m m ++ edE m k).length ≤ 30 := by
  have key : ∀ m ∈ [2, 3], ∀ k ∈ List.range 4, k ≤ m → (edA m 2 ++ edB m k).length ≤ 30 ∧ (edA m 2 ++ edB m m ++ edC m k).length ≤ 30 ∧ (ed1 m ++ edD m k).length ≤ 30 ∧ (ed1 m ++ edD m m ++ edE m k).length ≤ 30 := by decide +kernel
  exact fun k hk => key m (by have := two_three h; simp; omega) k (List.mem_range.2 (by omega)) hk
theorem edr_len {m : Nat} (h : 2 ≤ m ∧ m ≤ 3) : ∀ u k, u < m → k ≤ m → (edA m 2 ++ edB m m ++ edC m u ++ edCr m u k).length ≤ 30 ∧ (ed1 m ++ edD m m ++ edE m u ++ edEr m u k).length ≤ 40 := by
  have key : ∀ m ∈ [2, 3], ∀ u ∈ List.range 3, ∀ k ∈ List.range 4, u < m → k ≤ m → (edA m 2 ++ edB m m ++ edC m u ++ edCr m u k).length ≤ 30 ∧ (ed1 m ++ edD m m ++ edE m u ++ edEr m u k).length ≤ 40 := by decide +kernel
  exact fun u k hu hk => key m (by have := two_three h; simp; omega) u (List.mem_range.2 (by omega)) k (List.mem_range.2 (by omega)) hu hk
theorem edgeV_bd (n : Int) : Bd_Cnf (edgeV n) := by
  unfold edgeV
  split
  · rename_i h
    have := inB_iff.1 h
    exact ed_bd (by omega)
  · exact ⟨by simp, (fun x hx => by simp at hx), by decide⟩
end Go.Proofs.Ytgkifandgacncaa
