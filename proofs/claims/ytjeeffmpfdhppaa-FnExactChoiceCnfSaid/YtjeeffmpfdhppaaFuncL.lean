/-
  FunctionalCnf and OntoCnf, both sides, for all arguments. No condition.
-/
import Derived.Test.YtjeeffmpfdhppaaFuncS
import Derived.Test.YtjeeffmpfdhppaaLaw
namespace Go.Proofs.Ytjeeffmpfdhppaa
open Go.RowKit
def funcV (n : Int) : Cnf := if holesB n then func17 n.toNat else ⟨0, []⟩
theorem holes_inv {n : Int} (h : holesB n = true) : ∃ m : Nat, n = m ∧ 1 ≤ m ∧ m ≤ 3 := by
  have h1 := inB_iff.1 (show inB n 1 3 = true from h)
  exact ⟨n.toNat, by omega, by omega, by omega⟩
theorem func17_bd {m : Nat} (hm : 1 ≤ m ∧ m ≤ 3) : Bd_Cnf (func17 m) ∧ (func17 m).cs.length ≤ 100 := by
  have key : ∀ m ∈ [1, 2, 3], ((func17 m).cs.length ≤ 1048576 ∧ (∀ xs ∈ (func17 m).cs, xs.length ≤ 1048576) ∧ sumN (lens (func17 m).cs) ≤ 1048576) ∧ (func17 m).cs.length ≤ 100 := by decide
  exact key m (by simp; omega)
theorem funcV_bd (n : Int) : Bd_Cnf (funcV n) := by
  unfold funcV
  split
  · rename_i h
    obtain ⟨m, rfl, hm⟩ := holes_inv h
    rw [Int.toNat_natCast]
    exact (func17_bd hm).1
  · exact ⟨by simp, by simp, by simp [lens, sumN]⟩
def RetN (w : World) (f : Cnf) (q : Bool) : Ending → World → Prop := fun e w' => ∃ u, e = .returned (.tuple #[u, .bool q]) ∧ Own_Cnf w' w.heap.size w'.heap.size u f ∧ Ext w w'
theorem RetN.zero {w w' : World} {f : Cnf} {q : Bool} (hf : Hid (f = ⟨0, []⟩)) (hx : Ext w w') (hq : q = false) : RetN w f q (.returned (.tuple #[.agg #[.int .i64 0, .slice none 0 0], .bool false])) w' := by
  subst hq
  rw [hf.out]
  exact ⟨_, rfl, ⟨_, rfl, ownSS_nil _ _ _ _ _⟩, hx⟩
/-! ### OntoCnf -/
def oRow (m j k : Nat) : List Int := (List.range k).map fun i : Nat => pvar m ((i : Int) + 1) ((j : Int) + 1)
def oCls (m j : Nat) : List (List Int) := (List.range j).map fun j => oRow m j (m + 1)
theorem oRow_succ (m j k : Nat) : oRow m j (k + 1) = oRow m j k ++ [pvar m ((k : Int) + 1) ((j : Int) + 1)] := by simp [oRow, List.range_succ]
theorem oCls_succ (m j : Nat) : oCls m (j + 1) = oCls m j ++ [oRow m j (m + 1)] := by simp [oCls, List.range_succ]
def onto17 (m : Nat) : Cnf := ⟨((m : Int) + 1) * (m : Int), (func17 m).cs ++ oCls m m⟩
def ontoV (n : Int) : Cnf := if holesB n then onto17 n.toNat else ⟨0, []⟩
theorem onto17_bd {m : Nat} (hm : 1 ≤ m ∧ m ≤ 3) : Bd_Cnf (onto17 m) := by
  have key : ∀ m ∈ [1, 2, 3], (onto17 m).cs.length ≤ 1048576 ∧ (∀ xs ∈ (onto17 m).cs, xs.length ≤ 1048576) ∧ sumN (lens (onto17 m).cs) ≤ 1048576 := by decide +kernel
  exact key m (by simp; omega)
theorem ontoV_bd (n : Int) : Bd_Cnf (ontoV n) := by
  unfold ontoV
  split
  · rename_i h
    obtain ⟨m, rfl, hm⟩ := holes_inv h
    rw [Int.toNat_natCast]
    exact onto17_bd hm
  · exact ⟨by simp, by simp, by simp [lens, sumN]⟩
end Go.Proofs.Ytjeeffmpfdhppaa
