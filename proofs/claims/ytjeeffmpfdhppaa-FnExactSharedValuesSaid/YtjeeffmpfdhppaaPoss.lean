/-
  The strongest and the weakest values of both sides. Conditions: sizes up to 2^20.
-/
import Derived.Test.YtjeeffmpfdhppaaMkB
import Derived.Test.YtjeeffmpfdhppaaVal
import Derived.Deep.DrawnRows
namespace Go.Proofs.Ytjeeffmpfdhppaa
open Go.RowKit
/-- For each number whether all clauses are true for some bits below K with it. -/
def possV (vs : List Int) (cs : List (List Int)) (K : Nat) : List Bool := (List.range (2 ^ vs.length)).map fun m => (List.range K).any fun b => allT b cs && (numOf vs b == m)
theorem possV_len (vs : List Int) (cs : List (List Int)) (K : Nat) : (possV vs cs K).length = 2 ^ vs.length := by simp [possV]
theorem possV_zero (vs : List Int) (cs : List (List Int)) : possV vs cs 0 = List.replicate (2 ^ vs.length) false := by
  unfold possV
  refine List.ext_getElem (by simp) fun i h1 h2 => ?_
  simp
theorem possV_no {vs : List Int} {cs : List (List Int)} {K : Nat} (h : allT K cs = false) : possV vs cs (K + 1) = possV vs cs K := by
  unfold possV
  refine List.map_congr_left fun m _ => ?_
  rw [List.range_succ, List.any_append]
  simp [h]
theorem possV_yes {vs : List Int} {cs : List (List Int)} {K : Nat} (h : allT K cs = true) : possV vs cs (K + 1) = (possV vs cs K).set (numOf vs K) true := by
  refine List.ext_getElem (by simp [possV]) fun i h1 h2 => ?_
  rw [List.getElem_set]
  unfold possV
  simp only [List.getElem_map, List.getElem_range, List.range_succ, List.any_append, List.any_cons, List.any_nil, Bool.or_false, h, Bool.true_and]
  by_cases e : numOf vs K = i
  · rw [if_pos e]; simp [e]
  · rw [if_neg e]; simp [e]
end Go.Proofs.Ytjeeffmpfdhppaa
