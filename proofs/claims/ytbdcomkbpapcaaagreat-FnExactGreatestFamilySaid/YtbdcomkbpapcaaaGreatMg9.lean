import Derived.Shelf.SortM.Plain
import Derived.Shelf.SortM.SortNone
import Derived.Shelf.Slices.CompactI
import Derived.Shelf.Slices.Delete
import Derived.Test.YtbdcomkbpapcaaaGreatLays
import Derived.Test.YtbdcomkbpapcaaaGreatMg4
import Derived.Test.YtbdcomkbpapcaaaGreatC2
import Derived.Sort.OwnSortedInts
import Derived.Lib.OwnBridge
import Derived.Test.YtbdcomkbpapcaaaGreatMg2
/-
  slices.Sort and slices.Compact at numbers: the library's contracts at this program. Conditions: as each states.
-/
/-
  slices.Sort and slices.Compact at lists of numbers, and the program's varsOf. Conditions: list lengths up to 2^20.
-/
/-
  cmp.Compare and cmp.Or at integers. Condition: up to 2^30 arguments.
-/
/-
  cmp.Compare and cmp.Or at numbers, and the program's compareLiterals. Condition: lengths up to 2^30.
-/

namespace Go.Proofs.YtbdcomkbpapcaaaGreat
open Go.Shelf
open Go.Sort Go.RowKit in
theorem sl_Delete (blk off cap i j : Nat) (zs : List Int) (w : World) (hH : Holds (Value.int .i64) w blk off zs.toArray) (hcap : zs.length ≤ cap) (hm : cap ≤ 9223372036854775807) (hij : i ≤ j) (hj : j ≤ zs.length) :
    Calls Tryz.prog 78 #[.slice (some ⟨blk, off, none⟩) zs.length cap, .int .i64 i, .int .i64 j] w fun e w' => e = .returned (.slice (some ⟨blk, off, none⟩) (zs.length - (j - i)) cap) ∧ ∃ q, w' = putRow (Value.int .i64) (Sort.ahead w q) blk off (zs.take i ++ zs.drop j ++ List.replicate (j - i) 0).toArray := Any.slices_Delete_int Tryz.laysDelete blk off cap i j zs w hH hcap hm hij hj
end Go.Proofs.YtbdcomkbpapcaaaGreat
namespace Go.Proofs.YtbdcomkbpapcaaaGreat
open Go.RowKit Go.Sort
end Go.Proofs.YtbdcomkbpapcaaaGreat
namespace Go.Proofs.YtbdcomkbpapcaaaGreat
open Go.RowKit
theorem c_isNaN (x : Int) (w : World) : Calls Tryz.prog 97 #[.int .i64 x] w (Ret w (.bool false)) := by
  go_enter Tryz.func97, Tryz.ntmps97
  go_wp2
  go_ret
  exact Ret.mk (by simp)
def cmpI (a b : Int) : Int := if a < b then -1 else if b < a then 1 else 0
set_option maxHeartbeats 800000 in
theorem c_cmp_Compare (a b : Int) (w : World) : Calls Tryz.prog 75 #[.int .i64 a, .int .i64 b] w (Ret w (.int .i64 (cmpI a b))) := by
  by_cases h1 : a < b
  · have HF : Hid (cmpI a b = -1) := hd (by unfold cmpI; rw [if_pos h1])
    go_enter Tryz.func75, Tryz.ntmps75
    go_wp2_with (go_at_call 97; refine (c_isNaN _ _).mono ?_; rintro e w1 ⟨rfl, rfl⟩)
    go_ret
    exact Ret.mk (congrArg (Value.int .i64) HF.out.symm)
  · by_cases h2 : b < a
    · have HF : Hid (cmpI a b = 1) := hd (by unfold cmpI; rw [if_neg h1, if_pos h2])
      go_enter Tryz.func75, Tryz.ntmps75
      go_wp2_with (go_at_call 97; refine (c_isNaN _ _).mono ?_; rintro e w1 ⟨rfl, rfl⟩)
      go_ret
      exact Ret.mk (congrArg (Value.int .i64) HF.out.symm)
    · have HF : Hid (cmpI a b = 0) := hd (by unfold cmpI; rw [if_neg h1, if_neg h2])
      go_enter Tryz.func75, Tryz.ntmps75
      go_wp2_with (go_at_call 97; refine (c_isNaN _ _).mono ?_; rintro e w1 ⟨rfl, rfl⟩)
      go_ret
      exact Ret.mk (congrArg (Value.int .i64) HF.out.symm)
/-- The first of the numbers that is not 0, or 0. -/
def orG : List Int → Int
  | [] => 0
  | x :: r => if x = 0 then orG r else x
set_option maxHeartbeats 800000 in
theorem c_cmp_Or (xs : List Int) (v : Value) (w : World) (h : RdI w v xs) (hl : xs.length ≤ 1073741824) : Calls Tryz.prog 74 #[v] w (Ret w (.int .i64 (orG xs))) := by
  obtain ⟨A, c, rfl, h1, h2, ha⟩ := h.form
  clear h
  go_enter Tryz.func74, Tryz.ntmps74
  go_wp2
  go_loop [8, 5] (fun i _ => ∃ k : Nat, k ≤ xs.length ∧ i = .int .i64 k ∧ Hid (orG xs = orG (xs.drop k))) (fun i _ => xs.length - (intOf i).toNat)
  case atStart => exact ⟨0, by omega, rfl, hd rfl⟩
  case round =>
    obtain ⟨k, hk, rfl, HR⟩ := hrel
    by_cases hlt : k < xs.length
    · obtain ⟨a, rfl, hc⟩ := RdI.at_ ha hlt
      rw [drop_cons hlt] at HR
      generalize xs[k] = y at *
      by_cases hy : y = 0
      · subst hy
        go_wp2
        go_round
        case rel => exact ⟨k + 1, by omega, by go_num, hd (by rw [HR.out, orG, if_pos rfl])⟩
        case measure => simp [intOf]; omega
      · have hb : (y != 0) = true := by simp [hy]
        have HY : Hid (orG xs = y) := hd (by rw [HR.out, orG, if_neg hy])
        clear hy
        go_wp2
        go_ret
        exact Ret.mk (congrArg (Value.int .i64) HY.out.symm)
    · go_wp2
      go_ret
      exact Ret.mk (by rw [HR.out, List.drop_eq_nil_of_le (by omega)]; rfl)
end Go.Proofs.YtbdcomkbpapcaaaGreat
namespace Go.Proofs.YtbdcomkbpapcaaaGreat
open Go.RowKit Go.Sort
theorem rdI_pair {w : World} {b : Nat} {x y : Int} {e : TypeId} {fr : Nat × Nat} (h : w.heap[b]? = some (.cells #[.int .i64 x, .int .i64 y] e fr)) : RdI w (.slice (some ⟨b, 0, none⟩) 2 2) [x, y] := by
  refine ⟨rfl, some ⟨b, 0, none⟩, 2, rfl, Nat.le_refl _, by unfold maxLen; omega, fun j u hu => ⟨_, rfl, ?_⟩⟩
  exact World.news_of_block h j u hu
/-- The order of literals: of the variable first, the greater sign first. -/
def litI (a b : Int) : Int := orG [cmpI (absW a) (absW b), cmpI b a]
theorem litI_lt {a b : Int} : litI a b < 0 ↔ absW a < absW b ∨ (absW a = absW b ∧ b < a) := by
  unfold litI orG orG orG cmpI
  generalize absW a = p
  generalize absW b = q
  by_cases h1 : p < q
  · simp [h1]
  · by_cases h2 : q < p
    · simp [h1, h2]; omega
    · by_cases h3 : b < a
      · simp [h1, h2, h3]; omega
      · by_cases h4 : a < b
        · simp [h1, h2, h3, h4]
        · simp [h1, h2, h3, h4]
set_option maxHeartbeats 1600000 in
theorem i_compareLiterals (a b : Int) (w : World) : Calls Tryz.prog 77 #[.int .i64 a, .int .i64 b] w (fun e w' => e = .returned (.int .i64 (litI a b)) ∧ ∃ q os, w' = grow (w.drewN q) os) := by
  have HF : Hid (litI a b = orG [cmpI (absW a) (absW b), cmpI b a]) := hd rfl
  go_enter Tryz.func77, Tryz.ntmps77
  go_wp2_with (first
      | (go_at_call 68; refine (i_abs _ _).mono ?_; rintro e w1 ⟨rfl, rfl⟩)
      | (go_at_call 75; refine (c_cmp_Compare _ _ _).mono ?_; rintro e w1 ⟨rfl, rfl⟩)
      | (go_at_call 74; refine (c_cmp_Or [cmpI (absW a) (absW b), cmpI b a] _ _ ?_ (by simp)).mono ?_
         · exact rdI_pair (heap_alloc_new _ _)
         rintro e w4 ⟨rfl, rfl⟩))
  go_ret
  exact ⟨by rw [HF.out]; rfl, 0, #[.cells #[.int .i64 (cmpI (absW a) (absW b)), .int .i64 (cmpI b a)] 3], by rw [show w.drewN 0 = w from rfl]; unfold grow; rw [Array.append_singleton]; rfl⟩
end Go.Proofs.YtbdcomkbpapcaaaGreat
