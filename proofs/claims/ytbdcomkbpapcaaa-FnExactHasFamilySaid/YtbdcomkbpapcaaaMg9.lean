import Derived.Shelf.SortM.Plain
import Derived.Shelf.SortM.SortNone
import Derived.Shelf.Slices.CompactI
import Derived.Shelf.Slices.Delete
import Derived.Test.YtbdcomkbpapcaaaLays
import Derived.Test.YtbdcomkbpapcaaaMg4
import Derived.Test.YtbdcomkbpapcaaaC2
import Derived.Sort.OwnSortedInts
import Derived.Lib.OwnBridge
import Derived.Test.YtbdcomkbpapcaaaMg2
/-
  slices.Sort and slices.Compact at numbers: the library's contracts at this program. Conditions: as each states.
-/
/-
  slices.Sort and slices.Compact at lists of numbers, and the program's varsOf. Conditions: list lengths up to 2^20.
-/
/-
  cmp.Compare and cmp.Or at integers. Condition: up to 2^30 arguments.
-/
/-
  cmp.Compare and cmp.Or at numbers, and the program's compareLiterals. Condition: lengths up to 2^30.
-/

namespace Go.Proofs.Ytbdcomkbpapcaaa
open Go.Shelf
open Go.RowKit Go.Lib Go.Sort in
theorem sl_Compact (blk off cap : Nat) (zs : List Int) (w : World) (hH : Holds (Value.int .i64) w blk off zs.toArray) (hsz : zs.length ≤ 9223372036854775807) (hcap : zs.length ≤ cap) :
    Calls Try.prog 102 #[.slice (some ⟨blk, off, none⟩) zs.length cap] w fun e w' => e = .returned (.slice (some ⟨blk, off, none⟩) (Lib.compact zs).length cap) ∧ ∃ q, w' = putRow (Value.int .i64) (Sort.ahead w q) blk off (Lib.compact zs ++ List.replicate (zs.length - (Lib.compact zs).length) 0).toArray := Any.slices_Compact_int Try.laysCompact blk off cap zs w hH hsz hcap
open Go.RowKit Go.Lib Go.Sort in
theorem sl_Compact_empty (a : Option Addr) (cap : Nat) (w : World) :
    Calls Try.prog 102 #[.slice a 0 cap] w fun e w' => e = .returned (.slice a 0 cap) ∧ w' = w := Any.slices_Compact_int_empty Try.laysCompact a cap w
open Go.Sort Go.RowKit in
theorem sl_Delete (blk off cap i j : Nat) (zs : List Int) (w : World) (hH : Holds (Value.int .i64) w blk off zs.toArray) (hcap : zs.length ≤ cap) (hm : cap ≤ 9223372036854775807) (hij : i ≤ j) (hj : j ≤ zs.length) :
    Calls Try.prog 154 #[.slice (some ⟨blk, off, none⟩) zs.length cap, .int .i64 i, .int .i64 j] w fun e w' => e = .returned (.slice (some ⟨blk, off, none⟩) (zs.length - (j - i)) cap) ∧ ∃ q, w' = putRow (Value.int .i64) (Sort.ahead w q) blk off (zs.take i ++ zs.drop j ++ List.replicate (j - i) 0).toArray := Any.slices_Delete_int Try.laysDelete blk off cap i j zs w hH hcap hm hij hj
end Go.Proofs.Ytbdcomkbpapcaaa
namespace Go.Proofs.Ytbdcomkbpapcaaa
open Go.RowKit Go.Sort
theorem slices_CompactI (xs : List Int) (v : Value) (w : World) (lo : Nat) (h : OwnI w lo 3 v xs) (hl : xs.length ≤ 1073741824) :
    Calls Try.prog 102 #[v] w (fun e w' => ∃ v', e = .returned v' ∧ OwnI w' lo 3 v' (Lib.compact xs) ∧ w.grownBy w' v.ownBlock ∧ v'.ownBlock = v.ownBlock) := by
  have h0 := h
  have hle := Lib.compact_length_le xs
  rcases h.2 with ⟨rfl, hn⟩ | ⟨g, cap, cur, rfl, hb, hg, hnc, hcm, hcs, ht⟩
  · obtain rfl : xs = [] := List.eq_nil_of_length_eq_zero hn
    refine (sl_Compact_empty none 0 w).mono ?_
    rintro e w' ⟨rfl, rfl⟩
    exact ⟨_, rfl, h0, grown_refl _ _, rfl⟩
  · have hH : Holds (Value.int .i64) w g 0 xs.toArray := holds_of_blockI hg (by simpa [ints] using ht)
    refine (sl_Compact g 0 cap xs w hH (by omega) hnc).mono ?_
    rintro e w' ⟨rfl, q, rfl⟩
    have hc := Lib.ownsRow_putRow (q := q) (k := (Lib.compact xs).length) (ys := Lib.compact xs ++ List.replicate (xs.length - (Lib.compact xs).length) 0) h0 (by simp; omega) hle
    rw [List.take_left] at hc
    refine ⟨_, rfl, hc, ?_, rfl⟩
    exact ⟨rfl, rfl, rfl, by simp [putRow, mapBlock, Sort.ahead], fun k hk hne => by
      have : g ≠ k := fun e => hne (by rw [e]; rfl)
      simp [putRow, mapBlock, Sort.ahead, Array.getElem?_modify, this]⟩
end Go.Proofs.Ytbdcomkbpapcaaa
namespace Go.Proofs.Ytbdcomkbpapcaaa
open Go.RowKit
theorem c_isNaN (x : Int) (w : World) : Calls Try.prog 170 #[.int .i64 x] w (Ret w (.bool false)) := by
  go_enter Try.func170, Try.ntmps170
  go_wp2
  go_ret
  exact Ret.mk (by simp)
def cmpI (a b : Int) : Int := if a < b then -1 else if b < a then 1 else 0
set_option maxHeartbeats 800000 in
theorem c_cmp_Compare (a b : Int) (w : World) : Calls Try.prog 135 #[.int .i64 a, .int .i64 b] w (Ret w (.int .i64 (cmpI a b))) := by
  by_cases h1 : a < b
  · have HF : Hid (cmpI a b = -1) := hd (by unfold cmpI; rw [if_pos h1])
    go_enter Try.func135, Try.ntmps135
    go_wp2_with (go_at_call 170; refine (c_isNaN _ _).mono ?_; rintro e w1 ⟨rfl, rfl⟩)
    go_ret
    exact Ret.mk (congrArg (Value.int .i64) HF.out.symm)
  · by_cases h2 : b < a
    · have HF : Hid (cmpI a b = 1) := hd (by unfold cmpI; rw [if_neg h1, if_pos h2])
      go_enter Try.func135, Try.ntmps135
      go_wp2_with (go_at_call 170; refine (c_isNaN _ _).mono ?_; rintro e w1 ⟨rfl, rfl⟩)
      go_ret
      exact Ret.mk (congrArg (Value.int .i64) HF.out.symm)
    · have HF : Hid (cmpI a b = 0) := hd (by unfold cmpI; rw [if_neg h1, if_neg h2])
      go_enter Try.func135, Try.ntmps135
      go_wp2_with (go_at_call 170; refine (c_isNaN _ _).mono ?_; rintro e w1 ⟨rfl, rfl⟩)
      go_ret
      exact Ret.mk (congrArg (Value.int .i64) HF.out.symm)
/-- The first of the numbers that is not 0, or 0. -/
def orG : List Int → Int
  | [] => 0
  | x :: r => if x = 0 then orG r else x
set_option maxHeartbeats 800000 in
theorem c_cmp_Or (xs : List Int) (v : Value) (w : World) (h : RdI w v xs) (hl : xs.length ≤ 1073741824) : Calls Try.prog 134 #[v] w (Ret w (.int .i64 (orG xs))) := by
  obtain ⟨A, c, rfl, h1, h2, ha⟩ := h.form
  clear h
  go_enter Try.func134, Try.ntmps134
  go_wp2
  go_loop [8, 5] (fun i _ => ∃ k : Nat, k ≤ xs.length ∧ i = .int .i64 k ∧ Hid (orG xs = orG (xs.drop k))) (fun i _ => xs.length - (intOf i).toNat)
  case atStart => exact ⟨0, by omega, rfl, hd rfl⟩
  case round =>
    obtain ⟨k, hk, rfl, HR⟩ := hrel
    by_cases hlt : k < xs.length
    · obtain ⟨a, rfl, hc⟩ := RdI.at_ ha hlt
      rw [drop_cons hlt] at HR
      generalize xs[k] = y at *
      by_cases hy : y = 0
      · subst hy
        go_wp2
        go_round
        case rel => exact ⟨k + 1, by omega, by go_num, hd (by rw [HR.out, orG, if_pos rfl])⟩
        case measure => simp [intOf]; omega
      · have hb : (y != 0) = true := by simp [hy]
        have HY : Hid (orG xs = y) := hd (by rw [HR.out, orG, if_neg hy])
        clear hy
        go_wp2
        go_ret
        exact Ret.mk (congrArg (Value.int .i64) HY.out.symm)
    · go_wp2
      go_ret
      exact Ret.mk (by rw [HR.out, List.drop_eq_nil_of_le (by omega)]; rfl)
end Go.Proofs.Ytbdcomkbpapcaaa
namespace Go.Proofs.Ytbdcomkbpapcaaa
open Go.RowKit Go.Sort
theorem rdI_pair {w : World} {b : Nat} {x y : Int} {e : TypeId} {fr : Nat × Nat} (h : w.heap[b]? = some (.cells #[.int .i64 x, .int .i64 y] e fr)) : RdI w (.slice (some ⟨b, 0, none⟩) 2 2) [x, y] := by
  refine ⟨rfl, some ⟨b, 0, none⟩, 2, rfl, Nat.le_refl _, by unfold maxLen; omega, fun j u hu => ⟨_, rfl, ?_⟩⟩
  exact World.news_of_block h j u hu
/-- The order of literals: of the variable first, the greater sign first. -/
def litI (a b : Int) : Int := orG [cmpI (absW a) (absW b), cmpI b a]
theorem litI_lt {a b : Int} : litI a b < 0 ↔ absW a < absW b ∨ (absW a = absW b ∧ b < a) := by
  unfold litI orG orG orG cmpI
  generalize absW a = p
  generalize absW b = q
  by_cases h1 : p < q
  · simp [h1]
  · by_cases h2 : q < p
    · simp [h1, h2]; omega
    · by_cases h3 : b < a
      · simp [h1, h2, h3]; omega
      · by_cases h4 : a < b
        · simp [h1, h2, h3, h4]
        · simp [h1, h2, h3, h4]
set_option maxHeartbeats 1600000 in
theorem i_compareLiterals (a b : Int) (w : World) : Calls Try.prog 101 #[.int .i64 a, .int .i64 b] w (fun e w' => e = .returned (.int .i64 (litI a b)) ∧ ∃ q os, w' = grow (w.drewN q) os) := by
  have HF : Hid (litI a b = orG [cmpI (absW a) (absW b), cmpI b a]) := hd rfl
  go_enter Try.func101, Try.ntmps101
  go_wp2_with (first
      | (go_at_call 138; refine (i_abs _ _).mono ?_; rintro e w1 ⟨rfl, rfl⟩)
      | (go_at_call 135; refine (c_cmp_Compare _ _ _).mono ?_; rintro e w1 ⟨rfl, rfl⟩)
      | (go_at_call 134; refine (c_cmp_Or [cmpI (absW a) (absW b), cmpI b a] _ _ ?_ (by simp)).mono ?_
         · exact rdI_pair (heap_alloc_new _ _)
         rintro e w4 ⟨rfl, rfl⟩))
  go_ret
  exact ⟨by rw [HF.out]; rfl, 0, #[.cells #[.int .i64 (cmpI (absW a) (absW b)), .int .i64 (cmpI b a)] 3], by rw [show w.drewN 0 = w from rfl]; unfold grow; rw [Array.append_singleton]; rfl⟩
end Go.Proofs.Ytbdcomkbpapcaaa
