/-
  cmp.Compare and cmp.Or at numbers, and the program's compareLiterals. Condition: lengths up to 2^30.
-/
import Derived.Test.YtgkifandgacncaaSort
namespace Go.Proofs.Ytgkifandgacncaa
open Go.RowKit Go.Sort
theorem rdI_pair {w : World} {b : Nat} {x y : Int} {e : TypeId} {fr : Nat × Nat} (h : w.heap[b]? = some (.cells #[.int .i64 x, .int .i64 y] e fr)) : RdI w (.slice (some ⟨b, 0, none⟩) 2 2) [x, y] := by
  refine ⟨rfl, some ⟨b, 0, none⟩, 2, rfl, Nat.le_refl _, by unfold maxLen; omega, fun j u hu => ⟨_, rfl, ?_⟩⟩
  exact World.news_of_block h j u hu
theorem c_isNaN (x : Int) (w : World) : Calls Try.prog 102 #[.int .i64 x] w (Ret w (.bool false)) := by
  go_enter Try.func102, Try.ntmps102
  go_wp2
  go_ret
  exact Ret.mk (by simp)
def cmpI (a b : Int) : Int := if a < b then -1 else if b < a then 1 else 0
set_option maxHeartbeats 800000 in
theorem c_cmp_Compare (a b : Int) (w : World) : Calls Try.prog 96 #[.int .i64 a, .int .i64 b] w (Ret w (.int .i64 (cmpI a b))) := by
  by_cases h1 : a < b
  · have HF : Hid (cmpI a b = -1) := hd (by unfold cmpI; rw [if_pos h1])
    go_enter Try.func96, Try.ntmps96
    go_wp2_with (go_at_call 102; refine (c_isNaN _ _).mono ?_; rintro e w1 ⟨rfl, rfl⟩)
    go_ret
    exact Ret.mk (congrArg (Value.int .i64) HF.out.symm)
  · by_cases h2 : b < a
    · have HF : Hid (cmpI a b = 1) := hd (by unfold cmpI; rw [if_neg h1, if_pos h2])
      go_enter Try.func96, Try.ntmps96
      go_wp2_with (go_at_call 102; refine (c_isNaN _ _).mono ?_; rintro e w1 ⟨rfl, rfl⟩)
      go_ret
      exact Ret.mk (congrArg (Value.int .i64) HF.out.symm)
    · have HF : Hid (cmpI a b = 0) := hd (by unfold cmpI; rw [if_neg h1, if_neg h2])
      go_enter Try.func96, Try.ntmps96
      go_wp2_with (go_at_call 102; refine (c_isNaN _ _).mono ?_; rintro e w1 ⟨rfl, rfl⟩)
      go_ret
      exact Ret.mk (congrArg (Value.int .i64) HF.out.symm)
/-- The first of the numbers that is not 0, or 0. -/
def orG : List Int → Int
  | [] => 0
  | x :: r => if x = 0 then orG r else x
set_option maxHeartbeats 800000 in
theorem c_cmp_Or (xs : List Int) (v : Value) (w : World) (h : RdI w v xs) (hl : xs.length ≤ 1073741824) : Calls Try.prog 95 #[v] w (Ret w (.int .i64 (orG xs))) := by
  obtain ⟨A, c, rfl, h1, h2, ha⟩ := h.form
  clear h
  go_enter Try.func95, Try.ntmps95
  go_wp2
  go_loop [8, 5] (fun i _ => ∃ k : Nat, k ≤ xs.length ∧ i = .int .i64 k ∧ Hid (orG xs = orG (xs.drop k))) (fun i _ => xs.length - (intOf i).toNat)
  case atStart => exact ⟨0, by omega, rfl, hd rfl⟩
  case round =>
    obtain ⟨k, hk, rfl, HR⟩ := hrel
    by_cases hlt : k < xs.length
    · obtain ⟨a, rfl, hc⟩ := RdI.at_ ha hlt
      rw [drop_cons hlt] at HR
      generalize xs[k] = y at *
      by_cases hy : y = 0
      · subst hy
        go_wp2
        go_round
        case rel => exact ⟨k + 1, by omega, by go_num, hd (by rw [HR.out, orG, if_pos rfl])⟩
        case measure => simp [intOf]; omega
      · have hb : (y != 0) = true := by simp [hy]
        have HY : Hid (orG xs = y) := hd (by rw [HR.out, orG, if_neg hy])
        clear hy
        go_wp2
        go_ret
        exact Ret.mk (congrArg (Value.int .i64) HY.out.symm)
    · go_wp2
      go_ret
      exact Ret.mk (by rw [HR.out, List.drop_eq_nil_of_le (by omega)]; rfl)
/-- The order of literals: of the variable first, the greater sign first. -/
def litI (a b : Int) : Int := orG [cmpI (absW a) (absW b), cmpI b a]
theorem litI_lt {a b : Int} : litI a b < 0 ↔ absW a < absW b ∨ (absW a = absW b ∧ b < a) := by
  unfold litI orG orG orG cmpI
  generalize absW a = p
  generalize absW b = q
  by_cases h1 : p < q
  · simp [h1]
  · by_cases h2 : q < p
    · simp [h1, h2]; omega
    · by_cases h3 : b < a
      · simp [h1, h2, h3]; omega
      · by_cases h4 : a < b
        · simp [h1, h2, h3, h4]
        · simp [h1, h2, h3, h4]
set_option maxHeartbeats 1600000 in
theorem i_compareLiterals (a b : Int) (w : World) : Calls Try.prog 80 #[.int .i64 a, .int .i64 b] w (fun e w' => e = .returned (.int .i64 (litI a b)) ∧ ∃ q os, w' = grow (w.drewN q) os) := by
  have HF : Hid (litI a b = orG [cmpI (absW a) (absW b), cmpI b a]) := hd rfl
  go_enter Try.func80, Try.ntmps80
  go_wp2_with (first
      | (go_at_call 64; refine (i_abs _ _).mono ?_; rintro e w1 ⟨rfl, rfl⟩)
      | (go_at_call 96; refine (c_cmp_Compare _ _ _).mono ?_; rintro e w1 ⟨rfl, rfl⟩)
      | (go_at_call 95; refine (c_cmp_Or [cmpI (absW a) (absW b), cmpI b a] _ _ ?_ (by simp)).mono ?_
         · exact rdI_pair (heap_alloc_new _ _)
         rintro e w4 ⟨rfl, rfl⟩))
  go_ret
  exact ⟨by rw [HF.out]; rfl, 0, #[.cells #[.int .i64 (cmpI (absW a) (absW b)), .int .i64 (cmpI b a)] 3], by rw [show w.drewN 0 = w from rfl]; unfold grow; rw [Array.append_singleton]; rfl⟩
end Go.Proofs.Ytgkifandgacncaa
