/-
  The library's comparisons: strings.Compare, cmp.Compare[int], cmp.Or[int]. Condition: sizes up to 2^30.
-/
import Derived.Test.YtmfgcpeddfbngaaLaw
import Derived.WalkLawsBesides
import Derived.Lib.Walk
import Derived.Lib.Bytealg
import Derived.Deep.DrawnRows
namespace Go.Proofs.Ytmfgcpeddfbngaa
open Go.RowKit
theorem rdI_two {w : World} {b : Nat} {x y : Int} {e : TypeId} {fr : Nat × Nat} (h : w.heap[b]? = some (.cells #[.int .i64 x, .int .i64 y] e fr)) : RdI w (.slice (some ⟨b, 0, none⟩) 2 2) [x, y] := by
  refine ⟨rfl, some ⟨b, 0, none⟩, 2, rfl, Nat.le_refl _, by unfold maxLen; omega, fun j u hu => ⟨_, rfl, ?_⟩⟩
  exact World.news_of_block h j u hu
set_option maxRecDepth 100000 in
set_option maxHeartbeats 1000000 in
theorem c_CompareString (a b : ByteArray) (w : World) : Calls Try.prog 107 #[.string a, .string b] w (Ret w (.int .i64 (Lib.compareBytes a.data.toList b.data.toList))) := by
  go_enter Try.func107, Try.ntmps107
  go_wp2
  rw [run_callFunc_extern Try.func133 (by kernel_rfl) (by kernel_rfl) (by kernel_rfl) (e := Extern.BytealgCompare.compare) (by kernel_rfl), Lib.run_compareString]
  simp only [Result.andThen]
  rw [Oper.upon_value]
  go_wp2
  go_ret
  exact Ret.mk rfl
theorem c_strings_Compare (a b : ByteArray) (w : World) : Calls Try.prog 84 #[.string a, .string b] w (Ret w (.int .i64 (Lib.compareBytes a.data.toList b.data.toList))) := by
  go_enter Try.func84, Try.ntmps84
  go_wp2_with fail
  refine (c_CompareString _ _ _).mono ?_
  rintro e w1 ⟨rfl, rfl⟩
  go_wp2
  go_ret
  exact Ret.mk rfl
theorem c_isNaN (x : Int) (w : World) : Calls Try.prog 106 #[.int .i64 x] w (Ret w (.bool false)) := by
  go_enter Try.func106, Try.ntmps106
  go_wp2
  go_ret
  exact Ret.mk (by simp)
def cmpI (a b : Int) : Int := if a < b then -1 else if b < a then 1 else 0
set_option maxHeartbeats 800000 in
theorem c_cmp_Compare (a b : Int) (w : World) : Calls Try.prog 83 #[.int .i64 a, .int .i64 b] w (Ret w (.int .i64 (cmpI a b))) := by
  by_cases h1 : a < b
  · have HF : Hid (cmpI a b = -1) := hd (by unfold cmpI; rw [if_pos h1])
    go_enter Try.func83, Try.ntmps83
    go_wp2_with (go_at_call 106; refine (c_isNaN _ _).mono ?_; rintro e w1 ⟨rfl, rfl⟩)
    go_ret
    exact Ret.mk (congrArg (Value.int .i64) HF.out.symm)
  · by_cases h2 : b < a
    · have HF : Hid (cmpI a b = 1) := hd (by unfold cmpI; rw [if_neg h1, if_pos h2])
      go_enter Try.func83, Try.ntmps83
      go_wp2_with (go_at_call 106; refine (c_isNaN _ _).mono ?_; rintro e w1 ⟨rfl, rfl⟩)
      go_ret
      exact Ret.mk (congrArg (Value.int .i64) HF.out.symm)
    · have HF : Hid (cmpI a b = 0) := hd (by unfold cmpI; rw [if_neg h1, if_neg h2])
      go_enter Try.func83, Try.ntmps83
      go_wp2_with (go_at_call 106; refine (c_isNaN _ _).mono ?_; rintro e w1 ⟨rfl, rfl⟩)
      go_ret
      exact Ret.mk (congrArg (Value.int .i64) HF.out.symm)
/-- The first of the numbers that is not 0, or 0. -/
def orG : List Int → Int
  | [] => 0
  | x :: r => if x = 0 then orG r else x
set_option maxHeartbeats 800000 in
theorem c_cmp_Or (xs : List Int) (v : Value) (w : World) (h : RdI w v xs) (hl : xs.length ≤ 1073741824) : Calls Try.prog 82 #[v] w (Ret w (.int .i64 (orG xs))) := by
  obtain ⟨A, c, rfl, h1, h2, ha⟩ := h.form
  clear h
  go_enter Try.func82, Try.ntmps82
  go_wp2
  go_loop [8, 5] (fun i _ => ∃ k : Nat, k ≤ xs.length ∧ i = .int .i64 k ∧ Hid (orG xs = orG (xs.drop k))) (fun i _ => xs.length - (intOf i).toNat)
  case atStart => exact ⟨0, by omega, rfl, hd rfl⟩
  case round =>
    obtain ⟨k, hk, rfl, HR⟩ := hrel
    by_cases hlt : k < xs.length
    · obtain ⟨a, rfl, hc⟩ := RdI.at_ ha hlt
      rw [drop_cons hlt] at HR
      generalize xs[k] = y at *
      by_cases hy : y = 0
      · subst hy
        go_wp2
        go_round
        case rel => exact ⟨k + 1, by omega, by go_num, hd (by rw [HR.out, orG, if_pos rfl])⟩
        case measure => simp [intOf]; omega
      · have hb : (y != 0) = true := by simp [hy]
        have HY : Hid (orG xs = y) := hd (by rw [HR.out, orG, if_neg hy])
        clear hy
        go_wp2
        go_ret
        exact Ret.mk (congrArg (Value.int .i64) HY.out.symm)
    · go_wp2
      go_ret
      exact Ret.mk (by rw [HR.out, List.drop_eq_nil_of_le (by omega)]; rfl)
theorem cmp_less : ∀ xs ys : List UInt8, Lib.compareBytes xs ys = if Op.bytesLess xs ys then -1 else if xs == ys then 0 else 1
  | [], [] => rfl
  | [], _ :: _ => rfl
  | _ :: _, [] => rfl
  | a :: xs, b :: ys => by
    have ih := cmp_less xs ys
    unfold Lib.compareBytes Op.bytesLess
    rw [ih]
    by_cases h1 : a < b
    · simp [h1]
    · by_cases h2 : b < a
      · have h3 : a ≠ b := fun e => by subst e; exact h1 h2
        simp [h1, h2, h3]
      · have h3 : a = b := UInt8.le_antisymm (UInt8.not_lt.1 h2) (UInt8.not_lt.1 h1)
        subst h3
        simp
end Go.Proofs.Ytmfgcpeddfbngaa
