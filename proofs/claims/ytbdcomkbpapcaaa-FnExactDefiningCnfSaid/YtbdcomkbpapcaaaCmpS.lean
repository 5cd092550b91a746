import Derived.Test.YtbdcomkbpapcaaaLaw
import Derived.Test.YtbdcomkbpapcaaaMg3
import Derived.WalkLawsBesides
import Derived.Lib.Walk
import Derived.Lib.Bytealg
import Derived.Deep.DrawnRows
/-
  The library's comparisons: strings.Compare, cmp.Compare[int], cmp.Or[int]. Condition: sizes up to 2^30.
-/

namespace Go.Proofs.Ytbdcomkbpapcaaa
open Go.RowKit
theorem rdI_two {w : World} {b : Nat} {x y : Int} {e : TypeId} {fr : Nat × Nat} (h : w.heap[b]? = some (.cells #[.int .i64 x, .int .i64 y] e fr)) : RdI w (.slice (some ⟨b, 0, none⟩) 2 2) [x, y] := by
  refine ⟨rfl, some ⟨b, 0, none⟩, 2, rfl, Nat.le_refl _, by unfold maxLen; omega, fun j u hu => ⟨_, rfl, ?_⟩⟩
  exact World.news_of_block h j u hu
set_option maxRecDepth 100000 in
set_option maxHeartbeats 1000000 in
theorem c_CompareString (a b : ByteArray) (w : World) : Calls Try.prog 171 #[.string a, .string b] w (Ret w (.int .i64 (Lib.compareBytes a.data.toList b.data.toList))) := by
  go_enter Try.func171, Try.ntmps171
  go_wp2
  rw [run_callFunc_extern Try.func199 (by kernel_rfl) (by kernel_rfl) (by kernel_rfl) (e := Extern.BytealgCompare.compare) (by kernel_rfl), Lib.run_compareString]
  simp only [Result.andThen]
  rw [Oper.upon_value]
  go_wp2
  go_ret
  exact Ret.mk rfl
theorem c_strings_Compare (a b : ByteArray) (w : World) : Calls Try.prog 136 #[.string a, .string b] w (Ret w (.int .i64 (Lib.compareBytes a.data.toList b.data.toList))) := by
  go_enter Try.func136, Try.ntmps136
  go_wp2_with fail
  refine (c_CompareString _ _ _).mono ?_
  rintro e w1 ⟨rfl, rfl⟩
  go_wp2
  go_ret
  exact Ret.mk rfl
theorem cmp_less : ∀ xs ys : List UInt8, Lib.compareBytes xs ys = if Op.bytesLess xs ys then -1 else if xs == ys then 0 else 1
  | [], [] => rfl
  | [], _ :: _ => rfl
  | _ :: _, [] => rfl
  | a :: xs, b :: ys => by
    have ih := cmp_less xs ys
    unfold Lib.compareBytes Op.bytesLess
    rw [ih]
    by_cases h1 : a < b
    · simp [h1]
    · by_cases h2 : b < a
      · have h3 : a ≠ b := fun e => by subst e; exact h1 h2
        simp [h1, h2, h3]
      · have h3 : a = b := UInt8.le_antisymm (UInt8.not_lt.1 h2) (UInt8.not_lt.1 h1)
        subst h3
        simp
end Go.Proofs.Ytbdcomkbpapcaaa
