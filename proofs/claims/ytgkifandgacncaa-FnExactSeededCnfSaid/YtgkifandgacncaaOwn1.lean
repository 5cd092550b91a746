/-
  spec.l1Own: the copy of a list. Condition: at most 2^30 numbers.
-/
import Derived.Test.YtgkifandgacncaaC1
import Derived.Test.YtgkifandgacncaaApp2
namespace Go.Proofs.Ytgkifandgacncaa
open Go.RowKit
theorem s_l1Own (xs : List Int) (v : Value) (w : World) (h : RdI w v xs) (hl : xs.length ≤ 1073741824) :
    Calls Try.prog 61 #[v] w (RetI w 3 xs) := by
  have HE : Hid (OwnI (w.alloc (.cells #[] 3)) w.heap.size 3 (.slice (some ⟨w.heap.size, 0, none⟩) 0 0) []) := hd (own_lit w _ 3 1 #[] 0 (Nat.le_refl _) (Nat.zero_le _) rfl)
  have HR := hd (h.ext (Ext.new w (.cells #[] 3)))
  obtain ⟨A, c, rfl, -⟩ := h.form
  clear h
  go_enter Try.func61, Try.ntmps61
  go_wp2_with (at_builtin; refine appSI _ HE.out HR.out rfl _ _ rfl (by rfl) (by rfl) (by simp; omega) (by simp) ?_; intro v' w1 ho1 hg1 _)
  go_ret
  exact ⟨_, rfl, by simpa using ho1, ext_appS (Ext.new _ _) hg1 (fun g hg => by cases hg; exact Nat.le_refl _)⟩
end Go.Proofs.Ytgkifandgacncaa
