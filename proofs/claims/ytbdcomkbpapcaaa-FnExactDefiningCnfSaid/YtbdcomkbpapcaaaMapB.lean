import Derived.Test.YtbdcomkbpapcaaaTreeB
import Derived.Maps.OwnSet
import Derived.Maps.OwnOps
import Derived.Maps.Views
import Derived.Carry
import Derived.StringKeys
/-
  A map from texts to numbers, in plain words. No condition.
-/

namespace Go.Proofs.Ytbdcomkbpapcaaa
open Go.RowKit Go.Sort Go.Maps
/-- The map of the places. -/
def dM (acc : List (Bs × Int)) : DataW Unit := acc.foldl (fun m p => m.put (.string p.1) (.lit (.int .i64 p.2))) (.map [])
theorem dM_snoc (acc : List (Bs × Int)) (p : Bs × Int) : dM (acc ++ [p]) = (dM acc).put (.string p.1) (.lit (.int .i64 p.2)) := by simp [dM, List.foldl_append]
theorem dM_map (acc : List (Bs × Int)) : IsMap (dM acc) := by
  have key : ∀ (acc : List (Bs × Int)) (m : DataW Unit), IsMap m → IsMap (acc.foldl (fun m p => m.put (.string p.1) (.lit (.int .i64 p.2))) m) := by
    intro acc
    induction acc with
    | nil => intro m h; exact h
    | cons p q ih => intro m h; exact ih _ (h.put _ _)
  exact key acc _ isMap_empty
theorem dM_at (t : Bs) : ∀ (n : Nat) (acc : List (Bs × Int)), acc.length = n → (dM acc).atKey (.string t) (.lit (.int .i64 0)) = .lit (.int .i64 (lkB acc t))
  | 0, acc, h => by
    obtain rfl := List.eq_nil_of_length_eq_zero h
    exact atKey_of_not_has rfl _
  | n + 1, acc, h => by
    rcases List.eq_nil_or_concat acc with rfl | ⟨L, p, rfl⟩
    · simp at h
    · rw [List.concat_eq_append] at h ⊢
      rw [dM_snoc, lkB_snoc]
      by_cases e : p.1 = t
      · rw [if_pos (by rw [e]; exact beq_self_eq_true _), e]
        exact atKey_put_same (k := .string t) (dM_map L) trivial _ _
      · rw [if_neg (by simpa using e), atKey_put_other (fun h2 => e (by injection h2 with h2; exact h2.symm))]
        exact dM_at t n L (by simpa using h)
abbrev OwnM (w : World) (b n : Nat) (acc : List (Bs × Int)) : Prop := w.ownsMap Try.prog 9 (plainElem (H := Unit) Try.prog 3) b n (dM acc)
theorem zero_int (w : World) : (zeroValue 3).run Try.prog w = .ok (.int .i64 0) w := by kernel_rfl
theorem lk_run {w : World} {b n : Nat} {acc : List (Bs × Int)} (h : OwnM w b n acc) (s : ByteArray) (hs : s.size ≤ 1048576) :
    (Instr.lookup 87 (.map (some b)) (.string s) false).run Try.prog w = .ok (.int .i64 (lkB acc s.data.toList)) w := by
  obtain ⟨c, hr, hc, _⟩ := World.ownsMap.lookup_int h (string_keyed Try.underlying9) Try.underlying87 Try.underlying3 (zero_int w) (Go.WideMaps.keyOf_string_mk Try.underlying9 (s := s) (by unfold maxLen; omega))
  have hc := (dM_at _ _ acc rfl).symm.trans hc
  have hc2 : lkB acc s.data.toList = c := by simpa using hc
  rw [hc2]; exact hr
end Go.Proofs.Ytbdcomkbpapcaaa
