/-
  The pigeons' formulas of the spec's side: l17Cnf, l28Functional. Condition: 1 to 3 holes.
-/
import Derived.Test.YtjeeffmpfdhppaaFuncT
namespace Go.Proofs.Ytjeeffmpfdhppaa
open Go.RowKit
theorem ownSS_emp {W : World} {b lo hi : Nat} {eI : TypeId} (hb : W.heap.size = b) (hl : lo ≤ b) (hh : b < hi) : OwnSS (W.alloc (.cells #[] 45)) lo hi 45 eI (.slice (some ⟨b, 0, none⟩) 0 0) [] := by
  subst hb
  exact ⟨[], own_lit W lo 45 1 #[] 0 hl (Nat.zero_le _) rfl, (fun g hg => by obtain rfl : W.heap.size = g := Option.some.inj hg; exact hh), rfl, (fun i u xs h => by simp at h), (fun i j u u' g _ h => by simp at h)⟩
theorem ownI_pair (W : World) {base : Nat} (x y : Int) (hb : base ≤ W.heap.size) : OwnI (W.alloc (.cells #[.int .i64 x, .int .i64 y] 3)) base 3 (.slice (some ⟨W.heap.size, 0, none⟩) 2 2) [x, y] :=
  own_lit W base 3 1 #[.int .i64 x, .int .i64 y] 2 hb (by unfold maxLen; omega) rfl
theorem rd_oneN (w : World) (u : Value) (e : TypeId) {nb : Nat} (hnb : w.heap.size = nb) : Rd (w.alloc (.cells #[u] e)) 1 (.slice (some ⟨nb, 0, none⟩) 1 1) 1 [u] := by
  subst hnb
  exact rd_oneV w u e
theorem pv2_pvar (m k h : Nat) : pvar m ((k : Int) + 1) ((h : Int) + 1) = pv2 m k h := by
  unfold pvar pv2
  rw [show (k : Int) + 1 - 1 = (k : Int) from by omega]
theorem cnf17_len {m : Nat} (hm : 1 ≤ m ∧ m ≤ 3) : (clsA m (m + 1)).length ≤ 4 := by simp [clsA]; omega
end Go.Proofs.Ytjeeffmpfdhppaa
