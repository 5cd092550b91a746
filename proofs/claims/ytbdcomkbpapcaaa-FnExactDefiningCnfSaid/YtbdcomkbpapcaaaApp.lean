import Derived.Test.YtbdcomkbpapcaaaHelp
/-
  append onto a slice of the call's own, in the forms in which the walks use it. Conditions: lengths up to 2^30.
-/

namespace Go.Proofs.Ytbdcomkbpapcaaa
open Go.RowKit

section
variable {w : World} {ops : Array Oper} {rest : List Oper} {o : Oper} {a : Act} {Q : Exit → Act → World → Prop}
/-- append(v, u), numbers. -/
theorem appI (w : World) {v : Value} {xs : List Int} {base : Nat} (hown : OwnI w base 3 v xs) (hgd : o.guard = none) (s x : Operand)
    (ho : o.op = .call { callee := .builtin .append, args := #[s, x], argTypes := #[57, 57] })
    (u : Int) (hs : a.eval s = v) (hx : a.eval x = .slice (some ⟨w.heap.size, 0, none⟩) 1 1) (hn : xs.length ≤ 1073741824) (hbase : base ≤ w.heap.size)
    (h : ∀ v' w', OwnI w' base 3 v' (xs ++ [u]) → (w.alloc (.cells #[.int .i64 u] 3)).grownBy w' v.ownBlock → (v'.ownBlock = v.ownBlock ∨ v'.ownBlock = some (w.heap.size + 1)) → wpList Try.prog ops Q rest (a.put o.dst v') w') :
    wpList Try.prog ops Q (o :: rest) a (w.alloc (.cells #[.int .i64 u] 3)) :=
  wpList_app1 w hgd s x 57 ho 3 Try.underlying57 info_int (by decide) rfl base v xs.length (ints xs) hs hown _ hx rfl hn hbase fun v' w' h1 h2 h3 =>
    h v' w' (by unfold OwnI; rw [ints_snoc, List.length_append]; exact h1) h2 h3
/-- append(v, u), bools. -/
theorem appB (w : World) {v : Value} {xs : List Bool} {base : Nat} (hown : OwnB w base 4 v xs) (hgd : o.guard = none) (s x : Operand)
    (ho : o.op = .call { callee := .builtin .append, args := #[s, x], argTypes := #[112, 112] })
    (u : Bool) (hs : a.eval s = v) (hx : a.eval x = .slice (some ⟨w.heap.size, 0, none⟩) 1 1) (hn : xs.length ≤ 1073741824) (hbase : base ≤ w.heap.size)
    (h : ∀ v' w', OwnB w' base 4 v' (xs ++ [u]) → (w.alloc (.cells #[.bool u] 4)).grownBy w' v.ownBlock → (v'.ownBlock = v.ownBlock ∨ v'.ownBlock = some (w.heap.size + 1)) → wpList Try.prog ops Q rest (a.put o.dst v') w') :
    wpList Try.prog ops Q (o :: rest) a (w.alloc (.cells #[.bool u] 4)) :=
  wpList_app1 w hgd s x 112 ho 4 Try.underlying112 info_bool (by decide) rfl base v xs.length (bools xs) hs hown _ hx rfl hn hbase fun v' w' h1 h2 h3 =>
    h v' w' (by unfold OwnB; rw [bools_snoc, List.length_append]; exact h1) h2 h3
end
theorem ext_app {w0 w w' : World} {v : Value} {o : Obj} (h : Ext w0 w) (hg : (w.alloc o).grownBy w' v.ownBlock) (hv : ∀ g, v.ownBlock = some g → w0.heap.size ≤ g) : Ext w0 w' := below_app h hg h.size hv
theorem ownI_ge {w : World} {base : Nat} {e : TypeId} {v : Value} {xs : List Int} (h : OwnI w base e v xs) : ∀ g, v.ownBlock = some g → base ≤ g := fun g hg => (own_blocks h g hg).1
theorem ownI_nil (w : World) (base : Nat) (e : TypeId) : OwnI w base e (.slice none 0 0) [] := own_nil _ _ _ _
theorem seqI_snoc (k0 : Int) (n : Nat) : seqI k0 (n + 1) = seqI k0 n ++ [k0 + n] := by simp [seqI, List.range_succ]
set_option maxHeartbeats 800000 in
theorem i_upTo (n : Nat) (w : World) (hn : n ≤ 1073741824) : Calls Try.prog 156 #[.int .i64 n] w (RetI w 3 (seqI 1 n)) := by
  go_enter Try.func156, Try.ntmps156
  go_wp2
  go_loopw [4, 3] (fun i v wr => ∃ k : Nat, k ≤ n ∧ i = .int .i64 ((k : Int) + 1) ∧ OwnI wr w.heap.size 3 v (seqI 1 k) ∧ Ext w wr) (fun i _ _ => n + 1 - (intOf i).toNat)
  case atStart => exact ⟨0, by omega, rfl, ownI_nil _ _ _, Ext.refl _⟩
  case round =>
    obtain ⟨k, hk, rfl, ho, hx⟩ := hrel
    by_cases hlt : k < n
    · have hxs := hx.size
      go_wp2_with (at_builtin; refine appI wr ho rfl _ _ rfl _ (by rfl) (by rfl) (by simp; omega) hxs ?_; intro v' w1 ho1 hg1 _)
      go_roundw
      case rel => exact ⟨k + 1, by omega, by go_num, by rw [seqI_snoc, Int.add_comm]; exact ho1, ext_app hx hg1 (ownI_ge ho)⟩
      case measure => simp [intOf]; omega
    · go_wp2
      go_ret
      obtain rfl : k = n := by omega
      exact ⟨_, rfl, ho, hx⟩
end Go.Proofs.Ytbdcomkbpapcaaa
