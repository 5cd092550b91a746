/-
  append onto a slice of the call's own, in the forms in which the walks use it. Conditions: lengths up to 2^30.
-/
import Derived.Test.YtapgpjhogdmjbaaDoorHelp
namespace Go.Proofs.YtapgpjhogdmjbaaDoor
open Go.RowKit

section
variable {w : World} {ops : Array Oper} {rest : List Oper} {o : Oper} {a : Act} {Q : Exit → Act → World → Prop}
/-- append(v, u), numbers. -/
theorem appI (w : World) {v : Value} {xs : List Int} {base : Nat} (hown : OwnI w base 3 v xs) (hgd : o.guard = none) (s x : Operand)
    (ho : o.op = .call { callee := .builtin .append, args := #[s, x], argTypes := #[50, 50] })
    (u : Int) (hs : a.eval s = v) (hx : a.eval x = .slice (some ⟨w.heap.size, 0, none⟩) 1 1) (hn : xs.length ≤ 1073741824) (hbase : base ≤ w.heap.size)
    (h : ∀ v' w', OwnI w' base 3 v' (xs ++ [u]) → (w.alloc (.cells #[.int .i64 u] 3)).grownBy w' v.ownBlock → (v'.ownBlock = v.ownBlock ∨ v'.ownBlock = some (w.heap.size + 1)) → wpList Tryd.prog ops Q rest (a.put o.dst v') w') :
    wpList Tryd.prog ops Q (o :: rest) a (w.alloc (.cells #[.int .i64 u] 3)) :=
  wpList_app1 w hgd s x 50 ho 3 Tryd.underlying50 info_int (by decide) rfl base v xs.length (ints xs) hs hown _ hx rfl hn hbase fun v' w' h1 h2 h3 =>
    h v' w' (by unfold OwnI; rw [ints_snoc, List.length_append]; exact h1) h2 h3
end
theorem ext_app {w0 w w' : World} {v : Value} {o : Obj} (h : Ext w0 w) (hg : (w.alloc o).grownBy w' v.ownBlock) (hv : ∀ g, v.ownBlock = some g → w0.heap.size ≤ g) : Ext w0 w' := below_app h hg h.size hv
theorem ownI_ge {w : World} {base : Nat} {e : TypeId} {v : Value} {xs : List Int} (h : OwnI w base e v xs) : ∀ g, v.ownBlock = some g → base ≤ g := fun g hg => (own_blocks h g hg).1
theorem ownI_nil (w : World) (base : Nat) (e : TypeId) : OwnI w base e (.slice none 0 0) [] := own_nil _ _ _ _
theorem seqI_snoc (k0 : Int) (n : Nat) : seqI k0 (n + 1) = seqI k0 n ++ [k0 + n] := by simp [seqI, List.range_succ]