/-
  append of gates. Conditions: list lengths up to 2^20.
-/
import Derived.Test.YtlegfibfjhfkhaaGateM
import Derived.Test.YtlegfibfjhfkhaaApp2
import Derived.Test.YtlegfibfjhfkhaaGrow
namespace Go.Proofs.Ytlegfibfjhfkhaa
open Go.RowKit
def RetG2 (w : World) (gs : List Gat) (b : Bool) : Ending → World → Prop := fun e w' => ∃ u, e = .returned (.tuple #[u, .bool b]) ∧ Own_GateS w' w.heap.size w'.heap.size u gs ∧ Ext w w'
abbrev OwnG (w : World) (lo : Nat) (v : Value) (gs : List Gat) : Prop := Own w lo 89 3 v gs.length (gatCells gs)
theorem OwnG.form {w : World} {lo : Nat} {v : Value} {gs : List Gat} (h : OwnG w lo v gs) : ∃ A c, v = .slice A gs.length c := by
  obtain ⟨_, A, c, rfl, _⟩ := own_rd h
  exact ⟨A, c, rfl⟩
theorem OwnG.form2 {w : World} {lo n : Nat} {v : Value} {gs : List Gat} (h : OwnG w lo v gs) (hn : gs.length = n) : ∃ A c, v = .slice A n c := by
  obtain ⟨A, c, e⟩ := h.form
  exact ⟨A, c, by rw [e, hn]⟩
theorem grown_new {w w' : World} {row : Option Nat} {o : Obj} (h : (w.alloc o).grownBy w' row) : w.grownBy w' row := grown_trans (grown_ext (Ext.new w o) row) h
section
variable {ops : Array Oper} {rest : List Oper} {o : Oper} {a : Act} {Q : Exit → Act → World → Prop}
/-- append(v, g), gates. -/
theorem appG (w : World) {nb : Nat} {v : Value} {gs : List Gat} {base : Nat} (x y z : Int) (hown : OwnG w base v gs) (hgd : o.guard = none) (s xx : Operand)
    (ho : o.op = .call { callee := .builtin .append, args := #[s, xx], argTypes := #[37, 37] })
    (hs : a.eval s = v) (hx : a.eval xx = .slice (some ⟨nb, 0, none⟩) 1 1) (hnb : w.heap.size = nb) (hn : gs.length + 1 ≤ 536870912) (hbase : base ≤ w.heap.size)
    (h : ∀ v' w', OwnG w' base v' (gs ++ [⟨x, y, z⟩]) → w.grownBy w' v.ownBlock → (v'.ownBlock = v.ownBlock ∨ v'.ownBlock = some (w.heap.size + 1)) → wpList Try.prog ops Q rest (a.put o.dst v') w') :
    wpList Try.prog ops Q (o :: rest) a (w.alloc (.cells #[.int .i64 x, .int .i64 y, .int .i64 z] 89)) := by
  subst hnb
  refine wpList_plain hgd fun K hK => wp_app _ s xx 37 ho base 89 Try.underlying37 info_gate (by decide) rfl (by decide) (own_ext hown (Ext.new w _)) (rd_blk (s := 3) (us := gatCells [⟨x, y, z⟩]) (blk_new _ rfl) rfl rfl (by unfold maxLen; omega)) (gatCells_one _) hs hx (by omega) (by simp; omega) fun v' w' h1 h2 h3 => hK _ _ (h v' w' ?_ (grown_new h2) (by simpa using h3))
  unfold OwnG
  rw [gatCells_append, List.length_append]
  exact h1
/-- append(v, g, h), gates. -/
theorem appG2 (w : World) {nb : Nat} {v : Value} {gs : List Gat} {base : Nat} (x y z x' y' z' : Int) (hown : OwnG w base v gs) (hgd : o.guard = none) (s xx : Operand)
    (ho : o.op = .call { callee := .builtin .append, args := #[s, xx], argTypes := #[37, 37] })
    (hs : a.eval s = v) (hx : a.eval xx = .slice (some ⟨nb, 0, none⟩) 2 2) (hnb : w.heap.size = nb) (hn : gs.length + 2 ≤ 536870912) (hbase : base ≤ w.heap.size)
    (h : ∀ v' w', OwnG w' base v' (gs ++ [⟨x, y, z⟩, ⟨x', y', z'⟩]) → w.grownBy w' v.ownBlock → (v'.ownBlock = v.ownBlock ∨ v'.ownBlock = some (w.heap.size + 1)) → wpList Try.prog ops Q rest (a.put o.dst v') w') :
    wpList Try.prog ops Q (o :: rest) a (w.alloc (.cells #[.int .i64 x, .int .i64 y, .int .i64 z, .int .i64 x', .int .i64 y', .int .i64 z'] 89)) := by
  subst hnb
  refine wpList_plain hgd fun K hK => wp_app _ s xx 37 ho base 89 Try.underlying37 info_gate (by decide) rfl (by decide) (own_ext hown (Ext.new w _)) (rd_blk (s := 3) (us := gatCells [⟨x, y, z⟩, ⟨x', y', z'⟩]) (blk_new _ rfl) rfl rfl (by unfold maxLen; omega)) (gatCells_one _) hs hx (by omega) (by simp; omega) fun v' w' h1 h2 h3 => hK _ _ (h v' w' ?_ (grown_new h2) (by simpa using h3))
  unfold OwnG
  rw [gatCells_append, List.length_append]
  exact h1
end
end Go.Proofs.Ytlegfibfjhfkhaa
