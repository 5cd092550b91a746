/-
  make([]int, n), and a write to such a slice. Condition: up to 2^30 cells.
-/
import Derived.Test.YtapgpjhogdmjbaaApp2
namespace Go.Proofs.Ytapgpjhogdmjbaa
open Go.RowKit
theorem made1 (n : Nat) : (madeCells (Value.int .i64 0).cells (n * 1)).toList = ints (List.replicate n 0) := by
  apply List.ext_getElem
  · simp [madeCells]
  intro j h1 h2
  simp only [ints, madeCells, Array.toList_map, Array.toList_range, List.getElem_map, List.getElem_range, List.getElem_replicate]
  simp [Value.cells, Nat.mod_one]
/-- make([]int, n). -/
theorem mkI {ops : Array Oper} {rest : List Oper} {o : Oper} {a : Act} {Q : Exit → Act → World → Prop} (w : World) {nb n : Nat} (hgd : o.guard = none) (l c : Operand) (hop : o.op = .makeSlice 44 l c) (hl : a.eval l = .int .i64 n) (hc : a.eval c = .int .i64 n) (hn : n ≤ 1073741824) (hnb : w.heap.size = nb)
    (h : ∀ w', OwnI w' nb 3 (.slice (some ⟨nb, 0, none⟩) n n) (List.replicate n 0) → Ext w w' → wpList Try.prog ops Q rest (a.put o.dst (.slice (some ⟨nb, 0, none⟩) n n)) w') :
    wpList Try.prog ops Q (o :: rest) a w := by
  subst hnb
  obtain ⟨i0, hi, hz0, hz1, hz2⟩ := info_parts info_int
  refine wpList_make_full _ hgd l c 44 hop w.heap.size 3 i0 (.int .i64 0) 1 Try.underlying44 hi hz0 hz1 _ _ _ _ n hl hc rfl rfl (by rw [hz2]; omega) (by unfold maxLen; omega) (Nat.le_refl _) fun w1 hown1 hgrow1 => h w1 ?_ ((Ext.refl w).grown hgrow1 (Nat.le_refl _) (by simp))
  rw [made1] at hown1
  unfold OwnI
  rw [List.length_replicate]
  exact hown1
theorem ownI_store {w : World} {base : Nat} {e : TypeId} {g n cap : Nat} {xs : List Int} (h : OwnI w base e (.slice (some ⟨g, 0, none⟩) n cap) xs) (hn : xs.length = n) {k : Nat} (hk : k < n) :
    (∃ u0, w.cell? ⟨g, k, none⟩ = some u0) ∧ w.frozen? ⟨g, k, none⟩ = false ∧ Hid (∀ x, OwnI (w.setCell ⟨g, k, none⟩ (.int .i64 x)) base e (.slice (some ⟨g, 0, none⟩) n cap) (xs.set k x)) := by
  subst hn
  obtain ⟨h1, h2, h3⟩ := own_store h hk
  refine ⟨h1, h2, hd fun x => ?_⟩
  have := h3.out (.int .i64 x)
  unfold OwnI
  rw [show ints (xs.set k x) = (ints xs).set k (.int .i64 x) by simp [ints, List.map_set], List.length_set]
  exact this
end Go.Proofs.Ytapgpjhogdmjbaa
