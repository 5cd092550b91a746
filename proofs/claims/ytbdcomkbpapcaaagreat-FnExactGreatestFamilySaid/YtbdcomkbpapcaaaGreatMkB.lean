import Derived.Test.YtbdcomkbpapcaaaGreatMg1
/-
  make([]bool, n), and a write to such a slice. Condition: up to 2^30 cells.
-/

namespace Go.Proofs.YtbdcomkbpapcaaaGreat
open Go.RowKit
theorem bools_set (xs : List Bool) (i : Nat) (x : Bool) : bools (xs.set i x) = (bools xs).set i (.bool x) := by simp [bools, List.map_set]
theorem bools_repl (n : Nat) : bools (List.replicate n false) = List.replicate n (.bool false) := by simp [bools]
theorem pow6 {k : Nat} (h : k ≤ 6) : 2 ^ k ≤ 64 := by
  have := Nat.pow_le_pow_right (n := 2) (by decide) h
  simpa using this
theorem madeB (n : Nat) : (madeCells (Value.bool false).cells (n * 1)).toList = bools (List.replicate n false) := by
  simp [bools, toList_madeCells_one, Value.cells]
/-- make([]bool, n). -/
theorem mkB {ops : Array Oper} {rest : List Oper} {o : Oper} {a : Act} {Q : Exit → Act → World → Prop} (w : World) {n : Nat} (hgd : o.guard = none) (l c : Operand) (hop : o.op = .makeSlice 52 l c) (hl : a.eval l = .int .i64 n) (hc : a.eval c = .int .i64 n) (hn : n ≤ 1073741824)
    (h : ∀ w', OwnB w' w.heap.size 4 (.slice (some ⟨w.heap.size, 0, none⟩) n n) (List.replicate n false) → Ext w w' → wpList Tryz.prog ops Q rest (a.put o.dst (.slice (some ⟨w.heap.size, 0, none⟩) n n)) w') :
    wpList Tryz.prog ops Q (o :: rest) a w := by
  obtain ⟨i0, hi, hz0, hz1, hz2⟩ := info_parts info_bool
  refine wpList_make_full _ hgd l c 52 hop w.heap.size 4 i0 (.bool false) 1 Tryz.underlying52 hi hz0 hz1 _ _ _ _ n hl hc rfl rfl (by rw [hz2]; omega) (by unfold maxLen; omega) (Nat.le_refl _) fun w1 hown1 hgrow1 => h w1 ?_ ((Ext.refl w).grown hgrow1 (Nat.le_refl _) (by simp))
  rw [madeB] at hown1
  unfold OwnB
  rw [List.length_replicate]
  exact hown1
theorem ownB_store {w : World} {base : Nat} {e : TypeId} {g n cap : Nat} {xs : List Bool} (h : OwnB w base e (.slice (some ⟨g, 0, none⟩) n cap) xs) (hn : xs.length = n) {k : Nat} (hk : k < n) :
    (∃ u0, w.cell? ⟨g, k, none⟩ = some u0) ∧ w.frozen? ⟨g, k, none⟩ = false ∧ Hid (∀ x, OwnB (w.setCell ⟨g, k, none⟩ (.bool x)) base e (.slice (some ⟨g, 0, none⟩) n cap) (xs.set k x)) := by
  subst hn
  obtain ⟨h1, h2, h3⟩ := own_store h hk
  exact ⟨h1, h2, hd fun x => by have := h3.out (.bool x); unfold OwnB; rw [List.length_set, bools_set]; exact this⟩
end Go.Proofs.YtbdcomkbpapcaaaGreat
