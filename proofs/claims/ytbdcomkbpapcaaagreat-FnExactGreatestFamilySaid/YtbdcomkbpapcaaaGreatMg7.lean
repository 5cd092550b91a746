import Derived.Test.YtbdcomkbpapcaaaGreatGfR
import Derived.Test.YtbdcomkbpapcaaaGreatApp2
/-
  Greatest families: one round of shrinking in plain words. No condition.
-/
/-
  make([]int, n), and a write to such a slice. Condition: up to 2^30 cells.
-/

namespace Go.Proofs.YtbdcomkbpapcaaaGreat
open Go.RowKit Seed
/-! ### A round in plain words -/
def outL (n q : Nat) (L : List (List Int)) (b : List Int) : Bool := decide (b ∈ L) && keepB n q L b
def gonL (n q : Nat) (L : List (List Int)) (b : List Int) : Bool := decide (b ∈ L) && !keepB n q L b
def Sub (A L : List (List Int)) : Prop := A.filter (fun b => decide (b ∈ L)) = L
theorem sub_refl (A : List (List Int)) : Sub A A := List.filter_eq_self.2 fun _ h => decide_eq_true h
theorem Sub.mem {A L : List (List Int)} (h : Sub A L) {b : List Int} (hb : b ∈ L) : b ∈ A := by
  unfold Sub at h
  rw [← h] at hb
  exact (List.mem_filter.1 hb).1
theorem Sub.asc {A L : List (List Int)} (h : Sub A L) (ha : Asc A) : Asc L := by
  unfold Sub at h
  rw [← h]
  exact ha.sublist List.filter_sublist
theorem Sub.len {A L : List (List Int)} (h : Sub A L) : L.length ≤ A.length := by
  unfold Sub at h
  conv => lhs; rw [← h]
  exact List.length_filter_le _ _
theorem mem_cutL {n q : Nat} {L : List (List Int)} {b : List Int} : b ∈ cutL n q L ↔ b ∈ L ∧ keepB n q L b = true := List.mem_filter
theorem mem_cut_out {n q : Nat} {L : List (List Int)} {b : List Int} : decide (b ∈ cutL n q L) = outL n q L b := by
  unfold outL
  rw [Bool.eq_iff_iff, decide_eq_true_iff, mem_cutL, Bool.and_eq_true, decide_eq_true_iff]
theorem Sub.out {n q : Nat} {A L : List (List Int)} (h : Sub A L) : A.filter (outL n q L) = cutL n q L := by
  have h' := h
  unfold Sub at h'
  unfold cutL
  conv => rhs; rw [← h']
  rw [List.filter_filter]
  rw [h']
  congr 1
  funext b
  unfold outL
  rw [Bool.and_comm]
theorem Sub.cut {n q : Nat} {A L : List (List Int)} (h : Sub A L) : Sub A (cutL n q L) := by
  unfold Sub
  rw [← h.out]
  refine List.filter_congr fun b _ => ?_
  rw [h.out, mem_cut_out]
theorem gon_none {n q : Nat} {A L : List (List Int)} (h : Sub A L) : ((A.filter (gonL n q L)).length = 0) ↔ L.all (keepB n q L) = true := by
  rw [List.length_eq_zero_iff, List.filter_eq_nil_iff, List.all_eq_true]
  unfold gonL
  constructor
  · intro hh b hb
    have := hh b (h.mem hb)
    rw [decide_eq_true hb] at this
    simpa using this
  · intro hh b _ hg
    rw [Bool.and_eq_true, decide_eq_true_iff, Bool.not_eq_true'] at hg
    rw [hh b hg.1] at hg
    cases hg.2
theorem fil_snoc {p : List Int → Bool} {A : List (List Int)} {k : Nat} (h : k < A.length) : (A.take (k + 1)).filter p = if p A[k] then (A.take k).filter p ++ [A[k]] else (A.take k).filter p := by
  rw [List.take_succ_eq_append_getElem h, List.filter_append]
  cases hp : p A[k]
  · simp [hp]
  · simp [hp]
theorem mk_same {AL : List (List Int)} {rs : List Int} {k : Nat} {P Q : List Int → Prop} (h : ∀ i (hi : i < AL.length) (h' : i < rs.length), (0 < rs[i] ↔ if i < k then P AL[i] else Q AL[i])) (hk : ∀ (hi : k < AL.length) (h' : k < rs.length), (0 < rs[k] ↔ P AL[k])) :
    ∀ i (hi : i < AL.length) (h' : i < rs.length), (0 < rs[i] ↔ if i < k + 1 then P AL[i] else Q AL[i]) := fun i hi h' => by
  by_cases e : i = k
  · subst e; rw [if_pos (by omega)]; exact hk hi h'
  · have := h i hi h'
    by_cases hlt : i < k
    · rw [if_pos hlt] at this; rw [if_pos (by omega)]; exact this
    · rw [if_neg hlt] at this; rw [if_neg (by omega)]; exact this
theorem mk_set {AL : List (List Int)} {rs : List Int} {k : Nat} {x : Int} {P Q : List Int → Prop} (h : ∀ i (hi : i < AL.length) (h' : i < rs.length), (0 < rs[i] ↔ if i < k then P AL[i] else Q AL[i])) (hx : 0 < x) (hk : ∀ (hi : k < AL.length), P AL[k]) :
    ∀ i (hi : i < AL.length) (h' : i < (rs.set k x).length), (0 < (rs.set k x)[i] ↔ if i < k + 1 then P AL[i] else Q AL[i]) := fun i hi h' => by
  rw [List.length_set] at h'
  rw [List.getElem_set]
  by_cases e : k = i
  · subst e; rw [if_pos rfl, if_pos (by omega)]; exact ⟨fun _ => hk hi, fun _ => hx⟩
  · rw [if_neg e]
    have := h i hi h'
    by_cases hlt : i < k
    · rw [if_pos hlt] at this; rw [if_pos (by omega)]; exact this
    · rw [if_neg hlt] at this; rw [if_neg (by omega)]; exact this
end Go.Proofs.YtbdcomkbpapcaaaGreat
namespace Go.Proofs.YtbdcomkbpapcaaaGreat
open Go.RowKit
theorem made1 (n : Nat) : (madeCells (Value.int .i64 0).cells (n * 1)).toList = ints (List.replicate n 0) := by
  apply List.ext_getElem
  · simp [madeCells]
  intro j h1 h2
  simp only [ints, madeCells, Array.toList_map, Array.toList_range, List.getElem_map, List.getElem_range, List.getElem_replicate]
  simp [Value.cells, Nat.mod_one]
/-- make([]int, n). -/
theorem mkI {ops : Array Oper} {rest : List Oper} {o : Oper} {a : Act} {Q : Exit → Act → World → Prop} (w : World) {nb n : Nat} (hgd : o.guard = none) (l c : Operand) (hop : o.op = .makeSlice 37 l c) (hl : a.eval l = .int .i64 n) (hc : a.eval c = .int .i64 n) (hn : n ≤ 1073741824) (hnb : w.heap.size = nb)
    (h : ∀ w', OwnI w' nb 3 (.slice (some ⟨nb, 0, none⟩) n n) (List.replicate n 0) → Ext w w' → wpList Tryz.prog ops Q rest (a.put o.dst (.slice (some ⟨nb, 0, none⟩) n n)) w') :
    wpList Tryz.prog ops Q (o :: rest) a w := by
  subst hnb
  obtain ⟨i0, hi, hz0, hz1, hz2⟩ := info_parts info_int
  refine wpList_make_full _ hgd l c 37 hop w.heap.size 3 i0 (.int .i64 0) 1 Tryz.underlying37 hi hz0 hz1 _ _ _ _ n hl hc rfl rfl (by rw [hz2]; omega) (by unfold maxLen; omega) (Nat.le_refl _) fun w1 hown1 hgrow1 => h w1 ?_ ((Ext.refl w).grown hgrow1 (Nat.le_refl _) (by simp))
  rw [made1] at hown1
  unfold OwnI
  rw [List.length_replicate]
  exact hown1
theorem ownI_store {w : World} {base : Nat} {e : TypeId} {g n cap : Nat} {xs : List Int} (h : OwnI w base e (.slice (some ⟨g, 0, none⟩) n cap) xs) (hn : xs.length = n) {k : Nat} (hk : k < n) :
    (∃ u0, w.cell? ⟨g, k, none⟩ = some u0) ∧ w.frozen? ⟨g, k, none⟩ = false ∧ Hid (∀ x, OwnI (w.setCell ⟨g, k, none⟩ (.int .i64 x)) base e (.slice (some ⟨g, 0, none⟩) n cap) (xs.set k x)) := by
  subst hn
  obtain ⟨h1, h2, h3⟩ := own_store h hk
  refine ⟨h1, h2, hd fun x => ?_⟩
  have := h3.out (.int .i64 x)
  unfold OwnI
  rw [show ints (xs.set k x) = (ints xs).set k (.int .i64 x) by simp [ints, List.map_set], List.length_set]
  exact this
end Go.Proofs.YtbdcomkbpapcaaaGreat
