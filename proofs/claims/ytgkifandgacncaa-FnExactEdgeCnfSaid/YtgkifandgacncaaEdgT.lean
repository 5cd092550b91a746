/-
  EdgeCnf: the table of the reference's side: rows that are filled in place. Conditions: two or three vertices.
-/
import Derived.Test.YtgkifandgacncaaEdgP
import Derived.Test.YtgkifandgacncaaChgC
import Derived.Test.YtgkifandgacncaaFamZ
import Derived.Test.YtgkifandgacncaaRetN
import Derived.Deep.RegionHeld3
namespace Go.Proofs.Ytgkifandgacncaa
open Go.RowKit
/-- make([][]int, n). -/
theorem mkSS {ops : Array Oper} {rest : List Oper} {o : Oper} {a : Act} {Q : Exit → Act → World → Prop} (w : World) {n : Nat} {nI : Int} (hI : nI = (n : Int)) (hgd : o.guard = none) (l c : Operand) (hop : o.op = .makeSlice 27 l c) (hl : a.eval l = .int .i64 nI) (hc : a.eval c = .int .i64 nI) (hn : n ≤ 1073741824)
    (h : ∀ w' Z, Own w' w.heap.size 23 1 (.slice (some ⟨w.heap.size, 0, none⟩) n n) n Z → Ext w w' → wpList Try.prog ops Q rest (a.put o.dst (.slice (some ⟨w.heap.size, 0, none⟩) n n)) w') :
    wpList Try.prog ops Q (o :: rest) a w := by
  subst hI
  obtain ⟨i0, hi, hz0, hz1, hz2⟩ := info_parts info_ints
  exact wpList_make_full _ hgd l c 27 hop w.heap.size 23 i0 (.slice none 0 0) 1 Try.underlying27 hi hz0 hz1 _ _ _ _ n hl hc rfl rfl (by rw [hz2]; omega) (by unfold maxLen; omega) (Nat.le_refl _) fun w1 hown1 hgrow1 => h w1 _ hown1 ((Ext.refl w).grown hgrow1 (Nat.le_refl _) (by simp))
/-- make([]int, n), the number as the walk has it. -/
theorem mkIn {ops : Array Oper} {rest : List Oper} {o : Oper} {a : Act} {Q : Exit → Act → World → Prop} (w : World) {n : Nat} {nI : Int} (hI : nI = (n : Int)) (hgd : o.guard = none) (l c : Operand) (hop : o.op = .makeSlice 23 l c) (hl : a.eval l = .int .i64 nI) (hc : a.eval c = .int .i64 nI) (hn : n ≤ 1073741824)
    (h : ∀ w', OwnI w' w.heap.size 3 (.slice (some ⟨w.heap.size, 0, none⟩) n n) (List.replicate n 0) → Ext w w' → wpList Try.prog ops Q rest (a.put o.dst (.slice (some ⟨w.heap.size, 0, none⟩) n n)) w') :
    wpList Try.prog ops Q (o :: rest) a w := by
  subst hI
  exact mkI w hgd l c hop hl hc hn rfl h
/-- A row that is filled up to v. -/
def rowP (m u v : Nat) : List Int := (List.range (m + 1)).map fun j : Nat => if u < j ∧ j < v then ((numE m u + (j - u) : Nat) : Int) else 0
theorem rowP_len (m u v : Nat) : (rowP m u v).length = m + 1 := by simp [rowP]
theorem rowP_set {m u v : Nat} (h : u < v) (_ : v ≤ m) : (rowP m u v).set v ((numE m u + (v - u) : Nat) : Int) = rowP m u (v + 1) := by
  apply List.ext_getElem
  · simp [rowP]
  intro j h1 h2
  rw [List.getElem_set]
  simp only [rowP, List.getElem_map, List.getElem_range]
  split
  · rename_i e; subst e; rw [if_pos (by omega)]
  · rename_i e
    by_cases hj : u < j ∧ j < v
    · rw [if_pos hj, if_pos (by omega)]
    · rw [if_neg hj, if_neg (by omega)]
theorem rowP_zero (m u : Nat) : rowP m u (u + 1) = List.replicate (m + 1) 0 := by
  apply List.ext_getElem
  · simp [rowP]
  intro j h1 h2
  simp only [rowP, List.getElem_map, List.getElem_range, List.getElem_replicate]
  rw [if_neg (by omega)]
theorem rowP_at {m u j : Nat} (h : u < j) (hj : j ≤ m) : (ints (rowP m u (m + 1)))[j]? = some (.int .i64 ((numE m u + (j - u) : Nat) : Int)) := by
  have hl : j < (ints (rowP m u (m + 1))).length := by simp [ints, rowP_len]; omega
  rw [List.getElem?_eq_getElem hl]
  simp only [ints, rowP, List.getElem_map, List.getElem_range]
  rw [if_pos (by omega)]
/-- The table, of which the rows below u are whole. -/
def TabW (w : World) (lo B m u : Nat) : Prop :=
  ∃ vs : List Value, Own w lo 23 1 (.slice (some ⟨B, 0, none⟩) (m + 1) (m + 1)) (m + 1) vs ∧
    ∀ i, 1 ≤ i → i < u → ∃ b, vs[i]? = some (.slice (some ⟨b, 0, none⟩) (m + 1) (m + 1)) ∧ B < b ∧ b < w.heap.size ∧ ∀ j, i < j → j ≤ m → w.cell? ⟨b, j, none⟩ = some (.int .i64 ((numE m i + (j - i) : Nat) : Int))
section
variable {w w' w1 : World} {lo B m u v b K : Nat}
theorem TabW.start {Z : List Value} (h : Own w lo 23 1 (.slice (some ⟨B, 0, none⟩) (m + 1) (m + 1)) (m + 1) Z) : TabW w lo B m 1 := ⟨Z, h, fun i h1 h2 => by omega⟩
theorem TabW.blk (h : TabW w lo B m u) : lo ≤ B ∧ B < w.heap.size := by
  obtain ⟨vs, h1, -⟩ := h
  exact own_blocks h1 B rfl
theorem TabW.ext (h : TabW w lo B m u) (hx : Ext w w') : TabW w' lo B m u := by
  obtain ⟨vs, h1, h2⟩ := h
  refine ⟨vs, own_ext h1 hx, fun i hi hu => ?_⟩
  obtain ⟨b, e1, e0, e2, e3⟩ := h2 i hi hu
  exact ⟨b, e1, e0, Nat.lt_of_lt_of_le e2 hx.size, fun j hj hm => hx.cell (e3 j hj hm)⟩
/-- The table while row u, which lies behind all others, is being filled. -/
def TabU (w : World) (lo B m u v b : Nat) : Prop :=
  ∃ vs : List Value, Own w lo 23 1 (.slice (some ⟨B, 0, none⟩) (m + 1) (m + 1)) (m + 1) vs ∧ B < b ∧
    (∀ i, 1 ≤ i → i < u → ∃ b', vs[i]? = some (.slice (some ⟨b', 0, none⟩) (m + 1) (m + 1)) ∧ B < b' ∧ b' < b ∧ ∀ j, i < j → j ≤ m → w.cell? ⟨b', j, none⟩ = some (.int .i64 ((numE m i + (j - i) : Nat) : Int))) ∧
    vs[u]? = some (.slice (some ⟨b, 0, none⟩) (m + 1) (m + 1)) ∧ OwnI w lo 3 (.slice (some ⟨b, 0, none⟩) (m + 1) (m + 1)) (rowP m u v)
theorem TabU.start (h : TabW w lo B m u) (hu : u ≤ m) (ho : OwnI w1 w.heap.size 3 (.slice (some ⟨w.heap.size, 0, none⟩) (m + 1) (m + 1)) (List.replicate (m + 1) 0)) (hx : Ext w w1) : TabU (w1.setCell ⟨B, u, none⟩ (.slice (some ⟨w.heap.size, 0, none⟩) (m + 1) (m + 1))) lo B m u (u + 1) w.heap.size := by
  have hB := h.blk
  obtain ⟨vs, h1, h2⟩ := h
  have hv := h1.1
  have h3 := (own_store (own_ext h1 hx) (k := u) (by omega)).2.2.out (.slice (some ⟨w.heap.size, 0, none⟩) (m + 1) (m + 1))
  have hg : w1.grownBy (w1.setCell ⟨B, u, none⟩ (.slice (some ⟨w.heap.size, 0, none⟩) (m + 1) (m + 1))) (some B) := grown_set (grown_refl w1 (some B)) u _
  refine ⟨_, h3, hB.2, fun i hi hu' => ?_, ?_, ?_⟩
  · obtain ⟨b, e1, e0, e2, e3⟩ := h2 i hi hu'
    refine ⟨b, by rw [List.getElem?_set_ne (by omega)]; exact e1, e0, e2, fun j hj hm => ?_⟩
    have hc := hx.cell (e3 j hj hm)
    rw [World.cell?_of_block (w := w1) (hg.block b (by have := hx.size; omega) (fun e => by have := Option.some.inj e; omega))]
    exact hc
  · rw [List.getElem?_set_self (by omega)]
  · rw [rowP_zero]
    exact own_rebase (own_grown ho hg (fun g e1 e2 => by
      have e3 : w.heap.size = g := Option.some.inj e1
      have e4 : B = g := Option.some.inj e2
      omega)) (by omega)
theorem TabW.slot (h : TabW w lo B m u) {k : Nat} (hk : k ≤ m) : (∃ u0, w.cell? ⟨B, k, none⟩ = some u0) ∧ w.frozen? ⟨B, k, none⟩ = false := by
  obtain ⟨vs, h1, -⟩ := h
  have := own_store h1 (k := k) (by omega)
  exact ⟨this.1, this.2.1⟩
theorem TabU.cell (h : TabU w lo B m u v b) : w.cell? ⟨B, u, none⟩ = some (.slice (some ⟨b, 0, none⟩) (m + 1) (m + 1)) := by
  obtain ⟨vs, h1, -, -, h4, -⟩ := h
  have hl : u < (m + 1) := by
    obtain ⟨hl, -⟩ := List.getElem?_eq_some_iff.1 h4
    have := h1.1; omega
  have := World.ownsRow.cellAt h1 u (by omega)
  rw [this, h4]
theorem TabU.store (h : TabU w lo B m u v b) (hu : u < v) (_hv : v ≤ m) {x : Int} (hx : x = ((numE m u + (v - u) : Nat) : Int)) : (∃ u0, w.cell? ⟨b, v, none⟩ = some u0) ∧ w.frozen? ⟨b, v, none⟩ = false ∧ TabU (w.setCell ⟨b, v, none⟩ (.int .i64 x)) lo B m u (v + 1) b := by
  subst hx
  obtain ⟨vs, h1, h2, h3, h4, h5⟩ := h
  have hg : w.grownBy (w.setCell ⟨b, v, none⟩ (.int .i64 ((numE m u + (v - u) : Nat) : Int))) (some b) := grown_set (grown_refl w (some b)) v _
  obtain ⟨s1, s2, s3⟩ := ownI_store h5 (rowP_len m u v) (k := v) (by omega)
  have s4 := s3.out ((numE m u + (v - u) : Nat) : Int)
  rw [rowP_set hu _hv] at s4
  have hbl := (own_blocks h5 b rfl).2
  refine ⟨s1, s2, vs, own_grown h1 hg (fun g e1 e2 => by
    have e3 : B = g := Option.some.inj e1
    have e4 : b = g := Option.some.inj e2
    omega), h2, fun i hi hu' => ?_, h4, s4⟩
  obtain ⟨b', e1, e0, e2, e3⟩ := h3 i hi hu'
  refine ⟨b', e1, e0, e2, fun j hj hm => ?_⟩
  rw [World.cell?_of_block (w := w) (hg.block b' (by omega) (fun e => by have := Option.some.inj e; omega))]
  exact e3 j hj hm
theorem TabU.done (h : TabU w lo B m u (m + 1) b) : TabW w lo B m (u + 1) := by
  obtain ⟨vs, h1, h2, h3, h4, h5⟩ := h
  have hbl := (own_blocks h5 b rfl).2
  refine ⟨vs, h1, fun i hi hu => ?_⟩
  by_cases hiu : i = u
  · subst hiu
    refine ⟨b, h4, h2, hbl, fun j hj hm => ?_⟩
    have h6 := h5
    unfold OwnI at h6
    rw [rowP_len] at h6
    have := World.ownsRow.cellAt h6 j (by omega)
    rw [rowP_at hj hm] at this
    exact this
  · obtain ⟨b', e1, e0, e2, e3⟩ := h3 i hi (by omega)
    exact ⟨b', e1, e0, by omega, e3⟩
/-- What is read of the whole table. -/
def TabR (w : World) (B m : Nat) : Prop := ∀ i j, 1 ≤ i → i < j → j ≤ m → ∃ b, w.cell? ⟨B, i, none⟩ = some (.slice (some ⟨b, 0, none⟩) (m + 1) (m + 1)) ∧ w.cell? ⟨b, j, none⟩ = some (.int .i64 (pE m i j))
theorem TabW.read (h : TabW w lo B m (m + 1)) : TabR w B m := by
  obtain ⟨vs, h1, h2⟩ := h
  intro i j hi hij hj
  obtain ⟨b, e1, -, -, e3⟩ := h2 i hi (by omega)
  refine ⟨b, ?_, ?_⟩
  · have := World.ownsRow.cellAt h1 i (by omega)
    rw [this, e1]
  · rw [e3 j hij hj]
    unfold pE
    rw [if_pos hij]
theorem TabR.ext (h : TabR w B m) (hx : Ext w w') : TabR w' B m := fun i j h1 h2 h3 => by
  obtain ⟨b, e1, e2⟩ := h i j h1 h2 h3
  exact ⟨b, hx.cell e1, hx.cell e2⟩
end
section
variable {w0 w wa : World} {bx lo lo2 : Nat} {T : TypeId} {n : Int} {ov src : Value} {xss : List (List Int)} {zs : List Row}
/-- append of rows of the call's own to the family's lists, at a step of a region that draws its order. -/
theorem stepFE {K : Act → World → Prop} {E : Prop} {ops : Array Oper} {o : Oper} {a : Act} {Q : Exit → Act → World → Prop} (h : FamB w0 w bx T n lo ov xss) (hT : T ≠ 23) (hT2 : T ≠ 3) (ha : Ext w wa) (hz : RowsZ wa lo2 wa.heap.size zs) (hl : w.heap.size ≤ lo2) (hsrc : Rd wa 1 src zs.length (zs.map Prod.fst)) (hgd : o.guard = none) (s x : Operand)
    (ho : o.op = .call { callee := .builtin .append, args := #[s, x], argTypes := #[27, 27] })
    (hs : a.eval s = ov) (hx : a.eval x = src) (hn : xss.length + zs.length ≤ 2147483648)
    (k : ∀ L A c w1, Hid (L = xss.length + zs.length) → w1.heap[bx]? = some (.cells #[.int .i64 n, ov] T (0, 0)) → Hid (FamB w0 (w1.setCell ⟨bx, 1, none⟩ (.slice A L c)) bx T n lo (.slice A L c) (xss ++ zs.map Prod.snd)) → Ext w0 w1 → K (a.put o.dst (.slice A L c)) w1) :
    if Region.wanted o (yielded ops a.tmps) = true then Oper.wp Try.prog o a wa K Q else E := by
  obtain ⟨ys, hys, hO, hZ⟩ := h.own.rows
  have hlen : xss.length = ys.length := by rw [hys, List.length_map]
  refine stepZ wa (own_ext hO ha) hsrc hz.one' hgd s x ho hs hx (by omega) (Nat.le_trans h.low ha.size) fun v' w1 k1 k2 _ => ?_
  obtain ⟨A, c, rfl, -⟩ := OutZ.form k1
  have hB := h.blk1 hT ha k2
  have hR : RowsZ wa lo wa.heap.size (ys ++ zs) := (hZ.ext ha).cat hz (Nat.le_trans h.low hl) hl ha.size
  have hR1 : RowsZ w1 lo w1.heap.size (ys ++ zs) := (hR.grownO (own_ext hO ha) k2).hi_size
  have hF := h.put hT hT2 ha (hR1.ssz k1) k2
  rw [List.map_append, ← hys] at hF
  exact k _ A c w1 (hd (by rw [List.length_append, hlen])) hB (hd hF) (ext_appS (h.ext.trans ha) k2 h.own_low)
end
theorem edg_ij {m u v : Nat} (hu : u < m) (hv : v < m) (hne : u ≠ v) : ∃ i j : Nat, 1 ≤ i ∧ i < j ∧ j ≤ m ∧ min ((u : Int) + 1) ((v : Int) + 1) = (i : Int) ∧ max ((u : Int) + 1) ((v : Int) + 1) = (j : Int) ∧ pE m i j = pE m (u + 1) (v + 1) := by
  rcases Nat.lt_or_gt_of_ne hne with h | h
  · exact ⟨u + 1, v + 1, by omega, by omega, by omega, by omega, by omega, rfl⟩
  · refine ⟨v + 1, u + 1, by omega, by omega, by omega, by omega, by omega, ?_⟩
    unfold pE
    rw [if_pos (by omega), if_neg (by omega)]
end Go.Proofs.Ytgkifandgacncaa
