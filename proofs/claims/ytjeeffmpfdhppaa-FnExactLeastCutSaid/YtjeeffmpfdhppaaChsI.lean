/-
  The program's choices: all lists of so many of the numbers from 1 on. Condition: at most 1000 numbers, not more lists than the limit.
-/
import Derived.Test.YtjeeffmpfdhppaaChs
import Derived.Test.YtjeeffmpfdhppaaHoX
namespace Go.Proofs.Ytjeeffmpfdhppaa
open Go.RowKit
theorem Boxed0.set {w : World} {b : Nat} {x : Value} {T : TypeId} {fr : Nat × Nat} (u : Value) (h : w.heap[b]? = some (.cells #[x] T fr)) : (w.setCell ⟨b, 0, none⟩ u).heap[b]? = some (.cells #[u] T fr) := by
  obtain ⟨hlt, hk⟩ := Array.getElem?_eq_some_iff.1 h
  show (w.heap.modify b _)[b]? = _
  rw [Array.getElem?_eq_getElem (by rw [Array.size_modify]; exact hlt), Array.getElem_modify_self, hk]
  rfl
/-- The box of the lists, the lists' rows, and the row that is being made, none of whose cells another holds. -/
structure ChS (w0 w : World) (bo lo : Nat) (fv ov : Value) (vs : List Value) (xss : List (List Int)) (rv : Value) (xs : List Int) : Prop where
  blk : w.heap[bo]? = some (.cells #[ov] 22 (0, 0))
  fbx : w.heap[bo + 1]? = some (.cells #[fv] 139 (0, 0))
  own : Own w lo 45 1 ov vs.length vs
  inn : Inner w lo w.heap.size 3 vs xss
  row : OwnI w lo 3 rv xs
  apart : ∀ u ∈ vs, ∀ g, u.ownBlock = some g → rv.ownBlock = some g → False
  ext : Ext w0 w
  bo0 : w0.heap.size ≤ bo
  lo0 : bo + 1 < lo
  low : lo ≤ w.heap.size
/-- What a call leaves of what was there. -/
structure ChF (w w' : World) (bo : Nat) (ov ov' rv : Value) (ws : List Value) : Prop where
  size : w.heap.size ≤ w'.heap.size
  keep : ∀ k, k < w.heap.size → k ≠ bo → some k ≠ ov.ownBlock → some k ≠ rv.ownBlock → w'.heap[k]? = w.heap[k]?
  new : ∀ u ∈ ws, ∀ g, u.ownBlock = some g → w.heap.size ≤ g
  out : ov'.ownBlock = ov.ownBlock ∨ ∀ g, ov'.ownBlock = some g → w.heap.size ≤ g
theorem ChF.refl (w : World) (bo : Nat) (ov rv : Value) : ChF w w bo ov ov rv [] := ⟨Nat.le_refl _, fun _ _ _ _ _ => rfl, (fun _ h => by cases h), .inl rfl⟩
theorem ChF.trans {w w1 w2 : World} {bo : Nat} {ov ov1 ov2 rv : Value} {ws ws1 : List Value} (h : ChF w w1 bo ov ov1 rv ws) (k : ChF w1 w2 bo ov1 ov2 rv ws1) : ChF w w2 bo ov ov2 rv (ws ++ ws1) := by
  refine ⟨Nat.le_trans h.size k.size, fun j hj h1 h2 h3 => ?_, fun u hu g hg => ?_, ?_⟩
  · refine (k.keep j (Nat.lt_of_lt_of_le hj h.size) h1 (fun e => ?_) h3).trans (h.keep j hj h1 h2 h3)
    rcases h.out with ho | ho
    · exact h2 (e.trans ho)
    · have := ho j e.symm; omega
  · rcases List.mem_append.1 hu with hu | hu
    · exact h.new u hu g hg
    · exact Nat.le_trans h.size (k.new u hu g hg)
  · rcases k.out with ho | ho
    · rcases h.out with h1 | h1
      · exact .inl (ho.trans h1)
      · exact .inr fun g hg => h1 g (by rw [← ho]; exact hg)
    · exact .inr fun g hg => Nat.le_trans h.size (ho g hg)
section
variable {w0 w wa w1 w2 : World} {bo lo : Nat} {fv ov ov' rv rv' : Value} {vs ws : List Value} {xss yss : List (List Int)} {xs : List Int} {x : Int}
theorem ChS.rng (h : ChS w0 w bo lo fv ov vs xss rv xs) : ∀ u ∈ vs, ∀ g, u.ownBlock = some g → g < w.heap.size := fun u hu g hg => by
  obtain ⟨i, hi, rfl⟩ := List.mem_iff_getElem.1 hu
  have hi' : i < xss.length := by rw [← h.inn.1]; exact hi
  exact (h.inn.2.1 i vs[i] xss[i] (List.getElem?_eq_getElem hi) (List.getElem?_eq_getElem hi')).2 g hg
/-- With the row appended to. -/
theorem ChS.fork (h : ChS w0 w bo lo fv ov vs xss rv xs) (ha : Ext w wa) (ho : OwnI w1 lo 3 rv' (xs ++ [x])) (hg : wa.grownBy w1 rv.ownBlock) (hv : rv'.ownBlock = rv.ownBlock ∨ ∀ g, rv'.ownBlock = some g → wa.heap.size ≤ g)
    (hk : ∀ k, k < wa.heap.size → some k ≠ rv'.ownBlock → w1.heap[k]? = wa.heap[k]?) : ChS w0 w1 bo lo fv ov vs xss rv' (xs ++ [x]) := by
  have hsz := ha.size
  have hrow := own_ext h.row ha
  have hne : ∀ {k : Nat} {cs : Array Value} {T : TypeId} {fr : Nat × Nat}, wa.heap[k]? = some (.cells cs T fr) → T ≠ 3 → some k ≠ rv'.ownBlock := fun hb hT e => by
    rcases hv with h1 | h1
    · exact own_box hrow hb hT _ (by rw [← h1]; exact e.symm) rfl
    · have := h1 _ e.symm; have := blk_lt hb; omega
  have hb := ha.heap h.blk
  have hf := ha.heap h.fbx
  have hap : ∀ u ∈ vs, ∀ g, u.ownBlock = some g → rv'.ownBlock = some g → False := fun u hu g a b => by
    rcases hv with h1 | h1
    · exact h.apart u hu g a (by rw [← h1]; exact b)
    · have := h1 g b; have := h.rng u hu g a; omega
  have hg' : wa.grownBy w1 rv'.ownBlock := ⟨hg.os, hg.tape, hg.output, hg.size, fun k a b => hk k a b⟩
  refine ⟨(hk _ (blk_lt hb) (hne hb (by decide))).trans hb, (hk _ (blk_lt hf) (hne hf (by decide))).trans hf, ?_, ?_, ho, hap, ext_appS (h.ext.trans ha) hg fun g a => Nat.le_trans (Nat.le_trans h.bo0 (by have := h.lo0; omega)) (own_blocks h.row g a).1, h.bo0, h.lo0, Nat.le_trans h.low (Nat.le_trans hsz hg.size)⟩
  · exact own_grown (own_ext h.own ha) hg fun g a b => own_ne h.own h.row (by decide) a b
  · have hi := h.inn
    refine ⟨hi.1, fun i u ys hu hy => ?_, hi.2.2⟩
    have hO := hi.2.1 i u ys hu hy
    refine ⟨own_grown (own_ext hO.1 ha) hg' fun g a b => hap u (List.mem_of_getElem? hu) g a b, fun g a => ?_⟩
    have := hO.2 g a; have := hg.size; omega
/-- Behind the call: the row as it was. -/
theorem ChS.back (h : ChS w0 w bo lo fv ov vs xss rv xs) (ha : Ext w wa) (hg : wa.grownBy w1 rv.ownBlock) (hv : rv'.ownBlock = rv.ownBlock ∨ ∀ g, rv'.ownBlock = some g → wa.heap.size ≤ g)
    (hk : ∀ k, k < wa.heap.size → some k ≠ rv'.ownBlock → w1.heap[k]? = wa.heap[k]?)
    (hb : ∀ w2, OwnI w2 lo 3 rv' (xs ++ [x]) → (∀ g, rv.ownBlock = some g → rv'.ownBlock ≠ some g → w2.heap[g]? = w1.heap[g]?) → OwnI w2 lo 3 rv xs)
    (h2 : ChS w0 w2 bo lo fv ov' (vs ++ ws) yss rv' (xs ++ [x])) (hf : ChF w1 w2 bo ov ov' rv' ws) : ChS w0 w2 bo lo fv ov' (vs ++ ws) yss rv xs ∧ ChF w w2 bo ov ov' rv ws := by
  have hsz := ha.size
  have hrb : ∀ g, rv.ownBlock = some g → lo ≤ g ∧ g < w.heap.size := own_blocks h.row
  refine ⟨⟨h2.blk, h2.fbx, h2.own, h2.inn, hb w2 h2.row fun g a b => ?_, fun u hu g a b => ?_, h2.ext, h2.bo0, h2.lo0, h2.low⟩, ⟨Nat.le_trans hsz (Nat.le_trans hg.size hf.size), fun k k1 k2 k3 k4 => ?_, fun u hu g a => ?_, ?_⟩⟩
  · have := hrb g a
    have := h.lo0
    refine hf.keep g (by have := hg.size; omega) (by omega) (fun e => own_ne h.own h.row (by decide) e.symm a) (fun e => b e.symm)
  · rcases List.mem_append.1 hu with hu | hu
    · exact h.apart u hu g a b
    · have := hf.new u hu g a; have := hrb g b; have := hg.size; omega
  · have hne : some k ≠ rv'.ownBlock := fun e => by
      rcases hv with h1 | h1
      · exact k4 (e.trans h1)
      · have := h1 k e.symm; omega
    exact ((hf.keep k (by have := hg.size; omega) k2 k3 hne).trans (hk k (by omega) hne)).trans (ha.block k k1)
  · have := hf.new u hu g a; have := hg.size; omega
  · rcases hf.out with ho | ho
    · exact .inl ho
    · exact .inr fun g a => by have := ho g a; have := hg.size; omega
/-- A list put in. -/
theorem ChS.push {u : Value} {ys : List Int} (h : ChS w0 w bo lo fv ov vs xss rv xs) (hx : Ext w wa) (hu : OwnI wa w.heap.size 3 u ys) (ho : Own w1 lo 45 1 ov' (vs.length + 1) (vs ++ [u])) {wb : World} (hb : Ext wa wb) (hg : wb.grownBy w1 ov.ownBlock) (hvv : ov'.ownBlock = ov.ownBlock ∨ ov'.ownBlock = some wb.heap.size) :
    w1.heap[bo]? = some (.cells #[ov] 22 (0, 0)) ∧ ChS w0 (w1.setCell ⟨bo, 0, none⟩ ov') bo lo fv ov' (vs ++ [u]) (xss ++ [ys]) rv xs ∧ ChF w (w1.setCell ⟨bo, 0, none⟩ ov') bo ov ov' rv [u] := by
  have hab := hx.trans hb
  have hB := hab.heap h.blk
  have hF := hab.heap h.fbx
  have hO := own_ext h.own hab
  have hb1 : w1.heap[bo]? = some (.cells #[ov] 22 (0, 0)) := (hg.block bo (blk_lt hB) (fun e => own_box hO hB (by decide) bo e.symm rfl)).trans hB
  have hf1 : w1.heap[bo + 1]? = some (.cells #[fv] 139 (0, 0)) := (hg.block _ (blk_lt hF) (fun e => own_box hO hF (by decide) _ e.symm rfl)).trans hF
  have hgs : w1.grownBy (w1.setCell ⟨bo, 0, none⟩ ov') (some bo) := grown_set (grown_refl w1 (some bo)) 0 ov'
  have hx1 : Ext w0 w1 := ext_appS (h.ext.trans hab) hg fun g a => Nat.le_trans (Nat.le_trans h.bo0 (by have := h.lo0; omega)) (own_blocks h.own g a).1
  have hI1 : Inner w1 lo w1.heap.size 3 (vs ++ [u]) (xss ++ [ys]) := by
    have h1 := (h.inn.ext hx).snoc (lo' := w.heap.size) (hi' := wa.heap.size) hu (fun g a => (own_blocks hu g a).2) h.low (Nat.le_refl _) hx.size
    exact ((h1.ext hb).grown hg fun y zs g hy a b => own_ne hO hy (by decide) b a).hi_le (Nat.le_trans hb.size hg.size)
  have hr1 : OwnI w1 lo 3 rv xs := own_grown (own_ext h.row hab) hg fun g a b => own_ne h.row h.own (by decide) a b
  have hsz := hab.size
  refine ⟨hb1, ⟨Boxed0.set ov' hb1, (Below.heap_setCell _ _ _ _ (by show bo + 1 ≠ bo; omega)).trans hf1, ?_, (hI1.grown hgs fun y zs g hy a b => own_box hy hb1 (by decide) g a b).hi_le hgs.size, own_grown hr1 hgs (own_box hr1 hb1 (by decide)), fun y hy g a b => ?_, ext_appS (v := .slice (some ⟨bo, 0, none⟩) 0 0) hx1 hgs (fun g e => by obtain rfl : bo = g := Option.some.inj e; exact h.bo0), h.bo0, h.lo0, Nat.le_trans h.low (Nat.le_trans hsz (Nat.le_trans hg.size hgs.size))⟩, ⟨Nat.le_trans hsz (Nat.le_trans hg.size hgs.size), fun k k1 k2 k3 _ => ?_, fun y hy g a => ?_, ?_⟩⟩
  · rw [List.length_append]
    exact own_grown ho hgs (own_box ho hb1 (by decide))
  · rcases List.mem_append.1 hy with hy | hy
    · exact h.apart y hy g a b
    · rw [List.mem_singleton] at hy
      subst hy
      have := (own_blocks hu g a).1; have := (own_blocks h.row g b).2; omega
  · exact ((Below.heap_setCell _ _ _ k (by show k ≠ bo; exact k2)).trans (hg.block k (by omega) k3)).trans (hab.block k k1)
  · rw [List.mem_singleton] at hy
    subst hy
    exact (own_blocks hu g a).1
  · rcases hvv with e | e
    · exact .inl e
    · exact .inr fun g a => by rw [e] at a; cases a; exact hsz
end
end Go.Proofs.Ytjeeffmpfdhppaa
