import Derived.Test.YtbdcomkbpapcaaaGreatAppL
import Derived.Test.YtbdcomkbpapcaaaGreatPair
/-
  The family of clauses: a box of a number and a slice of lists (no functions).
-/

namespace Go.Proofs.YtbdcomkbpapcaaaGreat
open Go.RowKit
/-- A box of a number and of the call's own slice of lists. -/
structure FamB (w0 w : World) (bx : Nat) (T : TypeId) (n : Int) (lo : Nat) (ov : Value) (xss : List (List Int)) : Prop where
  blk : w.heap[bx]? = some (.cells #[.int .i64 n, ov] T (0, 0))
  own : OwnSS w lo w.heap.size 37 3 ov xss
  ext : Ext w0 w
  bx0 : w0.heap.size ≤ bx
  lo0 : w0.heap.size ≤ lo
  low : lo ≤ w.heap.size
theorem FamB.on {w0 w w' : World} {bx : Nat} {T : TypeId} {n : Int} {lo : Nat} {ov : Value} {xss : List (List Int)} (h : FamB w0 w bx T n lo ov xss) (hx : Ext w w') : FamB w0 w' bx T n lo ov xss :=
  ⟨hx.heap h.blk, (h.own.ext hx).hi_le hx.size, h.ext.trans hx, h.bx0, h.lo0, Nat.le_trans h.low hx.size⟩
theorem FamB.blk1 {w0 w wa w1 : World} {bx : Nat} {T : TypeId} {n : Int} {lo : Nat} {ov : Value} {xss : List (List Int)} (h : FamB w0 w bx T n lo ov xss) (hT : T ≠ 37) (ha : Ext w wa) (hg : wa.grownBy w1 ov.ownBlock) : w1.heap[bx]? = some (.cells #[.int .i64 n, ov] T (0, 0)) := by
  have hne : ∀ g, ov.ownBlock = some g → some bx = some g → False := by
    obtain ⟨vs, a1, _, _⟩ := h.own
    exact own_box a1 h.blk hT
  exact (hg.block bx (blk_lt (ha.heap h.blk)) (fun e => hne bx e.symm rfl)).trans (ha.heap h.blk)
theorem FamB.own_low {w0 w : World} {bx : Nat} {T : TypeId} {n : Int} {lo : Nat} {ov : Value} {xss : List (List Int)} (h : FamB w0 w bx T n lo ov xss) : ∀ g, ov.ownBlock = some g → w0.heap.size ≤ g := fun g hgv => by
  obtain ⟨vs, a1, _, _⟩ := h.own
  have := (own_blocks a1 g hgv).1; have := h.lo0; omega
/-- The list put in, and the box written. -/
theorem FamB.put {w0 w wa w1 : World} {bx : Nat} {T : TypeId} {n : Int} {lo : Nat} {ov ov' : Value} {xss yss : List (List Int)} (h : FamB w0 w bx T n lo ov xss) (hT : T ≠ 37) (hT2 : T ≠ 3) (ha : Ext w wa) (ho : OwnSS w1 lo w1.heap.size 37 3 ov' yss) (hg : wa.grownBy w1 ov.ownBlock) : FamB w0 (w1.setCell ⟨bx, 1, none⟩ ov') bx T n lo ov' yss := by
  have hne : ∀ g, ov.ownBlock = some g → some bx = some g → False := by
    obtain ⟨vs, a1, _, _⟩ := h.own
    exact own_box a1 h.blk hT
  have hb1 : w1.heap[bx]? = some (.cells #[.int .i64 n, ov] T (0, 0)) := (hg.block bx (blk_lt (ha.heap h.blk)) (fun e => hne bx e.symm rfl)).trans (ha.heap h.blk)
  have hlow : ∀ g, ov.ownBlock = some g → w0.heap.size ≤ g := fun g hgv => by
    obtain ⟨vs, a1, _, _⟩ := h.own
    have := (own_blocks a1 g hgv).1; have := h.lo0; omega
  have hgs : w1.grownBy (w1.setCell ⟨bx, 1, none⟩ ov') (some bx) := grown_set (grown_refl w1 (some bx)) 1 ov'
  have hx1 : Ext w0 w1 := ext_appS (h.ext.trans ha) hg hlow
  refine ⟨blk2_set1 hb1, ?_, ext_appS (v := .slice (some ⟨bx, 0, none⟩) 0 0) hx1 hgs (fun g hg' => by obtain rfl : bx = g := Option.some.inj hg'; exact h.bx0), h.bx0, h.lo0, ?_⟩
  · have := ho.box hb1 hT hT2 hgs
    exact this.hi_le hgs.size
  · exact Nat.le_trans h.low (Nat.le_trans ha.size (Nat.le_trans hg.size hgs.size))
theorem rd_oneV (w : World) (u : Value) (e : TypeId) : Rd (w.alloc (.cells #[u] e)) 1 (.slice (some ⟨w.heap.size, 0, none⟩) 1 1) 1 [u] :=
  ⟨rfl, some ⟨w.heap.size, 0, none⟩, 1, rfl, Nat.le_refl _, by unfold maxLen; omega, fun j x hx => ⟨_, rfl, cell_one_new w _ e j x hx⟩⟩
end Go.Proofs.YtbdcomkbpapcaaaGreat
