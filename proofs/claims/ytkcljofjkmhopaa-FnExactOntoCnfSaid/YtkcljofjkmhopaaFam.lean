/-
  The family of clauses: a box of a number and a slice of lists; add. Conditions: numbers within 1000, at most 2^20 literals, 2^30 clauses.
-/
import Derived.Test.YtkcljofjkmhopaaAppL
import Derived.Test.YtkcljofjkmhopaaMust
import Derived.Test.YtkcljofjkmhopaaPair
namespace Go.Proofs.Ytkcljofjkmhopaa
open Go.RowKit
/-- A box of a number and of the call's own slice of lists. -/
structure FamB (w0 w : World) (bx : Nat) (T : TypeId) (n : Int) (lo : Nat) (ov : Value) (xss : List (List Int)) : Prop where
  blk : w.heap[bx]? = some (.cells #[.int .i64 n, ov] T (0, 0))
  own : OwnSS w lo w.heap.size 23 3 ov xss
  ext : Ext w0 w
  bx0 : w0.heap.size ≤ bx
  lo0 : w0.heap.size ≤ lo
  low : lo ≤ w.heap.size
theorem FamB.on {w0 w w' : World} {bx : Nat} {T : TypeId} {n : Int} {lo : Nat} {ov : Value} {xss : List (List Int)} (h : FamB w0 w bx T n lo ov xss) (hx : Ext w w') : FamB w0 w' bx T n lo ov xss :=
  ⟨hx.heap h.blk, (h.own.ext hx).hi_le hx.size, h.ext.trans hx, h.bx0, h.lo0, Nat.le_trans h.low hx.size⟩
theorem FamB.blk1 {w0 w wa w1 : World} {bx : Nat} {T : TypeId} {n : Int} {lo : Nat} {ov : Value} {xss : List (List Int)} (h : FamB w0 w bx T n lo ov xss) (hT : T ≠ 23) (ha : Ext w wa) (hg : wa.grownBy w1 ov.ownBlock) : w1.heap[bx]? = some (.cells #[.int .i64 n, ov] T (0, 0)) := by
  have hne : ∀ g, ov.ownBlock = some g → some bx = some g → False := by
    obtain ⟨vs, a1, _, _⟩ := h.own
    exact own_box a1 h.blk hT
  exact (hg.block bx (blk_lt (ha.heap h.blk)) (fun e => hne bx e.symm rfl)).trans (ha.heap h.blk)
theorem FamB.own_low {w0 w : World} {bx : Nat} {T : TypeId} {n : Int} {lo : Nat} {ov : Value} {xss : List (List Int)} (h : FamB w0 w bx T n lo ov xss) : ∀ g, ov.ownBlock = some g → w0.heap.size ≤ g := fun g hgv => by
  obtain ⟨vs, a1, _, _⟩ := h.own
  have := (own_blocks a1 g hgv).1; have := h.lo0; omega
/-- The list put in, and the box written. -/
theorem FamB.put {w0 w wa w1 : World} {bx : Nat} {T : TypeId} {n : Int} {lo : Nat} {ov ov' : Value} {xss yss : List (List Int)} (h : FamB w0 w bx T n lo ov xss) (hT : T ≠ 23) (hT2 : T ≠ 3) (ha : Ext w wa) (ho : OwnSS w1 lo w1.heap.size 23 3 ov' yss) (hg : wa.grownBy w1 ov.ownBlock) : FamB w0 (w1.setCell ⟨bx, 1, none⟩ ov') bx T n lo ov' yss := by
  have hne : ∀ g, ov.ownBlock = some g → some bx = some g → False := by
    obtain ⟨vs, a1, _, _⟩ := h.own
    exact own_box a1 h.blk hT
  have hb1 : w1.heap[bx]? = some (.cells #[.int .i64 n, ov] T (0, 0)) := (hg.block bx (blk_lt (ha.heap h.blk)) (fun e => hne bx e.symm rfl)).trans (ha.heap h.blk)
  have hlow : ∀ g, ov.ownBlock = some g → w0.heap.size ≤ g := fun g hgv => by
    obtain ⟨vs, a1, _, _⟩ := h.own
    have := (own_blocks a1 g hgv).1; have := h.lo0; omega
  have hgs : w1.grownBy (w1.setCell ⟨bx, 1, none⟩ ov') (some bx) := grown_set (grown_refl w1 (some bx)) 1 ov'
  have hx1 : Ext w0 w1 := ext_appS (h.ext.trans ha) hg hlow
  refine ⟨blk2_set1 hb1, ?_, ext_appS (v := .slice (some ⟨bx, 0, none⟩) 0 0) hx1 hgs (fun g hg' => by obtain rfl : bx = g := Option.some.inj hg'; exact h.bx0), h.bx0, h.lo0, ?_⟩
  · have := ho.box hb1 hT hT2 hgs
    exact this.hi_le hgs.size
  · exact Nat.le_trans h.low (Nat.le_trans ha.size (Nat.le_trans hg.size hgs.size))
theorem rd_oneV (w : World) (u : Value) (e : TypeId) : Rd (w.alloc (.cells #[u] e)) 1 (.slice (some ⟨w.heap.size, 0, none⟩) 1 1) 1 [u] :=
  ⟨rfl, some ⟨w.heap.size, 0, none⟩, 1, rfl, Nat.le_refl _, by unfold maxLen; omega, fun j x hx => ⟨_, rfl, cell_one_new w _ e j x hx⟩⟩
set_option maxRecDepth 100000 in
set_option maxHeartbeats 3200000 in
theorem i_add (w0 w : World) (bx : Nat) (n : Int) (lo : Nat) (ov : Value) (xss : List (List Int)) (xs ys : List Int) (v : Value) (hF : FamB w0 w bx 79 n lo ov xss) (h : RdI w v xs) (hl : xs.length ≤ 1048576) (hn : xss.length ≤ 1048576) (hp : Hid (ys.Perm xs)) (hs : Hid (ys.Pairwise fun a b => absI a < absI b)) (hb : Hid (∀ x ∈ ys, -1000 ≤ x ∧ x ≤ 1000)) :
    Calls Try.prog 95 #[.pointer (some ⟨bx, 0, none⟩), v] w (fun e w' => e = .returned (.tuple #[]) ∧ ∃ ov', FamB w0 w' bx 79 n lo ov' (xss ++ [ys])) := by
  have HF := hd hF
  have HR := hd h
  obtain ⟨c0, c1⟩ := blk2 hF.blk
  obtain ⟨f0, f1⟩ := blk2f hF.blk
  have hbl := blk_lt hF.blk
  have HMC : Hid (∀ w', Ext w w' → Calls Try.prog 80 #[v] w' (RetI w' 3 ys)) := hd fun w' hx => i_mustClause xs ys v w' (h.ext hx) hl hp hs hb
  clear hF h
  obtain ⟨wo, rfl⟩ : ∃ wo : World, wo = w := ⟨_, rfl⟩
  go_enter Try.func95, Try.ntmps95
  go_wp2_with fail
  have hx0 := HF.out.ext
  go_region_law (first
    | (go_simp; go_at_call 80; refine (HMC.out _ (by first | exact Ext.refl _ | exact (Ext.refl _).drew | exact ext_drewN _ _)).mono ?_; rintro e w1 ⟨u, rfl, hu, hx1⟩
       have X1 : Ext wo w1 := Ext.trans (by first | exact Ext.refl _ | exact (Ext.refl _).drew | exact ext_drewN _ _) hx1
       have X2 : Ext w0 w1 := hx0.trans X1
       have d0 := X1.cell c0
       have d1 := X1.cell c1
       have d2 := Nat.lt_of_lt_of_le hbl X1.size
       obtain ⟨A4, c4, rfl, -⟩ := hu.rd.form
       have hu' : OwnI w1 wo.heap.size 3 (.slice A4 ys.length c4) ys := own_rebase hu (by simp))
    | (refine stepL _ (v := ov) (src := .slice (some ⟨_, 0, none⟩) 1 1) (lo := lo) (hi := wo.heap.size) ((HF.out.own.ext X1).ext (Ext.new _ _)) (own_ext hu' (Ext.new _ _)) HF.out.low (Nat.le_trans X1.size (by simp)) (rd_oneV _ _ _) rfl (.tmp 8) (.tmp 11) rfl (by rfl) (by rfl) (by omega) ?_
       intro v' w2 ho2 hg2
       obtain ⟨A5, c5, rfl, h51, h52⟩ := OwnSS.form ho2
       rw [show (xss ++ [ys]).length = xss.length + 1 from by simp] at ho2
       have hB2 := HF.out.blk1 (by decide) (X1.alloc _) hg2
       obtain ⟨q0, q1⟩ := blk2 hB2
       obtain ⟨q2, q3⟩ := blk2f hB2
       have q4 := blk_lt hB2
       have HP := HF.out.put (by decide) (by decide) (X1.alloc _) ho2 hg2
       have X9 := HP.ext
       have X8 : Ext w0 w2 := ext_appS (hx0.trans (X1.alloc _)) hg2 HF.out.own_low))
  all_goals
    go_wp2
    go_end0
    exact ⟨rfl, _, HP⟩
end Go.Proofs.Ytkcljofjkmhopaa
