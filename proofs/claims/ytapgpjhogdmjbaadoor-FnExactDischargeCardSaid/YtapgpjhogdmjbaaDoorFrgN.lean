/-
  Discharge, the program's side: the box with the growing steps, the list of places and a step's own box beside it. Conditions: as IdentityProof's.
-/
import Derived.Test.YtapgpjhogdmjbaaDoorIdnK
import Derived.Test.YtapgpjhogdmjbaaDoorFrgL
import Derived.Test.YtapgpjhogdmjbaaDoorFmL
namespace Go.Proofs.YtapgpjhogdmjbaaDoor
open Go.RowKit Go.Sort
structure DisI (w0 w : World) (bx : Nat) (A : Fm) (p : Option Addr) (sv : Value) (rs : List Rec) (u : Value) (xs : List Int) : Prop where
  ext : Ext w0 w
  box : BxF w bx bx sv rs
  ints : OwnI w (bx + 1) 3 u xs
  tree : RdF 66 w A (.pointer p)
  lo : w0.heap.size ≤ bx
structure DisJ (w0 w : World) (bx : Nat) (A : Fm) (p : Option Addr) (sv : Value) (rs : List Rec) (u : Value) (xs : List Int) (bs : Nat) (r : Rec) : Prop extends DisI w0 w bx A p sv rs u xs where
  stp : w.heap[bs]? = some (.cells #[.string r.name, .int .i64 r.sys, .int .i64 r.size, .int .i64 r.extra] 42)
  ne : ∀ g, sv.ownBlock = some g → g ≠ bs
section
variable {w0 w w' : World} {bx bs : Nat} {A : Fm} {p : Option Addr} {sv sv' u u' : Value} {rs rs' : List Rec} {xs xs' : List Int} {r : Rec}
theorem DisI.on (h : DisI w0 w bx A p sv rs u xs) (hx : Ext w w') : DisI w0 w' bx A p sv rs u xs := ⟨h.ext.trans hx, h.box.ext hx, own_ext h.ints hx, h.tree.ext hx, h.lo⟩
theorem DisI.lt (h : DisI w0 w bx A p sv rs u xs) : bx < w.heap.size := (Array.getElem?_eq_some_iff.1 h.box.blk).1
theorem DisI.keep (h : DisI w0 w bx A p sv rs u xs) (hk : KeepB w w' bx bx) (hb : BxF w' bx bx sv' rs') : DisI w0 w' bx A p sv' rs' u xs :=
  ⟨hk.ex w0 h.ext h.lo h.lo, hb, hk.ints _ _ _ (Nat.lt_succ_self _) h.ints, h.tree.keep hk.nodes, h.lo⟩
theorem DisI.app {o : Obj} (h : DisI w0 w bx A p sv rs u xs) (hg : (w.alloc o).grownBy w' u.ownBlock) (ho : OwnI w' (bx + 1) 3 u' xs') : DisI w0 w' bx A p sv rs u' xs' := by
  have hx := Ext.new w o
  refine ⟨ext_app h.ext hg (fun g e => Nat.le_trans (Nat.le_trans h.lo (Nat.le_succ _)) (own_blocks h.ints g e).1), ⟨?_, own_grown (own_ext h.box.own hx) hg (fun _ e1 e2 => own_ne h.box.own h.ints (by decide) e1 e2)⟩, ho, ?_, h.lo⟩
  · rw [hg.block bx (Nat.lt_of_lt_of_le h.lt hx.size) (fun e => own_boxF h.ints h.box.blk (by decide) bx e.symm rfl)]
    exact hx.heap h.box.blk
  · refine h.tree.keep fun k cs hk => ?_
    rw [hg.block k (Nat.lt_of_lt_of_le (Array.getElem?_eq_some_iff.1 hk).1 hx.size) (fun e => own_boxF h.ints hk (by decide) k e.symm rfl)]
    exact hx.heap hk
theorem DisI.start (h : DisI w0 w bx A p sv rs u xs) (r : Rec) : DisJ w0 (w.alloc (.cells #[.string r.name, .int .i64 r.sys, .int .i64 r.size, .int .i64 r.extra] 42)) bx A p sv rs u xs w.heap.size r :=
  ⟨h.on (Ext.new _ _), heap_alloc_new w _, fun g hg e => by have := own_old h.box.own g hg; omega⟩
theorem DisJ.on (h : DisJ w0 w bx A p sv rs u xs bs r) (hx : Ext w w') : DisJ w0 w' bx A p sv rs u xs bs r := ⟨h.toDisI.on hx, hx.heap h.stp, h.ne⟩
theorem DisJ.keep (h : DisJ w0 w bx A p sv rs u xs bs r) (hk : KeepB w w' bx bx) (hb : BxF w' bx bx sv' rs') (hK : KeepK w w' bx sv sv') : DisJ w0 w' bx A p sv' rs' u xs bs r := by
  refine ⟨h.toDisI.keep hk hb, hK.1 bs _ h.stp (fun e => ?_) (fun g hg => h.ne g hg), fun g hg e => ?_⟩
  · have h1 := h.box.blk
    rw [← e, h.stp] at h1
    injection h1 with h1
    injection h1 with _ h2 _
    exact absurd h2 (by decide)
  · have hlt := (Array.getElem?_eq_some_iff.1 h.stp).1
    rcases hK.2 g hg with h1 | h1
    · exact h.ne g h1 e
    · omega
theorem DisJ.cells (h : DisJ w0 w bx A p sv rs u xs bs r) :
    w.cell? ⟨bs, 0, none⟩ = some (.string r.name) ∧ w.cell? ⟨bs, 1, none⟩ = some (.int .i64 r.sys) ∧ w.cell? ⟨bs, 2, none⟩ = some (.int .i64 r.size) ∧ w.cell? ⟨bs, 3, none⟩ = some (.int .i64 r.extra) := blk4F h.stp
theorem DisI.at_ {a : Addr} {n c : Nat} (h : DisI w0 w bx A p sv rs (.slice (some a) n c) xs) {j : Nat} (hj : j < xs.length) : w.cell? (a.add j) = some (.int .i64 xs[j]) := by
  obtain ⟨b, hb, hc⟩ := RdI.at_ (hd (OwnI.rd h.ints)) hj
  injection hb with hb
  rw [hb]
  exact hc
end
end Go.Proofs.YtapgpjhogdmjbaaDoor
