/-
  Discharge, the reference: the steps without a given formula, in a box, a growing list and where each old step stands. Conditions: texts and lists up to 2^20.
-/
import Derived.Test.YtapgpjhogdmjbaaDoorFrgP
import Derived.Test.YtapgpjhogdmjbaaDoorIdnI
import Derived.Test.YtapgpjhogdmjbaaDoorSink
namespace Go.Proofs.YtapgpjhogdmjbaaDoor
open Go.RowKit Go.Sort
theorem prf_step {gs : List (List UInt8)} {rs : List Rec} (h : prfS gs rs = true) {k : Nat} (hk : k < rs.length) :
    ∃ y, rs[k].name = strF y ∧ goodF rs[k].name = some y ∧ WfF y = true ∧ (txt y).length ≤ 80 ∧ (rs[k].sys = -1 → ∃ j1 j2 : Nat, j1 < k ∧ j2 < k ∧ rs[k].size = (j1 : Int) ∧ rs[k].extra = (j2 : Int)) := by
  unfold prfS at h
  simp only [Bool.and_eq_true, decide_eq_true_eq] at h
  have hc := wrg_iff.1 h.2.2 k hk
  obtain ⟨y, hg, hl, hw, hs⟩ := isF_fm (cor_name hc)
  refine ⟨y, strF_of hl, hg, hw, hs, fun hr => ?_⟩
  unfold corS at hc
  rw [hr, if_neg (by decide), if_neg (by decide), if_pos rfl, Bool.and_eq_true] at hc
  have hm := hc.2
  unfold modS at hm
  simp only [Bool.and_eq_true] at hm
  obtain ⟨j1, _, b1, c1, _⟩ := recAt_get hm.1 (Nat.le_of_lt hk)
  obtain ⟨j2, _, b2, c2, _⟩ := recAt_get hm.2.1 (Nat.le_of_lt hk)
  exact ⟨j1, j2, b1, b2, c1, c2⟩
theorem prf_given {gs : List (List UInt8)} {rs : List Rec} (h : prfS gs rs = true) {j : Nat} (hj : j < gs.length) :
    ∃ A, gs[j] = txt A ∧ goodF ⟨gs[j].toArray⟩ = some A ∧ WfF A = true ∧ (txt A).length ≤ 80 := by
  unfold prfS askFr at h
  simp only [Bool.and_eq_true, List.all_eq_true] at h
  obtain ⟨y, hg, hl, hw, hs⟩ := isF_fm (h.1.2.2 _ (List.getElem_mem hj))
  exact ⟨y, by simpa using hl, hg, hw, hs⟩
theorem prf_len {gs : List (List UInt8)} {rs : List Rec} (h : prfS gs rs = true) : gs.length ≤ 6 ∧ rs.length ≤ 80 := by
  unfold prfS askFr at h
  simp only [Bool.and_eq_true, decide_eq_true_eq] at h
  exact ⟨h.1.1, h.1.2.1⟩
theorem treeOf_eq {s : ByteArray} {y : Fm} (h : goodF s = some y) : treeOf s = y := by unfold treeOf; rw [h]; rfl
/-- A step's box, the growing list and the list of places beside it. -/
structure DisS (w0 w : World) (bx : Nat) (r : Rec) (v : Value) (rs : List Rec) (u : Value) (xs : List Int) : Prop where
  ext : Ext w0 w
  own : OwnF w w0.heap.size v rs
  ints : OwnI w w0.heap.size 3 u xs
  box : w.heap[bx]? = some (.cells #[.string r.name, .int .i64 r.sys, .int .i64 r.size, .int .i64 r.extra] 42)
  ne : ∀ g, v.ownBlock = some g → g ≠ bx
theorem own_old {w : World} {base : Nat} {e : TypeId} {s n : Nat} {v : Value} {cs : List Value} (h : Own w base e s v n cs) : ∀ g, v.ownBlock = some g → g < w.heap.size := own_lt h
theorem DisS.start {w0 w : World} {r : Rec} {v : Value} {rs : List Rec} {u : Value} {xs : List Int} (hx : Ext w0 w) (ho : OwnF w w0.heap.size v rs) (hu : OwnI w w0.heap.size 3 u xs) :
    DisS w0 (w.alloc (.cells #[.string r.name, .int .i64 r.sys, .int .i64 r.size, .int .i64 r.extra] 42)) w.heap.size r v rs u xs :=
  ⟨hx.alloc _, own_ext ho (Ext.new _ _), own_ext hu (Ext.new _ _), heap_alloc_new w _, fun g hg e => by have := own_old ho g hg; omega⟩
theorem DisS.on {w0 w w' : World} {bx : Nat} {r : Rec} {v : Value} {rs : List Rec} {u : Value} {xs : List Int} (h : DisS w0 w bx r v rs u xs) (hx : Ext w w') : DisS w0 w' bx r v rs u xs :=
  ⟨h.ext.trans hx, own_ext h.own hx, own_ext h.ints hx, hx.heap h.box, h.ne⟩
theorem DisS.lt {w0 w : World} {bx : Nat} {r : Rec} {v : Value} {rs : List Rec} {u : Value} {xs : List Int} (h : DisS w0 w bx r v rs u xs) : bx < w.heap.size := (Array.getElem?_eq_some_iff.1 h.box).1
theorem DisS.app {w0 w w' : World} {bx : Nat} {r : Rec} {v v' : Value} {rs rs' : List Rec} {u : Value} {xs : List Int} (h : DisS w0 w bx r v rs u xs) (ho : OwnF w' w0.heap.size v' rs') (hg : w.grownBy w' v.ownBlock) (hn : v'.ownBlock = v.ownBlock ∨ v'.ownBlock = some w.heap.size) : DisS w0 w' bx r v' rs' u xs := by
  refine ⟨ext_appS h.ext hg (fun g e => (own_blocks h.own g e).1), ho, own_grown h.ints hg (fun _ e1 e2 => own_ne h.ints h.own (by decide) e1 e2), ?_, fun g hg' e => ?_⟩
  · rw [hg.block bx h.lt (fun e => h.ne bx e.symm rfl)]; exact h.box
  · rcases hn with hn | hn
    · exact h.ne g (by rw [← hn]; exact hg') e
    · rw [hn] at hg'
      injection hg' with hg'
      have := h.lt
      omega
/-- The box's cells. -/
theorem DisS.cells {w0 w : World} {bx : Nat} {r : Rec} {v : Value} {rs : List Rec} {u : Value} {xs : List Int} (h : DisS w0 w bx r v rs u xs) :
    w.cell? ⟨bx, 0, none⟩ = some (.string r.name) ∧ w.cell? ⟨bx, 1, none⟩ = some (.int .i64 r.sys) ∧ w.cell? ⟨bx, 2, none⟩ = some (.int .i64 r.size) ∧ w.cell? ⟨bx, 3, none⟩ = some (.int .i64 r.extra) := blk4F h.box
theorem put_bothF {w0 w w' : World} {lo : Nat} {v u : Value} {rs : List Rec} {xs : List Int} {o : Obj} (hlo : lo = w0.heap.size) (hx : Ext w0 w) (hf : OwnF w lo v rs) (hi : OwnI w lo 3 u xs) (hg : (w.alloc o).grownBy w' u.ownBlock) : Ext w0 w' ∧ OwnF w' lo v rs :=
  ⟨ext_app hx hg (fun g e => by have := (own_blocks hi g e).1; omega), own_grown (own_ext hf (Ext.new w o)) hg (fun _ e1 e2 => own_ne hf hi (by decide) e1 e2)⟩
section
variable {ops : Array Oper} {rest : List Oper} {o : Oper} {a : Act} {Q : Exit → Act → World → Prop}
theorem appD (w : World) {nb bx n c : Nat} {A : Option Addr} {w0 : World} {r : Rec} {rs : List Rec} {u : Value} {xs : List Int} (s0 : ByteArray) (x y z : Int) (hD : DisS w0 w bx r (.slice A n c) rs u xs) (hgd : o.guard = none) (s xx : Operand)
    (ho : o.op = .call { callee := .builtin .append, args := #[s, xx], argTypes := #[26, 26] })
    (hs : a.eval s = .slice A n c) (hx : a.eval xx = .slice (some ⟨nb, 0, none⟩) 1 1) (hnb : w.heap.size = nb) (hn : n + 1 ≤ 536870912) (hl : rs.length = n)
    (h : ∀ A2 c2 w', DisS w0 w' bx r (.slice A2 (n + 1) c2) (rs ++ [⟨s0, x, y, z⟩]) u xs → wpList Tryd.prog ops Q rest (a.put o.dst (.slice A2 (n + 1) c2)) w') :
    wpList Tryd.prog ops Q (o :: rest) a (w.alloc (.cells #[.string s0, .int .i64 x, .int .i64 y, .int .i64 z] 42)) := by
  subst hnb
  have hD2 := hD.on (Ext.new w (.cells #[.string s0, .int .i64 x, .int .i64 y, .int .i64 z] 42))
  refine wpList_plain hgd fun K hK => wp_app _ s xx 26 ho w0.heap.size 42 Tryd.underlying26 info_fstep (by decide) rfl (by decide) hD2.own (rd_blk (s := 4) (us := recCells [⟨s0, x, y, z⟩]) (blk_new _ rfl) rfl rfl (by unfold maxLen; omega)) (recCells_oneF _) hs hx (by rw [hl]; omega) hD2.ext.size fun v' w' h1 h2 h3 => ?_
  have h1' : OwnF w' w0.heap.size v' (rs ++ [⟨s0, x, y, z⟩]) := by unfold OwnF; rw [recCells_appendF, List.length_append]; exact h1
  obtain ⟨A2, c2, rfl⟩ := OwnF.form2 h1' (n := n + 1) (by rw [List.length_append, hl]; rfl)
  exact hK _ _ (h A2 c2 w' (hD2.app h1' h2 h3))
theorem stepD {K : Act → World → Prop} {E : Prop} (w : World) {src : Value} {bx n c : Nat} {A : Option Addr} {w0 : World} {r : Rec} {rs : List Rec} {u : Value} {xs : List Int} (r2 : Rec) (hD : DisS w0 w bx r (.slice A n c) rs u xs) (hsrc : Rd w 4 src 1 (recCells [r2])) (hgd : o.guard = none) (s x : Operand)
    (ho : o.op = .call { callee := .builtin .append, args := #[s, x], argTypes := #[26, 26] })
    (hs : a.eval s = .slice A n c) (hx : a.eval x = src) (hn : n + 1 ≤ 536870912) (hl : rs.length = n)
    (h : ∀ A2 c2 w', DisS w0 w' bx r (.slice A2 (n + 1) c2) (rs ++ [r2]) u xs → K (a.put o.dst (.slice A2 (n + 1) c2)) w') :
    if Region.wanted o (yielded ops a.tmps) = true then Oper.wp Tryd.prog o a w K Q else E := by
  have hw : Region.wanted o (yielded ops a.tmps) = true := by simp [Region.wanted, hgd]
  rw [if_pos hw]
  refine wp_app w s x 26 ho w0.heap.size 42 Tryd.underlying26 info_fstep (by decide) rfl (by decide) hD.own hsrc (recCells_oneF _) hs hx (by rw [hl]; omega) hD.ext.size fun v' w' h1 h2 h3 => ?_
  have h1' : OwnF w' w0.heap.size v' (rs ++ [r2]) := by unfold OwnF; rw [recCells_appendF, List.length_append]; exact h1
  obtain ⟨A2, c2, rfl⟩ := OwnF.form2 h1' (n := n + 1) (by rw [List.length_append, hl]; rfl)
  exact h A2 c2 w' (hD.app h1' h2 h3)
end
end Go.Proofs.YtapgpjhogdmjbaaDoor
