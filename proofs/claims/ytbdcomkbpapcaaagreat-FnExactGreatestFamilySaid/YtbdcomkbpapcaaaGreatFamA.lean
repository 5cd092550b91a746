import Derived.Test.YtbdcomkbpapcaaaGreatFamB
import Derived.Test.YtbdcomkbpapcaaaGreatLaw
/-
  The family of clauses with other rows of numbers beside it: none of them is touched by what is done to another. Conditions: lengths up to 2^30.
-/

namespace Go.Proofs.YtbdcomkbpapcaaaGreat
open Go.RowKit
theorem Inner.hi_le {w : World} {lo hi hi' : Nat} {e : TypeId} {vs : List Value} {xss : List (List Int)} (h : Inner w lo hi e vs xss) (hh : hi ≤ hi') : Inner w lo hi' e vs xss :=
  ⟨h.1, fun i u xs a b => ⟨(h.2.1 i u xs a b).1, fun g hg => Nat.lt_of_lt_of_le ((h.2.1 i u xs a b).2 g hg) hh⟩, h.2.2⟩
/-- One of the rows has been appended to. -/
theorem Inner.app {w w1 : World} {lo j : Nat} {e : TypeId} {vs : List Value} {xss : List (List Int)} {v v' : Value} {ys : List Int} {o : Obj} (h : Inner w lo w.heap.size e vs xss) (hj : vs[j]? = some v)
    (ho : OwnI w1 lo e v' ys) (hg : (w.alloc o).grownBy w1 v.ownBlock) (hvv : v'.ownBlock = v.ownBlock ∨ v'.ownBlock = some (w.heap.size + 1)) : Inner w1 lo w1.heap.size e (vs.set j v') (xss.set j ys) := by
  have hjl := (List.getElem?_eq_some_iff.1 hj).1
  have hsz : w.heap.size ≤ w1.heap.size := Nat.le_trans (by simp) hg.size
  have hlt : ∀ (i : Nat) (u : Value), vs[i]? = some u → ∀ g, u.ownBlock = some g → g < w.heap.size := fun i u hu g hgu => by
    have hi := (List.getElem?_eq_some_iff.1 hu).1
    exact (h.2.1 i u _ hu (List.getElem?_eq_getElem (by rw [← h.1]; exact hi))).2 g hgu
  refine ⟨by rw [List.length_set, List.length_set]; exact h.1, fun i u xs hu hx => ?_, fun i k u u' g hik hu hu' hgu hgu' => ?_⟩
  · by_cases e : i = j
    · subst e
      rw [List.getElem?_set_self hjl] at hu
      rw [List.getElem?_set_self (by rw [← h.1]; exact hjl)] at hx
      cases hu; cases hx
      exact ⟨ho, fun g hgv => (own_blocks ho g hgv).2⟩
    · rw [List.getElem?_set_ne (Ne.symm e)] at hu hx
      have hO := h.2.1 i u xs hu hx
      refine ⟨own_grown (own_ext hO.1 (Ext.new w o)) hg fun g a b => h.2.2 i j u v g e hu hj a b, fun g hgu => Nat.lt_of_lt_of_le (hO.2 g hgu) hsz⟩
  · have key : ∀ (k : Nat) (u : Value), k ≠ j → (vs.set j v')[k]? = some u → u.ownBlock = some g → v'.ownBlock = some g → False := fun k u hk hu hgu hgv => by
      rw [List.getElem?_set_ne (Ne.symm hk)] at hu
      rcases hvv with hv | hv
      · exact h.2.2 k j u v g hk hu hj hgu (by rw [← hv]; exact hgv)
      · have := hlt k u hu g hgu
        rw [hv] at hgv; cases hgv; omega
    by_cases e1 : i = j
    · subst e1
      rw [List.getElem?_set_self hjl] at hu
      cases hu
      exact key k u' (Ne.symm hik) hu' hgu' hgu
    · by_cases e2 : k = j
      · subst e2
        rw [List.getElem?_set_self hjl] at hu'
        cases hu'
        exact key i u hik hu hgu hgu'
      · rw [List.getElem?_set_ne (Ne.symm e1)] at hu
        rw [List.getElem?_set_ne (Ne.symm e2)] at hu'
        exact h.2.2 i k u u' g hik hu hu' hgu hgu'
/-- Behind an append to, or a write to, a block that is none of the rows'. -/
theorem Inner.grown {w w1 : World} {lo hi : Nat} {e : TypeId} {vs : List Value} {xss : List (List Int)} {row : Option Nat} (h : Inner w lo hi e vs xss) (hg : w.grownBy w1 row) (hne : ∀ (u : Value) (xs : List Int) (g : Nat), OwnI w lo e u xs → u.ownBlock = some g → row = some g → False) : Inner w1 lo hi e vs xss :=
  ⟨h.1, fun i u xs a b => ⟨own_grown (h.2.1 i u xs a b).1 hg fun g p q => hne u xs g (h.2.1 i u xs a b).1 p q, (h.2.1 i u xs a b).2⟩, h.2.2⟩
theorem Inner.at_ {w : World} {lo hi i : Nat} {e : TypeId} {vs : List Value} {xss : List (List Int)} {u : Value} {xs : List Int} (h : Inner w lo hi e vs xss) (hu : vs[i]? = some u) (hx : xss[i]? = some xs) : OwnI w lo e u xs := (h.2.1 i u xs hu hx).1
/-- The rows behind the first k. -/
theorem Inner.drop {w : World} {lo hi : Nat} {e : TypeId} {us vs : List Value} {yss xss : List (List Int)} (h : Inner w lo hi e (us ++ vs) (yss ++ xss)) (hl : us.length = yss.length) : Inner w lo hi e vs xss := by
  have h1 := h.1
  rw [List.length_append, List.length_append] at h1
  refine ⟨by omega, fun i u xs hu hx => h.2.1 (us.length + i) u xs ?_ ?_, fun i j u u' g hij hu hu' a b => h.2.2 (us.length + i) (us.length + j) u u' g (by omega) ?_ ?_ a b⟩
  · rw [List.getElem?_append_right (by omega), Nat.add_sub_cancel_left]; exact hu
  · rw [List.getElem?_append_right (by omega), hl, Nat.add_sub_cancel_left]; exact hx
  · rw [List.getElem?_append_right (by omega), Nat.add_sub_cancel_left]; exact hu
  · rw [List.getElem?_append_right (by omega), Nat.add_sub_cancel_left]; exact hu'
/-- A box of a number and of the call's own slice of lists; other rows ev beside them, and a row tv that is being made. -/
structure FamA (w0 w : World) (bx : Nat) (T : TypeId) (n : Int) (lo : Nat) (fv : Value) (ev vs tv : List Value) (es xss ts : List (List Int)) : Prop where
  blk : w.heap[bx]? = some (.cells #[.int .i64 n, fv] T (0, 0))
  own : Own w lo 37 1 fv vs.length vs
  inn : Inner w lo w.heap.size 3 (ev ++ (vs ++ tv)) (es ++ (xss ++ ts))
  len : ev.length = es.length ∧ vs.length = xss.length
  ext : Ext w0 w
  bx0 : w0.heap.size ≤ bx
  lo0 : w0.heap.size ≤ lo
  low : lo ≤ w.heap.size
section
variable {w0 w w1 : World} {bx lo : Nat} {T : TypeId} {n : Int} {fv : Value} {ev vs tv : List Value} {es xss ts : List (List Int)}
theorem FamA.on (h : FamA w0 w bx T n lo fv ev vs tv es xss ts) (hx : Ext w w1) : FamA w0 w1 bx T n lo fv ev vs tv es xss ts :=
  ⟨hx.heap h.blk, own_ext h.own hx, (h.inn.ext hx).hi_le hx.size, h.len, h.ext.trans hx, h.bx0, h.lo0, Nat.le_trans h.low hx.size⟩
theorem FamA.row (h : FamA w0 w bx T n lo fv ev vs tv es xss ts) {j : Nat} {v : Value} {xs : List Int} (hv : (ev ++ (vs ++ tv))[j]? = some v) (hx : (es ++ (xss ++ ts))[j]? = some xs) : OwnI w lo 3 v xs := h.inn.at_ hv hx
theorem FamA.fam (h : FamA w0 w bx T n lo fv ev vs [] es xss []) : FamB w0 w bx T n lo fv xss := by
  refine ⟨h.blk, ⟨vs, by rw [← h.len.2]; exact h.own, fun g hg => (own_blocks h.own g hg).2, ?_⟩, h.ext, h.bx0, h.lo0, h.low⟩
  have := h.inn
  rw [List.append_nil, List.append_nil] at this
  exact this.drop h.len.1
/-- A row appended to: what is left of all. -/
theorem FamA.app_ (h : FamA w0 w bx T n lo fv ev vs tv es xss ts) (hT : T ≠ 3) {j : Nat} {v v' : Value} {xs ys : List Int} {o : Obj} (hv : (ev ++ (vs ++ tv))[j]? = some v) (hx : (es ++ (xss ++ ts))[j]? = some xs)
    (ho : OwnI w1 lo 3 v' ys) (hg : (w.alloc o).grownBy w1 v.ownBlock) (hvv : v'.ownBlock = v.ownBlock ∨ v'.ownBlock = some (w.heap.size + 1)) :
    w1.heap[bx]? = some (.cells #[.int .i64 n, fv] T (0, 0)) ∧ Own w1 lo 37 1 fv vs.length vs ∧ Inner w1 lo w1.heap.size 3 ((ev ++ (vs ++ tv)).set j v') ((es ++ (xss ++ ts)).set j ys) ∧ Ext w0 w1 ∧ lo ≤ w1.heap.size := by
  have hO := h.row hv hx
  have hne : some bx ≠ v.ownBlock := fun e => own_box hO h.blk hT bx e.symm rfl
  have hsz : w.heap.size ≤ w1.heap.size := Nat.le_trans (by simp) hg.size
  refine ⟨(hg.block bx (blk_lt (blk_old (o' := o) h.blk)) hne).trans (blk_old h.blk), own_grown (own_ext h.own (Ext.new w o)) hg fun g a b => own_ne h.own hO (by decide) a b, h.inn.app hv ho hg hvv, ext_app h.ext hg fun g a => Nat.le_trans h.lo0 (own_blocks hO g a).1, Nat.le_trans h.low hsz⟩
/-- A row beside the family appended to. -/
theorem FamA.appE (h : FamA w0 w bx T n lo fv ev vs tv es xss ts) (hT : T ≠ 3) {j : Nat} {v v' : Value} {xs ys : List Int} {o : Obj} (hv : ev[j]? = some v) (hx : es[j]? = some xs)
    (ho : OwnI w1 lo 3 v' ys) (hg : (w.alloc o).grownBy w1 v.ownBlock) (hvv : v'.ownBlock = v.ownBlock ∨ v'.ownBlock = some (w.heap.size + 1)) :
    FamA w0 w1 bx T n lo fv (ev.set j v') vs tv (es.set j ys) xss ts := by
  have h1 := (List.getElem?_eq_some_iff.1 hv).1
  have h2 := (List.getElem?_eq_some_iff.1 hx).1
  obtain ⟨a1, a2, a3, a4, a5⟩ := h.app_ hT (by rw [List.getElem?_append_left h1]; exact hv) (by rw [List.getElem?_append_left h2]; exact hx) ho hg hvv
  rw [List.set_append_left _ _ h1, List.set_append_left _ _ h2] at a3
  exact ⟨a1, a2, a3, ⟨by rw [List.length_set, List.length_set]; exact h.len.1, h.len.2⟩, a4, h.bx0, h.lo0, a5⟩
/-- The row that is being made appended to. -/
theorem FamA.appT {v v' : Value} {xs ys : List Int} {o : Obj} (h : FamA w0 w bx T n lo fv ev vs [v] es xss [xs]) (hT : T ≠ 3)
    (ho : OwnI w1 lo 3 v' ys) (hg : (w.alloc o).grownBy w1 v.ownBlock) (hvv : v'.ownBlock = v.ownBlock ∨ v'.ownBlock = some (w.heap.size + 1)) :
    FamA w0 w1 bx T n lo fv ev vs [v'] es xss [ys] := by
  have hv : (ev ++ (vs ++ [v]))[ev.length + vs.length]? = some v := by
    rw [List.getElem?_append_right (by omega), Nat.add_sub_cancel_left]; simp
  have hx : (es ++ (xss ++ [xs]))[ev.length + vs.length]? = some xs := by
    rw [h.len.1, h.len.2, List.getElem?_append_right (by omega), Nat.add_sub_cancel_left]; simp
  obtain ⟨a1, a2, a3, a4, a5⟩ := h.app_ hT hv hx ho hg hvv
  have e1 : (ev ++ (vs ++ [v])).set (ev.length + vs.length) v' = ev ++ (vs ++ [v']) := by
    rw [List.set_append_right _ _ (by omega), Nat.add_sub_cancel_left, List.set_append_right _ _ (by omega), Nat.sub_self]; rfl
  have e2 : (es ++ (xss ++ [xs])).set (ev.length + vs.length) ys = es ++ (xss ++ [ys]) := by
    rw [h.len.1, h.len.2, List.set_append_right _ _ (by omega), Nat.add_sub_cancel_left, List.set_append_right _ _ (by omega), Nat.sub_self]; rfl
  rw [e1, e2] at a3
  exact ⟨a1, a2, a3, h.len, a4, h.bx0, h.lo0, a5⟩
theorem FamA.rowT {v : Value} {xs : List Int} (h : FamA w0 w bx T n lo fv ev vs [v] es xss [xs]) : OwnI w lo 3 v xs := by
  refine h.row (j := ev.length + vs.length) ?_ ?_
  · rw [List.getElem?_append_right (by omega), Nat.add_sub_cancel_left]; simp
  · rw [h.len.1, h.len.2, List.getElem?_append_right (by omega), Nat.add_sub_cancel_left]; simp
/-- A new row. -/
theorem FamA.newT {v : Value} {xs : List Int} (h : FamA w0 w bx T n lo fv ev vs [] es xss []) (hx : Ext w w1) (ho : OwnI w1 w.heap.size 3 v xs) : FamA w0 w1 bx T n lo fv ev vs [v] es xss [xs] := by
  have h1 := h.inn
  rw [List.append_nil, List.append_nil] at h1
  have h2 := (h1.ext hx).snoc (lo' := w.heap.size) (hi' := w1.heap.size) ho (fun g hg => (own_blocks ho g hg).2) h.low (Nat.le_refl _) hx.size
  rw [List.append_assoc, List.append_assoc] at h2
  exact ⟨hx.heap h.blk, own_ext h.own hx, h2, h.len, h.ext.trans hx, h.bx0, h.lo0, Nat.le_trans h.low hx.size⟩
/-- A new row beside the family, the first. -/
theorem FamA.fam0 (h : FamB w0 w bx T n lo fv []) (hs : fv = .slice none 0 0 ∨ Own w lo 37 1 fv 0 []) : FamA w0 w bx T n lo fv [] [] [] [] [] [] := by
  refine ⟨h.blk, ?_, Inner.nil _ _ _ _, ⟨rfl, rfl⟩, h.ext, h.bx0, h.lo0, h.low⟩
  rcases hs with rfl | hs
  · exact own_nil _ _ _ _
  · exact hs
theorem FamA.addE {v : Value} {xs : List Int} (h : FamA w0 w bx T n lo fv ev [] [] es [] []) (hx : Ext w w1) (ho : OwnI w1 w.heap.size 3 v xs) : FamA w0 w1 bx T n lo fv (ev ++ [v]) [] [] (es ++ [xs]) [] [] := by
  have h1 := h.inn
  rw [List.append_nil, List.append_nil, List.append_nil, List.append_nil] at h1
  have h2 := (h1.ext hx).snoc (lo' := w.heap.size) (hi' := w1.heap.size) ho (fun g hg => (own_blocks ho g hg).2) h.low (Nat.le_refl _) hx.size
  refine ⟨hx.heap h.blk, own_ext h.own hx, by simpa using h2, ⟨by simp [h.len.1], rfl⟩, h.ext.trans hx, h.bx0, h.lo0, Nat.le_trans h.low hx.size⟩
theorem FamA.blk1 (h : FamA w0 w bx T n lo fv ev vs tv es xss ts) (hT : T ≠ 37) {wa : World} (ha : Ext w wa) (hg : wa.grownBy w1 fv.ownBlock) : w1.heap[bx]? = some (.cells #[.int .i64 n, fv] T (0, 0)) :=
  (hg.block bx (blk_lt (ha.heap h.blk)) (fun e => own_box h.own h.blk hT bx e.symm rfl)).trans (ha.heap h.blk)
theorem FamA.own_low (h : FamA w0 w bx T n lo fv ev vs tv es xss ts) : ∀ g, fv.ownBlock = some g → w0.heap.size ≤ g := fun g hg => Nat.le_trans h.lo0 (own_blocks h.own g hg).1
/-- The row put into the family, and the box written. -/
theorem FamA.push {u fv' : Value} {ys : List Int} {wa : World} (h : FamA w0 w bx T n lo fv ev vs [u] es xss [ys]) (hT : T ≠ 37) (hT2 : T ≠ 3) (ha : Ext w wa) (ho : Own w1 lo 37 1 fv' (vs.length + 1) (vs ++ [u])) (hg : wa.grownBy w1 fv.ownBlock) :
    FamA w0 (w1.setCell ⟨bx, 1, none⟩ fv') bx T n lo fv' ev (vs ++ [u]) [] es (xss ++ [ys]) [] := by
  have hb1 := h.blk1 hT ha hg
  have hgs : w1.grownBy (w1.setCell ⟨bx, 1, none⟩ fv') (some bx) := grown_set (grown_refl w1 (some bx)) 1 fv'
  have hx1 : Ext w0 w1 := ext_appS (h.ext.trans ha) hg h.own_low
  have hI1 : Inner w1 lo w1.heap.size 3 (ev ++ (vs ++ [u])) (es ++ (xss ++ [ys])) := ((h.inn.ext ha).grown hg fun x xs g hx a b => own_ne (own_ext h.own ha) hx (by decide) b a).hi_le (Nat.le_trans ha.size hg.size)
  refine ⟨blk2_set1 hb1, ?_, ?_, ⟨h.len.1, by simp [h.len.2]⟩, ext_appS (v := .slice (some ⟨bx, 0, none⟩) 0 0) hx1 hgs (fun g hg' => by obtain rfl : bx = g := Option.some.inj hg'; exact h.bx0), h.bx0, h.lo0, Nat.le_trans h.low (Nat.le_trans ha.size (Nat.le_trans hg.size hgs.size))⟩
  · rw [List.length_append]
    exact own_grown ho hgs (own_box ho hb1 hT)
  · rw [List.append_nil, List.append_nil]
    exact (hI1.grown hgs fun x xs g hx a b => own_box hx hb1 hT2 g a b).hi_le hgs.size
/-- The number written. -/
theorem FamA.num (h : FamA w0 w bx T n lo fv ev vs tv es xss ts) (hT : T ≠ 37) (hT2 : T ≠ 3) (m : Int) : FamA w0 (w.setCell ⟨bx, 0, none⟩ (.int .i64 m)) bx T m lo fv ev vs tv es xss ts := by
  have hgs : w.grownBy (w.setCell ⟨bx, 0, none⟩ (.int .i64 m)) (some bx) := grown_set (grown_refl w (some bx)) 0 _
  refine ⟨blk2_set0 h.blk, own_grown h.own hgs (own_box h.own h.blk hT), (h.inn.grown hgs fun x xs g hx a b => own_box hx h.blk hT2 g a b).hi_le hgs.size, h.len, ext_appS (v := .slice (some ⟨bx, 0, none⟩) 0 0) h.ext hgs (fun g hg' => by obtain rfl : bx = g := Option.some.inj hg'; exact h.bx0), h.bx0, h.lo0, Nat.le_trans h.low hgs.size⟩
end
end Go.Proofs.YtbdcomkbpapcaaaGreat
