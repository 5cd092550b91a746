import Derived.Test.YtbdcomkbpapcaaaGreatGfU
import Derived.Test.YtbdcomkbpapcaaaGreatMg7
/-
  Greatest families, the reference's side: shrinking. Conditions: at most 60 clauses of literals within 12, at most six variables.
-/

namespace Go.Proofs.YtbdcomkbpapcaaaGreat
open Go.RowKit Seed
theorem rowR_box {w w' : World} {b : Nat} {cs : Array Value} {T : TypeId} {fr : Nat × Nat} {z : Row} (h : RowR w z) (hb : w.heap[b]? = some (.cells cs T fr)) (hT : T ≠ 3) (hg : w.grownBy w' (some b)) : RowR w' z := by
  obtain ⟨h1, a, c, e, cells, fr', hc⟩ := h
  have hlt : a.block < w.heap.size := (Array.getElem?_eq_some_iff.1 hc).1
  have hne : b ≠ a.block := fun e => by
    subst e
    rw [hb] at hc
    injection hc with hc
    injection hc with _ hc _
    exact hT hc
  obtain ⟨u, xs⟩ := z
  simp only at e h1
  subst e
  exact ⟨rdI_grown h1 hg hlt (fun e => hne (Option.some.inj e)), a, c, rfl, cells, fr', (hg.block a.block hlt (fun e => hne (Option.some.inj e).symm)).trans hc⟩
theorem rows_ss {w : World} {lo : Nat} {v : Value} {us : List Row} (h : OutZ w lo v us) (hu : ∀ z ∈ us, RowR w z) : RdSS w v (us.map Prod.snd) := by
  have hr := own_rd h
  refine ⟨us.map Prod.fst, by rw [List.length_map]; exact hr, fun i xs hx => ?_⟩
  rw [List.getElem?_map, Option.map_eq_some_iff] at hx
  obtain ⟨z, hz, rfl⟩ := hx
  exact ⟨z.1, by rw [List.getElem?_map, hz]; rfl, (hu z (List.mem_of_getElem? hz)).1⟩
/-! ### The state -/
structure Shw (w1 w : World) (lo bs g : Nat) (vA : Value) (cap : Nat) (rs : List Int) (vC : Value) (cn : List Int) (vL : Value) (us : List Row) : Prop where
  x : Ext w1 w
  b : w1.heap.size ≤ bs
  bx : w.heap[bs]? = some (.cells #[vA, .slice (some ⟨g, 0, none⟩) rs.length cap, vC, vL] 39 (0, 0))
  r : OwnI w w1.heap.size 3 (.slice (some ⟨g, 0, none⟩) rs.length cap) rs
  c : OwnI w w1.heap.size 3 vC cn
  rc : ∀ gc, vC.ownBlock = some gc → gc ≠ g
  l : OutZ w lo vL us
  u : ∀ z ∈ us, RowR w1 z
section
variable {w1 w w' : World} {lo bs g cap : Nat} {vA vC vL : Value} {rs cn : List Int} {us : List Row}
theorem Shw.cells (h : Shw w1 w lo bs g vA cap rs vC cn vL us) : w.cell? ⟨bs, 0, none⟩ = some vA ∧ w.cell? ⟨bs, 1, none⟩ = some (.slice (some ⟨g, 0, none⟩) rs.length cap) ∧ w.cell? ⟨bs, 2, none⟩ = some vC ∧ w.cell? ⟨bs, 3, none⟩ = some vL := by
  simp [World.cell?, h.bx]
theorem Shw.ext (h : Shw w1 w lo bs g vA cap rs vC cn vL us) (hx : Ext w w') : Shw w1 w' lo bs g vA cap rs vC cn vL us :=
  ⟨h.x.trans hx, h.b, hx.heap h.bx, own_ext h.r hx, own_ext h.c hx, h.rc, own_ext h.l hx, h.u⟩
theorem Shw.rd (h : Shw w1 w lo bs g vA cap rs vC cn vL us) : RdSS w vL (us.map Prod.snd) := by
  have hr := own_rd h.l
  refine ⟨us.map Prod.fst, by rw [List.length_map]; exact hr, fun i xs hx => ?_⟩
  rw [List.getElem?_map, Option.map_eq_some_iff] at hx
  obtain ⟨z, hz, rfl⟩ := hx
  exact ⟨z.1, by rw [List.getElem?_map, hz]; rfl, (h.u z (List.mem_of_getElem? hz)).1.ext h.x⟩
/-- A write to a slice of rows of later birth leaves the state. -/
theorem Shw.grown {v : Value} {ns : List Row} {l0 : Nat} (h : Shw w1 w lo bs g vA cap rs vC cn vL us) (ho : OutZ w l0 v ns) (hl : w1.heap.size ≤ l0) (hg : w.grownBy w' v.ownBlock) (hne : ∀ k, vL.ownBlock = some k → v.ownBlock = some k → False) : Shw w1 w' lo bs g vA cap rs vC cn vL us := by
  have hb : bs < w.heap.size := (Array.getElem?_eq_some_iff.1 h.bx).1
  refine ⟨ext_appS h.x hg (fun k hk => Nat.le_trans hl (ownZ_ge ho k hk)), h.b, (hg.block bs hb fun e => own_box ho h.bx (by decide) bs e.symm rfl).trans h.bx, own_grown h.r hg fun k a b => own_ne ho h.r (by decide) b a, own_grown h.c hg fun k a b => own_ne ho h.c (by decide) b a, h.rc, own_grown h.l hg hne, h.u⟩
/-- A round's number is written down. -/
theorem Shw.mark (h : Shw w1 w lo bs g vA cap rs vC cn vL us) {k : Nat} (hk : k < rs.length) (x : Int) : (∃ u0, w.cell? ⟨g, k, none⟩ = some u0) ∧ w.frozen? ⟨g, k, none⟩ = false ∧ Shw w1 (w.setCell ⟨g, k, none⟩ (.int .i64 x)) lo bs g vA cap (rs.set k x) vC cn vL us := by
  obtain ⟨h1, h2, h3⟩ := ownI_store h.r rfl hk
  have hg : w.grownBy (w.setCell ⟨g, k, none⟩ (.int .i64 x)) (some g) := grown_set (grown_refl _ _) _ _
  have hgl := ownI_ge h.r g rfl
  have hb : bs < w.heap.size := (Array.getElem?_eq_some_iff.1 h.bx).1
  refine ⟨h1, h2, h.x.grown hg h.x.size (fun k hk => by cases hk; exact hgl), h.b, ?_, ?_, own_grown h.c hg (fun k a b => h.rc k a (Option.some.inj b).symm), h.rc, own_grown h.l hg (fun k a b => own_ne h.l h.r (by decide) a b), h.u⟩
  · rw [List.length_set]
    exact (hg.block bs hb fun e => own_box h.r h.bx (by decide) bs e.symm rfl).trans h.bx
  · rw [List.length_set]
    exact h3.out x
theorem blk4_two {w : World} {b : Nat} {x y z t u : Value} {e : TypeId} (h : w.heap[b]? = some (.cells #[x, y, z, t] e (0, 0))) : (w.setCell ⟨b, 2, none⟩ u).heap[b]? = some (.cells #[x, y, u, t] e (0, 0)) := by
  simp [World.setCell, Array.getElem?_modify, h]
theorem blk4_three {w : World} {b : Nat} {x y z t u : Value} {e : TypeId} (h : w.heap[b]? = some (.cells #[x, y, z, t] e (0, 0))) : (w.setCell ⟨b, 3, none⟩ u).heap[b]? = some (.cells #[x, y, z, u] e (0, 0)) := by
  simp [World.setCell, Array.getElem?_modify, h]
/-- The round's count goes to the counts. -/
theorem Shw.push {wa w1' : World} {v' : Value} {cn' : List Int} (h : Shw w1 w lo bs g vA cap rs vC cn vL us) (ha : Ext w wa) (ho : OwnI w1' w1.heap.size 3 v' cn') (hg : wa.grownBy w1' vC.ownBlock) (hv : v'.ownBlock = vC.ownBlock ∨ v'.ownBlock = some wa.heap.size) :
    Shw w1 (w1'.setCell ⟨bs, 2, none⟩ v') lo bs g vA cap rs v' cn' vL us := by
  have h2 := h.ext ha
  have hb : bs < wa.heap.size := (Array.getElem?_eq_some_iff.1 h2.bx).1
  have hgg : g < wa.heap.size := (own_blocks h2.r g rfl).2
  have hbx := (hg.block bs hb fun e => own_box h2.c h2.bx (by decide) bs e.symm rfl).trans h2.bx
  have hs : w1'.grownBy (w1'.setCell ⟨bs, 2, none⟩ v') (some bs) := grown_set (grown_refl _ _) _ _
  have X2 : Ext w1 w1' := ext_appS h2.x hg (fun k hk => ownI_ge h2.c k hk)
  have r1 : OwnI w1' w1.heap.size 3 (.slice (some ⟨g, 0, none⟩) rs.length cap) rs := own_grown h2.r hg fun k a b => h2.rc k b (Option.some.inj a).symm
  have l1 : OutZ w1' lo vL us := own_grown h2.l hg fun k a b => own_ne h2.l h2.c (by decide) a b
  refine ⟨X2.grown hs X2.size (fun k hk => by cases hk; exact h.b), h.b, blk4_two hbx, own_grown r1 hs (fun k a b => own_box r1 hbx (by decide) k a b), own_grown ho hs (fun k a b => own_box ho hbx (by decide) k a b), fun k hk => ?_, own_grown l1 hs (fun k a b => own_box l1 hbx (by decide) k a b), h.u⟩
  rcases hv with e | e
  · exact h.rc k (by rw [← e]; exact hk)
  · rw [hk] at e
    have := Option.some.inj e
    omega
/-- What is kept is the new list. -/
theorem Shw.left {vN : Value} {ns : List Row} (h : Shw w1 w lo bs g vA cap rs vC cn vL us) (ho : OutZ w lo vN ns) (hu : ∀ z ∈ ns, RowR w1 z) : Shw w1 (w.setCell ⟨bs, 3, none⟩ vN) lo bs g vA cap rs vC cn vN ns := by
  have hs : w.grownBy (w.setCell ⟨bs, 3, none⟩ vN) (some bs) := grown_set (grown_refl _ _) _ _
  exact ⟨h.x.grown hs h.x.size (fun k hk => by cases hk; exact h.b), h.b, blk4_three h.bx, own_grown h.r hs (fun k a b => own_box h.r h.bx (by decide) k a b), own_grown h.c hs (fun k a b => own_box h.c h.bx (by decide) k a b), h.rc, own_grown ho hs (fun k a b => own_box ho h.bx (by decide) k a b), hu⟩
theorem Shw.start {w2 : World} {b N : Nat} {zs : List Row} (hA : OutZ w1 lo vA zs) (hu : ∀ z ∈ zs, RowR w1 z) (hb : w1.heap.size + 1 = b) (hB : w2.heap[b]? = some (.cells #[vA, .slice none 0 0, .slice (some ⟨w1.heap.size, 0, none⟩) 0 0, .slice none 0 0] 39 (0, 0)))
    (hr : OwnI w2 (b + 1) 3 (.slice (some ⟨b + 1, 0, none⟩) N N) (List.replicate N 0)) (hx : Ext (w1.alloc (.cells #[] 3)) w2) :
    Shw w1 ((w2.setCell ⟨b, 1, none⟩ (.slice (some ⟨b + 1, 0, none⟩) N N)).setCell ⟨b, 3, none⟩ vA) lo b (b + 1) vA N (List.replicate N 0) (.slice (some ⟨w1.heap.size, 0, none⟩) 0 0) [] vA zs := by
  have X : Ext w1 w2 := (Ext.new _ _).trans hx
  have hs : w2.grownBy ((w2.setCell ⟨b, 1, none⟩ (.slice (some ⟨b + 1, 0, none⟩) N N)).setCell ⟨b, 3, none⟩ vA) (some b) := grown_set (grown_set (grown_refl _ _) _ _) _ _
  have hc : OwnI w2 w1.heap.size 3 (.slice (some ⟨w1.heap.size, 0, none⟩) 0 0) [] := own_ext (ownI_emp' rfl (Nat.le_refl _)) hx
  have hl : OutZ w2 lo vA zs := own_ext hA X
  refine ⟨X.grown hs X.size (fun k hk => by cases hk; omega), by omega, ?_, ?_, own_grown hc hs (fun k a b => own_box hc hB (by decide) k a b), fun k hk => ?_, own_grown hl hs (fun k a b => own_box hl hB (by decide) k a b), hu⟩
  · rw [List.length_replicate]
    simp [World.setCell, Array.getElem?_modify, hB]
  · rw [List.length_replicate]
    exact own_rebase (own_grown hr hs (fun k a b => own_box hr hB (by decide) k a b)) (by omega)
  · have : w1.heap.size = k := Option.some.inj hk
    omega
theorem Shw.pushed {wa w1' : World} (h : Shw w1 w lo bs g vA cap rs vC cn vL us) (ha : Ext w wa) (hg : wa.grownBy w1' vC.ownBlock) : w1'.heap[bs]? = some (.cells #[vA, .slice (some ⟨g, 0, none⟩) rs.length cap, vC, vL] 39 (0, 0)) := by
  have h2 := h.ext ha
  have hb : bs < wa.heap.size := (Array.getElem?_eq_some_iff.1 h2.bx).1
  exact (hg.block bs hb fun e => own_box h2.c h2.bx (by decide) bs e.symm rfl).trans h2.bx
theorem Shw.pushedZ {wa w1' : World} {l0 : Nat} {vN : Value} {ns : List Row} (h : Shw w1 w lo bs g vA cap rs vC cn vL us) (ho : OutZ w l0 vN ns) (ha : Ext w wa) (hg : wa.grownBy w1' vC.ownBlock) (x : Value) : OutZ (w1'.setCell ⟨bs, 2, none⟩ x) l0 vN ns := by
  have o1 : OutZ w1' l0 vN ns := own_grown (own_ext ho ha) hg fun k a b => own_ne (own_ext ho ha) (h.ext ha).c (by decide) a b
  have hs : w1'.grownBy (w1'.setCell ⟨bs, 2, none⟩ x) (some bs) := grown_set (grown_refl _ _) _ _
  exact own_grown o1 hs (fun k a b => own_box o1 (h.pushed ha hg) (by decide) k a b)
/-- What is left, behind the result's writing. -/
theorem Shw.done {w0 : World} {b2 : Nat} {z0 z1 z2 z3 x0 x1 x2 x3 : Value} (h : Shw w1 w lo bs g vA cap rs vC cn vL us) (hx : Ext w0 w) (hl : w0.heap.size ≤ b2) (hb : w.heap[b2]? = some (.cells #[z0, z1, z2, z3] 39 (0, 0))) :
    RdSS ((((w.setCell ⟨b2, 0, none⟩ x0).setCell ⟨b2, 1, none⟩ x1).setCell ⟨b2, 2, none⟩ x2).setCell ⟨b2, 3, none⟩ x3) vL (us.map Prod.snd) ∧ Ext w0 ((((w.setCell ⟨b2, 0, none⟩ x0).setCell ⟨b2, 1, none⟩ x1).setCell ⟨b2, 2, none⟩ x2).setCell ⟨b2, 3, none⟩ x3) := by
  have hs : w.grownBy ((((w.setCell ⟨b2, 0, none⟩ x0).setCell ⟨b2, 1, none⟩ x1).setCell ⟨b2, 2, none⟩ x2).setCell ⟨b2, 3, none⟩ x3) (some b2) := grown_set (grown_set (grown_set (grown_set (grown_refl _ _) _ _) _ _) _ _) _ _
  exact ⟨rows_ss (own_grown h.l hs (fun k a b => own_box h.l hb (by decide) k a b)) (fun z hz => rowR_box ((h.u z hz).ext h.x) hb (by decide) hs), hx.grown hs hx.size (fun k hk => by cases hk; exact hl)⟩
end
end Go.Proofs.YtbdcomkbpapcaaaGreat
