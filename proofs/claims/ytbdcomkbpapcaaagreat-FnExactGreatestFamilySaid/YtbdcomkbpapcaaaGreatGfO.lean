import Derived.Test.YtbdcomkbpapcaaaGreatGfM
import Derived.Test.YtbdcomkbpapcaaaGreatMg7
import Derived.Test.YtbdcomkbpapcaaaGreatSink
/-
  Greatest families, the program's side: shrinking. Conditions: at most 60 clauses of literals within 12, at most six variables.
-/

namespace Go.Proofs.YtbdcomkbpapcaaaGreat
open Go.RowKit Seed
structure Shi (w1 w : World) (pb gi gr N : Nat) (x0 x1 x2 vA : Value) (bs : List Bool) (rs : List Int) : Prop where
  x : Ext w1 w
  b : w1.heap.size ≤ pb
  bx : w.heap[pb]? = some (.cells #[x0, x1, x2, vA, .slice (some ⟨gi, 0, none⟩) N N, .slice (some ⟨gr, 0, none⟩) N N] 54 (0, 0))
  i : OwnB w w1.heap.size 4 (.slice (some ⟨gi, 0, none⟩) N N) bs
  il : bs.length = N
  r : OwnI w w1.heap.size 3 (.slice (some ⟨gr, 0, none⟩) N N) rs
  rl : rs.length = N
theorem b6 {w : World} {b : Nat} {x y z t u s : Value} {e : TypeId} (h : w.heap[b]? = some (.cells #[x, y, z, t, u, s] e (0, 0))) : w.cell? ⟨b, 0, none⟩ = some x ∧ w.cell? ⟨b, 1, none⟩ = some y ∧ w.cell? ⟨b, 2, none⟩ = some z ∧ w.cell? ⟨b, 3, none⟩ = some t ∧ w.cell? ⟨b, 4, none⟩ = some u ∧ w.cell? ⟨b, 5, none⟩ = some s ∧ w.frozen? ⟨b, 4, none⟩ = false ∧ w.frozen? ⟨b, 5, none⟩ = false := by
  simp [World.cell?, World.frozen?, h]
section
variable {w1 w w' : World} {pb gi gr N : Nat} {x0 x1 x2 vA : Value} {bs : List Bool} {rs : List Int}
theorem Shi.ext (h : Shi w1 w pb gi gr N x0 x1 x2 vA bs rs) (hx : Ext w w') : Shi w1 w' pb gi gr N x0 x1 x2 vA bs rs :=
  ⟨h.x.trans hx, h.b, hx.heap h.bx, OwnB.ext h.i hx, h.il, own_ext h.r hx, h.rl⟩
theorem ownB_own {w : World} {base : Nat} {e : TypeId} {v : Value} {xs : List Bool} (h : OwnB w base e v xs) : Own w base e 1 v xs.length (bools xs) := h
theorem ownI_own {w : World} {base : Nat} {e : TypeId} {v : Value} {xs : List Int} (h : OwnI w base e v xs) : Own w base e 1 v xs.length (ints xs) := h
/-- A flag is put out. -/
theorem Shi.off (h : Shi w1 w pb gi gr N x0 x1 x2 vA bs rs) {c : Nat} (hc : c < N) : (∃ u0, w.cell? ⟨gi, c, none⟩ = some u0) ∧ w.frozen? ⟨gi, c, none⟩ = false ∧ Shi w1 (w.setCell ⟨gi, c, none⟩ (.bool false)) pb gi gr N x0 x1 x2 vA (bs.set c false) rs := by
  obtain ⟨h1, h2, h3⟩ := ownB_store h.i h.il hc
  have hg : w.grownBy (w.setCell ⟨gi, c, none⟩ (.bool false)) (some gi) := grown_set (grown_refl _ _) _ _
  have hgl : w1.heap.size ≤ gi := (own_blocks (ownB_own h.i) gi rfl).1
  have hb : pb < w.heap.size := (Array.getElem?_eq_some_iff.1 h.bx).1
  exact ⟨h1, h2, h.x.grown hg h.x.size (fun k hk => by cases hk; exact hgl), h.b, (hg.block pb hb fun e => own_box (ownB_own h.i) h.bx (by decide) pb e.symm rfl).trans h.bx, h3.out false, by rw [List.length_set]; exact h.il, own_grown h.r hg (fun k a b => own_ne (ownI_own h.r) (ownB_own h.i) (by decide) a b), h.rl⟩
/-- A round is written down. -/
theorem Shi.mark (h : Shi w1 w pb gi gr N x0 x1 x2 vA bs rs) {c : Nat} (hc : c < N) (x : Int) : (∃ u0, w.cell? ⟨gr, c, none⟩ = some u0) ∧ w.frozen? ⟨gr, c, none⟩ = false ∧ Shi w1 (w.setCell ⟨gr, c, none⟩ (.int .i64 x)) pb gi gr N x0 x1 x2 vA bs (rs.set c x) := by
  obtain ⟨h1, h2, h3⟩ := ownI_store h.r h.rl hc
  have hg : w.grownBy (w.setCell ⟨gr, c, none⟩ (.int .i64 x)) (some gr) := grown_set (grown_refl _ _) _ _
  have hgl : w1.heap.size ≤ gr := (own_blocks (ownI_own h.r) gr rfl).1
  have hb : pb < w.heap.size := (Array.getElem?_eq_some_iff.1 h.bx).1
  exact ⟨h1, h2, h.x.grown hg h.x.size (fun k hk => by cases hk; exact hgl), h.b, (hg.block pb hb fun e => own_box (ownI_own h.r) h.bx (by decide) pb e.symm rfl).trans h.bx, own_grown (ownB_own h.i) hg (fun k a b => own_ne (ownB_own h.i) (ownI_own h.r) (by decide) a b), h.il, h3.out x, by rw [List.length_set]; exact h.rl⟩
theorem Shi.start {w3 w4 : World} (hB : w3.heap[pb]? = some (.cells #[x0, x1, x2, vA, .slice none 0 0, .slice none 0 0] 54 (0, 0))) (hb : w1.heap.size ≤ pb) (hx : Ext w1 w3)
    (hI : OwnB w3 w1.heap.size 4 (.slice (some ⟨gi, 0, none⟩) N N) bs) (hl : bs.length = N) (h4 : Ext (w3.setCell ⟨pb, 4, none⟩ (.slice (some ⟨gi, 0, none⟩) N N)) w4)
    (hR : OwnI w4 w1.heap.size 3 (.slice (some ⟨gr, 0, none⟩) N N) rs) (hr : rs.length = N) :
    (w4.cell? ⟨pb, 5, none⟩ = some (.slice none 0 0) ∧ w4.frozen? ⟨pb, 5, none⟩ = false) ∧ Shi w1 (w4.setCell ⟨pb, 5, none⟩ (.slice (some ⟨gr, 0, none⟩) N N)) pb gi gr N x0 x1 x2 vA bs rs := by
  have s3 : w3.grownBy (w3.setCell ⟨pb, 4, none⟩ (.slice (some ⟨gi, 0, none⟩) N N)) (some pb) := grown_set (grown_refl _ _) _ _
  have hI3 : OwnB (w3.setCell ⟨pb, 4, none⟩ (.slice (some ⟨gi, 0, none⟩) N N)) w1.heap.size 4 (.slice (some ⟨gi, 0, none⟩) N N) bs := own_grown (ownB_own hI) s3 (fun k a b => own_box (ownB_own hI) hB (by decide) k a b)
  have X3 : Ext w1 (w3.setCell ⟨pb, 4, none⟩ (.slice (some ⟨gi, 0, none⟩) N N)) := hx.grown s3 hx.size (fun k hk => by cases hk; exact hb)
  have hB3 : (w3.setCell ⟨pb, 4, none⟩ (.slice (some ⟨gi, 0, none⟩) N N)).heap[pb]? = some (.cells #[x0, x1, x2, vA, .slice (some ⟨gi, 0, none⟩) N N, .slice none 0 0] 54 (0, 0)) := by
    simp [World.setCell, Array.getElem?_modify, hB]
  have hB4 := h4.heap hB3
  have X4 := X3.trans h4
  have s4 : w4.grownBy (w4.setCell ⟨pb, 5, none⟩ (.slice (some ⟨gr, 0, none⟩) N N)) (some pb) := grown_set (grown_refl _ _) _ _
  have hI4 := OwnB.ext hI3 h4
  obtain ⟨-, -, -, -, -, k5, -, f5⟩ := b6 hB4
  refine ⟨⟨k5, f5⟩, X4.grown s4 X4.size (fun k hk => by cases hk; exact hb), hb, ?_, own_grown (ownB_own hI4) s4 (fun k a b => own_box (ownB_own hI4) hB4 (by decide) k a b), hl, own_grown (ownI_own hR) s4 (fun k a b => own_box (ownI_own hR) hB4 (by decide) k a b), hr⟩
  simp [World.setCell, Array.getElem?_modify, hB4]
end
/-! ### Putting out the flags of those that are gone -/
theorem tell_off {n : Nat} {bs : List Bool} {L G : List (List Int)} {g : List Int} (h : ∀ b, Ris (n : Int) b → tellB bs (codeA b) = (decide (b ∈ L) && decide (b ∉ G))) (hg : Ris (n : Int) g) (hc : codeA g < bs.length) :
    ∀ b, Ris (n : Int) b → tellB (bs.set (codeA g) false) (codeA b) = (decide (b ∈ L) && decide (b ∉ G ++ [g])) := fun b hb => by
  have h1 := h b hb
  unfold tellB at *
  rw [List.getD_eq_getElem?_getD] at *
  rw [List.getElem?_set]
  by_cases e : codeA g = codeA b
  · have e2 := code_inj n g b hg hb e
    subst e2
    rw [if_pos rfl, if_pos hc]
    simp
  · rw [if_neg e, h1]
    have : b ≠ g := fun e' => e (by rw [e'])
    simp [this]
theorem tell_cut {n q : Nat} {bs : List Bool} {A L : List (List Int)} (hs : Sub A L) (h : ∀ b, Ris (n : Int) b → tellB bs (codeA b) = (decide (b ∈ L) && decide (b ∉ A.filter (gonL n q L)))) : Tells n (tellB bs) (cutL n q L) := fun b hb => by
  rw [h b hb, Bool.eq_iff_iff, Bool.and_eq_true, decide_eq_true_iff, decide_eq_true_iff, decide_eq_true_iff, mem_cutL]
  constructor
  · rintro ⟨h1, h2⟩
    refine ⟨h1, ?_⟩
    cases hk : keepB n q L b
    · exact absurd (List.mem_filter.2 ⟨hs.mem h1, by unfold gonL; rw [decide_eq_true h1, hk]; rfl⟩) h2
    · rfl
  · rintro ⟨h1, h2⟩
    refine ⟨h1, fun h3 => ?_⟩
    have := (List.mem_filter.1 h3).2
    unfold gonL at this
    rw [h2] at this
    simp at this
end Go.Proofs.YtbdcomkbpapcaaaGreat
