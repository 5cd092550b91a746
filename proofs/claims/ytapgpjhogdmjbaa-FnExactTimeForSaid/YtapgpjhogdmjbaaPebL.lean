/-
  Pebbling, the program's search: its state, and what a round finds. Condition: a valid graph.
-/
import Derived.Test.YtapgpjhogdmjbaaPebK
import Derived.Deep.LoopGhost
namespace Go.Proofs.Ytapgpjhogdmjbaa
open Go.RowKit Go.Shelf Peb
section
variable {ds : List (List Int)} {rev : Bool} {s P r M : Nat} {F : List Int}
/-- Does a move lead from P to one that is r away? -/
def hitM (F : List Int) (r : Nat) {n : Nat} (m : MvA ds n rev s P) : Bool := decide (fa F m.1.2.2 = (r : Int))
def hitB (ds : List (List Int)) (rev : Bool) (s : Nat) (F : List Int) (r P : Nat) : Bool :=
  decide (fa F P < 0) && (decide (cnt P ≤ s) && (mvU ds ds.length rev s P (2 * ds.length)).any (hitM F r))
theorem mvB_ok {x : Nat} : (∃ j : Nat, j < 2 ∧ mvB ds rev P ((j : Int) + 1) x = true) ↔ okM ds rev P x = true := by
  unfold mvB okM
  constructor
  · rintro ⟨j, hj, h⟩
    by_cases h0 : j = 0
    · subst h0
      rw [if_pos (by rfl), Bool.and_eq_true] at h
      have h1 : P.testBit x = false := by simpa using h.1
      rw [h1, if_neg (by decide)]; exact h.2
    · rw [if_neg (by omega), Bool.and_eq_true] at h
      rw [h.1, if_pos rfl, Bool.or_comm]; exact h.2
  · intro h
    cases hb : P.testBit x
    · rw [hb, if_neg (by decide)] at h
      exact ⟨0, by decide, by rw [if_pos (by rfl), h]; rfl⟩
    · rw [hb, if_pos rfl, Bool.or_comm] at h
      exact ⟨1, by decide, by rw [if_neg (by decide), h]; rfl⟩
theorem mem_mvU {n : Nat} (m : MvA ds n rev s P) : ∃ i, i < 2 * n ∧ mvO ds n rev s P i = some m := by
  obtain ⟨h1, h2, h3, h4, h5⟩ := okA_iff.1 m.2
  obtain ⟨⟨j, x, Q⟩, hm⟩ := m
  dsimp only at h1 h2 h3 h4 h5
  subst h4
  obtain ⟨h, e⟩ := mvO_yes (ds := ds) (n := n) (rev := rev) (s := s) (P := P) h1 h2 h3 h5
  exact ⟨j * n + x, by have := Nat.mul_le_mul_right n (show j ≤ 1 by omega); omega, e⟩
theorem any_mvU {n : Nat} {p : MvA ds n rev s P → Bool} : (mvU ds n rev s P (2 * n)).any p = true ↔ ∃ m, p m = true := by
  rw [List.any_eq_true]
  constructor
  · rintro ⟨m, _, h⟩; exact ⟨m, h⟩
  · rintro ⟨m, h⟩
    obtain ⟨i, hi, e⟩ := mem_mvU m
    exact ⟨m, List.mem_filterMap.2 ⟨i, List.mem_range.2 hi, e⟩, h⟩
theorem hit_iff (hP : P < 2 ^ ds.length) (h : Rnd (eP ds ds.length rev s) (dP ds.length rev s) (2 ^ ds.length) r F) : hitB ds rev s F r P = true ↔ Dst (eP ds ds.length rev s) (dP ds.length rev s) (2 ^ ds.length) (r + 1) P := by
  rw [← h.found hP]
  unfold hitB
  rw [Bool.and_eq_true, Bool.and_eq_true, decide_eq_true_iff, decide_eq_true_iff, any_mvU]
  constructor
  · rintro ⟨h1, h2, ⟨⟨j, x, Q⟩, hm⟩, h3⟩
    obtain ⟨k1, k2, k3, k4, k5⟩ := okA_iff.1 hm
    dsimp only at k1 k2 k3 k4 k5
    subst k4
    exact ⟨h1, P ^^^ 2 ^ x, flip_lt hP k2, eP_iff.2 ⟨h2, k5, x, k2, rfl, mvB_ok.1 ⟨j, k1, k3⟩⟩, of_decide_eq_true h3⟩
  · rintro ⟨h1, Q, hQ, hE, hf⟩
    obtain ⟨k1, k2, x, hx, rfl, hok⟩ := eP_iff.1 hE
    obtain ⟨j, hj, hB⟩ := mvB_ok.2 hok
    exact ⟨h1, k1, ⟨(j, x, P ^^^ 2 ^ x), okA_iff.2 ⟨hj, hx, hB, rfl, k2⟩⟩, decide_eq_true hf⟩
end
/-- What is found is written down. -/
def putF (F : List Int) (t : Int) (fs : List Nat) : List Int := fs.foldl (fun G P => G.set P t) F
theorem putF_snoc (F : List Int) (t : Int) (fs : List Nat) (P : Nat) : putF F t (fs ++ [P]) = (putF F t fs).set P t := by simp [putF]
theorem putF_len (F : List Int) (t : Int) : ∀ fs : List Nat, (putF F t fs).length = F.length := by
  intro fs
  have key : ∀ (fs : List Nat) (G : List Int), (fs.foldl (fun G P => G.set P t) G).length = G.length := by
    intro fs
    induction fs with
    | nil => intro G; rfl
    | cons P r ih => intro G; rw [List.foldl_cons, ih, List.length_set]
  exact key fs F
theorem putF_fa {t : Int} : ∀ (fs : List Nat) (F : List Int) (P : Nat), (∀ Q ∈ fs, Q < F.length) → fa (putF F t fs) P = if P ∈ fs then t else fa F P := by
  intro fs
  induction fs with
  | nil => intro F P _; simp [putF]
  | cons Q r ih =>
    intro F P h
    have h1 := ih (F.set Q t) P fun q hq => by rw [List.length_set]; exact h q (by simp [hq])
    have e : putF F t (Q :: r) = putF (F.set Q t) t r := rfl
    rw [e, h1, fa_set (h Q (by simp))]
    by_cases hr : P ∈ r
    · rw [if_pos hr, if_pos (by simp [hr])]
    · rw [if_neg hr]
      by_cases hq : P = Q
      · rw [if_pos hq, if_pos (by simp [hq])]
      · rw [if_neg hq, if_neg (by simp [hq, hr])]
theorem own_low {w w' : World} {base : Nat} {e : TypeId} {s n B : Nat} {v : Value} {cs : List Value} (h : Own w base e s v n cs) (hb : Below B w w') (hn : ∀ g, v.ownBlock = some g → g < B) : Own w' base e s v n cs := by
  refine ⟨h.1, ?_⟩
  rcases h.2 with h0 | ⟨g, cap, cur, hv, hbb, hg, rest⟩
  · exact .inl h0
  · exact .inr ⟨g, cap, cur, hv, hbb, (hb.block g (hn g (by rw [hv]; rfl))).trans hg, rest⟩
/-- The state: the graph's box, the distances' box, the distances. -/
structure LfS (w wr : World) (A : Option Addr) (n c g M : Nat) (F : List Int) (Bf : Nat) : Prop where
  x : Ext w wr
  b0 : wr.heap[w.heap.size]? = some (.cells #[.slice A n c] 28 (0, 0))
  bf : Boxed wr Bf 44 (.slice (some ⟨g, 0, none⟩) M M)
  f : OwnI wr (w.heap.size + 1) 3 (.slice (some ⟨g, 0, none⟩) M M) F
  fl : F.length = M
  gb : w.heap.size < g ∧ g < Bf
section
variable {w wr wr' : World} {A : Option Addr} {n c g M Bf : Nat} {F : List Int}
theorem LfS.below (h : LfS w wr A n c g M F Bf) (hb : Below (Bf + 1) wr wr') : LfS w wr' A n c g M F Bf :=
  ⟨Below.trans h.x (Below.mono hb (by have := h.gb; omega)), (hb.block _ (by have := h.gb; omega)).trans h.b0, (hb.block _ (Nat.lt_succ_self _)).trans h.bf, own_low h.f hb (fun k hk => by have e : g = k := Option.some.inj hk; have := h.gb; omega), h.fl, h.gb⟩
theorem LfS.ext (h : LfS w wr A n c g M F Bf) (hx : Ext wr wr') : LfS w wr' A n c g M F Bf := h.below (Below.mono hx h.bf.lt)
theorem LfS.put (h : LfS w wr A n c g M F Bf) {i : Nat} (hi : i < M) (x : Int) : (∃ u0, wr.cell? ⟨g, i, none⟩ = some u0) ∧ wr.frozen? ⟨g, i, none⟩ = false ∧ LfS w (wr.setCell ⟨g, i, none⟩ (.int .i64 x)) A n c g M (F.set i x) Bf := by
  obtain ⟨h1, h2, h3⟩ := ownI_store h.f h.fl hi
  have hg : wr.grownBy (wr.setCell ⟨g, i, none⟩ (.int .i64 x)) (some g) := grown_set (grown_refl _ _) _ _
  have hgb := h.gb
  refine ⟨h1, h2, h.x.grown hg h.x.size (fun k hk => by cases hk; omega), ?_, ?_, h3.out x, by rw [List.length_set]; exact h.fl, hgb⟩
  · exact (hg.block _ (Array.getElem?_eq_some_iff.1 h.b0).1 (fun e => by have := Option.some.inj e; omega)).trans h.b0
  · exact h.bf.kept hg (fun e => by have := Option.some.inj e; omega)
theorem LfS.cells (h : LfS w wr A n c g M F Bf) : wr.cell? ⟨w.heap.size, 0, none⟩ = some (.slice A n c) ∧ wr.cell? ⟨Bf, 0, none⟩ = some (.slice (some ⟨g, 0, none⟩) M M) := ⟨cell_ofD h.b0, h.bf.cell⟩
theorem LfS.at_ (h : LfS w wr A n c g M F Bf) {i : Nat} (hi : i < M) : wr.cell? ⟨g, i, none⟩ = some (.int .i64 (fa F i)) := by
  have hl : i < F.length := by rw [h.fl]; exact hi
  obtain ⟨a, e, hc⟩ := RdI.at_ (hd (OwnI.rd h.f)) hl
  injection e with e
  subst e
  have he : (⟨g, 0, none⟩ : Addr).add i = ⟨g, i, none⟩ := by
    unfold Addr.add
    split
    · rename_i h; rw [h]
    · simp
  rw [he] at hc
  have e2 : fa F i = F[i] := by simp [fa, List.getD_eq_getElem?_getD, hl]
  rw [e2]; exact hc
end
end Go.Proofs.Ytapgpjhogdmjbaa
