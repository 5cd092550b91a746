/-
  How the arguments' readings are opened into words: slices of Frege steps. No condition.
-/
import Derived.Test.YtapgpjhogdmjbaaDoorFrame
import Derived.Test.YtapgpjhogdmjbaaDoorFst
namespace Go.Proofs.YtapgpjhogdmjbaaDoor
open Go.RowKit Go.ChangeShapes Go.WideShapes Go.ChangeAt Go.Deep Go.Joins
section
variable {H : Type} {enc : TypeId × Value → H} {P : Program} {W : World} {b0 : Nat} {r : Reach} {base : Nat} {spare : Nat → Bool} {held : Bool}
theorem recs_ofF {t p : TypeId} {f0 f1 f2 f3 : Field} {fuel : Nat} {v : Value} {x : DataW H × List MemPlace} (ht : P.underlying t = some (.slice p)) (hp : P.underlying p = some (.struct #[f0, f1, f2, f3])) (hone : oneCellFields P #[f0, f1, f2, f3] = true) (hc : P.cellsOf p = 4)
    (u0 : P.underlying f0.type = some .string) (u1 : P.underlying f1.type = some (.int .i64)) (u2 : P.underlying f2.type = some (.int .i64)) (u3 : P.underlying f3.type = some (.int .i64)) (h : DataW.trod enc P W base spare held fuel t [v] = some x) :
    ∃ rs : List Rec, Rd_FregeStepS W v rs ∧ I64_FregeStepS rs := by
  rcases open_slice ht h with ⟨h0, _⟩ | ⟨a, len, cap, m, n, D, Pl, h0, _, hl, hm, hmm, _, hx⟩
  · injection h0 with h0
    subst h0
    exact ⟨[], ⟨Rd.nil _ _, fun e h => by simp at h⟩, fun e h => by simp at h⟩
  · injection h0 with h0
    subst h0
    have hlm : len ≤ m := by rw [hmm]; split <;> omega
    have key : ∀ i, ∃ q : Rec, i < len → W.cell? (a.add (i * 4)) = some (.string q.name) ∧ W.cell? (a.add (i * 4 + 1)) = some (.int .i64 q.sys) ∧ W.cell? (a.add (i * 4 + 2)) = some (.int .i64 q.size) ∧ W.cell? (a.add (i * 4 + 3)) = some (.int .i64 q.extra) ∧ q.name.size ≤ 9223372036854775807 ∧ I64 q.sys ∧ I64 q.size ∧ I64 q.extra := by
      intro i
      by_cases hi : i < len
      · obtain ⟨cs', h1, h2⟩ := hx i (by omega)
        rw [hc] at h1
        obtain ⟨_, hcl, hcc⟩ := World.cells?_some h1
        obtain ⟨ys, n', hn', hy, hlen, hyl, hf⟩ := DataW.trod_struct hp h2
        have g : ∀ (j : Nat) (f : Field), (#[f0, f1, f2, f3] : Array Field)[j]? = some f → ∃ u y, cs'[j]? = some u ∧ DataW.trod enc P W base spare held n' f.type [u] = some y := by
          intro j f hj
          obtain ⟨ho, hk⟩ := hone_of hone j f hj
          have hjl : j < 4 := (Array.getElem?_eq_some_iff.1 hj).1
          have e1 := hf j f hj
          rw [ho, hk] at e1
          have e2 : (cs'.drop j).take 1 = [cs'[j]'(by omega)] := by
            rw [List.drop_eq_getElem_cons (by omega)]; rfl
          rw [e2] at e1
          have hys : ys[j]? = some (ys[j]'(by rw [hyl]; exact hjl)) := List.getElem?_eq_getElem _
          exact ⟨_, _, List.getElem?_eq_getElem (by omega), e1.trans hys⟩
        obtain ⟨x0, y0, g0, t0⟩ := g 0 f0 rfl
        obtain ⟨x1, y1, g1, t1⟩ := g 1 f1 rfl
        obtain ⟨x2, y2, g2, t2⟩ := g 2 f2 rfl
        obtain ⟨x3, y3, g3, t3⟩ := g 3 f3 rfl
        obtain ⟨s0, hz0, _, w0⟩ := DataW.trod_string u0 t0
        obtain ⟨s1, hz1, _, w1⟩ := DataW.trod_int u1 t1
        obtain ⟨s2, hz2, _, w2⟩ := DataW.trod_int u2 t2
        obtain ⟨s3, hz3, _, w3⟩ := DataW.trod_int u3 t3
        injection hz0 with hz0; injection hz1 with hz1; injection hz2 with hz2; injection hz3 with hz3
        subst hz0; subst hz1; subst hz2; subst hz3
        refine ⟨⟨s0, s1, s2, s3⟩, fun _ => ⟨?_, ?_, ?_, ?_, w0, i64_of_wf w1, i64_of_wf w2, i64_of_wf w3⟩⟩
        · have := hcc 0 (by omega); rw [g0, add_add] at this; exact this
        · have := hcc 1 (by omega); rw [g1, add_add] at this; exact this
        · have := hcc 2 (by omega); rw [g2, add_add] at this; exact this
        · have := hcc 3 (by omega); rw [g3, add_add] at this; exact this
      · exact ⟨⟨.empty, 0, 0, 0⟩, fun h => absurd h hi⟩
    obtain ⟨f, hf⟩ := Classical.axiomOfChoice key
    have hlen : ((List.range len).map f).length = len := by simp
    refine ⟨(List.range len).map f, ⟨?_, fun e he' => ?_⟩, fun e he' => ?_⟩
    · unfold RdRec
      rw [hlen]
      refine ⟨by simp, some a, cap, rfl, by simpa using hl, hm, fun j u hu => ⟨a, rfl, ?_⟩⟩
      have hj : j < len * 4 := by have := (List.getElem?_eq_some_iff.1 hu).1; simpa using this
      have hi : j / 4 < ((List.range len).map f).length := by rw [hlen]; omega
      have hg := recCells_get ((List.range len).map f) hi
      have hff := hf (j / 4) (by omega)
      have hget : ((List.range len).map f)[j / 4] = f (j / 4) := by simp
      rw [hget] at hg
      obtain ⟨q, m4, rfl, hm4⟩ : ∃ q m, j = q * 4 + m ∧ m < 4 := ⟨j / 4, j % 4, by omega, by omega⟩
      have eq : (q * 4 + m4) / 4 = q := by omega
      rw [eq] at hg hff
      match m4, hm4 with
      | 0, _ => rw [Nat.add_zero] at hu ⊢; rw [hg.1] at hu; injection hu with hu; rw [← hu]; exact hff.1
      | 1, _ => rw [hg.2.1] at hu; injection hu with hu; rw [← hu]; exact hff.2.1
      | 2, _ => rw [hg.2.2.1] at hu; injection hu with hu; rw [← hu]; exact hff.2.2.1
      | 3, _ => rw [hg.2.2.2] at hu; injection hu with hu; rw [← hu]; exact hff.2.2.2.1
    · obtain ⟨i, hi, rfl⟩ := List.mem_map.1 he'
      exact (hf i (List.mem_range.1 hi)).2.2.2.2.1
    · obtain ⟨i, hi, rfl⟩ := List.mem_map.1 he'
      exact (hf i (List.mem_range.1 hi)).2.2.2.2.2
end
section
variable {H : Type} {enc : TypeId × Value → H} {W : World} {base : Nat} {spare : Nat → Bool} {held : Bool}
set_option maxRecDepth 100000 in
theorem read_fsteps {t : TypeId} {fuel : Nat} {v : Value} {x : DataW H × List MemPlace} (ht : Tryd.prog.underlying t = some (.slice 37)) (h : DataW.trod enc Tryd.prog W base spare held fuel t [v] = some x) : ∃ rs : List Rec, Rd_FregeStepS W v rs ∧ I64_FregeStepS rs :=
  recs_ofF ht Tryd.underlying37 (by kernel_rfl) (by kernel_rfl) Tryd.underlying9 Tryd.underlying3 Tryd.underlying3 Tryd.underlying3 h
end
end Go.Proofs.YtapgpjhogdmjbaaDoor
