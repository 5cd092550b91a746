/-
  How the arguments' readings are opened: slices of pairs, charged graphs. No condition.
-/
import Derived.Test.YtgkifandgacncaaFrame
import Derived.Test.YtgkifandgacncaaChg
namespace Go.Proofs.Ytgkifandgacncaa
open Go.RowKit Go.ChangeShapes Go.WideShapes Go.ChangeAt Go.Deep Go.Joins
section
variable {H : Type} {enc : TypeId × Value → H} {P : Program} {W : World} {b0 : Nat} {r : Reach} {base : Nat} {spare : Nat → Bool} {held : Bool}
theorem read_pairs {t p e : TypeId} {fuel : Nat} {v : Value} {x : DataW H × List MemPlace} (ht : P.underlying t = some (.slice p)) (hp : P.underlying p = some (.array 2 e)) (he : P.underlying e = some (.int .i64)) (hc : P.cellsOf p = 2) (hce : P.cellsOf e = 1) (h : DataW.trod enc P W base spare held fuel t [v] = some x) :
    ∃ es, RdP W v es ∧ ∀ e ∈ es, I64 e.1 ∧ I64 e.2 := by
  rcases open_slice ht h with ⟨h0, _⟩ | ⟨a, len, cap, m, n, D, Pl, h0, _, hl, hm, hmm, _, hx⟩
  · injection h0 with h0
    subst h0
    exact ⟨[], Rd.nil _ _, fun e h => by simp at h⟩
  · injection h0 with h0
    subst h0
    have hlm : len ≤ m := by rw [hmm]; split <;> omega
    have key : ∀ i, ∃ q : Int × Int, i < len → W.cell? (a.add (i * 2)) = some (.int .i64 q.1) ∧ W.cell? (a.add (i * 2 + 1)) = some (.int .i64 q.2) ∧ I64 q.1 ∧ I64 q.2 := by
      intro i
      by_cases hi : i < len
      · obtain ⟨cs', h1, h2⟩ := hx i (by omega)
        rw [hc] at h1
        obtain ⟨_, hcl, hcc⟩ := World.cells?_some h1
        obtain ⟨xs, k, rfl, _, _, hxl, hxs⟩ := DataW.trod_array hp h2
        rw [hce] at hxs
        have g : ∀ j, j < 2 → ∃ z, cs'[j]? = some (.int .i64 z) ∧ I64 z := by
          intro j hj
          have e1 := hxs j hj
          have e2 : (cs'.drop (j * 1)).take 1 = [cs'[j]'(by omega)] := by
            rw [Nat.mul_one, List.drop_eq_getElem_cons (by omega)]; rfl
          rw [e2, List.getElem?_eq_getElem (by omega)] at e1
          obtain ⟨z, hz, _, hw⟩ := DataW.trod_int he e1
          injection hz with hz
          exact ⟨z, by rw [List.getElem?_eq_getElem (by omega), hz], i64_of_wf hw⟩
        obtain ⟨z0, g0, w0⟩ := g 0 (by omega)
        obtain ⟨z1, g1, w1⟩ := g 1 (by omega)
        refine ⟨(z0, z1), fun _ => ⟨?_, ?_, w0, w1⟩⟩
        · have := hcc 0 (by omega); rw [g0, add_add] at this; exact this
        · have := hcc 1 (by omega); rw [g1, add_add] at this; exact this
      · exact ⟨(0, 0), fun h => absurd h hi⟩
    obtain ⟨f, hf⟩ := Classical.axiomOfChoice key
    have hlen : ((List.range len).map f).length = len := by simp
    refine ⟨(List.range len).map f, ?_, fun e he' => ?_⟩
    · unfold RdP RdN
      rw [hlen]
      refine ⟨by simp, some a, cap, rfl, by simpa using hl, hm, fun j u hu => ⟨a, rfl, ?_⟩⟩
      have hj : j < len * 2 := by have := (List.getElem?_eq_some_iff.1 hu).1; simpa using this
      have hi : j / 2 < ((List.range len).map f).length := by rw [hlen]; omega
      have hg := flat2_get ((List.range len).map f) hi
      have hff := hf (j / 2) (by omega)
      have hget : ((List.range len).map f)[j / 2] = f (j / 2) := by simp
      rw [hget] at hg
      rcases Nat.mod_two_eq_zero_or_one j with h2 | h2
      · have ej : j / 2 * 2 = j := by omega
        rw [ej] at hg hff
        simp only [ints, List.getElem?_map, hg.1, Option.map_some, Option.some.injEq] at hu
        rw [← hu]; exact hff.1
      · have ej : j / 2 * 2 + 1 = j := by omega
        rw [ej] at hg hff
        simp only [ints, List.getElem?_map, hg.2, Option.map_some, Option.some.injEq] at hu
        rw [← hu]; exact hff.2.1
    · obtain ⟨i, hi, rfl⟩ := List.mem_map.1 he'
      have := hf i (List.mem_range.1 hi)
      exact ⟨this.2.2.1, this.2.2.2⟩
end
section
variable {H : Type} {enc : TypeId × Value → H} {W : World} {b0 : Nat} {r : Reach} {base : Nat} {spare : Nat → Bool} {held : Bool}
set_option maxRecDepth 100000 in
theorem open_charged {v : Value} {d : DataW H} {p : List MemPlace} (hv : Value.okWide Try.prog W r b0 25 v) (h : DataW.Trod enc Try.prog W base spare held 25 v d p) :
    ∃ g, RdC W v g ∧ I64 g.n ∧ (∀ e ∈ g.es, I64 e.1 ∧ I64 e.2) ∧ ∀ x ∈ g.cs, I64 x := by
  obtain ⟨v0, v1, v2, y0, y1, y2, n, rfl, _, _, h0, h1, h2⟩ := open_agg3 Try.underlying25 (by kernel_rfl) (by kernel_rfl) hv h
  obtain ⟨z, hz, _, hw⟩ := DataW.trod_int Try.underlying3 h0
  injection hz with hz
  subst hz
  obtain ⟨es, hes, hb⟩ := read_pairs Try.underlying22 Try.underlying73 Try.underlying3 (by kernel_rfl) (by kernel_rfl) h1
  obtain ⟨cs, hcs, hb2⟩ := read_ints Try.underlying23 Try.underlying3 (by kernel_rfl) h2
  exact ⟨⟨z, es, cs⟩, ⟨_, _, rfl, hes, hcs⟩, i64_of_wf hw, hb, hb2⟩
end
end Go.Proofs.Ytgkifandgacncaa
