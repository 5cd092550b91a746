/-
  slices.DeleteFunc and slices.Clone at numbers. Conditions: list lengths up to 2^30.
-/
import Derived.Test.YtgkifandgacncaaHo
import Derived.Lib.SliceRun
namespace Go.Proofs.Ytgkifandgacncaa
open Go.RowKit

theorem findI_spec (p : Int → Bool) (xs : List Int) : ∀ k0 : Int, 0 ≤ k0 →
    (findI p xs k0 = -1 ∧ ∀ x ∈ xs, p x = false) ∨ (∃ i : Nat, i < xs.length ∧ findI p xs k0 = k0 + i ∧ (∀ x ∈ xs.take i, p x = false) ∧ ∀ y, xs[i]? = some y → p y = true) := by
  induction xs with
  | nil => intro k0 _; exact .inl ⟨rfl, fun x h => by simp at h⟩
  | cons y r ih =>
    intro k0 hk
    unfold findI
    by_cases h : p y = true
    · rw [if_pos h]
      exact .inr ⟨0, by simp, by simp, fun x hx => by simp at hx, fun z hz => by simp at hz; subst hz; exact h⟩
    · rw [if_neg h]
      rcases ih (k0 + 1) (by omega) with ⟨h1, h2⟩ | ⟨i, h1, h2, h3, h4⟩
      · exact .inl ⟨h1, fun x hx => by
          rcases List.mem_cons.1 hx with rfl | hx
          · simpa using h
          · exact h2 x hx⟩
      · exact .inr ⟨i + 1, by simpa using h1, by rw [h2]; omega, fun x hx => by
          rw [List.take_succ_cons] at hx
          rcases List.mem_cons.1 hx with rfl | hx
          · simpa using h
          · exact h3 x hx, fun z hz => h4 z (by simpa using hz)⟩
theorem filter_all {p : Int → Bool} {xs : List Int} (h : ∀ x ∈ xs, p x = false) : xs.filter (fun x => !p x) = xs := by
  rw [List.filter_eq_self]
  intro x hx
  rw [h x hx]; rfl
/-- Cells from k on are overwritten: what lies ahead of k is kept. -/
theorem own_setCells {base : Nat} {e : TypeId} {g n cap k : Nat} : ∀ (vs : List Value) (o : Nat) (w : World) (cs : List Value), k ≤ o → Own w base e 1 (.slice (some ⟨g, 0, none⟩) n cap) n cs →
    ∃ cs', Own (w.setCells g o vs) base e 1 (.slice (some ⟨g, 0, none⟩) n cap) n cs' ∧ cs'.take k = cs.take k ∧ w.grownBy (w.setCells g o vs) (some g)
  | [], o, w, cs, _, h => ⟨cs, h, rfl, grown_refl _ _⟩
  | v :: r, o, w, cs, hk, h => by
    obtain ⟨cs', h1, h2, h3⟩ := own_setCells (k := k) r (o + 1) _ _ (by omega) (World.ownsRow.stored h o v).1
    refine ⟨cs', h1, ?_, grown_trans (World.ownsRow.stored h o v).2 h3⟩
    rw [h2, List.take_set]
    exact List.set_eq_of_length_le (by simp; omega)
/-- A slice of the call's own, cut at its end. -/
theorem own_cut {w : World} {base : Nat} {e : TypeId} {g n cap k : Nat} {cs : List Value} (h : Own w base e 1 (.slice (some ⟨g, 0, none⟩) n cap) n cs) (hk : k ≤ n) : Own w base e 1 (.slice (some ⟨g, 0, none⟩) k cap) k (cs.take k) := by
  have hl := h.1
  rcases h.2 with ⟨hv, _⟩ | ⟨g', cap', cur, hv, hb, hh, hnc, hcm, hcs, ht⟩
  · cases hv
  · injection hv with a b c
    injection a with a
    injection a with a
    subst a; subst c
    refine ⟨by simp; omega, .inr ⟨g, cap, cur, rfl, hb, hh, by omega, hcm, hcs, ?_⟩⟩
    rw [← ht, List.take_take]
    congr 1
    omega