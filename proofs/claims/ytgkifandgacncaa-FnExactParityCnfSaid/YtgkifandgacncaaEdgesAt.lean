/-
  EdgesAt of both sides. Condition: sizes up to 2^20.
-/
import Derived.Test.YtgkifandgacncaaChgG
import Derived.Test.YtgkifandgacncaaLawC
namespace Go.Proofs.Ytgkifandgacncaa
open Go.RowKit
theorem edges_inv {n : Int} {es : List (Int × Int)} (h : edgesG n es = true) : ∀ e ∈ es, 0 ≤ e.1 ∧ e.1 < e.2 ∧ e.2 < n := by
  induction es with
  | nil => intro e he; simp at he
  | cons x r ih =>
    intro e he
    unfold edgesG at h
    split at h
    · rename_i hx
      rcases List.mem_cons.1 he with rfl | he
      · exact hx
      · exact ih h e he
    · cases h
theorem charges_inv {es : List (Int × Int)} {cs : List Int} : ∀ k, chargesG es k cs = true → (∀ c ∈ cs, 0 ≤ c ∧ c ≤ 1) ∧ ∀ j, j < cs.length → degB es (k + j) = true := by
  induction cs with
  | nil => intro k _; exact ⟨fun c hc => by simp at hc, fun j hj => by simp at hj⟩
  | cons x r ih =>
    intro k h
    unfold chargesG at h
    split at h
    · rename_i hx
      obtain ⟨h1, h2⟩ := ih _ h
      refine ⟨fun c hc => ?_, fun j hj => ?_⟩
      · rcases List.mem_cons.1 hc with rfl | hc
        · exact inB_iff.1 hx.1
        · exact h1 c hc
      · cases j with
        | zero => exact hx.2
        | succ j => have := h2 j (by simpa using hj); rwa [show k + (j + 1) = k + 1 + j from by omega]
    · cases h
theorem goodC_inv {g : Chg} (h : goodC g = true) : 1 ≤ g.n ∧ g.n ≤ 8 ∧ g.es.length ≤ 12 ∧ (g.cs.length : Int) = g.n ∧ (∀ e ∈ g.es, 0 ≤ e.1 ∧ e.1 < e.2 ∧ e.2 < g.n) ∧ (∀ c ∈ g.cs, 0 ≤ c ∧ c ≤ 1) ∧ ∀ j, j < g.cs.length → degB g.es j = true := by
  unfold goodC at h
  split at h
  · rename_i h1
    split at h
    · rename_i h2
      split at h
      · rename_i h3
        split at h
        · rename_i h4
          have := inB_iff.1 h1
          obtain ⟨a, b⟩ := charges_inv 0 h
          exact ⟨this.1, this.2, h2, h3, edges_inv h4, a, fun j hj => by have := b j hj; simpa using this⟩
        · cases h
      · cases h
    · cases h
  · cases h
def edgesAtB (g : Chg) (v : Int) : Bool := goodC g && inB v 0 (g.n - 1)
def edgesAtL (g : Chg) (v : Int) : List Int := if edgesAtB g v then atN g.es v g.es.length else []
theorem edgesAt_bd (g : Chg) (v : Int) (b : Bd_Charged g) : Bd_IntS (edgesAtL g v) := by
  unfold edgesAtL Bd_IntS
  split
  · exact Nat.le_trans (atN_len _ _ _) b.1
  · simp
end Go.Proofs.Ytgkifandgacncaa
