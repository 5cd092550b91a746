/-
  Shortest ways to an end in a graph, in plain words: what is within so many steps; the search with a queue finds the distances. No condition.
-/
import Derived.Test.YtapgpjhogdmjbaaBase
namespace Go.Proofs.Ytapgpjhogdmjbaa
namespace Peb
/-- Within so many steps of an end. E P Q: a step leads from P to Q; D P: P is an end. -/
def wN (E : Nat → Nat → Bool) (D : Nat → Bool) (M : Nat) : Nat → Nat → Bool
  | 0, P => D P
  | k + 1, P => wN E D M k P || (List.range M).any fun Q => E P Q && wN E D M k Q
section
variable {E : Nat → Nat → Bool} {D : Nat → Bool} {M : Nat}
theorem wN_step {k P : Nat} : wN E D M (k + 1) P = true ↔ wN E D M k P = true ∨ ∃ Q, Q < M ∧ E P Q = true ∧ wN E D M k Q = true := by
  rw [wN, Bool.or_eq_true, List.any_eq_true]
  constructor
  · rintro (h | ⟨Q, h1, h2⟩)
    · exact .inl h
    · rw [Bool.and_eq_true] at h2
      exact .inr ⟨Q, List.mem_range.1 h1, h2.1, h2.2⟩
  · rintro (h | ⟨Q, h1, h2, h3⟩)
    · exact .inl h
    · exact .inr ⟨Q, List.mem_range.2 h1, by rw [Bool.and_eq_true]; exact ⟨h2, h3⟩⟩
theorem wN_mono {j k P : Nat} (h : j ≤ k) (hw : wN E D M j P = true) : wN E D M k P = true := by
  induction h with
  | refl => exact hw
  | step _ ih => exact wN_step.2 (.inl ih)
/-- The distance is d. -/
def Dst (E : Nat → Nat → Bool) (D : Nat → Bool) (M d P : Nat) : Prop := wN E D M d P = true ∧ ∀ j, j < d → wN E D M j P = false
theorem Dst.uniq {d e P : Nat} (h : Dst E D M d P) (k : Dst E D M e P) : d = e := by
  rcases Nat.lt_trichotomy d e with hlt | he | hlt
  · have := k.2 d hlt; rw [h.1] at this; cases this
  · exact he
  · have := h.2 e hlt; rw [k.1] at this; cases this
theorem dst_of {k P : Nat} (h : wN E D M k P = true) : ∃ d, d ≤ k ∧ Dst E D M d P := by
  induction k with
  | zero => exact ⟨0, Nat.le_refl _, h, fun j hj => absurd hj (Nat.not_lt_zero _)⟩
  | succ k ih =>
    cases hk : wN E D M k P
    · refine ⟨k + 1, Nat.le_refl _, h, fun j hj => ?_⟩
      cases hj2 : wN E D M j P
      · rfl
      · rw [wN_mono (by omega) hj2] at hk; cases hk
    · obtain ⟨d, h1, h2⟩ := ih hk
      exact ⟨d, by omega, h2⟩
/-- From a distance d + 1 a step leads to a distance d. -/
theorem Dst.pred {d P : Nat} (h : Dst E D M (d + 1) P) : ∃ Q, Q < M ∧ E P Q = true ∧ Dst E D M d Q := by
  rcases wN_step.1 h.1 with h1 | ⟨Q, h1, h2, h3⟩
  · have := h.2 d (by omega); rw [h1] at this; cases this
  · refine ⟨Q, h1, h2, h3, fun j hj => ?_⟩
    cases hq : wN E D M j Q
    · rfl
    · have := h.2 (j + 1) (by omega)
      rw [wN_step.2 (.inr ⟨Q, h1, h2, hq⟩)] at this
      cases this
/-! ### The search with a queue -/
def fa (F : List Int) (P : Nat) : Int := F.getD P (-1)
theorem fa_set {F : List Int} {b P : Nat} {x : Int} (hb : b < F.length) : fa (F.set b x) P = if P = b then x else fa F P := by
  unfold fa
  rw [List.getD_eq_getElem?_getD, List.getD_eq_getElem?_getD, List.getElem?_set]
  by_cases e : b = P
  · subst e; rw [if_pos rfl, if_pos rfl, if_pos hb]; rfl
  · rw [if_neg e, if_neg (fun h => e h.symm)]
/-- The state when k of the queue are done, and of the next one the steps from those in S. -/
structure Bfs (E : Nat → Nat → Bool) (D : Nat → Bool) (M : Nat) (F : List Int) (ln : List Nat) (k : Nat) (S : Nat → Prop) : Prop where
  fl : F.length = M
  lt : ∀ P ∈ ln, P < M
  a1 : ∀ P ∈ ln, ∃ d : Nat, fa F P = (d : Int) ∧ Dst E D M d P
  a2 : ∀ P, P < M → P ∉ ln → fa F P = -1
  so : ∀ i j (hi : i < ln.length) (hj : j < ln.length), i ≤ j → fa F ln[i] ≤ fa F ln[j]
  c : ∀ (hk : k < ln.length) i (hi : i < ln.length), fa F ln[i] ≤ fa F ln[k] + 1
  e : ∀ i (hi : i < ln.length), i < k → ∀ P, P < M → E P ln[i] = true → P ∈ ln
  s : ∀ (hk : k < ln.length) P, P < M → S P → E P ln[k] = true → P ∈ ln
  z : ∀ P, P < M → D P = true → P ∈ ln
  kl : k ≤ ln.length
  nd : ln.Nodup
variable {F : List Int} {ln : List Nat} {k : Nat} {S : Nat → Prop}
/-- All that lie no farther than the one in work are in the queue. -/
theorem Bfs.near (h : Bfs E D M F ln k S) (hk : k < ln.length) {d : Nat} (hd : fa F ln[k] = (d : Int)) : ∀ j P, P < M → Dst E D M j P → j ≤ d → P ∈ ln
  | 0, P, hP, hj, _ => h.z P hP hj.1
  | j + 1, P, hP, hj, hjd => by
    obtain ⟨Q, h1, h2, h3⟩ := hj.pred
    have hQ := h.near hk hd j Q h1 h3 (by omega)
    obtain ⟨i, hi, rfl⟩ := List.mem_iff_getElem.1 hQ
    obtain ⟨dq, hq1, hq2⟩ := h.a1 ln[i] hQ
    have := hq2.uniq h3
    subst this
    have hik : i < k := by
      rcases Nat.lt_or_ge i k with hlt | hge
      · exact hlt
      · have := h.so k i hk hi hge
        omega
    exact h.e i hi hik P hP h2
/-- One that is new goes to the queue's end. -/
theorem Bfs.push (h : Bfs E D M F ln k S) (hk : k < ln.length) {b : Nat} (hb : b < M) (hE : E b ln[k] = true) (hf : fa F b < 0) :
    Bfs E D M (F.set b (fa F ln[k] + 1)) (ln ++ [b]) k (fun P => S P ∨ P = b) := by
  have hnb : b ∉ ln := fun hm => by
    obtain ⟨d, h1, _⟩ := h.a1 b hm
    omega
  have hbl : b < F.length := by rw [h.fl]; exact hb
  obtain ⟨d, hd, hdd⟩ := h.a1 ln[k] (List.getElem_mem hk)
  have hfo : ∀ P, P ∈ ln → fa (F.set b (fa F ln[k] + 1)) P = fa F P := fun P hP => by
    rw [fa_set hbl, if_neg (fun e => hnb (by rw [← e]; exact hP))]
  have hfb : fa (F.set b (fa F ln[k] + 1)) b = (d : Int) + 1 := by rw [fa_set hbl, if_pos rfl, hd]
  have hdb : Dst E D M (d + 1) b := by
    refine ⟨wN_step.2 (.inr ⟨ln[k], h.lt _ (List.getElem_mem hk), hE, hdd.1⟩), fun j hj => ?_⟩
    cases hw : wN E D M j b
    · rfl
    · obtain ⟨d', h1, h2⟩ := dst_of hw
      exact absurd (h.near hk hd d' b hb h2 (by omega)) hnb
  have hget : ∀ i (hi : i < (ln ++ [b]).length), (hl : i < ln.length) → (ln ++ [b])[i] = ln[i] := fun i hi hl => List.getElem_append_left hl
  have hlast : ∀ (hi : ln.length < (ln ++ [b]).length), (ln ++ [b])[ln.length] = b := fun hi => by simp
  have hlen : (ln ++ [b]).length = ln.length + 1 := by simp
  have hup : ∀ i (hi : i < (ln ++ [b]).length), fa (F.set b (fa F ln[k] + 1)) (ln ++ [b])[i] ≤ (d : Int) + 1 := fun i hi => by
    by_cases hl : i < ln.length
    · rw [hget i hi hl, hfo _ (List.getElem_mem hl)]
      have := h.c hk i hl
      omega
    · have : i = ln.length := by omega
      subst this
      rw [hlast hi, hfb]
      exact Int.le_refl _
  refine ⟨by rw [List.length_set]; exact h.fl, fun P hP => ?_, fun P hP => ?_, fun P hP hn => ?_, fun i j hi hj hij => ?_, fun hk' i hi => ?_, fun i hi hik P hP hEP => ?_, fun hk' P hP hS hEP => ?_, fun P hP hDP => List.mem_append.2 (.inl (h.z P hP hDP)), by omega, ?_⟩
  · rcases List.mem_append.1 hP with hP | hP
    · exact h.lt P hP
    · obtain rfl := List.mem_singleton.1 hP; exact hb
  · rcases List.mem_append.1 hP with hP | hP
    · rw [hfo P hP]; exact h.a1 P hP
    · obtain rfl := List.mem_singleton.1 hP
      exact ⟨d + 1, by rw [hfb]; rfl, hdb⟩
  · rw [fa_set hbl, if_neg (fun e => hn (by rw [e]; simp))]
    exact h.a2 P hP (fun hm => hn (List.mem_append.2 (.inl hm)))
  · by_cases hjl : j < ln.length
    · rw [hget i hi (by omega), hget j hj hjl, hfo _ (List.getElem_mem _), hfo _ (List.getElem_mem _)]
      exact h.so i j (by omega) hjl hij
    · have : j = ln.length := by omega
      subst this
      rw [hlast hj, hfb]
      exact hup i hi
  · rw [hget k hk' hk, hfo _ (List.getElem_mem hk)]
    have := hup i hi
    omega
  · rw [hget i hi (by omega)] at hEP
    exact List.mem_append.2 (.inl (h.e i (by omega) hik P hP hEP))
  · rw [hget k hk' hk] at hEP
    rcases hS with hS | rfl
    · exact List.mem_append.2 (.inl (h.s hk P hP hS hEP))
    · simp
  · exact List.nodup_append.2 ⟨h.nd, by simp, fun x hx y hy e => by
      obtain rfl := List.mem_singleton.1 hy
      exact hnb (by rw [← e]; exact hx)⟩
/-- One that is no step, or known already. -/
theorem Bfs.skip (h : Bfs E D M F ln k S) (hk : k < ln.length) {b : Nat} (hb : b < M) (hE : E b ln[k] = false ∨ ¬ fa F b < 0) : Bfs E D M F ln k (fun P => S P ∨ P = b) :=
  ⟨h.fl, h.lt, h.a1, h.a2, h.so, h.c, h.e, fun hk' P hP hS hEP => by
    rcases hS with hS | rfl
    · exact h.s hk' P hP hS hEP
    · rcases hE with hE | hE
      · rw [hE] at hEP; cases hEP
      · by_cases hm : P ∈ ln
        · exact hm
        · have := h.a2 P hP hm; omega, h.z, h.kl, h.nd⟩
/-- The one in work is done. -/
theorem Bfs.next (h : Bfs E D M F ln k S) (hk : k < ln.length) (hS : ∀ P, P < M → E P ln[k] = true → S P) : Bfs E D M F ln (k + 1) (fun _ => False) :=
  ⟨h.fl, h.lt, h.a1, h.a2, h.so, fun hk' i hi => by
    have h1 := h.c hk i hi
    have h2 := h.so k (k + 1) hk hk' (by omega)
    omega, fun i hi hik P hP hEP => by
    by_cases e : i = k
    · subst e; exact h.s hk P hP (hS P hP hEP) hEP
    · exact h.e i hi (by omega) P hP hEP, fun _ _ _ hf _ => hf.elim, h.z, hk, h.nd⟩
/-- What the queue has found at its end: the distances. -/
theorem Bfs.fin (h : Bfs E D M F ln ln.length S) : (∀ P d, P < M → Dst E D M d P → fa F P = (d : Int)) ∧ ∀ P, P < M → (∀ d, ¬ Dst E D M d P) → fa F P = -1 := by
  have hall : ∀ j P, P < M → Dst E D M j P → P ∈ ln := by
    intro j
    induction j with
    | zero => intro P hP hj; exact h.z P hP hj.1
    | succ j ih =>
      intro P hP hj
      obtain ⟨Q, h1, h2, h3⟩ := hj.pred
      obtain ⟨i, hi, rfl⟩ := List.mem_iff_getElem.1 (ih Q h1 h3)
      exact h.e i hi hi P hP h2
  refine ⟨fun P d hP hd => ?_, fun P hP hn => h.a2 P hP fun hm => ?_⟩
  · obtain ⟨e, h1, h2⟩ := h.a1 P (hall d P hP hd)
    rw [h1, h2.uniq hd]
  · obtain ⟨e, _, h2⟩ := h.a1 P hm
    exact hn e h2
/-- All distances. -/
structure FinD (E : Nat → Nat → Bool) (D : Nat → Bool) (M : Nat) (F : List Int) : Prop where
  fl : F.length = M
  yes : ∀ P d, P < M → Dst E D M d P → fa F P = (d : Int)
  no : ∀ P, P < M → (∀ d, ¬ Dst E D M d P) → fa F P = -1
theorem Bfs.done (h : Bfs E D M F ln ln.length S) : FinD E D M F := ⟨h.fl, h.fin.1, h.fin.2⟩
theorem FinD.uniq {G : List Int} (h : FinD E D M F) (g : FinD E D M G) : F = G := by
  apply List.ext_getElem (by rw [h.fl, g.fl])
  intro P h1 h2
  have hP : P < M := by rw [← h.fl]; exact h1
  have e : fa F P = fa G P := by
    by_cases hd : ∃ d, Dst E D M d P
    · obtain ⟨d, hd⟩ := hd
      rw [h.yes P d hP hd, g.yes P d hP hd]
    · rw [h.no P hP fun d hd' => hd ⟨d, hd'⟩, g.no P hP fun d hd' => hd ⟨d, hd'⟩]
  simpa [fa, List.getD_eq_getElem?_getD, h1, h2] using e
/-! ### The search in rounds -/
/-- Distances up to r are written down. -/
structure Rnd (E : Nat → Nat → Bool) (D : Nat → Bool) (M r : Nat) (F : List Int) : Prop where
  fl : F.length = M
  yes : ∀ P d, P < M → d ≤ r → Dst E D M d P → fa F P = (d : Int)
  no : ∀ P, P < M → (∀ d, d ≤ r → ¬ Dst E D M d P) → fa F P = -1
theorem Rnd.start (hl : F.length = M) (h : ∀ P, P < M → fa F P = if D P then 0 else -1) : Rnd E D M 0 F := by
  refine ⟨hl, fun P d hP hd hD => ?_, fun P hP hn => ?_⟩
  · obtain rfl : d = 0 := by omega
    have h1 : D P = true := hD.1
    rw [h P hP, if_pos h1]; rfl
  · rw [h P hP]; exact if_neg fun hD => hn 0 (Nat.le_refl _) ⟨hD, fun j hj => absurd hj (Nat.not_lt_zero _)⟩
/-- Which ones a round finds. -/
theorem Rnd.found {r : Nat} (h : Rnd E D M r F) {P : Nat} (hP : P < M) : (fa F P < 0 ∧ ∃ Q, Q < M ∧ E P Q = true ∧ fa F Q = (r : Int)) ↔ Dst E D M (r + 1) P := by
  constructor
  · rintro ⟨h1, Q, hQ, h2, h3⟩
    have hQd : Dst E D M r Q := by
      by_cases hd : ∃ d, d ≤ r ∧ Dst E D M d Q
      · obtain ⟨d, hd1, hd2⟩ := hd
        have := h.yes Q d hQ hd1 hd2
        have e : d = r := by omega
        rw [← e]; exact hd2
      · have := h.no Q hQ fun d hd1 hd2 => hd ⟨d, hd1, hd2⟩
        omega
    refine ⟨wN_step.2 (.inr ⟨Q, hQ, h2, hQd.1⟩), fun j hj => ?_⟩
    cases hw : wN E D M j P
    · rfl
    · obtain ⟨d, hd1, hd2⟩ := dst_of hw
      have := h.yes P d hP (by omega) hd2
      omega
  · intro hd
    obtain ⟨Q, h1, h2, h3⟩ := hd.pred
    refine ⟨?_, Q, h1, h2, h.yes Q r h1 (Nat.le_refl _) h3⟩
    have := h.no P hP fun d hd1 hd2 => by have := hd.uniq hd2; omega
    omega
/-- A round that finds none is the last. -/
theorem Rnd.last {r : Nat} (h : Rnd E D M r F) (hn : ∀ P, P < M → ¬ Dst E D M (r + 1) P) : FinD E D M F := by
  have hno : ∀ d, r < d → ∀ P, P < M → ¬ Dst E D M d P := by
    intro d
    induction d with
    | zero => intro h0; omega
    | succ d ih =>
      intro hd P hP hD
      by_cases e : d = r
      · subst e; exact hn P hP hD
      · obtain ⟨Q, h1, _, h3⟩ := hD.pred
        exact ih (by omega) Q h1 h3
  refine ⟨h.fl, fun P d hP hd => ?_, fun P hP hd => h.no P hP fun d _ => hd d⟩
  rcases Nat.lt_or_ge r d with hlt | hge
  · exact absurd hd (hno d hlt P hP)
  · exact h.yes P d hP hge hd
/-- What a round leaves. -/
theorem Rnd.next {r : Nat} {G : List Int} (h : Rnd E D M r F) (hl : G.length = M) (hy : ∀ P, P < M → Dst E D M (r + 1) P → fa G P = (r : Int) + 1) (hn : ∀ P, P < M → ¬ Dst E D M (r + 1) P → fa G P = fa F P) : Rnd E D M (r + 1) G := by
  refine ⟨hl, fun P d hP hd hD => ?_, fun P hP hno => ?_⟩
  · by_cases e : d = r + 1
    · subst e; rw [hy P hP hD]; rfl
    · rw [hn P hP fun h2 => e (hD.uniq h2)]
      exact h.yes P d hP (by omega) hD
  · rw [hn P hP (hno (r + 1) (Nat.le_refl _))]
    exact h.no P hP fun d hd => hno d (by omega)
end
end Peb
end Go.Proofs.Ytapgpjhogdmjbaa
