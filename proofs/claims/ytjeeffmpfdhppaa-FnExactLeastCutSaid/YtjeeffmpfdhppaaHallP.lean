/-
  The first set of Hall in the program's order is the least one of the reference's order: plain words.
-/
import Derived.Test.YtjeeffmpfdhppaaHallS
import Derived.Test.YtjeeffmpfdhppaaChs
namespace Go.Proofs.Ytjeeffmpfdhppaa
open Go.RowKit
theorem befG_trans : ∀ a b c : List Int, befG a b = true → befG b c = true → befG a c = true
  | x :: xs, y :: ys, z :: zs, h1, h2 => by
    unfold befG at h1 h2 ⊢
    by_cases hxy : x = y
    · subst hxy
      rw [if_pos rfl] at h1
      by_cases hyz : x = z
      · rw [if_pos hyz] at h2 ⊢
        exact befG_trans xs ys zs h1 h2
      · rw [if_neg hyz] at h2 ⊢
        exact h2
    · rw [if_neg hxy] at h1
      have h1 := of_decide_eq_true h1
      by_cases hyz : y = z
      · subst hyz
        rw [if_neg hxy]
        exact decide_eq_true h1
      · rw [if_neg hyz] at h2
        have h2 := of_decide_eq_true h2
        rw [if_neg (by omega)]
        exact decide_eq_true (by omega)
  | [], _, _, h1, _ => by simp [befG] at h1
  | _ :: _, [], _, h1, _ => by simp [befG] at h1
  | _ :: _, _ :: _, [], _, h2 => by simp [befG] at h2
theorem befI_trans {a b c : List Int} (h1 : befI a b = true) (h2 : befI b c = true) : befI a c = true := by
  unfold befI at *
  by_cases hab : a.length = b.length
  · rw [if_pos hab] at h1
    by_cases hbc : b.length = c.length
    · rw [if_pos hbc] at h2
      rw [if_pos (by omega)]
      exact befG_trans _ _ _ h1 h2
    · rw [if_neg hbc] at h2
      have := of_decide_eq_true h2
      rw [if_neg (by omega)]
      exact decide_eq_true (by omega)
  · rw [if_neg hab] at h1
    have h1 := of_decide_eq_true h1
    by_cases hbc : b.length = c.length
    · rw [if_neg (by omega)]
      exact decide_eq_true (by omega)
    · rw [if_neg hbc] at h2
      have := of_decide_eq_true h2
      rw [if_neg (by omega)]
      exact decide_eq_true (by omega)
/-- The lists of k and more of the numbers 1 .. n, the short ones first. -/
def restL (n k : Nat) : List (List Int) := (List.range (n + 1 - k)).flatMap fun j => chL n (k + j) [] 1
theorem restL_step {n k : Nat} (h : k ≤ n) : restL n k = chL n k [] 1 ++ restL n (k + 1) := by
  unfold restL
  rw [show n + 1 - k = (n + 1 - (k + 1)) + 1 from by omega, List.range_succ_eq_map, List.flatMap_cons, List.flatMap_map]
  congr 1
  congr 1
  funext j
  rw [show k + (j + 1) = k + 1 + j from by omega]
theorem restL_end (n : Nat) : restL n (n + 1) = [] := by unfold restL; rw [Nat.sub_self]; rfl
/-- The first list that is a set of Hall. -/
def hallT (xss : List (List Int)) : List (List Int) → List Int × Bool
  | [] => ([], false)
  | s :: r => if hallB xss s then (s, true) else hallT xss r
theorem hallT_some {xss : List (List Int)} : ∀ {L : List (List Int)}, (hallT xss L).2 = false → (hallT xss L).1 = [] ∧ ∀ s ∈ L, hallB xss s = false
  | [], _ => ⟨rfl, by simp⟩
  | s :: r, h => by
    unfold hallT at h ⊢
    cases hs : hallB xss s
    · rw [hs] at h
      simp only [Bool.false_eq_true, if_false] at h ⊢
      have := hallT_some h
      exact ⟨this.1, fun t ht => by rcases List.mem_cons.1 ht with rfl | ht; exact hs; exact this.2 t ht⟩
    · rw [hs] at h
      simp at h
theorem hallT_least {xss : List (List Int)} : ∀ {L : List (List Int)}, L.Pairwise (fun a b => befI a b = true) → (hallT xss L).2 = true → (hallT xss L).1 ∈ L ∧ hallB xss (hallT xss L).1 = true ∧ ∀ s ∈ L, hallB xss s = true → s = (hallT xss L).1 ∨ befI (hallT xss L).1 s = true
  | [], _, h => by simp [hallT] at h
  | s :: r, hp, h => by
    unfold hallT at h ⊢
    cases hs : hallB xss s
    · rw [hs] at h
      simp only [Bool.false_eq_true, if_false] at h ⊢
      have := hallT_least (List.pairwise_cons.1 hp).2 h
      refine ⟨List.mem_cons_of_mem _ this.1, this.2.1, fun t ht hb => ?_⟩
      rcases List.mem_cons.1 ht with rfl | ht
      · rw [hs] at hb; cases hb
      · exact this.2.2 t ht hb
    · simp only [if_true]
      refine ⟨List.mem_cons_self, hs, fun t ht _ => ?_⟩
      rcases List.mem_cons.1 ht with rfl | ht
      · exact .inl rfl
      · exact .inr ((List.pairwise_cons.1 hp).1 t ht)
theorem hallF_none {xss : List (List Int)} : ∀ {c : Nat}, (hallF xss c).2 = false → (hallF xss c).1 = [] ∧ ∀ k, k < c → hallB xss (someOf k xss.length) = false
  | 0, _ => ⟨rfl, fun k h => by omega⟩
  | c + 1, h => by
    unfold hallF hallStep at h ⊢
    split at h
    · cases h
    · rename_i hn
      rw [if_neg hn]
      have := hallF_none h
      refine ⟨this.1, fun k hk => ?_⟩
      by_cases hkc : k = c
      · subst hkc
        rw [h] at hn
        simpa using hn
      · exact this.2 k (by omega)
theorem hallF_least {xss : List (List Int)} : ∀ {c : Nat}, (hallF xss c).2 = true → (∃ k, k < c ∧ (hallF xss c).1 = someOf k xss.length) ∧ hallB xss (hallF xss c).1 = true ∧ ∀ k, k < c → hallB xss (someOf k xss.length) = true → befI (someOf k xss.length) (hallF xss c).1 = false
  | 0, h => by simp [hallF] at h
  | c + 1, h => by
    unfold hallF hallStep at h ⊢
    by_cases hn : (hallB xss (someOf c xss.length) && (!(hallF xss c).2 || befI (someOf c xss.length) (hallF xss c).1)) = true
    · rw [if_pos hn]
      have hirr : ∀ a : List Int, befI a a = false := fun a => by
        unfold befI
        rw [if_pos rfl]
        induction a with
        | nil => rfl
        | cons x xs ih => unfold befG; rw [if_pos rfl]; exact ih
      rw [Bool.and_eq_true] at hn
      refine ⟨⟨c, by omega, rfl⟩, hn.1, fun k hk hb => ?_⟩
      by_cases hkc : k = c
      · rw [hkc]; exact hirr _
      · cases hf : (hallF xss c).2
        · rw [(hallF_none hf).2 k (by omega)] at hb
          cases hb
        · have h1 := (hallF_least hf).2.2 k (by omega) hb
          have h2 := hn.2
          rw [hf] at h2
          simp only [Bool.not_true, Bool.false_or] at h2
          cases hz : befI (someOf k xss.length) (someOf c xss.length)
          · rfl
          · rw [befI_trans hz h2] at h1
            cases h1
    · rw [if_neg hn] at h ⊢
      obtain ⟨⟨k0, h0, e0⟩, h1, h2⟩ := hallF_least h
      refine ⟨⟨k0, by omega, e0⟩, h1, fun k hk hb => ?_⟩
      by_cases hkc : k = c
      · subst hkc
        rw [hb, h] at hn
        simpa using hn
      · exact h2 k (by omega) hb
set_option maxRecDepth 100000 in
theorem restL_ok : ∀ n, n < 5 → (restL n 1).Pairwise (fun a b => befI a b = true) ∧ (∀ s ∈ restL n 1, ∃ k, k < 2 ^ n ∧ s = someOf k n) ∧ ∀ k, k < 2 ^ n → someOf k n = [] ∨ someOf k n ∈ restL n 1 := by decide +kernel
set_option maxRecDepth 100000 in
theorem chL_small : ∀ n, n < 5 → ∀ m, m < 5 → (chL n m [] 1).length ≤ 16 ∧ ∀ s ∈ chL n m [] 1, s.length ≤ 4 ∧ ∀ i ∈ s, 1 ≤ i ∧ i ≤ (n : Int) := by decide +kernel
theorem hall_first {xss : List (List Int)} (hn : xss.length < 5) : hallF xss (2 ^ xss.length) = hallT xss (restL xss.length 1) := by
  obtain ⟨hp, hm1, hm2⟩ := restL_ok _ hn
  have h0 : hallB xss [] = false := by unfold hallB; simp
  cases hF : (hallF xss (2 ^ xss.length)).2
  · obtain ⟨e1, h1⟩ := hallF_none hF
    cases hT : (hallT xss (restL xss.length 1)).2
    · rw [Prod.ext_iff]; exact ⟨e1.trans (hallT_some hT).1.symm, hF.trans hT.symm⟩
    · obtain ⟨a, b, _⟩ := hallT_least hp hT
      obtain ⟨k, hk, e⟩ := hm1 _ a
      rw [e, h1 k hk] at b
      cases b
  · obtain ⟨⟨k, hk, e⟩, hb, hl⟩ := hallF_least hF
    have hmem : (hallF xss (2 ^ xss.length)).1 ∈ restL xss.length 1 := by
      rcases hm2 k hk with h | h
      · rw [e, h, h0] at hb; cases hb
      · rw [e]; exact h
    cases hT : (hallT xss (restL xss.length 1)).2
    · rw [(hallT_some hT).2 _ hmem] at hb; cases hb
    · obtain ⟨a, b, c⟩ := hallT_least hp hT
      obtain ⟨k', hk', e'⟩ := hm1 _ a
      rcases c _ hmem hb with h | h
      · rw [Prod.ext_iff]; exact ⟨h, hF.trans hT.symm⟩
      · have := hl k' hk' (by rw [← e']; exact b)
        rw [← e', h] at this
        cases this
theorem hallR_bd (xss : List (List Int)) : Bd_IntS (hallR xss).1 := by
  unfold Bd_IntS hallR
  split
  · rename_i h
    have := (choice_inv h).2.1
    have := hallF_len xss (2 ^ xss.length)
    omega
  · simp
end Go.Proofs.Ytjeeffmpfdhppaa
