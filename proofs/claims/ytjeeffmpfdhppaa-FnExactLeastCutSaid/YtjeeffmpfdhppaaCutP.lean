/-
  The least cut in the program's order is the least one of the reference's order: plain words.
-/
import Derived.Test.YtjeeffmpfdhppaaHallP
namespace Go.Proofs.Ytjeeffmpfdhppaa
open Go.RowKit
/-- The vertices of a number's bits. -/
def vtxOf (code : Nat) : Nat → List Int
  | 0 => []
  | n + 1 => vtxOf code n ++ (if bitN code n = 1 then [(n : Int)] else [])
theorem vtxOf_len (code : Nat) : ∀ n, (vtxOf code n).length ≤ n
  | 0 => by simp [vtxOf]
  | n + 1 => by
    have := vtxOf_len code n
    rw [vtxOf, List.length_append]
    split <;> simp <;> omega
def midB (n : Nat) (s : List Int) : Bool := !(decide (3 * s.length < n) || decide (2 * n < 3 * s.length))
abbrev CutS := List Int × Nat × Bool
def lcStep (cst : List Int → Nat) (n : Nat) (t : CutS) (s : List Int) : CutS :=
  if midB n s && (!t.2.2 || decide (cst s < t.2.1) || (decide (cst s = t.2.1) && befI s t.1)) then (s, cst s, true) else t
def lcF (cst : List Int → Nat) (n : Nat) : Nat → CutS
  | 0 => ([], 0, false)
  | c + 1 => lcStep cst n (lcF cst n c) (vtxOf c n)
def lcG (cst : List Int → Nat) (t : CutS) (s : List Int) : CutS := if !t.2.2 || decide (cst s < t.2.1) then (s, cst s, true) else t
def lcT (cst : List Int → Nat) (L : List (List Int)) (t : CutS) : CutS := L.foldl (lcG cst) t
def decI (s : List Int) : List Int := s.map (· - 1)
/-- The sets of k and more of n vertices that are neither small nor big. -/
def midL (n k : Nat) : List (List Int) := (List.range (n + 1 - k)).flatMap fun j => if 3 * (k + j) < n ∨ 2 * n < 3 * (k + j) then [] else (chL n (k + j) [] 1).map decI
theorem midL_step {n k : Nat} (h : k ≤ n) : midL n k = (if 3 * k < n ∨ 2 * n < 3 * k then [] else (chL n k [] 1).map decI) ++ midL n (k + 1) := by
  unfold midL
  rw [show n + 1 - k = (n + 1 - (k + 1)) + 1 from by omega, List.range_succ_eq_map, List.flatMap_cons, List.flatMap_map]
  congr 1
  congr 1
  funext j
  rw [show k + (j + 1) = k + 1 + j from by omega]
theorem midL_end (n : Nat) : midL n (n + 1) = [] := by unfold midL; rw [Nat.sub_self]; rfl
def ltC (cst : List Int → Nat) (a b : List Int) : Bool := decide (cst a < cst b) || (decide (cst a = cst b) && befI a b)
theorem ltC_iff {cst : List Int → Nat} {a b : List Int} : ltC cst a b = true ↔ cst a < cst b ∨ (cst a = cst b ∧ befI a b = true) := by unfold ltC; simp
theorem befI_irr (a : List Int) : befI a a = false := by
  unfold befI
  rw [if_pos rfl]
  induction a with
  | nil => rfl
  | cons x xs ih => unfold befG; rw [if_pos rfl]; exact ih
theorem ltC_trans {cst : List Int → Nat} {a b c : List Int} (h1 : ltC cst a b = true) (h2 : ltC cst b c = true) : ltC cst a c = true := by
  rw [ltC_iff] at *
  rcases h1 with h1 | ⟨h1, h3⟩ <;> rcases h2 with h2 | ⟨h2, h4⟩
  · exact .inl (by omega)
  · exact .inl (by omega)
  · exact .inl (by omega)
  · exact .inr ⟨by omega, befI_trans h3 h4⟩
theorem ltC_irr (cst : List Int → Nat) (a : List Int) : ltC cst a a = false := by
  cases h : ltC cst a a
  · rfl
  · rw [ltC_iff, befI_irr] at h
    rcases h with h | ⟨_, h⟩
    · omega
    · cases h
def LcI (cst : List Int → Nat) (n c : Nat) (t : CutS) : Prop :=
  (t = ([], 0, false) ∧ ∀ k, k < c → midB n (vtxOf k n) = false) ∨
  (t.2.2 = true ∧ t.2.1 = cst t.1 ∧ (∃ k, k < c ∧ t.1 = vtxOf k n) ∧ midB n t.1 = true ∧ ∀ k, k < c → midB n (vtxOf k n) = true → ltC cst (vtxOf k n) t.1 = false)
theorem lcF_inv (cst : List Int → Nat) (n : Nat) : ∀ c, LcI cst n c (lcF cst n c)
  | 0 => .inl ⟨rfl, fun k h => by omega⟩
  | c + 1 => by
    have ih := lcF_inv cst n c
    rw [lcF]
    generalize lcF cst n c = t at *
    unfold lcStep
    rcases ih with ⟨rfl, h0⟩ | ⟨h1, h2, ⟨k0, hk0, e0⟩, h4, h5⟩
    · cases hm : midB n (vtxOf c n)
      · refine .inl ⟨rfl, fun k hk => ?_⟩
        by_cases e : k = c
        · rw [e]; exact hm
        · exact h0 k (by omega)
      · refine .inr ⟨rfl, rfl, ⟨c, by omega, rfl⟩, hm, fun k hk hb => ?_⟩
        by_cases e : k = c
        · rw [e]; exact ltC_irr _ _
        · rw [h0 k (by omega)] at hb; cases hb
    · obtain ⟨b, f, q⟩ := t
      dsimp only at h1 h2 e0 h4 h5 ⊢
      subst h1; subst h2
      by_cases hn : (midB n (vtxOf c n) && (!true || decide (cst (vtxOf c n) < cst b) || (decide (cst (vtxOf c n) = cst b) && befI (vtxOf c n) b))) = true
      · rw [if_pos hn]
        rw [Bool.and_eq_true] at hn
        have hlt : ltC cst (vtxOf c n) b = true := by have := hn.2; simpa [ltC] using this
        refine .inr ⟨rfl, rfl, ⟨c, by omega, rfl⟩, hn.1, fun k hk hb => ?_⟩
        by_cases e : k = c
        · rw [e]; exact ltC_irr _ _
        · have := h5 k (by omega) hb
          cases hz : ltC cst (vtxOf k n) (vtxOf c n)
          · rfl
          · rw [ltC_trans hz hlt] at this; cases this
      · rw [if_neg hn]
        refine .inr ⟨rfl, rfl, ⟨k0, by omega, e0⟩, h4, fun k hk hb => ?_⟩
        by_cases e : k = c
        · subst e
          rw [hb] at hn
          cases hz : ltC cst (vtxOf k n) b
          · rfl
          · exact absurd (by simpa [ltC] using hz) hn
        · exact h5 k (by omega) hb
def LtI (cst : List Int → Nat) (P : List (List Int)) (t : CutS) : Prop :=
  (t = ([], 0, false) ∧ P = []) ∨
  (t.2.2 = true ∧ t.2.1 = cst t.1 ∧ t.1 ∈ P ∧ ∀ s ∈ P, cst t.1 ≤ cst s ∧ (cst s = cst t.1 → s = t.1 ∨ befI t.1 s = true))
theorem lcT_inv (cst : List Int → Nat) : ∀ (L P : List (List Int)) (t : CutS), (P ++ L).Pairwise (fun a b => befI a b = true) → LtI cst P t → LtI cst (P ++ L) (lcT cst L t)
  | [], P, t, _, h => by rw [List.append_nil]; exact h
  | s :: L, P, t, hp, h => by
    have e : P ++ s :: L = (P ++ [s]) ++ L := by simp
    have hps : ∀ x ∈ P, befI x s = true := fun x hx => (List.pairwise_append.1 hp).2.2 x hx s List.mem_cons_self
    rw [e] at hp ⊢
    refine lcT_inv cst L (P ++ [s]) (lcG cst t s) hp ?_
    unfold lcG
    rcases h with ⟨rfl, rfl⟩ | ⟨h1, h2, h3, h4⟩
    · refine .inr ⟨rfl, rfl, by simp, fun x hx => ?_⟩
      obtain rfl : x = s := by simpa using hx
      exact ⟨Nat.le_refl _, fun _ => .inl rfl⟩
    · obtain ⟨b, f, q⟩ := t
      dsimp only at h1 h2 h3 h4 ⊢
      subst h1; subst h2
      by_cases hn : (!true || decide (cst s < cst b)) = true
      · rw [if_pos hn]
        have hlt : cst s < cst b := by simpa using hn
        refine .inr ⟨rfl, rfl, by simp, fun x hx => ?_⟩
        rcases List.mem_append.1 hx with hx | hx
        · have := (h4 x hx).1
          exact ⟨Nat.le_of_lt (Nat.lt_of_lt_of_le hlt this), fun e => by dsimp only at e; omega⟩
        · obtain rfl : x = s := by simpa using hx
          exact ⟨Nat.le_refl _, fun _ => .inl rfl⟩
      · rw [if_neg hn]
        have hlt : cst b ≤ cst s := by simpa using hn
        refine .inr ⟨rfl, rfl, List.mem_append_left _ h3, fun x hx => ?_⟩
        rcases List.mem_append.1 hx with hx | hx
        · exact h4 x hx
        · obtain rfl : x = s := by simpa using hx
          exact ⟨hlt, fun _ => .inr (hps b h3)⟩
def codeOf (s : List Int) : Nat := s.foldl (fun a i => a + 2 ^ i.toNat) 0
set_option maxRecDepth 100000 in
theorem midL_ok : ∀ n, n < 9 → (midL n 0).Pairwise (fun a b => befI a b = true) ∧ (∀ s ∈ midL n 0, midB n s = true ∧ codeOf s < 2 ^ n ∧ s = vtxOf (codeOf s) n) ∧ ∀ k, k < 2 ^ n → midB n (vtxOf k n) = true → vtxOf k n ∈ midL n 0 := by decide +kernel
set_option maxRecDepth 100000 in
theorem chL_mid : ∀ n, n < 9 → ∀ m, m < 9 → (chL n m [] 1).length ≤ 256 ∧ ∀ s ∈ chL n m [] 1, s.length ≤ 8 ∧ m ≤ s.length ∧ ∀ i ∈ s, 1 ≤ i ∧ i ≤ (n : Int) := by decide +kernel
theorem cut_first (cst : List Int → Nat) {n : Nat} (hn : n < 9) : lcF cst n (2 ^ n) = lcT cst (midL n 0) ([], 0, false) := by
  obtain ⟨hp, hm1, hm2⟩ := midL_ok n hn
  have hF := lcF_inv cst n (2 ^ n)
  have hT := lcT_inv cst (midL n 0) [] ([], 0, false) hp (.inl ⟨rfl, rfl⟩)
  rw [List.nil_append] at hT
  generalize lcF cst n (2 ^ n) = t at *
  generalize lcT cst (midL n 0) ([], 0, false) = u at *
  rcases hF with ⟨rfl, h0⟩ | ⟨h1, h2, ⟨k, hk, e⟩, h4, h5⟩
  · rcases hT with ⟨rfl, _⟩ | ⟨_, _, g3, _⟩
    · rfl
    · obtain ⟨a, b, c⟩ := hm1 _ g3
      rw [c, h0 _ b] at a
      cases a
  · have hmem : t.1 ∈ midL n 0 := by rw [e]; exact hm2 k hk (by rw [← e]; exact h4)
    rcases hT with ⟨rfl, g0⟩ | ⟨g1, g2, g3, g4⟩
    · rw [g0] at hmem; simp at hmem
    · obtain ⟨a, b, c⟩ := hm1 _ g3
      have hx := h5 _ b (by rw [← c]; exact a)
      rw [← c] at hx
      have hy := g4 _ hmem
      have hz : ¬ (cst u.1 < cst t.1 ∨ (cst u.1 = cst t.1 ∧ befI u.1 t.1 = true)) := fun h => by rw [ltC_iff.2 h] at hx; cases hx
      have hc : cst t.1 = cst u.1 := by
        have := hy.1
        have : ¬ cst u.1 < cst t.1 := fun h => hz (.inl h)
        omega
      have he : t.1 = u.1 := by
        rcases hy.2 hc with h | h
        · exact h
        · exact absurd (.inr ⟨hc.symm, h⟩) hz
      obtain ⟨t1, t2, t3⟩ := t
      obtain ⟨u1, u2, u3⟩ := u
      dsimp only at *
      subst he
      rw [h2, g2, h1, g1]
end Go.Proofs.Ytjeeffmpfdhppaa
