/-
  FreeChoices of both sides. Conditions: sizes up to 2^20.
-/
import Derived.Test.YthiflbcodbigbaaHull
import Derived.Test.YthiflbcodbigbaaWeakS
namespace Go.Proofs.Ythiflbcodbigbaa
open Go.RowKit
/-! ### bits -/
def mkBits (p : Nat → Bool) : Nat → Nat
  | 0 => 0
  | n + 1 => mkBits p n + (if p n then 2 ^ n else 0)
theorem mkBits_lt (p : Nat → Bool) : ∀ n, mkBits p n < 2 ^ n
  | 0 => by simp [mkBits]
  | n + 1 => by
    have := mkBits_lt p n
    unfold mkBits
    rw [Nat.pow_succ]
    split <;> omega
theorem mkBits_bit (p : Nat → Bool) : ∀ n i, i < n → bitN (mkBits p n) i = if p i then 1 else 0
  | 0, i, h => by omega
  | n + 1, i, h => by
    have hlt := mkBits_lt p n
    unfold mkBits
    by_cases e : i = n
    · subst e
      unfold bitN
      cases p i
      · simp only [Bool.false_eq_true, if_false, Nat.add_zero]
        rw [Nat.div_eq_of_lt hlt]
      · simp only [if_true]
        rw [Nat.add_div_right _ (Nat.two_pow_pos i), Nat.div_eq_of_lt hlt]
    · have ih := mkBits_bit p n i (by omega)
      rw [← ih]
      unfold bitN
      cases p n
      · simp
      · simp only [if_true]
        have e2 : 2 ^ n = 2 ^ i * (2 * 2 ^ (n - i - 1)) := by rw [← Nat.pow_succ', ← Nat.pow_add]; congr 1; omega
        rw [e2, Nat.add_mul_div_left _ _ (Nat.two_pow_pos i)]
        omega
theorem numU_inj {vs : List Int} {b c : Nat} : ∀ k, numU vs b k = numU vs c k → ∀ i, i < k → bitN b (vs.getD i 1 - 1).toNat = bitN c (vs.getD i 1 - 1).toNat
  | 0, _, i, hi => by omega
  | k + 1, h, i, hi => by
    have h1 := numU_lt vs b k
    have h2 := numU_lt vs c k
    have t1 := bitN_lt b (vs.getD k 1 - 1).toNat
    have t2 := bitN_lt c (vs.getD k 1 - 1).toNat
    unfold numU at h
    have key : numU vs b k = numU vs c k ∧ bitN b (vs.getD k 1 - 1).toNat = bitN c (vs.getD k 1 - 1).toNat := by
      generalize bitN b (vs.getD k 1 - 1).toNat = x at *
      generalize bitN c (vs.getD k 1 - 1).toNat = y at *
      generalize numU vs b k = u at *
      generalize numU vs c k = v at *
      generalize 2 ^ k = P at *
      have hx : x = 0 ∨ x = 1 := by omega
      have hy : y = 0 ∨ y = 1 := by omega
      rcases hx with rfl | rfl <;> rcases hy with rfl | rfl <;> simp at h ⊢ <;> omega
    by_cases e : i = k
    · subst e; exact key.2
    · exact numU_inj k key.1 i (by omega)
theorem numOf_mem {vs : List Int} {b c : Nat} (h : numOf vs b = numOf vs c) {v : Int} (hv : v ∈ vs) : bitN b (v - 1).toNat = bitN c (v - 1).toNat := by
  obtain ⟨i, hi, rfl⟩ := List.mem_iff_getElem.1 hv
  have := numU_inj vs.length h i hi
  rwa [show vs.getD i 1 = vs[i] by simp [List.getD, hi]] at this
theorem allT_iff (b : Nat) (cs : List (List Int)) : allT b cs = true ↔ ∀ c ∈ cs, trueB b c = true := by
  unfold allT
  rw [anyL_eq]
  simp
theorem trueB_congr {b b' : Nat} {c : List Int} (h : ∀ l ∈ c, bitN b (absI l - 1).toNat = bitN b' (absI l - 1).toNat) : trueB b c = trueB b' c :=
  anyI_congr fun l hl => by unfold litT; rw [h l hl]
/-! ### the two sides agree somewhere -/
def satB (n : Nat) (cs : List (List Int)) : Bool := (List.range (2 ^ n)).any fun b => allT b cs
def confB (sv wv : List Bool) : Bool := (List.range sv.length).any fun i => sv.getD i false && !wv.getD i false
theorem possV_at {vs : List Int} {cs : List (List Int)} {K i : Nat} (h : i < 2 ^ vs.length) : (possV vs cs K).getD i false = (List.range K).any fun b => allT b cs && (numOf vs b == i) := by
  have hl : i < (possV vs cs K).length := by rw [possV_len]; exact h
  rw [show (possV vs cs K).getD i false = (possV vs cs K)[i] by simp [List.getD, hl]]
  simp [possV]
theorem possW_at {vs : List Int} {cs : List (List Int)} {K i : Nat} (h : i < 2 ^ vs.length) : ((possV vs cs K).map (!·)).getD i false = !(List.range K).any fun b => allT b cs && (numOf vs b == i) := by
  have hl : i < (possV vs cs K).length := by rw [possV_len]; exact h
  rw [← possV_at h]
  simp [List.getD, hl]
theorem sat_conf {f : Cnf} (hg : goodB f = true) {k : Nat} : satB f.n.toNat f.cs = confB (possV (bothV f k f.n.toNat) (f.cs.take k) (2 ^ f.n.toNat)) ((possV (bothV f k f.n.toNat) (f.cs.drop k) (2 ^ f.n.toNat)).map (!·)) := by
  rw [Bool.eq_iff_iff]
  unfold satB confB
  rw [possV_len, List.any_eq_true, List.any_eq_true]
  constructor
  · rintro ⟨b, hb, ha⟩
    rw [allT_iff] at ha
    have hi : numOf (bothV f k f.n.toNat) b < 2 ^ (bothV f k f.n.toNat).length := numU_lt _ _ _
    refine ⟨numOf (bothV f k f.n.toNat) b, List.mem_range.2 hi, ?_⟩
    rw [possV_at hi, possW_at hi, Bool.not_not, Bool.and_eq_true]
    refine ⟨List.any_eq_true.2 ⟨b, hb, ?_⟩, List.any_eq_true.2 ⟨b, hb, ?_⟩⟩
    · rw [(allT_iff _ _).2 fun c hc => ha c (mem_t c hc)]; simp
    · rw [(allT_iff _ _).2 fun c hc => ha c (mem_d c hc)]; simp
  · rintro ⟨i, hi, h⟩
    rw [possV_at (List.mem_range.1 hi), possW_at (List.mem_range.1 hi), Bool.not_not, Bool.and_eq_true] at h
    obtain ⟨b1, hb1, h1⟩ := List.any_eq_true.1 h.1
    obtain ⟨b2, hb2, h2⟩ := List.any_eq_true.1 h.2
    rw [Bool.and_eq_true, allT_iff, beq_iff_eq] at h1 h2
    have hnum := h1.2.trans h2.2.symm
    let p : Nat → Bool := fun j => if inS (f.cs.take k) ((j : Int) + 1) then bitN b1 j == 1 else bitN b2 j == 1
    have hbit : ∀ j, j < f.n.toNat → bitN (mkBits p f.n.toNat) j = if inS (f.cs.take k) ((j : Int) + 1) then bitN b1 j else bitN b2 j := fun j hj => by
      rw [mkBits_bit p _ j hj]
      have t1 := bitN_lt b1 j
      have t2 := bitN_lt b2 j
      show (if (if inS (f.cs.take k) ((j : Int) + 1) then bitN b1 j == 1 else bitN b2 j == 1) = true then 1 else 0) = _
      cases inS (f.cs.take k) ((j : Int) + 1)
      · simp only [Bool.false_eq_true, if_false]
        by_cases e : bitN b2 j = 1
        · simp [e]
        · have : bitN b2 j = 0 := by omega
          simp [this]
      · simp only [if_true]
        by_cases e : bitN b1 j = 1
        · simp [e]
        · have : bitN b1 j = 0 := by omega
          simp [this]
    have hvar : ∀ c ∈ f.cs, ∀ l ∈ c, 1 ≤ absI l ∧ absI l ≤ f.n ∧ (l = absI l ∨ l = -absI l) := fun c hc l hl => by
      have := (clause_inv ((good_inv hg).2.2.2 c hc)).2.2.1 l hl
      unfold absI
      split <;> omega
    have hin : ∀ L : List (List Int), ∀ c ∈ L, (∀ x ∈ L, x ∈ f.cs) → ∀ l ∈ c, inS L (absI l) = true := fun L c hc hL l hl => by
      rw [inS_iff]
      refine ⟨c, hc, ?_⟩
      obtain ⟨_, _, e | e⟩ := hvar c (hL c hc) l hl
      · rw [← e]; exact .inl hl
      · right; rw [← e]; exact hl
    refine ⟨mkBits p f.n.toNat, List.mem_range.2 (mkBits_lt _ _), (allT_iff _ _).2 fun c hc => ?_⟩
    rw [← List.take_append_drop k f.cs] at hc
    rcases List.mem_append.1 hc with hc | hc
    · rw [trueB_congr (b' := b1) fun l hl => ?_]
      · exact h1.1 c hc
      · have hv := hvar c (mem_t c hc) l hl
        rw [hbit _ (by omega), show (((absI l - 1).toNat : Nat) : Int) + 1 = absI l from by omega, hin _ c hc mem_t l hl]; rfl
    · rw [trueB_congr (b' := b2) fun l hl => ?_]
      · exact h2.1 c hc
      · have hv := hvar c (mem_d c hc) l hl
        rw [hbit _ (by omega), show (((absI l - 1).toNat : Nat) : Int) + 1 = absI l from by omega]
        cases hL : inS (f.cs.take k) (absI l)
        · rfl
        · simp only [if_true]
          refine numOf_mem hnum ?_
          unfold bothV
          refine List.mem_filter.2 ⟨mem_seqI.2 (by omega), ?_⟩
          rw [hL, hin _ c hc mem_d l hl]; rfl
def cntF (sv wv : List Bool) (k : Nat) : Nat := ((List.range k).filter fun j => !sv.getD j false && wv.getD j false).length
theorem cntF_yes {sv wv : List Bool} {k : Nat} (h : (!sv.getD k false && wv.getD k false) = true) : cntF sv wv (k + 1) = cntF sv wv k + 1 := by
  unfold cntF
  rw [List.range_succ, List.filter_append, List.length_append, List.filter_cons, h]
  simp
theorem cntF_no {sv wv : List Bool} {k : Nat} (h : (!sv.getD k false && wv.getD k false) = false) : cntF sv wv (k + 1) = cntF sv wv k := by
  unfold cntF
  rw [List.range_succ, List.filter_append, List.length_append, List.filter_cons, h]
  simp
theorem cntF_le (sv wv : List Bool) (k : Nat) : cntF sv wv k ≤ k := by
  unfold cntF
  exact Nat.le_trans (List.length_filter_le _ _) (by simp)
theorem conf_yes {sv wv : List Bool} {i : Nat} (hi : i < sv.length) (h1 : sv.getD i false = true) (h2 : wv.getD i false = false) : confB sv wv = true := by
  unfold confB
  exact List.any_eq_true.2 ⟨i, List.mem_range.2 hi, by rw [h1, h2]; rfl⟩
theorem conf_no {sv wv : List Bool} (h : ∀ i, i < sv.length → (sv.getD i false && !wv.getD i false) = false) : confB sv wv = false := by
  unfold confB
  rw [List.any_eq_false]
  intro x hx
  rw [h x (List.mem_range.1 hx)]
  simp
def freeB (f : Cnf) (k : Int) : Bool := sharedB f k && !confB (strongV f k) (weakV f k)
def freeN (f : Cnf) (k : Int) : Int := if freeB f k then (cntF (strongV f k) (weakV f k) (strongV f k).length : Int) else 0
theorem len_weak {f : Cnf} {k : Int} : (weakV f k).length = (strongV f k).length := by
  unfold weakV strongV someV
  split
  · rw [List.length_map]
    split
    · rw [possV_len, possV_len]
    · rfl
  · rfl
end Go.Proofs.Ythiflbcodbigbaa
