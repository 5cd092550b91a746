import Derived.Test.YtbdcomkbpapcaaaGreatGfQ
/-
  Greatest families, in plain words: codes of assignments, what a list must have for an assignment, shrinking. No condition.
-/

namespace Go.Proofs.YtbdcomkbpapcaaaGreat
open Go.RowKit Seed
def dgt (l : Int) : Nat := (if 0 < l then 2 else 1) * 3 ^ ((absI l).toNat - 1)
def codeA : List Int → Nat
  | [] => 0
  | l :: r => dgt l + codeA r
theorem codeA_append : ∀ (a b : List Int), codeA (a ++ b) = codeA a + codeA b
  | [], b => by simp [codeA]
  | l :: r, b => by
    rw [List.cons_append, codeA, codeA, codeA_append r b]; omega
theorem codeA_one (l : Int) : codeA [l] = dgt l := by simp [codeA]
theorem codeA_perm {a b : List Int} (h : a.Perm b) : codeA a = codeA b := by
  induction h with
  | nil => rfl
  | cons x _ ih => rw [codeA, codeA, ih]
  | swap x y l => simp only [codeA]; omega
  | trans _ _ h1 h2 => rw [h1, h2]
theorem dgt_top {m : Nat} {l : Int} (h : absI l = (m : Int) + 1) : (dgt l = 3 ^ m ∧ l = -((m : Int) + 1)) ∨ (dgt l = 2 * 3 ^ m ∧ l = (m : Int) + 1) := by
  have e : (absI l).toNat - 1 = m := by omega
  unfold dgt
  rw [e]
  unfold absI at h
  split at h
  · exact .inl ⟨by rw [if_neg (by omega)]; omega, by omega⟩
  · exact .inr ⟨by rw [if_pos (by omega)], by omega⟩
theorem ris_top {m : Nat} {a : List Int} (h : Ris ((m + 1 : Nat) : Int) a) : Ris (m : Int) a ∨ ∃ a' l, a = a' ++ [l] ∧ absI l = (m : Int) + 1 ∧ Ris (m : Int) a' := by
  rcases List.eq_nil_or_concat a with rfl | ⟨a', l, rfl⟩
  · exact .inl (ris_nil _)
  · rw [List.concat_eq_append] at h ⊢
    have hp := List.pairwise_append.1 h.1
    have hl := h.2 l (by simp)
    have hb : ∀ x ∈ a', 1 ≤ absI x ∧ absI x ≤ absI l - 1 := fun x hx => by
      have h1 := hp.2.2 x hx l (by simp)
      have h2 := h.2 x (by simp [hx])
      omega
    by_cases e : absI l = (m : Int) + 1
    · exact .inr ⟨a', l, rfl, e, hp.1, fun x hx => by have := hb x hx; omega⟩
    · refine .inl ⟨h.1, fun x hx => ?_⟩
      rcases List.mem_append.1 hx with hx | hx
      · have := hb x hx; omega
      · obtain rfl := List.mem_singleton.1 hx; omega
theorem code_lt : ∀ (m : Nat) (a : List Int), Ris (m : Int) a → codeA a < 3 ^ m
  | 0, a, h => by
    cases a with
    | nil => simp [codeA]
    | cons x r => have := h.2 x (by simp); omega
  | m + 1, a, h => by
    rw [Nat.pow_succ]
    rcases ris_top h with h1 | ⟨a', l, rfl, e, h1⟩
    · have := code_lt m a h1; omega
    · have := code_lt m a' h1
      rw [codeA_append, codeA_one]
      rcases dgt_top e with ⟨h2, _⟩ | ⟨h2, _⟩ <;> omega
theorem code_inj : ∀ (m : Nat) (a b : List Int), Ris (m : Int) a → Ris (m : Int) b → codeA a = codeA b → a = b
  | 0, a, b, ha, hb, _ => by
    cases a with
    | nil =>
      cases b with
      | nil => rfl
      | cons x r => have := hb.2 x (by simp); omega
    | cons x r => have := ha.2 x (by simp); omega
  | m + 1, a, b, ha, hb, e => by
    have hp : 0 < 3 ^ m := Nat.pow_pos (by decide)
    rcases ris_top ha with h1 | ⟨a', l, rfl, el, h1⟩ <;> rcases ris_top hb with h2 | ⟨b', k, rfl, ek, h2⟩
    · exact code_inj m a b h1 h2 e
    · have := code_lt m a h1
      rw [codeA_append, codeA_one] at e
      rcases dgt_top ek with ⟨h3, _⟩ | ⟨h3, _⟩ <;> omega
    · have := code_lt m b h2
      rw [codeA_append, codeA_one] at e
      rcases dgt_top el with ⟨h3, _⟩ | ⟨h3, _⟩ <;> omega
    · have c1 := code_lt m a' h1
      have c2 := code_lt m b' h2
      rw [codeA_append, codeA_one, codeA_append, codeA_one] at e
      rcases dgt_top el with ⟨h3, e3⟩ | ⟨h3, e3⟩ <;> rcases dgt_top ek with ⟨h4, e4⟩ | ⟨h4, e4⟩
      · rw [code_inj m a' b' h1 h2 (by omega), e3, e4]
      · omega
      · omega
      · rw [code_inj m a' b' h1 h2 (by omega), e3, e4]
/-! ### Taking a literal away, putting one in -/
def rem1 (a : List Int) (l : Int) : List Int := a.filter fun x => decide (absI x ≠ absI l)
theorem rem1_eq : ∀ {a : List Int}, a.Pairwise (fun x y => absI x < absI y) → ∀ k (h : k < a.length), rem1 a a[k] = a.take k ++ a.drop (k + 1)
  | [], _, k, h => absurd h (Nat.not_lt_zero _)
  | x :: a, hp, 0, _ => by
    have h1 := (List.pairwise_cons.1 hp).1
    show rem1 (x :: a) x = _
    unfold rem1
    rw [List.filter_cons_of_neg (by simp)]
    simp only [List.take_zero, List.nil_append, Nat.zero_add, List.drop_succ_cons, List.drop_zero]
    rw [List.filter_eq_self]
    intro y hy
    have := h1 y hy
    exact decide_eq_true (by omega)
  | x :: a, hp, k + 1, h => by
    have h1 := (List.pairwise_cons.1 hp).1
    have hk : k < a.length := by simpa using h
    show rem1 (x :: a) a[k] = _
    have ih := rem1_eq (List.pairwise_cons.1 hp).2 k hk
    unfold rem1 at *
    have := h1 a[k] (List.getElem_mem hk)
    rw [List.filter_cons_of_pos (p := fun x => decide (absI x ≠ absI a[k])) (decide_eq_true (by omega)), ih]
    rfl
theorem ris_cut {n : Int} {a : List Int} (h : Ris n a) (k : Nat) : Ris n (a.take k ++ a.drop (k + 1)) := by
  have hs : (a.take k ++ a.drop (k + 1)).Sublist a := by
    conv => rhs; rw [← List.take_append_drop k a]
    refine List.Sublist.append (List.Sublist.refl _) ?_
    rw [show a.drop (k + 1) = (a.drop k).drop 1 by rw [List.drop_drop]]
    exact List.drop_sublist 1 _
  exact ⟨h.1.sublist hs, fun x hx => h.2 x (hs.subset hx)⟩
theorem putA_cons (x : Int) (xs : List Int) (l : Int) : putA (x :: xs) l = if absI x < absI l then x :: putA xs l else l :: x :: xs := by
  unfold putA
  rw [posA]
  split
  · simp
  · simp
theorem putA_pair : ∀ {a : List Int} {l : Int}, a.Pairwise (fun x y => absI x < absI y) → (∀ x ∈ a, absI x ≠ absI l) → (putA a l).Pairwise (fun x y => absI x < absI y)
  | [], l, _, _ => by simp [putA, posA]
  | x :: xs, l, hp, hn => by
    have h1 := List.pairwise_cons.1 hp
    have hx := hn x (by simp)
    rw [putA_cons]
    split
    · rename_i hlt
      refine List.pairwise_cons.2 ⟨fun y hy => ?_, putA_pair h1.2 fun y hy => hn y (by simp [hy])⟩
      rcases List.mem_cons.1 ((putA_perm xs l).mem_iff.1 hy) with rfl | hy
      · exact hlt
      · exact h1.1 y hy
    · rename_i hlt
      refine List.pairwise_cons.2 ⟨fun y hy => ?_, hp⟩
      rcases List.mem_cons.1 hy with rfl | hy
      · omega
      · have := h1.1 y hy; omega
theorem ris_put {n : Int} {a : List Int} {l : Int} (h : Ris n a) (hn : ∀ x ∈ a, absI x ≠ absI l) (hl : 1 ≤ absI l ∧ absI l ≤ n) : Ris n (putA a l) :=
  ⟨putA_pair h.1 hn, fun x hx => by
    rcases List.mem_cons.1 ((putA_perm a l).mem_iff.1 hx) with rfl | hx
    · exact hl
    · exact h.2 x hx⟩
theorem code_put (a : List Int) (l : Int) : codeA (putA a l) = codeA a + dgt l := by rw [codeA_perm (putA_perm a l), codeA]; omega
def opnB (a : List Int) (v : Int) : Bool := !hasI a v && !hasI a (-v)
theorem opn_not {a : List Int} {v : Int} (h : opnB a v = true) (hv : 0 ≤ v) : ∀ x ∈ a, absI x ≠ absI v := by
  unfold opnB at h
  rw [Bool.and_eq_true, Bool.not_eq_true', Bool.not_eq_true', hasI_not, hasI_not] at h
  intro x hx e
  rw [absI_pos hv] at e
  rcases absI_two (x := x) with e2 | e2
  · exact h.1 (by rw [← e, ← e2]; exact hx)
  · exact h.2 (by rw [← e, ← e2]; exact hx)
/-! ### What a list must have for an assignment -/
/-- A list has what it must have when the value of one open variable is asked. -/
def choB (L : List (List Int)) (a : List Int) (v : Int) : Bool := decide (putA a v ∈ L) || decide (putA a (-v) ∈ L)
def keepB (n w : Nat) (L : List (List Int)) (a : List Int) : Bool :=
  (a.all fun l => decide (rem1 a l ∈ L)) && (decide (w < a.length) || (List.range n).all fun i => !opnB a ((i : Int) + 1) || choB L a ((i : Int) + 1))
def closB (n w : Nat) (p : Nat → Bool) (a : List Int) : Bool :=
  ((List.range a.length).all fun k => p (codeA (a.take k ++ a.drop (k + 1)))) && (decide (w < a.length) || (List.range n).all fun i => !opnB a ((i : Int) + 1) || (p (codeA a + 3 ^ i) || p (codeA a + 2 * 3 ^ i)))
/-- Flags that tell for each assignment whether it is in the list. -/
def Tells (n : Nat) (p : Nat → Bool) (L : List (List Int)) : Prop := ∀ b, Ris (n : Int) b → p (codeA b) = decide (b ∈ L)
theorem dgt_pos (i : Nat) : dgt ((i : Int) + 1) = 2 * 3 ^ i := by
  have e : (absI ((i : Int) + 1)).toNat - 1 = i := by rw [absI_pos (by omega)]; omega
  unfold dgt
  rw [e, if_pos (by omega)]
theorem dgt_neg (i : Nat) : dgt (-((i : Int) + 1)) = 3 ^ i := by
  have e : (absI (-((i : Int) + 1))).toNat - 1 = i := by rw [absI_neg, absI_pos (by omega)]; omega
  unfold dgt
  rw [e, if_neg (by omega)]; omega
theorem keep_clos {n w : Nat} {p : Nat → Bool} {L : List (List Int)} (ht : Tells n p L) {a : List Int} (h : Ris (n : Int) a) : closB n w p a = keepB n w L a := by
  unfold closB keepB
  congr 1
  · rw [Bool.eq_iff_iff, List.all_eq_true, List.all_eq_true]
    constructor
    · intro hk l hl
      obtain ⟨k, hk', rfl⟩ := List.mem_iff_getElem.1 hl
      have := hk k (List.mem_range.2 hk')
      rw [ht _ (ris_cut h k)] at this
      rwa [rem1_eq h.1 k hk']
    · intro hk k hk'
      have hk' := List.mem_range.1 hk'
      rw [ht _ (ris_cut h k)]
      have := hk a[k] (List.getElem_mem hk')
      rwa [rem1_eq h.1 k hk'] at this
  · congr 1
    rw [Bool.eq_iff_iff, List.all_eq_true, List.all_eq_true]
    have key : ∀ i ∈ List.range n, (!opnB a ((i : Int) + 1) || (p (codeA a + 3 ^ i) || p (codeA a + 2 * 3 ^ i))) = (!opnB a ((i : Int) + 1) || choB L a ((i : Int) + 1)) := by
      intro i hi
      have hi := List.mem_range.1 hi
      cases ho : opnB a ((i : Int) + 1)
      · rfl
      · have hn := opn_not ho (by omega)
        have ea : absI ((i : Int) + 1) = (i : Int) + 1 := absI_pos (by omega)
        have r1 : Ris (n : Int) (putA a ((i : Int) + 1)) := ris_put h hn (by omega)
        have r2 : Ris (n : Int) (putA a (-((i : Int) + 1))) := ris_put h (fun x hx => by rw [absI_neg]; exact hn x hx) (by rw [absI_neg]; omega)
        have t1 := ht _ r1
        have t2 := ht _ r2
        rw [code_put, dgt_pos] at t1
        rw [code_put, dgt_neg] at t2
        unfold choB
        rw [t1, t2, Bool.or_comm (decide (putA a (-((i : Int) + 1)) ∈ L))]
    constructor
    · intro hk i hi; rw [← key i hi]; exact hk i hi
    · intro hk i hi; rw [key i hi]; exact hk i hi
/-! ### Shrinking -/
def cutL (n w : Nat) (L : List (List Int)) : List (List Int) := L.filter (keepB n w L)
theorem shr_less {n w : Nat} {L : List (List Int)} (h : ¬ L.all (keepB n w L) = true) : (cutL n w L).length < L.length := by
  unfold cutL
  rcases Nat.lt_or_eq_of_le (List.length_filter_le (keepB n w L) L) with h1 | h1
  · exact h1
  · exact absurd (List.all_eq_true.2 (List.length_filter_eq_length_iff.1 h1)) h
def shrL (n w : Nat) (L : List (List Int)) : List (List Int) := if L.all (keepB n w L) then L else shrL n w (cutL n w L)
termination_by L.length
decreasing_by exact shr_less ‹_›
theorem shrL_yes {n w : Nat} {L : List (List Int)} (h : L.all (keepB n w L) = true) : shrL n w L = L := by rw [shrL, if_pos h]
theorem shrL_no {n w : Nat} {L : List (List Int)} (h : L.all (keepB n w L) = false) : shrL n w L = shrL n w (cutL n w L) := by conv => lhs; rw [shrL, if_neg (by rw [h]; decide)]
theorem tells_filter {n : Nat} {p q : Nat → Bool} {L : List (List Int)} {f : List Int → Bool} (ht : Tells n p L) (hq : ∀ b, Ris (n : Int) b → q (codeA b) = (p (codeA b) && f b)) : Tells n q (L.filter f) := fun b hb => by
  rw [hq b hb, ht b hb, Bool.eq_iff_iff, Bool.and_eq_true, decide_eq_true_iff, decide_eq_true_iff, List.mem_filter]
/-- The greatest family of a Cnf for a width. -/
def famL (cs : List (List Int)) (n w : Nat) : List (List Int) := shrL n w (allL cs n w)
end Go.Proofs.YtbdcomkbpapcaaaGreat
