import Derived.Test.YtbdcomkbpapcaaaGreatMg3
import Derived.Test.YtbdcomkbpapcaaaGreatSeedP
/-
  Greatest families, in plain words: the order of clauses is a strict total order, halving finds a clause's place in an ascending list, sorted insertion sorts. No condition.
-/

namespace Go.Proofs.YtbdcomkbpapcaaaGreat
open Go.RowKit Seed
theorem keyL_inj {a b : Int} (h : keyL a = keyL b) : a = b := by
  unfold keyL at h
  split at h <;> split at h <;> omega
theorem befX_irr : ∀ a, befX a a = false
  | [] => rfl
  | x :: a => by unfold befX; rw [if_pos rfl]; exact befX_irr a
theorem befX_trans : ∀ {a b c : List Int}, a.length = b.length → befX a b = true → befX b c = true → befX a c = true
  | [], [], _, _, h, _ => by simp [befX] at h
  | x :: a, y :: b, [], _, _, h => by simp [befX] at h
  | x :: a, y :: b, z :: c, hl, h1, h2 => by
    unfold befX at *
    by_cases e1 : x = y
    · subst e1
      rw [if_pos rfl] at h1
      by_cases e2 : x = z
      · subst e2
        rw [if_pos rfl] at h2 ⊢
        exact befX_trans (by simpa using hl) h1 h2
      · rw [if_neg e2] at h2 ⊢
        exact h2
    · rw [if_neg e1] at h1
      by_cases e2 : y = z
      · subst e2
        rw [if_neg e1]
        exact h1
      · rw [if_neg e2] at h2
        have k1 := of_decide_eq_true h1
        have k2 := of_decide_eq_true h2
        rw [if_neg (fun e => by subst e; omega)]
        exact decide_eq_true (by omega)
theorem befX_tot : ∀ {a b : List Int}, a.length = b.length → a ≠ b → befX a b = true ∨ befX b a = true
  | [], [], _, h => absurd rfl h
  | x :: a, y :: b, hl, h => by
    unfold befX
    by_cases e : x = y
    · subst e
      rw [if_pos rfl, if_pos rfl]
      exact befX_tot (by simpa using hl) (fun e => h (by rw [e]))
    · rw [if_neg e, if_neg (fun e' => e e'.symm)]
      have : keyL x ≠ keyL y := fun e' => e (keyL_inj e')
      rcases Int.lt_or_lt_of_ne this with h1 | h1
      · exact .inl (decide_eq_true h1)
      · exact .inr (decide_eq_true h1)
theorem befL_irr (a : List Int) : befL a a = false := by unfold befL; rw [if_pos rfl]; exact befX_irr a
theorem befL_len {a b : List Int} (h : befL a b = true) : a.length ≤ b.length := by
  unfold befL at h
  split at h
  · omega
  · have := of_decide_eq_true h; omega
theorem befL_trans {a b c : List Int} (h1 : befL a b = true) (h2 : befL b c = true) : befL a c = true := by
  have l1 := befL_len h1
  have l2 := befL_len h2
  unfold befL at *
  by_cases e1 : a.length = b.length
  · rw [if_pos e1] at h1
    by_cases e2 : b.length = c.length
    · rw [if_pos e2] at h2
      rw [if_pos (by omega)]
      exact befX_trans e1 h1 h2
    · rw [if_neg (by omega)]
      exact decide_eq_true (by omega)
  · rw [if_neg (by omega)]
    exact decide_eq_true (by omega)
theorem befL_tot {a b : List Int} (h : a ≠ b) : befL a b = true ∨ befL b a = true := by
  unfold befL
  by_cases e : a.length = b.length
  · rw [if_pos e, if_pos e.symm]
    exact befX_tot e h
  · rw [if_neg e, if_neg (fun e' => e e'.symm)]
    rcases Nat.lt_or_gt_of_ne e with h1 | h1
    · exact .inl (decide_eq_true h1)
    · exact .inr (decide_eq_true h1)
theorem befL_asym {a b : List Int} (h : befL a b = true) : befL b a = false := by
  cases h' : befL b a
  · rfl
  · have := befL_trans h h'
    rw [befL_irr] at this
    cases this
/-- Halving finds the border of a question that turns once. -/
theorem plc_spec {p : Nat → Bool} : ∀ (n f t : Nat), f ≤ t → t ≤ f + n → (∀ i j, f ≤ i → i ≤ j → j < t → p j = true → p i = true) →
    (∀ m, f ≤ m → m < plc p n f t → p m = true) ∧ (∀ m, plc p n f t ≤ m → m < t → p m = false)
  | 0, f, t, h1, h2, _ => by
    rw [plc]
    exact ⟨fun m a b => by omega, fun m a b => by omega⟩
  | n + 1, f, t, h1, h2, hm => by
    by_cases hlt : f < t
    · rw [plc, if_pos hlt]
      cases hp : p ((f + t) / 2)
      · rw [if_neg (by decide)]
        have ih := plc_spec (p := p) n f ((f + t) / 2) (by omega) (by omega) (fun i j a b c => hm i j a b (by omega))
        refine ⟨ih.1, fun m a b => ?_⟩
        by_cases hmid : m < (f + t) / 2
        · exact ih.2 m a hmid
        · cases h : p m
          · rfl
          · have := hm ((f + t) / 2) m (by omega) (by omega) b h
            rw [hp] at this
            cases this
      · rw [if_pos rfl]
        have ih := plc_spec (p := p) n ((f + t) / 2 + 1) t (by omega) (by omega) (fun i j a b c => hm i j (by omega) b c)
        refine ⟨fun m a b => ?_, ih.2⟩
        by_cases hmid : m ≤ (f + t) / 2
        · exact hm m ((f + t) / 2) a hmid (by omega) hp
        · exact ih.1 m (by omega) b
    · rw [plc_stop hlt]
      exact ⟨fun m a b => by omega, fun m a b => by omega⟩
abbrev Asc (xs : List (List Int)) : Prop := xs.Pairwise fun a b => befL a b = true
theorem plcL_spec {xs : List (List Int)} (h : Asc xs) (c : List Int) : (∀ m (hm : m < xs.length), m < plcL xs c → befL xs[m] c = true) ∧ (∀ m (hm : m < xs.length), plcL xs c ≤ m → befL xs[m] c = false) := by
  have key := plc_spec (p := fun m => befL (xs.getD m []) c) xs.length 0 xs.length (Nat.zero_le _) (by omega) (fun i j _ hij hj hp => by
    rcases Nat.lt_or_eq_of_le hij with h1 | rfl
    · have hb := List.pairwise_iff_getElem.1 h i j (by omega) hj h1
      simp only [List.getD_eq_getElem?_getD, List.getElem?_eq_getElem hj, List.getElem?_eq_getElem (show i < xs.length by omega), Option.getD_some] at hp ⊢
      exact befL_trans hb hp
    · exact hp)
  refine ⟨fun m hm hlt => ?_, fun m hm hge => ?_⟩
  · have := key.1 m (Nat.zero_le _) hlt
    simpa [List.getD_eq_getElem?_getD, List.getElem?_eq_getElem hm] using this
  · have := key.2 m hge hm
    simpa [List.getD_eq_getElem?_getD, List.getElem?_eq_getElem hm] using this
theorem foundL_mem {xs : List (List Int)} (h : Asc xs) (c : List Int) : foundL xs c = decide (c ∈ xs) := by
  have hs := plcL_spec h c
  rw [Bool.eq_iff_iff, decide_eq_true_iff]
  unfold foundL
  rw [Bool.and_eq_true, decide_eq_true_iff, decide_eq_true_iff]
  constructor
  · rintro ⟨h1, h2⟩
    rw [List.getD_eq_getElem?_getD, List.getElem?_eq_getElem h1, Option.getD_some] at h2
    rw [← h2]
    exact List.getElem_mem h1
  · intro hm
    obtain ⟨i, hi, e⟩ := List.mem_iff_getElem.1 hm
    have h1 : ¬ i < plcL xs c := fun hlt => by
      have := hs.1 i hi hlt
      rw [e, befL_irr] at this
      cases this
    have h2 : ¬ plcL xs c < i := fun hlt => by
      have a := hs.2 (plcL xs c) (by omega) (Nat.le_refl _)
      have b := List.pairwise_iff_getElem.1 h (plcL xs c) i (by omega) hi hlt
      rw [e] at b
      rw [b] at a
      cases a
    have e2 : plcL xs c = i := by omega
    rw [e2, List.getD_eq_getElem?_getD, List.getElem?_eq_getElem hi, Option.getD_some]
    exact ⟨hi, e⟩
theorem insL_asc {xs : List (List Int)} (h : Asc xs) (c : List Int) : Asc (insL xs c) := by
  have hs := plcL_spec h c
  unfold insL
  cases hf : foundL xs c
  · rw [if_neg (by decide)]
    have hn : c ∉ xs := by rw [foundL_mem h] at hf; exact of_decide_eq_false hf
    have h1 : ∀ x ∈ xs.take (plcL xs c), befL x c = true := fun x hx => by
      obtain ⟨i, hi, rfl⟩ := List.mem_iff_getElem.1 hx
      rw [List.length_take] at hi
      rw [List.getElem_take]
      exact hs.1 i (by omega) (by omega)
    have h2 : ∀ x ∈ xs.drop (plcL xs c), befL c x = true := fun x hx => by
      have hx' := List.mem_of_mem_drop hx
      obtain ⟨i, hi, rfl⟩ := List.mem_iff_getElem.1 hx
      rw [List.length_drop] at hi
      have := hs.2 (plcL xs c + i) (by omega) (by omega)
      rw [List.getElem_drop] at hx' ⊢
      rcases befL_tot (a := c) (b := xs[plcL xs c + i]) (fun e => hn (by rw [e]; exact hx')) with h | h
      · exact h
      · rw [h] at this; cases this
    rw [Asc, List.pairwise_append, List.pairwise_cons]
    refine ⟨h.sublist (List.take_sublist _ _), ⟨h2, h.sublist (List.drop_sublist _ _)⟩, fun a ha b hb => ?_⟩
    rcases List.mem_cons.1 hb with rfl | hb
    · exact h1 a ha
    · exact befL_trans (h1 a ha) (h2 b hb)
  · rw [if_pos rfl]; exact h
theorem insL_mem {xs : List (List Int)} (h : Asc xs) (c x : List Int) : x ∈ insL xs c ↔ x ∈ xs ∨ x = c := by
  unfold insL
  cases hf : foundL xs c
  · rw [if_neg (by decide), List.mem_append, List.mem_cons]
    conv => rhs; rw [← List.take_append_drop (plcL xs c) xs, List.mem_append]
    constructor
    · rintro (h | h | h)
      · exact .inl (.inl h)
      · exact .inr h
      · exact .inl (.inr h)
    · rintro ((h | h) | h)
      · exact .inl h
      · exact .inr (.inr h)
      · exact .inr (.inl h)
  · rw [if_pos rfl]
    rw [foundL_mem h] at hf
    have hm := of_decide_eq_true hf
    constructor
    · exact .inl
    · rintro (h | rfl)
      · exact h
      · exact hm
/-- All rows put in, in turn. -/
def insA (ys : List (List Int)) : List (List Int) := ys.foldl insL []
theorem insA_snoc (ys : List (List Int)) (y : List Int) : insA (ys ++ [y]) = insL (insA ys) y := by unfold insA; rw [List.foldl_append]; rfl
theorem insA_take {ys : List (List Int)} {k : Nat} (h : k < ys.length) : insA (ys.take (k + 1)) = insL (insA (ys.take k)) ys[k] := by
  rw [List.take_succ_eq_append_getElem h, insA_snoc]
theorem insA_spec (ys : List (List Int)) : ∀ k, k ≤ ys.length → Asc (insA (ys.take k)) ∧ ∀ x, x ∈ insA (ys.take k) ↔ x ∈ ys.take k
  | 0, _ => by
    rw [List.take_zero]
    exact ⟨List.Pairwise.nil, fun x => Iff.rfl⟩
  | k + 1, h => by
    have ih := insA_spec ys k (by omega)
    rw [insA_take (by omega)]
    refine ⟨insL_asc ih.1 _, fun x => ?_⟩
    rw [insL_mem ih.1, ih.2, List.take_succ_eq_append_getElem (by omega), List.mem_append, List.mem_singleton]
theorem asc_insA (ys : List (List Int)) : Asc (insA ys) := by have := (insA_spec ys ys.length (Nat.le_refl _)).1; rwa [List.take_length] at this
theorem mem_insA (ys : List (List Int)) (x : List Int) : x ∈ insA ys ↔ x ∈ ys := by have := (insA_spec ys ys.length (Nat.le_refl _)).2 x; rwa [List.take_length] at this
/-- Two ascending lists with the same members are one. -/
theorem asc_ext : ∀ {xs ys : List (List Int)}, Asc xs → Asc ys → (∀ x, x ∈ xs ↔ x ∈ ys) → xs = ys
  | [], [], _, _, _ => rfl
  | [], y :: ys, _, _, h => by have := (h y).2 (by simp); cases this
  | x :: xs, [], _, _, h => by have := (h x).1 (by simp); cases this
  | x :: xs, y :: ys, hx, hy, h => by
    rw [Asc, List.pairwise_cons] at hx hy
    have e : x = y := by
      rcases List.mem_cons.1 ((h x).1 (by simp)) with e | h1
      · exact e
      rcases List.mem_cons.1 ((h y).2 (by simp)) with e | h2
      · exact e.symm
      have a := hx.1 y h2
      have b := befL_asym a
      rw [hy.1 x h1] at b
      cases b
    subst e
    rw [asc_ext hx.2 hy.2 fun z => ?_]
    constructor
    · intro hz
      rcases List.mem_cons.1 ((h z).1 (by simp [hz])) with rfl | h1
      · have := hx.1 z hz; rw [befL_irr] at this; cases this
      · exact h1
    · intro hz
      rcases List.mem_cons.1 ((h z).2 (by simp [hz])) with rfl | h1
      · have := hy.1 z hz; rw [befL_irr] at this; cases this
      · exact h1
theorem insL_len1 {xs : List (List Int)} (c : List Int) : (insL xs c).length ≤ xs.length + 1 := insL_len xs c
theorem insA_len (ys : List (List Int)) : ∀ k, k ≤ ys.length → (insA (ys.take k)).length ≤ k
  | 0, _ => by rw [List.take_zero]; exact Nat.le_refl _
  | k + 1, h => by
    rw [insA_take (by omega)]
    have := insA_len ys k (by omega)
    have := insL_len (insA (ys.take k)) ys[k]
    omega
end Go.Proofs.YtbdcomkbpapcaaaGreat
