import Derived.Test.YtbdcomkbpapcaaaGreatGfP
import Derived.Test.YtbdcomkbpapcaaaGreatMg5
import Derived.Test.YtbdcomkbpapcaaaGreatHoS
import Derived.Test.YtbdcomkbpapcaaaGreatC2
/-
  Greatest families, in plain words: the enumeration of assignments, what is allowed, codes, what a list must have for an assignment, shrinking. No condition.
-/

namespace Go.Proofs.YtbdcomkbpapcaaaGreat
open Go.RowKit Seed
def falP (w : Nat) (a c : List Int) : Bool := decide (c.length ≤ w) && decide (valG a (-1) c < 0)
def alwB (cs : List (List Int)) (w : Nat) (a : List Int) : Bool := decide (a.length ≤ w + 1) && !anyL (falP w a) cs
abbrev Ris (n : Int) (a : List Int) : Prop := a.Pairwise (fun x y => absI x < absI y) ∧ ∀ x ∈ a, 1 ≤ absI x ∧ absI x ≤ n
theorem absI_neg (x : Int) : absI (-x) = absI x := by unfold absI; split <;> split <;> omega
theorem absI_pos {x : Int} (h : 0 ≤ x) : absI x = x := by unfold absI; rw [if_neg (by omega)]
theorem absI_bd {x n : Int} (h : absI x ≤ n) : -n ≤ x ∧ x ≤ n := by unfold absI at h; split at h <;> omega
theorem absI_two {x : Int} : x = absI x ∨ x = -absI x := by unfold absI; split <;> omega
theorem Ris.mono {n m : Int} {a : List Int} (h : Ris n a) (hm : n ≤ m) : Ris m a := ⟨h.1, fun x hx => by have := h.2 x hx; omega⟩
theorem hasI_mem : ∀ {a : List Int} {x : Int}, hasI a x = true ↔ x ∈ a
  | [], x => by simp [hasI]
  | y :: r, x => by
    unfold hasI
    by_cases h : y = x
    · subst h; simp
    · rw [List.mem_cons]
      have h' : ¬ x = y := fun e => h e.symm
      simp [h, h', hasI_mem (a := r)]
theorem hasI_not {a : List Int} {x : Int} : hasI a x = false ↔ x ∉ a := by rw [← hasI_mem, Bool.not_eq_true]
theorem valG_neg (a : List Int) : ∀ (c : List Int) (v : Int), valG a v c < 0 ↔ v < 0 ∧ ∀ l ∈ c, l ∉ a ∧ -l ∈ a
  | [], v => by simp [valG]
  | l :: r, v => by
    unfold valG
    cases h : hasI a l
    · have hl := hasI_not.1 h
      rw [if_neg (by decide), valG_neg a r]
      cases h2 : hasI a (-l)
      · have hl2 := hasI_not.1 h2
        simp [hl2]
      · have hl2 := hasI_mem.1 h2
        simp [hl, hl2]
    · have hl := hasI_mem.1 h
      simp [hl]
theorem anyL_iff {p : List Int → Bool} : ∀ {cs : List (List Int)}, anyL p cs = true ↔ ∃ c ∈ cs, p c = true
  | [] => by simp [anyL]
  | c :: r => by
    unfold anyL
    cases h : p c
    · simp [h, anyL_iff (cs := r)]
    · simp [h]
theorem ris_disj {n : Int} {a t : List Int} (h : Ris n (a ++ t)) {x y : Int} (hx : x ∈ a) (hy : y ∈ t) : absI x < absI y := (List.pairwise_append.1 h.1).2.2 x hx y hy
/-- What is allowed stays allowed when literals are taken away at the end. -/
theorem alw_mono {cs : List (List Int)} {w : Nat} {n : Int} {a t : List Int} (hr : Ris n (a ++ t)) (h : alwB cs w (a ++ t) = true) : alwB cs w a = true := by
  unfold alwB at *
  rw [Bool.and_eq_true, decide_eq_true_iff, Bool.not_eq_true'] at *
  refine ⟨by have := h.1; rw [List.length_append] at this; omega, ?_⟩
  rw [← Bool.not_eq_true, anyL_iff] at *
  rintro ⟨c, hc, hf⟩
  apply h.2
  refine ⟨c, hc, ?_⟩
  unfold falP at *
  rw [Bool.and_eq_true, decide_eq_true_iff, decide_eq_true_iff] at *
  refine ⟨hf.1, ?_⟩
  have h2 := hf.2
  rw [valG_neg] at *
  refine ⟨h2.1, fun l hl => ?_⟩
  obtain ⟨k1, k2⟩ := h2.2 l hl
  refine ⟨fun hm => ?_, List.mem_append.2 (.inl k2)⟩
  rcases List.mem_append.1 hm with hm | hm
  · exact k1 hm
  · have := ris_disj hr k2 hm
    rw [absI_neg] at this
    omega
/-- All assignments that go on from one with the last d variables, the empty going-on not among them. -/
def loopE (n : Nat) : Nat → List Int → List (List Int)
  | 0, _ => []
  | d + 1, a => ((a ++ [((n - d : Nat) : Int)]) :: loopE n d (a ++ [((n - d : Nat) : Int)])) ++ (((a ++ [-((n - d : Nat) : Int)]) :: loopE n d (a ++ [-((n - d : Nat) : Int)])) ++ loopE n d a)
def treeE (n d : Nat) (a : List Int) : List (List Int) := a :: loopE n d a
/-- The same, where a branch is cut off at once when it isn't good. -/
def loopS (ok : List Int → Bool) (n : Nat) : Nat → List Int → List (List Int)
  | 0, _ => []
  | d + 1, a => (if ok (a ++ [((n - d : Nat) : Int)]) then (a ++ [((n - d : Nat) : Int)]) :: loopS ok n d (a ++ [((n - d : Nat) : Int)]) else []) ++
      ((if ok (a ++ [-((n - d : Nat) : Int)]) then (a ++ [-((n - d : Nat) : Int)]) :: loopS ok n d (a ++ [-((n - d : Nat) : Int)]) else []) ++ loopS ok n d a)
def treeS (ok : List Int → Bool) (n d : Nat) (a : List Int) : List (List Int) := if ok a then a :: loopS ok n d a else []
theorem ris_snoc {m v : Int} {a : List Int} {x : Int} (h : Ris m a) (hx : absI x = v) (hm : m < v) (hp : 1 ≤ v) : Ris v (a ++ [x]) := by
  refine ⟨List.pairwise_append.2 ⟨h.1, by simp, fun y hy z hz => ?_⟩, fun y hy => ?_⟩
  · obtain rfl := List.mem_singleton.1 hz
    have := h.2 y hy
    omega
  · rcases List.mem_append.1 hy with hy | hy
    · have := h.2 y hy; omega
    · obtain rfl := List.mem_singleton.1 hy; omega
theorem abs_vr (n d : Nat) : absI ((n - d : Nat) : Int) = ((n - d : Nat) : Int) := absI_pos (by omega)
theorem loopE_mem (n : Nat) : ∀ d a, d ≤ n → Ris ((n - d : Nat) : Int) a → ∀ b ∈ loopE n d a, ∃ t, b = a ++ t ∧ t ≠ [] ∧ Ris n (a ++ t) ∧ ∀ x ∈ t, ((n - d : Nat) : Int) < absI x
  | 0, a, _, _, b, hb => by simp [loopE] at hb
  | d + 1, a, hd, hr, b, hb => by
    have key : ∀ x : Int, absI x = ((n - d : Nat) : Int) → ∀ b ∈ (a ++ [x]) :: loopE n d (a ++ [x]), ∃ t, b = a ++ t ∧ t ≠ [] ∧ Ris n (a ++ t) ∧ ∀ x ∈ t, ((n - (d + 1) : Nat) : Int) < absI x := by
      intro x hx b hb
      have hr' : Ris ((n - d : Nat) : Int) (a ++ [x]) := ris_snoc hr hx (by omega) (by omega)
      rcases List.mem_cons.1 hb with rfl | hb
      · refine ⟨[x], rfl, by simp, hr'.mono (by omega), fun y hy => ?_⟩
        obtain rfl := List.mem_singleton.1 hy
        omega
      · obtain ⟨t, rfl, _, h2, h3⟩ := loopE_mem n d (a ++ [x]) (by omega) hr' b hb
        refine ⟨x :: t, by simp, by simp, by simpa using h2, fun y hy => ?_⟩
        rcases List.mem_cons.1 hy with rfl | hy
        · omega
        · have := h3 y hy; omega
    rw [loopE, List.mem_append, List.mem_append] at hb
    rcases hb with hb | hb | hb
    · exact key _ (abs_vr n d) b hb
    · exact key _ (by rw [absI_neg]; exact abs_vr n d) b hb
    · obtain ⟨t, rfl, h1, h2, h3⟩ := loopE_mem n d a (by omega) (hr.mono (by omega)) b hb
      exact ⟨t, rfl, h1, h2, fun y hy => by have := h3 y hy; omega⟩
theorem loopE_len (n : Nat) : ∀ d a, (loopE n d a).length + 1 = 3 ^ d
  | 0, a => rfl
  | d + 1, a => by
    rw [loopE, List.length_append, List.length_append, List.length_cons, List.length_cons, Nat.pow_succ]
    have h1 := loopE_len n d (a ++ [((n - d : Nat) : Int)])
    have h2 := loopE_len n d (a ++ [-((n - d : Nat) : Int)])
    have h3 := loopE_len n d a
    omega
theorem loopE_next (n d : Nat) (a : List Int) (hd : d ≤ n) (hr : Ris ((n - d : Nat) : Int) a) {b : List Int} (hb : b ∈ loopE n d a) : ∃ x, b[a.length]? = some x ∧ ((n - d : Nat) : Int) < absI x := by
  obtain ⟨t, rfl, h1, _, h3⟩ := loopE_mem n d a hd hr b hb
  cases t with
  | nil => exact absurd rfl h1
  | cons x t => exact ⟨x, by simp, h3 x (by simp)⟩
theorem treeE_at (n d : Nat) (a : List Int) (x : Int) (hd : d < n + 1) (hr : Ris ((n - d : Nat) : Int) (a ++ [x])) {b : List Int} (hb : b ∈ treeE n d (a ++ [x])) : b[a.length]? = some x := by
  rcases List.mem_cons.1 hb with rfl | hb
  · simp
  · obtain ⟨t, rfl, _⟩ := loopE_mem n d _ (by omega) hr b hb
    simp
theorem loopE_nodup (n : Nat) : ∀ d a, d ≤ n → Ris ((n - d : Nat) : Int) a → (treeE n d a).Nodup
  | 0, a, _, _ => by simp [treeE, loopE]
  | d + 1, a, hd, hr => by
    have h1 : Ris ((n - d : Nat) : Int) (a ++ [((n - d : Nat) : Int)]) := ris_snoc hr (abs_vr n d) (by omega) (by omega)
    have h2 : Ris ((n - d : Nat) : Int) (a ++ [-((n - d : Nat) : Int)]) := ris_snoc hr (by rw [absI_neg]; exact abs_vr n d) (by omega) (by omega)
    have h3 : Ris ((n - d : Nat) : Int) a := hr.mono (by omega)
    have n1 := loopE_nodup n d _ (by omega) h1
    have n2 := loopE_nodup n d _ (by omega) h2
    have n3 := loopE_nodup n d _ (by omega) h3
    refine List.nodup_cons.2 ⟨fun hm => ?_, ?_⟩
    · obtain ⟨t, e, ht, _⟩ := loopE_mem n (d + 1) a hd hr a hm
      have := congrArg List.length e
      rw [List.length_append] at this
      exact ht (List.eq_nil_of_length_eq_zero (by omega))
    rw [loopE]
    have a1 : ∀ b ∈ treeE n d (a ++ [((n - d : Nat) : Int)]), b[a.length]? = some ((n - d : Nat) : Int) := fun b hb => treeE_at n d a _ (by omega) h1 hb
    have a2 : ∀ b ∈ treeE n d (a ++ [-((n - d : Nat) : Int)]), b[a.length]? = some (-((n - d : Nat) : Int)) := fun b hb => treeE_at n d a _ (by omega) h2 hb
    have a3 : ∀ b ∈ loopE n d a, ∃ x, b[a.length]? = some x ∧ ((n - d : Nat) : Int) < absI x := fun b hb => loopE_next n d a (by omega) h3 hb
    unfold List.Nodup at *
    refine List.pairwise_append.2 ⟨n1, List.pairwise_append.2 ⟨n2, (List.nodup_cons.1 n3).2, fun x hx y hy e => ?_⟩, fun x hx y hy e => ?_⟩
    · subst e
      obtain ⟨z, hz, hlt⟩ := a3 x hy
      rw [a2 x hx] at hz
      injection hz with hz
      subst hz
      rw [absI_neg, abs_vr] at hlt
      omega
    · subst e
      have e1 := a1 x hx
      rcases List.mem_append.1 hy with hy | hy
      · have e2 := a2 x hy
        rw [e1] at e2
        injection e2 with e2
        omega
      · obtain ⟨z, hz, hlt⟩ := a3 x hy
        rw [e1] at hz
        injection hz with hz
        subst hz
        rw [abs_vr] at hlt
        omega
/-- Cutting off at once is the same as asking at the end, where good only gets lost on the way. -/
theorem loopS_eq {ok : List Int → Bool} {n : Nat} (hm : ∀ a t, Ris n (a ++ t) → ok (a ++ t) = true → ok a = true) : ∀ d a, d ≤ n → Ris ((n - d : Nat) : Int) a → loopS ok n d a = (loopE n d a).filter ok
  | 0, a, _, _ => rfl
  | d + 1, a, hd, hr => by
    have key : ∀ x : Int, absI x = ((n - d : Nat) : Int) → (if ok (a ++ [x]) then (a ++ [x]) :: loopS ok n d (a ++ [x]) else []) = ((a ++ [x]) :: loopE n d (a ++ [x])).filter ok := by
      intro x hx
      have hr' : Ris ((n - d : Nat) : Int) (a ++ [x]) := ris_snoc hr hx (by omega) (by omega)
      cases h : ok (a ++ [x])
      · rw [if_neg (by decide)]
        symm
        rw [List.filter_eq_nil_iff]
        intro b hb hok
        rcases List.mem_cons.1 hb with rfl | hb
        · rw [h] at hok; cases hok
        · obtain ⟨t, rfl, _, h2, _⟩ := loopE_mem n d _ (by omega) hr' b hb
          rw [hm _ _ h2 hok] at h
          cases h
      · rw [if_pos rfl, List.filter_cons_of_pos h, loopS_eq hm d _ (by omega) hr']
    rw [loopS, loopE, List.filter_append, List.filter_append, key _ (abs_vr n d), key _ (by rw [absI_neg]; exact abs_vr n d), loopS_eq hm d a (by omega) (hr.mono (by omega))]
theorem treeS_eq {ok : List Int → Bool} {n : Nat} (hm : ∀ a t, Ris n (a ++ t) → ok (a ++ t) = true → ok a = true) (d : Nat) (a : List Int) (hd : d ≤ n) (hr : Ris ((n - d : Nat) : Int) a) : treeS ok n d a = (treeE n d a).filter ok := by
  unfold treeS treeE
  cases h : ok a
  · rw [if_neg (by decide)]
    symm
    rw [List.filter_eq_nil_iff]
    intro b hb hok
    rcases List.mem_cons.1 hb with rfl | hb
    · rw [h] at hok; cases hok
    · obtain ⟨t, rfl, _, h2, _⟩ := loopE_mem n d _ hd hr b hb
      rw [hm _ _ h2 hok] at h
      cases h
  · rw [if_pos rfl, List.filter_cons_of_pos h, loopS_eq hm d _ hd hr]
/-- The allowed assignments, in the order of the enumeration. -/
def allA (cs : List (List Int)) (n w : Nat) : List (List Int) := (treeE n n []).filter (alwB cs w)
theorem ris_nil (m : Int) : Ris m [] := ⟨List.Pairwise.nil, fun x hx => by cases hx⟩
theorem allS_eq (cs : List (List Int)) (n w : Nat) : treeS (alwB cs w) n n [] = allA cs n w := treeS_eq (fun _ _ hr h => alw_mono hr h) n [] (Nat.le_refl _) (ris_nil _)
theorem treeE_ris {n d : Nat} {a : List Int} (hd : d ≤ n) (hr : Ris ((n - d : Nat) : Int) a) {b : List Int} (hb : b ∈ treeE n d a) : Ris n b := by
  rcases List.mem_cons.1 hb with rfl | hb
  · exact hr.mono (by omega)
  · obtain ⟨t, rfl, _, h2, _⟩ := loopE_mem n d _ hd hr b hb
    exact h2
theorem allA_ris {cs : List (List Int)} {n w : Nat} {b : List Int} (hb : b ∈ allA cs n w) : Ris n b := treeE_ris (Nat.le_refl n) (ris_nil _) (List.mem_filter.1 hb).1
theorem allA_nodup (cs : List (List Int)) (n w : Nat) : (allA cs n w).Nodup := (loopE_nodup n n [] (Nat.le_refl _) (ris_nil _)).filter _
theorem pow36 {n : Nat} (h : n ≤ 6) : 3 ^ n ≤ 729 := by
  have : 3 ^ n ≤ 3 ^ 6 := Nat.pow_le_pow_right (by decide) h
  simpa using this
theorem treeE_len (n d : Nat) (a : List Int) : (treeE n d a).length = 3 ^ d := by unfold treeE; rw [List.length_cons, loopE_len]
theorem allA_len {cs : List (List Int)} {n w : Nat} (h : n ≤ 6) : (allA cs n w).length ≤ 729 := by
  have h1 := List.length_filter_le (alwB cs w) (treeE n n [])
  rw [treeE_len] at h1
  have := pow36 h
  unfold allA
  omega
theorem ris_len {n : Nat} : ∀ {a : List Int} {m : Int}, a.Pairwise (fun x y => absI x < absI y) → (∀ x ∈ a, m < absI x ∧ absI x ≤ n) → m ≤ n → (a.length : Int) ≤ n - m
  | [], m, _, _, h => by simp; omega
  | x :: a, m, hp, hb, _ => by
    have hx := hb x (by simp)
    have ih := ris_len (m := absI x) (List.pairwise_cons.1 hp).2 (fun y hy => ⟨(List.pairwise_cons.1 hp).1 y hy, (hb y (by simp [hy])).2⟩) hx.2
    rw [List.length_cons]
    omega
theorem Ris.len {n : Nat} {a : List Int} (h : Ris n a) : a.length ≤ n := by
  have := ris_len (n := n) (m := 0) h.1 (fun x hx => by have := h.2 x hx; omega) (by omega)
  omega
/-- The allowed assignments, ascending. -/
def allL (cs : List (List Int)) (n w : Nat) : List (List Int) := insA (allA cs n w)
end Go.Proofs.YtbdcomkbpapcaaaGreat
