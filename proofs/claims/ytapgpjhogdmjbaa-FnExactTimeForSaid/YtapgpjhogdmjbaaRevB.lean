/-
  Reversible pebbling, in plain words: two nodes that are not joined may change places; so the masks may be taken ascending. Condition: at most ten nodes.
-/
import Derived.Test.YtapgpjhogdmjbaaRevA
namespace Go.Proofs.Ytapgpjhogdmjbaa
namespace Peb
def sx (i y : Nat) : Nat := if y = i then i + 1 else if y = i + 1 then i else y
def sw (i P : Nat) : Nat := if P.testBit i = P.testBit (i + 1) then P else (P ^^^ 2 ^ i) ^^^ 2 ^ (i + 1)
theorem sx_sx (i y : Nat) : sx i (sx i y) = y := by
  unfold sx
  by_cases h : y = i
  · simp [h]
  · by_cases h2 : y = i + 1
    · simp [h2]
    · simp [h, h2]
theorem sw_bit (i P y : Nat) : (sw i P).testBit y = P.testBit (sx i y) := by
  unfold sw sx
  by_cases h : P.testBit i = P.testBit (i + 1)
  · rw [if_pos h]
    by_cases h1 : y = i
    · rw [if_pos h1, h1, h]
    · rw [if_neg h1]
      by_cases h2 : y = i + 1
      · rw [if_pos h2, h2, h]
      · rw [if_neg h2]
  · rw [if_neg h, flip_bit, flip_bit]
    by_cases h1 : y = i
    · rw [if_pos h1, h1, decide_eq_true rfl, decide_eq_false (by omega)]
      revert h; cases P.testBit i <;> cases P.testBit (i + 1) <;> simp
    · rw [if_neg h1, decide_eq_false (fun e => h1 e.symm)]
      by_cases h2 : y = i + 1
      · rw [if_pos h2, h2, decide_eq_true rfl]
        revert h; cases P.testBit i <;> cases P.testBit (i + 1) <;> simp
      · rw [if_neg h2, decide_eq_false (fun e => h2 e.symm)]
        cases P.testBit y <;> rfl
theorem sw_sw (i P : Nat) : sw i (sw i P) = P := by
  apply Nat.eq_of_testBit_eq
  intro y
  rw [sw_bit, sw_bit, sx_sx]
theorem sw_flip (i P x : Nat) : sw i (P ^^^ 2 ^ x) = sw i P ^^^ 2 ^ (sx i x) := by
  apply Nat.eq_of_testBit_eq
  intro y
  rw [sw_bit, flip_bit, flip_bit, sw_bit]
  congr 1
  have : (x = sx i y) ↔ (sx i x = y) := ⟨fun h => by rw [h, sx_sx], fun h => by rw [← h, sx_sx]⟩
  simp only [this]
theorem sw_id {i P : Nat} (h : P < 2 ^ i) : sw i P = P := by
  unfold sw
  rw [Nat.testBit_lt_two_pow h, Nat.testBit_lt_two_pow (Nat.lt_of_lt_of_le h (Nat.pow_le_pow_right (by decide) (Nat.le_succ i))), if_pos rfl]
theorem sw_lt {i n P : Nat} (hi : i + 1 < n) (h : P < 2 ^ n) : sw i P < 2 ^ n := by
  unfold sw
  split
  · exact h
  · exact flip_lt (flip_lt h (by omega)) hi
theorem sw_cnt1 : ∀ P : Fin 1024, ∀ i : Fin 9, cnt (sw i.1 P.1) = cnt P.1 := by decide +kernel
/-- The masks behind the change. -/
def smask (i : Nat) (m : Nat → Nat) : Nat → Nat := fun y => sw i (m (sx i y))
theorem smask2 (i : Nat) (m : Nat → Nat) : smask i (smask i m) = m := by
  funext y
  unfold smask
  rw [sx_sx, sw_sw]
section
variable {m : Nat → Nat} {n q k P Q i e : Nat}
theorem OkP.sw (hn : n ≤ 10) (hi : i + 1 < n) (h : OkP n q P) : OkP n q (sw i P) := ⟨sw_lt hi h.1, by
  have := sw_cnt1 ⟨P, lt_bits hn h.1⟩ ⟨i, by omega⟩
  simp only at this
  rw [this]; exact h.2⟩
theorem Pth.sw (hn : n ≤ 10) (hi : i + 1 < n) (h : Pth m n q k P Q) : Pth (smask i m) n q k (Peb.sw i P) (Peb.sw i Q) := by
  induction h with
  | nil h => exact .nil (h.sw hn hi)
  | @snoc k P Q x hp hx hs ho ih =>
    rw [sw_flip]
    refine .snoc (sx i x) ih ?_ (fun y hy => ?_) ?_
    · unfold sx; split <;> (try split) <;> omega
    · unfold smask at hy
      rw [sx_sx, sw_bit] at hy
      rw [sw_bit]
      exact hs _ hy
    · rw [← sw_flip]; exact ho.sw hn hi
theorem EB.sw (hn : n ≤ 10) (hi : i + 1 < n) (h : EB (smask i m) n q e) : EB m n q e := fun Z ⟨k, hz⟩ => by
  have z0 : Peb.sw i 0 = 0 := sw_id (Nat.pow_pos (by decide))
  have h1 := hz.sw hn hi
  rw [z0] at h1
  obtain ⟨j, hj, h2⟩ := h _ ⟨k, h1⟩
  have h3 := h2.sw hn hi
  rw [z0, sw_sw, smask2] at h3
  exact ⟨j, hj, h3⟩
theorem Wf.sw (hW : Wf m) (h : m (i + 1) < 2 ^ i) : Wf (smask i m) := fun y => by
  have hle : 2 ^ i ≤ 2 ^ (i + 1) := Nat.pow_le_pow_right (by decide) (Nat.le_succ i)
  unfold smask sx
  by_cases h1 : y = i
  · rw [if_pos h1, sw_id h, h1]; exact h
  · rw [if_neg h1]
    by_cases h2 : y = i + 1
    · rw [if_pos h2, sw_id (hW i), h2]; exact Nat.lt_of_lt_of_le (hW i) hle
    · rw [if_neg h2]
      rcases Nat.lt_or_ge y i with hl | hg
      · rw [sw_id (Nat.lt_of_lt_of_le (hW y) (Nat.pow_le_pow_right (by decide) (by omega)))]; exact hW y
      · exact sw_lt (by omega) (hW y)
/-- Ascending up to the seventh. -/
def Srt (m : Nat → Nat) : Prop := ∀ x, x < 6 → m x ≤ m (x + 1)
def mu (m : Nat → Nat) : Nat := m 0 * 4398046511104 + m 1 * 34359738368 + m 2 * 268435456 + m 3 * 2097152 + m 4 * 16384 + m 5 * 128 + m 6
theorem mu_lt (hW : Wf m) (hi : i < 6) (h : m (i + 1) < m i) : mu (smask i m) < mu m := by
  have hW' := Wf.sw hW (Nat.lt_trans h (hW i))
  have low : ∀ y, y < i → smask i m y = m y := fun y hy => by
    unfold smask sx
    rw [if_neg (by omega), if_neg (by omega), sw_id (Nat.lt_of_lt_of_le (hW y) (Nat.pow_le_pow_right (by decide) (by omega)))]
  have at_ : smask i m i = m (i + 1) := by
    unfold smask sx
    rw [if_pos rfl, sw_id (Nat.lt_trans h (hW i))]
  have b1 : smask i m 1 < 2 := hW' 1
  have b2 : smask i m 2 < 4 := hW' 2
  have b3 : smask i m 3 < 8 := hW' 3
  have b4 : smask i m 4 < 16 := hW' 4
  have b5 : smask i m 5 < 32 := hW' 5
  have b6 : smask i m 6 < 64 := hW' 6
  unfold mu
  match i, hi, h, low, at_, b1, b2, b3, b4, b5, b6 with
  | 0, _, h, low, at_, b1, b2, b3, b4, b5, b6 => omega
  | 1, _, h, low, at_, b1, b2, b3, b4, b5, b6 => have := low 0 (by decide); omega
  | 2, _, h, low, at_, b1, b2, b3, b4, b5, b6 => have := low 0 (by decide); have := low 1 (by decide); omega
  | 3, _, h, low, at_, b1, b2, b3, b4, b5, b6 => have := low 0 (by decide); have := low 1 (by decide); have := low 2 (by decide); omega
  | 4, _, h, low, at_, b1, b2, b3, b4, b5, b6 => have := low 0 (by decide); have := low 1 (by decide); have := low 2 (by decide); have := low 3 (by decide); omega
  | 5, _, h, low, at_, b1, b2, b3, b4, b5, b6 => have := low 0 (by decide); have := low 1 (by decide); have := low 2 (by decide); have := low 3 (by decide); have := low 4 (by decide); omega
/-- It is enough to look at ascending masks. -/
theorem sorted_enough {p T : Nat} (H : ∀ m, Wf m → Srt m → EB m 9 p T) : ∀ m, Wf m → EB m 9 p T := by
  have key : ∀ N m, mu m < N → Wf m → EB m 9 p T := by
    intro N
    induction N with
    | zero => intro m h; omega
    | succ N ih =>
      intro m hm hW
      by_cases hs : Srt m
      · exact H m hW hs
      · have : ∃ x, x < 6 ∧ m (x + 1) < m x := Classical.byContradiction fun hn => hs fun x hx => by
          rcases Nat.lt_or_ge (m (x + 1)) (m x) with hl | hg
          · exact absurd ⟨x, hx, hl⟩ hn
          · exact hg
        obtain ⟨x, hx, hl⟩ := this
        have h1 := mu_lt hW hx hl
        exact EB.sw (by decide) (by omega) (ih (smask x m) (by omega) (Wf.sw hW (Nat.lt_trans hl (hW x))))
  exact fun m hW => key _ m (Nat.lt_succ_self _) hW
end
end Peb
end Go.Proofs.Ytapgpjhogdmjbaa
