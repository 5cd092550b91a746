/-
  Reversible pebbling: all distances of a graph as bits of numbers, for the kernel to reckon. No condition.
-/
import Derived.Test.YtapgpjhogdmjbaaRevB
namespace Go.Proofs.Ytapgpjhogdmjbaa
namespace Peb
namespace Tt
def rep : Nat → Nat → Nat → Nat
  | 0, _, a => a
  | k + 1, w, a => rep k (2 * w) (Nat.lor a (Nat.shiftLeft a w))
def full (K : Nat) : Nat := 2 ^ (2 ^ K) - 1
/-- The bit b of the number of a bit. -/
def vt (K b : Nat) : Nat := rep (K - (b + 1)) (2 ^ (b + 1)) (Nat.shiftLeft (2 ^ (2 ^ b) - 1) (2 ^ b))
def frt (K mk : Nat) : Nat → Nat
  | 0 => full K
  | y + 1 => cond (Nat.testBit mk y) (Nat.land (frt K mk y) (vt K y)) (frt K mk y)
def tgs (K : Nat) : List Nat → Nat → List (Nat × Nat × Nat)
  | [], _ => []
  | mx :: r, x => (Nat.land (frt K mx x) (Nat.xor (full K) (vt K x)), Nat.land (frt K mx x) (vt K x), 2 ^ x) :: tgs K r (x + 1)
def app (R : Nat) : List (Nat × Nat × Nat) → Nat
  | [] => R
  | (a, b, s) :: r => Nat.lor (Nat.lor (Nat.shiftLeft (Nat.land R a) s) (Nat.shiftRight (Nat.land R b) s)) (app R r)
def step (al : Nat) (ts : List (Nat × Nat × Nat)) (R : Nat) : Nat := Nat.land al (app R ts)
def lay (al : Nat) (ts : List (Nat × Nat × Nat)) : Nat → Nat → List Nat
  | 0, _ => []
  | f + 1, R => cond (Nat.beq (step al ts R) R) [0] (Nat.xor (step al ts R) R :: lay al ts f (step al ts R))
def fin (al : Nat) (ts : List (Nat × Nat × Nat)) : Nat → Nat → Nat
  | 0, R => R
  | f + 1, R => cond (Nat.beq (step al ts R) R) R (fin al ts f (step al ts R))
def fz (msk : Nat) : List Nat → Nat
  | [] => 100000
  | d :: r => cond (Nat.beq (Nat.land d msk) 0) 0 (fz msk r + 1)
/-! ### What the bits say -/
theorem rep_bit : ∀ k w a i, a < 2 ^ w → i < w * 2 ^ k → (rep k w a).testBit i = a.testBit (i % w)
  | 0, w, a, i, _, hi => by rw [rep, Nat.mod_eq_of_lt (by simpa using hi)]
  | k + 1, w, a, i, ha, hi => by
    have ha2 : Nat.lor a (Nat.shiftLeft a w) < 2 ^ (2 * w) := by
      refine Nat.or_lt_two_pow (Nat.lt_of_lt_of_le ha (Nat.pow_le_pow_right (by decide) (by omega))) ?_
      show a <<< w < _
      rw [Nat.shiftLeft_eq, Nat.two_mul, Nat.pow_add]
      exact Nat.mul_lt_mul_of_pos_right ha (Nat.pow_pos (by decide))
    have hw : 0 < w := by
      rcases Nat.eq_zero_or_pos w with rfl | h
      · simp at hi
      · exact h
    rw [rep, rep_bit k (2 * w) _ i ha2 (by rw [Nat.pow_succ] at hi; rw [show 2 * w * 2 ^ k = w * (2 ^ k * 2) by rw [Nat.mul_comm 2 w, Nat.mul_assoc, Nat.mul_comm 2]]; exact hi)]
    have hm : i % (2 * w) % w = i % w := Nat.mod_mod_of_dvd i ⟨2, Nat.mul_comm 2 w⟩
    have hl : i % (2 * w) < 2 * w := Nat.mod_lt _ (by omega)
    generalize i % (2 * w) = j at *
    show (a ||| a <<< w).testBit j = _
    rw [Nat.testBit_or, Nat.testBit_shiftLeft]
    rcases Nat.lt_or_ge j w with hj | hj
    · rw [decide_eq_false (by omega : ¬ j ≥ w), Bool.false_and, Bool.or_false, ← hm, Nat.mod_eq_of_lt hj]
    · have e : j % w = j - w := by rw [Nat.mod_eq_sub_mod hj, Nat.mod_eq_of_lt (by omega)]
      rw [decide_eq_true hj, Bool.true_and, ← hm, e, Nat.testBit_lt_two_pow (Nat.lt_of_lt_of_le ha (Nat.pow_le_pow_right (by decide) hj)), Bool.false_or]
theorem rep_lt : ∀ k w a, a < 2 ^ w → rep k w a < 2 ^ (w * 2 ^ k)
  | 0, w, a, h => by rw [rep, Nat.pow_zero, Nat.mul_one]; exact h
  | k + 1, w, a, h => by
    have ha2 : Nat.lor a (Nat.shiftLeft a w) < 2 ^ (2 * w) := by
      refine Nat.or_lt_two_pow (Nat.lt_of_lt_of_le h (Nat.pow_le_pow_right (by decide) (by omega))) ?_
      show a <<< w < _
      rw [Nat.shiftLeft_eq, Nat.two_mul, Nat.pow_add]
      exact Nat.mul_lt_mul_of_pos_right h (Nat.pow_pos (by decide))
    have := rep_lt k (2 * w) _ ha2
    rw [rep, show w * 2 ^ (k + 1) = 2 * w * 2 ^ k by rw [Nat.pow_succ, Nat.mul_comm 2 w, Nat.mul_assoc, Nat.mul_comm 2]]
    exact this
theorem full_bit {K i : Nat} (h : i < 2 ^ K) : (full K).testBit i = true := by
  unfold full
  rw [Nat.testBit_two_pow_sub_one]; exact decide_eq_true h
theorem pat_lt (b : Nat) : Nat.shiftLeft (2 ^ (2 ^ b) - 1) (2 ^ b) < 2 ^ 2 ^ (b + 1) := by
  show (2 ^ (2 ^ b) - 1) <<< (2 ^ b) < _
  rw [Nat.shiftLeft_eq, Nat.pow_succ, Nat.mul_two, Nat.pow_add]
  have := Nat.pow_pos (n := 2 ^ b) (show 0 < 2 by decide)
  exact Nat.mul_lt_mul_of_pos_right (by omega) this
theorem vt_bit {K b i : Nat} (hb : b < K) (hi : i < 2 ^ K) : (vt K b).testBit i = i.testBit b := by
  unfold vt
  have hK : 2 ^ (b + 1) * 2 ^ (K - (b + 1)) = 2 ^ K := by rw [← Nat.pow_add]; congr 1; omega
  rw [rep_bit _ _ _ _ (pat_lt b) (by rw [hK]; exact hi)]
  show ((2 ^ (2 ^ b) - 1) <<< (2 ^ b)).testBit _ = _
  have hl : i % 2 ^ (b + 1) < 2 ^ (b + 1) := Nat.mod_lt _ (Nat.pow_pos (by decide))
  have hb2 : i.testBit b = (i % 2 ^ (b + 1)).testBit b := by rw [Nat.testBit_mod_two_pow]; simp
  rw [hb2]
  generalize i % 2 ^ (b + 1) = j at *
  rw [Nat.testBit_shiftLeft, Nat.testBit_two_pow_sub_one]
  rcases Nat.lt_or_ge j (2 ^ b) with h | h
  · rw [decide_eq_false (by omega : ¬ j ≥ 2 ^ b), Bool.false_and, Nat.testBit_lt_two_pow h]
  · have e : j.testBit b = true := by
      rw [Nat.testBit_eq_decide_div_mod_eq]
      have : 2 ^ (b + 1) = 2 * 2 ^ b := Nat.pow_succ'
      rw [Nat.div_eq_of_lt_le (m := j) (n := 2 ^ b) (k := 1) (by omega) (by omega)]; rfl
    have : 2 ^ (b + 1) = 2 * 2 ^ b := Nat.pow_succ'
    rw [decide_eq_true h, decide_eq_true (by omega), e]; rfl
theorem vt_lt {K b : Nat} (hb : b < K) : vt K b < 2 ^ 2 ^ K := by
  have := rep_lt (K - (b + 1)) _ _ (pat_lt b)
  rw [← Nat.pow_add, show b + 1 + (K - (b + 1)) = K by omega] at this
  exact this
theorem vt_true {K b j : Nat} (hb : b < K) (h : (vt K b).testBit j = true) : j < 2 ^ K ∧ j.testBit b = true := by
  have hj : j < 2 ^ K := by
    rcases Nat.lt_or_ge j (2 ^ K) with h1 | h1
    · exact h1
    · rw [Nat.testBit_lt_two_pow (Nat.lt_of_lt_of_le (vt_lt hb) (Nat.pow_le_pow_right (by decide) h1))] at h; cases h
  exact ⟨hj, by rw [← vt_bit hb hj]; exact h⟩
theorem frt_bit {K mk i : Nat} (hi : i < 2 ^ K) : ∀ x, x ≤ K → ((frt K mk x).testBit i = true ↔ ∀ y, y < x → mk.testBit y = true → i.testBit y = true)
  | 0, _ => by rw [frt, full_bit hi]; simp
  | x + 1, hx => by
    have ih := frt_bit (mk := mk) hi x (by omega)
    rw [frt]
    cases hm : Nat.testBit mk x
    · rw [cond_false, ih]
      constructor
      · intro h y hy hmy
        rcases Nat.lt_succ_iff_lt_or_eq.1 hy with h1 | rfl
        · exact h y h1 hmy
        · rw [hm] at hmy; cases hmy
      · exact fun h y hy => h y (by omega)
    · rw [cond_true]
      show ((frt K mk x) &&& (vt K x)).testBit i = true ↔ _
      rw [Nat.testBit_and, Bool.and_eq_true, ih, vt_bit (by omega) hi]
      constructor
      · rintro ⟨h1, h2⟩ y hy hmy
        rcases Nat.lt_succ_iff_lt_or_eq.1 hy with h3 | rfl
        · exact h1 y h3 hmy
        · exact h2
      · exact fun h => ⟨fun y hy => h y (by omega), h x (by omega) hm⟩
theorem xor_add {i x : Nat} (h : i.testBit x = false) : i ^^^ 2 ^ x = i + 2 ^ x := by
  have hd : i = 2 ^ (x + 1) * (i / 2 ^ (x + 1)) + i % 2 ^ (x + 1) := (Nat.div_add_mod _ _).symm
  have hl : i % 2 ^ (x + 1) < 2 ^ (x + 1) := Nat.mod_lt _ (Nat.pow_pos (by decide))
  have hb : (i % 2 ^ (x + 1)).testBit x = false := by rw [Nat.testBit_mod_two_pow, h]; simp
  generalize i / 2 ^ (x + 1) = u at *
  generalize i % 2 ^ (x + 1) = v at *
  have hv : v < 2 ^ x := low_lt hl hb
  have e2 : 2 ^ (x + 1) = 2 * 2 ^ x := Nat.pow_succ'
  have e3 : i + 2 ^ x = 2 ^ (x + 1) * u + (2 ^ x * 1 + v) := by omega
  rw [e3]
  apply Nat.eq_of_testBit_eq
  intro j
  rw [flip_bit, hd, Nat.testBit_two_pow_mul_add u hl, Nat.testBit_two_pow_mul_add u (show 2 ^ x * 1 + v < 2 ^ (x + 1) by omega)]
  by_cases hj : j < x + 1
  · rw [if_pos hj, if_pos hj, Nat.testBit_two_pow_mul_add _ hv]
    by_cases hjx : j < x
    · rw [if_pos hjx, decide_eq_false (by omega)]; cases v.testBit j <;> rfl
    · have : j = x := by omega
      subst this
      rw [if_neg hjx, decide_eq_true rfl, hb, Nat.sub_self]; rfl
  · rw [if_neg hj, if_neg hj, decide_eq_false (by omega)]; cases u.testBit (j - (x + 1)) <;> rfl
theorem xor_sub {i x : Nat} (h : i.testBit x = true) : (i ^^^ 2 ^ x) + 2 ^ x = i := by
  have h2 : (i ^^^ 2 ^ x).testBit x = false := by rw [flip_bit, h, decide_eq_true rfl]; rfl
  have := xor_add h2
  rw [xor_back] at this
  exact this.symm
/-- The bits change places with those across the bit x. -/
theorem tog_bit {K R F x i : Nat} (hx : x < K) (hi : i < 2 ^ K) :
    (Nat.lor (Nat.shiftLeft (Nat.land R (Nat.land F (Nat.xor (full K) (vt K x)))) (2 ^ x)) (Nat.shiftRight (Nat.land R (Nat.land F (vt K x))) (2 ^ x))).testBit i = (R.testBit (i ^^^ 2 ^ x) && F.testBit (i ^^^ 2 ^ x)) := by
  show (((R &&& (F &&& (full K ^^^ vt K x))) <<< (2 ^ x)) ||| ((R &&& (F &&& vt K x)) >>> (2 ^ x))).testBit i = _
  have hx2 : i ^^^ 2 ^ x < 2 ^ K := flip_lt hi hx
  rw [Nat.testBit_or, Nat.testBit_shiftLeft, Nat.testBit_shiftRight, Nat.testBit_and, Nat.testBit_and, Nat.testBit_xor, Nat.testBit_and, Nat.testBit_and]
  cases hb : i.testBit x
  · have e := xor_add hb
    have hr : (vt K x).testBit (2 ^ x + i) = true := by
      rw [Nat.add_comm, ← e, vt_bit hx hx2, flip_bit, hb, decide_eq_true rfl]; rfl
    have hl : (decide (i ≥ 2 ^ x) && (R.testBit (i - 2 ^ x) && (F.testBit (i - 2 ^ x) && ((full K).testBit (i - 2 ^ x) != (vt K x).testBit (i - 2 ^ x))))) = false := by
      by_cases hge : i ≥ 2 ^ x
      · have h1 : i - 2 ^ x < 2 ^ K := Nat.lt_of_le_of_lt (Nat.sub_le _ _) hi
        have h2 : (i - 2 ^ x).testBit x = true := by
          cases h3 : (i - 2 ^ x).testBit x
          · have := xor_add h3
            rw [Nat.sub_add_cancel hge] at this
            have h4 : i.testBit x = true := by rw [← this, flip_bit, h3, decide_eq_true rfl]; rfl
            rw [hb] at h4; cases h4
          · rfl
        rw [full_bit h1, vt_bit hx h1, h2]; simp
      · rw [decide_eq_false hge, Bool.false_and]
    rw [hl, hr, Bool.false_or, Bool.and_true, Nat.add_comm (2 ^ x) i, ← e]
  · have e := xor_sub hb
    have hge : i ≥ 2 ^ x := by omega
    have e2 : i - 2 ^ x = i ^^^ 2 ^ x := by omega
    have hr : (vt K x).testBit (2 ^ x + i) = false := by
      cases h3 : (vt K x).testBit (2 ^ x + i)
      · rfl
      · obtain ⟨h4, h5⟩ := vt_true hx h3
        exfalso
        have h6 := xor_sub h5
        have h7 : (2 ^ x + i) ^^^ 2 ^ x = i := by omega
        have h8 : i.testBit x = false := by rw [← h7, flip_bit, h5, decide_eq_true rfl]; rfl
        rw [hb] at h8; cases h8
    have hv : (vt K x).testBit (i ^^^ 2 ^ x) = false := by rw [vt_bit hx hx2, flip_bit, hb, decide_eq_true rfl]; rfl
    rw [hr, decide_eq_true hge, Bool.true_and, e2, full_bit hx2, hv]; simp
theorem app_bit {K R i : Nat} (hi : i < 2 ^ K) : ∀ (H : List Nat) (x : Nat), x + H.length ≤ K →
    ((app R (tgs K H x)).testBit i = true ↔ R.testBit i = true ∨ ∃ j, ∃ h : j < H.length, R.testBit (i ^^^ 2 ^ (x + j)) = true ∧ ∀ y, y < x + j → H[j].testBit y = true → (i ^^^ 2 ^ (x + j)).testBit y = true)
  | [], x, _ => by
    rw [tgs, app]
    constructor
    · exact .inl
    · rintro (h | ⟨j, h, _⟩)
      · exact h
      · exact absurd h (Nat.not_lt_zero _)
  | mx :: r, x, hl => by
    have ih := app_bit (R := R) hi r (x + 1) (by rw [List.length_cons] at hl; omega)
    have hxK : x < K := by rw [List.length_cons] at hl; omega
    rw [tgs, app]
    show (Nat.lor (Nat.shiftLeft _ _) (Nat.shiftRight _ _) ||| app R (tgs K r (x + 1))).testBit i = true ↔ _
    rw [Nat.testBit_or, Bool.or_eq_true, ih, tog_bit hxK hi, Bool.and_eq_true, frt_bit (flip_lt hi hxK) x (by omega)]
    constructor
    · rintro (⟨h1, h2⟩ | h | ⟨j, h, h1, h2⟩)
      · exact .inr ⟨0, by simp, h1, h2⟩
      · exact .inl h
      · refine .inr ⟨j + 1, by simpa using h, ?_⟩
        rw [show x + (j + 1) = x + 1 + j by omega]
        exact ⟨h1, h2⟩
    · rintro (h | ⟨j, h, h1, h2⟩)
      · exact .inr (.inl h)
      · cases j with
        | zero => exact .inl ⟨h1, h2⟩
        | succ j =>
          rw [show x + (j + 1) = x + 1 + j by omega] at h1 h2
          exact .inr (.inr ⟨j, by simpa using h, h1, h2⟩)
end Tt
end Peb
end Go.Proofs.Ytapgpjhogdmjbaa
