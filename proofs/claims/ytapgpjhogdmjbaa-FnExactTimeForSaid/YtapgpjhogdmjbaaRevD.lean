/-
  Reversible pebbling: what the reckoned bits say of a graph's distances. No condition.
-/
import Derived.Test.YtapgpjhogdmjbaaRevC
namespace Go.Proofs.Ytapgpjhogdmjbaa
namespace Peb
namespace Tt
def alp (n : Nat) : Nat → Nat
  | 0 => 0
  | j + 1 => Nat.lor (alp n j) (cond (Nat.ble (cnt (j % 2 ^ n)) (j / 2 ^ n)) (2 ^ j) 0)
def alt (n : Nat) : Nat := rep n (2 ^ (n + 3)) (alp n (2 ^ (n + 3)))
def dia (n : Nat) : Nat → Nat
  | 0 => alt n
  | x + 1 => Nat.land (dia n x) (Nat.xor (full (2 * n + 3)) (Nat.xor (vt (2 * n + 3) x) (vt (2 * n + 3) (n + 3 + x))))
def blk (n q k : Nat) : Nat := rep n (2 ^ (n + 3)) (Nat.shiftLeft k (q * 2 ^ n))
def qb (n q : Nat) : Nat := blk n q (2 ^ (2 ^ n) - 1)
def cmp (n q Rf c : Nat) : Nat := blk n q (Nat.shiftRight Rf ((8 * c + q) * 2 ^ n) % 2 ^ (2 ^ n))
def zof (n q : Nat) (l : List Nat) : Nat := fz (qb n q) l
def eof (n q : Nat) (l : List Nat) : Nat := fz (Nat.land (qb n q) (2 ^ (2 ^ (n + 3)) - 1)) l
def xmk (n q msk Rf c : Nat) : Nat := Nat.xor msk (Nat.land msk (cmp n q Rf c))
def xof (n q msk Rf c : Nat) (l : List Nat) : Nat := fz (xmk n q msk Rf c) l
/-! ### The index -/
def ix (n P q Q : Nat) : Nat := 2 ^ n * (8 * P + q) + Q
section
variable {n P q Q x y c f k M : Nat} {m : Nat → Nat} {H : List Nat}
theorem ix_lt (hP : P < 2 ^ n) (hq : q < 8) (hQ : Q < 2 ^ n) : ix n P q Q < 2 ^ (2 * n + 3) := by
  have h1 : 8 * P + q + 1 ≤ 2 ^ (n + 3) := by rw [Nat.pow_add]; omega
  have h2 := Nat.mul_le_mul_left (2 ^ n) h1
  rw [← Nat.pow_add, show n + (n + 3) = 2 * n + 3 by omega, Nat.mul_add, Nat.mul_one] at h2
  unfold ix
  omega
theorem ix_low (hQ : Q < 2 ^ n) (hy : y < n) : (ix n P q Q).testBit y = Q.testBit y := by
  unfold ix
  rw [Nat.testBit_two_pow_mul_add _ hQ, if_pos hy]
theorem ix_top (hQ : Q < 2 ^ n) (hq : q < 8) : (ix n P q Q).testBit (n + 3 + x) = P.testBit x := by
  unfold ix
  rw [Nat.testBit_two_pow_mul_add _ hQ, if_neg (by omega), show n + 3 + x - n = 3 + x by omega, show 8 * P + q = 2 ^ 3 * P + q from rfl, Nat.testBit_two_pow_mul_add _ (show q < 2 ^ 3 from hq), if_neg (by omega), Nat.add_sub_cancel_left]
theorem ix_flip (hQ : Q < 2 ^ n) (hx : x < n) : ix n P q Q ^^^ 2 ^ x = ix n P q (Q ^^^ 2 ^ x) := by
  apply Nat.eq_of_testBit_eq
  intro j
  unfold ix
  rw [flip_bit, Nat.testBit_two_pow_mul_add _ hQ, Nat.testBit_two_pow_mul_add _ (flip_lt hQ hx)]
  by_cases hj : j < n
  · rw [if_pos hj, if_pos hj, flip_bit]
  · rw [if_neg hj, if_neg hj, decide_eq_false (by omega)]
    cases (8 * P + q).testBit (j - n) <;> rfl
theorem ix_mod (hQ : Q < 2 ^ n) (hq : q < 8) : ix n P q Q % 2 ^ (n + 3) = 2 ^ n * q + Q := by
  have e : ix n P q Q = 2 ^ (n + 3) * P + (2 ^ n * q + Q) := by
    unfold ix
    rw [Nat.pow_add, Nat.mul_add, ← Nat.add_assoc, show (2 : Nat) ^ 3 = 8 from rfl, Nat.mul_assoc]
  have hl : 2 ^ n * q + Q < 2 ^ (n + 3) := by
    have h2 := Nat.mul_le_mul_left (2 ^ n) (show q + 1 ≤ 8 by omega)
    rw [Nat.pow_add, show (2 : Nat) ^ 3 = 8 from rfl]
    rw [Nat.mul_add, Nat.mul_one] at h2
    omega
  rw [e, Nat.mul_add_mod, Nat.mod_eq_of_lt hl]
theorem rep_ix {a : Nat} (ha : a < 2 ^ 2 ^ (n + 3)) (hP : P < 2 ^ n) (hq : q < 8) (hQ : Q < 2 ^ n) : (rep n (2 ^ (n + 3)) a).testBit (ix n P q Q) = a.testBit (2 ^ n * q + Q) := by
  rw [rep_bit _ _ _ _ ha (by rw [← Nat.pow_add, show n + 3 + n = 2 * n + 3 by omega]; exact ix_lt hP hq hQ), ix_mod hQ hq]
theorem alp_bit (n : Nat) : ∀ N i, (alp n N).testBit i = (decide (i < N) && decide (cnt (i % 2 ^ n) ≤ i / 2 ^ n))
  | 0, i => by rw [alp]; simp
  | N + 1, i => by
    rw [alp]
    show (alp n N ||| _).testBit i = _
    rw [Nat.testBit_or, alp_bit n N i]
    by_cases e : i = N
    · subst e
      rw [decide_eq_false (Nat.lt_irrefl i), Bool.false_and, Bool.false_or, decide_eq_true (Nat.lt_succ_self i), Bool.true_and]
      cases hb : Nat.ble (cnt (i % 2 ^ n)) (i / 2 ^ n)
      · rw [cond_false, Nat.zero_testBit]
        have : ¬ cnt (i % 2 ^ n) ≤ i / 2 ^ n := fun h => by rw [Nat.ble_eq_true_of_le h] at hb; cases hb
        rw [decide_eq_false this]
      · rw [cond_true, Nat.testBit_two_pow_self, decide_eq_true (Nat.le_of_ble_eq_true hb)]
    · have h0 : (cond (Nat.ble (cnt (N % 2 ^ n)) (N / 2 ^ n)) (2 ^ N) 0).testBit i = false := by
        cases Nat.ble (cnt (N % 2 ^ n)) (N / 2 ^ n)
        · rw [cond_false, Nat.zero_testBit]
        · rw [cond_true, Nat.testBit_two_pow, decide_eq_false (fun h => e h.symm)]
      rw [h0, Bool.or_false]
      congr 1
      by_cases h : i < N
      · rw [decide_eq_true h, decide_eq_true (by omega)]
      · rw [decide_eq_false h, decide_eq_false (by omega)]
theorem alp_lt (n N : Nat) : alp n N < 2 ^ N := Nat.lt_pow_two_of_testBit _ fun i hi => by rw [alp_bit, decide_eq_false (by omega), Bool.false_and]
theorem alt_bit (hP : P < 2 ^ n) (hq : q < 8) (hQ : Q < 2 ^ n) : (alt n).testBit (ix n P q Q) = decide (cnt Q ≤ q) := by
  unfold alt
  have hl : 2 ^ n * q + Q < 2 ^ (n + 3) := by
    have h2 := Nat.mul_le_mul_left (2 ^ n) (show q + 1 ≤ 8 by omega)
    rw [Nat.pow_add, show (2 : Nat) ^ 3 = 8 from rfl]
    rw [Nat.mul_add, Nat.mul_one] at h2
    omega
  rw [rep_ix (alp_lt _ _) hP hq hQ, alp_bit, decide_eq_true hl, Bool.true_and, Nat.mul_add_mod, Nat.mod_eq_of_lt hQ, Nat.mul_add_div (Nat.pow_pos (by decide)), Nat.div_eq_of_lt hQ, Nat.add_zero]
theorem dia_bit (hP : P < 2 ^ n) (hq : q < 8) (hQ : Q < 2 ^ n) : ∀ x, x ≤ n → ((dia n x).testBit (ix n P q Q) = true ↔ cnt Q ≤ q ∧ ∀ y, y < x → Q.testBit y = P.testBit y)
  | 0, _ => by rw [dia, alt_bit hP hq hQ, decide_eq_true_iff]; simp
  | x + 1, hx => by
    have ih := dia_bit hP hq hQ x (by omega)
    have hi := ix_lt hP hq hQ
    rw [dia]
    show (dia n x &&& (full (2 * n + 3) ^^^ (vt (2 * n + 3) x ^^^ vt (2 * n + 3) (n + 3 + x)))).testBit _ = true ↔ _
    rw [Nat.testBit_and, Bool.and_eq_true, ih, Nat.testBit_xor, Nat.testBit_xor, full_bit hi, vt_bit (by omega) hi, vt_bit (by omega) hi, ix_low hQ (by omega), ix_top hQ hq]
    constructor
    · rintro ⟨⟨h1, h2⟩, h3⟩
      refine ⟨h1, fun y hy => ?_⟩
      rcases Nat.lt_succ_iff_lt_or_eq.1 hy with h4 | rfl
      · exact h2 y h4
      · revert h3; cases Q.testBit y <;> cases P.testBit y <;> simp
    · rintro ⟨h1, h2⟩
      refine ⟨⟨h1, fun y hy => h2 y (by omega)⟩, ?_⟩
      rw [h2 x (by omega)]; cases P.testBit x <;> rfl
theorem bits_eq (hP : P < 2 ^ n) (hQ : Q < 2 ^ n) (h : ∀ y, y < n → Q.testBit y = P.testBit y) : Q = P := by
  apply Nat.eq_of_testBit_eq
  intro y
  by_cases hy : y < n
  · exact h y hy
  · rw [top_off (Nat.lt_of_lt_of_le hQ (Nat.pow_le_pow_right (by decide) (Nat.le_of_not_lt hy))), top_off (Nat.lt_of_lt_of_le hP (Nat.pow_le_pow_right (by decide) (Nat.le_of_not_lt hy)))]
/-- The list is the graph's. -/
def Gr (m : Nat → Nat) (n : Nat) (H : List Nat) : Prop := H.length = n ∧ ∀ x (h : x < H.length), H[x] = m x
theorem step_bit (hW : Wf m) (hG : Gr m n H) (hP : P < 2 ^ n) (hq : q < 8) (hQ : Q < 2 ^ n) (R : Nat) :
    (step (alt n) (tgs (2 * n + 3) H 0) R).testBit (ix n P q Q) = true ↔ cnt Q ≤ q ∧ (R.testBit (ix n P q Q) = true ∨ ∃ x, x < n ∧ R.testBit (ix n P q (Q ^^^ 2 ^ x)) = true ∧ subB (m x) (Q ^^^ 2 ^ x)) := by
  have hi := ix_lt hP hq hQ
  unfold step
  show (alt n &&& app R (tgs (2 * n + 3) H 0)).testBit _ = true ↔ _
  rw [Nat.testBit_and, Bool.and_eq_true, alt_bit hP hq hQ, decide_eq_true_iff, app_bit hi H 0 (by rw [hG.1]; omega)]
  have e : (∃ j, ∃ h : j < H.length, R.testBit (ix n P q Q ^^^ 2 ^ (0 + j)) = true ∧ ∀ y, y < 0 + j → H[j].testBit y = true → (ix n P q Q ^^^ 2 ^ (0 + j)).testBit y = true) ↔ ∃ x, x < n ∧ R.testBit (ix n P q (Q ^^^ 2 ^ x)) = true ∧ subB (m x) (Q ^^^ 2 ^ x) := by
    constructor
    · rintro ⟨j, h, h1, h2⟩
      have hj : j < n := by rw [← hG.1]; exact h
      rw [Nat.zero_add, ix_flip hQ hj] at h1 h2
      refine ⟨j, hj, h1, fun y hy => ?_⟩
      have hyj := bit_lt (hW j) hy
      have := h2 y hyj (by rw [hG.2 j h]; exact hy)
      rw [ix_low (flip_lt hQ hj) (by omega)] at this
      exact this
    · rintro ⟨x, hx, h1, h2⟩
      have h : x < H.length := by rw [hG.1]; exact hx
      refine ⟨x, h, ?_⟩
      rw [Nat.zero_add, ix_flip hQ hx]
      refine ⟨h1, fun y hy hyb => ?_⟩
      rw [ix_low (flip_lt hQ hx) (by omega)]
      exact h2 y (by rw [hG.2 x h] at hyb; exact hyb)
  rw [e]
/-- All bits are ways of at most k moves. -/
def Inv (m : Nat → Nat) (n k R : Nat) : Prop := ∀ P q Q, P < 2 ^ n → q < 8 → Q < 2 ^ n → R.testBit (ix n P q Q) = true → Rk m n q k P Q
theorem Inv.start : Inv m n 0 (dia n n) := fun P q Q hP hq hQ h => by
  obtain ⟨h1, h2⟩ := (dia_bit hP hq hQ n (Nat.le_refl _)).1 h
  have := bits_eq hP hQ h2
  subst this
  exact ⟨0, Nat.le_refl _, .nil ⟨hQ, h1⟩⟩
theorem Inv.next (hW : Wf m) (hG : Gr m n H) {R : Nat} (h : Inv m n k R) : Inv m n (k + 1) (step (alt n) (tgs (2 * n + 3) H 0) R) := fun P q Q hP hq hQ hb => by
  obtain ⟨h1, h2 | ⟨x, hx, h2, h3⟩⟩ := (step_bit hW hG hP hq hQ R).1 hb
  · exact (h P q Q hP hq hQ h2).mono (by omega)
  · obtain ⟨j, hj, hp⟩ := h P q _ hP hq (flip_lt hQ hx) h2
    have hs := Pth.snoc x hp hx h3 (by rw [xor_back]; exact ⟨hQ, h1⟩)
    rw [xor_back] at hs
    exact ⟨j + 1, by omega, hs⟩
theorem fin_inv (hW : Wf m) (hG : Gr m n H) : ∀ f R k, Inv m n k R → ∃ k', Inv m n k' (fin (alt n) (tgs (2 * n + 3) H 0) f R)
  | 0, R, k, h => ⟨k, h⟩
  | f + 1, R, k, h => by
    rw [fin]
    cases Nat.beq (step (alt n) (tgs (2 * n + 3) H 0) R) R
    · rw [cond_false]; exact fin_inv hW hG f _ _ (h.next hW hG)
    · rw [cond_true]; exact ⟨k, h⟩
/-- A row in which a step finds nothing under the mask is whole. -/
theorem row_whole (hW : Wf m) (hG : Gr m n H) (hq : q < 8) {R : Nat} (hM : R.testBit (ix n M q M) = true) (hno : ∀ Z, Conn m n q M Z → (step (alt n) (tgs (2 * n + 3) H 0) R).testBit (ix n M q Z) = true → R.testBit (ix n M q Z) = true) : ∀ Z, Conn m n q M Z → R.testBit (ix n M q Z) = true := fun Z ⟨k, h⟩ => by
  induction h with
  | nil _ => exact hM
  | @snoc k P Q x hp hx hs ho ih =>
    refine hno _ ⟨k + 1, .snoc x hp hx hs ho⟩ ((step_bit hW hG hp.left.1 hq ho.1 R).2 ⟨ho.2, .inr ⟨x, hx, ?_, ?_⟩⟩)
    · rw [xor_back]; exact ih hM hno ⟨k, hp⟩
    · rw [xor_back]; exact hs
theorem lay_rows (hW : Wf m) (hG : Gr m n H) (hq : q < 8) {msk : Nat} (hmk : ∀ Z, Conn m n q M Z → msk.testBit (ix n M q Z) = true) (hok : OkP n q M) : ∀ f R k, Inv m n k R → R.testBit (ix n M q M) = true → fz msk (lay (alt n) (tgs (2 * n + 3) H 0) f R) < 100000 →
    ∀ Z, Conn m n q M Z → Rk m n q (k + fz msk (lay (alt n) (tgs (2 * n + 3) H 0) f R)) M Z
  | 0, R, k, _, _, hz => by rw [lay, fz] at hz; omega
  | f + 1, R, k, hI, hM, hz => by
    intro Z hc
    rw [lay] at hz ⊢
    cases hb : Nat.beq (step (alt n) (tgs (2 * n + 3) H 0) R) R
    · rw [hb, cond_false] at hz
      rw [cond_false]
      rw [fz] at hz ⊢
      cases hd : Nat.beq (Nat.land (Nat.xor (step (alt n) (tgs (2 * n + 3) H 0) R) R) msk) 0
      · rw [hd, cond_false] at hz
        rw [cond_false]
        have hM2 : (step (alt n) (tgs (2 * n + 3) H 0) R).testBit (ix n M q M) = true := (step_bit hW hG hok.1 hq hok.1 R).2 ⟨hok.2, .inl hM⟩
        have := lay_rows hW hG hq hmk hok f _ (k + 1) (hI.next hW hG) hM2 (by omega) Z hc
        exact this.mono (by omega)
      · rw [cond_true, Nat.add_zero]
        refine hI M q Z hok.1 hq hc.right.1 (row_whole hW hG hq hM (fun Z hc h => ?_) Z hc)
        have h0 : (step (alt n) (tgs (2 * n + 3) H 0) R ^^^ R) &&& msk = 0 := Nat.eq_of_beq_eq_true hd
        have h1 := congrArg (fun z => z.testBit (ix n M q Z)) h0
        simp only [Nat.testBit_and, Nat.testBit_xor, Nat.zero_testBit] at h1
        rw [hmk Z hc, h] at h1
        revert h1; cases R.testBit (ix n M q Z) <;> simp
    · rw [cond_true] 
      have e : fz msk [0] = 0 := by
        rw [fz]
        have : Nat.land 0 msk = 0 := Nat.zero_and msk
        rw [this]; rfl
      rw [e, Nat.add_zero]
      have h0 : step (alt n) (tgs (2 * n + 3) H 0) R = R := Nat.eq_of_beq_eq_true hb
      exact hI M q Z hok.1 hq hc.right.1 (row_whole hW hG hq hM (fun Z hc h => by rw [h0] at h; exact h) Z hc)
theorem lay_row (hW : Wf m) (hG : Gr m n H) (hq : q < 8) {msk : Nat} (hmk : ∀ Z, Conn m n q M Z → msk.testBit (ix n M q Z) = true) (hok : OkP n q M) (f : Nat) (hz : fz msk (lay (alt n) (tgs (2 * n + 3) H 0) f (dia n n)) < 100000) :
    ∀ Z, Conn m n q M Z → Rk m n q (fz msk (lay (alt n) (tgs (2 * n + 3) H 0) f (dia n n))) M Z := fun Z hc => by
  have := lay_rows hW hG hq hmk hok f _ 0 Inv.start ((dia_bit hok.1 hq hok.1 n (Nat.le_refl _)).2 ⟨hok.2, fun _ _ => rfl⟩) hz Z hc
  rw [Nat.zero_add] at this
  exact this
/-! ### Masks -/
theorem blk_bit {k : Nat} (hk : k < 2 ^ 2 ^ n) (hP : P < 2 ^ n) (hq : q < 8) (hQ : Q < 2 ^ n) : (blk n q k).testBit (ix n P q Q) = k.testBit Q := by
  unfold blk
  have hl : Nat.shiftLeft k (q * 2 ^ n) < 2 ^ 2 ^ (n + 3) := by
    show k <<< (q * 2 ^ n) < _
    rw [Nat.shiftLeft_eq]
    have h1 := Nat.mul_lt_mul_of_pos_right hk (Nat.pow_pos (n := q * 2 ^ n) (show 0 < 2 by decide))
    rw [← Nat.pow_add] at h1
    refine Nat.lt_of_lt_of_le h1 (Nat.pow_le_pow_right (by decide) ?_)
    rw [Nat.pow_add, show (2 : Nat) ^ 3 = 8 from rfl, Nat.mul_comm (2 ^ n) 8]
    have := Nat.mul_le_mul_right (2 ^ n) (show q + 1 ≤ 8 by omega)
    rw [Nat.add_mul, Nat.one_mul] at this
    omega
  rw [rep_ix hl hP hq hQ]
  show (k <<< (q * 2 ^ n)).testBit _ = _
  rw [Nat.testBit_shiftLeft, Nat.mul_comm q, decide_eq_true (Nat.le_add_right _ _), Bool.true_and, Nat.add_sub_cancel_left]
theorem qb_bit (hP : P < 2 ^ n) (hq : q < 8) (hQ : Q < 2 ^ n) : (qb n q).testBit (ix n P q Q) = true := by
  unfold qb
  have := Nat.pow_pos (n := 2 ^ n) (show 0 < 2 by decide)
  rw [blk_bit (by omega) hP hq hQ, Nat.testBit_two_pow_sub_one]
  exact decide_eq_true hQ
theorem cmp_bit {Rf : Nat} (hP : P < 2 ^ n) (hq : q < 8) (hQ : Q < 2 ^ n) : (cmp n q Rf c).testBit (ix n P q Q) = Rf.testBit (ix n c q Q) := by
  unfold cmp
  rw [blk_bit (Nat.mod_lt _ (Nat.pow_pos (by decide))) hP hq hQ]
  show ((Rf >>> ((8 * c + q) * 2 ^ n)) % 2 ^ 2 ^ n).testBit Q = _
  rw [Nat.testBit_mod_two_pow, decide_eq_true hQ, Bool.true_and, Nat.testBit_shiftRight]
  unfold ix
  rw [Nat.mul_comm (8 * c + q)]
theorem DB_of (hW : Wf m) (hG : Gr m n H) (hq : q < 8) {A msk : Nat} (hmk : ∀ M Z, M < 2 ^ n → Z < 2 ^ n → subB A M → msk.testBit (ix n M q Z) = true) (f : Nat) (hz : fz msk (lay (alt n) (tgs (2 * n + 3) H 0) f (dia n n)) < 100000) : DB m n q A (fz msk (lay (alt n) (tgs (2 * n + 3) H 0) f (dia n n))) :=
  fun M Z hs hc => lay_row hW hG hq (fun Z hc => hmk M Z hc.left.1 hc.right.1 hs) hc.left f hz Z hc
theorem EB_of (hW : Wf m) (hG : Gr m n H) (hq : q < 8) (f : Nat) (hz : eof n q (lay (alt n) (tgs (2 * n + 3) H 0) f (dia n n)) < 100000) : EB m n q (eof n q (lay (alt n) (tgs (2 * n + 3) H 0) f (dia n n))) :=
  fun Z hc => lay_row hW hG hq (fun Z hc => by
    show (qb n q &&& (2 ^ (2 ^ (n + 3)) - 1)).testBit _ = true
    rw [Nat.testBit_and, qb_bit hc.left.1 hq hc.right.1, Nat.testBit_two_pow_sub_one, Bool.true_and]
    refine decide_eq_true ?_
    have h2 := Nat.mul_le_mul_left (2 ^ n) (show q + 1 ≤ 8 by omega)
    have := hc.right.1
    unfold ix
    rw [Nat.mul_zero, Nat.zero_add, Nat.pow_add, show (2 : Nat) ^ 3 = 8 from rfl]
    rw [Nat.mul_add, Nat.mul_one] at h2
    omega) hc.left f hz Z hc
theorem XB_of (hW : Wf m) (hG : Gr m n H) (hq : q < 8) {A msk : Nat} (hmk : ∀ M Z, M < 2 ^ n → Z < 2 ^ n → subB A M → msk.testBit (ix n M q Z) = true) (hc : c < 2 ^ n) (f f2 : Nat) (hz : fz (xmk n q msk (fin (alt n) (tgs (2 * n + 3) H 0) f2 (dia n n)) c) (lay (alt n) (tgs (2 * n + 3) H 0) f (dia n n)) < 100000) :
    XB m n q A c (fz (xmk n q msk (fin (alt n) (tgs (2 * n + 3) H 0) f2 (dia n n)) c) (lay (alt n) (tgs (2 * n + 3) H 0) f (dia n n))) := fun M Z hs hcM hcZ => by
  obtain ⟨k', hI⟩ := fin_inv hW hG f2 _ 0 (Inv.start (m := m) (n := n))
  refine lay_row hW hG hq (fun Z hcZ => ?_) hcZ.left f hz Z hcZ
  show (msk ^^^ (msk &&& cmp n q _ c)).testBit _ = true
  rw [Nat.testBit_xor, Nat.testBit_and, hmk M Z hcZ.left.1 hcZ.right.1 hs, cmp_bit hcZ.left.1 hq hcZ.right.1]
  cases hb : (fin (alt n) (tgs (2 * n + 3) H 0) f2 (dia n n)).testBit (ix n c q Z)
  · rfl
  · exact absurd ((hI c q Z hc hq hcZ.right.1 hb).conn.trans (hcZ.symm hW)) hcM
end
end Tt
end Peb
end Go.Proofs.Ytapgpjhogdmjbaa
