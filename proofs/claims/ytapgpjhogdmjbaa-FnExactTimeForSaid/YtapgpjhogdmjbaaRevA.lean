/-
  Reversible pebbling, in plain words: ways in graphs with a top node. Condition: at most ten nodes.
-/
import Derived.Test.YtapgpjhogdmjbaaPebQ
namespace Go.Proofs.Ytapgpjhogdmjbaa
namespace Peb
/-- All forerunners are smaller. -/
def Wf (m : Nat → Nat) : Prop := ∀ x, m x < 2 ^ x
def OkP (n q P : Nat) : Prop := P < 2 ^ n ∧ cnt P ≤ q
/-- A way of k moves in the graph of n nodes with q pebbles. -/
inductive Pth (m : Nat → Nat) (n q : Nat) : Nat → Nat → Nat → Prop
  | nil {P : Nat} : OkP n q P → Pth m n q 0 P P
  | snoc {k P Q : Nat} (x : Nat) : Pth m n q k P Q → x < n → subB (m x) Q → OkP n q (Q ^^^ 2 ^ x) → Pth m n q (k + 1) P (Q ^^^ 2 ^ x)
def Conn (m : Nat → Nat) (n q P Q : Nat) : Prop := ∃ k, Pth m n q k P Q
def Rk (m : Nat → Nat) (n q k P Q : Nat) : Prop := ∃ j, j ≤ k ∧ Pth m n q j P Q
section
variable {m : Nat → Nat} {n q q' k j P Q R x A c : Nat}
theorem OkP.lt10 (h : OkP n q P) (hn : n ≤ 10) : P < 1024 := lt_bits hn h.1
theorem Pth.left (h : Pth m n q k P Q) : OkP n q P := by
  induction h with
  | nil h => exact h
  | snoc _ _ _ _ _ ih => exact ih
theorem Pth.right (h : Pth m n q k P Q) : OkP n q Q := by
  cases h with
  | nil h => exact h
  | snoc _ _ _ _ h => exact h
theorem Pth.trans (h : Pth m n q k P Q) {R : Nat} (g : Pth m n q j Q R) : Pth m n q (k + j) P R := by
  induction g with
  | nil _ => exact h
  | snoc x _ hx hs ho ih => exact Pth.snoc x (ih h) hx hs ho
theorem sub_flip (hW : Wf m) (h : subB (m x) Q) : subB (m x) (Q ^^^ 2 ^ x) := fun y hy => by
  have hyx : y < x := bit_lt (hW x) hy
  rw [flip_bit, h y hy, decide_eq_false (by omega)]; rfl
theorem xor_back (Q x : Nat) : (Q ^^^ 2 ^ x) ^^^ 2 ^ x = Q := by rw [Nat.xor_assoc, Nat.xor_self, Nat.xor_zero]
theorem Pth.one (hx : x < n) (h : OkP n q Q) (hs : subB (m x) Q) (h' : OkP n q (Q ^^^ 2 ^ x)) : Pth m n q 1 Q (Q ^^^ 2 ^ x) := Pth.snoc x (Pth.nil h) hx hs h'
theorem Pth.symm (hW : Wf m) (h : Pth m n q k P Q) : Pth m n q k Q P := by
  induction h with
  | nil h => exact .nil h
  | @snoc k P Q x hp hx hs ho ih =>
    have h1 := Pth.one (m := m) hx ho (sub_flip hW hs) (by rw [xor_back]; exact hp.right)
    rw [xor_back] at h1
    have := h1.trans ih
    rw [Nat.add_comm] at this
    exact this
theorem Pth.mono (h : Pth m n q k P Q) (hq : q ≤ q') : Pth m n q' k P Q := by
  induction h with
  | nil h => exact .nil ⟨h.1, Nat.le_trans h.2 hq⟩
  | snoc x _ hx hs ho ih => exact .snoc x ih hx hs ⟨ho.1, Nat.le_trans ho.2 hq⟩
theorem Pth.up0 (h : Pth m n q k P Q) : Pth m (n + 1) q k P Q := by
  have hp : 2 ^ n ≤ 2 ^ (n + 1) := Nat.pow_le_pow_right (by decide) (Nat.le_succ n)
  induction h with
  | nil h => exact .nil ⟨Nat.lt_of_lt_of_le h.1 hp, h.2⟩
  | snoc x _ hx hs ho ih => exact .snoc x ih (Nat.lt_succ_of_lt hx) hs ⟨Nat.lt_of_lt_of_le ho.1 hp, ho.2⟩
theorem top_lt (h : P < 2 ^ n) : P ^^^ 2 ^ n < 2 ^ (n + 1) := Nat.xor_lt_two_pow (Nat.lt_of_lt_of_le h (Nat.pow_le_pow_right (by decide) (Nat.le_succ n))) (Nat.pow_lt_pow_right (by decide) (Nat.lt_succ_self n))
theorem top_off (h : P < 2 ^ n) : P.testBit n = false := Nat.testBit_lt_two_pow h
theorem top_cnt (hn : n < 10) (h : P < 2 ^ n) : cnt (P ^^^ 2 ^ n) = cnt P + 1 := by
  have := flip_cnt ⟨P, lt_bits (by omega) h⟩ ⟨n, hn⟩
  simp only at this
  rw [this, top_off h]; rfl
theorem OkP.up1 (hn : n < 10) (h : OkP n q P) : OkP (n + 1) (q + 1) (P ^^^ 2 ^ n) := ⟨top_lt h.1, by rw [top_cnt hn h.1]; have := h.2; omega⟩
theorem xor_comm3 (Q x n : Nat) : (Q ^^^ 2 ^ x) ^^^ 2 ^ n = (Q ^^^ 2 ^ n) ^^^ 2 ^ x := by rw [Nat.xor_assoc, Nat.xor_comm (2 ^ x), ← Nat.xor_assoc]
theorem Pth.up1 (hn : n < 10) (h : Pth m n q k P Q) : Pth m (n + 1) (q + 1) k (P ^^^ 2 ^ n) (Q ^^^ 2 ^ n) := by
  induction h with
  | nil h => exact .nil (h.up1 hn)
  | @snoc k P Q x hp hx hs ho ih =>
    rw [xor_comm3]
    refine .snoc x ih (Nat.lt_succ_of_lt hx) (fun y hy => ?_) ?_
    · have hq := hs y hy
      have hy2 : y < n := bit_lt hp.right.1 hq
      rw [flip_bit, hq, decide_eq_false (by omega)]; rfl
    · rw [← xor_comm3]; exact ho.up1 hn
theorem low_lt (h : R < 2 ^ (n + 1)) (hb : R.testBit n = false) : R < 2 ^ n := by
  rcases Nat.lt_or_ge R (2 ^ n) with hl | hg
  · exact hl
  · exfalso
    have : R.testBit n = true := by
      rw [Nat.testBit_eq_decide_div_mod_eq]
      have h2 : 2 ^ (n + 1) = 2 * 2 ^ n := Nat.pow_succ'
      have hd : R / 2 ^ n = 1 := Nat.div_eq_of_lt_le (by omega) (by omega)
      rw [hd]; rfl
    rw [this] at hb; cases hb
theorem low_top (h : R < 2 ^ (n + 1)) (hb : R.testBit n = true) : R ^^^ 2 ^ n < 2 ^ n := by
  refine low_lt (Nat.xor_lt_two_pow h (Nat.pow_lt_pow_right (by decide) (Nat.lt_succ_self n))) ?_
  rw [flip_bit, hb, decide_eq_true rfl]; rfl
theorem OkP.low0 (h : OkP (n + 1) q R) (hb : R.testBit n = false) : OkP n q R := ⟨low_lt h.1 hb, h.2⟩
theorem OkP.low1 (hn : n < 10) (h : OkP (n + 1) q R) (hb : R.testBit n = true) : OkP n (q - 1) (R ^^^ 2 ^ n) ∧ cnt (R ^^^ 2 ^ n) + 1 ≤ q := by
  have hl := low_top h.1 hb
  have hc := top_cnt hn hl
  rw [xor_back] at hc
  have := h.2
  exact ⟨⟨hl, by omega⟩, by omega⟩
theorem Conn.refl (h : OkP n q P) : Conn m n q P P := ⟨0, .nil h⟩
theorem Conn.trans (h : Conn m n q P Q) (g : Conn m n q Q R) : Conn m n q P R := by
  obtain ⟨k, h⟩ := h; obtain ⟨j, g⟩ := g; exact ⟨_, h.trans g⟩
theorem Conn.symm (hW : Wf m) (h : Conn m n q P Q) : Conn m n q Q P := by obtain ⟨k, h⟩ := h; exact ⟨k, h.symm hW⟩
theorem Conn.mono (h : Conn m n q P Q) (hq : q ≤ q') : Conn m n q' P Q := by obtain ⟨k, h⟩ := h; exact ⟨k, h.mono hq⟩
theorem Conn.step (h : Conn m n q P Q) (hx : x < n) (hs : subB (m x) Q) (ho : OkP n q (Q ^^^ 2 ^ x)) : Conn m n q P (Q ^^^ 2 ^ x) := by obtain ⟨k, h⟩ := h; exact ⟨_, .snoc x h hx hs ho⟩
theorem Conn.left (h : Conn m n q P Q) : OkP n q P := by obtain ⟨k, h⟩ := h; exact h.left
theorem Conn.right (h : Conn m n q P Q) : OkP n q Q := by obtain ⟨k, h⟩ := h; exact h.right
theorem Rk.mono (h : Rk m n q k P Q) (hk : k ≤ j) : Rk m n q j P Q := by obtain ⟨i, h1, h2⟩ := h; exact ⟨i, Nat.le_trans h1 hk, h2⟩
theorem Rk.trans (h : Rk m n q k P Q) (g : Rk m n q j Q R) : Rk m n q (k + j) P R := by
  obtain ⟨i, h1, h2⟩ := h; obtain ⟨l, g1, g2⟩ := g; exact ⟨i + l, by omega, h2.trans g2⟩
theorem Rk.symm (hW : Wf m) (h : Rk m n q k P Q) : Rk m n q k Q P := by obtain ⟨i, h1, h2⟩ := h; exact ⟨i, h1, h2.symm hW⟩
theorem Rk.up0 (h : Rk m n q k P Q) : Rk m (n + 1) q k P Q := by obtain ⟨i, h1, h2⟩ := h; exact ⟨i, h1, h2.up0⟩
theorem Rk.up1 (hn : n < 10) (hq : 1 ≤ q) (h : Rk m n (q - 1) k P Q) : Rk m (n + 1) q k (P ^^^ 2 ^ n) (Q ^^^ 2 ^ n) := by
  obtain ⟨i, h1, h2⟩ := h
  have := h2.up1 hn
  rw [Nat.sub_add_cancel hq] at this
  exact ⟨i, h1, this⟩
theorem Rk.put (hn : n < 10) (hM : OkP n q Q) (hs : subB (m n) Q) (hc : cnt Q + 1 ≤ q) : Rk m (n + 1) q 1 Q (Q ^^^ 2 ^ n) :=
  ⟨1, Nat.le_refl _, Pth.one (Nat.lt_succ_self n) ⟨Nat.lt_of_lt_of_le hM.1 (Nat.pow_le_pow_right (by decide) (Nat.le_succ n)), hM.2⟩ hs ⟨top_lt hM.1, by rw [top_cnt hn hM.1]; exact hc⟩⟩
theorem Rk.conn (h : Rk m n q k P Q) : Conn m n q P Q := by obtain ⟨i, _, h⟩ := h; exact ⟨i, h⟩
/-- What a way looks like from the lower nodes. -/
theorem decomp (hW : Wf m) (hn : n < 10) (h : Pth m (n + 1) q k P Q) :
    (P.testBit n = false → (Q.testBit n = false → Conn m n q P Q) ∧ (Q.testBit n = true → ∃ M, Conn m n q P M ∧ subB (m n) M ∧ cnt M + 1 ≤ q ∧ Conn m n (q - 1) M (Q ^^^ 2 ^ n))) ∧
    (P.testBit n = true → (Q.testBit n = false → ∃ M, Conn m n (q - 1) (P ^^^ 2 ^ n) M ∧ subB (m n) M ∧ cnt M + 1 ≤ q ∧ Conn m n q M Q) ∧
      (Q.testBit n = true → Conn m n (q - 1) (P ^^^ 2 ^ n) (Q ^^^ 2 ^ n) ∨ ∃ M1 M2, Conn m n (q - 1) (P ^^^ 2 ^ n) M1 ∧ subB (m n) M1 ∧ cnt M1 + 1 ≤ q ∧ Conn m n q M1 M2 ∧ subB (m n) M2 ∧ cnt M2 + 1 ≤ q ∧ Conn m n (q - 1) M2 (Q ^^^ 2 ^ n))) := by
  induction h with
  | @nil P h =>
    refine ⟨fun h0 => ⟨fun _ => .refl (h.low0 h0), fun h1 => ?_⟩, fun h1 => ⟨fun h0 => ?_, fun _ => .inl (.refl (h.low1 hn h1).1)⟩⟩
    · rw [h0] at h1; cases h1
    · rw [h1] at h0; cases h0
  | @snoc k P Q x hp hx hs ho ih =>
    have hoQ := hp.right
    by_cases hxn : x = n
    · subst hxn
      have hbit : (Q ^^^ 2 ^ x).testBit x = !Q.testBit x := by rw [flip_bit, decide_eq_true rfl]; cases Q.testBit x <;> rfl
      rw [hbit, xor_back]
      refine ⟨fun h0 => ⟨fun h1 => ?_, fun h1 => ?_⟩, fun h0 => ⟨fun h1 => ?_, fun h1 => ?_⟩⟩
      · have hq : Q.testBit x = true := by simpa using h1
        obtain ⟨M, a, b, c, d⟩ := ((ih).1 h0).2 hq
        exact a.trans (d.mono (by omega))
      · have hq : Q.testBit x = false := by simpa using h1
        have hoq := (OkP.low1 hn ho (by rw [hbit, hq]; rfl))
        rw [xor_back] at hoq
        exact ⟨Q, ((ih).1 h0).1 hq, hs, hoq.2, .refl hoq.1⟩
      · have hq : Q.testBit x = true := by simpa using h1
        have hoq := (OkP.low1 hn hoQ hq)
        rcases ((ih).2 h0).2 hq with a | ⟨M1, M2, a, b, c, d, e, f, g⟩
        · refine ⟨Q ^^^ 2 ^ x, a, fun y hy => ?_, hoq.2, .refl ⟨hoq.1.1, Nat.le_trans hoq.1.2 (by omega)⟩⟩
          have hyQ := hs y hy
          rw [flip_bit, hyQ]
          by_cases hyx : x = y
          · exfalso
            subst hyx
            exact absurd (bit_lt (hW x) hy) (Nat.lt_irrefl _)
          · rw [decide_eq_false hyx]; rfl
        · exact ⟨M1, a, b, c, d.trans (g.mono (by omega))⟩
      · have hq : Q.testBit x = false := by simpa using h1
        have hoq := (OkP.low1 hn ho (by rw [hbit, hq]; rfl))
        rw [xor_back] at hoq
        obtain ⟨M, a, b, c, d⟩ := ((ih).2 h0).1 hq
        exact .inr ⟨M, Q, a, b, c, d, hs, hoq.2, .refl hoq.1⟩
    · have hxl : x < n := by omega
      have hbit : (Q ^^^ 2 ^ x).testBit n = Q.testBit n := by rw [flip_bit, decide_eq_false hxn]; cases Q.testBit n <;> rfl
      rw [hbit]
      have low1 : Q.testBit n = true → ∀ {R : Nat}, Conn m n (q - 1) R (Q ^^^ 2 ^ n) → Conn m n (q - 1) R ((Q ^^^ 2 ^ x) ^^^ 2 ^ n) := fun hq {R} hc => by
        have h1 := (OkP.low1 hn ho (by rw [hbit]; exact hq)).1
        rw [xor_comm3] at h1 ⊢
        refine hc.step hxl (fun y hy => ?_) h1
        have hyQ := hs y hy
        rw [flip_bit, hyQ]
        by_cases hyn : n = y
        · exfalso
          have := bit_lt (hW x) hy
          omega
        · rw [decide_eq_false hyn]; rfl
      refine ⟨fun h0 => ⟨fun hq => ?_, fun hq => ?_⟩, fun h0 => ⟨fun hq => ?_, fun hq => ?_⟩⟩
      · exact (((ih).1 h0).1 hq).step hxl hs (ho.low0 (by rw [hbit]; exact hq))
      · obtain ⟨M, a, b, c, d⟩ := ((ih).1 h0).2 hq
        exact ⟨M, a, b, c, low1 hq d⟩
      · obtain ⟨M, a, b, c, d⟩ := ((ih).2 h0).1 hq
        exact ⟨M, a, b, c, d.step hxl hs (ho.low0 (by rw [hbit]; exact hq))⟩
      · rcases ((ih).2 h0).2 hq with a | ⟨M1, M2, a, b, c, d, e, f, g⟩
        · exact .inl (low1 hq a)
        · exact .inr ⟨M1, M2, a, b, c, d, e, f, low1 hq g⟩
/-! ### Bounds -/
def EB (m : Nat → Nat) (n q e : Nat) : Prop := ∀ Z, Conn m n q 0 Z → Rk m n q e 0 Z
def DB (m : Nat → Nat) (n q A e : Nat) : Prop := ∀ M Z, subB A M → Conn m n q M Z → Rk m n q e M Z
def XB (m : Nat → Nat) (n q A c e : Nat) : Prop := ∀ M Z, subB A M → ¬ Conn m n q c M → Conn m n q M Z → Rk m n q e M Z
def SB (m : Nat → Nat) (n q A s : Nat) : Prop := ∀ M1 Z1 M2 Z2, subB A M1 → subB A M2 → Conn m n q M1 Z1 → Conn m n q M2 Z2 → ¬ Conn m n q M1 M2 → ∃ k1 k2, k1 + k2 ≤ s ∧ Rk m n q k1 M1 Z1 ∧ Rk m n q k2 M2 Z2
variable {e e1 e2 E D D0 D1 eA sA X x0 : Nat}
theorem sub_zero (P : Nat) : subB 0 P := fun y hy => by simp at hy
theorem EB.weak (h : EB m n q e) (he : e ≤ e1) : EB m n q e1 := fun Z hz => (h Z hz).mono he
theorem DB.weak (h : DB m n q A e) (he : e ≤ e1) : DB m n q A e1 := fun M Z hs hz => (h M Z hs hz).mono he
theorem DB.more (h : DB m n q 0 e) (A : Nat) : DB m n q A e := fun M Z _ hz => h M Z (sub_zero M) hz
theorem XB.more (h : XB m n q 0 c e) (A : Nat) : XB m n q A c e := fun M Z _ hc hz => h M Z (sub_zero M) hc hz
theorem SB.more (h : SB m n q 0 e) (A : Nat) : SB m n q A e := fun M1 Z1 M2 Z2 _ _ h1 h2 hn => h M1 Z1 M2 Z2 (sub_zero _) (sub_zero _) h1 h2 hn
theorem SB.of (hW : Wf m) (h : DB m n q A e1) (g : XB m n q A c e2) : SB m n q A (e1 + e2) := fun M1 Z1 M2 Z2 s1 s2 h1 h2 hn => by
  by_cases hc : Conn m n q c M2
  · refine ⟨e2, e1, by omega, g M1 Z1 s1 (fun hc1 => hn ((hc1.symm hW).trans hc)) h1, h M2 Z2 s2 h2⟩
  · exact ⟨e1, e2, Nat.le_refl _, h M1 Z1 s1 h1, g M2 Z2 s2 hc h2⟩
theorem EB.up (hW : Wf m) (hn : n < 10) (h : EB m n q E) (g : DB m n (q - 1) (m n) e) : EB m (n + 1) q (E + 1 + e) := fun Z hz => by
  obtain ⟨k, hz⟩ := hz
  have hd := (decomp hW hn hz).1 (Nat.zero_testBit n)
  cases hb : Z.testBit n
  · exact ((h Z (hd.1 hb)).up0).mono (by omega)
  · obtain ⟨M, a, b, c, d⟩ := hd.2 hb
    have h1 := (h M a).up0
    have h2 := Rk.put hn a.right b c
    have h3 := (g M _ b d).up1 hn (by omega)
    rw [xor_back] at h3
    exact (h1.trans h2).trans h3
theorem DB.up (hW : Wf m) (hn : n < 10) (h0 : DB m n q 0 D0) (h1 : DB m n (q - 1) 0 D1) (hA : DB m n q (m n) eA) (hA1 : DB m n (q - 1) (m n) e1) (hS : SB m n (q - 1) (m n) sA) (l0 : D0 ≤ D) (l1 : D1 ≤ D) (l2 : e1 ≤ sA) (l3 : eA + 2 + sA ≤ D) : DB m (n + 1) q 0 D := fun P Z _ hz => by
  have hoP := hz.left
  have hoZ := hz.right
  obtain ⟨k, hz⟩ := hz
  have hd := decomp hW hn hz
  cases hp : P.testBit n
  · cases hb : Z.testBit n
    · exact ((h0 P Z (sub_zero _) ((hd.1 hp).1 hb)).up0).mono l0
    · obtain ⟨M, a, b, c, d⟩ := (hd.1 hp).2 hb
      have g1 := ((hA M P b (a.symm hW)).symm hW).up0
      have g2 := Rk.put hn a.right b c
      have g3 := (hA1 M _ b d).up1 hn (by omega)
      rw [xor_back] at g3
      exact ((g1.trans g2).trans g3).mono (by omega)
  · cases hb : Z.testBit n
    · obtain ⟨M, a, b, c, d⟩ := (hd.2 hp).1 hb
      have g1 := ((hA1 M _ b (a.symm hW)).symm hW).up1 hn (by omega)
      rw [xor_back] at g1
      have g2 := ((Rk.put (q := q) hn ⟨a.right.1, Nat.le_trans a.right.2 (by omega)⟩ b c).symm hW)
      have g3 := (hA M Z b d).up0
      exact ((g1.trans g2).trans g3).mono (by omega)
    · rcases (hd.2 hp).2 hb with a | ⟨M1, M2, a, b, c, d, e, f, g⟩
      · have hq := (OkP.low1 hn hoP hp).2
        have g1 := (h1 _ _ (sub_zero _) a).up1 hn (by omega)
        rw [xor_back, xor_back] at g1
        exact g1.mono l1
      · by_cases hc : Conn m n (q - 1) M1 M2
        · have hq := (OkP.low1 hn hoP hp).2
          have g1 := (h1 _ _ (sub_zero _) ((a.trans hc).trans g)).up1 hn (by omega)
          rw [xor_back, xor_back] at g1
          exact g1.mono l1
        · obtain ⟨k1, k2, hk, r1, r2⟩ := hS M1 _ M2 _ b e (a.symm hW) g hc
          have g1 := (r1.symm hW).up1 hn (by omega)
          have g5 := r2.up1 hn (by omega)
          rw [xor_back] at g1 g5
          have g2 := ((Rk.put (q := q) hn d.left b c).symm hW)
          have g3 := (hA M1 M2 b d).up0
          have g4 := Rk.put hn d.right e f
          exact ((((g1.trans g2).trans g3).trans g4).trans g5).mono (by omega)
theorem XB.up (hW : Wf m) (hn : n < 10) (h0 : XB m n q 0 c x0) (h1 : DB m n (q - 1) 0 D1) (hA1 : DB m n (q - 1) (m n) e1) (hS : SB m n (q - 1) (m n) sA) (l0 : x0 ≤ X) (l1 : D1 ≤ X) (l2 : e1 ≤ sA) (l3 : x0 + 2 + sA ≤ X) : XB m (n + 1) q 0 c X := fun P Z _ hcP hz => by
  have hoP := hz.left
  obtain ⟨k, hz⟩ := hz
  have hd := decomp hW hn hz
  have lift : ∀ {A B : Nat}, Conn m n q A B → Conn m (n + 1) q A B := fun h => by obtain ⟨k, h⟩ := h; exact ⟨k, h.up0⟩
  cases hp : P.testBit n
  · have hcP0 : ¬ Conn m n q c P := fun h => hcP (lift h)
    cases hb : Z.testBit n
    · exact ((h0 P Z (sub_zero _) hcP0 ((hd.1 hp).1 hb)).up0).mono l0
    · obtain ⟨M, a, b, c, d⟩ := (hd.1 hp).2 hb
      have g1 := (h0 P M (sub_zero _) hcP0 a).up0
      have g2 := Rk.put hn a.right b c
      have g3 := (hA1 M _ b d).up1 hn (by omega)
      rw [xor_back] at g3
      exact ((g1.trans g2).trans g3).mono (by omega)
  · have away : ∀ {M : Nat}, Conn m n (q - 1) (P ^^^ 2 ^ n) M → subB (m n) M → cnt M + 1 ≤ q → ¬ Conn m n q c M := fun {M} a b hc h => by
      have hq := (OkP.low1 hn hoP hp).2
      obtain ⟨i, a'⟩ := a.symm hW
      have u1 := a'.up1 hn
      rw [Nat.sub_add_cancel (by omega), xor_back] at u1
      have u2 := (Rk.put (m := m) hn h.right b hc).conn
      exact hcP (((lift h).trans u2).trans ⟨i, u1⟩)
    cases hb : Z.testBit n
    · obtain ⟨M, a, b, c', d⟩ := (hd.2 hp).1 hb
      have g1 := ((hA1 M _ b (a.symm hW)).symm hW).up1 hn (by omega)
      rw [xor_back] at g1
      have g2 := ((Rk.put (q := q) hn ⟨a.right.1, Nat.le_trans a.right.2 (by omega)⟩ b c').symm hW)
      have g3 := (h0 M Z (sub_zero _) (away a b c') d).up0
      exact ((g1.trans g2).trans g3).mono (by omega)
    · rcases (hd.2 hp).2 hb with a | ⟨M1, M2, a, b, c', d, e, f, g⟩
      · have hq := (OkP.low1 hn hoP hp).2
        have g1 := (h1 _ _ (sub_zero _) a).up1 hn (by omega)
        rw [xor_back, xor_back] at g1
        exact g1.mono l1
      · by_cases hc : Conn m n (q - 1) M1 M2
        · have hq := (OkP.low1 hn hoP hp).2
          have g1 := (h1 _ _ (sub_zero _) ((a.trans hc).trans g)).up1 hn (by omega)
          rw [xor_back, xor_back] at g1
          exact g1.mono l1
        · obtain ⟨k1, k2, hk, r1, r2⟩ := hS M1 _ M2 _ b e (a.symm hW) g hc
          have g1 := (r1.symm hW).up1 hn (by omega)
          have g5 := r2.up1 hn (by omega)
          rw [xor_back] at g1 g5
          have g2 := ((Rk.put (q := q) hn d.left b c').symm hW)
          have g3 := (h0 M1 M2 (sub_zero _) (away a b c') d).up0
          have g4 := Rk.put hn d.right e f
          exact ((((g1.trans g2).trans g3).trans g4).trans g5).mono (by omega)
/-- From seven nodes to nine. -/
theorem nine (hW : Wf m) (p : Nat) {E D D' S : Nat} (h1 : EB m 7 p E) (h2 : DB m 7 (p - 1) 0 D) (h3 : DB m 7 (p - 1 - 1) 0 D') (h4 : SB m 7 (p - 1 - 1) 0 S) (hl : D' ≤ S) : EB m 9 p (E + 1 + D + 1 + (D + 2 + S)) :=
  (h1.up hW (by decide) (h2.more _)).up hW (by decide) ((DB.up hW (by decide) h2 h3 (h2.more _) (h3.more _) (h4.more _) (by omega) (by omega) hl (Nat.le_refl _)).more _)
/-- From six nodes to nine. -/
theorem six (hW : Wf m) (p : Nat) {E a1 a2 a3 z1 z2 z3 s2 s3 x2 D D' X : Nat} (hE : EB m 6 p E) (g1 : DB m 6 (p - 1) (m 6) a1) (g2 : DB m 6 (p - 1 - 1) (m 6) a2) (g3 : DB m 6 (p - 1 - 1 - 1) (m 6) a3) (k1 : DB m 6 (p - 1) 0 z1) (k2 : DB m 6 (p - 1 - 1) 0 z2) (k3 : DB m 6 (p - 1 - 1 - 1) 0 z3)
    (t2 : SB m 6 (p - 1 - 1) (m 6) s2) (t3 : SB m 6 (p - 1 - 1 - 1) (m 6) s3) (hx : XB m 6 (p - 1 - 1) 0 c x2) (l2 : a2 ≤ s2) (l3 : a3 ≤ s3) (d1 : z1 ≤ D) (d2 : z2 ≤ D) (d3 : a1 + 2 + s2 ≤ D) (d4 : z2 ≤ D') (d5 : z3 ≤ D') (d6 : a2 + 2 + s3 ≤ D') (x1 : z3 ≤ X) (x3 : x2 + 2 + s3 ≤ X) :
    EB m 9 p (E + 1 + a1 + 1 + D + 1 + (D + 2 + (D' + X))) := by
  have hD := DB.up hW (by decide) k1 k2 g1 g2 t2 d1 d2 l2 d3
  have hD' := DB.up hW (by decide) k2 k3 g2 g3 t3 d4 d5 l3 d6
  have hX := XB.up hW (by decide) hx k3 g3 t3 (by omega) x1 l3 x3
  exact nine hW p (hE.up hW (by decide) g1) hD hD' (SB.of hW hD' hX) (by omega)
end
end Peb
end Go.Proofs.Ytapgpjhogdmjbaa
