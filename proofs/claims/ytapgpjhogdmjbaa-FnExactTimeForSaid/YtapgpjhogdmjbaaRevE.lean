/-
  Reversible pebbling: from the bound for nine nodes to the moves of a shortest one. Condition: that bound.
-/
import Derived.Test.YtapgpjhogdmjbaaRevF
import Derived.Test.YtapgpjhogdmjbaaPebR
namespace Go.Proofs.Ytapgpjhogdmjbaa
open Peb
namespace Peb
def lo (n R : Nat) : Nat := if R.testBit n then R ^^^ 2 ^ n else R
section
variable {m : Nat → Nat} {n q k P Q R e : Nat}
theorem OkP.lo (hn : n < 10) (h : OkP (n + 1) q R) : OkP n q (lo n R) := by
  unfold Peb.lo
  cases hb : R.testBit n
  · rw [if_neg (by decide)]; exact h.low0 hb
  · rw [if_pos rfl]; have := h.low1 hn hb; exact ⟨this.1.1, by have := this.2; omega⟩
theorem Pth.lo (hW : Wf m) (hn : n < 10) (h : Pth m (n + 1) q k P Q) : ∃ j, j ≤ k ∧ Pth m n q j (lo n P) (lo n Q) := by
  induction h with
  | nil h => exact ⟨0, Nat.le_refl _, .nil (h.lo hn)⟩
  | @snoc k P Q x hp hx hs ho ih =>
    obtain ⟨j, hj, h2⟩ := ih
    by_cases hxn : x = n
    · subst hxn
      have e : Peb.lo x (Q ^^^ 2 ^ x) = Peb.lo x Q := by
        unfold Peb.lo
        rw [flip_bit, decide_eq_true rfl]
        cases hb : Q.testBit x
        · rw [if_pos (by decide), if_neg (by decide), xor_back]
        · rw [if_neg (by decide), if_pos rfl]
      rw [e]
      exact ⟨j, by omega, h2⟩
    · have e : Peb.lo n (Q ^^^ 2 ^ x) = Peb.lo n Q ^^^ 2 ^ x := by
        unfold Peb.lo
        rw [flip_bit, decide_eq_false hxn]
        cases hb : Q.testBit n
        · rw [if_neg (by decide), if_neg (by decide)]
        · rw [if_pos (by decide), if_pos rfl, xor_comm3]
      have ho2 := ho.lo hn
      rw [e] at ho2 ⊢
      refine ⟨j + 1, by omega, .snoc x h2 (by omega) (fun y hy => ?_) ho2⟩
      have := hs y hy
      unfold Peb.lo
      split
      · rw [flip_bit, this, decide_eq_false (by have := bit_lt (hW x) hy; omega)]; rfl
      · exact this
theorem lo_id (h : R < 2 ^ n) : lo n R = R := by unfold lo; rw [top_off h, if_neg (by decide)]
theorem EB.down (hW : Wf m) (hn : n < 10) (h : EB m (n + 1) q e) : EB m n q e := fun Z ⟨k, hz⟩ => by
  obtain ⟨j, hj, h2⟩ := h Z ⟨k, hz.up0⟩
  obtain ⟨i, hi, h3⟩ := h2.lo hW hn
  rw [lo_id (Nat.pow_pos (by decide)), lo_id hz.right.1] at h3
  exact ⟨i, by omega, h3⟩
theorem EB.downs (hW : Wf m) : ∀ i, i ≤ 9 → EB m 9 q e → EB m (9 - i) q e
  | 0, _, h => h
  | i + 1, hi, h => by
    have := EB.downs hW i (by omega) h
    rw [show 9 - i = (9 - (i + 1)) + 1 by omega] at this
    exact this.down hW (by omega)
/-! ### Graphs as masks -/
def mD (ds : List (List Int)) (x : Nat) : Nat := mskN (ds.getD x [])
theorem mD_fed {ds : List (List Int)} {P x : Nat} : subB (mD ds x) P ↔ fedB ds P x = true := by
  unfold fedB
  rw [List.all_eq_true]
  constructor
  · intro h p hp
    refine h _ ?_
    unfold mD
    rw [msk_bit]
    exact List.any_eq_true.2 ⟨p, hp, by simp⟩
  · intro h y hy
    unfold mD at hy
    rw [msk_bit] at hy
    obtain ⟨p, hp, he⟩ := List.any_eq_true.1 hy
    have := h p hp
    rw [of_decide_eq_true he] at this
    exact this
theorem mD_wf {ds : List (List Int)} (h : Dag ds) : Wf (mD ds) := fun x => by
  refine Nat.lt_pow_two_of_testBit _ fun y hy => ?_
  unfold mD
  rw [msk_bit]
  cases ha : (ds.getD x []).any (fun p => decide (p.toNat = y))
  · rfl
  · exfalso
    obtain ⟨p, hp, he⟩ := List.any_eq_true.1 ha
    have he := of_decide_eq_true he
    rcases Nat.lt_or_ge x ds.length with hl | hg
    · have := h x hl p hp; omega
    · rw [List.getD_eq_getElem?_getD, List.getElem?_eq_none hg] at hp
      simp at hp
theorem okM_rev {ds : List (List Int)} {P x : Nat} : okM ds true P x = fedB ds P x := by
  unfold okM; split <;> simp
variable {ds : List (List Int)} {s : Nat}
theorem wN_conn : ∀ k P, P < 2 ^ ds.length → wN (eP ds ds.length true s) (dP ds.length true s) (2 ^ ds.length) k P = true → Conn (mD ds) ds.length s P (2 ^ (ds.length - 1))
  | 0, P, hP, h => by
    have h : dP ds.length true s P = true := h
    unfold dP goalB at h
    rw [if_pos rfl, Bool.and_eq_true] at h
    have e := of_decide_eq_true h.1
    rw [← e]
    exact .refl ⟨hP, of_decide_eq_true h.2⟩
  | k + 1, P, hP, h => by
    rcases wN_step.1 h with h1 | ⟨Q, hQ, hE, h2⟩
    · exact wN_conn k P hP h1
    · obtain ⟨c1, c2, x, hx, rfl, hok⟩ := eP_iff.1 hE
      rw [okM_rev] at hok
      exact (Conn.step (.refl ⟨hP, c1⟩) hx (mD_fed.2 hok) ⟨hQ, c2⟩).trans (wN_conn k _ hQ h2)
theorem wN_of (h : Pth (mD ds) ds.length s k P Q) : ∀ j, wN (eP ds ds.length true s) (dP ds.length true s) (2 ^ ds.length) j Q = true → wN (eP ds ds.length true s) (dP ds.length true s) (2 ^ ds.length) (j + k) P = true := by
  induction h with
  | nil _ => exact fun j h => h
  | @snoc k P Q x hp hx hs ho ih =>
    intro j hj
    have := ih (j + 1) (wN_step.2 (.inr ⟨Q ^^^ 2 ^ x, ho.1, eP_iff.2 ⟨hp.right.2, ho.2, x, hx, rfl, by rw [okM_rev]; exact mD_fed.1 hs⟩, hj⟩))
    rw [show j + (k + 1) = j + 1 + k by omega]
    exact this
/-- A shortest reversible pebbling has at most 299 moves. -/
theorem rev_dst (HB : ∀ p, p ≤ 9 → ∀ m, Wf m → EB m 9 p 149) (h1 : 1 ≤ ds.length) (h10 : ds.length ≤ 10) (hd : Dag ds) (hs : s ≤ 10) {d : Nat} (h : Dst (eP ds ds.length true s) (dP ds.length true s) (2 ^ ds.length) d 0) : d ≤ 300 := by
  have hW := mD_wf hd
  have hc := wN_conn d 0 (Nat.pow_pos (by decide)) h.1
  obtain ⟨n, hn⟩ : ∃ n, ds.length = n + 1 := ⟨ds.length - 1, by omega⟩
  have hgoal : dP (n + 1) true s (2 ^ n) = true := by
    have := hc.right.2
    rw [hn, show n + 1 - 1 = n by omega] at this
    unfold dP goalB
    rw [if_pos rfl, show n + 1 - 1 = n by omega, decide_eq_true rfl, decide_eq_true this]; rfl
  rw [hn, show n + 1 - 1 = n by omega] at hc
  obtain ⟨k, hk⟩ := hc
  obtain ⟨M, a, b, c, g⟩ := ((decomp hW (by omega) hk).1 (Nat.zero_testBit n)).2 (Nat.testBit_two_pow_self)
  rw [Nat.xor_self] at g
  have hE := EB.downs hW (9 - n) (by omega) (HB (s - 1) (by omega) _ hW)
  rw [show 9 - (9 - n) = n by omega] at hE
  have r1 := hE M (g.symm hW)
  have r2 : Rk (mD ds) (n + 1) s 149 0 M := by obtain ⟨i, hi, hp⟩ := r1; exact ⟨i, hi, (hp.mono (by omega)).up0⟩
  have r3 := Rk.put (m := mD ds) (by omega) a.right b c
  have r4 := (r1.symm hW).up1 (by omega) (by omega)
  rw [Nat.zero_xor] at r4
  obtain ⟨j, hj, hp⟩ := (r2.trans r3).trans r4
  rw [← hn] at hp hgoal
  have hw := wN_of hp 0 hgoal
  obtain ⟨d', hd1, hd2⟩ := dst_of hw
  have := h.uniq hd2
  omega
/-- With a pebble for each node there is always one. -/
theorem rev_some (h1 : 1 ≤ ds.length) (h10 : ds.length ≤ 10) (hd : Dag ds) : ∃ d, Dst (eP ds ds.length true ds.length) (dP ds.length true ds.length) (2 ^ ds.length) d 0 := by
  have hW := mD_wf hd
  obtain ⟨n, hn⟩ : ∃ n, ds.length = n + 1 := ⟨ds.length - 1, by omega⟩
  have hall : ∀ P, P < 2 ^ (n + 1) → OkP (n + 1) (n + 1) P := fun P hP => ⟨hP, cnt_le (by omega) hP⟩
  have fill : ∀ t, t ≤ n + 1 → Conn (mD ds) (n + 1) (n + 1) 0 (2 ^ t - 1) := by
    intro t
    induction t with
    | zero => intro _; exact .refl (hall _ (Nat.pow_pos (by decide)))
    | succ t ih =>
      intro ht
      have e : 2 ^ (t + 1) - 1 = (2 ^ t - 1) ^^^ 2 ^ t := by
        apply Nat.eq_of_testBit_eq
        intro y
        rw [flip_bit, Nat.testBit_two_pow_sub_one, Nat.testBit_two_pow_sub_one]
        by_cases e : t = y
        · rw [decide_eq_true e, decide_eq_true (show y < t + 1 by omega), decide_eq_false (show ¬ y < t by omega)]; rfl
        · rw [decide_eq_false e]
          by_cases hl : y < t
          · rw [decide_eq_true hl, decide_eq_true (show y < t + 1 by omega)]; rfl
          · rw [decide_eq_false hl, decide_eq_false (show ¬ y < t + 1 by omega)]; rfl
      rw [e]
      have hlt : (2 ^ t - 1) ^^^ 2 ^ t < 2 ^ (n + 1) := by
        rw [← e]
        have := Nat.pow_le_pow_right (n := 2) (by decide) ht
        have := Nat.pow_pos (n := t + 1) (show 0 < 2 by decide)
        omega
      exact (ih (by omega)).step (by omega) (fun y hy => by rw [Nat.testBit_two_pow_sub_one]; exact decide_eq_true (bit_lt (hW t) hy)) (hall _ hlt)
  have fill2 : ∀ t, t ≤ n → Conn (mD ds) (n + 1) (n + 1) (2 ^ n) ((2 ^ t - 1) ^^^ 2 ^ n) := by
    intro t
    induction t with
    | zero => intro _; rw [show 2 ^ 0 - 1 = 0 from rfl, Nat.zero_xor]; exact .refl (hall _ (Nat.pow_lt_pow_right (by decide) (Nat.lt_succ_self n)))
    | succ t ih =>
      intro ht
      have e : 2 ^ (t + 1) - 1 = (2 ^ t - 1) ^^^ 2 ^ t := by
        apply Nat.eq_of_testBit_eq
        intro y
        rw [flip_bit, Nat.testBit_two_pow_sub_one, Nat.testBit_two_pow_sub_one]
        by_cases e : t = y
        · rw [decide_eq_true e, decide_eq_true (show y < t + 1 by omega), decide_eq_false (show ¬ y < t by omega)]; rfl
        · rw [decide_eq_false e]
          by_cases hl : y < t
          · rw [decide_eq_true hl, decide_eq_true (show y < t + 1 by omega)]; rfl
          · rw [decide_eq_false hl, decide_eq_false (show ¬ y < t + 1 by omega)]; rfl
      rw [e, xor_comm3]
      have hlt : ((2 ^ t - 1) ^^^ 2 ^ n) ^^^ 2 ^ t < 2 ^ (n + 1) := by
        refine flip_lt (flip_lt ?_ (by omega)) (by omega)
        have := Nat.pow_le_pow_right (n := 2) (by decide) (show t ≤ n + 1 by omega)
        have := Nat.pow_pos (n := t) (show 0 < 2 by decide)
        omega
      refine (ih (by omega)).step (by omega) (fun y hy => ?_) (hall _ hlt)
      have hy2 := bit_lt (hW t) hy
      rw [flip_bit, Nat.testBit_two_pow_sub_one, decide_eq_true hy2, decide_eq_false (by omega)]; rfl
  have hf := fill (n + 1) (Nat.le_refl _)
  have hg := fill2 n (Nat.le_refl _)
  have e : 2 ^ (n + 1) - 1 = (2 ^ n - 1) ^^^ 2 ^ n := by
    apply Nat.eq_of_testBit_eq
    intro y
    rw [flip_bit, Nat.testBit_two_pow_sub_one, Nat.testBit_two_pow_sub_one]
    by_cases e : n = y
    · rw [decide_eq_true e, decide_eq_true (show y < n + 1 by omega), decide_eq_false (show ¬ y < n by omega)]; rfl
    · rw [decide_eq_false e]
      by_cases hl : y < n
      · rw [decide_eq_true hl, decide_eq_true (show y < n + 1 by omega)]; rfl
      · rw [decide_eq_false hl, decide_eq_false (show ¬ y < n + 1 by omega)]; rfl
  rw [e] at hf
  obtain ⟨k, hk⟩ := hf.trans (hg.symm hW)
  have hgoal : dP (n + 1) true (n + 1) (2 ^ n) = true := by
    have := hg.left.2
    unfold dP goalB
    rw [if_pos rfl, show n + 1 - 1 = n by omega, decide_eq_true rfl, decide_eq_true this]; rfl
  rw [← hn] at hk hgoal
  obtain ⟨d, _, hd2⟩ := dst_of (wN_of hk 0 hgoal)
  exact ⟨d, hd2⟩
end
end Peb
end Go.Proofs.Ytapgpjhogdmjbaa
