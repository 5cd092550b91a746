/-
  Pebbles on a graph, in plain words: positions as numbers, moves, and that a shortest irreversible pebbling has at most 300 moves. Condition: at most ten nodes.
-/
import Derived.Test.YtapgpjhogdmjbaaPebP
namespace Go.Proofs.Ytapgpjhogdmjbaa
namespace Peb
def cntF : Nat → Nat → Nat
  | 0, _ => 0
  | f + 1, P => P % 2 + cntF f (P / 2)
/-- How many pebbles a position has. -/
def cnt (P : Nat) : Nat := cntF 10 P
def fedB (ds : List (List Int)) (P x : Nat) : Bool := (ds.getD x []).all fun p => P.testBit p.toNat
/-- May the pebble at x be put, or removed? -/
def okM (ds : List (List Int)) (rev : Bool) (P x : Nat) : Bool := if P.testBit x then (!rev || fedB ds P x) else fedB ds P x
def eP (ds : List (List Int)) (n : Nat) (rev : Bool) (s : Nat) (P Q : Nat) : Bool := (decide (cnt P ≤ s) && decide (cnt Q ≤ s)) && (List.range n).any fun x => decide (Q = P ^^^ 2 ^ x) && okM ds rev P x
def goalB (n : Nat) (rev : Bool) (P : Nat) : Bool := if rev then decide (P = 2 ^ (n - 1)) else P.testBit (n - 1)
def dP (n : Nat) (rev : Bool) (s : Nat) (P : Nat) : Bool := goalB n rev P && decide (cnt P ≤ s)
/-- A graph without circles: all forerunners are smaller. -/
def Dag (ds : List (List Int)) : Prop := ∀ x, x < ds.length → ∀ p ∈ ds.getD x [], 0 ≤ p ∧ p < (x : Int)
theorem flip_cnt : ∀ P : Fin 1024, ∀ x : Fin 10, cnt (P.1 ^^^ 2 ^ x.1) = if P.1.testBit x.1 then cnt P.1 - 1 else cnt P.1 + 1 := by decide +kernel
theorem cnt_bits : ∀ P : Fin 1024, cnt P.1 = ((List.range 10).filter fun x => P.1.testBit x).length := by decide +kernel
theorem cnt_low : ∀ s : Fin 11, cnt (2 ^ s.1 - 1) = s.1 := by decide +kernel
theorem cnt_many : ∀ s : Fin 11, ((List.range 512).filter fun P => decide (cnt P = s.1)).length ≤ 126 := by decide +kernel
theorem lt_bits {n P : Nat} (hn : n ≤ 10) (h : P < 2 ^ n) : P < 1024 := Nat.lt_of_lt_of_le h (by have := Nat.pow_le_pow_right (n := 2) (by decide) hn; simpa using this)
theorem flip_lt {n P x : Nat} (h : P < 2 ^ n) (hx : x < n) : P ^^^ 2 ^ x < 2 ^ n := Nat.xor_lt_two_pow h (Nat.pow_lt_pow_right (by decide) hx)
theorem flip_bit (P x y : Nat) : (P ^^^ 2 ^ x).testBit y = (P.testBit y != decide (x = y)) := by rw [Nat.testBit_xor, Nat.testBit_two_pow]
theorem bit_lt {n P x : Nat} (h : P < 2 ^ n) (hb : P.testBit x = true) : x < n := by
  rcases Nat.lt_or_ge x n with hl | hg
  · exact hl
  · rw [Nat.testBit_lt_two_pow (Nat.lt_of_lt_of_le h (Nat.pow_le_pow_right (by decide) hg))] at hb; cases hb
def subB (P Q : Nat) : Prop := ∀ x, P.testBit x = true → Q.testBit x = true
theorem fed_sub {ds : List (List Int)} {P Q x : Nat} (h : subB P Q) (hf : fedB ds P x = true) : fedB ds Q x = true := by
  unfold fedB at *
  rw [List.all_eq_true] at *
  exact fun p hp => h _ (hf p hp)
theorem filter_le {p q : Nat → Bool} : ∀ (l : List Nat), (∀ x, p x = true → q x = true) → (l.filter p).length ≤ (l.filter q).length
  | [], _ => Nat.le_refl _
  | x :: r, h => by
    have ih := filter_le r h
    cases hp : p x
    · rw [List.filter_cons_of_neg (by rw [hp]; decide)]
      exact Nat.le_trans ih ((List.sublist_cons_self x r).filter q).length_le
    · rw [List.filter_cons_of_pos hp, List.filter_cons_of_pos (h x hp)]
      simpa using ih
theorem exists_more {P Q : Nat} (hP : P < 1024) (hQ : Q < 1024) (h : cnt P < cnt Q) : ∃ y, Q.testBit y = true ∧ P.testBit y = false := by
  rw [cnt_bits ⟨P, hP⟩, cnt_bits ⟨Q, hQ⟩] at h
  by_cases he : ∃ y, Q.testBit y = true ∧ P.testBit y = false
  · exact he
  · exfalso
    have := filter_le (p := fun x => Q.testBit x) (q := fun x => P.testBit x) (List.range 10) fun x hx => by
      cases hp : P.testBit x
      · exact absurd ⟨x, hx, hp⟩ he
      · rfl
    simp only at h
    omega
/-! ### Exchanges -/
def xP (ds : List (List Int)) (n : Nat) (Q R : Nat) : Bool := (List.range n).any fun y => (List.range n).any fun x => Q.testBit y && (!Q.testBit x && (fedB ds (Q ^^^ 2 ^ y) x && decide (R = (Q ^^^ 2 ^ y) ^^^ 2 ^ x)))
theorem xP_iff {ds : List (List Int)} {n Q R : Nat} : xP ds n Q R = true ↔ ∃ y x, y < n ∧ x < n ∧ Q.testBit y = true ∧ Q.testBit x = false ∧ fedB ds (Q ^^^ 2 ^ y) x = true ∧ R = (Q ^^^ 2 ^ y) ^^^ 2 ^ x := by
  unfold xP
  simp only [List.any_eq_true, List.mem_range, Bool.and_eq_true, Bool.not_eq_true', decide_eq_true_iff]
  constructor
  · rintro ⟨y, hy, x, hx, h1, h2, h3, h4⟩
    exact ⟨y, x, hy, hx, h1, h2, h3, h4⟩
  · rintro ⟨y, x, hy, hx, h1, h2, h3, h4⟩
    exact ⟨y, hy, x, hx, h1, h2, h3, h4⟩
theorem eP_iff {ds : List (List Int)} {n s P Q : Nat} {rev : Bool} : eP ds n rev s P Q = true ↔ cnt P ≤ s ∧ cnt Q ≤ s ∧ ∃ x, x < n ∧ Q = P ^^^ 2 ^ x ∧ okM ds rev P x = true := by
  unfold eP
  simp only [List.any_eq_true, List.mem_range, Bool.and_eq_true, decide_eq_true_iff]
  constructor
  · rintro ⟨⟨h1, h2⟩, x, hx, h3, h4⟩
    exact ⟨h1, h2, x, hx, h3, h4⟩
  · rintro ⟨h1, h2, x, hx, h3, h4⟩
    exact ⟨⟨h1, h2⟩, x, hx, h3, h4⟩
theorem xP_cnt {ds : List (List Int)} {n Q R : Nat} (hn : n ≤ 10) (hQ : Q < 2 ^ n) (h : xP ds n Q R = true) : R < 2 ^ n ∧ cnt R = cnt Q ∧ ∃ y x, y < n ∧ x < n ∧ Q.testBit y = true ∧ (Q ^^^ 2 ^ y).testBit x = false ∧ fedB ds (Q ^^^ 2 ^ y) x = true ∧ R = (Q ^^^ 2 ^ y) ^^^ 2 ^ x ∧ cnt (Q ^^^ 2 ^ y) + 1 = cnt Q := by
  obtain ⟨y, x, hy, hx, h1, h2, h3, rfl⟩ := xP_iff.1 h
  have hQ1 := lt_bits hn hQ
  have hl := flip_lt hQ hy
  have hl1 := lt_bits hn hl
  have hne : y ≠ x := fun e => by rw [e, h2] at h1; cases h1
  have hb : (Q ^^^ 2 ^ y).testBit x = false := by rw [flip_bit, h2, decide_eq_false hne]; rfl
  have c1 := flip_cnt ⟨Q, hQ1⟩ ⟨y, by omega⟩
  have c2 := flip_cnt ⟨Q ^^^ 2 ^ y, hl1⟩ ⟨x, by omega⟩
  simp only at c1 c2
  rw [h1, if_pos rfl] at c1
  rw [hb, if_neg (by decide)] at c2
  have hpos : 0 < cnt Q := by
    rw [cnt_bits ⟨Q, hQ1⟩]
    exact List.length_pos_of_mem (List.mem_filter.2 ⟨List.mem_range.2 (show y < 10 by omega), h1⟩)
  exact ⟨flip_lt hl hx, by omega, y, x, hy, hx, h1, hb, h3, rfl, by omega⟩
section
variable {ds : List (List Int)} {n s : Nat}
/-- An exchange is two moves. -/
theorem x_two (hn : n ≤ 10) : ∀ k Q, Q < 2 ^ n → cnt Q = s → wN (xP ds n) (fun P => P.testBit (n - 1)) (2 ^ n) k Q = true → wN (eP ds n false s) (dP n false s) (2 ^ n) (2 * k) Q = true
  | 0, Q, _, hc, h => by
    show dP n false s Q = true
    unfold dP goalB
    have h : Q.testBit (n - 1) = true := h
    rw [if_neg (by decide), h, decide_eq_true (by omega)]; rfl
  | k + 1, Q, hQ, hc, h => by
    rcases wN_step.1 h with h1 | ⟨R, hR, h2, h3⟩
    · exact wN_mono (by omega) (x_two hn k Q hQ hc h1)
    · obtain ⟨_, hRc, y, x, hy, hx, b1, b2, hf, hRe, hc1⟩ := xP_cnt hn hQ h2
      have ih := x_two hn k R hR (by omega) h3
      have e2 : eP ds n false s (Q ^^^ 2 ^ y) R = true := eP_iff.2 ⟨by omega, by omega, x, hx, hRe, by unfold okM; rw [b2, if_neg (by decide)]; exact hf⟩
      have e1 : eP ds n false s Q (Q ^^^ 2 ^ y) = true := eP_iff.2 ⟨by omega, by omega, y, hy, rfl, by unfold okM; rw [b1, if_pos rfl]; rfl⟩
      exact wN_step.2 (.inr ⟨Q ^^^ 2 ^ y, flip_lt hQ hy, e1, wN_step.2 (.inr ⟨R, hR, e2, ih⟩)⟩)
/-- What moves reach, exchanges reach from a full position that has at least the same pebbles. -/
theorem x_sim (hn : n ≤ 10) : ∀ d P Q, P < 2 ^ n → Q < 2 ^ n → subB P Q → cnt Q = s → wN (eP ds n false s) (dP n false s) (2 ^ n) d P = true → ∃ k, wN (xP ds n) (fun P => P.testBit (n - 1)) (2 ^ n) k Q = true
  | 0, P, Q, _, _, hs, _, h => by
    have h : dP n false s P = true := h
    unfold dP goalB at h
    rw [if_neg (by decide), Bool.and_eq_true] at h
    exact ⟨0, hs _ h.1⟩
  | d + 1, P, Q, hP, hQ, hs, hc, h => by
    rcases wN_step.1 h with h1 | ⟨R, hR, h2, h3⟩
    · exact x_sim hn d P Q hP hQ hs hc h1
    · obtain ⟨c1, c2, x, hx, rfl, hok⟩ := eP_iff.1 h2
      cases hb : P.testBit x
      · unfold okM at hok
        rw [hb, if_neg (by decide)] at hok
        cases hq : Q.testBit x
        · have hc3 := flip_cnt ⟨P, lt_bits hn hP⟩ ⟨x, by omega⟩
          simp only at hc3
          rw [hb, if_neg (by decide)] at hc3
          obtain ⟨y, hy1, hy2⟩ := exists_more (lt_bits hn hP) (lt_bits hn hQ) (show cnt P < cnt Q by omega)
          have hyn := bit_lt hQ hy1
          have hsub : subB P (Q ^^^ 2 ^ y) := fun z hz => by
            rw [flip_bit, hs z hz]
            have : y ≠ z := fun e => by rw [e, hz] at hy2; cases hy2
            rw [decide_eq_false this]; rfl
          have hX : xP ds n Q ((Q ^^^ 2 ^ y) ^^^ 2 ^ x) = true := xP_iff.2 ⟨y, x, hyn, hx, hy1, hq, fed_sub hsub hok, rfl⟩
          obtain ⟨hl, hcr, -⟩ := xP_cnt hn hQ hX
          obtain ⟨k, hk⟩ := x_sim hn d (P ^^^ 2 ^ x) ((Q ^^^ 2 ^ y) ^^^ 2 ^ x) hR hl (fun z hz => by
            rw [flip_bit] at hz ⊢
            by_cases e : x = z
            · subst e
              have : (Q ^^^ 2 ^ y).testBit x = false := by
                rw [flip_bit, hq]
                have : y ≠ x := fun e => by rw [e, hq] at hy1; cases hy1
                rw [decide_eq_false this]; rfl
              rw [this, decide_eq_true rfl]; rfl
            · rw [decide_eq_false e] at hz ⊢
              have hz' : P.testBit z = true := by simpa using hz
              rw [hsub z hz']; rfl) (by omega) h3
          exact ⟨k + 1, wN_step.2 (.inr ⟨_, hl, hX, hk⟩)⟩
        · exact x_sim hn d (P ^^^ 2 ^ x) Q hR hQ (fun z hz => by
            rw [flip_bit] at hz
            by_cases e : x = z
            · subst e; exact hq
            · rw [decide_eq_false e] at hz
              exact hs z (by simpa using hz)) hc h3
      · exact x_sim hn d (P ^^^ 2 ^ x) Q hR hQ (fun z hz => by
          rw [flip_bit] at hz
          by_cases e : x = z
          · subst e; rw [hb, decide_eq_true rfl] at hz; cases hz
          · rw [decide_eq_false e] at hz
            exact hs z (by simpa using hz)) hc h3
/-! ### The bound -/
theorem nodup_le : ∀ (l m : List Nat), l.Nodup → (∀ x ∈ l, x ∈ m) → l.length ≤ m.length
  | [], _, _, _ => Nat.zero_le _
  | x :: r, m, hn, hs => by
    have hx := hs x (by simp)
    have h1 := List.nodup_cons.1 hn
    have ih := nodup_le r (m.erase x) h1.2 fun y hy => by
      have hy2 := hs y (by simp [hy])
      have hne : y ≠ x := fun e => h1.1 (by rw [← e]; exact hy)
      exact (List.mem_erase_of_ne hne).2 hy2
    rw [List.length_erase_of_mem hx] at ih
    have hpos : 0 < m.length := List.length_pos_of_mem hx
    rw [List.length_cons]
    omega
/-- Positions on a shortest way, one for each distance from d down to 1. -/
theorem chain {E : Nat → Nat → Bool} {D : Nat → Bool} {M : Nat} {I : Nat → Prop} (hI : ∀ P Q, P < M → Q < M → I P → E P Q = true → I Q) : ∀ d P, P < M → I P → Dst E D M d P → ∃ l : List Nat, l.length = d ∧ l.Nodup ∧ ∀ Q ∈ l, Q < M ∧ I Q ∧ ∃ j, 1 ≤ j ∧ j ≤ d ∧ Dst E D M j Q
  | 0, _, _, _, _ => ⟨[], rfl, by simp, fun Q h => by cases h⟩
  | d + 1, P, hP, hi, hd => by
    obtain ⟨Q, h1, h2, h3⟩ := hd.pred
    obtain ⟨l, k1, k2, k3⟩ := chain hI d Q h1 (hI P Q hP h1 hi h2) h3
    refine ⟨P :: l, by rw [List.length_cons, k1], List.nodup_cons.2 ⟨fun hm => ?_, k2⟩, fun R hR => ?_⟩
    · obtain ⟨_, _, j, j1, j2, j3⟩ := k3 P hm
      have := hd.uniq j3
      omega
    · rcases List.mem_cons.1 hR with rfl | hR
      · exact ⟨hP, hi, d + 1, by omega, Nat.le_refl _, hd⟩
      · obtain ⟨a, b, j, j1, j2, j3⟩ := k3 R hR
        exact ⟨a, b, j, j1, by omega, j3⟩
/-- Exchanges: at most 126 to the target. -/
theorem x_bound (hn : n ≤ 10) (hn1 : 1 ≤ n) (hs : s ≤ 10) {d Q : Nat} (hQ : Q < 2 ^ n) (hc : cnt Q = s) (h : Dst (xP ds n) (fun P => P.testBit (n - 1)) (2 ^ n) d Q) : d ≤ 126 := by
  obtain ⟨l, h1, h2, h3⟩ := chain (I := fun P => P < 2 ^ n ∧ cnt P = s) (fun P R hP _ hi hE => by
    obtain ⟨a, b, _⟩ := xP_cnt hn hP hE
    exact ⟨a, by rw [b]; exact hi.2⟩) d Q hQ ⟨hQ, hc⟩ h
  have hm := cnt_many ⟨s, by omega⟩
  have := nodup_le l ((List.range 512).filter fun P => decide (cnt P = s)) h2 fun R hR => by
    obtain ⟨a, ⟨b, c⟩, j, j1, j2, j3⟩ := h3 R hR
    have hnt : R.testBit (n - 1) = false := j3.2 0 (by omega)
    refine List.mem_filter.2 ⟨List.mem_range.2 ?_, decide_eq_true c⟩
    have hlt : R < 2 ^ (n - 1) := by
      rcases Nat.lt_or_ge R (2 ^ (n - 1)) with hl | hg
      · exact hl
      · exfalso
        have hb : R.testBit (n - 1) = true := by
          rw [Nat.testBit_eq_decide_div_mod_eq]
          have h2n : 2 ^ n = 2 * 2 ^ (n - 1) := by rw [← Nat.pow_succ']; congr 1; omega
          have hd1 : R / 2 ^ (n - 1) = 1 := by
            apply Nat.div_eq_of_lt_le
            · omega
            · omega
          rw [hd1]; rfl
        rw [hb] at hnt; cases hnt
    have : 2 ^ (n - 1) ≤ 2 ^ 9 := Nat.pow_le_pow_right (by decide) (by omega)
    have h9 : (2 : Nat) ^ 9 = 512 := by decide
    omega
  simp only at hm
  omega
/-- From the empty position the first s nodes get a pebble, one behind the other. -/
theorem fill (hn : n ≤ 10) (hdag : Dag ds) (hlen : ds.length = n) (t : Nat) (ht : t ≤ n) (hts : t ≤ s) {k : Nat} (h : wN (eP ds n false s) (dP n false s) (2 ^ n) k (2 ^ t - 1) = true) : ∀ i, i ≤ t → wN (eP ds n false s) (dP n false s) (2 ^ n) (k + i) (2 ^ (t - i) - 1) = true
  | 0, _ => by simpa using h
  | i + 1, hi => by
    have ih := fill hn hdag hlen t ht hts h i (by omega)
    have hp : ∀ j, j ≤ n → 2 ^ j - 1 < 2 ^ n := fun j hj => by
      have h1 := Nat.pow_le_pow_right (n := 2) (by decide) hj
      have h2 : 0 < 2 ^ j := Nat.pow_pos (by decide)
      omega
    have hnext : 2 ^ (t - i) - 1 = (2 ^ (t - (i + 1)) - 1) ^^^ 2 ^ (t - (i + 1)) := by
      apply Nat.eq_of_testBit_eq
      intro y
      rw [flip_bit, Nat.testBit_two_pow_sub_one, Nat.testBit_two_pow_sub_one]
      by_cases e : t - (i + 1) = y
      · rw [decide_eq_true e, decide_eq_true (show y < t - i by omega), decide_eq_false (show ¬ y < t - (i + 1) by omega)]; rfl
      · rw [decide_eq_false e]
        by_cases hl : y < t - (i + 1)
        · rw [decide_eq_true hl, decide_eq_true (show y < t - i by omega)]; rfl
        · rw [decide_eq_false hl, decide_eq_false (show ¬ y < t - i by omega)]; rfl
    have c1 := cnt_low ⟨t - (i + 1), by omega⟩
    have c2 := cnt_low ⟨t - i, by omega⟩
    simp only at c1 c2
    have hE : eP ds n false s (2 ^ (t - (i + 1)) - 1) (2 ^ (t - i) - 1) = true := eP_iff.2 ⟨by omega, by omega, t - (i + 1), by omega, hnext, by
      unfold okM
      have hb : (2 ^ (t - (i + 1)) - 1).testBit (t - (i + 1)) = false := by rw [Nat.testBit_two_pow_sub_one]; simp
      rw [hb, if_neg (by decide)]
      unfold fedB
      rw [List.all_eq_true]
      intro p hp
      have := hdag (t - (i + 1)) (by omega) p hp
      rw [Nat.testBit_two_pow_sub_one]
      exact decide_eq_true (by omega)⟩
    exact wN_step.2 (.inr ⟨_, hp _ (by omega), hE, ih⟩)
/-- A shortest irreversible pebbling has at most 300 moves. -/
theorem irr_bound (hn : n ≤ 10) (hn1 : 1 ≤ n) (hs1 : s ≤ 10) (hdag : Dag ds) (hlen : ds.length = n) {d : Nat} (h : Dst (eP ds n false s) (dP n false s) (2 ^ n) d 0) : d ≤ 300 := by
  by_cases hsn : s < n
  · have hlow := cnt_low ⟨s, by omega⟩
    simp only at hlow
    have hQ : 2 ^ s - 1 < 2 ^ n := by
      have h1 := Nat.pow_le_pow_right (n := 2) (by decide) (show s ≤ n by omega)
      have h2 : 0 < 2 ^ s := Nat.pow_pos (by decide)
      omega
    obtain ⟨k, hk⟩ := x_sim (ds := ds) hn d 0 (2 ^ s - 1) (Nat.pow_pos (by decide)) hQ (fun z hz => by simp at hz) hlow h.1
    obtain ⟨k', _, hk2⟩ := dst_of hk
    have hb := x_bound hn hn1 hs1 hQ hlow hk2
    have h1 := x_two (ds := ds) hn k' _ hQ hlow hk2.1
    have h2 := fill hn hdag hlen s (by omega) (Nat.le_refl _) h1 s (Nat.le_refl _)
    rw [Nat.sub_self] at h2
    obtain ⟨d', hd1, hd2⟩ := dst_of h2
    have := h.uniq hd2
    omega
  · have hlow := cnt_low ⟨n, by omega⟩
    simp only at hlow
    have h0 : wN (eP ds n false s) (dP n false s) (2 ^ n) 0 (2 ^ n - 1) = true := by
      show dP n false s (2 ^ n - 1) = true
      unfold dP goalB
      rw [if_neg (by decide), Nat.testBit_two_pow_sub_one, decide_eq_true (show n - 1 < n by omega), decide_eq_true (by omega)]; rfl
    have h2 := fill hn hdag hlen n (Nat.le_refl _) (by omega) h0 n (Nat.le_refl _)
    rw [Nat.sub_self] at h2
    obtain ⟨d', hd1, hd2⟩ := dst_of h2
    have := h.uniq hd2
    omega
/-- With n pebbles there is always a pebbling. -/
theorem irr_some (hn : n ≤ 10) (hn1 : 1 ≤ n) (hdag : Dag ds) (hlen : ds.length = n) : ∃ d, Dst (eP ds n false n) (dP n false n) (2 ^ n) d 0 := by
  have hlow := cnt_low ⟨n, by omega⟩
  simp only at hlow
  have h0 : wN (eP ds n false n) (dP n false n) (2 ^ n) 0 (2 ^ n - 1) = true := by
    show dP n false n (2 ^ n - 1) = true
    unfold dP goalB
    rw [if_neg (by decide), Nat.testBit_two_pow_sub_one, decide_eq_true (show n - 1 < n by omega), decide_eq_true (by omega)]; rfl
  have h2 := fill hn hdag hlen n (Nat.le_refl _) (Nat.le_refl _) h0 n (Nat.le_refl _)
  rw [Nat.sub_self] at h2
  obtain ⟨d', _, hd2⟩ := dst_of h2
  exact ⟨d', hd2⟩
end
end Peb
end Go.Proofs.Ytapgpjhogdmjbaa
