import Derived.Test.YtbdcomkbpapcaaaGreatC2
import Derived.Test.YtbdcomkbpapcaaaGreatMg4
import Derived.Test.YtbdcomkbpapcaaaGreatGood
/-
  SeededCnf in plain words: the states that are drawn run through all of their parity, so every clause ends. No condition.
-/

namespace Go.Proofs.YtbdcomkbpapcaaaGreat.Seed
def nxt (s : Nat) : Nat := (1021 * s + 12345) % 65536
def it : Nat → Nat → Nat
  | 0, x => x
  | k + 1, x => it k (nxt (nxt x))
theorem it_add (a b x : Nat) : it (a + b) x = it a (it b x) := by
  induction b generalizing x with
  | zero => rfl
  | succ b ih => rw [Nat.add_succ]; show it (a + b) _ = it a (it b _); exact ih _
theorem it_lt {x : Nat} (h : x < 65536) (k : Nat) : it k x < 65536 := by
  induction k generalizing x with
  | zero => exact h
  | succ k ih => exact ih (Nat.mod_lt _ (by decide))
def pw : Nat → Nat × Nat
  | 0 => (59401, 33678)
  | m + 1 => ((pw m).1 * (pw m).1 % 65536, ((pw m).1 * (pw m).2 + (pw m).2) % 65536)
theorem two_ (x : Nat) : nxt (nxt x) = (59401 * x + 33678) % 65536 := by unfold nxt; omega
theorem comp_mod (A C x M : Nat) : (A * ((A * x + C) % M) + C) % M = (A * A % M * x + (A * C + C) % M) % M := by
  have e1 : (A * ((A * x + C) % M) + C) % M = (A * (A * x + C) + C) % M := by
    rw [Nat.add_mod, Nat.mul_mod, Nat.mod_mod, ← Nat.mul_mod, ← Nat.add_mod]
  have e2 : (A * A % M * x + (A * C + C) % M) % M = (A * A * x + (A * C + C)) % M := by
    rw [Nat.add_mod, Nat.mul_mod, Nat.mod_mod, Nat.mod_mod, ← Nat.mul_mod, ← Nat.add_mod]
  rw [e1, e2]
  congr 1
  rw [Nat.mul_add, ← Nat.mul_assoc, Nat.add_assoc]
theorem it_pw (m x : Nat) (hx : x < 65536) : it (2 ^ m) x = ((pw m).1 * x + (pw m).2) % 65536 := by
  induction m generalizing x with
  | zero => exact two_ x
  | succ m ih =>
    rw [show 2 ^ (m + 1) = 2 ^ m + 2 ^ m from by omega, it_add, ih x hx, ih _ (Nat.mod_lt _ (by decide))]
    exact comp_mod _ _ _ _
theorem pw_facts : ∀ m < 15, (pw m).1 % 2 ^ (m + 2) = 1 ∧ (pw m).2 % 2 ^ (m + 2) = 2 ^ (m + 1) ∧ 65536 % 2 ^ (m + 2) = 0 := by decide
theorem it_step (m x : Nat) (hm : m < 15) (hx : x < 65536) : it (2 ^ m) x % 2 ^ (m + 2) = (x + 2 ^ (m + 1)) % 2 ^ (m + 2) := by
  obtain ⟨h1, h2, h3⟩ := pw_facts m hm
  rw [it_pw m x hx, Nat.mod_mod_of_dvd _ (Nat.dvd_of_mod_eq_zero h3), Nat.add_mod, Nat.mul_mod, h1, h2, Nat.one_mul, Nat.mod_mod]
  rw [Nat.add_mod x, Nat.mod_eq_of_lt (a := 2 ^ (m + 1)) (Nat.pow_lt_pow_right (by decide) (by omega))]
theorem orbit_m (t x : Nat) (hx : x < 65536) (h : x % 2 = t % 2) (m : Nat) (hm : m ≤ 15) : ∃ k, it k x % 2 ^ (m + 1) = t % 2 ^ (m + 1) := by
  induction m with
  | zero => exact ⟨0, by simpa [it] using h⟩
  | succ m ih =>
    obtain ⟨k, hk⟩ := ih (by omega)
    by_cases he : it k x % 2 ^ (m + 2) = t % 2 ^ (m + 2)
    · exact ⟨k, he⟩
    · refine ⟨2 ^ m + k, ?_⟩
      rw [it_add]
      show _ % 2 ^ (m + 2) = _
      rw [it_step m _ (by omega) (it_lt hx k)]
      have e : 2 ^ (m + 2) = 2 ^ (m + 1) + 2 ^ (m + 1) := by rw [show m + 2 = (m + 1) + 1 from rfl, Nat.pow_succ]; omega
      generalize it k x = y at *
      have hp : 0 < 2 ^ (m + 1) := Nat.pow_pos (by decide)
      rw [e] at he ⊢
      generalize 2 ^ (m + 1) = P at *
      have a1 : y % (P + P) % P = y % P := Nat.mod_mod_of_dvd _ ⟨2, by omega⟩
      have a2 : t % (P + P) % P = t % P := Nat.mod_mod_of_dvd _ ⟨2, by omega⟩
      have l1 : y % (P + P) < P + P := Nat.mod_lt _ (by omega)
      have l2 : t % (P + P) < P + P := Nat.mod_lt _ (by omega)
      rw [Nat.add_mod]
      rw [Nat.mod_eq_of_lt (a := P) (by omega)]
      generalize y % (P + P) = Y at *
      generalize t % (P + P) = T at *
      rw [← a1, ← a2] at hk
      have c1 : Y % P = if Y < P then Y else Y - P := by
        split
        · exact Nat.mod_eq_of_lt (by assumption)
        · rw [Nat.mod_eq_sub_mod (by omega), Nat.mod_eq_of_lt (by omega)]
      have c2 : T % P = if T < P then T else T - P := by
        split
        · exact Nat.mod_eq_of_lt (by assumption)
        · rw [Nat.mod_eq_sub_mod (by omega), Nat.mod_eq_of_lt (by omega)]
      rw [c1, c2] at hk
      by_cases hY : Y < P
      · rw [if_pos hY] at hk
        rw [Nat.mod_eq_of_lt (by omega)]
        split at hk <;> omega
      · rw [if_neg hY] at hk
        rw [Nat.mod_eq_sub_mod (by omega), Nat.mod_eq_of_lt (by omega)]
        split at hk <;> omega
theorem orbit (t x : Nat) (hx : x < 65536) (ht : t < 65536) (h : x % 2 = t % 2) : ∃ k, it k x = t := by
  obtain ⟨k, hk⟩ := orbit_m t x hx h 15 (by omega)
  refine ⟨k, ?_⟩
  have := it_lt hx k
  rw [show (2 : Nat) ^ (15 + 1) = 65536 from by decide] at hk
  omega
def vv (n s : Nat) : Nat := nxt s / 16 % n + 1
def ng (s : Nat) : Bool := decide (nxt (nxt s) / 16 % 2 = 1)
def sg (n s : Nat) : Int := if ng s then -((vv n s : Nat) : Int) else ((vv n s : Nat) : Int)
def seenV (L : List Int) (v : Nat) : Bool := L.any fun l => decide (l.natAbs = v)
def stpL (n s : Nat) (L : List Int) : List Int := if seenV L (vv n s) then L else L ++ [sg n s]
def gof (n w : Nat) : Nat → Nat → List Int → Nat × List Int
  | 0, s, L => (s, L)
  | k + 1, s, L => if L.length < w then gof n w k (nxt (nxt s)) (stpL n s L) else (s, L)
/-- What the literals drawn so far are: numbers of 1 .. n, up to a sign, all different. -/
def OkL (n : Nat) (L : List Int) : Prop := (∀ l ∈ L, 1 ≤ l.natAbs ∧ l.natAbs ≤ n) ∧ (L.map Int.natAbs).Nodup
theorem vv_bd {n : Nat} (h : 1 ≤ n) (s : Nat) : 1 ≤ vv n s ∧ vv n s ≤ n := by
  unfold vv
  have := Nat.mod_lt (nxt s / 16) (show n > 0 by omega)
  omega
theorem sg_abs (n s : Nat) : (sg n s).natAbs = vv n s := by
  unfold sg; split <;> omega
theorem seenV_iff {L : List Int} {v : Nat} : seenV L v = true ↔ v ∈ L.map Int.natAbs := by
  unfold seenV
  simp
theorem okL_stp {n s : Nat} {L : List Int} (h : 1 ≤ n) (hL : OkL n L) : OkL n (stpL n s L) := by
  unfold stpL
  split
  · exact hL
  · rename_i hs
    have hb := vv_bd h s
    refine ⟨fun l hl => ?_, ?_⟩
    · rcases List.mem_append.1 hl with hl | hl
      · exact hL.1 l hl
      · obtain rfl : l = sg n s := by simpa using hl
        rw [sg_abs]; exact hb
    · rw [List.map_append, List.nodup_append]
      refine ⟨hL.2, by simp, fun a ha b hb' => ?_⟩
      simp only [List.map_cons, List.map_nil, List.mem_singleton] at hb'
      rw [sg_abs] at hb'
      subst hb'
      intro e
      subst e
      exact hs (seenV_iff.2 ha)
theorem stp_len {n s : Nat} {L : List Int} : (stpL n s L).length = L.length ∨ (stpL n s L).length = L.length + 1 := by
  unfold stpL; split <;> simp
theorem missing (n : Nat) (V : List Nat) (h : V.length < n) : ∃ v, 1 ≤ v ∧ v ≤ n ∧ v ∉ V := by
  induction n generalizing V with
  | zero => omega
  | succ n ih =>
    by_cases hm : n + 1 ∈ V
    · obtain ⟨v, h1, h2, h3⟩ := ih (V.erase (n + 1)) (by
        rw [List.length_erase_of_mem hm]
        have := List.length_pos_of_mem hm
        omega)
      refine ⟨v, h1, by omega, fun hv => h3 ?_⟩
      exact (List.mem_erase_of_ne (by omega)).2 hv
    · exact ⟨n + 1, by omega, by omega, hm⟩
theorem nxt_lt (s : Nat) : nxt s < 65536 := Nat.mod_lt _ (by decide)
theorem it_succ (k x : Nat) : it (k + 1) x = it k (nxt (nxt x)) := rfl
theorem nxt_it (s k : Nat) : nxt (it k s) = it k (nxt s) := by
  induction k generalizing s with
  | zero => rfl
  | succ k ih => rw [it_succ, it_succ, ih]
theorem tgt {n v p : Nat} (hn : n ≤ 4096) (h1 : 1 ≤ v) (h2 : v ≤ n) (hp : p < 2) : 16 * (v - 1) + p < 65536 ∧ p % 2 = (16 * (v - 1) + p) % 2 ∧ (16 * (v - 1) + p) / 16 % n + 1 = v := by
  refine ⟨by omega, by omega, ?_⟩
  rw [show (16 * (v - 1) + p) / 16 = v - 1 from by omega, Nat.mod_eq_of_lt (by omega)]
  omega
theorem vv_at {n v s k t : Nat} (hk : it k (nxt s) = t) (t3 : t / 16 % n + 1 = v) : vv n (it k s) = v := by
  unfold vv
  rw [nxt_it, hk]
  exact t3
/-- the state behind k steps draws any variable, for some k. -/
theorem draws {n s v : Nat} (hn : n ≤ 4096) (h1 : 1 ≤ v) (h2 : v ≤ n) : ∃ k, vv n (it k s) = v := by
  have hp : nxt s % 2 < 2 := Nat.mod_lt _ (by decide)
  have t1 := (tgt hn h1 h2 hp).1
  have t2 := (tgt hn h1 h2 hp).2.1
  have t3 := (tgt hn h1 h2 hp).2.2
  have t4 : nxt s % 2 = (16 * (v - 1) + nxt s % 2) % 2 := by omega
  exact (orbit _ _ (nxt_lt s) t1 t4).imp fun k hk => vv_at hk t3
/-- some number of steps brings one more literal. -/
theorem one_more {n w s : Nat} {L : List Int} (hn : 1 ≤ n) (hn2 : n ≤ 4096) (hw : w ≤ n) (hL : OkL n L) (hlt : L.length < w) :
    ∃ k s' L', OkL n L' ∧ L'.length = L.length + 1 ∧ ∀ m, gof n w (k + m) s L = gof n w m s' L' := by
  obtain ⟨v, h1, h2, h3⟩ := missing n (L.map Int.natAbs) (by rw [List.length_map]; omega)
  obtain ⟨k, hk⟩ := draws (s := s) hn2 h1 h2
  induction k generalizing s with
  | zero =>
    refine ⟨1, nxt (nxt s), stpL n s L, okL_stp hn hL, ?_, fun m => ?_⟩
    · have hk' : vv n s = v := hk
      unfold stpL
      rw [if_neg (by rw [seenV_iff, hk']; exact h3)]
      simp
    · rw [Nat.add_comm]
      show (if L.length < w then _ else _) = _
      rw [if_pos hlt]
  | succ k ih =>
    by_cases hs : seenV L (vv n s) = true
    · obtain ⟨k', s', L', g1, g2, g3⟩ := ih (s := nxt (nxt s)) hk
      refine ⟨k' + 1, s', L', g1, g2, fun m => ?_⟩
      rw [show k' + 1 + m = (k' + m) + 1 from by omega]
      show (if L.length < w then _ else _) = _
      rw [if_pos hlt, ← g3 m]
      unfold stpL
      rw [if_pos hs]
    · refine ⟨1, nxt (nxt s), stpL n s L, okL_stp hn hL, ?_, fun m => ?_⟩
      · unfold stpL
        rw [if_neg hs]
        simp
      · rw [Nat.add_comm]
        show (if L.length < w then _ else _) = _
        rw [if_pos hlt]
theorem gof_done {n w s : Nat} {L : List Int} (hn : 1 ≤ n) (hn2 : n ≤ 4096) (hw : w ≤ n) (hL : OkL n L) (hle : L.length ≤ w) : ∃ k, (gof n w k s L).2.length = w := by
  generalize hd : w - L.length = d
  induction d generalizing s L with
  | zero => exact ⟨0, by show L.length = w; omega⟩
  | succ d ih =>
    obtain ⟨k, s', L', h1, h2, h3⟩ := one_more (s := s) hn hn2 hw hL (by omega)
    obtain ⟨m, hm⟩ := ih (s := s') h1 (by omega) (by omega)
    exact ⟨k + m, by rw [h3 m]; exact hm⟩
theorem gof_ok {n w s k : Nat} {L : List Int} (hn : 1 ≤ n) (hL : OkL n L) : OkL n (gof n w k s L).2 := by
  induction k generalizing s L with
  | zero => exact hL
  | succ k ih =>
    unfold gof
    split
    · exact ih (okL_stp hn hL)
    · exact hL
theorem gof_st {n w s k : Nat} {L : List Int} (h : s < 65536) : (gof n w k s L).1 < 65536 := by
  induction k generalizing s L with
  | zero => exact h
  | succ k ih =>
    unfold gof
    split
    · exact ih (nxt_lt _)
    · exact h
/-- How many steps a clause takes. -/
noncomputable def fuelL (n w s : Nat) : Nat := open Classical in if h : ∃ k, (gof n w k s []).2.length = w then Classical.choose h else 0
/-- The state behind a clause, and the clause's literals in the order in which they were drawn. -/
noncomputable def finL (n w s : Nat) : Nat × List Int := gof n w (fuelL n w s) s []
theorem okL_nil (n : Nat) : OkL n [] := ⟨(fun _ h => by cases h), List.nodup_nil⟩
theorem finL_len {n w s : Nat} (hn : 1 ≤ n) (hn2 : n ≤ 4096) (hw : w ≤ n) : (finL n w s).2.length = w := by
  have h := gof_done (s := s) hn hn2 hw (okL_nil n) (Nat.zero_le _)
  unfold finL fuelL
  rw [dif_pos h]
  exact Classical.choose_spec h
theorem finL_ok {n w s : Nat} (hn : 1 ≤ n) : OkL n (finL n w s).2 := gof_ok hn (okL_nil n)
theorem gof_zero {n w s : Nat} {L : List Int} {x : Nat × List Int} (h : gof n w 0 s L = x) : x = (s, L) := h.symm
/-- In a round: as long as the list is short there is a step to take. -/
theorem gof_round {n w s k : Nat} {L : List Int} {x : Nat × List Int} (h : gof n w k s L = x) (hx : x.2.length = w) (hlt : L.length < w) : ∃ m, k = m + 1 ∧ gof n w m (nxt (nxt s)) (stpL n s L) = x := by
  cases k with
  | zero => have := gof_zero h; subst this; exact absurd hx (Nat.ne_of_lt hlt)
  | succ m =>
    refine ⟨m, rfl, ?_⟩
    rw [← h]
    conv => rhs; unfold gof
    rw [if_pos hlt]
theorem gof_end {n w s k : Nat} {L : List Int} {x : Nat × List Int} (h : gof n w k s L = x) (hlt : ¬ L.length < w) : x = (s, L) := by
  cases k with
  | zero => exact gof_zero h
  | succ m =>
    rw [← h]
    unfold gof
    rw [if_neg hlt]

/-- Where a literal is put into a clause: ahead of the first one with no smaller variable. -/
def posA : List Int → Int → Nat
  | [], _ => 0
  | x :: xs, l => if absI x < absI l then posA xs l + 1 else 0
def putA (c : List Int) (l : Int) : List Int := c.take (posA c l) ++ l :: c.drop (posA c l)
def srtA (L : List Int) : List Int := L.foldl putA []
theorem srtA_snoc (L : List Int) (l : Int) : srtA (L ++ [l]) = putA (srtA L) l := by
  unfold srtA; rw [List.foldl_append]; rfl
theorem posA_le (c : List Int) (l : Int) : posA c l ≤ c.length := by
  induction c with
  | nil => exact Nat.zero_le _
  | cons x xs ih =>
    unfold posA
    split
    · exact Nat.succ_le_succ ih
    · exact Nat.zero_le _
theorem posA_lt {c : List Int} {l : Int} : ∀ {k}, k < posA c l → ∀ h : k < c.length, absI c[k] < absI l := by
  induction c with
  | nil => intro k hk; exact absurd hk (Nat.not_lt_zero _)
  | cons x xs ih =>
    intro k hk h
    unfold posA at hk
    split at hk
    · cases k with
      | zero => assumption
      | succ k => exact ih (Nat.lt_of_succ_lt_succ hk) _
    · exact absurd hk (Nat.not_lt_zero _)
theorem posA_at {c : List Int} {l : Int} (h : posA c l < c.length) : ¬ absI c[posA c l] < absI l := by
  induction c with
  | nil => exact absurd h (Nat.not_lt_zero _)
  | cons x xs ih =>
    by_cases hx : absI x < absI l
    · have e : posA (x :: xs) l = posA xs l + 1 := by show (if _ then _ else _) = _; rw [if_pos hx]
      have h' : posA xs l < xs.length := by rw [e] at h; exact Nat.lt_of_succ_lt_succ h
      have := ih h'
      simpa [e] using this
    · have e : posA (x :: xs) l = 0 := by show (if _ then _ else _) = _; rw [if_neg hx]
      simpa [e] using hx
theorem putA_perm (c : List Int) (l : Int) : (putA c l).Perm (l :: c) := by
  unfold putA
  refine List.perm_middle.trans ?_
  rw [List.take_append_drop]
theorem srtA_perm (L : List Int) : (srtA L).Perm L := by
  have key : ∀ (L c : List Int), (L.foldl putA c).Perm (c ++ L) := by
    intro L
    induction L with
    | nil => intro c; simp
    | cons l L ih =>
      intro c
      refine (ih (putA c l)).trans ?_
      refine ((putA_perm c l).append_right L).trans ?_
      exact List.perm_middle.symm
  have := key L []
  rwa [List.nil_append] at this
theorem mem_srtA {L : List Int} {x : Int} : x ∈ srtA L ↔ x ∈ L := (srtA_perm L).mem_iff
theorem srtA_len (L : List Int) : (srtA L).length = L.length := (srtA_perm L).length_eq
theorem putA_pw {c : List Int} {l : Int} (h : c.Pairwise fun a b => absI a < absI b) (hn : ∀ x ∈ c, absI x ≠ absI l) : (putA c l).Pairwise fun a b => absI a < absI b := by
  induction c with
  | nil => simp [putA, posA]
  | cons x xs ih =>
    have hx := hn x (by simp)
    have h1 := (List.pairwise_cons.1 h).1
    have h2 := (List.pairwise_cons.1 h).2
    by_cases hlt : absI x < absI l
    · have e : putA (x :: xs) l = x :: putA xs l := by
        unfold putA
        rw [show posA (x :: xs) l = posA xs l + 1 from by show (if _ then _ else _) = _; rw [if_pos hlt]]
        rfl
      rw [e]
      refine List.pairwise_cons.2 ⟨fun y hy => ?_, ih h2 fun y hy => hn y (by simp [hy])⟩
      rcases List.mem_cons.1 ((putA_perm xs l).mem_iff.1 hy) with rfl | hy
      · exact hlt
      · exact h1 y hy
    · have e : putA (x :: xs) l = l :: x :: xs := by
        unfold putA
        rw [show posA (x :: xs) l = 0 from by show (if _ then _ else _) = _; rw [if_neg hlt]]
        rfl
      rw [e]
      refine List.pairwise_cons.2 ⟨fun y hy => ?_, h⟩
      have hlx : absI l < absI x := by omega
      rcases List.mem_cons.1 hy with rfl | hy
      · exact hlx
      · exact Int.lt_trans hlx (h1 y hy)
theorem absI_nat (l : Int) : absI l = (l.natAbs : Int) := by unfold absI; split <;> omega
theorem srtA_pw {n : Nat} {L : List Int} (h : OkL n L) : (srtA L).Pairwise fun a b => absI a < absI b := by
  obtain ⟨-, h⟩ := h
  have key : ∀ (L c : List Int), (c.Pairwise fun a b => absI a < absI b) → ((c ++ L).map Int.natAbs).Nodup → (L.foldl putA c).Pairwise fun a b => absI a < absI b := by
    intro L
    induction L with
    | nil => intro c hc _; exact hc
    | cons l L ih =>
      intro c hc hd
      refine ih _ (putA_pw hc fun x hx e => ?_) ?_
      · rw [absI_nat, absI_nat] at e
        have e' : x.natAbs = l.natAbs := by omega
        rw [List.map_append, List.nodup_append] at hd
        exact hd.2.2 _ (List.mem_map_of_mem hx) _ (List.mem_map_of_mem (by simp : l ∈ l :: L)) e'
      · refine (List.Perm.nodup_iff (List.Perm.map _ ?_)).1 hd
        exact List.perm_middle.trans ((putA_perm c l).symm.append_right L)
  exact key L [] List.Pairwise.nil (by simpa using h)
theorem seen_has {L : List Int} {v : Nat} : (hasI (srtA L) (v : Int) || hasI (srtA L) (-(v : Int))) = seenV L v := by
  rw [Bool.eq_iff_iff, Bool.or_eq_true, hasI_iff, hasI_iff, mem_srtA, mem_srtA, seenV_iff, List.mem_map]
  constructor
  · rintro (h | h)
    · exact ⟨_, h, by omega⟩
    · exact ⟨_, h, by omega⟩
  · rintro ⟨l, hl, e⟩
    rcases Int.natAbs_eq l with h | h
    · exact .inl (by rw [← e, ← h]; exact hl)
    · exact .inr (by rw [← e, ← h]; exact hl)
theorem seen_sort {n : Nat} {L : List Int} {v : Nat} (h : OkL n L) (hn : n ≤ 12) : hasI (sortU ([L].flatten.map absW)) (v : Int) = seenV L v := by
  rw [Bool.eq_iff_iff, hasI_iff, (sortU_spec _).2, seenV_iff]
  simp only [List.flatten_cons, List.flatten_nil, List.append_nil, List.mem_map]
  constructor
  · rintro ⟨l, hl, e⟩
    have := h.1 l hl
    rw [absW_eq (by omega), absI_nat] at e
    exact ⟨l, hl, by omega⟩
  · rintro ⟨l, hl, e⟩
    have := h.1 l hl
    exact ⟨l, hl, by rw [absW_eq (by omega), absI_nat, e]⟩
theorem okL_bd {n : Nat} {L : List Int} (h : OkL n L) (hn : n ≤ 12) : ∀ x ∈ srtA L, -1000 ≤ x ∧ x ≤ 1000 := fun x hx => by
  have := h.1 x (mem_srtA.1 hx); omega
theorem clG_of {n : Int} (xs : List Int) (hm : ∀ x ∈ xs, litB n x = true) (hp : xs.Pairwise fun a b => absI a < absI b) : ∀ o : Option Int, (∀ p, o = some p → ∀ x ∈ xs, absI p < absI x) → clG n o xs = true := by
  induction xs with
  | nil => intro o _; cases o <;> rfl
  | cons x r ih =>
    intro o ho
    have hr := ih (fun y hy => hm y (by simp [hy])) (List.pairwise_cons.1 hp).2 (some x) (fun p e y hy => by injection e with e; subst e; exact (List.pairwise_cons.1 hp).1 y hy)
    have hx := hm x (by simp)
    cases o with
    | none => unfold clG; rw [if_pos hx]; exact hr
    | some p => unfold clG; rw [if_pos hx, if_pos (ho p rfl x (by simp))]; exact hr
theorem clauseB_srt {n : Nat} {L : List Int} (h : OkL n L) (hn : n ≤ 12) : clauseB (n : Int) (srtA L) = true := by
  unfold clauseB
  rw [Bool.and_eq_true]
  refine ⟨inB_iff.2 (by omega), clG_of _ (fun x hx => litB_iff.2 ?_) (srtA_pw h) none (fun p e => by cases e)⟩
  have := h.1 x (mem_srtA.1 hx)
  omega
/-- The state behind some clauses, and these clauses. -/
noncomputable def stS (n w s : Nat) : Nat → Nat
  | 0 => s
  | i + 1 => (finL n w (stS n w s i)).1
noncomputable def csS (n w s : Nat) : Nat → List (List Int)
  | 0 => []
  | i + 1 => csS n w s i ++ [srtA (finL n w (stS n w s i)).2]
theorem csS_len (n w s i : Nat) : (csS n w s i).length = i := by
  induction i with
  | zero => rfl
  | succ i ih => unfold csS; rw [List.length_append, ih]; rfl
theorem csS_mem {n w s i : Nat} (h1 : 1 ≤ n) (h : n ≤ 12) : ∀ c ∈ csS n w s i, clauseB (n : Int) c = true := by
  induction i with
  | zero => intro c hc; cases hc
  | succ i ih =>
    intro c hc
    unfold csS at hc
    rcases List.mem_append.1 hc with hc | hc
    · exact ih c hc
    · obtain rfl := List.mem_singleton.1 hc
      exact clauseB_srt (finL_ok h1) h
theorem csS_good {n w s i : Nat} (h1 : 1 ≤ n) (h : n ≤ 12) (hi : i ≤ 60) : goodB ⟨n, csS n w s i⟩ = true := by
  unfold goodB
  rw [Bool.and_eq_true, Bool.and_eq_true, decide_eq_true_eq, inB_iff, goodG_iff]
  exact ⟨by show 0 ≤ (n : Int) ∧ (n : Int) ≤ 12; omega, by show (csS n w s i).length ≤ 60; rw [csS_len]; exact hi, csS_mem h1 h⟩
theorem stS_lt {n w s : Nat} (h : s < 65536) (i : Nat) : stS n w s i < 65536 := by
  induction i with
  | zero => exact h
  | succ i ih => unfold stS finL; exact gof_st ih
end Go.Proofs.YtbdcomkbpapcaaaGreat.Seed
