/-
  The parity formula of a charged graph: it is valid, in plain words. No condition.
-/
import Derived.Test.YtgkifandgacncaaParP
import Derived.Test.YtgkifandgacncaaEdgesAt
namespace Go.Proofs.Ytgkifandgacncaa
open Go.RowKit
def atK (g : Chg) (v : Nat) : List Int := atN g.es (v : Int) g.es.length
def chK (g : Chg) (v : Nat) : Int := g.cs.getD v 0
def parK (g : Chg) (v : Nat) : List (List Int) := spcC (atK g v) (chK g v) (2 ^ (atK g v).length)
def parC (g : Chg) (m : Nat) : List (List Int) := (List.range m).flatMap (parK g)
theorem parC_succ (g : Chg) (m : Nat) : parC g (m + 1) = parC g m ++ parK g m := by simp [parC, List.range_succ]
def parF (g : Chg) : Cnf := ⟨(g.es.length : Int), parC g g.cs.length⟩
def parV (g : Chg) : Cnf := if goodC g then parF g else ⟨0, []⟩
theorem atN_mem {es : List (Int × Int)} {v : Int} {k : Nat} : ∀ x ∈ atN es v k, 0 ≤ x ∧ x < k := fun x hx => by
  unfold atN at hx
  obtain ⟨j, hj, rfl⟩ := List.mem_map.1 hx
  have := List.mem_range.1 (List.mem_filter.1 hj).1
  omega
theorem atK_nn (g : Chg) (v : Nat) : ∀ x ∈ atK g v, 0 ≤ x := fun x hx => (atN_mem x hx).1
theorem atN_rise (es : List (Int × Int)) (v : Int) (k : Nat) : (atN es v k).Pairwise (· < ·) := by
  unfold atN
  rw [List.pairwise_map]
  exact (List.Pairwise.filter _ List.pairwise_lt_range).imp fun h => by omega
theorem atK_four {g : Chg} (h : goodC g = true) {v : Nat} (hv : v < g.cs.length) : (atK g v).length ≤ 4 := by
  obtain ⟨_, _, _, _, _, _, hd⟩ := goodC_inv h
  have := hd v hv
  unfold degB at this
  simpa [atK] using this
def sumT (f : Nat → Nat) (n : Nat) : Nat := ((List.range n).map f).sum
theorem sumT_succ (f : Nat → Nat) (n : Nat) : sumT f (n + 1) = sumT f n + f n := by simp [sumT, List.range_succ]
theorem sumT_le {f g : Nat → Nat} : ∀ n, (∀ i, i < n → f i ≤ g i) → sumT f n ≤ sumT g n
  | 0, _ => Nat.le_refl _
  | n + 1, h => by
    have h1 := sumT_le n fun i hi => h i (by omega)
    have h2 := h n (by omega)
    rw [sumT_succ, sumT_succ]; omega
theorem sumT_add (f g : Nat → Nat) : ∀ n, sumT (fun i => f i + g i) n = sumT f n + sumT g n
  | 0 => rfl
  | n + 1 => by rw [sumT_succ, sumT_succ, sumT_succ, sumT_add f g n]; omega
theorem sumT_one (a : Int) : ∀ n, sumT (fun i => if a = (i : Int) then 1 else 0) n ≤ 1 ∧ ((∀ i : Nat, i < n → a ≠ (i : Int)) → sumT (fun i => if a = (i : Int) then 1 else 0) n = 0)
  | 0 => by simp [sumT]
  | n + 1 => by
    obtain ⟨h1, h2⟩ := sumT_one a n
    rw [sumT_succ]
    refine ⟨?_, fun h => ?_⟩
    · by_cases e : a = (n : Int)
      · have := h2 fun i hi => by omega
        rw [if_pos e]; omega
      · rw [if_neg e]; omega
    · rw [h2 fun i hi => h i (by omega), if_neg (h n (by omega))]
theorem atN_sum (es : List (Int × Int)) (n : Nat) : ∀ k, k ≤ es.length → sumT (fun v => (atN es (v : Int) k).length) n ≤ 2 * k
  | 0, _ => by
    have : sumT (fun v => (atN es (v : Int) 0).length) n ≤ sumT (fun _ => 0) n := sumT_le n fun i _ => by simp [atN]
    have h0 : ∀ m, sumT (fun _ => 0) m = 0 := fun m => by induction m with
      | zero => rfl
      | succ m ih => rw [sumT_succ, ih]
    rw [h0] at this
    omega
  | k + 1, h => by
    have ih := atN_sum es n k (by omega)
    have hk : k < es.length := by omega
    have h1 : sumT (fun v => (atN es (v : Int) (k + 1)).length) n ≤ sumT (fun v => (atN es (v : Int) k).length + ((if es[k].1 = (v : Int) then 1 else 0) + (if es[k].2 = (v : Int) then 1 else 0))) n := by
      refine sumT_le n fun v _ => ?_
      cases hb : tchB es (v : Int) k with
      | false => rw [atN_no hb]; omega
      | true =>
        rw [atN_yes hb, List.length_append, List.length_singleton]
        rw [tchB_of hk, Bool.or_eq_true, decide_eq_true_eq, decide_eq_true_eq] at hb
        rcases hb with hb | hb
        · rw [if_pos hb]; omega
        · rw [if_pos hb]; omega
    rw [sumT_add, sumT_add] at h1
    have a1 := (sumT_one es[k].1 n).1
    have a2 := (sumT_one es[k].2 n).1
    omega
theorem parK_len {g : Chg} (h : goodC g = true) {v : Nat} (hv : v < g.cs.length) : (parK g v).length ≤ 2 * (atK g v).length + 1 := by
  obtain ⟨_, _, _, _, _, hc, _⟩ := goodC_inv h
  have h4 := atK_four h hv
  have hcv : chK g v = g.cs[v] := by unfold chK; simp [List.getD, hv]
  have hc := hc _ (List.getElem_mem hv)
  obtain ⟨ch, he⟩ := Int.eq_ofNat_of_zero_le hc.1
  unfold parK
  rw [hcv, he, spcC_eq (atK_nn g v), List.length_map]
  exact par_len ⟨(atK g v).length, by omega⟩ ⟨ch, by omega⟩
theorem parC_len {g : Chg} (h : goodC g = true) : ∀ m, m ≤ g.cs.length → (parC g m).length ≤ 2 * sumT (fun v => (atK g v).length) m + m
  | 0, _ => by simp [parC]
  | m + 1, hm => by
    have ih := parC_len h m (by omega)
    have := parK_len h (v := m) (by omega)
    rw [parC_succ, List.length_append, sumT_succ]
    omega
theorem parC_60 {g : Chg} (h : goodC g = true) {m : Nat} (hm : m ≤ g.cs.length) : (parC g m).length ≤ 56 := by
  have h1 := parC_len h m hm
  obtain ⟨_, hn, he, hc, _⟩ := goodC_inv h
  have h2 : sumT (fun v => (atK g v).length) m ≤ 2 * g.es.length := atN_sum g.es m g.es.length (Nat.le_refl _)
  omega
/-- Signed ascending numbers make a clause. -/
theorem sgz_mem : ∀ (xs : List Int) (b : List Bool), ∀ y ∈ sgz xs b, ∃ x ∈ xs, y = x ∨ y = -x
  | [], b, y, h => by cases b <;> simp [sgz] at h
  | x :: xs, [], y, h => by simp [sgz] at h
  | x :: xs, p :: b, y, h => by
    have e1 : sgz (x :: xs) (p :: b) = (if p then -x else x) :: sgz xs b := rfl
    rw [e1] at h
    rcases List.mem_cons.1 h with rfl | h
    · refine ⟨x, by simp, ?_⟩
      cases p
      · exact .inl rfl
      · exact .inr rfl
    · obtain ⟨z, hz, e⟩ := sgz_mem xs b y h
      exact ⟨z, by simp [hz], e⟩
theorem clG_sgz {n : Int} : ∀ (xs : List Int) (b : List Bool) (o : Option Int), (∀ x ∈ xs, 1 ≤ x ∧ x ≤ n) → xs.Pairwise (· < ·) → (∀ p, o = some p → ∀ x ∈ xs, absI p < x) → clG n o (sgz xs b) = true
  | [], b, o, _, _, _ => by cases b <;> cases o <;> rfl
  | x :: xs, [], o, _, _, _ => by cases o <;> rfl
  | x :: xs, q :: b, o, h1, h2, h3 => by
    have e1 : sgz (x :: xs) (q :: b) = (if q then -x else x) :: sgz xs b := rfl
    rw [e1]
    have hx := h1 x (by simp)
    have hl : litB n (if q then -x else x) = true := by
      rw [litB_iff]
      cases q <;> simp <;> omega
    have ha : absI (if q then -x else x) = x := by
      unfold absI
      cases q <;> simp <;> omega
    have hr : clG n (some (if q then -x else x)) (sgz xs b) = true := clG_sgz xs b _ (fun y hy => h1 y (by simp [hy])) (List.pairwise_cons.1 h2).2 fun p hp y hy => by
      cases hp
      rw [ha]
      exact (List.pairwise_cons.1 h2).1 y hy
    cases o with
    | none => unfold clG; rw [if_pos hl]; exact hr
    | some p => unfold clG; rw [if_pos hl, if_pos (by rw [ha]; exact h3 p rfl x (by simp))]; exact hr
theorem parK_mem {g : Chg} (h : goodC g = true) {v : Nat} (hv : v < g.cs.length) : ∀ c ∈ parK g v, ∃ b, c = sgz ((atK g v).map (· + 1)) b := fun c hc => by
  obtain ⟨_, _, _, _, _, hch, _⟩ := goodC_inv h
  have hcv : chK g v = g.cs[v] := by unfold chK; simp [List.getD, hv]
  have hch := hch _ (List.getElem_mem hv)
  obtain ⟨ch, he⟩ := Int.eq_ofNat_of_zero_le hch.1
  unfold parK at hc
  rw [hcv, he, spcC_eq (atK_nn g v)] at hc
  obtain ⟨b, _, rfl⟩ := List.mem_map.1 hc
  exact ⟨b, rfl⟩
theorem par_good {g : Chg} (h : goodC g = true) : goodB (parF g) = true := by
  obtain ⟨_, hn, he, hc, _⟩ := goodC_inv h
  unfold goodB
  rw [Bool.and_eq_true, Bool.and_eq_true, decide_eq_true_eq, goodG_iff]
  refine ⟨inB_iff.2 ⟨?_, ?_⟩, Nat.le_trans (parC_60 h (Nat.le_refl _)) (by decide), fun c hcc => ?_⟩
  · show (0 : Int) ≤ (g.es.length : Int); omega
  · show (g.es.length : Int) ≤ 12; omega
  · obtain ⟨v, hv, hcv⟩ := List.mem_flatMap.1 hcc
    obtain ⟨b, rfl⟩ := parK_mem h (List.mem_range.1 hv) c hcv
    unfold clauseB
    rw [Bool.and_eq_true]
    refine ⟨inB_iff.2 ⟨by show (0 : Int) ≤ (g.es.length : Int); omega, by show (g.es.length : Int) ≤ 12; omega⟩, clG_sgz _ _ _ (fun x hx => ?_) ?_ (fun p hp => by cases hp)⟩
    · obtain ⟨y, hy, rfl⟩ := List.mem_map.1 hx
      have := atN_mem y hy
      show 1 ≤ y + 1 ∧ y + 1 ≤ (g.es.length : Int)
      omega
    · rw [List.pairwise_map]
      exact (atN_rise _ _ _).imp fun h => by omega
theorem parK_xor {g : Chg} (h : goodC g = true) {v : Nat} (hv : v < g.cs.length) : parK g v = xorL ((atK g v).map (· + 1)) (decide (g.cs[v] = 1)) := by
  obtain ⟨_, _, _, _, _, hch, _⟩ := goodC_inv h
  have hcv : chK g v = g.cs[v] := by unfold chK; simp [List.getD, hv]
  have hch := hch _ (List.getElem_mem hv)
  obtain ⟨ch, he⟩ := Int.eq_ofNat_of_zero_le hch.1
  unfold parK
  rw [hcv, he]
  exact par_eq (fun x hx => (atN_mem x hx).1) (atK_four h hv) (by omega)
theorem sgn_len : ∀ n, (allB n).length = 2 ^ n
  | 0 => rfl
  | n + 1 => by
    unfold allB
    rw [List.length_flatMap]
    have : (List.map (fun _ : List Bool => 2) (allB n)).sum = 2 * (allB n).length := by
      generalize allB n = l
      induction l with
      | nil => rfl
      | cons b r ih => rw [List.map_cons, List.sum_cons, ih, List.length_cons]; omega
    have e : (List.map (fun a : List Bool => [a ++ [false], a ++ [true]].length) (allB n)) = List.map (fun _ : List Bool => 2) (allB n) := rfl
    rw [e, this, sgn_len n, Nat.pow_succ]; omega
theorem sgn_length (xs : List Int) : (sgn xs).length = 2 ^ xs.length := by rw [sgn_eq, List.length_map, sgn_len]
theorem sgn_row {xs : List Int} : ∀ c ∈ sgn xs, c.length = xs.length := fun c hc => by
  rw [sgn_eq] at hc
  obtain ⟨b, hb, rfl⟩ := List.mem_map.1 hc
  exact sgz_len (allB_mem _ b hb)
theorem parV_bd (g : Chg) : Bd_Cnf (parV g) := by
  unfold parV
  split
  · rename_i h
    have hg := good_inv (par_good h)
    have hcl : ∀ c ∈ (parF g).cs, c.length ≤ 12 := fun c hc => by
      have := (clause_inv (hg.2.2.2 c hc)).2.2.2
      have := hg.2.1
      omega
    have hs : ∀ l : List (List Int), (∀ c ∈ l, c.length ≤ 12) → sumN (lens l) ≤ 12 * l.length := fun l => by
      induction l with
      | nil => intro _; simp [lens, sumN]
      | cons c r ih =>
        intro hh
        have h1 := ih fun x hx => hh x (by simp [hx])
        have h2 := hh c (by simp)
        have : sumN (lens (c :: r)) = c.length + sumN (lens r) := rfl
        rw [this, List.length_cons]; omega
    refine ⟨by have := hg.2.2.1; omega, fun c hc => by have := hcl c hc; omega, ?_⟩
    have := hs _ hcl
    have := hg.2.2.1
    omega
  · exact ⟨by simp, by simp, by simp [lens, sumN]⟩
theorem insL_mem {xss : List (List Int)} {d c : List Int} (h : c ∈ insL xss d) : c ∈ xss ∨ c = d := by
  unfold insL at h
  split at h
  · exact .inl h
  · rcases List.mem_append.1 h with h | h
    · exact .inl (List.mem_of_mem_take h)
    · rcases List.mem_cons.1 h with h | h
      · exact .inr h
      · exact .inl (List.mem_of_mem_drop h)
theorem spcC_mem {es : List Int} {ch : Int} : ∀ (m : Nat) (c : List Int), c ∈ spcC es ch m → ∃ code, c = clN es code es.length
  | 0, c, h => by simp [spcC] at h
  | m + 1, c, h => by
    rw [spcC_succ] at h
    split at h
    · rcases insL_mem h with h | h
      · exact spcC_mem m c h
      · exact ⟨m, h⟩
    · exact spcC_mem m c h
theorem clN_bd {es : List Int} (he : ∀ x ∈ es, 0 ≤ x ∧ x ≤ 100) {code i : Nat} (hi : i ≤ es.length) : ∀ x ∈ clN es code i, -1000 ≤ x ∧ x ≤ 1000 := fun x hx => by
  unfold clN at hx
  obtain ⟨j, hj, rfl⟩ := List.mem_map.1 hx
  have hj := List.mem_range.1 hj
  have := he es[j] (List.getElem_mem (by omega))
  have e : es.getD j 0 = es[j] := by simp [List.getD, show j < es.length from by omega]
  rw [e]
  split <;> omega
theorem spcC_bd {es : List Int} (he : ∀ x ∈ es, 0 ≤ x ∧ x ≤ 100) {ch : Int} {m : Nat} (hl : es.length ≤ 4) : ∀ c ∈ spcC es ch m, c.length ≤ 1000000 ∧ ∀ x ∈ c, -1000 ≤ x ∧ x ≤ 1000 := fun c hc => by
  obtain ⟨code, rfl⟩ := spcC_mem m c hc
  exact ⟨by rw [clN_len]; omega, clN_bd he (Nat.le_refl _)⟩
theorem ins_zs {α : Type} {zs : List (α × List Int)} {u : α} {ys : List Int} {k : Nat} : (zs.take k ++ (u, ys) :: zs.drop k).map Prod.snd = (zs.map Prod.snd).take k ++ ys :: (zs.map Prod.snd).drop k := by
  rw [List.map_append, List.map_cons, List.map_take, List.map_drop]
theorem insL_yes {xss : List (List Int)} {c : List Int} (h : foundL xss c = true) : insL xss c = xss := by unfold insL; rw [if_pos h]
theorem insL_no {xss : List (List Int)} {c : List Int} (h : foundL xss c = false) : insL xss c = xss.take (plcL xss c) ++ c :: xss.drop (plcL xss c) := by unfold insL; rw [if_neg (by rw [h]; decide)]
theorem perm_ins {α : Type} {zs : List α} {z : α} {k : Nat} : List.Perm (zs ++ [z]) (zs.take k ++ z :: zs.drop k) := by
  have h1 : List.Perm (zs.take k ++ z :: zs.drop k) (z :: (zs.take k ++ zs.drop k)) := List.perm_middle
  rw [List.take_append_drop] at h1
  exact (List.perm_append_comm.trans (List.Perm.refl _)).trans h1.symm
end Go.Proofs.Ytgkifandgacncaa
