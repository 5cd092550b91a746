/-
  The formula of lists of holes: plain words. No condition.
-/
import Derived.Test.YtjeeffmpfdhppaaHall2
import Derived.Test.YtjeeffmpfdhppaaPig
namespace Go.Proofs.Ytjeeffmpfdhppaa
open Go.RowKit
/-- For each variable its pigeon. -/
def pigs (i : Nat) : List (List Int) → List Int
  | [] => []
  | xs :: r => List.replicate xs.length (i : Int) ++ pigs (i + 1) r
theorem pigs_len : ∀ (xss : List (List Int)) (i : Nat), (pigs i xss).length = xss.flatten.length
  | [], _ => rfl
  | xs :: r, i => by simp [pigs, pigs_len r (i + 1)]
theorem sum_flat (xss : List (List Int)) : sumN (lens xss) = xss.flatten.length := by
  induction xss with
  | nil => rfl
  | cons x r ih =>
    show sumN (x.length :: lens r) = _
    simp [sumN, ih]
def chC (P H : List Int) (v x : Nat) : List (List Int) :=
  if P.getD v 0 ≠ P.getD x 0 ∧ H.getD v 0 = H.getD x 0 then [[-((v : Int) + 1), -((x : Int) + 1)]] else []
def chP (P H : List Int) (v t : Nat) : List (List Int) := (List.range t).flatMap fun d => chC P H v (v + 1 + d)
def chQ (P H : List Int) (n v : Nat) : List (List Int) := (List.range v).flatMap fun y => chP P H y (n - (y + 1))
theorem chP_succ (P H : List Int) (v t : Nat) : chP P H v (t + 1) = chP P H v t ++ chC P H v (v + 1 + t) := by simp [chP, List.range_succ]
theorem chQ_succ (P H : List Int) (n v : Nat) : chQ P H n (v + 1) = chQ P H n v ++ chP P H v (n - (v + 1)) := by simp [chQ, List.range_succ]
theorem chP_cnt (P H : List Int) (v : Nat) : ∀ t, v + 1 + t ≤ H.length → (chP P H v t).length ≤ ((H.drop (v + 1)).take t).count (H.getD v 0)
  | 0, _ => by simp [chP]
  | t + 1, h => by
    have ih := chP_cnt P H v t (by omega)
    have hlt : t < (H.drop (v + 1)).length := by simp; omega
    rw [chP_succ, List.length_append, List.take_succ_eq_append_getElem hlt, List.count_append]
    have e : (H.drop (v + 1))[t] = H.getD (v + 1 + t) 0 := by
      rw [List.getElem_drop]; simp [List.getD, show v + 1 + t < H.length by omega]
    rw [e]
    have : (chC P H v (v + 1 + t)).length ≤ [H.getD (v + 1 + t) 0].count (H.getD v 0) := by
      unfold chC
      split
      · rename_i hc
        rw [hc.2]; simp
      · simp
    omega
theorem rising_nodup : ∀ (xs : List Int) (p : Option Int) (lo hi : Int), risingG lo hi p xs = true → ∀ q, p = some q → ∀ x ∈ xs, q < x
  | [], _, _, _, _, _, _, x, hx => by cases hx
  | y :: r, p, lo, hi, h, q, hp, x, hx => by
    subst hp
    unfold risingG at h
    split at h
    · split at h
      · rename_i hlt
        rcases List.mem_cons.1 hx with rfl | hx
        · exact hlt
        · have := rising_nodup r (some y) lo hi h y rfl x hx; omega
      · cases h
    · cases h
theorem rising_count : ∀ (xs : List Int) (p : Option Int) (lo hi : Int), risingG lo hi p xs = true → ∀ z, xs.count z ≤ 1
  | [], _, _, _, _, z => by simp
  | y :: r, p, lo, hi, h, z => by
    have hr : risingG lo hi (some y) r = true := by
      cases p with
      | none =>
        unfold risingG at h
        split at h
        · exact h
        · cases h
      | some q =>
        unfold risingG at h
        split at h
        · split at h
          · exact h
          · cases h
        · cases h
    have ih := rising_count r (some y) lo hi hr z
    rw [List.count_cons]
    split
    · rename_i e
      have e : y = z := by simpa using e
      have : r.count z = 0 := List.count_eq_zero.2 fun hm => by
        have := rising_nodup r (some y) lo hi hr y rfl z hm; omega
      omega
    · omega
theorem flat_count : ∀ (xss : List (List Int)) (z : Int), (∀ xs ∈ xss, xs.count z ≤ 1) → xss.flatten.count z ≤ xss.length
  | [], _, _ => by simp
  | xs :: r, z, h => by
    have h1 := h xs (by simp)
    have h2 := flat_count r z fun y hy => h y (by simp [hy])
    simp [List.flatten_cons, List.count_append]
    omega
theorem chP_le {P H : List Int} {v t m : Nat} (hc : ∀ z, H.count z ≤ m) (h : v + 1 + t ≤ H.length) : (chP P H v t).length ≤ m := by
  refine Nat.le_trans (chP_cnt P H v t h) (Nat.le_trans ?_ (hc (H.getD v 0)))
  exact List.Sublist.count_le _ ((List.take_sublist t _).trans (List.drop_sublist (v + 1) H))
theorem chQ_le {P H : List Int} {n m : Nat} (hn : H.length = n) (hc : ∀ z, H.count z ≤ m) : ∀ v, v ≤ n → (chQ P H n v).length ≤ v * m
  | 0, _ => by simp [chQ]
  | v + 1, h => by
    have ih := chQ_le (P := P) hn hc v (by omega)
    have := chP_le (P := P) (H := H) (v := v) (t := n - (v + 1)) hc (by omega)
    rw [chQ_succ, List.length_append, Nat.succ_mul]; omega
theorem chC_mem {P H : List Int} {v x n : Nat} (h1 : v < x) (h2 : x < n) (h3 : n ≤ 12) : ∀ c ∈ chC P H v x, clauseB n c = true := by
  intro c hc
  unfold chC at hc
  split at hc
  · obtain rfl := List.mem_singleton.1 hc
    have key : ∀ n ∈ List.range 13, ∀ x ∈ List.range 12, ∀ v ∈ List.range 12, v < x → x < n → clauseB n [-((v : Int) + 1), -((x : Int) + 1)] = true := by decide +kernel
    exact key n (List.mem_range.2 (by omega)) x (List.mem_range.2 (by omega)) v (List.mem_range.2 (by omega)) h1 h2
  · cases hc
theorem chQ_mem {P H : List Int} {n : Nat} (h3 : n ≤ 12) : ∀ v, ∀ c ∈ chQ P H n v, clauseB n c = true := by
  intro v c hc
  unfold chQ chP at hc
  obtain ⟨y, hy, hc⟩ := List.mem_flatMap.1 hc
  obtain ⟨d, hd', hc⟩ := List.mem_flatMap.1 hc
  have := List.mem_range.1 hd'
  exact chC_mem (v := y) (x := y + 1 + d) (by omega) (by omega) h3 c hc
/-- The formula. -/
def chV (xss : List (List Int)) : Cnf := ⟨(xss.flatten.length : Int), seqII 1 (lens xss) ++ chQ (pigs 0 xss) xss.flatten xss.flatten.length xss.flatten.length⟩
theorem seq_clause {n k j : Nat} (h : k + j ≤ n) (h3 : n ≤ 12) (hj : j ≤ 3) : clauseB n (seqI ((k : Int) + 1) j) = true := by
  have key : ∀ n ∈ List.range 13, ∀ k ∈ List.range 13, ∀ j ∈ List.range 4, k + j ≤ n → clauseB n (seqI ((k : Int) + 1) j) = true := by decide +kernel
  exact key n (List.mem_range.2 (by omega)) k (List.mem_range.2 (by omega)) j (List.mem_range.2 (by omega)) h
theorem seqII_mem {n : Nat} (h3 : n ≤ 12) : ∀ (ns : List Nat) (k : Nat), k + sumN ns ≤ n → (∀ x ∈ ns, x ≤ 3) → ∀ c ∈ seqII ((k : Int) + 1) ns, clauseB n c = true
  | [], k, _, _, c, hc => by simp [seqII] at hc
  | m :: r, k, h, hm, c, hc => by
    have h : k + (m + sumN r) ≤ n := h
    rw [seqII] at hc
    rcases List.mem_cons.1 hc with rfl | hc
    · exact seq_clause (by omega) h3 (hm m (by simp))
    · rw [show (k : Int) + 1 + (m : Int) = ((k + m : Nat) : Int) + 1 from by omega] at hc
      exact seqII_mem h3 r (k + m) (by omega) (fun x hx => hm x (by simp [hx])) c hc
theorem lens_mem {xss : List (List Int)} (h : ∀ xs ∈ xss, xs.length ≤ 3) : ∀ x ∈ lens xss, x ≤ 3 := by
  intro x hx
  obtain ⟨xs, hxs, rfl⟩ := List.mem_map.1 hx
  exact h xs hxs
theorem flat3 : ∀ (xss : List (List Int)), (∀ xs ∈ xss, xs.length ≤ 3) → xss.flatten.length ≤ 3 * xss.length
  | [], _ => by simp
  | xs :: r, h => by
    have h1 := h xs (by simp)
    have h2 := flat3 r fun y hy => h y (by simp [hy])
    rw [List.flatten_cons, List.length_append, List.length_cons]
    omega
theorem ch_facts {xss : List (List Int)} (h : choiceB xss = true) : xss.flatten.length ≤ 12 ∧ (∀ z, xss.flatten.count z ≤ 4) ∧ (chV xss).cs.length ≤ 60 ∧ goodB (chV xss) = true := by
  obtain ⟨h1, h2, h3, _⟩ := choice_inv h
  have hf := flat3 xss h3
  have hcnt : ∀ z, xss.flatten.count z ≤ 4 := fun z => by
    have hg : choiceG xss = true := by
      unfold choiceB at h
      rw [Bool.and_eq_true] at h
      exact h.2
    have := flat_count xss z fun xs hxs => by
      have := choiceG_mem xss hg xs hxs
      exact rising_count xs none _ _ this z
    omega
  have hq := chQ_le (P := pigs 0 xss) (H := xss.flatten) rfl hcnt xss.flatten.length (Nat.le_refl _)
  have hlen : (chV xss).cs.length ≤ 60 := by
    show (seqII 1 (lens xss) ++ chQ (pigs 0 xss) xss.flatten xss.flatten.length xss.flatten.length).length ≤ 60
    rw [List.length_append, length_seqII, length_lens]
    omega
  refine ⟨by omega, hcnt, hlen, ?_⟩
  unfold goodB
  rw [Bool.and_eq_true, Bool.and_eq_true, decide_eq_true_eq]
  refine ⟨inB_iff.2 ⟨?_, ?_⟩, hlen, ?_⟩
  · show (0 : Int) ≤ (xss.flatten.length : Int); omega
  · show (xss.flatten.length : Int) ≤ 12; omega
  · rw [goodG_iff]
    intro c hc
    rcases List.mem_append.1 hc with hc | hc
    · have := sum_flat xss
      exact seqII_mem (n := xss.flatten.length) (by omega) (lens xss) 0 (by omega) (lens_mem h3) c (by simpa using hc)
    · exact chQ_mem (by omega) _ c hc
end Go.Proofs.Ytjeeffmpfdhppaa
