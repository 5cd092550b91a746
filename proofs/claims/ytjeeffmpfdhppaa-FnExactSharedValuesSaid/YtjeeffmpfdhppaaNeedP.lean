/-
  Needed gates and their variables, in the order in which the program finds them; the values of a circuit on shared variables: plain words. No condition.
-/
import Derived.Test.YtjeeffmpfdhppaaCircP
import Derived.Test.YtjeeffmpfdhppaaSortM
import Derived.Test.YtjeeffmpfdhppaaFreeP
namespace Go.Proofs.Ytjeeffmpfdhppaa
open Go.RowKit
/-- The needed gates among the last m, the last first. -/
def outN (gs : List Gat) : Nat → List Int
  | 0 => []
  | m + 1 => if (needU gs m).getD (gs.length - (m + 1)) false then outN gs m ++ [((gs.length - (m + 1) : Nat) : Int)] else outN gs m
theorem outN_len (gs : List Gat) : ∀ m, (outN gs m).length ≤ m
  | 0 => by simp [outN]
  | m + 1 => by
    have := outN_len gs m
    unfold outN
    split
    · simp; omega
    · omega
theorem need_at {n : Int} {gs : List Gat} (hg : circB n gs = true) {m : Nat} (hm : m < gs.length) : (needU gs m).getD (gs.length - (m + 1)) false = (need gs).getD (gs.length - (m + 1)) false := by
  have := needU_above hg (m := m) (j := gs.length - (m + 1)) (gs.length - m) (by omega) (Nat.le_refl _)
  unfold need
  rw [← this]
  congr 2; omega
theorem outN_mem {n : Int} {gs : List Gat} (hg : circB n gs = true) : ∀ m, m ≤ gs.length → ∀ z, z ∈ outN gs m ↔ ∃ j : Nat, z = j ∧ j < gs.length ∧ gs.length ≤ j + m ∧ (need gs).getD j false = true
  | 0, _, z => by
    constructor
    · intro h; cases h
    · rintro ⟨j, _, h1, h2, _⟩; omega
  | m + 1, hm, z => by
    have ih := outN_mem hg m (by omega) z
    have hq := need_at hg (m := m) (by omega)
    unfold outN
    by_cases h : (needU gs m).getD (gs.length - (m + 1)) false = true
    · rw [if_pos h, List.mem_append, ih, List.mem_singleton]
      constructor
      · rintro (⟨j, h1, h2, h3, h4⟩ | rfl)
        · exact ⟨j, h1, h2, by omega, h4⟩
        · exact ⟨gs.length - (m + 1), rfl, by omega, by omega, by rw [← hq]; exact h⟩
      · rintro ⟨j, h1, h2, h3, h4⟩
        by_cases e : j = gs.length - (m + 1)
        · exact .inr (by rw [h1, e])
        · exact .inl ⟨j, h1, h2, by omega, h4⟩
    · rw [if_neg h, ih]
      constructor
      · rintro ⟨j, h1, h2, h3, h4⟩; exact ⟨j, h1, h2, by omega, h4⟩
      · rintro ⟨j, h1, h2, h3, h4⟩
        refine ⟨j, h1, h2, ?_, h4⟩
        by_cases e : j = gs.length - (m + 1)
        · subst e; rw [← hq] at h4; exact absurd h4 h
        · omega
/-- The needed gates, ascending. -/
def needL (gs : List Gat) : List Int := (outN gs gs.length).reverse
theorem needL_len (gs : List Gat) : (needL gs).length ≤ gs.length := by unfold needL; rw [List.length_reverse]; exact outN_len _ _
theorem needL_mem {n : Int} {gs : List Gat} (hg : circB n gs = true) (z : Int) : z ∈ needL gs ↔ ∃ j : Nat, z = j ∧ j < gs.length ∧ (need gs).getD j false = true := by
  unfold needL
  rw [List.mem_reverse, outN_mem hg _ (Nat.le_refl _)]
  constructor
  · rintro ⟨j, h1, h2, _, h4⟩; exact ⟨j, h1, h2, h4⟩
  · rintro ⟨j, h1, h2, h4⟩; exact ⟨j, h1, h2, by omega, h4⟩
/-- The variables of the gates with some numbers. -/
def avs (gs : List Gat) : List Int → List Int
  | [] => []
  | i :: r => if (gs.getD i.toNat ⟨0, 0, 0⟩).k = 1 then (gs.getD i.toNat ⟨0, 0, 0⟩).a :: avs gs r else avs gs r
theorem avs_cons (gs : List Gat) (i : Int) (r : List Int) : avs gs (i :: r) = if (gs.getD i.toNat ⟨0, 0, 0⟩).k = 1 then (gs.getD i.toNat ⟨0, 0, 0⟩).a :: avs gs r else avs gs r := rfl
theorem avs_append (gs : List Gat) : ∀ (x y : List Int), avs gs (x ++ y) = avs gs x ++ avs gs y
  | [], _ => rfl
  | i :: r, y => by
    rw [List.cons_append, avs_cons, avs_cons, avs_append gs r y]
    split <;> rfl
theorem avs_len (gs : List Gat) : ∀ (x : List Int), (avs gs x).length ≤ x.length
  | [] => by simp [avs]
  | i :: r => by
    have := avs_len gs r
    unfold avs
    split
    · simp; omega
    · simp; omega
theorem avs_mem (gs : List Gat) : ∀ (x : List Int) (z : Int), z ∈ avs gs x ↔ ∃ i ∈ x, (gs.getD i.toNat ⟨0, 0, 0⟩).k = 1 ∧ (gs.getD i.toNat ⟨0, 0, 0⟩).a = z
  | [], z => by simp [avs]
  | i :: r, z => by
    have ih := avs_mem gs r z
    unfold avs
    split
    · rename_i h
      rw [List.mem_cons, ih]
      constructor
      · rintro (rfl | ⟨j, h1, h2⟩)
        · exact ⟨i, List.mem_cons_self, h, rfl⟩
        · exact ⟨j, List.mem_cons_of_mem _ h1, h2⟩
      · rintro ⟨j, h1, h2, h3⟩
        rcases List.mem_cons.1 h1 with rfl | h1
        · exact .inl h3.symm
        · exact .inr ⟨j, h1, h2, h3⟩
    · rename_i h
      rw [ih]
      constructor
      · rintro ⟨j, h1, h2⟩; exact ⟨j, List.mem_cons_of_mem _ h1, h2⟩
      · rintro ⟨j, h1, h2, h3⟩
        rcases List.mem_cons.1 h1 with rfl | h1
        · exact absurd h2 h
        · exact ⟨j, h1, h2, h3⟩
/-- The variables of the needed gates, ascending. -/
def varsN (gs : List Gat) : List Int := sortU (avs gs (needL gs))
theorem varsN_len (gs : List Gat) : (varsN gs).length ≤ gs.length := Nat.le_trans (sortU_len _) (Nat.le_trans (avs_len _ _) (needL_len _))
theorem plain_eq {n : Int} {gs : List Gat} (hg : circB n gs = true) (vs : List Int) : (!anyI (fun v => !hasI vs v) (varsN gs)) = plainB vs gs := by
  rw [Bool.eq_iff_iff, Bool.not_eq_true', Bool.eq_false_iff, Ne, anyI_eq, List.any_eq_true]
  unfold plainB
  rw [List.all_eq_true]
  constructor
  · intro h i hi
    have hlt := List.mem_range.1 hi
    by_cases h1 : (need gs).getD i false = true
    · by_cases h2 : (gs.getD i ⟨0, 0, 0⟩).k = 1
      · rw [h1, decide_eq_true h2]
        by_cases h3 : hasI vs (gs.getD i ⟨0, 0, 0⟩).a = true
        · rw [h3]; rfl
        · refine absurd ⟨(gs.getD i ⟨0, 0, 0⟩).a, ?_, by simpa using h3⟩ h
          refine ((sortU_spec _).2 _).2 ((avs_mem _ _ _).2 ⟨(i : Int), (needL_mem hg _).2 ⟨i, rfl, hlt, h1⟩, ?_⟩)
          rw [Int.toNat_natCast]; exact ⟨h2, rfl⟩
      · rw [decide_eq_false h2]; simp
    · rw [Bool.not_eq_true] at h1
      rw [h1]; rfl
  · rintro h ⟨v, hv, hn⟩
    obtain ⟨z, hz, h2, h3⟩ := (avs_mem _ _ _).1 (((sortU_spec _).2 _).1 hv)
    obtain ⟨j, rfl, hlt, h1⟩ := (needL_mem hg _).1 hz
    rw [Int.toNat_natCast] at h2 h3
    have := h j (List.mem_range.2 hlt)
    rw [h1, decide_eq_true h2, h3] at this
    rw [Bool.not_eq_true'] at hn
    rw [hn] at this
    cases this
theorem sor_lt : ∀ {l : List Int}, Sor l → ∀ {i j : Nat}, i < j → ∀ (h0 : i < l.length) (h : j < l.length), l[i] < l[j]
  | [], _, _, _, _, h, _ => by simp at h
  | _ :: _, hs, 0, _ + 1, _, _, h => hs.1 _ (List.getElem_mem (by simpa using h))
  | _ :: _, hs, _ + 1, _ + 1, hij, h0, h => sor_lt hs.2 (by omega) (by simpa using h0) (by simpa using h)
/-! ### bits of shared values -/
theorem bitN_tb (b k : Nat) : bitN b k = (b.testBit k).toNat := by
  unfold bitN
  rw [Nat.testBit_eq_decide_div_mod_eq]
  have := Nat.mod_lt (b / 2 ^ k) (show 0 < 2 by decide)
  by_cases h : b / 2 ^ k % 2 = 1
  · rw [decide_eq_true h]; exact h
  · rw [decide_eq_false h]; show _ = 0; omega
theorem bitN_or (a p q : Nat) : bitN (a ||| 2 ^ p) q = if p = q then 1 else bitN a q := by
  rw [bitN_tb, bitN_tb, Nat.testBit_or, Nat.testBit_two_pow]
  by_cases h : p = q
  · rw [if_pos h, decide_eq_true h, Bool.or_true]; rfl
  · rw [if_neg h, decide_eq_false h, Bool.or_false]
/-- The bits that a number of shared values stands for. -/
def dep (vs : List Int) (n : Nat) : Nat → Nat
  | 0 => 0
  | k + 1 => if bitN n k = 1 then dep vs n k ||| 2 ^ (vs.getD k 1 - 1).toNat else dep vs n k
theorem dep_lt {vs : List Int} {n N : Nat} (hv : ∀ v ∈ vs, 1 ≤ v ∧ v ≤ N) : ∀ k, k ≤ vs.length → dep vs n k < 2 ^ N
  | 0, _ => Nat.two_pow_pos _
  | k + 1, hk => by
    have ih := dep_lt (n := n) hv k (by omega)
    have hg : vs.getD k 1 = vs[k] := by simp [List.getD, (by omega : k < vs.length)]
    have hb := hv _ (List.getElem_mem (show k < vs.length by omega))
    unfold dep
    split
    · rw [hg]
      exact Nat.or_lt_two_pow ih (Nat.pow_lt_pow_right (by decide) (by omega))
    · exact ih
theorem dep_bit {vs : List Int} {n : Nat} (hs : Sor vs) (hv : ∀ v ∈ vs, 1 ≤ v) : ∀ k, k ≤ vs.length → ∀ i, i < vs.length → bitN (dep vs n k) (vs.getD i 1 - 1).toNat = if i < k then bitN n i else 0
  | 0, _, _, _ => by
    rw [if_neg (by omega)]
    show bitN 0 _ = 0
    simp [bitN]
  | k + 1, hk, i, hi => by
    have ih := dep_bit (n := n) hs hv k (by omega) i hi
    have hgk : vs.getD k 1 = vs[k] := by simp [List.getD, (by omega : k < vs.length)]
    have hgi : vs.getD i 1 = vs[i] := by simp [List.getD, hi]
    have hbk := hv _ (List.getElem_mem (show k < vs.length by omega))
    have hbi := hv _ (List.getElem_mem hi)
    have hne : i ≠ k → vs[i] ≠ vs[k] := fun h he => by
      rcases Nat.lt_or_gt_of_ne h with h | h
      · have := sor_lt hs h (by omega) (by omega); omega
      · have := sor_lt hs h (by omega) (by omega); omega
    have hl := bitN_lt n k
    unfold dep
    by_cases h1 : bitN n k = 1
    · rw [if_pos h1, bitN_or]
      by_cases e : i = k
      · subst e
        rw [if_pos rfl, if_pos (by omega), h1]
      · rw [if_neg (by rw [hgk, hgi]; have := hne e; omega), ih]
        by_cases hik : i < k
        · rw [if_pos hik, if_pos (by omega)]
        · rw [if_neg hik, if_neg (by omega)]
    · rw [if_neg h1, ih]
      by_cases hik : i < k
      · rw [if_pos hik, if_pos (by omega)]
      · by_cases e : i = k
        · subst e
          rw [if_neg (by omega), if_pos (by omega)]; omega
        · rw [if_neg hik, if_neg (by omega)]
theorem numU_mod {vs : List Int} {b n : Nat} : ∀ k, (∀ i, i < k → bitN b (vs.getD i 1 - 1).toNat = bitN n i) → numU vs b k = n % 2 ^ k
  | 0, _ => by rw [Nat.pow_zero, Nat.mod_one]; rfl
  | k + 1, h => by
    unfold numU
    rw [numU_mod k fun _ hi => h _ (by omega), h k (by omega)]
    unfold bitN
    rw [Nat.pow_succ, Nat.mod_mul, Nat.mul_comm]
/-- The bits of a number have that number. -/
theorem numOf_dep {vs : List Int} {n : Nat} (hs : Sor vs) (hv : ∀ v ∈ vs, 1 ≤ v) (hn : n < 2 ^ vs.length) : numOf vs (dep vs n vs.length) = n := by
  unfold numOf
  rw [numU_mod vs.length fun i hi => by rw [dep_bit hs hv _ (Nat.le_refl _) i hi, if_pos hi], Nat.mod_eq_of_lt hn]
/-- The values of a circuit for the shared values. -/
def sharedV (vs : List Int) (gs : List Gat) : List Bool := (List.range (2 ^ vs.length)).map fun m => circV (dep vs m vs.length) gs
@[simp] theorem sharedV_len (vs : List Int) (gs : List Gat) : (sharedV vs gs).length = 2 ^ vs.length := by simp [sharedV]
/-- What the program has when K rounds are over. -/
def shU (vs : List Int) (gs : List Gat) : Nat → List Bool
  | 0 => List.replicate (2 ^ vs.length) false
  | K + 1 => (shU vs gs K).set (numOf vs K) (circV K gs)
@[simp] theorem shU_len (vs : List Int) (gs : List Gat) : ∀ K, (shU vs gs K).length = 2 ^ vs.length
  | 0 => by simp [shU]
  | K + 1 => by rw [shU, List.length_set, shU_len vs gs K]
theorem circ_plain {n : Int} {gs : List Gat} {vs : List Int} (hg : circB n gs = true) (hp : plainB vs gs = true) {b b' : Nat} (h : numOf vs b = numOf vs b') : circV b gs = circV b' gs :=
  circV_congr hg fun i hi h1 h2 => numOf_mem h (plain_inv hp hi h1 h2)
theorem shU_at {n : Int} {gs : List Gat} {vs : List Int} (hg : circB n gs = true) (hp : plainB vs gs = true) (m : Nat) (hm : m < 2 ^ vs.length) : ∀ K, (∃ b, b < K ∧ numOf vs b = m) → ∀ c, numOf vs c = m → (shU vs gs K)[m]? = some (circV c gs)
  | 0, ⟨b, hb, _⟩, _, _ => by omega
  | K + 1, ⟨b, hb, hbm⟩, c, hc => by
    unfold shU
    by_cases e : numOf vs K = m
    · rw [e, List.getElem?_set_self (by rw [shU_len]; exact hm)]
      rw [circ_plain hg hp (e.trans hc.symm)]
    · rw [List.getElem?_set_ne e]
      refine shU_at hg hp m hm K ⟨b, ?_, hbm⟩ c hc
      rcases Nat.lt_or_ge b K with h | h
      · exact h
      · obtain rfl : b = K := by omega
        exact absurd hbm e
theorem shU_all {n : Int} {gs : List Gat} {vs : List Int} (hg : circB n gs = true) (hp : plainB vs gs = true) (hs : Sor vs) {N : Nat} (hv : ∀ v ∈ vs, 1 ≤ v ∧ v ≤ N) : shU vs gs (2 ^ N) = sharedV vs gs := by
  apply List.ext_getElem?
  intro m
  by_cases hm : m < 2 ^ vs.length
  · have hd := numOf_dep (n := m) hs (fun v h => (hv v h).1) hm
    rw [shU_at hg hp m hm (2 ^ N) ⟨_, dep_lt hv _ (Nat.le_refl _), hd⟩ _ hd]
    simp [sharedV, hm]
  · rw [List.getElem?_eq_none (by rw [shU_len]; omega), List.getElem?_eq_none (by rw [sharedV_len]; omega)]
end Go.Proofs.Ytjeeffmpfdhppaa
