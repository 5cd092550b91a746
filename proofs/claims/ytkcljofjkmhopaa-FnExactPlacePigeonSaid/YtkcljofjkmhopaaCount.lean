/-
  CountCritical of both sides. Condition: sizes up to 2^20.
-/
import Derived.Test.YtkcljofjkmhopaaC2
import Derived.Test.YtkcljofjkmhopaaC28e
import Derived.Test.YtkcljofjkmhopaaHoX
import Derived.Test.YtkcljofjkmhopaaLaw
namespace Go.Proofs.Ytkcljofjkmhopaa
open Go.RowKit
def takesB (n : Int) (c : List Int) : Bool := holesB n && clauseB (n * (n + 1)) c
set_option maxHeartbeats 800000 in
theorem s_l28Takes (n : Int) (xs : List Int) (v : Value) (w : World) (h : RdI w v xs) (hl : xs.length ≤ 1048576) :
    Calls Try.prog 81 #[.int .i64 n, v] w (RetQ w (.bool (takesB n xs))) := by
  have HV := hd h
  clear h
  obtain ⟨b, hb⟩ : ∃ b, holesB n = b := ⟨_, rfl⟩
  have HB := hd hb
  cases b
  · clear hb
    go_enter Try.func81, Try.ntmps81
    go_wp2_with fail
    refine (rt (s_l17Holes _ _) HB).mono ?_
    rintro e w1 ⟨rfl, rfl⟩
    go_wp2
    go_ret
    exact RetQ.mk (by unfold takesB; rw [HB.out]; rfl)
  · have hn := holesB_cases hb
    obtain ⟨m, rfl⟩ := Int.eq_ofNat_of_zero_le (show 0 ≤ n by omega)
    obtain ⟨mm, P, hm, hP, hnn, hm1, hm2, hw, hP1, hP2⟩ := nn_facts (n := m) (by omega)
    have HMM : Hid ((m : Int) * ((m : Int) + 1) = (mm : Int)) := hd hnn
    clear hb hm hP hw
    go_enter Try.func81, Try.ntmps81
    go_wp2_with fail
    refine (rt (s_l17Holes _ _) HB).mono ?_
    rintro e w1 ⟨rfl, rfl⟩
    go_wp2_with fail
    refine (s_l2Clause _ xs v _ HV.out (by omega)).mono ?_
    rintro e w1 ⟨rfl, k, rfl⟩
    go_wp2
    go_ret
    exact RetQ.mkN (by unfold takesB; rw [HB.out, HMM.out]; rfl)
set_option maxHeartbeats 800000 in
theorem i_pigeonClause (n : Int) (xs : List Int) (v : Value) (w : World) (h : RdI w v xs) (hl : xs.length ≤ 1048576) :
    Calls Try.prog 83 #[.int .i64 n, v] w (RetQ w (.bool (takesB n xs))) := by
  have HV := hd h
  clear h
  obtain ⟨b, hb⟩ : ∃ b, holesB n = b := ⟨_, rfl⟩
  have HB := hd hb
  cases b
  · clear hb
    go_enter Try.func83, Try.ntmps83
    go_wp2_with fail
    refine (rt (i_holesOk _ _) HB).mono ?_
    rintro e w1 ⟨rfl, rfl⟩
    go_wp2
    go_ret
    exact RetQ.mk (by unfold takesB; rw [HB.out]; rfl)
  · have hn := holesB_cases hb
    obtain ⟨m, rfl⟩ := Int.eq_ofNat_of_zero_le (show 0 ≤ n by omega)
    obtain ⟨mm, P, hm, hP, hnn, hm1, hm2, hw, hP1, hP2⟩ := nn_facts (n := m) (by omega)
    have HMM : Hid ((m : Int) * ((m : Int) + 1) = (mm : Int)) := hd hnn
    clear hb hm hP hw
    go_enter Try.func83, Try.ntmps83
    go_wp2_with fail
    refine (rt (i_holesOk _ _) HB).mono ?_
    rintro e w1 ⟨rfl, rfl⟩
    go_wp2_with fail
    refine (i_IsClause _ xs v _ HV.out (by omega)).mono ?_
    rintro e w1 ⟨rfl, k, rfl⟩
    go_wp2
    go_ret
    exact RetQ.mkN (by unfold takesB; rw [HB.out, HMM.out]; rfl)
/-- Which of the numbers make the clause false, how many. -/
def falseL (c : List Int) (L : List Int) : List Int := L.filter fun b => !trueB b.toNat c
def cntG (c : List Int) : List Int → Nat → Nat
  | [], s => s
  | b :: r, s => cntG c r (if trueB b.toNat c then s else s + 1)
theorem cntG_eq (c : List Int) : ∀ (L : List Int) (s : Nat), cntG c L s = s + (falseL c L).length
  | [], s => rfl
  | b :: r, s => by
    unfold cntG falseL
    rw [cntG_eq c r]
    cases h : trueB b.toNat c <;> simp [falseL, h] <;> omega
theorem falseL_len (c L : List Int) : (falseL c L).length ≤ L.length := List.length_filter_le _ _
def critNN (n : Int) : List Int := allL n.toNat (2 ^ (n.toNat * (n.toNat + 1)))
def countN (n : Int) (c : List Int) : Int := if takesB n c then ((falseL c (critNN n)).length : Int) else 0
/-- What a good pair of number and clause comes to. -/
theorem takes_inv {n : Int} {c : List Int} (h : takesB n c = true) : (∃ m : Nat, n = m ∧ 1 ≤ m ∧ m ≤ 3) ∧ (∀ x ∈ c, -12 ≤ x ∧ x ≤ 12 ∧ x ≠ 0) := by
  unfold takesB at h
  rw [Bool.and_eq_true] at h
  have hn := holesB_cases h.1
  obtain ⟨a, b, d, _⟩ := clause_inv h.2
  refine ⟨⟨n.toNat, by omega, by omega, by omega⟩, fun x hx => ?_⟩
  have := d x hx
  omega
theorem allL_mem {n k : Nat} {x : Int} (h : x ∈ allL n k) : ∃ b : Nat, x = b ∧ b < k ∧ 0 < critS n b := by
  unfold allL at h
  obtain ⟨b, hb, rfl⟩ := List.mem_map.1 h
  have := List.mem_filter.1 hb
  exact ⟨b, rfl, List.mem_range.1 this.1, by simpa using this.2⟩
theorem critNN_mem {m : Nat} (hm : 1 ≤ m ∧ m ≤ 3) {x : Int} (h : x ∈ critNN (m : Int)) : ∃ b : Nat, x = b ∧ b < 4096 ∧ 0 < critS m b := by
  unfold critNN at h
  rw [Int.toNat_natCast] at h
  obtain ⟨b, h1, h2, h3⟩ := allL_mem h
  obtain ⟨mm, P, e1, e2, _, _, _, _, _, hP2⟩ := nn_facts hm
  rw [← e1, ← e2] at h2
  exact ⟨b, h1, by omega, h3⟩
theorem critNN_len {m : Nat} (hm : 1 ≤ m ∧ m ≤ 3) : (critNN (m : Int)).length ≤ 4096 := by
  unfold critNN
  rw [Int.toNat_natCast]
  have h := allL_len m (2 ^ (m * (m + 1)))
  obtain ⟨mm, P, e1, e2, _, _, _, _, _, hP2⟩ := nn_facts hm
  rw [← e1, ← e2] at h ⊢
  omega
end Go.Proofs.Ytkcljofjkmhopaa
