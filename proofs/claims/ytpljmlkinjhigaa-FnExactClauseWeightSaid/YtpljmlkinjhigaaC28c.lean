/-
  Chapter 28: critical bits: the left pigeon. Conditions: 1 to 3 holes, bits below 4096.
-/
import Derived.Test.YtpljmlkinjhigaaC28
import Derived.Test.YtpljmlkinjhigaaNum
import Derived.Test.YtpljmlkinjhigaaHo2
namespace Go.Proofs.Ytpljmlkinjhigaa
open Go.RowKit

def cntJ (n b j : Nat) : Nat → Nat
  | 0 => 0
  | k + 1 => cntJ n b j k + bitN b (k * n + j - 1)
def cntI (n b i : Nat) : Nat → Nat
  | 0 => 0
  | k + 1 => cntI n b i k + bitN b ((i - 1) * n + (k + 1) - 1)
theorem cntJ_le (n b j k : Nat) : cntJ n b j k ≤ k := by
  induction k with
  | zero => exact Nat.le_refl _
  | succ k ih => unfold cntJ; have := bitN_lt b (k * n + j - 1); omega
theorem cntI_le (n b i k : Nat) : cntI n b i k ≤ k := by
  induction k with
  | zero => exact Nat.le_refl _
  | succ k ih => unfold cntI; have := bitN_lt b ((i - 1) * n + (k + 1) - 1); omega
def crit2G (n b : Nat) : Nat → Nat → Nat → Nat
  | 0, _, l => l
  | f + 1, i, l => if 1 < cntI n b i n then 0 else crit2G n b f (i + 1) (if cntI n b i n = 0 then i else l)
def critS (n b : Nat) : Nat := if (List.range n).all (fun j => cntJ n b (j + 1) (n + 1) == 1) then crit2G n b (n + 1) 1 0 else 0
def holesL (n b i : Nat) : List Int := (seqI 1 n).filter fun j => !(bitN b (pvar n i j - 1).toNat == 0)
def leftG (n b : Nat) : Nat → Nat → Nat → List Int → Nat
  | 0, _, l, _ => l
  | f + 1, i, l, us => match holesL n b i with
    | [] => if l = 0 then leftG n b f (i + 1) i us else 0
    | [h] => if hasI us h then 0 else leftG n b f (i + 1) l (us ++ [h])
    | _ => 0
def leftI (n b : Nat) : Nat := leftG n b (n + 1) 1 0 []
theorem left1 : ∀ b, b < 4 → leftI 1 b = critS 1 b := by decide +kernel
theorem left2 : ∀ b, b < 64 → leftI 2 b = critS 2 b := by decide +kernel
theorem left3' : ∀ a, a < 64 → ∀ c, c < 64 → leftI 3 (64 * a + c) = critS 3 (64 * a + c) := by decide +kernel
theorem left3 : ∀ b, b < 4096 → leftI 3 b = critS 3 b := fun b hb => by
  have := left3' (b / 64) (by omega) (b % 64) (by omega)
  rwa [show 64 * (b / 64) + b % 64 = b from by omega] at this
theorem left_eq {n b : Nat} (hn : 1 ≤ n ∧ n ≤ 3) (hb : b < 2 ^ (n * (n + 1))) : leftI n b = critS n b := by
  rcases (by omega : n = 1 ∨ n = 2 ∨ n = 3) with rfl | rfl | rfl
  · exact left1 b hb
  · exact left2 b hb
  · exact left3 b hb

theorem pvar_nat (n i j : Nat) (hi : 1 ≤ i) : pvar n i j = (((i - 1) * n + j : Nat) : Int) := by
  unfold pvar
  rw [Int.natCast_add, Int.natCast_mul, Int.natCast_sub hi]; rfl
set_option maxHeartbeats 3200000 in
theorem s_l28Critical (n b : Nat) (w : World) (hn : 1 ≤ n ∧ n ≤ 3) (hb : b < 4096) :
    Calls Try.prog 114 #[.int .i64 n, .int .i64 b] w (Ret w (.int .i64 (critS n b : Nat))) := by
  go_enter Try.func114, Try.ntmps114
  go_wp2
  go_loop [6] (fun j => ∃ k : Nat, k ≤ n ∧ j = .int .i64 ((k : Int) + 1) ∧ Hid (∀ j, j < k → cntJ n b (j + 1) (n + 1) = 1)) (fun j => n + 1 - (intOf j).toNat)
  case atStart => exact ⟨0, by omega, rfl, hd fun j h => absurd h (by omega)⟩
  case round =>
    obtain ⟨k, hk, rfl, HR⟩ := hrel
    by_cases hlt : k < n
    · go_wp2
      go_loop [8, 7] (fun i c => ∃ m : Nat, m ≤ n + 1 ∧ i = .int .i64 ((m : Int) + 1) ∧ c = .int .i64 ((cntJ n b (k + 1) m : Nat) : Int)) (fun i _ => n + 2 - (intOf i).toNat)
      case atStart => exact ⟨0, by omega, rfl, rfl⟩
      case round =>
        obtain ⟨m, hm, rfl, rfl⟩ := hrel
        have hcl := cntJ_le n b (k + 1) m
        by_cases hltm : m < n + 1
        · have hv : pvar n ((m : Int) + 1) ((k : Int) + 1) = ((m * n + (k + 1) : Nat) : Int) := by
            have := pvar_nat n (m + 1) (k + 1) (by omega)
            simpa using this
          have hmn : m * n ≤ 3 * 3 := Nat.mul_le_mul (by omega) hn.2
          obtain ⟨v, hv0⟩ : ∃ v, m * n + (k + 1) = v := ⟨_, rfl⟩
          rw [hv0] at hv
          have hvb : 1 ≤ v ∧ v ≤ 12 := by omega
          have hcs : Hid (cntJ n b (k + 1) (m + 1) = cntJ n b (k + 1) m + bitN b (v - 1)) := hd (by rw [cntJ, hv0])
          have hbl := bitN_lt b (v - 1)
          have hsh := shr_and (b := b) (k := v - 1) (by omega)
          have HV := hd hv
          clear hv hv0 hmn
          generalize bitN b (v - 1) = bt at *
          go_wp2_with (go_at_call 141; refine (s_l17Var _ _ _ _ (by omega) (by omega) (by omega)).mono ?_; rintro e w1 ⟨rfl, rfl⟩; rw [HV.out])
          go_round
          case rel => exact ⟨m + 1, by omega, by go_num, by rw [hcs.out]; go_num⟩
          case measure => simp [intOf]; omega
        · obtain rfl : m = n + 1 := by omega
          by_cases h1 : cntJ n b (k + 1) (n + 1) = 1
          · have hb1 : (((cntJ n b (k + 1) (n + 1) : Nat) : Int) != 1) = false := by rw [h1]; rfl
            have H1 := hd h1
            clear h1
            go_wp2
            go_round
            case rel => exact ⟨k + 1, by omega, by go_num, hd fun j h => by (by_cases e : j = k); (· subst e; exact H1.out); (· exact HR.out j (by omega))⟩
            case measure => simp [intOf]; omega
          · have hb1 : (((cntJ n b (k + 1) (n + 1) : Nat) : Int) != 1) = true := by simpa using fun h => h1 (by omega)
            have HS : Hid (critS n b = 0) := hd (by
              unfold critS
              rw [if_neg]
              intro h
              rw [List.all_eq_true] at h
              have := h k (List.mem_range.2 hlt)
              simp at this
              exact h1 this)
            clear h1
            go_wp2
            go_ret
            exact Ret.mk (by rw [HS.out]; rfl)
    · have HS : Hid (critS n b = crit2G n b (n + 1) 1 0) := hd (by
        unfold critS
        rw [if_pos]
        rw [List.all_eq_true]
        intro j hj
        have := HR.out j (by have := List.mem_range.1 hj; omega)
        simp [this])
      go_wp2
      go_loop [9, 5] (fun i l => ∃ m lf : Nat, m ≤ n + 1 ∧ lf ≤ 4 ∧ i = .int .i64 ((m : Int) + 1) ∧ l = .int .i64 (lf : Int) ∧ Hid (critS n b = crit2G n b (n + 1 - m) (m + 1) lf)) (fun i _ => n + 2 - (intOf i).toNat)
      case atStart => exact ⟨0, 0, by omega, by omega, rfl, rfl, HS⟩
      case round =>
        clear HS HR
        obtain ⟨m, lf, hm, hlf, rfl, rfl, HS⟩ := hrel
        by_cases hltm : m < n + 1
        · have hstep : Hid (crit2G n b (n + 1 - m) (m + 1) lf = if 1 < cntI n b (m + 1) n then 0 else crit2G n b (n + 1 - (m + 1)) (m + 1 + 1) (if cntI n b (m + 1) n = 0 then m + 1 else lf)) := hd (by
            rw [show n + 1 - m = (n + 1 - (m + 1)) + 1 from by omega, crit2G])
          go_wp2
          go_loop [11, 10] (fun j c => ∃ q : Nat, q ≤ n ∧ j = .int .i64 ((q : Int) + 1) ∧ c = .int .i64 ((cntI n b (m + 1) q : Nat) : Int)) (fun j _ => n + 1 - (intOf j).toNat)
          case atStart => exact ⟨0, by omega, rfl, rfl⟩
          case round =>
            obtain ⟨q, hq, rfl, rfl⟩ := hrel
            have hcl := cntI_le n b (m + 1) q
            by_cases hltq : q < n
            · have hv : pvar n ((m : Int) + 1) ((q : Int) + 1) = ((m * n + (q + 1) : Nat) : Int) := by
                have := pvar_nat n (m + 1) (q + 1) (by omega)
                simpa using this
              have hmn : m * n ≤ 3 * 3 := Nat.mul_le_mul (by omega) hn.2
              obtain ⟨v, hv0⟩ : ∃ v, m * n + (q + 1) = v := ⟨_, rfl⟩
              rw [hv0] at hv
              have hvb : 1 ≤ v ∧ v ≤ 12 := by omega
              have hcs : Hid (cntI n b (m + 1) (q + 1) = cntI n b (m + 1) q + bitN b (v - 1)) := hd (by rw [cntI, Nat.add_sub_cancel, hv0])
              have hbl := bitN_lt b (v - 1)
              have hsh := shr_and (b := b) (k := v - 1) (by omega)
              have HV := hd hv
              clear hv hv0 hmn
              generalize bitN b (v - 1) = bt at *
              go_wp2_with (go_at_call 141; refine (s_l17Var _ _ _ _ (by omega) (by omega) (by omega)).mono ?_; rintro e w1 ⟨rfl, rfl⟩; rw [HV.out])
              go_round
              case rel => exact ⟨q + 1, by omega, by go_num, by rw [hcs.out]; go_num⟩
              case measure => simp [intOf]; omega
            · obtain rfl : q = n := by omega
              generalize hcc : cntI q b (m + 1) q = cc at *
              clear hcc
              by_cases h1 : 1 < cc
              · go_wp2
                go_ret
                exact Ret.mk (by rw [HS.out, hstep.out, if_pos h1]; rfl)
              · by_cases h0 : cc = 0
                · subst h0
                  go_wp2
                  go_round
                  case rel => exact ⟨m + 1, m + 1, by omega, by omega, by go_num, by go_num, hd (by rw [HS.out, hstep.out, if_neg (by omega), if_pos rfl])⟩
                  case measure => simp [intOf]; omega
                · have hb0 : (((cc : Nat) : Int) == 0) = false := by simpa using h0
                  have H0 := hd h0
                  clear h0
                  go_wp2
                  go_round
                  case rel => exact ⟨m + 1, lf, by omega, by omega, by go_num, rfl, hd (by rw [HS.out, hstep.out, if_neg (by omega), if_neg H0.out])⟩
                  case measure => simp [intOf]; omega
        · obtain rfl : m = n + 1 := by omega
          go_wp2
          go_ret
          exact Ret.mk (by rw [HS.out, Nat.sub_self, crit2G]; rfl)
end Go.Proofs.Ytpljmlkinjhigaa
