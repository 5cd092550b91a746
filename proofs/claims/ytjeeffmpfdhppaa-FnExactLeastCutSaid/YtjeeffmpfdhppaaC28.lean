/-
  Chapters 17 and 28: pigeons. Conditions: list lengths up to 2^30.
-/
import Derived.Test.YtjeeffmpfdhppaaHo
namespace Go.Proofs.Ytjeeffmpfdhppaa
open Go.RowKit

def holesB (n : Int) : Bool := inB n 1 3
theorem holesB_cases {n : Int} (h : holesB n = true) : n = 1 ∨ n = 2 ∨ n = 3 := by
  unfold holesB at h; rw [inB_iff] at h; omega
/-- The pigeon variable of pigeon i and hole j. -/
def pvar (n i j : Int) : Int := (i - 1) * n + j
/-- Lists of holes that make a choice. -/
def choiceG : List (List Int) → Bool
  | [] => true
  | xs :: r => if risingB 1 3 xs then choiceG r else false
def choiceB (xss : List (List Int)) : Bool := inB xss.length 1 4 && choiceG xss
theorem rising_len (lo hi : Int) (xs : List Int) : ∀ p : Int, risingG lo hi (some p) xs = true → lo - 1 ≤ p → (xs.length : Int) ≤ hi - p ∨ xs = [] := by
  induction xs with
  | nil => intro p _ _; exact .inr rfl
  | cons x r ih =>
    intro p h hp
    unfold risingG at h
    split at h
    · rename_i hb
      rw [inB_iff] at hb
      split at h
      · rename_i hpx
        rcases ih x h (by omega) with h2 | rfl
        · simp; omega
        · simp; omega
      · cases h
    · cases h
theorem rising13_len {xs : List Int} (h : risingB 1 3 xs = true) : xs.length ≤ 3 := by
  cases xs with
  | nil => simp
  | cons x r =>
    unfold risingB risingG at h
    split at h
    · rename_i hb
      rw [inB_iff] at hb
      rcases rising_len 1 3 r x h (by omega) with h2 | rfl
      · simp; omega
      · simp
    · cases h
set_option maxHeartbeats 800000 in
theorem s_l28Choice (xss : List (List Int)) (v : Value) (w : World) (h : RdSS w v xss) (hl : xss.length ≤ 1073741824) (hle : Hid (∀ xs ∈ xss, xs.length ≤ 1073741824)) :
    Calls Try.prog 93 #[v] w (RetQ w (.bool (choiceB xss))) := by
  obtain ⟨A, c, rfl, h1, h2, ha⟩ := h.form
  clear h
  obtain ⟨b, hb⟩ : ∃ b, inB (xss.length : Int) 1 4 = b := ⟨_, rfl⟩
  have HB := hd hb
  clear hb
  go_enter Try.func93, Try.ntmps93
  cases b
  · go_wp2_with (go_at_call 98; refine (rt (s_l1In _ _ _ _) HB).mono ?_; rintro e w1 ⟨rfl, rfl⟩)
    go_ret
    exact RetQ.mk (by unfold choiceB; rw [HB.out]; rfl)
  · go_wp2_with (go_at_call 98; refine (rt (s_l1In _ _ _ _) HB).mono ?_; rintro e w1 ⟨rfl, rfl⟩)
    go_loopw [3] (fun i wr => ∃ k n : Nat, k ≤ xss.length ∧ i = .int .i64 k ∧ Hid (choiceB xss = choiceG (xss.drop k)) ∧ wr = w.drewN n) (fun i _ => xss.length - (intOf i).toNat)
    case atStart => exact ⟨0, 0, by omega, rfl, hd (by unfold choiceB; rw [HB.out]; rfl), rfl⟩
    case round =>
      obtain ⟨k, n, hk, rfl, HR, rfl⟩ := hrel
      by_cases hlt : k < xss.length
      · obtain ⟨a, u, rfl, hc, hu⟩ := RdSS.at_ ha hlt
        rw [drop_cons hlt] at HR
        have hxl := hd (hle.out _ (List.getElem_mem hlt))
        generalize xss[k] = xs at *
        obtain ⟨A', c', rfl, h1', h2', hu'⟩ := hu.form
        clear hu
        obtain ⟨q, hq⟩ : ∃ q, risingB 1 3 xs = q := ⟨_, rfl⟩
        have HQ := hd hq
        by_cases h3 : 3 < xs.length
        · cases q
          · clear hq
            go_wp2_with fail
            go_ret
            rw [HR.out]
            exact RetQ.mkN (by unfold choiceG; rw [HQ.out]; rfl)
          · exact absurd (rising13_len hq) (by omega)
        · clear hq
          cases q
          all_goals go_wp2_with (go_at_call 138; refine (rtq (s_l1Rising _ _ _ _ _ (by first | exact hu'.out) hxl.out) HQ).mono ?_; rintro e w1 ⟨rfl, m, rfl⟩)
          · go_ret
            exact RetQ.mkN (by rw [HR.out, choiceG, HQ.out]; rfl)
          · go_roundw
            case rel => exact ⟨k + 1, _, by omega, by go_num, hd (by rw [HR.out, choiceG, HQ.out]; rfl), rfl⟩
            case measure => simp [intOf]; omega
      · go_wp2
        go_ret
        exact RetQ.mkN (by rw [HR.out, List.drop_eq_nil_of_le (by omega)]; rfl)
theorem choiceB_no {xss : List (List Int)} (h : choiceG xss = false) : choiceB xss = false := by unfold choiceB; rw [h, Bool.and_false]
set_option maxHeartbeats 800000 in
theorem i_IsChoice (xss : List (List Int)) (v : Value) (w : World) (h : RdSS w v xss) (hl : xss.length ≤ 1073741824) (hle : Hid (∀ xs ∈ xss, xs.length ≤ 1073741824)) :
    Calls Try.prog 95 #[v] w (Ret w (.bool (choiceB xss))) := by
  obtain ⟨A, c, rfl, h1, h2, ha⟩ := h.form
  clear h
  go_enter Try.func95, Try.ntmps95
  go_wp2
  go_loop [9] (fun i => ∃ k : Nat, k ≤ xss.length ∧ i = .int .i64 k ∧ Hid (choiceG xss = choiceG (xss.drop k))) (fun i => xss.length - (intOf i).toNat)
  case atStart => exact ⟨0, by omega, rfl, rfl⟩
  case round =>
    obtain ⟨k, hk, rfl, HR⟩ := hrel
    by_cases hlt : k < xss.length
    · obtain ⟨a, u, rfl, hc, hu⟩ := RdSS.at_ ha hlt
      rw [drop_cons hlt] at HR
      have hxl := hd (hle.out _ (List.getElem_mem hlt))
      generalize xss[k] = xs at *
      obtain ⟨A', c', rfl, h1', h2', hu'⟩ := hu.form
      clear hu ha
      have hxl2 := hxl.out
      go_wp2
      go_loop [15] (fun i => ∃ m : Nat, m ≤ xs.length ∧ i = .int .i64 m ∧ Hid (risingB 1 3 xs = risingG 1 3 (if m = 0 then none else xs[m - 1]?) (xs.drop m))) (fun i => xs.length - (intOf i).toNat)
      case atStart => exact ⟨0, by omega, rfl, rfl⟩
      case round =>
        obtain ⟨m, hm, rfl, HS⟩ := hrel
        by_cases hltm : m < xs.length
        · obtain ⟨a', rfl, hcm⟩ := RdI.at_ hu' hltm
          rw [drop_cons hltm] at HS
          have HX : Hid (xs[m]? = some xs[m]) := hd (List.getElem?_eq_getElem hltm)
          generalize xs[m] = y at *
          obtain ⟨b, hb⟩ : ∃ b, inB y 1 3 = b := ⟨_, rfl⟩
          have HB := hd hb
          clear hb
          rcases Nat.eq_zero_or_pos m with rfl | hpos
          · rw [Addr.add_zero'] at hcm
            cases b
            all_goals go_wp2_with (go_at_call 99; refine (rt (i_within _ _ _ _) HB).mono ?_; rintro e w1 ⟨rfl, rfl⟩)
            · go_ret
              exact Ret.mk (by rw [choiceB_no (by rw [HR.out, choiceG, HS.out]; simp [risingG, HB.out])]; rfl)
            · go_round
              case rel => exact ⟨1, by omega, by go_num, hd (by rw [HS.out]; simp [risingG, HB.out]; rw [HX.out])⟩
              case measure => simp [intOf]; omega
          · obtain ⟨a2, ha2, hcp⟩ := RdI.at_ hu' (k := m - 1) (by omega)
            cases ha2
            have HP : Hid (xs[m - 1]? = some (xs[m - 1]'(by omega))) := hd (List.getElem?_eq_getElem (by omega))
            generalize xs[m - 1]'(by omega) = p at *
            have e4 : (0 : Int) ≤ (m : Int) - 1 := by omega
            have e5 : (m : Int) - 1 < (xs.length : Int) := by omega
            have hc2 : w.cell? (a'.add ((m : Int) - 1).toNat) = some (.int .i64 p) := by rw [show ((m : Int) - 1).toNat = m - 1 from by omega]; exact hcp
            have HK : Hid (m ≠ 0) := hd (by omega)
            by_cases hp : p < y <;> cases b
            all_goals go_wp2_with (go_at_call 99; refine (rt (i_within _ _ _ _) HB).mono ?_; rintro e w1 ⟨rfl, rfl⟩)
            all_goals first
              | (go_ret
                 exact Ret.mk (by rw [choiceB_no (by rw [HR.out, choiceG, HS.out, if_neg HK.out, HP.out]; simp [risingG, HB.out]; try (intro h; omega))]; rfl))
              | (go_round
                 case rel => exact ⟨m + 1, by omega, by go_num, hd (by rw [HS.out, if_neg HK.out, HP.out, if_neg (by omega), Nat.add_sub_cancel, HX.out]; simp [risingG, HB.out, hp])⟩
                 case measure => simp [intOf]; omega)
        · go_wp2
          go_round
          case rel => exact ⟨k + 1, by omega, by go_num, hd (by rw [HR.out, choiceG, HS.out, List.drop_eq_nil_of_le (by omega), risingG]; rfl)⟩
          case measure => simp [intOf]; omega
    · go_wp2_with (go_at_call 99; refine (i_within _ _ _ _).mono ?_; rintro e w1 ⟨rfl, rfl⟩)
      go_ret
      exact Ret.mk (by unfold choiceB; rw [HR.out, List.drop_eq_nil_of_le (by omega), choiceG, Bool.and_true]; rfl)