/-
  Chapter 28: bits of a map of pigeons to holes. Conditions: list lengths up to 2^30.
-/
import Derived.Test.YtegaablidoibdaaC28
import Derived.Test.YtegaablidoibdaaNum
namespace Go.Proofs.Ytegaablidoibdaa
open Go.RowKit

def mbG (n : Int) : Nat → Nat → List Int → Option Nat
  | _, b, [] => some b
  | i, b, j :: r => if inB j 0 n then mbG n (i + 1) (if 0 < j then b ||| 2 ^ (pvar n i j - 1).toNat else b) r else none
def mapBits (n : Int) (xs : List Int) : Option Nat := if holesB n then (if (xs.length : Int) = n + 1 then mbG n 1 0 xs else none) else none
def optN (o : Option Nat) : Value := .tuple #[.int .i64 ((o.getD 0 : Nat) : Int), .bool o.isSome]
set_option maxHeartbeats 800000 in
theorem s_BitsOfMap (n : Int) (xs : List Int) (v : Value) (w : World) (h : RdI w v xs) (hl : xs.length ≤ 1073741824) (hn : -9223372036854775808 ≤ n ∧ n ≤ 9223372036854775807) :
    Calls Try.prog 19 #[.int .i64 n, v] w (Ret w (optN (mapBits n xs))) := by
  obtain ⟨A, c, rfl, h1, h2, ha⟩ := h.form
  clear h
  obtain ⟨b, hb⟩ : ∃ b, holesB n = b := ⟨_, rfl⟩
  have HB := hd hb
  go_enter Try.func19, Try.ntmps19
  cases b
  · clear hb
    go_wp2_with (go_at_call 69; refine (rt (s_l17Holes _ _) HB).mono ?_; rintro e w1 ⟨rfl, rfl⟩)
    go_ret2
    exact Ret.mk (by unfold mapBits; rw [HB.out]; rfl)
  · have hn1 : 1 ≤ n ∧ n ≤ 3 := by have := holesB_cases hb; omega
    clear hb
    by_cases hlen : (xs.length : Int) = n + 1
    · have hbn : ((xs.length : Int) != n + 1) = false := by simp [hlen]
      have HL := hd hlen
      have hm : Hid (mapBits n xs = mbG n 1 0 xs) := hd (by unfold mapBits; rw [HB.out, if_pos rfl, if_pos hlen])
      clear hlen
      go_wp2_with (go_at_call 69; refine (rt (s_l17Holes _ _) HB).mono ?_; rintro e w1 ⟨rfl, rfl⟩)
      go_loop [7, 6] (fun i s => ∃ (k b : Nat), k ≤ xs.length ∧ b < 4096 ∧ i = .int .i64 ((k : Int) + 1) ∧ s = .int .i64 b ∧ Hid (mapBits n xs = mbG n (k + 1) b (xs.drop k))) (fun i _ => xs.length + 1 - (intOf i).toNat)
      case atStart => exact ⟨0, 0, by omega, by omega, rfl, rfl, hm⟩
      case round =>
        clear hm
        obtain ⟨k, b, hk, hb, rfl, rfl, HR⟩ := hrel
        by_cases hlt : k < xs.length
        · obtain ⟨a, rfl, hc⟩ := RdI.at_ ha hlt
          rw [drop_cons hlt] at HR
          generalize xs[k] = j at *
          have hkn : (k : Int) < n + 1 := by have := HL.out; omega
          by_cases hj : 0 < j ∧ j ≤ n
          · have HJ : Hid (inB j 0 n = true) := hd (inB_iff.2 (by omega))
            have hv : 1 ≤ pvar n ((k : Int) + 1) j ∧ pvar n ((k : Int) + 1) j ≤ 12 := by
              unfold pvar
              have : ((k : Int) + 1 - 1) * n ≤ 3 * 3 := Int.mul_le_mul (by omega) hn1.2 (by omega) (by omega)
              have : 0 ≤ ((k : Int) + 1 - 1) * n := Int.mul_nonneg (by omega) (by omega)
              omega
            obtain ⟨v, hv0⟩ : ∃ v, pvar n ((k : Int) + 1) j = v := ⟨_, rfl⟩
            rw [hv0] at hv
            have HV := hd hv0
            clear hv0
            go_wp2_with (first | (go_at_call 70; refine (rt (s_l1In _ _ _ _) HJ).mono ?_; rintro e w1 ⟨rfl, rfl⟩) | (go_at_call 71; refine (s_l17Var _ _ _ _ (by omega) (by omega) (by omega)).mono ?_; rintro e w1 ⟨rfl, rfl⟩; rw [HV.out]))
            have e1 : pvar n ((k + 1 : Nat) : Int) j = pvar n ((k : Int) + 1) j := by rw [Int.natCast_add]; rfl
            have e2 : (v - 1).toNat = v.toNat - 1 := by omega
            go_round
            case rel => exact ⟨k + 1, b ||| 2 ^ (v.toNat - 1), by omega, or_lt (k := 12) hb (by omega), by go_num, by rw [or_pow (by omega) (by omega)], hd (by rw [HR.out, mbG, HJ.out, if_pos rfl, if_pos hj.1, e1, HV.out, e2])⟩
            case measure => simp [intOf]; omega
          · by_cases hj0 : j = 0
            · subst hj0
              have HJ : Hid (inB 0 0 n = true) := hd (inB_iff.2 (by omega))
              go_wp2_with (first | (go_at_call 70; refine (rt (s_l1In _ _ _ _) HJ).mono ?_; rintro e w1 ⟨rfl, rfl⟩))
              go_round
              case rel => exact ⟨k + 1, b, by omega, hb, by go_num, rfl, hd (by rw [HR.out, mbG, HJ.out, if_pos rfl, if_neg (by omega)])⟩
              case measure => simp [intOf]; omega
            · have HJ : Hid (inB j 0 n = false) := hd (inB_no.2 (by omega))
              go_wp2_with (first | (go_at_call 70; refine (rt (s_l1In _ _ _ _) HJ).mono ?_; rintro e w1 ⟨rfl, rfl⟩))
              go_ret2
              exact Ret.mk (by rw [HR.out, mbG, HJ.out]; rfl)
        · have hex : n + 1 ≤ (k : Int) := by have := HL.out; omega
          go_wp2
          go_ret2
          exact Ret.mk (by rw [HR.out, List.drop_eq_nil_of_le (by omega)]; rfl)
    · have hbn : ((xs.length : Int) != n + 1) = true := by simpa using hlen
      have hm : Hid (mapBits n xs = none) := hd (by unfold mapBits; rw [HB.out, if_pos rfl, if_neg hlen])
      clear hlen
      go_wp2_with (go_at_call 69; refine (rt (s_l17Holes _ _) HB).mono ?_; rintro e w1 ⟨rfl, rfl⟩)
      go_ret2
      exact Ret.mk (by rw [hm.out]; rfl)
theorem anyI_no {p : Int → Bool} {xs : List Int} (h : anyI p xs = false) : ∀ x ∈ xs, p x = false := by
  rw [anyI_eq, List.any_eq_false] at h
  intro x hx
  simpa using h x hx
theorem mbG_none {n : Int} (xs : List Int) : ∀ (i b : Nat), anyI (fun j => !inB j 0 n) xs = true → mbG n i b xs = none := by
  induction xs with
  | nil => intro i b h; cases h
  | cons j r ih =>
    intro i b h
    unfold mbG
    unfold anyI at h
    cases hj : inB j 0 n with
    | false => rfl
    | true => rw [hj] at h; exact ih _ _ h
set_option maxHeartbeats 1600000 in
theorem i_BitsOfMap (n : Int) (xs : List Int) (v : Value) (w : World) (h : RdI w v xs) (hl : xs.length ≤ 1073741824) (hn : -9223372036854775808 ≤ n ∧ n ≤ 9223372036854775807) :
    Calls Try.prog 21 #[.int .i64 n, v] w (RetX w (optN (mapBits n xs))) := by
  have HA := hd (RdI.ext h (Ext.new w (.cells #[.int .i64 n] 3)))
  obtain ⟨A, c, rfl, h1, h2, ha⟩ := h.form
  clear h
  obtain ⟨b, hb⟩ : ∃ b, holesB n = b := ⟨_, rfl⟩
  have HB := hd hb
  go_enter Try.func21, Try.ntmps21
  cases b
  · clear hb
    go_wp2_with (go_at_call 72; refine (rt (i_holesOk _ _) HB).mono ?_; rintro e w1 ⟨rfl, rfl⟩)
    go_ret2
    exact RetX.mk (by unfold mapBits; rw [HB.out]; rfl) (Ext.new _ _)
  · have hn1 : 1 ≤ n ∧ n ≤ 3 := by have := holesB_cases hb; omega
    clear hb
    by_cases hlen : (xs.length : Int) = n + 1
    · have hbn : ((xs.length : Int) != n + 1) = false := by simp [hlen]
      have HL := hd hlen
      have hm : Hid (mapBits n xs = mbG n 1 0 xs) := hd (by unfold mapBits; rw [HB.out, if_pos rfl, if_pos hlen])
      clear hlen
      have HQ : Hid (AnsQ 74 #[.pointer (some ⟨w.heap.size, 0, none⟩)] (fun j => !inB j 0 n) xs (w.alloc (.cells #[.int .i64 n] 3))) := hd fun x _ m =>
        (i_BitsOfMap1 n x ⟨w.heap.size, 0, none⟩ ((w.alloc (.cells #[.int .i64 n] 3)).drewN m) (by simp [go_sem])).mono fun e w' ⟨h1, h2⟩ => ⟨h1, 0, h2.symm⟩
      obtain ⟨q, hq⟩ : ∃ q, anyI (fun j => !inB j 0 n) xs = q := ⟨_, rfl⟩
      have HAQ := hd hq
      clear hq
      cases q
      · go_wp2_with (first | (go_at_call 72; refine (rt (i_holesOk _ _) HB).mono ?_; rintro e w1 ⟨rfl, rfl⟩) | (go_at_call 73; refine (rtq (slices_ContainsFunc xs _ _ _ _ _ HA.out hl enters_BitsOfMap1 HQ) HAQ).mono ?_; rintro e w1 ⟨rfl, m, rfl⟩))
        have hbox : ((w.alloc (.cells #[.int .i64 n] 3)).drewN m).cell? ⟨w.heap.size, 0, none⟩ = some (.int .i64 n) := by simp [go_sem]
        have HEX : Hid (Ext w ((w.alloc (.cells #[.int .i64 n] 3)).drewN m)) := hd ((Ext.new _ _).drewN _)
        have HA2 := hd (HA.out.ext (ext_drewN _ m))
        clear HQ
        generalize (w.alloc (.cells #[.int .i64 n] 3)).drewN m = w2 at *
        go_loop [26, 6] (fun i s => ∃ (k b : Nat), k ≤ xs.length ∧ b < 4096 ∧ i = .int .i64 (k : Int) ∧ s = .int .i64 b ∧ Hid (mapBits n xs = mbG n (k + 1) b (xs.drop k))) (fun i _ => xs.length - (intOf i).toNat)
        case atStart => exact ⟨0, 0, by omega, by omega, rfl, rfl, hm⟩
        case round =>
          clear hm
          obtain ⟨k, b, hk, hb, rfl, rfl, HR⟩ := hrel
          by_cases hlt : k < xs.length
          · obtain ⟨a, rfl, hc⟩ := RdI.at_ HA2 hlt
            have HJ : Hid (inB xs[k] 0 n = true) := hd (by have := anyI_no HAQ.out _ (List.getElem_mem hlt); simpa using this)
            rw [drop_cons hlt] at HR
            generalize xs[k] = j at *
            have hkn : (k : Int) < n + 1 := by have := HL.out; omega
            have hjn := inB_iff.1 HJ.out
            by_cases hj : 0 < j
            · have hv : 1 ≤ pvar n ((k : Int) + 1) j ∧ pvar n ((k : Int) + 1) j ≤ 12 := by
                unfold pvar
                have : ((k : Int) + 1 - 1) * n ≤ 3 * 3 := Int.mul_le_mul (by omega) hn1.2 (by omega) (by omega)
                have : 0 ≤ ((k : Int) + 1 - 1) * n := Int.mul_nonneg (by omega) (by omega)
                omega
              obtain ⟨v, hv0⟩ : ∃ v, pvar n ((k : Int) + 1) j = v := ⟨_, rfl⟩
              rw [hv0] at hv
              have HV := hd hv0
              clear hv0
              go_wp2_with (go_at_call 76; refine (i_pigeonVar _ _ _ _ (by omega) (by omega) (by omega)).mono ?_; rintro e w1 ⟨rfl, rfl⟩; rw [HV.out])
              have e1 : pvar n ((k + 1 : Nat) : Int) j = pvar n ((k : Int) + 1) j := by rw [Int.natCast_add]; rfl
              have e2 : (v - 1).toNat = v.toNat - 1 := by omega
              go_round
              case rel => exact ⟨k + 1, b ||| 2 ^ (v.toNat - 1), by omega, or_lt (k := 12) hb (by omega), by go_num, by rw [or_pow (by omega) (by omega)], hd (by rw [HR.out, mbG, HJ.out, if_pos rfl, if_pos hj, e1, HV.out, e2])⟩
              case measure => simp [intOf]; omega
            · go_wp2
              go_round
              case rel => exact ⟨k + 1, b, by omega, hb, by go_num, rfl, hd (by rw [HR.out, mbG, HJ.out, if_pos rfl, if_neg hj])⟩
              case measure => simp [intOf]; omega
          · go_wp2
            go_ret2
            exact RetX.mk (by rw [HR.out, List.drop_eq_nil_of_le (by omega)]; rfl) HEX.out
      · go_wp2_with (first | (go_at_call 72; refine (rt (i_holesOk _ _) HB).mono ?_; rintro e w1 ⟨rfl, rfl⟩) | (go_at_call 73; refine (rtq (slices_ContainsFunc xs _ _ _ _ _ HA.out hl enters_BitsOfMap1 HQ) HAQ).mono ?_; rintro e w1 ⟨rfl, m, rfl⟩))
        go_ret2
        exact RetX.mk (by rw [hm.out, mbG_none xs _ _ HAQ.out]; rfl) ((Ext.new _ _).drewN _)
    · have hbn : ((xs.length : Int) != n + 1) = true := by simpa using hlen
      have hm : Hid (mapBits n xs = none) := hd (by unfold mapBits; rw [HB.out, if_pos rfl, if_neg hlen])
      clear hlen
      go_wp2_with (go_at_call 72; refine (rt (i_holesOk _ _) HB).mono ?_; rintro e w1 ⟨rfl, rfl⟩)
      go_ret2
      exact RetX.mk (by rw [hm.out]; rfl) (Ext.new _ _)
end Go.Proofs.Ytegaablidoibdaa
