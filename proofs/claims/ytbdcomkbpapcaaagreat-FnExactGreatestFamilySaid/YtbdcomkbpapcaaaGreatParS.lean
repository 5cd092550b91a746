import Derived.Test.YtbdcomkbpapcaaaGreatMg3
import Derived.Test.YtbdcomkbpapcaaaGreatRowz
import Derived.Test.YtbdcomkbpapcaaaGreatSide
import Derived.Deep.RegionHeld3
import Derived.Deep.RegionLaw
/-
  The parity formula: the reference's words (order of clauses, place, insertion). Conditions: numbers within 1000, at most 10^6 rows and numbers.
-/

namespace Go.Proofs.YtbdcomkbpapcaaaGreat
open Go.RowKit
theorem s_l2Key (l : Int) (w : World) (h1 : -1000 ≤ l) (h2 : l ≤ 1000) : Calls Tryz.prog 99 #[.int .i64 l] w (Ret w (.int .i64 (keyL l))) := by
  by_cases hl : l < 0
  · have HK : Hid (keyL l = -2 * l + 1) := hd (by unfold keyL; rw [if_pos hl])
    go_enter Tryz.func99, Tryz.ntmps99
    go_wp2
    go_ret
    exact Ret.mk (by rw [HK.out]; rfl)
  · have HK : Hid (keyL l = 2 * l) := hd (by unfold keyL; rw [if_neg hl])
    go_enter Tryz.func99, Tryz.ntmps99
    go_wp2
    go_ret
    exact Ret.mk (by rw [HK.out]; rfl)
set_option maxHeartbeats 1600000 in
theorem s_l2Before (xs ys : List Int) (u v : Value) (w : World) (hu : RdI w u xs) (hv : RdI w v ys) (hx : Hid (∀ x ∈ xs, -1000 ≤ x ∧ x ≤ 1000)) (hy : Hid (∀ x ∈ ys, -1000 ≤ x ∧ x ≤ 1000)) (hlx : xs.length ≤ 1000000) (hly : ys.length ≤ 1000000) :
    Calls Tryz.prog 85 #[u, v] w (RetQ w (.bool (befL xs ys))) := by
  obtain ⟨A, c, rfl, h1, h2, ha⟩ := hu.form
  obtain ⟨A', c', rfl, h1', h2', ha'⟩ := hv.form
  clear hu hv
  by_cases hl : xs.length = ys.length
  · have HB : Hid (befL xs ys = befX xs ys) := hd (by unfold befL; rw [if_pos hl])
    generalize hN : xs.length = N at *
    generalize hM : ys.length = M at *
    subst hl
    have HN := hd hN
    have HM := hd hM
    clear hN hM h1 h1'
    go_enter Tryz.func85, Tryz.ntmps85
    go_wp2
    go_loopw [5] (fun i wr => ∃ k n : Nat, k ≤ N ∧ i = .int .i64 k ∧ Hid (befX xs ys = befX (xs.drop k) (ys.drop k)) ∧ wr = w.drewN n) (fun i _ => N - (intOf i).toNat)
    case atStart => exact ⟨0, 0, by omega, rfl, hd rfl, rfl⟩
    case round =>
      obtain ⟨k, n, hk, rfl, HR, rfl⟩ := hrel
      by_cases hlt : k < N
      · have hkx : k < xs.length := by rw [HN.out]; exact hlt
        have hky : k < ys.length := by rw [HM.out]; exact hlt
        obtain ⟨a, rfl, c1⟩ := RdI.at_ ha hkx
        obtain ⟨a', rfl, c2⟩ := RdI.at_ ha' hky
        obtain ⟨x1, x2⟩ := hx.out _ (List.getElem_mem hkx)
        obtain ⟨y1, y2⟩ := hy.out _ (List.getElem_mem hky)
        have HD : Hid (befX xs ys = if xs[k] = ys[k] then befX (xs.drop (k + 1)) (ys.drop (k + 1)) else decide (keyL xs[k] < keyL ys[k])) := hd (by rw [HR.out, drop_cons hkx, drop_cons hky]; rfl)
        generalize xs[k] = x at *
        generalize ys[k] = y at *
        clear hkx hky HR
        by_cases hxy : x = y
        · have HD' : Hid (befX xs ys = befX (xs.drop (k + 1)) (ys.drop (k + 1))) := hd (by rw [HD.out, if_pos hxy])
          have b1 : (x != y) = false := by simp [hxy]
          clear hxy HD
          go_wp2_with fail
          go_quiet (fail)
          go_wp2
          go_roundw
          case rel => exact ⟨k + 1, n + nq, by omega, by go_num, HD', rfl⟩
          case measure => simp [intOf]; omega
        · have HD' : Hid (befL xs ys = decide (keyL x < keyL y)) := hd (by rw [HB.out, HD.out, if_neg hxy])
          have b1 : (x != y) = true := by simp [hxy]
          clear hxy HD
          go_wp2_with fail
          go_quiet (fail)
          obtain ⟨n1, rfl⟩ : ∃ n1, n1 = nq := ⟨_, rfl⟩
          go_wp2_with fail
          go_quiet ((go_at_call 99; first | exact q_same (s_l2Key _ _ (by assumption) (by assumption)) | exact q_same' (s_l2Key _ _ (by assumption) (by assumption))))
          go_wp2
          go_ret
          exact ⟨by rw [HD'.out]; rfl, n + n1 + nq, by rw [World.drewN_drewN, World.drewN_drewN, Nat.add_assoc]⟩
      · obtain rfl : k = N := by omega
        have HF : Hid (befX xs ys = false) := hd (by rw [HR.out, List.drop_eq_nil_of_le (by rw [HN.out]; exact Nat.le_refl _)]; rfl)
        go_wp2
        go_ret
        exact RetQ.mkN (by rw [HB.out, HF.out]; rfl)
  · have HB : Hid (befL xs ys = decide (xs.length < ys.length)) := hd (by unfold befL; rw [if_neg hl])
    have b1 : ((xs.length : Int) != (ys.length : Int)) = true := by simp; omega
    clear hl
    generalize xs.length = N at *
    generalize ys.length = M at *
    go_enter Tryz.func85, Tryz.ntmps85
    go_wp2
    go_ret
    exact RetQ.mk (by rw [HB.out]; simp)
set_option maxHeartbeats 1600000 in
theorem s_l1Same (xs ys : List Int) (u v : Value) (w : World) (hu : RdI w u xs) (hv : RdI w v ys) (hlx : xs.length ≤ 1000000) (hly : ys.length ≤ 1000000) :
    Calls Tryz.prog 65 #[u, v] w (RetQ w (.bool (decide (xs = ys)))) := by
  obtain ⟨A, c, rfl, h1, h2, ha⟩ := hu.form
  obtain ⟨A', c', rfl, h1', h2', ha'⟩ := hv.form
  clear hu hv
  by_cases hl : xs.length = ys.length
  · generalize hN : xs.length = N at *
    generalize hM : ys.length = M at *
    subst hl
    have HN := hd hN
    have HM := hd hM
    clear hN hM h1 h1'
    go_enter Tryz.func65, Tryz.ntmps65
    go_wp2
    go_loopw [5] (fun i wr => ∃ k n : Nat, k ≤ N ∧ i = .int .i64 k ∧ Hid (xs.take k = ys.take k) ∧ wr = w.drewN n) (fun i _ => N - (intOf i).toNat)
    case atStart => exact ⟨0, 0, by omega, rfl, hd rfl, rfl⟩
    case round =>
      obtain ⟨k, n, hk, rfl, HR, rfl⟩ := hrel
      by_cases hlt : k < N
      · have hkx : k < xs.length := by rw [HN.out]; exact hlt
        have hky : k < ys.length := by rw [HM.out]; exact hlt
        obtain ⟨a, rfl, c1⟩ := RdI.at_ ha hkx
        obtain ⟨a', rfl, c2⟩ := RdI.at_ ha' hky
        have HD : Hid (xs[k] = ys[k] → xs.take (k + 1) = ys.take (k + 1)) := hd (fun e => by rw [List.take_succ_eq_append_getElem hkx, List.take_succ_eq_append_getElem hky, HR.out, e])
        have HE : Hid (¬ xs[k] = ys[k] → decide (xs = ys) = false) := hd (fun e => decide_eq_false fun h => e (by subst h; rfl))
        generalize xs[k] = x at *
        generalize ys[k] = y at *
        clear hkx hky HR
        by_cases hxy : x = y
        · have HD' := hd (HD.out hxy)
          have b1 : (x != y) = false := by simp [hxy]
          clear hxy HD HE
          go_wp2_with fail
          go_quiet (fail)
          go_wp2
          go_roundw
          case rel => exact ⟨k + 1, n + nq, by omega, by go_num, HD', rfl⟩
          case measure => simp [intOf]; omega
        · have HE' := hd (HE.out hxy)
          have b1 : (x != y) = true := by simp [hxy]
          clear hxy HD HE
          go_wp2_with fail
          go_quiet (fail)
          go_wp2
          go_ret
          exact ⟨by rw [HE'.out]; rfl, n + nq, by rw [World.drewN_drewN]⟩
      · obtain rfl : k = N := by omega
        have HF : Hid (decide (xs = ys) = true) := hd (decide_eq_true (by
          have := HR.out
          rwa [List.take_of_length_le (by rw [HN.out]; exact Nat.le_refl _), List.take_of_length_le (by rw [HM.out]; exact Nat.le_refl _)] at this))
        go_wp2
        go_ret
        exact RetQ.mkN (by rw [HF.out]; rfl)
  · have HB : Hid (decide (xs = ys) = false) := hd (decide_eq_false fun h => hl (by rw [h]))
    have b1 : ((xs.length : Int) != (ys.length : Int)) = true := by simp; omega
    clear hl
    generalize xs.length = N at *
    generalize ys.length = M at *
    go_enter Tryz.func65, Tryz.ntmps65
    go_wp2
    go_ret
    exact RetQ.mk (by rw [HB.out]; rfl)
set_option maxHeartbeats 1600000 in
theorem s_l2Place (xss : List (List Int)) (ys : List Int) (v u : Value) (w : World) (hv : RdSS w v xss) (hu : RdI w u ys) (hx : Hid (∀ c ∈ xss, c.length ≤ 1000000 ∧ ∀ x ∈ c, -1000 ≤ x ∧ x ≤ 1000)) (hy : Hid (∀ x ∈ ys, -1000 ≤ x ∧ x ≤ 1000)) (hl : xss.length ≤ 1000000) (hly : ys.length ≤ 1000000) :
    Calls Tryz.prog 64 #[v, u] w (RetQ w (.int .i64 (plcL xss ys : Nat))) := by
  obtain ⟨A, c, rfl, h1, h2, ha⟩ := hv.form
  have HU := hd hu
  clear hv hu
  have HP : Hid (∀ k (h : k < xss.length), (fun m => befL (xss.getD m []) ys) k = befL xss[k] ys) := hd fun k h => by simp [List.getD, h]
  have H0 : Hid (plcL xss ys = plc (fun m => befL (xss.getD m []) ys) xss.length 0 xss.length) := hd rfl
  generalize (fun m => befL (xss.getD m []) ys) = p at *
  go_enter Tryz.func64, Tryz.ntmps64
  go_wp2
  go_loopw [5, 6] (fun a b wr => ∃ f t n : Nat, f ≤ t ∧ t ≤ xss.length ∧ a = .int .i64 f ∧ b = .int .i64 t ∧ Hid (plcL xss ys = plc p t f t) ∧ wr = w.drewN n) (fun a b _ => (intOf b).toNat - (intOf a).toNat)
  case atStart => exact ⟨0, xss.length, 0, by omega, Nat.le_refl _, rfl, rfl, H0, rfl⟩
  case round =>
    clear H0
    obtain ⟨f, t, n, hft, htl, rfl, rfl, HR, rfl⟩ := hrel
    by_cases hlt : f < t
    · have hm : ((f : Int) + (t : Int)).tdiv 2 = (((f + t) / 2 : Nat) : Int) := by
        rw [Int.tdiv_eq_ediv_of_nonneg (by omega)]; omega
      have hmt : (f + t) / 2 < t := by omega
      have hfm : f ≤ (f + t) / 2 := by omega
      have HY := hd (fun h => plc_yes (p := p) hlt h)
      have HNo := hd (fun h => plc_no (p := p) hlt h)
      generalize (f + t) / 2 = m at *
      have hml : m < xss.length := by omega
      have HPM := hd (HP.out m hml)
      obtain ⟨a, um, rfl, c1, hr1⟩ := RdSS.at_ ha hml
      have HXM := hd (hx.out _ (List.getElem_mem hml))
      generalize xss[m] = xm at *
      have HR1 := hd hr1
      clear hr1
      obtain ⟨q, hq⟩ : ∃ q, befL xm ys = q := ⟨_, rfl⟩
      have HQ := hd hq
      rw [hq] at HPM
      clear hq
      obtain ⟨hm0, hm1⟩ : (0 : Int) ≤ (m : Int) ∧ (m : Int) < (xss.length : Int) := by omega
      go_wp2_with fail
      refine (rtq (s_l2Before xm ys um _ _ (HR1.out.ext (ext_drewN _ _)) (HU.out.ext (ext_drewN _ _)) (hd (HXM.out.2)) hy HXM.out.1 hly) HQ).mono ?_
      rintro e w1 ⟨rfl, n1, rfl⟩
      cases q
      · have HN := hd (HNo.out HPM.out)
        go_wp2
        go_roundw
        case rel => exact ⟨f, m, n + n1, by omega, by omega, by go_num, by go_num, hd (by rw [HR.out, HN.out]), rfl⟩
        case measure => simp [intOf]; omega
      · have HN := hd (HY.out HPM.out)
        go_wp2
        go_roundw
        case rel => exact ⟨m + 1, t, n + n1, by omega, by omega, by go_num, by go_num, hd (by rw [HR.out, HN.out]), rfl⟩
        case measure => simp [intOf]; omega
    · obtain rfl : f = t := by omega
      have HF : Hid (plcL xss ys = f) := hd (by rw [HR.out, plc_stop (by omega)])
      go_wp2
      go_ret
      exact RetQ.mkN (by rw [HF.out]; rfl)
end Go.Proofs.YtbdcomkbpapcaaaGreat
