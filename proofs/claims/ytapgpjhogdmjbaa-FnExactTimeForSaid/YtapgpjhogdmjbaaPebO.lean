/-
  Pebbling: valid graphs, the program's side. Condition: sizes up to 2^20.
-/
import Derived.Test.YtapgpjhogdmjbaaPebS
namespace Go.Proofs.Ytapgpjhogdmjbaa
open Go.RowKit Peb
def prevO (y : List Int) : Nat → Option Int
  | 0 => none
  | m + 1 => some (y.getD m 0)
theorem goodDG_false {x : Int} {p : List Int} {r : List (List Int)} (h : risingB 0 (x - 1) p = false) : goodDG x (p :: r) = false := by rw [goodDG, h]; rfl
theorem goodDG_true {x : Int} {p : List Int} {r : List (List Int)} (h : risingB 0 (x - 1) p = true) : goodDG x (p :: r) = goodDG (x + 1) r := by rw [goodDG, h]; rfl
theorem rise_out {lo hi x : Int} {o : Option Int} {r : List Int} (h : inB x lo hi = false) : risingG lo hi o (x :: r) = false := by
  cases o <;> · rw [risingG, h]; rfl
theorem rise_le {lo hi x p : Int} {r : List Int} (h : x ≤ p) : risingG lo hi (some p) (x :: r) = false := by
  rw [risingG, if_neg (show ¬ p < x by omega)]; split <;> rfl
theorem rise_some {lo hi x p : Int} {r : List Int} (h : inB x lo hi = true) (h2 : ¬ x ≤ p) : risingG lo hi (some p) (x :: r) = risingG lo hi (some x) r := by
  rw [risingG, h, if_pos rfl, if_pos (show p < x by omega)]
theorem rise_none {lo hi x : Int} {r : List Int} (h : inB x lo hi = true) : risingG lo hi none (x :: r) = risingG lo hi (some x) r := by
  rw [risingG, h]; rfl
set_option maxHeartbeats 1600000 in
theorem i_IsDag (ds : List (List Int)) (v : Value) (w : World) (h : Rd_Dag w v ds) (b : Bd_Dag ds) :
    Calls Try.prog 27 #[v] w (RetX w (.bool (goodD ds))) := by
  obtain ⟨vc, rfl, hC⟩ := h
  obtain ⟨A, c, rfl, h1, h2, ha⟩ := hC.form
  have hl := b.1
  have HLE := b.hid
  clear hC b
  have HGD : Hid (goodD ds = (inB ds.length 1 10 && goodDG 0 ds)) := hd rfl
  have XB := hd (Ext.new w (.cells #[.slice A ds.length c] 28))
  go_enter Try.func27, Try.ntmps27
  go_wp2
  go_loop [10] (fun i => ∃ k : Nat, k ≤ ds.length ∧ i = .int .i64 k ∧ Hid (goodDG 0 ds = goodDG (k : Int) (ds.drop k))) (fun i => ds.length - (intOf i).toNat)
  case atStart => exact ⟨0, by omega, rfl, hd rfl⟩
  case round =>
    obtain ⟨k, hk, rfl, HR⟩ := hrel
    by_cases hlt : k < ds.length
    · obtain ⟨a, u, rfl, hc0, hr0⟩ := RdSS.at_ ha hlt
      have hc := XB.out.cell hc0
      have HRD := hd (hr0.ext XB.out)
      have hdc : ds.drop k = ds[k] :: ds.drop (k + 1) := List.drop_eq_getElem_cons hlt
      rw [hdc] at HR
      have HXL := hd (HLE.out _ (List.getElem_mem hlt))
      clear hc0 hr0 hdc
      generalize ds[k] = y at *
      obtain ⟨A3, c3, rfl, -, -, hy⟩ := HRD.out.form
      have hyl : y.length ≤ 1073741824 := by have := HXL.out; omega
      go_wp2
      go_loop [17] (fun i => ∃ m : Nat, m ≤ y.length ∧ i = .int .i64 m ∧ Hid (risingB 0 ((k : Int) - 1) y = risingG 0 ((k : Int) - 1) (prevO y m) (y.drop m))) (fun i => y.length - (intOf i).toNat)
      case atStart => exact ⟨0, by omega, rfl, hd rfl⟩
      case round =>
        obtain ⟨m, hm, rfl, HM⟩ := hrel
        by_cases hltm : m < y.length
        · obtain ⟨a5, rfl, hc5⟩ := RdI.at_ hy hltm
          have hdm : y.drop m = y[m] :: y.drop (m + 1) := List.drop_eq_getElem_cons hltm
          rw [hdm] at HM
          have HPN : Hid (prevO y (m + 1) = some y[m]) := hd (by unfold prevO; simp [List.getD_eq_getElem?_getD, hltm])
          clear hdm
          generalize hz : y[m] = z at *
          clear hz
          obtain ⟨q, hq⟩ : ∃ q, inB z 0 ((k : Int) - 1) = q := ⟨_, rfl⟩
          have HQ := hd hq
          clear hq
          cases q
          · have HE : Hid (goodD ds = false) := hd (by
              rw [HGD.out, HR.out, goodDG_false (HM.out.trans (rise_out HQ.out)), Bool.and_false])
            go_wp2_with fail
            refine (rt (i_within _ _ _ _) HQ).mono ?_
            rintro e w1 ⟨rfl, rfl⟩
            go_wp2
            go_ret
            exact RetX.mk (by rw [HE.out]; rfl) XB.out
          · by_cases hm0 : m = 0
            · subst hm0
              rw [Addr.add_zero'] at hc5
              have HE : Hid (risingB 0 ((k : Int) - 1) y = risingG 0 ((k : Int) - 1) (prevO y (0 + 1)) (y.drop (0 + 1))) := hd (by
                rw [HPN.out, HM.out]; exact rise_none HQ.out)
              go_wp2_with fail
              refine (rt (i_within _ _ _ _) HQ).mono ?_
              rintro e w1 ⟨rfl, rfl⟩
              go_wp2
              go_roundw
              case rel => exact ⟨0 + 1, by omega, by go_num, HE⟩
              case measure => simp [intOf]; omega
            · obtain ⟨a6, e6, hc6⟩ := RdI.at_ hy (show m - 1 < y.length by omega)
              injection e6 with e6
              subst e6
              have hm1 : (0 : Int) < (m : Int) := by omega
              have hm2 : (0 : Int) ≤ (m : Int) - 1 := by omega
              have hm3 : (m : Int) - 1 < (y.length : Int) := by omega
              have HPV : Hid (prevO y m = some y[m - 1]) := hd (by
                obtain ⟨j, rfl⟩ : ∃ j, m = j + 1 := ⟨m - 1, by omega⟩
                have hj : j < y.length := by omega
                unfold prevO; simp [List.getD_eq_getElem?_getD, hj])
              rw [HPV.out] at HM
              generalize y[m - 1] = p at *
              by_cases hle : z ≤ p
              · have HE : Hid (goodD ds = false) := hd (by
                  rw [HGD.out, HR.out, goodDG_false (HM.out.trans (rise_le hle)), Bool.and_false])
                go_wp2_with fail
                refine (rt (i_within _ _ _ _) HQ).mono ?_
                rintro e w1 ⟨rfl, rfl⟩
                go_wp2
                go_ret
                exact RetX.mk (by rw [HE.out]; rfl) XB.out
              · have HE : Hid (risingB 0 ((k : Int) - 1) y = risingG 0 ((k : Int) - 1) (prevO y (m + 1)) (y.drop (m + 1))) := hd (by
                  rw [HPN.out, HM.out]; exact rise_some HQ.out hle)
                go_wp2_with fail
                refine (rt (i_within _ _ _ _) HQ).mono ?_
                rintro e w1 ⟨rfl, rfl⟩
                go_wp2
                go_roundw
                case rel => exact ⟨m + 1, by omega, by go_num, HE⟩
                case measure => simp [intOf]; omega
        · obtain rfl : m = y.length := by omega
          have HE : Hid (goodDG 0 ds = goodDG ((k + 1 : Nat) : Int) (ds.drop (k + 1))) := hd (by
            rw [HR.out]
            exact goodDG_true (HM.out.trans (by rw [List.drop_length]; cases prevO y y.length <;> rfl)))
          go_wp2
          go_roundw
          case rel => exact ⟨k + 1, by omega, by go_num, HE⟩
          case measure => simp [intOf]; omega
    · obtain rfl : k = ds.length := by omega
      have HE : Hid (goodDG 0 ds = true) := hd (by rw [HR.out, List.drop_length]; rfl)
      obtain ⟨q, hq⟩ : ∃ q, inB ds.length 1 10 = q := ⟨_, rfl⟩
      have HQ := hd hq
      have HE2 : Hid (goodD ds = q) := hd (by rw [HGD.out, HE.out, HQ.out, Bool.and_true])
      clear hq
      go_wp2_with fail
      refine (rt (i_within _ _ _ _) HQ).mono ?_
      rintro e w1 ⟨rfl, rfl⟩
      go_wp2
      go_ret
      exact RetX.mk (by rw [HE2.out]; rfl) XB.out
end Go.Proofs.Ytapgpjhogdmjbaa
