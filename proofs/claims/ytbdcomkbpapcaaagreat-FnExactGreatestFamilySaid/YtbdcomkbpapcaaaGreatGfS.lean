import Derived.Test.YtbdcomkbpapcaaaGreatGfR
import Derived.Test.YtbdcomkbpapcaaaGreatGood
/-
  Greatest families, the reference's small words: what is asked, what is allowed, without a variable. Conditions: at most 60 clauses of literals within 12.
-/

namespace Go.Proofs.YtbdcomkbpapcaaaGreat
open Go.RowKit
/-- A Cnf is valid and has at most six variables. -/
def smlB (f : Cnf) : Bool := decide (f.n ≤ 6) && goodB f
def askF (f : Cnf) (x : Int) : Bool := smlB f && inB x 0 6
theorem s_l10Good (f : Cnf) (v : Value) (w : World) (h : Rd_Cnf w v f) (b : Bd_Cnf f) :
    Calls Tryz.prog 25 #[v] w (RetX w (.bool (smlB f))) := by
  have HV := hd h
  have HB := hd b
  obtain ⟨A, c, rfl⟩ := h.form
  clear h b
  by_cases h6 : f.n ≤ 6
  · obtain ⟨q, hq⟩ : ∃ q, goodB f = q := ⟨_, rfl⟩
    have HQ := hd hq
    have HE : Hid (smlB f = q) := hd (by unfold smlB; rw [hq, decide_eq_true h6]; rfl)
    clear hq
    rw [HE.out]
    go_enter Tryz.func25, Tryz.ntmps25
    go_wp2_with fail
    refine (rtx (s_l2Good f _ _ (HV.out.ext (Ext.new _ _)) HB.out) HQ).mono ?_
    rintro e w1 ⟨rfl, hx1⟩
    have X1 := hd ((Ext.new _ _).trans hx1)
    clear hx1
    cases q
    all_goals
      go_wp2
      go_ret
      exact RetX.mk rfl X1.out
  · have HE : Hid (smlB f = false) := hd (by unfold smlB; rw [decide_eq_false h6]; rfl)
    rw [HE.out]
    go_enter Tryz.func25, Tryz.ntmps25
    go_wp2
    go_ret
    exact RetX.mk rfl (Ext.new _ _)
theorem s_l10Width (x : Int) (w : World) : Calls Tryz.prog 26 #[.int .i64 x] w (Ret w (.bool (inB x 0 6))) := by
  obtain ⟨q, hq⟩ : ∃ q, inB x 0 6 = q := ⟨_, rfl⟩
  have HQ := hd hq
  rw [hq]
  clear hq
  go_enter Tryz.func26, Tryz.ntmps26
  go_wp2_with fail
  refine (rt (s_l1In _ _ _ _) HQ).mono ?_
  rintro e w1 ⟨rfl, rfl⟩
  go_wp2
  go_ret
  exact Ret.mk rfl
theorem s_l13Asked (f : Cnf) (x : Int) (v : Value) (w : World) (h : Rd_Cnf w v f) (b : Bd_Cnf f) :
    Calls Tryz.prog 14 #[v, .int .i64 x] w (RetX w (.bool (smlB f && inB x 0 6))) := by
  have HV := hd h
  have HB := hd b
  obtain ⟨A, c, rfl⟩ := h.form
  clear h b
  obtain ⟨q, hq⟩ : ∃ q, smlB f = q := ⟨_, rfl⟩
  have HQ := hd hq
  obtain ⟨p, hp⟩ : ∃ p, inB x 0 6 = p := ⟨_, rfl⟩
  have HP := hd hp
  rw [hq, hp]
  clear hq hp
  go_enter Tryz.func14, Tryz.ntmps14
  go_wp2_with fail
  refine (rtx (s_l10Good f _ _ (HV.out.ext (Ext.new _ _)) HB.out) HQ).mono ?_
  rintro e w1 ⟨rfl, hx1⟩
  have X1 := hd ((Ext.new _ _).trans hx1)
  clear hx1
  cases q
  · go_wp2
    go_ret
    exact RetX.mk rfl X1.out
  · go_wp2_with fail
    refine (rt (s_l10Width _ _) HP).mono ?_
    rintro e w2 ⟨rfl, rfl⟩
    go_wp2
    go_ret
    exact RetX.mk rfl X1.out
set_option maxHeartbeats 1600000 in
theorem s_l13Allowed (f : Cnf) (v av : Value) (q : Nat) (a : List Int) (w : World) (h : Rd_Cnf w v f) (hr : RdI w av a) (hl : f.cs.length ≤ 60) (hc : Hid (∀ c ∈ f.cs, c.length ≤ 1000000 ∧ ∀ l ∈ c, -12 ≤ l ∧ l ≤ 12)) (hla : a.length ≤ 1000000) (hq : q ≤ 6) :
    Calls Tryz.prog 63 #[v, .int .i64 (q : Int), av] w (RetX w (.bool (alwB f.cs q a))) := by
  obtain ⟨vc, rfl, hC⟩ := h
  obtain ⟨A, c, rfl, h1, h2, hA⟩ := hC.form
  have HA := hd hr
  obtain ⟨B, d, rfl, h3, h4, -⟩ := hr.form
  clear hC hr
  obtain ⟨n, cs⟩ := f
  simp only at *
  by_cases hlen : a.length ≤ q + 1
  · have hN : ¬ ((a.length : Int) > (q : Int) + 1) := by omega
    have HE : Hid (alwB cs q a = !anyL (falP q a) cs) := hd (by unfold alwB; rw [decide_eq_true hlen]; rfl)
    go_enter Tryz.func63, Tryz.ntmps63
    go_wp2
    go_loop [7] (fun i => ∃ k : Nat, k ≤ cs.length ∧ i = .int .i64 k ∧ Hid (anyL (falP q a) cs = anyL (falP q a) (cs.drop k))) (fun i => cs.length - (intOf i).toNat)
    case atStart => exact ⟨0, by omega, rfl, hd rfl⟩
    case round =>
      obtain ⟨k, hk, rfl, HR⟩ := hrel
      by_cases hlt : k < cs.length
      · obtain ⟨a1, u, rfl, hc0, hr0⟩ := RdSS.at_ hA hlt
        have hc1 := (Ext.new w (.cells #[.int .i64 n, .slice (some a1) cs.length c] 28)).cell hc0
        have HRD := hd (hr0.ext (Ext.new w (.cells #[.int .i64 n, .slice (some a1) cs.length c] 28)))
        have HA1 := hd (HA.out.ext (Ext.new w (.cells #[.int .i64 n, .slice (some a1) cs.length c] 28)))
        have hdc : cs.drop k = cs[k] :: cs.drop (k + 1) := List.drop_eq_getElem_cons hlt
        rw [hdc] at HR
        have HY := hd (hc.out _ (List.getElem_mem hlt))
        have e1 : (0 : Int) ≤ (k : Int) := by omega
        have e2 : (k : Int) < (cs.length : Int) := by omega
        clear hc0 hr0 hdc
        generalize cs[k] = y at *
        obtain ⟨A3, c3, rfl, -⟩ := HRD.out.form
        by_cases hy : y.length ≤ q
        · have hy' : (y.length : Int) ≤ (q : Int) := by omega
          have HV := hd (s_l3Value y a _ _ _ HRD.out HA1.out (by have := HY.out.1; omega) (by omega) (hd HY.out.2))
          have HF : Hid (falP q a y = decide (valG a (-1) y < 0)) := hd (by unfold falP; rw [decide_eq_true hy]; rfl)
          generalize valG a (-1) y = z at *
          by_cases hz : z < 0
          · have HF2 : Hid (anyL (falP q a) cs = true) := hd (by rw [HR.out, anyL, HF.out, decide_eq_true hz]; rfl)
            go_wp2_with fail
            refine HV.out.mono ?_
            rintro e w1 ⟨rfl, rfl⟩
            go_wp2
            go_ret
            exact RetX.mk (by rw [HE.out, HF2.out]; rfl) (Ext.new _ _)
          · have HF2 : Hid (anyL (falP q a) cs = anyL (falP q a) (cs.drop (k + 1))) := hd (by rw [HR.out, anyL, HF.out, decide_eq_false hz]; rfl)
            go_wp2_with fail
            refine HV.out.mono ?_
            rintro e w1 ⟨rfl, rfl⟩
            go_wp2
            go_round
            case rel => exact ⟨k + 1, by omega, by go_num, HF2⟩
            case measure => simp [intOf]; omega
        · have hy' : ¬ (y.length : Int) ≤ (q : Int) := by omega
          have HF2 : Hid (anyL (falP q a) cs = anyL (falP q a) (cs.drop (k + 1))) := hd (by rw [HR.out, anyL, show falP q a y = false from by unfold falP; rw [decide_eq_false hy]; rfl]; rfl)
          go_wp2
          go_round
          case rel => exact ⟨k + 1, by omega, by go_num, HF2⟩
          case measure => simp [intOf]; omega
      · go_wp2
        go_ret
        exact RetX.mk (by rw [HE.out, HR.out, List.drop_eq_nil_of_le (by omega)]; rfl) (Ext.new _ _)
  · have hN : (a.length : Int) > (q : Int) + 1 := by omega
    have HE : Hid (alwB cs q a = false) := hd (by unfold alwB; rw [decide_eq_false hlen]; rfl)
    rw [HE.out]
    go_enter Tryz.func63, Tryz.ntmps63
    go_wp2
    go_ret
    exact RetX.mk rfl (Ext.new _ _)
set_option maxHeartbeats 1600000 in
theorem s_l2Without (a : List Int) (x : Int) (v : Value) (w : World) (h : RdI w v a) (hl : a.length ≤ 1000000) (hb : Hid (∀ y ∈ a, -1000 ≤ y ∧ y ≤ 1000)) :
    Calls Tryz.prog 45 #[v, .int .i64 (absI x)] w (RetI w 3 (rem1 a x)) := by
  obtain ⟨A, c, rfl, h1, h2, ha⟩ := h.form
  have HE : Hid (∀ k, k ≤ a.length → (rem1 (a.take k) x).length ≤ k) := hd fun k hk => by
    have := List.length_filter_le (fun y => decide (absI y ≠ absI x)) (a.take k)
    rw [List.length_take] at this
    unfold rem1
    omega
  have HT : Hid (rem1 (a.take a.length) x = rem1 a x) := hd (by rw [List.take_length])
  have HS : Hid (∀ k (hk : k < a.length), rem1 (a.take (k + 1)) x = if absI a[k] = absI x then rem1 (a.take k) x else rem1 (a.take k) x ++ [a[k]]) := hd fun k hk => by
    unfold rem1
    rw [List.take_succ_eq_append_getElem hk, List.filter_append]
    by_cases e : absI a[k] = absI x
    · rw [if_pos e, List.filter_cons_of_neg (by simp [e])]; simp
    · rw [if_neg e, List.filter_cons_of_pos (by simp [e])]; simp
  clear h
  generalize hz : absI x = z at *
  have HZ := hd hz
  clear hz
  go_enter Tryz.func45, Tryz.ntmps45
  go_wp2
  go_loopw [6, 5] (fun i ov wr => ∃ k : Nat, k ≤ a.length ∧ i = .int .i64 (k : Int) ∧ OwnI wr w.heap.size 3 ov (rem1 (a.take k) x) ∧ Ext w wr) (fun i _ _ => a.length - (intOf i).toNat)
  case atStart => exact ⟨0, by omega, rfl, ownI_emp' rfl (Nat.le_refl _), Ext.new _ _⟩
  case round =>
    obtain ⟨k, hk, rfl, ho, hx⟩ := hrel
    have HX := hd hx
    have HO := hd ho
    have hls := hx.size
    clear ho hx
    by_cases hlt : k < a.length
    · obtain ⟨a1, rfl, hc0⟩ := RdI.at_ ha hlt
      have hc1 := HX.out.cell hc0
      have hb1 := hb.out _ (List.getElem_mem hlt)
      have HS1 := hd (HS.out k hlt)
      have HL1 := HE.out k hk
      clear hc0
      generalize a[k] = y at *
      have HV := hd (s_l2Var y wr hb1)
      by_cases hy : absI y = z
      · have HS2 : Hid (rem1 (a.take (k + 1)) x = rem1 (a.take k) x) := hd (by rw [HS1.out, if_pos hy])
        rw [hy] at HV
        go_wp2_with fail
        refine HV.out.mono ?_
        rintro e w1 ⟨rfl, rfl⟩
        go_wp2
        go_roundw
        case rel => exact ⟨k + 1, by omega, by go_num, by rw [HS2.out]; exact HO.out, HX.out⟩
        case measure => simp [intOf]; omega
      · have HS2 : Hid (rem1 (a.take (k + 1)) x = rem1 (a.take k) x ++ [y]) := hd (by rw [HS1.out, if_neg hy])
        generalize absI y = t at *
        go_wp2_with fail
        refine HV.out.mono ?_
        rintro e w1 ⟨rfl, rfl⟩
        go_wp2_with (at_builtin; refine appI wr HO.out rfl _ _ rfl _ (by rfl) (by rfl) (by omega) hls ?_; intro v' w9 ho1 hg1 _)
        go_roundw
        case rel => exact ⟨k + 1, by omega, by go_num, by rw [HS2.out]; exact ho1, ext_app HX.out hg1 (ownI_ge HO.out)⟩
        case measure => simp [intOf]; omega
    · obtain rfl : k = a.length := by omega
      go_wp2
      go_ret
      exact ⟨_, rfl, by rw [← HT.out]; exact HO.out, HX.out⟩
end Go.Proofs.YtbdcomkbpapcaaaGreat
