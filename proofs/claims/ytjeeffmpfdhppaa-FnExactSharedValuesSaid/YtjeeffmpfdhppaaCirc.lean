/-
  Circuits: which are valid, and their gates' values: both sides. Conditions: sizes up to 2^20.
-/
import Derived.Test.YtjeeffmpfdhppaaCircP
import Derived.IntWalk
namespace Go.Proofs.Ytjeeffmpfdhppaa
open Go.RowKit
theorem gateB1 {n i : Int} {g : Gat} (h : g.k = 1) : gateB n i g = (inB g.a 1 n && decide (g.b = 0)) := by unfold gateB; rw [if_pos h]
theorem gateB23 {n i : Int} {g : Gat} (h : g.k = 2 ∨ g.k = 3) : gateB n i g = (decide (g.a = 0) && decide (g.b = 0)) := by unfold gateB; rw [if_neg (by omega), if_pos h]
theorem gateB4 {n i : Int} {g : Gat} (h : g.k = 4) : gateB n i g = (inB g.a 0 (i - 1) && decide (g.b = 0)) := by unfold gateB; rw [if_neg (by omega), if_neg (by omega), if_pos h]
theorem gateB56 {n i : Int} {g : Gat} (h : g.k = 5 ∨ g.k = 6) : gateB n i g = (inB g.a 0 (i - 1) && inB g.b 0 (i - 1)) := by unfold gateB; rw [if_neg (by omega), if_neg (by omega), if_neg (by omega), if_pos h]
theorem gateB0 {n i : Int} {g : Gat} (h : ¬ (g.k = 1 ∨ g.k = 2 ∨ g.k = 3 ∨ g.k = 4 ∨ g.k = 5 ∨ g.k = 6)) : gateB n i g = false := by unfold gateB; rw [if_neg (by omega), if_neg (by omega), if_neg (by omega), if_neg (by omega)]
theorem beq_dec (x y : Int) : (x == y) = decide (x = y) := by
  by_cases h : x = y <;> simp [h]
set_option maxRecDepth 100000 in
set_option maxHeartbeats 3200000 in
theorem s_l6Gate (n i : Int) (g : Gat) (w : World) (hi : 0 ≤ i ∧ i ≤ 1048576) :
    Calls Try.prog 112 #[.int .i64 n, .agg #[.int .i64 g.k, .int .i64 g.a, .int .i64 g.b], .int .i64 i] w (RetX w (.bool (gateB n i g))) := by
  have hF1 := @gateB1 n i g
  have hF2 := @gateB23 n i g
  have hF4 := @gateB4 n i g
  have hF5 := @gateB56 n i g
  have hF0 := @gateB0 n i g
  obtain ⟨k, a, b⟩ := g
  dsimp only at *
  have F1 := hd hF1
  have F2 := hd hF2
  have F4 := hd hF4
  have F5 := hd hF5
  have F0 := hd hF0
  clear hF1 hF2 hF4 hF5 hF0
  generalize gateB n i ⟨k, a, b⟩ = r at *
  have X0 : Hid (Ext w (w.alloc (.cells #[.int .i64 k, .int .i64 a, .int .i64 b] 82))) := hd (Ext.new _ _)
  have hz := beq_dec b 0
  have hza := beq_dec a 0
  have HN := hd (fun w => s_l1In a 1 n w)
  have HA := hd (fun w => s_l1In a 0 (i - 1) w)
  have HB := hd (fun w => s_l1In b 0 (i - 1) w)
  by_cases k1 : k = 1
  · subst k1
    have HR := hd (F1.out rfl)
    clear F1 F2 F4 F5 F0
    obtain ⟨q, hq⟩ : ∃ q, inB a 1 n = q := ⟨_, rfl⟩
    have HQ := hd hq
    clear hq
    go_enter Try.func112, Try.ntmps112
    go_wp2_with fail
    refine (rt (HN.out _) HQ).mono ?_
    rintro e w1 ⟨rfl, rfl⟩
    cases q
    · go_wp2
      go_ret
      exact RetX.mk (by rw [HR.out, HQ.out]; rfl) X0.out
    · go_wp2
      go_ret
      exact RetX.mk (by rw [HR.out, HQ.out]; simp) X0.out
  · by_cases k23 : k = 2 ∨ k = 3
    · have HR := hd (F2.out k23)
      clear F1 F2 F4 F5 F0
      rcases k23 with rfl | rfl
      all_goals
        by_cases ha : a = 0
        · subst ha
          go_enter Try.func112, Try.ntmps112
          go_wp2
          go_ret
          exact RetX.mk (by rw [HR.out]; simp) X0.out
        · have HR' : Hid (r = false) := hd (by rw [HR.out, decide_eq_false ha]; rfl)
          clear HR
          go_enter Try.func112, Try.ntmps112
          go_wp2
          go_ret
          exact RetX.mk (by rw [HR'.out]; rfl) X0.out
    · by_cases k4 : k = 4
      · subst k4
        have HR := hd (F4.out rfl)
        clear F1 F2 F4 F5 F0
        obtain ⟨q, hq⟩ : ∃ q, inB a 0 (i - 1) = q := ⟨_, rfl⟩
        have HQ := hd hq
        clear hq
        have hwr : IntKind.i64.wrap (i - 1) = i - 1 := IntWalk.i64_in _ (by omega)
        go_enter Try.func112, Try.ntmps112
        go_wp2_with fail
        refine (rt (HA.out _) HQ).mono ?_
        rintro e w1 ⟨rfl, rfl⟩
        cases q
        · go_wp2
          go_ret
          exact RetX.mk (by rw [HR.out, HQ.out]; rfl) X0.out
        · go_wp2
          go_ret
          exact RetX.mk (by rw [HR.out, HQ.out]; simp) X0.out
      · by_cases k56 : k = 5 ∨ k = 6
        · have HR := hd (F5.out k56)
          clear F1 F2 F4 F5 F0
          obtain ⟨q, hq⟩ : ∃ q, inB a 0 (i - 1) = q := ⟨_, rfl⟩
          have HQ := hd hq
          clear hq
          obtain ⟨q2, hq2⟩ : ∃ q, inB b 0 (i - 1) = q := ⟨_, rfl⟩
          have HQ2 := hd hq2
          clear hq2
          have hwr : IntKind.i64.wrap (i - 1) = i - 1 := IntWalk.i64_in _ (by omega)
          rcases k56 with rfl | rfl
          all_goals
            go_enter Try.func112, Try.ntmps112
            go_wp2_with fail
            refine (rt (HA.out _) HQ).mono ?_
            rintro e w1 ⟨rfl, rfl⟩
            cases q
            · go_wp2
              go_ret
              exact RetX.mk (by rw [HR.out, HQ.out]; rfl) X0.out
            · go_wp2_with fail
              refine (rt (HB.out _) HQ2).mono ?_
              rintro e w1 ⟨rfl, rfl⟩
              go_wp2
              go_ret
              exact RetX.mk (by rw [HR.out, HQ.out, HQ2.out]; simp) X0.out
        · have HR := hd (F0.out (by omega))
          clear F1 F2 F4 F5 F0
          have e2 : ¬ k = 2 := by omega
          have e3 : ¬ k = 3 := by omega
          have e5 : ¬ k = 5 := by omega
          have e6 : ¬ k = 6 := by omega
          go_enter Try.func112, Try.ntmps112
          go_wp2
          go_ret
          exact RetX.mk (by rw [HR.out]; rfl) X0.out
theorem i_isVar (n v : Int) (w : World) : Calls Try.prog 150 #[.int .i64 n, .int .i64 v] w (Ret w (.bool (inB v 1 n))) := by
  go_enter Try.func150, Try.ntmps150
  go_wp2_with fail
  refine (i_within _ _ _ _).mono ?_
  rintro e w1 ⟨rfl, rfl⟩
  go_wp2
  go_ret
  exact Ret.mk rfl
set_option maxRecDepth 100000 in
set_option maxHeartbeats 3200000 in
theorem i_gateOk (n i : Int) (g : Gat) (w : World) (hi : 0 ≤ i ∧ i ≤ 1048576) :
    Calls Try.prog 117 #[.int .i64 n, .int .i64 i, .agg #[.int .i64 g.k, .int .i64 g.a, .int .i64 g.b]] w (RetX w (.bool (gateB n i g))) := by
  have hF1 := @gateB1 n i g
  have hF2 := @gateB23 n i g
  have hF4 := @gateB4 n i g
  have hF5 := @gateB56 n i g
  have hF0 := @gateB0 n i g
  obtain ⟨k, a, b⟩ := g
  dsimp only at *
  have F1 := hd hF1
  have F2 := hd hF2
  have F4 := hd hF4
  have F5 := hd hF5
  have F0 := hd hF0
  clear hF1 hF2 hF4 hF5 hF0
  generalize gateB n i ⟨k, a, b⟩ = r at *
  have X0 : Hid (Ext w (w.alloc (.cells #[.int .i64 k, .int .i64 a, .int .i64 b] 82))) := hd (Ext.new _ _)
  have hz := beq_dec b 0
  have hza := beq_dec a 0
  have HN := hd (fun w => i_isVar n a w)
  have HA := hd (fun w => i_within a 0 (i - 1) w)
  have HB := hd (fun w => i_within b 0 (i - 1) w)
  by_cases k1 : k = 1
  · subst k1
    have HR := hd (F1.out rfl)
    clear F1 F2 F4 F5 F0
    obtain ⟨q, hq⟩ : ∃ q, inB a 1 n = q := ⟨_, rfl⟩
    have HQ := hd hq
    clear hq
    go_enter Try.func117, Try.ntmps117
    go_wp2_with fail
    refine (rt (HN.out _) HQ).mono ?_
    rintro e w1 ⟨rfl, rfl⟩
    cases q
    · go_wp2
      go_ret
      exact RetX.mk (by rw [HR.out, HQ.out]; rfl) X0.out
    · go_wp2
      go_ret
      exact RetX.mk (by rw [HR.out, HQ.out]; simp) X0.out
  · by_cases k23 : k = 2 ∨ k = 3
    · have HR := hd (F2.out k23)
      clear F1 F2 F4 F5 F0
      rcases k23 with rfl | rfl
      all_goals
        by_cases ha : a = 0
        · subst ha
          go_enter Try.func117, Try.ntmps117
          go_wp2
          go_ret
          exact RetX.mk (by rw [HR.out]; simp) X0.out
        · have HR' : Hid (r = false) := hd (by rw [HR.out, decide_eq_false ha]; rfl)
          clear HR
          go_enter Try.func117, Try.ntmps117
          go_wp2
          go_ret
          exact RetX.mk (by rw [HR'.out]; rfl) X0.out
    · by_cases k4 : k = 4
      · subst k4
        have HR := hd (F4.out rfl)
        clear F1 F2 F4 F5 F0
        obtain ⟨q, hq⟩ : ∃ q, inB a 0 (i - 1) = q := ⟨_, rfl⟩
        have HQ := hd hq
        clear hq
        have hwr : IntKind.i64.wrap (i - 1) = i - 1 := IntWalk.i64_in _ (by omega)
        go_enter Try.func117, Try.ntmps117
        go_wp2_with fail
        refine (rt (HA.out _) HQ).mono ?_
        rintro e w1 ⟨rfl, rfl⟩
        cases q
        · go_wp2
          go_ret
          exact RetX.mk (by rw [HR.out, HQ.out]; rfl) X0.out
        · go_wp2
          go_ret
          exact RetX.mk (by rw [HR.out, HQ.out]; simp) X0.out
      · by_cases k56 : k = 5 ∨ k = 6
        · have HR := hd (F5.out k56)
          clear F1 F2 F4 F5 F0
          obtain ⟨q, hq⟩ : ∃ q, inB a 0 (i - 1) = q := ⟨_, rfl⟩
          have HQ := hd hq
          clear hq
          obtain ⟨q2, hq2⟩ : ∃ q, inB b 0 (i - 1) = q := ⟨_, rfl⟩
          have HQ2 := hd hq2
          clear hq2
          have hwr : IntKind.i64.wrap (i - 1) = i - 1 := IntWalk.i64_in _ (by omega)
          rcases k56 with rfl | rfl
          all_goals
            go_enter Try.func117, Try.ntmps117
            go_wp2_with fail
            refine (rt (HA.out _) HQ).mono ?_
            rintro e w1 ⟨rfl, rfl⟩
            cases q
            · go_wp2
              go_ret
              exact RetX.mk (by rw [HR.out, HQ.out]; rfl) X0.out
            · go_wp2_with fail
              refine (rt (HB.out _) HQ2).mono ?_
              rintro e w1 ⟨rfl, rfl⟩
              go_wp2
              go_ret
              exact RetX.mk (by rw [HR.out, HQ.out, HQ2.out]; simp) X0.out
        · have HR := hd (F0.out (by omega))
          clear F1 F2 F4 F5 F0
          have e2 : ¬ k = 2 := by omega
          have e3 : ¬ k = 3 := by omega
          have e5 : ¬ k = 5 := by omega
          have e6 : ¬ k = 6 := by omega
          go_enter Try.func117, Try.ntmps117
          go_wp2
          go_ret
          exact RetX.mk (by rw [HR.out]; rfl) X0.out
set_option maxRecDepth 100000 in
set_option maxHeartbeats 1600000 in
theorem s_l6Good (n : Int) (gs : List Gat) (v : Value) (w : World) (h : Rd_GateS w v gs) (b : Bd_GateS gs) :
    Calls Try.prog 55 #[.int .i64 n, v] w (RetX w (.bool (circB n gs))) := by
  obtain ⟨A, c, rfl, h1, h2, ha⟩ := h.form
  clear h
  unfold Bd_GateS at b
  obtain ⟨q1, hq1⟩ : ∃ q, inB n 0 12 = q := ⟨_, rfl⟩
  obtain ⟨q2, hq2⟩ : ∃ q, inB (gs.length : Int) 1 200 = q := ⟨_, rfl⟩
  have HF : Hid (circB n gs = (q1 && (q2 && gatesF n 0 gs))) := hd (by unfold circB; rw [hq1, hq2])
  have HQ1 := hd hq1
  have HQ2 := hd hq2
  clear hq1 hq2
  go_enter Try.func55, Try.ntmps55
  go_wp2_with fail
  refine (rt (s_l2Vars n _) HQ1).mono ?_
  rintro e w1 ⟨rfl, rfl⟩
  cases q1
  · go_wp2
    go_ret
    exact RetX.mk (by rw [HF.out]; rfl) (Ext.refl _)
  · go_wp2_with fail
    refine (rt (s_l1In _ _ _ _) HQ2).mono ?_
    rintro e w1 ⟨rfl, rfl⟩
    cases q2
    · go_wp2
      go_ret
      exact RetX.mk (by rw [HF.out]; rfl) (Ext.refl _)
    · have HF' : Hid (circB n gs = gatesF n 0 gs) := hd (by rw [HF.out]; rfl)
      clear HF
      go_wp2
      go_loopw [5] (fun i wr => ∃ k : Nat, k ≤ gs.length ∧ i = .int .i64 k ∧ Hid (gatesF n 0 gs = gatesF n k (gs.drop k)) ∧ Ext w wr) (fun i _ => gs.length - (intOf i).toNat)
      case atStart => exact ⟨0, by omega, rfl, hd rfl, Ext.refl _⟩
      case round =>
        obtain ⟨k, hk, rfl, HR, hx⟩ := hrel
        have HX := hd hx
        clear hx
        by_cases hlt : k < gs.length
        · obtain ⟨a, rfl, d0, d1, d2⟩ := Rd_GateS.at_ ha hlt
          have c0 := HX.out.cell d0
          have c1 := HX.out.cell d1
          have c2 := HX.out.cell d2
          clear d0 d1 d2
          have hdc : gs.drop k = gs[k] :: gs.drop (k + 1) := List.drop_eq_getElem_cons hlt
          rw [hdc] at HR
          clear hdc
          generalize gs[k] = g at *
          obtain ⟨q, hq⟩ : ∃ q, gateB n k g = q := ⟨_, rfl⟩
          have HQ := hd hq
          clear hq
          have HG := hd (fun w => s_l6Gate n k g w (by omega))
          obtain ⟨x, y, z⟩ := g
          dsimp only at c0 c1 c2
          go_wp2_with fail
          refine (rtx (HG.out _) HQ).mono ?_
          rintro e w2 ⟨rfl, hx2⟩
          have HX2 := hd (HX.out.trans hx2)
          clear hx2
          cases q
          · go_wp2
            go_ret
            exact RetX.mk (by rw [HF'.out, HR.out, gatesF, HQ.out]; rfl) HX2.out
          · go_wp2
            go_roundw
            case rel => exact ⟨k + 1, by omega, by go_num, hd (by rw [HR.out, gatesF, HQ.out]; rfl), HX2.out⟩
            case measure => simp [intOf]; omega
        · go_wp2
          go_ret
          exact RetX.mk (by rw [HF'.out, HR.out, List.drop_eq_nil_of_le (by omega)]; rfl) HX.out
set_option maxRecDepth 100000 in
set_option maxHeartbeats 1600000 in
theorem i_IsCircuit (n : Int) (gs : List Gat) (v : Value) (w : World) (h : Rd_GateS w v gs) (b : Bd_GateS gs) :
    Calls Try.prog 61 #[.int .i64 n, v] w (RetX w (.bool (circB n gs))) := by
  obtain ⟨A, c, rfl, h1, h2, ha⟩ := h.form
  clear h
  unfold Bd_GateS at b
  obtain ⟨q1, hq1⟩ : ∃ q, inB n 0 12 = q := ⟨_, rfl⟩
  obtain ⟨q2, hq2⟩ : ∃ q, inB (gs.length : Int) 1 200 = q := ⟨_, rfl⟩
  have HF : Hid (circB n gs = (q1 && (q2 && gatesF n 0 gs))) := hd (by unfold circB; rw [hq1, hq2])
  have HQ1 := hd hq1
  have HQ2 := hd hq2
  clear hq1 hq2
  go_enter Try.func61, Try.ntmps61
  go_wp2
  go_loopw [9, 5, 6] (fun i _ _ wr => ∃ k : Nat, k ≤ gs.length ∧ i = .int .i64 k ∧ Hid (gatesF n 0 gs = gatesF n k (gs.drop k)) ∧ Ext w wr) (fun i _ _ _ => gs.length - (intOf i).toNat)
  case atStart => exact ⟨0, by omega, rfl, hd rfl, Ext.refl _⟩
  case round =>
    obtain ⟨k, hk, rfl, HR, hx⟩ := hrel
    have HX := hd hx
    clear hx
    by_cases hlt : k < gs.length
    · obtain ⟨a, rfl, d0, d1, d2⟩ := Rd_GateS.at_ ha hlt
      have c0 := HX.out.cell d0
      have c1 := HX.out.cell d1
      have c2 := HX.out.cell d2
      clear d0 d1 d2
      have hdc : gs.drop k = gs[k] :: gs.drop (k + 1) := List.drop_eq_getElem_cons hlt
      rw [hdc] at HR
      clear hdc
      generalize gs[k] = g at *
      obtain ⟨q, hq⟩ : ∃ q, gateB n k g = q := ⟨_, rfl⟩
      have HQ := hd hq
      clear hq
      have HG := hd (fun w => i_gateOk n k g w (by omega))
      obtain ⟨x, y, z⟩ := g
      dsimp only at c0 c1 c2
      have HX1 := hd (HX.out.alloc (.cells #[.int .i64 x, .int .i64 y, .int .i64 z] 82))
      go_wp2_with fail
      refine (rtx (HG.out _) HQ).mono ?_
      rintro e w2 ⟨rfl, hx2⟩
      have HX2 := hd (HX1.out.trans hx2)
      clear hx2
      cases q
      · go_wp2
        go_ret
        exact RetX.mk (by rw [HF.out, HR.out, gatesF, HQ.out]; simp) HX2.out
      · go_wp2
        go_roundw
        case rel => exact ⟨k + 1, by omega, by go_num, hd (by rw [HR.out, gatesF, HQ.out]; rfl), HX2.out⟩
        case measure => simp [intOf]; omega
    · have HE : Hid (circB n gs = (q1 && q2)) := hd (by rw [HF.out, HR.out, List.drop_eq_nil_of_le (by omega), gatesF]; simp)
      go_wp2_with fail
      refine (rt (i_varsOk n _) HQ1).mono ?_
      rintro e w1 ⟨rfl, rfl⟩
      cases q1
      · go_wp2
        go_ret
        exact RetX.mk (by rw [HE.out]; rfl) HX.out
      · go_wp2_with fail
        refine (rt (i_within _ _ _ _) HQ2).mono ?_
        rintro e w1 ⟨rfl, rfl⟩
        go_wp2
        go_ret
        exact RetX.mk (by rw [HE.out]; rfl) HX.out
end Go.Proofs.Ytjeeffmpfdhppaa
