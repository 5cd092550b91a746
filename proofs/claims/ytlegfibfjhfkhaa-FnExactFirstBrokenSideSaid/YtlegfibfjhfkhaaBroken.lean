/-
  FirstBrokenSide of both sides. Conditions: sizes up to 2^20.
-/
import Derived.Test.YtlegfibfjhfkhaaBrokI
namespace Go.Proofs.Ytlegfibfjhfkhaa
open Go.RowKit
/-! ### FirstBrokenSide -/
def circAskB (f : Cnf) (k : Int) (gs : List Gat) : Bool := askB f k && circB f.n gs
def firstBrk (f : Cnf) (k : Int) (gs : List Gat) : Int := if circAskB f k gs then (if brkN f k.toNat gs < 0 then 0 else brkN f k.toNat gs) else 0
def firstBrkB (f : Cnf) (k : Int) (gs : List Gat) : Bool := circAskB f k gs && !decide (brkN f k.toNat gs < 0)
set_option maxHeartbeats 1600000 in
theorem s_FirstBrokenSide (f : Cnf) (v : Value) (k : Int) (gs : List Gat) (gv : Value) (w : World) (h : Rd_Cnf w v f) (b : Bd_Cnf f) (_ : I64_Cnf f) (_ : I64 k) (hgs : Rd_GateS w gv gs) (bg : Bd_GateS gs) (_ : I64_GateS gs) :
    Calls Try.prog 22 #[v, .int .i64 k, gv] w (RetX w (.tuple #[.int .i64 (firstBrk f k gs), .bool (firstBrkB f k gs)])) := by
  obtain ⟨A, c, rfl⟩ := h.form
  have X0 : Hid (Ext w (w.alloc (.cells #[.int .i64 f.n, .slice A f.cs.length c] 26))) := hd (Ext.new _ _)
  have HB0 := hd (blk_new (w := w) (.cells #[.int .i64 f.n, .slice A f.cs.length c] 26) rfl)
  have HV := hd (h.ext X0.out)
  have HGS := hd (hgs.ext X0.out)
  have HASK := hd (fun w' hx => s_l29Asked f (.agg #[.int .i64 f.n, .slice A f.cs.length c]) k w' hx b)
  have HCI := hd (fun w' hx => s_l6Good f.n gs gv w' hx bg)
  obtain ⟨q1, hq1⟩ : ∃ q, askB f k = q := ⟨_, rfl⟩
  obtain ⟨q2, hq2⟩ : ∃ q, circB f.n gs = q := ⟨_, rfl⟩
  have HQ1 := hd hq1
  have HQ2 := hd hq2
  obtain ⟨A3, c3, rfl, -⟩ := hgs.form
  have HP : Hid (circAskB f k gs = (q1 && q2)) := hd (by unfold circAskB; rw [hq1, hq2])
  cases q1
  · have HF : Hid (firstBrk f k gs = 0 ∧ firstBrkB f k gs = false) := hd ⟨by unfold firstBrk; rw [HP.out]; rfl, by unfold firstBrkB; rw [HP.out]; rfl⟩
    clear h hgs hq1 hq2
    obtain ⟨c0, c1⟩ := blk2 HB0.out
    go_enter Try.func22, Try.ntmps22
    go_wp2_with fail
    refine (rtx (HASK.out _ HV.out) HQ1).mono ?_
    rintro e w1 ⟨rfl, hx⟩
    have X1 := hd (X0.out.trans hx)
    clear hx
    go_wp2
    go_ret2
    exact RetX.mk (by rw [HF.out.1, HF.out.2]; rfl) X1.out
  · obtain ⟨hgood, j, rfl, hj⟩ := ask_inv hq1
    have HFB := hd (fun w' hx (hc : circB f.n gs = true) hr => s_l29Broken f (.agg #[.int .i64 f.n, .slice A f.cs.length c]) (.slice A3 gs.length c3) j gs w' hx hr b hgood hj hc)
    cases q2
    · have HF : Hid (firstBrk f j gs = 0 ∧ firstBrkB f j gs = false) := hd ⟨by unfold firstBrk; rw [HP.out]; rfl, by unfold firstBrkB; rw [HP.out]; rfl⟩
      clear h hgs hq1 hq2 HFB
      go_enter Try.func22, Try.ntmps22
      go_wp2_with fail
      refine (rtx (HASK.out _ HV.out) HQ1).mono ?_
      rintro e w1 ⟨rfl, hx⟩
      have X1 := hd (X0.out.trans hx)
      have G1 := hd (HGS.out.ext hx)
      obtain ⟨c0, c1⟩ := blk2 (hx.heap HB0.out)
      clear hx
      go_wp2_with fail
      refine (rtx (HCI.out _ G1.out) HQ2).mono ?_
      rintro e w2 ⟨rfl, hx⟩
      have X2 := hd (X1.out.trans hx)
      clear hx c0 c1
      go_wp2
      go_ret2
      exact RetX.mk (by rw [HF.out.1, HF.out.2]; rfl) X2.out
    · have HF : Hid (firstBrk f j gs = (if brkN f j gs < 0 then 0 else brkN f j gs) ∧ firstBrkB f j gs = !decide (brkN f j gs < 0)) := hd ⟨by unfold firstBrk; rw [HP.out]; simp, by unfold firstBrkB; rw [HP.out]; simp⟩
      have HBN := hd (HFB.out · · hq2 ·)
      generalize brkN f j gs = R at *
      clear h hgs hq1 hq2 HFB
      go_enter Try.func22, Try.ntmps22
      go_wp2_with fail
      refine (rtx (HASK.out _ HV.out) HQ1).mono ?_
      rintro e w1 ⟨rfl, hx⟩
      have X1 := hd (X0.out.trans hx)
      have G1 := hd (HGS.out.ext hx)
      have V1 := hd (HV.out.ext hx)
      have B1 := hd (hx.heap HB0.out)
      obtain ⟨c0, c1⟩ := blk2 B1.out
      clear hx
      go_wp2_with fail
      refine (rtx (HCI.out _ G1.out) HQ2).mono ?_
      rintro e w2 ⟨rfl, hx⟩
      have X2 := hd (X1.out.trans hx)
      have G2 := hd (G1.out.ext hx)
      have V2 := hd (V1.out.ext hx)
      have B2 := hd (hx.heap B1.out)
      clear hx c0 c1
      obtain ⟨c0, c1⟩ := blk2 B2.out
      go_wp2_with fail
      refine (HBN.out _ V2.out G2.out).mono ?_
      rintro e w3 ⟨rfl, hx⟩
      have X3 := hd (X2.out.trans hx)
      clear hx c0 c1
      by_cases hR : R < 0
      · have HF' : Hid (firstBrk f j gs = 0 ∧ firstBrkB f j gs = false) := hd (by rw [HF.out.1, HF.out.2, if_pos hR, decide_eq_true hR]; exact ⟨rfl, rfl⟩)
        go_wp2
        go_ret2
        exact RetX.mk (by rw [HF'.out.1, HF'.out.2]; rfl) X3.out
      · have HF' : Hid (firstBrk f j gs = R ∧ firstBrkB f j gs = true) := hd (by rw [HF.out.1, HF.out.2, if_neg hR, decide_eq_false hR]; exact ⟨rfl, rfl⟩)
        go_wp2
        go_ret2
        exact RetX.mk (by rw [HF'.out.1, HF'.out.2]; rfl) X3.out
set_option maxHeartbeats 1600000 in
theorem i_FirstBrokenSide (f : Cnf) (v : Value) (k : Int) (gs : List Gat) (gv : Value) (w : World) (h : Rd_Cnf w v f) (b : Bd_Cnf f) (_ : I64_Cnf f) (_ : I64 k) (hgs : Rd_GateS w gv gs) (bg : Bd_GateS gs) (_ : I64_GateS gs) :
    Calls Try.prog 24 #[v, .int .i64 k, gv] w (RetX w (.tuple #[.int .i64 (firstBrk f k gs), .bool (firstBrkB f k gs)])) := by
  obtain ⟨A, c, rfl⟩ := h.form
  have X0 : Hid (Ext w (w.alloc (.cells #[.int .i64 f.n, .slice A f.cs.length c] 26))) := hd (Ext.new _ _)
  have HB0 := hd (blk_new (w := w) (.cells #[.int .i64 f.n, .slice A f.cs.length c] 26) rfl)
  have HV := hd (h.ext X0.out)
  have HGS := hd (hgs.ext X0.out)
  have HCI := hd (fun w' hx => i_IsCircuit f.n gs gv w' hx bg)
  obtain ⟨q1, hq1⟩ : ∃ q, askB f k = q := ⟨_, rfl⟩
  obtain ⟨q2, hq2⟩ : ∃ q, circB f.n gs = q := ⟨_, rfl⟩
  have HQ2 := hd hq2
  obtain ⟨A3, c3, rfl, -⟩ := hgs.form
  have HP : Hid (circAskB f k gs = (q1 && q2)) := hd (by unfold circAskB; rw [hq1, hq2])
  cases q1
  · have HF : Hid (firstBrk f k gs = 0 ∧ firstBrkB f k gs = false) := hd ⟨by unfold firstBrk; rw [HP.out]; rfl, by unfold firstBrkB; rw [HP.out]; rfl⟩
    have HNO := hd (i_splitOf_no f _ k _ HV.out b hq1)
    clear h hgs hq1 hq2
    obtain ⟨c0, c1⟩ := blk2 HB0.out
    go_enter Try.func24, Try.ntmps24
    go_wp2_with fail
    refine HNO.out.mono ?_
    rintro e w1 ⟨rfl, hx⟩
    have X1 := hd (X0.out.trans hx)
    clear hx
    go_wp2
    go_ret2
    exact RetX.mk (by rw [HF.out.1, HF.out.2]; rfl) X1.out
  · obtain ⟨hgood, j, rfl, hj⟩ := ask_inv hq1
    have HYES := hd (i_splitOf_yes f _ j _ HV.out b hgood hj)
    have HFB := hd (fun w' p hx (hc : circB f.n gs = true) hr => i_brokenSide f j (bothV f j f.n.toNat) p (.slice A3 gs.length c3) gs w' hx hr hgood hj hc)
    cases q2
    · have HF : Hid (firstBrk f j gs = 0 ∧ firstBrkB f j gs = false) := hd ⟨by unfold firstBrk; rw [HP.out]; rfl, by unfold firstBrkB; rw [HP.out]; rfl⟩
      clear h hgs hq1 hq2 HFB
      go_enter Try.func24, Try.ntmps24
      go_wp2_with fail
      refine HYES.out.mono ?_
      rintro e w1 ⟨p, rfl, hp, hx⟩
      have X1 := hd (X0.out.trans hx)
      have G1 := hd (HGS.out.ext hx)
      obtain ⟨c0, c1⟩ := blk2 (hx.heap HB0.out)
      clear hx hp
      go_wp2_with fail
      refine (rtx (HCI.out _ G1.out) HQ2).mono ?_
      rintro e w2 ⟨rfl, hx⟩
      have X2 := hd (X1.out.trans hx)
      clear hx c0 c1
      go_wp2
      go_ret2
      exact RetX.mk (by rw [HF.out.1, HF.out.2]; rfl) X2.out
    · have HF : Hid (firstBrk f j gs = (if brkN f j gs < 0 then 0 else brkN f j gs) ∧ firstBrkB f j gs = !decide (brkN f j gs < 0)) := hd ⟨by unfold firstBrk; rw [HP.out]; simp, by unfold firstBrkB; rw [HP.out]; simp⟩
      have HBN := hd (HFB.out · · · hq2 ·)
      generalize brkN f j gs = R at *
      clear h hgs hq1 hq2 HFB
      go_enter Try.func24, Try.ntmps24
      go_wp2_with fail
      refine HYES.out.mono ?_
      rintro e w1 ⟨p, rfl, hp, hx⟩
      have X1 := hd (X0.out.trans hx)
      have G1 := hd (HGS.out.ext hx)
      have P1 := hd hp.rd
      have B1 := hd (hx.heap HB0.out)
      obtain ⟨c0, c1⟩ := blk2 B1.out
      clear hx hp
      go_wp2_with fail
      refine (rtx (HCI.out _ G1.out) HQ2).mono ?_
      rintro e w2 ⟨rfl, hx⟩
      have X2 := hd (X1.out.trans hx)
      have G2 := hd (G1.out.ext hx)
      have P2 := hd (P1.out.ext hx)
      clear hx c0 c1
      go_wp2_with fail
      refine (HBN.out _ _ P2.out G2.out).mono ?_
      rintro e w3 ⟨rfl, hx⟩
      have X3 := hd (X2.out.trans hx)
      clear hx
      by_cases hR : R < 0
      · have HF' : Hid (firstBrk f j gs = 0 ∧ firstBrkB f j gs = false) := hd (by rw [HF.out.1, HF.out.2, if_pos hR, decide_eq_true hR]; exact ⟨rfl, rfl⟩)
        go_wp2
        go_ret2
        exact RetX.mk (by rw [HF'.out.1, HF'.out.2]; rfl) X3.out
      · have HF' : Hid (firstBrk f j gs = R ∧ firstBrkB f j gs = true) := hd (by rw [HF.out.1, HF.out.2, if_neg hR, decide_eq_false hR]; exact ⟨rfl, rfl⟩)
        go_wp2
        go_ret2
        exact RetX.mk (by rw [HF'.out.1, HF'.out.2]; rfl) X3.out
end Go.Proofs.Ytlegfibfjhfkhaa
