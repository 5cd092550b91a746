/-
  IsInterpolant of both sides. Conditions: sizes up to 2^20.
-/
import Derived.Test.YtjeeffmpfdhppaaNeedJ
import Derived.Test.YtjeeffmpfdhppaaBroken
namespace Go.Proofs.Ytjeeffmpfdhppaa
open Go.RowKit
def interpV (f : Cnf) (k : Int) (gs : List Gat) : Bool := if circAskB f k gs then plainB (bothV f k.toNat f.n.toNat) gs && decide (brkN f k.toNat gs < 0) else false
set_option maxRecDepth 100000 in
set_option maxHeartbeats 1600000 in
theorem s_IsInterpolant (f : Cnf) (v : Value) (k : Int) (gs : List Gat) (gv : Value) (w : World) (h : Rd_Cnf w v f) (b : Bd_Cnf f) (_ : I64_Cnf f) (_ : I64 k) (hgs : Rd_GateS w gv gs) (bg : Bd_GateS gs) (_ : I64_GateS gs) :
    Calls Try.prog 25 #[v, .int .i64 k, gv] w (RetX w (.tuple #[.bool (interpV f k gs), .bool (circAskB f k gs)])) := by
  obtain ⟨A, c, rfl⟩ := h.form
  have X0 : Hid (Ext w (w.alloc (.cells #[.int .i64 f.n, .slice A f.cs.length c] 31))) := hd (Ext.new _ _)
  have HB0 := hd (blk_new (w := w) (.cells #[.int .i64 f.n, .slice A f.cs.length c] 31) rfl)
  have HV := hd (h.ext X0.out)
  have HGS := hd (hgs.ext X0.out)
  have HASK := hd (fun w' hx => s_l29Asked f (.agg #[.int .i64 f.n, .slice A f.cs.length c]) k w' hx b)
  have HCI := hd (fun w' hx => s_l6Good f.n gs gv w' hx bg)
  obtain ⟨q1, hq1⟩ : ∃ q, askB f k = q := ⟨_, rfl⟩
  obtain ⟨q2, hq2⟩ : ∃ q, circB f.n gs = q := ⟨_, rfl⟩
  have HQ1 := hd hq1
  have HQ2 := hd hq2
  obtain ⟨A3, c3, rfl, -⟩ := hgs.form
  have HP : Hid (circAskB f k gs = (q1 && q2)) := hd (by unfold circAskB; rw [hq1, hq2])
  cases q1
  · have HF : Hid (interpV f k gs = false ∧ circAskB f k gs = false) := hd ⟨by unfold interpV; rw [HP.out]; rfl, HP.out⟩
    clear h hgs hq1 hq2
    obtain ⟨c0, c1⟩ := blk2 HB0.out
    go_enter Try.func25, Try.ntmps25
    go_wp2_with fail
    refine (rtx (HASK.out _ HV.out) HQ1).mono ?_
    rintro e w1 ⟨rfl, hx⟩
    have X1 := hd (X0.out.trans hx)
    clear hx
    go_wp2
    go_ret2
    exact RetX.mk (by rw [HF.out.1, HF.out.2]; rfl) X1.out
  · obtain ⟨hgood, j, rfl, hj⟩ := ask_inv hq1
    have HFB := hd (fun w' hx (hc : circB f.n gs = true) hr => s_l29Broken f (.agg #[.int .i64 f.n, .slice A f.cs.length c]) (.slice A3 gs.length c3) j gs w' hx hr b hgood hj hc)
    have HPL := hd (fun w' hx (hc : circB f.n gs = true) hr => s_l29Plain f (.agg #[.int .i64 f.n, .slice A f.cs.length c]) (.slice A3 gs.length c3) j gs w' hx hr b hgood hj hc)
    cases q2
    · have HF : Hid (interpV f j gs = false ∧ circAskB f j gs = false) := hd ⟨by unfold interpV; rw [HP.out]; rfl, HP.out⟩
      clear h hgs hq1 hq2 HFB HPL
      go_enter Try.func25, Try.ntmps25
      go_wp2_with fail
      refine (rtx (HASK.out _ HV.out) HQ1).mono ?_
      rintro e w1 ⟨rfl, hx⟩
      have X1 := hd (X0.out.trans hx)
      have G1 := hd (HGS.out.ext hx)
      obtain ⟨c0, c1⟩ := blk2 (hx.heap HB0.out)
      clear hx
      go_wp2_with fail
      refine (rtx (HCI.out _ G1.out) HQ2).mono ?_
      rintro e w2 ⟨rfl, hx⟩
      have X2 := hd (X1.out.trans hx)
      clear hx c0 c1
      go_wp2
      go_ret2
      exact RetX.mk (by rw [HF.out.1, HF.out.2]; rfl) X2.out
    · have HF : Hid (interpV f j gs = (plainB (bothV f j f.n.toNat) gs && decide (brkN f j gs < 0)) ∧ circAskB f j gs = true) := hd ⟨by unfold interpV; rw [HP.out]; simp, HP.out⟩
      have HBN := hd (HFB.out · · hq2 ·)
      have HPN := hd (HPL.out · · hq2 ·)
      generalize brkN f j gs = R at *
      obtain ⟨q3, hq3⟩ : ∃ q, plainB (bothV f j f.n.toNat) gs = q := ⟨_, rfl⟩
      rw [hq3] at HPN HF
      clear h hgs hq1 hq2 hq3 HFB HPL
      go_enter Try.func25, Try.ntmps25
      go_wp2_with fail
      refine (rtx (HASK.out _ HV.out) HQ1).mono ?_
      rintro e w1 ⟨rfl, hx⟩
      have X1 := hd (X0.out.trans hx)
      have G1 := hd (HGS.out.ext hx)
      have V1 := hd (HV.out.ext hx)
      have B1 := hd (hx.heap HB0.out)
      obtain ⟨c0, c1⟩ := blk2 B1.out
      clear hx
      go_wp2_with fail
      refine (rtx (HCI.out _ G1.out) HQ2).mono ?_
      rintro e w2 ⟨rfl, hx⟩
      have X2 := hd (X1.out.trans hx)
      have G2 := hd (G1.out.ext hx)
      have V2 := hd (V1.out.ext hx)
      have B2 := hd (hx.heap B1.out)
      clear hx c0 c1
      obtain ⟨c0, c1⟩ := blk2 B2.out
      go_wp2_with fail
      refine (HPN.out _ V2.out G2.out).mono ?_
      rintro e w3 ⟨rfl, hx⟩
      have X3 := hd (X2.out.trans hx)
      have G3 := hd (G2.out.ext hx)
      have V3 := hd (V2.out.ext hx)
      have B3 := hd (hx.heap B2.out)
      clear hx c0 c1
      cases q3
      · go_wp2
        go_ret2
        exact RetX.mk (by rw [HF.out.1, HF.out.2]; rfl) X3.out
      · obtain ⟨c0, c1⟩ := blk2 B3.out
        go_wp2_with fail
        refine (HBN.out _ V3.out G3.out).mono ?_
        rintro e w4 ⟨rfl, hx⟩
        have X4 := hd (X3.out.trans hx)
        clear hx c0 c1
        go_wp2
        go_ret2
        exact RetX.mk (by rw [HF.out.1, HF.out.2]; simp) X4.out
set_option maxRecDepth 100000 in
set_option maxHeartbeats 1600000 in
theorem i_IsInterpolant (f : Cnf) (v : Value) (k : Int) (gs : List Gat) (gv : Value) (w : World) (h : Rd_Cnf w v f) (b : Bd_Cnf f) (_ : I64_Cnf f) (_ : I64 k) (hgs : Rd_GateS w gv gs) (bg : Bd_GateS gs) (_ : I64_GateS gs) :
    Calls Try.prog 26 #[v, .int .i64 k, gv] w (RetX w (.tuple #[.bool (interpV f k gs), .bool (circAskB f k gs)])) := by
  obtain ⟨A, c, rfl⟩ := h.form
  have X0 : Hid (Ext w (w.alloc (.cells #[.int .i64 f.n, .slice A f.cs.length c] 31))) := hd (Ext.new _ _)
  have HB0 := hd (blk_new (w := w) (.cells #[.int .i64 f.n, .slice A f.cs.length c] 31) rfl)
  have HV := hd (h.ext X0.out)
  have HGS := hd (hgs.ext X0.out)
  have HCI := hd (fun w' hx => i_IsCircuit f.n gs gv w' hx bg)
  obtain ⟨q1, hq1⟩ : ∃ q, askB f k = q := ⟨_, rfl⟩
  obtain ⟨q2, hq2⟩ : ∃ q, circB f.n gs = q := ⟨_, rfl⟩
  have HQ1 := hd hq1
  have HQ2 := hd hq2
  obtain ⟨A3, c3, rfl, -⟩ := hgs.form
  have HP : Hid (circAskB f k gs = (q1 && q2)) := hd (by unfold circAskB; rw [hq1, hq2])
  cases q1
  · have HF : Hid (interpV f k gs = false ∧ circAskB f k gs = false) := hd ⟨by unfold interpV; rw [HP.out]; rfl, HP.out⟩
    have HNO := hd (i_splitOf_no f _ k _ HV.out b hq1)
    clear h hgs hq1 hq2
    obtain ⟨c0, c1⟩ := blk2 HB0.out
    go_enter Try.func26, Try.ntmps26
    go_wp2_with fail
    refine HNO.out.mono ?_
    rintro e w1 ⟨rfl, hx⟩
    have X1 := hd (X0.out.trans hx)
    clear hx
    go_wp2
    go_ret2
    exact RetX.mk (by rw [HF.out.1, HF.out.2]; rfl) X1.out
  · obtain ⟨hgood, j, rfl, hj⟩ := ask_inv hq1
    have HYES := hd (i_splitOf_yes f _ j _ HV.out b hgood hj)
    have HN := hd (filt12 hgood (fun v => inS (f.cs.take j) v && inS (f.cs.drop j) v))
    have hbl : (bothV f j f.n.toNat).length ≤ 1073741824 := Nat.le_trans HN.out (by decide)
    clear HN
    have HFB := hd (fun w' p hx (hc : circB f.n gs = true) hr => i_brokenSide f j (bothV f j f.n.toNat) p (.slice A3 gs.length c3) gs w' hx hr hgood hj hc)
    have HPL := hd (fun w' p hx (hc : circB f.n gs = true) hr => i_onShared f j (bothV f j f.n.toNat) p (.slice A3 gs.length c3) gs w' hx hr hc hbl)
    cases q2
    · have HF : Hid (interpV f j gs = false ∧ circAskB f j gs = false) := hd ⟨by unfold interpV; rw [HP.out]; rfl, HP.out⟩
      clear h hgs hq1 hq2 HFB HPL
      obtain ⟨c0, c1⟩ := blk2 HB0.out
      go_enter Try.func26, Try.ntmps26
      go_wp2_with fail
      refine HYES.out.mono ?_
      rintro e w1 ⟨p, rfl, hp, hx⟩
      clear c0 c1
      have X1 := hd (X0.out.trans hx)
      have G1 := hd (HGS.out.ext hx)
      obtain ⟨c0, c1⟩ := blk2 (hx.heap HB0.out)
      clear hx hp
      go_wp2_with fail
      refine (rtx (HCI.out _ G1.out) HQ2).mono ?_
      rintro e w2 ⟨rfl, hx⟩
      have X2 := hd (X1.out.trans hx)
      clear hx c0 c1
      go_wp2
      go_ret2
      exact RetX.mk (by rw [HF.out.1, HF.out.2]; rfl) X2.out
    · have HF : Hid (interpV f j gs = (plainB (bothV f j f.n.toNat) gs && decide (brkN f j gs < 0)) ∧ circAskB f j gs = true) := hd ⟨by unfold interpV; rw [HP.out]; simp, HP.out⟩
      have HBN := hd (HFB.out · · · hq2 ·)
      have HPN := hd (HPL.out · · · hq2 ·)
      generalize brkN f j gs = R at *
      obtain ⟨q3, hq3⟩ : ∃ q, plainB (bothV f j f.n.toNat) gs = q := ⟨_, rfl⟩
      rw [hq3] at HPN HF
      clear h hgs hq1 hq2 hq3 HFB HPL
      obtain ⟨c0, c1⟩ := blk2 HB0.out
      go_enter Try.func26, Try.ntmps26
      go_wp2_with fail
      refine HYES.out.mono ?_
      rintro e w1 ⟨p, rfl, hp, hx⟩
      clear c0 c1
      have X1 := hd (X0.out.trans hx)
      have G1 := hd (HGS.out.ext hx)
      have V1 := hd (HV.out.ext hx)
      have B1 := hd (hx.heap HB0.out)
      have P1 := hd hp.rd
      obtain ⟨c0, c1⟩ := blk2 B1.out
      clear hx hp
      go_wp2_with fail
      refine (rtx (HCI.out _ G1.out) HQ2).mono ?_
      rintro e w2 ⟨rfl, hx⟩
      have X2 := hd (X1.out.trans hx)
      have G2 := hd (G1.out.ext hx)
      have V2 := hd (V1.out.ext hx)
      have B2 := hd (hx.heap B1.out)
      have P2 := hd (P1.out.ext hx)
      clear hx c0 c1
      obtain ⟨c0, c1⟩ := blk2 B2.out
      go_wp2_with fail
      refine (HPN.out _ _ P2.out G2.out).mono ?_
      rintro e w3 ⟨rfl, hx⟩
      have X3 := hd (X2.out.trans hx)
      have G3 := hd (G2.out.ext hx)
      have V3 := hd (V2.out.ext hx)
      have B3 := hd (hx.heap B2.out)
      have P3 := hd (P2.out.ext hx)
      clear hx c0 c1
      cases q3
      · go_wp2
        go_ret2
        exact RetX.mk (by rw [HF.out.1, HF.out.2]; rfl) X3.out
      · obtain ⟨c0, c1⟩ := blk2 B3.out
        go_wp2_with fail
        refine (HBN.out _ _ P3.out G3.out).mono ?_
        rintro e w4 ⟨rfl, hx⟩
        have X4 := hd (X3.out.trans hx)
        clear hx c0 c1
        go_wp2
        go_ret2
        exact RetX.mk (by rw [HF.out.1, HF.out.2]; simp) X4.out
end Go.Proofs.Ytjeeffmpfdhppaa
