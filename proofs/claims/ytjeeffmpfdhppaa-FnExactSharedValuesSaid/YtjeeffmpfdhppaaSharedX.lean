/-
  SharedValues: the program's side. Conditions: sizes up to 2^20.
-/
import Derived.Test.YtjeeffmpfdhppaaShared
namespace Go.Proofs.Ytjeeffmpfdhppaa
open Go.RowKit
set_option maxRecDepth 100000 in
set_option maxHeartbeats 6400000 in
theorem i_SharedValues (f : Cnf) (v : Value) (k : Int) (gs : List Gat) (gv : Value) (w : World) (h : Rd_Cnf w v f) (b : Bd_Cnf f) (_ : I64_Cnf f) (_ : I64 k) (hgs : Rd_GateS w gv gs) (bg : Bd_GateS gs) (_ : I64_GateS gs) :
    Calls Try.prog 17 #[v, .int .i64 k, gv] w (RetB2 w (shV f k gs) (shAskB f k gs)) := by
  obtain ⟨A, c, rfl⟩ := h.form
  have X0 : Hid (Ext w (w.alloc (.cells #[.int .i64 f.n, .slice A f.cs.length c] 31))) := hd (Ext.new _ _)
  have HB0 := hd (blk_new (w := w) (.cells #[.int .i64 f.n, .slice A f.cs.length c] 31) rfl)
  have HV := hd (h.ext X0.out)
  have HB := hd b
  have HGS := hd (hgs.ext X0.out)
  have HCI := hd (fun w' hx => i_IsCircuit f.n gs gv w' hx bg)
  obtain ⟨q1, hq1⟩ : ∃ q, sharedB f k = q := ⟨_, rfl⟩
  have HQ1 := hd hq1
  obtain ⟨q2, hq2⟩ : ∃ q, circB f.n gs = q := ⟨_, rfl⟩
  have HQ2 := hd hq2
  obtain ⟨A3, c3, rfl, -⟩ := hgs.form
  cases q1
  · have HA : Hid (shAskB f k gs = false) := hd (by
      unfold shAskB circAskB
      unfold sharedB at hq1
      rw [Bool.and_eq_false_iff] at hq1
      rcases hq1 with h | h <;> rw [h] <;> simp)
    have HF : Hid (shV f k gs = []) := hd (by unfold shV; rw [HA.out]; rfl)
    clear h hgs hq1 hq2 b
    obtain ⟨c0, c1⟩ := blk2 HB0.out
    go_enter Try.func17, Try.ntmps17
    go_wp2_with fail
    refine (i_sharedSplit_no f _ k _ HV.out HB.out HQ1.out).mono ?_
    rintro e w1 ⟨p, rfl, hx⟩
    have X1 := hd (X0.out.trans hx)
    clear hx
    go_wp2
    go_ret2
    exact RetB2.mk (by rw [HA.out]) (by rw [HF.out]; exact ownB_nil _ _) X1.out
  · have hq0 := hq1
    unfold sharedB at hq0
    rw [Bool.and_eq_true] at hq0
    obtain ⟨hgood, j, rfl, hj⟩ := ask_inv hq0.1
    rw [Int.toNat_natCast] at hq0
    have h6 : (bothV f j f.n.toNat).length ≤ 6 := of_decide_eq_true hq0.2
    have HYES := hd (i_sharedSplit_yes f _ j _ HV.out HB.out hgood hj h6)
    have HA0 : Hid (shAskB f j gs = (q2 && plainB (bothV f j f.n.toNat) gs)) := hd (by unfold shAskB circAskB; rw [hq0.1, hq2, Int.toNat_natCast, hq0.2]; simp)
    have HF0 : Hid (shV f j gs = if shAskB f j gs then sharedV (bothV f j f.n.toNat) gs else []) := hd rfl
    cases q2
    · have HA : Hid (shAskB f j gs = false) := hd (by rw [HA0.out]; rfl)
      have HF : Hid (shV f j gs = []) := hd (by rw [HF0.out, HA.out]; rfl)
      clear h hgs hq1 hq2 b
      obtain ⟨c0, c1⟩ := blk2 HB0.out
      go_enter Try.func17, Try.ntmps17
      go_wp2_with fail
      refine HYES.out.mono ?_
      rintro e w1 ⟨p, rfl, hp, hx⟩
      clear c0 c1
      have X1 := hd (X0.out.trans hx)
      have G1 := hd (HGS.out.ext hx)
      obtain ⟨c0, c1⟩ := blk2 (hx.heap HB0.out)
      clear hx hp
      go_wp2_with fail
      refine (rtx (HCI.out _ G1.out) HQ2).mono ?_
      rintro e w2 ⟨rfl, hx⟩
      have X2 := hd (X1.out.trans hx)
      clear hx c0 c1
      go_wp2
      go_ret2
      exact RetB2.mk (by rw [HA.out]) (by rw [HF.out]; exact ownB_nil _ _) X2.out
    · have HPN := hd (fun w' p hx hr => i_onShared f j (bothV f j f.n.toNat) p (.slice A3 gs.length c3) gs w' hx hr hq2 (by omega))
      have HVN := hd (fun bb w' hb hr => i_circuitValue f.n gs (.slice A3 gs.length c3) bb w' hr hq2 hb)
      have HPO := hd (both_pos hgood j)
      have HNO := hd (fun bb w' p hx hb => i_numberOf f j (bothV f j f.n.toNat) p bb w' hx (by omega) HPO hb)
      obtain ⟨q3, hq3⟩ : ∃ q, plainB (bothV f j f.n.toNat) gs = q := ⟨_, rfl⟩
      have HALL := hd (fun (h3 : q3 = true) => shU_all hq2 (hq3.trans h3) (both_sor f j) (both_n hgood j))
      obtain ⟨hn0, hn12, -, -⟩ := good_inv hgood
      rw [hq3] at HPN HA0
      clear h hgs hq1 hq2 hq3 b
      obtain ⟨c0, c1⟩ := blk2 HB0.out
      go_enter Try.func17, Try.ntmps17
      go_wp2_with fail
      refine HYES.out.mono ?_
      rintro e w1 ⟨p, rfl, hp, hx⟩
      clear c0 c1
      have X1 := hd (X0.out.trans hx)
      have G1 := hd (HGS.out.ext hx)
      have P1 := hd hp
      have B1 := hd (hx.heap HB0.out)
      obtain ⟨c0, c1⟩ := blk2 B1.out
      clear hx hp
      go_wp2_with fail
      refine (rtx (HCI.out _ G1.out) HQ2).mono ?_
      rintro e w2 ⟨rfl, hx⟩
      have X2 := hd (X1.out.trans hx)
      have G2 := hd (G1.out.ext hx)
      have P2 := hd (P1.out.ext hx)
      have B2 := hd (hx.heap B1.out)
      clear hx c0 c1
      obtain ⟨c0, c1⟩ := blk2 B2.out
      go_wp2_with fail
      refine (HPN.out _ _ P2.out G2.out).mono ?_
      rintro e w3 ⟨rfl, hx⟩
      have X3 := hd (X2.out.trans hx)
      have G3 := hd (G2.out.ext hx)
      have P3 := hd (P2.out.ext hx)
      have B3 := hd (hx.heap B2.out)
      clear hx c0 c1
      cases q3
      · have HA : Hid (shAskB f j gs = false) := hd (by rw [HA0.out]; rfl)
        have HF : Hid (shV f j gs = []) := hd (by rw [HF0.out, HA.out]; rfl)
        go_wp2
        go_ret2
        exact RetB2.mk (by rw [HA.out]) (by rw [HF.out]; exact ownB_nil _ _) X3.out
      · have HA : Hid (shAskB f j gs = true) := hd (by rw [HA0.out]; rfl)
        have HF : Hid (shV f j gs = sharedV (bothV f j f.n.toNat) gs) := hd (by rw [HF0.out, HA.out]; rfl)
        have HALL' := hd (HALL.out rfl)
        have HSH := hd (shU_len (bothV f j f.n.toNat) gs)
        have hnum := hd (fun b => numU_lt (bothV f j f.n.toNat) b (bothV f j f.n.toNat).length)
        have H0 : Hid (shU (bothV f j f.n.toNat) gs 0 = List.replicate (2 ^ (bothV f j f.n.toNat).length) false) := hd rfl
        have HST : Hid (∀ K, shU (bothV f j f.n.toNat) gs (K + 1) = (shU (bothV f j f.n.toNat) gs K).set (numOf (bothV f j f.n.toNat) K) (circV K gs)) := hd fun _ => rfl
        have hpw := wrap_pow (m := (bothV f j f.n.toNat).length) (by omega)
        have hp6 := pow6 h6
        obtain ⟨bl, vc, vs, hpe, hpb, -, hps⟩ := P3.out
        obtain ⟨A5, c5, rfl, -⟩ := hps.form
        subst hpe
        obtain ⟨d0, d1, d2, d3⟩ := blk4' hpb
        obtain ⟨c0, c1⟩ := blk2 B3.out
        clear hps HALL HA0 HF0
        generalize shV f j gs = R at *
        generalize bothV f j f.n.toNat = vs at *
        generalize sharedV vs gs = SV at *
        obtain ⟨M, hM⟩ : ∃ M, 2 ^ vs.length = M := ⟨_, rfl⟩
        have hnum' : Hid (∀ b, numOf vs b < M) := hd fun b => by rw [← hM]; exact hnum.out b
        rw [hM] at hp6 hpw H0 HSH
        clear hM hnum
        obtain ⟨m, hm⟩ := Int.eq_ofNat_of_zero_le hn0
        rw [hm] at c0 hn12
        rw [hm, Int.toNat_natCast] at HALL'
        have hpm := wrap_pow (m := m) (by omega)
        have hp12 := pow12 (k := m) (by omega)
        generalize hN : 2 ^ m = N at *
        clear hN
        go_wp2_with (at_make; rw [hpw]; refine mkB (n := M) _ rfl _ _ rfl rfl rfl (by omega) ?_; intro w4 hown4 hx4; have B4 := hd (hx4.heap B3.out); clear c0 c1; obtain ⟨c0, c1⟩ := blk2 B4.out; rw [hm] at c0)
        try rw [hpm]
        have HO4 := hd hown4
        have HX4 := hd hx4
        clear hown4 hx4 c0 c1 d0 d1 d2 d3 hpb P1 P2 B3 HYES HPN HCI HGS HV
        go_loopw [43, 11] (fun i _ wr => ∃ K : Nat, K ≤ N ∧ i = .int .i64 K ∧ OwnB wr w3.heap.size 4 (.slice (some ⟨w3.heap.size, 0, none⟩) M M) (shU vs gs K) ∧ Ext w3 wr) (fun i _ _ => N - (intOf i).toNat)
        case atStart => exact ⟨0, by omega, rfl, by rw [H0.out]; exact HO4.out, HX4.out⟩
        case round =>
          clear HO4 HX4
          obtain ⟨K, hK, rfl, ho, hx⟩ := hrel
          have HO := hd ho
          have HX := hd hx
          have HPS := hd (P3.out.ext hx)
          have HGG := hd (G3.out.ext hx)
          clear ho hx
          by_cases hlt : K < N
          · have HNU := hd (HNO.out K _ _ HPS.out (by omega))
            have HVV := hd (HVN.out K _ (by omega) HGG.out)
            have HS := hd (HST.out K)
            have hnl := hnum'.out K
            have hshl := HSH.out K
            generalize numOf vs K = z at *
            generalize circV K gs = q at *
            go_wp2_with fail
            refine HNU.out.mono ?_
            rintro e w5 ⟨rfl, rfl⟩
            go_wp2_with fail
            refine HVV.out.mono ?_
            rintro e w6 ⟨rfl, hx6⟩
            obtain ⟨⟨u0, hcell⟩, hfr, hst⟩ := ownB_store (k := z) (OwnB.ext HO.out hx6) hshl hnl
            have HX6 := hd (HX.out.trans hx6)
            clear hx6
            go_wp2
            go_roundw
            case rel => exact ⟨K + 1, by omega, by go_num, by rw [HS.out]; exact hst.out _, HX6.out.setCell (Nat.le_refl _) _⟩
            case measure => simp [intOf]; omega
          · obtain rfl : K = N := by omega
            rw [HALL'.out] at HO
            go_wp2
            go_ret2
            exact RetB2.mk (by rw [HA.out]) (by rw [HF.out]; exact own_rebase HO.out X3.out.size) (X3.out.trans HX.out)
end Go.Proofs.Ytjeeffmpfdhppaa
