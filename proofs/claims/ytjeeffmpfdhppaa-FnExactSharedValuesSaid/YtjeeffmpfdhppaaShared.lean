/-
  SharedValues: what both sides answer; the reference's side. Conditions: sizes up to 2^20.
-/
import Derived.Test.YtjeeffmpfdhppaaInterp
namespace Go.Proofs.Ytjeeffmpfdhppaa
open Go.RowKit
def shAskB (f : Cnf) (k : Int) (gs : List Gat) : Bool := circAskB f k gs && (plainB (bothV f k.toNat f.n.toNat) gs && someOk f k.toNat)
def shV (f : Cnf) (k : Int) (gs : List Gat) : List Bool := if shAskB f k gs then sharedV (bothV f k.toNat f.n.toNat) gs else []
theorem shV_bd (f : Cnf) (k : Int) (gs : List Gat) : Bd_BoolS (shV f k gs) := by
  unfold shV Bd_BoolS
  split
  · rename_i h
    unfold shAskB at h
    rw [Bool.and_eq_true, Bool.and_eq_true] at h
    have := pow6 (of_decide_eq_true h.2.2)
    rw [sharedV_len]
    exact Nat.le_trans this (by decide)
  · simp
theorem sharedV_take {vs : List Int} {gs : List Gat} {m : Nat} (h : m < 2 ^ vs.length) : (sharedV vs gs).take (m + 1) = (sharedV vs gs).take m ++ [circV (dep vs m vs.length) gs] := by
  rw [List.take_succ_eq_append_getElem (by rw [sharedV_len]; exact h)]
  simp [sharedV]
theorem both_n {f : Cnf} (_ : goodB f = true) (k : Nat) : ∀ x ∈ bothV f k f.n.toNat, 1 ≤ x ∧ x ≤ (f.n.toNat : Int) := fun x hx => by
  unfold bothV at hx
  have := mem_seqI.1 (List.mem_filter.1 hx).1
  omega
theorem both_sor (f : Cnf) (k : Nat) : Sor (bothV f k f.n.toNat) := sor_filter (sor_seqI _ _)
theorem dep_yes {vs : List Int} {n k : Nat} (h : bitN n k = 1) : dep vs n (k + 1) = dep vs n k ||| 2 ^ (vs.getD k 1 - 1).toNat := by rw [dep, if_pos h]
theorem dep_no {vs : List Int} {n k : Nat} (h : ¬ bitN n k = 1) : dep vs n (k + 1) = dep vs n k := by rw [dep, if_neg h]
theorem dep_12 {vs : List Int} (hp : ∀ x ∈ vs, 1 ≤ x ∧ x ≤ 12) (n k : Nat) (hk : k ≤ vs.length) : dep vs n k < 4096 := dep_lt (N := 12) (by simpa using hp) k hk
set_option maxRecDepth 100000 in
set_option maxHeartbeats 6400000 in
theorem s_SharedValues (f : Cnf) (v : Value) (k : Int) (gs : List Gat) (gv : Value) (w : World) (h : Rd_Cnf w v f) (b : Bd_Cnf f) (_ : I64_Cnf f) (_ : I64 k) (hgs : Rd_GateS w gv gs) (bg : Bd_GateS gs) (_ : I64_GateS gs) :
    Calls Try.prog 14 #[v, .int .i64 k, gv] w (RetB2 w (shV f k gs) (shAskB f k gs)) := by
  obtain ⟨A, c, rfl⟩ := h.form
  have X0 : Hid (Ext w (w.alloc (.cells #[.int .i64 f.n, .slice A f.cs.length c] 31))) := hd (Ext.new _ _)
  have HB0 := hd (blk_new (w := w) (.cells #[.int .i64 f.n, .slice A f.cs.length c] 31) rfl)
  have HV := hd (h.ext X0.out)
  have HGS := hd (hgs.ext X0.out)
  have HASK := hd (fun w' hx => s_l29Asked f (.agg #[.int .i64 f.n, .slice A f.cs.length c]) k w' hx b)
  have HCI := hd (fun w' hx => s_l6Good f.n gs gv w' hx bg)
  obtain ⟨q1, hq1⟩ : ∃ q, askB f k = q := ⟨_, rfl⟩
  obtain ⟨q2, hq2⟩ : ∃ q, circB f.n gs = q := ⟨_, rfl⟩
  have HQ1 := hd hq1
  have HQ2 := hd hq2
  obtain ⟨A3, c3, rfl, -⟩ := hgs.form
  have HP : Hid (circAskB f k gs = (q1 && q2)) := hd (by unfold circAskB; rw [hq1, hq2])
  cases q1
  · have HA : Hid (shAskB f k gs = false) := hd (by unfold shAskB; rw [HP.out]; rfl)
    have HF : Hid (shV f k gs = []) := hd (by unfold shV; rw [HA.out]; rfl)
    clear h hgs hq1 hq2
    obtain ⟨c0, c1⟩ := blk2 HB0.out
    go_enter Try.func14, Try.ntmps14
    go_wp2_with fail
    refine (rtx (HASK.out _ HV.out) HQ1).mono ?_
    rintro e w1 ⟨rfl, hx⟩
    have X1 := hd (X0.out.trans hx)
    clear hx
    go_wp2
    go_ret2
    exact RetB2.mk (by rw [HA.out]) (by rw [HF.out]; exact ownB_emp X1.out.size) (X1.out.alloc _)
  · obtain ⟨hgood, j, rfl, hj⟩ := ask_inv hq1
    have HPL := hd (fun w' hx (hc : circB f.n gs = true) hr => s_l29Plain f (.agg #[.int .i64 f.n, .slice A f.cs.length c]) (.slice A3 gs.length c3) j gs w' hx hr b hgood hj hc)
    have HSD := hd (fun w' hx => s_l29Sides f (.agg #[.int .i64 f.n, .slice A f.cs.length c]) j w' hx b hgood hj)
    cases q2
    · have HA : Hid (shAskB f j gs = false) := hd (by unfold shAskB; rw [HP.out]; rfl)
      have HF : Hid (shV f j gs = []) := hd (by unfold shV; rw [HA.out]; rfl)
      clear h hgs hq1 hq2 HPL HSD
      go_enter Try.func14, Try.ntmps14
      go_wp2_with fail
      refine (rtx (HASK.out _ HV.out) HQ1).mono ?_
      rintro e w1 ⟨rfl, hx⟩
      have X1 := hd (X0.out.trans hx)
      have G1 := hd (HGS.out.ext hx)
      obtain ⟨c0, c1⟩ := blk2 (hx.heap HB0.out)
      clear hx
      go_wp2_with fail
      refine (rtx (HCI.out _ G1.out) HQ2).mono ?_
      rintro e w2 ⟨rfl, hx⟩
      have X2 := hd (X1.out.trans hx)
      clear hx c0 c1
      go_wp2
      go_ret2
      exact RetB2.mk (by rw [HA.out]) (by rw [HF.out]; exact ownB_emp X2.out.size) (X2.out.alloc _)
    · have HA0 : Hid (shAskB f j gs = (plainB (bothV f j f.n.toNat) gs && someOk f j)) := hd (by unfold shAskB; rw [HP.out]; simp)
      have HPN := hd (HPL.out · · hq2 ·)
      have HVN := hd (fun bb w' hb hr => s_l6Value f.n gs (.slice A3 gs.length c3) bb w' hr hq2 hb)
      have HPO := hd (both_pos hgood j)
      have HN := hd (filt12 hgood (fun v => inS (f.cs.take j) v && inS (f.cs.drop j) v))
      have hbl : (bothV f j f.n.toNat).length ≤ 12 := HN.out
      clear HN
      have HSO : Hid (someOk f j = decide ((bothV f j f.n.toNat).length ≤ 6)) := hd rfl
      have HF0 : Hid (shV f j gs = if shAskB f j gs then sharedV (bothV f j f.n.toNat) gs else []) := hd rfl
      obtain ⟨q3, hq3⟩ : ∃ q, plainB (bothV f j f.n.toNat) gs = q := ⟨_, rfl⟩
      rw [hq3] at HPN HA0
      clear HPL hq1 hq2 hq3 h hgs
      go_enter Try.func14, Try.ntmps14
      go_wp2_with fail
      refine (rtx (HASK.out _ HV.out) HQ1).mono ?_
      rintro e w1 ⟨rfl, hx⟩
      have X1 := hd (X0.out.trans hx)
      have G1 := hd (HGS.out.ext hx)
      have V1 := hd (HV.out.ext hx)
      have B1 := hd (hx.heap HB0.out)
      obtain ⟨c0, c1⟩ := blk2 B1.out
      clear hx
      go_wp2_with fail
      refine (rtx (HCI.out _ G1.out) HQ2).mono ?_
      rintro e w2 ⟨rfl, hx⟩
      have X2 := hd (X1.out.trans hx)
      have G2 := hd (G1.out.ext hx)
      have V2 := hd (V1.out.ext hx)
      have B2 := hd (hx.heap B1.out)
      clear hx c0 c1
      obtain ⟨c0, c1⟩ := blk2 B2.out
      go_wp2_with fail
      refine (HPN.out _ V2.out G2.out).mono ?_
      rintro e w3 ⟨rfl, hx⟩
      have X3 := hd (X2.out.trans hx)
      have G3 := hd (G2.out.ext hx)
      have V3 := hd (V2.out.ext hx)
      have B3 := hd (hx.heap B2.out)
      clear hx c0 c1
      cases q3
      · have HA : Hid (shAskB f j gs = false) := hd (by rw [HA0.out]; rfl)
        have HF : Hid (shV f j gs = []) := hd (by rw [HF0.out, HA.out]; rfl)
        go_wp2
        go_ret2
        exact RetB2.mk (by rw [HA.out]) (by rw [HF.out]; exact ownB_emp X3.out.size) (X3.out.alloc _)
      · obtain ⟨c0, c1⟩ := blk2 B3.out
        go_wp2_with fail
        refine (HSD.out _ V3.out).mono ?_
        rintro e w4 ⟨u0, u1, u2, rfl, -, -, hu2, hx⟩
        have X4 := hd (X3.out.trans hx)
        have G4 := hd (G3.out.ext hx)
        have HU := hd hu2.rd
        obtain ⟨A4, c4, rfl, -, -, HU4⟩ := hu2.rd.form
        clear hx c0 c1 hu2
        generalize bothV f j f.n.toNat = vs at *
        by_cases h6 : vs.length ≤ 6
        · have HA : Hid (shAskB f j gs = true) := hd (by rw [HA0.out, HSO.out, decide_eq_true h6]; rfl)
          have HF : Hid (shV f j gs = sharedV vs gs) := hd (by rw [HF0.out, HA.out]; rfl)
          have h6' : ¬ (6 : Int) < (vs.length : Int) := by omega
          have hpw := wrap_pow (m := vs.length) (by omega)
          have hp6 := pow6 h6
          have HTK := hd (fun m => @sharedV_take vs gs m)
          have hsl := sharedV_len vs gs
          generalize sharedV vs gs = SV at *
          obtain ⟨M, hM⟩ : ∃ M, 2 ^ vs.length = M := ⟨_, rfl⟩
          rw [hM] at hp6 hpw HTK hsl
          have OE := hd (ownB_emp (w0 := w4) (w := w4) (Nat.le_refl _))
          have XE := hd (X4.out.alloc (.cells #[] 4))
          clear hM
          go_wp2
          go_loopw [12, 11, 13, 14] (fun m u _ _ wr => ∃ K : Nat, K ≤ M ∧ m = .int .i64 K ∧ OwnB wr w4.heap.size 4 u (SV.take K) ∧ Ext w4 wr) (fun m _ _ _ _ => M - (intOf m).toNat)
          case atStart => exact ⟨0, by omega, rfl, OE.out, Ext.new _ _⟩
          case round =>
            clear OE XE
            obtain ⟨K, hK, rfl, ho, hx⟩ := hrel
            have HO := hd ho
            have HX := hd hx
            clear ho hx
            by_cases hlt : K < M
            · have HS := hd (HTK.out K hlt)
              have hd12 := dep_12 HPO.out K
              obtain ⟨wo, rfl⟩ : ∃ wo : World, wo = wr := ⟨_, rfl⟩
              go_wp2
              try rw [hpw]
              try go_wp2
              go_loopw [14, 13] (fun i d wr => ∃ t : Nat, t ≤ vs.length ∧ i = .int .i64 t ∧ d = .int .i64 ((dep vs K t : Nat) : Int) ∧ wr = wo) (fun i _ _ => vs.length - (intOf i).toNat)
              case atStart => exact ⟨0, by omega, rfl, rfl, rfl⟩
              case round =>
                obtain ⟨t, ht, rfl, rfl, rfl⟩ := hrel
                by_cases hlt2 : t < vs.length
                · obtain ⟨a, rfl, hc0⟩ := RdI.at_ HU4 hlt2
                  have hc := HX.out.cell hc0
                  have hy := HPO.out _ (List.getElem_mem hlt2)
                  have hg : vs.getD t 1 = vs[t] := by simp [List.getD, hlt2]
                  obtain ⟨p, hp⟩ : ∃ p : Nat, vs[t] = (p : Int) + 1 := ⟨(vs[t] - 1).toNat, by omega⟩
                  have HY := hd (fun h => (dep_yes (vs := vs) (n := K) (k := t) h).trans (by rw [hg, hp, show ((p : Int) + 1 - 1).toNat = p from by omega]))
                  have HNO := hd (fun h => dep_no (vs := vs) (n := K) (k := t) h)
                  rw [hp] at hc hy
                  have hdl := hd12 t (by omega)
                  clear hg hp hc0
                  have hwr : IntKind.i64.wrap ((p : Int) + 1 - 1) = (p : Int) := by rw [show (p : Int) + 1 - 1 = (p : Int) from by omega]; exact IntWalk.i64_in _ (by omega)
                  have hsh := shr_and (b := K) (k := t) (by omega)
                  have hq' : (((bitN K t : Nat) : Int) == 1) = (bitN K t == 1) := natcast_beq _ 1
                  have hor := or_pow (b := dep vs K t) (m := p) (by omega) (by omega)
                  generalize bitN K t = s at *
                  generalize dep vs K t = D at *
                  by_cases hs : s = 1
                  · have HY' := hd (HY.out hs)
                    have hb : (s == 1) = true := by simp [hs]
                    clear hs HY HNO
                    go_wp2
                    go_roundw
                    case rel => exact ⟨t + 1, by omega, by go_num, by rw [HY'.out], trivial⟩
                    case measure => simp [intOf]; omega
                  · have HY' := hd (HNO.out hs)
                    have hb : (s == 1) = false := by simp [hs]
                    clear hs HY HNO
                    go_wp2
                    go_roundw
                    case rel => exact ⟨t + 1, by omega, by go_num, by rw [HY'.out], trivial⟩
                    case measure => simp [intOf]; omega
                · obtain rfl : t = vs.length := by omega
                  have hdl := hd12 vs.length (Nat.le_refl _)
                  have HVL := hd (HVN.out (dep vs K vs.length) _ (by omega) (G4.out.ext HX.out))
                  have htl : (SV.take K).length ≤ 64 := Nat.le_trans (List.length_take_le _ _) (by omega)
                  generalize circV (dep vs K vs.length) gs = q at *
                  generalize dep vs K vs.length = D at *
                  go_wp2_with fail
                  refine HVL.out.mono ?_
                  rintro e w6 ⟨rfl, hx6⟩
                  have HO6 := hd (OwnB.ext HO.out hx6)
                  have HX6 := hd (HX.out.trans hx6)
                  have hsz6 : w4.heap.size ≤ w6.heap.size := HX6.out.size
                  clear hx6 HO
                  go_wp2_with (at_builtin; refine appB _ HO6.out rfl _ _ rfl _ (by rfl) (by rfl) (by omega) hsz6 ?_; intro v' w7 ho7 hg7 _)
                  go_roundw
                  case rel => exact ⟨K + 1, by omega, by go_num, by rw [HS.out]; exact ho7, ext_app HX6.out hg7 (ownB_ge HO6.out)⟩
                  case measure => simp [intOf]; omega
            · obtain rfl : K = M := by omega
              rw [← hsl, List.take_length] at HO
              have XX := hd (X4.out.trans HX.out)
              go_wp2
              try rw [hpw]
              try go_wp2
              go_ret2
              exact RetB2.mk (by rw [HA.out]) (by rw [HF.out]; exact own_rebase HO.out X4.out.size) XX.out
        · have HA : Hid (shAskB f j gs = false) := hd (by rw [HA0.out, HSO.out, decide_eq_false h6]; rfl)
          have HF : Hid (shV f j gs = []) := hd (by rw [HF0.out, HA.out]; rfl)
          have h6' : (6 : Int) < (vs.length : Int) := by omega
          go_wp2
          go_ret2
          exact RetB2.mk (by rw [HA.out]) (by rw [HF.out]; exact ownB_emp X4.out.size) (X4.out.alloc _)
end Go.Proofs.Ytjeeffmpfdhppaa
