/-
  The reference's FreeChoices. Conditions: sizes up to 2^20.
-/
import Derived.Test.YthiflbcodbigbaaFree
namespace Go.Proofs.Ythiflbcodbigbaa
open Go.RowKit
theorem getD_b {vs : List Bool} {k : Nat} (h : k < vs.length) : vs.getD k false = vs[k] := by simp [List.getD, h]
theorem all_snoc {n : Nat} {p : Nat → Bool} (h : ∀ j, j < n → p j = false) (hn : p n = false) : ∀ j, j < n + 1 → p j = false := fun j hj => by
  by_cases e : j = n
  · subst e; exact hn
  · exact h j (by omega)
set_option maxRecDepth 100000 in
set_option maxHeartbeats 6400000 in
theorem s_FreeChoices (f : Cnf) (v : Value) (ki : Int) (w : World) (h : Rd_Cnf w v f) (b : Bd_Cnf f) (_ : I64_Cnf f) (_ : I64 ki) :
    Calls Try.prog 34 #[v, .int .i64 ki] w (RetX w (.tuple #[.int .i64 (freeN f ki), .bool (freeB f ki)])) := by
  obtain ⟨vc, rfl, hC⟩ := h
  obtain ⟨A, c, rfl, h1, h2, ha⟩ := hC.form
  have HB := hd b
  obtain ⟨q, hq⟩ : ∃ q, askB f ki = q := ⟨_, rfl⟩
  have HQ := hd hq
  have HRD : Hid (∀ w' vc, RdSS w' vc f.cs → Rd_Cnf w' (.agg #[.int .i64 f.n, vc]) f) := hd fun w' vc hx => ⟨vc, rfl, hx⟩
  cases q
  · have X0 : Hid (Ext w (w.alloc (.cells #[.int .i64 f.n, .slice A f.cs.length c] 28))) := hd (Ext.new _ _)
    have HV := hd (HRD.out _ _ (RdSS.ext hC X0.out))
    have HF : Hid (freeB f ki = false ∧ freeN f ki = 0) := hd (by
      have e : freeB f ki = false := by unfold freeB sharedB; rw [hq]; rfl
      exact ⟨e, by unfold freeN; rw [e]; rfl⟩)
    clear hq hC b
    go_enter Try.func34, Try.ntmps34
    go_wp2_with fail
    refine (rtx (s_l29Asked f _ ki _ HV.out HB.out) HQ).mono ?_
    rintro e w1 ⟨rfl, hx1⟩
    have X1 := hd (X0.out.trans hx1)
    clear hx1
    go_wp2
    go_ret2
    exact RetX.mk (by rw [HF.out.1, HF.out.2]; rfl) X1.out
  · obtain ⟨hg, k, rfl, hk⟩ := ask_inv hq
    have hl := b.1
    have HTL : (f.cs.take k).length ≤ 1048576 := by simp; omega
    have HSV : strongV f k = someV f k (f.cs.take k) := by unfold strongV; rw [hq, if_pos rfl, Int.toNat_natCast]
    have HWV : weakV f k = (someV f k (f.cs.drop k)).map (!·) := by unfold weakV; rw [hq, if_pos rfl, Int.toNat_natCast]
    have HSB : sharedB f k = someOk f k := by unfold sharedB; rw [hq, Int.toNat_natCast]; rfl
    have HSO : Hid (∀ w' lv, Rd_Cnf w' (.agg #[.int .i64 f.n, .slice A f.cs.length c]) f → RdSS w' lv (f.cs.take k) → Calls Try.prog 86 #[.agg #[.int .i64 f.n, .slice A f.cs.length c], .int .i64 k, lv] w' (fun e w'' => ∃ u, e = .returned (.tuple #[u, .bool (sharedB f k)]) ∧ OwnB w'' w'.heap.size 4 u (strongV f k) ∧ Ext w' w'')) := hd fun w' lv hx hL => by
      rw [HSV, HSB]
      exact s_l29Some_all f _ lv (f.cs.take k) k w' hx b hg hk hL (hd mem_t) (by omega)
    have HWK : Hid (∀ w', Rd_Cnf w' (.agg #[.int .i64 f.n, .slice A f.cs.length c]) f → Calls Try.prog 87 #[.agg #[.int .i64 f.n, .slice A f.cs.length c], .int .i64 k] w' (fun e w'' => ∃ u, e = .returned (.tuple #[u, .bool (sharedB f k)]) ∧ OwnB w'' w'.heap.size 4 u (weakV f k) ∧ Ext w' w'')) := hd fun w' hx => by
      rw [HWV, HSB]
      exact s_l29Weakest f _ k w' hx b hg hk
    have HASK : Hid (∀ w', Rd_Cnf w' (.agg #[.int .i64 f.n, .slice A f.cs.length c]) f → Calls Try.prog 66 #[.agg #[.int .i64 f.n, .slice A f.cs.length c], .int .i64 k] w' (RetX w' (.bool true))) := hd fun w' hx => rtx (s_l29Asked f _ k w' hx b) HQ
    have HL0 : Hid (sharedB f k = false → (strongV f k).length = 0) := hd fun e => by rw [strong_no e]; rfl
    have hlw := len_weak (f := f) (k := (k : Int))
    have hls := strongV_bd f k
    unfold Bd_BoolS at hls
    have HFB : Hid (freeB f k = (sharedB f k && !confB (strongV f k) (weakV f k))) := hd rfl
    have HFN : Hid (freeN f k = if freeB f k then (cntF (strongV f k) (weakV f k) (strongV f k).length : Int) else 0) := hd rfl
    clear HSV HWV HSB
    generalize freeN f k = FN at *
    generalize freeB f k = FB at *
    generalize strongV f k = SV at *
    generalize weakV f k = WV at *
    generalize sharedB f k = SB at *
    have HLW := hd hlw
    clear hq hg HQ HTL HB b hlw
    obtain ⟨n, cs⟩ := f
    simp only at *
    clear hC
    have e1 : (0 : Int) ≤ (k : Int) := by omega
    have e2 : (k : Int) ≤ (cs.length : Int) := by omega
    rcases rdSS_cut ha.out hk with ⟨rfl, h0, rfl⟩ | ⟨a, rfl, rfl, hck⟩ | ⟨a, rfl, hck⟩
    · subst h0
      have HL : Hid (RdSS w (.slice none 0 c) (([] : List (List Int)).take 0)) := hd (rdSS_takeZ h2)
      have HRR : Hid (RdSS w (.slice none 0 c) (([] : List (List Int)).drop 0)) := hd (rdSS_dropZ (by simp) h2)
      have HN : Hid (([] : List (List Int)).length = 0) := hd rfl
      have HC2 := hd (RdSS.ext ha.out (Ext.new w (.cells #[.int .i64 n, .slice none 0 c] 28)))
      have HB0 := hd (blk_new (w := w) (.cells #[.int .i64 n, .slice none 0 c] 28) rfl)
      go_enter Try.func34, Try.ntmps34
      go_wp2_with fail
      refine (HASK.out _ (HRD.out _ _ HC2.out)).mono ?_
      rintro e w1 ⟨rfl, hx⟩
      have X1 := hd ((Ext.new w _).trans hx)
      have HV1 := hd (HRD.out _ _ (RdSS.ext HC2.out hx))
      have HB1 := hd (hx.heap HB0.out)
      obtain ⟨c0, c1⟩ := blk2 HB1.out
      clear hx HB0 HC2
      go_wp2_with fail
      go_region_held3 (fun w' => (w'.cell? ⟨w.heap.size, 0, none⟩ = some (.int .i64 n) ∧ w'.cell? ⟨w.heap.size, 1, none⟩ = some (.slice none 0 c)) ∧ Ext w1 w')
        ((refine ⟨⟨Ext.cell ?_ c0, Ext.cell ?_ c1⟩, ?_⟩ <;> (first | assumption | exact Ext.refl _ | exact (Ext.refl _).drew)))
        ((go_at_call 86; refine (HSO.out _ _ (HV1.out.ext (by first | exact Ext.refl _ | exact (Ext.refl _).drew | exact ext_drewN _ _)) (HL.out.ext (by first | exact X1.out | exact X1.out.drew | exact X1.out.drewN _))).mono ?_; rintro e w2 ⟨u, rfl, hu, hx2'⟩; (have hx2 : Ext w1 w2 := Ext.trans (by first | exact Ext.refl _ | exact (Ext.refl _).drew | exact ext_drewN _ _) hx2')))
      have hx2 : Ext w1 w2 := Ext.trans (by first | exact Ext.refl _ | exact (Ext.refl _).drew | exact ext_drewN _ _) hx2'
      have X2 := hd (X1.out.trans hx2)
      have HV2 := hd (HV1.out.ext hx2)
      have HU2 : Hid (RdB w2 u SV) := hd (OwnB.rd hu)
      obtain ⟨k0, k1⟩ := blk2 (hx2.heap HB1.out)
      clear hx2 hx2' hu HV1 HB1 c0 c1
      go_wp2_with fail
      refine (HWK.out _ HV2.out).mono ?_
      rintro e w3 ⟨u3, rfl, hu3, hx3⟩
      have X3 := hd (X2.out.trans hx3)
      have HU3 := hd (RdB.ext HU2.out hx3)
      have HW3 : Hid (RdB w3 u3 WV) := hd (OwnB.rd hu3)
      obtain ⟨A1, k1', rfl, m1, n1, hra⟩ := HU3.out.form
      obtain ⟨A2, k2', rfl, m2, n2, hrb⟩ := HW3.out.form
      clear hx3 hu3 HU2 HU3 HW3 k0 k1 HV2 X2 HSO HWK HASK HRD HL HRR X1
      cases SB
      all_goals
        try have hl0 : SV.length ≤ 0 := Nat.le_of_eq (HL0.out rfl)
        go_wp2
        go_loop [11, 10] (fun i x => ∃ j : Nat, j ≤ SV.length ∧ i = .int .i64 j ∧ x = .int .i64 ((cntF SV WV j : Nat) : Int) ∧ Hid (∀ i, i < j → (SV.getD i false && !WV.getD i false) = false)) (fun i _ => SV.length - (intOf i).toNat)
        case atStart => exact ⟨0, by omega, rfl, rfl, hd fun i hi => by omega⟩
        case round =>
          obtain ⟨j, hj, rfl, rfl, HN⟩ := hrel
          have hcl := cntF_le SV WV j
          by_cases hlt : j < SV.length
          · first
              | (exfalso; omega)
              | (obtain ⟨a1, rfl, hc1⟩ := RdB.at_ hra hlt
                 have hlt2 : j < WV.length := by rw [HLW.out]; exact hlt
                 obtain ⟨a2, rfl, hc2⟩ := RdB.at_ hrb hlt2
                 have HG1 := hd (getD_b hlt)
                 have HG2 := hd (getD_b hlt2)
                 generalize SV[j] = y at *
                 generalize WV[j] = z at *
                 cases y <;> cases z
                 · have HC := hd (cntF_no (by rw [HG1.out, HG2.out]; rfl : (!SV.getD j false && WV.getD j false) = false))
                   have HN2 := hd (all_snoc HN.out (by rw [HG1.out, HG2.out]; rfl))
                   go_wp2
                   go_round
                   case rel => exact ⟨j + 1, by omega, by go_num, by rw [HC.out], HN2⟩
                   case measure => simp [intOf]; omega
                 · have HC := hd (cntF_yes (by rw [HG1.out, HG2.out]; rfl : (!SV.getD j false && WV.getD j false) = true))
                   have HN2 := hd (all_snoc HN.out (by rw [HG1.out, HG2.out]; rfl))
                   go_wp2
                   go_round
                   case rel => exact ⟨j + 1, by omega, by go_num, by rw [HC.out]; go_num, HN2⟩
                   case measure => simp [intOf]; omega
                 · have HE : Hid (confB SV WV = true) := hd (conf_yes hlt HG1.out HG2.out)
                   go_wp2
                   go_ret2
                   exact RetX.mk (by rw [HFN.out, HFB.out, HE.out]; rfl) X3.out
                 · have HC := hd (cntF_no (by rw [HG1.out, HG2.out]; rfl : (!SV.getD j false && WV.getD j false) = false))
                   have HN2 := hd (all_snoc HN.out (by rw [HG1.out, HG2.out]; rfl))
                   go_wp2
                   go_round
                   case rel => exact ⟨j + 1, by omega, by go_num, by rw [HC.out], HN2⟩
                   case measure => simp [intOf]; omega
                )
          · obtain rfl : j = SV.length := by omega
            have HE : Hid (confB SV WV = false) := hd (conf_no HN.out)
            have HZ : Hid (SV.length = 0 → cntF SV WV SV.length = 0) := hd fun e => by have := hcl; omega
            go_wp2
            go_ret2
            first
              | exact RetX.mk (by rw [HFN.out, HFB.out, HE.out]; rfl) X3.out
              | exact RetX.mk (by rw [HFN.out, HFB.out, HE.out, HZ.out (by omega)]; rfl) X3.out
    · generalize hN : cs.length = N at *
      obtain rfl : N = c := by omega
      have HN := hd hN
      clear hN hck
      have HL := hd (rdSS_take (n := N) ha.out (by rw [HN.out]; exact Nat.le_refl N) : RdSS w (.slice (some a) N N) (cs.take N))
      have HRR := hd (rdSS_dropZ (A := some a) (k := N) (c := 0) (xss := cs) (w := w) (by rw [HN.out]; exact Nat.le_refl _) (Nat.zero_le _))
      have HC2 := hd (RdSS.ext ha.out (Ext.new w (.cells #[.int .i64 n, .slice (some a) N N] 28)))
      have HB0 := hd (blk_new (w := w) (.cells #[.int .i64 n, .slice (some a) N N] 28) rfl)
      go_enter Try.func34, Try.ntmps34
      go_wp2_with fail
      refine (HASK.out _ (HRD.out _ _ HC2.out)).mono ?_
      rintro e w1 ⟨rfl, hx⟩
      have X1 := hd ((Ext.new w _).trans hx)
      have HV1 := hd (HRD.out _ _ (RdSS.ext HC2.out hx))
      have HB1 := hd (hx.heap HB0.out)
      obtain ⟨c0, c1⟩ := blk2 HB1.out
      clear hx HB0 HC2
      go_wp2_with fail
      go_region_held3 (fun w' => (w'.cell? ⟨w.heap.size, 0, none⟩ = some (.int .i64 n) ∧ w'.cell? ⟨w.heap.size, 1, none⟩ = some (.slice (some a) N N)) ∧ Ext w1 w')
        ((refine ⟨⟨Ext.cell ?_ c0, Ext.cell ?_ c1⟩, ?_⟩ <;> (first | assumption | exact Ext.refl _ | exact (Ext.refl _).drew)))
        ((go_at_call 86; refine (HSO.out _ _ (HV1.out.ext (by first | exact Ext.refl _ | exact (Ext.refl _).drew | exact ext_drewN _ _)) (HL.out.ext (by first | exact X1.out | exact X1.out.drew | exact X1.out.drewN _))).mono ?_; rintro e w2 ⟨u, rfl, hu, hx2'⟩; (have hx2 : Ext w1 w2 := Ext.trans (by first | exact Ext.refl _ | exact (Ext.refl _).drew | exact ext_drewN _ _) hx2')))
      have hx2 : Ext w1 w2 := Ext.trans (by first | exact Ext.refl _ | exact (Ext.refl _).drew | exact ext_drewN _ _) hx2'
      have X2 := hd (X1.out.trans hx2)
      have HV2 := hd (HV1.out.ext hx2)
      have HU2 : Hid (RdB w2 u SV) := hd (OwnB.rd hu)
      obtain ⟨k0, k1⟩ := blk2 (hx2.heap HB1.out)
      clear hx2 hx2' hu HV1 HB1 c0 c1
      go_wp2_with fail
      refine (HWK.out _ HV2.out).mono ?_
      rintro e w3 ⟨u3, rfl, hu3, hx3⟩
      have X3 := hd (X2.out.trans hx3)
      have HU3 := hd (RdB.ext HU2.out hx3)
      have HW3 : Hid (RdB w3 u3 WV) := hd (OwnB.rd hu3)
      obtain ⟨A1, k1', rfl, m1, n1, hra⟩ := HU3.out.form
      obtain ⟨A2, k2', rfl, m2, n2, hrb⟩ := HW3.out.form
      clear hx3 hu3 HU2 HU3 HW3 k0 k1 HV2 X2 HSO HWK HASK HRD HL HRR X1
      cases SB
      all_goals
        try have hl0 : SV.length ≤ 0 := Nat.le_of_eq (HL0.out rfl)
        go_wp2
        go_loop [11, 10] (fun i x => ∃ j : Nat, j ≤ SV.length ∧ i = .int .i64 j ∧ x = .int .i64 ((cntF SV WV j : Nat) : Int) ∧ Hid (∀ i, i < j → (SV.getD i false && !WV.getD i false) = false)) (fun i _ => SV.length - (intOf i).toNat)
        case atStart => exact ⟨0, by omega, rfl, rfl, hd fun i hi => by omega⟩
        case round =>
          obtain ⟨j, hj, rfl, rfl, HN⟩ := hrel
          have hcl := cntF_le SV WV j
          by_cases hlt : j < SV.length
          · first
              | (exfalso; omega)
              | (obtain ⟨a1, rfl, hc1⟩ := RdB.at_ hra hlt
                 have hlt2 : j < WV.length := by rw [HLW.out]; exact hlt
                 obtain ⟨a2, rfl, hc2⟩ := RdB.at_ hrb hlt2
                 have HG1 := hd (getD_b hlt)
                 have HG2 := hd (getD_b hlt2)
                 generalize SV[j] = y at *
                 generalize WV[j] = z at *
                 cases y <;> cases z
                 · have HC := hd (cntF_no (by rw [HG1.out, HG2.out]; rfl : (!SV.getD j false && WV.getD j false) = false))
                   have HN2 := hd (all_snoc HN.out (by rw [HG1.out, HG2.out]; rfl))
                   go_wp2
                   go_round
                   case rel => exact ⟨j + 1, by omega, by go_num, by rw [HC.out], HN2⟩
                   case measure => simp [intOf]; omega
                 · have HC := hd (cntF_yes (by rw [HG1.out, HG2.out]; rfl : (!SV.getD j false && WV.getD j false) = true))
                   have HN2 := hd (all_snoc HN.out (by rw [HG1.out, HG2.out]; rfl))
                   go_wp2
                   go_round
                   case rel => exact ⟨j + 1, by omega, by go_num, by rw [HC.out]; go_num, HN2⟩
                   case measure => simp [intOf]; omega
                 · have HE : Hid (confB SV WV = true) := hd (conf_yes hlt HG1.out HG2.out)
                   go_wp2
                   go_ret2
                   exact RetX.mk (by rw [HFN.out, HFB.out, HE.out]; rfl) X3.out
                 · have HC := hd (cntF_no (by rw [HG1.out, HG2.out]; rfl : (!SV.getD j false && WV.getD j false) = false))
                   have HN2 := hd (all_snoc HN.out (by rw [HG1.out, HG2.out]; rfl))
                   go_wp2
                   go_round
                   case rel => exact ⟨j + 1, by omega, by go_num, by rw [HC.out], HN2⟩
                   case measure => simp [intOf]; omega
                )
          · obtain rfl : j = SV.length := by omega
            have HE : Hid (confB SV WV = false) := hd (conf_no HN.out)
            have HZ : Hid (SV.length = 0 → cntF SV WV SV.length = 0) := hd fun e => by have := hcl; omega
            go_wp2
            go_ret2
            first
              | exact RetX.mk (by rw [HFN.out, HFB.out, HE.out]; rfl) X3.out
              | exact RetX.mk (by rw [HFN.out, HFB.out, HE.out, HZ.out (by omega)]; rfl) X3.out
    · have HN : Hid (cs.length = cs.length) := hd rfl
      have HL := hd (rdSS_take ha.out hk)
      have HRR := hd (rdSS_drop ha.out hk)
      have hkc : k ≤ c := by omega
      have hkn : ¬ c = k := by omega
      have HC2 := hd (RdSS.ext ha.out (Ext.new w (.cells #[.int .i64 n, .slice (some a) cs.length c] 28)))
      have HB0 := hd (blk_new (w := w) (.cells #[.int .i64 n, .slice (some a) cs.length c] 28) rfl)
      go_enter Try.func34, Try.ntmps34
      go_wp2_with fail
      refine (HASK.out _ (HRD.out _ _ HC2.out)).mono ?_
      rintro e w1 ⟨rfl, hx⟩
      have X1 := hd ((Ext.new w _).trans hx)
      have HV1 := hd (HRD.out _ _ (RdSS.ext HC2.out hx))
      have HB1 := hd (hx.heap HB0.out)
      obtain ⟨c0, c1⟩ := blk2 HB1.out
      clear hx HB0 HC2
      go_wp2_with fail
      go_region_held3 (fun w' => (w'.cell? ⟨w.heap.size, 0, none⟩ = some (.int .i64 n) ∧ w'.cell? ⟨w.heap.size, 1, none⟩ = some (.slice (some a) cs.length c)) ∧ Ext w1 w')
        ((refine ⟨⟨Ext.cell ?_ c0, Ext.cell ?_ c1⟩, ?_⟩ <;> (first | assumption | exact Ext.refl _ | exact (Ext.refl _).drew)))
        ((go_at_call 86; refine (HSO.out _ _ (HV1.out.ext (by first | exact Ext.refl _ | exact (Ext.refl _).drew | exact ext_drewN _ _)) (HL.out.ext (by first | exact X1.out | exact X1.out.drew | exact X1.out.drewN _))).mono ?_; rintro e w2 ⟨u, rfl, hu, hx2'⟩; (have hx2 : Ext w1 w2 := Ext.trans (by first | exact Ext.refl _ | exact (Ext.refl _).drew | exact ext_drewN _ _) hx2')))
      have hx2 : Ext w1 w2 := Ext.trans (by first | exact Ext.refl _ | exact (Ext.refl _).drew | exact ext_drewN _ _) hx2'
      have X2 := hd (X1.out.trans hx2)
      have HV2 := hd (HV1.out.ext hx2)
      have HU2 : Hid (RdB w2 u SV) := hd (OwnB.rd hu)
      obtain ⟨k0, k1⟩ := blk2 (hx2.heap HB1.out)
      clear hx2 hx2' hu HV1 HB1 c0 c1
      go_wp2_with fail
      refine (HWK.out _ HV2.out).mono ?_
      rintro e w3 ⟨u3, rfl, hu3, hx3⟩
      have X3 := hd (X2.out.trans hx3)
      have HU3 := hd (RdB.ext HU2.out hx3)
      have HW3 : Hid (RdB w3 u3 WV) := hd (OwnB.rd hu3)
      obtain ⟨A1, k1', rfl, m1, n1, hra⟩ := HU3.out.form
      obtain ⟨A2, k2', rfl, m2, n2, hrb⟩ := HW3.out.form
      clear hx3 hu3 HU2 HU3 HW3 k0 k1 HV2 X2 HSO HWK HASK HRD HL HRR X1
      cases SB
      all_goals
        try have hl0 : SV.length ≤ 0 := Nat.le_of_eq (HL0.out rfl)
        go_wp2
        go_loop [11, 10] (fun i x => ∃ j : Nat, j ≤ SV.length ∧ i = .int .i64 j ∧ x = .int .i64 ((cntF SV WV j : Nat) : Int) ∧ Hid (∀ i, i < j → (SV.getD i false && !WV.getD i false) = false)) (fun i _ => SV.length - (intOf i).toNat)
        case atStart => exact ⟨0, by omega, rfl, rfl, hd fun i hi => by omega⟩
        case round =>
          obtain ⟨j, hj, rfl, rfl, HN⟩ := hrel
          have hcl := cntF_le SV WV j
          by_cases hlt : j < SV.length
          · first
              | (exfalso; omega)
              | (obtain ⟨a1, rfl, hc1⟩ := RdB.at_ hra hlt
                 have hlt2 : j < WV.length := by rw [HLW.out]; exact hlt
                 obtain ⟨a2, rfl, hc2⟩ := RdB.at_ hrb hlt2
                 have HG1 := hd (getD_b hlt)
                 have HG2 := hd (getD_b hlt2)
                 generalize SV[j] = y at *
                 generalize WV[j] = z at *
                 cases y <;> cases z
                 · have HC := hd (cntF_no (by rw [HG1.out, HG2.out]; rfl : (!SV.getD j false && WV.getD j false) = false))
                   have HN2 := hd (all_snoc HN.out (by rw [HG1.out, HG2.out]; rfl))
                   go_wp2
                   go_round
                   case rel => exact ⟨j + 1, by omega, by go_num, by rw [HC.out], HN2⟩
                   case measure => simp [intOf]; omega
                 · have HC := hd (cntF_yes (by rw [HG1.out, HG2.out]; rfl : (!SV.getD j false && WV.getD j false) = true))
                   have HN2 := hd (all_snoc HN.out (by rw [HG1.out, HG2.out]; rfl))
                   go_wp2
                   go_round
                   case rel => exact ⟨j + 1, by omega, by go_num, by rw [HC.out]; go_num, HN2⟩
                   case measure => simp [intOf]; omega
                 · have HE : Hid (confB SV WV = true) := hd (conf_yes hlt HG1.out HG2.out)
                   go_wp2
                   go_ret2
                   exact RetX.mk (by rw [HFN.out, HFB.out, HE.out]; rfl) X3.out
                 · have HC := hd (cntF_no (by rw [HG1.out, HG2.out]; rfl : (!SV.getD j false && WV.getD j false) = false))
                   have HN2 := hd (all_snoc HN.out (by rw [HG1.out, HG2.out]; rfl))
                   go_wp2
                   go_round
                   case rel => exact ⟨j + 1, by omega, by go_num, by rw [HC.out], HN2⟩
                   case measure => simp [intOf]; omega
                )
          · obtain rfl : j = SV.length := by omega
            have HE : Hid (confB SV WV = false) := hd (conf_no HN.out)
            have HZ : Hid (SV.length = 0 → cntF SV WV SV.length = 0) := hd fun e => by have := hcl; omega
            go_wp2
            go_ret2
            first
              | exact RetX.mk (by rw [HFN.out, HFB.out, HE.out]; rfl) X3.out
              | exact RetX.mk (by rw [HFN.out, HFB.out, HE.out, HZ.out (by omega)]; rfl) X3.out
end Go.Proofs.Ythiflbcodbigbaa
