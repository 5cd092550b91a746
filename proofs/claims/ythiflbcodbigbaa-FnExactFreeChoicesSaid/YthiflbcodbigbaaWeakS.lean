/-
  The reference on the weakest values. Conditions: sizes up to 2^20.
-/
import Derived.Test.YthiflbcodbigbaaStrong
namespace Go.Proofs.Ythiflbcodbigbaa
open Go.RowKit
set_option maxRecDepth 100000 in
set_option maxHeartbeats 3200000 in
theorem s_l29Weakest (f : Cnf) (v : Value) (k : Nat) (w : World) (h : Rd_Cnf w v f) (b : Bd_Cnf f) (hg : goodB f = true) (hk : k ≤ f.cs.length) :
    Calls Try.prog 87 #[v, .int .i64 k] w (fun e w' => ∃ u, e = .returned (.tuple #[u, .bool (someOk f k)]) ∧ OwnB w' w.heap.size 4 u ((someV f k (f.cs.drop k)).map (!·)) ∧ Ext w w') := by
  obtain ⟨vc, rfl, hC⟩ := h
  obtain ⟨A, c, rfl, h1, h2, ha⟩ := hC.form
  have hl := b.1
  have HTL : (f.cs.drop k).length ≤ 1048576 := by simp; omega
  have HRD : Hid (∀ w' vc, RdSS w' vc f.cs → Rd_Cnf w' (.agg #[.int .i64 f.n, vc]) f) := hd fun w' vc hx => ⟨vc, rfl, hx⟩
  have HSO : Hid (∀ w' lv, Rd_Cnf w' (.agg #[.int .i64 f.n, .slice A f.cs.length c]) f → RdSS w' lv (f.cs.drop k) → Calls Try.prog 86 #[.agg #[.int .i64 f.n, .slice A f.cs.length c], .int .i64 k, lv] w' (fun e w'' => ∃ u, e = .returned (.tuple #[u, .bool (someOk f k)]) ∧ OwnB w'' w'.heap.size 4 u (someV f k (f.cs.drop k)) ∧ Ext w' w'')) := hd fun w' lv hx hL => s_l29Some_all f _ lv (f.cs.drop k) k w' hx b hg hk hL (hd mem_d) (by omega)
  have hsl := someV_len f k (f.cs.drop k)
  generalize someV f k (f.cs.drop k) = SV at *
  generalize someOk f k = SB at *
  clear hg HTL b
  obtain ⟨n, cs⟩ := f
  simp only at *
  clear hC
  have e1 : (0 : Int) ≤ (k : Int) := by omega
  have e2 : (k : Int) ≤ (cs.length : Int) := by omega
  rcases rdSS_cut ha.out hk with ⟨rfl, h0, rfl⟩ | ⟨a, rfl, rfl, hck⟩ | ⟨a, rfl, hck⟩
  · subst h0
    have HL : Hid (RdSS w (.slice none 0 c) (([] : List (List Int)).take 0)) := hd (rdSS_takeZ h2)
    have HRR : Hid (RdSS w (.slice none 0 c) (([] : List (List Int)).drop 0)) := hd (rdSS_dropZ (by simp) h2)
    have HN : Hid (([] : List (List Int)).length = 0) := hd rfl
    have HC2 := hd (RdSS.ext ha.out (Ext.new w (.cells #[.int .i64 n, .slice none 0 c] 28)))
    have HB0 := hd (blk_new (w := w) (.cells #[.int .i64 n, .slice none 0 c] 28) rfl)
    have X1 : Hid (Ext w (w.alloc (.cells #[.int .i64 n, .slice none 0 c] 28))) := hd (Ext.new _ _)
    have HV1 := hd (HRD.out _ _ HC2.out)
    obtain ⟨c0, c1⟩ := blk2 HB0.out
    go_enter Try.func87, Try.ntmps87
    go_wp2_with fail
    go_region_with (go_at_call 86; refine (HSO.out _ _ (HV1.out.ext (by first | exact Ext.refl _ | exact (Ext.refl _).drew | exact ext_drewN _ _)) (HRR.out.ext (by first | exact X1.out | exact X1.out.drew | exact X1.out.drewN _))).mono ?_; rintro e w2 ⟨u, rfl, hu, hx2⟩)
    all_goals
      have X2 : Hid (Ext w w2) := hd (Ext.trans (by first | exact X1.out | exact X1.out.drew | exact X1.out.drewN _) hx2)
      have HU : Hid (OwnB w2 w.heap.size 4 u SV) := hd (own_rebase hu (by exact X1.out.size))
      obtain ⟨A5, c5, rfl, -⟩ := HU.out.form
      clear hx2 hu HSO HRD HC2 HB0 X1 HV1 c0 c1
      go_wp2
      go_loopw [8] (fun i wr => ∃ j : Nat, j ≤ SV.length ∧ i = .int .i64 j ∧ Hid (OwnB wr w.heap.size 4 (.slice A5 SV.length c5) ((SV.take j).map (!·) ++ SV.drop j)) ∧ Hid (Ext w wr)) (fun i _ => SV.length - (intOf i).toNat)
      case atStart => exact ⟨0, by omega, rfl, hd (by simpa using HU.out), X2⟩
      case round =>
        clear HU X2
        obtain ⟨j, hj, rfl, HO, HX⟩ := hrel
        by_cases hlt : j < SV.length
        · have HSN := hd (split_not hlt)
          obtain ⟨g, rfl, hgl, hc, hf, hst⟩ := ownB_at HO.out (flip_len hj) hlt
          rw [flip_get hlt] at hc
          have HST := hd (hst.out (!SV[j]))
          rw [HSN.out] at HST
          clear hst HSN
          generalize SV[j] = y at *
          go_wp2
          go_roundw
          case rel => exact ⟨j + 1, by omega, by go_num, HST, hd (HX.out.setCell (by exact hgl) _)⟩
          case measure => simp [intOf]; omega
        · obtain rfl : j = SV.length := by omega
          have HO2 := HO.out
          rw [List.take_of_length_le (Nat.le_refl _), List.drop_eq_nil_of_le (Nat.le_refl _), List.append_nil] at HO2
          have HO3 := hd HO2
          clear HO2 HO
          go_wp2
          go_ret2
          exact ⟨_, rfl, HO3.out, HX.out⟩
  · generalize hN : cs.length = N at *
    obtain rfl : N = c := by omega
    have HN := hd hN
    clear hN hck
    have HL := hd (rdSS_take (n := N) ha.out (by rw [HN.out]; exact Nat.le_refl N) : RdSS w (.slice (some a) N N) (cs.take N))
    have HRR := hd (rdSS_dropZ (A := some a) (k := N) (c := 0) (xss := cs) (w := w) (by rw [HN.out]; exact Nat.le_refl _) (Nat.zero_le _))
    have HC2 := hd (RdSS.ext ha.out (Ext.new w (.cells #[.int .i64 n, .slice (some a) N N] 28)))
    have HB0 := hd (blk_new (w := w) (.cells #[.int .i64 n, .slice (some a) N N] 28) rfl)
    have X1 : Hid (Ext w (w.alloc (.cells #[.int .i64 n, .slice (some a) N N] 28))) := hd (Ext.new _ _)
    have HV1 := hd (HRD.out _ _ HC2.out)
    obtain ⟨c0, c1⟩ := blk2 HB0.out
    go_enter Try.func87, Try.ntmps87
    go_wp2_with fail
    go_region_with (go_at_call 86; refine (HSO.out _ _ (HV1.out.ext (by first | exact Ext.refl _ | exact (Ext.refl _).drew | exact ext_drewN _ _)) (HRR.out.ext (by first | exact X1.out | exact X1.out.drew | exact X1.out.drewN _))).mono ?_; rintro e w2 ⟨u, rfl, hu, hx2⟩)
    all_goals
      have X2 : Hid (Ext w w2) := hd (Ext.trans (by first | exact X1.out | exact X1.out.drew | exact X1.out.drewN _) hx2)
      have HU : Hid (OwnB w2 w.heap.size 4 u SV) := hd (own_rebase hu (by exact X1.out.size))
      obtain ⟨A5, c5, rfl, -⟩ := HU.out.form
      clear hx2 hu HSO HRD HC2 HB0 X1 HV1 c0 c1
      go_wp2
      go_loopw [8] (fun i wr => ∃ j : Nat, j ≤ SV.length ∧ i = .int .i64 j ∧ Hid (OwnB wr w.heap.size 4 (.slice A5 SV.length c5) ((SV.take j).map (!·) ++ SV.drop j)) ∧ Hid (Ext w wr)) (fun i _ => SV.length - (intOf i).toNat)
      case atStart => exact ⟨0, by omega, rfl, hd (by simpa using HU.out), X2⟩
      case round =>
        clear HU X2
        obtain ⟨j, hj, rfl, HO, HX⟩ := hrel
        by_cases hlt : j < SV.length
        · have HSN := hd (split_not hlt)
          obtain ⟨g, rfl, hgl, hc, hf, hst⟩ := ownB_at HO.out (flip_len hj) hlt
          rw [flip_get hlt] at hc
          have HST := hd (hst.out (!SV[j]))
          rw [HSN.out] at HST
          clear hst HSN
          generalize SV[j] = y at *
          go_wp2
          go_roundw
          case rel => exact ⟨j + 1, by omega, by go_num, HST, hd (HX.out.setCell (by exact hgl) _)⟩
          case measure => simp [intOf]; omega
        · obtain rfl : j = SV.length := by omega
          have HO2 := HO.out
          rw [List.take_of_length_le (Nat.le_refl _), List.drop_eq_nil_of_le (Nat.le_refl _), List.append_nil] at HO2
          have HO3 := hd HO2
          clear HO2 HO
          go_wp2
          go_ret2
          exact ⟨_, rfl, HO3.out, HX.out⟩
  · have HN : Hid (cs.length = cs.length) := hd rfl
    have HL := hd (rdSS_take ha.out hk)
    have HRR := hd (rdSS_drop ha.out hk)
    have hkc : k ≤ c := by omega
    have hkn : ¬ c = k := by omega
    have HC2 := hd (RdSS.ext ha.out (Ext.new w (.cells #[.int .i64 n, .slice (some a) cs.length c] 28)))
    have HB0 := hd (blk_new (w := w) (.cells #[.int .i64 n, .slice (some a) cs.length c] 28) rfl)
    have X1 : Hid (Ext w (w.alloc (.cells #[.int .i64 n, .slice (some a) cs.length c] 28))) := hd (Ext.new _ _)
    have HV1 := hd (HRD.out _ _ HC2.out)
    obtain ⟨c0, c1⟩ := blk2 HB0.out
    go_enter Try.func87, Try.ntmps87
    go_wp2_with fail
    go_region_with (go_at_call 86; refine (HSO.out _ _ (HV1.out.ext (by first | exact Ext.refl _ | exact (Ext.refl _).drew | exact ext_drewN _ _)) (HRR.out.ext (by first | exact X1.out | exact X1.out.drew | exact X1.out.drewN _))).mono ?_; rintro e w2 ⟨u, rfl, hu, hx2⟩)
    all_goals
      have X2 : Hid (Ext w w2) := hd (Ext.trans (by first | exact X1.out | exact X1.out.drew | exact X1.out.drewN _) hx2)
      have HU : Hid (OwnB w2 w.heap.size 4 u SV) := hd (own_rebase hu (by exact X1.out.size))
      obtain ⟨A5, c5, rfl, -⟩ := HU.out.form
      clear hx2 hu HSO HRD HC2 HB0 X1 HV1 c0 c1
      go_wp2
      go_loopw [8] (fun i wr => ∃ j : Nat, j ≤ SV.length ∧ i = .int .i64 j ∧ Hid (OwnB wr w.heap.size 4 (.slice A5 SV.length c5) ((SV.take j).map (!·) ++ SV.drop j)) ∧ Hid (Ext w wr)) (fun i _ => SV.length - (intOf i).toNat)
      case atStart => exact ⟨0, by omega, rfl, hd (by simpa using HU.out), X2⟩
      case round =>
        clear HU X2
        obtain ⟨j, hj, rfl, HO, HX⟩ := hrel
        by_cases hlt : j < SV.length
        · have HSN := hd (split_not hlt)
          obtain ⟨g, rfl, hgl, hc, hf, hst⟩ := ownB_at HO.out (flip_len hj) hlt
          rw [flip_get hlt] at hc
          have HST := hd (hst.out (!SV[j]))
          rw [HSN.out] at HST
          clear hst HSN
          generalize SV[j] = y at *
          go_wp2
          go_roundw
          case rel => exact ⟨j + 1, by omega, by go_num, HST, hd (HX.out.setCell (by exact hgl) _)⟩
          case measure => simp [intOf]; omega
        · obtain rfl : j = SV.length := by omega
          have HO2 := HO.out
          rw [List.take_of_length_le (Nat.le_refl _), List.drop_eq_nil_of_le (Nat.le_refl _), List.append_nil] at HO2
          have HO3 := hd HO2
          clear HO2 HO
          go_wp2
          go_ret2
          exact ⟨_, rfl, HO3.out, HX.out⟩
set_option maxHeartbeats 1600000 in
theorem s_WeakestValues (f : Cnf) (v : Value) (ki : Int) (w : World) (h : Rd_Cnf w v f) (b : Bd_Cnf f) (_ : I64_Cnf f) (_ : I64 ki) :
    Calls Try.prog 41 #[v, .int .i64 ki] w (RetB2 w (weakV f ki) (sharedB f ki)) := by
  obtain ⟨A, c, rfl⟩ := h.form
  have X0 : Hid (Ext w (w.alloc (.cells #[.int .i64 f.n, .slice A f.cs.length c] 28))) := hd (Ext.new _ _)
  have HV := hd (h.ext X0.out)
  have HB := hd b
  have HB0 := hd (blk_new (w := w) (.cells #[.int .i64 f.n, .slice A f.cs.length c] 28) rfl)
  clear h b
  obtain ⟨q, hq⟩ : ∃ q, askB f ki = q := ⟨_, rfl⟩
  have HQ := hd hq
  cases q
  · clear hq
    go_enter Try.func41, Try.ntmps41
    go_wp2_with fail
    refine (rtx (s_l29Asked f _ ki _ HV.out HB.out) HQ).mono ?_
    rintro e w1 ⟨rfl, hx1⟩
    have X1 := hd (X0.out.trans hx1)
    clear hx1
    go_wp2
    go_ret2
    exact RetB2.mk (by unfold sharedB; rw [HQ.out]; rfl) (by unfold weakV; rw [HQ.out]; exact ownB_emp X1.out.size) (X1.out.alloc _)
  · obtain ⟨hg, j, rfl, hj⟩ := ask_inv hq
    have HG := hd hg
    have HJ := hd hj
    clear hg hj hq
    go_enter Try.func41, Try.ntmps41
    go_wp2_with fail
    refine (rtx (s_l29Asked f _ _ _ HV.out HB.out) HQ).mono ?_
    rintro e w1 ⟨rfl, hx1⟩
    have X1 := hd (X0.out.trans hx1)
    have HV1 := hd (HV.out.ext hx1)
    obtain ⟨c0, c1⟩ := blk2 (hx1.heap HB0.out)
    clear hx1
    go_wp2_with fail
    refine (s_l29Weakest f _ j _ HV1.out HB.out HG.out HJ.out).mono ?_
    rintro e w2 ⟨u, rfl, hu, hx2⟩
    have X2 := hd (X1.out.trans hx2)
    have HU := hd hu
    clear hx2 hu
    go_wp2
    go_ret2
    exact RetB2.mk (by unfold sharedB; rw [HQ.out, Int.toNat_natCast]; rfl) (by unfold weakV; rw [HQ.out, if_pos rfl, Int.toNat_natCast]; exact own_rebase HU.out X1.out.size) X2.out
end Go.Proofs.Ythiflbcodbigbaa
