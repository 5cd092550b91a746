/-
  The program on the strongest and the weakest values. Conditions: sizes up to 2^20.
-/
import Derived.Test.YthiflbcodbigbaaStrong
namespace Go.Proofs.Ythiflbcodbigbaa
open Go.RowKit
set_option maxRecDepth 100000 in
set_option maxHeartbeats 1600000 in
theorem i_sharedSplit_no (f : Cnf) (v : Value) (k : Int) (w : World) (h : Rd_Cnf w v f) (b : Bd_Cnf f) (hs : sharedB f k = false) :
    Calls Try.prog 88 #[v, .int .i64 k] w (fun e w' => ∃ p, e = .returned (.tuple #[p, .bool false]) ∧ Ext w w') := by
  obtain ⟨A, c, rfl⟩ := h.form
  have X0 : Hid (Ext w (w.alloc (.cells #[.int .i64 f.n, .slice A f.cs.length c] 28))) := hd (Ext.new _ _)
  have HV := hd (h.ext X0.out)
  have HB := hd b
  clear h b
  obtain ⟨q, hq⟩ : ∃ q, askB f k = q := ⟨_, rfl⟩
  have HQ := hd hq
  cases q
  · clear hq hs
    go_enter Try.func88, Try.ntmps88
    go_wp2_with fail
    refine (i_splitOf_no f _ k _ HV.out HB.out HQ.out).mono ?_
    rintro e w1 ⟨rfl, hx1⟩
    have X1 := hd (X0.out.trans hx1)
    clear hx1
    go_wp2_with fail
    go_quiet (fail)
    go_wp2
    go_ret2
    exact ⟨_, rfl, X1.out.drewN _⟩
  · obtain ⟨hg, j, rfl, hj⟩ := ask_inv hq
    have h6 : ¬ (bothV f j f.n.toNat).length ≤ 6 := by
      unfold sharedB someOk at hs
      rw [hq, Int.toNat_natCast] at hs
      simpa using hs
    have HG := hd hg
    have HJ := hd hj
    have HN := hd (filt12 hg (fun v => inS (f.cs.take j) v && inS (f.cs.drop j) v))
    have hbl : (bothV f j f.n.toNat).length ≤ 12 := HN.out
    clear hg hj hq hs HN
    obtain ⟨both, hbo⟩ : ∃ both, bothV f j f.n.toNat = both := ⟨_, rfl⟩
    rw [hbo] at h6 hbl
    have HBB := hd hbo
    clear hbo
    have hd6 : decide ((both.length : Int) ≤ 6) = false := decide_eq_false (by omega)
    go_enter Try.func88, Try.ntmps88
    go_wp2_with fail
    refine (i_splitOf_yes f _ j _ HV.out HB.out HG.out HJ.out).mono ?_
    rw [HBB.out]
    rintro e w1 ⟨p, rfl, hs, hx1⟩
    have X1 := hd (X0.out.trans hx1)
    obtain ⟨b, vc, vs, rfl, -, hb, -, ho, -⟩ := hs
    obtain ⟨c0, c1, c2, c3⟩ := blk4' hb
    obtain ⟨A2, cc2, rfl, -⟩ := ho.form
    clear hx1 hb ho
    go_wp2_with fail
    go_quiet (fail)
    go_wp2
    go_ret2
    exact ⟨_, rfl, X1.out.drewN _⟩
set_option maxRecDepth 100000 in
set_option maxHeartbeats 1600000 in
theorem i_sharedSplit_yes (f : Cnf) (v : Value) (j : Nat) (w : World) (h : Rd_Cnf w v f) (b : Bd_Cnf f) (hg : goodB f = true) (hj : j ≤ f.cs.length) (h6 : (bothV f j f.n.toNat).length ≤ 6) :
    Calls Try.prog 88 #[v, .int .i64 j] w (fun e w' => ∃ p, e = .returned (.tuple #[p, .bool true]) ∧ RdSp w' p f j (bothV f j f.n.toNat) ∧ Ext w w') := by
  obtain ⟨A, c, rfl⟩ := h.form
  have X0 : Hid (Ext w (w.alloc (.cells #[.int .i64 f.n, .slice A f.cs.length c] 28))) := hd (Ext.new _ _)
  have HV := hd (h.ext X0.out)
  have HB := hd b
  have HG := hd hg
  have HJ := hd hj
  clear h b hg hj
  obtain ⟨both, hbo⟩ : ∃ both, bothV f j f.n.toNat = both := ⟨_, rfl⟩
  rw [hbo] at h6
  have HBB := hd hbo
  rw [hbo]
  clear hbo
  have hd6 : decide ((both.length : Int) ≤ 6) = true := decide_eq_true (by omega)
  go_enter Try.func88, Try.ntmps88
  go_wp2_with fail
  refine (i_splitOf_yes f _ j _ HV.out HB.out HG.out HJ.out).mono ?_
  rw [HBB.out]
  rintro e w1 ⟨p, rfl, hs, hx1⟩
  have X1 := hd (X0.out.trans hx1)
  have HS := hd hs.rd
  obtain ⟨b, vc, vs, rfl, -, hb, -, ho, -⟩ := hs
  obtain ⟨c0, c1, c2, c3⟩ := blk4' hb
  obtain ⟨A2, cc2, rfl, -⟩ := ho.form
  clear hx1 hb ho
  go_wp2_with fail
  go_quiet (fail)
  go_wp2
  go_ret2
  exact ⟨_, rfl, HS.out.ext (ext_drewN _ _), X1.out.drewN _⟩
theorem i_strongest (f : Cnf) (k : Nat) (v : Value) (w : World) (h : RdSp w v f k (bothV f k f.n.toNat)) (hg : goodB f = true) (hk : k ≤ f.cs.length) (h6 : (bothV f k f.n.toNat).length ≤ 6) :
    Calls Try.prog 91 #[v] w (RetB w 4 (possV (bothV f k f.n.toNat) (f.cs.take k) (2 ^ f.n.toNat))) := by
  have HS := hd h
  have HG := hd hg
  have HK := hd hk
  have HP := hd (both_pos hg k)
  have H6 := hd h6
  have hl := (good_inv hg).2.2.1
  have HTL : (f.cs.take k).length ≤ 1048576 := by simp; omega
  clear h hg hk h6
  go_enter Try.func91, Try.ntmps91
  go_wp2_with fail
  refine (i_left f k _ _ _ HS.out HK.out (by omega)).mono ?_
  rintro e w1 ⟨u, rfl, hu, n, rfl⟩
  have HU := hd (hu.ext (ext_drewN _ n))
  have HS1 := hd (HS.out.ext (ext_drewN _ n))
  clear hu
  go_wp2_with fail
  refine (i_possible f k _ _ _ _ _ HS1.out HU.out HG.out (hd mem_t) HTL H6.out HP).mono ?_
  rintro e w2 ⟨u2, rfl, hu2, hx2⟩
  have HU2 := hd hu2
  have X2 := hd ((ext_drewN w n).trans hx2)
  clear hu2 hx2
  go_wp2
  go_ret
  exact ⟨_, rfl, HU2.out, X2.out⟩
set_option maxHeartbeats 1600000 in
theorem i_weakest (f : Cnf) (k : Nat) (v : Value) (w : World) (h : RdSp w v f k (bothV f k f.n.toNat)) (hg : goodB f = true) (hk : k ≤ f.cs.length) (h6 : (bothV f k f.n.toNat).length ≤ 6) :
    Calls Try.prog 90 #[v] w (RetB w 4 ((possV (bothV f k f.n.toNat) (f.cs.drop k) (2 ^ f.n.toNat)).map (!·))) := by
  have HS := hd h
  have HG := hd hg
  have HK := hd hk
  have HP := hd (both_pos hg k)
  have H6 := hd h6
  have hl := (good_inv hg).2.2.1
  have HTL : (f.cs.drop k).length ≤ 1048576 := by simp; omega
  have hlen := possV_len (bothV f k f.n.toNat) (f.cs.drop k) (2 ^ f.n.toNat)
  have hp6 := pow6 h6
  have HC : Hid (∀ w' u, RdSp w' v f k (bothV f k f.n.toNat) → RdSS w' u (f.cs.drop k) → Calls Try.prog 134 #[v, u] w' (RetB w' 4 (possV (bothV f k f.n.toNat) (f.cs.drop k) (2 ^ f.n.toNat)))) := hd fun w' u h1 h2 => i_possible f k _ _ _ _ _ h1 h2 hg (hd mem_d) HTL h6 HP
  generalize possV (bothV f k f.n.toNat) (f.cs.drop k) (2 ^ f.n.toNat) = SV at *
  have hsl : SV.length ≤ 64 := by omega
  clear h hg hk h6 hlen hp6
  go_enter Try.func90, Try.ntmps90
  go_wp2_with fail
  refine (i_right f k _ _ _ HS.out HK.out (by omega)).mono ?_
  rintro e w1 ⟨u, rfl, hu, n, rfl⟩
  have HU := hd (hu.ext (ext_drewN _ n))
  have HS1 := hd (HS.out.ext (ext_drewN _ n))
  clear hu
  go_wp2_with fail
  refine (HC.out _ _ HS1.out HU.out).mono ?_
  rintro e w2 ⟨u2, rfl, hu2, hx2⟩
  have HU2 : Hid (OwnB w2 w.heap.size 4 u2 SV) := hd hu2
  have X2 := hd ((ext_drewN w n).trans hx2)
  obtain ⟨A5, c5, rfl, -⟩ := HU2.out.form
  clear hu2 hx2 HC HS HG HK HP H6 HU HS1
  go_wp2
  go_loopw [11, 4] (fun i _ wr => ∃ j : Nat, j ≤ SV.length ∧ i = .int .i64 j ∧ Hid (OwnB wr w.heap.size 4 (.slice A5 SV.length c5) ((SV.take j).map (!·) ++ SV.drop j)) ∧ Hid (Ext w wr)) (fun i _ _ => SV.length - (intOf i).toNat)
  case atStart => exact ⟨0, by omega, rfl, hd (by simpa using HU2.out), X2⟩
  case round =>
    clear HU2 X2
    obtain ⟨j, hj, rfl, HO, HX⟩ := hrel
    by_cases hlt : j < SV.length
    · have HSN := hd (split_not hlt)
      obtain ⟨g, rfl, hgl, hc, hf, hst⟩ := ownB_at HO.out (flip_len hj) hlt
      rw [flip_get hlt] at hc
      have HST := hd (hst.out (!SV[j]))
      rw [HSN.out] at HST
      clear hst HSN
      generalize SV[j] = y at *
      go_wp2
      go_roundw
      case rel => exact ⟨j + 1, by omega, by go_num, HST, hd (HX.out.setCell (by exact hgl) _)⟩
      case measure => simp [intOf]; omega
    · obtain rfl : j = SV.length := by omega
      have HO2 := HO.out
      rw [List.take_of_length_le (Nat.le_refl _), List.drop_eq_nil_of_le (Nat.le_refl _), List.append_nil] at HO2
      have HO3 := hd HO2
      clear HO2 HO
      go_wp2
      go_ret
      exact ⟨_, rfl, HO3.out, HX.out⟩
set_option maxHeartbeats 1600000 in
theorem i_StrongestValues (f : Cnf) (v : Value) (ki : Int) (w : World) (h : Rd_Cnf w v f) (b : Bd_Cnf f) (_ : I64_Cnf f) (_ : I64 ki) :
    Calls Try.prog 37 #[v, .int .i64 ki] w (RetB2 w (strongV f ki) (sharedB f ki)) := by
  obtain ⟨A, c, rfl⟩ := h.form
  have X0 : Hid (Ext w (w.alloc (.cells #[.int .i64 f.n, .slice A f.cs.length c] 28))) := hd (Ext.new _ _)
  have HV := hd (h.ext X0.out)
  have HB := hd b
  clear h b
  obtain ⟨q, hq⟩ : ∃ q, sharedB f ki = q := ⟨_, rfl⟩
  have HQ := hd hq
  cases q
  · have HE : Hid (strongV f ki = []) := hd (by
      unfold strongV someV
      unfold sharedB at hq
      cases ha : askB f ki
      · rfl
      · rw [ha] at hq
        have hs : someOk f ki.toNat = false := by simpa using hq
        rw [hs]; rfl)
    clear hq
    go_enter Try.func37, Try.ntmps37
    go_wp2_with fail
    refine (i_sharedSplit_no f _ ki _ HV.out HB.out HQ.out).mono ?_
    rintro e w1 ⟨p, rfl, hx1⟩
    have X1 := hd (X0.out.trans hx1)
    clear hx1
    go_wp2
    go_ret2
    exact RetB2.mk HQ.out.symm (by rw [HE.out]; exact ownB_nil _ _) X1.out
  · have hq0 := hq
    unfold sharedB at hq0
    rw [Bool.and_eq_true] at hq0
    obtain ⟨hg, j, rfl, hj⟩ := ask_inv hq0.1
    rw [Int.toNat_natCast] at hq0
    have h6 : (bothV f j f.n.toNat).length ≤ 6 := of_decide_eq_true hq0.2
    have HE : Hid (strongV f j = possV (bothV f j f.n.toNat) (f.cs.take j) (2 ^ f.n.toNat)) := hd (by unfold strongV someV; rw [hq0.1, if_pos rfl, Int.toNat_natCast, hq0.2, if_pos rfl])
    have HG := hd hg
    have HJ := hd hj
    have H6 := hd h6
    clear hg hj hq hq0 h6
    go_enter Try.func37, Try.ntmps37
    go_wp2_with fail
    refine (i_sharedSplit_yes f _ j _ HV.out HB.out HG.out HJ.out H6.out).mono ?_
    rintro e w1 ⟨p, rfl, hs, hx1⟩
    have X1 := hd (X0.out.trans hx1)
    have HS := hd hs
    clear hx1 hs
    go_wp2_with fail
    refine (i_strongest f j _ _ HS.out HG.out HJ.out H6.out).mono ?_
    rintro e w2 ⟨u2, rfl, hu2, hx2⟩
    have HU2 := hd hu2
    have X2 := hd (X1.out.trans hx2)
    clear hu2 hx2
    go_wp2
    go_ret2
    exact RetB2.mk HQ.out.symm (by rw [HE.out]; exact own_rebase HU2.out X1.out.size) X2.out
set_option maxHeartbeats 1600000 in
theorem i_WeakestValues (f : Cnf) (v : Value) (ki : Int) (w : World) (h : Rd_Cnf w v f) (b : Bd_Cnf f) (_ : I64_Cnf f) (_ : I64 ki) :
    Calls Try.prog 42 #[v, .int .i64 ki] w (RetB2 w (weakV f ki) (sharedB f ki)) := by
  obtain ⟨A, c, rfl⟩ := h.form
  have X0 : Hid (Ext w (w.alloc (.cells #[.int .i64 f.n, .slice A f.cs.length c] 28))) := hd (Ext.new _ _)
  have HV := hd (h.ext X0.out)
  have HB := hd b
  clear h b
  obtain ⟨q, hq⟩ : ∃ q, sharedB f ki = q := ⟨_, rfl⟩
  have HQ := hd hq
  cases q
  · have HE : Hid (weakV f ki = []) := hd (by
      unfold weakV someV
      unfold sharedB at hq
      cases ha : askB f ki
      · rfl
      · rw [ha] at hq
        have hs : someOk f ki.toNat = false := by simpa using hq
        rw [hs]; rfl)
    clear hq
    go_enter Try.func42, Try.ntmps42
    go_wp2_with fail
    refine (i_sharedSplit_no f _ ki _ HV.out HB.out HQ.out).mono ?_
    rintro e w1 ⟨p, rfl, hx1⟩
    have X1 := hd (X0.out.trans hx1)
    clear hx1
    go_wp2
    go_ret2
    exact RetB2.mk HQ.out.symm (by rw [HE.out]; exact ownB_nil _ _) X1.out
  · have hq0 := hq
    unfold sharedB at hq0
    rw [Bool.and_eq_true] at hq0
    obtain ⟨hg, j, rfl, hj⟩ := ask_inv hq0.1
    rw [Int.toNat_natCast] at hq0
    have h6 : (bothV f j f.n.toNat).length ≤ 6 := of_decide_eq_true hq0.2
    have HE : Hid (weakV f j = (possV (bothV f j f.n.toNat) (f.cs.drop j) (2 ^ f.n.toNat)).map (!·)) := hd (by unfold weakV someV; rw [hq0.1, if_pos rfl, Int.toNat_natCast, hq0.2, if_pos rfl])
    have HG := hd hg
    have HJ := hd hj
    have H6 := hd h6
    clear hg hj hq hq0 h6
    go_enter Try.func42, Try.ntmps42
    go_wp2_with fail
    refine (i_sharedSplit_yes f _ j _ HV.out HB.out HG.out HJ.out H6.out).mono ?_
    rintro e w1 ⟨p, rfl, hs, hx1⟩
    have X1 := hd (X0.out.trans hx1)
    have HS := hd hs
    clear hx1 hs
    go_wp2_with fail
    refine (i_weakest f j _ _ HS.out HG.out HJ.out H6.out).mono ?_
    rintro e w2 ⟨u2, rfl, hu2, hx2⟩
    have HU2 := hd hu2
    have X2 := hd (X1.out.trans hx2)
    clear hu2 hx2
    go_wp2
    go_ret2
    exact RetB2.mk HQ.out.symm (by rw [HE.out]; exact own_rebase HU2.out X1.out.size) X2.out
end Go.Proofs.Ythiflbcodbigbaa
