/-
  SwapSides of the reference. Conditions: sizes up to 2^20.
-/
import Derived.Test.YtlegfibfjhfkhaaSwapP
namespace Go.Proofs.Ytlegfibfjhfkhaa
open Go.RowKit
set_option maxRecDepth 100000 in
set_option maxHeartbeats 3200000 in
theorem s_SwapSides (f : Cnf) (v : Value) (k : Int) (w : World) (h : Rd_Cnf w v f) (b : Bd_Cnf f) (_ : I64_Cnf f) (_ : I64 k) :
    Calls Try.prog 15 #[v, .int .i64 k] w (RetW w (swapV f k) (swapN f k) (askB f k)) := by
  obtain ⟨A, c, rfl⟩ := h.form
  obtain ⟨w0, hw0⟩ : ∃ w0 : World, w0 = (w.alloc (.cells #[.int .i64 f.n, .slice A f.cs.length c] 26)).alloc (.cells #[.int .i64 0, .slice none 0 0] 26) := ⟨_, rfl⟩
  have X0 : Hid (Ext w w0) := hd (by rw [hw0]; exact (Ext.new _ _).alloc _)
  have hs0 : w0.heap.size = w.heap.size + 2 := by rw [hw0]; simp
  have HRA : Hid (w0.heap[w.heap.size]? = some (.cells #[.int .i64 f.n, .slice A f.cs.length c] 26)) := hd (by rw [hw0]; exact blk_old (blk_new _ rfl))
  have HRZ : Hid (w0.heap[w.heap.size + 1]? = some (.cells #[.int .i64 0, .slice none 0 0] 26)) := hd (by rw [hw0]; exact blk_new _ (by simp))
  have HV := hd (h.ext X0.out)
  have HB := hd b
  have HW0 := hd hw0
  have hlb := b.1
  clear h b hw0
  obtain ⟨q, hq⟩ : ∃ q, askB f k = q := ⟨_, rfl⟩
  have HQ := hd hq
  cases q
  · have HE : Hid (swapV f k = ⟨0, []⟩) := hd (by unfold swapV; rw [hq]; rfl)
    have HN : Hid (swapN f k = 0) := hd (by unfold swapN; rw [hq]; rfl)
    clear hq
    obtain ⟨e0, e1⟩ := blk2 HRA.out
    go_enter Try.func15, Try.ntmps15
    rw [HQ.out]
    go_wp2_with (rw [← HW0.out])
    refine (rtx (s_l29Asked f _ k _ HV.out HB.out) HQ).mono ?_
    rintro e w1 ⟨rfl, hx1⟩
    have X1 := hd (X0.out.trans hx1)
    have B1 := hd (hx1.heap HRZ.out)
    obtain ⟨k0, k1⟩ := blk2 B1.out
    obtain ⟨k2, k3⟩ := blk2f B1.out
    have k4 := blk_lt B1.out
    have HC := hd (blk2_setW (x' := .int .i64 0) (y' := .slice none 0 0) B1.out)
    have X4 := hd (ext_setW (i := 1) (ext_setW (i := 0) X1.out (g := w.heap.size + 1) (by omega) (.int .i64 0)) (g := w.heap.size + 1) (by omega) (.slice none 0 0))
    clear hx1
    go_wp2
    obtain ⟨p0, p1⟩ := blk2 HC.out
    exact bodyPost_ret (v := .tuple #[.agg #[.int .i64 0, .slice none 0 0], .int .i64 0, .bool false]) (by simp [results, Try.results15, go_sem, p0, p1]) rfl (RetW.zero HE HN X4.out rfl)
  · obtain ⟨hg, j, rfl, hj⟩ := ask_inv hq
    have HE : Hid (swapV f (j : Int) = ⟨f.n, f.cs.drop j ++ f.cs.take j⟩) := hd (by unfold swapV; rw [hq, if_pos rfl, Int.toNat_natCast])
    have HN : Hid (swapN f (j : Int) = (f.cs.length : Int) - (j : Int)) := hd (by unfold swapN; rw [hq, if_pos rfl])
    have e1 : (0 : Int) ≤ (j : Int) := by omega
    have e2 : (j : Int) ≤ (f.cs.length : Int) := by omega
    clear hq hg
    obtain ⟨e3, e4⟩ := blk2 HRA.out
    go_enter Try.func15, Try.ntmps15
    rw [HQ.out]
    go_wp2_with (rw [← HW0.out])
    refine (rtx (s_l29Asked f _ _ _ HV.out HB.out) HQ).mono ?_
    rintro e w1 ⟨rfl, hx1⟩
    have X1 := hd (X0.out.trans hx1)
    have HV1 := hd (HV.out.ext hx1)
    obtain ⟨e5, e6⟩ := blk2 (hx1.heap HRA.out)
    have B1 := hd (hx1.heap HRZ.out)
    have B2 := hd (hx1.heap HRA.out)
    have hs1 : w.heap.size + 2 ≤ w1.heap.size := by have := hx1.size; omega
    clear hx1 e3 e4
    go_wp2_with fail
    refine (s_l2Own f _ _ HV1.out HB.out).mono ?_
    rintro e w2 ⟨ov, rfl, ho, hx2⟩
    obtain ⟨A2, c2, rfl, h21, h22⟩ := ho.form
    have hcut := rdSS_cut ho.rd hj
    obtain ⟨vs, a1, a2, a3⟩ := ho
    have HIN := hd a3
    have RV := hd (own_rd a1)
    have X2 := hd (X1.out.trans hx2)
    have hs2 : w.heap.size + 2 ≤ w2.heap.size := Nat.le_trans hs1 hx2.size
    have HS12 := hd hx2.size
    have B3 := hd (blk_old (o' := .cells #[.int .i64 f.n, .slice A2 f.cs.length c2] 26) (hx2.heap B1.out))
    have B4 := hd (blk_old (o' := .cells #[.int .i64 f.n, .slice A2 f.cs.length c2] 26) (hx2.heap B2.out))
    have B5 := hd (blk_new (w := w2) (.cells #[.int .i64 f.n, .slice A2 f.cs.length c2] 26) rfl)
    have XW : Hid (Ext w2 (w2.alloc (.cells #[.int .i64 f.n, .slice A2 f.cs.length c2] 26))) := hd (Ext.new _ _)
    obtain ⟨wo, hwo⟩ : ∃ wo : World, wo = w2.alloc (.cells #[.int .i64 f.n, .slice A2 f.cs.length c2] 26) := ⟨_, rfl⟩
    rw [← hwo] at B3 B4 B5 XW
    have HWO := hd hwo
    clear hwo
    have hone : ∀ u ∈ vs, u.oneCell' = true := by
      refine rows_one (w0 := w2) (yss := f.cs) (by have := a1.1; omega) rfl fun i xs hx => ?_
      have hi : i < vs.length := by have := (List.getElem?_eq_some_iff.1 hx).1; have := a3.1; omega
      exact ⟨_, List.getElem?_eq_getElem hi, (a3.2.1 i _ xs (List.getElem?_eq_getElem hi) hx).1.rd⟩
    have HO1 : Hid (∀ u ∈ vs.drop j, u.oneCell' = true) := hd fun u hu => hone u (List.mem_of_mem_drop hu)
    have HO2 : Hid (∀ u ∈ vs.take j, u.oneCell' = true) := hd fun u hu => hone u (List.mem_of_mem_take hu)
    have hvl : vs.length = f.cs.length := a3.1
    clear hx2 e5 e6 a1 a2 a3 hone
    obtain ⟨n, cs⟩ := f
    simp only at *
    have HVL := hd hvl
    clear hvl
    generalize hN0 : cs.length = N at *
    have HCL := hd hN0
    clear hN0
    have hsub : Hid (IntKind.i64.wrap ((N : Int) - (j : Int)) = (N : Int) - (j : Int)) := hd (IntWalk.i64_in _ (by omega))
    rcases hcut with ⟨rfl, h0, rfl⟩ | ⟨a, rfl, rfl, hck⟩ | ⟨a, rfl, hck⟩
    case' inl =>
      obtain rfl : N = 0 := by rw [← HCL.out, h0]; rfl
      have R1 : Hid (Rd w2 1 (.slice none 0 c2) (0 - 0) (vs.drop 0)) := hd RV.out
      have R2 : Hid (Rd w2 1 (.slice none 0 c2) 0 (vs.take 0)) := hd (rd_emptyV h22)
    case' inr.inl =>
      obtain rfl : N = c2 := by omega
      have R1 : Hid (Rd w2 1 (.slice (some a) 0 0) (N - N) (vs.drop N)) := hd (by rw [Nat.sub_self, List.drop_eq_nil_of_le (by rw [HVL.out]; exact Nat.le_refl _)]; exact rd_emptyV (Nat.zero_le _))
      have R2 : Hid (Rd w2 1 (.slice (some a) N N) N (vs.take N)) := hd (rd_takeV RV.out (Nat.le_refl _))
    case' inr.inr =>
      have hjc : j ≤ c2 := by omega
      have hjn : ¬ c2 = j := by omega
      have R1 : Hid (Rd w2 1 (.slice (some (a.add j)) (N - j) (c2 - j)) (N - j) (vs.drop j)) := hd (rd_dropV RV.out hj)
      have R2 : Hid (Rd w2 1 (.slice (some a) j c2) j (vs.take j)) := hd (rd_takeV RV.out hj)
    all_goals
      go_wp2_with fail
      rw [← HWO.out]
      obtain ⟨c0, c1⟩ := blk2 B4.out
      obtain ⟨d0, d1⟩ := blk2 B5.out
      have hso := XW.out.size
      have hb4 := blk_lt B4.out
      have hb5 := blk_lt B5.out
      have hz0 := (Ext.new wo (.cells #[] 52)).cell c0
      have hz1 := (Ext.new wo (.cells #[] 52)).cell c1
      have hz4 := (Ext.new wo (.cells #[] 52)).cell d1
      have EO : Hid (Own (wo.alloc (.cells #[] 52)) wo.heap.size 52 1 (.slice (some ⟨wo.heap.size, 0, none⟩) 0 0) 0 []) := hd (own_lit wo _ 52 1 #[] 0 (Nat.le_refl _) (Nat.zero_le _) rfl)
      have XL : Ext wo (wo.alloc (.cells #[] 52)) := Ext.new _ _
      have HS1 := hd hs1
      have HS2 := hd hs2
      have hlt12 : w.heap.size + 1 < w2.heap.size := by omega
      have HLT := hd hlt12
      clear hs1 hs2 hs0 hlt12
      generalize hbz : w.heap.size + 1 = bz at *
      have HBZ := hd hbz
      have hne : ¬ w.heap.size = bz := by omega
      have hne3 : ¬ w2.heap.size = bz := by have := HLT.out; omega
      have hbw : w.heap.size ≤ bz := by omega
      clear hbz
    · go_region_held3 (fun w' => w'.cell? ⟨w.heap.size, 0, none⟩ = some (.int .i64 n) ∧ w'.cell? ⟨w.heap.size, 1, none⟩ = some (.slice A N c) ∧ w'.cell? ⟨w2.heap.size, 1, none⟩ = some (.slice (some a) N c2))
        (first | exact ⟨c0, c1, d1⟩ | exact ⟨hz0, hz1, hz4⟩ | exact ⟨c4, c5, d5⟩ | exact ⟨c6, c7, d7⟩ | exact ⟨z0, z1, z2⟩)
        (first
        | (refine stepV _ (v := .slice (some ⟨wo.heap.size, 0, none⟩) 0 0) (base := wo.heap.size) (by first | exact EO.out | exact own_ext EO.out (Ext.refl _).drew) (R1.out.ext (XW.out.trans (by repeat (first | assumption | exact Ext.refl _ | exact ext_drewN _ _ | apply Ext.drew | refine Ext.alloc ?_ _)))) HO1.out rfl (.tmp 17) (.tmp 21) rfl (by rfl) (by rfl) (by omega) (by simp) ?_
           intro v4 w4 ho4 hg4
           have X4 : Ext wo w4 := ext_appS (w0 := wo) (by repeat (first | assumption | exact Ext.refl _ | exact ext_drewN _ _ | apply Ext.drew | refine Ext.alloc ?_ _)) hg4 (fun g hg => by cases hg; exact Nat.le_refl _)
           rw [Nat.zero_add, List.nil_append] at ho4
           obtain ⟨A4, c4', rfl⟩ := own_formN ho4
           have g4 : ∀ g, (Value.slice A4 (N - j) c4').ownBlock = some g → wo.heap.size ≤ g := fun g hg => (own_blocks ho4 g hg).1
           have c4 := X4.cell c0
           have c5 := X4.cell c1
           have d5 := X4.cell d1)
        | (refine stepV _ ho4 (R2.out.ext (XW.out.trans X4)) HO2.out rfl (.tmp 22) (.tmp 26) rfl (by rfl) (by rfl) (by omega) X4.size ?_
           intro v5 w5 ho5 hg5
           rw [show N - j + j = N from Nat.sub_add_cancel hj] at ho5
           obtain ⟨A5, c5', rfl⟩ := own_formN ho5
           have X5 : Ext wo w5 := ext_appS X4 hg5 g4
           have HO5 := hd ho5
           have c6 := X5.cell c0
           have c7 := X5.cell c1
           have d7 := X5.cell d1
           have z0 := cell_set2 (x := .int .i64 n) (y := .slice A5 N c5') c6 hne
           have z1 := cell_set2 (x := .int .i64 n) (y := .slice A5 N c5') c7 hne
           have z2 := cell_set2 (x := .int .i64 n) (y := .slice A5 N c5') d7 hne3
           have B9 := hd (X5.heap B3.out)
           obtain ⟨q0, q1⟩ := blk2 B9.out
           obtain ⟨q2, q3⟩ := blk2f B9.out
           have q4 := blk_lt B9.out))
      all_goals
        have HC := hd (blk2_setW (x' := .int .i64 n) (y' := .slice A5 N c5') B9.out)
        have hg3 := grown_set (grown_set (grown_refl w5 (some bz)) 0 (.int .i64 n)) 1 (.slice A5 N c5')
        have OWs := hd (swap_own (k := j) (N := N) HIN.out (XW.out.trans X5) (Nat.le_trans hso X5.size) (by rw [HCL.out]; omega) HCL.out.symm rfl (Nat.le_trans HS12.out hso) HO5.out)
        have OW2 := hd (((OWs.out.box B9.out (by decide) (by decide) hg3).hi_le hg3.size).lo_le (lo' := w.heap.size) (by have := HS1.out; omega))
        have X7 := hd (ext_setW (i := 1) (ext_setW (i := 0) (X2.out.trans (XW.out.trans X5)) hbw (.int .i64 n)) hbw (.slice A5 N c5'))
        clear hg3
        go_wp2
        obtain ⟨p0, p1⟩ := blk2 HC.out
        first
          | exact bodyPost_ret (v := .tuple #[.agg #[.int .i64 n, .slice A5 N c5'], .int .i64 (IntKind.i64.wrap ((N : Int) - (j : Int))), .bool true]) (by simp [results, Try.results15, go_sem, p0, p1]) rfl ⟨_, by rw [HN.out, hsub.out], by rw [HE.out]; exact ⟨_, rfl, OW2.out⟩, X7.out⟩
          | exact bodyPost_ret (v := .tuple #[.agg #[.int .i64 n, .slice A5 N c5'], .int .i64 ((N : Int) - (j : Int)), .bool true]) (by simp [results, Try.results15, go_sem, p0, p1]) rfl ⟨_, by rw [HN.out], by rw [HE.out]; exact ⟨_, rfl, OW2.out⟩, X7.out⟩
    · go_region_held3 (fun w' => w'.cell? ⟨w.heap.size, 0, none⟩ = some (.int .i64 n) ∧ w'.cell? ⟨w.heap.size, 1, none⟩ = some (.slice A N c) ∧ w'.cell? ⟨w2.heap.size, 1, none⟩ = some (.slice (some a) N N))
        (first | exact ⟨c0, c1, d1⟩ | exact ⟨hz0, hz1, hz4⟩ | exact ⟨c4, c5, d5⟩ | exact ⟨c6, c7, d7⟩ | exact ⟨z0, z1, z2⟩)
        (first
        | (refine stepV _ (v := .slice (some ⟨wo.heap.size, 0, none⟩) 0 0) (base := wo.heap.size) (by first | exact EO.out | exact own_ext EO.out (Ext.refl _).drew) (R2.out.ext (XW.out.trans (by repeat (first | assumption | exact Ext.refl _ | exact ext_drewN _ _ | apply Ext.drew | refine Ext.alloc ?_ _)))) HO2.out rfl (.tmp 22) (.tmp 26) rfl (by rfl) (by rfl) (by omega) (by simp) ?_
           intro v5 w5 ho5 hg5
           have X5 : Ext wo w5 := ext_appS (w0 := wo) (by repeat (first | assumption | exact Ext.refl _ | exact ext_drewN _ _ | apply Ext.drew | refine Ext.alloc ?_ _)) hg5 (fun g hg => by cases hg; exact Nat.le_refl _)
           rw [Nat.zero_add, List.nil_append] at ho5
           obtain ⟨A5, c5', rfl⟩ := own_formN ho5
           have ho5 : Own w5 wo.heap.size 52 1 (.slice A5 N c5') N (vs.drop N ++ vs.take N) := by rw [List.drop_eq_nil_of_le (by rw [HVL.out]; exact Nat.le_refl _), List.nil_append]; exact ho5
           have HO5 := hd ho5
           have c6 := X5.cell c0
           have c7 := X5.cell c1
           have d7 := X5.cell d1
           have z0 := cell_set2 (x := .int .i64 n) (y := .slice A5 N c5') c6 hne
           have z1 := cell_set2 (x := .int .i64 n) (y := .slice A5 N c5') c7 hne
           have z2 := cell_set2 (x := .int .i64 n) (y := .slice A5 N c5') d7 hne3
           have B9 := hd (X5.heap B3.out)
           obtain ⟨q0, q1⟩ := blk2 B9.out
           obtain ⟨q2, q3⟩ := blk2f B9.out
           have q4 := blk_lt B9.out))
      all_goals
        have HC := hd (blk2_setW (x' := .int .i64 n) (y' := .slice A5 N c5') B9.out)
        have hg3 := grown_set (grown_set (grown_refl w5 (some bz)) 0 (.int .i64 n)) 1 (.slice A5 N c5')
        have OWs := hd (swap_own (k := N) (N := N) HIN.out (XW.out.trans X5) (Nat.le_trans hso X5.size) (by rw [HCL.out]; omega) HCL.out.symm rfl (Nat.le_trans HS12.out hso) HO5.out)
        have OW2 := hd (((OWs.out.box B9.out (by decide) (by decide) hg3).hi_le hg3.size).lo_le (lo' := w.heap.size) (by have := HS1.out; omega))
        have X7 := hd (ext_setW (i := 1) (ext_setW (i := 0) (X2.out.trans (XW.out.trans X5)) hbw (.int .i64 n)) hbw (.slice A5 N c5'))
        clear hg3
        go_wp2
        obtain ⟨p0, p1⟩ := blk2 HC.out
        first
          | exact bodyPost_ret (v := .tuple #[.agg #[.int .i64 n, .slice A5 N c5'], .int .i64 (IntKind.i64.wrap ((N : Int) - (N : Int))), .bool true]) (by simp [results, Try.results15, go_sem, p0, p1]) rfl ⟨_, by rw [HN.out, hsub.out], by rw [HE.out]; exact ⟨_, rfl, OW2.out⟩, X7.out⟩
          | exact bodyPost_ret (v := .tuple #[.agg #[.int .i64 n, .slice A5 N c5'], .int .i64 ((N : Int) - (N : Int)), .bool true]) (by simp [results, Try.results15, go_sem, p0, p1]) rfl ⟨_, by rw [HN.out], by rw [HE.out]; exact ⟨_, rfl, OW2.out⟩, X7.out⟩
    · subst h0
      have HE0 : Hid (swapV ⟨n, []⟩ 0 = ⟨n, []⟩) := hd HE.out
      have HN0 : Hid (swapN ⟨n, []⟩ 0 = 0) := hd ((show swapN ⟨n, []⟩ 0 = ((0 : Nat) : Int) - ((0 : Nat) : Int) from HN.out).trans (by simp))
      have HD1 := hd (blk2_setW (x' := .int .i64 n) (y' := .slice (some ⟨wo.heap.size, 0, none⟩) 0 0) (XL.heap B3.out))
      obtain ⟨q0, q1⟩ := blk2 (XL.heap B3.out)
      obtain ⟨q2, q3⟩ := blk2f (XL.heap B3.out)
      have q4 := blk_lt (XL.heap B3.out)
      have z0 := cell_set2 (x := .int .i64 n) (y := .slice (some ⟨wo.heap.size, 0, none⟩) 0 0) hz0 hne
      have z1 := cell_set2 (x := .int .i64 n) (y := .slice (some ⟨wo.heap.size, 0, none⟩) 0 0) hz1 hne
      have z2 := cell_set2 (x := .int .i64 n) (y := .slice (some ⟨wo.heap.size, 0, none⟩) 0 0) hz4 hne3
      go_region_held3 (fun w' => w'.cell? ⟨w.heap.size, 0, none⟩ = some (.int .i64 n) ∧ w'.cell? ⟨w.heap.size, 1, none⟩ = some (.slice A 0 c) ∧ w'.cell? ⟨w2.heap.size, 1, none⟩ = some (.slice none 0 c2))
        (first | exact ⟨c0, c1, d1⟩ | exact ⟨hz0, hz1, hz4⟩ | exact ⟨z0, z1, z2⟩)
        (fail)
      all_goals
        have hg3 := grown_set (grown_set (grown_refl (wo.alloc (.cells #[] 52)) (some bz)) 0 (.int .i64 n)) 1 (.slice (some ⟨wo.heap.size, 0, none⟩) 0 0)
        have OWs := hd (ownSS_empW (W := wo) (eI := 3) (b := wo.heap.size) (lo := w.heap.size) (hi := wo.heap.size + 1) rfl (Nat.le_of_lt hb4) (by omega))
        have OW2 := hd ((OWs.out.box (XL.heap B3.out) (by decide) (by decide) hg3).hi_le (Nat.le_trans (by simp) hg3.size))
        have X7 := hd (ext_setW (i := 1) (ext_setW (i := 0) (X2.out.trans (XW.out.trans XL)) hbw (.int .i64 n)) hbw (.slice (some ⟨wo.heap.size, 0, none⟩) 0 0))
        clear hg3
        go_wp2
        obtain ⟨p0, p1⟩ := blk2 HD1.out
        have XD := (Ext.refl (((wo.alloc (.cells #[] 52)).setCell ⟨bz, 0, none⟩ (.int .i64 n)).setCell ⟨bz, 1, none⟩ (.slice (some ⟨wo.heap.size, 0, none⟩) 0 0))).drew
        have p2 := XD.cell p0
        have p3 := XD.cell p1
        have OW3 := hd ((OW2.out.ext XD).hi_le XD.size)
        have X8 := hd (X7.out.trans XD)
        exact bodyPost_ret (v := .tuple #[.agg #[.int .i64 n, .slice (some ⟨wo.heap.size, 0, none⟩) 0 0], .int .i64 0, .bool true]) (by simp [results, Try.results15, go_sem, p2, p3]; first | rfl | exact IntWalk.i64_in _ (by omega)) rfl ⟨_, by first | rw [HN0.out] | (rw [HN.out]; rfl), by first | (rw [HE0.out]; exact ⟨_, rfl, OW3.out⟩) | (rw [HE.out]; exact ⟨_, rfl, OW3.out⟩), X8.out⟩
end Go.Proofs.Ytlegfibfjhfkhaa
