/-
  SwapSides of the program. Conditions: sizes up to 2^20.
-/
import Derived.Test.YtlegfibfjhfkhaaSwapP
namespace Go.Proofs.Ytlegfibfjhfkhaa
open Go.RowKit
set_option maxRecDepth 100000 in
set_option maxHeartbeats 400000 in
theorem i_SwapSides (f : Cnf) (v : Value) (k : Int) (w : World) (h : Rd_Cnf w v f) (b : Bd_Cnf f) (_ : I64_Cnf f) (_ : I64 k) :
    Calls Try.prog 17 #[v, .int .i64 k] w (RetW w (swapV f k) (swapN f k) (askB f k)) := by
  obtain ⟨A, c, rfl⟩ := h.form
  obtain ⟨w0, hw0⟩ : ∃ w0 : World, w0 = (w.alloc (.cells #[.int .i64 f.n, .slice A f.cs.length c] 26)).alloc (.cells #[.int .i64 0, .slice none 0 0] 26) := ⟨_, rfl⟩
  have X0 : Hid (Ext w w0) := hd (by rw [hw0]; exact (Ext.new _ _).alloc _)
  have hs0 : w0.heap.size = w.heap.size + 2 := by rw [hw0]; simp
  have HRA : Hid (w0.heap[w.heap.size]? = some (.cells #[.int .i64 f.n, .slice A f.cs.length c] 26)) := hd (by rw [hw0]; exact blk_old (blk_new _ rfl))
  have HRZ : Hid (w0.heap[w.heap.size + 1]? = some (.cells #[.int .i64 0, .slice none 0 0] 26)) := hd (by rw [hw0]; exact blk_new _ (by simp))
  have HV := hd (h.ext X0.out)
  have HB := hd b
  have HW0 := hd hw0
  have hlb := b.1
  clear h b hw0
  obtain ⟨q, hq⟩ : ∃ q, askB f k = q := ⟨_, rfl⟩
  have HQ := hd hq
  cases q
  · have HE : Hid (swapV f k = ⟨0, []⟩) := hd (by unfold swapV; rw [hq]; rfl)
    have HN : Hid (swapN f k = 0) := hd (by unfold swapN; rw [hq]; rfl)
    clear hq
    obtain ⟨y0, y1⟩ := blk2 HRA.out
    go_enter Try.func17, Try.ntmps17
    rw [HQ.out]
    go_wp2_with (rw [← HW0.out])
    refine (i_splitOf_no f _ k _ HV.out HB.out HQ.out).mono ?_
    rintro e w1 ⟨rfl, hx1⟩
    have X1 := hd (X0.out.trans hx1)
    have B1 := hd (hx1.heap HRZ.out)
    obtain ⟨k0, k1⟩ := blk2 B1.out
    obtain ⟨k2, k3⟩ := blk2f B1.out
    have k4 := blk_lt B1.out
    have HC := hd (blk2_setW (x' := .int .i64 0) (y' := .slice none 0 0) B1.out)
    have X4 := hd (ext_setW (i := 1) (ext_setW (i := 0) X1.out (g := w.heap.size + 1) (by omega) (.int .i64 0)) (g := w.heap.size + 1) (by omega) (.slice none 0 0))
    clear hx1
    go_wp2
    obtain ⟨p0, p1⟩ := blk2 HC.out
    exact bodyPost_ret (v := .tuple #[.agg #[.int .i64 0, .slice none 0 0], .int .i64 0, .bool false]) (by simp [results, Try.results17, go_sem, p0, p1]) rfl (RetW.zero HE HN X4.out rfl)
  · obtain ⟨hg, j, rfl, hj⟩ := ask_inv hq
    have HE : Hid (swapV f (j : Int) = ⟨f.n, f.cs.drop j ++ f.cs.take j⟩) := hd (by unfold swapV; rw [hq, if_pos rfl, Int.toNat_natCast])
    have HN : Hid (swapN f (j : Int) = (f.cs.length : Int) - (j : Int)) := hd (by unfold swapN; rw [hq, if_pos rfl])
    have e1 : (0 : Int) ≤ (j : Int) := by omega
    have e2 : (j : Int) ≤ (f.cs.length : Int) := by omega
    have HG := hd hg
    have HJ := hd hj
    have HBR : Hid (∀ xs ∈ f.cs.drop j ++ f.cs.take j, xs.length ≤ 1048576) := hd fun xs hx => by
      rcases List.mem_append.1 hx with h | h
      · exact HB.out.2.1 xs (List.mem_of_mem_drop h)
      · exact HB.out.2.1 xs (List.mem_of_mem_take h)
    have HDL : Hid ((f.cs.drop j).length ≤ 1048576 ∧ (f.cs.take j).length ≤ 1048576 ∧ (f.cs.drop j ++ f.cs.take j).length = f.cs.length) := hd (by simp only [List.length_append, List.length_drop, List.length_take]; omega)
    clear hq hg hj
    obtain ⟨y0, y1⟩ := blk2 HRA.out
    go_enter Try.func17, Try.ntmps17
    rw [HQ.out]
    go_wp2_with (rw [← HW0.out])
    refine (i_splitOf_yes f _ j _ HV.out HB.out HG.out HJ.out).mono ?_
    rintro e w1 ⟨p, rfl, hs, hx1⟩
    have HSP := hd hs.rd
    obtain ⟨bl, vc, vs, rfl, -, -, -, -, -⟩ := hs
    have X1 := hd (X0.out.trans hx1)
    have B1 := hd (hx1.heap HRZ.out)
    have B2 := hd (hx1.heap HRA.out)
    have HRC : Hid (∀ w', Ext w1 w' → Calls Try.prog 66 #[.pointer (some ⟨bl, 0, none⟩)] w' (fun e w2 => ∃ u, e = .returned u ∧ RdSS w2 u (f.cs.drop j) ∧ Ext w' w2)) := hd fun w' hx => (i_right f j _ _ w' (HSP.out.ext hx) HJ.out (by omega)).mono fun e w2 ⟨u, he, hr, n, hw⟩ => ⟨u, he, by rw [hw]; exact hr.ext (ext_drewN _ _), by rw [hw]; exact ext_drewN _ _⟩
    have HLC : Hid (∀ w', Ext w1 w' → Calls Try.prog 67 #[.pointer (some ⟨bl, 0, none⟩)] w' (fun e w2 => ∃ u, e = .returned u ∧ RdSS w2 u (f.cs.take j) ∧ Ext w' w2)) := hd fun w' hx => (i_left f j _ _ w' (HSP.out.ext hx) HJ.out (by omega)).mono fun e w2 ⟨u, he, hr, n, hw⟩ => ⟨u, he, by rw [hw]; exact hr.ext (ext_drewN _ _), by rw [hw]; exact ext_drewN _ _⟩
    have HCC : Hid (∀ (w' : World) (b : Nat) (u1 u2 : Value), RdSS w' u1 (f.cs.drop j) → RdSS w' u2 (f.cs.take j) → w'.heap[b]? = some (.cells #[u1, u2] 22 (0, 0)) → Calls Try.prog 65 #[.slice (some ⟨b, 0, none⟩) 2 2] w' (fun e w2 => ∃ v, e = .returned v ∧ RdSS w2 v (f.cs.drop j ++ f.cs.take j) ∧ Ext w' w2)) := hd fun w' b u1 u2 h1 h2 hb => (slices_ConcatL _ _ u1 u2 b w' h1 h2 HDL.out.1 HDL.out.2.1 hb).mono fun e w2 ⟨v, he, ho, hx⟩ => ⟨v, he, ho.rd hx, hx⟩
    have HKC : Hid (∀ (w' : World) (v : Value), RdSS w' v (f.cs.drop j ++ f.cs.take j) → Calls Try.prog 64 #[v] w' (RetSS w' 52 3 (f.cs.drop j ++ f.cs.take j))) := hd fun w' v hr => i_cloneLists _ v w' hr (by rw [HDL.out.2.2]; exact hlb) HBR.out
    have hs1 : w.heap.size + 2 ≤ w1.heap.size := by have := hx1.size; omega
    have HL3 := hd HDL.out.2.2
    clear hx1 HBR HSP y0 y1
    obtain ⟨n, cs⟩ := f
    simp only at *
    obtain ⟨DL, hDL⟩ : ∃ DL, (cs.drop j).length = DL := ⟨_, rfl⟩
    obtain ⟨TL, hTL⟩ : ∃ TL, (cs.take j).length = TL := ⟨_, rfl⟩
    have HDN := hd hDL
    have HTN := hd hTL
    clear hDL hTL
    generalize hdd : cs.drop j = D at *
    generalize htt : cs.take j = T at *
    generalize hrr : D ++ T = R at *
    generalize hN0 : cs.length = N at *
    clear hdd htt hrr hN0
    obtain ⟨c0, c1⟩ := blk2 B2.out
    have hb2 := blk_lt B2.out
    have HB1 := hd (blk_lt B1.out)
    go_wp2_with fail
    have HS1 := hd hs1
    clear hs1 hs0
    generalize hbz : w.heap.size + 1 = bz at *
    have hne : ¬ w.heap.size = bz := by omega
    have hne2 : ¬ bz = w.heap.size := by omega
    have HBZ := hd hbz
    clear hbz
    go_region_held3 (fun w' => w'.cell? ⟨w.heap.size, 0, none⟩ = some (.int .i64 n) ∧ w'.cell? ⟨w.heap.size, 1, none⟩ = some (.slice A N c))
      (first | exact ⟨c0, c1⟩ | exact ⟨r0, r1⟩ | exact ⟨l0, l1⟩ | exact ⟨l3, l4⟩ | exact ⟨s0, s1⟩ | exact ⟨t0, t1⟩ | exact ⟨z0, z1⟩)
      (first
      | (go_simp; go_at_call 66; refine (HRC.out _ (by repeat (first | assumption | exact Ext.refl _ | exact ext_drewN _ _ | apply Ext.drew | refine Ext.alloc ?_ _))).mono ?_
         rintro e wr ⟨ur, rfl, hur, hxr⟩
         have XR : Ext w1 wr := Ext.trans (by repeat (first | assumption | exact Ext.refl _ | exact ext_drewN _ _ | apply Ext.drew | refine Ext.alloc ?_ _)) hxr
         clear hxr
         have HUR := hd hur
         clear hur
         have r0 := XR.cell c0
         have r1 := XR.cell c1
         obtain ⟨A1, c1', rfl, -⟩ := rdSS_formN HUR.out HDN.out)
      | (go_simp; go_at_call 67; refine (HLC.out _ (by repeat (first | assumption | exact Ext.refl _ | exact ext_drewN _ _ | apply Ext.drew | refine Ext.alloc ?_ _))).mono ?_
         rintro e wl ⟨ul, rfl, hul, hxl⟩
         have XRL : Ext wr wl := Ext.trans (by repeat (first | assumption | exact Ext.refl _ | exact ext_drewN _ _ | apply Ext.drew | refine Ext.alloc ?_ _)) hxl
         clear hxl
         have XL : Ext w1 wl := XR.trans XRL
         have HUL := hd hul
         have HUR2 := hd (HUR.out.ext XRL)
         clear hul
         have l0 := XL.cell c0
         have l1 := XL.cell c1
         obtain ⟨A2, c2', rfl, -⟩ := rdSS_formN HUL.out HTN.out
         have l2 := Nat.lt_of_lt_of_le hb2 XL.size
         have l3 := (Ext.new wl (.cells #[.slice A1 DL c1', .slice A2 TL c2'] 22)).cell l0
         have l4 := (Ext.new wl (.cells #[.slice A1 DL c1', .slice A2 TL c2'] 22)).cell l1)
      | (go_simp; go_at_call 65; refine (HCC.out _ _ _ _ (HUR2.out.ext (by repeat (first | assumption | exact Ext.refl _ | exact ext_drewN _ _ | apply Ext.drew | refine Ext.alloc ?_ _))) (HUL.out.ext (by repeat (first | assumption | exact Ext.refl _ | exact ext_drewN _ _ | apply Ext.drew | refine Ext.alloc ?_ _))) (by first | exact blk_new _ (by simp) | exact Ext.heap ((Ext.refl _).drew) (blk_new _ (by simp)))).mono ?_
         rintro e wc ⟨uc, rfl, huc, hxc⟩
         have XC : Ext w1 wc := Ext.trans (by repeat (first | assumption | exact Ext.refl _ | exact ext_drewN _ _ | apply Ext.drew | refine Ext.alloc ?_ _)) hxc
         clear hxc
         have HUC := hd huc
         clear huc
         have s0 := XC.cell c0
         have s1 := XC.cell c1
         obtain ⟨A3, c3', rfl, -⟩ := rdSS_formN HUC.out HL3.out)
      | (go_simp; go_at_call 64; refine (HKC.out _ _ (HUC.out.ext (by repeat (first | assumption | exact Ext.refl _ | exact ext_drewN _ _ | apply Ext.drew | refine Ext.alloc ?_ _)))).mono ?_
         rintro e wk ⟨uk, rfl, huk, hxk⟩
         have XCK : Ext wc wk := Ext.trans (by repeat (first | assumption | exact Ext.refl _ | exact ext_drewN _ _ | apply Ext.drew | refine Ext.alloc ?_ _)) hxk
         have XK : Ext w1 wk := XC.trans XCK
         have HSZ : Hid (w.heap.size ≤ wc.heap.size) := hd (Nat.le_trans (Nat.le_of_lt hb2) XC.size)
         have HUK := hd (huk.lo_le (lo' := w.heap.size) (Nat.le_trans HSZ.out ((show Ext wc _ from (by repeat (first | assumption | exact Ext.refl _ | exact ext_drewN _ _ | apply Ext.drew | refine Ext.alloc ?_ _))).size)))
         clear hxk huk
         have t0 := XK.cell c0
         have t1 := XK.cell c1
         obtain ⟨A4, c4', rfl⟩ := OwnSS.formN HUK.out HL3.out
         have B9 := hd (XK.heap B1.out)
         obtain ⟨q0, q1⟩ := blk2 B9.out
         obtain ⟨q2, q3⟩ := blk2f B9.out
         have q4 := blk_lt B9.out
         have z0 := cell_set2 (x := .int .i64 n) (y := .slice A4 N c4') t0 hne
         have z1 := cell_set2 (x := .int .i64 n) (y := .slice A4 N c4') t1 hne))
    all_goals
      have HC := hd (blk2_setW (x' := .int .i64 n) (y' := .slice A4 N c4') B9.out)
      have hg3 := grown_set (grown_set (grown_refl wk (some bz)) 0 (.int .i64 n)) 1 (.slice A4 N c4')
      have OW2 := hd ((HUK.out.box B9.out (by decide) (by decide) hg3).hi_le hg3.size)
      have hbw : w.heap.size ≤ bz := by have := HBZ.out; omega
      have X7 := hd (ext_setW (i := 1) (ext_setW (i := 0) (X1.out.trans XK) hbw (.int .i64 n)) hbw (.slice A4 N c4'))
      have hsub : IntKind.i64.wrap ((N : Int) - (j : Int)) = (N : Int) - (j : Int) := IntWalk.i64_in _ (by omega)
      have HSB := hd hsub
      clear hg3 hsub
      go_wp2
      obtain ⟨p0, p1⟩ := blk2 HC.out
      first
        | exact bodyPost_ret (v := .tuple #[.agg #[.int .i64 n, .slice A4 N c4'], .int .i64 (IntKind.i64.wrap ((N : Int) - (j : Int))), .bool true]) (by simp [results, Try.results17, go_sem, p0, p1]) rfl ⟨_, by rw [HN.out, HSB.out], by rw [HE.out]; exact ⟨_, rfl, OW2.out⟩, X7.out⟩
        | exact bodyPost_ret (v := .tuple #[.agg #[.int .i64 n, .slice A4 N c4'], .int .i64 ((N : Int) - (j : Int)), .bool true]) (by simp [results, Try.results17, go_sem, p0, p1]) rfl ⟨_, by rw [HN.out], by rw [HE.out]; exact ⟨_, rfl, OW2.out⟩, X7.out⟩
end Go.Proofs.Ytlegfibfjhfkhaa
