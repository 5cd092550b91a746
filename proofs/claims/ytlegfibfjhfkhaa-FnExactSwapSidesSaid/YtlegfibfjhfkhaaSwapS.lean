/-
  SwapSides of the reference: the copy of a formula, and its clauses in another order. Conditions: sizes up to 2^20.
-/
import Derived.Test.YtlegfibfjhfkhaaSwapC
namespace Go.Proofs.Ytlegfibfjhfkhaa
open Go.RowKit
theorem s_l1Own (xs : List Int) (v : Value) (w : World) (h : RdI w v xs) (hl : xs.length ≤ 1073741824) :
    Calls Try.prog 122 #[v] w (RetI w 3 xs) := by
  have HE : Hid (OwnI (w.alloc (.cells #[] 3)) w.heap.size 3 (.slice (some ⟨w.heap.size, 0, none⟩) 0 0) []) := hd (own_lit w _ 3 1 #[] 0 (Nat.le_refl _) (Nat.zero_le _) rfl)
  have HR := hd (h.ext (Ext.new w (.cells #[] 3)))
  obtain ⟨A, c, rfl, -⟩ := h.form
  clear h
  go_enter Try.func122, Try.ntmps122
  go_wp2_with (at_builtin; refine appSI _ HE.out HR.out rfl _ _ rfl (by rfl) (by rfl) (by simp; omega) (by simp) ?_; intro v' w1 ho1 hg1 _)
  go_ret
  exact ⟨_, rfl, by simpa using ho1, ext_appS (Ext.new _ _) hg1 (fun g hg => by cases hg; exact Nat.le_refl _)⟩
theorem ext_setW {a w : World} (h : Ext a w) {g i : Nat} (hg : a.heap.size ≤ g) (u : Value) : Ext a (w.setCell ⟨g, i, none⟩ u) :=
  ext_appS (v := .slice (some ⟨g, 0, none⟩) 0 0) h (grown_set (grown_refl w (some g)) i u) (fun x hx => by obtain rfl : g = x := Option.some.inj hx; exact hg)
theorem blk2_setW {w : World} {b : Nat} {x y x' y' : Value} {e : TypeId} (h : w.heap[b]? = some (.cells #[x, y] e)) : ((w.setCell ⟨b, 0, none⟩ x').setCell ⟨b, 1, none⟩ y').heap[b]? = some (.cells #[x', y'] e) := blk2_set1 (blk2_set0 h)
theorem ownSS_empW {W : World} {b lo hi : Nat} {eI : TypeId} (hb : W.heap.size = b) (hl : lo ≤ b) (hh : b < hi) : OwnSS (W.alloc (.cells #[] 52)) lo hi 52 eI (.slice (some ⟨b, 0, none⟩) 0 0) [] := by
  subst hb
  exact ⟨[], own_lit W lo 52 1 #[] 0 hl (Nat.zero_le _) rfl, (fun g hg => by obtain rfl : W.heap.size = g := Option.some.inj hg; exact hh), rfl, (fun i u xs h => by simp at h), (fun i j u u' g _ h => by simp at h)⟩
set_option maxRecDepth 100000 in
set_option maxHeartbeats 3200000 in
theorem s_l2Own (f : Cnf) (v : Value) (w : World) (h : Rd_Cnf w v f) (b : Bd_Cnf f) :
    Calls Try.prog 62 #[v] w (fun e w' => ∃ ov, e = .returned (.agg #[.int .i64 f.n, ov]) ∧ OwnSS w' w.heap.size w'.heap.size 52 3 ov f.cs ∧ Ext w w') := by
  obtain ⟨vc, rfl, hC⟩ := h
  obtain ⟨A, c, rfl, h1, h2, ha⟩ := hC.form
  clear hC
  obtain ⟨hb1, hb2, -⟩ := b
  have HL : Hid (∀ k (hk : k < f.cs.length), f.cs[k].length ≤ 1073741824) := hd fun k hk => by have := hb2 _ (List.getElem_mem hk); omega
  obtain ⟨n, cs⟩ := f
  simp only at *
  clear hb2
  obtain ⟨w0, hw0⟩ : ∃ w0 : World, w0 = (w.alloc (.cells #[.int .i64 n, .slice A cs.length c] 26)).alloc (.cells #[.int .i64 0, .slice none 0 0] 26) := ⟨_, rfl⟩
  have hs0 : w0.heap.size = w.heap.size + 2 := by rw [hw0]; simp
  have HRA : Hid (w0.heap[w.heap.size]? = some (.cells #[.int .i64 n, .slice A cs.length c] 26)) := hd (by rw [hw0]; exact blk_old (blk_new _ rfl))
  have HRZ : Hid (w0.heap[w.heap.size + 1]? = some (.cells #[.int .i64 0, .slice none 0 0] 26)) := hd (by rw [hw0]; exact blk_new _ (by simp))
  have HX0 : Hid (Ext w w0) := hd (by rw [hw0]; exact (Ext.new _ _).alloc _)
  have HW0 := hd hw0
  obtain ⟨bl, hbl0⟩ : ∃ bl, w.heap.size + 1 + 1 = bl := ⟨_, rfl⟩
  obtain ⟨bx, hbx⟩ : ∃ bx, bl + 1 = bx := ⟨_, rfl⟩
  have F0 : Hid (FamB w0 ((w0.alloc (.cells #[] 52)).alloc (.cells #[.int .i64 n, .slice (some ⟨bl, 0, none⟩) 0 0] 26)) bx 26 n (w.heap.size + 2) (.slice (some ⟨bl, 0, none⟩) 0 0) (cs.take 0)) :=
    hd ⟨blk_new _ (by simp; omega), (ownSS_empW (hi := w0.heap.size + 2) (by omega) (by omega) (by omega)).ext (Ext.new _ _) |>.hi_le (by simp), (Ext.new _ _).alloc _, by omega, by omega, by simp; omega⟩
  clear hw0
  go_enter Try.func62, Try.ntmps62
  go_wp2
  rw [← HW0.out]
  try rw [hbl0]
  try rw [hbx]
  have HBX := hd hbx
  have HBL := hd hbl0
  clear hbx hbl0
  go_loopw [4] (fun x wr => ∃ k : Nat, k ≤ cs.length ∧ x = .int .i64 (k : Int) ∧ ∃ ov, FamB w0 wr bx 26 n (w.heap.size + 2) ov (cs.take k)) (fun x _ => cs.length - (intOf x).toNat)
  case atStart => exact ⟨0, by omega, rfl, _, F0.out⟩
  case round =>
    obtain ⟨k, hk, rfl, ov, hF⟩ := hrel
    have HF := hd hF
    clear hF F0
    obtain ⟨e0, e1⟩ := blk2 (HF.out.ext.heap HRA.out)
    by_cases hlt : k < cs.length
    · have HT : Hid (cs.take (k + 1) = cs.take k ++ [cs[k]]) := hd (by rw [List.take_add_one, List.getElem?_eq_getElem hlt]; rfl)
      have hlen : (cs.take k).length = k := by rw [List.length_take]; omega
      obtain ⟨a, u, rfl, hc0, hrow⟩ := RdSS.at_ ha hlt
      have hkl := HL.out k hlt
      generalize cs[k] = y at *
      obtain ⟨wo, rfl⟩ : ∃ wo : World, wo = wr := ⟨_, rfl⟩
      have r0 := HF.out.ext.cell (HX0.out.cell hc0)
      have HRW : Hid (RdI wo u y) := hd (hrow.ext (HX0.out.trans HF.out.ext))
      have HLC : Hid (∀ w', Ext wo w' → Calls Try.prog 122 #[u] w' (RetI w' 3 y)) := hd fun w' hx => s_l1Own y u w' (HRW.out.ext hx) hkl
      clear hc0 hrow
      obtain ⟨c0, c1⟩ := blk2 HF.out.blk
      have hbl := blk_lt HF.out.blk
      have hx0 := HF.out.ext
      go_wp2_with fail
      go_region_law (first
        | (go_simp; go_at_call 122; refine (HLC.out _ (by repeat (first | assumption | exact Ext.refl _ | exact ext_drewN _ _ | apply Ext.drew | refine Ext.alloc ?_ _))).mono ?_; rintro e w1 ⟨u1, rfl, hu, hx1⟩
           have X1 : Ext wo w1 := Ext.trans (by repeat (first | assumption | exact Ext.refl _ | exact ext_drewN _ _ | apply Ext.drew | refine Ext.alloc ?_ _)) hx1
           have X2 : Ext w0 w1 := hx0.trans X1
           have d0 := X1.cell c0
           have d1 := X1.cell c1
           have d3 := X1.cell e1
           have d4 := X1.cell r0
           have d2 := Nat.lt_of_lt_of_le hbl X1.size
           obtain ⟨A4, c4, rfl, -⟩ := hu.rd.form
           have hu' : OwnI w1 wo.heap.size 3 (.slice A4 y.length c4) y := own_rebase hu (by simp))
        | (refine stepL _ (v := ov) (src := .slice (some ⟨_, 0, none⟩) 1 1) (lo := w.heap.size + 2) (hi := wo.heap.size) ((HF.out.own.ext X1).ext (Ext.new _ _)) (own_ext hu' (Ext.new _ _)) HF.out.low (Nat.le_trans X1.size (by simp)) (rd_oneV _ _ _) rfl (.tmp 17) (.tmp 24) rfl (by rfl) (by rfl) (by omega) ?_
           intro v' w2 ho2 hg2
           obtain ⟨A5, c5, rfl, h51, h52⟩ := OwnSS.form ho2
           have hB2 := HF.out.blk1 (by decide) (X1.alloc _) hg2
           obtain ⟨q0, q1⟩ := blk2 hB2
           obtain ⟨q2, q3⟩ := blk2f hB2
           have q4 := blk_lt hB2
           have HP := HF.out.put (by decide) (by decide) (X1.alloc _) ho2 hg2
           have X9 := HP.ext
           have X8 : Ext w0 w2 := ext_appS (hx0.trans (X1.alloc _)) hg2 HF.out.own_low
           generalize hLL : (cs.take k ++ [y]).length = LL at *))
      all_goals
        go_wp2
        go_roundw
        case rel => exact ⟨k + 1, by omega, by go_num, _, by rw [HT.out]; exact HP⟩
        case measure => simp [intOf]; omega
    · obtain rfl : k = cs.length := by omega
      have XF := hd HF.out.ext
      have B0 := hd (XF.out.heap HRZ.out)
      have HF2 : Hid (FamB w0 wr bx 26 n (w.heap.size + 2) ov cs) := hd (by have := HF.out; rw [List.take_length] at this; exact this)
      clear HF
      obtain ⟨A9, c9, rfl, h91, h92⟩ := HF2.out.own.form
      obtain ⟨k0, k1⟩ := blk2 B0.out
      obtain ⟨k2, k3⟩ := blk2f B0.out
      have k4 := blk_lt B0.out
      obtain ⟨m0, m1⟩ := blk2 HF2.out.blk
      have OW := hd HF2.out.own
      have X3 := hd (HX0.out.trans XF.out)
      have HC := hd (blk2_setW (x' := .int .i64 n) (y' := .slice A9 cs.length c9) B0.out)
      have hg3 := grown_set (grown_set (grown_refl wr (some (w.heap.size + 1))) 0 (.int .i64 n)) 1 (.slice A9 cs.length c9)
      have OW2 := hd ((OW.out.box B0.out (by decide) (by decide) hg3).hi_le hg3.size)
      have X4 := hd (ext_setW (i := 1) (ext_setW (i := 0) X3.out (g := w.heap.size + 1) (by omega) (.int .i64 n)) (g := w.heap.size + 1) (by omega) (.slice A9 cs.length c9))
      clear hg3
      go_wp2
      obtain ⟨p0, p1⟩ := blk2 HC.out
      exact bodyPost_ret (v := .agg #[.int .i64 n, .slice A9 cs.length c9]) (by simp [results, Try.results62, go_sem, p0, p1]) rfl ⟨_, rfl, OW2.out.lo_le (by omega), X4.out⟩
end Go.Proofs.Ytlegfibfjhfkhaa
