/-
  Chapter 27: LadderGraph of both sides. No condition.
-/
import Derived.Test.YtegaablidoibdaaChgC
namespace Go.Proofs.Ytegaablidoibdaa
open Go.RowKit
/-- The edges of a ladder: rungs, then sides. -/
def rungE (k : Nat) : List (Int × Int) := (List.range k).map fun j : Nat => (2 * (j : Int), 2 * (j : Int) + 1)
theorem rungE_succ (k : Nat) : rungE (k + 1) = rungE k ++ [(2 * (k : Int), 2 * (k : Int) + 1)] := by simp [rungE, List.range_succ]
@[simp] theorem length_rungE (k : Nat) : (rungE k).length = k := by simp [rungE]
def sideE (n : Nat) : Nat → List (Int × Int)
  | 0 => rungE n
  | k + 1 => sideE n k ++ [(2 * (k : Int), 2 * (k : Int) + 2), (2 * (k : Int) + 1, 2 * (k : Int) + 3)]
theorem length_sideE (n k : Nat) : (sideE n k).length = n + 2 * k := by
  induction k with
  | zero => simp [sideE]
  | succ k ih => simp [sideE, ih]; omega
def ladG (n : Int) (odd : Bool) : Chg := if inB n 2 4 then ⟨2 * n, sideE n.toNat (n.toNat - 1), chgs (2 * n.toNat) odd⟩ else ⟨0, [], []⟩
set_option maxRecDepth 100000 in
set_option maxHeartbeats 1600000 in
theorem s_LadderGraph (n : Int) (odd : Bool) (w : World) : Calls Try.prog 35 #[.int .i64 n, .bool odd] w (RetC2 w (ladG n odd) (inB n 2 4)) := by
  obtain ⟨b, hb⟩ : ∃ b, inB n 2 4 = b := ⟨_, rfl⟩
  have HB := hd hb
  cases b
  · clear hb
    go_enter Try.func35, Try.ntmps35
    go_wp2_with (go_at_call 70; refine (rt (s_l1In _ _ _ _) HB).mono ?_; rintro e w1 ⟨rfl, rfl⟩)
    refine bodyPost_ret (v := .tuple #[.agg #[.int .i64 0, .slice none 0 0, .slice none 0 0], .bool false]) (by simp [results, Try.results35, go_sem]) rfl ⟨_, by rw [HB.out], ?_, ?_⟩
    · unfold ladG; rw [HB.out]; exact ownC_zero
    · exact Ext.new _ _
  · have hn := inB_iff.1 hb
    clear hb
    obtain ⟨m, rfl⟩ := Int.eq_ofNat_of_zero_le (show 0 ≤ n by omega)
    obtain ⟨hn1, hn2⟩ := hn
    go_enter Try.func35, Try.ntmps35
    go_wp2_with fail
    refine (rt (s_l1In _ _ _ _) HB).mono ?_
    rintro e w1 ⟨rfl, rfl⟩
    go_wp2
    go_loopw [7, 6] (fun i v' wr => ∃ k : Nat, k ≤ m ∧ i = .int .i64 k ∧ OwnP wr (w.heap.size + 1) 89 v' (rungE k) ∧ Ext (w.alloc (.cells #[.int .i64 0, .slice none 0 0, .slice none 0 0] 43)) wr) (fun i _ _ => m - (intOf i).toNat)
    case atStart => exact ⟨0, by omega, rfl, ownP_emp (by simp) (by omega), Ext.new _ _⟩
    case round =>
      obtain ⟨k, hk, rfl, ho, hx⟩ := hrel
      have HO := hd ho
      have HX := hd hx
      have hxs : w.heap.size + 1 ≤ wr.heap.size := by have := hx.size; simpa using this
      have hal := length_rungE k
      clear ho hx
      by_cases hlt : k < m
      · go_wp2_with (at_builtin; refine appPs wr (m := 1) (fs := [(2 * (k : Int), 2 * (k : Int) + 1)]) HO.out rfl _ _ rfl (by rfl) (by rfl) rfl rfl rfl (by omega) hxs ?_; intro v' w1 ho1 hg1)
        go_roundw
        case rel => exact ⟨k + 1, by omega, by go_num, by rw [rungE_succ]; exact ho1, ext_appP HX.out hg1 HO.out⟩
        case measure => simp [intOf]; omega
      · obtain rfl : k = m := by omega
        clear hk hal
        obtain ⟨wo, rfl⟩ : ∃ wo : World, wo = wr := ⟨_, rfl⟩
        go_wp2
        go_loopw [8, 6] (fun i v' wr => ∃ j : Nat, j + 1 ≤ k ∧ i = .int .i64 j ∧ OwnP wr (w.heap.size + 1) 89 v' (sideE k j) ∧ Ext (w.alloc (.cells #[.int .i64 0, .slice none 0 0, .slice none 0 0] 43)) wr) (fun i _ _ => k - (intOf i).toNat)
        case atStart => exact ⟨0, by omega, rfl, HO.out, HX.out⟩
        case round =>
          clear HO HX hxs hlt
          obtain ⟨j, hj, rfl, ho, hx⟩ := hrel
          have HO := hd ho
          have HX := hd hx
          have hxs : w.heap.size + 1 ≤ wr.heap.size := by have := hx.size; simpa using this
          have hal := length_sideE k j
          clear ho hx
          by_cases hlt : j + 1 < k
          · go_wp2_with (at_builtin; refine appPs wr (m := 2) (fs := [(2 * (j : Int), 2 * (j : Int) + 2), (2 * (j : Int) + 1, 2 * (j : Int) + 3)]) HO.out rfl _ _ rfl (by rfl) (by rfl) rfl rfl rfl (by omega) hxs ?_; intro v' w1 ho1 hg1)
            go_roundw
            case rel => exact ⟨j + 1, by omega, by go_num, ho1, ext_appP HX.out hg1 HO.out⟩
            case measure => simp [intOf]; omega
          · have hkm : j = k - 1 := by omega
            have HK := hd hkm
            clear hkm hal
            obtain ⟨A2, c2, rfl, O1⟩ := HO.out.form
            go_wp2_with fail
            refine (s_l27Charge (2 * k) A2 _ c2 odd _ (by omega)).mono ?_
            rintro e w2 ⟨vc, rfl, hc, hcb, hx2⟩
            obtain ⟨A3, c3, rfl, HC⟩ := hc.form
            have HX2 := hd (HX.out.trans hx2)
            have HE := hd (own_ext O1.out hx2)
            have HCB := hd hcb
            have HS : Hid (wr.heap.size ≤ w2.heap.size) := hd hx2.size
            obtain ⟨c0, c1, c2'⟩ := blk3 (HX2.out.heap (blk_new _ rfl))
            obtain ⟨f0, f1, f2⟩ := blk3f (HX2.out.heap (blk_new _ rfl))
            clear hc hcb hx2
            go_wp2
            refine bodyPost_ret (v := .tuple #[.agg #[.int .i64 (2 * (k : Int)), .slice A2 (sideE k j).length c2, .slice A3 (chgs (2 * k) odd).length c3], .bool true]) (by simp [results, Try.results35, go_sem, c0, c1, c2']) rfl ⟨_, by rw [HB.out], ?_, ext_b3 HX2.out.box (Nat.le_refl _)⟩
            unfold ladG
            rw [HB.out, if_pos rfl, Int.toNat_natCast, ← HK.out]
            refine ⟨_, _, rfl, own_rebase (own_touch HE.out (touch_b3 _ _ _ _ _) fun b hb => ?_) (by omega), own_rebase (own_touch HC.out (touch_b3 _ _ _ _ _) fun b hb => ?_) ?_, fun b hb => ?_, fun b hb => ?_⟩
            · have := (own_blocks HE.out b hb).1; omega
            · have := (own_blocks HC.out b hb).1; have := HX.out.box.size; have := HX.out.size; simp at this; omega
            · have := HX.out.box.size; exact this
            · have := (own_blocks O1.out b hb).2; have := HS.out; simp; omega
            · have := HCB.out b hb; simpa [size_setCell] using this
set_option maxRecDepth 100000 in
set_option maxHeartbeats 1600000 in
theorem i_LadderGraph (n : Int) (odd : Bool) (w : World) : Calls Try.prog 36 #[.int .i64 n, .bool odd] w (RetC2 w (ladG n odd) (inB n 2 4)) := by
  obtain ⟨b, hb⟩ : ∃ b, inB n 2 4 = b := ⟨_, rfl⟩
  have HB := hd hb
  cases b
  · clear hb
    go_enter Try.func36, Try.ntmps36
    go_wp2_with (go_at_call 75; refine (rt (i_within _ _ _ _) HB).mono ?_; rintro e w1 ⟨rfl, rfl⟩)
    refine bodyPost_ret (v := .tuple #[.agg #[.int .i64 0, .slice none 0 0, .slice none 0 0], .bool false]) (by simp [results, Try.results36, go_sem]) rfl ⟨_, by rw [HB.out], ?_, ?_⟩
    · unfold ladG; rw [HB.out]; exact ownC_zero
    · exact Ext.new _ _
  · have hn := inB_iff.1 hb
    clear hb
    obtain ⟨m, rfl⟩ := Int.eq_ofNat_of_zero_le (show 0 ≤ n by omega)
    obtain ⟨hn1, hn2⟩ := hn
    go_enter Try.func36, Try.ntmps36
    go_wp2_with fail
    refine (rt (i_within _ _ _ _) HB).mono ?_
    rintro e w1 ⟨rfl, rfl⟩
    go_wp2
    go_loopw [14, 7, 6] (fun i _ v' wr => ∃ k : Nat, k ≤ m ∧ i = .int .i64 k ∧ OwnP wr (w.heap.size + 1) 89 v' (rungE k) ∧ Ext (w.alloc (.cells #[.int .i64 0, .slice none 0 0, .slice none 0 0] 43)) wr) (fun i _ _ _ => m - (intOf i).toNat)
    case atStart => exact ⟨0, by omega, rfl, own_nil _ _ _ _, Ext.refl _⟩
    case round =>
      obtain ⟨k, hk, rfl, ho, hx⟩ := hrel
      have HO := hd ho
      have HX := hd hx
      have hxs : w.heap.size + 1 ≤ wr.heap.size := by have := hx.size; simpa using this
      have hal := length_rungE k
      clear ho hx
      by_cases hlt : k < m
      · go_wp2_with (at_builtin; refine appPs wr (m := 1) (fs := [(2 * (k : Int), 2 * (k : Int) + 1)]) HO.out rfl _ _ rfl (by rfl) (by rfl) rfl rfl rfl (by omega) hxs ?_; intro v' w1 ho1 hg1)
        go_roundw
        case rel => exact ⟨k + 1, by omega, by go_num, by rw [rungE_succ]; exact ho1, ext_appP HX.out hg1 HO.out⟩
        case measure => simp [intOf]; omega
      · obtain rfl : k = m := by omega
        clear hk hal
        obtain ⟨wo, rfl⟩ : ∃ wo : World, wo = wr := ⟨_, rfl⟩
        go_wp2
        go_loopw [29, 8, 6] (fun i _ v' wr => ∃ j : Nat, j + 1 ≤ k ∧ i = .int .i64 j ∧ OwnP wr (w.heap.size + 1) 89 v' (sideE k j) ∧ Ext (w.alloc (.cells #[.int .i64 0, .slice none 0 0, .slice none 0 0] 43)) wr) (fun i _ _ _ => k - (intOf i).toNat)
        case atStart => exact ⟨0, by omega, rfl, HO.out, HX.out⟩
        case round =>
          clear HO HX hxs hlt
          obtain ⟨j, hj, rfl, ho, hx⟩ := hrel
          have HO := hd ho
          have HX := hd hx
          have hxs : w.heap.size + 1 ≤ wr.heap.size := by have := hx.size; simpa using this
          have hal := length_sideE k j
          clear ho hx
          by_cases hlt : j + 1 < k
          · go_wp2_with (at_builtin; refine appPs wr (m := 2) (fs := [(2 * (j : Int), 2 * (j : Int) + 2), (2 * (j : Int) + 1, 2 * (j : Int) + 3)]) HO.out rfl _ _ rfl (by rfl) (by rfl) rfl rfl rfl (by omega) hxs ?_; intro v' w1 ho1 hg1)
            go_roundw
            case rel => exact ⟨j + 1, by omega, by go_num, ho1, ext_appP HX.out hg1 HO.out⟩
            case measure => simp [intOf]; omega
          · have hkm : j = k - 1 := by omega
            have HK := hd hkm
            clear hkm hal
            obtain ⟨A2, c2, rfl, O1⟩ := HO.out.form
            go_wp2_with fail
            refine (i_chargedGraph (2 * k) A2 _ c2 odd _ (by omega)).mono ?_
            rintro e w2 ⟨vc, rfl, hc, hcb, hx2⟩
            obtain ⟨A3, c3, rfl, HC⟩ := hc.form
            have HX2 := hd (HX.out.trans hx2)
            have HE := hd (own_ext O1.out hx2)
            have HCB := hd hcb
            have HS : Hid (wr.heap.size ≤ w2.heap.size) := hd hx2.size
            obtain ⟨c0, c1, c2'⟩ := blk3 (HX2.out.heap (blk_new _ rfl))
            obtain ⟨f0, f1, f2⟩ := blk3f (HX2.out.heap (blk_new _ rfl))
            clear hc hcb hx2
            go_wp2
            refine bodyPost_ret (v := .tuple #[.agg #[.int .i64 (2 * (k : Int)), .slice A2 (sideE k j).length c2, .slice A3 (chgs (2 * k) odd).length c3], .bool true]) (by simp [results, Try.results36, go_sem, c0, c1, c2']) rfl ⟨_, by rw [HB.out], ?_, ext_b3 HX2.out.box (Nat.le_refl _)⟩
            unfold ladG
            rw [HB.out, if_pos rfl, Int.toNat_natCast, ← HK.out]
            refine ⟨_, _, rfl, own_rebase (own_touch HE.out (touch_b3 _ _ _ _ _) fun b hb => ?_) (by omega), own_rebase (own_touch HC.out (touch_b3 _ _ _ _ _) fun b hb => ?_) ?_, fun b hb => ?_, fun b hb => ?_⟩
            · have := (own_blocks HE.out b hb).1; omega
            · have := (own_blocks HC.out b hb).1; have := HX.out.box.size; have := HX.out.size; simp at this; omega
            · have := HX.out.box.size; exact this
            · have := (own_blocks O1.out b hb).2; have := HS.out; simp; omega
            · have := HCB.out b hb; simpa [size_setCell] using this
end Go.Proofs.Ytegaablidoibdaa
