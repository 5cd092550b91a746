/-
  Discharge, the reference: which steps are correct. Conditions: texts and lists up to 2^20.
-/
import Derived.Test.YtapgpjhogdmjbaaDoorFrgS
import Derived.Test.YtapgpjhogdmjbaaDoorCas2
namespace Go.Proofs.YtapgpjhogdmjbaaDoor
open Go.RowKit Go.Sort
set_option maxRecDepth 100000 in
theorem s_l24Is (j : Nat) (hj : j < 10) (y : Fm) (hy : WfF y = true) (ly : (txt y).length ≤ 80) (w : World) : Calls Tryd.prog 54 #[.int .i64 ((j : Int) + 1), .string (strF y)] w (RetX w (.bool (isC (j + 1) y))) := by
  have HV := hd (schV_at hj)
  obtain ⟨hf, ha, hl1, _⟩ := schT_ok (j + 1)
  have HM : Hid (∀ (v : Value) (w : World), Rd_StringS w v [[], [], []] → Calls Tryd.prog 58 #[.string (schS (j + 1)), .string (strF y), v] w (fun e w' => ∃ u, e = .returned (.tuple #[u, .bool (isC (j + 1) y)]) ∧ Ext w w')) := hd fun v w h => by
    have := s_l24Match (schT (j + 1)) y hf ha hy (by omega) (by omega) [[], [], []] v w rfl h
    refine this.mono ?_
    rintro e w' ⟨u, rfl, hx, _⟩
    exact ⟨u, rfl, hx⟩
  have hwr : IntKind.i64.wrap ((j : Int) + 1 - 1) = (j : Int) := by rw [show (j : Int) + 1 - 1 = (j : Int) from by omega]; exact IntWalk.i64_in _ (by omega)
  have hj0 : (0 : Int) ≤ (j : Int) := by omega
  have hj1 : (j : Int) < 10 := by omega
  generalize schS (j + 1) = s0 at *
  generalize strF y = sy at *
  generalize isC (j + 1) y = q at *
  clear hf ha hl1
  go_enter Tryd.func54, Tryd.ntmps54
  go_wp2_with fail
  refine (s_l24Schemes w).mono ?_
  rintro e w1 ⟨u, rfl, hu, hx⟩
  obtain ⟨_, A, cc, rfl, _, _, hcell⟩ := hu
  obtain ⟨ad, rfl, hc0⟩ := hcell j _ HV.out
  have HX := hd hx
  clear hcell hx HV
  have HB : Hid (Rd_StringS (w1.alloc (.cells #[.string .empty, .string .empty, .string .empty] 9)) (.slice (some ⟨w1.heap.size, 0, none⟩) 3 3) [[], [], []]) := hd (rd_blk (s := 1) (us := strs [[], [], []]) (blk_new _ rfl) rfl rfl (by unfold maxLen; omega))
  go_wp2_with fail
  refine (HM.out _ _ HB.out).mono ?_
  rintro e w2 ⟨u, rfl, hx⟩
  have HX2 := hd (HX.out.trans ((Ext.new _ _).trans hx))
  clear hx
  go_wp2
  go_ret
  exact RetX.mk rfl HX2.out
set_option maxHeartbeats 800000 in
theorem s_impB (a b : ByteArray) (w : World) (ha : a.size ≤ 1048576) (hb : b.size ≤ 1048576) : Calls Tryd.prog 36 #[.string a, .string b] w (Ret w (.string (impB a b))) := by
  have q1 : ¬ 9223372036854775807 < 1 + a.size := by omega
  have q2 : ¬ 9223372036854775807 < 1 + a.size + 1 := by omega
  have q3 : ¬ 9223372036854775807 < 1 + a.size + 1 + b.size := by omega
  have q4 : ¬ 9223372036854775807 < 1 + a.size + 1 + b.size + 1 := by omega
  go_enter Tryd.func36, Tryd.ntmps36
  go_wp2
  go_ret
  exact Ret.mk rfl
set_option maxHeartbeats 800000 in
theorem s_l24Asked (gs : List (List UInt8)) (rs : List Rec) (v u : Value) (w : World) (h : Rd_StringS w v gs) (hr : RdRec w u rs) : Calls Tryd.prog 32 #[v, u] w (RetX w (.bool (askFr gs rs))) := by
  obtain ⟨A, c, rfl, h1, h2, ha⟩ := h.form
  obtain ⟨B, d, rfl, -, -, -⟩ := hr.form
  have HA : Hid (askFr gs rs = (decide (gs.length ≤ 6) && (decide (rs.length ≤ 80) && gs.all fun s => isF ⟨s.toArray⟩))) := hd rfl
  have HG := hd (fun (s : ByteArray) (w : World) => s_l22Good s w)
  clear h hr
  by_cases g1 : gs.length ≤ 6
  · by_cases g2 : rs.length ≤ 80
    · rw [decide_eq_true g1, decide_eq_true g2, Bool.true_and, Bool.true_and] at HA
      have e1 : ¬ (6 : Int) < (gs.length : Int) := by omega
      have e2 : ¬ (80 : Int) < (rs.length : Int) := by omega
      go_enter Tryd.func32, Tryd.ntmps32
      go_wp2
      go_loopw [5] (fun i wr => ∃ k : Nat, k ≤ gs.length ∧ i = .int .i64 k ∧ Hid (askFr gs rs = (gs.drop k).all fun s => isF ⟨s.toArray⟩) ∧ Ext w wr) (fun i _ => gs.length - (intOf i).toNat)
      case atStart => exact ⟨0, by omega, rfl, HA, Ext.refl _⟩
      case round =>
        clear HA
        obtain ⟨k, hk, rfl, HR, hx⟩ := hrel
        have HX := hd hx
        clear hx
        by_cases hlt : k < gs.length
        · obtain ⟨a, rfl, hc0⟩ := Rd_StringS.at_ ha hlt
          have hc := HX.out.cell hc0
          clear hc0
          have hdc : gs.drop k = gs[k] :: gs.drop (k + 1) := List.drop_eq_getElem_cons hlt
          rw [hdc, List.all_cons] at HR
          clear hdc
          generalize gs[k] = y at *
          obtain ⟨b, hb⟩ : ∃ b, isF ⟨y.toArray⟩ = b := ⟨_, rfl⟩
          have HB := hd hb
          rw [hb] at HR
          clear hb
          go_wp2_with fail
          refine (HG.out _ _).mono ?_
          rintro e w1 ⟨rfl, rfl⟩
          rw [HB.out]
          cases b
          · go_wp2
            go_ret
            exact RetX.mk (by rw [HR.out]; rfl) HX.out
          · go_wp2
            go_roundw
            case rel => exact ⟨k + 1, by omega, by go_num, hd (by rw [HR.out]; rfl), HX.out⟩
            case measure => simp [intOf]; omega
        · go_wp2
          go_ret
          exact RetX.mk (by rw [HR.out, List.drop_eq_nil_of_le (by omega)]; rfl) HX.out
    · rw [decide_eq_true g1, decide_eq_false g2] at HA
      have e1 : ¬ (6 : Int) < (gs.length : Int) := by omega
      have e2 : (80 : Int) < (rs.length : Int) := by omega
      go_enter Tryd.func32, Tryd.ntmps32
      go_wp2
      go_ret
      exact RetX.mk (by rw [HA.out]; rfl) (Ext.refl _)
  · rw [decide_eq_false g1] at HA
    have e1 : (6 : Int) < (gs.length : Int) := by omega
    go_enter Tryd.func32, Tryd.ntmps32
    go_wp2
    go_ret
    exact RetX.mk (by rw [HA.out]; rfl) (Ext.refl _)
end Go.Proofs.YtapgpjhogdmjbaaDoor
