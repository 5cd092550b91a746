/-
  Chapter 27: which charged graphs are good, on both sides. No condition.
-/
import Derived.Test.YtgkifandgacncaaChg
namespace Go.Proofs.Ytgkifandgacncaa
open Go.RowKit

/-- Which graphs are good. -/
def edgesG (n : Int) : List (Int × Int) → Bool
  | [] => true
  | e :: r => if 0 ≤ e.1 ∧ e.1 < e.2 ∧ e.2 < n then edgesG n r else false
def degB (es : List (Int × Int)) (v : Nat) : Bool := decide ((atN es v es.length).length ≤ 4)
def chargesG (es : List (Int × Int)) : Nat → List Int → Bool
  | _, [] => true
  | v, c :: r => if inB c 0 1 = true ∧ degB es v = true then chargesG es (v + 1) r else false
def goodC (g : Chg) : Bool := if inB g.n 1 8 then (if g.es.length ≤ 12 then (if (g.cs.length : Int) = g.n then (if edgesG g.n g.es then chargesG g.es 0 g.cs else false) else false) else false) else false
set_option maxHeartbeats 3200000 in
theorem i_IsCharged (g : Chg) (gv : Value) (w : World) (h : RdC w gv g) :
    Calls Try.prog 25 #[gv] w (RetX w (.bool (goodC g))) := by
  have HG := hd h
  obtain ⟨ve, vc, rfl, hE, hC⟩ := h
  obtain ⟨A, c, rfl, h1, h2, ha⟩ := hE.form
  obtain ⟨A', c', rfl, h1', h2', ha'⟩ := hC.form
  clear hE hC
  unfold maxLen at h2 h2'
  obtain ⟨n, es, cs⟩ := g
  dsimp only at *
  obtain ⟨b, hb⟩ : ∃ b, inB n 1 8 = b := ⟨_, rfl⟩
  have HB := hd hb
  cases b
  · clear hb
    go_enter Try.func25, Try.ntmps25
    go_wp2_with (go_at_call 39; refine (rt (i_within _ _ _ _) HB).mono ?_; rintro e w1 ⟨rfl, rfl⟩)
    go_ret
    exact RetX.mk (by unfold goodC; rw [HB.out]; rfl) (Ext.new _ _)
  · have hn := inB_iff.1 hb
    clear hb
    by_cases hes : es.length ≤ 12
    · by_cases hcs : (cs.length : Int) = n
      · have hne : ((cs.length : Int) != n) = false := by simp [hcs]
        have HCS := hd hcs
        have HH : Hid (goodC ⟨n, es, cs⟩ = if edgesG n es then chargesG es 0 cs else false) := hd (by unfold goodC; rw [HB.out, if_pos rfl, if_pos hes, if_pos hcs])
        clear hcs
        go_enter Try.func25, Try.ntmps25
        go_wp2_with (go_at_call 39; refine (rt (i_within _ _ _ _) HB).mono ?_; rintro e w1 ⟨rfl, rfl⟩)
        go_loopw [28, 4] (fun i _ wr => ∃ k : Nat, k ≤ es.length ∧ i = .int .i64 k ∧ Hid (edgesG n es = edgesG n (es.drop k)) ∧ Ext (w.alloc (.cells #[.int .i64 n, .slice A es.length c, .slice A' cs.length c'] 32)) wr) (fun i _ _ => es.length - (intOf i).toNat)
        case atStart => exact ⟨0, by omega, rfl, hd rfl, Ext.refl _⟩
        case round =>
          obtain ⟨k, hk, rfl, HR, hx⟩ := hrel
          have hb := hx.cell (p := ⟨w.heap.size, 0, none⟩) (u := .int .i64 n) (by simp [go_sem])
          have hb2 := hx.cell (p := ⟨w.heap.size, 2, none⟩) (u := .slice A' cs.length c') (by simp [go_sem])
          have HX := hd hx
          have hxs : w.heap.size < wr.heap.size := by have := hx.size; simp at this; omega
          clear hx
          by_cases hlt : k < es.length
          · obtain ⟨a, rfl, hc0, hc1⟩ := RdP.at_ ha hlt
            have c0 := HX.out.box.cell hc0
            have c1 := HX.out.box.cell hc1
            rw [drop_cons hlt] at HR
            clear hc0 hc1
            generalize es[k] = e at *
            obtain ⟨x, y⟩ := e
            dsimp only at c0 c1
            have HX2 := hd (HX.out.alloc (.cells #[.int .i64 x, .int .i64 y] 73))
            by_cases hxy : 0 ≤ x ∧ x < y ∧ y < n
            · have HE := hd hxy
              obtain ⟨hx0, hxy1, hyn⟩ := hxy
              go_wp2
              go_roundw
              case rel => exact ⟨k + 1, by omega, by go_num, hd (by rw [HR.out, edgesG, if_pos HE.out]), HX2.out⟩
              case measure => simp [intOf]; omega
            · have HF : Hid (goodC ⟨n, es, cs⟩ = false) := hd (by rw [HH.out, HR.out, edgesG, if_neg hxy]; rfl)
              by_cases hx0 : x < 0
              · clear hxy
                go_wp2
                go_ret
                exact RetX.mk (by rw [HF.out]; rfl) HX2.out.box
              · by_cases hxy1 : x < y
                · have hyn : n ≤ y := by omega
                  clear hxy
                  go_wp2
                  go_ret
                  exact RetX.mk (by rw [HF.out]; rfl) HX2.out.box
                · clear hxy
                  go_wp2
                  go_ret
                  exact RetX.mk (by rw [HF.out]; rfl) HX2.out.box
          · have HH2 : Hid (goodC ⟨n, es, cs⟩ = chargesG es 0 cs) := hd (by rw [HH.out, HR.out, List.drop_eq_nil_of_le (by omega)]; rfl)
            clear HR HH
            obtain ⟨wo, rfl⟩ : ∃ wo : World, wo = wr := ⟨_, rfl⟩
            go_wp2
            go_loopw [53, 5, 6] (fun i _ _ wr => ∃ k : Nat, k ≤ cs.length ∧ i = .int .i64 k ∧ Hid (chargesG es 0 cs = chargesG es k (cs.drop k)) ∧ Ext wo wr) (fun i _ _ _ => cs.length - (intOf i).toNat)
            case atStart => exact ⟨0, by omega, rfl, hd rfl, Ext.refl _⟩
            case round =>
              clear hk hlt hb hb2
              obtain ⟨k, hk, rfl, HR, hx⟩ := hrel
              have HX3 := hd (HX.out.trans hx)
              have HW := hd hx
              have hb0 := HX3.out.cell (p := ⟨w.heap.size, 0, none⟩) (u := .int .i64 n) (by simp [go_sem])
              have hb1 := HX3.out.cell (p := ⟨w.heap.size, 1, none⟩) (u := .slice A es.length c) (by simp [go_sem])
              have hb2 := HX3.out.cell (p := ⟨w.heap.size, 2, none⟩) (u := .slice A' cs.length c') (by simp [go_sem])
              clear hx
              by_cases hlt : k < cs.length
              · obtain ⟨a, rfl, hc0⟩ := RdI.at_ ha' hlt
                have hc := HX3.out.box.cell hc0
                rw [drop_cons hlt] at HR
                clear hc0
                generalize cs[k] = q at *
                obtain ⟨b, hb⟩ : ∃ b, inB q 0 1 = b := ⟨_, rfl⟩
                have HQ := hd hb
                clear hb
                cases b
                · go_wp2_with (go_at_call 39; refine (rt (i_within _ _ _ _) HQ).mono ?_; rintro e w1 ⟨rfl, rfl⟩)
                  go_ret
                  exact RetX.mk (by rw [HH2.out, HR.out, chargesG, HQ.out]; rfl) HX3.out.box
                · go_wp2_with fail
                  refine (rt (i_within _ _ _ _) HQ).mono ?_
                  rintro e w1 ⟨rfl, rfl⟩
                  go_wp2_with fail
                  refine (i_at ⟨n, es, cs⟩ _ _ _ (HG.out.ext HX3.out.box) (by simp; omega)).mono ?_
                  rintro e w2 ⟨u2, rfl, hu2, hx2⟩
                  have HX4 := hd (HX3.out.trans hx2)
                  have HW4 := hd (HW.out.trans hx2)
                  obtain ⟨A2, c2, rfl, -⟩ := hu2.form
                  clear hu2 hx2
                  dsimp only
                  by_cases hd4 : (atN es k es.length).length ≤ 4
                  · have HD : Hid (degB es k = true) := hd (decide_eq_true hd4)
                    generalize (atN es k es.length).length = m at *
                    go_wp2
                    go_roundw
                    case rel => exact ⟨k + 1, by omega, by go_num, hd (by rw [HR.out, chargesG, if_pos ⟨HQ.out, HD.out⟩]), HW4.out⟩
                    case measure => simp [intOf]; omega
                  · have HD : Hid (degB es k = false) := hd (decide_eq_false hd4)
                    generalize (atN es k es.length).length = m at *
                    go_wp2
                    go_ret
                    exact RetX.mk (by rw [HH2.out, HR.out, chargesG, HQ.out, HD.out]; rfl) HX4.out.box
              · go_wp2
                go_ret
                exact RetX.mk (by rw [HH2.out, HR.out, List.drop_eq_nil_of_le (by omega)]; rfl) HX3.out.box
      · have hne : ((cs.length : Int) != n) = true := by simpa using hcs
        have HH : Hid (goodC ⟨n, es, cs⟩ = false) := hd (by unfold goodC; rw [HB.out, if_pos rfl, if_pos hes, if_neg hcs])
        clear hcs
        go_enter Try.func25, Try.ntmps25
        go_wp2_with (go_at_call 39; refine (rt (i_within _ _ _ _) HB).mono ?_; rintro e w1 ⟨rfl, rfl⟩)
        go_ret
        exact RetX.mk (by rw [HH.out]; rfl) (Ext.new _ _)
    · go_enter Try.func25, Try.ntmps25
      go_wp2_with (go_at_call 39; refine (rt (i_within _ _ _ _) HB).mono ?_; rintro e w1 ⟨rfl, rfl⟩)
      go_ret
      exact RetX.mk (by unfold goodC; rw [HB.out, if_pos rfl, if_neg hes]; rfl) (Ext.new _ _)
theorem edge_iff {x y n : Int} {q1 q2 : Bool} (h1 : inB x 0 (n - 1) = q1) (h2 : inB y 0 (n - 1) = q2) : (q1 = true ∧ q2 = true ∧ ¬ y ≤ x) ↔ (0 ≤ x ∧ x < y ∧ y < n) := by
  subst h1; subst h2
  rw [inB_iff, inB_iff]
  constructor <;> (intro h; omega)
set_option maxHeartbeats 3200000 in
theorem s_l27Good (g : Chg) (gv : Value) (w : World) (h : RdC w gv g) :
    Calls Try.prog 21 #[gv] w (RetX w (.bool (goodC g))) := by
  have HG := hd h
  obtain ⟨ve, vc, rfl, hE, hC⟩ := h
  obtain ⟨A, c, rfl, h1, h2, ha⟩ := hE.form
  obtain ⟨A', c', rfl, h1', h2', ha'⟩ := hC.form
  clear hE hC
  unfold maxLen at h2 h2'
  obtain ⟨n, es, cs⟩ := g
  dsimp only at *
  obtain ⟨b, hb⟩ : ∃ b, inB n 1 8 = b := ⟨_, rfl⟩
  have HB := hd hb
  cases b
  · clear hb
    go_enter Try.func21, Try.ntmps21
    go_wp2_with (go_at_call 36; refine (rt (s_l1In _ _ _ _) HB).mono ?_; rintro e w1 ⟨rfl, rfl⟩)
    go_ret
    exact RetX.mk (by unfold goodC; rw [HB.out]; rfl) (Ext.new _ _)
  · have hn := inB_iff.1 hb
    clear hb
    by_cases hes : es.length ≤ 12
    · by_cases hcs : (cs.length : Int) = n
      · have hne : ((cs.length : Int) != n) = false := by simp [hcs]
        have HCS := hd hcs
        have HH : Hid (goodC ⟨n, es, cs⟩ = if edgesG n es then chargesG es 0 cs else false) := hd (by unfold goodC; rw [HB.out, if_pos rfl, if_pos hes, if_pos hcs])
        clear hcs
        go_enter Try.func21, Try.ntmps21
        go_wp2_with (go_at_call 36; refine (rt (s_l1In _ _ _ _) HB).mono ?_; rintro e w1 ⟨rfl, rfl⟩)
        go_loopw [3] (fun i wr => ∃ k : Nat, k ≤ es.length ∧ i = .int .i64 k ∧ Hid (edgesG n es = edgesG n (es.drop k)) ∧ Ext (w.alloc (.cells #[.int .i64 n, .slice A es.length c, .slice A' cs.length c'] 32)) wr) (fun i _ => es.length - (intOf i).toNat)
        case atStart => exact ⟨0, by omega, rfl, hd rfl, Ext.refl _⟩
        case round =>
          obtain ⟨k, hk, rfl, HR, hx⟩ := hrel
          have hb := hx.cell (p := ⟨w.heap.size, 0, none⟩) (u := .int .i64 n) (by simp [go_sem])
          have hb1 := hx.cell (p := ⟨w.heap.size, 1, none⟩) (u := .slice A es.length c) (by simp [go_sem])
          have hb2 := hx.cell (p := ⟨w.heap.size, 2, none⟩) (u := .slice A' cs.length c') (by simp [go_sem])
          have HX := hd hx
          have hxs : w.heap.size < wr.heap.size := by have := hx.size; simp at this; omega
          clear hx
          by_cases hlt : k < es.length
          · obtain ⟨a, rfl, hc0, hc1⟩ := RdP.at_ ha hlt
            have c0 := HX.out.box.cell hc0
            have c1 := HX.out.box.cell hc1
            rw [drop_cons hlt] at HR
            clear hc0 hc1
            generalize es[k] = e at *
            obtain ⟨x, y⟩ := e
            dsimp only at c0 c1
            have e1 : (0 : Int) ≤ (k : Int) := by omega
            have e2 : (k : Int) < (es.length : Int) := by omega
            obtain ⟨q1, hq1⟩ : ∃ q, inB x 0 (n - 1) = q := ⟨_, rfl⟩
            obtain ⟨q2, hq2⟩ : ∃ q, inB y 0 (n - 1) = q := ⟨_, rfl⟩
            have HQ1 := hd hq1
            have HQ2 := hd hq2
            clear hq1 hq2
            by_cases hyx : y ≤ x <;> cases q1 <;> cases q2
            all_goals
              go_wp2_with fail
              go_quiet ((go_at_call 36; first | exact q_same (rt (s_l1In _ _ _ _) HQ1) | exact q_same' (rt (s_l1In _ _ _ _) HQ1) | exact q_same (rt (s_l1In _ _ _ _) HQ2) | exact q_same' (rt (s_l1In _ _ _ _) HQ2)))
              go_wp2
            all_goals first
              | (go_ret
                 exact RetX.mk (by rw [HH.out, HR.out, edgesG, if_neg (fun h => absurd ((edge_iff HQ1.out HQ2.out).2 h) (by simp [hyx]))]; rfl) (HX.out.drewN _).box)
              | (go_roundw
                 case rel => exact ⟨k + 1, by omega, by go_num, hd (by rw [HR.out, edgesG, if_pos ((edge_iff HQ1.out HQ2.out).1 (by simp; omega))]), HX.out.drewN _⟩
                 case measure => simp [intOf]; omega)
          · have HH2 : Hid (goodC ⟨n, es, cs⟩ = chargesG es 0 cs) := hd (by rw [HH.out, HR.out, List.drop_eq_nil_of_le (by omega)]; rfl)
            clear HR HH
            obtain ⟨wo, rfl⟩ : ∃ wo : World, wo = wr := ⟨_, rfl⟩
            go_wp2
            go_loopw [4] (fun i wr => ∃ k : Nat, k ≤ cs.length ∧ i = .int .i64 k ∧ Hid (chargesG es 0 cs = chargesG es k (cs.drop k)) ∧ Ext wo wr) (fun i _ => cs.length - (intOf i).toNat)
            case atStart => exact ⟨0, by omega, rfl, hd rfl, Ext.refl _⟩
            case round =>
              clear hk hlt hb hb1 hb2
              obtain ⟨k, hk, rfl, HR, hx⟩ := hrel
              have HX3 := hd (HX.out.trans hx)
              have HW := hd hx
              have hb0 := HX3.out.cell (p := ⟨w.heap.size, 0, none⟩) (u := .int .i64 n) (by simp [go_sem])
              have hb1 := HX3.out.cell (p := ⟨w.heap.size, 1, none⟩) (u := .slice A es.length c) (by simp [go_sem])
              have hb2 := HX3.out.cell (p := ⟨w.heap.size, 2, none⟩) (u := .slice A' cs.length c') (by simp [go_sem])
              clear hx
              have hcn := HCS.out
              by_cases hlt : k < cs.length
              · have hkn : (k : Int) < n := by omega
                clear hcn
                obtain ⟨a, rfl, hc0⟩ := RdI.at_ ha' hlt
                have hc := HX3.out.box.cell hc0
                rw [drop_cons hlt] at HR
                clear hc0
                generalize cs[k] = q at *
                obtain ⟨b, hb⟩ : ∃ b, inB q 0 1 = b := ⟨_, rfl⟩
                have HQ := hd hb
                clear hb
                cases b
                · go_wp2_with (go_at_call 36; refine (rt (s_l1In _ _ _ _) HQ).mono ?_; rintro e w1 ⟨rfl, rfl⟩)
                  go_ret
                  exact RetX.mk (by rw [HH2.out, HR.out, chargesG, HQ.out]; rfl) HX3.out.box
                · go_wp2_with fail
                  refine (rt (s_l1In _ _ _ _) HQ).mono ?_
                  rintro e w1 ⟨rfl, rfl⟩
                  go_wp2_with fail
                  refine (s_l27At ⟨n, es, cs⟩ _ _ _ (HG.out.ext HX3.out.box) (by simp; omega)).mono ?_
                  rintro e w2 ⟨u2, rfl, hu2, hx2⟩
                  have HX4 := hd (HX3.out.trans hx2)
                  have HW4 := hd (HW.out.trans hx2)
                  obtain ⟨A2, c2, rfl, -⟩ := hu2.form
                  clear hu2 hx2
                  dsimp only
                  by_cases hd4 : (atN es k es.length).length ≤ 4
                  · have HD : Hid (degB es k = true) := hd (decide_eq_true hd4)
                    generalize (atN es k es.length).length = m at *
                    go_wp2
                    go_roundw
                    case rel => exact ⟨k + 1, by omega, by go_num, hd (by rw [HR.out, chargesG, if_pos ⟨HQ.out, HD.out⟩]), HW4.out⟩
                    case measure => simp [intOf]; omega
                  · have HD : Hid (degB es k = false) := hd (decide_eq_false hd4)
                    generalize (atN es k es.length).length = m at *
                    go_wp2
                    go_ret
                    exact RetX.mk (by rw [HH2.out, HR.out, chargesG, HQ.out, HD.out]; rfl) HX4.out.box
              · have hkn : n ≤ (k : Int) := by omega
                clear hcn
                go_wp2
                go_ret
                exact RetX.mk (by rw [HH2.out, HR.out, List.drop_eq_nil_of_le (by omega)]; rfl) HX3.out.box
      · have hne : ((cs.length : Int) != n) = true := by simpa using hcs
        have HH : Hid (goodC ⟨n, es, cs⟩ = false) := hd (by unfold goodC; rw [HB.out, if_pos rfl, if_pos hes, if_neg hcs])
        clear hcs
        go_enter Try.func21, Try.ntmps21
        go_wp2_with (go_at_call 36; refine (rt (s_l1In _ _ _ _) HB).mono ?_; rintro e w1 ⟨rfl, rfl⟩)
        go_ret
        exact RetX.mk (by rw [HH.out]; rfl) (Ext.new _ _)
    · go_enter Try.func21, Try.ntmps21
      go_wp2_with (go_at_call 36; refine (rt (s_l1In _ _ _ _) HB).mono ?_; rintro e w1 ⟨rfl, rfl⟩)
      go_ret
      exact RetX.mk (by unfold goodC; rw [HB.out, if_pos rfl, if_neg hes]; rfl) (Ext.new _ _)
end Go.Proofs.Ytgkifandgacncaa
