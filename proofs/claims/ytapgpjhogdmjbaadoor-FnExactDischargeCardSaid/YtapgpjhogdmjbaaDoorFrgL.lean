/-
  Discharge, the program's side: is a list of steps a proof? Conditions: texts and lists up to 2^20; the program's table of schemes holds the schemes.
-/
import Derived.Test.YtapgpjhogdmjbaaDoorFrgK
import Derived.Laws.EntriesVeiled
namespace Go.Proofs.YtapgpjhogdmjbaaDoor
open Go.RowKit Go.Sort
theorem i_fregeOk1R (s : ByteArray) (w : World) : Calls Tryd.prog 45 #[.string s] w (RetX w (.bool (!isF s))) := by
  go_enter Tryd.func45, Tryd.ntmps45
  go_wp2_with fail
  refine (i_IsFormula _ _).mono ?_
  rintro e w1 ⟨rfl, hx⟩
  go_wp2
  go_ret
  exact RetX.mk rfl hx
theorem enters_fregeOk1R : Enters 45 := fun args w => by kernel_rfl
theorem any_notR (xs : List (List UInt8)) : (!(xs.any fun x => !isF ⟨x.toArray⟩)) = xs.all fun x => isF ⟨x.toArray⟩ := by
  induction xs with
  | nil => rfl
  | cons x r ih => rw [List.any_cons, List.all_cons, ← ih]; cases isF ⟨x.toArray⟩ <;> simp
set_option maxHeartbeats 800000 in
theorem i_fregeOkR (gs : List (List UInt8)) (rs : List Rec) (v u : Value) (w : World) (h : Rd_StringS w v gs) (hr : RdRec w u rs) (hl : gs.length ≤ 1048576) : Calls Tryd.prog 37 #[v, u] w (RetX w (.bool (askFr gs rs))) := by
  have HR := hd h
  obtain ⟨A, c, rfl, h1, h2, -⟩ := h.form
  obtain ⟨B, d, rfl, -, -, -⟩ := hr.form
  have HA : Hid (askFr gs rs = (decide (gs.length ≤ 6) && (decide (rs.length ≤ 80) && gs.all fun s => isF ⟨s.toArray⟩))) := hd rfl
  have HP : Hid (AnsF 45 #[] (fun x => !isF ⟨x.toArray⟩) gs w) := hd fun x _ w' _ => i_fregeOk1R ⟨x.toArray⟩ w'
  have HN := hd (any_notR gs)
  clear h hr
  by_cases h6 : gs.length ≤ 6
  · by_cases h8 : rs.length ≤ 80
    · have e1 : (gs.length : Int) ≤ 6 := by omega
      have e2 : (rs.length : Int) ≤ 80 := by omega
      rw [decide_eq_true h6, decide_eq_true h8] at HA
      go_enter Tryd.func37, Tryd.ntmps37
      go_wp2_with fail
      refine (slices_ContainsFuncF gs _ 45 #[] (fun x => !isF ⟨x.toArray⟩) _ HR.out (by omega) enters_fregeOk1R HP).mono ?_
      rintro e w1 ⟨rfl, hx⟩
      go_wp2
      go_ret
      exact RetX.mk (by rw [HA.out, ← HN.out]; rfl) hx
    · have e1 : (gs.length : Int) ≤ 6 := by omega
      have e2 : ¬ (rs.length : Int) ≤ 80 := by omega
      rw [decide_eq_true h6, decide_eq_false h8] at HA
      go_enter Tryd.func37, Tryd.ntmps37
      go_wp2
      go_ret
      exact RetX.mk (by rw [HA.out]; rfl) (Ext.refl _)
  · have e1 : ¬ (gs.length : Int) ≤ 6 := by omega
    rw [decide_eq_false h6] at HA
    go_enter Tryd.func37, Tryd.ntmps37
    go_wp2
    go_ret
    exact RetX.mk (by rw [HA.out]; rfl) (Ext.refl _)
set_option maxHeartbeats 800000 in
theorem i_firstWrongR (gs : List (List UInt8)) (rs : List Rec) (v u : Value) (w : World) (hgb : GlobS w) (hv : Rd_StringS w v gs) (hu : RdRec w u rs) (hb : Bd_FregeStepS rs) (hgl : gs.length ≤ 1048576) :
    Calls Tryd.prog 38 #[v, u] w (RetX w (.int .i64 (wrg (corI gs rs) rs))) := by
  have HV := hd hv
  have HU := hd hu
  have HBD := hd hb
  have HGB := hd hgb
  have hbl := hb.1
  obtain ⟨A, c, rfl, -, -, -⟩ := hv.form
  obtain ⟨B, d, rfl, -, -, -⟩ := hu.form
  have HC : Hid (∀ (k : Nat) (hk : k < rs.length) (w' : World), Ext w w' → Calls Tryd.prog 47 #[.slice A gs.length c, .slice B rs.length d, .int .i64 k] w' (RetX w' (.bool (corI gs rs k rs[k])))) :=
    hd fun k hk w' hx => i_fregeCorrect gs rs k hk _ _ w' (HGB.out.ext hx) (HV.out.ext hx) (HU.out.ext hx) HBD.out hgl
  have HW0 : Hid (wrg (corI gs rs) rs = wrgK (corI gs rs) rs 0) := hd rfl
  have HST : Hid (∀ k, rs.length ≤ k → wrgK (corI gs rs) rs k = -1) := hd fun k h => wrgK_stop h
  have HNO : Hid (∀ k, ∀ h : k < rs.length, corI gs rs k rs[k] = false → wrgK (corI gs rs) rs k = k) := hd fun k h h2 => wrgK_no h h2
  have HYE : Hid (∀ k, ∀ h : k < rs.length, corI gs rs k rs[k] = true → wrgK (corI gs rs) rs k = wrgK (corI gs rs) rs (k + 1)) := hd fun k h h2 => wrgK_yes h h2
  clear hv hu hb HV HU HBD hgb HGB
  go_enter Tryd.func38, Tryd.ntmps38
  go_wp2
  go_loopw [8] (fun i wr => ∃ k : Nat, k ≤ rs.length ∧ i = .int .i64 k ∧ Hid (wrg (corI gs rs) rs = wrgK (corI gs rs) rs k) ∧ Ext w wr) (fun i _ => rs.length - (intOf i).toNat)
  case atStart => exact ⟨0, by omega, rfl, HW0, Ext.refl _⟩
  case round =>
    clear HW0
    obtain ⟨k, hk, rfl, HR, hx⟩ := hrel
    have HX := hd hx
    clear hx
    by_cases hlt : k < rs.length
    · have HCK := hd (HC.out k hlt wr HX.out)
      have HNK := hd (HNO.out k hlt)
      have HYK := hd (HYE.out k hlt)
      generalize corI gs rs k rs[k] = q at *
      go_wp2_with fail
      refine HCK.out.mono ?_
      rintro e w1 ⟨rfl, hx1⟩
      have HX1 := hd (HX.out.trans hx1)
      clear hx1
      cases q
      · go_wp2
        go_ret
        exact RetX.mk (by rw [HR.out, HNK.out (by first | rfl | trivial)]; rfl) HX1.out
      · go_wp2
        go_roundw
        case rel => exact ⟨k + 1, by omega, by go_num, hd (HR.out.trans (HYK.out (by first | rfl | trivial))), HX1.out⟩
        case measure => simp [intOf]; omega
    · go_wp2
      go_ret
      exact RetX.mk (by rw [HR.out, HST.out k (by omega)]; rfl) HX.out
set_option maxHeartbeats 800000 in
theorem i_fregeProofR (gs : List (List UInt8)) (rs : List Rec) (v u : Value) (w : World) (hgb : GlobS w) (hv : Rd_StringS w v gs) (hu : RdRec w u rs) (hb : Bd_FregeStepS rs) (hgl : gs.length ≤ 1048576) :
    Calls Tryd.prog 21 #[v, u] w (RetX w (.bool (prfS gs rs))) := by
  have HA := hd (i_fregeOkR gs rs v u w hv hu hgl)
  have HW := hd (fun w' (hx : Ext w w') => i_firstWrongR gs rs v u w' (hgb.ext hx) (hv.ext hx) (hu.ext hx) hb hgl)
  have HP : Hid (prfS gs rs = (askFr gs rs && (decide (0 < rs.length) && decide (wrg (corI gs rs) rs < 0)))) := hd (by rw [← prf_same]; rfl)
  obtain ⟨A, c, rfl, -, -, -⟩ := hv.form
  obtain ⟨B, d, rfl, -, -, -⟩ := hu.form
  have hbl := hb.1
  clear hv hu hb hgb
  generalize askFr gs rs = q at *
  generalize wrg (corI gs rs) rs = z at *
  go_enter Tryd.func21, Tryd.ntmps21
  go_wp2_with fail
  refine HA.out.mono ?_
  rintro e w1 ⟨rfl, hx1⟩
  have HX1 := hd hx1
  clear hx1
  cases q
  · go_wp2
    go_ret
    exact RetX.mk (by rw [HP.out]; rfl) HX1.out
  · by_cases h0 : 0 < rs.length
    · have h0i : (0 : Int) < (rs.length : Int) := by omega
      rw [decide_eq_true h0] at HP
      go_wp2_with fail
      refine (HW.out _ HX1.out).mono ?_
      rintro e w2 ⟨rfl, hx2⟩
      have HX2 := hd (HX1.out.trans hx2)
      clear hx2
      go_wp2
      go_ret
      exact RetX.mk (by rw [HP.out]; rfl) HX2.out
    · have h0i : ¬ (0 : Int) < (rs.length : Int) := by omega
      rw [decide_eq_false h0] at HP
      go_wp2
      go_ret
      exact RetX.mk (by rw [HP.out]; rfl) HX1.out
end Go.Proofs.YtapgpjhogdmjbaaDoor
