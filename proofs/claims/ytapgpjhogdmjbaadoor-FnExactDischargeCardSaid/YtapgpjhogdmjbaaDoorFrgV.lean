/-
  Discharge, the reference: is a list of steps a proof? Conditions: texts and lists up to 2^20.
-/
import Derived.Test.YtapgpjhogdmjbaaDoorFrgU
namespace Go.Proofs.YtapgpjhogdmjbaaDoor
open Go.RowKit Go.Sort
set_option maxHeartbeats 800000 in
theorem s_l24Wrong (gs : List (List UInt8)) (rs : List Rec) (v u : Value) (w : World) (hv : Rd_StringS w v gs) (hu : RdRec w u rs) (hb : Bd_FregeStepS rs) (hgl : gs.length ≤ 1048576) :
    Calls Tryd.prog 33 #[v, u] w (RetX w (.int .i64 (wrg (corS gs rs) rs))) := by
  have HV := hd hv
  have HU := hd hu
  have HBD := hd hb
  have hbl := hb.1
  obtain ⟨A, c, rfl, -, -, -⟩ := hv.form
  obtain ⟨B, d, rfl, -, -, -⟩ := hu.form
  have HC : Hid (∀ (k : Nat) (hk : k < rs.length) (w' : World), Ext w w' → Calls Tryd.prog 42 #[.slice A gs.length c, .slice B rs.length d, .int .i64 k] w' (RetX w' (.bool (corS gs rs k rs[k])))) :=
    hd fun k hk w' hx => s_l24Correct gs rs k hk _ _ w' (HV.out.ext hx) (HU.out.ext hx) HBD.out hgl
  have HW0 : Hid (wrg (corS gs rs) rs = wrgK (corS gs rs) rs 0) := hd rfl
  have HST : Hid (∀ k, rs.length ≤ k → wrgK (corS gs rs) rs k = -1) := hd fun k h => wrgK_stop h
  have HNO : Hid (∀ k, ∀ h : k < rs.length, corS gs rs k rs[k] = false → wrgK (corS gs rs) rs k = k) := hd fun k h h2 => wrgK_no h h2
  have HYE : Hid (∀ k, ∀ h : k < rs.length, corS gs rs k rs[k] = true → wrgK (corS gs rs) rs k = wrgK (corS gs rs) rs (k + 1)) := hd fun k h h2 => wrgK_yes h h2
  clear hv hu hb HV HU HBD
  go_enter Tryd.func33, Tryd.ntmps33
  go_wp2
  go_loopw [5] (fun i wr => ∃ k : Nat, k ≤ rs.length ∧ i = .int .i64 k ∧ Hid (wrg (corS gs rs) rs = wrgK (corS gs rs) rs k) ∧ Ext w wr) (fun i _ => rs.length - (intOf i).toNat)
  case atStart => exact ⟨0, by omega, rfl, HW0, Ext.refl _⟩
  case round =>
    clear HW0
    obtain ⟨k, hk, rfl, HR, hx⟩ := hrel
    have HX := hd hx
    clear hx
    by_cases hlt : k < rs.length
    · have HCK := hd (HC.out k hlt wr HX.out)
      have HNK := hd (HNO.out k hlt)
      have HYK := hd (HYE.out k hlt)
      generalize corS gs rs k rs[k] = q at *
      go_wp2_with fail
      refine HCK.out.mono ?_
      rintro e w1 ⟨rfl, hx1⟩
      have HX1 := hd (HX.out.trans hx1)
      clear hx1
      cases q
      · go_wp2
        go_ret
        exact RetX.mk (by rw [HR.out, HNK.out (by first | rfl | trivial)]; rfl) HX1.out
      · go_wp2
        go_roundw
        case rel => exact ⟨k + 1, by omega, by go_num, hd (HR.out.trans (HYK.out (by first | rfl | trivial))), HX1.out⟩
        case measure => simp [intOf]; omega
    · go_wp2
      go_ret
      exact RetX.mk (by rw [HR.out, HST.out k (by omega)]; rfl) HX.out
set_option maxHeartbeats 800000 in
theorem s_l24GoodP (gs : List (List UInt8)) (rs : List Rec) (v u : Value) (w : World) (hv : Rd_StringS w v gs) (hu : RdRec w u rs) (hb : Bd_FregeStepS rs) (hgl : gs.length ≤ 1048576) :
    Calls Tryd.prog 16 #[v, u] w (RetX w (.bool (prfS gs rs))) := by
  have HA := hd (s_l24Asked gs rs v u w hv hu)
  have HW := hd (fun w' (hx : Ext w w') => s_l24Wrong gs rs v u w' (hv.ext hx) (hu.ext hx) hb hgl)
  have HP : Hid (prfS gs rs = (askFr gs rs && (decide (0 < rs.length) && decide (wrg (corS gs rs) rs < 0)))) := hd rfl
  obtain ⟨A, c, rfl, -, -, -⟩ := hv.form
  obtain ⟨B, d, rfl, -, -, -⟩ := hu.form
  have hbl := hb.1
  clear hv hu hb
  generalize askFr gs rs = q at *
  generalize wrg (corS gs rs) rs = z at *
  go_enter Tryd.func16, Tryd.ntmps16
  go_wp2_with fail
  refine HA.out.mono ?_
  rintro e w1 ⟨rfl, hx1⟩
  have HX1 := hd hx1
  clear hx1
  cases q
  · go_wp2
    go_ret
    exact RetX.mk (by rw [HP.out]; rfl) HX1.out
  · by_cases h0 : 0 < rs.length
    · have h0i : (0 : Int) < (rs.length : Int) := by omega
      rw [decide_eq_true h0] at HP
      go_wp2_with fail
      refine (HW.out _ HX1.out).mono ?_
      rintro e w2 ⟨rfl, hx2⟩
      have HX2 := hd (HX1.out.trans hx2)
      clear hx2
      go_wp2
      go_ret
      exact RetX.mk (by rw [HP.out]; rfl) HX2.out
    · have h0i : ¬ (0 : Int) < (rs.length : Int) := by omega
      rw [decide_eq_false h0] at HP
      go_wp2
      go_ret
      exact RetX.mk (by rw [HP.out]; rfl) HX1.out
end Go.Proofs.YtapgpjhogdmjbaaDoor
