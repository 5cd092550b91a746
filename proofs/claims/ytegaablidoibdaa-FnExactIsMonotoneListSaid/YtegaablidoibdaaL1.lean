/-
  FnExactIsMonotoneList: for every list of bools the law returns true, and the list reads as before. No condition.
-/
import Derived.Test.YtegaablidoibdaaFrame
import Derived.Test.YtegaablidoibdaaC30
namespace Go.Proofs.Ytegaablidoibdaa
open Go.RowKit Go.ChangeShapes Go.WideShapes Go.ChangeAt

set_option maxHeartbeats 1600000 in
theorem w_FnExactIsMonotoneList (vs : List Bool) (v : Value) (w : World) (h : RdB w v vs) :
    Calls Try.prog 3 #[v] w (RetT w) := by
  have HA := hd h
  obtain ⟨A, c, rfl, h1, h2, -⟩ := h.form
  clear h
  unfold maxLen at h2
  go_enter Try.func3, Try.ntmps3
  by_cases hbig : 1048576 < vs.length
  · go_wp2
    go_ret
    exact RetT.mk rfl (Ext.refl _)
  · go_wp2_with fail
    refine (l_toBoolS vs _ _ HA.out (by omega)).mono ?_
    rintro e w1 ⟨u1, rfl, hu1, hx1⟩
    have R1 := hd hu1.rd
    go_wp2_with fail
    refine (s_IsMonotoneList vs _ _ R1.out (by omega)).mono ?_
    rintro e w2 ⟨rfl, hx2⟩
    have X2 := hd (hx1.trans hx2)
    go_wp2_with fail
    refine (l_toBoolS vs _ _ (HA.out.ext X2.out) (by omega)).mono ?_
    rintro e w3 ⟨u3, rfl, hu3, hx3⟩
    have R3 := hd hu3.rd
    have X3 := hd (X2.out.trans hx3)
    go_wp2_with fail
    refine (i_IsMonotoneList vs _ _ R3.out (by omega)).mono ?_
    rintro e w4 ⟨rfl, rfl⟩
    go_wp2_with fail
    refine (l_toBoolS vs _ _ (HA.out.ext X3.out) (by omega)).mono ?_
    rintro e w5 ⟨u5, rfl, hu5, hx5⟩
    have R5 := hd hu5.rd
    have X5 := hd (X3.out.trans hx5)
    go_wp2_with fail
    refine (rtq (l_eqBoolS vs vs _ _ _ (R3.out.ext hx5) R5.out (by omega) (by omega)) (hd (eqB_refl vs))).mono ?_
    rintro e w6 ⟨rfl, n6, rfl⟩
    go_wp2
    go_ret
    exact RetT.mk rfl (X5.out.drewN _)

set_option maxRecDepth 100000 in
theorem FnExactIsMonotoneList_lifted (os : Os) (started : os.Started) (H : Type) (enc : TypeId × Value → H) :
    ReturnsInHanded {} Try.checked os 3 .any (Rows.fnExactIsMonotoneListSpec.pre6 enc Try.prog Try.f3 Rows.fnExactIsMonotoneListRow.domain false) (Rows.fnExactIsMonotoneListSpec.post enc Try.prog Try.f3 false true false false) := by
  refine returnsInHanded_of_change (C := Try.checked) own_knob started (by kernel_rfl) Try.func3
    (ChangeSpec.witness6 (enc := enc) (C := Try.checked) false ⟨#[], #[.slice none 0 0], []⟩ 8 (by kernel_rfl) (by kernel_rfl) (by kernel_rfl) (by kernel_rfl)) ?_
  intro W base args ds gs before hval0 hW hcnd _
  have hval : ∀ (j : Nat) t v, Try.f3.params[j]? = some t → args[j]? = some v → Value.okWide Try.prog W .any base t v := hval0
  have hW' := hW
  obtain ⟨p, q, hA0, hV, rfl, hfz, hnd⟩ := hW
  have hA : DataW.TrodAll enc Try.prog W 0 (fun _ => true) true Try.f3.params.toList args.toList ds p := hA0
  rw [Try.params3] at hA hval
  obtain ⟨v0, vs0, d0, ds0, p0, q0, hargs, rfl, rfl, h0, r0⟩ := trodAll_cons hA
  obtain ⟨rfl, rfl, rfl⟩ := trodAll_nil r0
  obtain rfl : args = #[v0] := by cases args; simp_all
  obtain ⟨rfl, rfl⟩ := trodVars_none hV
  obtain ⟨n0, f0⟩ := trod_one Try.underlying22 (hval 0 _ v0 rfl rfl) h0
  obtain ⟨x0, y0⟩ := read_bools Try.underlying22 Try.underlying4 (by kernel_rfl) f0
  refine (w_FnExactIsMonotoneList x0 v0 W y0).mono fun e W' ⟨he, hb⟩ => ?_
  subst he
  exact ⟨_, rfl, law_post hW' rfl rfl hb laid_out (by kernel_rfl) (by kernel_rfl) Try.underlying4⟩

theorem FnExactIsMonotoneList_holds : Rows.FnExactIsMonotoneListSaid :=
  OpenClaim.holds_of_wide 3 Try.f3 rfl rfl rfl rfl rfl rfl rfl ⟨rfl, rfl, rfl, rfl, rfl⟩ rfl rfl rfl rfl rfl (by kernel_rfl) Try.func3 (by kernel_rfl)
    (of_decide_eq_true (by kernel_rfl)) (by unfold Func.isWrapper; first | (rw [if_pos (by decide +kernel)]; kernel_rfl) | (rw [if_neg (by decide +kernel)]; exact ⟨rfl, rfl⟩))
    (fun os started H enc _ => FnExactIsMonotoneList_lifted os started H enc)
end Go.Proofs.Ytegaablidoibdaa
