/-
  FnExactReversibleNumber: the statement, from the walk. No condition.
-/
import Derived.Test.YtapgpjhogdmjbaaWReversibleNumber
import Derived.Test.YtapgpjhogdmjbaaFacts
namespace Go.Proofs.Ytapgpjhogdmjbaa
open Go.RowKit Go.ChangeShapes Go.WideShapes Go.ChangeAt Go.Deep Go.Joins
open Go.ChangeMaps (open_string shut_string)

set_option maxRecDepth 100000 in
theorem FnExactReversibleNumber_lifted (os : Os) (started : os.Started) (H : Type) (enc : TypeId × Value → H) :
    ReturnsInHanded {} Try.checked os 5 .any (Rows.fnExactReversibleNumberSpec.pre6 enc Try.prog Try.f5 Rows.fnExactReversibleNumberRow.domain false) (Rows.fnExactReversibleNumberSpec.post enc Try.prog Try.f5 false true false false) := by
  refine returnsInHanded_of_change (C := Try.checked) own_knob started (by kernel_rfl) Try.func5
    (ChangeSpec.witness6 (enc := enc) (C := Try.checked) false ⟨#[], #[.agg #[.slice none 0 0]], []⟩ 8 (by kernel_rfl) (by kernel_rfl) (by kernel_rfl) (by kernel_rfl)) ?_
  intro W base args ds gs before hval0 hW hcnd _
  have hval : ∀ (j : Nat) t v, Try.f5.params[j]? = some t → args[j]? = some v → Value.okWide Try.prog W .any base t v := hval0
  have hW' := hW
  obtain ⟨p, q, hA0, hV, rfl, hfz, hnd⟩ := hW
  have hA : DataW.TrodAll enc Try.prog W 0 (fun _ => true) true Try.f5.params.toList args.toList ds p := hA0
  rw [Try.params5] at hA hval
  obtain ⟨v0, vs0, d0, ds0, p0, q0, hargs, rfl, rfl, h0, r0⟩ := trodAll_cons hA
  obtain ⟨rfl, rfl, rfl⟩ := trodAll_nil r0
  obtain rfl : args = #[v0] := by cases args; simp_all
  obtain ⟨rfl, rfl⟩ := trodVars_none hV
  clear hargs
  obtain ⟨x0, y0⟩ := open_dag (hval 0 _ v0 rfl rfl) h0
  refine (w_FnExactReversibleNumber W x0 v0 y0.1 y0.2).mono fun e W' ⟨he, hb⟩ => ?_
  subst he
  exact ⟨_, rfl, law_post hW' rfl rfl hb laid_out (by kernel_rfl) (by kernel_rfl) Try.underlying4⟩

theorem FnExactReversibleNumber_closed : joinedFacts Try.checked.prog 5 Try.f5 Rows.fnExactReversibleNumberSpec Rows.fnExactReversibleNumberRow = true := by
  unfold joinedFacts
  rw [may_enter, lifts_final, make_of]
  change _ = true
  kernel_rfl
theorem FnExactReversibleNumber_holds : Rows.FnExactReversibleNumberSaid :=
  OpenClaim.holds_of_wide 5 Try.f5 rfl rfl rfl rfl rfl rfl rfl ⟨rfl, rfl, rfl, rfl, rfl⟩ rfl rfl rfl rfl rfl (by kernel_rfl) Try.func5 FnExactReversibleNumber_closed
    (of_decide_eq_true (by kernel_rfl)) (by unfold Func.isWrapper; first | (rw [if_pos (by decide +kernel)]; kernel_rfl) | (rw [if_neg (by decide +kernel)]; exact ⟨rfl, rfl⟩))
    (fun os started H enc _ => FnExactReversibleNumber_lifted os started H enc)
end Go.Proofs.Ytapgpjhogdmjbaa
