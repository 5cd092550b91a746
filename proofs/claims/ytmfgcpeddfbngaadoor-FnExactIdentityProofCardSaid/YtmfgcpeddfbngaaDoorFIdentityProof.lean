/-
  FnExactIdentityProof: the statement and its tied card, from the walk. Condition: the package variable that the row lists holds what the row says.
-/
import Derived.Test.YtmfgcpeddfbngaaDoorWIdentityProof
import Derived.Test.YtmfgcpeddfbngaaDoorFrameV
import Derived.Test.YtmfgcpeddfbngaaDoorTie
import Derived.Test.YtmfgcpeddfbngaaDoorCards
import Derived.SevenTiedAt
namespace Go.Proofs.YtmfgcpeddfbngaaDoor
open Go.RowKit Go.ChangeShapes Go.WideShapes Go.ChangeAt Go.Deep Go.Joins
open Go.ChangeMaps (open_string shut_string)

theorem FnExactIdentityProof_door (os : Os) (args : Array Value) : laidMetH Tryd.prog laidS ((World.doorLaid Tryd.prog 400 os).forCall (fun _ _ => 0) ⟨#[], args, []⟩).memory :=
  laidMetH_of_parts3 (fuel := 8) (laidMet_of_run' 8 (by kernel_rfl) (by kernel_rfl)) (by kernel_rfl) (by kernel_rfl)
set_option maxRecDepth 100000 in
theorem FnExactIdentityProof_lifted (os : Os) (started : os.Started) (H : Type) (enc : TypeId × Value → H) :
    ReturnsInHanded {} Tryd.checked os 4 .any (fun w args => (Rows.fnExactIdentityProofSpec.pre enc Tryd.prog Tryd.f4 [] false w args ∧ laidMetH Tryd.prog laidS w) ∧ sizedMet enc Tryd.prog Tryd.f4 (OpenSpec.ofChange Rows.fnExactIdentityProofSpec) false w args) (Rows.fnExactIdentityProofSpec.post enc Tryd.prog Tryd.f4 false true false false) := by
  refine returnsInHanded_of_change_and (C := Tryd.checked) (X := fun w _ => laidMetH Tryd.prog laidS w) (fun _ _ _ hh h => h.of_heap hh) own_knob started (by kernel_rfl) Tryd.func4
    (ChangeSpec.witness_shaped (enc := enc) (C := Tryd.checked) (os := os) (X := fun w _ => laidMetH Tryd.prog laidS w) false (World.doorLaid Tryd.prog 400 os) #[.string .empty] 8 rfl (World.shaped_of_RefB (by kernel_rfl) (by kernel_rfl)) (by kernel_rfl) (by kernel_rfl) (by kernel_rfl) (FnExactIdentityProof_door os _)) ?_
  intro W base args ds gs before hval0 hW _ _ hL _
  have hval : ∀ (j : Nat) t v, Tryd.f4.params[j]? = some t → args[j]? = some v → Value.okWide Tryd.prog W .any base t v := hval0
  have hW' := hW
  obtain ⟨p, q, hA0, hV, rfl, hfz, hnd⟩ := hW
  have hA : DataW.TrodAll enc Tryd.prog W 0 (fun _ => true) true Tryd.f4.params.toList args.toList ds p := hA0
  rw [Tryd.params4] at hA hval
  obtain ⟨v0, vs0, d0, ds0, p0, q0, hargs, rfl, rfl, h0, r0⟩ := trodAll_cons hA
  obtain ⟨rfl, rfl, rfl⟩ := trodAll_nil r0
  obtain rfl : args = #[v0] := by cases args; simp_all
  obtain ⟨_, _, _, _, g1, _, rfl, -, -, -, -, -⟩ := trodVars_one hV
  clear hargs
  obtain ⟨x0, rfl, rfl, rfl, y0⟩ := open_string Tryd.underlying9 (hval 0 _ v0 rfl rfl) h0
  refine (w_FnExactIdentityProof W (of_laid hL) x0 y0).mono fun e W' ⟨he, hb⟩ => ?_
  subst he
  exact ⟨_, rfl, law_postV hW' rfl hb laid_out (by kernel_rfl) (by kernel_rfl) (by kernel_rfl) Tryd.underlying4⟩

theorem FnExactIdentityProof_closed : joinedFacts Tryd.checked.prog 4 Tryd.f4 Rows.fnExactIdentityProofSpec Rows.fnExactIdentityProofRow = true := by
  kernel_rfl
theorem FnExactIdentityProof_holds : Rows.FnExactIdentityProofSaid :=
  OpenClaim.holds_of_wide 4 Tryd.f4 rfl rfl rfl rfl rfl rfl rfl ⟨rfl, rfl, rfl, rfl, rfl⟩ rfl rfl rfl rfl rfl (by kernel_rfl) Tryd.func4 FnExactIdentityProof_closed
    (of_decide_eq_true (by kernel_rfl)) (by unfold Func.isWrapper; first | (rw [if_pos (by decide +kernel)]; kernel_rfl) | (rw [if_neg (by decide +kernel)]; exact ⟨rfl, rfl⟩))
    (fun os started H enc _ => FnExactIdentityProof_lifted os started H enc)
theorem FnExactIdentityProof_card : Rows.FnExactIdentityProofCardSaid :=
  Claim7.holds_tied_plain_at .later [] [.data] true (true, "ea233d882a9b2229f4b3582cd3313ed1f67edd104ac9b1fb7ee8a7bb1b52a663") false
    FnExactIdentityProof_holds (fun _ h => by cases h) (by kernel_rfl) (fun _ h => by cases h) fnExactIdentityProof_row_tie rfl ⟨rfl, rfl⟩ (by kernel_rfl) rfl
    (fun f fn hf hfn => by
      obtain rfl : f = 4 := Option.some.inj ((show Tryd.prog.funcNamed "loop.example/g01080/laws.FnExactIdentityProof" = some 4 by kernel_rfl).symm.trans hf) |>.symm
      obtain rfl : fn = Tryd.f4 := (Option.some.inj (Tryd.func4.symm.trans hfn)).symm
      exact ⟨by kernel_rfl, fun j t ht => by
        rw [Tryd.params4] at ht
        have hm : t ∈ ([9] : List TypeId) := by
          have := Array.mem_of_getElem? ht
          revert this
          simp
        have hall : (([9] : List TypeId).all fun u => !Tryd.prog.wantsStandIn u) = true := by kernel_rfl
        exact (show Tryd.prog.wantsStandIn t = false by simpa using List.all_eq_true.1 hall t hm)⟩)
    (by kernel_rfl)
end Go.Proofs.YtmfgcpeddfbngaaDoor

