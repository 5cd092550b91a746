/-
  FnExactDischarge: the statement and its tied card, from the walk. Condition: the package variable that the row lists holds what the row says.
-/
import Derived.Test.YtapgpjhogdmjbaaDoorWDischarge
import Derived.Test.YtapgpjhogdmjbaaDoorFrameF
import Derived.Test.YtapgpjhogdmjbaaDoorFrameV
import Derived.Test.YtapgpjhogdmjbaaDoorTie
import Derived.Test.YtapgpjhogdmjbaaDoorCards
import Derived.SevenTiedAt
namespace Go.Proofs.YtapgpjhogdmjbaaDoor
open Go.RowKit Go.ChangeShapes Go.WideShapes Go.ChangeAt Go.Deep Go.Joins
open Go.ChangeMaps (open_string shut_string)

theorem FnExactDischarge_door (os : Os) (args : Array Value) : laidMetH Tryd.prog laidS ((World.doorLaid Tryd.prog 400 os).forCall (fun _ _ => 0) ⟨#[], args, []⟩).memory :=
  laidMetH_of_parts3 (fuel := 8) (laidMet_of_run' 8 (by kernel_rfl) (by kernel_rfl)) (by kernel_rfl) (by kernel_rfl)
set_option maxRecDepth 100000 in
theorem FnExactDischarge_lifted (os : Os) (started : os.Started) (H : Type) (enc : TypeId × Value → H) :
    ReturnsInHanded {} Tryd.checked os 3 .any (fun w args => (Rows.fnExactDischargeSpec.pre enc Tryd.prog Tryd.f3 [] false w args ∧ laidMetH Tryd.prog laidS w) ∧ sizedMet enc Tryd.prog Tryd.f3 (OpenSpec.ofChange Rows.fnExactDischargeSpec) false w args) (Rows.fnExactDischargeSpec.post enc Tryd.prog Tryd.f3 false true false false) := by
  refine returnsInHanded_of_change_and (C := Tryd.checked) (X := fun w _ => laidMetH Tryd.prog laidS w) (fun _ _ _ hh h => h.of_heap hh) own_knob started (by kernel_rfl) Tryd.func3
    (ChangeSpec.witness_shaped (enc := enc) (C := Tryd.checked) (os := os) (X := fun w _ => laidMetH Tryd.prog laidS w) false (World.doorLaid Tryd.prog 400 os) #[.slice none 0 0, .slice none 0 0, .int .i64 0] 8 rfl (World.shaped_of_RefB (by kernel_rfl) (by kernel_rfl)) (by kernel_rfl) (by kernel_rfl) (by kernel_rfl) (FnExactDischarge_door os _)) ?_
  intro W base args ds gs before hval0 hW _ _ hL _
  have hval : ∀ (j : Nat) t v, Tryd.f3.params[j]? = some t → args[j]? = some v → Value.okWide Tryd.prog W .any base t v := hval0
  have hW' := hW
  obtain ⟨p, q, hA0, hV, rfl, hfz, hnd⟩ := hW
  have hA : DataW.TrodAll enc Tryd.prog W 0 (fun _ => true) true Tryd.f3.params.toList args.toList ds p := hA0
  rw [Tryd.params3] at hA hval
  obtain ⟨v0, vs0, d0, ds0, p0, q0, hargs, rfl, rfl, h0, r0⟩ := trodAll_cons hA
  obtain ⟨v1, vs1, d1, ds1, p1, q1, rfl, rfl, rfl, h1, r1⟩ := trodAll_cons r0
  obtain ⟨v2, vs2, d2, ds2, p2, q2, rfl, rfl, rfl, h2, r2⟩ := trodAll_cons r1
  obtain ⟨rfl, rfl, rfl⟩ := trodAll_nil r2
  obtain rfl : args = #[v0, v1, v2] := by cases args; simp_all
  obtain ⟨_, _, _, _, g1, _, rfl, -, -, -, -, -⟩ := trodVars_one hV
  clear hargs
  obtain ⟨n0, f0⟩ := trod_one Tryd.underlying22 (hval 0 _ v0 rfl rfl) h0
  obtain ⟨x0, y0⟩ := read_strings Tryd.underlying22 Tryd.underlying9 (by kernel_rfl) f0
  obtain ⟨n1, f1⟩ := trod_one Tryd.underlying23 (hval 1 _ v1 rfl rfl) h1
  obtain ⟨x1, y1⟩ := read_fsteps Tryd.underlying23 f1
  obtain ⟨x2, rfl, rfl, rfl, y2⟩ := open_int Tryd.underlying3 (hval 2 _ v2 rfl rfl) h2
  refine (w_FnExactDischarge W (of_laid hL) x0 v0 y0.1 y0.2 x1 v1 y1.1 y1.2 x2 (i64_of_wf y2)).mono fun e W' ⟨he, hb⟩ => ?_
  subst he
  exact ⟨_, rfl, law_postV hW' rfl hb laid_out (by kernel_rfl) (by kernel_rfl) (by kernel_rfl) Tryd.underlying4⟩

theorem FnExactDischarge_closed : joinedFacts Tryd.checked.prog 3 Tryd.f3 Rows.fnExactDischargeSpec Rows.fnExactDischargeRow = true := by
  kernel_rfl
theorem FnExactDischarge_holds : Rows.FnExactDischargeSaid :=
  OpenClaim.holds_of_wide 3 Tryd.f3 rfl rfl rfl rfl rfl rfl rfl ⟨rfl, rfl, rfl, rfl, rfl⟩ rfl rfl rfl rfl rfl (by kernel_rfl) Tryd.func3 FnExactDischarge_closed
    (of_decide_eq_true (by kernel_rfl)) (by unfold Func.isWrapper; first | (rw [if_pos (by decide +kernel)]; kernel_rfl) | (rw [if_neg (by decide +kernel)]; exact ⟨rfl, rfl⟩))
    (fun os started H enc _ => FnExactDischarge_lifted os started H enc)
theorem FnExactDischarge_card : Rows.FnExactDischargeCardSaid :=
  Claim7.holds_tied_plain_at .later [] [.data] true (true, "239a8c31e11039d5b6ae578c004f9e6c1f1eab849d10a696a30ccdb1dd766d4a") false
    FnExactDischarge_holds (fun _ h => by cases h) (by kernel_rfl) (fun _ h => by cases h) fnExactDischarge_row_tie rfl ⟨rfl, rfl⟩ (by kernel_rfl) rfl
    (fun f fn hf hfn => by
      obtain rfl : f = 3 := Option.some.inj ((show Tryd.prog.funcNamed "loop.example/g01080/laws.FnExactDischarge" = some 3 by kernel_rfl).symm.trans hf) |>.symm
      obtain rfl : fn = Tryd.f3 := (Option.some.inj (Tryd.func3.symm.trans hfn)).symm
      exact ⟨by kernel_rfl, fun j t ht => by
        rw [Tryd.params3] at ht
        have hm : t ∈ ([22, 23, 3] : List TypeId) := by
          have := Array.mem_of_getElem? ht
          revert this
          simp
        have hall : (([22, 23, 3] : List TypeId).all fun u => !Tryd.prog.wantsStandIn u) = true := by kernel_rfl
        exact (show Tryd.prog.wantsStandIn t = false by simpa using List.all_eq_true.1 hall t hm)⟩)
    (by kernel_rfl)
end Go.Proofs.YtapgpjhogdmjbaaDoor

