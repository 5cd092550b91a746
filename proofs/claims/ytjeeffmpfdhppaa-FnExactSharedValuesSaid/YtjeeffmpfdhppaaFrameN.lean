/-
  How the arguments' readings are opened: formulas in conjunctive normal form. No condition.
-/
import Derived.Test.YtjeeffmpfdhppaaFrame
import Derived.Test.YtjeeffmpfdhppaaCnf
namespace Go.Proofs.Ytjeeffmpfdhppaa
open Go.RowKit Go.ChangeShapes Go.WideShapes Go.ChangeAt Go.Deep Go.Joins
section
variable {H : Type} {enc : TypeId × Value → H} {W : World} {b0 : Nat} {r : Reach} {base : Nat} {spare : Nat → Bool} {held : Bool}
set_option maxRecDepth 100000 in
theorem open_cnf {v : Value} {d : DataW H} {p : List MemPlace} (hv : Value.okWide Try.prog W r b0 24 v) (h : DataW.Trod enc Try.prog W base spare held 24 v d p) :
    ∃ f, Rd_Cnf W v f ∧ I64_Cnf f := by
  obtain ⟨v0, v1, y0, y1, n, rfl, _, _, h0, h1⟩ := open_agg2 Try.underlying24 (by kernel_rfl) (by kernel_rfl) hv h
  obtain ⟨z, hz, _, hw⟩ := DataW.trod_int Try.underlying3 h0
  injection hz with hz
  subst hz
  obtain ⟨cs, hcs, hb⟩ := read_intss Try.underlying22 Try.underlying45 Try.underlying3 (by kernel_rfl) (by kernel_rfl) h1
  exact ⟨⟨z, cs⟩, ⟨_, rfl, hcs⟩, i64_of_wf hw, hb⟩
end
end Go.Proofs.Ytjeeffmpfdhppaa
