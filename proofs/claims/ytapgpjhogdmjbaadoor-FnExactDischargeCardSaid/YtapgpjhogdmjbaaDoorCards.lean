/-
  DERIVED. GIVEN WITH THE SEED: THE CARDS: each row of YtapgpjhogdmjbaaDoorRows.lean that lists a variable, with what it lists TIED to the program's text (the seventh form; the later family's looks); each row that meets fmt, with fmt's text TOLD by the authors' own Lean function (tested against real Go, not proved from fmt's source: count such statements apart). THE CARD IS WHAT COUNTS. Prove the row's statement (the work); the ties are given (YtapgpjhogdmjbaaDoorTie.lean); close each card by the builder's one call (the guide's Derived/Test/ToyasCard.lean, 'card_holds'). Laid BY PROGRAM, IN A SANDBOX (cutbox-door.mjs). By AI agents, Wed Nov 11 2026. No macro, syntax, notation, axiom, sorry.
-/
import Derived.Test.YtapgpjhogdmjbaaDoorRows
import GoSem.ClaimSeven
namespace Go.Proofs.YtapgpjhogdmjbaaDoor
namespace Rows

/-- THE TIED CARD OF 'laws.FnExactDischarge'. -/
def fnExactDischargeCard : Claim7 := { stood := { row := fnExactDischargeRow, standIns := [], harness := (true, "239a8c31e11039d5b6ae578c004f9e6c1f1eab849d10a696a30ccdb1dd766d4a"), looks := false }, kinds := [], alts := [], laidByText := true, laidKinds := [.data], laidTests := true, laidLooks := .later }
def FnExactDischargeCardSaid : Prop := Claim7.holds Tryd.pinned (.plain (OpenSpec.ofChange fnExactDischargeSpec)) fnExactDischargeCard

/-- THE SECOND FORM's CARD OF 'laws.FnExactDischarge'. -/
def fnExactDischargeUptoCard : Claim7 := { stood := { row := fnExactDischargeUptoRow, standIns := [], harness := (true, "239a8c31e11039d5b6ae578c004f9e6c1f1eab849d10a696a30ccdb1dd766d4a"), looks := false }, kinds := [], alts := [], laidByText := true, laidKinds := [.data], laidTests := true, laidLooks := .later }
def FnExactDischargeUptoCardSaid : Prop := Claim7.holds Tryd.pinned (.plain (OpenSpec.upto fnExactDischargeSpec)) fnExactDischargeUptoCard
end Rows
end Go.Proofs.YtapgpjhogdmjbaaDoor
