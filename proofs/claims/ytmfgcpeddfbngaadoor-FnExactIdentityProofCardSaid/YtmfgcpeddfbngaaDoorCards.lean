/-
  DERIVED. GIVEN WITH THE SEED: THE CARDS: each row of YtmfgcpeddfbngaaDoorRows.lean that lists a variable, with what it lists TIED to the program's text (the seventh form; the later family's looks); each row that meets fmt, with fmt's text TOLD by the authors' own Lean function (tested against real Go, not proved from fmt's source: count such statements apart). THE CARD IS WHAT COUNTS. Prove the row's statement (the work); the ties are given (YtmfgcpeddfbngaaDoorTie.lean); close each card by the builder's one call (the guide's Derived/Test/ToyasCard.lean, 'card_holds'). Laid BY PROGRAM, IN A SANDBOX (cutbox-door.mjs). By AI agents, Wed Nov 11 2026. No macro, syntax, notation, axiom, sorry.
-/
import Derived.Test.YtmfgcpeddfbngaaDoorRows
import GoSem.ClaimSeven
namespace Go.Proofs.YtmfgcpeddfbngaaDoor
namespace Rows

/-- THE TIED CARD OF 'laws.FnExactCaseOf'. -/
def fnExactCaseOfCard : Claim7 := { stood := { row := fnExactCaseOfRow, standIns := [], harness := (true, "ea233d882a9b2229f4b3582cd3313ed1f67edd104ac9b1fb7ee8a7bb1b52a663"), looks := false }, kinds := [], alts := [], laidByText := true, laidKinds := [.data], laidTests := true, laidLooks := .later }
def FnExactCaseOfCardSaid : Prop := Claim7.holds Tryd.pinned (.plain (OpenSpec.ofChange fnExactCaseOfSpec)) fnExactCaseOfCard

/-- THE TIED CARD OF 'laws.FnExactIdentityProof'. -/
def fnExactIdentityProofCard : Claim7 := { stood := { row := fnExactIdentityProofRow, standIns := [], harness := (true, "ea233d882a9b2229f4b3582cd3313ed1f67edd104ac9b1fb7ee8a7bb1b52a663"), looks := false }, kinds := [], alts := [], laidByText := true, laidKinds := [.data], laidTests := true, laidLooks := .later }
def FnExactIdentityProofCardSaid : Prop := Claim7.holds Tryd.pinned (.plain (OpenSpec.ofChange fnExactIdentityProofSpec)) fnExactIdentityProofCard

/-- THE TIED CARD OF 'laws.FnExactDischarge'. -/
def fnExactDischargeCard : Claim7 := { stood := { row := fnExactDischargeRow, standIns := [], harness := (true, "ea233d882a9b2229f4b3582cd3313ed1f67edd104ac9b1fb7ee8a7bb1b52a663"), looks := false }, kinds := [], alts := [], laidByText := true, laidKinds := [.data], laidTests := true, laidLooks := .later }
def FnExactDischargeCardSaid : Prop := Claim7.holds Tryd.pinned (.plain (OpenSpec.ofChange fnExactDischargeSpec)) fnExactDischargeCard

/-- THE SECOND FORM's CARD OF 'laws.FnExactCaseOf'. -/
def fnExactCaseOfUptoCard : Claim7 := { stood := { row := fnExactCaseOfUptoRow, standIns := [], harness := (true, "ea233d882a9b2229f4b3582cd3313ed1f67edd104ac9b1fb7ee8a7bb1b52a663"), looks := false }, kinds := [], alts := [], laidByText := true, laidKinds := [.data], laidTests := true, laidLooks := .later }
def FnExactCaseOfUptoCardSaid : Prop := Claim7.holds Tryd.pinned (.plain (OpenSpec.upto fnExactCaseOfSpec)) fnExactCaseOfUptoCard

/-- THE SECOND FORM's CARD OF 'laws.FnExactIdentityProof'. -/
def fnExactIdentityProofUptoCard : Claim7 := { stood := { row := fnExactIdentityProofUptoRow, standIns := [], harness := (true, "ea233d882a9b2229f4b3582cd3313ed1f67edd104ac9b1fb7ee8a7bb1b52a663"), looks := false }, kinds := [], alts := [], laidByText := true, laidKinds := [.data], laidTests := true, laidLooks := .later }
def FnExactIdentityProofUptoCardSaid : Prop := Claim7.holds Tryd.pinned (.plain (OpenSpec.upto fnExactIdentityProofSpec)) fnExactIdentityProofUptoCard

/-- THE SECOND FORM's CARD OF 'laws.FnExactDischarge'. -/
def fnExactDischargeUptoCard : Claim7 := { stood := { row := fnExactDischargeUptoRow, standIns := [], harness := (true, "ea233d882a9b2229f4b3582cd3313ed1f67edd104ac9b1fb7ee8a7bb1b52a663"), looks := false }, kinds := [], alts := [], laidByText := true, laidKinds := [.data], laidTests := true, laidLooks := .later }
def FnExactDischargeUptoCardSaid : Prop := Claim7.holds Tryd.pinned (.plain (OpenSpec.upto fnExactDischargeSpec)) fnExactDischargeUptoCard
end Rows
end Go.Proofs.YtmfgcpeddfbngaaDoor
