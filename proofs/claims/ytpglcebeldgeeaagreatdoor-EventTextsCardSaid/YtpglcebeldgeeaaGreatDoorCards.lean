/-
  DERIVED. GIVEN WITH THE SEED: THE CARDS: each row of YtpglcebeldgeeaaGreatDoorRows.lean that lists a variable, with what it lists TIED to the program's text (the seventh form; the later family's looks); each row that meets fmt, with fmt's text TOLD by the authors' own Lean function (tested against real Go, not proved from fmt's source: count such statements apart). THE CARD IS WHAT COUNTS. Prove the row's statement (the work); the ties are given (YtpglcebeldgeeaaGreatDoorTie.lean); close each card by the builder's one call (the guide's Derived/Test/ToyasCard.lean, 'card_holds'). Laid BY PROGRAM, IN A SANDBOX (cutbox-door.mjs). By AI agents, Wed Nov 11 2026. No macro, syntax, notation, axiom, sorry.
-/
import Derived.Test.YtpglcebeldgeeaaGreatDoorRows
import GoSem.ClaimSeven
namespace Go.Proofs.YtpglcebeldgeeaaGreatDoor
namespace Rows

/-- THE TIED CARD OF 'pneumaticlaw02.EventMakes'. -/
def eventMakesCard : Claim7 := { stood := { row := eventMakesRow, standIns := [], harness := (true, "bb0202add85485d783f668b2e74d084eec041e19007dd315339abe31fef43be1"), looks := true }, kinds := [], alts := [], laidByText := true, laidKinds := [.data, .data, .data, .sentinel, .sentinel], laidTests := true, laidLooks := .later }
def EventMakesCardSaid : Prop := Claim7.holds Tryz.pinned (.plain (OpenSpec.ofChange eventMakesSpec)) eventMakesCard

/-- THE TIED CARD OF 'pneumaticlaw02.EventTexts'. -/
def eventTextsCard : Claim7 := { stood := { row := eventTextsRow, standIns := [], harness := (true, "bb0202add85485d783f668b2e74d084eec041e19007dd315339abe31fef43be1"), looks := true }, kinds := [], alts := [], laidByText := true, laidKinds := [.data, .data, .data, .sentinel, .sentinel], laidTests := true, laidLooks := .later }
def EventTextsCardSaid : Prop := Claim7.holds Tryz.pinned (.plain (OpenSpec.ofChange eventTextsSpec)) eventTextsCard

/-- THE SECOND FORM's CARD OF 'pneumaticlaw02.EventMakes'. -/
def eventMakesUptoCard : Claim7 := { stood := { row := eventMakesUptoRow, standIns := [], harness := (true, "bb0202add85485d783f668b2e74d084eec041e19007dd315339abe31fef43be1"), looks := true }, kinds := [], alts := [], laidByText := true, laidKinds := [.data, .data, .data, .sentinel, .sentinel], laidTests := true, laidLooks := .later }
def EventMakesUptoCardSaid : Prop := Claim7.holds Tryz.pinned (.plain (OpenSpec.upto eventMakesSpec)) eventMakesUptoCard

/-- THE SECOND FORM's CARD OF 'pneumaticlaw02.EventTexts'. -/
def eventTextsUptoCard : Claim7 := { stood := { row := eventTextsUptoRow, standIns := [], harness := (true, "bb0202add85485d783f668b2e74d084eec041e19007dd315339abe31fef43be1"), looks := true }, kinds := [], alts := [], laidByText := true, laidKinds := [.data, .data, .data, .sentinel, .sentinel], laidTests := true, laidLooks := .later }
def EventTextsUptoCardSaid : Prop := Claim7.holds Tryz.pinned (.plain (OpenSpec.upto eventTextsSpec)) eventTextsUptoCard
end Rows
end Go.Proofs.YtpglcebeldgeeaaGreatDoor
