/-
  DERIVED. GIVEN WITH THE SEED: THE CARDS: each row of YthpkcekmbhafnaaGreatDoorRows.lean that lists a variable, with what it lists TIED to the program's text (the seventh form; the later family's looks); each row that meets fmt, with fmt's text TOLD by the authors' own Lean function (tested against real Go, not proved from fmt's source: count such statements apart). THE CARD IS WHAT COUNTS. Prove the row's statement (the work); the ties are given (YthpkcekmbhafnaaGreatDoorTie.lean); close each card by the builder's one call (the guide's Derived/Test/ToyasCard.lean, 'card_holds'). Laid BY PROGRAM, IN A SANDBOX (cutbox-door.mjs). By AI agents, Wed Nov 11 2026. No macro, syntax, notation, axiom, sorry.
-/
import Derived.Test.YthpkcekmbhafnaaGreatDoorRows
import GoSem.ClaimSeven
namespace Go.Proofs.YthpkcekmbhafnaaGreatDoor
namespace Rows

/-- THE TIED CARD OF 'pneumaticlaw13.SeglogKnown'. -/
def seglogKnownCard : Claim7 := { stood := { row := seglogKnownRow, standIns := [], harness := (true, "64f5c602cf92739c5423c9ebd5cab5fa2df97914ccda34c3a41ccdd2209bb8c1"), looks := false }, kinds := [], alts := [], laidByText := true, laidKinds := [.data, .pinned], laidTests := true, laidLooks := .later }
def SeglogKnownCardSaid : Prop := Claim7.holds Tryz.pinned (.plain (OpenSpec.ofChange seglogKnownSpec)) seglogKnownCard

/-- THE SECOND FORM's CARD OF 'pneumaticlaw13.SeglogKnown'. -/
def seglogKnownUptoCard : Claim7 := { stood := { row := seglogKnownUptoRow, standIns := [], harness := (true, "64f5c602cf92739c5423c9ebd5cab5fa2df97914ccda34c3a41ccdd2209bb8c1"), looks := false }, kinds := [], alts := [], laidByText := true, laidKinds := [.data, .pinned], laidTests := true, laidLooks := .later }
def SeglogKnownUptoCardSaid : Prop := Claim7.holds Tryz.pinned (.plain (OpenSpec.upto seglogKnownSpec)) seglogKnownUptoCard
end Rows
end Go.Proofs.YthpkcekmbhafnaaGreatDoor
