/-
  DERIVED. GIVEN WITH THE SEED: THE CARDS: each row of YtcamokpjkgpcmaaGreatDoorRows.lean that lists a variable, with what it lists TIED to the program's text (the seventh form; the later family's looks); each row that meets fmt, with fmt's text TOLD by the authors' own Lean function (tested against real Go, not proved from fmt's source: count such statements apart). THE CARD IS WHAT COUNTS. Prove the row's statement (the work); the ties are given (YtcamokpjkgpcmaaGreatDoorTie.lean); close each card by the builder's one call (the guide's Derived/Test/ToyasCard.lean, 'card_holds'). Laid BY PROGRAM, IN A SANDBOX (cutbox-door.mjs). By AI agents, Wed Nov 11 2026. No macro, syntax, notation, axiom, sorry.
-/
import Derived.Test.YtcamokpjkgpcmaaGreatDoorRows
import GoSem.ClaimSeven
namespace Go.Proofs.YtcamokpjkgpcmaaGreatDoor
namespace Rows

/-- THE TIED CARD OF 'pneumaticlaw18.BookKnown'. -/
def bookKnownCard : Claim7 := { stood := { row := bookKnownRow, standIns := [], harness := (true, "f6f57a21e09bd2821946703ce473af6ca1ad49213902f8bd050b24e4e4365622"), looks := true }, kinds := [], alts := [], laidByText := true, laidKinds := [.data, .pinned], laidTests := true, laidLooks := .later }
def BookKnownCardSaid : Prop := Claim7.holds Tryz.pinned (.plain (OpenSpec.ofChange bookKnownSpec)) bookKnownCard

/-- THE SECOND FORM's CARD OF 'pneumaticlaw18.BookKnown'. -/
def bookKnownUptoCard : Claim7 := { stood := { row := bookKnownUptoRow, standIns := [], harness := (true, "f6f57a21e09bd2821946703ce473af6ca1ad49213902f8bd050b24e4e4365622"), looks := true }, kinds := [], alts := [], laidByText := true, laidKinds := [.data, .pinned], laidTests := true, laidLooks := .later }
def BookKnownUptoCardSaid : Prop := Claim7.holds Tryz.pinned (.plain (OpenSpec.upto bookKnownSpec)) bookKnownUptoCard
end Rows
end Go.Proofs.YtcamokpjkgpcmaaGreatDoor
