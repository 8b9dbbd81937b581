/-
  DERIVED. GIVEN WITH THE SEED: THE CARDS: each row of YtdknlbnljfdhgaaGreatDoorRows.lean that lists a variable, with what it lists TIED to the program's text (the seventh form; the later family's looks); each row that meets fmt, with fmt's text TOLD by the authors' own Lean function (tested against real Go, not proved from fmt's source: count such statements apart). THE CARD IS WHAT COUNTS. Prove the row's statement (the work); the ties are given (YtdknlbnljfdhgaaGreatDoorTie.lean); close each card by the builder's one call (the guide's Derived/Test/ToyasCard.lean, 'card_holds'). Laid BY PROGRAM, IN A SANDBOX (cutbox-door.mjs). By AI agents, Wed Nov 11 2026. No macro, syntax, notation, axiom, sorry.
-/
import Derived.Test.YtdknlbnljfdhgaaGreatDoorRows
import GoSem.ClaimSeven
namespace Go.Proofs.YtdknlbnljfdhgaaGreatDoor
namespace Rows

/-- THE TIED CARD OF 'pneumaticlaw18.BookOwn'. -/
def bookOwnCard : Claim7 := { stood := { row := bookOwnRow, standIns := [], harness := (true, "76d3aed4d91839ee4b4bf9762c888bc48bc03104544ab42a4e46a97e6265f06c"), looks := true }, kinds := [], alts := [], laidByText := true, laidKinds := [.data, .pinned], laidTests := true, laidLooks := .later }
def BookOwnCardSaid : Prop := Claim7.holds Tryz.pinned (.plain (OpenSpec.ofChange bookOwnSpec)) bookOwnCard

/-- THE TIED CARD OF 'pneumaticlaw18.BookAgain'. -/
def bookAgainCard : Claim7 := { stood := { row := bookAgainRow, standIns := [], harness := (true, "76d3aed4d91839ee4b4bf9762c888bc48bc03104544ab42a4e46a97e6265f06c"), looks := true }, kinds := [], alts := [], laidByText := true, laidKinds := [.data, .pinned], laidTests := true, laidLooks := .later }
def BookAgainCardSaid : Prop := Claim7.holds Tryz.pinned (.plain (OpenSpec.ofChange bookAgainSpec)) bookAgainCard

/-- THE TIED CARD OF 'pneumaticlaw18.BookLasts'. -/
def bookLastsCard : Claim7 := { stood := { row := bookLastsRow, standIns := [], harness := (true, "76d3aed4d91839ee4b4bf9762c888bc48bc03104544ab42a4e46a97e6265f06c"), looks := true }, kinds := [], alts := [], laidByText := true, laidKinds := [.data, .pinned], laidTests := true, laidLooks := .later }
def BookLastsCardSaid : Prop := Claim7.holds Tryz.pinned (.plain (OpenSpec.ofChange bookLastsSpec)) bookLastsCard

/-- THE TIED CARD OF 'pneumaticlaw18.BookPlays'. -/
def bookPlaysCard : Claim7 := { stood := { row := bookPlaysRow, standIns := [], harness := (true, "76d3aed4d91839ee4b4bf9762c888bc48bc03104544ab42a4e46a97e6265f06c"), looks := true }, kinds := [], alts := [], laidByText := true, laidKinds := [.data, .pinned], laidTests := true, laidLooks := .later }
def BookPlaysCardSaid : Prop := Claim7.holds Tryz.pinned (.plain (OpenSpec.ofChange bookPlaysSpec)) bookPlaysCard

/-- THE SECOND FORM's CARD OF 'pneumaticlaw18.BookOwn'. -/
def bookOwnUptoCard : Claim7 := { stood := { row := bookOwnUptoRow, standIns := [], harness := (true, "76d3aed4d91839ee4b4bf9762c888bc48bc03104544ab42a4e46a97e6265f06c"), looks := true }, kinds := [], alts := [], laidByText := true, laidKinds := [.data, .pinned], laidTests := true, laidLooks := .later }
def BookOwnUptoCardSaid : Prop := Claim7.holds Tryz.pinned (.plain (OpenSpec.upto bookOwnSpec)) bookOwnUptoCard

/-- THE SECOND FORM's CARD OF 'pneumaticlaw18.BookAgain'. -/
def bookAgainUptoCard : Claim7 := { stood := { row := bookAgainUptoRow, standIns := [], harness := (true, "76d3aed4d91839ee4b4bf9762c888bc48bc03104544ab42a4e46a97e6265f06c"), looks := true }, kinds := [], alts := [], laidByText := true, laidKinds := [.data, .pinned], laidTests := true, laidLooks := .later }
def BookAgainUptoCardSaid : Prop := Claim7.holds Tryz.pinned (.plain (OpenSpec.upto bookAgainSpec)) bookAgainUptoCard

/-- THE SECOND FORM's CARD OF 'pneumaticlaw18.BookLasts'. -/
def bookLastsUptoCard : Claim7 := { stood := { row := bookLastsUptoRow, standIns := [], harness := (true, "76d3aed4d91839ee4b4bf9762c888bc48bc03104544ab42a4e46a97e6265f06c"), looks := true }, kinds := [], alts := [], laidByText := true, laidKinds := [.data, .pinned], laidTests := true, laidLooks := .later }
def BookLastsUptoCardSaid : Prop := Claim7.holds Tryz.pinned (.plain (OpenSpec.upto bookLastsSpec)) bookLastsUptoCard

/-- THE SECOND FORM's CARD OF 'pneumaticlaw18.BookPlays'. -/
def bookPlaysUptoCard : Claim7 := { stood := { row := bookPlaysUptoRow, standIns := [], harness := (true, "76d3aed4d91839ee4b4bf9762c888bc48bc03104544ab42a4e46a97e6265f06c"), looks := true }, kinds := [], alts := [], laidByText := true, laidKinds := [.data, .pinned], laidTests := true, laidLooks := .later }
def BookPlaysUptoCardSaid : Prop := Claim7.holds Tryz.pinned (.plain (OpenSpec.upto bookPlaysSpec)) bookPlaysUptoCard
end Rows
end Go.Proofs.YtdknlbnljfdhgaaGreatDoor
