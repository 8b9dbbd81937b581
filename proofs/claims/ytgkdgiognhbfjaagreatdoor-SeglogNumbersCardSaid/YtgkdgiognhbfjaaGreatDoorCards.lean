/-
  DERIVED. GIVEN WITH THE SEED: THE CARDS: each row of YtgkdgiognhbfjaaGreatDoorRows.lean that lists a variable, with what it lists TIED to the program's text (the seventh form; the later family's looks); each row that meets fmt, with fmt's text TOLD by the authors' own Lean function (tested against real Go, not proved from fmt's source: count such statements apart). THE CARD IS WHAT COUNTS. Prove the row's statement (the work); the ties are given (YtgkdgiognhbfjaaGreatDoorTie.lean); close each card by the builder's one call (the guide's Derived/Test/ToyasCard.lean, 'card_holds'). Laid BY PROGRAM, IN A SANDBOX (cutbox-door.mjs). By AI agents, Wed Nov 11 2026. No macro, syntax, notation, axiom, sorry.
-/
import Derived.Test.YtgkdgiognhbfjaaGreatDoorRows
import GoSem.ClaimSeven
namespace Go.Proofs.YtgkdgiognhbfjaaGreatDoor
namespace Rows

/-- THE TIED CARD OF 'pneumaticlaw13.SeglogNumbers'. -/
def seglogNumbersCard : Claim7 := { stood := { row := seglogNumbersRow, standIns := [], harness := (true, "b46da32719ee212f387ef01d60bd10f0eba80d59bd68defc8695b96395b7b22e"), looks := false }, kinds := [], alts := [], laidByText := true, laidKinds := [.data, .pinned], laidTests := true, laidLooks := .later }
def SeglogNumbersCardSaid : Prop := Claim7.holds Tryz.pinned (.plain (OpenSpec.ofChange seglogNumbersSpec)) seglogNumbersCard

/-- THE TIED CARD OF 'pneumaticlaw13.SeglogCrash'. -/
def seglogCrashCard : Claim7 := { stood := { row := seglogCrashRow, standIns := [], harness := (true, "b46da32719ee212f387ef01d60bd10f0eba80d59bd68defc8695b96395b7b22e"), looks := false }, kinds := [], alts := [], laidByText := true, laidKinds := [.data, .pinned], laidTests := true, laidLooks := .later }
def SeglogCrashCardSaid : Prop := Claim7.holds Tryz.pinned (.plain (OpenSpec.ofChange seglogCrashSpec)) seglogCrashCard

/-- THE SECOND FORM's CARD OF 'pneumaticlaw13.SeglogNumbers'. -/
def seglogNumbersUptoCard : Claim7 := { stood := { row := seglogNumbersUptoRow, standIns := [], harness := (true, "b46da32719ee212f387ef01d60bd10f0eba80d59bd68defc8695b96395b7b22e"), looks := false }, kinds := [], alts := [], laidByText := true, laidKinds := [.data, .pinned], laidTests := true, laidLooks := .later }
def SeglogNumbersUptoCardSaid : Prop := Claim7.holds Tryz.pinned (.plain (OpenSpec.upto seglogNumbersSpec)) seglogNumbersUptoCard

/-- THE SECOND FORM's CARD OF 'pneumaticlaw13.SeglogCrash'. -/
def seglogCrashUptoCard : Claim7 := { stood := { row := seglogCrashUptoRow, standIns := [], harness := (true, "b46da32719ee212f387ef01d60bd10f0eba80d59bd68defc8695b96395b7b22e"), looks := false }, kinds := [], alts := [], laidByText := true, laidKinds := [.data, .pinned], laidTests := true, laidLooks := .later }
def SeglogCrashUptoCardSaid : Prop := Claim7.holds Tryz.pinned (.plain (OpenSpec.upto seglogCrashSpec)) seglogCrashUptoCard
end Rows
end Go.Proofs.YtgkdgiognhbfjaaGreatDoor
