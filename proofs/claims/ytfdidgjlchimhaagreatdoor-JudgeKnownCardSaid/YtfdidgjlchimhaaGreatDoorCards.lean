/-
  DERIVED. GIVEN WITH THE SEED: THE CARDS: each row of YtfdidgjlchimhaaGreatDoorRows.lean that lists a variable, with what it lists TIED to the program's text (the seventh form; the later family's looks); each row that meets fmt, with fmt's text TOLD by the authors' own Lean function (tested against real Go, not proved from fmt's source: count such statements apart). THE CARD IS WHAT COUNTS. Prove the row's statement (the work); the ties are given (YtfdidgjlchimhaaGreatDoorTie.lean); close each card by the builder's one call (the guide's Derived/Test/ToyasCard.lean, 'card_holds'). Laid BY PROGRAM, IN A SANDBOX (cutbox-door.mjs). By AI agents, Wed Nov 11 2026. No macro, syntax, notation, axiom, sorry.
-/
import Derived.Test.YtfdidgjlchimhaaGreatDoorRows
import GoSem.ClaimSeven
namespace Go.Proofs.YtfdidgjlchimhaaGreatDoor
namespace Rows

/-- THE TIED CARD OF 'pneumaticlaw30.JudgeKnown'. -/
def judgeKnownCard : Claim7 := { stood := { row := judgeKnownRow, standIns := [], harness := (true, "b3ca98dcaa8752da30d5ed6f084a95a2a545e718ff3852d22b3c47b3429a4348"), looks := true }, kinds := [], alts := [], laidByText := true, laidKinds := [.data, .pinned], laidTests := true, laidLooks := .later }
def JudgeKnownCardSaid : Prop := Claim7.holds Tryz.pinned (.plain (OpenSpec.ofChange judgeKnownSpec)) judgeKnownCard

/-- THE SECOND FORM's CARD OF 'pneumaticlaw30.JudgeKnown'. -/
def judgeKnownUptoCard : Claim7 := { stood := { row := judgeKnownUptoRow, standIns := [], harness := (true, "b3ca98dcaa8752da30d5ed6f084a95a2a545e718ff3852d22b3c47b3429a4348"), looks := true }, kinds := [], alts := [], laidByText := true, laidKinds := [.data, .pinned], laidTests := true, laidLooks := .later }
def JudgeKnownUptoCardSaid : Prop := Claim7.holds Tryz.pinned (.plain (OpenSpec.upto judgeKnownSpec)) judgeKnownUptoCard
end Rows
end Go.Proofs.YtfdidgjlchimhaaGreatDoor
