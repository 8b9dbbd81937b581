/-
  DERIVED. GIVEN WITH THE SEED: THE CARDS: each row of YtpgmahedcpepkaaGreatDoorRows.lean that lists a variable, with what it lists TIED to the program's text (the seventh form; the later family's looks); each row that meets fmt, with fmt's text TOLD by the authors' own Lean function (tested against real Go, not proved from fmt's source: count such statements apart). THE CARD IS WHAT COUNTS. Prove the row's statement (the work); the ties are given (YtpgmahedcpepkaaGreatDoorTie.lean); close each card by the builder's one call (the guide's Derived/Test/ToyasCard.lean, 'card_holds'). Laid BY PROGRAM, IN A SANDBOX (cutbox-door.mjs). By AI agents, Wed Nov 11 2026. No macro, syntax, notation, axiom, sorry.
-/
import Derived.Test.YtpgmahedcpepkaaGreatDoorRows
import GoSem.ClaimSeven
namespace Go.Proofs.YtpgmahedcpepkaaGreatDoor
namespace Rows

/-- THE TIED CARD OF 'pneumaticlaw30.JudgeMisses'. -/
def judgeMissesCard : Claim7 := { stood := { row := judgeMissesRow, standIns := [], harness := (true, "769adc27b72730a3a7aa1b865f360e615fc99059fe2e82f5efc06a782bdae68d"), looks := true }, kinds := [], alts := [], laidByText := true, laidKinds := [.data, .pinned], laidTests := true, laidLooks := .later }
def JudgeMissesCardSaid : Prop := Claim7.holds Tryz.pinned (.plain (OpenSpec.ofChange judgeMissesSpec)) judgeMissesCard

/-- THE TIED CARD OF 'pneumaticlaw30.JudgeKeeps'. -/
def judgeKeepsCard : Claim7 := { stood := { row := judgeKeepsRow, standIns := [], harness := (true, "769adc27b72730a3a7aa1b865f360e615fc99059fe2e82f5efc06a782bdae68d"), looks := true }, kinds := [], alts := [], laidByText := true, laidKinds := [.data, .pinned], laidTests := true, laidLooks := .later }
def JudgeKeepsCardSaid : Prop := Claim7.holds Tryz.pinned (.plain (OpenSpec.ofChange judgeKeepsSpec)) judgeKeepsCard

/-- THE SECOND FORM's CARD OF 'pneumaticlaw30.JudgeMisses'. -/
def judgeMissesUptoCard : Claim7 := { stood := { row := judgeMissesUptoRow, standIns := [], harness := (true, "769adc27b72730a3a7aa1b865f360e615fc99059fe2e82f5efc06a782bdae68d"), looks := true }, kinds := [], alts := [], laidByText := true, laidKinds := [.data, .pinned], laidTests := true, laidLooks := .later }
def JudgeMissesUptoCardSaid : Prop := Claim7.holds Tryz.pinned (.plain (OpenSpec.upto judgeMissesSpec)) judgeMissesUptoCard

/-- THE SECOND FORM's CARD OF 'pneumaticlaw30.JudgeKeeps'. -/
def judgeKeepsUptoCard : Claim7 := { stood := { row := judgeKeepsUptoRow, standIns := [], harness := (true, "769adc27b72730a3a7aa1b865f360e615fc99059fe2e82f5efc06a782bdae68d"), looks := true }, kinds := [], alts := [], laidByText := true, laidKinds := [.data, .pinned], laidTests := true, laidLooks := .later }
def JudgeKeepsUptoCardSaid : Prop := Claim7.holds Tryz.pinned (.plain (OpenSpec.upto judgeKeepsSpec)) judgeKeepsUptoCard
end Rows
end Go.Proofs.YtpgmahedcpepkaaGreatDoor
