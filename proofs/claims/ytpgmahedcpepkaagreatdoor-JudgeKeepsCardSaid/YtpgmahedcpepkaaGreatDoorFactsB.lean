/-
  What the program's text forces in the row of 'JudgeKeeps': named.
-/
import Derived.Test.YtpgmahedcpepkaaGreatDoorRows
import Derived.JoinedOf
import GoSem.ClaimSeven
namespace Go.Proofs.YtpgmahedcpepkaaGreatDoor.judgeKeeps
open Go

theorem k_named : (Rows.judgeKeepsRow.named == Tryz.checked.prog.varsNamed 4) = true := by kernel_rfl
end Go.Proofs.YtpgmahedcpepkaaGreatDoor.judgeKeeps
