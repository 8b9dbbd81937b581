/-
  What the program's text forces in the row of 'JudgeKeeps': inPlace.
-/
import Derived.Test.YtpgmahedcpepkaaGreatDoorRows
import Derived.JoinedOf
import GoSem.ClaimSeven
namespace Go.Proofs.YtpgmahedcpepkaaGreatDoor.judgeKeeps
open Go

theorem k_inPlace : (Rows.judgeKeepsRow.inPlace == Tryz.checked.prog.inPlace 4) = true := by kernel_rfl
end Go.Proofs.YtpgmahedcpepkaaGreatDoor.judgeKeeps
