/-
  What the program's text forces in the row of 'JudgeKeeps': recurses.
-/
import Derived.Test.YtpgmahedcpepkaaGreatDoorRows
import Derived.JoinedOf
import GoSem.ClaimSeven
namespace Go.Proofs.YtpgmahedcpepkaaGreatDoor.judgeKeeps
open Go

theorem k_recurses : (Rows.judgeKeepsRow.recurses == Tryz.checked.prog.recurses 4) = true := by kernel_rfl
end Go.Proofs.YtpgmahedcpepkaaGreatDoor.judgeKeeps
