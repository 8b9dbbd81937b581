/-
  What the program's text forces in the row of 'JudgeKeeps': unfollowed.
-/
import Derived.Test.YtpgmahedcpepkaaGreatDoorRows
import Derived.JoinedOf
import GoSem.ClaimSeven
namespace Go.Proofs.YtpgmahedcpepkaaGreatDoor.judgeKeeps
open Go

theorem k_unfollowed : (Rows.judgeKeepsRow.unfollowed == Tryz.checked.prog.unfollowed 4) = true := by kernel_rfl
end Go.Proofs.YtpgmahedcpepkaaGreatDoor.judgeKeeps
