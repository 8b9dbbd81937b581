/-
  What the program's text forces in the row of 'JudgeKeeps': laidOut, lifts, make, namedTie, stops.
-/
import Derived.Test.YtpgmahedcpepkaaGreatDoorRows
import Derived.JoinedOf
import GoSem.ClaimSeven
namespace Go.Proofs.YtpgmahedcpepkaaGreatDoor.judgeKeeps
open Go

theorem k_laidOut : laidOutB Tryz.checked.prog = true := by kernel_rfl
theorem k_lifts : (Rows.judgeKeepsRow.lifted == Tryz.checked.prog.liftsFinal) = true := by kernel_rfl
theorem k_make : (Tryz.checked.prog.make == some Rows.judgeKeepsRow.make) = true := by kernel_rfl
theorem k_namedTie : namedTie Tryz.checked.prog Rows.judgeKeepsRow.named Rows.judgeKeepsSpec.vars = true := by kernel_rfl
theorem k_stops : ((Tryz.checked.prog.stops == []) && (Tryz.checked.prog.stopKnobs == [])) = true := by kernel_rfl
end Go.Proofs.YtpgmahedcpepkaaGreatDoor.judgeKeeps
