/-
  What the program's text forces in the row of 'JudgeKnown': laidOut, lifts, make, namedTie, stops.
-/
import Derived.Test.YtfdidgjlchimhaaGreatDoorRows
import Derived.JoinedOf
import GoSem.ClaimSeven
namespace Go.Proofs.YtfdidgjlchimhaaGreatDoor.judgeKnown
open Go

theorem k_laidOut : laidOutB Tryz.checked.prog = true := by kernel_rfl
theorem k_lifts : (Rows.judgeKnownRow.lifted == Tryz.checked.prog.liftsFinal) = true := by kernel_rfl
theorem k_make : (Tryz.checked.prog.make == some Rows.judgeKnownRow.make) = true := by kernel_rfl
theorem k_namedTie : namedTie Tryz.checked.prog Rows.judgeKnownRow.named Rows.judgeKnownSpec.vars = true := by kernel_rfl
theorem k_stops : ((Tryz.checked.prog.stops == []) && (Tryz.checked.prog.stopKnobs == [])) = true := by kernel_rfl
end Go.Proofs.YtfdidgjlchimhaaGreatDoor.judgeKnown
