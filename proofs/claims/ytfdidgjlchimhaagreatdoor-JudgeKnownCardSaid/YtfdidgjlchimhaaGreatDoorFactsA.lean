/-
  What the program's text forces in the row of 'JudgeKnown': inPlace.
-/
import Derived.Test.YtfdidgjlchimhaaGreatDoorRows
import Derived.JoinedOf
import GoSem.ClaimSeven
namespace Go.Proofs.YtfdidgjlchimhaaGreatDoor.judgeKnown
open Go

theorem k_inPlace : (Rows.judgeKnownRow.inPlace == Tryz.checked.prog.inPlace 3) = true := by kernel_rfl
end Go.Proofs.YtfdidgjlchimhaaGreatDoor.judgeKnown
