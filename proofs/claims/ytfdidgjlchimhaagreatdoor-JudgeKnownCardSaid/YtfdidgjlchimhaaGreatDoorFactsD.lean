/-
  What the program's text forces in the row of 'JudgeKnown': recurses.
-/
import Derived.Test.YtfdidgjlchimhaaGreatDoorRows
import Derived.JoinedOf
import GoSem.ClaimSeven
namespace Go.Proofs.YtfdidgjlchimhaaGreatDoor.judgeKnown
open Go

theorem k_recurses : (Rows.judgeKnownRow.recurses == Tryz.checked.prog.recurses 3) = true := by kernel_rfl
end Go.Proofs.YtfdidgjlchimhaaGreatDoor.judgeKnown
