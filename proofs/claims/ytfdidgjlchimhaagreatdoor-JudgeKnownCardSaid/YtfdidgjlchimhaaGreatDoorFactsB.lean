/-
  What the program's text forces in the row of 'JudgeKnown': named.
-/
import Derived.Test.YtfdidgjlchimhaaGreatDoorRows
import Derived.JoinedOf
import GoSem.ClaimSeven
namespace Go.Proofs.YtfdidgjlchimhaaGreatDoor.judgeKnown
open Go

theorem k_named : (Rows.judgeKnownRow.named == Tryz.checked.prog.varsNamed 3) = true := by kernel_rfl
end Go.Proofs.YtfdidgjlchimhaaGreatDoor.judgeKnown
