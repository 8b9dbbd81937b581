/-
  What the program's text forces in the row of 'JudgeKnown': mapsRowed, mayEnter.
-/
import Derived.Test.YtfdidgjlchimhaaGreatDoorRows
import Derived.JoinedOf
import GoSem.ClaimSeven
namespace Go.Proofs.YtfdidgjlchimhaaGreatDoor.judgeKnown
open Go

theorem k_mapsRowed : mapsRowed Tryz.checked.prog = true := by kernel_rfl
theorem k_mayEnter : Tryz.checked.prog.mayEnter = true := by kernel_rfl
end Go.Proofs.YtfdidgjlchimhaaGreatDoor.judgeKnown
