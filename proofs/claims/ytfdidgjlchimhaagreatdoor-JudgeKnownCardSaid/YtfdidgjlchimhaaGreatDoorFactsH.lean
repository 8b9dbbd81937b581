/-
  What the program's text forces in the row of 'JudgeKnown': plainKeys, stopsHeard.
-/
import Derived.Test.YtfdidgjlchimhaaGreatDoorRows
import Derived.JoinedOf
import GoSem.ClaimSeven
namespace Go.Proofs.YtfdidgjlchimhaaGreatDoor.judgeKnown
open Go

theorem k_plainKeys : (Rows.judgeKnownRow.plainKeys == Tryz.checked.prog.plainKeys) = true := by kernel_rfl
theorem k_stopsHeard : Tryz.checked.prog.stopsHeard = true := by kernel_rfl
end Go.Proofs.YtfdidgjlchimhaaGreatDoor.judgeKnown
