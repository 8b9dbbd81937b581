/-
  What the program's text forces in the row of 'JudgeKnown': looks, mainIs, wf, fn, go.
-/
import Derived.Test.YtfdidgjlchimhaaGreatDoorRows
import Derived.JoinedOf
import GoSem.ClaimSeven
namespace Go.Proofs.YtfdidgjlchimhaaGreatDoor.judgeKnown
open Go

theorem k_looks : true = Tryz.checked.prog.looks [] := by kernel_rfl
theorem k_mainIs : Tryz.checked.prog.mainIs = some (true, "b3ca98dcaa8752da30d5ed6f084a95a2a545e718ff3852d22b3c47b3429a4348".toList) := by kernel_rfl
theorem k_wf : Rows.judgeKnownRow.wfByText (OpenSpec.ofChange Rows.judgeKnownSpec) = true := by kernel_rfl
theorem k_fn : Tryz.checked.prog.funcNamed Rows.judgeKnownRow.func = some 3 := by kernel_rfl
theorem k_go : Tryz.checked.prog.funcs.any Func.goes = false := by kernel_rfl
end Go.Proofs.YtfdidgjlchimhaaGreatDoor.judgeKnown
