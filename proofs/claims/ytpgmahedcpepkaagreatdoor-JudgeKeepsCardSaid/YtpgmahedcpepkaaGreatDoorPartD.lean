/-
  What the program's text forces in the row of 'JudgeKeeps': mapsRowed, mayEnter.
  What the program's text forces in the row of 'JudgeKeeps': plainKeys, stopsHeard.
  What the program's text forces in the row of 'JudgeKeeps': looks, mainIs, wf, fn, go.
-/
import Derived.Test.YtpgmahedcpepkaaGreatDoorRows
import Derived.JoinedOf
import GoSem.ClaimSeven
namespace Go.Proofs.YtpgmahedcpepkaaGreatDoor.judgeKeeps
open Go

theorem k_mapsRowed : mapsRowed Tryz.checked.prog = true := by kernel_rfl
theorem k_mayEnter : Tryz.checked.prog.mayEnter = true := by kernel_rfl
end Go.Proofs.YtpgmahedcpepkaaGreatDoor.judgeKeeps

namespace Go.Proofs.YtpgmahedcpepkaaGreatDoor.judgeKeeps
open Go

theorem k_plainKeys : (Rows.judgeKeepsRow.plainKeys == Tryz.checked.prog.plainKeys) = true := by kernel_rfl
theorem k_stopsHeard : Tryz.checked.prog.stopsHeard = true := by kernel_rfl
end Go.Proofs.YtpgmahedcpepkaaGreatDoor.judgeKeeps

namespace Go.Proofs.YtpgmahedcpepkaaGreatDoor.judgeKeeps
open Go

theorem k_looks : true = Tryz.checked.prog.looks [] := by kernel_rfl
theorem k_mainIs : Tryz.checked.prog.mainIs = some (true, "769adc27b72730a3a7aa1b865f360e615fc99059fe2e82f5efc06a782bdae68d".toList) := by kernel_rfl
theorem k_wf : Rows.judgeKeepsRow.wfByText (OpenSpec.ofChange Rows.judgeKeepsSpec) = true := by kernel_rfl
theorem k_fn : Tryz.checked.prog.funcNamed Rows.judgeKeepsRow.func = some 4 := by kernel_rfl
theorem k_go : Tryz.checked.prog.funcs.any Func.goes = false := by kernel_rfl
end Go.Proofs.YtpgmahedcpepkaaGreatDoor.judgeKeeps
