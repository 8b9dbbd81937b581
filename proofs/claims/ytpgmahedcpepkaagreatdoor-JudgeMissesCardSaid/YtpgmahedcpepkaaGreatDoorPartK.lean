/-
  What the program's text forces in the row of 'JudgeMisses': mapsRowed, mayEnter.
  What the program's text forces in the row of 'JudgeMisses': plainKeys, stopsHeard.
  What the program's text forces in the row of 'JudgeMisses': looks, mainIs, wf, fn, go.
-/
import Derived.Test.YtpgmahedcpepkaaGreatDoorRows
import Derived.JoinedOf
import GoSem.ClaimSeven
namespace Go.Proofs.YtpgmahedcpepkaaGreatDoor.judgeMisses
open Go

theorem k_mapsRowed : mapsRowed Tryz.checked.prog = true := by kernel_rfl
theorem k_mayEnter : Tryz.checked.prog.mayEnter = true := by kernel_rfl
end Go.Proofs.YtpgmahedcpepkaaGreatDoor.judgeMisses

namespace Go.Proofs.YtpgmahedcpepkaaGreatDoor.judgeMisses
open Go

theorem k_plainKeys : (Rows.judgeMissesRow.plainKeys == Tryz.checked.prog.plainKeys) = true := by kernel_rfl
theorem k_stopsHeard : Tryz.checked.prog.stopsHeard = true := by kernel_rfl
end Go.Proofs.YtpgmahedcpepkaaGreatDoor.judgeMisses

namespace Go.Proofs.YtpgmahedcpepkaaGreatDoor.judgeMisses
open Go

theorem k_looks : true = Tryz.checked.prog.looks [] := by kernel_rfl
theorem k_mainIs : Tryz.checked.prog.mainIs = some (true, "769adc27b72730a3a7aa1b865f360e615fc99059fe2e82f5efc06a782bdae68d".toList) := by kernel_rfl
theorem k_wf : Rows.judgeMissesRow.wfByText (OpenSpec.ofChange Rows.judgeMissesSpec) = true := by kernel_rfl
theorem k_fn : Tryz.checked.prog.funcNamed Rows.judgeMissesRow.func = some 3 := by kernel_rfl
theorem k_go : Tryz.checked.prog.funcs.any Func.goes = false := by kernel_rfl
end Go.Proofs.YtpgmahedcpepkaaGreatDoor.judgeMisses
