/-
  What the program's text forces in the row of 'BookKnown': mapsRowed, mayEnter, plainKeys, stopsHeard, looks, mainIs, wf, fn, go.
-/
import Derived.Test.YtcamokpjkgpcmaaGreatDoorRows
import Derived.JoinedOf
import GoSem.ClaimSeven
namespace Go.Proofs.YtcamokpjkgpcmaaGreatDoor.bookKnown
open Go

theorem k_mapsRowed : mapsRowed Tryz.checked.prog = true := by kernel_rfl
theorem k_mayEnter : Tryz.checked.prog.mayEnter = true := by kernel_rfl
theorem k_plainKeys : (Rows.bookKnownRow.plainKeys == Tryz.checked.prog.plainKeys) = true := by kernel_rfl
theorem k_stopsHeard : Tryz.checked.prog.stopsHeard = true := by kernel_rfl
theorem k_looks : true = Tryz.checked.prog.looks [] := by kernel_rfl
theorem k_mainIs : Tryz.checked.prog.mainIs = some (true, "f6f57a21e09bd2821946703ce473af6ca1ad49213902f8bd050b24e4e4365622".toList) := by kernel_rfl
theorem k_wf : Rows.bookKnownRow.wfByText (OpenSpec.ofChange Rows.bookKnownSpec) = true := by kernel_rfl
theorem k_fn : Tryz.checked.prog.funcNamed Rows.bookKnownRow.func = some 3 := by kernel_rfl
theorem k_go : Tryz.checked.prog.funcs.any Func.goes = false := by kernel_rfl
end Go.Proofs.YtcamokpjkgpcmaaGreatDoor.bookKnown
