/-
  What the program's text forces in the row of 'StoreKnown': mapsRowed, mayEnter, plainKeys, stopsHeard, looks, mainIs, wf, fn, go.
-/
import Derived.Test.YtgeghppdhjlbiaaGreatDoorRows
import Derived.JoinedOf
import GoSem.ClaimSeven
namespace Go.Proofs.YtgeghppdhjlbiaaGreatDoor.storeKnown
open Go

theorem k_mapsRowed : mapsRowed Tryz.checked.prog = true := by kernel_rfl
theorem k_mayEnter : Tryz.checked.prog.mayEnter = true := by kernel_rfl
theorem k_plainKeys : (Rows.storeKnownRow.plainKeys == Tryz.checked.prog.plainKeys) = true := by kernel_rfl
theorem k_stopsHeard : Tryz.checked.prog.stopsHeard = true := by kernel_rfl
theorem k_looks : true = Tryz.checked.prog.looks [] := by kernel_rfl
theorem k_mainIs : Tryz.checked.prog.mainIs = some (true, "3497c2ecc44a21bd86336784b698a8d1a9ba96c083566aac2a47c879ff9535f0".toList) := by kernel_rfl
theorem k_wf : Rows.storeKnownRow.wfByText (OpenSpec.ofChange Rows.storeKnownSpec) = true := by kernel_rfl
theorem k_fn : Tryz.checked.prog.funcNamed Rows.storeKnownRow.func = some 3 := by kernel_rfl
theorem k_go : Tryz.checked.prog.funcs.any Func.goes = false := by kernel_rfl
end Go.Proofs.YtgeghppdhjlbiaaGreatDoor.storeKnown
