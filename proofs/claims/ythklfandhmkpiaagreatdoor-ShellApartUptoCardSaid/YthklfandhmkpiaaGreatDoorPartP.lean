/-
  What the program's text forces in the row of 'ShellApart': plainKeys, stopsHeard, mayEnter, mapsRowed.
-/
import Derived.Test.YthklfandhmkpiaaGreatDoorRows
import Derived.JoinedOf
import GoSem.ClaimSeven
namespace Go.Proofs.YthklfandhmkpiaaGreatDoor.shellApart
open Go
theorem Dd:(Rows.shellApartUptoRow.plainKeys==Tryz.checked.prog.plainKeys)=true:=by kernel_rfl
theorem AH:Tryz.checked.prog.stopsHeard=true:=by kernel_rfl
theorem k_mayEnter:Tryz.checked.prog.mayEnter=true:=by kernel_rfl
theorem De:mapsRowed Tryz.checked.prog=true:=by kernel_rfl
end Go.Proofs.YthklfandhmkpiaaGreatDoor.shellApart
