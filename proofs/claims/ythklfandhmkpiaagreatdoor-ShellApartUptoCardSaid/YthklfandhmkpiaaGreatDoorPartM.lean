/-
  What the program's text forces in the row of 'ShellApart': inPlace, named, unfollowed.
-/
import Derived.Test.YthklfandhmkpiaaGreatDoorRows
import Derived.JoinedOf
import GoSem.ClaimSeven
namespace Go.Proofs.YthklfandhmkpiaaGreatDoor.shellApart
open Go
theorem k_inPlace:(Rows.shellApartUptoRow.inPlace==Tryz.checked.prog.inPlace 4)=true:=by kernel_rfl
theorem k_named:(Rows.shellApartUptoRow.named==Tryz.checked.prog.varsNamed 4)=true:=by kernel_rfl
theorem AF:(Rows.shellApartUptoRow.unfollowed==Tryz.checked.prog.unfollowed 4)=true:=by kernel_rfl
end Go.Proofs.YthklfandhmkpiaaGreatDoor.shellApart
