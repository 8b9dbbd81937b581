/-
  What the program's text forces in the row of 'ShellApart': recurses, laidOut, lifts, make, namedTie, stops, fn.
-/
import Derived.Test.YthklfandhmkpiaaGreatDoorRows
import Derived.JoinedOf
import GoSem.ClaimSeven
namespace Go.Proofs.YthklfandhmkpiaaGreatDoor.shellApart
open Go
theorem k_recurses:(Rows.shellApartUptoRow.recurses==Tryz.checked.prog.recurses 4)=true:=by kernel_rfl
theorem k_laidOut:laidOutB Tryz.checked.prog=true:=by kernel_rfl
theorem k_lifts:(Rows.shellApartUptoRow.lifted==Tryz.checked.prog.liftsFinal)=true:=by kernel_rfl
theorem k_make:(Tryz.checked.prog.make==some Rows.shellApartUptoRow.make)=true:=by kernel_rfl
theorem k_namedTie:namedTie Tryz.checked.prog Rows.shellApartUptoRow.named Rows.shellApartSpec.vars=true:=by kernel_rfl
theorem k_stops:((Tryz.checked.prog.stops==[])&&(Tryz.checked.prog.stopKnobs==[]))=true:=by kernel_rfl
theorem k_fn:Tryz.checked.prog.funcNamed Rows.shellApartUptoRow.func=some 4:=by kernel_rfl
end Go.Proofs.YthklfandhmkpiaaGreatDoor.shellApart
