/-
  What the program's text forces in the row of 'StoreKnown': inPlace, named, laidOut, lifts, make, namedTie, stops, recurses, unfollowed.
-/
import Derived.Test.YtgeghppdhjlbiaaGreatDoorRows
import Derived.JoinedOf
import GoSem.ClaimSeven
namespace Go.Proofs.YtgeghppdhjlbiaaGreatDoor.storeKnown
open Go

theorem k_inPlace : (Rows.storeKnownRow.inPlace == Tryz.checked.prog.inPlace 3) = true := by kernel_rfl
theorem k_named : (Rows.storeKnownRow.named == Tryz.checked.prog.varsNamed 3) = true := by kernel_rfl
theorem k_laidOut : laidOutB Tryz.checked.prog = true := by kernel_rfl
theorem k_lifts : (Rows.storeKnownRow.lifted == Tryz.checked.prog.liftsFinal) = true := by kernel_rfl
theorem k_make : (Tryz.checked.prog.make == some Rows.storeKnownRow.make) = true := by kernel_rfl
theorem k_namedTie : namedTie Tryz.checked.prog Rows.storeKnownRow.named Rows.storeKnownSpec.vars = true := by kernel_rfl
theorem k_stops : ((Tryz.checked.prog.stops == []) && (Tryz.checked.prog.stopKnobs == [])) = true := by kernel_rfl
theorem k_recurses : (Rows.storeKnownRow.recurses == Tryz.checked.prog.recurses 3) = true := by kernel_rfl
theorem k_unfollowed : (Rows.storeKnownRow.unfollowed == Tryz.checked.prog.unfollowed 3) = true := by kernel_rfl
end Go.Proofs.YtgeghppdhjlbiaaGreatDoor.storeKnown
