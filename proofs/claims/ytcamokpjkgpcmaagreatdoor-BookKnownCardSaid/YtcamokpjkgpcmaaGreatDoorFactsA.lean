/-
  What the program's text forces in the row of 'BookKnown': inPlace, named, laidOut, lifts, make, namedTie, stops, recurses, unfollowed.
-/
import Derived.Test.YtcamokpjkgpcmaaGreatDoorRows
import Derived.JoinedOf
import GoSem.ClaimSeven
namespace Go.Proofs.YtcamokpjkgpcmaaGreatDoor.bookKnown
open Go

theorem k_inPlace : (Rows.bookKnownRow.inPlace == Tryz.checked.prog.inPlace 3) = true := by kernel_rfl
theorem k_named : (Rows.bookKnownRow.named == Tryz.checked.prog.varsNamed 3) = true := by kernel_rfl
theorem k_laidOut : laidOutB Tryz.checked.prog = true := by kernel_rfl
theorem k_lifts : (Rows.bookKnownRow.lifted == Tryz.checked.prog.liftsFinal) = true := by kernel_rfl
theorem k_make : (Tryz.checked.prog.make == some Rows.bookKnownRow.make) = true := by kernel_rfl
theorem k_namedTie : namedTie Tryz.checked.prog Rows.bookKnownRow.named Rows.bookKnownSpec.vars = true := by kernel_rfl
theorem k_stops : ((Tryz.checked.prog.stops == []) && (Tryz.checked.prog.stopKnobs == [])) = true := by kernel_rfl
theorem k_recurses : (Rows.bookKnownRow.recurses == Tryz.checked.prog.recurses 3) = true := by kernel_rfl
theorem k_unfollowed : (Rows.bookKnownRow.unfollowed == Tryz.checked.prog.unfollowed 3) = true := by kernel_rfl
end Go.Proofs.YtcamokpjkgpcmaaGreatDoor.bookKnown
