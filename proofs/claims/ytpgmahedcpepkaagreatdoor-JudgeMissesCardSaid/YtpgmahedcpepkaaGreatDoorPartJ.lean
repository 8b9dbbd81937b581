/-
  What the program's text forces in the row of 'JudgeMisses': laidOut, lifts, make, namedTie, stops.
  What the program's text forces in the row of 'JudgeMisses': recurses.
  What the program's text forces in the row of 'JudgeMisses': unfollowed.
-/
import Derived.Test.YtpgmahedcpepkaaGreatDoorRows
import Derived.JoinedOf
import GoSem.ClaimSeven
namespace Go.Proofs.YtpgmahedcpepkaaGreatDoor.judgeMisses
open Go

theorem k_laidOut : laidOutB Tryz.checked.prog = true := by kernel_rfl
theorem k_lifts : (Rows.judgeMissesRow.lifted == Tryz.checked.prog.liftsFinal) = true := by kernel_rfl
theorem k_make : (Tryz.checked.prog.make == some Rows.judgeMissesRow.make) = true := by kernel_rfl
theorem k_namedTie : namedTie Tryz.checked.prog Rows.judgeMissesRow.named Rows.judgeMissesSpec.vars = true := by kernel_rfl
theorem k_stops : ((Tryz.checked.prog.stops == []) && (Tryz.checked.prog.stopKnobs == [])) = true := by kernel_rfl
end Go.Proofs.YtpgmahedcpepkaaGreatDoor.judgeMisses

namespace Go.Proofs.YtpgmahedcpepkaaGreatDoor.judgeMisses
open Go

theorem k_recurses : (Rows.judgeMissesRow.recurses == Tryz.checked.prog.recurses 3) = true := by kernel_rfl
end Go.Proofs.YtpgmahedcpepkaaGreatDoor.judgeMisses

namespace Go.Proofs.YtpgmahedcpepkaaGreatDoor.judgeMisses
open Go

theorem k_unfollowed : (Rows.judgeMissesRow.unfollowed == Tryz.checked.prog.unfollowed 3) = true := by kernel_rfl
end Go.Proofs.YtpgmahedcpepkaaGreatDoor.judgeMisses
