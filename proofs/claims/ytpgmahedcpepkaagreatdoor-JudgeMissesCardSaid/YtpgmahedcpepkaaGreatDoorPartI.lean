/-
  What the program's text forces in the row of 'JudgeMisses': inPlace.
  What the program's text forces in the row of 'JudgeMisses': named.
-/
import Derived.Test.YtpgmahedcpepkaaGreatDoorRows
import Derived.JoinedOf
import GoSem.ClaimSeven
namespace Go.Proofs.YtpgmahedcpepkaaGreatDoor.judgeMisses
open Go

theorem k_inPlace : (Rows.judgeMissesRow.inPlace == Tryz.checked.prog.inPlace 3) = true := by kernel_rfl
end Go.Proofs.YtpgmahedcpepkaaGreatDoor.judgeMisses

namespace Go.Proofs.YtpgmahedcpepkaaGreatDoor.judgeMisses
open Go

theorem k_named : (Rows.judgeMissesRow.named == Tryz.checked.prog.varsNamed 3) = true := by kernel_rfl
end Go.Proofs.YtpgmahedcpepkaaGreatDoor.judgeMisses
