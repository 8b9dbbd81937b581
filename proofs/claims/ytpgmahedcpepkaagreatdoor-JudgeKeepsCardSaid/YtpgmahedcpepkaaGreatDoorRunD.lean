/-
  'JudgeKeeps' behind its first part: runs.
-/
import Derived.Test.YtpgmahedcpepkaaGreatDoorRunA
namespace Go.Proofs.YtpgmahedcpepkaaGreatDoor.judgeKeeps
open Go Go.RowKit Go.Am

theorem run20 (w : Int) : okB w 0 2 = true := by kernel_rfl
theorem run21 (w : Int) : okB w 1 2 = true := by kernel_rfl
theorem run22 (w : Int) : okB w 2 2 = true := by kernel_rfl
theorem run23 (w : Int) : okB w 3 2 = true := by kernel_rfl
theorem run24 (w : Int) : okB w 4 2 = true := by kernel_rfl
theorem run2k (w : Int) (k : Nat) : okB w (k + 5) 2 = true := by kernel_rfl
end Go.Proofs.YtpgmahedcpepkaaGreatDoor.judgeKeeps
