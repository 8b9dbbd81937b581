/-
  'JudgeKeeps' behind its first part: runs.
-/
import Derived.Test.YtpgmahedcpepkaaGreatDoorRunA
namespace Go.Proofs.YtpgmahedcpepkaaGreatDoor.judgeKeeps
open Go Go.RowKit Go.Am

theorem run30 (w : Int) : okB w 0 3 = true := by kernel_rfl
theorem run31 (w : Int) : okB w 1 3 = true := by kernel_rfl
theorem run32 (w : Int) : okB w 2 3 = true := by kernel_rfl
theorem run33 (w : Int) : okB w 3 3 = true := by kernel_rfl
theorem run34 (w : Int) : okB w 4 3 = true := by kernel_rfl
theorem run35 (w : Int) : okB w 5 3 = true := by kernel_rfl
theorem run3k (w : Int) (k : Nat) : okB w (k + 6) 3 = true := by kernel_rfl
end Go.Proofs.YtpgmahedcpepkaaGreatDoor.judgeKeeps
