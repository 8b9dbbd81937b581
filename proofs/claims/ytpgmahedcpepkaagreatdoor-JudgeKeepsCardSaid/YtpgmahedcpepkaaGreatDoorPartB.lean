/-
  'JudgeKeeps' behind its first part: runs.
  'JudgeKeeps' behind its first part: runs.
-/
import Derived.Test.YtpgmahedcpepkaaGreatDoorRunA
namespace Go.Proofs.YtpgmahedcpepkaaGreatDoor.judgeKeeps
open Go Go.RowKit Go.Am

theorem run01 (w : Int) : okB w 1 0 = true := by kernel_rfl
theorem run02 (w : Int) : okB w 2 0 = true := by kernel_rfl
theorem run0k (w : Int) (k : Nat) : okB w (k + 3) 0 = true := by kernel_rfl
end Go.Proofs.YtpgmahedcpepkaaGreatDoor.judgeKeeps

namespace Go.Proofs.YtpgmahedcpepkaaGreatDoor.judgeKeeps
open Go Go.RowKit Go.Am

theorem run10 (w : Int) : okB w 0 1 = true := by kernel_rfl
theorem run11 (w : Int) : okB w 1 1 = true := by kernel_rfl
theorem run12 (w : Int) : okB w 2 1 = true := by kernel_rfl
theorem run13 (w : Int) : okB w 3 1 = true := by kernel_rfl
theorem run1k (w : Int) (k : Nat) : okB w (k + 4) 1 = true := by kernel_rfl
end Go.Proofs.YtpgmahedcpepkaaGreatDoor.judgeKeeps
