/-
  'JudgeMisses': pieces of its runs.
-/
import Derived.Test.YtpgmahedcpepkaaGreatDoorPartD
namespace Go.Proofs.YtpgmahedcpepkaaGreatDoor.mis
open Go Go.Am

theorem p7_4 (len r ty : Nat) (l : List AV) (a : Int) : true = pieceB (frontK C 1000000 1 tail (F3 (outF (headR len (r + 7) l ty 7 a)) 7 a 4) (outS (headR len (r + 7) l ty 7 a))) 0 (va7 4) es7 56 := by kernel_rfl
theorem b7_4 : true = pieceB (frontK C 1000000 1 tail2 (frL (va7 4)) (asL es7 56)) 0 (vb7 4) es7 1914 := by kernel_rfl
theorem c7_4 : true = pieceB (execK C 1000000 tail3 (frL (vb7 4)) (asL es7 1914)) 1 vsE [] 3341 := by kernel_rfl
theorem p5_2 (len r ty : Nat) (l : List AV) (a : Int) : true = pieceB (frontK C 1000000 1 tail (F3 (outF (headR len (r + 5) l ty 5 a)) 5 a 2) (outS (headR len (r + 5) l ty 5 a))) 0 (va5 2) es5 44 := by kernel_rfl
theorem b5_2 : true = pieceB (frontK C 1000000 1 tail2 (frL (va5 2)) (asL es5 44)) 0 (vb5 2) es5 1428 := by kernel_rfl
theorem c5_2 : true = pieceB (execK C 1000000 tail3 (frL (vb5 2)) (asL es5 1428)) 1 vsE [] 2381 := by kernel_rfl
end Go.Proofs.YtpgmahedcpepkaaGreatDoor.mis
