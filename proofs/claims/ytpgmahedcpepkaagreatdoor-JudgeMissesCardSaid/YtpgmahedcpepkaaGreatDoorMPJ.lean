/-
  'JudgeMisses': pieces of its runs.
-/
import Derived.Test.YtpgmahedcpepkaaGreatDoorPartD
namespace Go.Proofs.YtpgmahedcpepkaaGreatDoor.mis
open Go Go.Am

theorem p7_3 (len r ty : Nat) (l : List AV) (a : Int) : true = pieceB (frontK C 1000000 1 tail (F3 (outF (headR len (r + 7) l ty 7 a)) 7 a 3) (outS (headR len (r + 7) l ty 7 a))) 0 (va7 3) es7 56 := by kernel_rfl
theorem b7_3 : true = pieceB (frontK C 1000000 1 tail2 (frL (va7 3)) (asL es7 56)) 0 (vb7 3) es7 1914 := by kernel_rfl
theorem c7_3 : true = pieceB (execK C 1000000 tail3 (frL (vb7 3)) (asL es7 1914)) 1 vsE [] 3104 := by kernel_rfl
theorem p5_3 (len r ty : Nat) (l : List AV) (a : Int) : true = pieceB (frontK C 1000000 1 tail (F3 (outF (headR len (r + 5) l ty 5 a)) 5 a 3) (outS (headR len (r + 5) l ty 5 a))) 0 (va5 3) es5 44 := by kernel_rfl
theorem b5_3 : true = pieceB (frontK C 1000000 1 tail2 (frL (va5 3)) (asL es5 44)) 0 (vb5 3) es5 1428 := by kernel_rfl
theorem c5_3 : true = pieceB (execK C 1000000 tail3 (frL (vb5 3)) (asL es5 1428)) 1 vsE [] 2618 := by kernel_rfl
end Go.Proofs.YtpgmahedcpepkaaGreatDoor.mis
