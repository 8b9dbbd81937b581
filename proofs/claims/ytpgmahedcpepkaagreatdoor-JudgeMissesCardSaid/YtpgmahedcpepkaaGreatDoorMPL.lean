/-
  'JudgeMisses': pieces of its runs.
-/
import Derived.Test.YtpgmahedcpepkaaGreatDoorPartD
namespace Go.Proofs.YtpgmahedcpepkaaGreatDoor.mis
open Go Go.Am

theorem p7_1 (len r ty : Nat) (l : List AV) (a : Int) : true = pieceB (frontK C 1000000 1 tail (F3 (outF (headR len (r + 7) l ty 7 a)) 7 a 1) (outS (headR len (r + 7) l ty 7 a))) 0 (va7 1) es7 56 := by kernel_rfl
theorem b7_1 : true = pieceB (frontK C 1000000 1 tail2 (frL (va7 1)) (asL es7 56)) 0 (vb7 1) es7 1914 := by kernel_rfl
theorem c7_1 : true = pieceB (execK C 1000000 tail3 (frL (vb7 1)) (asL es7 1914)) 1 vsE [] 2630 := by kernel_rfl
theorem p6_1 (len r ty : Nat) (l : List AV) (a : Int) : true = pieceB (frontK C 1000000 1 tail (F3 (outF (headR len (r + 6) l ty 6 a)) 6 a 1) (outS (headR len (r + 6) l ty 6 a))) 0 (va6 1) es6 50 := by kernel_rfl
theorem b6_1 : true = pieceB (frontK C 1000000 1 tail2 (frL (va6 1)) (asL es6 50)) 0 (vb6 1) es6 1671 := by kernel_rfl
theorem c6_1 : true = pieceB (execK C 1000000 tail3 (frL (vb6 1)) (asL es6 1671)) 1 vsE [] 2387 := by kernel_rfl
end Go.Proofs.YtpgmahedcpepkaaGreatDoor.mis
