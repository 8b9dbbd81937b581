/-
  'JudgeMisses': pieces of its runs.
-/
import Derived.Test.YtpgmahedcpepkaaGreatDoorPartD
namespace Go.Proofs.YtpgmahedcpepkaaGreatDoor.mis
open Go Go.Am

theorem p6_3 (len r ty : Nat) (l : List AV) (a : Int) : true = pieceB (frontK C 1000000 1 tail (F3 (outF (headR len (r + 6) l ty 6 a)) 6 a 3) (outS (headR len (r + 6) l ty 6 a))) 0 (va6 3) es6 50 := by kernel_rfl
theorem b6_3 : true = pieceB (frontK C 1000000 1 tail2 (frL (va6 3)) (asL es6 50)) 0 (vb6 3) es6 1671 := by kernel_rfl
theorem c6_3 : true = pieceB (execK C 1000000 tail3 (frL (vb6 3)) (asL es6 1671)) 1 vsE [] 2861 := by kernel_rfl
theorem p6_4 (len r ty : Nat) (l : List AV) (a : Int) : true = pieceB (frontK C 1000000 1 tail (F3 (outF (headR len (r + 6) l ty 6 a)) 6 a 4) (outS (headR len (r + 6) l ty 6 a))) 0 (va6 4) es6 50 := by kernel_rfl
theorem b6_4 : true = pieceB (frontK C 1000000 1 tail2 (frL (va6 4)) (asL es6 50)) 0 (vb6 4) es6 1671 := by kernel_rfl
theorem c6_4 : true = pieceB (execK C 1000000 tail3 (frL (vb6 4)) (asL es6 1671)) 1 vsE [] 3098 := by kernel_rfl
end Go.Proofs.YtpgmahedcpepkaaGreatDoor.mis
