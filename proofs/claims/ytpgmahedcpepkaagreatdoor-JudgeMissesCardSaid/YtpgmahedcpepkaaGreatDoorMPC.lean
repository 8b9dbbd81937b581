/-
  'JudgeMisses': pieces of its runs.
-/
import Derived.Test.YtpgmahedcpepkaaGreatDoorPartD
namespace Go.Proofs.YtpgmahedcpepkaaGreatDoor.mis
open Go Go.Am

theorem p8_4 (len r ty : Nat) (l : List AV) (a : Int) : true = pieceB (frontK C 1000000 1 tail (F3 (outF (headR len (r + 8) l ty 8 a)) 8 a 4) (outS (headR len (r + 8) l ty 8 a))) 0 (va8 4) es8 62 := by kernel_rfl
theorem b8_4 : true = pieceB (frontK C 1000000 1 tail2 (frL (va8 4)) (asL es8 62)) 0 (vb8 4) es8 2157 := by kernel_rfl
theorem c8_4 : true = pieceB (execK C 1000000 tail3 (frL (vb8 4)) (asL es8 2157)) 1 vsE [] 3584 := by kernel_rfl
theorem p3_1 (len r ty : Nat) (l : List AV) (a : Int) : true = pieceB (frontK C 1000000 1 tail (F3 (outF (headR len (r + 3) l ty 3 a)) 3 a 1) (outS (headR len (r + 3) l ty 3 a))) 0 (va3 1) es3 32 := by kernel_rfl
theorem b3_1 : true = pieceB (frontK C 1000000 1 tail2 (frL (va3 1)) (asL es3 32)) 0 (vb3 1) es3 942 := by kernel_rfl
theorem c3_1 : true = pieceB (execK C 1000000 tail3 (frL (vb3 1)) (asL es3 942)) 1 vsE [] 1658 := by kernel_rfl
end Go.Proofs.YtpgmahedcpepkaaGreatDoor.mis
