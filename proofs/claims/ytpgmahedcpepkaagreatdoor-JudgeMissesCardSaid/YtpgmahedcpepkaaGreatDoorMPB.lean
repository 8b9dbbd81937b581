/-
  'JudgeMisses': pieces of its runs.
-/
import Derived.Test.YtpgmahedcpepkaaGreatDoorPartD
namespace Go.Proofs.YtpgmahedcpepkaaGreatDoor.mis
open Go Go.Am

theorem p8_5 (len r ty : Nat) (l : List AV) (a : Int) : true = pieceB (frontK C 1000000 1 tail (F3 (outF (headR len (r + 8) l ty 8 a)) 8 a 5) (outS (headR len (r + 8) l ty 8 a))) 0 (va8 5) es8 62 := by kernel_rfl
theorem b8_5 : true = pieceB (frontK C 1000000 1 tail2 (frL (va8 5)) (asL es8 62)) 0 (vb8 5) es8 2157 := by kernel_rfl
theorem c8_5 : true = pieceB (execK C 1000000 tail3 (frL (vb8 5)) (asL es8 2157)) 1 vsE [] 3821 := by kernel_rfl
theorem p3_0 (len r ty : Nat) (l : List AV) (a : Int) : true = pieceB (frontK C 1000000 1 tail (F3 (outF (headR len (r + 3) l ty 3 a)) 3 a 0) (outS (headR len (r + 3) l ty 3 a))) 0 (va3 0) es3 32 := by kernel_rfl
theorem b3_0 : true = pieceB (frontK C 1000000 1 tail2 (frL (va3 0)) (asL es3 32)) 0 (vb3 0) es3 942 := by kernel_rfl
theorem c3_0 : true = pieceB (execK C 1000000 tail3 (frL (vb3 0)) (asL es3 942)) 1 vsE [] 1421 := by kernel_rfl
end Go.Proofs.YtpgmahedcpepkaaGreatDoor.mis
