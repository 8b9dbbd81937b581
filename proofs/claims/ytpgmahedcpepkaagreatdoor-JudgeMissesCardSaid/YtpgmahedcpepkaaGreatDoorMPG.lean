/-
  'JudgeMisses': pieces of its runs.
-/
import Derived.Test.YtpgmahedcpepkaaGreatDoorPartD
namespace Go.Proofs.YtpgmahedcpepkaaGreatDoor.mis
open Go Go.Am

theorem p8_0 (len r ty : Nat) (l : List AV) (a : Int) : true = pieceB (frontK C 1000000 1 tail (F3 (outF (headR len (r + 8) l ty 8 a)) 8 a 0) (outS (headR len (r + 8) l ty 8 a))) 0 (va8 0) es8 62 := by kernel_rfl
theorem b8_0 : true = pieceB (frontK C 1000000 1 tail2 (frL (va8 0)) (asL es8 62)) 0 (vb8 0) es8 2157 := by kernel_rfl
theorem c8_0 : true = pieceB (execK C 1000000 tail3 (frL (vb8 0)) (asL es8 2157)) 1 vsE [] 2636 := by kernel_rfl
theorem p5_0 (len r ty : Nat) (l : List AV) (a : Int) : true = pieceB (frontK C 1000000 1 tail (F3 (outF (headR len (r + 5) l ty 5 a)) 5 a 0) (outS (headR len (r + 5) l ty 5 a))) 0 (va5 0) es5 44 := by kernel_rfl
theorem b5_0 : true = pieceB (frontK C 1000000 1 tail2 (frL (va5 0)) (asL es5 44)) 0 (vb5 0) es5 1428 := by kernel_rfl
theorem c5_0 : true = pieceB (execK C 1000000 tail3 (frL (vb5 0)) (asL es5 1428)) 1 vsE [] 1907 := by kernel_rfl
end Go.Proofs.YtpgmahedcpepkaaGreatDoor.mis
