/-
  'JudgeMisses': pieces of its runs.
-/
import Derived.Test.YtpgmahedcpepkaaGreatDoorPartD
namespace Go.Proofs.YtpgmahedcpepkaaGreatDoor.mis
open Go Go.Am

theorem p8_6 (len r ty : Nat) (l : List AV) (a : Int) : true = pieceB (frontK C 1000000 1 tail (F3 (outF (headR len (r + 8) l ty 8 a)) 8 a 6) (outS (headR len (r + 8) l ty 8 a))) 0 (va8 6) es8 62 := by kernel_rfl
theorem b8_6 : true = pieceB (frontK C 1000000 1 tail2 (frL (va8 6)) (asL es8 62)) 0 (vb8 6) es8 2157 := by kernel_rfl
theorem c8_6 : true = pieceB (execK C 1000000 tail3 (frL (vb8 6)) (asL es8 2157)) 1 vsE [] 4058 := by kernel_rfl
theorem p2_0 (len r ty : Nat) (l : List AV) (a : Int) : true = pieceB (frontK C 1000000 1 tail (F3 (outF (headR len (r + 2) l ty 2 a)) 2 a 0) (outS (headR len (r + 2) l ty 2 a))) 0 (va2 0) es2 26 := by kernel_rfl
theorem b2_0 : true = pieceB (frontK C 1000000 1 tail2 (frL (va2 0)) (asL es2 26)) 0 (vb2 0) es2 699 := by kernel_rfl
theorem c2_0 : true = pieceB (execK C 1000000 tail3 (frL (vb2 0)) (asL es2 699)) 1 vsE [] 1178 := by kernel_rfl
end Go.Proofs.YtpgmahedcpepkaaGreatDoor.mis
