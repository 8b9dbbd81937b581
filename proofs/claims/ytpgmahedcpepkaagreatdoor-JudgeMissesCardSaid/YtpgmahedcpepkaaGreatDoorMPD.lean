/-
  'JudgeMisses': pieces of its runs.
-/
import Derived.Test.YtpgmahedcpepkaaGreatDoorPartD
namespace Go.Proofs.YtpgmahedcpepkaaGreatDoor.mis
open Go Go.Am

theorem p8_3 (len r ty : Nat) (l : List AV) (a : Int) : true = pieceB (frontK C 1000000 1 tail (F3 (outF (headR len (r + 8) l ty 8 a)) 8 a 3) (outS (headR len (r + 8) l ty 8 a))) 0 (va8 3) es8 62 := by kernel_rfl
theorem b8_3 : true = pieceB (frontK C 1000000 1 tail2 (frL (va8 3)) (asL es8 62)) 0 (vb8 3) es8 2157 := by kernel_rfl
theorem c8_3 : true = pieceB (execK C 1000000 tail3 (frL (vb8 3)) (asL es8 2157)) 1 vsE [] 3347 := by kernel_rfl
theorem p4_0 (len r ty : Nat) (l : List AV) (a : Int) : true = pieceB (frontK C 1000000 1 tail (F3 (outF (headR len (r + 4) l ty 4 a)) 4 a 0) (outS (headR len (r + 4) l ty 4 a))) 0 (va4 0) es4 38 := by kernel_rfl
theorem b4_0 : true = pieceB (frontK C 1000000 1 tail2 (frL (va4 0)) (asL es4 38)) 0 (vb4 0) es4 1185 := by kernel_rfl
theorem c4_0 : true = pieceB (execK C 1000000 tail3 (frL (vb4 0)) (asL es4 1185)) 1 vsE [] 1664 := by kernel_rfl
end Go.Proofs.YtpgmahedcpepkaaGreatDoor.mis
