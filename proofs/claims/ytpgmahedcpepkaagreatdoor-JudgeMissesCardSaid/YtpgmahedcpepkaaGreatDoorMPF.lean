/-
  'JudgeMisses': pieces of its runs.
-/
import Derived.Test.YtpgmahedcpepkaaGreatDoorPartD
namespace Go.Proofs.YtpgmahedcpepkaaGreatDoor.mis
open Go Go.Am

theorem p8_1 (len r ty : Nat) (l : List AV) (a : Int) : true = pieceB (frontK C 1000000 1 tail (F3 (outF (headR len (r + 8) l ty 8 a)) 8 a 1) (outS (headR len (r + 8) l ty 8 a))) 0 (va8 1) es8 62 := by kernel_rfl
theorem b8_1 : true = pieceB (frontK C 1000000 1 tail2 (frL (va8 1)) (asL es8 62)) 0 (vb8 1) es8 2157 := by kernel_rfl
theorem c8_1 : true = pieceB (execK C 1000000 tail3 (frL (vb8 1)) (asL es8 2157)) 1 vsE [] 2873 := by kernel_rfl
theorem p4_2 (len r ty : Nat) (l : List AV) (a : Int) : true = pieceB (frontK C 1000000 1 tail (F3 (outF (headR len (r + 4) l ty 4 a)) 4 a 2) (outS (headR len (r + 4) l ty 4 a))) 0 (va4 2) es4 38 := by kernel_rfl
theorem b4_2 : true = pieceB (frontK C 1000000 1 tail2 (frL (va4 2)) (asL es4 38)) 0 (vb4 2) es4 1185 := by kernel_rfl
theorem c4_2 : true = pieceB (execK C 1000000 tail3 (frL (vb4 2)) (asL es4 1185)) 1 vsE [] 2138 := by kernel_rfl
end Go.Proofs.YtpgmahedcpepkaaGreatDoor.mis
