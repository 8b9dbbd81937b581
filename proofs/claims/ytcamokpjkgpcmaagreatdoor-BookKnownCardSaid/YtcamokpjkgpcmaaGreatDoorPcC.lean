/-
  'BookKnown' in pieces: 10, 11, 12, 13, 14.
-/
import Derived.Test.YtcamokpjkgpcmaaGreatDoorStates
namespace Go.Proofs.YtcamokpjkgpcmaaGreatDoor.st
open Go Go.Am Go.RowKit

theorem p10 : true = pieceB (roundsK cx 1000000 lp 10 (frL vs9) (asL es9 nx9)) 0 vs10 es10 nx10 := by kernel_rfl
theorem p11 : true = pieceB (roundsK cx 1000000 lp 10 (frL vs10) (asL es10 nx10)) 0 vs11 es11 nx11 := by kernel_rfl
theorem p12 : true = pieceB (roundsK cx 1000000 lp 10 (frL vs11) (asL es11 nx11)) 0 vs12 es12 nx12 := by kernel_rfl
theorem p13 : true = pieceB (roundsK cx 1000000 lp 10 (frL vs12) (asL es12 nx12)) 0 vs13 es13 nx13 := by kernel_rfl
theorem p14 : true = pieceB (roundsK cx 1000000 lp 10 (frL vs13) (asL es13 nx13)) 0 vs14 es14 nx14 := by kernel_rfl
end Go.Proofs.YtcamokpjkgpcmaaGreatDoor.st
