/-
  'BookKnown' in pieces: 05, 06, 07, 08, 09.
-/
import Derived.Test.YtcamokpjkgpcmaaGreatDoorStates
namespace Go.Proofs.YtcamokpjkgpcmaaGreatDoor.st
open Go Go.Am Go.RowKit

theorem p05 : true = pieceB (roundsK cx 1000000 lp 10 (frL vs4) (asL es4 nx4)) 0 vs5 es5 nx5 := by kernel_rfl
theorem p06 : true = pieceB (roundsK cx 1000000 lp 10 (frL vs5) (asL es5 nx5)) 0 vs6 es6 nx6 := by kernel_rfl
theorem p07 : true = pieceB (roundsK cx 1000000 lp 10 (frL vs6) (asL es6 nx6)) 0 vs7 es7 nx7 := by kernel_rfl
theorem p08 : true = pieceB (roundsK cx 1000000 lp 10 (frL vs7) (asL es7 nx7)) 0 vs8 es8 nx8 := by kernel_rfl
theorem p09 : true = pieceB (roundsK cx 1000000 lp 10 (frL vs8) (asL es8 nx8)) 0 vs9 es9 nx9 := by kernel_rfl
end Go.Proofs.YtcamokpjkgpcmaaGreatDoor.st
