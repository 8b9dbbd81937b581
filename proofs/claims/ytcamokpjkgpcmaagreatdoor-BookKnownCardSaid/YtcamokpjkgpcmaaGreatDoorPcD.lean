/-
  'BookKnown' in pieces: 15, 16, 17, 18, 19.
-/
import Derived.Test.YtcamokpjkgpcmaaGreatDoorStates
namespace Go.Proofs.YtcamokpjkgpcmaaGreatDoor.st
open Go Go.Am Go.RowKit

theorem p15 : true = pieceB (roundsK cx 1000000 lp 10 (frL vs14) (asL es14 nx14)) 0 vs15 es15 nx15 := by kernel_rfl
theorem p16 : true = pieceB (roundsK cx 1000000 lp 10 (frL vs15) (asL es15 nx15)) 0 vs16 es16 nx16 := by kernel_rfl
theorem p17 : true = pieceB (roundsK cx 1000000 lp 10 (frL vs16) (asL es16 nx16)) 0 vs17 es17 nx17 := by kernel_rfl
theorem p18 : true = pieceB (roundsK cx 1000000 lp 10 (frL vs17) (asL es17 nx17)) 0 vs18 es18 nx18 := by kernel_rfl
theorem p19 : true = pieceB (roundsK cx 1000000 lp 10 (frL vs18) (asL es18 nx18)) 0 vs19 es19 nx19 := by kernel_rfl
end Go.Proofs.YtcamokpjkgpcmaaGreatDoor.st
