/-
  'BookKnown' in pieces: 20, 21, X, T.
-/
import Derived.Test.YtcamokpjkgpcmaaGreatDoorStates
namespace Go.Proofs.YtcamokpjkgpcmaaGreatDoor.st
open Go Go.Am Go.RowKit

theorem p20 : true = pieceB (roundsK cx 1000000 lp 10 (frL vs19) (asL es19 nx19)) 0 vs20 es20 nx20 := by kernel_rfl
theorem p21 : true = pieceB (roundsK cx 1000000 lp 10 (frL vs20) (asL es20 nx20)) 0 vs21 es21 nx21 := by kernel_rfl
theorem pX : true = pieceB (execK cx 1000000 lp (frL vs21) (asL es21 nx21)) 2 vs21 es21 nx21 := by kernel_rfl
theorem pT : true = pieceB (execK cxA 1000000 tl (frL vs21) (asL es21 nx21)) 1 vsE [] 11667 := by kernel_rfl
end Go.Proofs.YtcamokpjkgpcmaaGreatDoor.st
