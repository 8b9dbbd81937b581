/-
  'BookKnown' in pieces: 00, 01, 02, 03, 04.
-/
import Derived.Test.YtcamokpjkgpcmaaGreatDoorStates
namespace Go.Proofs.YtcamokpjkgpcmaaGreatDoor.st
open Go Go.Am Go.RowKit

theorem p00 : true = pieceB (frontK cx 1000000 8 body (initF [] Tryz.f3.ntmps) ⟨.leaf, 0⟩) 0 vs0 es0 nx0 := by kernel_rfl
theorem p01 : true = pieceB (frontK cx 1000000 1 c1 (frL vs0) (asL es0 nx0)) 0 vs1 es1 nx1 := by kernel_rfl
theorem p02 : true = pieceB (roundsK cx 1000000 lp 10 (frL vs1) (asL es1 nx1)) 0 vs2 es2 nx2 := by kernel_rfl
theorem p03 : true = pieceB (roundsK cx 1000000 lp 10 (frL vs2) (asL es2 nx2)) 0 vs3 es3 nx3 := by kernel_rfl
theorem p04 : true = pieceB (roundsK cx 1000000 lp 10 (frL vs3) (asL es3 nx3)) 0 vs4 es4 nx4 := by kernel_rfl
end Go.Proofs.YtcamokpjkgpcmaaGreatDoor.st
