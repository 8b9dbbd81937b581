/-
  'StoreKnown' behind its first part: run whole by the abstract machine.
-/
import Derived.Test.YtgeghppdhjlbiaaGreatDoorAw
namespace Go.Proofs.YtgeghppdhjlbiaaGreatDoor.storeKnown
open Go Go.RowKit

theorem answer : true = Am.saysK Tryz.prog aw.A1 1000000 3 true := by kernel_rfl
theorem walk (W : World) : Calls Tryz.prog 3 #[] W fun e w' => e = .returned (.bool true) ∧ Below W.heap.size W w' :=
  Am.call_fast0 (laid.ready aw.A1 rfl rfl) aw.prims rfl 1000000 3 true answer W
end Go.Proofs.YtgeghppdhjlbiaaGreatDoor.storeKnown
