/-
  What the abstract machine asks of the program; a world in which the listed package-level variables hold what the program's text lays.
-/
import Derived.Test.YtgeghppdhjlbiaaGreatDoorRows
import Derived.Test.YtgeghppdhjlbiaaGreatDoorAmBool
import Derived.ChangeSame
import Derived.ChangeVars
import Derived.JoinedOf
import Derived.RowKit
import Derived.LaidLaws
import Derived.Lib.LaidTab
import Derived.WalkKit
import Derived.ProofKit
import Derived.OpenShut
namespace Go.Proofs.YtgeghppdhjlbiaaGreatDoor.laid
open Go Go.Am Go.ChangeShapes Go.WideShapes Go.ChangeAt Go.RowKit

noncomputable abbrev P : Program := Tryz.prog
noncomputable abbrev L : List (String × DataW Unit) := Rows.storeKnownRow.laid

noncomputable def A0 : Am.Ask := {
  eqs := [68, 35],
  exts := [(303, .cmpstr), (319, .idxByte)],
  pures := [107] }

theorem own : ownKnob P.godebug = none := by kernel_rfl
theorem names : P.funcs.toList.all (fun fn => !(fn.name == "runtime.NumGoroutine")) = true := by kernel_rfl
theorem stood68 : P.stoodInHeld 68 = false ∧ P.eqGuardType P.depth 68 = false := ⟨by kernel_rfl, by kernel_rfl⟩
theorem fields68 : (P.fieldsOf 68).toList.all (fun f => !(f.name == "_")) = true := by kernel_rfl
theorem stood35 : P.stoodInHeld 35 = false ∧ P.eqGuardType P.depth 35 = false := ⟨by kernel_rfl, by kernel_rfl⟩
theorem fields35 : (P.fieldsOf 35).toList.all (fun f => !(f.name == "_")) = true := by kernel_rfl
theorem ext303 (a b : ByteArray) (w : World) : (callFunc 303 #[.string a, .string b]).run P w = .ok (.value (.int .i64 (Lib.compareBytes a.data.toList b.data.toList))) w := by
  have h : (callFunc 303 #[.string a, .string b]).run P w = ((do pure (.value (← Extern.BytealgCompare.compare #[.string a, .string b])) : Sem Next)).run P w := by kernel_rfl
  rw [h]
  simp only [Sem.run_bind, Lib.run_compareString, Result.andThen_ok, Sem.run_pure]
theorem run319 (a : ByteArray) (c : Int) (w : World) : (callFunc 319 #[.string a, .int .u8 c]).run P w = ((Extern.BytealgIndexByte.indexByte #[.string a, .int .u8 c]).run P w).andThen fun v w' => .ok (.value v) w' := by
  have h : (callFunc 319 #[.string a, .int .u8 c]).run P w = ((do pure (.value (← Extern.BytealgIndexByte.indexByte #[.string a, .int .u8 c])) : Sem Next)).run P w := by kernel_rfl
  rw [h]
  simp only [Sem.run_bind, Sem.run_pure]
theorem ext319 (a : ByteArray) (c : Nat) (w : World) (hc : c < 256) : (callFunc 319 #[.string a, .int .u8 c]).run P w = .ok (.value (match Am.idxB c (a.data.toList.map UInt8.toNat) 0 with | some n => .int .i64 n | none => .int .i64 (-1))) w := by
  have k := Am.firstIdx_idxB a c hc
  rw [run319, run_indexByte_string]
  cases h : Am.idxB c (a.data.toList.map UInt8.toNat) 0 with
  | none => rw [h] at k; rw [k]; rfl
  | some n => rw [h] at k; rw [k]; rfl
theorem ready (A : Am.Ask) (h1 : A.eqs = A0.eqs) (h2 : A.exts = A0.exts) : Am.Ready P A := by
  refine ⟨by kernel_rfl, fun t h => ?_, Am.enters_ok names, fun x h => ?_⟩
  · rw [h1] at h
    simp only [A0, List.mem_cons, List.not_mem_nil, or_false] at h
    rcases h with rfl | rfl
    · refine ⟨stood68.1, stood68.2, fun f hf => ?_⟩
      have := List.all_eq_true.1 fields68 f hf
      simpa using this
    · refine ⟨stood35.1, stood35.2, fun f hf => ?_⟩
      have := List.all_eq_true.1 fields35 f hf
      simpa using this
  · rw [h2] at h
    simp only [A0, List.mem_cons, List.not_mem_nil, or_false] at h
    rcases h with rfl | rfl
    · intro a b w
      rw [← cmp_bytes]
      exact ext303 a b w
    · exact ext319

/-! ### A world that meets the condition -/
def rangesZ : List Nat := [128, 191, 160, 191, 128, 159, 144, 191, 128, 143, 0, 0, 0, 0, 0, 0, 0, 0, 0, 0, 0, 0, 0, 0, 0, 0, 0, 0, 0, 0, 0, 0]
noncomputable def laidWorld (os : Os) : World :=
  let w0 := World.holding P os ⟨#[], #[], []⟩
  { w0 with heap := ((w0.heap.modify 1 fun
      | .cells _ t frozen => .cells (Go.Pinned.utf8FirstZ.map fun (n : Nat) => Value.int .u8 (n : Int)).toArray t frozen
      | o => o).modify 2 fun
      | .cells _ t frozen => .cells (rangesZ.map fun (n : Nat) => Value.int .u8 (n : Int)).toArray t frozen
      | o => o) }
theorem laidWorld_met (os : Os) (args : Array Value) : laidMet P L ((laidWorld os).forCall (fun _ _ => 0) ⟨#[], args, []⟩).memory :=
  laidMet_of_run' 8 (by kernel_rfl) (by kernel_rfl)
end Go.Proofs.YtgeghppdhjlbiaaGreatDoor.laid
