/-
  What the abstract machine asks of the program; a world in which the listed package-level variables hold what the program's text lays.
-/
import Derived.Test.YthpkcekmbhafnaaGreatDoorRows
import Derived.Test.YthpkcekmbhafnaaGreatDoorAmBool
import Derived.Test.YthpkcekmbhafnaaGreatDoorAmExt
import Derived.ChangeSame
import Derived.ChangeVars
import Derived.JoinedOf
import Derived.RowKit
import Derived.LaidLaws
import Derived.Lib.LaidTab
import Derived.WalkKit
import Derived.ProofKit
import Derived.OpenShut
namespace Go.Proofs.YthpkcekmbhafnaaGreatDoor.laid
open Go Go.Am Go.ChangeShapes Go.WideShapes Go.ChangeAt Go.RowKit

noncomputable abbrev P : Program := Tryz.prog
noncomputable abbrev L : List (String × DataW Unit) := Rows.seglogKnownRow.laid

noncomputable def A0 : Am.Ask := {
  eqs := [172, 171, 159, 158, 77, 76, 68, 67, 60, 59, 57, 56, 51, 50, 8, 7],
  exts := [(159, .idxByte)],
  pures := [38] }

theorem own : ownKnob P.godebug = none := by kernel_rfl
theorem names : P.funcs.toList.all (fun fn => !(fn.name == "runtime.NumGoroutine")) = true := by kernel_rfl
theorem stood172 : P.stoodInHeld 172 = false ∧ P.eqGuardType P.depth 172 = false := ⟨by kernel_rfl, by kernel_rfl⟩
theorem fields172 : (P.fieldsOf 172).toList.all (fun f => !(f.name == "_")) = true := by kernel_rfl
theorem stood171 : P.stoodInHeld 171 = false ∧ P.eqGuardType P.depth 171 = false := ⟨by kernel_rfl, by kernel_rfl⟩
theorem fields171 : (P.fieldsOf 171).toList.all (fun f => !(f.name == "_")) = true := by kernel_rfl
theorem stood159 : P.stoodInHeld 159 = false ∧ P.eqGuardType P.depth 159 = false := ⟨by kernel_rfl, by kernel_rfl⟩
theorem fields159 : (P.fieldsOf 159).toList.all (fun f => !(f.name == "_")) = true := by kernel_rfl
theorem stood158 : P.stoodInHeld 158 = false ∧ P.eqGuardType P.depth 158 = false := ⟨by kernel_rfl, by kernel_rfl⟩
theorem fields158 : (P.fieldsOf 158).toList.all (fun f => !(f.name == "_")) = true := by kernel_rfl
theorem stood77 : P.stoodInHeld 77 = false ∧ P.eqGuardType P.depth 77 = false := ⟨by kernel_rfl, by kernel_rfl⟩
theorem fields77 : (P.fieldsOf 77).toList.all (fun f => !(f.name == "_")) = true := by kernel_rfl
theorem stood76 : P.stoodInHeld 76 = false ∧ P.eqGuardType P.depth 76 = false := ⟨by kernel_rfl, by kernel_rfl⟩
theorem fields76 : (P.fieldsOf 76).toList.all (fun f => !(f.name == "_")) = true := by kernel_rfl
theorem stood68 : P.stoodInHeld 68 = false ∧ P.eqGuardType P.depth 68 = false := ⟨by kernel_rfl, by kernel_rfl⟩
theorem fields68 : (P.fieldsOf 68).toList.all (fun f => !(f.name == "_")) = true := by kernel_rfl
theorem stood67 : P.stoodInHeld 67 = false ∧ P.eqGuardType P.depth 67 = false := ⟨by kernel_rfl, by kernel_rfl⟩
theorem fields67 : (P.fieldsOf 67).toList.all (fun f => !(f.name == "_")) = true := by kernel_rfl
theorem stood60 : P.stoodInHeld 60 = false ∧ P.eqGuardType P.depth 60 = false := ⟨by kernel_rfl, by kernel_rfl⟩
theorem fields60 : (P.fieldsOf 60).toList.all (fun f => !(f.name == "_")) = true := by kernel_rfl
theorem stood59 : P.stoodInHeld 59 = false ∧ P.eqGuardType P.depth 59 = false := ⟨by kernel_rfl, by kernel_rfl⟩
theorem fields59 : (P.fieldsOf 59).toList.all (fun f => !(f.name == "_")) = true := by kernel_rfl
theorem stood57 : P.stoodInHeld 57 = false ∧ P.eqGuardType P.depth 57 = false := ⟨by kernel_rfl, by kernel_rfl⟩
theorem fields57 : (P.fieldsOf 57).toList.all (fun f => !(f.name == "_")) = true := by kernel_rfl
theorem stood56 : P.stoodInHeld 56 = false ∧ P.eqGuardType P.depth 56 = false := ⟨by kernel_rfl, by kernel_rfl⟩
theorem fields56 : (P.fieldsOf 56).toList.all (fun f => !(f.name == "_")) = true := by kernel_rfl
theorem stood51 : P.stoodInHeld 51 = false ∧ P.eqGuardType P.depth 51 = false := ⟨by kernel_rfl, by kernel_rfl⟩
theorem fields51 : (P.fieldsOf 51).toList.all (fun f => !(f.name == "_")) = true := by kernel_rfl
theorem stood50 : P.stoodInHeld 50 = false ∧ P.eqGuardType P.depth 50 = false := ⟨by kernel_rfl, by kernel_rfl⟩
theorem fields50 : (P.fieldsOf 50).toList.all (fun f => !(f.name == "_")) = true := by kernel_rfl
theorem stood8 : P.stoodInHeld 8 = false ∧ P.eqGuardType P.depth 8 = false := ⟨by kernel_rfl, by kernel_rfl⟩
theorem fields8 : (P.fieldsOf 8).toList.all (fun f => !(f.name == "_")) = true := by kernel_rfl
theorem stood7 : P.stoodInHeld 7 = false ∧ P.eqGuardType P.depth 7 = false := ⟨by kernel_rfl, by kernel_rfl⟩
theorem fields7 : (P.fieldsOf 7).toList.all (fun f => !(f.name == "_")) = true := by kernel_rfl
theorem run159 (a : ByteArray) (c : Int) (w : World) : (callFunc 159 #[.string a, .int .u8 c]).run P w = ((Extern.BytealgIndexByte.indexByte #[.string a, .int .u8 c]).run P w).andThen fun v w' => .ok (.value v) w' := by
  have h : (callFunc 159 #[.string a, .int .u8 c]).run P w = ((do pure (.value (← Extern.BytealgIndexByte.indexByte #[.string a, .int .u8 c])) : Sem Next)).run P w := by kernel_rfl
  rw [h]
  simp only [Sem.run_bind, Sem.run_pure]
theorem ext159 (a : ByteArray) (c : Nat) (w : World) (hc : c < 256) : (callFunc 159 #[.string a, .int .u8 c]).run P w = .ok (.value (match Am.idxB c (a.data.toList.map UInt8.toNat) 0 with | some n => .int .i64 n | none => .int .i64 (-1))) w := by
  have k := Am.firstIdx_idxB a c hc
  rw [run159, run_indexByte_string]
  cases h : Am.idxB c (a.data.toList.map UInt8.toNat) 0 with
  | none => rw [h] at k; rw [k]; rfl
  | some n => rw [h] at k; rw [k]; rfl
theorem ready (A : Am.Ask) (h1 : A.eqs = A0.eqs) (h2 : A.exts = A0.exts) : Am.Ready P A := by
  refine ⟨by kernel_rfl, fun t h => ?_, Am.enters_ok names, fun x h => ?_⟩
  · rw [h1] at h
    simp only [A0, List.mem_cons, List.not_mem_nil, or_false] at h
    rcases h with rfl | rfl | rfl | rfl | rfl | rfl | rfl | rfl | rfl | rfl | rfl | rfl | rfl | rfl | rfl | rfl
    · refine ⟨stood172.1, stood172.2, fun f hf => ?_⟩
      have := List.all_eq_true.1 fields172 f hf
      simpa using this
    · refine ⟨stood171.1, stood171.2, fun f hf => ?_⟩
      have := List.all_eq_true.1 fields171 f hf
      simpa using this
    · refine ⟨stood159.1, stood159.2, fun f hf => ?_⟩
      have := List.all_eq_true.1 fields159 f hf
      simpa using this
    · refine ⟨stood158.1, stood158.2, fun f hf => ?_⟩
      have := List.all_eq_true.1 fields158 f hf
      simpa using this
    · refine ⟨stood77.1, stood77.2, fun f hf => ?_⟩
      have := List.all_eq_true.1 fields77 f hf
      simpa using this
    · refine ⟨stood76.1, stood76.2, fun f hf => ?_⟩
      have := List.all_eq_true.1 fields76 f hf
      simpa using this
    · refine ⟨stood68.1, stood68.2, fun f hf => ?_⟩
      have := List.all_eq_true.1 fields68 f hf
      simpa using this
    · refine ⟨stood67.1, stood67.2, fun f hf => ?_⟩
      have := List.all_eq_true.1 fields67 f hf
      simpa using this
    · refine ⟨stood60.1, stood60.2, fun f hf => ?_⟩
      have := List.all_eq_true.1 fields60 f hf
      simpa using this
    · refine ⟨stood59.1, stood59.2, fun f hf => ?_⟩
      have := List.all_eq_true.1 fields59 f hf
      simpa using this
    · refine ⟨stood57.1, stood57.2, fun f hf => ?_⟩
      have := List.all_eq_true.1 fields57 f hf
      simpa using this
    · refine ⟨stood56.1, stood56.2, fun f hf => ?_⟩
      have := List.all_eq_true.1 fields56 f hf
      simpa using this
    · refine ⟨stood51.1, stood51.2, fun f hf => ?_⟩
      have := List.all_eq_true.1 fields51 f hf
      simpa using this
    · refine ⟨stood50.1, stood50.2, fun f hf => ?_⟩
      have := List.all_eq_true.1 fields50 f hf
      simpa using this
    · refine ⟨stood8.1, stood8.2, fun f hf => ?_⟩
      have := List.all_eq_true.1 fields8 f hf
      simpa using this
    · refine ⟨stood7.1, stood7.2, fun f hf => ?_⟩
      have := List.all_eq_true.1 fields7 f hf
      simpa using this
  · rw [h2] at h
    simp only [A0, List.mem_cons, List.not_mem_nil, or_false] at h
    obtain rfl := h
    · exact ext159

/-! ### A world that meets the condition -/
def rangesZ : List Nat := [128, 191, 160, 191, 128, 159, 144, 191, 128, 143, 0, 0, 0, 0, 0, 0, 0, 0, 0, 0, 0, 0, 0, 0, 0, 0, 0, 0, 0, 0, 0, 0]
noncomputable def laidWorld (os : Os) : World :=
  let w0 := World.holding P os ⟨#[], #[], []⟩
  { w0 with heap := ((w0.heap.modify 0 fun
      | .cells _ t frozen => .cells (Go.Pinned.utf8FirstZ.map fun (n : Nat) => Value.int .u8 (n : Int)).toArray t frozen
      | o => o).modify 1 fun
      | .cells _ t frozen => .cells (rangesZ.map fun (n : Nat) => Value.int .u8 (n : Int)).toArray t frozen
      | o => o) }
theorem laidWorld_met (os : Os) (args : Array Value) : laidMet P L ((laidWorld os).forCall (fun _ _ => 0) ⟨#[], args, []⟩).memory :=
  laidMet_of_run' 8 (by kernel_rfl) (by kernel_rfl)
end Go.Proofs.YthpkcekmbhafnaaGreatDoor.laid
