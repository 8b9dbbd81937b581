/-
  What the claims on the index share: the examples run whole; the program is ready for the machine.
-/
import Derived.Test.YtfempihpphbgmaaGreatIdxDel
import Derived.Test.YtfempihpphbgmaaGreatAmHanded
import Derived.Test.YtfempihpphbgmaaGreatAmFast
import Derived.Test.YtfempihpphbgmaaGreatAmPrim
import Derived.LaidLaws
import Derived.Lib.LaidTab
import Derived.WalkKit
import Derived.ProofKit
namespace Go.Proofs.YtfempihpphbgmaaGreat.ready
open Go Go.Am Go.ChangeShapes Go.WideShapes Go.ChangeAt Go.RowKit
set_option linter.unusedVariables false
set_option linter.unusedSimpArgs false

noncomputable abbrev P : Program := Tryz.prog
theorem own : ownKnob P.godebug = none := by kernel_rfl
theorem names : P.funcs.toList.all (fun fn => !(fn.name == "runtime.NumGoroutine")) = true := by kernel_rfl
theorem stood50 : P.stoodInHeld 50 = false ∧ P.eqGuardType P.depth 50 = false := ⟨by kernel_rfl, by kernel_rfl⟩
theorem stood65 : P.stoodInHeld 65 = false ∧ P.eqGuardType P.depth 65 = false := ⟨by kernel_rfl, by kernel_rfl⟩
theorem fields50 : (P.fieldsOf 50).toList.all (fun f => !(f.name == "_")) = true := by kernel_rfl
theorem fields65 : (P.fieldsOf 65).toList.all (fun f => !(f.name == "_")) = true := by kernel_rfl
theorem ext132 (a b : ByteArray) (w : World) : (callFunc 132 #[.string a, .string b]).run P w = .ok (.value (.int .i64 (Lib.compareBytes a.data.toList b.data.toList))) w := by
  have h : (callFunc 132 #[.string a, .string b]).run P w = ((do pure (.value (← Extern.BytealgCompare.compare #[.string a, .string b])) : Sem Next)).run P w := by kernel_rfl
  rw [h]
  simp only [Sem.run_bind, Lib.run_compareString, Result.andThen_ok, Sem.run_pure]
theorem size80 (w : World) : (Go.sizeOf 80).run P w = .ok 5 w := by kernel_rfl
theorem ext57 (args : Array Value) (w : World) : (callFunc 57 args).run P w = ((Extern.SlicesOverlaps.overlaps #[78, 78] #[4] args).run P w).andThen fun v w' => .ok (.value v) w' := by
  have h : (callFunc 57 args).run P w = ((do pure (.value (← Extern.SlicesOverlaps.overlaps #[78, 78] #[4] args)) : Sem Next)).run P w := by kernel_rfl
  rw [h]
  simp only [Sem.run_bind, Sem.run_pure]
theorem ready (A : Am.Ask) (h1 : ∀ t, t ∈ A.eqs → t = 50 ∨ t = 65) (h2 : ∀ x, x ∈ A.exts → x = (57, .apart) ∨ x = (132, .cmpstr)) : Am.Ready P A := by
  refine ⟨by kernel_rfl, fun t h => ?_, Am.enters_ok names, fun x h => ?_⟩
  · rcases h1 t h with rfl | rfl
    · refine ⟨stood50.1, stood50.2, fun f hf => ?_⟩
      have := List.all_eq_true.1 fields50 f hf
      simpa using this
    · refine ⟨stood65.1, stood65.2, fun f hf => ?_⟩
      have := List.all_eq_true.1 fields65 f hf
      simpa using this
  · rcases h2 x h with rfl | rfl
    · exact ⟨78, 4, 80, 5, by kernel_rfl, size80, ext57⟩
    · intro a b w
      rw [← cmp_bytes]
      exact ext132 a b w
theorem ready8 : Am.Ready P ins.A8 := ready _ (fun t h => by cases h) (fun x h => by
  simp only [ins.A8, List.mem_cons, List.not_mem_nil, or_false] at h
  exact .inl h)
noncomputable def N0 : Am.Ask := { eqs := [50, 65], exts := [(57, .apart), (132, .cmpstr)], prims := [(31, ins.q31), (34, ins.q34)], pures := [46] }
theorem readyN : Am.Ready P N0 := ready _ (fun t h => by
  simp only [N0, List.mem_cons, List.not_mem_nil, or_false] at h
  exact h) (fun x h => by
  simp only [N0, List.mem_cons, List.not_mem_nil, or_false] at h
  exact h)
theorem primsN (Λ : LB) : ∀ x, x ∈ N0.prims → PrimOk Λ Tryz.prog x.1 x.2 := by
  intro x hx
  simp only [N0, List.mem_cons, List.not_mem_nil, or_false] at hx
  rcases hx with rfl | rfl
  · exact ins.prim31 ready8
  · exact ins.prim34 ready8
theorem answer : true = Am.saysK Tryz.prog N0 1000000 14 true := by kernel_rfl
theorem awake (W : World) : Calls Tryz.prog 14 #[] W fun e w' => e = .returned (.bool true) ∧ Below W.heap.size W w' :=
  Am.call_fast0 readyN primsN rfl 1000000 14 true answer W
end Go.Proofs.YtfempihpphbgmaaGreat.ready
