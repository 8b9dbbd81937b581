/-
  The part of 'StoreKnown' that asks the document's examples: run whole by the abstract machine.
-/
import Derived.Test.YtgeghppdhjlbiaaGreatDoorPartC
namespace Go.Proofs.YtgeghppdhjlbiaaGreatDoor.aw
open Go Go.RowKit

noncomputable def A0 : Am.Ask := { laid.A0 with prims := [(93, rising.q93)] }
theorem prims0 (Λ : Am.LB) : ∀ x, x ∈ A0.prims → Am.PrimOk Λ Tryz.prog x.1 x.2 := by
  intro x hx
  simp only [A0, List.mem_cons, List.not_mem_nil, or_false] at hx
  subst hx
  exact rising.prim93 Λ
theorem answer : true = Am.saysK Tryz.prog A0 1000000 4 true := by kernel_rfl
theorem walk (W : World) : Calls Tryz.prog 4 #[] W fun e w' => e = .returned (.bool true) ∧ Below W.heap.size W w' :=
  Am.call_fast0 (laid.ready A0 rfl rfl) prims0 rfl 1000000 4 true answer W
noncomputable def A1 : Am.Ask := { laid.A0 with prims := [(4, Am.boolQ true), (93, rising.q93)] }
theorem prims (Λ : Am.LB) : ∀ x, x ∈ A1.prims → Am.PrimOk Λ Tryz.prog x.1 x.2 := by
  intro x hx
  simp only [A1, List.mem_cons, List.not_mem_nil, or_false] at hx
  rcases hx with rfl | rfl
  · exact Am.boolQ_ok Tryz.func4 rfl walk
  · exact rising.prim93 Λ
end Go.Proofs.YtgeghppdhjlbiaaGreatDoor.aw
