/-
  The part of 'JudgeKeeps' that asks the document's examples: run whole by the abstract machine.
-/
import Derived.Test.YtpgmahedcpepkaaGreatDoorPartD
import Derived.Test.YtpgmahedcpepkaaGreatDoorAmBool
namespace Go.Proofs.YtpgmahedcpepkaaGreatDoor.aw
open Go Go.RowKit

theorem answer : true = Am.saysK Tryz.prog laid.A0 1000000 5 true := by kernel_rfl
theorem walk (W : World) : Calls Tryz.prog 5 #[] W fun e w' => e = .returned (.bool true) ∧ Below W.heap.size W w' :=
  Am.call_fast0 (laid.ready laid.A0 rfl rfl) (fun _ x hx => by cases hx) rfl 1000000 5 true answer W
noncomputable def A1 : Am.Ask := { laid.A0 with prims := [(5, Am.boolQ true)] }
theorem prims (Λ : Am.LB) : ∀ x, x ∈ A1.prims → Am.PrimOk Λ Tryz.prog x.1 x.2 := by
  intro x hx
  simp only [A1, List.mem_cons, List.not_mem_nil, or_false] at hx
  subst hx
  exact Am.boolQ_ok Tryz.func5 rfl walk
end Go.Proofs.YtpgmahedcpepkaaGreatDoor.aw
