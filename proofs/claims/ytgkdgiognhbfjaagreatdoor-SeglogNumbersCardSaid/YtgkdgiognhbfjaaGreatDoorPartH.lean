/-
  The part of 'SeglogNumbers' that asks the document's examples: run whole by the abstract machine.
-/
import Derived.Test.YtgkdgiognhbfjaaGreatDoorPartG
namespace Go.Proofs.YtgkdgiognhbfjaaGreatDoor.aw
open Go Go.RowKit
theorem answer:true=Am.Ch Tryz.prog laid.A0 1000000 7 true:=by kernel_rfl
theorem walk (W:World):Calls Tryz.prog 7 #[] W fun e w'=>e=.returned (.bool true)∧Below W.heap.size W w':=
 Am.call_fast0 (laid.ready laid.A0 rfl rfl) (fun _ x hx=>by cases hx) rfl 1000000 7 true answer W
noncomputable def A1:Am.Ask:={ laid.A0 with cy:=[(7,Am.ox true)] }
theorem cy (Λ:Am.LB):∀ x,x∈A1.cy→Am.fk Λ Tryz.prog x.1 x.2:=by
 intro x hx;simp only[A1,List.mem_cons,List.not_mem_nil,or_false] at hx;subst hx;exact Am.xk Tryz.func7 rfl walk
end Go.Proofs.YtgkdgiognhbfjaaGreatDoor.aw
