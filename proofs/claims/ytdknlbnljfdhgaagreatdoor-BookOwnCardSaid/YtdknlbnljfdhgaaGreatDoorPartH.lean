/-
  What the claims on a book share: the program is ready, and what was walked apart holds of it.
-/
import Derived.Test.YtdknlbnljfdhgaaGreatDoorPartG
import Derived.Test.YtdknlbnljfdhgaaGreatDoorPartC
import Derived.Test.YtdknlbnljfdhgaaGreatDoorAmHanded
import Derived.Test.YtdknlbnljfdhgaaGreatDoorAmRules
import Derived.Test.YtdknlbnljfdhgaaGreatDoorAmTop
namespace Go.Proofs.YtdknlbnljfdhgaaGreatDoor.bk
open Go Go.Am Go.Proofs.YtdknlbnljfdhgaaGreatDoor.dk
set_option linter.unusedVariables false
set_option linter.unusedSimpArgs false
theorem rdy (A:Am.Ask) (h1:A.eqs=laid.A0.eqs) (h2:A.exts=[]):nC Tryz.prog A:=laid.ready A h1 (fun x hx=>by rw[h2] at hx;cases hx)
theorem prims0 (Λ:LB):∀ x,x∈seg.A0.bG→fP Λ Tryz.prog x.1 x.2:=by
 intro x hx;simp only[seg.A0,List.mem_cons,List.not_mem_nil,or_false] at hx;subst hx;exact xZ Tryz.func12 rfl aw.walk
theorem prims1 (Λ:LB):∀ x,x∈A1.bG→fP Λ Tryz.prog x.1 x.2:=by
 intro x hx;simp only[A1,List.mem_cons,List.not_mem_nil,or_false] at hx;rcases hx with rfl|rfl|rfl
 ·exact xZ Tryz.func12 rfl aw.walk
 ·exact seg.prim55 (rdy seg.A0 rfl rfl) (prims0 Λ) (fun x hx=>by cases hx)
 ·exact spl.prim49 (rdy seg.A0 rfl rfl) (prims0 Λ) (fun x hx=>by cases hx)
end Go.Proofs.YtdknlbnljfdhgaaGreatDoor.bk
