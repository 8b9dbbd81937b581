/-
  What the claims on a log share: the program is ready, and what was walked apart holds of it.
-/
import Derived.Test.YtgkdgiognhbfjaaGreatDoorPartH
import Derived.Test.YtgkdgiognhbfjaaGreatDoorPartC
import Derived.Test.YtgkdgiognhbfjaaGreatDoorAmHanded
import Derived.Test.YtgkdgiognhbfjaaGreatDoorAmRules
import Derived.Test.YtgkdgiognhbfjaaGreatDoorAmTop
namespace Go.Proofs.YtgkdgiognhbfjaaGreatDoor.dk
open Go Go.Am Go.Proofs.YtgkdgiognhbfjaaGreatDoor.seg
set_option linter.unusedVariables false
set_option linter.unusedSimpArgs false
theorem prims0 (Λ:LB):∀ x,x∈seg.A0.cy→fk Λ Tryz.prog x.1 x.2:=by
 intro x hx;simp only[seg.A0,List.mem_cons,List.not_mem_nil,or_false] at hx;subst hx;exact xk Tryz.func7 rfl aw.walk
theorem prims1 (Λ:LB):∀ x,x∈A1.cy→fk Λ Tryz.prog x.1 x.2:=by
 intro x hx;simp only[A1,List.mem_cons,List.not_mem_nil,or_false] at hx;rcases hx with rfl|rfl|rfl
 ·exact xk Tryz.func7 rfl aw.walk
 ·exact prim62 (laid.ready seg.A0 rfl rfl) (prims0 Λ) (fun x hx=>by cases hx)
 ·exact nw.prim50 (laid.ready seg.A0 rfl rfl) (prims0 Λ) (fun x hx=>by cases hx)
end Go.Proofs.YtgkdgiognhbfjaaGreatDoor.dk
