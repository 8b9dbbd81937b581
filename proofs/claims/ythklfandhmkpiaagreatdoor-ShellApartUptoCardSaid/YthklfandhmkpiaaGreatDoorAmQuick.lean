/-
  The abstract machine: a closed call that answers one bool, by the text that the kernel runs fast.
-/
import Derived.Test.YthklfandhmkpiaaGreatDoorAmFast
import Derived.Test.YthklfandhmkpiaaGreatDoorAmTop
namespace Go.Am
open Go Go.RowKit
theorem call_fast{Λ:LB}{P:Program}{A:Ask}(h:zJ P A)(hp:∀x,x∈A.fi->kD Λ P x.1 x.2)(hg:∀x,x∈A.eZ->gu Λ.w Λ.B x.1 x.2)(n:Nat)(f:FuncId)(b:Bool)
  (hs:true=saysK P A n f b) (w:World) (hz:Λ.w.heap.size<=w.heap.size) (hb:∀b,Λ.B b->b<Λ.w.heap.size/\w.heap[b]?=Λ.w.heap[b]?) :
  Calls P f #[] w fun e w'=>e=.returned (.bool b)/\Below w.heap.size w w':=
 Bt h hp hg n f b (hs.trans (saysK_eq P A n f b)) w hz hb
end Go.Am
