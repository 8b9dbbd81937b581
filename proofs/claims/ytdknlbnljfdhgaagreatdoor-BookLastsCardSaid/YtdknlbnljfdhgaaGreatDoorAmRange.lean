/-
  The abstract machine against the model: entries by their stamps, iterators.
-/
import Derived.Test.YtdknlbnljfdhgaaGreatDoorAmMore
set_option linter.unusedVariables false
set_option linter.unusedSimpArgs false
namespace Go.Am
open Go
variable{Λ:LB}
theorem HX{P:Program}{cx:Cx}(aF:dQ Λ P cx){ρ:aY}{S S':AS}{w:World}(hR:R Λ ρ S w){t:TypeId}{x k u:AV}{x' k':Value}
  (h:EJ cx S t x k=some (u,S')) (hx:ai ρ x x') (hk:ai ρ k k'):tp Λ P ρ S w (Instr.mapEntry t x' k') u S':=by
 unfold EJ at h;cases h
theorem HW{P:Program}{ρ:aY}{S S':AS}{w:World}(hR:R Λ ρ S w){t:TypeId}{x k v u:AV}{x' k' v':Value}
  (h:EI S x k v=some (u,S')) (hx:ai ρ x x') (hk:ai ρ k k') (hv:ai ρ v v') :
  ∃w',(Instr.entryStore t x' k' v').run P w=.ok () w'/\u=.undef/\R Λ ρ S' w'/\Kp ρ S w ρ S' w':=by
 unfold EI at h;cases h
theorem J2{P:Program}{cx:Cx}(aF:dQ Λ P cx){ρ:aY}{S S':AS}{w:World}(hR:R Λ ρ S w){t:TypeId}{x u:AV}{x':Value}
  (h:J3 cx S t x=some (u,S')) (hx:ai ρ x x'):tp Λ P ρ S w (Instr.range t x') u S':=by
 unfold J3 at h;cases h
theorem Py{P:Program}{ρ:aY}{S S':AS}{w:World}(hR:R Λ ρ S w){x u:AV}{x':Value}{str:Bool}{ty:TypeId}(h:uV S x str=.val u S')(hx:ai ρ x x'):
  tp Λ P ρ S w (Instr.next x' str ty) u S':=by
 unfold uV at h;cases h
theorem Kt{P:Program}{ρ:aY}{S:AS}{w:World}(hR:R Λ ρ S w){x:AV}{x':Value}{str:Bool}{ty:TypeId}{l:List (AV×AS)}(h:uV S x str=.many l)(ct:l≠[])(hx:ai ρ x x'):
  ∃r,r∈l/\tp Λ P ρ S w (Instr.next x' str ty) r.1 r.2:=by
 unfold uV at h;cases h
theorem Lg{P:Program}{ρ:aY}{S:AS}{w:World}(hR:R Λ ρ S w){x u:AV}{x':Value}(h:Lh S x=some u)(hx:ai ρ x x'):
  ∃z,(Instr.entry x').run P w=.ok z w/\ai ρ u z:=by
 unfold Lh at h;cases h
end Go.Am
