/-
  The abstract machine against the model: entries by their stamps, iterators.
-/
import Derived.Test.YtdknlbnljfdhgaaGreatDoorAmMore
namespace Go.Am
open Go
set_option linter.unusedSimpArgs false
set_option linter.unusedVariables false
variable{Λ:LB}
theorem E4{P:Program}{cx:Cx}(aC:dq Λ P cx){ρ:aO}{S S':AS}{w:World}(hR:R Λ ρ S w){t:TypeId}{x k u:AV}{x' k':Value}
  (h:B8 cx S t x k=some (u,S')) (hx:ah ρ x x') (hk:ah ρ k k'):rj Λ P ρ S w (Instr.mapEntry t x' k') u S':=by
 unfold B8 at h;cases h
theorem E3{P:Program}{ρ:aO}{S S':AS}{w:World}(hR:R Λ ρ S w){t:TypeId}{x k v u:AV}{x' k' v':Value}
  (h:B7 S x k v=some (u,S')) (hx:ah ρ x x') (hk:ah ρ k k') (hv:ah ρ v v') :
  ∃w',(Instr.entryStore t x' k' v').run P w=.ok () w'/\u=.undef/\R Λ ρ S' w'/\Kp ρ S w ρ S' w':=by
 unfold B7 at h;cases h
theorem rangeV_run{P:Program}{cx:Cx}(aC:dq Λ P cx){ρ:aO}{S S':AS}{w:World}(hR:R Λ ρ S w){t:TypeId}{x u:AV}{x':Value}
  (h:rangeV cx S t x=some (u,S')) (hx:ah ρ x x'):rj Λ P ρ S w (Instr.range t x') u S':=by
 unfold rangeV at h;cases h
theorem nextV_val{P:Program}{ρ:aO}{S S':AS}{w:World}(hR:R Λ ρ S w){x u:AV}{x':Value}{str:Bool}{ty:TypeId}(h:sG S x str=.val u S')(hx:ah ρ x x'):
  rj Λ P ρ S w (Instr.next x' str ty) u S':=by
 unfold sG at h;cases h
theorem nextV_many{P:Program}{ρ:aO}{S:AS}{w:World}(hR:R Λ ρ S w){x:AV}{x':Value}{str:Bool}{ty:TypeId}{l:List (AV×AS)}(h:sG S x str=.many l)(cS:l≠[])(hx:ah ρ x x'):
  ∃r,r∈l/\rj Λ P ρ S w (Instr.next x' str ty) r.1 r.2:=by
 unfold sG at h;cases h
theorem entryV_run{P:Program}{ρ:aO}{S:AS}{w:World}(hR:R Λ ρ S w){x u:AV}{x':Value}(h:entryV S x=some u)(hx:ah ρ x x'):
  ∃z,(Instr.entry x').run P w=.ok z w/\ah ρ u z:=by
 unfold entryV at h;cases h
end Go.Am
