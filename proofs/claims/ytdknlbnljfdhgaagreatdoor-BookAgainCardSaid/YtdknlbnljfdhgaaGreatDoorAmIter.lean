/-
  The abstract machine: a range over a map, all its orders.
-/
import Derived.Test.YtdknlbnljfdhgaaGreatDoorAmWide
namespace Go.Am
open Go
set_option linter.unusedSimpArgs false
set_option linter.unusedVariables false
def nf(es:List dg)(clock:Nat):Prop:=(∀e,e∈es->e.born<clock)/\es.Pairwise fun a b=>a.born≠b.born
variable{S:AS}{id m:Nat}{seen:List Nat}{es:List dg}{clock:Nat}
section
variable{cx:Cx}{F:Fr}{dst:Option Tmp}{ty:TypeId}{pos:String}{af:Array Edge}{g:Option (Nat×Bool)}
theorem callV_yld{id:Nat}{as:List AV}:ot cx S (.obj .yld id) as=.round id as S:=rfl
end
end Go.Am
