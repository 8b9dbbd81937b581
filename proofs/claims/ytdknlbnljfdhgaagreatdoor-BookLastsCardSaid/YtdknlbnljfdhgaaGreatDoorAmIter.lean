/-
  The abstract machine: a range over a map, all its orders.
-/
import Derived.Test.YtdknlbnljfdhgaaGreatDoorAmWide
set_option linter.unusedVariables false
set_option linter.unusedSimpArgs false
namespace Go.Am
open Go
def pe(es:List dI)(clock:Nat):Prop:=(∀e,e∈es->e.born<clock)/\es.Pairwise fun a b=>a.born≠b.born
variable{S:AS}{id m:Nat}{seen:List Nat}{es:List dI}{clock:Nat}
section
variable{cx:Cx}{F:Fr}{dst:Option Tmp}{ty:TypeId}{pos:String}{af:Array Edge}{g:Option (Nat×Bool)}
theorem QF{id:Nat}{as:List AV}:qm cx S (.obj .LZ id) as=.round id as S:=rfl
end
end Go.Am
