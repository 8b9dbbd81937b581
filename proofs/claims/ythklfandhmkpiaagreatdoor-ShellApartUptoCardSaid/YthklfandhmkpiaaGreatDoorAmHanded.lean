/-
  The abstract machine: from a law over arguments that lie in memory to its row.
-/
import Derived.Test.YthklfandhmkpiaaGreatDoorAmArgs
import Derived.WalkKit
import Derived.ProofKit
import Derived.OpenShut
namespace Go.Am
open Go Go.RowKit Go.ChangeShapes Go.WideShapes Go.ChangeAt
theorem pE{H:Type}{enc:TypeId×Value->H}{P:Program}(hl:laidOutB P=true){W W':World}(hb:Below W.heap.size W W'):∀(ts:List TypeId)(vs:List Value)(ds:List (DataW H))(ps:List MemPlace),
  ts.all (fun t=>P.readableRec t&&decide (t<P.types.size))=true->DataW.TrodAll enc P W 0 (fun _=>true) true ts vs ds ps->(∀x∈ps,x.block<W.heap.size)->DataW.TrodAll enc P W' 0 (fun b=>decide (b<W.heap.size)) true ts vs ds ps
 |[],vs,ds,ps,_,h,_=>by
  cases vs<;>cases ds<;>exact h
 |t::ts,vs,ds,ps,hr,h,cR=>by
  cases vs with
  |nil=>cases ds<;>exact h.elim
  |cons v vs=>
   cases ds with
   |nil=>exact h.elim
   |cons d ds=>
    obtain⟨p,q,h1,h2,rfl⟩:=h;simp only[List.all_cons,Bool.and_eq_true,decide_eq_true_eq]at hr;exact⟨p,q,Below.trod hl hr.1.1 hr.1.2 h1 hb (fun x hx=>cR x (List.mem_append.2 (.inl hx))),
     pE hl hb ts vs ds q (by simpa using hr.2) h2 (fun x hx=>cR x (List.mem_append.2 (.inr hx))),rfl⟩
theorem uB{H:Type}{enc:TypeId×Value->H}{P:Program}{W:World}{sp:Nat->Bool}{held:Bool}:∀(ts:List TypeId)(vs:List Value)(ds:List (DataW H))(ps:List MemPlace),
  DataW.TrodAll enc P W 0 sp held ts vs ds ps->∀x∈ps,x.block<W.heap.size
 |[],vs,ds,ps,h,x,hx=>by
  cases vs<;>cases ds<;>first|(have e:ps=[]:=h;subst e;cases hx)|exact h.elim
 |t::ts,vs,ds,ps,h,x,hx=>by
  cases vs with
  |nil=>cases ds<;>exact h.elim
  |cons v vs=>
   cases ds with
   |nil=>exact h.elim
   |cons d ds=>
    obtain⟨p,q,⟨n,h1⟩,h2,rfl⟩:=h;rcases List.mem_append.1 hx with hx|hx
    .exact DataW.trod_lt n t _ _ h1 x hx
    .exact uB ts vs ds q h2 x hx
theorem sY{H:Type}{enc:TypeId×Value->H}{P:Program}{W:World}{sp:Nat->Bool}{held:Bool}:∀(ts:List TypeId)(vs:List Value)(ds:List (DataW H))(ps:List MemPlace),
  DataW.TrodAll enc P W 0 sp held ts vs ds ps->ds.length=ts.length
 |[],vs,ds,ps,h=>by
  cases vs<;>cases ds<;>first|rfl|exact h.elim
 |t::ts,vs,ds,ps,h=>by
  cases vs with
  |nil=>cases ds<;>exact h.elim
  |cons v vs=>
   cases ds with
   |nil=>exact h.elim
   |cons d ds=>
    obtain⟨p,q,_,h2,_⟩:=h;simp[sY ts vs ds q h2]
end Go.Am
