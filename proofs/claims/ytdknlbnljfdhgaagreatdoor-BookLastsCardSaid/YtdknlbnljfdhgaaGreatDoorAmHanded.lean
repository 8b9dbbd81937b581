/-
  The abstract machine: from a law over arguments that lie in memory to its row.
-/
import Derived.Test.YtdknlbnljfdhgaaGreatDoorAmArgs
import Derived.WalkKit
import Derived.ProofKit
import Derived.OpenShut
open List renaming append_nil->zza
namespace Go.Am
open Go Go.RowKit Go.ChangeShapes Go.WideShapes Go.ChangeAt
theorem sX{H:Type}{enc:TypeId×Value->H}{P:Program}(hl:laidOutB P=true){W W':World}(hb:Below W.heap.size W W'):∀(ts:List TypeId)(vs:List Value)(ds:List (DataW H))(ps:List MemPlace),
  ts.all (fun t=>P.readableRec t&&decide (t<P.types.size))=true->DataW.TrodAll enc P W 0 (fun _=>true) true ts vs ds ps->(∀x∈ps,x.block<W.heap.size)->DataW.TrodAll enc P W' 0 (fun b=>decide (b<W.heap.size)) true ts vs ds ps
 |[],vs,ds,ps,_,h,_=>by
  cases vs<;>cases ds<;>exact h
 |t::ts,vs,ds,ps,hr,h,cQ=>by
  cases vs with
  |nil=>cases ds<;>exact h.elim
  |cons v vs=>
   cases ds with
   |nil=>exact h.elim
   |cons d ds=>
    obtain⟨p,q,h1,h2,rfl⟩:=h;simp only[List.all_cons,Bool.and_eq_true,decide_eq_true_eq]at hr;exact⟨p,q,Below.trod hl hr.1.1 hr.1.2 h1 hb (fun x hx=>cQ x (List.mem_append.2 (.inl hx))),
     sX hl hb ts vs ds q (by simpa using hr.2) h2 (fun x hx=>cQ x (List.mem_append.2 (.inr hx))),rfl⟩
theorem yQ{H:Type}{enc:TypeId×Value->H}{P:Program}{W:World}{sp:Nat->Bool}{held:Bool}:∀(ts:List TypeId)(vs:List Value)(ds:List (DataW H))(ps:List MemPlace),
  DataW.TrodAll enc P W 0 sp held ts vs ds ps->∀x∈ps,x.block<W.heap.size
 |[],vs,ds,ps,h,x,hx=>by
  cases vs<;>cases ds<;>first|(have e:ps=[]:=h;subst e;cases hx)|exact h.elim
 |t::ts,vs,ds,ps,h,x,hx=>by
  cases vs with
  |nil=>cases ds<;>exact h.elim
  |cons v vs=>
   cases ds with
   |nil=>exact h.elim
   |cons d ds=>
    obtain⟨p,q,⟨n,h1⟩,h2,rfl⟩:=h;rcases List.mem_append.1 hx with hx|hx
    .exact DataW.trod_lt n t _ _ h1 x hx
    .exact yQ ts vs ds q h2 x hx
theorem xi{H:Type}{enc:TypeId×Value->H}{P:Program}{W:World}{sp:Nat->Bool}{held:Bool}:∀(ts:List TypeId)(vs:List Value)(ds:List (DataW H))(ps:List MemPlace),
  DataW.TrodAll enc P W 0 sp held ts vs ds ps->ds.length=ts.length
 |[],vs,ds,ps,h=>by
  cases vs<;>cases ds<;>first|rfl|exact h.elim
 |t::ts,vs,ds,ps,h=>by
  cases vs with
  |nil=>cases ds<;>exact h.elim
  |cons v vs=>
   cases ds with
   |nil=>exact h.elim
   |cons d ds=>
    obtain⟨p,q,_,h2,_⟩:=h;simp[xi ts vs ds q h2]
theorem vc{H:Type}{enc:TypeId×Value->H}{a:Assume}{C:Checked}{os:Os}{f:FuncId}{fn:Func}{s:ChangeSpec}{conds:List PathCond}{apart:Bool}{X:World->Array Value->Prop}
  (hX:∀(w w':World)(args:Array Value),w.heap=w'.heap->X w args->X w' args)
  (own:ownKnob C.prog.godebug=none) (started:os.Started) (jdw:C.prog.inits.idxOf? f=none) (Hz:C.prog.funcs[f]?=some fn)
  (witness:∃(w:World)(tape:Tape)(i:Input),w.os=os/\(w.forCall tape i).Shaped C.prog/\i.vars=[]/\Input.okWide C.prog (w.forCall tape i) .any w.heap.size f i /\
   ((s.pre enc C.prog fn conds apart (w.forCall tape i).memory i.args/\X (w.forCall tape i).memory i.args)/\sizedMet enc C.prog fn (OpenSpec.ofChange s) apart (w.forCall tape i).memory i.args)/\a.holds C.prog (lone (Frame.enter C.prog f i.args .normal) [] (w.forCall tape i)))
  (Ah:laidOutB C.prog=true) (jih:fn.params.toList.all (fun t=>C.prog.readableRec t&&decide (t<C.prog.types.size))=true) {tb:TypeId} (iW:fn.resultTypes=#[tb]) (hb:C.prog.underlying tb=some .bool)
  (hv:s.vars=[]) (hs:∀ds:List (DataW H),ds.length=fn.params.toList.length->s.fn H ds={results:=[.lit (.bool true)],args:=ds})
  (law:∀(W:World)(base:Nat)(args:Array Value)(ds:List (DataW H))(p:List MemPlace),(∀(j:Nat)t v,fn.params.toList[j]?=some t->args[j]?=some v->Value.okWide C.prog W .any base t v) ->
   DataW.TrodAll enc C.prog W 0 (fun _=>true) true fn.params.toList args.toList ds p->(∀n,n∈DataW.weightsEach C.prog fn.params.toList ds->n<=reachBytes)->X W args->Calls C.prog f args W fun e w'=>e=.returned (.bool true)/\Below W.heap.size W w') :
  ReturnsInHanded a C os f .any (fun w args=>(s.pre enc C.prog fn conds apart w args/\X w args)/\sizedMet enc C.prog fn (OpenSpec.ofChange s) apart w args) (s.post enc C.prog fn apart true false false):=by
 refine returnsInHanded_of_change_and hX own started jdw Hz witness ?_;intro W base args ds gs before BI hW _ hz hL _;have hW':=hW;obtain⟨p,q,hA,hV,rfl,_,_⟩:=hW;rw[hv]at hV;have Rt:gs=[]/\q=[]:=by
  cases gs with
  |nil=>exact⟨rfl,hV⟩
  |cons g gs=>exact hV.elim
 obtain⟨rfl,rfl⟩:=Rt;have hvt:s.plain.varTypes C.prog=[]:=by
  unfold DataSpec.varTypes ChangeSpec.plain;simp only[hv];rfl
 rw[hvt,zza,zza]at hz;refine (law W base args ds p (fun j t v h1 h2=>?_) hA (fun n hn=>of_decide_eq_true (List.all_eq_true.1 hz n hn)) hL).mono fun e W' ⟨he,sT⟩=>?_
 .have h:=BI j t v (by rw[<-Array.getElem?_toList];exact h1) h2;exact h
 subst he;have hlen:ds.length=fn.params.toList.length:=by
  exact xi _ _ _ _ hA
 have nj:=hs ds hlen;refine⟨_,rfl,ds,[],_,[],p,[],hW',?_,?_,?_,sT.frame _,fun h=>by cases h⟩
 .rw[zza,nj,iW];exact trodAll_mk1 (shut_bool hb _)
 .rw[zza,nj];exact sX Ah sT _ _ _ _ jih hA (yQ _ _ _ _ hA)
 .rw[zza,nj,hv];rfl
end Go.Am
