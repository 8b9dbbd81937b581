/-
  The abstract machine: a logic for its code. What holds behind a run, for values that are not known.
-/
import Derived.Test.YtdknlbnljfdhgaaGreatDoorAmMono
import Derived.Test.YtdknlbnljfdhgaaGreatDoorAmTop
noncomputable section
namespace Go.Am
open Go Go.RowKit
def sl(F:Fr)(t:Nat):AV:=match F.t.get t with|some v=>v|none=>.undef
def up(F:Fr)(d:Option Nat)(v:AV):Fr:=match d with|some d=>⟨F.t.set d v,F.n,F.ds⟩|none=>F
theorem sl_up(F:Fr)(d e:Nat)(v:AV):sl (up F (some d) v) e=if e=d then v else sl F e:=by
 unfold sl up;by_cases h:e=d
 .subst h;simp only[aa,if_true]
 .simp only[ae _ _ h,if_neg h]
theorem up_none(F:Fr)(v:AV):up F none v=F:=rfl
theorem lS(F:Fr)(d:Option Nat)(v:AV):(up F d v).n=F.n:=by cases d<;>rfl
theorem ma(F:Fr)(d:Option Nat)(v:AV):(up F d v).ds=F.ds:=by cases d<;>rfl
theorem aJ(F:Fr)(t:Nat):eval F (.tmp t)=sl F t:=mZ F t
theorem eval_const(F:Fr)(v:Value):eval F (.const v)=ofV v:=rfl
theorem eval_func(F:Fr)(f:Nat):eval F (.func f)=.func (.func f) [] []:=rfl
theorem eval_global(F:Fr)(g:Nat):eval F (.global g)=.uh g 0:=rfl
theorem ofV_bool(b:Bool):ofV (.bool b)=.bool b:=rfl
theorem Bs(k:IntKind)(n:Int):ofV (.int k n)=.int k n:=rfl
theorem ofV_string(s:ByteArray):ofV (.string s)=.str (s.data.toList.map UInt8.toNat):=by
 show AV.str (mS UInt8.toNat s.data.toList)=_;rw[gu]
theorem ofV_nilp:ofV (.pointer none)=.bM:=rfl
theorem ofV_nils:ofV (.slice none 0 0)=.aq:=rfl
theorem ofV_nilm:ofV (.map none)=.jl:=rfl
theorem ofV_nilf:ofV .nilFunc=.kM:=rfl
theorem ofV_niface:ofV .nilIface=.bH:=rfl
def av.One{α:Type}(r:av α)(p:α->Prop):Prop:=∃x,r=.ok x []/\p x
theorem av.One.mono{α:Type}{r:av α}{p q:α->Prop}(h:r.One p)(k:∀x,p x->q x):r.One q:=let ⟨x,e,hx⟩:=h;⟨x,e,k x hx⟩
theorem av.One.bind{α β:Type}{r:av α}{f:α->av β}{p:β->Prop}(h:r.One fun x=>(f x).One p):(av.bind r f).One p:=by
 obtain⟨x,rfl,h⟩:=h;exact h
theorem av.One.all{α:Type}{r:av α}{p:α->Prop}(h:r.One p):r.jK p:=by
 obtain⟨x,rfl,h⟩:=h;exact⟨h,fun y hy=>by cases hy⟩
theorem av.Le.one{α:Type}{r r':av α}(h:av.Le r r'){p:α->Prop}(k:r.One p):r'.One p:=let ⟨x,e,hx⟩:=k;⟨x,h x [] e,hx⟩
def bE(v:AV):Bool:=match v with | .dP _=>true|_=>false
theorem wA{r:AV×AS}(h:bE r.1=false):retR r=.ok (false,r.1,r.2) []:=by
 obtain⟨v,S⟩:=r;cases v<;>first|rfl|cases h
def ai(cx:Cx)(f:FuncId)(as:List AV)(S:AS)(Q:AV->AS->Prop):Prop:=∃n,(call cx n f as S).One fun r=>bE r.1=false/\Q r.1 r.2
theorem ai.mono{cx:Cx}{f:FuncId}{as:List AV}{S:AS}{Q Q':AV->AS->Prop}(h:ai cx f as S Q)(k:∀v S',Q v S'->Q' v S'):ai cx f as S Q':=by
 obtain⟨n,h⟩:=h;exact⟨n,h.mono fun r hr=>⟨hr.1,k _ _ hr.2⟩⟩
theorem lH{cx:Cx}{f:FuncId}{q:List AV->AS->Option (AV×AS)}{as:List AV}{S S':AS}{v:AV}{Q:AV->AS->Prop}(h:cx.dE.get f=some q)(hu:cx.jS.get f=none)(hq:q as S=some (v,S'))(hn:bE v=false):ai cx f as S Q=Q v S':=by
 have e:∀n,call cx n f as S=.ok (v,S') []:=by
  intro n;unfold call cy qQ fnF;simp only[hu,h,hq]
 apply propext;constructor
 .rintro⟨n,r,e1,hr⟩;rw[e n]at e1;cases e1;exact hr.2
 .intro hh;exact⟨0,_,e 0,hn,hh⟩
def aQ(ops:List Oper)(F:Fr)(g:Option (Nat×Bool)):Option Bool:=
 match g with
 |none=>some true
 |some (j,want)=>match ops[j]? with
  |some p=>match p.dst with
   |some d=>match sl F d with
    | .bool b=>some (cond want b (!b))
    | .top=>none
    |_=>some false
   |none=>some false
  |none=>some false
theorem gP(ops:List Oper)(F:Fr)(o:Oper):wanted ops F o=aQ ops F o.guard:=by
 unfold wanted aQ;cases o.guard with
 |none=>rfl
 |some jw=>
  obtain⟨j,w⟩:=jw;simp only[iw];cases ops[j]? with
  |none=>rfl
  |some p=>
   simp only[];cases p.dst with
   |none=>rfl
   |some d=>
    simp only[sl];cases F.t.get d with
    |none=>rfl
    |some v=>cases v<;>rfl
def lQ(cx:Cx)(r:AR)(K:AV->AS->Prop):Prop:=
 match r with
 | .val v S'=>K v S'
 | .enter f as S'=>ai cx f as S' K
 |_=>False
def eQ(cx:Cx)(ops:List Oper)(o:Oper)(F:Fr)(S:AS)(K:AV->AS->Prop):Prop:=
 match aQ ops F o.guard with
 |some b=>(b=true->lQ cx (bj cx F S o) K)/\(b=false->K .undef S)
 |none=>False
def sD(cx:Cx)(ops:List Oper):List Oper->Fr->AS->(Fr->AS->Prop)->Prop
 |[],F,S,Q=>Q F S
 |o::l,F,S,Q=>eQ cx ops o F S fun v S'=>sD cx ops l (up F o.dst v) S' Q
def yX(n:Nat)(o:Oper):Bool:=match o.dst with|some d=>Nat.blt d n|none=>true
def xM(n:Nat)(l:List Oper):Bool:=l.all (yX n)
theorem nE{F:Fr}{o:Oper}(v:AV)(h:yX F.n o=true):bG F o.dst v=up F o.dst v:=by
 unfold yX at h;cases hd:o.dst with
 |none=>rfl
 |some d=>rw[hd]at h;simp only at h;rw[jz,h];rfl
theorem one_ok{cx:Cx}{ops:List Oper}{o:Oper}{F:Fr}{S:AS}{K:AV->AS->Prop}(h:eQ cx ops o F S K):∃n,(one cx (cy cx (exec cx n)) ops o F S).One fun r=>r.1=false/\K r.2.1 r.2.2:=by
 unfold eQ at h;unfold one;rw[gP];cases hw:aQ ops F o.guard with
 |none=>rw[hw]at h;exact h.elim
 |some b=>
  rw[hw]at h;cases b with
  |true=>
   have h1:=h.1 rfl;unfold lQ at h1;simp only[];cases ha:bj cx F S o with
   |val v S'=>rw[ha]at h1;exact⟨0,_,rfl,rfl,h1⟩
   |round f as S'=>rw[ha]at h1;exact h1.elim
   |dP v S'=>rw[ha]at h1;exact h1.elim
   |many l=>rw[ha]at h1;exact h1.elim
   |enter f as S'=>
    rw[ha]at h1;obtain⟨n,r,e1,e2,e3⟩:=h1;refine⟨n,(false,r.1,r.2),?_,rfl,e3⟩;have e4:cy cx (exec cx n) (.fn f) as S'=.ok r []:=e1;simp only[e4];exact wA e2
   |err n=>rw[ha]at h1;exact h1.elim
  |false=>exact⟨0,_,rfl,rfl,h.2 rfl⟩
theorem aop_defer{cx:Cx}{F:Fr}{S:AS}{o:Oper}{c:Call}(h:cM o=some c):∃n,bj cx F S o=.err n:=by
 obtain⟨dst,op,ty,pos,after,guard⟩:=o;cases op<;>first|(cases h;done)|exact⟨_,rfl⟩
def Fx(F F':Fr):Prop:=F'.n=F.n/\F'.ds=F.ds
theorem Fx.refl(F:Fr):Fx F F:=⟨rfl,rfl⟩
theorem Fx.trans{F F' F'':Fr}(h:Fx F F')(k:Fx F' F''):Fx F F'':=⟨k.1.trans h.1,k.2.trans h.2⟩
theorem Fx.of_up{F F':Fr}{d:Option Nat}{v:AV}(h:Fx (up F d v) F'):Fx F F':=⟨h.1.trans (lS F d v),h.2.trans (ma F d v)⟩
theorem tI{cx:Cx}{ops:List Oper}:∀{l:List Oper}{F:Fr}{S:AS}{Q:Fr->AS->Prop},xM F.n l=true->sD cx ops l F S Q ->
  ∃n,(cY cx (cy cx (exec cx n)) ops l F S).One fun r=>r.1=none/\Q r.2.1 r.2.2/\Fx F r.2.1
 |[],F,S,Q,_,h=>⟨0,_,rfl,rfl,h,Fx.refl F⟩
 |o::l,F,S,Q,hd,h=>by
  have jq:(yX F.n o&&xM F.n l)=true:=hd;rw[Bool.and_eq_true]at jq;have hs:eQ cx ops o F S fun v S'=>sD cx ops l (up F o.dst v) S' Q:=h;have vI:∀K,cY cx K ops (o::l) F S=(match cM o with
   |none=>av.bind (one cx K ops o F S) fun r=>cond r.1 (.ok (some r.2.1,F,r.2.2) []) (cY cx K ops l (bG F o.dst r.2.1) r.2.2)
   |some c=>match wanted ops F o with
    |some true=>match gM F c with
     |some d=>cY cx K ops l (bG ⟨F.t,F.n,d::F.ds⟩ o.dst .undef) S
     |none=>.err 1009
    |some false=>cY cx K ops l (bG F o.dst .undef) S
    |none=>.err 1010):=fun K=>rfl
  cases BT:cM o with
  |some c=>
   unfold eQ at hs;cases hw:aQ ops F o.guard with
   |none=>rw[hw]at hs;exact hs.elim
   |some b=>
    rw[hw]at hs;cases b with
    |true=>
     obtain⟨m,hm⟩:=aop_defer (cx:=cx) (F:=F) (S:=S) BT;have h1:=hs.1 rfl;rw[hm]at h1;exact h1.elim
    |false=>
     obtain⟨m,h3⟩:=tI (l:=l) (by rw[lS];exact jq.2) (hs.2 rfl);refine⟨m,?_⟩;rw[vI,BT];simp only[gP,hw];rw[nE _ jq.1];exact h3.mono fun r hr=>⟨hr.1,hr.2.1,hr.2.2.of_up⟩
  |none=>
   obtain⟨n,r,h1,h0,h2⟩:=one_ok hs;obtain⟨m,h3⟩:=tI (l:=l) (by rw[lS];exact jq.2) h2;refine⟨n+m,?_⟩;rw[vI,BT];simp only[];refine av.One.bind ⟨r,(one_le (cx:=cx) (K:=cy cx (exec cx n)) (K':=cy cx (exec cx (n+m))) (gC (Nat.le_add_right n m)) ops o F S) _ _ h1,?_⟩;simp only[h0,cond_false];rw[nE _ jq.1];exact ((kS (K:=cy cx (exec cx m)) (K':=cy cx (exec cx (n+m))) (gC (Nat.le_add_left m n)) ops l _ _).one h3).mono fun r hr=>⟨hr.1,hr.2.1,hr.2.2.of_up⟩
def dI(cx:Cx)(ops:List Oper):List Row->Fr->AS->List ey->List AS->Nat->(Fr->AS->List AS->Prop)->Prop
 |[],F,S,ps,sn,_,Q=>Q F (bf (fun _=>true) ps S) (S::sn)
 |r::l,F,S,ps,sn,id,Q=>
  match r.cls with
  | .fresh=>match aQ ops F r.o.guard with
   |some b=>(b=true->∃v x,aA cx F id r.o.op=some (v,x)/\dI cx ops l (up F r.o.dst v) S (⟨r.i,id,x⟩::ps) sn (id+1) Q)/\(b=false->dI cx ops l (up F r.o.dst .undef) S ps sn id Q)
   |none=>False
  | .yV=>eQ cx ops r.o F (bf (fun p=>bit r.dL p.i) ps S) fun v S'=>dI cx ops l (up F r.o.dst v) S' (jE (fun p=>!bit r.dL p.i) ps) (S::sn) id Q
  |_=>match aQ ops F r.o.guard with
   |some b=>(b=true->∃v S',bj cx F S r.o=.val v S'/\dI cx ops l (up F r.o.dst v) S ps sn id Q)/\(b=false->dI cx ops l (up F r.o.dst .undef) S ps sn id Q)
   |none=>False
theorem nI(cx:Cx)(ops:List Oper)(F:Fr)(S:AS)(o:Oper):fG cx ops F S o=(match aQ ops F o.guard with
  |some true=>match bj cx F S o with
   | .val v _=>some v
   |_=>none
  |some false=>some .undef
  |none=>none):=by
 unfold fG;rw[gP];rfl
def nO(n:Nat)(l:List Row):Bool:=l.all fun r=>yX n r.o
theorem wy{cx:Cx}{ops:List Oper}:∀{l:List Row}{F:Fr}{S:AS}{ps:List ey}{sn:List AS}{id:Nat}{Q:Fr->AS->List AS->Prop},nO F.n l=true->dI cx ops l F S ps sn id Q ->
  ∃n,(cL cx (cy cx (exec cx n)) ops l F S ps sn id).One fun r=>r.1=none/\Q r.2.1 r.2.2.1 r.2.2.2/\Fx F r.2.1
 |[],F,S,ps,sn,id,Q,_,h=>⟨0,_,rfl,rfl,h,Fx.refl F⟩
 |r::l,F,S,ps,sn,id,Q,hd,h=>by
  have jq:(yX F.n r.o&&nO F.n l)=true:=hd;rw[Bool.and_eq_true]at jq;have e:∀K,cL cx K ops (r::l) F S ps sn id=(match r.cls with
   | .fresh=>match wanted ops F r.o with
    |some true=>match aA cx F id r.o.op with
     |some (v,x)=>cL cx K ops l (bG F r.o.dst v) S (⟨r.i,id,x⟩::ps) sn (Nat.succ id)
     |none=>.err 1001
    |some false=>cL cx K ops l (bG F r.o.dst .undef) S ps sn id
    |none=>.err 1002
   | .yV=>
    av.bind (av.yD (one cx K ops r.o F (bf (fun p=>bit r.dL p.i) ps S))) fun q=>cond q.1 (cond (ew (fun q=>bit q.dL r.i) l) (.ok (some (r.i,q.2.1,q.2.2),F,S,S::sn) []) (.err 1007)) (cL cx K ops l (bG F r.o.dst q.2.1) q.2.2 (jE (fun p=>!bit r.dL p.i) ps) (S::sn) id)
   |_=>match fG cx ops F S r.o with
    |some v=>cL cx K ops l (bG F r.o.dst v) S ps sn id
    |none=>.err 1006):=fun K=>rfl
  have e2:dI cx ops (r::l) F S ps sn id Q=(match r.cls with
  | .fresh=>match aQ ops F r.o.guard with
   |some b=>(b=true->∃v x,aA cx F id r.o.op=some (v,x)/\dI cx ops l (up F r.o.dst v) S (⟨r.i,id,x⟩::ps) sn (id+1) Q)/\(b=false->dI cx ops l (up F r.o.dst .undef) S ps sn id Q)
   |none=>False
  | .yV=>eQ cx ops r.o F (bf (fun p=>bit r.dL p.i) ps S) fun v S'=>dI cx ops l (up F r.o.dst v) S' (jE (fun p=>!bit r.dL p.i) ps) (S::sn) id Q
  |_=>match aQ ops F r.o.guard with
   |some b=>(b=true->∃v S',bj cx F S r.o=.val v S'/\dI cx ops l (up F r.o.dst v) S ps sn id Q)/\(b=false->dI cx ops l (up F r.o.dst .undef) S ps sn id Q)
   |none=>False):=by cases hc:r.cls<;>simp only[dI,hc]
  rw[e2]at h;have rest:∀(v:AV)(S':AS)(ps':List ey)(sn':List AS)(id':Nat),dI cx ops l (up F r.o.dst v) S' ps' sn' id' Q ->
    ∃n,(cL cx (cy cx (exec cx n)) ops l (bG F r.o.dst v) S' ps' sn' id').One fun r=>r.1=none/\Q r.2.1 r.2.2.1 r.2.2.2/\Fx F r.2.1:=by
   intro v S' ps' sn' id' hh;obtain⟨n,h1⟩:=wy (l:=l) (by rw[lS];exact jq.2) hh;rw[nE _ jq.1];exact⟨n,h1.mono fun r hr=>⟨hr.1,hr.2.1,hr.2.2.of_up⟩⟩
  have val:(match aQ ops F r.o.guard with
   |some b=>(b=true->∃v S',bj cx F S r.o=.val v S'/\dI cx ops l (up F r.o.dst v) S ps sn id Q)/\(b=false->dI cx ops l (up F r.o.dst .undef) S ps sn id Q)
   |none=>False)->∃n,(match fG cx ops F S r.o with
    |some v=>cL cx (cy cx (exec cx n)) ops l (bG F r.o.dst v) S ps sn id
    |none=>.err 1006).One fun r=>r.1=none/\Q r.2.1 r.2.2.1 r.2.2.2/\Fx F r.2.1:=by
   intro hh;rw[nI];cases hw:aQ ops F r.o.guard with
   |none=>rw[hw]at hh;exact hh.elim
   |some b=>
    rw[hw]at hh;cases b with
    |true=>
     obtain⟨v,S',h1,h2⟩:=hh.1 rfl;simp only[h1];exact rest _ _ _ _ _ h2
    |false=>exact rest _ _ _ _ _ (hh.2 rfl)
  cases hc:r.cls with
  |pure=>
   rw[hc]at h;obtain⟨n,h1⟩:=val h;exact⟨n,by rw[e,hc];exact h1⟩
  |read=>
   rw[hc]at h;obtain⟨n,h1⟩:=val h;exact⟨n,by rw[e,hc];exact h1⟩
  |fresh=>
   rw[hc]at h;simp only[]at h;cases hw:aQ ops F r.o.guard with
   |none=>rw[hw]at h;exact h.elim
   |some b=>
    rw[hw]at h;cases b with
    |true=>
     obtain⟨v,x,h1,h2⟩:=h.1 rfl;obtain⟨n,h3⟩:=rest _ _ _ _ _ h2;refine⟨n,?_⟩;rw[e,hc];simp only[gP,hw,h1];exact h3
    |false=>
     obtain⟨n,h3⟩:=rest _ _ _ _ _ (h.2 rfl);refine⟨n,?_⟩;rw[e,hc];simp only[gP,hw];exact h3
  |yV=>
   rw[hc]at h;obtain⟨n,q,h1,h0,h2⟩:=one_ok h;obtain⟨m,h3⟩:=rest _ _ _ _ _ h2;refine⟨n+m,?_⟩;rw[e,hc];refine av.One.bind ⟨q,?_,?_⟩
   .have h4:=(one_le (cx:=cx) (K:=cy cx (exec cx n)) (K':=cy cx (exec cx (n+m))) (gC (Nat.le_add_right n m)) ops r.o F _) _ _ h1;rw[h4];rfl
   .simp only[h0,cond_false];exact (ik (K:=cy cx (exec cx m)) (K':=cy cx (exec cx (n+m))) (gC (Nat.le_add_left m n)) ops l _ _ _ _ _).one h3
def winP(cx:Cx)(ops:List Oper)(rows:List Row)(F:Fr)(cd:List AS):Prop:=∀q,q∈rows->eO q.cls=true->kX cx ops rows F cd q=true
def D6(cx:Cx)(ops:List Oper):Option (List Row):=cond (ir ops (settle (dx cx ops))) (some (settle (dx cx ops))) none
def pI(rows:List Row):Nat:=fp (fun r=>bQ r.cls) rows
def sX(cx:Cx)(ops:List Oper)(F:Fr)(S:AS)(Q:Fr->AS->Prop):Prop:=
 match D6 cx ops with
 |some rows=>dI cx ops rows F ⟨S.h,S.next+pI rows⟩ [] [] S.next fun F' S' sn=>winP cx ops rows F' (wz sn)/\Q F' S'
 |none=>False
structure ko(cx:Cx)(ops:List Oper)(F:Fr)(S:AS)(Q:Fr->AS->Prop):Prop where
 run:sX cx ops F S Q
theorem As{cx:Cx}{ops:List Oper}{F:Fr}{S:AS}{Q:Fr->AS->Prop}(hd:nO F.n (settle (dx cx ops))=true)(h:ko cx ops F S Q):
  ∃n,(fb cx (cy cx (exec cx n)) ops F S).One fun r=>r.1=none/\Q r.2.1 r.2.2/\Fx F r.2.1:=by
 replace h:=h.run;unfold sX D6 at h;cases hp:ir ops (settle (dx cx ops))with
 |false=>rw[hp]at h;exact h.elim
 |true=>
  rw[hp]at h;obtain⟨n,r,h1,h0,⟨h2,h3⟩,h4⟩:=wy hd h;refine⟨n,?_⟩;unfold fb;simp only[hp,cond_true];refine av.One.bind ⟨r,h1,?_⟩;have hw:oG cx ops (settle (dx cx ops)) r.2.1 (wz r.2.2.2)=true:=by
   unfold oG;rw[jN,List.all_eq_true];intro q hq;cases hr:eO q.cls with
   |false=>rfl
   |true=>exact h2 q hq hr
  have he:qz cx ops (settle (dx cx ops)) r=.ok (none,r.2.1,r.2.2.1) []:=by
   unfold qz;rw[h0];simp only[];rw[hw];rfl
  show (qz cx ops (settle (dx cx ops)) r).One _;rw[he];exact⟨_,rfl,rfl,h3,h4⟩
def codeOk(cx:Cx)(n:Nat):Code->Bool
 | .region _ ops false=>xM n ops.toList
 | .region _ ops true=>nO n (settle (dx cx ops.toList))
 | .seq a b=>codeOk cx n a&&codeOk cx n b
 | .cond _ a b=>codeOk cx n a&&codeOk cx n b
 | .block _ b=>codeOk cx n b
 | .loop b=>codeOk cx n b
 | .scope b=>codeOk cx n b
 |_=>true
def jo(R:Fr->AS->Prop)(Q:Ex->Fr->AS->Prop):Ex->Fr->AS->Prop
 | .normal,F,S=>R F S
 |e,F,S=>Q e F S
def jh(id:Nat)(Q:Ex->Fr->AS->Prop):Ex->Fr->AS->Prop
 | .exit j,F,S=>if j=id then Q .normal F S else Q (.exit j) F S
 |e,F,S=>Q e F S
def oO(Q:Ex->Fr->AS->Prop):Ex->Fr->AS->Prop
 | .goto _,_,_=>False
 |e,F,S=>Q e F S
def gG(x:AV)(A B:Prop):Prop:=match x with | .bool t=>(t=true->A)/\(t=false->B)|_=>False
def pU(cx:Cx)(b:Code)(F:Fr)(S:AS)(Q:Ex->Fr->AS->Prop):Prop:=codeOk cx F.n b=true->∃n,(exec cx n (.loop b) F S).One fun o=>Q o.ex o.F o.S/\Fx F o.F
def kQ(cx:Cx):Code->Fr->AS->(Ex->Fr->AS->Prop)->Prop
 | .skip,F,S,Q=>Q .normal F S
 | .ret,F,S,Q=>Q .ret F S
 | .exit id,F,S,Q=>Q (.exit id) F S
 | .region _ ops false,F,S,Q=>sD cx ops.toList ops.toList F S (Q .normal)
 | .region _ ops true,F,S,Q=>ko cx ops.toList F S (Q .normal)
 | .seq a b,F,S,Q=>kQ cx a F S (jo (fun F' S'=>kQ cx b F' S' Q) Q)
 | .cond x a b,F,S,Q=>gG (eval F x) (kQ cx a F S Q) (kQ cx b F S Q)
 | .block id b,F,S,Q=>kQ cx b F S (jh id Q)
 | .loop b,F,S,Q=>pU cx b F S Q
 | .scope b,F,S,Q=>kQ cx b F S (oO Q)
 | .label _,F,S,Q=>Q .normal F S
 |_,_,_,_=>False
theorem wpP_ok{cx:Cx}:∀(c:Code){F:Fr}{S:AS}{Q:Ex->Fr->AS->Prop},codeOk cx F.n c=true->kQ cx c F S Q->∃n,(exec cx n c F S).One fun o=>Q o.ex o.F o.S/\Fx F o.F:=by
 intro c
 induction c with
 |skip=>intro F S Q _ h;exact⟨1,_,rfl,h,Fx.refl F⟩
 |ret=>intro F S Q _ h;exact⟨1,_,rfl,h,Fx.refl F⟩
 |exit id=>intro F S Q _ h;exact⟨1,_,rfl,h,Fx.refl F⟩
 |region id ops draw=>
  intro F S Q hc h;cases draw with
  |false=>
   obtain⟨n,h⟩:=tI hc h;refine⟨n+1,?_⟩;show (av.bind (cY cx (cy cx (exec cx n)) ops.toList ops.toList F S) fun r=>match r.1 with
    |none=>.ok (⟨.normal,r.2.1,r.2.2⟩:Out) []
    |some v=>.ok (⟨.dP v,r.2.1,r.2.2⟩:Out) []).One _
   exact av.One.bind (h.mono fun r hr=>by rw[hr.1];exact⟨_,rfl,hr.2⟩)
  |true=>
   obtain⟨n,h⟩:=As hc h;refine⟨n+1,?_⟩;show (av.bind (fb cx (cy cx (exec cx n)) ops.toList F S) fun r=>match r.1 with
    |none=>.ok (⟨.normal,r.2.1,r.2.2⟩:Out) []
    |some v=>.ok (⟨.dP v,r.2.1,r.2.2⟩:Out) []).One _
   exact av.One.bind (h.mono fun r hr=>by rw[hr.1];exact⟨_,rfl,hr.2⟩)
 |seq a b BG uS=>
  intro F S Q hc h;have iO:(codeOk cx F.n a&&codeOk cx F.n b)=true:=hc;rw[Bool.and_eq_true]at iO;obtain⟨n,o,h1,h2,h3⟩:=BG iO.1 h;have h4:∃m,(match o.ex with | .normal=>exec cx m b o.F o.S|_=>.ok o []).One fun o=>Q o.ex o.F o.S/\Fx F o.F:=by
   obtain⟨e,F',S'⟩:=o;cases e with
   |normal=>
    obtain⟨m,h5⟩:=uS (F:=F') (by rw[h3.1];exact iO.2) h2;exact⟨m,h5.mono fun o ho=>⟨ho.1,h3.trans ho.2⟩⟩
   |goto l=>exact⟨0,_,rfl,h2,h3⟩
   |dP v=>exact⟨0,_,rfl,h2,h3⟩
   |exit id=>exact⟨0,_,rfl,h2,h3⟩
   |ret=>exact⟨0,_,rfl,h2,h3⟩
  obtain⟨m,h4⟩:=h4;refine⟨n+m+1,?_⟩;show (av.bind (exec cx (n+m) a F S) fun o=>match o.ex with | .normal=>exec cx (n+m) b o.F o.S|_=>.ok o []).One _;refine av.One.bind ⟨o,cr (Nat.le_add_right n m) a F S _ _ h1,?_⟩;obtain⟨e,F',S'⟩:=o;cases e with
  |normal=>exact (cr (Nat.le_add_left m n) b F' S').one h4
  |goto l=>exact h4
  |dP v=>exact h4
  |exit id=>exact h4
  |ret=>exact h4
 |cond x a b BG uS=>
  intro F S Q hc h;have iO:(codeOk cx F.n a&&codeOk cx F.n b)=true:=hc;rw[Bool.and_eq_true]at iO;have h':gG (eval F x) (kQ cx a F S Q) (kQ cx b F S Q):=h;unfold gG at h';cases hx:eval F x<;>rw[hx]at h'<;>(try exact h'.elim);rename_i t;cases t with
  |true=>
   obtain⟨n,h1⟩:=BG iO.1 (h'.1 rfl);refine⟨n+1,?_⟩;show (match eval F x with | .bool true=>exec cx n a F S | .bool false=>exec cx n b F S|_=>.err 3001).One _;rw[hx];exact h1
  |false=>
   obtain⟨n,h1⟩:=uS iO.2 (h'.2 rfl);refine⟨n+1,?_⟩;show (match eval F x with | .bool true=>exec cx n a F S | .bool false=>exec cx n b F S|_=>.err 3001).One _;rw[hx];exact h1
 |block id b uS=>
  intro F S Q hc h;obtain⟨n,o,h1,h2,h3⟩:=uS hc h;refine⟨n+1,?_⟩;show (av.bind (exec cx n b F S) fun o=>match o.ex with
   | .exit j=>cond (Nat.beq j id) (.ok ⟨.normal,o.F,o.S⟩ []) (.ok o [])
   |_=>.ok o []).One _
  refine av.One.bind ⟨o,h1,?_⟩;obtain⟨e,F',S'⟩:=o;cases e with
  |normal=>exact⟨_,rfl,h2,h3⟩
  |ret=>exact⟨_,rfl,h2,h3⟩
  |goto l=>exact⟨_,rfl,h2,h3⟩
  |dP v=>exact⟨_,rfl,h2,h3⟩
  |exit j=>
   have rH:if j=id then Q .normal F' S' else Q (.exit j) F' S':=h2
   simp only[bF];by_cases hj:j=id
   .rw[if_pos hj]at rH;rw[decide_eq_true hj];exact⟨_,rfl,rH,h3⟩
   .rw[if_neg hj]at rH;rw[decide_eq_false hj];exact⟨_,rfl,rH,h3⟩
 |loop b _=>intro F S Q hc h;exact h hc
 |rangeFunc f p x y _ _=>intro F S Q _ h;exact h.elim
 |scope b uS=>
  intro F S Q hc h;obtain⟨n,o,h1,h2,h3⟩:=uS hc h;refine⟨n+2,?_⟩;show (av.bind (exec cx (n+1) b F S) fun o=>match o.ex with
   | .goto l=>match findLabel b l with
    |some rest=>oP (exec cx (n+1)) b n rest o.F o.S
    |none=>.ok o []
   |_=>.ok o []).One _
  refine av.One.bind ⟨o,cr (Nat.le_succ n) b F S _ _ h1,?_⟩;obtain⟨e,F',S'⟩:=o;cases e with
  |normal=>exact⟨_,rfl,h2,h3⟩
  |ret=>exact⟨_,rfl,h2,h3⟩
  |goto l=>exact h2.elim
  |dP v=>exact⟨_,rfl,h2,h3⟩
  |exit j=>exact⟨_,rfl,h2,h3⟩
 |label l=>intro F S Q _ h;exact⟨1,_,rfl,h,Fx.refl F⟩
 |goto l=>intro F S Q _ h;exact h.elim
 |refuse s=>intro F S Q _ h;exact h.elim
theorem aH{cx:Cx}{b:Code}{F:Fr}{S:AS}{Q:Ex->Fr->AS->Prop}(I:Nat->Fr->AS->Prop)(k:Nat)(h0:I k F S)
  (h:∀(k:Nat)(F':Fr)(S':AS),F'.n=F.n->I k F' S'->kQ cx b F' S' (jo (fun F2 S2=>∃j,j<k/\I j F2 S2) Q)):pU cx b F S Q:=by
 intro hc;have main:∀(k:Nat)(F':Fr)(S':AS),I k F' S'->Fx F F'->∃n,(exec cx n (.loop b) F' S').One fun o=>Q o.ex o.F o.S/\Fx F o.F:=by
  intro k
  induction k using Nat.strongRecOn with
  |ind k ih=>
   intro F' S' hI hn;obtain⟨n,o,h1,h2,h3⟩:=wpP_ok b (by rw[hn.1];exact hc) (h k F' S' hn.1 hI);have h4:∃m,(match o.ex with | .normal=>exec cx m (.loop b) o.F o.S|_=>.ok o []).One fun o=>Q o.ex o.F o.S/\Fx F o.F:=by
    obtain⟨e,F2,S2⟩:=o;cases e with
    |normal=>obtain⟨j,hj,hI2⟩:=h2;exact ih j hj F2 S2 hI2 (hn.trans h3)
    |exit id=>exact⟨0,_,rfl,h2,hn.trans h3⟩
    |ret=>exact⟨0,_,rfl,h2,hn.trans h3⟩
    |goto l=>exact⟨0,_,rfl,h2,hn.trans h3⟩
    |dP v=>exact⟨0,_,rfl,h2,hn.trans h3⟩
   obtain⟨m,h4⟩:=h4;refine⟨n+m+1,?_⟩;show (av.bind (exec cx (n+m) b F' S') fun o=>match o.ex with | .normal=>exec cx (n+m) (.loop b) o.F o.S|_=>.ok o []).One _;refine av.One.bind ⟨o,cr (Nat.le_add_right n m) b F' S' _ _ h1,?_⟩;obtain⟨e,F2,S2⟩:=o;cases e with
   |normal=>exact (cr (Nat.le_add_left m n) (.loop b) F2 S2).one h4
   |goto l=>exact h4
   |dP v=>exact h4
   |exit id=>exact h4
   |ret=>exact h4
 exact main k F S h0 (Fx.refl F)
def E5(r:Option AV)(S:AS)(Q:AV->AS->Prop):Prop:=match r with|some v=>bE v=false/\Q v S|none=>False
def xU(cx:Cx)(fn:Func)(Q:AV->AS->Prop):Ex->Fr->AS->Prop
 | .exit _,_,_=>False
 | .goto _,_,_=>False
 | .dP _,_,_=>False
 |_,F,S=>E5 (j9 cx F S fn.results.toList |>.map fun vs=>match vs with|[v]=>v|vs=>.tuple vs) S Q
theorem nA(cx:Cx)(fn:Func)(F:Fr)(S:AS):b9 cx fn F S=(j9 cx F S fn.results.toList).map fun vs=>match vs with|[v]=>v|vs=>.tuple vs:=by
 unfold b9;cases j9 cx F S fn.results.toList with
 |none=>rfl
 |some vs=>cases vs with
  |nil=>rfl
  |cons v vs=>cases vs<;>rfl
theorem wj(as:List AV)(n t:Nat):sl (kB as n) t=(as[t]?).getD .undef:=by
 unfold sl kB;simp only[vP];by_cases ht:t<as.length
 .rw[if_pos ⟨Nat.zero_le _,by omega⟩,Nat.sub_zero,List.getElem?_eq_getElem ht];rfl
 .rw[if_neg (by omega),fD,List.getElem?_eq_none (by omega)];rfl
theorem BA(as:List AV)(n:Nat):(kB as n).n=as.length+(n-as.length):=by
 unfold kB;simp[bJ]
theorem cl{cx:Cx}{f:FuncId}{fn:Func}{c:Code}{as:List AV}{S:AS}{Q:AV->AS->Prop}(hu:cx.jS.get f=none)(hp:cx.dE.get f=none)(hf:cx.fns.get f=some fn)(hb:fn.body=some c)(hc:codeOk cx fn.ntmps c=true)(hn:as.length<=fn.ntmps)
  (h:∀F:Fr,F.n=fn.ntmps->(∀t,sl F t=(as[t]?).getD .undef)->kQ cx c F S (xU cx fn Q)):ai cx f as S Q:=by
 have fL:(kB as fn.ntmps).n=fn.ntmps:=by rw[BA];omega
 obtain⟨n,o,h1,h2,h3⟩:=wpP_ok c (F:=kB as fn.ntmps) (by rw[fL];exact hc) (h _ fL (wj as _));refine⟨n,?_⟩;unfold call cy qQ fnF;simp only[hu,hp,hf,hb];refine av.One.bind ⟨o,h1,?_⟩;obtain⟨e,F',S'⟩:=o;have qv:F'.ds=[]:=h3.2;have key:E5 (b9 cx fn F' S') S' Q->(ei cx (exec cx n) fn F' F'.ds .ret S').One fun r=>bE r.1=false/\Q r.1 r.2:=by
  intro hk;rw[qv];show (match b9 cx fn F' S' with|some v=>(.ok (v,S') []:av (AV×AS))|none=>.err 2001).One _;cases hv:b9 cx fn F' S' with
  |none=>rw[hv]at hk;exact hk.elim
  |some v=>rw[hv]at hk;exact⟨_,rfl,hk⟩
 have rH:=h2;cases e with
 |normal=>refine key ?_;rw[nA];exact rH
 |ret=>refine key ?_;rw[nA];exact rH
 |exit id=>exact h2.elim
 |goto l=>exact h2.elim
 |dP v=>exact h2.elim
theorem Fw{Λ:LB}{P:Program}{A:Ask}(h:vd P A)(hp:∀x,x∈A.dE->fw Λ P x.1 x.2)(hg:∀x,x∈A.kE->rY Λ.w Λ.B x.1 x.2){ρ:aO}{f:FuncId}{as:List AV}{S:AS}{w:World}{args:Array Value}
  (hR:R Λ ρ S w) (hl:au ρ as args.toList) {Q:AV->AS->Prop} (hc:ai (vf P A) f as S Q) :
  (∃fn,P.funcs[f]?=some fn/\fn.body.isSome=true)/\Calls P f args w fun e w'=>∃x v S' ρ',e=.returned x/\ah ρ' v x/\Q v S'/\R Λ ρ' S' w'/\Kp ρ S w ρ' S' w':=by
 obtain⟨n,hc⟩:=hc;have aC:=cx_ok h hp hg;have hK:=te aC (code_ok aC (E7 aC h.mixed) n).1;refine hK ρ (.fn f) as S w args (fun e w'=>∃x v S' ρ',e=.returned x/\ah ρ' v x/\Q v S'/\R Λ ρ' S' w'/\Kp ρ S w ρ' S' w') (hc.all.mono fun r hr ρ' e w' h1 h2 h3=>?_) hR hl;rcases h1.cases with⟨_,x,rfl,hx⟩|⟨u,x,hu,_,_⟩
 .exact⟨x,r.1,r.2,ρ',rfl,hx,hr.2,h2,h3⟩
 .have:=hr.1;rw[hu]at this;cases this
end Go.Am
end
