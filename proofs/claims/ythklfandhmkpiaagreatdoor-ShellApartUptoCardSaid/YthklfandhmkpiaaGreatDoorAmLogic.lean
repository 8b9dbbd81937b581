/-
  The abstract machine: a logic for its code. What holds behind a run, for values that are not known.
-/
import Derived.Test.YthklfandhmkpiaaGreatDoorAmMono
import Derived.Test.YthklfandhmkpiaaGreatDoorAmTop
open Bool renaming and_eq_true->zza
open Nat renaming le_add_right->zzb,le_add_left->zzc
noncomputable section
namespace Go.Am
open Go Go.RowKit
def sl(F:Fr)(t:Nat):AV:=match F.t.get t with|some v=>v|none=>.undef
def up(F:Fr)(d:Option Nat)(v:AV):Fr:=match d with|some d=>⟨F.t.set d v,F.n,F.ds⟩|none=>F
theorem sl_up(F:Fr)(d e:Nat)(v:AV):sl (up F (some d) v) e=if e=d then v else sl F e:=by
 unfold sl up;by_cases h:e=d
 .subst h;simp only[get_set_same,if_true]
 .simp only[ah _ _ h,if_neg h]
theorem up_none(F:Fr)(v:AV):up F none v=F:=rfl
theorem vh(F:Fr)(d:Option Nat)(v:AV):(up F d v).n=F.n:=by cases d<;>rfl
theorem ds_up(F:Fr)(d:Option Nat)(v:AV):(up F d v).ds=F.ds:=by cases d<;>rfl
theorem aA(F:Fr)(t:Nat):eval F (.tmp t)=sl F t:=mv F t
theorem eval_const(F:Fr)(v:Value):eval F (.const v)=ofV v:=rfl
theorem eval_func(F:Fr)(f:Nat):eval F (.func f)=.func (.func f) [] []:=rfl
theorem eval_global(F:Fr)(g:Nat):eval F (.global g)=.kM g 0:=rfl
theorem ofV_bool(b:Bool):ofV (.bool b)=.bool b:=rfl
theorem ofV_int(k:IntKind)(n:Int):ofV (.int k n)=.int k n:=rfl
theorem ofV_string(s:ByteArray):ofV (.string s)=.str (s.data.toList.map UInt8.toNat):=by
 show AV.str (jt UInt8.toNat s.data.toList)=_;rw[fZ]
theorem ofV_nilp:ofV (.pointer none)=.cT:=rfl
theorem ofV_nils:ofV (.slice none 0 0)=.ar:=rfl
theorem ofV_nilm:ofV (.map none)=.jb:=rfl
theorem ofV_nilf:ofV .nilFunc=.kI:=rfl
theorem ofV_niface:ofV .nilIface=.bS:=rfl
def aC.One{α:Type}(r:aC α)(p:α->Prop):Prop:=∃x,r=.ok x []/\p x
theorem aC.One.mono{α:Type}{r:aC α}{p q:α->Prop}(h:r.One p)(k:∀x,p x->q x):r.One q:=let ⟨x,e,hx⟩:=h;⟨x,e,k x hx⟩
theorem aC.One.bind{α β:Type}{r:aC α}{f:α->aC β}{p:β->Prop}(h:r.One fun x=>(f x).One p):(aC.bind r f).One p:=by
 obtain⟨x,rfl,h⟩:=h;exact h
theorem aC.One.all{α:Type}{r:aC α}{p:α->Prop}(h:r.One p):r.iQ p:=by
 obtain⟨x,rfl,h⟩:=h;exact⟨h,fun y hy=>by cases hy⟩
theorem aC.Le.one{α:Type}{r r':aC α}(h:aC.Le r r'){p:α->Prop}(k:r.One p):r'.One p:=let ⟨x,e,hx⟩:=k;⟨x,h x [] e,hx⟩
def dH(v:AV):Bool:=match v with | .eQ _=>true|_=>false
theorem retR_val{r:AV×AS}(h:dH r.1=false):rU r=.ok (false,r.1,r.2) []:=by
 obtain⟨v,S⟩:=r;cases v<;>first|rfl|cases h
def az(cx:Cx)(f:FuncId)(as:List AV)(S:AS)(Q:AV->AS->Prop):Prop:=∃n,(call cx n f as S).One fun r=>dH r.1=false/\Q r.1 r.2
theorem az.mono{cx:Cx}{f:FuncId}{as:List AV}{S:AS}{Q Q':AV->AS->Prop}(h:az cx f as S Q)(k:∀v S',Q v S'->Q' v S'):az cx f as S Q':=by
 obtain⟨n,h⟩:=h;exact⟨n,h.mono fun r hr=>⟨hr.1,k _ _ hr.2⟩⟩
theorem ql{cx:Cx}{f:FuncId}{q:List AV->AS->Option (AV×AS)}{as:List AV}{S S':AS}{v:AV}{Q:AV->AS->Prop}(h:cx.fi.get f=some q)(hu:cx.kU.get f=none)(hq:q as S=some (v,S'))(hn:dH v=false):az cx f as S Q=Q v S':=by
 have e:∀n,call cx n f as S=.ok (v,S') []:=by
  intro n;unfold call cD tf fnF;simp only[hu,h,hq]
 apply propext;constructor
 .rintro⟨n,r,e1,hr⟩;rw[e n]at e1;cases e1;exact hr.2
 .intro hh;exact⟨0,_,e 0,hn,hh⟩
def bQ(ops:List Oper)(F:Fr)(g:Option (Nat×Bool)):Option Bool:=
 match g with
 |none=>some true
 |some (j,want)=>match ops[j]? with
  |some p=>match p.dst with
   |some d=>match sl F d with
    | .bool b=>some (cond want b (!b))
    | .top=>none
    |_=>some false
   |none=>some false
  |none=>some false
theorem nT(ops:List Oper)(F:Fr)(o:Oper):wanted ops F o=bQ ops F o.guard:=by
 unfold wanted bQ;cases o.guard with
 |none=>rfl
 |some jw=>
  obtain⟨j,w⟩:=jw;simp only[gq];cases ops[j]? with
  |none=>rfl
  |some p=>
   simp only[];cases p.dst with
   |none=>rfl
   |some d=>
    simp only[sl];cases F.t.get d with
    |none=>rfl
    |some v=>cases v<;>rfl
def qI(cx:Cx)(r:AR)(K:AV->AS->Prop):Prop:=
 match r with
 | .val v S'=>K v S'
 | .enter f as S'=>az cx f as S' K
 |_=>False
def eX(cx:Cx)(ops:List Oper)(o:Oper)(F:Fr)(S:AS)(K:AV->AS->Prop):Prop:=
 match bQ ops F o.guard with
 |some b=>(b=true->qI cx (bE cx F S o) K)/\(b=false->K .undef S)
 |none=>False
def qU(cx:Cx)(ops:List Oper):List Oper->Fr->AS->(Fr->AS->Prop)->Prop
 |[],F,S,Q=>Q F S
 |o::l,F,S,Q=>eX cx ops o F S fun v S'=>qU cx ops l (up F o.dst v) S' Q
def DZ(n:Nat)(o:Oper):Bool:=match o.dst with|some d=>Nat.blt d n|none=>true
def dstOk(n:Nat)(l:List Oper):Bool:=l.all (DZ n)
theorem As{F:Fr}{o:Oper}(v:AV)(h:DZ F.n o=true):bw F o.dst v=up F o.dst v:=by
 unfold DZ at h;cases hd:o.dst with
 |none=>rfl
 |some d=>rw[hd]at h;simp only at h;rw[jP,h];rfl
theorem one_ok{cx:Cx}{ops:List Oper}{o:Oper}{F:Fr}{S:AS}{K:AV->AS->Prop}(h:eX cx ops o F S K):∃n,(one cx (cD cx (exec cx n)) ops o F S).One fun r=>r.1=false/\K r.2.1 r.2.2:=by
 unfold eX at h;unfold one;rw[nT];cases hw:bQ ops F o.guard with
 |none=>rw[hw]at h;exact h.elim
 |some b=>
  rw[hw]at h;cases b with
  |true=>
   have h1:=h.1 rfl;unfold qI at h1;simp only[];cases ha:bE cx F S o with
   |val v S'=>rw[ha]at h1;exact⟨0,_,rfl,rfl,h1⟩
   |round f as S'=>rw[ha]at h1;exact h1.elim
   |eQ v S'=>rw[ha]at h1;exact h1.elim
   |many l=>rw[ha]at h1;exact h1.elim
   |enter f as S'=>
    rw[ha]at h1;obtain⟨n,r,e1,e2,e3⟩:=h1;refine⟨n,(false,r.1,r.2),?_,rfl,e3⟩;have e4:cD cx (exec cx n) (.fn f) as S'=.ok r []:=e1;simp only[e4];exact retR_val e2
   |err n=>rw[ha]at h1;exact h1.elim
  |false=>exact⟨0,_,rfl,rfl,h.2 rfl⟩
theorem aop_defer{cx:Cx}{F:Fr}{S:AS}{o:Oper}{c:Call}(h:dW o=some c):∃n,bE cx F S o=.err n:=by
 obtain⟨dst,op,ty,pos,after,guard⟩:=o;cases op<;>first|(cases h;done)|exact⟨_,rfl⟩
def Fx(F F':Fr):Prop:=F'.n=F.n/\F'.ds=F.ds
theorem Fx.refl(F:Fr):Fx F F:=⟨rfl,rfl⟩
theorem Fx.trans{F F' F'':Fr}(h:Fx F F')(k:Fx F' F''):Fx F F'':=⟨k.1.trans h.1,k.2.trans h.2⟩
theorem Fx.of_up{F F':Fr}{d:Option Nat}{v:AV}(h:Fx (up F d v) F'):Fx F F':=⟨h.1.trans (vh F d v),h.2.trans (ds_up F d v)⟩
theorem rR{cx:Cx}{ops:List Oper}:∀{l:List Oper}{F:Fr}{S:AS}{Q:Fr->AS->Prop},dstOk F.n l=true->qU cx ops l F S Q ->
  ∃n,(cP cx (cD cx (exec cx n)) ops l F S).One fun r=>r.1=none/\Q r.2.1 r.2.2/\Fx F r.2.1
 |[],F,S,Q,_,h=>⟨0,_,rfl,rfl,h,Fx.refl F⟩
 |o::l,F,S,Q,hd,h=>by
  have mF:(DZ F.n o&&dstOk F.n l)=true:=hd;rw[zza]at mF;have hs:eX cx ops o F S fun v S'=>qU cx ops l (up F o.dst v) S' Q:=h;have hun:∀K,cP cx K ops (o::l) F S=(match dW o with
   |none=>aC.bind (one cx K ops o F S) fun r=>cond r.1 (.ok (some r.2.1,F,r.2.2) []) (cP cx K ops l (bw F o.dst r.2.1) r.2.2)
   |some c=>match wanted ops F o with
    |some true=>match lE F c with
     |some d=>cP cx K ops l (bw ⟨F.t,F.n,d::F.ds⟩ o.dst .undef) S
     |none=>.err 1009
    |some false=>cP cx K ops l (bw F o.dst .undef) S
    |none=>.err 1010):=fun K=>rfl
  cases hdf:dW o with
  |some c=>
   unfold eX at hs;cases hw:bQ ops F o.guard with
   |none=>rw[hw]at hs;exact hs.elim
   |some b=>
    rw[hw]at hs;cases b with
    |true=>
     obtain⟨m,hm⟩:=aop_defer (cx:=cx) (F:=F) (S:=S) hdf;have h1:=hs.1 rfl;rw[hm]at h1;exact h1.elim
    |false=>
     obtain⟨m,h3⟩:=rR (l:=l) (by rw[vh];exact mF.2) (hs.2 rfl);refine⟨m,?_⟩;rw[hun,hdf];simp only[nT,hw];rw[As _ mF.1];exact h3.mono fun r hr=>⟨hr.1,hr.2.1,hr.2.2.of_up⟩
  |none=>
   obtain⟨n,r,h1,h0,h2⟩:=one_ok hs;obtain⟨m,h3⟩:=rR (l:=l) (by rw[vh];exact mF.2) h2;refine⟨n+m,?_⟩;rw[hun,hdf];simp only[];refine aC.One.bind ⟨r,(one_le (cx:=cx) (K:=cD cx (exec cx n)) (K':=cD cx (exec cx (n+m))) (jS (zzb n m)) ops o F S) _ _ h1,?_⟩;simp only[h0,cond_false];rw[As _ mF.1];exact ((lW (K:=cD cx (exec cx m)) (K':=cD cx (exec cx (n+m))) (jS (zzc m n)) ops l _ _).one h3).mono fun r hr=>⟨hr.1,hr.2.1,hr.2.2.of_up⟩
def dU(cx:Cx)(ops:List Oper):List Row->Fr->AS->List dD->List AS->Nat->(Fr->AS->List AS->Prop)->Prop
 |[],F,S,ps,sn,_,Q=>Q F (bB (fun _=>true) ps S) (S::sn)
 |r::l,F,S,ps,sn,id,Q=>
  match r.cls with
  | .fresh=>match bQ ops F r.o.guard with
   |some b=>(b=true->∃v x,aO cx F id r.o.op=some (v,x)/\dU cx ops l (up F r.o.dst v) S (⟨r.i,id,x⟩::ps) sn (id+1) Q)/\(b=false->dU cx ops l (up F r.o.dst .undef) S ps sn id Q)
   |none=>False
  | .vU=>eX cx ops r.o F (bB (fun p=>bit r.dy p.i) ps S) fun v S'=>dU cx ops l (up F r.o.dst v) S' (gr (fun p=>!bit r.dy p.i) ps) (S::sn) id Q
  |_=>match bQ ops F r.o.guard with
   |some b=>(b=true->∃v S',bE cx F S r.o=.val v S'/\dU cx ops l (up F r.o.dst v) S ps sn id Q)/\(b=false->dU cx ops l (up F r.o.dst .undef) S ps sn id Q)
   |none=>False
theorem mU(cx:Cx)(ops:List Oper)(F:Fr)(S:AS)(o:Oper):fa cx ops F S o=(match bQ ops F o.guard with
  |some true=>match bE cx F S o with
   | .val v _=>some v
   |_=>none
  |some false=>some .undef
  |none=>none):=by
 unfold fa;rw[nT];rfl
def nq(n:Nat)(l:List Row):Bool:=l.all fun r=>DZ n r.o
theorem uS{cx:Cx}{ops:List Oper}:∀{l:List Row}{F:Fr}{S:AS}{ps:List dD}{sn:List AS}{id:Nat}{Q:Fr->AS->List AS->Prop},nq F.n l=true->dU cx ops l F S ps sn id Q ->
  ∃n,(bz cx (cD cx (exec cx n)) ops l F S ps sn id).One fun r=>r.1=none/\Q r.2.1 r.2.2.1 r.2.2.2/\Fx F r.2.1
 |[],F,S,ps,sn,id,Q,_,h=>⟨0,_,rfl,rfl,h,Fx.refl F⟩
 |r::l,F,S,ps,sn,id,Q,hd,h=>by
  have mF:(DZ F.n r.o&&nq F.n l)=true:=hd;rw[zza]at mF;have e:∀K,bz cx K ops (r::l) F S ps sn id=(match r.cls with
   | .fresh=>match wanted ops F r.o with
    |some true=>match aO cx F id r.o.op with
     |some (v,x)=>bz cx K ops l (bw F r.o.dst v) S (⟨r.i,id,x⟩::ps) sn (Nat.succ id)
     |none=>.err 1001
    |some false=>bz cx K ops l (bw F r.o.dst .undef) S ps sn id
    |none=>.err 1002
   | .vU=>
    aC.bind (aC.tI (one cx K ops r.o F (bB (fun p=>bit r.dy p.i) ps S))) fun q=>cond q.1 (cond (gS (fun q=>bit q.dy r.i) l) (.ok (some (r.i,q.2.1,q.2.2),F,S,S::sn) []) (.err 1007)) (bz cx K ops l (bw F r.o.dst q.2.1) q.2.2 (gr (fun p=>!bit r.dy p.i) ps) (S::sn) id)
   |_=>match fa cx ops F S r.o with
    |some v=>bz cx K ops l (bw F r.o.dst v) S ps sn id
    |none=>.err 1006):=fun K=>rfl
  have e2:dU cx ops (r::l) F S ps sn id Q=(match r.cls with
  | .fresh=>match bQ ops F r.o.guard with
   |some b=>(b=true->∃v x,aO cx F id r.o.op=some (v,x)/\dU cx ops l (up F r.o.dst v) S (⟨r.i,id,x⟩::ps) sn (id+1) Q)/\(b=false->dU cx ops l (up F r.o.dst .undef) S ps sn id Q)
   |none=>False
  | .vU=>eX cx ops r.o F (bB (fun p=>bit r.dy p.i) ps S) fun v S'=>dU cx ops l (up F r.o.dst v) S' (gr (fun p=>!bit r.dy p.i) ps) (S::sn) id Q
  |_=>match bQ ops F r.o.guard with
   |some b=>(b=true->∃v S',bE cx F S r.o=.val v S'/\dU cx ops l (up F r.o.dst v) S ps sn id Q)/\(b=false->dU cx ops l (up F r.o.dst .undef) S ps sn id Q)
   |none=>False):=by cases hc:r.cls<;>simp only[dU,hc]
  rw[e2]at h;have rest:∀(v:AV)(S':AS)(ps':List dD)(Ft:List AS)(vA:Nat),dU cx ops l (up F r.o.dst v) S' ps' Ft vA Q ->
    ∃n,(bz cx (cD cx (exec cx n)) ops l (bw F r.o.dst v) S' ps' Ft vA).One fun r=>r.1=none/\Q r.2.1 r.2.2.1 r.2.2.2/\Fx F r.2.1:=by
   intro v S' ps' Ft vA hh;obtain⟨n,h1⟩:=uS (l:=l) (by rw[vh];exact mF.2) hh;rw[As _ mF.1];exact⟨n,h1.mono fun r hr=>⟨hr.1,hr.2.1,hr.2.2.of_up⟩⟩
  have val:(match bQ ops F r.o.guard with
   |some b=>(b=true->∃v S',bE cx F S r.o=.val v S'/\dU cx ops l (up F r.o.dst v) S ps sn id Q)/\(b=false->dU cx ops l (up F r.o.dst .undef) S ps sn id Q)
   |none=>False)->∃n,(match fa cx ops F S r.o with
    |some v=>bz cx (cD cx (exec cx n)) ops l (bw F r.o.dst v) S ps sn id
    |none=>.err 1006).One fun r=>r.1=none/\Q r.2.1 r.2.2.1 r.2.2.2/\Fx F r.2.1:=by
   intro hh;rw[mU];cases hw:bQ ops F r.o.guard with
   |none=>rw[hw]at hh;exact hh.elim
   |some b=>
    rw[hw]at hh;cases b with
    |true=>
     obtain⟨v,S',h1,h2⟩:=hh.1 rfl;simp only[h1];exact rest _ _ _ _ _ h2
    |false=>exact rest _ _ _ _ _ (hh.2 rfl)
  cases hc:r.cls with
  |pure=>
   rw[hc]at h;obtain⟨n,h1⟩:=val h;exact⟨n,by rw[e,hc];exact h1⟩
  |read=>
   rw[hc]at h;obtain⟨n,h1⟩:=val h;exact⟨n,by rw[e,hc];exact h1⟩
  |fresh=>
   rw[hc]at h;simp only[]at h;cases hw:bQ ops F r.o.guard with
   |none=>rw[hw]at h;exact h.elim
   |some b=>
    rw[hw]at h;cases b with
    |true=>
     obtain⟨v,x,h1,h2⟩:=h.1 rfl;obtain⟨n,h3⟩:=rest _ _ _ _ _ h2;refine⟨n,?_⟩;rw[e,hc];simp only[nT,hw,h1];exact h3
    |false=>
     obtain⟨n,h3⟩:=rest _ _ _ _ _ (h.2 rfl);refine⟨n,?_⟩;rw[e,hc];simp only[nT,hw];exact h3
  |vU=>
   rw[hc]at h;obtain⟨n,q,h1,h0,h2⟩:=one_ok h;obtain⟨m,h3⟩:=rest _ _ _ _ _ h2;refine⟨n+m,?_⟩;rw[e,hc];refine aC.One.bind ⟨q,?_,?_⟩
   .have h4:=(one_le (cx:=cx) (K:=cD cx (exec cx n)) (K':=cD cx (exec cx (n+m))) (jS (zzb n m)) ops r.o F _) _ _ h1;rw[h4];rfl
   .simp only[h0,cond_false];exact (gE (K:=cD cx (exec cx m)) (K':=cD cx (exec cx (n+m))) (jS (zzc m n)) ops l _ _ _ _ _).one h3
def winP(cx:Cx)(ops:List Oper)(rows:List Row)(F:Fr)(aL:List AS):Prop:=∀q,q∈rows->eC q.cls=true->hX cx ops rows F aL q=true
def CM(cx:Cx)(ops:List Oper):Option (List Row):=cond (gp ops (settle (dw cx ops))) (some (settle (dw cx ops))) none
def oC(rows:List Row):Nat:=eD (fun r=>bU r.cls) rows
def ru(cx:Cx)(ops:List Oper)(F:Fr)(S:AS)(Q:Fr->AS->Prop):Prop:=
 match CM cx ops with
 |some rows=>dU cx ops rows F ⟨S.h,S.nx+oC rows⟩ [] [] S.nx fun F' S' sn=>winP cx ops rows F' (rT sn)/\Q F' S'
 |none=>False
structure lD(cx:Cx)(ops:List Oper)(F:Fr)(S:AS)(Q:Fr->AS->Prop):Prop where
 run:ru cx ops F S Q
theorem drawn_ok1{cx:Cx}{ops:List Oper}{F:Fr}{S:AS}{Q:Fr->AS->Prop}(hd:nq F.n (settle (dw cx ops))=true)(h:lD cx ops F S Q):
  ∃n,(eg cx (cD cx (exec cx n)) ops F S).One fun r=>r.1=none/\Q r.2.1 r.2.2/\Fx F r.2.1:=by
 replace h:=h.run;unfold ru CM at h;cases hp:gp ops (settle (dw cx ops))with
 |false=>rw[hp]at h;exact h.elim
 |true=>
  rw[hp]at h;obtain⟨n,r,h1,h0,⟨h2,h3⟩,h4⟩:=uS hd h;refine⟨n,?_⟩;unfold eg;simp only[hp,cond_true];refine aC.One.bind ⟨r,h1,?_⟩;have hw:lj cx ops (settle (dw cx ops)) r.2.1 (rT r.2.2.2)=true:=by
   unfold lj;rw[iU,List.all_eq_true];intro q hq;cases hr:eC q.cls with
   |false=>rfl
   |true=>exact h2 q hq hr
  have he:kY cx ops (settle (dw cx ops)) r=.ok (none,r.2.1,r.2.2.1) []:=by
   unfold kY;rw[h0];simp only[];rw[hw];rfl
  show (kY cx ops (settle (dw cx ops)) r).One _;rw[he];exact⟨_,rfl,rfl,h3,h4⟩
def codeOk(cx:Cx)(n:Nat):Code->Bool
 | .region _ ops false=>dstOk n ops.toList
 | .region _ ops true=>nq n (settle (dw cx ops.toList))
 | .seq a b=>codeOk cx n a&&codeOk cx n b
 | .cond _ a b=>codeOk cx n a&&codeOk cx n b
 | .block _ b=>codeOk cx n b
 | .loop b=>codeOk cx n b
 | .scope b=>codeOk cx n b
 |_=>true
def n0(R:Fr->AS->Prop)(Q:Ex->Fr->AS->Prop):Ex->Fr->AS->Prop
 | .normal,F,S=>R F S
 |e,F,S=>Q e F S
def oG(id:Nat)(Q:Ex->Fr->AS->Prop):Ex->Fr->AS->Prop
 | .exit j,F,S=>if j=id then Q .normal F S else Q (.exit j) F S
 |e,F,S=>Q e F S
def od(Q:Ex->Fr->AS->Prop):Ex->Fr->AS->Prop
 | .goto _,_,_=>False
 |e,F,S=>Q e F S
def jE(x:AV)(A B:Prop):Prop:=match x with | .bool t=>(t=true->A)/\(t=false->B)|_=>False
def tG(cx:Cx)(b:Code)(F:Fr)(S:AS)(Q:Ex->Fr->AS->Prop):Prop:=codeOk cx F.n b=true->∃n,(exec cx n (.loop b) F S).One fun o=>Q o.ex o.F o.S/\Fx F o.F
def kE(cx:Cx):Code->Fr->AS->(Ex->Fr->AS->Prop)->Prop
 | .skip,F,S,Q=>Q .normal F S
 | .ret,F,S,Q=>Q .ret F S
 | .exit id,F,S,Q=>Q (.exit id) F S
 | .region _ ops false,F,S,Q=>qU cx ops.toList ops.toList F S (Q .normal)
 | .region _ ops true,F,S,Q=>lD cx ops.toList F S (Q .normal)
 | .seq a b,F,S,Q=>kE cx a F S (n0 (fun F' S'=>kE cx b F' S' Q) Q)
 | .cond x a b,F,S,Q=>jE (eval F x) (kE cx a F S Q) (kE cx b F S Q)
 | .block id b,F,S,Q=>kE cx b F S (oG id Q)
 | .loop b,F,S,Q=>tG cx b F S Q
 | .scope b,F,S,Q=>kE cx b F S (od Q)
 | .label _,F,S,Q=>Q .normal F S
 |_,_,_,_=>False
theorem wpP_ok{cx:Cx}:∀(c:Code){F:Fr}{S:AS}{Q:Ex->Fr->AS->Prop},codeOk cx F.n c=true->kE cx c F S Q->∃n,(exec cx n c F S).One fun o=>Q o.ex o.F o.S/\Fx F o.F:=by
 intro c
 induction c with
 |skip=>intro F S Q _ h;exact⟨1,_,rfl,h,Fx.refl F⟩
 |ret=>intro F S Q _ h;exact⟨1,_,rfl,h,Fx.refl F⟩
 |exit id=>intro F S Q _ h;exact⟨1,_,rfl,h,Fx.refl F⟩
 |region id ops draw=>
  intro F S Q hc h;cases draw with
  |false=>
   obtain⟨n,h⟩:=rR hc h;refine⟨n+1,?_⟩;show (aC.bind (cP cx (cD cx (exec cx n)) ops.toList ops.toList F S) fun r=>match r.1 with
    |none=>.ok (⟨.normal,r.2.1,r.2.2⟩:Out) []
    |some v=>.ok (⟨.eQ v,r.2.1,r.2.2⟩:Out) []).One _
   exact aC.One.bind (h.mono fun r hr=>by rw[hr.1];exact⟨_,rfl,hr.2⟩)
  |true=>
   obtain⟨n,h⟩:=drawn_ok1 hc h;refine⟨n+1,?_⟩;show (aC.bind (eg cx (cD cx (exec cx n)) ops.toList F S) fun r=>match r.1 with
    |none=>.ok (⟨.normal,r.2.1,r.2.2⟩:Out) []
    |some v=>.ok (⟨.eQ v,r.2.1,r.2.2⟩:Out) []).One _
   exact aC.One.bind (h.mono fun r hr=>by rw[hr.1];exact⟨_,rfl,hr.2⟩)
 |seq a b iha Dl=>
  intro F S Q hc h;have kK:(codeOk cx F.n a&&codeOk cx F.n b)=true:=hc;rw[zza]at kK;obtain⟨n,o,h1,h2,h3⟩:=iha kK.1 h;have h4:∃m,(match o.ex with | .normal=>exec cx m b o.F o.S|_=>.ok o []).One fun o=>Q o.ex o.F o.S/\Fx F o.F:=by
   obtain⟨e,F',S'⟩:=o;cases e with
   |normal=>
    obtain⟨m,h5⟩:=Dl (F:=F') (by rw[h3.1];exact kK.2) h2;exact⟨m,h5.mono fun o ho=>⟨ho.1,h3.trans ho.2⟩⟩
   |goto l=>exact⟨0,_,rfl,h2,h3⟩
   |eQ v=>exact⟨0,_,rfl,h2,h3⟩
   |exit id=>exact⟨0,_,rfl,h2,h3⟩
   |ret=>exact⟨0,_,rfl,h2,h3⟩
  obtain⟨m,h4⟩:=h4;refine⟨n+m+1,?_⟩;show (aC.bind (exec cx (n+m) a F S) fun o=>match o.ex with | .normal=>exec cx (n+m) b o.F o.S|_=>.ok o []).One _;refine aC.One.bind ⟨o,jR (zzb n m) a F S _ _ h1,?_⟩;obtain⟨e,F',S'⟩:=o;cases e with
  |normal=>exact (jR (zzc m n) b F' S').one h4
  |goto l=>exact h4
  |eQ v=>exact h4
  |exit id=>exact h4
  |ret=>exact h4
 |cond x a b iha Dl=>
  intro F S Q hc h;have kK:(codeOk cx F.n a&&codeOk cx F.n b)=true:=hc;rw[zza]at kK;have h':jE (eval F x) (kE cx a F S Q) (kE cx b F S Q):=h;unfold jE at h';cases hx:eval F x<;>rw[hx]at h'<;>(try exact h'.elim);rename_i t;cases t with
  |true=>
   obtain⟨n,h1⟩:=iha kK.1 (h'.1 rfl);refine⟨n+1,?_⟩;show (match eval F x with | .bool true=>exec cx n a F S | .bool false=>exec cx n b F S|_=>.err 3001).One _;rw[hx];exact h1
  |false=>
   obtain⟨n,h1⟩:=Dl kK.2 (h'.2 rfl);refine⟨n+1,?_⟩;show (match eval F x with | .bool true=>exec cx n a F S | .bool false=>exec cx n b F S|_=>.err 3001).One _;rw[hx];exact h1
 |block id b Dl=>
  intro F S Q hc h;obtain⟨n,o,h1,h2,h3⟩:=Dl hc h;refine⟨n+1,?_⟩;show (aC.bind (exec cx n b F S) fun o=>match o.ex with
   | .exit j=>cond (Nat.beq j id) (.ok ⟨.normal,o.F,o.S⟩ []) (.ok o [])
   |_=>.ok o []).One _
  refine aC.One.bind ⟨o,h1,?_⟩;obtain⟨e,F',S'⟩:=o;cases e with
  |normal=>exact⟨_,rfl,h2,h3⟩
  |ret=>exact⟨_,rfl,h2,h3⟩
  |goto l=>exact⟨_,rfl,h2,h3⟩
  |eQ v=>exact⟨_,rfl,h2,h3⟩
  |exit j=>
   have DF:if j=id then Q .normal F' S' else Q (.exit j) F' S':=h2
   simp only[bC];by_cases hj:j=id
   .rw[if_pos hj]at DF;rw[decide_eq_true hj];exact⟨_,rfl,DF,h3⟩
   .rw[if_neg hj]at DF;rw[decide_eq_false hj];exact⟨_,rfl,DF,h3⟩
 |loop b _=>intro F S Q hc h;exact h hc
 |rangeFunc f p x y _ _=>intro F S Q _ h;exact h.elim
 |scope b Dl=>
  intro F S Q hc h;obtain⟨n,o,h1,h2,h3⟩:=Dl hc h;refine⟨n+2,?_⟩;show (aC.bind (exec cx (n+1) b F S) fun o=>match o.ex with
   | .goto l=>match findLabel b l with
    |some rest=>mO (exec cx (n+1)) b n rest o.F o.S
    |none=>.ok o []
   |_=>.ok o []).One _
  refine aC.One.bind ⟨o,jR (Nat.le_succ n) b F S _ _ h1,?_⟩;obtain⟨e,F',S'⟩:=o;cases e with
  |normal=>exact⟨_,rfl,h2,h3⟩
  |ret=>exact⟨_,rfl,h2,h3⟩
  |goto l=>exact h2.elim
  |eQ v=>exact⟨_,rfl,h2,h3⟩
  |exit j=>exact⟨_,rfl,h2,h3⟩
 |label l=>intro F S Q _ h;exact⟨1,_,rfl,h,Fx.refl F⟩
 |goto l=>intro F S Q _ h;exact h.elim
 |refuse s=>intro F S Q _ h;exact h.elim
theorem aW{cx:Cx}{b:Code}{F:Fr}{S:AS}{Q:Ex->Fr->AS->Prop}(I:Nat->Fr->AS->Prop)(k:Nat)(h0:I k F S)
  (h:∀(k:Nat)(F':Fr)(S':AS),F'.n=F.n->I k F' S'->kE cx b F' S' (n0 (fun F2 S2=>∃j,j<k/\I j F2 S2) Q)):tG cx b F S Q:=by
 intro hc;have main:∀(k:Nat)(F':Fr)(S':AS),I k F' S'->Fx F F'->∃n,(exec cx n (.loop b) F' S').One fun o=>Q o.ex o.F o.S/\Fx F o.F:=by
  intro k
  induction k using Nat.strongRecOn with
  |ind k ih=>
   intro F' S' hI hn;obtain⟨n,o,h1,h2,h3⟩:=wpP_ok b (by rw[hn.1];exact hc) (h k F' S' hn.1 hI);have h4:∃m,(match o.ex with | .normal=>exec cx m (.loop b) o.F o.S|_=>.ok o []).One fun o=>Q o.ex o.F o.S/\Fx F o.F:=by
    obtain⟨e,F2,S2⟩:=o;cases e with
    |normal=>obtain⟨j,hj,hI2⟩:=h2;exact ih j hj F2 S2 hI2 (hn.trans h3)
    |exit id=>exact⟨0,_,rfl,h2,hn.trans h3⟩
    |ret=>exact⟨0,_,rfl,h2,hn.trans h3⟩
    |goto l=>exact⟨0,_,rfl,h2,hn.trans h3⟩
    |eQ v=>exact⟨0,_,rfl,h2,hn.trans h3⟩
   obtain⟨m,h4⟩:=h4;refine⟨n+m+1,?_⟩;show (aC.bind (exec cx (n+m) b F' S') fun o=>match o.ex with | .normal=>exec cx (n+m) (.loop b) o.F o.S|_=>.ok o []).One _;refine aC.One.bind ⟨o,jR (zzb n m) b F' S' _ _ h1,?_⟩;obtain⟨e,F2,S2⟩:=o;cases e with
   |normal=>exact (jR (zzc m n) (.loop b) F2 S2).one h4
   |goto l=>exact h4
   |eQ v=>exact h4
   |exit id=>exact h4
   |ret=>exact h4
 exact main k F S h0 (Fx.refl F)
def endP(r:Option AV)(S:AS)(Q:AV->AS->Prop):Prop:=match r with|some v=>dH v=false/\Q v S|none=>False
def zA(cx:Cx)(fn:Func)(Q:AV->AS->Prop):Ex->Fr->AS->Prop
 | .exit _,_,_=>False
 | .goto _,_,_=>False
 | .eQ _,_,_=>False
 |_,F,S=>endP (nI cx F S fn.results.toList |>.map fun vs=>match vs with|[v]=>v|vs=>.tuple vs) S Q
theorem qK(cx:Cx)(fn:Func)(F:Fr)(S:AS):di cx fn F S=(nI cx F S fn.results.toList).map fun vs=>match vs with|[v]=>v|vs=>.tuple vs:=by
 unfold di;cases nI cx F S fn.results.toList with
 |none=>rfl
 |some vs=>cases vs with
  |nil=>rfl
  |cons v vs=>cases vs<;>rfl
theorem sl_initF(as:List AV)(n t:Nat):sl (ou as n) t=(as[t]?).getD .undef:=by
 unfold sl ou;simp only[ui];by_cases ht:t<as.length
 .rw[if_pos ⟨Nat.zero_le _,by omega⟩,Nat.sub_zero,List.getElem?_eq_getElem ht];rfl
 .rw[if_neg (by omega),fj,List.getElem?_eq_none (by omega)];rfl
theorem n_initF(as:List AV)(n:Nat):(ou as n).n=as.length+(n-as.length):=by
 unfold ou;simp[bL]
theorem ej{cx:Cx}{f:FuncId}{fn:Func}{c:Code}{as:List AV}{S:AS}{Q:AV->AS->Prop}(hu:cx.kU.get f=none)(hp:cx.fi.get f=none)(hf:cx.fns.get f=some fn)(hb:fn.body=some c)(hc:codeOk cx fn.ntmps c=true)(hn:as.length<=fn.ntmps)
  (h:∀F:Fr,F.n=fn.ntmps->(∀t,sl F t=(as[t]?).getD .undef)->kE cx c F S (zA cx fn Q)):az cx f as S Q:=by
 have ng:(ou as fn.ntmps).n=fn.ntmps:=by rw[n_initF];omega
 obtain⟨n,o,h1,h2,h3⟩:=wpP_ok c (F:=ou as fn.ntmps) (by rw[ng];exact hc) (h _ ng (sl_initF as _));refine⟨n,?_⟩;unfold call cD tf fnF;simp only[hu,hp,hf,hb];refine aC.One.bind ⟨o,h1,?_⟩;obtain⟨e,F',S'⟩:=o;have hds:F'.ds=[]:=h3.2;have key:endP (di cx fn F' S') S' Q->(gL cx (exec cx n) fn F' F'.ds .ret S').One fun r=>dH r.1=false/\Q r.1 r.2:=by
  intro hk;rw[hds];show (match di cx fn F' S' with|some v=>(.ok (v,S') []:aC (AV×AS))|none=>.err 2001).One _;cases hv:di cx fn F' S' with
  |none=>rw[hv]at hk;exact hk.elim
  |some v=>rw[hv]at hk;exact⟨_,rfl,hk⟩
 have DF:=h2;cases e with
 |normal=>refine key ?_;rw[qK];exact DF
 |ret=>refine key ?_;rw[qK];exact DF
 |exit id=>exact h2.elim
 |goto l=>exact h2.elim
 |eQ v=>exact h2.elim
theorem Eh{Λ:LB}{P:Program}{A:Ask}(h:zJ P A)(hp:∀x,x∈A.fi->kD Λ P x.1 x.2)(hg:∀x,x∈A.eZ->gu Λ.w Λ.B x.1 x.2){ρ:bf}{f:FuncId}{as:List AV}{S:AS}{w:World}{args:Array Value}
  (hR:R Λ ρ S w) (hl:aD ρ as args.toList) {Q:AV->AS->Prop} (hc:az (sd P A) f as S Q) :
  (∃fn,P.funcs[f]?=some fn/\fn.body.isSome=true)/\Calls P f args w fun e w'=>∃x v S' ρ',e=.returned x/\aq ρ' v x/\Q v S'/\R Λ ρ' S' w'/\Kp ρ S w ρ' S' w':=by
 obtain⟨n,hc⟩:=hc;have aI:=cx_ok h hp hg;have hK:=rC aI (code_ok aI (D0 aI h.mixed) n).1;refine hK ρ (.fn f) as S w args (fun e w'=>∃x v S' ρ',e=.returned x/\aq ρ' v x/\Q v S'/\R Λ ρ' S' w'/\Kp ρ S w ρ' S' w') (hc.all.mono fun r hr ρ' e w' h1 h2 h3=>?_) hR hl;rcases h1.cases with⟨_,x,rfl,hx⟩|⟨u,x,hu,_,_⟩
 .exact⟨x,r.1,r.2,ρ',rfl,hx,hr.2,h2,h3⟩
 .have:=hr.1;rw[hu]at this;cases this
end Go.Am
end
