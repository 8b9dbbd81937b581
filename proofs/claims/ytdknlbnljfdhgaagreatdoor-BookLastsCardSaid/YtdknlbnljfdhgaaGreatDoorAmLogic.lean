/-
  The abstract machine: a logic for its code. What holds behind a run, for values that are not known.
-/
import Derived.Test.YtdknlbnljfdhgaaGreatDoorAmMono
import Derived.Test.YtdknlbnljfdhgaaGreatDoorAmTop
open Bool renaming and_eq_true->zza
open Nat renaming le_add_right->zzb,le_add_left->zzc
noncomputable section
namespace Go.Am
open Go Go.RowKit
def sl(F:Fr)(t:Nat):AV:=match F.t.get t with|some v=>v|none=>.undef
def up(F:Fr)(d:Option Nat)(v:AV):Fr:=match d with|some d=>⟨F.t.set d v,F.n,F.ds⟩|none=>F
theorem jfV(F:Fr)(d e:Nat)(v:AV):sl (up F (some d) v) e=if e=d then v else sl F e:=by
 unfold sl up;by_cases h:e=d
 .subst h;simp only[aa,if_true]
 .simp only[ae _ _ h,if_neg h]
theorem XG(F:Fr)(v:AV):up F none v=F:=rfl
theorem nc(F:Fr)(d:Option Nat)(v:AV):(up F d v).n=F.n:=by cases d<;>rfl
theorem nu(F:Fr)(d:Option Nat)(v:AV):(up F d v).ds=F.ds:=by cases d<;>rfl
theorem aI(F:Fr)(t:Nat):eval F (.tmp t)=sl F t:=oM F t
theorem eval_const(F:Fr)(v:Value):eval F (.const v)=Rk v:=rfl
theorem eval_func(F:Fr)(f:Nat):eval F (.func f)=.func (.func f) [] []:=rfl
theorem eval_global(F:Fr)(g:Nat):eval F (.global g)=.wH g 0:=rfl
theorem TM(b:Bool):Rk (.bool b)=.bool b:=rfl
theorem DR(k:IntKind)(n:Int):Rk (.int k n)=.int k n:=rfl
theorem Kn(s:ByteArray):Rk (.string s)=.str (s.data.toList.map UInt8.toNat):=by
 show AV.str (oD UInt8.toNat s.data.toList)=_;rw[iw]
theorem TJ:Rk (.pointer none)=.ck:=rfl
theorem TI:Rk (.slice none 0 0)=.ar:=rfl
theorem TK:Rk (.map none)=.j8:=rfl
theorem TL:Rk .nilFunc=.eQ:=rfl
theorem Ko:Rk .nilIface=.bR:=rfl
def az.One{α:Type}(r:az α)(p:α->Prop):Prop:=∃x,r=.ok x []/\p x
theorem az.One.mono{α:Type}{r:az α}{p q:α->Prop}(h:r.One p)(k:∀x,p x->q x):r.One q:=let ⟨x,e,hx⟩:=h;⟨x,e,k x hx⟩
theorem az.One.bind{α β:Type}{r:az α}{f:α->az β}{p:β->Prop}(h:r.One fun x=>(f x).One p):(az.bind r f).One p:=by
 obtain⟨x,rfl,h⟩:=h;exact h
theorem az.One.all{α:Type}{r:az α}{p:α->Prop}(h:r.One p):r.kQ p:=by
 obtain⟨x,rfl,h⟩:=h;exact⟨h,fun y hy=>by cases hy⟩
theorem az.Le.one{α:Type}{r r':az α}(h:az.Le r r'){p:α->Prop}(k:r.One p):r'.One p:=let ⟨x,e,hx⟩:=k;⟨x,h x [] e,hx⟩
def bL(v:AV):Bool:=match v with | .eO _=>true|_=>false
theorem zo{r:AV×AS}(h:bL r.1=false):St r=.ok (false,r.1,r.2) []:=by
 obtain⟨v,S⟩:=r;cases v<;>first|rfl|cases h
def ah(cx:Cx)(f:FuncId)(as:List AV)(S:AS)(Q:AV->AS->Prop):Prop:=∃n,(call cx n f as S).One fun r=>bL r.1=false/\Q r.1 r.2
theorem ah.mono{cx:Cx}{f:FuncId}{as:List AV}{S:AS}{Q Q':AV->AS->Prop}(h:ah cx f as S Q)(k:∀v S',Q v S'->Q' v S'):ah cx f as S Q':=by
 obtain⟨n,h⟩:=h;exact⟨n,h.mono fun r hr=>⟨hr.1,k _ _ hr.2⟩⟩
theorem mT{cx:Cx}{f:FuncId}{q:List AV->AS->Option (AV×AS)}{as:List AV}{S S':AS}{v:AV}{Q:AV->AS->Prop}(h:cx.ei.get f=some q)(hu:cx.kZ.get f=none)(hq:q as S=some (v,S'))(hn:bL v=false):ah cx f as S Q=Q v S':=by
 have e:∀n,call cx n f as S=.ok (v,S') []:=by
  intro n;unfold call cS sY Xo;simp only[hu,h,hq]
 apply propext;constructor
 .rintro⟨n,r,e1,hr⟩;rw[e n]at e1;cases e1;exact hr.2
 .intro hh;exact⟨0,_,e 0,hn,hh⟩
def bj(ops:List Oper)(F:Fr)(g:Option (Nat×Bool)):Option Bool:=
 match g with
 |none=>some true
 |some (j,want)=>match ops[j]? with
  |some p=>match p.dst with
   |some d=>match sl F d with
    | .bool b=>some (cond want b (!b))
    | .top=>none
    |_=>some false
   |none=>some false
  |none=>some false
theorem iU(ops:List Oper)(F:Fr)(o:Oper):wanted ops F o=bj ops F o.guard:=by
 unfold wanted bj;cases o.guard with
 |none=>rfl
 |some jw=>
  obtain⟨j,w⟩:=jw;simp only[ji];cases ops[j]? with
  |none=>rfl
  |some p=>
   simp only[];cases p.dst with
   |none=>rfl
   |some d=>
    simp only[sl];cases F.t.get d with
    |none=>rfl
    |some v=>cases v<;>rfl
def iV(cx:Cx)(r:AR)(K:AV->AS->Prop):Prop:=
 match r with
 | .val v S'=>K v S'
 | .enter f as S'=>ah cx f as S' K
 |_=>False
def fG(cx:Cx)(ops:List Oper)(o:Oper)(F:Fr)(S:AS)(K:AV->AS->Prop):Prop:=
 match bj ops F o.guard with
 |some b=>(b=true->iV cx (bF cx F S o) K)/\(b=false->K .undef S)
 |none=>False
def uQ(cx:Cx)(ops:List Oper):List Oper->Fr->AS->(Fr->AS->Prop)->Prop
 |[],F,S,Q=>Q F S
 |o::l,F,S,Q=>fG cx ops o F S fun v S'=>uQ cx ops l (up F o.dst v) S' Q
def BT(n:Nat)(o:Oper):Bool:=match o.dst with|some d=>Nat.blt d n|none=>true
def AD(n:Nat)(l:List Oper):Bool:=l.all (BT n)
theorem pI{F:Fr}{o:Oper}(v:AV)(h:BT F.n o=true):bQ F o.dst v=up F o.dst v:=by
 unfold BT at h;cases hd:o.dst with
 |none=>rfl
 |some d=>rw[hd]at h;simp only at h;rw[kC,h];rfl
theorem Tb{cx:Cx}{ops:List Oper}{o:Oper}{F:Fr}{S:AS}{K:AV->AS->Prop}(h:fG cx ops o F S K):∃n,(one cx (cS cx (exec cx n)) ops o F S).One fun r=>r.1=false/\K r.2.1 r.2.2:=by
 unfold fG at h;unfold one;rw[iU];cases hw:bj ops F o.guard with
 |none=>rw[hw]at h;exact h.elim
 |some b=>
  rw[hw]at h;cases b with
  |true=>
   have h1:=h.1 rfl;unfold iV at h1;simp only[];cases ha:bF cx F S o with
   |val v S'=>rw[ha]at h1;exact⟨0,_,rfl,rfl,h1⟩
   |round f as S'=>rw[ha]at h1;exact h1.elim
   |eO v S'=>rw[ha]at h1;exact h1.elim
   |many l=>rw[ha]at h1;exact h1.elim
   |enter f as S'=>
    rw[ha]at h1;obtain⟨n,r,e1,e2,e3⟩:=h1;refine⟨n,(false,r.1,r.2),?_,rfl,e3⟩;have e4:cS cx (exec cx n) (.fn f) as S'=.ok r []:=e1;simp only[e4];exact zo e2
   |err n=>rw[ha]at h1;exact h1.elim
  |false=>exact⟨0,_,rfl,rfl,h.2 rfl⟩
theorem Q3{cx:Cx}{F:Fr}{S:AS}{o:Oper}{c:Call}(h:dc o=some c):∃n,bF cx F S o=.err n:=by
 obtain⟨dst,op,ty,pos,after,guard⟩:=o;cases op<;>first|(cases h;done)|exact⟨_,rfl⟩
def Fx(F F':Fr):Prop:=F'.n=F.n/\F'.ds=F.ds
theorem Fx.refl(F:Fr):Fx F F:=⟨rfl,rfl⟩
theorem Fx.trans{F F' F'':Fr}(h:Fx F F')(k:Fx F' F''):Fx F F'':=⟨k.1.trans h.1,k.2.trans h.2⟩
theorem Fx.MA{F F':Fr}{d:Option Nat}{v:AV}(h:Fx (up F d v) F'):Fx F F':=⟨h.1.trans (nc F d v),h.2.trans (nu F d v)⟩
theorem vQ{cx:Cx}{ops:List Oper}:∀{l:List Oper}{F:Fr}{S:AS}{Q:Fr->AS->Prop},AD F.n l=true->uQ cx ops l F S Q ->
  ∃n,(dz cx (cS cx (exec cx n)) ops l F S).One fun r=>r.1=none/\Q r.2.1 r.2.2/\Fx F r.2.1
 |[],F,S,Q,_,h=>⟨0,_,rfl,rfl,h,Fx.refl F⟩
 |o::l,F,S,Q,hd,h=>by
  have j7:(BT F.n o&&AD F.n l)=true:=hd;rw[zza]at j7;have hs:fG cx ops o F S fun v S'=>uQ cx ops l (up F o.dst v) S' Q:=h;have yB:∀K,dz cx K ops (o::l) F S=(match dc o with
   |none=>az.bind (one cx K ops o F S) fun r=>cond r.1 (.ok (some r.2.1,F,r.2.2) []) (dz cx K ops l (bQ F o.dst r.2.1) r.2.2)
   |some c=>match wanted ops F o with
    |some true=>match iM F c with
     |some d=>dz cx K ops l (bQ ⟨F.t,F.n,d::F.ds⟩ o.dst .undef) S
     |none=>.err 1009
    |some false=>dz cx K ops l (bQ F o.dst .undef) S
    |none=>.err 1010):=fun K=>rfl
  cases Et:dc o with
  |some c=>
   unfold fG at hs;cases hw:bj ops F o.guard with
   |none=>rw[hw]at hs;exact hs.elim
   |some b=>
    rw[hw]at hs;cases b with
    |true=>
     obtain⟨m,hm⟩:=Q3 (cx:=cx) (F:=F) (S:=S) Et;have h1:=hs.1 rfl;rw[hm]at h1;exact h1.elim
    |false=>
     obtain⟨m,h3⟩:=vQ (l:=l) (by rw[nc];exact j7.2) (hs.2 rfl);refine⟨m,?_⟩;rw[yB,Et];simp only[iU,hw];rw[pI _ j7.1];exact h3.mono fun r hr=>⟨hr.1,hr.2.1,hr.2.2.MA⟩
  |none=>
   obtain⟨n,r,h1,h0,h2⟩:=Tb hs;obtain⟨m,h3⟩:=vQ (l:=l) (by rw[nc];exact j7.2) h2;refine⟨n+m,?_⟩;rw[yB,Et];simp only[];refine az.One.bind ⟨r,(one_le (cx:=cx) (K:=cS cx (exec cx n)) (K':=cS cx (exec cx (n+m))) (iF (zzb n m)) ops o F S) _ _ h1,?_⟩;simp only[h0,cond_false];rw[pI _ j7.1];exact ((mg (K:=cS cx (exec cx m)) (K':=cS cx (exec cx (n+m))) (iF (zzc m n)) ops l _ _).one h3).mono fun r hr=>⟨hr.1,hr.2.1,hr.2.2.MA⟩
def ez(cx:Cx)(ops:List Oper):List Row->Fr->AS->List fk->List AS->Nat->(Fr->AS->List AS->Prop)->Prop
 |[],F,S,ps,sn,_,Q=>Q F (bE (fun _=>true) ps S) (S::sn)
 |r::l,F,S,ps,sn,id,Q=>
  match r.cls with
  | .fresh=>match bj ops F r.o.guard with
   |some b=>(b=true->∃v x,aD cx F id r.o.op=some (v,x)/\ez cx ops l (up F r.o.dst v) S (⟨r.i,id,x⟩::ps) sn (id+1) Q)/\(b=false->ez cx ops l (up F r.o.dst .undef) S ps sn id Q)
   |none=>False
  | .BS=>fG cx ops r.o F (bE (fun p=>bit r.eG p.i) ps S) fun v S'=>ez cx ops l (up F r.o.dst v) S' (kH (fun p=>!bit r.eG p.i) ps) (S::sn) id Q
  |_=>match bj ops F r.o.guard with
   |some b=>(b=true->∃v S',bF cx F S r.o=.val v S'/\ez cx ops l (up F r.o.dst v) S ps sn id Q)/\(b=false->ez cx ops l (up F r.o.dst .undef) S ps sn id Q)
   |none=>False
theorem pM(cx:Cx)(ops:List Oper)(F:Fr)(S:AS)(o:Oper):gy cx ops F S o=(match bj ops F o.guard with
  |some true=>match bF cx F S o with
   | .val v _=>some v
   |_=>none
  |some false=>some .undef
  |none=>none):=by
 unfold gy;rw[iU];rfl
def pU(n:Nat)(l:List Row):Bool:=l.all fun r=>BT n r.o
theorem zm{cx:Cx}{ops:List Oper}:∀{l:List Row}{F:Fr}{S:AS}{ps:List fk}{sn:List AS}{id:Nat}{Q:Fr->AS->List AS->Prop},pU F.n l=true->ez cx ops l F S ps sn id Q ->
  ∃n,(db cx (cS cx (exec cx n)) ops l F S ps sn id).One fun r=>r.1=none/\Q r.2.1 r.2.2.1 r.2.2.2/\Fx F r.2.1
 |[],F,S,ps,sn,id,Q,_,h=>⟨0,_,rfl,rfl,h,Fx.refl F⟩
 |r::l,F,S,ps,sn,id,Q,hd,h=>by
  have j7:(BT F.n r.o&&pU F.n l)=true:=hd;rw[zza]at j7;have e:∀K,db cx K ops (r::l) F S ps sn id=(match r.cls with
   | .fresh=>match wanted ops F r.o with
    |some true=>match aD cx F id r.o.op with
     |some (v,x)=>db cx K ops l (bQ F r.o.dst v) S (⟨r.i,id,x⟩::ps) sn (Nat.succ id)
     |none=>.err 1001
    |some false=>db cx K ops l (bQ F r.o.dst .undef) S ps sn id
    |none=>.err 1002
   | .BS=>
    az.bind (az.BA (one cx K ops r.o F (bE (fun p=>bit r.eG p.i) ps S))) fun q=>cond q.1 (cond (js (fun q=>bit q.eG r.i) l) (.ok (some (r.i,q.2.1,q.2.2),F,S,S::sn) []) (.err 1007)) (db cx K ops l (bQ F r.o.dst q.2.1) q.2.2 (kH (fun p=>!bit r.eG p.i) ps) (S::sn) id)
   |_=>match gy cx ops F S r.o with
    |some v=>db cx K ops l (bQ F r.o.dst v) S ps sn id
    |none=>.err 1006):=fun K=>rfl
  have e2:ez cx ops (r::l) F S ps sn id Q=(match r.cls with
  | .fresh=>match bj ops F r.o.guard with
   |some b=>(b=true->∃v x,aD cx F id r.o.op=some (v,x)/\ez cx ops l (up F r.o.dst v) S (⟨r.i,id,x⟩::ps) sn (id+1) Q)/\(b=false->ez cx ops l (up F r.o.dst .undef) S ps sn id Q)
   |none=>False
  | .BS=>fG cx ops r.o F (bE (fun p=>bit r.eG p.i) ps S) fun v S'=>ez cx ops l (up F r.o.dst v) S' (kH (fun p=>!bit r.eG p.i) ps) (S::sn) id Q
  |_=>match bj ops F r.o.guard with
   |some b=>(b=true->∃v S',bF cx F S r.o=.val v S'/\ez cx ops l (up F r.o.dst v) S ps sn id Q)/\(b=false->ez cx ops l (up F r.o.dst .undef) S ps sn id Q)
   |none=>False):=by cases hc:r.cls<;>simp only[ez,hc]
  rw[e2]at h;have rest:∀(v:AV)(S':AS)(J8:List fk)(JM:List AS)(MV:Nat),ez cx ops l (up F r.o.dst v) S' J8 JM MV Q ->
    ∃n,(db cx (cS cx (exec cx n)) ops l (bQ F r.o.dst v) S' J8 JM MV).One fun r=>r.1=none/\Q r.2.1 r.2.2.1 r.2.2.2/\Fx F r.2.1:=by
   intro v S' J8 JM MV hh;obtain⟨n,h1⟩:=zm (l:=l) (by rw[nc];exact j7.2) hh;rw[pI _ j7.1];exact⟨n,h1.mono fun r hr=>⟨hr.1,hr.2.1,hr.2.2.MA⟩⟩
  have val:(match bj ops F r.o.guard with
   |some b=>(b=true->∃v S',bF cx F S r.o=.val v S'/\ez cx ops l (up F r.o.dst v) S ps sn id Q)/\(b=false->ez cx ops l (up F r.o.dst .undef) S ps sn id Q)
   |none=>False)->∃n,(match gy cx ops F S r.o with
    |some v=>db cx (cS cx (exec cx n)) ops l (bQ F r.o.dst v) S ps sn id
    |none=>.err 1006).One fun r=>r.1=none/\Q r.2.1 r.2.2.1 r.2.2.2/\Fx F r.2.1:=by
   intro hh;rw[pM];cases hw:bj ops F r.o.guard with
   |none=>rw[hw]at hh;exact hh.elim
   |some b=>
    rw[hw]at hh;cases b with
    |true=>
     obtain⟨v,S',h1,h2⟩:=hh.1 rfl;simp only[h1];exact rest _ _ _ _ _ h2
    |false=>exact rest _ _ _ _ _ (hh.2 rfl)
  cases hc:r.cls with
  |pure=>
   rw[hc]at h;obtain⟨n,h1⟩:=val h;exact⟨n,by rw[e,hc];exact h1⟩
  |read=>
   rw[hc]at h;obtain⟨n,h1⟩:=val h;exact⟨n,by rw[e,hc];exact h1⟩
  |fresh=>
   rw[hc]at h;simp only[]at h;cases hw:bj ops F r.o.guard with
   |none=>rw[hw]at h;exact h.elim
   |some b=>
    rw[hw]at h;cases b with
    |true=>
     obtain⟨v,x,h1,h2⟩:=h.1 rfl;obtain⟨n,h3⟩:=rest _ _ _ _ _ h2;refine⟨n,?_⟩;rw[e,hc];simp only[iU,hw,h1];exact h3
    |false=>
     obtain⟨n,h3⟩:=rest _ _ _ _ _ (h.2 rfl);refine⟨n,?_⟩;rw[e,hc];simp only[iU,hw];exact h3
  |BS=>
   rw[hc]at h;obtain⟨n,q,h1,h0,h2⟩:=Tb h;obtain⟨m,h3⟩:=rest _ _ _ _ _ h2;refine⟨n+m,?_⟩;rw[e,hc];refine az.One.bind ⟨q,?_,?_⟩
   .have h4:=(one_le (cx:=cx) (K:=cS cx (exec cx n)) (K':=cS cx (exec cx (n+m))) (iF (zzb n m)) ops r.o F _) _ _ h1;rw[h4];rfl
   .simp only[h0,cond_false];exact (jc (K:=cS cx (exec cx m)) (K':=cS cx (exec cx (n+m))) (iF (zzc m n)) ops l _ _ _ _ _).one h3
def jfA(cx:Cx)(ops:List Oper)(rows:List Row)(F:Fr)(cH:List AS):Prop:=∀q,q∈rows->fE q.cls=true->mr cx ops rows F cH q=true
def GV(cx:Cx)(ops:List Oper):Option (List Row):=cond (jf ops (settle (dW cx ops))) (some (settle (dW cx ops))) none
def rB(rows:List Row):Nat:=fZ (fun r=>cl r.cls) rows
def vl(cx:Cx)(ops:List Oper)(F:Fr)(S:AS)(Q:Fr->AS->Prop):Prop:=
 match GV cx ops with
 |some rows=>ez cx ops rows F ⟨S.h,S.nx+rB rows⟩ [] [] S.nx fun F' S' sn=>jfA cx ops rows F' (zn sn)/\Q F' S'
 |none=>False
structure lL(cx:Cx)(ops:List Oper)(F:Fr)(S:AS)(Q:Fr->AS->Prop):Prop where
 run:vl cx ops F S Q
theorem C7{cx:Cx}{ops:List Oper}{F:Fr}{S:AS}{Q:Fr->AS->Prop}(hd:pU F.n (settle (dW cx ops))=true)(h:lL cx ops F S Q):
  ∃n,(fM cx (cS cx (exec cx n)) ops F S).One fun r=>r.1=none/\Q r.2.1 r.2.2/\Fx F r.2.1:=by
 replace h:=h.run;unfold vl GV at h;cases hp:jf ops (settle (dW cx ops))with
 |false=>rw[hp]at h;exact h.elim
 |true=>
  rw[hp]at h;obtain⟨n,r,h1,h0,⟨h2,h3⟩,h4⟩:=zm hd h;refine⟨n,?_⟩;unfold fM;simp only[hp,cond_true];refine az.One.bind ⟨r,h1,?_⟩;have hw:qB cx ops (settle (dW cx ops)) r.2.1 (zn r.2.2.2)=true:=by
   unfold qB;rw[kV,List.all_eq_true];intro q hq;cases hr:fE q.cls with
   |false=>rfl
   |true=>exact h2 q hq hr
  have he:sC cx ops (settle (dW cx ops)) r=.ok (none,r.2.1,r.2.2.1) []:=by
   unfold sC;rw[h0];simp only[];rw[hw];rfl
  show (sC cx ops (settle (dW cx ops)) r).One _;rw[he];exact⟨_,rfl,rfl,h3,h4⟩
def codeOk(cx:Cx)(n:Nat):Code->Bool
 | .region _ ops false=>AD n ops.toList
 | .region _ ops true=>pU n (settle (dW cx ops.toList))
 | .seq a b=>codeOk cx n a&&codeOk cx n b
 | .cond _ a b=>codeOk cx n a&&codeOk cx n b
 | .block _ b=>codeOk cx n b
 | .loop b=>codeOk cx n b
 | .scope b=>codeOk cx n b
 |_=>true
def ke(R:Fr->AS->Prop)(Q:Ex->Fr->AS->Prop):Ex->Fr->AS->Prop
 | .normal,F,S=>R F S
 |e,F,S=>Q e F S
def jZ(id:Nat)(Q:Ex->Fr->AS->Prop):Ex->Fr->AS->Prop
 | .exit j,F,S=>if j=id then Q .normal F S else Q (.exit j) F S
 |e,F,S=>Q e F S
def qJ(Q:Ex->Fr->AS->Prop):Ex->Fr->AS->Prop
 | .goto _,_,_=>False
 |e,F,S=>Q e F S
def iH(x:AV)(A B:Prop):Prop:=match x with | .bool t=>(t=true->A)/\(t=false->B)|_=>False
def rR(cx:Cx)(b:Code)(F:Fr)(S:AS)(Q:Ex->Fr->AS->Prop):Prop:=codeOk cx F.n b=true->∃n,(exec cx n (.loop b) F S).One fun o=>Q o.ex o.F o.S/\Fx F o.F
def mc(cx:Cx):Code->Fr->AS->(Ex->Fr->AS->Prop)->Prop
 | .skip,F,S,Q=>Q .normal F S
 | .ret,F,S,Q=>Q .ret F S
 | .exit id,F,S,Q=>Q (.exit id) F S
 | .region _ ops false,F,S,Q=>uQ cx ops.toList ops.toList F S (Q .normal)
 | .region _ ops true,F,S,Q=>lL cx ops.toList F S (Q .normal)
 | .seq a b,F,S,Q=>mc cx a F S (ke (fun F' S'=>mc cx b F' S' Q) Q)
 | .cond x a b,F,S,Q=>iH (eval F x) (mc cx a F S Q) (mc cx b F S Q)
 | .block id b,F,S,Q=>mc cx b F S (jZ id Q)
 | .loop b,F,S,Q=>rR cx b F S Q
 | .scope b,F,S,Q=>mc cx b F S (qJ Q)
 | .label _,F,S,Q=>Q .normal F S
 |_,_,_,_=>False
theorem Jo{cx:Cx}:∀(c:Code){F:Fr}{S:AS}{Q:Ex->Fr->AS->Prop},codeOk cx F.n c=true->mc cx c F S Q->∃n,(exec cx n c F S).One fun o=>Q o.ex o.F o.S/\Fx F o.F:=by
 intro c
 induction c with
 |skip=>intro F S Q _ h;exact⟨1,_,rfl,h,Fx.refl F⟩
 |ret=>intro F S Q _ h;exact⟨1,_,rfl,h,Fx.refl F⟩
 |exit id=>intro F S Q _ h;exact⟨1,_,rfl,h,Fx.refl F⟩
 |region id ops draw=>
  intro F S Q hc h;cases draw with
  |false=>
   obtain⟨n,h⟩:=vQ hc h;refine⟨n+1,?_⟩;show (az.bind (dz cx (cS cx (exec cx n)) ops.toList ops.toList F S) fun r=>match r.1 with
    |none=>.ok (⟨.normal,r.2.1,r.2.2⟩:Out) []
    |some v=>.ok (⟨.eO v,r.2.1,r.2.2⟩:Out) []).One _
   exact az.One.bind (h.mono fun r hr=>by rw[hr.1];exact⟨_,rfl,hr.2⟩)
  |true=>
   obtain⟨n,h⟩:=C7 hc h;refine⟨n+1,?_⟩;show (az.bind (fM cx (cS cx (exec cx n)) ops.toList F S) fun r=>match r.1 with
    |none=>.ok (⟨.normal,r.2.1,r.2.2⟩:Out) []
    |some v=>.ok (⟨.eO v,r.2.1,r.2.2⟩:Out) []).One _
   exact az.One.bind (h.mono fun r hr=>by rw[hr.1];exact⟨_,rfl,hr.2⟩)
 |seq a b Ef xu=>
  intro F S Q hc h;have jF:(codeOk cx F.n a&&codeOk cx F.n b)=true:=hc;rw[zza]at jF;obtain⟨n,o,h1,h2,h3⟩:=Ef jF.1 h;have h4:∃m,(match o.ex with | .normal=>exec cx m b o.F o.S|_=>.ok o []).One fun o=>Q o.ex o.F o.S/\Fx F o.F:=by
   obtain⟨e,F',S'⟩:=o;cases e with
   |normal=>
    obtain⟨m,h5⟩:=xu (F:=F') (by rw[h3.1];exact jF.2) h2;exact⟨m,h5.mono fun o ho=>⟨ho.1,h3.trans ho.2⟩⟩
   |goto l=>exact⟨0,_,rfl,h2,h3⟩
   |eO v=>exact⟨0,_,rfl,h2,h3⟩
   |exit id=>exact⟨0,_,rfl,h2,h3⟩
   |ret=>exact⟨0,_,rfl,h2,h3⟩
  obtain⟨m,h4⟩:=h4;refine⟨n+m+1,?_⟩;show (az.bind (exec cx (n+m) a F S) fun o=>match o.ex with | .normal=>exec cx (n+m) b o.F o.S|_=>.ok o []).One _;refine az.One.bind ⟨o,cP (zzb n m) a F S _ _ h1,?_⟩;obtain⟨e,F',S'⟩:=o;cases e with
  |normal=>exact (cP (zzc m n) b F' S').one h4
  |goto l=>exact h4
  |eO v=>exact h4
  |exit id=>exact h4
  |ret=>exact h4
 |cond x a b Ef xu=>
  intro F S Q hc h;have jF:(codeOk cx F.n a&&codeOk cx F.n b)=true:=hc;rw[zza]at jF;have h':iH (eval F x) (mc cx a F S Q) (mc cx b F S Q):=h;unfold iH at h';cases hx:eval F x<;>rw[hx]at h'<;>(try exact h'.elim);rename_i t;cases t with
  |true=>
   obtain⟨n,h1⟩:=Ef jF.1 (h'.1 rfl);refine⟨n+1,?_⟩;show (match eval F x with | .bool true=>exec cx n a F S | .bool false=>exec cx n b F S|_=>.err 3001).One _;rw[hx];exact h1
  |false=>
   obtain⟨n,h1⟩:=xu jF.2 (h'.2 rfl);refine⟨n+1,?_⟩;show (match eval F x with | .bool true=>exec cx n a F S | .bool false=>exec cx n b F S|_=>.err 3001).One _;rw[hx];exact h1
 |block id b xu=>
  intro F S Q hc h;obtain⟨n,o,h1,h2,h3⟩:=xu hc h;refine⟨n+1,?_⟩;show (az.bind (exec cx n b F S) fun o=>match o.ex with
   | .exit j=>cond (Nat.beq j id) (.ok ⟨.normal,o.F,o.S⟩ []) (.ok o [])
   |_=>.ok o []).One _
  refine az.One.bind ⟨o,h1,?_⟩;obtain⟨e,F',S'⟩:=o;cases e with
  |normal=>exact⟨_,rfl,h2,h3⟩
  |ret=>exact⟨_,rfl,h2,h3⟩
  |goto l=>exact⟨_,rfl,h2,h3⟩
  |eO v=>exact⟨_,rfl,h2,h3⟩
  |exit j=>
   have rz:if j=id then Q .normal F' S' else Q (.exit j) F' S':=h2
   simp only[bO];by_cases hj:j=id
   .rw[if_pos hj]at rz;rw[decide_eq_true hj];exact⟨_,rfl,rz,h3⟩
   .rw[if_neg hj]at rz;rw[decide_eq_false hj];exact⟨_,rfl,rz,h3⟩
 |loop b _=>intro F S Q hc h;exact h hc
 |rangeFunc f p x y _ _=>intro F S Q _ h;exact h.elim
 |scope b xu=>
  intro F S Q hc h;obtain⟨n,o,h1,h2,h3⟩:=xu hc h;refine⟨n+2,?_⟩;show (az.bind (exec cx (n+1) b F S) fun o=>match o.ex with
   | .goto l=>match findLabel b l with
    |some rest=>qK (exec cx (n+1)) b n rest o.F o.S
    |none=>.ok o []
   |_=>.ok o []).One _
  refine az.One.bind ⟨o,cP (Nat.le_succ n) b F S _ _ h1,?_⟩;obtain⟨e,F',S'⟩:=o;cases e with
  |normal=>exact⟨_,rfl,h2,h3⟩
  |ret=>exact⟨_,rfl,h2,h3⟩
  |goto l=>exact h2.elim
  |eO v=>exact⟨_,rfl,h2,h3⟩
  |exit j=>exact⟨_,rfl,h2,h3⟩
 |label l=>intro F S Q _ h;exact⟨1,_,rfl,h,Fx.refl F⟩
 |goto l=>intro F S Q _ h;exact h.elim
 |refuse s=>intro F S Q _ h;exact h.elim
theorem aT{cx:Cx}{b:Code}{F:Fr}{S:AS}{Q:Ex->Fr->AS->Prop}(I:Nat->Fr->AS->Prop)(k:Nat)(h0:I k F S)
  (h:∀(k:Nat)(F':Fr)(S':AS),F'.n=F.n->I k F' S'->mc cx b F' S' (ke (fun F2 S2=>∃j,j<k/\I j F2 S2) Q)):rR cx b F S Q:=by
 intro hc;have main:∀(k:Nat)(F':Fr)(S':AS),I k F' S'->Fx F F'->∃n,(exec cx n (.loop b) F' S').One fun o=>Q o.ex o.F o.S/\Fx F o.F:=by
  intro k
  induction k using Nat.strongRecOn with
  |ind k ih=>
   intro F' S' hI hn;obtain⟨n,o,h1,h2,h3⟩:=Jo b (by rw[hn.1];exact hc) (h k F' S' hn.1 hI);have h4:∃m,(match o.ex with | .normal=>exec cx m (.loop b) o.F o.S|_=>.ok o []).One fun o=>Q o.ex o.F o.S/\Fx F o.F:=by
    obtain⟨e,F2,S2⟩:=o;cases e with
    |normal=>obtain⟨j,hj,hI2⟩:=h2;exact ih j hj F2 S2 hI2 (hn.trans h3)
    |exit id=>exact⟨0,_,rfl,h2,hn.trans h3⟩
    |ret=>exact⟨0,_,rfl,h2,hn.trans h3⟩
    |goto l=>exact⟨0,_,rfl,h2,hn.trans h3⟩
    |eO v=>exact⟨0,_,rfl,h2,hn.trans h3⟩
   obtain⟨m,h4⟩:=h4;refine⟨n+m+1,?_⟩;show (az.bind (exec cx (n+m) b F' S') fun o=>match o.ex with | .normal=>exec cx (n+m) (.loop b) o.F o.S|_=>.ok o []).One _;refine az.One.bind ⟨o,cP (zzb n m) b F' S' _ _ h1,?_⟩;obtain⟨e,F2,S2⟩:=o;cases e with
   |normal=>exact (cP (zzc m n) (.loop b) F2 S2).one h4
   |goto l=>exact h4
   |eO v=>exact h4
   |exit id=>exact h4
   |ret=>exact h4
 exact main k F S h0 (Fx.refl F)
def HY(r:Option AV)(S:AS)(Q:AV->AS->Prop):Prop:=match r with|some v=>bL v=false/\Q v S|none=>False
def AU(cx:Cx)(fn:Func)(Q:AV->AS->Prop):Ex->Fr->AS->Prop
 | .exit _,_,_=>False
 | .goto _,_,_=>False
 | .eO _,_,_=>False
 |_,F,S=>HY (lD cx F S fn.results.toList |>.map fun vs=>match vs with|[v]=>v|vs=>.tuple vs) S Q
theorem pD(cx:Cx)(fn:Func)(F:Fr)(S:AS):cC cx fn F S=(lD cx F S fn.results.toList).map fun vs=>match vs with|[v]=>v|vs=>.tuple vs:=by
 unfold cC;cases lD cx F S fn.results.toList with
 |none=>rfl
 |some vs=>cases vs with
  |nil=>rfl
  |cons v vs=>cases vs<;>rfl
theorem zd(as:List AV)(n t:Nat):sl (lP as n) t=(as[t]?).getD .undef:=by
 unfold sl lP;simp only[yH];by_cases ht:t<as.length
 .rw[if_pos ⟨Nat.zero_le _,by omega⟩,Nat.sub_zero,List.getElem?_eq_getElem ht];rfl
 .rw[if_neg (by omega),gm,List.getElem?_eq_none (by omega)];rfl
theorem D6(as:List AV)(n:Nat):(lP as n).n=as.length+(n-as.length):=by
 unfold lP;simp[bX]
theorem cG{cx:Cx}{f:FuncId}{fn:Func}{c:Code}{as:List AV}{S:AS}{Q:AV->AS->Prop}(hu:cx.kZ.get f=none)(hp:cx.ei.get f=none)(hf:cx.fns.get f=some fn)(hb:fn.body=some c)(hc:codeOk cx fn.ntmps c=true)(hn:as.length<=fn.ntmps)
  (h:∀F:Fr,F.n=fn.ntmps->(∀t,sl F t=(as[t]?).getD .undef)->mc cx c F S (AU cx fn Q)):ah cx f as S Q:=by
 have fX:(lP as fn.ntmps).n=fn.ntmps:=by rw[D6];omega
 obtain⟨n,o,h1,h2,h3⟩:=Jo c (F:=lP as fn.ntmps) (by rw[fX];exact hc) (h _ fX (zd as _));refine⟨n,?_⟩;unfold call cS sY Xo;simp only[hu,hp,hf,hb];refine az.One.bind ⟨o,h1,?_⟩;obtain⟨e,F',S'⟩:=o;have sq:F'.ds=[]:=h3.2;have key:HY (cC cx fn F' S') S' Q->(fh cx (exec cx n) fn F' F'.ds .ret S').One fun r=>bL r.1=false/\Q r.1 r.2:=by
  intro hk;rw[sq];show (match cC cx fn F' S' with|some v=>(.ok (v,S') []:az (AV×AS))|none=>.err 2001).One _;cases hv:cC cx fn F' S' with
  |none=>rw[hv]at hk;exact hk.elim
  |some v=>rw[hv]at hk;exact⟨_,rfl,hk⟩
 have rz:=h2;cases e with
 |normal=>refine key ?_;rw[pD];exact rz
 |ret=>refine key ?_;rw[pD];exact rz
 |exit id=>exact h2.elim
 |goto l=>exact h2.elim
 |eO v=>exact h2.elim
theorem Ir{Λ:LB}{P:Program}{A:Ask}(h:xM P A)(hp:∀x,x∈A.ei->gg Λ P x.1 x.2)(hg:∀x,x∈A.lS->uj Λ.w Λ.B x.1 x.2){ρ:aY}{f:FuncId}{as:List AV}{S:AS}{w:World}{args:Array Value}
  (hR:R Λ ρ S w) (hl:ay ρ as args.toList) {Q:AV->AS->Prop} (hc:ah (xS P A) f as S Q) :
  (∃fn,P.funcs[f]?=some fn/\fn.body.isSome=true)/\Calls P f args w fun e w'=>∃x v S' ρ',e=.returned x/\ai ρ' v x/\Q v S'/\R Λ ρ' S' w'/\Kp ρ S w ρ' S' w':=by
 obtain⟨n,hc⟩:=hc;have aF:=Wa h hp hg;have hK:=vr aF (NI aF (H6 aF h.mixed) n).1;refine hK ρ (.fn f) as S w args (fun e w'=>∃x v S' ρ',e=.returned x/\ai ρ' v x/\Q v S'/\R Λ ρ' S' w'/\Kp ρ S w ρ' S' w') (hc.all.mono fun r hr ρ' e w' h1 h2 h3=>?_) hR hl;rcases h1.cases with⟨_,x,rfl,hx⟩|⟨u,x,hu,_,_⟩
 .exact⟨x,r.1,r.2,ρ',rfl,hx,hr.2,h2,h3⟩
 .have:=hr.1;rw[hu]at this;cases this
end Go.Am
end
