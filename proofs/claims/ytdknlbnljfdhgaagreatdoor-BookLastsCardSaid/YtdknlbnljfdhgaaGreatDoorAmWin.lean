/-
  The abstract machine: a region that draws its order and changes the memory: its plan, read off ahead; what is asked of its reading operations is asked where the memory turns.
-/
import Derived.Test.YtdknlbnljfdhgaaGreatDoorAmStill
open Bool renaming and_eq_true->zza,not_eq_true'->zzf
open List renaming mem_singleton->zzb,mem_cons_of_mem->zzc,mem_cons_self->zzd,length_cons->zze
open Nat renaming beq->zzg
set_option linter.unusedSimpArgs false
noncomputable section
namespace Go.Am
open Go
def okW:AV->Bool
 | .func (.func _) a b=>j5 a&&j5 b
 |v=>sZ v
theorem Tf(v:AV)(h:okW v=true):fL 8 v v=true:=by
 cases v<;>try exact zD _ h
 rename_i fn a b;cases fn<;>try exact zD _ h
 simp only[okW,zza]at h;rename_i f;show (zzg f f&&DE 7 a a&&DE 7 b b)=true;rw[mU 6 a h.1,mU 6 b h.2];simp[bO]
inductive Pk where
 |p|f|r (back ca:Nat)|e (cm:List Nat)
structure Live where
 o:Oper
 v:AV
 n:Nat
def tT:List Pk->Nat
 |[]=>0
 | .f::l=>tT l+1
 | .p::l=>tT l
 | .r _ _::l=>tT l
 | .e _::l=>tT l
def wg(n:Nat):List Nat->Bool
 |[]=>false
 |m::l=>(n==m)||wg n l
def Lo(cm:List Nat):List fk->AS->AS
 |[],S=>S
 |x::ps,S=>Lo cm ps (if wg x.i cm=true then⟨S.h.set x.id x.obj,S.nx⟩ else S)
def tc(cm:List Nat):List fk->List fk
 |[]=>[]
 |x::ps=>if wg x.i cm=true then tc cm ps else x::tc cm ps
def Lp:List fk->AS->AS
 |[],S=>S
 |x::ps,S=>Lp ps ⟨S.h.set x.id x.obj,S.nx⟩
def vp:List Live->List Live
 |[]=>[]
 |x::l=>match x.n with
  |0=>vp l
  |1=>vp l
  |n+2=>⟨x.o,x.v,n+1⟩::vp l
def xK(r:AR)(v:AV):Prop:=match r with | .val u _=>u=v|_=>False
def O6(cx:Cx)(ops:List Oper)(F:Fr)(T:AS)(o:Oper)(v:AV):Prop:=
 match bj ops F o.guard with
 |some b=>(b=true->xK (bF cx F T o) v)/\(b=false->v=.undef)
 |none=>False
def pG(cx:Cx)(ops:List Oper)(F:Fr)(T:AS):List Live->Prop
 |[]=>True
 |x::l=>O6 cx ops F T x.o x.v/\pG cx ops F T l
def qP(cx:Cx)(ops:List Oper)(F:Fr)(o:Oper)(v:AV):Nat->List AS->Prop
 |0,_=>True
 |_+1,[]=>True
 |n+1,T::sn=>O6 cx ops F T o v/\qP cx ops F o v n sn
def Xc(back ca:Nat)(v:AV):Prop:=match back,ca with|0,0=>True|_,_=>okW v=true
def CI(o:Oper)(v:AV)(ca:Nat)(lv:List Live):List Live:=match ca with|0=>lv|n+1=>⟨o,v,n+1⟩::lv
def FT(r:AR)(K:AV->Prop):Prop:=match r with | .val v _=>K v|_=>False
def oe(cx:Cx)(ops:List Oper)(o:Oper)(F:Fr)(S:AS)(K:AV->Prop):Prop:=
 match bj ops F o.guard with
 |some b=>(b=true->FT (bF cx F S o) K)/\(b=false->K .undef)
 |none=>False
def HI(r:Option (AV×dR))(K:AV->dR->Prop):Prop:=match r with|some (v,x)=>K v x|none=>False
def uF(cx:Cx)(ops:List Oper)(o:Oper)(F:Fr)(id:Nat)(K:AV->dR->Prop)(J:Prop):Prop:=
 match bj ops F o.guard with
 |some b=>(b=true->HI (aD cx F id o.op) K)/\(b=false->J)
 |none=>False
def fq(cx:Cx)(ops:List Oper):List Pk->List Oper->Nat->Fr->AS->List fk->List AS->List Live->Nat->(Fr->AS->Prop)->Prop
 |[],[],_,F,S,ps,_,_,_,Q=>Q F (Lp ps S)
 | .p::pl,o::l,i,F,S,ps,sn,lv,id,Q=>oe cx ops o F S fun v=>fq cx ops pl l (i+1) (up F o.dst v) S ps sn lv id Q
 | .r b k::pl,o::l,i,F,S,ps,sn,lv,id,Q=>oe cx ops o F S fun v=>qP cx ops F o v b sn/\Xc b k v/\fq cx ops pl l (i+1) (up F o.dst v) S ps sn (CI o v k lv) id Q
 | .f::pl,o::l,i,F,S,ps,sn,lv,id,Q=>uF cx ops o F id (fun v x=>fq cx ops pl l (i+1) (up F o.dst v) S (⟨i,id,x⟩::ps) sn lv (id+1) Q) (fq cx ops pl l (i+1) (up F o.dst .undef) S ps sn lv id Q)
 | .e cm::pl,o::l,i,F,S,ps,sn,lv,id,Q=>fG cx ops o F (Lo cm ps S) fun v S'=>pG cx ops F S' lv/\fq cx ops pl l (i+1) (up F o.dst v) S' (tc cm ps) (S::sn) (vp lv) id Q
 |_,_,_,_,_,_,_,_,_,_=>False
def Hd(rows:List Row)(r:Row):Nat:=fZ (fun e=>bit r.eG e.i) (kH (fun e=>bY e.cls) rows)
def Eo(rows:List Row)(r:Row):Nat:=Hd rows r+Nat.sub (fZ (fun e=>!bit e.eG r.i) (kH (fun e=>bY e.cls) rows)) (Hd rows r)
def fV(rows:List Row):List Row->List Pk->Nat->Bool
 |[],[],_=>true
 |r::l,.p::pl,k=>(match r.cls with | .pure=>true|_=>false)&&fV rows l pl k
 |r::l,.f::pl,k=>cl r.cls&&fV rows l pl k
 |r::l,.r b n::pl,k=>fE r.cls&&Nat.ble (Hd rows r) k&&zzg b (k-Hd rows r)&&zzg n (Eo rows r-k)&&fV rows l pl k
 |r::l,.e cm::pl,k=>bY r.cls&&js (fun f=>cond (cl f.cls) (cond (wg f.i cm) (bit r.eG f.i) (!bit r.eG f.i)) true) rows&&fV rows l pl (k+1)
 |_,_,_=>false
def NL(ops:List Oper):List Row->Bool
 |[]=>true
 |r::l=>cond (fE r.cls) (match r.o.dst with
  |some d=>!BG d (iG ops r.o)&&js (fun w=>match w.o.dst with|some e=>!Nat.beq e d && !BG e (iG ops r.o)|none=>true) l
  |none=>false) true&&NL ops l
def SO(cx:Cx)(n:Nat)(ops:List Oper)(pl:List Pk):Bool:=
 jf ops (settle (dW cx ops))&&NL ops (settle (dW cx ops))&&pU n (settle (dW cx ops))&&fV (settle (dW cx ops)) (settle (dW cx ops)) pl 0
theorem NH:∀(ps:List fk)(S:AS),Lp ps S=bE (fun _=>true) ps S
 |[],_=>rfl
 |x::ps,S=>by
  show Lp ps _=bE (fun _=>true) ps (cond true _ _);rw[NH ps];rfl
theorem NG{cm:List Nat}{m:Nat}:∀{ps:List fk}{S:AS},(∀x,x∈ps->wg x.i cm=bit m x.i)->Lo cm ps S=bE (fun p=>bit m p.i) ps S/\tc cm ps=kH (fun p=>!bit m p.i) ps
 |[],S,_=>⟨rfl,rfl⟩
 |x::ps,S,h=>by
  have hx:=h x (zzd ..);obtain⟨h1,h2⟩:=NG (ps:=ps) (S:=if wg x.i cm=true then⟨S.h.set x.id x.obj,S.nx⟩ else S) fun y hy=>h y (zzc _ hy);constructor
  .show Lo cm ps _=bE (fun p=>bit m p.i) ps (cond (bit m x.i) _ S);rw[h1,<-hx];cases wg x.i cm<;>rfl
  .show tc cm (x::ps)=cond (!bit m x.i) (x::kH (fun p=>!bit m p.i) ps) (kH (fun p=>!bit m p.i) ps);rw[tc,h2,<-hx];cases wg x.i cm<;>rfl
theorem Mo{cx:Cx}{ops:List Oper}{F:Fr}{T:AS}{o:Oper}{v:AV}(h:O6 cx ops F T o v):gy cx ops F T o=some v:=by
 unfold O6 at h;rw[pM];cases hw:bj ops F o.guard with
 |none=>rw[hw]at h;exact h.elim
 |some b=>
  rw[hw]at h;cases b with
  |true=>
   have h1:=h.1 rfl;unfold xK at h1;simp only[];cases ha:bF cx F T o<;>rw[ha]at h1<;>first|exact h1.elim|exact congrArg some h1
  |false=>rw[h.2 rfl]
theorem Ck{cx:Cx}{ops:List Oper}{F:Fr}{S:AS}{o:Oper}{K:AV->Prop}(h:oe cx ops o F S K):∃v,gy cx ops F S o=some v/\K v:=by
 unfold oe at h;rw[pM];cases hw:bj ops F o.guard with
 |none=>rw[hw]at h;exact h.elim
 |some b=>
  rw[hw]at h;cases b with
  |true=>
   have h1:=h.1 rfl;unfold FT at h1;simp only[];cases ha:bF cx F S o<;>rw[ha]at h1<;>first|exact h1.elim|exact⟨_,rfl,h1⟩
  |false=>exact⟨_,rfl,h.2 rfl⟩
def Seen(cx:Cx)(ops:List Oper)(rows:List Row)(P:List Row)(F:Fr)(S:AS)(sn:List AS)(lv:List Live):Prop:=
 ∀q,q∈P->fE q.cls=true->∃d v,q.o.dst=some d/\F.t.get d=some v/\(Hd rows q<Eo rows q->okW v=true) /\
  (∀j T,Hd rows q<=j->j<=Eo rows q->(S::sn).reverse[j]?=some T->gy cx ops F T q.o=some v) /\
  (sn.length<Eo rows q->∃x,x∈lv/\x.o=q.o/\x.v=v/\x.n=Eo rows q-sn.length)
theorem J1{cx:Cx}{ops:List Oper}{F:Fr}{T:AS}{lv:List Live}(h:pG cx ops F T lv):∀x,x∈lv->O6 cx ops F T x.o x.v:=by
 induction lv with
 |nil=>intro x hx;cases hx
 |cons y l ih=>
  intro x hx;rcases List.mem_cons.1 hx with e|hx
  .rw[e];exact h.1
  .exact ih h.2 x hx
theorem V9{lv:List Live}{x:Live}(hx:x∈lv)(hn:1<x.n):∃y,y∈vp lv/\y.o=x.o/\y.v=x.v/\y.n=x.n-1:=by
 induction lv with
 |nil=>cases hx
 |cons a l ih=>
  rcases List.mem_cons.1 hx with e|hx
  .subst e;obtain⟨o,v,n⟩:=x
   match n,hn with
   |n+2,_=>exact⟨⟨o,v,n+1⟩,zzd ..,rfl,rfl,by simp⟩
  .obtain⟨y,h1,h2⟩:=ih hx;refine⟨y,?_,h2⟩;obtain⟨o,v,n⟩:=a
   match n with
   |0=>exact h1
   |1=>exact h1
   |n+2=>exact zzc _ h1
theorem zt{cx:Cx}{ops:List Oper}{F:Fr}{o:Oper}{v:AV}:∀{n:Nat}{sn:List AS},qP cx ops F o v n sn->∀i T,i<n->sn[i]?=some T->O6 cx ops F T o v
 |n+1,T::sn,h,0,T',_,ht=>by simp at ht;subst ht;exact h.1
 |n+1,T::sn,h,i+1,T',hi,ht=>zt h.2 i T' (by omega) (by simpa using ht)
theorem oo{cx:Cx}{ops:List Oper}{rows:List Row}{n:Nat}{Q:Fr->AS->Prop}:∀(l:List Row)(pl:List Pk)(P:List Row)(F:Fr)(S:AS)(ps:List fk)(sn:List AS)(lv:List Live)(id:Nat),
  rows=P++l->F.n=n->pU n rows=true->NL ops l=true->(∀(i:Nat)(r:Row),rows[i]?=some r->r.i=i)->fV rows l pl sn.length=true ->
  (∀r,r∈P->fE r.cls=true->∀w,w∈l->∀e,w.o.dst=some e->some e≠r.o.dst/\e∉iG ops r.o) ->
  (∀x,x∈ps->∃f,f∈rows/\cl f.cls=true/\f.i=x.i) ->
  Seen cx ops rows P F S sn lv->fq cx ops pl (l.map (·.o)) P.length F S ps sn lv id Q ->
  ez cx ops l F S ps sn id fun F' S' JM=>jfA cx ops rows F' (zn JM)/\Q F' S'
 |[],pl,P,F,S,ps,sn,lv,id,CQ,hn,hd,_,_,hm,_,_,hs,h=>by
  have kS:pl=[]:=by
   cases pl with
   |nil=>rfl
   |cons a pl=>cases a<;>cases hm
  subst kS;have h':Q F (Lp ps S):=h;rw[NH]at h';refine⟨?_,h'⟩;intro q hq hr;rw[CQ,List.append_nil]at hq;obtain⟨d,v,e1,e2,e3,e4,_⟩:=hs q hq hr;have hdn:d<F.n:=by
   rw[hn];have:=List.all_eq_true.1 hd q (by rw[CQ,List.append_nil];exact hq);unfold BT at this;rw[e1]at this;simpa[iJ]using this
  unfold mr;simp only[];have lr:∀T,T∈takeN (Nat.succ (Nat.sub (fZ (fun e=>!bit e.eG q.i) (kH (fun e=>bY e.cls) rows)) (fZ (fun e=>bit q.eG e.i) (kH (fun e=>bY e.cls) rows)))) (lT (fZ (fun e=>bit q.eG e.i) (kH (fun e=>bY e.cls) rows)) (zn (S::sn)))->gy cx ops F T q.o=some v:=by
   intro T hT;rw[cR,cF,yi]at hT;obtain⟨i,hi⟩:=List.getElem?_of_mem hT;rw[List.getElem?_take]at hi;split at hi
   .rename_i cQ;rw[List.getElem?_drop]at hi;exact e4 (Hd rows q+i) T (Nat.le_add_right _ _) (by unfold Eo;have:=Nat.le_of_lt_succ cQ;unfold Hd at *;omega) hi
   .cases hi
  split
  .rfl
  .rename_i ct;simp only[e1,iJ,hdn,decide_true,cond_true,e2];rw[lz];intro T hT;rw[lr T hT];refine Tf v (e3 ?_);rcases Nat.lt_or_ge (Hd rows q) (Eo rows q)with h0|h0
   .exact h0
   .exfalso;have hz:Nat.sub (fZ (fun e=>!bit e.eG q.i) (kH (fun e=>bY e.cls) rows)) (Hd rows q)=0:=by unfold Eo at h0;omega
    unfold Hd at hz;rw[hz,cR,cF]at hT ct;generalize hL:List.drop (fZ (fun e=>bit q.eG e.i) (kH (fun e=>bY e.cls) rows)) (zn (S::sn))=L at hT ct;cases L with
    |nil=>simp at hT
    |cons a L=>exact ct a (by simp)
 |r::l,pl,P,F,S,ps,sn,lv,id,CQ,hn,hd,hb,hi,hm,hw,xY,hs,h=>by
  simp only[NL,zza]at hb;obtain⟨tP,Eu⟩:=hb;have Aa:rows=(P++[r])++l:=by rw[CQ];simp
  have hri:r.i=P.length:=hi P.length r (by rw[CQ];simp);have Hu:(P++[r]).length=P.length+1:=by simp
  have jm:∀q,q∈P->fE q.cls=true->∀(v:AV)t,(q.o.dst=some t\/t∈iG ops q.o)->(up F r.o.dst v).t.get t=F.t.get t:=by
   intro q hq tf v t ht;refine sr fun e=>?_;obtain⟨k1,k2⟩:=hw q hq tf r (zzd ..) t e;rcases ht with ht|ht
   .exact k1 ht.symm
   .exact k2 ht
  have xV:∀q,q∈P++[r]->fE q.cls=true->∀w,w∈l->∀e,w.o.dst=some e->some e≠q.o.dst/\e∉iG ops q.o:=by
   intro q hq tf w PX e he;rcases List.mem_append.1 hq with hq|hq
   .exact hw q hq tf w (zzc _ PX) e he
   .rw[zzb]at hq;subst hq;rw[tf]at tP;simp only[cond_true]at tP;cases hdq:q.o.dst with
    |none=>rw[hdq]at tP;cases tP
    |some d=>
     rw[hdq]at tP;simp only[zza,zzf]at tP;obtain⟨_,h2⟩:=tP;rw[lz]at h2;have:=h2 w PX;rw[he]at this;simp only[bO,zza,zzf,decide_eq_false_iff_not]at this;refine⟨fun e'=>this.1 (by cases e';rfl),fun e'=>?_⟩;have h3:=(uW _ _).2 e';rw[h3]at this;cases this.2
  have carry:∀(v:AV)(lv2:List Live),(∀x,x∈lv->x∈lv2)->∀q,q∈P->fE q.cls=true->∃d u,q.o.dst=some d/\(up F r.o.dst v).t.get d=some u/\(Hd rows q<Eo rows q->okW u=true) /\
    (∀j T,Hd rows q<=j->j<=Eo rows q->(S::sn).reverse[j]?=some T->gy cx ops (up F r.o.dst v) T q.o=some u) /\
    (sn.length<Eo rows q->∃x,x∈lv2/\x.o=q.o/\x.v=u/\x.n=Eo rows q-sn.length):=by
   intro v lv2 Rr q hq tf;obtain⟨d,u,k1,k2,k3,k4,k5⟩:=hs q hq tf;refine⟨d,u,k1,by rw[jm q hq tf v d (.inl k1)];exact k2,k3,fun j T h1 h2 h3=>?_,fun hh=>?_⟩
   .rw[<-k4 j T h1 h2 h3];exact jh fun t ht=>jm q hq tf v t (.inr ht)
   .obtain⟨x,x1,x2⟩:=k5 hh;exact⟨x,Rr x x1,x2⟩
  cases pl with
  |nil=>cases hm
  |cons a pl=>
   cases a with
   |p=>
    have iR:((match r.cls with | .pure=>true|_=>false)&&fV rows l pl sn.length)=true:=hm;rw[zza]at iR;have hc:r.cls=.pure:=by cases sS:r.cls<;>rw[sS]at iR<;>first|rfl|(cases iR.1)
    obtain⟨v,hv,hk⟩:=Ck (show oe cx ops r.o F S _ from h);have CP:Seen cx ops rows (P++[r]) (up F r.o.dst v) S sn lv:=by
     intro q hq tf;rcases List.mem_append.1 hq with hq|hq
     .exact carry v lv (fun _ hx=>hx) q hq tf
     .rw[zzb]at hq;subst hq;rw[hc]at tf;cases tf
    have ih:=oo l pl (P++[r]) (up F r.o.dst v) S ps sn lv id Aa (by rw[nc];exact hn) hd Eu hi iR.2 xV xY CP (by rw[Hu];exact hk);rw[ez,hc];simp only[];rw[pM]at hv;cases PW:bj ops F r.o.guard with
    |none=>rw[PW]at hv;cases hv
    |some b=>
     rw[PW]at hv;cases b with
     |true=>
      refine⟨fun _=>?_,fun e=>by cases e⟩;simp only[]at hv;cases ha:bF cx F S r.o<;>rw[ha]at hv<;>first|(cases hv;done)|skip
      cases hv;exact⟨_,_,rfl,ih⟩
     |false=>
      refine⟨fun e=>(by cases e),fun _=>?_⟩;cases hv;exact ih
   |r bk kp=>
    have iR:(fE r.cls&&Nat.ble (Hd rows r) sn.length&&zzg bk (sn.length-Hd rows r)&&zzg kp (Eo rows r-sn.length)&&fV rows l pl sn.length)=true:=hm;simp only[zza,cY,bO,decide_eq_true_eq]at iR;obtain⟨⟨⟨⟨xv,rr⟩,Zz⟩,KU⟩,iR⟩:=iR;have hc:r.cls=.read:=by cases sS:r.cls<;>rw[sS]at xv<;>first|rfl|(cases xv)
    obtain⟨v,hv,qA,m9,hk⟩:=Ck (show oe cx ops r.o F S _ from h);rw[xv]at tP;simp only[cond_true]at tP;have CP:Seen cx ops rows (P++[r]) (up F r.o.dst v) S sn (CI r.o v kp lv):=by
     intro q hq tf;rcases List.mem_append.1 hq with hq|hq
     .refine carry v _ (fun x hx=>?_) q hq tf;cases kp with
      |zero=>exact hx
      |succ m=>exact zzc _ hx
     .rw[zzb]at hq;subst hq;cases hdq:q.o.dst with
      |none=>rw[hdq]at tP;cases tP
      |some d=>
       rw[hdq]at tP;simp only[zza,zzf]at tP;have Vc:∀T,gy cx ops (up F (some d) v) T q.o=gy cx ops F T q.o:=by
        intro T;refine jh fun t ht=>sr fun e=>?_;cases e;rw[(uW _ _).2 ht]at tP;cases tP.1
       refine⟨d,v,rfl,xy,fun cQ=>?_,fun j T h1 h2 h3=>?_,fun cQ=>?_⟩
       .unfold Xc at m9;split at m9
        .omega
        .exact m9
       .rw[Vc];have hj:j<(S::sn).reverse.length:=(List.getElem?_eq_some_iff.1 h3).1;simp only[List.length_reverse,zze]at hj;rw[List.getElem?_reverse (by simpa using hj)]at h3;simp only[zze]at h3;by_cases he:j=sn.length
        .subst he;simp at h3;subst h3;exact hv
        .have e1:sn.length+1-1-j=(sn.length-1-j)+1:=by omega
         rw[e1,List.getElem?_cons_succ]at h3;exact Mo (zt qA _ T (by omega) h3)
       .obtain⟨m,CS⟩:∃m,kp=m+1:=⟨kp-1,by omega⟩
        subst CS;exact⟨⟨q.o,v,m+1⟩,zzd ..,rfl,rfl,KU⟩
    have ih:=oo l pl (P++[r]) (up F r.o.dst v) S ps sn _ id Aa (by rw[nc];exact hn) hd Eu hi iR xV xY CP (by rw[Hu];exact hk);rw[ez,hc];simp only[];rw[pM]at hv;cases PW:bj ops F r.o.guard with
    |none=>rw[PW]at hv;cases hv
    |some b=>
     rw[PW]at hv;cases b with
     |true=>
      refine⟨fun _=>?_,fun e=>by cases e⟩;simp only[]at hv;cases ha:bF cx F S r.o<;>rw[ha]at hv<;>first|(cases hv;done)|skip
      cases hv;exact⟨_,_,rfl,ih⟩
     |false=>
      refine⟨fun e=>(by cases e),fun _=>?_⟩;cases hv;exact ih
   |f=>
    have iR:(cl r.cls&&fV rows l pl sn.length)=true:=hm;rw[zza]at iR;have hc:r.cls=.fresh:=by cases sS:r.cls<;>rw[sS]at iR<;>first|rfl|(cases iR.1)
    have h':uF cx ops r.o F id (fun v x=>fq cx ops pl (l.map (·.o)) (P.length+1) (up F r.o.dst v) S (⟨P.length,id,x⟩::ps) sn lv (id+1) Q) (fq cx ops pl (l.map (·.o)) (P.length+1) (up F r.o.dst .undef) S ps sn lv id Q):=h;have CP:∀v,Seen cx ops rows (P++[r]) (up F r.o.dst v) S sn lv:=by
     intro v q hq tf;rcases List.mem_append.1 hq with hq|hq
     .exact carry v lv (fun _ hx=>hx) q hq tf
     .rw[zzb]at hq;subst hq;rw[hc]at tf;cases tf
    rw[ez,hc];simp only[];unfold uF at h';cases PW:bj ops F r.o.guard with
    |none=>rw[PW]at h';exact h'.elim
    |some b=>
     rw[PW]at h';cases b with
     |true=>
      refine⟨fun _=>?_,fun e=>by cases e⟩;have h1:=h'.1 rfl;unfold HI at h1;cases hf:aD cx F id r.o.op with
      |none=>rw[hf]at h1;exact h1.elim
      |some vx=>
       obtain⟨v,x⟩:=vx;rw[hf]at h1;refine⟨v,x,rfl,?_⟩;rw[hri];refine oo l pl (P++[r]) (up F r.o.dst v) S _ sn lv (id+1) Aa (by rw[nc];exact hn) hd Eu hi iR.2 xV (fun y hy=>?_) (CP v) (by rw[Hu];exact h1);rcases List.mem_cons.1 hy with rfl|hy
       .exact⟨r,by rw[CQ];simp,iR.1,hri⟩
       .exact xY y hy
     |false=>
      refine⟨fun e=>(by cases e),fun _=>?_⟩;exact oo l pl (P++[r]) (up F r.o.dst .undef) S ps sn lv id Aa (by rw[nc];exact hn) hd Eu hi iR.2 xV xY (CP _) (by rw[Hu];exact h'.2 rfl)
   |e cm=>
    have iR:(bY r.cls&&js (fun f=>cond (cl f.cls) (cond (wg f.i cm) (bit r.eG f.i) (!bit r.eG f.i)) true) rows&&fV rows l pl (sn.length+1))=true:=hm;simp only[zza]at iR;obtain⟨⟨hef,Rv⟩,iR⟩:=iR;have hc:r.cls=.BS:=by cases sS:r.cls<;>rw[sS]at hef<;>first|rfl|(cases hef)
    rw[lz]at Rv;have hcm':∀x,x∈ps->wg x.i cm=bit r.eG x.i:=by
     intro x hx;obtain⟨f,f1,f2,f3⟩:=xY x hx;have:=Rv f f1;rw[f2]at this;simp only[cond_true,f3]at this;cases hmm:wg x.i cm<;>rw[hmm]at this<;>cases qA:bit r.eG x.i<;>rw[qA]at this<;>first|rfl|(cases this)
    obtain⟨c1,c2⟩:=NG (S:=S) hcm';have h':fG cx ops r.o F (Lo cm ps S) fun v S'=>pG cx ops F S' lv/\fq cx ops pl (l.map (·.o)) (P.length+1) (up F r.o.dst v) S' (tc cm ps) (S::sn) (vp lv) id Q:=h;rw[ez,hc];simp only[];rw[c1]at h';refine pq h' ?_;rintro v S' ⟨hre,hk⟩;rw[<-c2];refine oo l pl (P++[r]) (up F r.o.dst v) S' (tc cm ps) (S::sn) (vp lv) id Aa (by rw[nc];exact hn) hd Eu hi iR xV (fun x hx=>?_) ?_ (by rw[Hu];exact hk)
    .have:x∈ps:=by
      rw[c2,pR]at hx;exact (List.mem_filter.1 hx).1
     exact xY x this
    .intro q hq tf;rcases List.mem_append.1 hq with hq|hq
     .obtain⟨d,u,k1,k2,k3,k4,k5⟩:=hs q hq tf;have Vc:∀T,gy cx ops (up F r.o.dst v) T q.o=gy cx ops F T q.o:=fun T=>jh fun t ht=>jm q hq tf v t (.inr ht);refine⟨d,u,k1,by rw[jm q hq tf v d (.inl k1)];exact k2,k3,fun j T h1 h2 h3=>?_,fun hh=>?_⟩
      .rw[Vc];rw[List.reverse_cons]at h3;by_cases hj:j<(S::sn).reverse.length
       .rw[List.getElem?_append_left hj]at h3;exact k4 j T h1 h2 h3
       .have hj2:j=sn.length+1:=by
         have:=(List.getElem?_eq_some_iff.1 h3).1;simp at this hj;omega
        subst hj2;rw[List.getElem?_append_right (by simp)]at h3;simp at h3;subst h3;obtain⟨x,x1,x2,x3,_⟩:=k5 (by omega);have:=J1 hre x x1;rw[x2,x3]at this;exact Mo this
      .simp only[zze]at hh;obtain⟨x,x1,x2,x3,x4⟩:=k5 (by omega);obtain⟨y,y1,y2,y3,y4⟩:=V9 x1 (by omega);exact⟨y,y1,y2.trans x2,y3.trans x3,by rw[y4,x4];simp only[zze];omega⟩
     .rw[zzb]at hq;subst hq;rw[hc]at tf;cases tf
theorem jV{rows:List Row}:∀(l:List Row)(pl:List Pk)(k:Nat),fV rows l pl k=true->rB l=tT pl
 |[],[],_,_=>rfl
 |[],a::pl,k,h=>by cases a<;>cases h
 |r::l,[],k,h=>by cases h
 |r::l,a::pl,k,h=>by
  have e:rB (r::l)=cond (cl r.cls) (Nat.succ (rB l)) (rB l):=rfl;cases a with
  |p=>
   have iR:((match r.cls with | .pure=>true|_=>false)&&fV rows l pl k)=true:=h;rw[zza]at iR;have hc:cl r.cls=false:=by cases sS:r.cls<;>rw[sS]at iR<;>first|rfl|(cases iR.1)
   rw[e,hc,jV l pl k iR.2];rfl
  |r b n=>
   have iR:(fE r.cls&&Nat.ble (Hd rows r) k&&zzg b (k-Hd rows r)&&zzg n (Eo rows r-k)&&fV rows l pl k)=true:=h;simp only[zza]at iR;have hc:cl r.cls=false:=by cases sS:r.cls<;>rw[sS]at iR<;>first|rfl|(cases iR.1.1.1.1)
   rw[e,hc,jV l pl k iR.2];rfl
  |f=>
   have iR:(cl r.cls&&fV rows l pl k)=true:=h;rw[zza]at iR;rw[e,iR.1,jV l pl k iR.2];rfl
  |e cm=>
   have iR:(bY r.cls&&js (fun f=>cond (cl f.cls) (cond (wg f.i cm) (bit r.eG f.i) (!bit r.eG f.i)) true) rows&&fV rows l pl (k+1))=true:=h;simp only[zza]at iR;have hc:cl r.cls=false:=by cases sS:r.cls<;>rw[sS]at iR<;>first|rfl|(cases iR.1.1)
   rw[e,hc,jV l pl (k+1) iR.2];rfl
theorem cu{cx:Cx}{ops:List Oper}{F:Fr}{S:AS}{Q:Fr->AS->Prop}{n:Nat}(pl:List Pk)(hk:SO cx n ops pl=true)(hn:F.n=n)
  (h:fq cx ops pl ops 0 F ⟨S.h,S.nx+tT pl⟩ [] [] [] S.nx Q):lL cx ops F S Q:=by
 unfold SO at hk;simp only[zza]at hk;obtain⟨⟨⟨h1,h2⟩,h3⟩,h4⟩:=hk;have hp:=vS cx ops.toArray;simp only[List.toList_toArray]at hp;obtain⟨pln,_⟩:=hp;have jdU:(settle (dW cx ops)).map (·.o)=ops:=by
  apply List.ext_getElem?;intro i;rw[List.getElem?_map];cases hi:(settle (dW cx ops))[i]? with
  |none=>
   have hlen:=pln.len;simp only[List.size_toArray]at hlen;rw[List.getElem?_eq_none_iff]at hi;simp only[Option.map_none];exact (List.getElem?_eq_none_iff.2 (by omega)).symm
  |some r=>
   have:=(pln.row i r hi).2;simp only[List.getElem?_toArray]at this;simp[this]
 refine⟨?_⟩;unfold vl GV;rw[h1];simp only[cond_true];rw[jV _ _ _ h4];exact oo (n:=n) _ pl [] F _ [] [] [] S.nx (by simp) hn h3 h2 (fun i r hr=>(pln.row i r hr).1) h4 (fun r hr=>by cases hr) (fun x hx=>by cases hx) (fun q hq=>by cases hq) (by rw[jdU];exact h)
section
variable{cx:Cx}{ops l:List Oper}{pl:List Pk}{o:Oper}{i id:Nat}{F:Fr}{S:AS}{ps:List fk}{sn:List AS}{lv:List Live}{Q:Fr->AS->Prop}
def jaX(cx:Cx)(ops:List Oper)(pl:List Pk)(l:List Oper)(i:Nat)(F:Fr)(d:Option Nat)(S:AS)(ps:List fk)(sn:List AS)(lv:List Live)(id:Nat)(Q:Fr->AS->Prop)(v:AV):Prop:=fq cx ops pl l i (up F d v) S ps sn lv id Q
def jaW(cx:Cx)(ops:List Oper)(pl:List Pk)(l:List Oper)(i b k:Nat)(F:Fr)(o:Oper)(S:AS)(ps:List fk)(sn:List AS)(lv:List Live)(id:Nat)(Q:Fr->AS->Prop)(v:AV):Prop:=
 qP cx ops F o v b sn/\Xc b k v/\fq cx ops pl l i (up F o.dst v) S ps sn (CI o v k lv) id Q
def jaY(cx:Cx)(ops:List Oper)(pl:List Pk)(l:List Oper)(i:Nat)(F:Fr)(d:Option Nat)(S:AS)(ps:List fk)(sn:List AS)(lv:List Live)(id:Nat)(Q:Fr->AS->Prop)(v:AV)(x:dR):Prop:=
 fq cx ops pl l (i+1) (up F d v) S (⟨i,id,x⟩::ps) sn lv (id+1) Q
def jaZ(cx:Cx)(ops:List Oper)(pl:List Pk)(l:List Oper)(i:Nat)(F:Fr)(d:Option Nat)(S:AS)(ps:List fk)(sn:List AS)(lv:List Live)(id:Nat)(Q:Fr->AS->Prop)(v:AV)(S':AS):Prop:=
 pG cx ops F S' lv/\fq cx ops pl l i (up F d v) S' ps (S::sn) (vp lv) id Q
theorem OT:fq cx ops [] [] i F S ps sn lv id Q=Q F (Lp ps S):=by rw[fq]
theorem X7:fq cx ops (.p::pl) (o::l) i F S ps sn lv id Q=oe cx ops o F S (jaX cx ops pl l (i+1) F o.dst S ps sn lv id Q):=by rw[fq];rfl
theorem X6{b k:Nat}:fq cx ops (.r b k::pl) (o::l) i F S ps sn lv id Q=oe cx ops o F S (jaW cx ops pl l (i+1) b k F o S ps sn lv id Q):=by rw[fq];rfl
theorem X8:fq cx ops (.f::pl) (o::l) i F S ps sn lv id Q=uF cx ops o F id (jaY cx ops pl l i F o.dst S ps sn lv id Q) (fq cx ops pl l (i+1) (up F o.dst .undef) S ps sn lv id Q):=by rw[fq];rfl
theorem X9{cm:List Nat}:fq cx ops (.e cm::pl) (o::l) i F S ps sn lv id Q=fG cx ops o F (Lo cm ps S) (jaZ cx ops pl l (i+1) F o.dst S (tc cm ps) sn lv id Q):=by rw[fq];rfl
theorem Oi{d:Option Nat}{v:AV}:jaX cx ops pl l i F d S ps sn lv id Q v=fq cx ops pl l i (up F d v) S ps sn lv id Q:=rfl
theorem Oh{b k:Nat}{v:AV}:jaW cx ops pl l i b k F o S ps sn lv id Q v=(qP cx ops F o v b sn/\Xc b k v/\fq cx ops pl l i (up F o.dst v) S ps sn (CI o v k lv) id Q):=rfl
theorem Oj{d:Option Nat}{v:AV}{x:dR}:jaY cx ops pl l i F d S ps sn lv id Q v x=fq cx ops pl l (i+1) (up F d v) S (⟨i,id,x⟩::ps) sn lv (id+1) Q:=rfl
theorem Ol{d:Option Nat}{v:AV}{S':AS}:jaZ cx ops pl l i F d S ps sn lv id Q v S'=(pG cx ops F S' lv/\fq cx ops pl l i (up F d v) S' ps (S::sn) (vp lv) id Q):=rfl
variable{dst:Option Tmp}{op:Op}{ty:TypeId}{pos:String}{af:Array Edge}{K:AV->Prop}{KF:AV->dR->Prop}{J:Prop}
theorem JE:oe cx ops ⟨dst,op,ty,pos,af,none⟩ F S K=FT (bF cx F S ⟨dst,op,ty,pos,af,none⟩) K:=by simp[oe,bj]
theorem Ow{j d:Nat}{w b:Bool}(h1:ff ops j=some d)(h2:sl F d=.bool b)(h3:(b==w)=true):oe cx ops ⟨dst,op,ty,pos,af,some (j,w)⟩ F S K=FT (bF cx F S ⟨dst,op,ty,pos,af,some (j,w)⟩) K:=by
 have hw:=fA (w:=w) h1 h2;obtain rfl:b=w:=by simpa using h3
 show (match bj ops F (some (j,b))with
  |some b'=>(b'=true->FT (bF cx F S ⟨dst,op,ty,pos,af,some (j,b)⟩) K)/\(b'=false->K AV.undef)
  |none=>False)=_
 rw[hw];cases b<;>simp
theorem JD{j d:Nat}{w b:Bool}(h1:ff ops j=some d)(h2:sl F d=.bool b)(h3:(b == !w)=true):oe cx ops ⟨dst,op,ty,pos,af,some (j,w)⟩ F S K=K AV.undef:=by
 have hw:=fA (w:=w) h1 h2;obtain rfl:b=!w:=by simpa using h3
 show (match bj ops F (some (j,w))with
  |some b'=>(b'=true->FT (bF cx F S ⟨dst,op,ty,pos,af,some (j,w)⟩) K)/\(b'=false->K AV.undef)
  |none=>False)=_
 rw[hw];cases w<;>simp
theorem Gh{j d:Nat}{w:Bool}(h1:ff ops j=some d)(h2:sl F d=.undef):oe cx ops ⟨dst,op,ty,pos,af,some (j,w)⟩ F S K=K AV.undef:=by
 obtain⟨p,e1,e2⟩:=kz ops j d h1;have hw:bj ops F (some (j,w))=some false:=by simp[bj,e1,e2,h2,AV.undef]
 show (match bj ops F (some (j,w))with
  |some b'=>(b'=true->FT (bF cx F S ⟨dst,op,ty,pos,af,some (j,w)⟩) K)/\(b'=false->K AV.undef)
  |none=>False)=_
 rw[hw];simp
theorem JK:uF cx ops ⟨dst,op,ty,pos,af,none⟩ F id KF J=HI (aD cx F id op) KF:=by simp[uF,bj]
theorem Oz{j d:Nat}{w b:Bool}(h1:ff ops j=some d)(h2:sl F d=.bool b)(h3:(b==w)=true):uF cx ops ⟨dst,op,ty,pos,af,some (j,w)⟩ F id KF J=HI (aD cx F id op) KF:=by
 have hw:=fA (w:=w) h1 h2;obtain rfl:b=w:=by simpa using h3
 show (match bj ops F (some (j,b))with
  |some b'=>(b'=true->HI (aD cx F id op) KF)/\(b'=false->J)
  |none=>False)=_
 rw[hw];cases b<;>simp
theorem JJ{j d:Nat}{w b:Bool}(h1:ff ops j=some d)(h2:sl F d=.bool b)(h3:(b == !w)=true):uF cx ops ⟨dst,op,ty,pos,af,some (j,w)⟩ F id KF J=J:=by
 have hw:=fA (w:=w) h1 h2;obtain rfl:b=!w:=by simpa using h3
 show (match bj ops F (some (j,w))with
  |some b'=>(b'=true->HI (aD cx F id op) KF)/\(b'=false->J)
  |none=>False)=_
 rw[hw];cases w<;>simp
theorem Gn{j d:Nat}{w:Bool}(h1:ff ops j=some d)(h2:sl F d=.undef):uF cx ops ⟨dst,op,ty,pos,af,some (j,w)⟩ F id KF J=J:=by
 obtain⟨p,e1,e2⟩:=kz ops j d h1;have hw:bj ops F (some (j,w))=some false:=by simp[bj,e1,e2,h2,AV.undef]
 show (match bj ops F (some (j,w))with
  |some b'=>(b'=true->HI (aD cx F id op) KF)/\(b'=false->J)
  |none=>False)=_
 rw[hw];simp
theorem Qf{v:AV}{x:dR}:HI (some (v,x)) KF=KF v x:=rfl
theorem RN{v:AV}{S':AS}:FT (.val v S') K=K v:=rfl
theorem Q7{v u:AV}{S':AS}:xK (.val u S') v=(u=v):=rfl
variable{v:AV}
theorem SF:O6 cx ops F S ⟨dst,op,ty,pos,af,none⟩ v=xK (bF cx F S ⟨dst,op,ty,pos,af,none⟩) v:=by simp[O6,bj]
theorem Yd{j d:Nat}{w b:Bool}(h1:ff ops j=some d)(h2:sl F d=.bool b)(h3:(b==w)=true):O6 cx ops F S ⟨dst,op,ty,pos,af,some (j,w)⟩ v=xK (bF cx F S ⟨dst,op,ty,pos,af,some (j,w)⟩) v:=by
 have hw:=fA (w:=w) h1 h2;obtain rfl:b=w:=by simpa using h3
 show (match bj ops F (some (j,b))with
  |some b'=>(b'=true->xK (bF cx F S ⟨dst,op,ty,pos,af,some (j,b)⟩) v)/\(b'=false->v=AV.undef)
  |none=>False)=_
 rw[hw];cases b<;>simp
theorem SE{j d:Nat}{w b:Bool}(h1:ff ops j=some d)(h2:sl F d=.bool b)(h3:(b == !w)=true):O6 cx ops F S ⟨dst,op,ty,pos,af,some (j,w)⟩ AV.undef=True:=by
 have hw:=fA (w:=w) h1 h2;obtain rfl:b=!w:=by simpa using h3
 show (match bj ops F (some (j,w))with
  |some b'=>(b'=true->xK (bF cx F S ⟨dst,op,ty,pos,af,some (j,w)⟩) AV.undef)/\(b'=false->AV.undef=AV.undef)
  |none=>False)=_
 rw[hw];cases w<;>simp
theorem O5{j d:Nat}{w:Bool}(h1:ff ops j=some d)(h2:sl F d=.undef):O6 cx ops F S ⟨dst,op,ty,pos,af,some (j,w)⟩ AV.undef=True:=by
 obtain⟨p,e1,e2⟩:=kz ops j d h1;have hw:bj ops F (some (j,w))=some false:=by simp[bj,e1,e2,h2,AV.undef]
 show (match bj ops F (some (j,w))with
  |some b'=>(b'=true->xK (bF cx F S ⟨dst,op,ty,pos,af,some (j,w)⟩) AV.undef)/\(b'=false->AV.undef=AV.undef)
  |none=>False)=_
 rw[hw];simp
theorem Tr:Xc 0 0 v=True:=rfl
theorem Tt{b k:Nat}:Xc (b+1) k v=(okW v=true):=rfl
theorem Ts{b k:Nat}:Xc b (k+1) v=(okW v=true):=by cases b<;>rfl
theorem KB:CI o v 0 lv=lv:=rfl
theorem KC{k:Nat}:CI o v (k+1) lv=⟨o,v,k+1⟩::lv:=rfl
theorem V8{l:List Live}:vp (⟨o,v,1⟩::l)=vp l:=rfl
theorem Qv{l:List Live}{n:Nat}:vp (⟨o,v,n+2⟩::l)=⟨o,v,n+1⟩::vp l:=rfl
theorem GO:qP cx ops F o v 0 sn=True:=by cases sn<;>rfl
theorem GP{n:Nat}:qP cx ops F o v (n+1) (S::sn)=(O6 cx ops F S o v/\qP cx ops F o v n sn):=rfl
theorem J0:pG cx ops F S []=True:=rfl
theorem GN{x:Live}{l:List Live}:pG cx ops F S (x::l)=(O6 cx ops F S x.o x.v/\pG cx ops F S l):=rfl
end
end Go.Am
end
