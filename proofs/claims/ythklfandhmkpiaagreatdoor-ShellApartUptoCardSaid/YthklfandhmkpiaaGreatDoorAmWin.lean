/-
  The abstract machine: a region that draws its order and changes the memory: its plan, read off ahead; what is asked of its reading operations is asked where the memory turns.
-/
import Derived.Test.YthklfandhmkpiaaGreatDoorAmStill
open Bool renaming and_eq_true->zza,not_eq_true'->zzf
open List renaming mem_singleton->zzb,mem_cons_of_mem->zzc,mem_cons_self->zzd,length_cons->zze
open Nat renaming beq->zzg
set_option linter.unusedSimpArgs false
noncomputable section
namespace Go.Am
open Go
def okW:AV->Bool
 | .func (.func _) a b=>fQ a&&fQ b
 |v=>qW v
theorem okW_same(v:AV)(h:okW v=true):eO 8 v v=true:=by
 cases v<;>try exact u9 _ h
 rename_i fn a b;cases fn<;>try exact u9 _ h
 simp only[okW,zza]at h;rename_i f;show (zzg f f&&Al 7 a a&&Al 7 b b)=true;rw[kx 6 a h.1,kx 6 b h.2];simp[bC]
inductive Pk where
 |p|f|r (back fM:Nat)|e (cm:List Nat)
structure Live where
 o:Oper
 v:AV
 n:Nat
def qg:List Pk->Nat
 |[]=>0
 | .f::l=>qg l+1
 | .p::l=>qg l
 | .r _ _::l=>qg l
 | .e _::l=>qg l
def se(n:Nat):List Nat->Bool
 |[]=>false
 |m::l=>(n==m)||se n l
def comL(cm:List Nat):List dD->AS->AS
 |[],S=>S
 |x::ps,S=>comL cm ps (if se x.i cm=true then⟨S.h.set x.id x.obj,S.nx⟩ else S)
def pI(cm:List Nat):List dD->List dD
 |[]=>[]
 |x::ps=>if se x.i cm=true then pI cm ps else x::pI cm ps
def comA:List dD->AS->AS
 |[],S=>S
 |x::ps,S=>comA ps ⟨S.h.set x.id x.obj,S.nx⟩
def ry:List Live->List Live
 |[]=>[]
 |x::l=>match x.n with
  |0=>ry l
  |1=>ry l
  |n+2=>⟨x.o,x.v,n+1⟩::ry l
def tE(r:AR)(v:AV):Prop:=match r with | .val u _=>u=v|_=>False
def reP(cx:Cx)(ops:List Oper)(F:Fr)(T:AS)(o:Oper)(v:AV):Prop:=
 match bQ ops F o.guard with
 |some b=>(b=true->tE (bE cx F T o) v)/\(b=false->v=.undef)
 |none=>False
def mS(cx:Cx)(ops:List Oper)(F:Fr)(T:AS):List Live->Prop
 |[]=>True
 |x::l=>reP cx ops F T x.o x.v/\mS cx ops F T l
def om(cx:Cx)(ops:List Oper)(F:Fr)(o:Oper)(v:AV):Nat->List AS->Prop
 |0,_=>True
 |_+1,[]=>True
 |n+1,T::sn=>reP cx ops F T o v/\om cx ops F o v n sn
def okN(back fM:Nat)(v:AV):Prop:=match back,fM with|0,0=>True|_,_=>okW v=true
def yV(o:Oper)(v:AV)(fM:Nat)(lv:List Live):List Live:=match fM with|0=>lv|n+1=>⟨o,v,n+1⟩::lv
def B5(r:AR)(K:AV->Prop):Prop:=match r with | .val v _=>K v|_=>False
def lT(cx:Cx)(ops:List Oper)(o:Oper)(F:Fr)(S:AS)(K:AV->Prop):Prop:=
 match bQ ops F o.guard with
 |some b=>(b=true->B5 (bE cx F S o) K)/\(b=false->K .undef)
 |none=>False
def DL(r:Option (AV×dp))(K:AV->dp->Prop):Prop:=match r with|some (v,x)=>K v x|none=>False
def qC(cx:Cx)(ops:List Oper)(o:Oper)(F:Fr)(id:Nat)(K:AV->dp->Prop)(J:Prop):Prop:=
 match bQ ops F o.guard with
 |some b=>(b=true->DL (aO cx F id o.op) K)/\(b=false->J)
 |none=>False
def eI(cx:Cx)(ops:List Oper):List Pk->List Oper->Nat->Fr->AS->List dD->List AS->List Live->Nat->(Fr->AS->Prop)->Prop
 |[],[],_,F,S,ps,_,_,_,Q=>Q F (comA ps S)
 | .p::pl,o::l,i,F,S,ps,sn,lv,id,Q=>lT cx ops o F S fun v=>eI cx ops pl l (i+1) (up F o.dst v) S ps sn lv id Q
 | .r b k::pl,o::l,i,F,S,ps,sn,lv,id,Q=>lT cx ops o F S fun v=>om cx ops F o v b sn/\okN b k v/\eI cx ops pl l (i+1) (up F o.dst v) S ps sn (yV o v k lv) id Q
 | .f::pl,o::l,i,F,S,ps,sn,lv,id,Q=>qC cx ops o F id (fun v x=>eI cx ops pl l (i+1) (up F o.dst v) S (⟨i,id,x⟩::ps) sn lv (id+1) Q) (eI cx ops pl l (i+1) (up F o.dst .undef) S ps sn lv id Q)
 | .e cm::pl,o::l,i,F,S,ps,sn,lv,id,Q=>eX cx ops o F (comL cm ps S) fun v S'=>mS cx ops F S' lv/\eI cx ops pl l (i+1) (up F o.dst v) S' (pI cm ps) (S::sn) (ry lv) id Q
 |_,_,_,_,_,_,_,_,_,_=>False
def Da(rows:List Row)(r:Row):Nat:=eD (fun e=>bit r.dy e.i) (gr (fun e=>bR e.cls) rows)
def hiN(rows:List Row)(r:Row):Nat:=Da rows r+Nat.sub (eD (fun e=>!bit e.dy r.i) (gr (fun e=>bR e.cls) rows)) (Da rows r)
def fo(rows:List Row):List Row->List Pk->Nat->Bool
 |[],[],_=>true
 |r::l,.p::pl,k=>(match r.cls with | .pure=>true|_=>false)&&fo rows l pl k
 |r::l,.f::pl,k=>bU r.cls&&fo rows l pl k
 |r::l,.r b n::pl,k=>eC r.cls&&Nat.ble (Da rows r) k&&zzg b (k-Da rows r)&&zzg n (hiN rows r-k)&&fo rows l pl k
 |r::l,.e cm::pl,k=>bR r.cls&&gS (fun f=>cond (bU f.cls) (cond (se f.i cm) (bit r.dy f.i) (!bit r.dy f.i)) true) rows&&fo rows l pl (k+1)
 |_,_,_=>false
def calmB(ops:List Oper):List Row->Bool
 |[]=>true
 |r::l=>cond (eC r.cls) (match r.o.dst with
  |some d=>!wX d (gh ops r.o)&&gS (fun w=>match w.o.dst with|some e=>!Nat.beq e d && !wX e (gh ops r.o)|none=>true) l
  |none=>false) true&&calmB ops l
def planIs(cx:Cx)(n:Nat)(ops:List Oper)(pl:List Pk):Bool:=
 gp ops (settle (dw cx ops))&&calmB ops (settle (dw cx ops))&&nq n (settle (dw cx ops))&&fo (settle (dw cx ops)) (settle (dw cx ops)) pl 0
theorem comA_eq:∀(ps:List dD)(S:AS),comA ps S=bB (fun _=>true) ps S
 |[],_=>rfl
 |x::ps,S=>by
  show comA ps _=bB (fun _=>true) ps (cond true _ _);rw[comA_eq ps];rfl
theorem comL_eq{cm:List Nat}{m:Nat}:∀{ps:List dD}{S:AS},(∀x,x∈ps->se x.i cm=bit m x.i)->comL cm ps S=bB (fun p=>bit m p.i) ps S/\pI cm ps=gr (fun p=>!bit m p.i) ps
 |[],S,_=>⟨rfl,rfl⟩
 |x::ps,S,h=>by
  have hx:=h x (zzd ..);obtain⟨h1,h2⟩:=comL_eq (ps:=ps) (S:=if se x.i cm=true then⟨S.h.set x.id x.obj,S.nx⟩ else S) fun y hy=>h y (zzc _ hy);constructor
  .show comL cm ps _=bB (fun p=>bit m p.i) ps (cond (bit m x.i) _ S);rw[h1,<-hx];cases se x.i cm<;>rfl
  .show pI cm (x::ps)=cond (!bit m x.i) (x::gr (fun p=>!bit m p.i) ps) (gr (fun p=>!bit m p.i) ps);rw[pI,h2,<-hx];cases se x.i cm<;>rfl
theorem reP_one{cx:Cx}{ops:List Oper}{F:Fr}{T:AS}{o:Oper}{v:AV}(h:reP cx ops F T o v):fa cx ops F T o=some v:=by
 unfold reP at h;rw[mU];cases hw:bQ ops F o.guard with
 |none=>rw[hw]at h;exact h.elim
 |some b=>
  rw[hw]at h;cases b with
  |true=>
   have h1:=h.1 rfl;unfold tE at h1;simp only[];cases ha:bE cx F T o<;>rw[ha]at h1<;>first|exact h1.elim|exact congrArg some h1
  |false=>rw[h.2 rfl]
theorem yv{cx:Cx}{ops:List Oper}{F:Fr}{S:AS}{o:Oper}{K:AV->Prop}(h:lT cx ops o F S K):∃v,fa cx ops F S o=some v/\K v:=by
 unfold lT at h;rw[mU];cases hw:bQ ops F o.guard with
 |none=>rw[hw]at h;exact h.elim
 |some b=>
  rw[hw]at h;cases b with
  |true=>
   have h1:=h.1 rfl;unfold B5 at h1;simp only[];cases ha:bE cx F S o<;>rw[ha]at h1<;>first|exact h1.elim|exact⟨_,rfl,h1⟩
  |false=>exact⟨_,rfl,h.2 rfl⟩
def Seen(cx:Cx)(ops:List Oper)(rows:List Row)(P:List Row)(F:Fr)(S:AS)(sn:List AS)(lv:List Live):Prop:=
 ∀q,q∈P->eC q.cls=true->∃d v,q.o.dst=some d/\F.t.get d=some v/\(Da rows q<hiN rows q->okW v=true) /\
  (∀j T,Da rows q<=j->j<=hiN rows q->(S::sn).reverse[j]?=some T->fa cx ops F T q.o=some v) /\
  (sn.length<hiN rows q->∃x,x∈lv/\x.o=q.o/\x.v=v/\x.n=hiN rows q-sn.length)
theorem FG{cx:Cx}{ops:List Oper}{F:Fr}{T:AS}{lv:List Live}(h:mS cx ops F T lv):∀x,x∈lv->reP cx ops F T x.o x.v:=by
 induction lv with
 |nil=>intro x hx;cases hx
 |cons y l ih=>
  intro x hx;rcases List.mem_cons.1 hx with e|hx
  .rw[e];exact h.1
  .exact ih h.2 x hx
theorem decL_mem{lv:List Live}{x:Live}(hx:x∈lv)(hn:1<x.n):∃y,y∈ry lv/\y.o=x.o/\y.v=x.v/\y.n=x.n-1:=by
 induction lv with
 |nil=>cases hx
 |cons a l ih=>
  rcases List.mem_cons.1 hx with e|hx
  .subst e;obtain⟨o,v,n⟩:=x
   match n,hn with
   |n+2,_=>exact⟨⟨o,v,n+1⟩,zzd ..,rfl,rfl,by simp⟩
  .obtain⟨y,h1,h2⟩:=ih hx;refine⟨y,?_,h2⟩;obtain⟨o,v,n⟩:=a
   match n with
   |0=>exact h1
   |1=>exact h1
   |n+2=>exact zzc _ h1
theorem uY{cx:Cx}{ops:List Oper}{F:Fr}{o:Oper}{v:AV}:∀{n:Nat}{sn:List AS},om cx ops F o v n sn->∀i T,i<n->sn[i]?=some T->reP cx ops F T o v
 |n+1,T::sn,h,0,T',_,ht=>by simp at ht;subst ht;exact h.1
 |n+1,T::sn,h,i+1,T',hi,ht=>uY h.2 i T' (by omega) (by simpa using ht)
theorem lX{cx:Cx}{ops:List Oper}{rows:List Row}{n:Nat}{Q:Fr->AS->Prop}:∀(l:List Row)(pl:List Pk)(P:List Row)(F:Fr)(S:AS)(ps:List dD)(sn:List AS)(lv:List Live)(id:Nat),
  rows=P++l->F.n=n->nq n rows=true->calmB ops l=true->(∀(i:Nat)(r:Row),rows[i]?=some r->r.i=i)->fo rows l pl sn.length=true ->
  (∀r,r∈P->eC r.cls=true->∀w,w∈l->∀e,w.o.dst=some e->some e≠r.o.dst/\e∉gh ops r.o) ->
  (∀x,x∈ps->∃f,f∈rows/\bU f.cls=true/\f.i=x.i) ->
  Seen cx ops rows P F S sn lv->eI cx ops pl (l.map (·.o)) P.length F S ps sn lv id Q ->
  dU cx ops l F S ps sn id fun F' S' Ft=>winP cx ops rows F' (rT Ft)/\Q F' S'
 |[],pl,P,F,S,ps,sn,lv,id,za,hn,hd,_,_,hm,_,_,hs,h=>by
  have oZ:pl=[]:=by
   cases pl with
   |nil=>rfl
   |cons a pl=>cases a<;>cases hm
  subst oZ;have h':Q F (comA ps S):=h;rw[comA_eq]at h';refine⟨?_,h'⟩;intro q hq hr;rw[za,List.append_nil]at hq;obtain⟨d,v,e1,e2,e3,e4,_⟩:=hs q hq hr;have hdn:d<F.n:=by
   rw[hn];have:=List.all_eq_true.1 hd q (by rw[za,List.append_nil];exact hq);unfold DZ at this;rw[e1]at this;simpa[gJ]using this
  unfold hX;simp only[];have kL:∀T,T∈takeN (Nat.succ (Nat.sub (eD (fun e=>!bit e.dy q.i) (gr (fun e=>bR e.cls) rows)) (eD (fun e=>bit q.dy e.i) (gr (fun e=>bR e.cls) rows)))) (kZ (eD (fun e=>bit q.dy e.i) (gr (fun e=>bR e.cls) rows)) (rT (S::sn)))->fa cx ops F T q.o=some v:=by
   intro T hT;rw[cK,cY,ua]at hT;obtain⟨i,hi⟩:=List.getElem?_of_mem hT;rw[List.getElem?_take]at hi;split at hi
   .rename_i cR;rw[List.getElem?_drop]at hi;exact e4 (Da rows q+i) T (Nat.le_add_right _ _) (by unfold hiN;have:=Nat.le_of_lt_succ cR;unfold Da at *;omega) hi
   .cases hi
  split
  .rfl
  .rename_i cl;simp only[e1,gJ,hdn,decide_true,cond_true,e2];rw[mD];intro T hT;rw[kL T hT];refine okW_same v (e3 ?_);rcases Nat.lt_or_ge (Da rows q) (hiN rows q)with h0|h0
   .exact h0
   .exfalso;have hz:Nat.sub (eD (fun e=>!bit e.dy q.i) (gr (fun e=>bR e.cls) rows)) (Da rows q)=0:=by unfold hiN at h0;omega
    unfold Da at hz;rw[hz,cK,cY]at hT cl;generalize hL:List.drop (eD (fun e=>bit q.dy e.i) (gr (fun e=>bR e.cls) rows)) (rT (S::sn))=L at hT cl;cases L with
    |nil=>simp at hT
    |cons a L=>exact cl a (by simp)
 |r::l,pl,P,F,S,ps,sn,lv,id,za,hn,hd,hb,hi,hm,hw,hps,hs,h=>by
  simp only[calmB,zza]at hb;obtain⟨pd,AT⟩:=hb;have vC:rows=(P++[r])++l:=by rw[za];simp
  have hri:r.i=P.length:=hi P.length r (by rw[za];simp);have Dw:(P++[r]).length=P.length+1:=by simp
  have gM:∀q,q∈P->eC q.cls=true->∀(v:AV)t,(q.o.dst=some t\/t∈gh ops q.o)->(up F r.o.dst v).t.get t=F.t.get t:=by
   intro q hq qt v t ht;refine pe fun e=>?_;obtain⟨k1,k2⟩:=hw q hq qt r (zzd ..) t e;rcases ht with ht|ht
   .exact k1 ht.symm
   .exact k2 ht
  have hw2:∀q,q∈P++[r]->eC q.cls=true->∀w,w∈l->∀e,w.o.dst=some e->some e≠q.o.dst/\e∉gh ops q.o:=by
   intro q hq qt w hwl e he;rcases List.mem_append.1 hq with hq|hq
   .exact hw q hq qt w (zzc _ hwl) e he
   .rw[zzb]at hq;subst hq;rw[qt]at pd;simp only[cond_true]at pd;cases hdq:q.o.dst with
    |none=>rw[hdq]at pd;cases pd
    |some d=>
     rw[hdq]at pd;simp only[zza,zzf]at pd;obtain⟨_,h2⟩:=pd;rw[mD]at h2;have:=h2 w hwl;rw[he]at this;simp only[bC,zza,zzf,decide_eq_false_iff_not]at this;refine⟨fun e'=>this.1 (by cases e';rfl),fun e'=>?_⟩;have h3:=(qX _ _).2 e';rw[h3]at this;cases this.2
  have carry:∀(v:AV)(lv2:List Live),(∀x,x∈lv->x∈lv2)->∀q,q∈P->eC q.cls=true->∃d u,q.o.dst=some d/\(up F r.o.dst v).t.get d=some u/\(Da rows q<hiN rows q->okW u=true) /\
    (∀j T,Da rows q<=j->j<=hiN rows q->(S::sn).reverse[j]?=some T->fa cx ops (up F r.o.dst v) T q.o=some u) /\
    (sn.length<hiN rows q->∃x,x∈lv2/\x.o=q.o/\x.v=u/\x.n=hiN rows q-sn.length):=by
   intro v lv2 hl2 q hq qt;obtain⟨d,u,k1,k2,k3,k4,k5⟩:=hs q hq qt;refine⟨d,u,k1,by rw[gM q hq qt v d (.inl k1)];exact k2,k3,fun j T h1 h2 h3=>?_,fun hh=>?_⟩
   .rw[<-k4 j T h1 h2 h3];exact gI fun t ht=>gM q hq qt v t (.inr ht)
   .obtain⟨x,x1,x2⟩:=k5 hh;exact⟨x,hl2 x x1,x2⟩
  cases pl with
  |nil=>cases hm
  |cons a pl=>
   cases a with
   |p=>
    have gf:((match r.cls with | .pure=>true|_=>false)&&fo rows l pl sn.length)=true:=hm;rw[zza]at gf;have hc:r.cls=.pure:=by cases sC:r.cls<;>rw[sC]at gf<;>first|rfl|(cases gf.1)
    obtain⟨v,hv,hk⟩:=yv (show lT cx ops r.o F S _ from h);have y9:Seen cx ops rows (P++[r]) (up F r.o.dst v) S sn lv:=by
     intro q hq qt;rcases List.mem_append.1 hq with hq|hq
     .exact carry v lv (fun _ hx=>hx) q hq qt
     .rw[zzb]at hq;subst hq;rw[hc]at qt;cases qt
    have ih:=lX l pl (P++[r]) (up F r.o.dst v) S ps sn lv id vC (by rw[vh];exact hn) hd AT hi gf.2 hw2 hps y9 (by rw[Dw];exact hk);rw[dU,hc];simp only[];rw[mU]at hv;cases hww:bQ ops F r.o.guard with
    |none=>rw[hww]at hv;cases hv
    |some b=>
     rw[hww]at hv;cases b with
     |true=>
      refine⟨fun _=>?_,fun e=>by cases e⟩;simp only[]at hv;cases ha:bE cx F S r.o<;>rw[ha]at hv<;>first|(cases hv;done)|skip
      cases hv;exact⟨_,_,rfl,ih⟩
     |false=>
      refine⟨fun e=>(by cases e),fun _=>?_⟩;cases hv;exact ih
   |r bk kp=>
    have gf:(eC r.cls&&Nat.ble (Da rows r) sn.length&&zzg bk (sn.length-Da rows r)&&zzg kp (hiN rows r-sn.length)&&fo rows l pl sn.length)=true:=hm;simp only[zza,cG,bC,decide_eq_true_eq]at gf;obtain⟨⟨⟨⟨vE,EY⟩,hbk⟩,hkp⟩,gf⟩:=gf;have hc:r.cls=.read:=by cases sC:r.cls<;>rw[sC]at vE<;>first|rfl|(cases vE)
    obtain⟨v,hv,jQ,EW,hk⟩:=yv (show lT cx ops r.o F S _ from h);rw[vE]at pd;simp only[cond_true]at pd;have y9:Seen cx ops rows (P++[r]) (up F r.o.dst v) S sn (yV r.o v kp lv):=by
     intro q hq qt;rcases List.mem_append.1 hq with hq|hq
     .refine carry v _ (fun x hx=>?_) q hq qt;cases kp with
      |zero=>exact hx
      |succ m=>exact zzc _ hx
     .rw[zzb]at hq;subst hq;cases hdq:q.o.dst with
      |none=>rw[hdq]at pd;cases pd
      |some d=>
       rw[hdq]at pd;simp only[zza,zzf]at pd;have hcong:∀T,fa cx ops (up F (some d) v) T q.o=fa cx ops F T q.o:=by
        intro T;refine gI fun t ht=>pe fun e=>?_;cases e;rw[(qX _ _).2 ht]at pd;cases pd.1
       refine⟨d,v,rfl,tp,fun cR=>?_,fun j T h1 h2 h3=>?_,fun cR=>?_⟩
       .unfold okN at EW;split at EW
        .omega
        .exact EW
       .rw[hcong];have hj:j<(S::sn).reverse.length:=(List.getElem?_eq_some_iff.1 h3).1;simp only[List.length_reverse,zze]at hj;rw[List.getElem?_reverse (by simpa using hj)]at h3;simp only[zze]at h3;by_cases he:j=sn.length
        .subst he;simp at h3;subst h3;exact hv
        .have e1:sn.length+1-1-j=(sn.length-1-j)+1:=by omega
         rw[e1,List.getElem?_cons_succ]at h3;exact reP_one (uY jQ _ T (by omega) h3)
       .obtain⟨m,hm0⟩:∃m,kp=m+1:=⟨kp-1,by omega⟩
        subst hm0;exact⟨⟨q.o,v,m+1⟩,zzd ..,rfl,rfl,hkp⟩
    have ih:=lX l pl (P++[r]) (up F r.o.dst v) S ps sn _ id vC (by rw[vh];exact hn) hd AT hi gf hw2 hps y9 (by rw[Dw];exact hk);rw[dU,hc];simp only[];rw[mU]at hv;cases hww:bQ ops F r.o.guard with
    |none=>rw[hww]at hv;cases hv
    |some b=>
     rw[hww]at hv;cases b with
     |true=>
      refine⟨fun _=>?_,fun e=>by cases e⟩;simp only[]at hv;cases ha:bE cx F S r.o<;>rw[ha]at hv<;>first|(cases hv;done)|skip
      cases hv;exact⟨_,_,rfl,ih⟩
     |false=>
      refine⟨fun e=>(by cases e),fun _=>?_⟩;cases hv;exact ih
   |f=>
    have gf:(bU r.cls&&fo rows l pl sn.length)=true:=hm;rw[zza]at gf;have hc:r.cls=.fresh:=by cases sC:r.cls<;>rw[sC]at gf<;>first|rfl|(cases gf.1)
    have h':qC cx ops r.o F id (fun v x=>eI cx ops pl (l.map (·.o)) (P.length+1) (up F r.o.dst v) S (⟨P.length,id,x⟩::ps) sn lv (id+1) Q) (eI cx ops pl (l.map (·.o)) (P.length+1) (up F r.o.dst .undef) S ps sn lv id Q):=h;have y9:∀v,Seen cx ops rows (P++[r]) (up F r.o.dst v) S sn lv:=by
     intro v q hq qt;rcases List.mem_append.1 hq with hq|hq
     .exact carry v lv (fun _ hx=>hx) q hq qt
     .rw[zzb]at hq;subst hq;rw[hc]at qt;cases qt
    rw[dU,hc];simp only[];unfold qC at h';cases hww:bQ ops F r.o.guard with
    |none=>rw[hww]at h';exact h'.elim
    |some b=>
     rw[hww]at h';cases b with
     |true=>
      refine⟨fun _=>?_,fun e=>by cases e⟩;have h1:=h'.1 rfl;unfold DL at h1;cases hf:aO cx F id r.o.op with
      |none=>rw[hf]at h1;exact h1.elim
      |some vx=>
       obtain⟨v,x⟩:=vx;rw[hf]at h1;refine⟨v,x,rfl,?_⟩;rw[hri];refine lX l pl (P++[r]) (up F r.o.dst v) S _ sn lv (id+1) vC (by rw[vh];exact hn) hd AT hi gf.2 hw2 (fun y hy=>?_) (y9 v) (by rw[Dw];exact h1);rcases List.mem_cons.1 hy with rfl|hy
       .exact⟨r,by rw[za];simp,gf.1,hri⟩
       .exact hps y hy
     |false=>
      refine⟨fun e=>(by cases e),fun _=>?_⟩;exact lX l pl (P++[r]) (up F r.o.dst .undef) S ps sn lv id vC (by rw[vh];exact hn) hd AT hi gf.2 hw2 hps (y9 _) (by rw[Dw];exact h'.2 rfl)
   |e cm=>
    have gf:(bR r.cls&&gS (fun f=>cond (bU f.cls) (cond (se f.i cm) (bit r.dy f.i) (!bit r.dy f.i)) true) rows&&fo rows l pl (sn.length+1))=true:=hm;simp only[zza]at gf;obtain⟨⟨hef,hcm⟩,gf⟩:=gf;have hc:r.cls=.vU:=by cases sC:r.cls<;>rw[sC]at hef<;>first|rfl|(cases hef)
    rw[mD]at hcm;have hcm':∀x,x∈ps->se x.i cm=bit r.dy x.i:=by
     intro x hx;obtain⟨f,f1,f2,f3⟩:=hps x hx;have:=hcm f f1;rw[f2]at this;simp only[cond_true,f3]at this;cases hmm:se x.i cm<;>rw[hmm]at this<;>cases jQ:bit r.dy x.i<;>rw[jQ]at this<;>first|rfl|(cases this)
    obtain⟨c1,c2⟩:=comL_eq (S:=S) hcm';have h':eX cx ops r.o F (comL cm ps S) fun v S'=>mS cx ops F S' lv/\eI cx ops pl (l.map (·.o)) (P.length+1) (up F r.o.dst v) S' (pI cm ps) (S::sn) (ry lv) id Q:=h;rw[dU,hc];simp only[];rw[c1]at h';refine mK h' ?_;rintro v S' ⟨hre,hk⟩;rw[<-c2];refine lX l pl (P++[r]) (up F r.o.dst v) S' (pI cm ps) (S::sn) (ry lv) id vC (by rw[vh];exact hn) hd AT hi gf hw2 (fun x hx=>?_) ?_ (by rw[Dw];exact hk)
    .have:x∈ps:=by
      rw[c2,nj]at hx;exact (List.mem_filter.1 hx).1
     exact hps x this
    .intro q hq qt;rcases List.mem_append.1 hq with hq|hq
     .obtain⟨d,u,k1,k2,k3,k4,k5⟩:=hs q hq qt;have hcong:∀T,fa cx ops (up F r.o.dst v) T q.o=fa cx ops F T q.o:=fun T=>gI fun t ht=>gM q hq qt v t (.inr ht);refine⟨d,u,k1,by rw[gM q hq qt v d (.inl k1)];exact k2,k3,fun j T h1 h2 h3=>?_,fun hh=>?_⟩
      .rw[hcong];rw[List.reverse_cons]at h3;by_cases hj:j<(S::sn).reverse.length
       .rw[List.getElem?_append_left hj]at h3;exact k4 j T h1 h2 h3
       .have hj2:j=sn.length+1:=by
         have:=(List.getElem?_eq_some_iff.1 h3).1;simp at this hj;omega
        subst hj2;rw[List.getElem?_append_right (by simp)]at h3;simp at h3;subst h3;obtain⟨x,x1,x2,x3,_⟩:=k5 (by omega);have:=FG hre x x1;rw[x2,x3]at this;exact reP_one this
      .simp only[zze]at hh;obtain⟨x,x1,x2,x3,x4⟩:=k5 (by omega);obtain⟨y,y1,y2,y3,y4⟩:=decL_mem x1 (by omega);exact⟨y,y1,y2.trans x2,y3.trans x3,by rw[y4,x4];simp only[zze];omega⟩
     .rw[zzb]at hq;subst hq;rw[hc]at qt;cases qt
theorem iq{rows:List Row}:∀(l:List Row)(pl:List Pk)(k:Nat),fo rows l pl k=true->oC l=qg pl
 |[],[],_,_=>rfl
 |[],a::pl,k,h=>by cases a<;>cases h
 |r::l,[],k,h=>by cases h
 |r::l,a::pl,k,h=>by
  have e:oC (r::l)=cond (bU r.cls) (Nat.succ (oC l)) (oC l):=rfl;cases a with
  |p=>
   have gf:((match r.cls with | .pure=>true|_=>false)&&fo rows l pl k)=true:=h;rw[zza]at gf;have hc:bU r.cls=false:=by cases sC:r.cls<;>rw[sC]at gf<;>first|rfl|(cases gf.1)
   rw[e,hc,iq l pl k gf.2];rfl
  |r b n=>
   have gf:(eC r.cls&&Nat.ble (Da rows r) k&&zzg b (k-Da rows r)&&zzg n (hiN rows r-k)&&fo rows l pl k)=true:=h;simp only[zza]at gf;have hc:bU r.cls=false:=by cases sC:r.cls<;>rw[sC]at gf<;>first|rfl|(cases gf.1.1.1.1)
   rw[e,hc,iq l pl k gf.2];rfl
  |f=>
   have gf:(bU r.cls&&fo rows l pl k)=true:=h;rw[zza]at gf;rw[e,gf.1,iq l pl k gf.2];rfl
  |e cm=>
   have gf:(bR r.cls&&gS (fun f=>cond (bU f.cls) (cond (se f.i cm) (bit r.dy f.i) (!bit r.dy f.i)) true) rows&&fo rows l pl (k+1))=true:=h;simp only[zza]at gf;have hc:bU r.cls=false:=by cases sC:r.cls<;>rw[sC]at gf<;>first|rfl|(cases gf.1.1)
   rw[e,hc,iq l pl (k+1) gf.2];rfl
theorem bg{cx:Cx}{ops:List Oper}{F:Fr}{S:AS}{Q:Fr->AS->Prop}{n:Nat}(pl:List Pk)(hk:planIs cx n ops pl=true)(hn:F.n=n)
  (h:eI cx ops pl ops 0 F ⟨S.h,S.nx+qg pl⟩ [] [] [] S.nx Q):lD cx ops F S Q:=by
 unfold planIs at hk;simp only[zza]at hk;obtain⟨⟨⟨h1,h2⟩,h3⟩,h4⟩:=hk;have hp:=rV cx ops.toArray;simp only[List.toList_toArray]at hp;obtain⟨pln,_⟩:=hp;have hmap:(settle (dw cx ops)).map (·.o)=ops:=by
  apply List.ext_getElem?;intro i;rw[List.getElem?_map];cases hi:(settle (dw cx ops))[i]? with
  |none=>
   have hlen:=pln.len;simp only[List.size_toArray]at hlen;rw[List.getElem?_eq_none_iff]at hi;simp only[Option.map_none];exact (List.getElem?_eq_none_iff.2 (by omega)).symm
  |some r=>
   have:=(pln.row i r hi).2;simp only[List.getElem?_toArray]at this;simp[this]
 refine⟨?_⟩;unfold ru CM;rw[h1];simp only[cond_true];rw[iq _ _ _ h4];exact lX (n:=n) _ pl [] F _ [] [] [] S.nx (by simp) hn h3 h2 (fun i r hr=>(pln.row i r hr).1) h4 (fun r hr=>by cases hr) (fun x hx=>by cases hx) (fun q hq=>by cases hq) (by rw[hmap];exact h)
section
variable{cx:Cx}{ops l:List Oper}{pl:List Pk}{o:Oper}{i id:Nat}{F:Fr}{S:AS}{ps:List dD}{sn:List AS}{lv:List Live}{Q:Fr->AS->Prop}
def wontP(cx:Cx)(ops:List Oper)(pl:List Pk)(l:List Oper)(i:Nat)(F:Fr)(d:Option Nat)(S:AS)(ps:List dD)(sn:List AS)(lv:List Live)(id:Nat)(Q:Fr->AS->Prop)(v:AV):Prop:=eI cx ops pl l i (up F d v) S ps sn lv id Q
def wontR(cx:Cx)(ops:List Oper)(pl:List Pk)(l:List Oper)(i b k:Nat)(F:Fr)(o:Oper)(S:AS)(ps:List dD)(sn:List AS)(lv:List Live)(id:Nat)(Q:Fr->AS->Prop)(v:AV):Prop:=
 om cx ops F o v b sn/\okN b k v/\eI cx ops pl l i (up F o.dst v) S ps sn (yV o v k lv) id Q
def wontF(cx:Cx)(ops:List Oper)(pl:List Pk)(l:List Oper)(i:Nat)(F:Fr)(d:Option Nat)(S:AS)(ps:List dD)(sn:List AS)(lv:List Live)(id:Nat)(Q:Fr->AS->Prop)(v:AV)(x:dp):Prop:=
 eI cx ops pl l (i+1) (up F d v) S (⟨i,id,x⟩::ps) sn lv (id+1) Q
def wontE(cx:Cx)(ops:List Oper)(pl:List Pk)(l:List Oper)(i:Nat)(F:Fr)(d:Option Nat)(S:AS)(ps:List dD)(sn:List AS)(lv:List Live)(id:Nat)(Q:Fr->AS->Prop)(v:AV)(S':AS):Prop:=
 mS cx ops F S' lv/\eI cx ops pl l i (up F d v) S' ps (S::sn) (ry lv) id Q
theorem rowsW_nil:eI cx ops [] [] i F S ps sn lv id Q=Q F (comA ps S):=by rw[eI]
theorem rowsW_p:eI cx ops (.p::pl) (o::l) i F S ps sn lv id Q=lT cx ops o F S (wontP cx ops pl l (i+1) F o.dst S ps sn lv id Q):=by rw[eI];rfl
theorem rowsW_r{b k:Nat}:eI cx ops (.r b k::pl) (o::l) i F S ps sn lv id Q=lT cx ops o F S (wontR cx ops pl l (i+1) b k F o S ps sn lv id Q):=by rw[eI];rfl
theorem rowsW_f:eI cx ops (.f::pl) (o::l) i F S ps sn lv id Q=qC cx ops o F id (wontF cx ops pl l i F o.dst S ps sn lv id Q) (eI cx ops pl l (i+1) (up F o.dst .undef) S ps sn lv id Q):=by rw[eI];rfl
theorem rowsW_e{cm:List Nat}:eI cx ops (.e cm::pl) (o::l) i F S ps sn lv id Q=eX cx ops o F (comL cm ps S) (wontE cx ops pl l (i+1) F o.dst S (pI cm ps) sn lv id Q):=by rw[eI];rfl
theorem wontP_app{d:Option Nat}{v:AV}:wontP cx ops pl l i F d S ps sn lv id Q v=eI cx ops pl l i (up F d v) S ps sn lv id Q:=rfl
theorem wontR_app{b k:Nat}{v:AV}:wontR cx ops pl l i b k F o S ps sn lv id Q v=(om cx ops F o v b sn/\okN b k v/\eI cx ops pl l i (up F o.dst v) S ps sn (yV o v k lv) id Q):=rfl
theorem wontF_app{d:Option Nat}{v:AV}{x:dp}:wontF cx ops pl l i F d S ps sn lv id Q v x=eI cx ops pl l (i+1) (up F d v) S (⟨i,id,x⟩::ps) sn lv (id+1) Q:=rfl
theorem wontE_app{d:Option Nat}{v:AV}{S':AS}:wontE cx ops pl l i F d S ps sn lv id Q v S'=(mS cx ops F S' lv/\eI cx ops pl l i (up F d v) S' ps (S::sn) (ry lv) id Q):=rfl
variable{dst:Option Tmp}{op:Op}{ty:TypeId}{pos:String}{af:Array Edge}{K:AV->Prop}{KF:AV->dp->Prop}{J:Prop}
theorem Fl:lT cx ops ⟨dst,op,ty,pos,af,none⟩ F S K=B5 (bE cx F S ⟨dst,op,ty,pos,af,none⟩) K:=by simp[lT,bQ]
theorem stepV_run{j d:Nat}{w b:Bool}(h1:fg ops j=some d)(h2:sl F d=.bool b)(h3:(b==w)=true):lT cx ops ⟨dst,op,ty,pos,af,some (j,w)⟩ F S K=B5 (bE cx F S ⟨dst,op,ty,pos,af,some (j,w)⟩) K:=by
 have hw:=fI (w:=w) h1 h2;obtain rfl:b=w:=by simpa using h3
 show (match bQ ops F (some (j,b))with
  |some b'=>(b'=true->B5 (bE cx F S ⟨dst,op,ty,pos,af,some (j,b)⟩) K)/\(b'=false->K AV.undef)
  |none=>False)=_
 rw[hw];cases b<;>simp
theorem Fk{j d:Nat}{w b:Bool}(h1:fg ops j=some d)(h2:sl F d=.bool b)(h3:(b == !w)=true):lT cx ops ⟨dst,op,ty,pos,af,some (j,w)⟩ F S K=K AV.undef:=by
 have hw:=fI (w:=w) h1 h2;obtain rfl:b=!w:=by simpa using h3
 show (match bQ ops F (some (j,w))with
  |some b'=>(b'=true->B5 (bE cx F S ⟨dst,op,ty,pos,af,some (j,w)⟩) K)/\(b'=false->K AV.undef)
  |none=>False)=_
 rw[hw];cases w<;>simp
theorem Ch{j d:Nat}{w:Bool}(h1:fg ops j=some d)(h2:sl F d=.undef):lT cx ops ⟨dst,op,ty,pos,af,some (j,w)⟩ F S K=K AV.undef:=by
 obtain⟨p,e1,e2⟩:=iH ops j d h1;have hw:bQ ops F (some (j,w))=some false:=by simp[bQ,e1,e2,h2,AV.undef]
 show (match bQ ops F (some (j,w))with
  |some b'=>(b'=true->B5 (bE cx F S ⟨dst,op,ty,pos,af,some (j,w)⟩) K)/\(b'=false->K AV.undef)
  |none=>False)=_
 rw[hw];simp
theorem Fq:qC cx ops ⟨dst,op,ty,pos,af,none⟩ F id KF J=DL (aO cx F id op) KF:=by simp[qC,bQ]
theorem stepA_run{j d:Nat}{w b:Bool}(h1:fg ops j=some d)(h2:sl F d=.bool b)(h3:(b==w)=true):qC cx ops ⟨dst,op,ty,pos,af,some (j,w)⟩ F id KF J=DL (aO cx F id op) KF:=by
 have hw:=fI (w:=w) h1 h2;obtain rfl:b=w:=by simpa using h3
 show (match bQ ops F (some (j,b))with
  |some b'=>(b'=true->DL (aO cx F id op) KF)/\(b'=false->J)
  |none=>False)=_
 rw[hw];cases b<;>simp
theorem Fp{j d:Nat}{w b:Bool}(h1:fg ops j=some d)(h2:sl F d=.bool b)(h3:(b == !w)=true):qC cx ops ⟨dst,op,ty,pos,af,some (j,w)⟩ F id KF J=J:=by
 have hw:=fI (w:=w) h1 h2;obtain rfl:b=!w:=by simpa using h3
 show (match bQ ops F (some (j,w))with
  |some b'=>(b'=true->DL (aO cx F id op) KF)/\(b'=false->J)
  |none=>False)=_
 rw[hw];cases w<;>simp
theorem Cl{j d:Nat}{w:Bool}(h1:fg ops j=some d)(h2:sl F d=.undef):qC cx ops ⟨dst,op,ty,pos,af,some (j,w)⟩ F id KF J=J:=by
 obtain⟨p,e1,e2⟩:=iH ops j d h1;have hw:bQ ops F (some (j,w))=some false:=by simp[bQ,e1,e2,h2,AV.undef]
 show (match bQ ops F (some (j,w))with
  |some b'=>(b'=true->DL (aO cx F id op) KF)/\(b'=false->J)
  |none=>False)=_
 rw[hw];simp
theorem freP_some{v:AV}{x:dp}:DL (some (v,x)) KF=KF v x:=rfl
theorem valP_val{v:AV}{S':AS}:B5 (.val v S') K=K v:=rfl
theorem aopIs_val{v u:AV}{S':AS}:tE (.val u S') v=(u=v):=rfl
variable{v:AV}
theorem reP_free:reP cx ops F S ⟨dst,op,ty,pos,af,none⟩ v=tE (bE cx F S ⟨dst,op,ty,pos,af,none⟩) v:=by simp[reP,bQ]
theorem reP_run{j d:Nat}{w b:Bool}(h1:fg ops j=some d)(h2:sl F d=.bool b)(h3:(b==w)=true):reP cx ops F S ⟨dst,op,ty,pos,af,some (j,w)⟩ v=tE (bE cx F S ⟨dst,op,ty,pos,af,some (j,w)⟩) v:=by
 have hw:=fI (w:=w) h1 h2;obtain rfl:b=w:=by simpa using h3
 show (match bQ ops F (some (j,b))with
  |some b'=>(b'=true->tE (bE cx F S ⟨dst,op,ty,pos,af,some (j,b)⟩) v)/\(b'=false->v=AV.undef)
  |none=>False)=_
 rw[hw];cases b<;>simp
theorem reP_skip{j d:Nat}{w b:Bool}(h1:fg ops j=some d)(h2:sl F d=.bool b)(h3:(b == !w)=true):reP cx ops F S ⟨dst,op,ty,pos,af,some (j,w)⟩ AV.undef=True:=by
 have hw:=fI (w:=w) h1 h2;obtain rfl:b=!w:=by simpa using h3
 show (match bQ ops F (some (j,w))with
  |some b'=>(b'=true->tE (bE cx F S ⟨dst,op,ty,pos,af,some (j,w)⟩) AV.undef)/\(b'=false->AV.undef=AV.undef)
  |none=>False)=_
 rw[hw];cases w<;>simp
theorem reP_undef{j d:Nat}{w:Bool}(h1:fg ops j=some d)(h2:sl F d=.undef):reP cx ops F S ⟨dst,op,ty,pos,af,some (j,w)⟩ AV.undef=True:=by
 obtain⟨p,e1,e2⟩:=iH ops j d h1;have hw:bQ ops F (some (j,w))=some false:=by simp[bQ,e1,e2,h2,AV.undef]
 show (match bQ ops F (some (j,w))with
  |some b'=>(b'=true->tE (bE cx F S ⟨dst,op,ty,pos,af,some (j,w)⟩) AV.undef)/\(b'=false->AV.undef=AV.undef)
  |none=>False)=_
 rw[hw];simp
theorem okN_zero:okN 0 0 v=True:=rfl
theorem okN_back{b k:Nat}:okN (b+1) k v=(okW v=true):=rfl
theorem okN_keep{b k:Nat}:okN b (k+1) v=(okW v=true):=by cases b<;>rfl
theorem liveN_zero:yV o v 0 lv=lv:=rfl
theorem liveN_succ{k:Nat}:yV o v (k+1) lv=⟨o,v,k+1⟩::lv:=rfl
theorem decL_one{l:List Live}:ry (⟨o,v,1⟩::l)=ry l:=rfl
theorem decL_more{l:List Live}{n:Nat}:ry (⟨o,v,n+2⟩::l)=⟨o,v,n+1⟩::ry l:=rfl
theorem CF:om cx ops F o v 0 sn=True:=by cases sn<;>rfl
theorem CG{n:Nat}:om cx ops F o v (n+1) (S::sn)=(reP cx ops F S o v/\om cx ops F o v n sn):=rfl
theorem FF:mS cx ops F S []=True:=rfl
theorem CE{x:Live}{l:List Live}:mS cx ops F S (x::l)=(reP cx ops F S x.o x.v/\mS cx ops F S l):=rfl
end
end Go.Am
end
