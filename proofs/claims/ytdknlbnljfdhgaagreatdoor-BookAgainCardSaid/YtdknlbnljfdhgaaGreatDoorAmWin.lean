/-
  The abstract machine: a region that draws its order and changes the memory: its plan, read off ahead; what is asked of its reading operations is asked where the memory turns.
-/
import Derived.Test.YtdknlbnljfdhgaaGreatDoorAmStill
noncomputable section
namespace Go.Am
open Go
set_option linter.unusedSimpArgs false
def okW:AV->Bool
 | .func (.func _) a b=>jj a&&jj b
 |v=>qR v
theorem okW_same(v:AV)(h:okW v=true):fa 8 v v=true:=by
 cases v<;>try exact wL _ h
 rename_i fn a b;cases fn<;>try exact wL _ h
 simp only[okW,Bool.and_eq_true]at h;rename_i f;show (Nat.beq f f&&A9 7 a a&&A9 7 b b)=true;rw[lI 6 a h.1,lI 6 b h.2];simp[bF]
inductive Pk where
 |p|f|r (back cg:Nat)|e (cm:List Nat)
structure Live where
 o:Oper
 v:AV
 n:Nat
def rJ:List Pk->Nat
 |[]=>0
 | .f::l=>rJ l+1
 | .p::l=>rJ l
 | .r _ _::l=>rJ l
 | .e _::l=>rJ l
def tS(n:Nat):List Nat->Bool
 |[]=>false
 |m::l=>(n==m)||tS n l
def comL(cm:List Nat):List ey->AS->AS
 |[],S=>S
 |x::ps,S=>comL cm ps (if tS x.i cm=true then⟨S.h.set x.id x.obj,S.next⟩ else S)
def qV(cm:List Nat):List ey->List ey
 |[]=>[]
 |x::ps=>if tS x.i cm=true then qV cm ps else x::qV cm ps
def comA:List ey->AS->AS
 |[],S=>S
 |x::ps,S=>comA ps ⟨S.h.set x.id x.obj,S.next⟩
def ta:List Live->List Live
 |[]=>[]
 |x::l=>match x.n with
  |0=>ta l
  |1=>ta l
  |n+2=>⟨x.o,x.v,n+1⟩::ta l
def u9(r:AR)(v:AV):Prop:=match r with | .val u _=>u=v|_=>False
def reP(cx:Cx)(ops:List Oper)(F:Fr)(T:AS)(o:Oper)(v:AV):Prop:=
 match aQ ops F o.guard with
 |some b=>(b=true->u9 (bj cx F T o) v)/\(b=false->v=.undef)
 |none=>False
def nD(cx:Cx)(ops:List Oper)(F:Fr)(T:AS):List Live->Prop
 |[]=>True
 |x::l=>reP cx ops F T x.o x.v/\nD cx ops F T l
def oY(cx:Cx)(ops:List Oper)(F:Fr)(o:Oper)(v:AV):Nat->List AS->Prop
 |0,_=>True
 |_+1,[]=>True
 |n+1,T::sn=>reP cx ops F T o v/\oY cx ops F o v n sn
def okN(back cg:Nat)(v:AV):Prop:=match back,cg with|0,0=>True|_,_=>okW v=true
def zT(o:Oper)(v:AV)(cg:Nat)(lv:List Live):List Live:=match cg with|0=>lv|n+1=>⟨o,v,n+1⟩::lv
def C9(r:AR)(K:AV->Prop):Prop:=match r with | .val v _=>K v|_=>False
def mI(cx:Cx)(ops:List Oper)(o:Oper)(F:Fr)(S:AS)(K:AV->Prop):Prop:=
 match aQ ops F o.guard with
 |some b=>(b=true->C9 (bj cx F S o) K)/\(b=false->K .undef)
 |none=>False
def ER(r:Option (AV×dr))(K:AV->dr->Prop):Prop:=match r with|some (v,x)=>K v x|none=>False
def sm(cx:Cx)(ops:List Oper)(o:Oper)(F:Fr)(id:Nat)(K:AV->dr->Prop)(J:Prop):Prop:=
 match aQ ops F o.guard with
 |some b=>(b=true->ER (aA cx F id o.op) K)/\(b=false->J)
 |none=>False
def eF(cx:Cx)(ops:List Oper):List Pk->List Oper->Nat->Fr->AS->List ey->List AS->List Live->Nat->(Fr->AS->Prop)->Prop
 |[],[],_,F,S,ps,_,_,_,Q=>Q F (comA ps S)
 | .p::pl,o::l,i,F,S,ps,sn,lv,id,Q=>mI cx ops o F S fun v=>eF cx ops pl l (i+1) (up F o.dst v) S ps sn lv id Q
 | .r b k::pl,o::l,i,F,S,ps,sn,lv,id,Q=>mI cx ops o F S fun v=>oY cx ops F o v b sn/\okN b k v/\eF cx ops pl l (i+1) (up F o.dst v) S ps sn (zT o v k lv) id Q
 | .f::pl,o::l,i,F,S,ps,sn,lv,id,Q=>sm cx ops o F id (fun v x=>eF cx ops pl l (i+1) (up F o.dst v) S (⟨i,id,x⟩::ps) sn lv (id+1) Q) (eF cx ops pl l (i+1) (up F o.dst .undef) S ps sn lv id Q)
 | .e cm::pl,o::l,i,F,S,ps,sn,lv,id,Q=>eQ cx ops o F (comL cm ps S) fun v S'=>nD cx ops F S' lv/\eF cx ops pl l (i+1) (up F o.dst v) S' (qV cm ps) (S::sn) (ta lv) id Q
 |_,_,_,_,_,_,_,_,_,_=>False
def Eo(rows:List Row)(r:Row):Nat:=fp (fun e=>bit r.dL e.i) (jE (fun e=>bK e.cls) rows)
def hiN(rows:List Row)(r:Row):Nat:=Eo rows r+Nat.sub (fp (fun e=>!bit e.dL r.i) (jE (fun e=>bK e.cls) rows)) (Eo rows r)
def fo(rows:List Row):List Row->List Pk->Nat->Bool
 |[],[],_=>true
 |r::l,.p::pl,k=>(match r.cls with | .pure=>true|_=>false)&&fo rows l pl k
 |r::l,.f::pl,k=>bQ r.cls&&fo rows l pl k
 |r::l,.r b n::pl,k=>eO r.cls&&Nat.ble (Eo rows r) k&&Nat.beq b (k-Eo rows r)&&Nat.beq n (hiN rows r-k)&&fo rows l pl k
 |r::l,.e cm::pl,k=>bK r.cls&&ew (fun f=>cond (bQ f.cls) (cond (tS f.i cm) (bit r.dL f.i) (!bit r.dL f.i)) true) rows&&fo rows l pl (k+1)
 |_,_,_=>false
def calmB(ops:List Oper):List Row->Bool
 |[]=>true
 |r::l=>cond (eO r.cls) (match r.o.dst with
  |some d=>!yJ d (gF ops r.o)&&ew (fun w=>match w.o.dst with|some e=>!Nat.beq e d && !yJ e (gF ops r.o)|none=>true) l
  |none=>false) true&&calmB ops l
def planIs(cx:Cx)(n:Nat)(ops:List Oper)(pl:List Pk):Bool:=
 ir ops (settle (dx cx ops))&&calmB ops (settle (dx cx ops))&&nO n (settle (dx cx ops))&&fo (settle (dx cx ops)) (settle (dx cx ops)) pl 0
theorem comA_eq:∀(ps:List ey)(S:AS),comA ps S=bf (fun _=>true) ps S
 |[],_=>rfl
 |x::ps,S=>by
  show comA ps _=bf (fun _=>true) ps (cond true _ _);rw[comA_eq ps];rfl
theorem comL_eq{cm:List Nat}{m:Nat}:∀{ps:List ey}{S:AS},(∀x,x∈ps->tS x.i cm=bit m x.i)->comL cm ps S=bf (fun p=>bit m p.i) ps S/\qV cm ps=jE (fun p=>!bit m p.i) ps
 |[],S,_=>⟨rfl,rfl⟩
 |x::ps,S,h=>by
  have hx:=h x (List.mem_cons_self ..);obtain⟨h1,h2⟩:=comL_eq (ps:=ps) (S:=if tS x.i cm=true then⟨S.h.set x.id x.obj,S.next⟩ else S) fun y hy=>h y (List.mem_cons_of_mem _ hy);constructor
  .show comL cm ps _=bf (fun p=>bit m p.i) ps (cond (bit m x.i) _ S);rw[h1,<-hx];cases tS x.i cm<;>rfl
  .show qV cm (x::ps)=cond (!bit m x.i) (x::jE (fun p=>!bit m p.i) ps) (jE (fun p=>!bit m p.i) ps);rw[qV,h2,<-hx];cases tS x.i cm<;>rfl
theorem reP_one{cx:Cx}{ops:List Oper}{F:Fr}{T:AS}{o:Oper}{v:AV}(h:reP cx ops F T o v):fG cx ops F T o=some v:=by
 unfold reP at h;rw[nI];cases hw:aQ ops F o.guard with
 |none=>rw[hw]at h;exact h.elim
 |some b=>
  rw[hw]at h;cases b with
  |true=>
   have h1:=h.1 rfl;unfold u9 at h1;simp only[];cases ha:bj cx F T o<;>rw[ha]at h1<;>first|exact h1.elim|exact congrArg some h1
  |false=>rw[h.2 rfl]
theorem zz{cx:Cx}{ops:List Oper}{F:Fr}{S:AS}{o:Oper}{K:AV->Prop}(h:mI cx ops o F S K):∃v,fG cx ops F S o=some v/\K v:=by
 unfold mI at h;rw[nI];cases hw:aQ ops F o.guard with
 |none=>rw[hw]at h;exact h.elim
 |some b=>
  rw[hw]at h;cases b with
  |true=>
   have h1:=h.1 rfl;unfold C9 at h1;simp only[];cases ha:bj cx F S o<;>rw[ha]at h1<;>first|exact h1.elim|exact⟨_,rfl,h1⟩
  |false=>exact⟨_,rfl,h.2 rfl⟩
def Seen(cx:Cx)(ops:List Oper)(rows:List Row)(P:List Row)(F:Fr)(S:AS)(sn:List AS)(lv:List Live):Prop:=
 ∀q,q∈P->eO q.cls=true->∃d v,q.o.dst=some d/\F.t.get d=some v/\(Eo rows q<hiN rows q->okW v=true) /\
  (∀j T,Eo rows q<=j->j<=hiN rows q->(S::sn).reverse[j]?=some T->fG cx ops F T q.o=some v) /\
  (sn.length<hiN rows q->∃x,x∈lv/\x.o=q.o/\x.v=v/\x.n=hiN rows q-sn.length)
theorem reLive_mem{cx:Cx}{ops:List Oper}{F:Fr}{T:AS}{lv:List Live}(h:nD cx ops F T lv):∀x,x∈lv->reP cx ops F T x.o x.v:=by
 induction lv with
 |nil=>intro x hx;cases hx
 |cons y l ih=>
  intro x hx;rcases List.mem_cons.1 hx with e|hx
  .rw[e];exact h.1
  .exact ih h.2 x hx
theorem decL_mem{lv:List Live}{x:Live}(hx:x∈lv)(hn:1<x.n):∃y,y∈ta lv/\y.o=x.o/\y.v=x.v/\y.n=x.n-1:=by
 induction lv with
 |nil=>cases hx
 |cons a l ih=>
  rcases List.mem_cons.1 hx with e|hx
  .subst e;obtain⟨o,v,n⟩:=x
   match n,hn with
   |n+2,_=>exact⟨⟨o,v,n+1⟩,List.mem_cons_self ..,rfl,rfl,by simp⟩
  .obtain⟨y,h1,h2⟩:=ih hx;refine⟨y,?_,h2⟩;obtain⟨o,v,n⟩:=a
   match n with
   |0=>exact h1
   |1=>exact h1
   |n+2=>exact List.mem_cons_of_mem _ h1
theorem wE{cx:Cx}{ops:List Oper}{F:Fr}{o:Oper}{v:AV}:∀{n:Nat}{sn:List AS},oY cx ops F o v n sn->∀i T,i<n->sn[i]?=some T->reP cx ops F T o v
 |n+1,T::sn,h,0,T',_,ht=>by simp at ht;subst ht;exact h.1
 |n+1,T::sn,h,i+1,T',hi,ht=>wE h.2 i T' (by omega) (by simpa using ht)
theorem mL{cx:Cx}{ops:List Oper}{rows:List Row}{n:Nat}{Q:Fr->AS->Prop}:∀(l:List Row)(pl:List Pk)(P:List Row)(F:Fr)(S:AS)(ps:List ey)(sn:List AS)(lv:List Live)(id:Nat),
  rows=P++l->F.n=n->nO n rows=true->calmB ops l=true->(∀(i:Nat)(r:Row),rows[i]?=some r->r.i=i)->fo rows l pl sn.length=true ->
  (∀r,r∈P->eO r.cls=true->∀w,w∈l->∀e,w.o.dst=some e->some e≠r.o.dst/\e∉gF ops r.o) ->
  (∀x,x∈ps->∃f,f∈rows/\bQ f.cls=true/\f.i=x.i) ->
  Seen cx ops rows P F S sn lv->eF cx ops pl (l.map (·.o)) P.length F S ps sn lv id Q ->
  dI cx ops l F S ps sn id fun F' S' sn'=>winP cx ops rows F' (wz sn')/\Q F' S'
 |[],pl,P,F,S,ps,sn,lv,id,Aa,hn,hd,_,_,hm,_,_,hs,h=>by
  have lV:pl=[]:=by
   cases pl with
   |nil=>rfl
   |cons a pl=>cases a<;>cases hm
  subst lV;have h':Q F (comA ps S):=h;rw[comA_eq]at h';refine⟨?_,h'⟩;intro q hq hr;rw[Aa,List.append_nil]at hq;obtain⟨d,v,e1,e2,e3,e4,_⟩:=hs q hq hr;have hdn:d<F.n:=by
   rw[hn];have:=List.all_eq_true.1 hd q (by rw[Aa,List.append_nil];exact hq);unfold yX at this;rw[e1]at this;simpa[gH]using this
  unfold kX;simp only[];have jW:∀T,T∈takeN (Nat.succ (Nat.sub (fp (fun e=>!bit e.dL q.i) (jE (fun e=>bK e.cls) rows)) (fp (fun e=>bit q.dL e.i) (jE (fun e=>bK e.cls) rows)))) (mb (fp (fun e=>bit q.dL e.i) (jE (fun e=>bK e.cls) rows)) (wz (S::sn)))->fG cx ops F T q.o=some v:=by
   intro T hT;rw[ct,ca,vy]at hT;obtain⟨i,hi⟩:=List.getElem?_of_mem hT;rw[List.getElem?_take]at hi;split at hi
   .rename_i cq;rw[List.getElem?_drop]at hi;exact e4 (Eo rows q+i) T (Nat.le_add_right _ _) (by unfold hiN;have:=Nat.le_of_lt_succ cq;unfold Eo at *;omega) hi
   .cases hi
  split
  .rfl
  .rename_i cS;simp only[e1,gH,hdn,decide_true,cond_true,e2];rw[j4];intro T hT;rw[jW T hT];refine okW_same v (e3 ?_);rcases Nat.lt_or_ge (Eo rows q) (hiN rows q)with h0|h0
   .exact h0
   .exfalso;have hz:Nat.sub (fp (fun e=>!bit e.dL q.i) (jE (fun e=>bK e.cls) rows)) (Eo rows q)=0:=by unfold hiN at h0;omega
    unfold Eo at hz;rw[hz,ct,ca]at hT cS;generalize hL:List.drop (fp (fun e=>bit q.dL e.i) (jE (fun e=>bK e.cls) rows)) (wz (S::sn))=L at hT cS;cases L with
    |nil=>simp at hT
    |cons a L=>exact cS a (by simp)
 |r::l,pl,P,F,S,ps,sn,lv,id,Aa,hn,hd,hb,hi,hm,hw,vi,hs,h=>by
  simp only[calmB,Bool.and_eq_true]at hb;obtain⟨yR,hb2⟩:=hb;have xl:rows=(P++[r])++l:=by rw[Aa];simp
  have hri:r.i=P.length:=hi P.length r (by rw[Aa];simp);have EG:(P++[r]).length=P.length+1:=by simp
  have iA:∀q,q∈P->eO q.cls=true->∀(v:AV)t,(q.o.dst=some t\/t∈gF ops q.o)->(up F r.o.dst v).t.get t=F.t.get t:=by
   intro q hq qX v t ht;refine qw fun e=>?_;obtain⟨k1,k2⟩:=hw q hq qX r (List.mem_cons_self ..) t e;rcases ht with ht|ht
   .exact k1 ht.symm
   .exact k2 ht
  have BJ:∀q,q∈P++[r]->eO q.cls=true->∀w,w∈l->∀e,w.o.dst=some e->some e≠q.o.dst/\e∉gF ops q.o:=by
   intro q hq qX w hwl e he;rcases List.mem_append.1 hq with hq|hq
   .exact hw q hq qX w (List.mem_cons_of_mem _ hwl) e he
   .rw[List.mem_singleton]at hq;subst hq;rw[qX]at yR;simp only[cond_true]at yR;cases hdq:q.o.dst with
    |none=>rw[hdq]at yR;cases yR
    |some d=>
     rw[hdq]at yR;simp only[Bool.and_eq_true,Bool.not_eq_true']at yR;obtain⟨_,h2⟩:=yR;rw[j4]at h2;have:=h2 w hwl;rw[he]at this;simp only[bF,Bool.and_eq_true,Bool.not_eq_true',decide_eq_false_iff_not]at this;refine⟨fun e'=>this.1 (by cases e';rfl),fun e'=>?_⟩;have h3:=(sH _ _).2 e';rw[h3]at this;cases this.2
  have carry:∀(v:AV)(lv2:List Live),(∀x,x∈lv->x∈lv2)->∀q,q∈P->eO q.cls=true->∃d u,q.o.dst=some d/\(up F r.o.dst v).t.get d=some u/\(Eo rows q<hiN rows q->okW u=true) /\
    (∀j T,Eo rows q<=j->j<=hiN rows q->(S::sn).reverse[j]?=some T->fG cx ops (up F r.o.dst v) T q.o=some u) /\
    (sn.length<hiN rows q->∃x,x∈lv2/\x.o=q.o/\x.v=u/\x.n=hiN rows q-sn.length):=by
   intro v lv2 hl2 q hq qX;obtain⟨d,u,k1,k2,k3,k4,k5⟩:=hs q hq qX;refine⟨d,u,k1,by rw[iA q hq qX v d (.inl k1)];exact k2,k3,fun j T h1 h2 h3=>?_,fun hh=>?_⟩
   .rw[<-k4 j T h1 h2 h3];exact iv fun t ht=>iA q hq qX v t (.inr ht)
   .obtain⟨x,x1,x2⟩:=k5 hh;exact⟨x,hl2 x x1,x2⟩
  cases pl with
  |nil=>cases hm
  |cons a pl=>
   cases a with
   |p=>
    have gN:((match r.cls with | .pure=>true|_=>false)&&fo rows l pl sn.length)=true:=hm;rw[Bool.and_eq_true]at gN;have hc:r.cls=.pure:=by cases qM:r.cls<;>rw[qM]at gN<;>first|rfl|(cases gN.1)
    obtain⟨v,hv,hk⟩:=zz (show mI cx ops r.o F S _ from h);have z7:Seen cx ops rows (P++[r]) (up F r.o.dst v) S sn lv:=by
     intro q hq qX;rcases List.mem_append.1 hq with hq|hq
     .exact carry v lv (fun _ hx=>hx) q hq qX
     .rw[List.mem_singleton]at hq;subst hq;rw[hc]at qX;cases qX
    have ih:=mL l pl (P++[r]) (up F r.o.dst v) S ps sn lv id xl (by rw[lS];exact hn) hd hb2 hi gN.2 BJ vi z7 (by rw[EG];exact hk);rw[dI,hc];simp only[];rw[nI]at hv;cases hww:aQ ops F r.o.guard with
    |none=>rw[hww]at hv;cases hv
    |some b=>
     rw[hww]at hv;cases b with
     |true=>
      refine⟨fun _=>?_,fun e=>by cases e⟩;simp only[]at hv;cases ha:bj cx F S r.o<;>rw[ha]at hv<;>first|(cases hv;done)|skip
      cases hv;exact⟨_,_,rfl,ih⟩
     |false=>
      refine⟨fun e=>(by cases e),fun _=>?_⟩;cases hv;exact ih
   |r bk kp=>
    have gN:(eO r.cls&&Nat.ble (Eo rows r) sn.length&&Nat.beq bk (sn.length-Eo rows r)&&Nat.beq kp (hiN rows r-sn.length)&&fo rows l pl sn.length)=true:=hm;simp only[Bool.and_eq_true,cH,bF,decide_eq_true_eq]at gN;obtain⟨⟨⟨⟨vJ,qu⟩,hbk⟩,hkp⟩,gN⟩:=gN;have hc:r.cls=.read:=by cases qM:r.cls<;>rw[qM]at vJ<;>first|rfl|(cases vJ)
    obtain⟨v,hv,sf,l7,hk⟩:=zz (show mI cx ops r.o F S _ from h);rw[vJ]at yR;simp only[cond_true]at yR;have z7:Seen cx ops rows (P++[r]) (up F r.o.dst v) S sn (zT r.o v kp lv):=by
     intro q hq qX;rcases List.mem_append.1 hq with hq|hq
     .refine carry v _ (fun x hx=>?_) q hq qX;cases kp with
      |zero=>exact hx
      |succ m=>exact List.mem_cons_of_mem _ hx
     .rw[List.mem_singleton]at hq;subst hq;cases hdq:q.o.dst with
      |none=>rw[hdq]at yR;cases yR
      |some d=>
       rw[hdq]at yR;simp only[Bool.and_eq_true,Bool.not_eq_true']at yR;have hcong:∀T,fG cx ops (up F (some d) v) T q.o=fG cx ops F T q.o:=by
        intro T;refine iv fun t ht=>qw fun e=>?_;cases e;rw[(sH _ _).2 ht]at yR;cases yR.1
       refine⟨d,v,rfl,uW,fun cq=>?_,fun j T h1 h2 h3=>?_,fun cq=>?_⟩
       .unfold okN at l7;split at l7
        .omega
        .exact l7
       .rw[hcong];have hj:j<(S::sn).reverse.length:=(List.getElem?_eq_some_iff.1 h3).1;simp only[List.length_reverse,List.length_cons]at hj;rw[List.getElem?_reverse (by simpa using hj)]at h3;simp only[List.length_cons]at h3;by_cases he:j=sn.length
        .subst he;simp at h3;subst h3;exact hv
        .have e1:sn.length+1-1-j=(sn.length-1-j)+1:=by omega
         rw[e1,List.getElem?_cons_succ]at h3;exact reP_one (wE sf _ T (by omega) h3)
       .obtain⟨m,hm0⟩:∃m,kp=m+1:=⟨kp-1,by omega⟩
        subst hm0;exact⟨⟨q.o,v,m+1⟩,List.mem_cons_self ..,rfl,rfl,hkp⟩
    have ih:=mL l pl (P++[r]) (up F r.o.dst v) S ps sn _ id xl (by rw[lS];exact hn) hd hb2 hi gN BJ vi z7 (by rw[EG];exact hk);rw[dI,hc];simp only[];rw[nI]at hv;cases hww:aQ ops F r.o.guard with
    |none=>rw[hww]at hv;cases hv
    |some b=>
     rw[hww]at hv;cases b with
     |true=>
      refine⟨fun _=>?_,fun e=>by cases e⟩;simp only[]at hv;cases ha:bj cx F S r.o<;>rw[ha]at hv<;>first|(cases hv;done)|skip
      cases hv;exact⟨_,_,rfl,ih⟩
     |false=>
      refine⟨fun e=>(by cases e),fun _=>?_⟩;cases hv;exact ih
   |f=>
    have gN:(bQ r.cls&&fo rows l pl sn.length)=true:=hm;rw[Bool.and_eq_true]at gN;have hc:r.cls=.fresh:=by cases qM:r.cls<;>rw[qM]at gN<;>first|rfl|(cases gN.1)
    have h':sm cx ops r.o F id (fun v x=>eF cx ops pl (l.map (·.o)) (P.length+1) (up F r.o.dst v) S (⟨P.length,id,x⟩::ps) sn lv (id+1) Q) (eF cx ops pl (l.map (·.o)) (P.length+1) (up F r.o.dst .undef) S ps sn lv id Q):=h;have z7:∀v,Seen cx ops rows (P++[r]) (up F r.o.dst v) S sn lv:=by
     intro v q hq qX;rcases List.mem_append.1 hq with hq|hq
     .exact carry v lv (fun _ hx=>hx) q hq qX
     .rw[List.mem_singleton]at hq;subst hq;rw[hc]at qX;cases qX
    rw[dI,hc];simp only[];unfold sm at h';cases hww:aQ ops F r.o.guard with
    |none=>rw[hww]at h';exact h'.elim
    |some b=>
     rw[hww]at h';cases b with
     |true=>
      refine⟨fun _=>?_,fun e=>by cases e⟩;have h1:=h'.1 rfl;unfold ER at h1;cases hf:aA cx F id r.o.op with
      |none=>rw[hf]at h1;exact h1.elim
      |some vx=>
       obtain⟨v,x⟩:=vx;rw[hf]at h1;refine⟨v,x,rfl,?_⟩;rw[hri];refine mL l pl (P++[r]) (up F r.o.dst v) S _ sn lv (id+1) xl (by rw[lS];exact hn) hd hb2 hi gN.2 BJ (fun y hy=>?_) (z7 v) (by rw[EG];exact h1);rcases List.mem_cons.1 hy with rfl|hy
       .exact⟨r,by rw[Aa];simp,gN.1,hri⟩
       .exact vi y hy
     |false=>
      refine⟨fun e=>(by cases e),fun _=>?_⟩;exact mL l pl (P++[r]) (up F r.o.dst .undef) S ps sn lv id xl (by rw[lS];exact hn) hd hb2 hi gN.2 BJ vi (z7 _) (by rw[EG];exact h'.2 rfl)
   |e cm=>
    have gN:(bK r.cls&&ew (fun f=>cond (bQ f.cls) (cond (tS f.i cm) (bit r.dL f.i) (!bit r.dL f.i)) true) rows&&fo rows l pl (sn.length+1))=true:=hm;simp only[Bool.and_eq_true]at gN;obtain⟨⟨hef,hcm⟩,gN⟩:=gN;have hc:r.cls=.yV:=by cases qM:r.cls<;>rw[qM]at hef<;>first|rfl|(cases hef)
    rw[j4]at hcm;have hcm':∀x,x∈ps->tS x.i cm=bit r.dL x.i:=by
     intro x hx;obtain⟨f,f1,f2,f3⟩:=vi x hx;have:=hcm f f1;rw[f2]at this;simp only[cond_true,f3]at this;cases hmm:tS x.i cm<;>rw[hmm]at this<;>cases sf:bit r.dL x.i<;>rw[sf]at this<;>first|rfl|(cases this)
    obtain⟨c1,c2⟩:=comL_eq (S:=S) hcm';have h':eQ cx ops r.o F (comL cm ps S) fun v S'=>nD cx ops F S' lv/\eF cx ops pl (l.map (·.o)) (P.length+1) (up F r.o.dst v) S' (qV cm ps) (S::sn) (ta lv) id Q:=h;rw[dI,hc];simp only[];rw[c1]at h';refine nq h' ?_;rintro v S' ⟨hre,hk⟩;rw[<-c2];refine mL l pl (P++[r]) (up F r.o.dst v) S' (qV cm ps) (S::sn) (ta lv) id xl (by rw[lS];exact hn) hd hb2 hi gN BJ (fun x hx=>?_) ?_ (by rw[EG];exact hk)
    .have:x∈ps:=by
      rw[c2,nL]at hx;exact (List.mem_filter.1 hx).1
     exact vi x this
    .intro q hq qX;rcases List.mem_append.1 hq with hq|hq
     .obtain⟨d,u,k1,k2,k3,k4,k5⟩:=hs q hq qX;have hcong:∀T,fG cx ops (up F r.o.dst v) T q.o=fG cx ops F T q.o:=fun T=>iv fun t ht=>iA q hq qX v t (.inr ht);refine⟨d,u,k1,by rw[iA q hq qX v d (.inl k1)];exact k2,k3,fun j T h1 h2 h3=>?_,fun hh=>?_⟩
      .rw[hcong];rw[List.reverse_cons]at h3;by_cases hj:j<(S::sn).reverse.length
       .rw[List.getElem?_append_left hj]at h3;exact k4 j T h1 h2 h3
       .have hj2:j=sn.length+1:=by
         have:=(List.getElem?_eq_some_iff.1 h3).1;simp at this hj;omega
        subst hj2;rw[List.getElem?_append_right (by simp)]at h3;simp at h3;subst h3;obtain⟨x,x1,x2,x3,_⟩:=k5 (by omega);have:=reLive_mem hre x x1;rw[x2,x3]at this;exact reP_one this
      .simp only[List.length_cons]at hh;obtain⟨x,x1,x2,x3,x4⟩:=k5 (by omega);obtain⟨y,y1,y2,y3,y4⟩:=decL_mem x1 (by omega);exact⟨y,y1,y2.trans x2,y3.trans x3,by rw[y4,x4];simp only[List.length_cons];omega⟩
     .rw[List.mem_singleton]at hq;subst hq;rw[hc]at qX;cases qX
theorem jc{rows:List Row}:∀(l:List Row)(pl:List Pk)(k:Nat),fo rows l pl k=true->pI l=rJ pl
 |[],[],_,_=>rfl
 |[],a::pl,k,h=>by cases a<;>cases h
 |r::l,[],k,h=>by cases h
 |r::l,a::pl,k,h=>by
  have e:pI (r::l)=cond (bQ r.cls) (Nat.succ (pI l)) (pI l):=rfl;cases a with
  |p=>
   have gN:((match r.cls with | .pure=>true|_=>false)&&fo rows l pl k)=true:=h;rw[Bool.and_eq_true]at gN;have hc:bQ r.cls=false:=by cases qM:r.cls<;>rw[qM]at gN<;>first|rfl|(cases gN.1)
   rw[e,hc,jc l pl k gN.2];rfl
  |r b n=>
   have gN:(eO r.cls&&Nat.ble (Eo rows r) k&&Nat.beq b (k-Eo rows r)&&Nat.beq n (hiN rows r-k)&&fo rows l pl k)=true:=h;simp only[Bool.and_eq_true]at gN;have hc:bQ r.cls=false:=by cases qM:r.cls<;>rw[qM]at gN<;>first|rfl|(cases gN.1.1.1.1)
   rw[e,hc,jc l pl k gN.2];rfl
  |f=>
   have gN:(bQ r.cls&&fo rows l pl k)=true:=h;rw[Bool.and_eq_true]at gN;rw[e,gN.1,jc l pl k gN.2];rfl
  |e cm=>
   have gN:(bK r.cls&&ew (fun f=>cond (bQ f.cls) (cond (tS f.i cm) (bit r.dL f.i) (!bit r.dL f.i)) true) rows&&fo rows l pl (k+1))=true:=h;simp only[Bool.and_eq_true]at gN;have hc:bQ r.cls=false:=by cases qM:r.cls<;>rw[qM]at gN<;>first|rfl|(cases gN.1.1)
   rw[e,hc,jc l pl (k+1) gN.2];rfl
theorem cO{cx:Cx}{ops:List Oper}{F:Fr}{S:AS}{Q:Fr->AS->Prop}{n:Nat}(pl:List Pk)(hk:planIs cx n ops pl=true)(hn:F.n=n)
  (h:eF cx ops pl ops 0 F ⟨S.h,S.next+rJ pl⟩ [] [] [] S.next Q):ko cx ops F S Q:=by
 unfold planIs at hk;simp only[Bool.and_eq_true]at hk;obtain⟨⟨⟨h1,h2⟩,h3⟩,h4⟩:=hk;have hp:=tL cx ops.toArray;simp only[List.toList_toArray]at hp;obtain⟨pln,_⟩:=hp;have hmap:(settle (dx cx ops)).map (·.o)=ops:=by
  apply List.ext_getElem?;intro i;rw[List.getElem?_map];cases hi:(settle (dx cx ops))[i]? with
  |none=>
   have hlen:=pln.len;simp only[List.size_toArray]at hlen;rw[List.getElem?_eq_none_iff]at hi;simp only[Option.map_none];exact (List.getElem?_eq_none_iff.2 (by omega)).symm
  |some r=>
   have:=(pln.row i r hi).2;simp only[List.getElem?_toArray]at this;simp[this]
 refine⟨?_⟩;unfold sX D6;rw[h1];simp only[cond_true];rw[jc _ _ _ h4];exact mL (n:=n) _ pl [] F _ [] [] [] S.next (by simp) hn h3 h2 (fun i r hr=>(pln.row i r hr).1) h4 (fun r hr=>by cases hr) (fun x hx=>by cases hx) (fun q hq=>by cases hq) (by rw[hmap];exact h)
section
variable{cx:Cx}{ops l:List Oper}{pl:List Pk}{o:Oper}{i id:Nat}{F:Fr}{S:AS}{ps:List ey}{sn:List AS}{lv:List Live}{Q:Fr->AS->Prop}
def wontP(cx:Cx)(ops:List Oper)(pl:List Pk)(l:List Oper)(i:Nat)(F:Fr)(d:Option Nat)(S:AS)(ps:List ey)(sn:List AS)(lv:List Live)(id:Nat)(Q:Fr->AS->Prop)(v:AV):Prop:=eF cx ops pl l i (up F d v) S ps sn lv id Q
def wontR(cx:Cx)(ops:List Oper)(pl:List Pk)(l:List Oper)(i b k:Nat)(F:Fr)(o:Oper)(S:AS)(ps:List ey)(sn:List AS)(lv:List Live)(id:Nat)(Q:Fr->AS->Prop)(v:AV):Prop:=
 oY cx ops F o v b sn/\okN b k v/\eF cx ops pl l i (up F o.dst v) S ps sn (zT o v k lv) id Q
def wontF(cx:Cx)(ops:List Oper)(pl:List Pk)(l:List Oper)(i:Nat)(F:Fr)(d:Option Nat)(S:AS)(ps:List ey)(sn:List AS)(lv:List Live)(id:Nat)(Q:Fr->AS->Prop)(v:AV)(x:dr):Prop:=
 eF cx ops pl l (i+1) (up F d v) S (⟨i,id,x⟩::ps) sn lv (id+1) Q
def wontE(cx:Cx)(ops:List Oper)(pl:List Pk)(l:List Oper)(i:Nat)(F:Fr)(d:Option Nat)(S:AS)(ps:List ey)(sn:List AS)(lv:List Live)(id:Nat)(Q:Fr->AS->Prop)(v:AV)(S':AS):Prop:=
 nD cx ops F S' lv/\eF cx ops pl l i (up F d v) S' ps (S::sn) (ta lv) id Q
theorem rowsW_nil:eF cx ops [] [] i F S ps sn lv id Q=Q F (comA ps S):=by rw[eF]
theorem rowsW_p:eF cx ops (.p::pl) (o::l) i F S ps sn lv id Q=mI cx ops o F S (wontP cx ops pl l (i+1) F o.dst S ps sn lv id Q):=by rw[eF];rfl
theorem rowsW_r{b k:Nat}:eF cx ops (.r b k::pl) (o::l) i F S ps sn lv id Q=mI cx ops o F S (wontR cx ops pl l (i+1) b k F o S ps sn lv id Q):=by rw[eF];rfl
theorem rowsW_f:eF cx ops (.f::pl) (o::l) i F S ps sn lv id Q=sm cx ops o F id (wontF cx ops pl l i F o.dst S ps sn lv id Q) (eF cx ops pl l (i+1) (up F o.dst .undef) S ps sn lv id Q):=by rw[eF];rfl
theorem rowsW_e{cm:List Nat}:eF cx ops (.e cm::pl) (o::l) i F S ps sn lv id Q=eQ cx ops o F (comL cm ps S) (wontE cx ops pl l (i+1) F o.dst S (qV cm ps) sn lv id Q):=by rw[eF];rfl
theorem wontP_app{d:Option Nat}{v:AV}:wontP cx ops pl l i F d S ps sn lv id Q v=eF cx ops pl l i (up F d v) S ps sn lv id Q:=rfl
theorem wontR_app{b k:Nat}{v:AV}:wontR cx ops pl l i b k F o S ps sn lv id Q v=(oY cx ops F o v b sn/\okN b k v/\eF cx ops pl l i (up F o.dst v) S ps sn (zT o v k lv) id Q):=rfl
theorem wontF_app{d:Option Nat}{v:AV}{x:dr}:wontF cx ops pl l i F d S ps sn lv id Q v x=eF cx ops pl l (i+1) (up F d v) S (⟨i,id,x⟩::ps) sn lv (id+1) Q:=rfl
theorem wontE_app{d:Option Nat}{v:AV}{S':AS}:wontE cx ops pl l i F d S ps sn lv id Q v S'=(nD cx ops F S' lv/\eF cx ops pl l i (up F d v) S' ps (S::sn) (ta lv) id Q):=rfl
variable{dst:Option Tmp}{op:Op}{ty:TypeId}{pos:String}{af:Array Edge}{K:AV->Prop}{KF:AV->dr->Prop}{J:Prop}
theorem stepV_free:mI cx ops ⟨dst,op,ty,pos,af,none⟩ F S K=C9 (bj cx F S ⟨dst,op,ty,pos,af,none⟩) K:=by simp[mI,aQ]
theorem stepV_run{j d:Nat}{w b:Bool}(h1:dY ops j=some d)(h2:sl F d=.bool b)(h3:(b==w)=true):mI cx ops ⟨dst,op,ty,pos,af,some (j,w)⟩ F S K=C9 (bj cx F S ⟨dst,op,ty,pos,af,some (j,w)⟩) K:=by
 have hw:=eH (w:=w) h1 h2;obtain rfl:b=w:=by simpa using h3
 show (match aQ ops F (some (j,b))with
  |some b'=>(b'=true->C9 (bj cx F S ⟨dst,op,ty,pos,af,some (j,b)⟩) K)/\(b'=false->K AV.undef)
  |none=>False)=_
 rw[hw];cases b<;>simp
theorem stepV_skip{j d:Nat}{w b:Bool}(h1:dY ops j=some d)(h2:sl F d=.bool b)(h3:(b == !w)=true):mI cx ops ⟨dst,op,ty,pos,af,some (j,w)⟩ F S K=K AV.undef:=by
 have hw:=eH (w:=w) h1 h2;obtain rfl:b=!w:=by simpa using h3
 show (match aQ ops F (some (j,w))with
  |some b'=>(b'=true->C9 (bj cx F S ⟨dst,op,ty,pos,af,some (j,w)⟩) K)/\(b'=false->K AV.undef)
  |none=>False)=_
 rw[hw];cases w<;>simp
theorem Dq{j d:Nat}{w:Bool}(h1:dY ops j=some d)(h2:sl F d=.undef):mI cx ops ⟨dst,op,ty,pos,af,some (j,w)⟩ F S K=K AV.undef:=by
 obtain⟨p,e1,e2⟩:=jy ops j d h1;have hw:aQ ops F (some (j,w))=some false:=by simp[aQ,e1,e2,h2,AV.undef]
 show (match aQ ops F (some (j,w))with
  |some b'=>(b'=true->C9 (bj cx F S ⟨dst,op,ty,pos,af,some (j,w)⟩) K)/\(b'=false->K AV.undef)
  |none=>False)=_
 rw[hw];simp
theorem stepA_free:sm cx ops ⟨dst,op,ty,pos,af,none⟩ F id KF J=ER (aA cx F id op) KF:=by simp[sm,aQ]
theorem stepA_run{j d:Nat}{w b:Bool}(h1:dY ops j=some d)(h2:sl F d=.bool b)(h3:(b==w)=true):sm cx ops ⟨dst,op,ty,pos,af,some (j,w)⟩ F id KF J=ER (aA cx F id op) KF:=by
 have hw:=eH (w:=w) h1 h2;obtain rfl:b=w:=by simpa using h3
 show (match aQ ops F (some (j,b))with
  |some b'=>(b'=true->ER (aA cx F id op) KF)/\(b'=false->J)
  |none=>False)=_
 rw[hw];cases b<;>simp
theorem stepA_skip{j d:Nat}{w b:Bool}(h1:dY ops j=some d)(h2:sl F d=.bool b)(h3:(b == !w)=true):sm cx ops ⟨dst,op,ty,pos,af,some (j,w)⟩ F id KF J=J:=by
 have hw:=eH (w:=w) h1 h2;obtain rfl:b=!w:=by simpa using h3
 show (match aQ ops F (some (j,w))with
  |some b'=>(b'=true->ER (aA cx F id op) KF)/\(b'=false->J)
  |none=>False)=_
 rw[hw];cases w<;>simp
theorem Dv{j d:Nat}{w:Bool}(h1:dY ops j=some d)(h2:sl F d=.undef):sm cx ops ⟨dst,op,ty,pos,af,some (j,w)⟩ F id KF J=J:=by
 obtain⟨p,e1,e2⟩:=jy ops j d h1;have hw:aQ ops F (some (j,w))=some false:=by simp[aQ,e1,e2,h2,AV.undef]
 show (match aQ ops F (some (j,w))with
  |some b'=>(b'=true->ER (aA cx F id op) KF)/\(b'=false->J)
  |none=>False)=_
 rw[hw];simp
theorem freP_some{v:AV}{x:dr}:ER (some (v,x)) KF=KF v x:=rfl
theorem valP_val{v:AV}{S':AS}:C9 (.val v S') K=K v:=rfl
theorem aopIs_val{v u:AV}{S':AS}:u9 (.val u S') v=(u=v):=rfl
variable{v:AV}
theorem reP_free:reP cx ops F S ⟨dst,op,ty,pos,af,none⟩ v=u9 (bj cx F S ⟨dst,op,ty,pos,af,none⟩) v:=by simp[reP,aQ]
theorem reP_run{j d:Nat}{w b:Bool}(h1:dY ops j=some d)(h2:sl F d=.bool b)(h3:(b==w)=true):reP cx ops F S ⟨dst,op,ty,pos,af,some (j,w)⟩ v=u9 (bj cx F S ⟨dst,op,ty,pos,af,some (j,w)⟩) v:=by
 have hw:=eH (w:=w) h1 h2;obtain rfl:b=w:=by simpa using h3
 show (match aQ ops F (some (j,b))with
  |some b'=>(b'=true->u9 (bj cx F S ⟨dst,op,ty,pos,af,some (j,b)⟩) v)/\(b'=false->v=AV.undef)
  |none=>False)=_
 rw[hw];cases b<;>simp
theorem reP_skip{j d:Nat}{w b:Bool}(h1:dY ops j=some d)(h2:sl F d=.bool b)(h3:(b == !w)=true):reP cx ops F S ⟨dst,op,ty,pos,af,some (j,w)⟩ AV.undef=True:=by
 have hw:=eH (w:=w) h1 h2;obtain rfl:b=!w:=by simpa using h3
 show (match aQ ops F (some (j,w))with
  |some b'=>(b'=true->u9 (bj cx F S ⟨dst,op,ty,pos,af,some (j,w)⟩) AV.undef)/\(b'=false->AV.undef=AV.undef)
  |none=>False)=_
 rw[hw];cases w<;>simp
theorem reP_undef{j d:Nat}{w:Bool}(h1:dY ops j=some d)(h2:sl F d=.undef):reP cx ops F S ⟨dst,op,ty,pos,af,some (j,w)⟩ AV.undef=True:=by
 obtain⟨p,e1,e2⟩:=jy ops j d h1;have hw:aQ ops F (some (j,w))=some false:=by simp[aQ,e1,e2,h2,AV.undef]
 show (match aQ ops F (some (j,w))with
  |some b'=>(b'=true->u9 (bj cx F S ⟨dst,op,ty,pos,af,some (j,w)⟩) AV.undef)/\(b'=false->AV.undef=AV.undef)
  |none=>False)=_
 rw[hw];simp
theorem okN_zero:okN 0 0 v=True:=rfl
theorem okN_back{b k:Nat}:okN (b+1) k v=(okW v=true):=rfl
theorem okN_keep{b k:Nat}:okN b (k+1) v=(okW v=true):=by cases b<;>rfl
theorem liveN_zero:zT o v 0 lv=lv:=rfl
theorem liveN_succ{k:Nat}:zT o v (k+1) lv=⟨o,v,k+1⟩::lv:=rfl
theorem decL_one{l:List Live}:ta (⟨o,v,1⟩::l)=ta l:=rfl
theorem decL_more{l:List Live}{n:Nat}:ta (⟨o,v,n+2⟩::l)=⟨o,v,n+1⟩::ta l:=rfl
theorem DT:oY cx ops F o v 0 sn=True:=by cases sn<;>rfl
theorem DU{n:Nat}:oY cx ops F o v (n+1) (S::sn)=(reP cx ops F S o v/\oY cx ops F o v n sn):=rfl
theorem reLive_nil:nD cx ops F S []=True:=rfl
theorem DS{x:Live}{l:List Live}:nD cx ops F S (x::l)=(reP cx ops F S x.o x.v/\nD cx ops F S l):=rfl
end
end Go.Am
end
