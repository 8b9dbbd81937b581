/-
  The abstract machine: a region that draws its order and leaves the memory as it is.
-/
import Derived.Test.YtdknlbnljfdhgaaGreatDoorAmRules
import Derived.Test.YtdknlbnljfdhgaaGreatDoorAmPlan
import Derived.Test.YtdknlbnljfdhgaaGreatDoorAmCongr
import Derived.Test.YtdknlbnljfdhgaaGreatDoorAmDraws
open Nat renaming beq->zza
open Bool renaming and_eq_true->zzb
open List renaming mem_cons_self->zzc
set_option linter.unusedSimpArgs false
namespace Go.Am
open Go
def kg:AV->Bool
 | .bool _=>true | .int ..=>true | .str _=>true | .ck=>true | .ptr ..=>true | .ar=>true | .slice ..=>true | .j8=>true | .map _=>true | .eQ=>true | .bR=>true
 |_=>false
def j5:List AV->Bool
 |[]=>true
 |x::l=>kg x&&j5 l
def sZ:AV->Bool
 | .agg l=>j5 l
 | .tuple l=>j5 l
 | .iface _ v=>kg v
 |v=>kg v
theorem HT:∀s:List Nat,tV s s=true
 |[]=>rfl
 |x::l=>by
  show cond (zza x x) (tV l l) false=true;rw[bO,HT l];simp
theorem eu(k:IntKind):eE k k=true:=by rw[dn];simp
theorem vk(n:Int):Bs n n=true:=by rw[gz];simp
theorem wU(n:Nat)(v:AV)(h:kg v=true):fL (n+1) v v=true:=by
 cases v<;>simp only[kg,Bool.false_eq_true]at h<;>try rfl
 .rename_i b;cases b<;>rfl
 .rename_i k m;show (eE k k&&Bs m m)=true;rw[eu,vk];rfl
 .rename_i s;exact HT s
 .rename_i a b c d;show (zza a a&&zza b b&&zza c c&&zza d d)=true;simp[bO]
 .rename_i a b c d e f g;cases g with
  |none=>
   show (zza a a&&zza b b&&zza c c&&zza d d&&zza e e&&zza f f)=true;simp[bO]
  |some g=>
   show (zza a a&&zza b b&&zza c c&&zza d d&&zza e e&&zza f f&&zza g g)=true;simp[bO]
 .rename_i a;show zza a a=true;simp[bO]
theorem mU(n:Nat):∀l:List AV,j5 l=true->DE (n+1) l l=true
 |[],_=>rfl
 |x::l,h=>by
  simp only[j5,zzb]at h;show cond (fL (n+1) x x) (DE (n+1) l l) false=true;rw[wU n x h.1,mU n l h.2];rfl
theorem zD(v:AV)(h:sZ v=true):fL 8 v v=true:=by
 have b:kg v=true->fL 8 v v=true:=wU 7 v;cases v<;>simp only[sZ]at h<;>(try exact b h)
 .rename_i t v;show (zza t t&&fL 7 v v)=true;rw[wU 6 v h];simp[bO]
 .exact mU 6 _ h
 .exact mU 6 _ h
theorem Pn:sZ .undef=true:=rfl
noncomputable def vL(ops:List Oper):List Row->Bool
 |[]=>true
 |r::l=>!cl r.cls&&cond (fE r.cls) (match r.o.dst with
  |some d=>!BG d (iG ops r.o)&&js (fun w=>match w.o.dst with|some e=>!Nat.beq e d && !BG e (iG ops r.o)|none=>true) l
  |none=>false) true&&vL ops l
noncomputable def Me(cx:Cx)(n:Nat)(ops:List Oper):Bool:=
 jf ops (settle (dW cx ops))&&vL ops (settle (dW cx ops))&&pU n (settle (dW cx ops))
def pn(cx:Cx)(ops:List Oper):List Oper->Fr->AS->(Fr->Prop)->Prop
 |[],F,_,Q=>Q F
 |o::l,F,S,Q=>fG cx ops o F S fun v S'=>S'=S/\sZ v=true/\pn cx ops l (up F o.dst v) S Q
def Sb(cx:Cx)(ops l:List Oper)(F:Fr)(d:Option Nat)(S:AS)(Q:Fr->Prop)(v:AV)(S':AS):Prop:=S'=S/\sZ v=true/\pn cx ops l (up F d v) S Q
theorem JC{cx:Cx}{ops:List Oper}{F:Fr}{S:AS}{Q:Fr->Prop}:pn cx ops [] F S Q=Q F:=rfl
theorem Gg{cx:Cx}{ops:List Oper}{o:Oper}{l:List Oper}{F:Fr}{S:AS}{Q:Fr->Prop}:pn cx ops (o::l) F S Q=fG cx ops o F S (Sb cx ops l F o.dst S Q):=rfl
theorem OG{cx:Cx}{ops l:List Oper}{F:Fr}{d:Option Nat}{S:AS}{Q:Fr->Prop}{v:AV}:Sb cx ops l F d S Q v S=(sZ v=true/\pn cx ops l (up F d v) S Q):=by
 unfold Sb;simp
theorem ir{r:Option AV}{S S':AS}{n:Nat}{f:FuncId}{l:List AV}(h:val? r S n=.enter f l S'):False:=by
 cases r<;>cases h
theorem QV{cx:Cx}{F:Fr}{S S':AS}{o:Oper}{f:FuncId}{l:List AV}(hc:ie cx o=.pure\/ie cx o=.read)(h:bF cx F S o=.enter f l S'):False:=by
 obtain⟨dst,op,ty,pos,after,guard⟩:=o;cases op<;>simp only[ie,reduceCtorEq,or_self]at hc<;>simp only[bF]at h
 case move x=>cases h
 case assign x=>cases h
 case pick c a b=>split at h<;>cases h
 case build t parts=>exact ir h
 case load t x=>
  split at h
  .repeat (split at h<;>try (cases h;done))
  .split at h
   .exact ir h
   .cases h
  .cases h
 case typeAssert x a b ok=>exact ir h
 case nilCheck x=>split at h<;>cases h
 case binOp op t x y yt=>exact ir h
 case unOp op t x=>exact ir h
 case convert s d x=>
  simp only[Bool.cond_eq_ite]at h
  repeat' split at h
  all_goals first|(cases h;done)|exact ir h
 case makeInterface t x=>split at h<;>cases h
 case makeFunc fn a b=>cases h
 case slice t x lo hi mx=>exact ir h
 case fieldAddr t x f=>repeat (split at h<;>try (cases h;done))
 case field t x f=>
  split at h
  .split at h
   .exact ir h
   .cases h
  .cases h
 case indexAddr t x i=>
  split at h
  .split at h
   .cases hc:(zza _ _&&Nat.blt _ _)with
    |false=>rw[hc]at h;cases h
    |true=>rw[hc]at h;cases h
   .cases h
  .split at h
   .cases hc:Nat.blt _ _ with
    |false=>rw[hc]at h;cases h
    |true=>rw[hc]at h;cases h
   .cases h
  .split at h
   .cases hc:Nat.blt _ _ with
    |false=>rw[hc]at h;cases h
    |true=>rw[hc]at h;cases h
   .cases h
  .cases h
 case index t x i=>
  split at h
  .split at h<;>cases h
  .split at h
   .cases hc:Nat.blt _ _ with
    |false=>rw[hc]at h;cases h
    |true=>rw[hc]at h;exact ir h
   .cases h
  .cases h
 case lookup t x i ok=>exact ir h
 case extract x i=>
  split at h
  .exact ir h
  .cases h
 case call c=>
  obtain⟨callee,as,nN⟩:=c;cases callee with
  |value f=>simp at hc
  |invoke r m=>simp at hc
  |builtin b=>
   have hb:b=.len\/b=.cap\/b=.min\/b=.max:=by cases b<;>simp_all
   simp only[]at h;unfold bh at h;rcases hb with rfl|rfl|rfl|rfl<;>clear hc<;>split at h<;>(try contradiction)<;>(try (cases h;done))
   .split at h<;>first|(cases h)|(cases h;done)
   .split at h<;>first|(cases h)|(cases h;done)
   .exact ir h
   .exact ir h
theorem A6{cx:Cx}{F:Fr}{S:AS}{o:Oper}{K:AV->AS->Prop}(hc:ie cx o=.pure\/ie cx o=.read)(h:iV cx (bF cx F S o) K):∃v S',bF cx F S o=.val v S':=by
 cases ha:bF cx F S o with
 |val v S'=>exact⟨v,S',rfl⟩
 |enter f l S'=>exact (QV hc ha).elim
 |err n=>rw[ha]at h;exact h.elim
 |round f l S'=>rw[ha]at h;exact h.elim
 |eO v S'=>rw[ha]at h;exact h.elim
 |many l=>rw[ha]at h;exact h.elim
theorem fD{cx:Cx}{ops:List Oper}:∀{l:List Row}{F:Fr}{S:AS}{ps:List fk}{sn:List AS}{id:Nat}{Q Q':Fr->AS->List AS->Prop},ez cx ops l F S ps sn id Q->(∀F' S' JM,Q F' S' JM->Q' F' S' JM)->ez cx ops l F S ps sn id Q'
 |[],_,_,_,_,_,_,_,h,k=>k _ _ _ h
 |r::l,F,S,ps,sn,id,Q,Q',h,k=>by
  cases hc:r.cls with
  |fresh=>
   rw[ez,hc]at h⊢;simp only[]at h⊢;cases hw:bj ops F r.o.guard with
   |none=>rw[hw]at h;exact h
   |some b=>
    rw[hw]at h;refine⟨fun hb=>?_,fun hb=>fD (h.2 hb) k⟩;obtain⟨v,x,h1,h2⟩:=h.1 hb;exact⟨v,x,h1,fD h2 k⟩
  |BS=>
   rw[ez,hc]at h⊢;simp only[]at h⊢;exact pq h fun _ _ h'=>fD h' k
  |pure=>
   rw[ez,hc]at h⊢;simp only[]at h⊢;cases hw:bj ops F r.o.guard with
   |none=>rw[hw]at h;exact h
   |some b=>
    rw[hw]at h;refine⟨fun hb=>?_,fun hb=>fD (h.2 hb) k⟩;obtain⟨v,x,h1,h2⟩:=h.1 hb;exact⟨v,x,h1,fD h2 k⟩
  |read=>
   rw[ez,hc]at h⊢;simp only[]at h⊢;cases hw:bj ops F r.o.guard with
   |none=>rw[hw]at h;exact h
   |some b=>
    rw[hw]at h;refine⟨fun hb=>?_,fun hb=>fD (h.2 hb) k⟩;obtain⟨v,x,h1,h2⟩:=h.1 hb;exact⟨v,x,h1,fD h2 k⟩
theorem uW(n:Nat):∀l:List Nat,BG n l=true↔n∈l
 |[]=>by show (false=true)↔_;simp
 |m::l=>by
  show cond (zza n m) true (BG n l)=true↔_;rw[bO];have ih:=uW n l;by_cases h:n=m
  .simp[h]
  .simp[h,ih]
theorem lz{α:Type}(p:α->Bool):∀l:List α,js p l=true↔∀x,x∈l->p x=true
 |[]=>by show (true=true)↔_;simp
 |x::l=>by
  show cond (p x) (js p l) false=true↔_;have ih:=lz p l;cases h:p x<;>simp[h,ih]
theorem sr{F:Fr}{d:Option Nat}{t:Nat}{v:AV}(h:d≠some t):(up F d v).t.get t=F.t.get t:=by
 cases d with
 |none=>rfl
 |some d=>exact ae _ _ (fun e=>h (by rw[e]))
theorem xy{F:Fr}{d:Nat}{v:AV}:(up F (some d) v).t.get d=some v:=aa _ _ _
structure Still(cx:Cx)(ops:List Oper)(l:List Row)(F:Fr)(S:AS)(sn:List AS)(F':Fr)(S':AS)(JM:List AS):Prop where
 mem:S'=S
 sns:∀T,T∈JM->T=S\/T∈sn
 n:F'.n=F.n
 ca:∀t,(∀r,r∈l->r.o.dst≠some t)->F'.t.get t=F.t.get t
 read:∀q,q∈l->fE q.cls=true->∃d v,q.o.dst=some d/\F'.t.get d=some v/\sZ v=true/\gy cx ops F' S q.o=some v
theorem y8{cx:Cx}{ops:List Oper}:∀{l:List Row}{F:Fr}{S:AS}{sn:List AS}{id:Nat}{Q:Fr->Prop},vL ops l=true->(∀r,r∈l->(r.cls=.pure\/r.cls=.read)->ie cx r.o=r.cls) ->
  pn cx ops (l.map (·.o)) F S Q->ez cx ops l F S [] sn id fun F' S' JM=>Still cx ops l F S sn F' S' JM/\Q F'
 | [],F,S,sn,id,Q,_,_,h=>⟨⟨rfl,fun T hT=>by
   rcases List.mem_cons.1 hT with e|e
   .exact .inl e
   .exact .inr e,rfl,fun _ _=>rfl,fun q hq=>by cases hq⟩,h⟩
 |r::l,F,S,sn,id,Q,hb,hc,h=>by
  simp only[vL,zzb]at hb;obtain⟨⟨hf,hr⟩,hl⟩:=hb;have h':fG cx ops r.o F S fun v S'=>S'=S/\sZ v=true/\pn cx ops (l.map (·.o)) (up F r.o.dst v) S Q:=h;have ry:∀r',r'∈l->(r'.cls=.pure\/r'.cls=.read)->ie cx r'.o=r'.cls:=fun r' fi=>hc r' (List.mem_cons_of_mem _ fi);have rest:∀(v:AV)(sn1:List AS),(∀T,T∈sn1->T=S\/T∈sn)->sZ v=true->pn cx ops (l.map (·.o)) (up F r.o.dst v) S Q->(fE r.cls=true->gy cx ops F S r.o=some v) ->
    ez cx ops l (up F r.o.dst v) S [] sn1 id fun F' S' JM=>Still cx ops (r::l) F S sn F' S' JM/\Q F':=by
   intro v sn1 hs hv hk ho;refine fD (y8 (sn:=sn1) hl ry hk) ?_;rintro F' S' JM ⟨⟨k1,k2,k3,k4,k5⟩,hq⟩;refine⟨⟨k1,fun T hT=>?_,k3.trans (nc _ _ _),fun t ht=>?_,fun q hq tf=>?_⟩,hq⟩
   .rcases k2 T hT with e|e
    .exact .inl e
    .exact hs T e
   .rw[k4 t fun r' fi=>ht r' (List.mem_cons_of_mem _ fi),sr (ht r (zzc ..))]
   .rcases List.mem_cons.1 hq with rfl|hq
    .rw[tf]at hr;simp only[cond_true]at hr;cases hd:q.o.dst with
     |none=>rw[hd]at hr;cases hr
     |some d=>
      rw[hd]at hr;simp only[zzb,Bool.not_eq_true']at hr;obtain⟨h1,h2⟩:=hr;rw[lz]at h2;have u9:∀t,t∈iG ops q.o->BG t (iG ops q.o)=true:=fun t ht=>(uW _ _).2 ht;have mP:∀t,(t=d\/t∈iG ops q.o)->∀r',r'∈l->r'.o.dst≠some t:=by
       intro t ht r' fi e;have:=h2 r' fi;rw[e]at this;simp only[bO,zzb,Bool.not_eq_true',decide_eq_false_iff_not]at this;rcases ht with rfl|ht
       .exact this.1 rfl
       .rw[u9 t ht]at this;cases this.2
      refine⟨d,v,rfl,?_,hv,?_⟩
      .rw[k4 d (mP d (.inl rfl)),hd,xy]
      .rw[<-ho tf];refine jh fun t ht=>?_;rw[k4 t (mP t (.inr ht)),sr];rw[hd];intro e;cases e;rw[u9 _ ht]at h1;cases h1
    .exact k5 q hq tf
  cases rv:r.cls with
  |fresh=>rw[rv]at hf;cases hf
  |BS=>
   rw[ez,rv];simp only[];refine pq (show fG cx ops r.o F S _ from h') ?_;rintro v S' ⟨rfl,hv,hk⟩;exact rest v _ (fun T hT=>by
    rcases List.mem_cons.1 hT with e|e
    .exact .inl e
    .exact .inr e) hv hk (fun e=>by rw[rv]at e;cases e)
  |pure=>
   rw[ez,rv];simp only[];unfold fG at h';cases hw:bj ops F r.o.guard with
   |none=>rw[hw]at h';exact h'
   |some b=>
    rw[hw]at h';refine⟨fun hb=>?_,fun hb=>?_⟩
    .have h1:=h'.1 hb;obtain⟨v,S',ha⟩:∃v S',bF cx F S r.o=.val v S':=A6 (.inl (hc r (zzc ..) (.inl rv) |>.trans rv)) h1;rw[ha]at h1;exact⟨v,S',ha,rest v sn (fun T hT=>.inr hT) h1.2.1 h1.2.2 (fun e=>by rw[rv]at e;cases e)⟩
    .have h1:=h'.2 hb;exact rest _ sn (fun T hT=>.inr hT) h1.2.1 h1.2.2 (fun e=>by rw[rv]at e;cases e)
  |read=>
   rw[ez,rv];simp only[];unfold fG at h';cases hw:bj ops F r.o.guard with
   |none=>rw[hw]at h';exact h'
   |some b=>
    rw[hw]at h';refine⟨fun hb=>?_,fun hb=>?_⟩
    .have h1:=h'.1 hb;obtain⟨v,S',ha⟩:∃v S',bF cx F S r.o=.val v S':=A6 (.inr (hc r (zzc ..) (.inr rv) |>.trans rv)) h1;rw[ha]at h1;refine⟨v,S',ha,rest v sn (fun T hT=>.inr hT) h1.2.1 h1.2.2 fun _=>?_⟩;rw[pM,hw,hb];simp only[ha]
    .have h1:=h'.2 hb;refine rest _ sn (fun T hT=>.inr hT) h1.2.1 h1.2.2 fun _=>?_;rw[pM,hw,hb]
theorem od{cx:Cx}{ops:List Oper}{F:Fr}{S:AS}{Q:Fr->AS->Prop}{n:Nat}(hk:Me cx n ops=true)(hn:F.n=n)(h:pn cx ops ops F S fun F'=>Q F' S):lL cx ops F S Q:=by
 unfold Me at hk;simp only[zzb]at hk;obtain⟨⟨h1,h2⟩,h3⟩:=hk;subst hn;have hp:=vS cx ops.toArray;simp only[List.toList_toArray]at hp;obtain⟨pl,pc⟩:=hp;have jdU:(settle (dW cx ops)).map (·.o)=ops:=by
  apply List.ext_getElem?;intro i;rw[List.getElem?_map];cases hi:(settle (dW cx ops))[i]? with
  |none=>
   have hlen:=pl.len;simp only[List.size_toArray]at hlen;rw[List.getElem?_eq_none_iff]at hi;simp only[Option.map_none];exact (List.getElem?_eq_none_iff.2 (by omega)).symm
  |some r=>
   have:=(pl.row i r hi).2;simp only[List.getElem?_toArray]at this;simp[this]
 have Em:∀l:List Row,vL ops l=true->rB l=0:=by
  intro l
  induction l with
  |nil=>intro _;rfl
  |cons r l ih=>
   intro hb;simp only[vL,zzb]at hb;show cond (cl r.cls) (Nat.succ (rB l)) (rB l)=0;have hf:cl r.cls=false:=by simpa using hb.1.1
   rw[hf,ih hb.2];rfl
 refine⟨?_⟩;unfold vl GV;rw[h1];simp only[cond_true];rw[Em _ h2];refine fD (y8 (S:=S) (sn:=[]) h2 (fun r hr hc=>?_) (by rw[jdU];exact h)) ?_
 .obtain⟨i,hi⟩:=List.getElem?_of_mem hr;exact pc i r hi hc
 .rintro F' S' sn ⟨hs,hq⟩;obtain⟨rfl,k2,k3,_,k5⟩:=hs;refine⟨fun q hqm tf=>?_,hq⟩;obtain⟨d,v,e1,e2,e3,e4⟩:=k5 q hqm tf;have hd:d<F'.n:=by
   rw[k3];have:=List.all_eq_true.1 h3 q hqm;unfold BT at this;rw[e1]at this;simpa[iJ]using this
  unfold mr;have lr:∀T,T∈takeN (Nat.succ (Nat.sub (fZ (fun e=>!bit e.eG q.i) (kH (fun e=>bY e.cls) (settle (dW cx ops)))) (fZ (fun e=>bit q.eG e.i) (kH (fun e=>bY e.cls) (settle (dW cx ops)))))) (lT (fZ (fun e=>bit q.eG e.i) (kH (fun e=>bY e.cls) (settle (dW cx ops)))) (zn sn))->T=S':=by
   intro T hT;rw[cR,cF]at hT;have:=List.mem_of_mem_drop (List.mem_of_mem_take hT);rw[yi,List.mem_reverse]at this;rcases k2 T this with e|e
   .exact e
   .cases e
  simp only[];split
  .rfl
  .simp only[e1,iJ,hd,decide_true,cond_true,e2];rw[lz];intro T hT;rw[lr T hT,e4];exact zD v e3
end Go.Am
