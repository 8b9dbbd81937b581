/-
  The abstract machine: a region that draws its order and leaves the memory as it is.
-/
import Derived.Test.YtdknlbnljfdhgaaGreatDoorAmRules
import Derived.Test.YtdknlbnljfdhgaaGreatDoorAmPlan
import Derived.Test.YtdknlbnljfdhgaaGreatDoorAmCongr
import Derived.Test.YtdknlbnljfdhgaaGreatDoorAmDraws
namespace Go.Am
set_option linter.unusedSimpArgs false
open Go
def jr:AV->Bool
 | .bool _=>true | .int ..=>true | .str _=>true | .bM=>true | .ptr ..=>true | .aq=>true | .slice ..=>true | .jl=>true | .map _=>true | .kM=>true | .bH=>true
 |_=>false
def jj:List AV->Bool
 |[]=>true
 |x::l=>jr x&&jj l
def qR:AV->Bool
 | .agg l=>jj l
 | .tuple l=>jj l
 | .iface _ v=>jr v
 |v=>jr v
theorem E1:∀s:List Nat,re s s=true
 |[]=>rfl
 |x::l=>by
  show cond (Nat.beq x x) (re l l) false=true;rw[bF,E1 l];simp
theorem eA(k:IntKind):ej k k=true:=by rw[cR];simp
theorem pJ(n:Int):yU n n=true:=by rw[gK];simp
theorem uC(n:Nat)(v:AV)(h:jr v=true):fa (n+1) v v=true:=by
 cases v<;>simp only[jr,Bool.false_eq_true]at h<;>try rfl
 .rename_i b;cases b<;>rfl
 .rename_i k m;show (ej k k&&yU m m)=true;rw[eA,pJ];rfl
 .rename_i s;exact E1 s
 .rename_i a b c d;show (Nat.beq a a&&Nat.beq b b&&Nat.beq c c&&Nat.beq d d)=true;simp[bF]
 .rename_i a b c d e f g;cases g with
  |none=>
   show (Nat.beq a a&&Nat.beq b b&&Nat.beq c c&&Nat.beq d d&&Nat.beq e e&&Nat.beq f f)=true;simp[bF]
  |some g=>
   show (Nat.beq a a&&Nat.beq b b&&Nat.beq c c&&Nat.beq d d&&Nat.beq e e&&Nat.beq f f&&Nat.beq g g)=true;simp[bF]
 .rename_i a;show Nat.beq a a=true;simp[bF]
theorem lI(n:Nat):∀l:List AV,jj l=true->A9 (n+1) l l=true
 |[],_=>rfl
 |x::l,h=>by
  simp only[jj,Bool.and_eq_true]at h;show cond (fa (n+1) x x) (A9 (n+1) l l) false=true;rw[uC n x h.1,lI n l h.2];rfl
theorem wL(v:AV)(h:qR v=true):fa 8 v v=true:=by
 have b:jr v=true->fa 8 v v=true:=uC 7 v;cases v<;>simp only[qR]at h<;>(try exact b h)
 .rename_i t v;show (Nat.beq t t&&fa 7 v v)=true;rw[uC 6 v h];simp[bF]
 .exact lI 6 _ h
 .exact lI 6 _ h
theorem okV_undef:qR .undef=true:=rfl
noncomputable def tE(ops:List Oper):List Row->Bool
 |[]=>true
 |r::l=>!bQ r.cls&&cond (eO r.cls) (match r.o.dst with
  |some d=>!yJ d (gF ops r.o)&&ew (fun w=>match w.o.dst with|some e=>!Nat.beq e d && !yJ e (gF ops r.o)|none=>true) l
  |none=>false) true&&tE ops l
noncomputable def stillOk(cx:Cx)(n:Nat)(ops:List Oper):Bool:=
 ir ops (settle (dx cx ops))&&tE ops (settle (dx cx ops))&&nO n (settle (dx cx ops))
def nk(cx:Cx)(ops:List Oper):List Oper->Fr->AS->(Fr->Prop)->Prop
 |[],F,_,Q=>Q F
 |o::l,F,S,Q=>eQ cx ops o F S fun v S'=>S'=S/\qR v=true/\nk cx ops l (up F o.dst v) S Q
def skont(cx:Cx)(ops l:List Oper)(F:Fr)(d:Option Nat)(S:AS)(Q:Fr->Prop)(v:AV)(S':AS):Prop:=S'=S/\qR v=true/\nk cx ops l (up F d v) S Q
theorem stillP_nil{cx:Cx}{ops:List Oper}{F:Fr}{S:AS}{Q:Fr->Prop}:nk cx ops [] F S Q=Q F:=rfl
theorem Dp{cx:Cx}{ops:List Oper}{o:Oper}{l:List Oper}{F:Fr}{S:AS}{Q:Fr->Prop}:nk cx ops (o::l) F S Q=eQ cx ops o F S (skont cx ops l F o.dst S Q):=rfl
theorem skont_app{cx:Cx}{ops l:List Oper}{F:Fr}{d:Option Nat}{S:AS}{Q:Fr->Prop}{v:AV}:skont cx ops l F d S Q v S=(qR v=true/\nk cx ops l (up F d v) S Q):=by
 unfold skont;simp
theorem gl{r:Option AV}{S S':AS}{n:Nat}{f:FuncId}{l:List AV}(h:val? r S n=.enter f l S'):False:=by
 cases r<;>cases h
theorem aop_stays{cx:Cx}{F:Fr}{S S':AS}{o:Oper}{f:FuncId}{l:List AV}(hc:fY cx o=.pure\/fY cx o=.read)(h:bj cx F S o=.enter f l S'):False:=by
 obtain⟨dst,op,ty,pos,after,guard⟩:=o;cases op<;>simp only[fY,reduceCtorEq,or_self]at hc<;>simp only[bj]at h
 case move x=>cases h
 case assign x=>cases h
 case pick c a b=>split at h<;>cases h
 case build t parts=>exact gl h
 case load t x=>
  split at h
  .repeat (split at h<;>try (cases h;done))
  .split at h
   .exact gl h
   .cases h
  .cases h
 case typeAssert x a b ok=>exact gl h
 case nilCheck x=>split at h<;>cases h
 case binOp op t x y yt=>exact gl h
 case unOp op t x=>exact gl h
 case convert s d x=>
  simp only[Bool.cond_eq_ite]at h
  repeat' split at h
  all_goals first|(cases h;done)|exact gl h
 case makeInterface t x=>split at h<;>cases h
 case makeFunc fn a b=>cases h
 case slice t x lo hi mx=>exact gl h
 case fieldAddr t x f=>repeat (split at h<;>try (cases h;done))
 case field t x f=>
  split at h
  .split at h
   .exact gl h
   .cases h
  .cases h
 case indexAddr t x i=>
  split at h
  .split at h
   .cases hc:(Nat.beq _ _&&Nat.blt _ _)with
    |false=>rw[hc]at h;cases h
    |true=>rw[hc]at h;cases h
   .cases h
  .split at h
   .cases hc:Nat.blt _ _ with
    |false=>rw[hc]at h;cases h
    |true=>rw[hc]at h;cases h
   .cases h
  .split at h
   .cases hc:Nat.blt _ _ with
    |false=>rw[hc]at h;cases h
    |true=>rw[hc]at h;cases h
   .cases h
  .cases h
 case index t x i=>
  split at h
  .split at h<;>cases h
  .split at h
   .cases hc:Nat.blt _ _ with
    |false=>rw[hc]at h;cases h
    |true=>rw[hc]at h;exact gl h
   .cases h
  .cases h
 case lookup t x i ok=>exact gl h
 case extract x i=>
  split at h
  .exact gl h
  .cases h
 case call c=>
  obtain⟨callee,as,mr⟩:=c;cases callee with
  |value f=>simp at hc
  |invoke r m=>simp at hc
  |builtin b=>
   have hb:b=.len\/b=.cap\/b=.min\/b=.max:=by cases b<;>simp_all
   simp only[]at h;unfold bg at h;rcases hb with rfl|rfl|rfl|rfl<;>clear hc<;>split at h<;>(try contradiction)<;>(try (cases h;done))
   .split at h<;>first|(cases h)|(cases h;done)
   .split at h<;>first|(cases h)|(cases h;done)
   .exact gl h
   .exact gl h
theorem xY{cx:Cx}{F:Fr}{S:AS}{o:Oper}{K:AV->AS->Prop}(hc:fY cx o=.pure\/fY cx o=.read)(h:lQ cx (bj cx F S o) K):∃v S',bj cx F S o=.val v S':=by
 cases ha:bj cx F S o with
 |val v S'=>exact⟨v,S',rfl⟩
 |enter f l S'=>exact (aop_stays hc ha).elim
 |err n=>rw[ha]at h;exact h.elim
 |round f l S'=>rw[ha]at h;exact h.elim
 |dP v S'=>rw[ha]at h;exact h.elim
 |many l=>rw[ha]at h;exact h.elim
theorem eN{cx:Cx}{ops:List Oper}:∀{l:List Row}{F:Fr}{S:AS}{ps:List ey}{sn:List AS}{id:Nat}{Q Q':Fr->AS->List AS->Prop},dI cx ops l F S ps sn id Q->(∀F' S' sn',Q F' S' sn'->Q' F' S' sn')->dI cx ops l F S ps sn id Q'
 |[],_,_,_,_,_,_,_,h,k=>k _ _ _ h
 |r::l,F,S,ps,sn,id,Q,Q',h,k=>by
  cases hc:r.cls with
  |fresh=>
   rw[dI,hc]at h⊢;simp only[]at h⊢;cases hw:aQ ops F r.o.guard with
   |none=>rw[hw]at h;exact h
   |some b=>
    rw[hw]at h;refine⟨fun hb=>?_,fun hb=>eN (h.2 hb) k⟩;obtain⟨v,x,h1,h2⟩:=h.1 hb;exact⟨v,x,h1,eN h2 k⟩
  |yV=>
   rw[dI,hc]at h⊢;simp only[]at h⊢;exact nq h fun _ _ h'=>eN h' k
  |pure=>
   rw[dI,hc]at h⊢;simp only[]at h⊢;cases hw:aQ ops F r.o.guard with
   |none=>rw[hw]at h;exact h
   |some b=>
    rw[hw]at h;refine⟨fun hb=>?_,fun hb=>eN (h.2 hb) k⟩;obtain⟨v,x,h1,h2⟩:=h.1 hb;exact⟨v,x,h1,eN h2 k⟩
  |read=>
   rw[dI,hc]at h⊢;simp only[]at h⊢;cases hw:aQ ops F r.o.guard with
   |none=>rw[hw]at h;exact h
   |some b=>
    rw[hw]at h;refine⟨fun hb=>?_,fun hb=>eN (h.2 hb) k⟩;obtain⟨v,x,h1,h2⟩:=h.1 hb;exact⟨v,x,h1,eN h2 k⟩
theorem sH(n:Nat):∀l:List Nat,yJ n l=true↔n∈l
 |[]=>by show (false=true)↔_;simp
 |m::l=>by
  show cond (Nat.beq n m) true (yJ n l)=true↔_;rw[bF];have ih:=sH n l;by_cases h:n=m
  .simp[h]
  .simp[h,ih]
theorem j4{α:Type}(p:α->Bool):∀l:List α,ew p l=true↔∀x,x∈l->p x=true
 |[]=>by show (true=true)↔_;simp
 |x::l=>by
  show cond (p x) (ew p l) false=true↔_;have ih:=j4 p l;cases h:p x<;>simp[h,ih]
theorem qw{F:Fr}{d:Option Nat}{t:Nat}{v:AV}(h:d≠some t):(up F d v).t.get t=F.t.get t:=by
 cases d with
 |none=>rfl
 |some d=>exact ae _ _ (fun e=>h (by rw[e]))
theorem uW{F:Fr}{d:Nat}{v:AV}:(up F (some d) v).t.get d=some v:=aa _ _ _
structure Still(cx:Cx)(ops:List Oper)(l:List Row)(F:Fr)(S:AS)(sn:List AS)(F':Fr)(S':AS)(sn':List AS):Prop where
 mem:S'=S
 sns:∀T,T∈sn'->T=S\/T∈sn
 n:F'.n=F.n
 cg:∀t,(∀r,r∈l->r.o.dst≠some t)->F'.t.get t=F.t.get t
 read:∀q,q∈l->eO q.cls=true->∃d v,q.o.dst=some d/\F'.t.get d=some v/\qR v=true/\fG cx ops F' S q.o=some v
theorem we{cx:Cx}{ops:List Oper}:∀{l:List Row}{F:Fr}{S:AS}{sn:List AS}{id:Nat}{Q:Fr->Prop},tE ops l=true->(∀r,r∈l->(r.cls=.pure\/r.cls=.read)->fY cx r.o=r.cls) ->
  nk cx ops (l.map (·.o)) F S Q->dI cx ops l F S [] sn id fun F' S' sn'=>Still cx ops l F S sn F' S' sn'/\Q F'
 | [],F,S,sn,id,Q,_,_,h=>⟨⟨rfl,fun T hT=>by
   rcases List.mem_cons.1 hT with e|e
   .exact .inl e
   .exact .inr e,rfl,fun _ _=>rfl,fun q hq=>by cases hq⟩,h⟩
 |r::l,F,S,sn,id,Q,hb,hc,h=>by
  simp only[tE,Bool.and_eq_true]at hb;obtain⟨⟨hf,hr⟩,hl⟩:=hb;have h':eQ cx ops r.o F S fun v S'=>S'=S/\qR v=true/\nk cx ops (l.map (·.o)) (up F r.o.dst v) S Q:=h;have qY:∀r',r'∈l->(r'.cls=.pure\/r'.cls=.read)->fY cx r'.o=r'.cls:=fun r' eS=>hc r' (List.mem_cons_of_mem _ eS);have rest:∀(v:AV)(sn1:List AS),(∀T,T∈sn1->T=S\/T∈sn)->qR v=true->nk cx ops (l.map (·.o)) (up F r.o.dst v) S Q->(eO r.cls=true->fG cx ops F S r.o=some v) ->
    dI cx ops l (up F r.o.dst v) S [] sn1 id fun F' S' sn'=>Still cx ops (r::l) F S sn F' S' sn'/\Q F':=by
   intro v sn1 hs hv hk ho;refine eN (we (sn:=sn1) hl qY hk) ?_;rintro F' S' sn' ⟨⟨k1,k2,k3,k4,k5⟩,hq⟩;refine⟨⟨k1,fun T hT=>?_,k3.trans (lS _ _ _),fun t ht=>?_,fun q hq qX=>?_⟩,hq⟩
   .rcases k2 T hT with e|e
    .exact .inl e
    .exact hs T e
   .rw[k4 t fun r' eS=>ht r' (List.mem_cons_of_mem _ eS),qw (ht r (List.mem_cons_self ..))]
   .rcases List.mem_cons.1 hq with rfl|hq
    .rw[qX]at hr;simp only[cond_true]at hr;cases hd:q.o.dst with
     |none=>rw[hd]at hr;cases hr
     |some d=>
      rw[hd]at hr;simp only[Bool.and_eq_true,Bool.not_eq_true']at hr;obtain⟨h1,h2⟩:=hr;rw[j4]at h2;have vj:∀t,t∈gF ops q.o->yJ t (gF ops q.o)=true:=fun t ht=>(sH _ _).2 ht;have pC:∀t,(t=d\/t∈gF ops q.o)->∀r',r'∈l->r'.o.dst≠some t:=by
       intro t ht r' eS e;have:=h2 r' eS;rw[e]at this;simp only[bF,Bool.and_eq_true,Bool.not_eq_true',decide_eq_false_iff_not]at this;rcases ht with rfl|ht
       .exact this.1 rfl
       .rw[vj t ht]at this;cases this.2
      refine⟨d,v,rfl,?_,hv,?_⟩
      .rw[k4 d (pC d (.inl rfl)),hd,uW]
      .rw[<-ho qX];refine iv fun t ht=>?_;rw[k4 t (pC t (.inr ht)),qw];rw[hd];intro e;cases e;rw[vj _ ht]at h1;cases h1
    .exact k5 q hq qX
  cases pF:r.cls with
  |fresh=>rw[pF]at hf;cases hf
  |yV=>
   rw[dI,pF];simp only[];refine nq (show eQ cx ops r.o F S _ from h') ?_;rintro v S' ⟨rfl,hv,hk⟩;exact rest v _ (fun T hT=>by
    rcases List.mem_cons.1 hT with e|e
    .exact .inl e
    .exact .inr e) hv hk (fun e=>by rw[pF]at e;cases e)
  |pure=>
   rw[dI,pF];simp only[];unfold eQ at h';cases hw:aQ ops F r.o.guard with
   |none=>rw[hw]at h';exact h'
   |some b=>
    rw[hw]at h';refine⟨fun hb=>?_,fun hb=>?_⟩
    .have h1:=h'.1 hb;obtain⟨v,S',ha⟩:∃v S',bj cx F S r.o=.val v S':=xY (.inl (hc r (List.mem_cons_self ..) (.inl pF) |>.trans pF)) h1;rw[ha]at h1;exact⟨v,S',ha,rest v sn (fun T hT=>.inr hT) h1.2.1 h1.2.2 (fun e=>by rw[pF]at e;cases e)⟩
    .have h1:=h'.2 hb;exact rest _ sn (fun T hT=>.inr hT) h1.2.1 h1.2.2 (fun e=>by rw[pF]at e;cases e)
  |read=>
   rw[dI,pF];simp only[];unfold eQ at h';cases hw:aQ ops F r.o.guard with
   |none=>rw[hw]at h';exact h'
   |some b=>
    rw[hw]at h';refine⟨fun hb=>?_,fun hb=>?_⟩
    .have h1:=h'.1 hb;obtain⟨v,S',ha⟩:∃v S',bj cx F S r.o=.val v S':=xY (.inr (hc r (List.mem_cons_self ..) (.inr pF) |>.trans pF)) h1;rw[ha]at h1;refine⟨v,S',ha,rest v sn (fun T hT=>.inr hT) h1.2.1 h1.2.2 fun _=>?_⟩;rw[nI,hw,hb];simp only[ha]
    .have h1:=h'.2 hb;refine rest _ sn (fun T hT=>.inr hT) h1.2.1 h1.2.2 fun _=>?_;rw[nI,hw,hb]
theorem mH{cx:Cx}{ops:List Oper}{F:Fr}{S:AS}{Q:Fr->AS->Prop}{n:Nat}(hk:stillOk cx n ops=true)(hn:F.n=n)(h:nk cx ops ops F S fun F'=>Q F' S):ko cx ops F S Q:=by
 unfold stillOk at hk;simp only[Bool.and_eq_true]at hk;obtain⟨⟨h1,h2⟩,h3⟩:=hk;subst hn;have hp:=tL cx ops.toArray;simp only[List.toList_toArray]at hp;obtain⟨pl,pc⟩:=hp;have hmap:(settle (dx cx ops)).map (·.o)=ops:=by
  apply List.ext_getElem?;intro i;rw[List.getElem?_map];cases hi:(settle (dx cx ops))[i]? with
  |none=>
   have hlen:=pl.len;simp only[List.size_toArray]at hlen;rw[List.getElem?_eq_none_iff]at hi;simp only[Option.map_none];exact (List.getElem?_eq_none_iff.2 (by omega)).symm
  |some r=>
   have:=(pl.row i r hi).2;simp only[List.getElem?_toArray]at this;simp[this]
 have hnf:∀l:List Row,tE ops l=true->pI l=0:=by
  intro l
  induction l with
  |nil=>intro _;rfl
  |cons r l ih=>
   intro hb;simp only[tE,Bool.and_eq_true]at hb;show cond (bQ r.cls) (Nat.succ (pI l)) (pI l)=0;have hf:bQ r.cls=false:=by simpa using hb.1.1
   rw[hf,ih hb.2];rfl
 refine⟨?_⟩;unfold sX D6;rw[h1];simp only[cond_true];rw[hnf _ h2];refine eN (we (S:=S) (sn:=[]) h2 (fun r hr hc=>?_) (by rw[hmap];exact h)) ?_
 .obtain⟨i,hi⟩:=List.getElem?_of_mem hr;exact pc i r hi hc
 .rintro F' S' sn ⟨hs,hq⟩;obtain⟨rfl,k2,k3,_,k5⟩:=hs;refine⟨fun q hqm qX=>?_,hq⟩;obtain⟨d,v,e1,e2,e3,e4⟩:=k5 q hqm qX;have hd:d<F'.n:=by
   rw[k3];have:=List.all_eq_true.1 h3 q hqm;unfold yX at this;rw[e1]at this;simpa[gH]using this
  unfold kX;have jW:∀T,T∈takeN (Nat.succ (Nat.sub (fp (fun e=>!bit e.dL q.i) (jE (fun e=>bK e.cls) (settle (dx cx ops)))) (fp (fun e=>bit q.dL e.i) (jE (fun e=>bK e.cls) (settle (dx cx ops)))))) (mb (fp (fun e=>bit q.dL e.i) (jE (fun e=>bK e.cls) (settle (dx cx ops)))) (wz sn))->T=S':=by
   intro T hT;rw[ct,ca]at hT;have:=List.mem_of_mem_drop (List.mem_of_mem_take hT);rw[vy,List.mem_reverse]at this;rcases k2 T this with e|e
   .exact e
   .cases e
  simp only[];split
  .rfl
  .simp only[e1,gH,hd,decide_true,cond_true,e2];rw[j4];intro T hT;rw[jW T hT,e4];exact wL v e3
end Go.Am
