/-
  The abstract machine: a region that draws its order and leaves the memory as it is.
-/
import Derived.Test.YthklfandhmkpiaaGreatDoorAmRules
import Derived.Test.YthklfandhmkpiaaGreatDoorAmCongr
import Derived.Test.YthklfandhmkpiaaGreatDoorAmDraws
open Nat renaming beq->zza
open Bool renaming and_eq_true->zzb
open List renaming mem_cons_self->zzc
set_option linter.unusedSimpArgs false
namespace Go.Am
open Go
def oK:AV->Bool
 | .bool _=>true | .int ..=>true | .str _=>true | .cT=>true | .ptr ..=>true | .ar=>true | .slice ..=>true | .jb=>true | .map _=>true | .kI=>true | .bS=>true
 |_=>false
def fQ:List AV->Bool
 |[]=>true
 |x::l=>oK x&&fQ l
def qW:AV->Bool
 | .agg l=>fQ l
 | .tuple l=>fQ l
 | .iface _ v=>oK v
 |v=>oK v
theorem DS:∀s:List Nat,ph s s=true
 |[]=>rfl
 |x::l=>by
  show cond (zza x x) (ph l l) false=true;rw[bC,DS l];simp
theorem oX(k:IntKind):iO k k=true:=by rw[cL];simp
theorem eqI_self(n:Int):pP n n=true:=by rw[cQ];simp
theorem sQ(n:Nat)(v:AV)(h:oK v=true):eO (n+1) v v=true:=by
 cases v<;>simp only[oK,Bool.false_eq_true]at h<;>try rfl
 .rename_i b;cases b<;>rfl
 .rename_i k m;show (iO k k&&pP m m)=true;rw[oX,eqI_self];rfl
 .rename_i s;exact DS s
 .rename_i a b c d;show (zza a a&&zza b b&&zza c c&&zza d d)=true;simp[bC]
 .rename_i a b c d e f g;cases g with
  |none=>
   show (zza a a&&zza b b&&zza c c&&zza d d&&zza e e&&zza f f)=true;simp[bC]
  |some g=>
   show (zza a a&&zza b b&&zza c c&&zza d d&&zza e e&&zza f f&&zza g g)=true;simp[bC]
 .rename_i a;show zza a a=true;simp[bC]
theorem kx(n:Nat):∀l:List AV,fQ l=true->Al (n+1) l l=true
 |[],_=>rfl
 |x::l,h=>by
  simp only[fQ,zzb]at h;show cond (eO (n+1) x x) (Al (n+1) l l) false=true;rw[sQ n x h.1,kx n l h.2];rfl
theorem u9(v:AV)(h:qW v=true):eO 8 v v=true:=by
 have b:oK v=true->eO 8 v v=true:=sQ 7 v;cases v<;>simp only[qW]at h<;>(try exact b h)
 .rename_i t v;show (zza t t&&eO 7 v v)=true;rw[sQ 6 v h];simp[bC]
 .exact kx 6 _ h
 .exact kx 6 _ h
theorem okV_undef:qW .undef=true:=rfl
noncomputable def rP(ops:List Oper):List Row->Bool
 |[]=>true
 |r::l=>!bU r.cls&&cond (eC r.cls) (match r.o.dst with
  |some d=>!wX d (gh ops r.o)&&gS (fun w=>match w.o.dst with|some e=>!Nat.beq e d && !wX e (gh ops r.o)|none=>true) l
  |none=>false) true&&rP ops l
noncomputable def stillOk(cx:Cx)(n:Nat)(ops:List Oper):Bool:=
 gp ops (settle (dw cx ops))&&rP ops (settle (dw cx ops))&&nq n (settle (dw cx ops))
def mJ(cx:Cx)(ops:List Oper):List Oper->Fr->AS->(Fr->Prop)->Prop
 |[],F,_,Q=>Q F
 |o::l,F,S,Q=>eX cx ops o F S fun v S'=>S'=S/\qW v=true/\mJ cx ops l (up F o.dst v) S Q
def skont(cx:Cx)(ops l:List Oper)(F:Fr)(d:Option Nat)(S:AS)(Q:Fr->Prop)(v:AV)(S':AS):Prop:=S'=S/\qW v=true/\mJ cx ops l (up F d v) S Q
theorem Fj{cx:Cx}{ops:List Oper}{F:Fr}{S:AS}{Q:Fr->Prop}:mJ cx ops [] F S Q=Q F:=rfl
theorem Cg{cx:Cx}{ops:List Oper}{o:Oper}{l:List Oper}{F:Fr}{S:AS}{Q:Fr->Prop}:mJ cx ops (o::l) F S Q=eX cx ops o F S (skont cx ops l F o.dst S Q):=rfl
theorem skont_app{cx:Cx}{ops l:List Oper}{F:Fr}{d:Option Nat}{S:AS}{Q:Fr->Prop}{v:AV}:skont cx ops l F d S Q v S=(qW v=true/\mJ cx ops l (up F d v) S Q):=by
 unfold skont;simp
theorem fW{r:Option AV}{S S':AS}{n:Nat}{f:FuncId}{l:List AV}(h:val? r S n=.enter f l S'):False:=by
 cases r<;>cases h
theorem aop_stays{cx:Cx}{F:Fr}{S S':AS}{o:Oper}{f:FuncId}{l:List AV}(hc:fN cx o=.pure\/fN cx o=.read)(h:bE cx F S o=.enter f l S'):False:=by
 obtain⟨dst,op,ty,pos,after,guard⟩:=o;cases op<;>simp only[fN,reduceCtorEq,or_self]at hc<;>simp only[bE]at h
 case move x=>cases h
 case assign x=>cases h
 case pick c a b=>split at h<;>cases h
 case build t parts=>exact fW h
 case load t x=>
  split at h
  .repeat (split at h<;>try (cases h;done))
  .split at h
   .exact fW h
   .cases h
  .cases h
 case typeAssert x a b ok=>exact fW h
 case nilCheck x=>split at h<;>cases h
 case binOp op t x y yt=>exact fW h
 case unOp op t x=>exact fW h
 case convert s d x=>
  simp only[Bool.cond_eq_ite]at h
  repeat' split at h
  all_goals first|(cases h;done)|exact fW h
 case makeInterface t x=>split at h<;>cases h
 case makeFunc fn a b=>cases h
 case slice t x lo hi mx=>exact fW h
 case fieldAddr t x f=>repeat (split at h<;>try (cases h;done))
 case field t x f=>
  split at h
  .split at h
   .exact fW h
   .cases h
  .cases h
 case indexAddr t x i=>
  split at h
  .split at h
   .cases hc:(zza _ _&&Nat.blt _ _)with
    |false=>rw[hc]at h;cases h
    |true=>rw[hc]at h;cases h
   .cases h
  .split at h
   .cases hc:Nat.blt _ _ with
    |false=>rw[hc]at h;cases h
    |true=>rw[hc]at h;cases h
   .cases h
  .split at h
   .cases hc:Nat.blt _ _ with
    |false=>rw[hc]at h;cases h
    |true=>rw[hc]at h;cases h
   .cases h
  .cases h
 case index t x i=>
  split at h
  .split at h<;>cases h
  .split at h
   .cases hc:Nat.blt _ _ with
    |false=>rw[hc]at h;cases h
    |true=>rw[hc]at h;exact fW h
   .cases h
  .cases h
 case lookup t x i ok=>exact fW h
 case extract x i=>
  split at h
  .exact fW h
  .cases h
 case call c=>
  obtain⟨callee,as,lG⟩:=c;cases callee with
  |value f=>simp at hc
  |invoke r m=>simp at hc
  |builtin b=>
   have hb:b=.len\/b=.cap\/b=.min\/b=.max:=by cases b<;>simp_all
   simp only[]at h;unfold aY at h;rcases hb with rfl|rfl|rfl|rfl<;>clear hc<;>split at h<;>(try contradiction)<;>(try (cases h;done))
   .split at h<;>first|(cases h)|(cases h;done)
   .split at h<;>first|(cases h)|(cases h;done)
   .exact fW h
   .exact fW h
theorem wy{cx:Cx}{F:Fr}{S:AS}{o:Oper}{K:AV->AS->Prop}(hc:fN cx o=.pure\/fN cx o=.read)(h:qI cx (bE cx F S o) K):∃v S',bE cx F S o=.val v S':=by
 cases ha:bE cx F S o with
 |val v S'=>exact⟨v,S',rfl⟩
 |enter f l S'=>exact (aop_stays hc ha).elim
 |err n=>rw[ha]at h;exact h.elim
 |round f l S'=>rw[ha]at h;exact h.elim
 |eQ v S'=>rw[ha]at h;exact h.elim
 |many l=>rw[ha]at h;exact h.elim
theorem eP{cx:Cx}{ops:List Oper}:∀{l:List Row}{F:Fr}{S:AS}{ps:List dD}{sn:List AS}{id:Nat}{Q Q':Fr->AS->List AS->Prop},dU cx ops l F S ps sn id Q->(∀F' S' Ft,Q F' S' Ft->Q' F' S' Ft)->dU cx ops l F S ps sn id Q'
 |[],_,_,_,_,_,_,_,h,k=>k _ _ _ h
 |r::l,F,S,ps,sn,id,Q,Q',h,k=>by
  cases hc:r.cls with
  |fresh=>
   rw[dU,hc]at h⊢;simp only[]at h⊢;cases hw:bQ ops F r.o.guard with
   |none=>rw[hw]at h;exact h
   |some b=>
    rw[hw]at h;refine⟨fun hb=>?_,fun hb=>eP (h.2 hb) k⟩;obtain⟨v,x,h1,h2⟩:=h.1 hb;exact⟨v,x,h1,eP h2 k⟩
  |vU=>
   rw[dU,hc]at h⊢;simp only[]at h⊢;exact mK h fun _ _ h'=>eP h' k
  |pure=>
   rw[dU,hc]at h⊢;simp only[]at h⊢;cases hw:bQ ops F r.o.guard with
   |none=>rw[hw]at h;exact h
   |some b=>
    rw[hw]at h;refine⟨fun hb=>?_,fun hb=>eP (h.2 hb) k⟩;obtain⟨v,x,h1,h2⟩:=h.1 hb;exact⟨v,x,h1,eP h2 k⟩
  |read=>
   rw[dU,hc]at h⊢;simp only[]at h⊢;cases hw:bQ ops F r.o.guard with
   |none=>rw[hw]at h;exact h
   |some b=>
    rw[hw]at h;refine⟨fun hb=>?_,fun hb=>eP (h.2 hb) k⟩;obtain⟨v,x,h1,h2⟩:=h.1 hb;exact⟨v,x,h1,eP h2 k⟩
theorem qX(n:Nat):∀l:List Nat,wX n l=true↔n∈l
 |[]=>by show (false=true)↔_;simp
 |m::l=>by
  show cond (zza n m) true (wX n l)=true↔_;rw[bC];have ih:=qX n l;by_cases h:n=m
  .simp[h]
  .simp[h,ih]
theorem mD{α:Type}(p:α->Bool):∀l:List α,gS p l=true↔∀x,x∈l->p x=true
 |[]=>by show (true=true)↔_;simp
 |x::l=>by
  show cond (p x) (gS p l) false=true↔_;have ih:=mD p l;cases h:p x<;>simp[h,ih]
theorem pe{F:Fr}{d:Option Nat}{t:Nat}{v:AV}(h:d≠some t):(up F d v).t.get t=F.t.get t:=by
 cases d with
 |none=>rfl
 |some d=>exact ah _ _ (fun e=>h (by rw[e]))
theorem tp{F:Fr}{d:Nat}{v:AV}:(up F (some d) v).t.get d=some v:=get_set_same _ _ _
structure Still(cx:Cx)(ops:List Oper)(l:List Row)(F:Fr)(S:AS)(sn:List AS)(F':Fr)(S':AS)(Ft:List AS):Prop where
 mem:S'=S
 sns:∀T,T∈Ft->T=S\/T∈sn
 n:F'.n=F.n
 fM:∀t,(∀r,r∈l->r.o.dst≠some t)->F'.t.get t=F.t.get t
 read:∀q,q∈l->eC q.cls=true->∃d v,q.o.dst=some d/\F'.t.get d=some v/\qW v=true/\fa cx ops F' S q.o=some v
theorem uF{cx:Cx}{ops:List Oper}:∀{l:List Row}{F:Fr}{S:AS}{sn:List AS}{id:Nat}{Q:Fr->Prop},rP ops l=true->(∀r,r∈l->(r.cls=.pure\/r.cls=.read)->fN cx r.o=r.cls) ->
  mJ cx ops (l.map (·.o)) F S Q->dU cx ops l F S [] sn id fun F' S' Ft=>Still cx ops l F S sn F' S' Ft/\Q F'
 | [],F,S,sn,id,Q,_,_,h=>⟨⟨rfl,fun T hT=>by
   rcases List.mem_cons.1 hT with e|e
   .exact .inl e
   .exact .inr e,rfl,fun _ _=>rfl,fun q hq=>by cases hq⟩,h⟩
 |r::l,F,S,sn,id,Q,hb,hc,h=>by
  simp only[rP,zzb]at hb;obtain⟨⟨hf,hr⟩,hl⟩:=hb;have h':eX cx ops r.o F S fun v S'=>S'=S/\qW v=true/\mJ cx ops (l.map (·.o)) (up F r.o.dst v) S Q:=h;have sB:∀r',r'∈l->(r'.cls=.pure\/r'.cls=.read)->fN cx r'.o=r'.cls:=fun r' ij=>hc r' (List.mem_cons_of_mem _ ij);have rest:∀(v:AV)(sn1:List AS),(∀T,T∈sn1->T=S\/T∈sn)->qW v=true->mJ cx ops (l.map (·.o)) (up F r.o.dst v) S Q->(eC r.cls=true->fa cx ops F S r.o=some v) ->
    dU cx ops l (up F r.o.dst v) S [] sn1 id fun F' S' Ft=>Still cx ops (r::l) F S sn F' S' Ft/\Q F':=by
   intro v sn1 hs hv hk ho;refine eP (uF (sn:=sn1) hl sB hk) ?_;rintro F' S' Ft ⟨⟨k1,k2,k3,k4,k5⟩,hq⟩;refine⟨⟨k1,fun T hT=>?_,k3.trans (vh _ _ _),fun t ht=>?_,fun q hq qt=>?_⟩,hq⟩
   .rcases k2 T hT with e|e
    .exact .inl e
    .exact hs T e
   .rw[k4 t fun r' ij=>ht r' (List.mem_cons_of_mem _ ij),pe (ht r (zzc ..))]
   .rcases List.mem_cons.1 hq with rfl|hq
    .rw[qt]at hr;simp only[cond_true]at hr;cases hd:q.o.dst with
     |none=>rw[hd]at hr;cases hr
     |some d=>
      rw[hd]at hr;simp only[zzb,Bool.not_eq_true']at hr;obtain⟨h1,h2⟩:=hr;rw[mD]at h2;have hmem:∀t,t∈gh ops q.o->wX t (gh ops q.o)=true:=fun t ht=>(qX _ _).2 ht;have tm:∀t,(t=d\/t∈gh ops q.o)->∀r',r'∈l->r'.o.dst≠some t:=by
       intro t ht r' ij e;have:=h2 r' ij;rw[e]at this;simp only[bC,zzb,Bool.not_eq_true',decide_eq_false_iff_not]at this;rcases ht with rfl|ht
       .exact this.1 rfl
       .rw[hmem t ht]at this;cases this.2
      refine⟨d,v,rfl,?_,hv,?_⟩
      .rw[k4 d (tm d (.inl rfl)),hd,tp]
      .rw[<-ho qt];refine gI fun t ht=>?_;rw[k4 t (tm t (.inr ht)),pe];rw[hd];intro e;cases e;rw[hmem _ ht]at h1;cases h1
    .exact k5 q hq qt
  cases oA:r.cls with
  |fresh=>rw[oA]at hf;cases hf
  |vU=>
   rw[dU,oA];simp only[];refine mK (show eX cx ops r.o F S _ from h') ?_;rintro v S' ⟨rfl,hv,hk⟩;exact rest v _ (fun T hT=>by
    rcases List.mem_cons.1 hT with e|e
    .exact .inl e
    .exact .inr e) hv hk (fun e=>by rw[oA]at e;cases e)
  |pure=>
   rw[dU,oA];simp only[];unfold eX at h';cases hw:bQ ops F r.o.guard with
   |none=>rw[hw]at h';exact h'
   |some b=>
    rw[hw]at h';refine⟨fun hb=>?_,fun hb=>?_⟩
    .have h1:=h'.1 hb;obtain⟨v,S',ha⟩:∃v S',bE cx F S r.o=.val v S':=wy (.inl (hc r (zzc ..) (.inl oA) |>.trans oA)) h1;rw[ha]at h1;exact⟨v,S',ha,rest v sn (fun T hT=>.inr hT) h1.2.1 h1.2.2 (fun e=>by rw[oA]at e;cases e)⟩
    .have h1:=h'.2 hb;exact rest _ sn (fun T hT=>.inr hT) h1.2.1 h1.2.2 (fun e=>by rw[oA]at e;cases e)
  |read=>
   rw[dU,oA];simp only[];unfold eX at h';cases hw:bQ ops F r.o.guard with
   |none=>rw[hw]at h';exact h'
   |some b=>
    rw[hw]at h';refine⟨fun hb=>?_,fun hb=>?_⟩
    .have h1:=h'.1 hb;obtain⟨v,S',ha⟩:∃v S',bE cx F S r.o=.val v S':=wy (.inr (hc r (zzc ..) (.inr oA) |>.trans oA)) h1;rw[ha]at h1;refine⟨v,S',ha,rest v sn (fun T hT=>.inr hT) h1.2.1 h1.2.2 fun _=>?_⟩;rw[mU,hw,hb];simp only[ha]
    .have h1:=h'.2 hb;refine rest _ sn (fun T hT=>.inr hT) h1.2.1 h1.2.2 fun _=>?_;rw[mU,hw,hb]
theorem iZ{cx:Cx}{ops:List Oper}{F:Fr}{S:AS}{Q:Fr->AS->Prop}{n:Nat}(hk:stillOk cx n ops=true)(hn:F.n=n)(h:mJ cx ops ops F S fun F'=>Q F' S):lD cx ops F S Q:=by
 unfold stillOk at hk;simp only[zzb]at hk;obtain⟨⟨h1,h2⟩,h3⟩:=hk;subst hn;have hp:=rV cx ops.toArray;simp only[List.toList_toArray]at hp;obtain⟨pl,pc⟩:=hp;have hmap:(settle (dw cx ops)).map (·.o)=ops:=by
  apply List.ext_getElem?;intro i;rw[List.getElem?_map];cases hi:(settle (dw cx ops))[i]? with
  |none=>
   have hlen:=pl.len;simp only[List.size_toArray]at hlen;rw[List.getElem?_eq_none_iff]at hi;simp only[Option.map_none];exact (List.getElem?_eq_none_iff.2 (by omega)).symm
  |some r=>
   have:=(pl.row i r hi).2;simp only[List.getElem?_toArray]at this;simp[this]
 have hnf:∀l:List Row,rP ops l=true->oC l=0:=by
  intro l
  induction l with
  |nil=>intro _;rfl
  |cons r l ih=>
   intro hb;simp only[rP,zzb]at hb;show cond (bU r.cls) (Nat.succ (oC l)) (oC l)=0;have hf:bU r.cls=false:=by simpa using hb.1.1
   rw[hf,ih hb.2];rfl
 refine⟨?_⟩;unfold ru CM;rw[h1];simp only[cond_true];rw[hnf _ h2];refine eP (uF (S:=S) (sn:=[]) h2 (fun r hr hc=>?_) (by rw[hmap];exact h)) ?_
 .obtain⟨i,hi⟩:=List.getElem?_of_mem hr;exact pc i r hi hc
 .rintro F' S' sn ⟨hs,hq⟩;obtain⟨rfl,k2,k3,_,k5⟩:=hs;refine⟨fun q hqm qt=>?_,hq⟩;obtain⟨d,v,e1,e2,e3,e4⟩:=k5 q hqm qt;have hd:d<F'.n:=by
   rw[k3];have:=List.all_eq_true.1 h3 q hqm;unfold DZ at this;rw[e1]at this;simpa[gJ]using this
  unfold hX;have kL:∀T,T∈takeN (Nat.succ (Nat.sub (eD (fun e=>!bit e.dy q.i) (gr (fun e=>bR e.cls) (settle (dw cx ops)))) (eD (fun e=>bit q.dy e.i) (gr (fun e=>bR e.cls) (settle (dw cx ops)))))) (kZ (eD (fun e=>bit q.dy e.i) (gr (fun e=>bR e.cls) (settle (dw cx ops)))) (rT sn))->T=S':=by
   intro T hT;rw[cK,cY]at hT;have:=List.mem_of_mem_drop (List.mem_of_mem_take hT);rw[ua,List.mem_reverse]at this;rcases k2 T this with e|e
   .exact e
   .cases e
  simp only[];split
  .rfl
  .simp only[e1,gJ,hd,decide_true,cond_true,e2];rw[mD];intro T hT;rw[kL T hT,e4];exact u9 v e3
end Go.Am
