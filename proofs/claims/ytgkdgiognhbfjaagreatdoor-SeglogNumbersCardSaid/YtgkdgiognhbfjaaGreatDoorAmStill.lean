/-
  The abstract machine: a region that draws its order and leaves the memory as it is.
-/
import Derived.Test.YtgkdgiognhbfjaaGreatDoorAmRules
import Derived.Test.YtgkdgiognhbfjaaGreatDoorAmPlan
import Derived.Test.YtgkdgiognhbfjaaGreatDoorAmCongr
import Derived.Test.YtgkdgiognhbfjaaGreatDoorAmDraws
namespace Go.Am
set_option linter.unusedSimpArgs false
open Go
def pL:AV→Bool
 | .bool _=>true | .int ..=>true | .str _=>true | .dr=>true | .ptr ..=>true | .az=>true | .slice ..=>true | .gV=>true | .map _=>true | .ko=>true | .bN=>true
 | _=>false
def kh:List AV→Bool
 | []=>true
 | x :: l=>pL x&&kh l
def rb:AV→Bool
 | .agg l=>kh l
 | .tuple l=>kh l
 | .iface _ v=>pL v
 | v=>pL v
theorem rE:∀ s:List Nat,rW s s=true
 | []=>rfl
 | x :: l=>by
  show cond (Nat.beq x x) (rW l l) false=true;rw[aT,rE l];simp
theorem fT (k:IntKind):fI k k=true:=by rw[cn];simp
theorem eqI_self (n:Int):eqI n n=true:=by rw[iM];simp
theorem tt (n:Nat) (v:AV) (h:pL v=true):cq (n+1) v v=true:=by
 cases v<;>simp only[pL,Bool.false_eq_true] at h<;>try rfl
 ·rename_i b;cases b<;>rfl
 ·rename_i k m;show (fI k k&&eqI m m)=true;rw[fT,eqI_self];rfl
 ·rename_i s;exact rE s
 ·rename_i a b c d;show (Nat.beq a a&&Nat.beq b b&&Nat.beq c c&&Nat.beq d d)=true;simp[aT]
 ·rename_i a b c d e f g;cases g with
  | none=>
   show (Nat.beq a a&&Nat.beq b b&&Nat.beq c c&&Nat.beq d d&&Nat.beq e e&&Nat.beq f f)=true;simp[aT]
  | some g=>
   show (Nat.beq a a&&Nat.beq b b&&Nat.beq c c&&Nat.beq d d&&Nat.beq e e&&Nat.beq f f&&Nat.beq g g)=true;simp[aT]
 ·rename_i a;show Nat.beq a a=true;simp[aT]
theorem kg (n:Nat):∀ l:List AV,kh l=true→pS (n+1) l l=true
 | [],_=>rfl
 | x :: l,h=>by
  simp only[kh,Bool.and_eq_true] at h;show cond (cq (n+1) x x) (pS (n+1) l l) false=true;rw[tt n x h.1,kg n l h.2];rfl
theorem vJ (v:AV) (h:rb v=true):cq 8 v v=true:=by
 have b:pL v=true→cq 8 v v=true:=tt 7 v;cases v<;>simp only[rb] at h<;>(try exact b h)
 ·rename_i t v;show (Nat.beq t t&&cq 7 v v)=true;rw[tt 6 v h];simp[aT]
 ·exact kg 6 _ h
 ·exact kg 6 _ h
theorem okV_undef:rb .undef=true:=rfl
noncomputable def sc (ops:List Oper):List Row→Bool
 | []=>true
 | r :: l=>!bz r.cls&&cond (dC r.cls) (match r.o.dst with
  | some d=>!mK d (fU ops r.o)&&eA (fun w=>match w.o.dst with|some e=>!Nat.beq e d && !mK e (fU ops r.o)|none=>true) l
  | none=>false) true&&sc ops l
noncomputable def stillOk (cx:Cx) (n:Nat) (ops:List Oper):Bool:=
 fV ops (settle (cM cx ops))&&sc ops (settle (cM cx ops))&&mU n (settle (cM cx ops))
def ml (cx:Cx) (ops:List Oper):List Oper→Fr→AS→(Fr→Prop)→Prop
 | [],F,_,Q=>Q F
 | o :: l,F,S,Q=>dU cx ops o F S fun v S'=>S'=S∧rb v=true∧ml cx ops l (up F o.dst v) S Q
def skont (cx:Cx) (ops l:List Oper) (F:Fr) (d:Option Nat) (S:AS) (Q:Fr→Prop) (v:AV) (S':AS):Prop:=S'=S∧rb v=true∧ml cx ops l (up F d v) S Q
theorem stillP_nil {cx:Cx} {ops:List Oper} {F:Fr} {S:AS} {Q:Fr→Prop}:ml cx ops [] F S Q=Q F:=rfl
theorem BZ {cx:Cx} {ops:List Oper} {o:Oper} {l:List Oper} {F:Fr} {S:AS} {Q:Fr→Prop}:ml cx ops (o :: l) F S Q=dU cx ops o F S (skont cx ops l F o.dst S Q):=rfl
theorem skont_app {cx:Cx} {ops l:List Oper} {F:Fr} {d:Option Nat} {S:AS} {Q:Fr→Prop} {v:AV}:skont cx ops l F d S Q v S=(rb v=true∧ml cx ops l (up F d v) S Q):=by
 unfold skont;simp
theorem fQ {r:Option AV} {S S':AS} {n:Nat} {f:FuncId} {l:List AV} (h:val? r S n=.enter f l S'):False:=by
 cases r<;>cases h
theorem aop_stays {cx:Cx} {F:Fr} {S S':AS} {o:Oper} {f:FuncId} {l:List AV} (hc:fN cx o=.pure∨fN cx o=.read) (h:bj cx F S o=.enter f l S'):False:=by
 obtain ⟨dst,op,ty,pos,after,guard⟩:=o;cases op<;>simp only[fN,reduceCtorEq,or_self] at hc<;>simp only[bj] at h
 case move x=>cases h
 case assign x=>cases h
 case pick c a b=>split at h<;>cases h
 case build t parts=>exact fQ h
 case load t x=>
  split at h
  ·repeat (split at h<;>try (cases h;done))
  ·split at h
   ·exact fQ h
   ·cases h
  ·cases h
 case typeAssert x a b ok=>exact fQ h
 case nilCheck x=>split at h<;>cases h
 case binOp op t x y yt=>exact fQ h
 case unOp op t x=>exact fQ h
 case convert s d x=>
  simp only[Bool.cond_eq_ite] at h
  repeat' split at h
  all_goals first|(cases h;done)|exact fQ h
 case makeInterface t x=>split at h<;>cases h
 case makeFunc fn a b=>cases h
 case slice t x lo hi mx=>exact fQ h
 case fieldAddr t x f=>repeat (split at h<;>try (cases h;done))
 case field t x f=>
  split at h
  ·split at h
   ·exact fQ h
   ·cases h
  ·cases h
 case indexAddr t x i=>
  split at h
  ·split at h
   ·cases hc:(Nat.beq _ _&&Nat.blt _ _) with
    | false=>rw[hc] at h;cases h
    | true=>rw[hc] at h;cases h
   ·cases h
  ·split at h
   ·cases hc:Nat.blt _ _ with
    | false=>rw[hc] at h;cases h
    | true=>rw[hc] at h;cases h
   ·cases h
  ·split at h
   ·cases hc:Nat.blt _ _ with
    | false=>rw[hc] at h;cases h
    | true=>rw[hc] at h;cases h
   ·cases h
  ·cases h
 case index t x i=>
  split at h
  ·split at h<;>cases h
  ·split at h
   ·cases hc:Nat.blt _ _ with
    | false=>rw[hc] at h;cases h
    | true=>rw[hc] at h;exact fQ h
   ·cases h
  ·cases h
 case lookup t x i ok=>exact fQ h
 case extract x i=>
  split at h
  ·exact fQ h
  ·cases h
 case call c=>
  obtain ⟨callee,as,kU⟩:=c;cases callee with
  | value f=>simp at hc
  | invoke r m=>simp at hc
  | builtin b=>
   have hb:b=.len∨b=.cap∨b=.min∨b=.max:=by cases b<;>simp_all
   simp only[] at h;unfold aV at h;rcases hb with rfl|rfl|rfl|rfl<;>clear hc<;>split at h<;>(try contradiction)<;>(try (cases h;done))
   ·split at h<;>first|(cases h)|(cases h;done)
   ·split at h<;>first|(cases h)|(cases h;done)
   ·exact fQ h
   ·exact fQ h
theorem xu {cx:Cx} {F:Fr} {S:AS} {o:Oper} {K:AV→AS→Prop} (hc:fN cx o=.pure∨fN cx o=.read) (h:qM cx (bj cx F S o) K):∃ v S',bj cx F S o=.val v S':=by
 cases ha:bj cx F S o with
 | val v S'=>exact ⟨v,S',rfl⟩
 | enter f l S'=>exact (aop_stays hc ha).elim
 | err n=>rw[ha] at h;exact h.elim
 | round f l S'=>rw[ha] at h;exact h.elim
 | dj v S'=>rw[ha] at h;exact h.elim
 | many l=>rw[ha] at h;exact h.elim
theorem dS {cx:Cx} {ops:List Oper}:∀ {l:List Row} {F:Fr} {S:AS} {ps:List cQ} {sn:List AS} {id:Nat} {Q Q':Fr→AS→List AS→Prop},da cx ops l F S ps sn id Q→(∀ F' S' sn',Q F' S' sn'→Q' F' S' sn')→da cx ops l F S ps sn id Q'
 | [],_,_,_,_,_,_,_,h,k=>k _ _ _ h
 | r :: l,F,S,ps,sn,id,Q,Q',h,k=>by
  cases hc:r.cls with
  | fresh=>
   rw[da,hc] at h ⊢;simp only[] at h ⊢;cases hw:bg ops F r.o.guard with
   | none=>rw[hw] at h;exact h
   | some b=>
    rw[hw] at h;refine ⟨fun hb=>?_,fun hb=>dS (h.2 hb) k⟩;obtain ⟨v,x,h1,h2⟩:=h.1 hb;exact ⟨v,x,h1,dS h2 k⟩
  | wT=>
   rw[da,hc] at h ⊢;simp only[] at h ⊢;exact mn h fun _ _ h'=>dS h' k
  | pure=>
   rw[da,hc] at h ⊢;simp only[] at h ⊢;cases hw:bg ops F r.o.guard with
   | none=>rw[hw] at h;exact h
   | some b=>
    rw[hw] at h;refine ⟨fun hb=>?_,fun hb=>dS (h.2 hb) k⟩;obtain ⟨v,x,h1,h2⟩:=h.1 hb;exact ⟨v,x,h1,dS h2 k⟩
  | read=>
   rw[da,hc] at h ⊢;simp only[] at h ⊢;cases hw:bg ops F r.o.guard with
   | none=>rw[hw] at h;exact h
   | some b=>
    rw[hw] at h;refine ⟨fun hb=>?_,fun hb=>dS (h.2 hb) k⟩;obtain ⟨v,x,h1,h2⟩:=h.1 hb;exact ⟨v,x,h1,dS h2 k⟩
theorem rh (n:Nat):∀ l:List Nat,mK n l=true↔n∈l
 | []=>by show (false=true)↔_;simp
 | m :: l=>by
  show cond (Nat.beq n m) true (mK n l)=true↔_;rw[aT];have ih:=rh n l;by_cases h:n=m
  ·simp[h]
  ·simp[h,ih]
theorem lZ {α:Type} (p:α→Bool):∀ l:List α,eA p l=true↔∀ x,x∈l→p x=true
 | []=>by show (true=true)↔_;simp
 | x :: l=>by
  show cond (p x) (eA p l) false=true↔_;have ih:=lZ p l;cases h:p x<;>simp[h,ih]
theorem oX {F:Fr} {d:Option Nat} {t:Nat} {v:AV} (h:d≠some t):(up F d v).t.get t=F.t.get t:=by
 cases d with
 | none=>rfl
 | some d=>exact ae _ _ (fun e=>h (by rw[e]))
theorem tP {F:Fr} {d:Nat} {v:AV}:(up F (some d) v).t.get d=some v:=aa _ _ _
structure Still (cx:Cx) (ops:List Oper) (l:List Row) (F:Fr) (S:AS) (sn:List AS) (F':Fr) (S':AS) (sn':List AS):Prop where
 mem:S'=S
 sns:∀ T,T∈sn'→T=S∨T∈sn
 n:F'.n=F.n
 b6:∀ t,(∀ r,r∈l→r.o.dst≠some t)→F'.t.get t=F.t.get t
 read:∀ q,q∈l→dC q.cls=true→∃ d v,q.o.dst=some d∧F'.t.get d=some v∧rb v=true∧dZ cx ops F' S q.o=some v
theorem vk {cx:Cx} {ops:List Oper}:∀ {l:List Row} {F:Fr} {S:AS} {sn:List AS} {id:Nat} {Q:Fr→Prop},sc ops l=true→(∀ r,r∈l→(r.cls=.pure∨r.cls=.read)→fN cx r.o=r.cls) →
  ml cx ops (l.map (·.o)) F S Q→da cx ops l F S [] sn id fun F' S' sn'=>Still cx ops l F S sn F' S' sn'∧Q F'
 | [],F,S,sn,id,Q,_,_,h=>⟨⟨rfl,fun T hT=>by
   rcases List.mem_cons.1 hT with e|e
   ·exact .inl e
   ·exact .inr e,rfl,fun _ _=>rfl,fun q hq=>by cases hq⟩,h⟩
 | r :: l,F,S,sn,id,Q,hb,hc,h=>by
  simp only[sc,Bool.and_eq_true] at hb;obtain ⟨⟨hf,hr⟩,hl⟩:=hb;have h':dU cx ops r.o F S fun v S'=>S'=S∧rb v=true∧ml cx ops (l.map (·.o)) (up F r.o.dst v) S Q:=h;have nA:∀ r',r'∈l→(r'.cls=.pure∨r'.cls=.read)→fN cx r'.o=r'.cls:=fun r' fJ=>hc r' (List.mem_cons_of_mem _ fJ);have rest:∀ (v:AV) (sn1:List AS),(∀ T,T∈sn1→T=S∨T∈sn)→rb v=true→ml cx ops (l.map (·.o)) (up F r.o.dst v) S Q→(dC r.cls=true→dZ cx ops F S r.o=some v) →
    da cx ops l (up F r.o.dst v) S [] sn1 id fun F' S' sn'=>Still cx ops (r :: l) F S sn F' S' sn'∧Q F':=by
   intro v sn1 hs hv hk ho;refine dS (vk (sn:=sn1) hl nA hk) ?_;rintro F' S' sn' ⟨⟨k1,k2,k3,k4,k5⟩,hq⟩;refine ⟨⟨k1,fun T hT=>?_,k3.trans (kN _ _ _),fun t ht=>?_,fun q hq qB=>?_⟩,hq⟩
   ·rcases k2 T hT with e|e
    ·exact .inl e
    ·exact hs T e
   ·rw[k4 t fun r' fJ=>ht r' (List.mem_cons_of_mem _ fJ),oX (ht r (List.mem_cons_self ..))]
   ·rcases List.mem_cons.1 hq with rfl|hq
    ·rw[qB] at hr;simp only[cond_true] at hr;cases hd:q.o.dst with
     | none=>rw[hd] at hr;cases hr
     | some d=>
      rw[hd] at hr;simp only[Bool.and_eq_true,Bool.not_eq_true'] at hr;obtain ⟨h1,h2⟩:=hr;rw[lZ] at h2;have n8:∀ t,t∈fU ops q.o→mK t (fU ops q.o)=true:=fun t ht=>(rh _ _).2 ht;have kC:∀ t,(t=d∨t∈fU ops q.o)→∀ r',r'∈l→r'.o.dst≠some t:=by
       intro t ht r' fJ e;have:=h2 r' fJ;rw[e] at this;simp only[aT,Bool.and_eq_true,Bool.not_eq_true',decide_eq_false_iff_not] at this;rcases ht with rfl|ht
       ·exact this.1 rfl
       ·rw[n8 t ht] at this;cases this.2
      refine ⟨d,v,rfl,?_,hv,?_⟩
      ·rw[k4 d (kC d (.inl rfl)),hd,tP]
      ·rw[←ho qB];refine gG fun t ht=>?_;rw[k4 t (kC t (.inr ht)),oX];rw[hd];intro e;cases e;rw[n8 _ ht] at h1;cases h1
    ·exact k5 q hq qB
  cases od:r.cls with
  | fresh=>rw[od] at hf;cases hf
  | wT=>
   rw[da,od];simp only[];refine mn (show dU cx ops r.o F S _ from h') ?_;rintro v S' ⟨rfl,hv,hk⟩;exact rest v _ (fun T hT=>by
    rcases List.mem_cons.1 hT with e|e
    ·exact .inl e
    ·exact .inr e) hv hk (fun e=>by rw[od] at e;cases e)
  | pure=>
   rw[da,od];simp only[];unfold dU at h';cases hw:bg ops F r.o.guard with
   | none=>rw[hw] at h';exact h'
   | some b=>
    rw[hw] at h';refine ⟨fun hb=>?_,fun hb=>?_⟩
    ·have h1:=h'.1 hb;obtain ⟨v,S',ha⟩:∃ v S',bj cx F S r.o=.val v S':=xu (.inl (hc r (List.mem_cons_self ..) (.inl od) |>.trans od)) h1;rw[ha] at h1;exact ⟨v,S',ha,rest v sn (fun T hT=>.inr hT) h1.2.1 h1.2.2 (fun e=>by rw[od] at e;cases e)⟩
    ·have h1:=h'.2 hb;exact rest _ sn (fun T hT=>.inr hT) h1.2.1 h1.2.2 (fun e=>by rw[od] at e;cases e)
  | read=>
   rw[da,od];simp only[];unfold dU at h';cases hw:bg ops F r.o.guard with
   | none=>rw[hw] at h';exact h'
   | some b=>
    rw[hw] at h';refine ⟨fun hb=>?_,fun hb=>?_⟩
    ·have h1:=h'.1 hb;obtain ⟨v,S',ha⟩:∃ v S',bj cx F S r.o=.val v S':=xu (.inr (hc r (List.mem_cons_self ..) (.inr od) |>.trans od)) h1;rw[ha] at h1;refine ⟨v,S',ha,rest v sn (fun T hT=>.inr hT) h1.2.1 h1.2.2 fun _=>?_⟩;rw[mG,hw,hb];simp only[ha]
    ·have h1:=h'.2 hb;refine rest _ sn (fun T hT=>.inr hT) h1.2.1 h1.2.2 fun _=>?_;rw[mG,hw,hb]
theorem vl {cx:Cx} {ops:List Oper} {F:Fr} {S:AS} {Q:Fr→AS→Prop} {n:Nat} (hk:stillOk cx n ops=true) (hn:F.n=n) (h:ml cx ops ops F S fun F'=>Q F' S):jl cx ops F S Q:=by
 unfold stillOk at hk;simp only[Bool.and_eq_true] at hk;obtain ⟨⟨h1,h2⟩,h3⟩:=hk;subst hn;have hp:=su cx ops.toArray;simp only[List.toList_toArray] at hp;obtain ⟨pl,pc⟩:=hp;have hmap:(settle (cM cx ops)).map (·.o)=ops:=by
  apply List.ext_getElem?;intro i;rw[List.getElem?_map];cases hi:(settle (cM cx ops))[i]? with
  | none=>
   have hlen:=pl.len;simp only[List.size_toArray] at hlen;rw[List.getElem?_eq_none_iff] at hi;simp only[Option.map_none];exact (List.getElem?_eq_none_iff.2 (by omega)).symm
  | some r=>
   have:=(pl.row i r hi).2;simp only[List.getElem?_toArray] at this;simp[this]
 have hnf:∀ l:List Row,sc ops l=true→og l=0:=by
  intro l
  induction l with
  | nil=>intro _;rfl
  | cons r l ih=>
   intro hb;simp only[sc,Bool.and_eq_true] at hb;show cond (bz r.cls) (Nat.succ (og l)) (og l)=0;have hf:bz r.cls=false:=by simpa using hb.1.1
   rw[hf,ih hb.2];rfl
 refine ⟨?_⟩;unfold rF CC;rw[h1];simp only[cond_true];rw[hnf _ h2];refine dS (vk (S:=S) (sn:=[]) h2 (fun r hr hc=>?_) (by rw[hmap];exact h)) ?_
 ·obtain ⟨i,hi⟩:=List.getElem?_of_mem hr;exact pc i r hi hc
 ·rintro F' S' sn ⟨hs,hq⟩;obtain ⟨rfl,k2,k3,_,k5⟩:=hs;refine ⟨fun q hqm qB=>?_,hq⟩;obtain ⟨d,v,e1,e2,e3,e4⟩:=k5 q hqm qB;have hd:d<F'.n:=by
   rw[k3];have:=List.all_eq_true.1 h3 q hqm;unfold A6 at this;rw[e1] at this;simpa[gW] using this
  unfold hZ;have dv:∀ T,T∈takeN (Nat.succ (Nat.sub (dD (fun e=>!bit e.cN q.i) (fD (fun e=>bo e.cls) (settle (cM cx ops)))) (dD (fun e=>bit q.cN e.i) (fD (fun e=>bo e.cls) (settle (cM cx ops)))))) (kF (dD (fun e=>bit q.cN e.i) (fD (fun e=>bo e.cls) (settle (cM cx ops)))) (sk sn))→T=S':=by
   intro T hT;rw[cl,cC] at hT;have:=List.mem_of_mem_drop (List.mem_of_mem_take hT);rw[uN,List.mem_reverse] at this;rcases k2 T this with e|e
   ·exact e
   ·cases e
  simp only[];split
  ·rfl
  ·simp only[e1,gW,hd,decide_true,cond_true,e2];rw[lZ];intro T hT;rw[dv T hT,e4];exact vJ v e3
end Go.Am
