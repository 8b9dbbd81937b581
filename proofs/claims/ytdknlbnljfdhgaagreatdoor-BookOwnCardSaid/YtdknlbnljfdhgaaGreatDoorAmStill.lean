/-
  The abstract machine: a region that draws its order and leaves the memory as it is.
-/
import Derived.Test.YtdknlbnljfdhgaaGreatDoorAmRules
import Derived.Test.YtdknlbnljfdhgaaGreatDoorAmPlan
import Derived.Test.YtdknlbnljfdhgaaGreatDoorAmCongr
import Derived.Test.YtdknlbnljfdhgaaGreatDoorAmDraws
namespace Go.Am
set_option linter.unusedSimpArgs false
open Go
def oP:AV→Bool
 | .bool _=>true | .int ..=>true | .str _=>true | .bd=>true | .ptr ..=>true | .ar=>true | .slice ..=>true | .iF=>true | .map _=>true | .kB=>true | .b8=>true
 | _=>false
def kN:List AV→Bool
 | []=>true
 | x :: l=>oP x&&kN l
def rk:AV→Bool
 | .agg l=>kN l
 | .tuple l=>kN l
 | .iface _ v=>oP v
 | v=>oP v
theorem sk:∀ s:List Nat,qw s s=true
 | []=>rfl
 | x :: l=>by
  show cond (Nat.beq x x) (qw l l) false=true;rw[bf,sk l];simp
theorem gA (k:IntKind):fw k k=true:=by rw[cK];simp
theorem oG (n:Int):yT n n=true:=by rw[gN];simp
theorem tY (n:Nat) (v:AV) (h:oP v=true):cM (n+1) v v=true:=by
 cases v<;>simp only[oP,Bool.false_eq_true] at h<;>try rfl
 ·rename_i b;cases b<;>rfl
 ·rename_i k m;show (fw k k&&yT m m)=true;rw[gA,oG];rfl
 ·rename_i s;exact sk s
 ·rename_i a b c d;show (Nat.beq a a&&Nat.beq b b&&Nat.beq c c&&Nat.beq d d)=true;simp[bf]
 ·rename_i a b c d e f g;cases g with
  | none=>
   show (Nat.beq a a&&Nat.beq b b&&Nat.beq c c&&Nat.beq d d&&Nat.beq e e&&Nat.beq f f)=true;simp[bf]
  | some g=>
   show (Nat.beq a a&&Nat.beq b b&&Nat.beq c c&&Nat.beq d d&&Nat.beq e e&&Nat.beq f f&&Nat.beq g g)=true;simp[bf]
 ·rename_i a;show Nat.beq a a=true;simp[bf]
theorem kM (n:Nat):∀ l:List AV,kN l=true→qI (n+1) l l=true
 | [],_=>rfl
 | x :: l,h=>by
  simp only[kN,Bool.and_eq_true] at h;show cond (cM (n+1) x x) (qI (n+1) l l) false=true;rw[tY n x h.1,kM n l h.2];rfl
theorem wL (v:AV) (h:rk v=true):cM 8 v v=true:=by
 have b:oP v=true→cM 8 v v=true:=tY 7 v;cases v<;>simp only[rk] at h<;>(try exact b h)
 ·rename_i t v;show (Nat.beq t t&&cM 7 v v)=true;rw[tY 6 v h];simp[bf]
 ·exact kM 6 _ h
 ·exact kM 6 _ h
theorem okV_undef:rk .undef=true:=rfl
noncomputable def sS (ops:List Oper):List Row→Bool
 | []=>true
 | r :: l=>!bM r.cls&&cond (eu r.cls) (match r.o.dst with
  | some d=>!mV d (gG ops r.o)&&eY (fun w=>match w.o.dst with|some e=>!Nat.beq e d && !mV e (gG ops r.o)|none=>true) l
  | none=>false) true&&sS ops l
noncomputable def stillOk (cx:Cx) (n:Nat) (ops:List Oper):Bool:=
 gH ops (settle (cT cx ops))&&sS ops (settle (cT cx ops))&&m8 n (settle (cT cx ops))
def mJ (cx:Cx) (ops:List Oper):List Oper→Fr→AS→(Fr→Prop)→Prop
 | [],F,_,Q=>Q F
 | o :: l,F,S,Q=>eR cx ops o F S fun v S'=>S'=S∧rk v=true∧mJ cx ops l (up F o.dst v) S Q
def skont (cx:Cx) (ops l:List Oper) (F:Fr) (d:Option Nat) (S:AS) (Q:Fr→Prop) (v:AV) (S':AS):Prop:=S'=S∧rk v=true∧mJ cx ops l (up F d v) S Q
theorem stillP_nil {cx:Cx} {ops:List Oper} {F:Fr} {S:AS} {Q:Fr→Prop}:mJ cx ops [] F S Q=Q F:=rfl
theorem CG {cx:Cx} {ops:List Oper} {o:Oper} {l:List Oper} {F:Fr} {S:AS} {Q:Fr→Prop}:mJ cx ops (o :: l) F S Q=eR cx ops o F S (skont cx ops l F o.dst S Q):=rfl
theorem skont_app {cx:Cx} {ops l:List Oper} {F:Fr} {d:Option Nat} {S:AS} {Q:Fr→Prop} {v:AV}:skont cx ops l F d S Q v S=(rk v=true∧mJ cx ops l (up F d v) S Q):=by
 unfold skont;simp
theorem gq {r:Option AV} {S S':AS} {n:Nat} {f:FuncId} {l:List AV} (h:val? r S n=.enter f l S'):False:=by
 cases r<;>cases h
theorem aop_stays {cx:Cx} {F:Fr} {S S':AS} {o:Oper} {f:FuncId} {l:List AV} (hc:gk cx o=.pure∨gk cx o=.read) (h:bo cx F S o=.enter f l S'):False:=by
 obtain ⟨dst,op,ty,pos,after,guard⟩:=o;cases op<;>simp only[gk,reduceCtorEq,or_self] at hc<;>simp only[bo] at h
 case move x=>cases h
 case assign x=>cases h
 case pick c a b=>split at h<;>cases h
 case build t parts=>exact gq h
 case load t x=>
  split at h
  ·repeat (split at h<;>try (cases h;done))
  ·split at h
   ·exact gq h
   ·cases h
  ·cases h
 case typeAssert x a b ok=>exact gq h
 case nilCheck x=>split at h<;>cases h
 case binOp op t x y yt=>exact gq h
 case unOp op t x=>exact gq h
 case convert s d x=>
  simp only[Bool.cond_eq_ite] at h
  repeat' split at h
  all_goals first|(cases h;done)|exact gq h
 case makeInterface t x=>split at h<;>cases h
 case makeFunc fn a b=>cases h
 case slice t x lo hi mx=>exact gq h
 case fieldAddr t x f=>repeat (split at h<;>try (cases h;done))
 case field t x f=>
  split at h
  ·split at h
   ·exact gq h
   ·cases h
  ·cases h
 case indexAddr t x i=>
  split at h
  ·split at h
   ·cases hc:(Nat.beq _ _&&Nat.blt _ _) with
    | false=>rw[hc] at h;cases h
    | true=>rw[hc] at h;cases h
   ·cases h
  ·split at h
   ·cases hc:Nat.blt _ _ with
    | false=>rw[hc] at h;cases h
    | true=>rw[hc] at h;cases h
   ·cases h
  ·split at h
   ·cases hc:Nat.blt _ _ with
    | false=>rw[hc] at h;cases h
    | true=>rw[hc] at h;cases h
   ·cases h
  ·cases h
 case index t x i=>
  split at h
  ·split at h<;>cases h
  ·split at h
   ·cases hc:Nat.blt _ _ with
    | false=>rw[hc] at h;cases h
    | true=>rw[hc] at h;exact gq h
   ·cases h
  ·cases h
 case lookup t x i ok=>exact gq h
 case extract x i=>
  split at h
  ·exact gq h
  ·cases h
 case call c=>
  obtain ⟨callee,as,lF⟩:=c;cases callee with
  | value f=>simp at hc
  | invoke r m=>simp at hc
  | builtin b=>
   have hb:b=.len∨b=.cap∨b=.min∨b=.max:=by cases b<;>simp_all
   simp only[] at h;unfold aZ at h;rcases hb with rfl|rfl|rfl|rfl<;>clear hc<;>split at h<;>(try contradiction)<;>(try (cases h;done))
   ·split at h<;>first|(cases h)|(cases h;done)
   ·split at h<;>first|(cases h)|(cases h;done)
   ·exact gq h
   ·exact gq h
theorem yd {cx:Cx} {F:Fr} {S:AS} {o:Oper} {K:AV→AS→Prop} (hc:gk cx o=.pure∨gk cx o=.read) (h:rG cx (bo cx F S o) K):∃ v S',bo cx F S o=.val v S':=by
 cases ha:bo cx F S o with
 | val v S'=>exact ⟨v,S',rfl⟩
 | enter f l S'=>exact (aop_stays hc ha).elim
 | err n=>rw[ha] at h;exact h.elim
 | round f l S'=>rw[ha] at h;exact h.elim
 | dN v S'=>rw[ha] at h;exact h.elim
 | many l=>rw[ha] at h;exact h.elim
theorem eJ {cx:Cx} {ops:List Oper}:∀ {l:List Row} {F:Fr} {S:AS} {ps:List da} {sn:List AS} {id:Nat} {Q Q':Fr→AS→List AS→Prop},dx cx ops l F S ps sn id Q→(∀ F' S' sn',Q F' S' sn'→Q' F' S' sn')→dx cx ops l F S ps sn id Q'
 | [],_,_,_,_,_,_,_,h,k=>k _ _ _ h
 | r :: l,F,S,ps,sn,id,Q,Q',h,k=>by
  cases hc:r.cls with
  | fresh=>
   rw[dx,hc] at h ⊢;simp only[] at h ⊢;cases hw:bz ops F r.o.guard with
   | none=>rw[hw] at h;exact h
   | some b=>
    rw[hw] at h;refine ⟨fun hb=>?_,fun hb=>eJ (h.2 hb) k⟩;obtain ⟨v,x,h1,h2⟩:=h.1 hb;exact ⟨v,x,h1,eJ h2 k⟩
  | vG=>
   rw[dx,hc] at h ⊢;simp only[] at h ⊢;exact mK h fun _ _ h'=>eJ h' k
  | pure=>
   rw[dx,hc] at h ⊢;simp only[] at h ⊢;cases hw:bz ops F r.o.guard with
   | none=>rw[hw] at h;exact h
   | some b=>
    rw[hw] at h;refine ⟨fun hb=>?_,fun hb=>eJ (h.2 hb) k⟩;obtain ⟨v,x,h1,h2⟩:=h.1 hb;exact ⟨v,x,h1,eJ h2 k⟩
  | read=>
   rw[dx,hc] at h ⊢;simp only[] at h ⊢;cases hw:bz ops F r.o.guard with
   | none=>rw[hw] at h;exact h
   | some b=>
    rw[hw] at h;refine ⟨fun hb=>?_,fun hb=>eJ (h.2 hb) k⟩;obtain ⟨v,x,h1,h2⟩:=h.1 hb;exact ⟨v,x,h1,eJ h2 k⟩
theorem rQ (n:Nat):∀ l:List Nat,mV n l=true↔n∈l
 | []=>by show (false=true)↔_;simp
 | m :: l=>by
  show cond (Nat.beq n m) true (mV n l)=true↔_;rw[bf];have ih:=rQ n l;by_cases h:n=m
  ·simp[h]
  ·simp[h,ih]
theorem mA {α:Type} (p:α→Bool):∀ l:List α,eY p l=true↔∀ x,x∈l→p x=true
 | []=>by show (true=true)↔_;simp
 | x :: l=>by
  show cond (p x) (eY p l) false=true↔_;have ih:=mA p l;cases h:p x<;>simp[h,ih]
theorem pB {F:Fr} {d:Option Nat} {t:Nat} {v:AV} (h:d≠some t):(up F d v).t.get t=F.t.get t:=by
 cases d with
 | none=>rfl
 | some d=>exact ae _ _ (fun e=>h (by rw[e]))
theorem uG {F:Fr} {d:Nat} {v:AV}:(up F (some d) v).t.get d=some v:=aa _ _ _
structure Still (cx:Cx) (ops:List Oper) (l:List Row) (F:Fr) (S:AS) (sn:List AS) (F':Fr) (S':AS) (sn':List AS):Prop where
 mem:S'=S
 sns:∀ T,T∈sn'→T=S∨T∈sn
 n:F'.n=F.n
 bH:∀ t,(∀ r,r∈l→r.o.dst≠some t)→F'.t.get t=F.t.get t
 read:∀ q,q∈l→eu q.cls=true→∃ d v,q.o.dst=some d∧F'.t.get d=some v∧rk v=true∧ej cx ops F' S q.o=some v
theorem vV {cx:Cx} {ops:List Oper}:∀ {l:List Row} {F:Fr} {S:AS} {sn:List AS} {id:Nat} {Q:Fr→Prop},sS ops l=true→(∀ r,r∈l→(r.cls=.pure∨r.cls=.read)→gk cx r.o=r.cls) →
  mJ cx ops (l.map (·.o)) F S Q→dx cx ops l F S [] sn id fun F' S' sn'=>Still cx ops l F S sn F' S' sn'∧Q F'
 | [],F,S,sn,id,Q,_,_,h=>⟨⟨rfl,fun T hT=>by
   rcases List.mem_cons.1 hT with e|e
   ·exact .inl e
   ·exact .inr e,rfl,fun _ _=>rfl,fun q hq=>by cases hq⟩,h⟩
 | r :: l,F,S,sn,id,Q,hb,hc,h=>by
  simp only[sS,Bool.and_eq_true] at hb;obtain ⟨⟨hf,hr⟩,hl⟩:=hb;have h':eR cx ops r.o F S fun v S'=>S'=S∧rk v=true∧mJ cx ops (l.map (·.o)) (up F r.o.dst v) S Q:=h;have pS:∀ r',r'∈l→(r'.cls=.pure∨r'.cls=.read)→gk cx r'.o=r'.cls:=fun r' fk=>hc r' (List.mem_cons_of_mem _ fk);have rest:∀ (v:AV) (sn1:List AS),(∀ T,T∈sn1→T=S∨T∈sn)→rk v=true→mJ cx ops (l.map (·.o)) (up F r.o.dst v) S Q→(eu r.cls=true→ej cx ops F S r.o=some v) →
    dx cx ops l (up F r.o.dst v) S [] sn1 id fun F' S' sn'=>Still cx ops (r :: l) F S sn F' S' sn'∧Q F':=by
   intro v sn1 hs hv hk ho;refine eJ (vV (sn:=sn1) hl pS hk) ?_;rintro F' S' sn' ⟨⟨k1,k2,k3,k4,k5⟩,hq⟩;refine ⟨⟨k1,fun T hT=>?_,k3.trans (oq _ _ _),fun t ht=>?_,fun q hq rl=>?_⟩,hq⟩
   ·rcases k2 T hT with e|e
    ·exact .inl e
    ·exact hs T e
   ·rw[k4 t fun r' fk=>ht r' (List.mem_cons_of_mem _ fk),pB (ht r (List.mem_cons_self ..))]
   ·rcases List.mem_cons.1 hq with rfl|hq
    ·rw[rl] at hr;simp only[cond_true] at hr;cases hd:q.o.dst with
     | none=>rw[hd] at hr;cases hr
     | some d=>
      rw[hd] at hr;simp only[Bool.and_eq_true,Bool.not_eq_true'] at hr;obtain ⟨h1,h2⟩:=hr;rw[mA] at h2;have xr:∀ t,t∈gG ops q.o→mV t (gG ops q.o)=true:=fun t ht=>(rQ _ _).2 ht;have uD:∀ t,(t=d∨t∈gG ops q.o)→∀ r',r'∈l→r'.o.dst≠some t:=by
       intro t ht r' fk e;have:=h2 r' fk;rw[e] at this;simp only[bf,Bool.and_eq_true,Bool.not_eq_true',decide_eq_false_iff_not] at this;rcases ht with rfl|ht
       ·exact this.1 rfl
       ·rw[xr t ht] at this;cases this.2
      refine ⟨d,v,rfl,?_,hv,?_⟩
      ·rw[k4 d (uD d (.inl rfl)),hd,uG]
      ·rw[←ho rl];refine ik fun t ht=>?_;rw[k4 t (uD t (.inr ht)),pB];rw[hd];intro e;cases e;rw[xr _ ht] at h1;cases h1
    ·exact k5 q hq rl
  cases oC:r.cls with
  | fresh=>rw[oC] at hf;cases hf
  | vG=>
   rw[dx,oC];simp only[];refine mK (show eR cx ops r.o F S _ from h') ?_;rintro v S' ⟨rfl,hv,hk⟩;exact rest v _ (fun T hT=>by
    rcases List.mem_cons.1 hT with e|e
    ·exact .inl e
    ·exact .inr e) hv hk (fun e=>by rw[oC] at e;cases e)
  | pure=>
   rw[dx,oC];simp only[];unfold eR at h';cases hw:bz ops F r.o.guard with
   | none=>rw[hw] at h';exact h'
   | some b=>
    rw[hw] at h';refine ⟨fun hb=>?_,fun hb=>?_⟩
    ·have h1:=h'.1 hb;obtain ⟨v,S',ha⟩:∃ v S',bo cx F S r.o=.val v S':=yd (.inl (hc r (List.mem_cons_self ..) (.inl oC) |>.trans oC)) h1;rw[ha] at h1;exact ⟨v,S',ha,rest v sn (fun T hT=>.inr hT) h1.2.1 h1.2.2 (fun e=>by rw[oC] at e;cases e)⟩
    ·have h1:=h'.2 hb;exact rest _ sn (fun T hT=>.inr hT) h1.2.1 h1.2.2 (fun e=>by rw[oC] at e;cases e)
  | read=>
   rw[dx,oC];simp only[];unfold eR at h';cases hw:bz ops F r.o.guard with
   | none=>rw[hw] at h';exact h'
   | some b=>
    rw[hw] at h';refine ⟨fun hb=>?_,fun hb=>?_⟩
    ·have h1:=h'.1 hb;obtain ⟨v,S',ha⟩:∃ v S',bo cx F S r.o=.val v S':=yd (.inr (hc r (List.mem_cons_self ..) (.inr oC) |>.trans oC)) h1;rw[ha] at h1;refine ⟨v,S',ha,rest v sn (fun T hT=>.inr hT) h1.2.1 h1.2.2 fun _=>?_⟩;rw[mU,hw,hb];simp only[ha]
    ·have h1:=h'.2 hb;refine rest _ sn (fun T hT=>.inr hT) h1.2.1 h1.2.2 fun _=>?_;rw[mU,hw,hb]
theorem eC {cx:Cx} {ops:List Oper} {F:Fr} {S:AS} {Q:Fr→AS→Prop} {n:Nat} (hk:stillOk cx n ops=true) (hn:F.n=n) (h:mJ cx ops ops F S fun F'=>Q F' S):jJ cx ops F S Q:=by
 unfold stillOk at hk;simp only[Bool.and_eq_true] at hk;obtain ⟨⟨h1,h2⟩,h3⟩:=hk;subst hn;have hp:=tf cx ops.toArray;simp only[List.toList_toArray] at hp;obtain ⟨pl,pc⟩:=hp;have hmap:(settle (cT cx ops)).map (·.o)=ops:=by
  apply List.ext_getElem?;intro i;rw[List.getElem?_map];cases hi:(settle (cT cx ops))[i]? with
  | none=>
   have hlen:=pl.len;simp only[List.size_toArray] at hlen;rw[List.getElem?_eq_none_iff] at hi;simp only[Option.map_none];exact (List.getElem?_eq_none_iff.2 (by omega)).symm
  | some r=>
   have:=(pl.row i r hi).2;simp only[List.getElem?_toArray] at this;simp[this]
 have hnf:∀ l:List Row,sS ops l=true→oE l=0:=by
  intro l
  induction l with
  | nil=>intro _;rfl
  | cons r l ih=>
   intro hb;simp only[sS,Bool.and_eq_true] at hb;show cond (bM r.cls) (Nat.succ (oE l)) (oE l)=0;have hf:bM r.cls=false:=by simpa using hb.1.1
   rw[hf,ih hb.2];rfl
 refine ⟨?_⟩;unfold sm Ds;rw[h1];simp only[cond_true];rw[hnf _ h2];refine eJ (vV (S:=S) (sn:=[]) h2 (fun r hr hc=>?_) (by rw[hmap];exact h)) ?_
 ·obtain ⟨i,hi⟩:=List.getElem?_of_mem hr;exact pc i r hi hc
 ·rintro F' S' sn ⟨hs,hq⟩;obtain ⟨rfl,k2,k3,_,k5⟩:=hs;refine ⟨fun q hqm rl=>?_,hq⟩;obtain ⟨d,v,e1,e2,e3,e4⟩:=k5 q hqm rl;have hd:d<F'.n:=by
   rw[k3];have:=List.all_eq_true.1 h3 q hqm;unfold BE at this;rw[e1] at this;simpa[gI] using this
  unfold iH;have iN:∀ T,T∈takeN (Nat.succ (Nat.sub (ew (fun e=>!bit e.c7 q.i) (fN (fun e=>bB e.cls) (settle (cT cx ops)))) (ew (fun e=>bit q.c7 e.i) (fN (fun e=>bB e.cls) (settle (cT cx ops)))))) (jT (ew (fun e=>bit q.c7 e.i) (fN (fun e=>bB e.cls) (settle (cT cx ops)))) (tc sn))→T=S':=by
   intro T hT;rw[cf,bL] at hT;have:=List.mem_of_mem_drop (List.mem_of_mem_take hT);rw[vl,List.mem_reverse] at this;rcases k2 T this with e|e
   ·exact e
   ·cases e
  simp only[];split
  ·rfl
  ·simp only[e1,gI,hd,decide_true,cond_true,e2];rw[mA];intro T hT;rw[iN T hT,e4];exact wL v e3
end Go.Am
