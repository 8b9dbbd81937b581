/-
  The abstract machine: a region that draws its order and changes the memory: its plan, read off ahead; what is asked of its reading operations is asked where the memory turns.
-/
import Derived.Test.YtdknlbnljfdhgaaGreatDoorAmStill
noncomputable section
namespace Go.Am
open Go
set_option linter.unusedSimpArgs false
def okW:AV→Bool
 | .func (.func _) a b=>kN a&&kN b
 | v=>rk v
theorem okW_same (v:AV) (h:okW v=true):cM 8 v v=true:=by
 cases v<;>try exact wL _ h
 rename_i fn a b;cases fn<;>try exact wL _ h
 simp only[okW,Bool.and_eq_true] at h;rename_i f;show (Nat.beq f f&&qI 7 a a&&qI 7 b b)=true;rw[kM 6 a h.1,kM 6 b h.2];simp[bf]
inductive Pk where
 | p|f|r (back bH:Nat)|e (cm:List Nat)
structure Live where
 o:Oper
 v:AV
 n:Nat
def qR:List Pk→Nat
 | []=>0
 | .f :: l=>qR l+1
 | .p :: l=>qR l
 | .r _ _ :: l=>qR l
 | .e _ :: l=>qR l
def tn (n:Nat):List Nat→Bool
 | []=>false
 | m :: l=>(n == m)||tn n l
def comL (cm:List Nat):List da→AS→AS
 | [],S=>S
 | x :: ps,S=>comL cm ps (if tn x.i cm=true then ⟨S.h.set x.id x.obj,S.next⟩ else S)
def qg (cm:List Nat):List da→List da
 | []=>[]
 | x :: ps=>if tn x.i cm=true then qg cm ps else x :: qg cm ps
def comA:List da→AS→AS
 | [],S=>S
 | x :: ps,S=>comA ps ⟨S.h.set x.id x.obj,S.next⟩
def ss:List Live→List Live
 | []=>[]
 | x :: l=>match x.n with
  | 0=>ss l
  | 1=>ss l
  | n+2=>⟨x.o,x.v,n+1⟩ :: ss l
def uT (r:AR) (v:AV):Prop:=match r with | .val u _=>u=v|_=>False
def reP (cx:Cx) (ops:List Oper) (F:Fr) (T:AS) (o:Oper) (v:AV):Prop:=
 match bz ops F o.guard with
 | some b=>(b=true→uT (bo cx F T o) v)∧(b=false→v=.undef)
 | none=>False
def mR (cx:Cx) (ops:List Oper) (F:Fr) (T:AS):List Live→Prop
 | []=>True
 | x :: l=>reP cx ops F T x.o x.v∧mR cx ops F T l
def n8 (cx:Cx) (ops:List Oper) (F:Fr) (o:Oper) (v:AV):Nat→List AS→Prop
 | 0,_=>True
 | _+1,[]=>True
 | n+1,T :: sn=>reP cx ops F T o v∧n8 cx ops F o v n sn
def okN (back bH:Nat) (v:AV):Prop:=match back,bH with|0,0=>True|_,_=>okW v=true
def zO (o:Oper) (v:AV) (bH:Nat) (lv:List Live):List Live:=match bH with|0=>lv|n+1=>⟨o,v,n+1⟩ :: lv
def Cy (r:AR) (K:AV→Prop):Prop:=match r with | .val v _=>K v|_=>False
def lL (cx:Cx) (ops:List Oper) (o:Oper) (F:Fr) (S:AS) (K:AV→Prop):Prop:=
 match bz ops F o.guard with
 | some b=>(b=true→Cy (bo cx F S o) K)∧(b=false→K .undef)
 | none=>False
def Eu (r:Option (AV×bE)) (K:AV→bE→Prop):Prop:=match r with|some (v,x)=>K v x|none=>False
def rB (cx:Cx) (ops:List Oper) (o:Oper) (F:Fr) (id:Nat) (K:AV→bE→Prop) (J:Prop):Prop:=
 match bz ops F o.guard with
 | some b=>(b=true→Eu (aC cx F id o.op) K)∧(b=false→J)
 | none=>False
def eE (cx:Cx) (ops:List Oper):List Pk→List Oper→Nat→Fr→AS→List da→List AS→List Live→Nat→(Fr→AS→Prop)→Prop
 | [],[],_,F,S,ps,_,_,_,Q=>Q F (comA ps S)
 | .p :: pl,o :: l,i,F,S,ps,sn,lv,id,Q=>lL cx ops o F S fun v=>eE cx ops pl l (i+1) (up F o.dst v) S ps sn lv id Q
 | .r b k :: pl,o :: l,i,F,S,ps,sn,lv,id,Q=>lL cx ops o F S fun v=>n8 cx ops F o v b sn∧okN b k v∧eE cx ops pl l (i+1) (up F o.dst v) S ps sn (zO o v k lv) id Q
 | .f :: pl,o :: l,i,F,S,ps,sn,lv,id,Q=>rB cx ops o F id (fun v x=>eE cx ops pl l (i+1) (up F o.dst v) S (⟨i,id,x⟩ :: ps) sn lv (id+1) Q) (eE cx ops pl l (i+1) (up F o.dst .undef) S ps sn lv id Q)
 | .e cm :: pl,o :: l,i,F,S,ps,sn,lv,id,Q=>eR cx ops o F (comL cm ps S) fun v S'=>mR cx ops F S' lv∧eE cx ops pl l (i+1) (up F o.dst v) S' (qg cm ps) (S :: sn) (ss lv) id Q
 | _,_,_,_,_,_,_,_,_,_=>False
def DN (rows:List Row) (r:Row):Nat:=ew (fun e=>bit r.c7 e.i) (fN (fun e=>bB e.cls) rows)
def hiN (rows:List Row) (r:Row):Nat:=DN rows r+Nat.sub (ew (fun e=>!bit e.c7 r.i) (fN (fun e=>bB e.cls) rows)) (DN rows r)
def fq (rows:List Row):List Row→List Pk→Nat→Bool
 | [],[],_=>true
 | r :: l,.p :: pl,k=>(match r.cls with | .pure=>true|_=>false)&&fq rows l pl k
 | r :: l,.f :: pl,k=>bM r.cls&&fq rows l pl k
 | r :: l,.r b n :: pl,k=>eu r.cls&&Nat.ble (DN rows r) k&&Nat.beq b (k-DN rows r)&&Nat.beq n (hiN rows r-k)&&fq rows l pl k
 | r :: l,.e cm :: pl,k=>bB r.cls&&eY (fun f=>cond (bM f.cls) (cond (tn f.i cm) (bit r.c7 f.i) (!bit r.c7 f.i)) true) rows&&fq rows l pl (k+1)
 | _,_,_=>false
def calmB (ops:List Oper):List Row→Bool
 | []=>true
 | r :: l=>cond (eu r.cls) (match r.o.dst with
  | some d=>!mV d (gG ops r.o)&&eY (fun w=>match w.o.dst with|some e=>!Nat.beq e d && !mV e (gG ops r.o)|none=>true) l
  | none=>false) true&&calmB ops l
def planIs (cx:Cx) (n:Nat) (ops:List Oper) (pl:List Pk):Bool:=
 gH ops (settle (cT cx ops))&&calmB ops (settle (cT cx ops))&&m8 n (settle (cT cx ops))&&fq (settle (cT cx ops)) (settle (cT cx ops)) pl 0
theorem comA_eq:∀ (ps:List da) (S:AS),comA ps S=aX (fun _=>true) ps S
 | [],_=>rfl
 | x :: ps,S=>by
  show comA ps _=aX (fun _=>true) ps (cond true _ _);rw[comA_eq ps];rfl
theorem comL_eq {cm:List Nat} {m:Nat}:∀ {ps:List da} {S:AS},(∀ x,x∈ps→tn x.i cm=bit m x.i)→comL cm ps S=aX (fun p=>bit m p.i) ps S∧qg cm ps=fN (fun p=>!bit m p.i) ps
 | [],S,_=>⟨rfl,rfl⟩
 | x :: ps,S,h=>by
  have hx:=h x (List.mem_cons_self ..);obtain ⟨h1,h2⟩:=comL_eq (ps:=ps) (S:=if tn x.i cm=true then ⟨S.h.set x.id x.obj,S.next⟩ else S) fun y hy=>h y (List.mem_cons_of_mem _ hy);constructor
  ·show comL cm ps _=aX (fun p=>bit m p.i) ps (cond (bit m x.i) _ S);rw[h1,←hx];cases tn x.i cm<;>rfl
  ·show qg cm (x :: ps)=cond (!bit m x.i) (x :: fN (fun p=>!bit m p.i) ps) (fN (fun p=>!bit m p.i) ps);rw[qg,h2,←hx];cases tn x.i cm<;>rfl
theorem reP_one {cx:Cx} {ops:List Oper} {F:Fr} {T:AS} {o:Oper} {v:AV} (h:reP cx ops F T o v):ej cx ops F T o=some v:=by
 unfold reP at h;rw[mU];cases hw:bz ops F o.guard with
 | none=>rw[hw] at h;exact h.elim
 | some b=>
  rw[hw] at h;cases b with
  | true=>
   have h1:=h.1 rfl;unfold uT at h1;simp only[];cases ha:bo cx F T o<;>rw[ha] at h1<;>first|exact h1.elim|exact congrArg some h1
  | false=>rw[h.2 rfl]
theorem zq {cx:Cx} {ops:List Oper} {F:Fr} {S:AS} {o:Oper} {K:AV→Prop} (h:lL cx ops o F S K):∃ v,ej cx ops F S o=some v∧K v:=by
 unfold lL at h;rw[mU];cases hw:bz ops F o.guard with
 | none=>rw[hw] at h;exact h.elim
 | some b=>
  rw[hw] at h;cases b with
  | true=>
   have h1:=h.1 rfl;unfold Cy at h1;simp only[];cases ha:bo cx F S o<;>rw[ha] at h1<;>first|exact h1.elim|exact ⟨_,rfl,h1⟩
  | false=>exact ⟨_,rfl,h.2 rfl⟩
def Seen (cx:Cx) (ops:List Oper) (rows:List Row) (P:List Row) (F:Fr) (S:AS) (sn:List AS) (lv:List Live):Prop:=
 ∀ q,q∈P→eu q.cls=true→∃ d v,q.o.dst=some d∧F.t.get d=some v∧(DN rows q<hiN rows q→okW v=true) ∧
  (∀ j T,DN rows q≤j→j≤hiN rows q→(S :: sn).reverse[j]?=some T→ej cx ops F T q.o=some v) ∧
  (sn.length<hiN rows q→∃ x,x∈lv∧x.o=q.o∧x.v=v∧x.n=hiN rows q-sn.length)
theorem reLive_mem {cx:Cx} {ops:List Oper} {F:Fr} {T:AS} {lv:List Live} (h:mR cx ops F T lv):∀ x,x∈lv→reP cx ops F T x.o x.v:=by
 induction lv with
 | nil=>intro x hx;cases hx
 | cons y l ih=>
  intro x hx;rcases List.mem_cons.1 hx with e|hx
  ·rw[e];exact h.1
  ·exact ih h.2 x hx
theorem decL_mem {lv:List Live} {x:Live} (hx:x∈lv) (hn:1<x.n):∃ y,y∈ss lv∧y.o=x.o∧y.v=x.v∧y.n=x.n-1:=by
 induction lv with
 | nil=>cases hx
 | cons a l ih=>
  rcases List.mem_cons.1 hx with e|hx
  ·subst e;obtain ⟨o,v,n⟩:=x
   match n,hn with
   | n+2,_=>exact ⟨⟨o,v,n+1⟩,List.mem_cons_self ..,rfl,rfl,by simp⟩
  ·obtain ⟨y,h1,h2⟩:=ih hx;refine ⟨y,?_,h2⟩;obtain ⟨o,v,n⟩:=a
   match n with
   | 0=>exact h1
   | 1=>exact h1
   | n+2=>exact List.mem_cons_of_mem _ h1
theorem wC {cx:Cx} {ops:List Oper} {F:Fr} {o:Oper} {v:AV}:∀ {n:Nat} {sn:List AS},n8 cx ops F o v n sn→∀ i T,i<n→sn[i]?=some T→reP cx ops F T o v
 | n+1,T :: sn,h,0,T',_,ht=>by simp at ht;subst ht;exact h.1
 | n+1,T :: sn,h,i+1,T',hi,ht=>wC h.2 i T' (by omega) (by simpa using ht)
theorem lP {cx:Cx} {ops:List Oper} {rows:List Row} {n:Nat} {Q:Fr→AS→Prop}:∀ (l:List Row) (pl:List Pk) (P:List Row) (F:Fr) (S:AS) (ps:List da) (sn:List AS) (lv:List Live) (id:Nat),
  rows=P++l→F.n=n→m8 n rows=true→calmB ops l=true→(∀ (i:Nat) (r:Row),rows[i]?=some r→r.i=i)→fq rows l pl sn.length=true →
  (∀ r,r∈P→eu r.cls=true→∀ w,w∈l→∀ e,w.o.dst=some e→some e≠r.o.dst∧e∉gG ops r.o) →
  (∀ x,x∈ps→∃ f,f∈rows∧bM f.cls=true∧f.i=x.i) →
  Seen cx ops rows P F S sn lv→eE cx ops pl (l.map (·.o)) P.length F S ps sn lv id Q →
  dx cx ops l F S ps sn id fun F' S' sn'=>winP cx ops rows F' (tc sn')∧Q F' S'
 | [],pl,P,F,S,ps,sn,lv,id,zS,hn,hd,_,_,hm,_,_,hs,h=>by
  have lf:pl=[]:=by
   cases pl with
   | nil=>rfl
   | cons a pl=>cases a<;>cases hm
  subst lf;have h':Q F (comA ps S):=h;rw[comA_eq] at h';refine ⟨?_,h'⟩;intro q hq hr;rw[zS,List.append_nil] at hq;obtain ⟨d,v,e1,e2,e3,e4,_⟩:=hs q hq hr;have hdn:d<F.n:=by
   rw[hn];have:=List.all_eq_true.1 hd q (by rw[zS,List.append_nil];exact hq);unfold BE at this;rw[e1] at this;simpa[gI] using this
  unfold iH;simp only[];have iN:∀ T,T∈takeN (Nat.succ (Nat.sub (ew (fun e=>!bit e.c7 q.i) (fN (fun e=>bB e.cls) rows)) (ew (fun e=>bit q.c7 e.i) (fN (fun e=>bB e.cls) rows)))) (jT (ew (fun e=>bit q.c7 e.i) (fN (fun e=>bB e.cls) rows)) (tc (S :: sn)))→ej cx ops F T q.o=some v:=by
   intro T hT;rw[cf,bL,vl] at hT;obtain ⟨i,hi⟩:=List.getElem?_of_mem hT;rw[List.getElem?_take] at hi;split at hi
   ·rename_i bK;rw[List.getElem?_drop] at hi;exact e4 (DN rows q+i) T (Nat.le_add_right _ _) (by unfold hiN;have:=Nat.le_of_lt_succ bK;unfold DN at *;omega) hi
   ·cases hi
  split
  ·rfl
  ·rename_i cN;simp only[e1,gI,hdn,decide_true,cond_true,e2];rw[mA];intro T hT;rw[iN T hT];refine okW_same v (e3 ?_);rcases Nat.lt_or_ge (DN rows q) (hiN rows q) with h0|h0
   ·exact h0
   ·exfalso;have hz:Nat.sub (ew (fun e=>!bit e.c7 q.i) (fN (fun e=>bB e.cls) rows)) (DN rows q)=0:=by unfold hiN at h0;omega
    unfold DN at hz;rw[hz,cf,bL] at hT cN;generalize hL:List.drop (ew (fun e=>bit q.c7 e.i) (fN (fun e=>bB e.cls) rows)) (tc (S :: sn))=L at hT cN;cases L with
    | nil=>simp at hT
    | cons a L=>exact cN a (by simp)
 | r :: l,pl,P,F,S,ps,sn,lv,id,zS,hn,hd,hb,hi,hm,hw,yN,hs,h=>by
  simp only[calmB,Bool.and_eq_true] at hb;obtain ⟨yy,hb2⟩:=hb;have xm:rows=(P++[r])++l:=by rw[zS];simp
  have hri:r.i=P.length:=hi P.length r (by rw[zS];simp);have Ee:(P++[r]).length=P.length+1:=by simp
  have fU:∀ q,q∈P→eu q.cls=true→∀ (v:AV) t,(q.o.dst=some t∨t∈gG ops q.o)→(up F r.o.dst v).t.get t=F.t.get t:=by
   intro q hq rl v t ht;refine pB fun e=>?_;obtain ⟨k1,k2⟩:=hw q hq rl r (List.mem_cons_self ..) t e;rcases ht with ht|ht
   ·exact k1 ht.symm
   ·exact k2 ht
  have hw2:∀ q,q∈P++[r]→eu q.cls=true→∀ w,w∈l→∀ e,w.o.dst=some e→some e≠q.o.dst∧e∉gG ops q.o:=by
   intro q hq rl w hwl e he;rcases List.mem_append.1 hq with hq|hq
   ·exact hw q hq rl w (List.mem_cons_of_mem _ hwl) e he
   ·rw[List.mem_singleton] at hq;subst hq;rw[rl] at yy;simp only[cond_true] at yy;cases hdq:q.o.dst with
    | none=>rw[hdq] at yy;cases yy
    | some d=>
     rw[hdq] at yy;simp only[Bool.and_eq_true,Bool.not_eq_true'] at yy;obtain ⟨_,h2⟩:=yy;rw[mA] at h2;have:=h2 w hwl;rw[he] at this;simp only[bf,Bool.and_eq_true,Bool.not_eq_true',decide_eq_false_iff_not] at this;refine ⟨fun e'=>this.1 (by cases e';rfl),fun e'=>?_⟩;have h3:=(rQ _ _).2 e';rw[h3] at this;cases this.2
  have carry:∀ (v:AV) (lv2:List Live),(∀ x,x∈lv→x∈lv2)→∀ q,q∈P→eu q.cls=true→∃ d u,q.o.dst=some d∧(up F r.o.dst v).t.get d=some u∧(DN rows q<hiN rows q→okW u=true) ∧
    (∀ j T,DN rows q≤j→j≤hiN rows q→(S :: sn).reverse[j]?=some T→ej cx ops (up F r.o.dst v) T q.o=some u) ∧
    (sn.length<hiN rows q→∃ x,x∈lv2∧x.o=q.o∧x.v=u∧x.n=hiN rows q-sn.length):=by
   intro v lv2 tD q hq rl;obtain ⟨d,u,k1,k2,k3,k4,k5⟩:=hs q hq rl;refine ⟨d,u,k1,by rw[fU q hq rl v d (.inl k1)];exact k2,k3,fun j T h1 h2 h3=>?_,fun hh=>?_⟩
   ·rw[←k4 j T h1 h2 h3];exact ik fun t ht=>fU q hq rl v t (.inr ht)
   ·obtain ⟨x,x1,x2⟩:=k5 hh;exact ⟨x,tD x x1,x2⟩
  cases pl with
  | nil=>cases hm
  | cons a pl=>
   cases a with
   | p=>
    have fg:((match r.cls with | .pure=>true|_=>false)&&fq rows l pl sn.length)=true:=hm;rw[Bool.and_eq_true] at fg;have hc:r.cls=.pure:=by cases pT:r.cls<;>rw[pT] at fg<;>first|rfl|(cases fg.1)
    obtain ⟨v,hv,hk⟩:=zq (show lL cx ops r.o F S _ from h);have uA:Seen cx ops rows (P++[r]) (up F r.o.dst v) S sn lv:=by
     intro q hq rl;rcases List.mem_append.1 hq with hq|hq
     ·exact carry v lv (fun _ hx=>hx) q hq rl
     ·rw[List.mem_singleton] at hq;subst hq;rw[hc] at rl;cases rl
    have ih:=lP l pl (P++[r]) (up F r.o.dst v) S ps sn lv id xm (by rw[oq];exact hn) hd hb2 hi fg.2 hw2 yN uA (by rw[Ee];exact hk);rw[dx,hc];simp only[];rw[mU] at hv;cases hww:bz ops F r.o.guard with
    | none=>rw[hww] at hv;cases hv
    | some b=>
     rw[hww] at hv;cases b with
     | true=>
      refine ⟨fun _=>?_,fun e=>by cases e⟩;simp only[] at hv;cases ha:bo cx F S r.o<;>rw[ha] at hv<;>first|(cases hv;done)|skip
      cases hv;exact ⟨_,_,rfl,ih⟩
     | false=>
      refine ⟨fun e=>(by cases e),fun _=>?_⟩;cases hv;exact ih
   | r bk kp=>
    have fg:(eu r.cls&&Nat.ble (DN rows r) sn.length&&Nat.beq bk (sn.length-DN rows r)&&Nat.beq kp (hiN rows r-sn.length)&&fq rows l pl sn.length)=true:=hm;simp only[Bool.and_eq_true,cn,bf,decide_eq_true_eq] at fg;obtain ⟨⟨⟨⟨zU,rp⟩,hbk⟩,hkp⟩,fg⟩:=fg;have hc:r.cls=.read:=by cases pT:r.cls<;>rw[pT] at zU<;>first|rfl|(cases zU)
    obtain ⟨v,hv,nv,tB,hk⟩:=zq (show lL cx ops r.o F S _ from h);rw[zU] at yy;simp only[cond_true] at yy;have uA:Seen cx ops rows (P++[r]) (up F r.o.dst v) S sn (zO r.o v kp lv):=by
     intro q hq rl;rcases List.mem_append.1 hq with hq|hq
     ·refine carry v _ (fun x hx=>?_) q hq rl;cases kp with
      | zero=>exact hx
      | succ m=>exact List.mem_cons_of_mem _ hx
     ·rw[List.mem_singleton] at hq;subst hq;cases hdq:q.o.dst with
      | none=>rw[hdq] at yy;cases yy
      | some d=>
       rw[hdq] at yy;simp only[Bool.and_eq_true,Bool.not_eq_true'] at yy;have hcong:∀ T,ej cx ops (up F (some d) v) T q.o=ej cx ops F T q.o:=by
        intro T;refine ik fun t ht=>pB fun e=>?_;cases e;rw[(rQ _ _).2 ht] at yy;cases yy.1
       refine ⟨d,v,rfl,uG,fun bK=>?_,fun j T h1 h2 h3=>?_,fun bK=>?_⟩
       ·unfold okN at tB;split at tB
        ·omega
        ·exact tB
       ·rw[hcong];have hj:j<(S :: sn).reverse.length:=(List.getElem?_eq_some_iff.1 h3).1;simp only[List.length_reverse,List.length_cons] at hj;rw[List.getElem?_reverse (by simpa using hj)] at h3;simp only[List.length_cons] at h3;by_cases he:j=sn.length
        ·subst he;simp at h3;subst h3;exact hv
        ·have e1:sn.length+1-1-j=(sn.length-1-j)+1:=by omega
         rw[e1,List.getElem?_cons_succ] at h3;exact reP_one (wC nv _ T (by omega) h3)
       ·obtain ⟨m,Ed⟩:∃ m,kp=m+1:=⟨kp-1,by omega⟩
        subst Ed;exact ⟨⟨q.o,v,m+1⟩,List.mem_cons_self ..,rfl,rfl,hkp⟩
    have ih:=lP l pl (P++[r]) (up F r.o.dst v) S ps sn _ id xm (by rw[oq];exact hn) hd hb2 hi fg hw2 yN uA (by rw[Ee];exact hk);rw[dx,hc];simp only[];rw[mU] at hv;cases hww:bz ops F r.o.guard with
    | none=>rw[hww] at hv;cases hv
    | some b=>
     rw[hww] at hv;cases b with
     | true=>
      refine ⟨fun _=>?_,fun e=>by cases e⟩;simp only[] at hv;cases ha:bo cx F S r.o<;>rw[ha] at hv<;>first|(cases hv;done)|skip
      cases hv;exact ⟨_,_,rfl,ih⟩
     | false=>
      refine ⟨fun e=>(by cases e),fun _=>?_⟩;cases hv;exact ih
   | f=>
    have fg:(bM r.cls&&fq rows l pl sn.length)=true:=hm;rw[Bool.and_eq_true] at fg;have hc:r.cls=.fresh:=by cases pT:r.cls<;>rw[pT] at fg<;>first|rfl|(cases fg.1)
    have h':rB cx ops r.o F id (fun v x=>eE cx ops pl (l.map (·.o)) (P.length+1) (up F r.o.dst v) S (⟨P.length,id,x⟩ :: ps) sn lv (id+1) Q) (eE cx ops pl (l.map (·.o)) (P.length+1) (up F r.o.dst .undef) S ps sn lv id Q):=h;have uA:∀ v,Seen cx ops rows (P++[r]) (up F r.o.dst v) S sn lv:=by
     intro v q hq rl;rcases List.mem_append.1 hq with hq|hq
     ·exact carry v lv (fun _ hx=>hx) q hq rl
     ·rw[List.mem_singleton] at hq;subst hq;rw[hc] at rl;cases rl
    rw[dx,hc];simp only[];unfold rB at h';cases hww:bz ops F r.o.guard with
    | none=>rw[hww] at h';exact h'.elim
    | some b=>
     rw[hww] at h';cases b with
     | true=>
      refine ⟨fun _=>?_,fun e=>by cases e⟩;have h1:=h'.1 rfl;unfold Eu at h1;cases hf:aC cx F id r.o.op with
      | none=>rw[hf] at h1;exact h1.elim
      | some vx=>
       obtain ⟨v,x⟩:=vx;rw[hf] at h1;refine ⟨v,x,rfl,?_⟩;rw[hri];refine lP l pl (P++[r]) (up F r.o.dst v) S _ sn lv (id+1) xm (by rw[oq];exact hn) hd hb2 hi fg.2 hw2 (fun y hy=>?_) (uA v) (by rw[Ee];exact h1);rcases List.mem_cons.1 hy with rfl|hy
       ·exact ⟨r,by rw[zS];simp,fg.1,hri⟩
       ·exact yN y hy
     | false=>
      refine ⟨fun e=>(by cases e),fun _=>?_⟩;exact lP l pl (P++[r]) (up F r.o.dst .undef) S ps sn lv id xm (by rw[oq];exact hn) hd hb2 hi fg.2 hw2 yN (uA _) (by rw[Ee];exact h'.2 rfl)
   | e cm=>
    have fg:(bB r.cls&&eY (fun f=>cond (bM f.cls) (cond (tn f.i cm) (bit r.c7 f.i) (!bit r.c7 f.i)) true) rows&&fq rows l pl (sn.length+1))=true:=hm;simp only[Bool.and_eq_true] at fg;obtain ⟨⟨hef,hcm⟩,fg⟩:=fg;have hc:r.cls=.vG:=by cases pT:r.cls<;>rw[pT] at hef<;>first|rfl|(cases hef)
    rw[mA] at hcm;have hcm':∀ x,x∈ps→tn x.i cm=bit r.c7 x.i:=by
     intro x hx;obtain ⟨f,f1,f2,f3⟩:=yN x hx;have:=hcm f f1;rw[f2] at this;simp only[cond_true,f3] at this;cases hmm:tn x.i cm<;>rw[hmm] at this<;>cases nv:bit r.c7 x.i<;>rw[nv] at this<;>first|rfl|(cases this)
    obtain ⟨c1,c2⟩:=comL_eq (S:=S) hcm';have h':eR cx ops r.o F (comL cm ps S) fun v S'=>mR cx ops F S' lv∧eE cx ops pl (l.map (·.o)) (P.length+1) (up F r.o.dst v) S' (qg cm ps) (S :: sn) (ss lv) id Q:=h;rw[dx,hc];simp only[];rw[c1] at h';refine mK h' ?_;rintro v S' ⟨hre,hk⟩;rw[←c2];refine lP l pl (P++[r]) (up F r.o.dst v) S' (qg cm ps) (S :: sn) (ss lv) id xm (by rw[oq];exact hn) hd hb2 hi fg hw2 (fun x hx=>?_) ?_ (by rw[Ee];exact hk)
    ·have:x∈ps:=by
      rw[c2,j7] at hx;exact (List.mem_filter.1 hx).1
     exact yN x this
    ·intro q hq rl;rcases List.mem_append.1 hq with hq|hq
     ·obtain ⟨d,u,k1,k2,k3,k4,k5⟩:=hs q hq rl;have hcong:∀ T,ej cx ops (up F r.o.dst v) T q.o=ej cx ops F T q.o:=fun T=>ik fun t ht=>fU q hq rl v t (.inr ht);refine ⟨d,u,k1,by rw[fU q hq rl v d (.inl k1)];exact k2,k3,fun j T h1 h2 h3=>?_,fun hh=>?_⟩
      ·rw[hcong];rw[List.reverse_cons] at h3;by_cases hj:j<(S :: sn).reverse.length
       ·rw[List.getElem?_append_left hj] at h3;exact k4 j T h1 h2 h3
       ·have hj2:j=sn.length+1:=by
         have:=(List.getElem?_eq_some_iff.1 h3).1;simp at this hj;omega
        subst hj2;rw[List.getElem?_append_right (by simp)] at h3;simp at h3;subst h3;obtain ⟨x,x1,x2,x3,_⟩:=k5 (by omega);have:=reLive_mem hre x x1;rw[x2,x3] at this;exact reP_one this
      ·simp only[List.length_cons] at hh;obtain ⟨x,x1,x2,x3,x4⟩:=k5 (by omega);obtain ⟨y,y1,y2,y3,y4⟩:=decL_mem x1 (by omega);exact ⟨y,y1,y2.trans x2,y3.trans x3,by rw[y4,x4];simp only[List.length_cons];omega⟩
     ·rw[List.mem_singleton] at hq;subst hq;rw[hc] at rl;cases rl
theorem iP {rows:List Row}:∀ (l:List Row) (pl:List Pk) (k:Nat),fq rows l pl k=true→oE l=qR pl
 | [],[],_,_=>rfl
 | [],a :: pl,k,h=>by cases a<;>cases h
 | r :: l,[],k,h=>by cases h
 | r :: l,a :: pl,k,h=>by
  have e:oE (r :: l)=cond (bM r.cls) (Nat.succ (oE l)) (oE l):=rfl;cases a with
  | p=>
   have fg:((match r.cls with | .pure=>true|_=>false)&&fq rows l pl k)=true:=h;rw[Bool.and_eq_true] at fg;have hc:bM r.cls=false:=by cases pT:r.cls<;>rw[pT] at fg<;>first|rfl|(cases fg.1)
   rw[e,hc,iP l pl k fg.2];rfl
  | r b n=>
   have fg:(eu r.cls&&Nat.ble (DN rows r) k&&Nat.beq b (k-DN rows r)&&Nat.beq n (hiN rows r-k)&&fq rows l pl k)=true:=h;simp only[Bool.and_eq_true] at fg;have hc:bM r.cls=false:=by cases pT:r.cls<;>rw[pT] at fg<;>first|rfl|(cases fg.1.1.1.1)
   rw[e,hc,iP l pl k fg.2];rfl
  | f=>
   have fg:(bM r.cls&&fq rows l pl k)=true:=h;rw[Bool.and_eq_true] at fg;rw[e,fg.1,iP l pl k fg.2];rfl
  | e cm=>
   have fg:(bB r.cls&&eY (fun f=>cond (bM f.cls) (cond (tn f.i cm) (bit r.c7 f.i) (!bit r.c7 f.i)) true) rows&&fq rows l pl (k+1))=true:=h;simp only[Bool.and_eq_true] at fg;have hc:bM r.cls=false:=by cases pT:r.cls<;>rw[pT] at fg<;>first|rfl|(cases fg.1.1)
   rw[e,hc,iP l pl (k+1) fg.2];rfl
theorem aK {cx:Cx} {ops:List Oper} {F:Fr} {S:AS} {Q:Fr→AS→Prop} {n:Nat} (pl:List Pk) (hk:planIs cx n ops pl=true) (hn:F.n=n)
  (h:eE cx ops pl ops 0 F ⟨S.h,S.next+qR pl⟩ [] [] [] S.next Q):jJ cx ops F S Q:=by
 unfold planIs at hk;simp only[Bool.and_eq_true] at hk;obtain ⟨⟨⟨h1,h2⟩,h3⟩,h4⟩:=hk;have hp:=tf cx ops.toArray;simp only[List.toList_toArray] at hp;obtain ⟨pln,_⟩:=hp;have hmap:(settle (cT cx ops)).map (·.o)=ops:=by
  apply List.ext_getElem?;intro i;rw[List.getElem?_map];cases hi:(settle (cT cx ops))[i]? with
  | none=>
   have hlen:=pln.len;simp only[List.size_toArray] at hlen;rw[List.getElem?_eq_none_iff] at hi;simp only[Option.map_none];exact (List.getElem?_eq_none_iff.2 (by omega)).symm
  | some r=>
   have:=(pln.row i r hi).2;simp only[List.getElem?_toArray] at this;simp[this]
 refine ⟨?_⟩;unfold sm Ds;rw[h1];simp only[cond_true];rw[iP _ _ _ h4];exact lP (n:=n) _ pl [] F _ [] [] [] S.next (by simp) hn h3 h2 (fun i r hr=>(pln.row i r hr).1) h4 (fun r hr=>by cases hr) (fun x hx=>by cases hx) (fun q hq=>by cases hq) (by rw[hmap];exact h)
section
variable {cx:Cx} {ops l:List Oper} {pl:List Pk} {o:Oper} {i id:Nat} {F:Fr} {S:AS} {ps:List da} {sn:List AS} {lv:List Live} {Q:Fr→AS→Prop}
def wontP (cx:Cx) (ops:List Oper) (pl:List Pk) (l:List Oper) (i:Nat) (F:Fr) (d:Option Nat) (S:AS) (ps:List da) (sn:List AS) (lv:List Live) (id:Nat) (Q:Fr→AS→Prop) (v:AV):Prop:=eE cx ops pl l i (up F d v) S ps sn lv id Q
def wontR (cx:Cx) (ops:List Oper) (pl:List Pk) (l:List Oper) (i b k:Nat) (F:Fr) (o:Oper) (S:AS) (ps:List da) (sn:List AS) (lv:List Live) (id:Nat) (Q:Fr→AS→Prop) (v:AV):Prop:=
 n8 cx ops F o v b sn∧okN b k v∧eE cx ops pl l i (up F o.dst v) S ps sn (zO o v k lv) id Q
def wontF (cx:Cx) (ops:List Oper) (pl:List Pk) (l:List Oper) (i:Nat) (F:Fr) (d:Option Nat) (S:AS) (ps:List da) (sn:List AS) (lv:List Live) (id:Nat) (Q:Fr→AS→Prop) (v:AV) (x:bE):Prop:=
 eE cx ops pl l (i+1) (up F d v) S (⟨i,id,x⟩ :: ps) sn lv (id+1) Q
def wontE (cx:Cx) (ops:List Oper) (pl:List Pk) (l:List Oper) (i:Nat) (F:Fr) (d:Option Nat) (S:AS) (ps:List da) (sn:List AS) (lv:List Live) (id:Nat) (Q:Fr→AS→Prop) (v:AV) (S':AS):Prop:=
 mR cx ops F S' lv∧eE cx ops pl l i (up F d v) S' ps (S :: sn) (ss lv) id Q
theorem rowsW_nil:eE cx ops [] [] i F S ps sn lv id Q=Q F (comA ps S):=by rw[eE]
theorem rowsW_p:eE cx ops (.p :: pl) (o :: l) i F S ps sn lv id Q=lL cx ops o F S (wontP cx ops pl l (i+1) F o.dst S ps sn lv id Q):=by rw[eE];rfl
theorem rowsW_r {b k:Nat}:eE cx ops (.r b k :: pl) (o :: l) i F S ps sn lv id Q=lL cx ops o F S (wontR cx ops pl l (i+1) b k F o S ps sn lv id Q):=by rw[eE];rfl
theorem rowsW_f:eE cx ops (.f :: pl) (o :: l) i F S ps sn lv id Q=rB cx ops o F id (wontF cx ops pl l i F o.dst S ps sn lv id Q) (eE cx ops pl l (i+1) (up F o.dst .undef) S ps sn lv id Q):=by rw[eE];rfl
theorem rowsW_e {cm:List Nat}:eE cx ops (.e cm :: pl) (o :: l) i F S ps sn lv id Q=eR cx ops o F (comL cm ps S) (wontE cx ops pl l (i+1) F o.dst S (qg cm ps) sn lv id Q):=by rw[eE];rfl
theorem wontP_app {d:Option Nat} {v:AV}:wontP cx ops pl l i F d S ps sn lv id Q v=eE cx ops pl l i (up F d v) S ps sn lv id Q:=rfl
theorem wontR_app {b k:Nat} {v:AV}:wontR cx ops pl l i b k F o S ps sn lv id Q v=(n8 cx ops F o v b sn∧okN b k v∧eE cx ops pl l i (up F o.dst v) S ps sn (zO o v k lv) id Q):=rfl
theorem wontF_app {d:Option Nat} {v:AV} {x:bE}:wontF cx ops pl l i F d S ps sn lv id Q v x=eE cx ops pl l (i+1) (up F d v) S (⟨i,id,x⟩ :: ps) sn lv (id+1) Q:=rfl
theorem wontE_app {d:Option Nat} {v:AV} {S':AS}:wontE cx ops pl l i F d S ps sn lv id Q v S'=(mR cx ops F S' lv∧eE cx ops pl l i (up F d v) S' ps (S :: sn) (ss lv) id Q):=rfl
variable {dst:Option Tmp} {op:Op} {ty:TypeId} {pos:String} {af:Array Edge} {K:AV→Prop} {KF:AV→bE→Prop} {J:Prop}
theorem stepV_free:lL cx ops ⟨dst,op,ty,pos,af,none⟩ F S K=Cy (bo cx F S ⟨dst,op,ty,pos,af,none⟩) K:=by simp[lL,bz]
theorem stepV_run {j d:Nat} {w b:Bool} (h1:ei ops j=some d) (h2:sl F d=.bool b) (h3:(b == w)=true):lL cx ops ⟨dst,op,ty,pos,af,some (j,w)⟩ F S K=Cy (bo cx F S ⟨dst,op,ty,pos,af,some (j,w)⟩) K:=by
 have hw:=eH (w:=w) h1 h2;obtain rfl:b=w:=by simpa using h3
 show (match bz ops F (some (j,b)) with
  | some b'=>(b'=true→Cy (bo cx F S ⟨dst,op,ty,pos,af,some (j,b)⟩) K)∧(b'=false→K AV.undef)
  | none=>False)=_
 rw[hw];cases b<;>simp
theorem stepV_skip {j d:Nat} {w b:Bool} (h1:ei ops j=some d) (h2:sl F d=.bool b) (h3:(b == !w)=true):lL cx ops ⟨dst,op,ty,pos,af,some (j,w)⟩ F S K=K AV.undef:=by
 have hw:=eH (w:=w) h1 h2;obtain rfl:b=!w:=by simpa using h3
 show (match bz ops F (some (j,w)) with
  | some b'=>(b'=true→Cy (bo cx F S ⟨dst,op,ty,pos,af,some (j,w)⟩) K)∧(b'=false→K AV.undef)
  | none=>False)=_
 rw[hw];cases w<;>simp
theorem CH {j d:Nat} {w:Bool} (h1:ei ops j=some d) (h2:sl F d=.undef):lL cx ops ⟨dst,op,ty,pos,af,some (j,w)⟩ F S K=K AV.undef:=by
 obtain ⟨p,e1,e2⟩:=jd ops j d h1;have hw:bz ops F (some (j,w))=some false:=by simp[bz,e1,e2,h2,AV.undef]
 show (match bz ops F (some (j,w)) with
  | some b'=>(b'=true→Cy (bo cx F S ⟨dst,op,ty,pos,af,some (j,w)⟩) K)∧(b'=false→K AV.undef)
  | none=>False)=_
 rw[hw];simp
theorem stepA_free:rB cx ops ⟨dst,op,ty,pos,af,none⟩ F id KF J=Eu (aC cx F id op) KF:=by simp[rB,bz]
theorem stepA_run {j d:Nat} {w b:Bool} (h1:ei ops j=some d) (h2:sl F d=.bool b) (h3:(b == w)=true):rB cx ops ⟨dst,op,ty,pos,af,some (j,w)⟩ F id KF J=Eu (aC cx F id op) KF:=by
 have hw:=eH (w:=w) h1 h2;obtain rfl:b=w:=by simpa using h3
 show (match bz ops F (some (j,b)) with
  | some b'=>(b'=true→Eu (aC cx F id op) KF)∧(b'=false→J)
  | none=>False)=_
 rw[hw];cases b<;>simp
theorem stepA_skip {j d:Nat} {w b:Bool} (h1:ei ops j=some d) (h2:sl F d=.bool b) (h3:(b == !w)=true):rB cx ops ⟨dst,op,ty,pos,af,some (j,w)⟩ F id KF J=J:=by
 have hw:=eH (w:=w) h1 h2;obtain rfl:b=!w:=by simpa using h3
 show (match bz ops F (some (j,w)) with
  | some b'=>(b'=true→Eu (aC cx F id op) KF)∧(b'=false→J)
  | none=>False)=_
 rw[hw];cases w<;>simp
theorem CN {j d:Nat} {w:Bool} (h1:ei ops j=some d) (h2:sl F d=.undef):rB cx ops ⟨dst,op,ty,pos,af,some (j,w)⟩ F id KF J=J:=by
 obtain ⟨p,e1,e2⟩:=jd ops j d h1;have hw:bz ops F (some (j,w))=some false:=by simp[bz,e1,e2,h2,AV.undef]
 show (match bz ops F (some (j,w)) with
  | some b'=>(b'=true→Eu (aC cx F id op) KF)∧(b'=false→J)
  | none=>False)=_
 rw[hw];simp
theorem freP_some {v:AV} {x:bE}:Eu (some (v,x)) KF=KF v x:=rfl
theorem valP_val {v:AV} {S':AS}:Cy (.val v S') K=K v:=rfl
theorem aopIs_val {v u:AV} {S':AS}:uT (.val u S') v=(u=v):=rfl
variable {v:AV}
theorem reP_free:reP cx ops F S ⟨dst,op,ty,pos,af,none⟩ v=uT (bo cx F S ⟨dst,op,ty,pos,af,none⟩) v:=by simp[reP,bz]
theorem reP_run {j d:Nat} {w b:Bool} (h1:ei ops j=some d) (h2:sl F d=.bool b) (h3:(b == w)=true):reP cx ops F S ⟨dst,op,ty,pos,af,some (j,w)⟩ v=uT (bo cx F S ⟨dst,op,ty,pos,af,some (j,w)⟩) v:=by
 have hw:=eH (w:=w) h1 h2;obtain rfl:b=w:=by simpa using h3
 show (match bz ops F (some (j,b)) with
  | some b'=>(b'=true→uT (bo cx F S ⟨dst,op,ty,pos,af,some (j,b)⟩) v)∧(b'=false→v=AV.undef)
  | none=>False)=_
 rw[hw];cases b<;>simp
theorem reP_skip {j d:Nat} {w b:Bool} (h1:ei ops j=some d) (h2:sl F d=.bool b) (h3:(b == !w)=true):reP cx ops F S ⟨dst,op,ty,pos,af,some (j,w)⟩ AV.undef=True:=by
 have hw:=eH (w:=w) h1 h2;obtain rfl:b=!w:=by simpa using h3
 show (match bz ops F (some (j,w)) with
  | some b'=>(b'=true→uT (bo cx F S ⟨dst,op,ty,pos,af,some (j,w)⟩) AV.undef)∧(b'=false→AV.undef=AV.undef)
  | none=>False)=_
 rw[hw];cases w<;>simp
theorem reP_undef {j d:Nat} {w:Bool} (h1:ei ops j=some d) (h2:sl F d=.undef):reP cx ops F S ⟨dst,op,ty,pos,af,some (j,w)⟩ AV.undef=True:=by
 obtain ⟨p,e1,e2⟩:=jd ops j d h1;have hw:bz ops F (some (j,w))=some false:=by simp[bz,e1,e2,h2,AV.undef]
 show (match bz ops F (some (j,w)) with
  | some b'=>(b'=true→uT (bo cx F S ⟨dst,op,ty,pos,af,some (j,w)⟩) AV.undef)∧(b'=false→AV.undef=AV.undef)
  | none=>False)=_
 rw[hw];simp
theorem okN_zero:okN 0 0 v=True:=rfl
theorem okN_back {b k:Nat}:okN (b+1) k v=(okW v=true):=rfl
theorem okN_keep {b k:Nat}:okN b (k+1) v=(okW v=true):=by cases b<;>rfl
theorem liveN_zero:zO o v 0 lv=lv:=rfl
theorem liveN_succ {k:Nat}:zO o v (k+1) lv=⟨o,v,k+1⟩ :: lv:=rfl
theorem decL_one {l:List Live}:ss (⟨o,v,1⟩ :: l)=ss l:=rfl
theorem decL_more {l:List Live} {n:Nat}:ss (⟨o,v,n+2⟩ :: l)=⟨o,v,n+1⟩ :: ss l:=rfl
theorem Dh:n8 cx ops F o v 0 sn=True:=by cases sn<;>rfl
theorem Di {n:Nat}:n8 cx ops F o v (n+1) (S :: sn)=(reP cx ops F S o v∧n8 cx ops F o v n sn):=rfl
theorem reLive_nil:mR cx ops F S []=True:=rfl
theorem Dg {x:Live} {l:List Live}:mR cx ops F S (x :: l)=(reP cx ops F S x.o x.v∧mR cx ops F S l):=rfl
end
end Go.Am
end
