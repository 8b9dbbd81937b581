/-
  The abstract machine: a region that draws its order and changes the memory: its plan, read off ahead; what is asked of its reading operations is asked where the memory turns.
-/
import Derived.Test.YtgkdgiognhbfjaaGreatDoorAmStill
noncomputable section
namespace Go.Am
open Go
set_option linter.unusedSimpArgs false
def okW:AV→Bool
 | .func (.func _) a b=>kh a&&kh b
 | v=>rb v
theorem okW_same (v:AV) (h:okW v=true):cq 8 v v=true:=by
 cases v<;>try exact vJ _ h
 rename_i fn a b;cases fn<;>try exact vJ _ h
 simp only[okW,Bool.and_eq_true] at h;rename_i f;show (Nat.beq f f&&pS 7 a a&&pS 7 b b)=true;rw[kg 6 a h.1,kg 6 b h.2];simp[aT]
inductive Pk where
 | p|f|r (back b6:Nat)|e (cm:List Nat)
structure Live where
 o:Oper
 v:AV
 n:Nat
def qf:List Pk→Nat
 | []=>0
 | .f :: l=>qf l+1
 | .p :: l=>qf l
 | .r _ _ :: l=>qf l
 | .e _ :: l=>qf l
def sD (n:Nat):List Nat→Bool
 | []=>false
 | m :: l=>(n == m)||sD n l
def comL (cm:List Nat):List cQ→AS→AS
 | [],S=>S
 | x :: ps,S=>comL cm ps (if sD x.i cm=true then ⟨S.h.set x.id x.obj,S.next⟩ else S)
def pF (cm:List Nat):List cQ→List cQ
 | []=>[]
 | x :: ps=>if sD x.i cm=true then pF cm ps else x :: pF cm ps
def comA:List cQ→AS→AS
 | [],S=>S
 | x :: ps,S=>comA ps ⟨S.h.set x.id x.obj,S.next⟩
def rH:List Live→List Live
 | []=>[]
 | x :: l=>match x.n with
  | 0=>rH l
  | 1=>rH l
  | n+2=>⟨x.o,x.v,n+1⟩ :: rH l
def ub (r:AR) (v:AV):Prop:=match r with | .val u _=>u=v|_=>False
def reP (cx:Cx) (ops:List Oper) (F:Fr) (T:AS) (o:Oper) (v:AV):Prop:=
 match bg ops F o.guard with
 | some b=>(b=true→ub (bj cx F T o) v)∧(b=false→v=.undef)
 | none=>False
def mC (cx:Cx) (ops:List Oper) (F:Fr) (T:AS):List Live→Prop
 | []=>True
 | x :: l=>reP cx ops F T x.o x.v∧mC cx ops F T l
def nM (cx:Cx) (ops:List Oper) (F:Fr) (o:Oper) (v:AV):Nat→List AS→Prop
 | 0,_=>True
 | _+1,[]=>True
 | n+1,T :: sn=>reP cx ops F T o v∧nM cx ops F o v n sn
def okN (back b6:Nat) (v:AV):Prop:=match back,b6 with|0,0=>True|_,_=>okW v=true
def yV (o:Oper) (v:AV) (b6:Nat) (lv:List Live):List Live:=match b6 with|0=>lv|n+1=>⟨o,v,n+1⟩ :: lv
def BT (r:AR) (K:AV→Prop):Prop:=match r with | .val v _=>K v|_=>False
def lr (cx:Cx) (ops:List Oper) (o:Oper) (F:Fr) (S:AS) (K:AV→Prop):Prop:=
 match bg ops F o.guard with
 | some b=>(b=true→BT (bj cx F S o) K)∧(b=false→K .undef)
 | none=>False
def Ds (r:Option (AV×bu)) (K:AV→bu→Prop):Prop:=match r with|some (v,x)=>K v x|none=>False
def qI (cx:Cx) (ops:List Oper) (o:Oper) (F:Fr) (id:Nat) (K:AV→bu→Prop) (J:Prop):Prop:=
 match bg ops F o.guard with
 | some b=>(b=true→Ds (al cx F id o.op) K)∧(b=false→J)
 | none=>False
def dJ (cx:Cx) (ops:List Oper):List Pk→List Oper→Nat→Fr→AS→List cQ→List AS→List Live→Nat→(Fr→AS→Prop)→Prop
 | [],[],_,F,S,ps,_,_,_,Q=>Q F (comA ps S)
 | .p :: pl,o :: l,i,F,S,ps,sn,lv,id,Q=>lr cx ops o F S fun v=>dJ cx ops pl l (i+1) (up F o.dst v) S ps sn lv id Q
 | .r b k :: pl,o :: l,i,F,S,ps,sn,lv,id,Q=>lr cx ops o F S fun v=>nM cx ops F o v b sn∧okN b k v∧dJ cx ops pl l (i+1) (up F o.dst v) S ps sn (yV o v k lv) id Q
 | .f :: pl,o :: l,i,F,S,ps,sn,lv,id,Q=>qI cx ops o F id (fun v x=>dJ cx ops pl l (i+1) (up F o.dst v) S (⟨i,id,x⟩ :: ps) sn lv (id+1) Q) (dJ cx ops pl l (i+1) (up F o.dst .undef) S ps sn lv id Q)
 | .e cm :: pl,o :: l,i,F,S,ps,sn,lv,id,Q=>dU cx ops o F (comL cm ps S) fun v S'=>mC cx ops F S' lv∧dJ cx ops pl l (i+1) (up F o.dst v) S' (pF cm ps) (S :: sn) (rH lv) id Q
 | _,_,_,_,_,_,_,_,_,_=>False
def CT (rows:List Row) (r:Row):Nat:=dD (fun e=>bit r.cN e.i) (fD (fun e=>bo e.cls) rows)
def hiN (rows:List Row) (r:Row):Nat:=CT rows r+Nat.sub (dD (fun e=>!bit e.cN r.i) (fD (fun e=>bo e.cls) rows)) (CT rows r)
def eF (rows:List Row):List Row→List Pk→Nat→Bool
 | [],[],_=>true
 | r :: l,.p :: pl,k=>(match r.cls with | .pure=>true|_=>false)&&eF rows l pl k
 | r :: l,.f :: pl,k=>bz r.cls&&eF rows l pl k
 | r :: l,.r b n :: pl,k=>dC r.cls&&Nat.ble (CT rows r) k&&Nat.beq b (k-CT rows r)&&Nat.beq n (hiN rows r-k)&&eF rows l pl k
 | r :: l,.e cm :: pl,k=>bo r.cls&&eA (fun f=>cond (bz f.cls) (cond (sD f.i cm) (bit r.cN f.i) (!bit r.cN f.i)) true) rows&&eF rows l pl (k+1)
 | _,_,_=>false
def calmB (ops:List Oper):List Row→Bool
 | []=>true
 | r :: l=>cond (dC r.cls) (match r.o.dst with
  | some d=>!mK d (fU ops r.o)&&eA (fun w=>match w.o.dst with|some e=>!Nat.beq e d && !mK e (fU ops r.o)|none=>true) l
  | none=>false) true&&calmB ops l
def planIs (cx:Cx) (n:Nat) (ops:List Oper) (pl:List Pk):Bool:=
 fV ops (settle (cM cx ops))&&calmB ops (settle (cM cx ops))&&mU n (settle (cM cx ops))&&eF (settle (cM cx ops)) (settle (cM cx ops)) pl 0
theorem comA_eq:∀ (ps:List cQ) (S:AS),comA ps S=aU (fun _=>true) ps S
 | [],_=>rfl
 | x :: ps,S=>by
  show comA ps _=aU (fun _=>true) ps (cond true _ _);rw[comA_eq ps];rfl
theorem comL_eq {cm:List Nat} {m:Nat}:∀ {ps:List cQ} {S:AS},(∀ x,x∈ps→sD x.i cm=bit m x.i)→comL cm ps S=aU (fun p=>bit m p.i) ps S∧pF cm ps=fD (fun p=>!bit m p.i) ps
 | [],S,_=>⟨rfl,rfl⟩
 | x :: ps,S,h=>by
  have hx:=h x (List.mem_cons_self ..);obtain ⟨h1,h2⟩:=comL_eq (ps:=ps) (S:=if sD x.i cm=true then ⟨S.h.set x.id x.obj,S.next⟩ else S) fun y hy=>h y (List.mem_cons_of_mem _ hy);constructor
  ·show comL cm ps _=aU (fun p=>bit m p.i) ps (cond (bit m x.i) _ S);rw[h1,←hx];cases sD x.i cm<;>rfl
  ·show pF cm (x :: ps)=cond (!bit m x.i) (x :: fD (fun p=>!bit m p.i) ps) (fD (fun p=>!bit m p.i) ps);rw[pF,h2,←hx];cases sD x.i cm<;>rfl
theorem reP_one {cx:Cx} {ops:List Oper} {F:Fr} {T:AS} {o:Oper} {v:AV} (h:reP cx ops F T o v):dZ cx ops F T o=some v:=by
 unfold reP at h;rw[mG];cases hw:bg ops F o.guard with
 | none=>rw[hw] at h;exact h.elim
 | some b=>
  rw[hw] at h;cases b with
  | true=>
   have h1:=h.1 rfl;unfold ub at h1;simp only[];cases ha:bj cx F T o<;>rw[ha] at h1<;>first|exact h1.elim|exact congrArg some h1
  | false=>rw[h.2 rfl]
theorem yw {cx:Cx} {ops:List Oper} {F:Fr} {S:AS} {o:Oper} {K:AV→Prop} (h:lr cx ops o F S K):∃ v,dZ cx ops F S o=some v∧K v:=by
 unfold lr at h;rw[mG];cases hw:bg ops F o.guard with
 | none=>rw[hw] at h;exact h.elim
 | some b=>
  rw[hw] at h;cases b with
  | true=>
   have h1:=h.1 rfl;unfold BT at h1;simp only[];cases ha:bj cx F S o<;>rw[ha] at h1<;>first|exact h1.elim|exact ⟨_,rfl,h1⟩
  | false=>exact ⟨_,rfl,h.2 rfl⟩
def Seen (cx:Cx) (ops:List Oper) (rows:List Row) (P:List Row) (F:Fr) (S:AS) (sn:List AS) (lv:List Live):Prop:=
 ∀ q,q∈P→dC q.cls=true→∃ d v,q.o.dst=some d∧F.t.get d=some v∧(CT rows q<hiN rows q→okW v=true) ∧
  (∀ j T,CT rows q≤j→j≤hiN rows q→(S :: sn).reverse[j]?=some T→dZ cx ops F T q.o=some v) ∧
  (sn.length<hiN rows q→∃ x,x∈lv∧x.o=q.o∧x.v=v∧x.n=hiN rows q-sn.length)
theorem reLive_mem {cx:Cx} {ops:List Oper} {F:Fr} {T:AS} {lv:List Live} (h:mC cx ops F T lv):∀ x,x∈lv→reP cx ops F T x.o x.v:=by
 induction lv with
 | nil=>intro x hx;cases hx
 | cons y l ih=>
  intro x hx;rcases List.mem_cons.1 hx with e|hx
  ·rw[e];exact h.1
  ·exact ih h.2 x hx
theorem decL_mem {lv:List Live} {x:Live} (hx:x∈lv) (hn:1<x.n):∃ y,y∈rH lv∧y.o=x.o∧y.v=x.v∧y.n=x.n-1:=by
 induction lv with
 | nil=>cases hx
 | cons a l ih=>
  rcases List.mem_cons.1 hx with e|hx
  ·subst e;obtain ⟨o,v,n⟩:=x
   match n,hn with
   | n+2,_=>exact ⟨⟨o,v,n+1⟩,List.mem_cons_self ..,rfl,rfl,by simp⟩
  ·obtain ⟨y,h1,h2⟩:=ih hx;refine ⟨y,?_,h2⟩;obtain ⟨o,v,n⟩:=a
   match n with
   | 0=>exact h1
   | 1=>exact h1
   | n+2=>exact List.mem_cons_of_mem _ h1
theorem vD {cx:Cx} {ops:List Oper} {F:Fr} {o:Oper} {v:AV}:∀ {n:Nat} {sn:List AS},nM cx ops F o v n sn→∀ i T,i<n→sn[i]?=some T→reP cx ops F T o v
 | n+1,T :: sn,h,0,T',_,ht=>by simp at ht;subst ht;exact h.1
 | n+1,T :: sn,h,i+1,T',hi,ht=>vD h.2 i T' (by omega) (by simpa using ht)
theorem lC {cx:Cx} {ops:List Oper} {rows:List Row} {n:Nat} {Q:Fr→AS→Prop}:∀ (l:List Row) (pl:List Pk) (P:List Row) (F:Fr) (S:AS) (ps:List cQ) (sn:List AS) (lv:List Live) (id:Nat),
  rows=P++l→F.n=n→mU n rows=true→calmB ops l=true→(∀ (i:Nat) (r:Row),rows[i]?=some r→r.i=i)→eF rows l pl sn.length=true →
  (∀ r,r∈P→dC r.cls=true→∀ w,w∈l→∀ e,w.o.dst=some e→some e≠r.o.dst∧e∉fU ops r.o) →
  (∀ x,x∈ps→∃ f,f∈rows∧bz f.cls=true∧f.i=x.i) →
  Seen cx ops rows P F S sn lv→dJ cx ops pl (l.map (·.o)) P.length F S ps sn lv id Q →
  da cx ops l F S ps sn id fun F' S' sn'=>winP cx ops rows F' (sk sn')∧Q F' S'
 | [],pl,P,F,S,ps,sn,lv,id,y6,hn,hd,_,_,hm,_,_,hs,h=>by
  have eV:pl=[]:=by
   cases pl with
   | nil=>rfl
   | cons a pl=>cases a<;>cases hm
  subst eV;have h':Q F (comA ps S):=h;rw[comA_eq] at h';refine ⟨?_,h'⟩;intro q hq hr;rw[y6,List.append_nil] at hq;obtain ⟨d,v,e1,e2,e3,e4,_⟩:=hs q hq hr;have hdn:d<F.n:=by
   rw[hn];have:=List.all_eq_true.1 hd q (by rw[y6,List.append_nil];exact hq);unfold A6 at this;rw[e1] at this;simpa[gW] using this
  unfold hZ;simp only[];have dv:∀ T,T∈takeN (Nat.succ (Nat.sub (dD (fun e=>!bit e.cN q.i) (fD (fun e=>bo e.cls) rows)) (dD (fun e=>bit q.cN e.i) (fD (fun e=>bo e.cls) rows)))) (kF (dD (fun e=>bit q.cN e.i) (fD (fun e=>bo e.cls) rows)) (sk (S :: sn)))→dZ cx ops F T q.o=some v:=by
   intro T hT;rw[cl,cC,uN] at hT;obtain ⟨i,hi⟩:=List.getElem?_of_mem hT;rw[List.getElem?_take] at hi;split at hi
   ·rename_i bF;rw[List.getElem?_drop] at hi;exact e4 (CT rows q+i) T (Nat.le_add_right _ _) (by unfold hiN;have:=Nat.le_of_lt_succ bF;unfold CT at *;omega) hi
   ·cases hi
  split
  ·rfl
  ·rename_i aZ;simp only[e1,gW,hdn,decide_true,cond_true,e2];rw[lZ];intro T hT;rw[dv T hT];refine okW_same v (e3 ?_);rcases Nat.lt_or_ge (CT rows q) (hiN rows q) with h0|h0
   ·exact h0
   ·exfalso;have hz:Nat.sub (dD (fun e=>!bit e.cN q.i) (fD (fun e=>bo e.cls) rows)) (CT rows q)=0:=by unfold hiN at h0;omega
    unfold CT at hz;rw[hz,cl,cC] at hT aZ;generalize hL:List.drop (dD (fun e=>bit q.cN e.i) (fD (fun e=>bo e.cls) rows)) (sk (S :: sn))=L at hT aZ;cases L with
    | nil=>simp at hT
    | cons a L=>exact aZ a (by simp)
 | r :: l,pl,P,F,S,ps,sn,lv,id,y6,hn,hd,hb,hi,hm,hw,gI,hs,h=>by
  simp only[calmB,Bool.and_eq_true] at hb;obtain ⟨xJ,Dj⟩:=hb;have wj:rows=(P++[r])++l:=by rw[y6];simp
  have hri:r.i=P.length:=hi P.length r (by rw[y6];simp);have Dc:(P++[r]).length=P.length+1:=by simp
  have fB:∀ q,q∈P→dC q.cls=true→∀ (v:AV) t,(q.o.dst=some t∨t∈fU ops q.o)→(up F r.o.dst v).t.get t=F.t.get t:=by
   intro q hq qB v t ht;refine oX fun e=>?_;obtain ⟨k1,k2⟩:=hw q hq qB r (List.mem_cons_self ..) t e;rcases ht with ht|ht
   ·exact k1 ht.symm
   ·exact k2 ht
  have xY:∀ q,q∈P++[r]→dC q.cls=true→∀ w,w∈l→∀ e,w.o.dst=some e→some e≠q.o.dst∧e∉fU ops q.o:=by
   intro q hq qB w hwl e he;rcases List.mem_append.1 hq with hq|hq
   ·exact hw q hq qB w (List.mem_cons_of_mem _ hwl) e he
   ·rw[List.mem_singleton] at hq;subst hq;rw[qB] at xJ;simp only[cond_true] at xJ;cases hdq:q.o.dst with
    | none=>rw[hdq] at xJ;cases xJ
    | some d=>
     rw[hdq] at xJ;simp only[Bool.and_eq_true,Bool.not_eq_true'] at xJ;obtain ⟨_,h2⟩:=xJ;rw[lZ] at h2;have:=h2 w hwl;rw[he] at this;simp only[aT,Bool.and_eq_true,Bool.not_eq_true',decide_eq_false_iff_not] at this;refine ⟨fun e'=>this.1 (by cases e';rfl),fun e'=>?_⟩;have h3:=(rh _ _).2 e';rw[h3] at this;cases this.2
  have carry:∀ (v:AV) (lv2:List Live),(∀ x,x∈lv→x∈lv2)→∀ q,q∈P→dC q.cls=true→∃ d u,q.o.dst=some d∧(up F r.o.dst v).t.get d=some u∧(CT rows q<hiN rows q→okW u=true) ∧
    (∀ j T,CT rows q≤j→j≤hiN rows q→(S :: sn).reverse[j]?=some T→dZ cx ops (up F r.o.dst v) T q.o=some u) ∧
    (sn.length<hiN rows q→∃ x,x∈lv2∧x.o=q.o∧x.v=u∧x.n=hiN rows q-sn.length):=by
   intro v lv2 uW q hq qB;obtain ⟨d,u,k1,k2,k3,k4,k5⟩:=hs q hq qB;refine ⟨d,u,k1,by rw[fB q hq qB v d (.inl k1)];exact k2,k3,fun j T h1 h2 h3=>?_,fun hh=>?_⟩
   ·rw[←k4 j T h1 h2 h3];exact gG fun t ht=>fB q hq qB v t (.inr ht)
   ·obtain ⟨x,x1,x2⟩:=k5 hh;exact ⟨x,uW x x1,x2⟩
  cases pl with
  | nil=>cases hm
  | cons a pl=>
   cases a with
   | p=>
    have eW:((match r.cls with | .pure=>true|_=>false)&&eF rows l pl sn.length)=true:=hm;rw[Bool.and_eq_true] at eW;have hc:r.cls=.pure:=by cases ph:r.cls<;>rw[ph] at eW<;>first|rfl|(cases eW.1)
    obtain ⟨v,hv,hk⟩:=yw (show lr cx ops r.o F S _ from h);have tK:Seen cx ops rows (P++[r]) (up F r.o.dst v) S sn lv:=by
     intro q hq qB;rcases List.mem_append.1 hq with hq|hq
     ·exact carry v lv (fun _ hx=>hx) q hq qB
     ·rw[List.mem_singleton] at hq;subst hq;rw[hc] at qB;cases qB
    have ih:=lC l pl (P++[r]) (up F r.o.dst v) S ps sn lv id wj (by rw[kN];exact hn) hd Dj hi eW.2 xY gI tK (by rw[Dc];exact hk);rw[da,hc];simp only[];rw[mG] at hv;cases hww:bg ops F r.o.guard with
    | none=>rw[hww] at hv;cases hv
    | some b=>
     rw[hww] at hv;cases b with
     | true=>
      refine ⟨fun _=>?_,fun e=>by cases e⟩;simp only[] at hv;cases ha:bj cx F S r.o<;>rw[ha] at hv<;>first|(cases hv;done)|skip
      cases hv;exact ⟨_,_,rfl,ih⟩
     | false=>
      refine ⟨fun e=>(by cases e),fun _=>?_⟩;cases hv;exact ih
   | r bk kp=>
    have eW:(dC r.cls&&Nat.ble (CT rows r) sn.length&&Nat.beq bk (sn.length-CT rows r)&&Nat.beq kp (hiN rows r-sn.length)&&eF rows l pl sn.length)=true:=hm;simp only[Bool.and_eq_true,bX,aT,decide_eq_true_eq] at eW;obtain ⟨⟨⟨⟨wq,hlo⟩,hbk⟩,hkp⟩,eW⟩:=eW;have hc:r.cls=.read:=by cases ph:r.cls<;>rw[ph] at wq<;>first|rfl|(cases wq)
    obtain ⟨v,hv,lM,na,hk⟩:=yw (show lr cx ops r.o F S _ from h);rw[wq] at xJ;simp only[cond_true] at xJ;have tK:Seen cx ops rows (P++[r]) (up F r.o.dst v) S sn (yV r.o v kp lv):=by
     intro q hq qB;rcases List.mem_append.1 hq with hq|hq
     ·refine carry v _ (fun x hx=>?_) q hq qB;cases kp with
      | zero=>exact hx
      | succ m=>exact List.mem_cons_of_mem _ hx
     ·rw[List.mem_singleton] at hq;subst hq;cases hdq:q.o.dst with
      | none=>rw[hdq] at xJ;cases xJ
      | some d=>
       rw[hdq] at xJ;simp only[Bool.and_eq_true,Bool.not_eq_true'] at xJ;have hcong:∀ T,dZ cx ops (up F (some d) v) T q.o=dZ cx ops F T q.o:=by
        intro T;refine gG fun t ht=>oX fun e=>?_;cases e;rw[(rh _ _).2 ht] at xJ;cases xJ.1
       refine ⟨d,v,rfl,tP,fun bF=>?_,fun j T h1 h2 h3=>?_,fun bF=>?_⟩
       ·unfold okN at na;split at na
        ·omega
        ·exact na
       ·rw[hcong];have hj:j<(S :: sn).reverse.length:=(List.getElem?_eq_some_iff.1 h3).1;simp only[List.length_reverse,List.length_cons] at hj;rw[List.getElem?_reverse (by simpa using hj)] at h3;simp only[List.length_cons] at h3;by_cases he:j=sn.length
        ·subst he;simp at h3;subst h3;exact hv
        ·have e1:sn.length+1-1-j=(sn.length-1-j)+1:=by omega
         rw[e1,List.getElem?_cons_succ] at h3;exact reP_one (vD lM _ T (by omega) h3)
       ·obtain ⟨m,AJ⟩:∃ m,kp=m+1:=⟨kp-1,by omega⟩
        subst AJ;exact ⟨⟨q.o,v,m+1⟩,List.mem_cons_self ..,rfl,rfl,hkp⟩
    have ih:=lC l pl (P++[r]) (up F r.o.dst v) S ps sn _ id wj (by rw[kN];exact hn) hd Dj hi eW xY gI tK (by rw[Dc];exact hk);rw[da,hc];simp only[];rw[mG] at hv;cases hww:bg ops F r.o.guard with
    | none=>rw[hww] at hv;cases hv
    | some b=>
     rw[hww] at hv;cases b with
     | true=>
      refine ⟨fun _=>?_,fun e=>by cases e⟩;simp only[] at hv;cases ha:bj cx F S r.o<;>rw[ha] at hv<;>first|(cases hv;done)|skip
      cases hv;exact ⟨_,_,rfl,ih⟩
     | false=>
      refine ⟨fun e=>(by cases e),fun _=>?_⟩;cases hv;exact ih
   | f=>
    have eW:(bz r.cls&&eF rows l pl sn.length)=true:=hm;rw[Bool.and_eq_true] at eW;have hc:r.cls=.fresh:=by cases ph:r.cls<;>rw[ph] at eW<;>first|rfl|(cases eW.1)
    have h':qI cx ops r.o F id (fun v x=>dJ cx ops pl (l.map (·.o)) (P.length+1) (up F r.o.dst v) S (⟨P.length,id,x⟩ :: ps) sn lv (id+1) Q) (dJ cx ops pl (l.map (·.o)) (P.length+1) (up F r.o.dst .undef) S ps sn lv id Q):=h;have tK:∀ v,Seen cx ops rows (P++[r]) (up F r.o.dst v) S sn lv:=by
     intro v q hq qB;rcases List.mem_append.1 hq with hq|hq
     ·exact carry v lv (fun _ hx=>hx) q hq qB
     ·rw[List.mem_singleton] at hq;subst hq;rw[hc] at qB;cases qB
    rw[da,hc];simp only[];unfold qI at h';cases hww:bg ops F r.o.guard with
    | none=>rw[hww] at h';exact h'.elim
    | some b=>
     rw[hww] at h';cases b with
     | true=>
      refine ⟨fun _=>?_,fun e=>by cases e⟩;have h1:=h'.1 rfl;unfold Ds at h1;cases hf:al cx F id r.o.op with
      | none=>rw[hf] at h1;exact h1.elim
      | some vx=>
       obtain ⟨v,x⟩:=vx;rw[hf] at h1;refine ⟨v,x,rfl,?_⟩;rw[hri];refine lC l pl (P++[r]) (up F r.o.dst v) S _ sn lv (id+1) wj (by rw[kN];exact hn) hd Dj hi eW.2 xY (fun y hy=>?_) (tK v) (by rw[Dc];exact h1);rcases List.mem_cons.1 hy with rfl|hy
       ·exact ⟨r,by rw[y6];simp,eW.1,hri⟩
       ·exact gI y hy
     | false=>
      refine ⟨fun e=>(by cases e),fun _=>?_⟩;exact lC l pl (P++[r]) (up F r.o.dst .undef) S ps sn lv id wj (by rw[kN];exact hn) hd Dj hi eW.2 xY gI (tK _) (by rw[Dc];exact h'.2 rfl)
   | e cm=>
    have eW:(bo r.cls&&eA (fun f=>cond (bz f.cls) (cond (sD f.i cm) (bit r.cN f.i) (!bit r.cN f.i)) true) rows&&eF rows l pl (sn.length+1))=true:=hm;simp only[Bool.and_eq_true] at eW;obtain ⟨⟨hef,hcm⟩,eW⟩:=eW;have hc:r.cls=.wT:=by cases ph:r.cls<;>rw[ph] at hef<;>first|rfl|(cases hef)
    rw[lZ] at hcm;have hcm':∀ x,x∈ps→sD x.i cm=bit r.cN x.i:=by
     intro x hx;obtain ⟨f,f1,f2,f3⟩:=gI x hx;have:=hcm f f1;rw[f2] at this;simp only[cond_true,f3] at this;cases hmm:sD x.i cm<;>rw[hmm] at this<;>cases lM:bit r.cN x.i<;>rw[lM] at this<;>first|rfl|(cases this)
    obtain ⟨c1,c2⟩:=comL_eq (S:=S) hcm';have h':dU cx ops r.o F (comL cm ps S) fun v S'=>mC cx ops F S' lv∧dJ cx ops pl (l.map (·.o)) (P.length+1) (up F r.o.dst v) S' (pF cm ps) (S :: sn) (rH lv) id Q:=h;rw[da,hc];simp only[];rw[c1] at h';refine mn h' ?_;rintro v S' ⟨hre,hk⟩;rw[←c2];refine lC l pl (P++[r]) (up F r.o.dst v) S' (pF cm ps) (S :: sn) (rH lv) id wj (by rw[kN];exact hn) hd Dj hi eW xY (fun x hx=>?_) ?_ (by rw[Dc];exact hk)
    ·have:x∈ps:=by
      rw[c2,jD] at hx;exact (List.mem_filter.1 hx).1
     exact gI x this
    ·intro q hq qB;rcases List.mem_append.1 hq with hq|hq
     ·obtain ⟨d,u,k1,k2,k3,k4,k5⟩:=hs q hq qB;have hcong:∀ T,dZ cx ops (up F r.o.dst v) T q.o=dZ cx ops F T q.o:=fun T=>gG fun t ht=>fB q hq qB v t (.inr ht);refine ⟨d,u,k1,by rw[fB q hq qB v d (.inl k1)];exact k2,k3,fun j T h1 h2 h3=>?_,fun hh=>?_⟩
      ·rw[hcong];rw[List.reverse_cons] at h3;by_cases hj:j<(S :: sn).reverse.length
       ·rw[List.getElem?_append_left hj] at h3;exact k4 j T h1 h2 h3
       ·have hj2:j=sn.length+1:=by
         have:=(List.getElem?_eq_some_iff.1 h3).1;simp at this hj;omega
        subst hj2;rw[List.getElem?_append_right (by simp)] at h3;simp at h3;subst h3;obtain ⟨x,x1,x2,x3,_⟩:=k5 (by omega);have:=reLive_mem hre x x1;rw[x2,x3] at this;exact reP_one this
      ·simp only[List.length_cons] at hh;obtain ⟨x,x1,x2,x3,x4⟩:=k5 (by omega);obtain ⟨y,y1,y2,y3,y4⟩:=decL_mem x1 (by omega);exact ⟨y,y1,y2.trans x2,y3.trans x3,by rw[y4,x4];simp only[List.length_cons];omega⟩
     ·rw[List.mem_singleton] at hq;subst hq;rw[hc] at qB;cases qB
theorem ir {rows:List Row}:∀ (l:List Row) (pl:List Pk) (k:Nat),eF rows l pl k=true→og l=qf pl
 | [],[],_,_=>rfl
 | [],a :: pl,k,h=>by cases a<;>cases h
 | r :: l,[],k,h=>by cases h
 | r :: l,a :: pl,k,h=>by
  have e:og (r :: l)=cond (bz r.cls) (Nat.succ (og l)) (og l):=rfl;cases a with
  | p=>
   have eW:((match r.cls with | .pure=>true|_=>false)&&eF rows l pl k)=true:=h;rw[Bool.and_eq_true] at eW;have hc:bz r.cls=false:=by cases ph:r.cls<;>rw[ph] at eW<;>first|rfl|(cases eW.1)
   rw[e,hc,ir l pl k eW.2];rfl
  | r b n=>
   have eW:(dC r.cls&&Nat.ble (CT rows r) k&&Nat.beq b (k-CT rows r)&&Nat.beq n (hiN rows r-k)&&eF rows l pl k)=true:=h;simp only[Bool.and_eq_true] at eW;have hc:bz r.cls=false:=by cases ph:r.cls<;>rw[ph] at eW<;>first|rfl|(cases eW.1.1.1.1)
   rw[e,hc,ir l pl k eW.2];rfl
  | f=>
   have eW:(bz r.cls&&eF rows l pl k)=true:=h;rw[Bool.and_eq_true] at eW;rw[e,eW.1,ir l pl k eW.2];rfl
  | e cm=>
   have eW:(bo r.cls&&eA (fun f=>cond (bz f.cls) (cond (sD f.i cm) (bit r.cN f.i) (!bit r.cN f.i)) true) rows&&eF rows l pl (k+1))=true:=h;simp only[Bool.and_eq_true] at eW;have hc:bz r.cls=false:=by cases ph:r.cls<;>rw[ph] at eW<;>first|rfl|(cases eW.1.1)
   rw[e,hc,ir l pl (k+1) eW.2];rfl
theorem aF {cx:Cx} {ops:List Oper} {F:Fr} {S:AS} {Q:Fr→AS→Prop} {n:Nat} (pl:List Pk) (hk:planIs cx n ops pl=true) (hn:F.n=n)
  (h:dJ cx ops pl ops 0 F ⟨S.h,S.next+qf pl⟩ [] [] [] S.next Q):jl cx ops F S Q:=by
 unfold planIs at hk;simp only[Bool.and_eq_true] at hk;obtain ⟨⟨⟨h1,h2⟩,h3⟩,h4⟩:=hk;have hp:=su cx ops.toArray;simp only[List.toList_toArray] at hp;obtain ⟨pln,_⟩:=hp;have hmap:(settle (cM cx ops)).map (·.o)=ops:=by
  apply List.ext_getElem?;intro i;rw[List.getElem?_map];cases hi:(settle (cM cx ops))[i]? with
  | none=>
   have hlen:=pln.len;simp only[List.size_toArray] at hlen;rw[List.getElem?_eq_none_iff] at hi;simp only[Option.map_none];exact (List.getElem?_eq_none_iff.2 (by omega)).symm
  | some r=>
   have:=(pln.row i r hi).2;simp only[List.getElem?_toArray] at this;simp[this]
 refine ⟨?_⟩;unfold rF CC;rw[h1];simp only[cond_true];rw[ir _ _ _ h4];exact lC (n:=n) _ pl [] F _ [] [] [] S.next (by simp) hn h3 h2 (fun i r hr=>(pln.row i r hr).1) h4 (fun r hr=>by cases hr) (fun x hx=>by cases hx) (fun q hq=>by cases hq) (by rw[hmap];exact h)
section
variable {cx:Cx} {ops l:List Oper} {pl:List Pk} {o:Oper} {i id:Nat} {F:Fr} {S:AS} {ps:List cQ} {sn:List AS} {lv:List Live} {Q:Fr→AS→Prop}
def wontP (cx:Cx) (ops:List Oper) (pl:List Pk) (l:List Oper) (i:Nat) (F:Fr) (d:Option Nat) (S:AS) (ps:List cQ) (sn:List AS) (lv:List Live) (id:Nat) (Q:Fr→AS→Prop) (v:AV):Prop:=dJ cx ops pl l i (up F d v) S ps sn lv id Q
def wontR (cx:Cx) (ops:List Oper) (pl:List Pk) (l:List Oper) (i b k:Nat) (F:Fr) (o:Oper) (S:AS) (ps:List cQ) (sn:List AS) (lv:List Live) (id:Nat) (Q:Fr→AS→Prop) (v:AV):Prop:=
 nM cx ops F o v b sn∧okN b k v∧dJ cx ops pl l i (up F o.dst v) S ps sn (yV o v k lv) id Q
def wontF (cx:Cx) (ops:List Oper) (pl:List Pk) (l:List Oper) (i:Nat) (F:Fr) (d:Option Nat) (S:AS) (ps:List cQ) (sn:List AS) (lv:List Live) (id:Nat) (Q:Fr→AS→Prop) (v:AV) (x:bu):Prop:=
 dJ cx ops pl l (i+1) (up F d v) S (⟨i,id,x⟩ :: ps) sn lv (id+1) Q
def wontE (cx:Cx) (ops:List Oper) (pl:List Pk) (l:List Oper) (i:Nat) (F:Fr) (d:Option Nat) (S:AS) (ps:List cQ) (sn:List AS) (lv:List Live) (id:Nat) (Q:Fr→AS→Prop) (v:AV) (S':AS):Prop:=
 mC cx ops F S' lv∧dJ cx ops pl l i (up F d v) S' ps (S :: sn) (rH lv) id Q
theorem rowsW_nil:dJ cx ops [] [] i F S ps sn lv id Q=Q F (comA ps S):=by rw[dJ]
theorem rowsW_p:dJ cx ops (.p :: pl) (o :: l) i F S ps sn lv id Q=lr cx ops o F S (wontP cx ops pl l (i+1) F o.dst S ps sn lv id Q):=by rw[dJ];rfl
theorem rowsW_r {b k:Nat}:dJ cx ops (.r b k :: pl) (o :: l) i F S ps sn lv id Q=lr cx ops o F S (wontR cx ops pl l (i+1) b k F o S ps sn lv id Q):=by rw[dJ];rfl
theorem rowsW_f:dJ cx ops (.f :: pl) (o :: l) i F S ps sn lv id Q=qI cx ops o F id (wontF cx ops pl l i F o.dst S ps sn lv id Q) (dJ cx ops pl l (i+1) (up F o.dst .undef) S ps sn lv id Q):=by rw[dJ];rfl
theorem rowsW_e {cm:List Nat}:dJ cx ops (.e cm :: pl) (o :: l) i F S ps sn lv id Q=dU cx ops o F (comL cm ps S) (wontE cx ops pl l (i+1) F o.dst S (pF cm ps) sn lv id Q):=by rw[dJ];rfl
theorem wontP_app {d:Option Nat} {v:AV}:wontP cx ops pl l i F d S ps sn lv id Q v=dJ cx ops pl l i (up F d v) S ps sn lv id Q:=rfl
theorem wontR_app {b k:Nat} {v:AV}:wontR cx ops pl l i b k F o S ps sn lv id Q v=(nM cx ops F o v b sn∧okN b k v∧dJ cx ops pl l i (up F o.dst v) S ps sn (yV o v k lv) id Q):=rfl
theorem wontF_app {d:Option Nat} {v:AV} {x:bu}:wontF cx ops pl l i F d S ps sn lv id Q v x=dJ cx ops pl l (i+1) (up F d v) S (⟨i,id,x⟩ :: ps) sn lv (id+1) Q:=rfl
theorem wontE_app {d:Option Nat} {v:AV} {S':AS}:wontE cx ops pl l i F d S ps sn lv id Q v S'=(mC cx ops F S' lv∧dJ cx ops pl l i (up F d v) S' ps (S :: sn) (rH lv) id Q):=rfl
variable {dst:Option Tmp} {op:Op} {ty:TypeId} {pos:String} {af:Array Edge} {K:AV→Prop} {KF:AV→bu→Prop} {J:Prop}
theorem stepV_free:lr cx ops ⟨dst,op,ty,pos,af,none⟩ F S K=BT (bj cx F S ⟨dst,op,ty,pos,af,none⟩) K:=by simp[lr,bg]
theorem stepV_run {j d:Nat} {w b:Bool} (h1:dz ops j=some d) (h2:sl F d=.bool b) (h3:(b == w)=true):lr cx ops ⟨dst,op,ty,pos,af,some (j,w)⟩ F S K=BT (bj cx F S ⟨dst,op,ty,pos,af,some (j,w)⟩) K:=by
 have hw:=dP (w:=w) h1 h2;obtain rfl:b=w:=by simpa using h3
 show (match bg ops F (some (j,b)) with
  | some b'=>(b'=true→BT (bj cx F S ⟨dst,op,ty,pos,af,some (j,b)⟩) K)∧(b'=false→K AV.undef)
  | none=>False)=_
 rw[hw];cases b<;>simp
theorem stepV_skip {j d:Nat} {w b:Bool} (h1:dz ops j=some d) (h2:sl F d=.bool b) (h3:(b == !w)=true):lr cx ops ⟨dst,op,ty,pos,af,some (j,w)⟩ F S K=K AV.undef:=by
 have hw:=dP (w:=w) h1 h2;obtain rfl:b=!w:=by simpa using h3
 show (match bg ops F (some (j,w)) with
  | some b'=>(b'=true→BT (bj cx F S ⟨dst,op,ty,pos,af,some (j,w)⟩) K)∧(b'=false→K AV.undef)
  | none=>False)=_
 rw[hw];cases w<;>simp
theorem B1 {j d:Nat} {w:Bool} (h1:dz ops j=some d) (h2:sl F d=.undef):lr cx ops ⟨dst,op,ty,pos,af,some (j,w)⟩ F S K=K AV.undef:=by
 obtain ⟨p,e1,e2⟩:=iG ops j d h1;have hw:bg ops F (some (j,w))=some false:=by simp[bg,e1,e2,h2,AV.undef]
 show (match bg ops F (some (j,w)) with
  | some b'=>(b'=true→BT (bj cx F S ⟨dst,op,ty,pos,af,some (j,w)⟩) K)∧(b'=false→K AV.undef)
  | none=>False)=_
 rw[hw];simp
theorem stepA_free:qI cx ops ⟨dst,op,ty,pos,af,none⟩ F id KF J=Ds (al cx F id op) KF:=by simp[qI,bg]
theorem stepA_run {j d:Nat} {w b:Bool} (h1:dz ops j=some d) (h2:sl F d=.bool b) (h3:(b == w)=true):qI cx ops ⟨dst,op,ty,pos,af,some (j,w)⟩ F id KF J=Ds (al cx F id op) KF:=by
 have hw:=dP (w:=w) h1 h2;obtain rfl:b=w:=by simpa using h3
 show (match bg ops F (some (j,b)) with
  | some b'=>(b'=true→Ds (al cx F id op) KF)∧(b'=false→J)
  | none=>False)=_
 rw[hw];cases b<;>simp
theorem stepA_skip {j d:Nat} {w b:Bool} (h1:dz ops j=some d) (h2:sl F d=.bool b) (h3:(b == !w)=true):qI cx ops ⟨dst,op,ty,pos,af,some (j,w)⟩ F id KF J=J:=by
 have hw:=dP (w:=w) h1 h2;obtain rfl:b=!w:=by simpa using h3
 show (match bg ops F (some (j,w)) with
  | some b'=>(b'=true→Ds (al cx F id op) KF)∧(b'=false→J)
  | none=>False)=_
 rw[hw];cases w<;>simp
theorem B6 {j d:Nat} {w:Bool} (h1:dz ops j=some d) (h2:sl F d=.undef):qI cx ops ⟨dst,op,ty,pos,af,some (j,w)⟩ F id KF J=J:=by
 obtain ⟨p,e1,e2⟩:=iG ops j d h1;have hw:bg ops F (some (j,w))=some false:=by simp[bg,e1,e2,h2,AV.undef]
 show (match bg ops F (some (j,w)) with
  | some b'=>(b'=true→Ds (al cx F id op) KF)∧(b'=false→J)
  | none=>False)=_
 rw[hw];simp
theorem freP_some {v:AV} {x:bu}:Ds (some (v,x)) KF=KF v x:=rfl
theorem valP_val {v:AV} {S':AS}:BT (.val v S') K=K v:=rfl
theorem aopIs_val {v u:AV} {S':AS}:ub (.val u S') v=(u=v):=rfl
variable {v:AV}
theorem reP_free:reP cx ops F S ⟨dst,op,ty,pos,af,none⟩ v=ub (bj cx F S ⟨dst,op,ty,pos,af,none⟩) v:=by simp[reP,bg]
theorem reP_run {j d:Nat} {w b:Bool} (h1:dz ops j=some d) (h2:sl F d=.bool b) (h3:(b == w)=true):reP cx ops F S ⟨dst,op,ty,pos,af,some (j,w)⟩ v=ub (bj cx F S ⟨dst,op,ty,pos,af,some (j,w)⟩) v:=by
 have hw:=dP (w:=w) h1 h2;obtain rfl:b=w:=by simpa using h3
 show (match bg ops F (some (j,b)) with
  | some b'=>(b'=true→ub (bj cx F S ⟨dst,op,ty,pos,af,some (j,b)⟩) v)∧(b'=false→v=AV.undef)
  | none=>False)=_
 rw[hw];cases b<;>simp
theorem reP_skip {j d:Nat} {w b:Bool} (h1:dz ops j=some d) (h2:sl F d=.bool b) (h3:(b == !w)=true):reP cx ops F S ⟨dst,op,ty,pos,af,some (j,w)⟩ AV.undef=True:=by
 have hw:=dP (w:=w) h1 h2;obtain rfl:b=!w:=by simpa using h3
 show (match bg ops F (some (j,w)) with
  | some b'=>(b'=true→ub (bj cx F S ⟨dst,op,ty,pos,af,some (j,w)⟩) AV.undef)∧(b'=false→AV.undef=AV.undef)
  | none=>False)=_
 rw[hw];cases w<;>simp
theorem reP_undef {j d:Nat} {w:Bool} (h1:dz ops j=some d) (h2:sl F d=.undef):reP cx ops F S ⟨dst,op,ty,pos,af,some (j,w)⟩ AV.undef=True:=by
 obtain ⟨p,e1,e2⟩:=iG ops j d h1;have hw:bg ops F (some (j,w))=some false:=by simp[bg,e1,e2,h2,AV.undef]
 show (match bg ops F (some (j,w)) with
  | some b'=>(b'=true→ub (bj cx F S ⟨dst,op,ty,pos,af,some (j,w)⟩) AV.undef)∧(b'=false→AV.undef=AV.undef)
  | none=>False)=_
 rw[hw];simp
theorem okN_zero:okN 0 0 v=True:=rfl
theorem okN_back {b k:Nat}:okN (b+1) k v=(okW v=true):=rfl
theorem okN_keep {b k:Nat}:okN b (k+1) v=(okW v=true):=by cases b<;>rfl
theorem liveN_zero:yV o v 0 lv=lv:=rfl
theorem liveN_succ {k:Nat}:yV o v (k+1) lv=⟨o,v,k+1⟩ :: lv:=rfl
theorem decL_one {l:List Live}:rH (⟨o,v,1⟩ :: l)=rH l:=rfl
theorem decL_more {l:List Live} {n:Nat}:rH (⟨o,v,n+2⟩ :: l)=⟨o,v,n+1⟩ :: rH l:=rfl
theorem Cw:nM cx ops F o v 0 sn=True:=by cases sn<;>rfl
theorem Cy {n:Nat}:nM cx ops F o v (n+1) (S :: sn)=(reP cx ops F S o v∧nM cx ops F o v n sn):=rfl
theorem reLive_nil:mC cx ops F S []=True:=rfl
theorem Cv {x:Live} {l:List Live}:mC cx ops F S (x :: l)=(reP cx ops F S x.o x.v∧mC cx ops F S l):=rfl
end
end Go.Am
end
