/-
  The abstract machine: a function with several outcomes that all lay the same row becomes one that the machine need not enter.
-/
import Derived.Test.YtgkdgiognhbfjaaGreatDoorAmEach
namespace Go.Am
open Go
set_option linter.unusedVariables false
theorem calls_ofE {Λ:LB} {P:Program} {A:Ask} (h:oD P A) (hp:∀ x,x∈A.cy→fk Λ P x.1 x.2) (hg:∀ x,x∈A.fq→kk Λ.w Λ.B x.1 x.2) {ρ:aB} {f:FuncId} {as:List AV} {S:AS} {w:World} {args:Array Value}
  (hR:R Λ ρ S w) (hl:ak ρ as args.toList) {Q:AV→AS→Prop} (hc:eB (pX P A) f as S Q) :
  (∃ fn,P.funcs[f]?=some fn∧fn.body.isSome=true)∧Calls P f args w fun e w'=>∃ x v S' ρ',e=.returned x∧ah ρ' v x∧bD v=false∧Q v S'∧R Λ ρ' S' w'∧Kp ρ S w ρ' S' w':=by
 obtain ⟨n,hc⟩:=hc;have au:=cx_ok h hp hg;have hK:=ou au (Ba au (wX au h.mixed) n).1;refine hK ρ (.fn f) as S w args (fun e w'=>∃ x v S' ρ',e=.returned x∧ah ρ' v x∧bD v=false∧Q v S'∧R Λ ρ' S' w'∧Kp ρ S w ρ' S' w') (hc.mono fun r hr ρ' e w' h1 h2 h3=>?_) hR hl;rcases h1.cases with ⟨_,x,rfl,hx⟩|⟨u,x,hu,_,_⟩
 ·exact ⟨x,r.1,r.2,ρ',rfl,hx,hr.1,hr.2,h2,h3⟩
 ·have:=hr.1;rw[hu] at this;cases this
theorem yJ {Λ:LB} {P:Program} {A:Ask} (hr:oD P A) (hp:∀ x,x∈A.cy→fk Λ P x.1 x.2) (hg:∀ x,x∈A.fq→kk Λ.w Λ.B x.1 x.2) {f:FuncId} {q:List AV→AS→Option (AV×AS)}
  (h:∀ as S v S',q as S=some (v,S')→∃ (ids:List Nat) (k:AV×Option (Nat×bu)) (N:Nat),v=k.1∧S'=ep S N k.2∧S.next≤N∧(∀ i o,k.2=some (i,o)→S.next≤i∧i<N∧∃ cells t y,o=.row cells t t false y∧iB (dN 2) cells=true) ∧
   eB (pX P A) f as (nr S ids) fun v' T=>pG S (v',T)=some k∧(∀ i,i∈ids→T.h.get i=S.h.get i)∧N≤T.next):fk Λ P f q:=by
 intro ρ as S w args v S' hR hl hq;obtain ⟨ids,k,N,rfl,rfl,hN,qb,hc⟩:=h as S v S' hq;obtain ⟨k1,k2⟩:=calls_ofE hr hp hg (hR.cut ids) hl hc;refine ⟨k1,k2.mono ?_⟩;rintro e w' ⟨x,v',T,ρ',rfl,h1,hnp,⟨h2,h3,h4⟩,h5,h6⟩;have hret:fw ρ' (v',T).1 (.returned x):=by
  cases v'<;>first|exact ⟨x,rfl,h1⟩|cases hnp
 obtain ⟨ρ2,g1,g2,g3⟩:=keep_ok (r:=(v',T)) hR h2 h3 hret h5 h6;have hv:ah ρ2 k.1 x:=by
  rcases g1.cases with ⟨_,y,hy,hx⟩|⟨u,y,hu,hy,_⟩
  ·cases hy;exact hx
  ·cases hy
 have hh:(ep S N k.2).h=(ep S T.next k.2).h:=by cases k.2<;>rfl
 have hn3:(ep S N k.2).next=N:=by cases k.2<;>rfl
 have nY:(ep S T.next k.2).next=T.next:=by cases k.2<;>rfl
 have fB:∀ i o,(ep S N k.2).h.get i=some o→(i<S.next∧S.h.get i=some o)∨(S.next≤i∧i<N∧∃ cells t y,o=.row cells t t false y∧iB (dN 2) cells=true):=by
  intro i o ho;cases hk:k.2 with
  | none=>rw[hk] at ho;exact .inl ⟨hR.rX i o ho,ho⟩
  | some jx=>
   obtain ⟨j,y⟩:=jx;rw[hk] at ho;obtain ⟨r1,r2,r3⟩:=qb j y hk;by_cases gJ:i=j
   ·subst gJ;have:(S.h.set i y).get i=some o:=ho;rw[aa] at this;cases this;exact .inr ⟨r1,r2,r3⟩
   ·have:(S.h.set j y).get i=some o:=ho;rw[ae _ _ gJ] at this;exact .inl ⟨hR.rX i o this,this⟩
 have bF:∀ i o,(ep S N k.2).h.get i=some o→i<N:=by
  intro i o ho;rcases fB i o ho with ⟨h,_⟩|⟨_,h,_⟩
  ·omega
  ·exact h
 have hx:Ext ρ (fun i g=>if i<N then ρ2 i g else none):=by
  intro i g pl eV;have hi:i<S.next:=by
   rcases Nat.lt_or_ge i S.next with hh|hh
   ·exact hh
   ·rw[hR.fresh i g hh] at eV;cases eV
  simp only[if_pos (show i<N by omega)];exact g3.ext i g pl eV
 have aW:Sub (ep S N k.2) (ep S T.next k.2):=⟨fun id _=>by rw[hh],by rw[hn3,nY];exact h4⟩
 have hO:∀ id o,(ep S N k.2).h.get id=some o→qz (fun i g=>if i<(ep S N k.2).next then ρ2 i g else none) w' id o:=by
  rw[hn3];intro id o ho;have hT:(ep S T.next k.2).h.get id=some o:=by rw[←hh];exact ho
  have hidN:=bF id o ho;rcases fB id o ho with ⟨h,hS⟩|⟨_,_,cells,t,y,rfl,hf⟩
  ·exact qz.restrict hx g3.ext (fun g=>by simp only[if_pos hidN]) (hR.eC id o hS) (g2.eC id o hT)
  ·obtain ⟨a1,a2,a3⟩:=g2.eC id _ hT;refine ⟨a1,fun j j1 j2=>?_,fun j j' p q b1 b2 b3 b4 hp hq e=>?_⟩
   ·obtain ⟨pl,C,fr,q1,q2,q3,q4,q5,q6,q7,q8,q9⟩:=a2 j j1 j2;refine ⟨pl,C,fr,by simp only[if_pos hidN];exact q1,q2,q3,q4,q5,fun n hn=>?_,q7,q8,q9⟩;obtain ⟨z,u,s1,s2,s3,s4⟩:=q6 n hn;refine ⟨z,u,s1,s2,?_,s4⟩;have AN:dN 2 z=true:=by
     have gen:∀ (l:List AV) (n:Nat) (y:AV),iB (dN 2) l=true→l[n]?=some y→dN 2 y=true:=by
      intro l
      induction l with
      | nil=>intro n y _ h;simp at h
      | cons z l ih=>
       intro n y h hy;simp only[iB,Bool.and_eq_true] at h;cases n with
       | zero=>simp at hy;subst hy;exact h.1
       | succ n=>exact ih n y h.2 (by simpa using hy)
     exact gen cells n z hf s1
    exact rz 2 z u _ _ AN s3
   ·simp only[if_pos hidN] at hp hq;exact a3 j j' p q b1 b2 b3 b4 hp hq e
 refine ⟨x,fun i g=>if i<(ep S N k.2).next then ρ2 i g else none,rfl,?_,g2.drop aW (fun id o ho=>by rw[hn3];exact bF id o ho) hO,?_⟩
 ·-- the value
  rw[hn3];have jC:=h2;unfold pG at jC;split at jC
  ·rename_i id g off len aq sz cap hv1;have hv1':v'=.slice id g off len aq sz cap:=hv1;have hk1:k.1=.slice id g off len aq sz cap∧∃ o,k.2=some (id,o):=by
    cases hb:Nat.ble S.next id with
    | false=>rw[hb] at jC;cases jC
    | true=>
     rw[hb] at jC;simp only[cond_true] at jC;split at jC
     ·rename_i cells low top frz ty hrw;cases mf:(iB (dN 2) cells&&Nat.beq g top&&Nat.ble low top) with
      | false=>rw[mf] at jC;cases jC
      | true=>rw[mf] at jC;cases jC;exact ⟨hv1',_,rfl⟩
     ·cases jC
   obtain ⟨e1,o,e2⟩:=hk1;have hidN:=(qb id o e2).2.1;rw[e1] at hv ⊢;simp only[ah] at hv ⊢;obtain ⟨pl,c,p1,rest⟩:=hv;exact ⟨pl,c,by rw[if_pos hidN];exact p1,rest⟩
  ·rename_i aZ;cases mf:dN 3 v' with
   | false=>
    have:(cond (dN 3 v') (some (v',(none:Option (Nat×bu)))) none)=some k:=jC;rw[mf] at this;cases this
   | true=>
    have:(cond (dN 3 v') (some (v',(none:Option (Nat×bu)))) none)=some k:=jC;rw[mf] at this;cases this;exact rz 3 v' x _ _ mf hv
 ·rw[hn3];refine ⟨hx,g3.os,g3.tape,g3.output,g3.size,g3.b6,fun b hb=>?_,fun b hb=>?_,by rw[hn3];exact hN,fun id g hi hn=>?_⟩
  ·obtain ⟨i,o,g,pl,hi,fi,rfl⟩:=hb;simp only[if_pos (bF i o hi)] at fi;exact g3.vQ _ ⟨i,o,g,pl,by rw[←hh];exact hi,fi,rfl⟩
  ·obtain ⟨i,o,g,pl,hi,hz,fi,rfl⟩:=hb;simp only[if_pos (bF i o hi)] at fi;exact g3.wrt _ ⟨i,o,g,pl,by rw[←hh];exact hi,hz,fi,rfl⟩
  ·refine ⟨by simp only[if_pos (show id<N by omega)];exact (g3.nj id g hi hn).1,?_⟩;rw[hh];exact (g3.nj id g hi hn).2
end Go.Am
namespace Go.Am
open Go
set_option linter.unusedVariables false
def l9 (es:List aX) (clock:Nat):Prop:=(∀ e,e∈es→e.born<clock)∧es.Pairwise fun a b=>a.born≠b.born
theorem isNilL_eq {α:Type} (l:List α):nT l=l.isEmpty:=by cases l<;>rfl
variable {S:AS} {id m:Nat} {seen:List Nat} {es:List aX} {clock:Nat}
theorem CO (hw:l9 es clock) :
  yQ S id m clock seen clock es clock≠[]∧∀ y,y∈yQ S id m clock seen clock es clock →
   (y=(.tuple [.bool false],S)∧∀ e,e∈es→e.born∈seen)∨∃ e,e∈es∧e.born∉seen∧y=Am.vm S id m clock seen clock e:=by
 have h1:(!nT seen&&(!nT es&&eA (fun e=>Nat.ble clock e.born) es))=false:=by
  cases es with
  | nil=>simp[nT]
  | cons e es=>
   have:=hw.1 e (List.mem_cons_self ..);have:Nat.ble clock e.born=false:=by rw[bX];simp;omega
   rw[fu];simp[this]
 have ji:(es.filter fun e=>!mK e.born seen).filter (fun e=>!Nat.blt e.born clock)=[]:=by
  rw[List.filter_eq_nil_iff];intro e he;have:=hw.1 e (List.mem_filter.1 he).1;have hb:Nat.blt e.born clock=true:=by
   show Nat.ble (Nat.succ e.born) clock=true;rw[bX];simp;omega
  simp[hb]
 have hold:(es.filter fun e=>!mK e.born seen).filter (fun e=>Nat.blt e.born clock)=es.filter fun e=>!mK e.born seen:=by
  rw[List.filter_eq_self];intro e he;have:=hw.1 e (List.mem_filter.1 he).1;show Nat.ble (Nat.succ e.born) clock=true;rw[bX];simp;omega
 unfold yQ;rw[h1];simp only[cond_false,jD,hold,ji,bf,List.append_nil,fo,isNilL_eq];cases hl:es.filter fun e=>!mK e.born seen with
 | nil=>
  simp only[List.isEmpty_nil,cond_true,List.map_nil];refine ⟨by simp,fun y hy=>.inl ⟨by simpa using hy,fun e he=>?_⟩⟩;have:=List.filter_eq_nil_iff.1 hl e he;rw[uS] at this;simpa using this
 | cons z l=>
  simp only[List.isEmpty_cons,cond_false];refine ⟨by simp,fun y hy=>.inr ?_⟩;obtain ⟨e,he,rfl⟩:=List.mem_map.1 hy;rw[←hl] at he;obtain ⟨q1,q2⟩:=List.mem_filter.1 he;rw[uS] at q2;exact ⟨e,q1,by simpa using q2,rfl⟩
theorem findB_of (hw:es.Pairwise fun a b=>a.born≠b.born) {e:aX} (he:e∈es):∀ i,∃ j,oq e.born es i=some (j,e):=by
 induction es with
 | nil=>cases he
 | cons z es ih=>
  intro i;obtain ⟨h1,h2⟩:=List.pairwise_cons.1 hw;have u:oq e.born (z :: es) i=cond (Nat.beq z.born e.born) (some (i,z)) (oq e.born es (Nat.succ i)):=rfl;rw[u,aT];rcases List.mem_cons.1 he with rfl|he
  ·simp
  ·have:=h1 e he;simp only[this,decide_false,cond_false];exact ih h2 he _
section
variable {cx:Cx} {F:Fr} {dst:Option Tmp} {ty:TypeId} {pos:String} {af:Array Edge} {g:Option (Nat×Bool)}
theorem zy {id:Nat} {as:List AV}:lS cx S (.obj .El id) as=.round id as S:=rfl
theorem aop_range {t:TypeId} {x:Operand}:bj cx F S ⟨dst,.range t x,ty,pos,af,g⟩=b8 (pU cx S t (eval F x)) 88:=rfl
theorem aop_next {x:Operand} {s:Bool}:bj cx F S ⟨dst,.next x s,ty,pos,af,g⟩=lH S (eval F x) s:=rfl
theorem aop_entry {x:Operand}:bj cx F S ⟨dst,.entry x,ty,pos,af,g⟩=val? (qh S (eval F x)) S 89:=rfl
theorem rangeV_map {t a b:TypeId} {id:Nat} {es:List aX} {clock:Nat} (hu:bm cx t=some (.map a b)) (h:S.h.get id=some (.map es clock)) :
  pU cx S t (.map id)=some (.ptr S.next 0 0 0,⟨S.h.set S.next (.cK (.iter (some id) clock [] clock)),Nat.succ S.next⟩):=by
 unfold pU;rw[hu];simp only[h]
theorem nextV_map {i m since last l:Nat} {seen:List Nat} (h1:S.h.get i=some (.cK (.iter (some m) since seen last))) (h2:S.h.get m=some (.map es clock)) :
  lH S (.ptr i 0 0 l) false=.many (yQ S i m since seen last es clock):=by
 unfold lH;simp only[h1,h2];rfl
theorem entryV_map {i m since l b:Nat} {seen:List Nat} {e:aX} (h1:S.h.get i=some (.cK (.iter (some m) since (b :: seen) clock))) (h2:S.h.get m=some (.map es clock)) (hw:es.Pairwise fun a b=>a.born≠b.born) (he:e∈es) (hb:e.born=b) :
  qh S (.ptr i 0 0 l)=some (.tuple [e.key,e.val]):=by
 subst hb;obtain ⟨j,hj⟩:=findB_of hw he 0;unfold qh;simp only[h1,h2,aT,decide_true,cond_true,hj]
end
end Go.Am
namespace Go.Am
open Go
set_option linter.unusedVariables false
def Cx.wp (cx:Cx) (p:T (List AV→AS→Option (AV×AS))):Cx:=⟨cx.kV,cx.fns,cx.eqs,cx.exts,p,cx.fq,cx.iW⟩
def PLe (p p':T (List AV→AS→Option (AV×AS))):Prop:=∀ f,match p.get f with
 | none=>p'.get f=none
 | some q=>∀ as S r,q as S=some r→∃ q',p'.get f=some q'∧q' as S=some r
def hole (_:List AV) (_:AS):Option (AV×AS):=none
section
variable {cx:Cx} {p:T (List AV→AS→Option (AV×AS))}
end
end Go.Am
