/-
  The abstract machine: a function with several outcomes that all lay the same row becomes one that the machine need not enter.
-/
import Derived.Test.YtdknlbnljfdhgaaGreatDoorAmEach
namespace Go.Am
open Go
set_option linter.unusedVariables false
theorem calls_ofE {Λ:LB} {P:Program} {A:Ask} (h:nC P A) (hp:∀ x,x∈A.bG→fP Λ P x.1 x.2) (hg:∀ x,x∈A.eU→kQ Λ.w Λ.B x.1 x.2) {ρ:aI} {f:FuncId} {as:List AV} {S:AS} {w:World} {args:Array Value}
  (hR:R Λ ρ S w) (hl:au ρ as args.toList) {Q:AV→AS→Prop} (hc:gm (j4 P A) f as S Q) :
  (∃ fn,P.funcs[f]?=some fn∧fn.body.isSome=true)∧Calls P f args w fun e w'=>∃ x v S' ρ',e=.returned x∧ah ρ' v x∧bh v=false∧Q v S'∧R Λ ρ' S' w'∧Kp ρ S w ρ' S' w':=by
 obtain ⟨n,hc⟩:=hc;have az:=cx_ok h hp hg;have hK:=oK az (BG az (xO az h.mixed) n).1;refine hK ρ (.fn f) as S w args (fun e w'=>∃ x v S' ρ',e=.returned x∧ah ρ' v x∧bh v=false∧Q v S'∧R Λ ρ' S' w'∧Kp ρ S w ρ' S' w') (hc.mono fun r hr ρ' e w' h1 h2 h3=>?_) hR hl;rcases h1.cases with ⟨_,x,rfl,hx⟩|⟨u,x,hu,_,_⟩
 ·exact ⟨x,r.1,r.2,ρ',rfl,hx,hr.1,hr.2,h2,h3⟩
 ·have:=hr.1;rw[hu] at this;cases this
theorem zE {Λ:LB} {P:Program} {A:Ask} (hr:nC P A) (hp:∀ x,x∈A.bG→fP Λ P x.1 x.2) (hg:∀ x,x∈A.eU→kQ Λ.w Λ.B x.1 x.2) {f:FuncId} {q:List AV→AS→Option (AV×AS)}
  (h:∀ as S v S',q as S=some (v,S')→∃ (ids:List Nat) (k:AV×Option (Nat×bE)) (N:Nat),v=k.1∧S'=fe S N k.2∧S.next≤N∧(∀ i o,k.2=some (i,o)→S.next≤i∧i<N∧∃ cells t y,o=.row cells t t false y∧iX (eF 2) cells=true) ∧
   gm (j4 P A) f as (oI S ids) fun v' T=>qh S (v',T)=some k∧(∀ i,i∈ids→T.h.get i=S.h.get i)∧N≤T.next):fP Λ P f q:=by
 intro ρ as S w args v S' hR hl hq;obtain ⟨ids,k,N,rfl,rfl,hN,dI,hc⟩:=h as S v S' hq;obtain ⟨k1,k2⟩:=calls_ofE hr hp hg (hR.cut ids) hl hc;refine ⟨k1,k2.mono ?_⟩;rintro e w' ⟨x,v',T,ρ',rfl,h1,hnp,⟨h2,h3,h4⟩,h5,h6⟩;have xp:fT ρ' (v',T).1 (.returned x):=by
  cases v'<;>first|exact ⟨x,rfl,h1⟩|cases hnp
 obtain ⟨ρ2,g1,g2,g3⟩:=keep_ok (r:=(v',T)) hR h2 h3 xp h5 h6;have hv:ah ρ2 k.1 x:=by
  rcases g1.cases with ⟨_,y,hy,hx⟩|⟨u,y,hu,hy,_⟩
  ·cases hy;exact hx
  ·cases hy
 have hh:(fe S N k.2).h=(fe S T.next k.2).h:=by cases k.2<;>rfl
 have hn3:(fe S N k.2).next=N:=by cases k.2<;>rfl
 have rn:(fe S T.next k.2).next=T.next:=by cases k.2<;>rfl
 have fU:∀ i o,(fe S N k.2).h.get i=some o→(i<S.next∧S.h.get i=some o)∨(S.next≤i∧i<N∧∃ cells t y,o=.row cells t t false y∧iX (eF 2) cells=true):=by
  intro i o ho;cases hk:k.2 with
  | none=>rw[hk] at ho;exact .inl ⟨hR.sM i o ho,ho⟩
  | some jx=>
   obtain ⟨j,y⟩:=jx;rw[hk] at ho;obtain ⟨r1,r2,r3⟩:=dI j y hk;by_cases gO:i=j
   ·subst gO;have:(S.h.set i y).get i=some o:=ho;rw[aa] at this;cases this;exact .inr ⟨r1,r2,r3⟩
   ·have:(S.h.set j y).get i=some o:=ho;rw[ae _ _ gO] at this;exact .inl ⟨hR.sM i o this,this⟩
 have bK:∀ i o,(fe S N k.2).h.get i=some o→i<N:=by
  intro i o ho;rcases fU i o ho with ⟨h,_⟩|⟨_,h,_⟩
  ·omega
  ·exact h
 have hx:Ext ρ (fun i g=>if i<N then ρ2 i g else none):=by
  intro i g pl lf;have hi:i<S.next:=by
   rcases Nat.lt_or_ge i S.next with hh|hh
   ·exact hh
   ·rw[hR.fresh i g hh] at lf;cases lf
  simp only[if_pos (show i<N by omega)];exact g3.ext i g pl lf
 have aQ:Sub (fe S N k.2) (fe S T.next k.2):=⟨fun id _=>by rw[hh],by rw[hn3,rn];exact h4⟩
 have hO:∀ id o,(fe S N k.2).h.get id=some o→rh (fun i g=>if i<(fe S N k.2).next then ρ2 i g else none) w' id o:=by
  rw[hn3];intro id o ho;have hT:(fe S T.next k.2).h.get id=some o:=by rw[←hh];exact ho
  have hidN:=bK id o ho;rcases fU id o ho with ⟨h,hS⟩|⟨_,_,cells,t,y,rfl,hf⟩
  ·exact rh.restrict hx g3.ext (fun g=>by simp only[if_pos hidN]) (hR.fi id o hS) (g2.fi id o hT)
  ·obtain ⟨a1,a2,a3⟩:=g2.fi id _ hT;refine ⟨a1,fun j j1 j2=>?_,fun j j' p q b1 b2 b3 b4 hp hq e=>?_⟩
   ·obtain ⟨pl,C,fr,q1,q2,q3,q4,q5,q6,q7,q8,q9⟩:=a2 j j1 j2;refine ⟨pl,C,fr,by simp only[if_pos hidN];exact q1,q2,q3,q4,q5,fun n hn=>?_,q7,q8,q9⟩;obtain ⟨z,u,s1,s2,s3,s4⟩:=q6 n hn;refine ⟨z,u,s1,s2,?_,s4⟩;have Bu:eF 2 z=true:=by
     have gen:∀ (l:List AV) (n:Nat) (y:AV),iX (eF 2) l=true→l[n]?=some y→eF 2 y=true:=by
      intro l
      induction l with
      | nil=>intro n y _ h;simp at h
      | cons z l ih=>
       intro n y h hy;simp only[iX,Bool.and_eq_true] at h;cases n with
       | zero=>simp at hy;subst hy;exact h.1
       | succ n=>exact ih n y h.2 (by simpa using hy)
     exact gen cells n z hf s1
    exact sd 2 z u _ _ Bu s3
   ·simp only[if_pos hidN] at hp hq;exact a3 j j' p q b1 b2 b3 b4 hp hq e
 refine ⟨x,fun i g=>if i<(fe S N k.2).next then ρ2 i g else none,rfl,?_,g2.drop aQ (fun id o ho=>by rw[hn3];exact bK id o ho) hO,?_⟩
 ·-- the value
  rw[hn3];have jS:=h2;unfold qh at jS;split at jS
  ·rename_i id g off len ay sz cap hv1;have hv1':v'=.slice id g off len ay sz cap:=hv1;have hk1:k.1=.slice id g off len ay sz cap∧∃ o,k.2=some (id,o):=by
    cases hb:Nat.ble S.next id with
    | false=>rw[hb] at jS;cases jS
    | true=>
     rw[hb] at jS;simp only[cond_true] at jS;split at jS
     ·rename_i cells low top frz ty hrw;cases pz:(iX (eF 2) cells&&Nat.beq g top&&Nat.ble low top) with
      | false=>rw[pz] at jS;cases jS
      | true=>rw[pz] at jS;cases jS;exact ⟨hv1',_,rfl⟩
     ·cases jS
   obtain ⟨e1,o,e2⟩:=hk1;have hidN:=(dI id o e2).2.1;rw[e1] at hv ⊢;simp only[ah] at hv ⊢;obtain ⟨pl,c,p1,rest⟩:=hv;exact ⟨pl,c,by rw[if_pos hidN];exact p1,rest⟩
  ·rename_i cN;cases pz:eF 3 v' with
   | false=>
    have:(cond (eF 3 v') (some (v',(none:Option (Nat×bE)))) none)=some k:=jS;rw[pz] at this;cases this
   | true=>
    have:(cond (eF 3 v') (some (v',(none:Option (Nat×bE)))) none)=some k:=jS;rw[pz] at this;cases this;exact sd 3 v' x _ _ pz hv
 ·rw[hn3];refine ⟨hx,g3.os,g3.tape,g3.output,g3.size,g3.bH,fun b hb=>?_,fun b hb=>?_,by rw[hn3];exact hN,fun id g hi hn=>?_⟩
  ·obtain ⟨i,o,g,pl,hi,gK,rfl⟩:=hb;simp only[if_pos (bK i o hi)] at gK;exact g3.wW _ ⟨i,o,g,pl,by rw[←hh];exact hi,gK,rfl⟩
  ·obtain ⟨i,o,g,pl,hi,hz,gK,rfl⟩:=hb;simp only[if_pos (bK i o hi)] at gK;exact g3.wrt _ ⟨i,o,g,pl,by rw[←hh];exact hi,hz,gK,rfl⟩
  ·refine ⟨by simp only[if_pos (show id<N by omega)];exact (g3.nE id g hi hn).1,?_⟩;rw[hh];exact (g3.nE id g hi hn).2
end Go.Am
namespace Go.Am
open Go
set_option linter.unusedVariables false
def nD (es:List bj) (clock:Nat):Prop:=(∀ e,e∈es→e.born<clock)∧es.Pairwise fun a b=>a.born≠b.born
theorem isNilL_eq {α:Type} (l:List α):ow l=l.isEmpty:=by cases l<;>rfl
variable {S:AS} {id m:Nat} {seen:List Nat} {es:List bj} {clock:Nat}
theorem DH (hw:nD es clock) :
  zL S id m clock seen clock es clock≠[]∧∀ y,y∈zL S id m clock seen clock es clock →
   (y=(.tuple [.bool false],S)∧∀ e,e∈es→e.born∈seen)∨∃ e,e∈es∧e.born∉seen∧y=Am.vW S id m clock seen clock e:=by
 have h1:(!ow seen&&(!ow es&&eY (fun e=>Nat.ble clock e.born) es))=false:=by
  cases es with
  | nil=>simp[ow]
  | cons e es=>
   have:=hw.1 e (List.mem_cons_self ..);have:Nat.ble clock e.born=false:=by rw[cn];simp;omega
   rw[fS];simp[this]
 have jI:(es.filter fun e=>!mV e.born seen).filter (fun e=>!Nat.blt e.born clock)=[]:=by
  rw[List.filter_eq_nil_iff];intro e he;have:=hw.1 e (List.mem_filter.1 he).1;have hb:Nat.blt e.born clock=true:=by
   show Nat.ble (Nat.succ e.born) clock=true;rw[cn];simp;omega
  simp[hb]
 have hold:(es.filter fun e=>!mV e.born seen).filter (fun e=>Nat.blt e.born clock)=es.filter fun e=>!mV e.born seen:=by
  rw[List.filter_eq_self];intro e he;have:=hw.1 e (List.mem_filter.1 he).1;show Nat.ble (Nat.succ e.born) clock=true;rw[cn];simp;omega
 unfold zL;rw[h1];simp only[cond_false,j7,hold,jI,bw,List.append_nil,fu,isNilL_eq];cases hl:es.filter fun e=>!mV e.born seen with
 | nil=>
  simp only[List.isEmpty_nil,cond_true,List.map_nil];refine ⟨by simp,fun y hy=>.inl ⟨by simpa using hy,fun e he=>?_⟩⟩;have:=List.filter_eq_nil_iff.1 hl e he;rw[vu] at this;simpa using this
 | cons z l=>
  simp only[List.isEmpty_cons,cond_false];refine ⟨by simp,fun y hy=>.inr ?_⟩;obtain ⟨e,he,rfl⟩:=List.mem_map.1 hy;rw[←hl] at he;obtain ⟨q1,q2⟩:=List.mem_filter.1 he;rw[vu] at q2;exact ⟨e,q1,by simpa using q2,rfl⟩
theorem findB_of (hw:es.Pairwise fun a b=>a.born≠b.born) {e:bj} (he:e∈es):∀ i,∃ j,oF e.born es i=some (j,e):=by
 induction es with
 | nil=>cases he
 | cons z es ih=>
  intro i;obtain ⟨h1,h2⟩:=List.pairwise_cons.1 hw;have u:oF e.born (z :: es) i=cond (Nat.beq z.born e.born) (some (i,z)) (oF e.born es (Nat.succ i)):=rfl;rw[u,bf];rcases List.mem_cons.1 he with rfl|he
  ·simp
  ·have:=h1 e he;simp only[this,decide_false,cond_false];exact ih h2 he _
section
variable {cx:Cx} {F:Fr} {dst:Option Tmp} {ty:TypeId} {pos:String} {af:Array Edge} {g:Option (Nat×Bool)}
theorem Aj {id:Nat} {as:List AV}:mr cx S (.obj .yld id) as=.round id as S:=rfl
theorem aop_range {t:TypeId} {x:Operand}:bo cx F S ⟨dst,.range t x,ty,pos,af,g⟩=cG (qK cx S t (eval F x)) 88:=rfl
theorem aop_next {x:Operand} {s:Bool}:bo cx F S ⟨dst,.next x s,ty,pos,af,g⟩=lU S (eval F x) s:=rfl
theorem aop_entry {x:Operand}:bo cx F S ⟨dst,.entry x,ty,pos,af,g⟩=val? (qT S (eval F x)) S 89:=rfl
theorem rangeV_map {t a b:TypeId} {id:Nat} {es:List bj} {clock:Nat} (hu:aY cx t=some (.map a b)) (h:S.h.get id=some (.map es clock)) :
  qK cx S t (.map id)=some (.ptr S.next 0 0 0,⟨S.h.set S.next (.dO (.iter (some id) clock [] clock)),Nat.succ S.next⟩):=by
 unfold qK;rw[hu];simp only[h]
theorem nextV_map {i m since last l:Nat} {seen:List Nat} (h1:S.h.get i=some (.dO (.iter (some m) since seen last))) (h2:S.h.get m=some (.map es clock)) :
  lU S (.ptr i 0 0 l) false=.many (zL S i m since seen last es clock):=by
 unfold lU;simp only[h1,h2];rfl
theorem entryV_map {i m since l b:Nat} {seen:List Nat} {e:bj} (h1:S.h.get i=some (.dO (.iter (some m) since (b :: seen) clock))) (h2:S.h.get m=some (.map es clock)) (hw:es.Pairwise fun a b=>a.born≠b.born) (he:e∈es) (hb:e.born=b) :
  qT S (.ptr i 0 0 l)=some (.tuple [e.key,e.val]):=by
 subst hb;obtain ⟨j,hj⟩:=findB_of hw he 0;unfold qT;simp only[h1,h2,bf,decide_true,cond_true,hj]
end
end Go.Am
namespace Go.Am
open Go
set_option linter.unusedVariables false
def Cx.wp (cx:Cx) (p:T (List AV→AS→Option (AV×AS))):Cx:=⟨cx.jW,cx.fns,cx.eqs,cx.exts,p,cx.eU,cx.fQ⟩
def PLe (p p':T (List AV→AS→Option (AV×AS))):Prop:=∀ f,match p.get f with
 | none=>p'.get f=none
 | some q=>∀ as S r,q as S=some r→∃ q',p'.get f=some q'∧q' as S=some r
def hole (_:List AV) (_:AS):Option (AV×AS):=none
section
variable {cx:Cx} {p:T (List AV→AS→Option (AV×AS))}
theorem one_ov {K:bg} {ops:List Oper} {o:Oper} {F:Fr} {S:AS}:one (cx.wp p) K ops o F S=one cx K ops o F S:=rfl
theorem runOps_ov {K:bg} {ops l:List Oper} {F:Fr} {S:AS}:bA (cx.wp p) K ops l F S=bA cx K ops l F S:=rfl
theorem rowsL_ov {ops:List Oper}:cT (cx.wp p) ops=cT cx ops:=rfl
theorem oneV_ov {ops:List Oper} {F:Fr} {S:AS} {o:Oper}:ej (cx.wp p) ops F S o=ej cx ops F S o:=rfl
theorem freshV_ov {F:Fr} {id:Nat} {o:Op}:aC (cx.wp p) F id o=aC cx F id o:=rfl
theorem wh {K:bg} {ops:List Oper}:∀ (l:List Row) (F:Fr) (S:AS) (ps:List da) (sn:List AS) (id:Nat),aL (cx.wp p) K ops l F S ps sn id=aL cx K ops l F S ps sn id
 | [],F,S,ps,sn,id=>rfl
 | r :: l,F,S,ps,sn,id=>by
  have e:∀ cx,aL cx K ops (r :: l) F S ps sn id=(match r.cls with
   | .fresh=>match wanted ops F r.o with
    | some true=>match aC cx F id r.o.op with
     | some (v,x)=>aL cx K ops l (aO F r.o.dst v) S (⟨r.i,id,x⟩ :: ps) sn (Nat.succ id)
     | none=>.err 1001
    | some false=>aL cx K ops l (aO F r.o.dst .undef) S ps sn id
    | none=>.err 1002
   | .vG=>
    aj.bind (aj.sV (one cx K ops r.o F (aX (fun p=>bit r.c7 p.i) ps S))) fun q=>cond q.1 (cond (eY (fun q=>bit q.c7 r.i) l) (.ok (some (r.i,q.2.1,q.2.2),F,S,S :: sn) []) (.err 1007)) (aL cx K ops l (aO F r.o.dst q.2.1) q.2.2 (fN (fun p=>!bit r.c7 p.i) ps) (S :: sn) id)
   | _=>match ej cx ops F S r.o with
    | some v=>aL cx K ops l (aO F r.o.dst v) S ps sn id
    | none=>.err 1006):=fun cx=>rfl
  rw[e,e];simp only[wh l,oneV_ov,freshV_ov,one_ov]
theorem C3 {K:bg} {ops:List Oper} {F:Fr} {S:AS}:cC (cx.wp p) K ops F S=cC cx K ops F S:=by
 unfold cC;simp only[rowsL_ov,wh];rfl
theorem Ew (hp:PLe cx.bG p) {ih jB:Code→Fr→AS→aj Out} (h:∀ c F S,aj.Le (ih c F S) (jB c F S)) (f:FuncId) (as:List AV) (S:AS):aj.Le (Ey cx ih f as S) (Ey (cx.wp p) jB f as S):=by
 have e:Ey (cx.wp p) jB f as S=(match p.get f with
  | some q=>match q as S with
   | some r=>.ok r []
   | none=>.err 2004
  | none=>match cx.fns.get f with
   | some fn=>match fn.body with
    | some c=>aj.bind (jB c (kZ as fn.ntmps) S) fun o=>match o.ex with
     | .exit _=>.err 2000
     | .goto _=>.err 2005
     | .dN v=>fc cx jB fn o.F o.F.ds (.dN v) o.S
     | _=>fc cx jB fn o.F o.F.ds .ret o.S
    | none=>.err 2002
   | none=>.err 2003):=rfl
 have hf:=hp f;have hle:=fnF_le (cx:=cx) h f as S;rw[e];unfold Ey at hle ⊢;cases hq:cx.bG.get f with
 | none=>
  rw[hq] at hf;simp only[hq] at hle;rw[hf];exact hle
 | some q=>
  rw[hq] at hf;simp only[];cases hr:q as S with
  | none=>exact .err _ _
  | some r=>
   obtain ⟨q',h1,h2⟩:=hf as S r hr;rw[h1];simp only[h2];exact .refl _
theorem qW (hp:PLe cx.bG p) {ih jB:Code→Fr→AS→aj Out} (h:∀ c F S,aj.Le (ih c F S) (jB c F S)):KLe (bq cx ih) (bq (cx.wp p) jB):=by
 intro t as S;cases t with
 | round id=>exact zA h id as S
 | fn f=>
  have e:bq (cx.wp p) jB (.fn f) as S=(match cx.fQ.get f with
   | none=>Ey (cx.wp p) jB f as S
   | some _=>Dp S (List.rec (motive:=fun _=>List Nat) [] (fun x _ r=>fh (AW S 4 x) r) as) (Ey (cx.wp p) jB f as (oI S (List.rec (motive:=fun _=>List Nat) [] (fun x _ r=>fh (AW S 4 x) r) as)))):=rfl
  rw[e];show aj.Le (oc cx ih f as S) _;unfold oc;cases cx.fQ.get f with
  | none=>exact Ew hp h f as S
  | some u=>exact Dn (Ew hp h f as _)
theorem Dj (hp:PLe cx.bG p) {ih jB:Code→Fr→AS→aj Out} (h:∀ c F S,aj.Le (ih c F S) (jB c F S)) (x:Operand) (ps:Array Tmp) (a b:Code) (F:Fr) (S:AS):aj.Le (jF cx ih x ps a b F S) (jF (cx.wp p) jB x ps a b F S):=by
 unfold jF;cases (cl a&&cl b) with
 | false=>exact .refl _
 | true=>
  simp only[cond_true];split
  ·refine .bind (qW hp h _ _ _) fun r=>?_;unfold lQ;refine zJ ?_;split
   ·exact .refl _
   ·split
    ·exact .refl _
    ·exact h _ _ _
   ·exact .refl _
  ·exact .refl _
theorem CW {ih jB:Code→Fr→AS→aj Out} (h:∀ c F S,aj.Le (ih c F S) (jB c F S)) (b:Code):∀ (n:Nat) (c:Code) (F:Fr) (S:AS),aj.Le (jf ih b n c F S) (jf jB b n c F S):=by
 intro n
 induction n with
 | zero=>intro c F S;exact .err _ _
 | succ n rec=>
  intro c F S;show aj.Le (aj.bind (ih c F S) fun o=>match o.ex with
   | .goto l=>match findLabel b l with
    | some rest=>jf ih b n rest o.F o.S
    | none=>.ok o []
   | _=>.ok o []) (aj.bind (jB c F S) fun o=>match o.ex with
   | .goto l=>match findLabel b l with
    | some rest=>jf jB b n rest o.F o.S
    | none=>.ok o []
   | _=>.ok o [])
  refine .bind (h _ _ _) fun o=>?_;split
  ·split
   ·exact rec _ _ _
   ·exact .refl _
  ·exact .refl _
theorem exec_over (hp:PLe cx.bG p):∀ (n:Nat) (c:Code) (F:Fr) (S:AS),aj.Le (exec cx n c F S) (exec (cx.wp p) n c F S):=by
 intro n
 induction n with
 | zero=>intro c F S;exact .err _ _
 | succ n ih=>
  intro c F S;have hK:=qW hp ih;cases c with
  | skip=>exact .refl _
  | ret=>exact .refl _
  | exit id=>exact .refl _
  | region id ops draw=>
   cases draw with
   | false=>
    show aj.Le (aj.bind (bA cx (bq cx (exec cx n)) ops.toList ops.toList F S) _) (aj.bind (bA (cx.wp p) (bq (cx.wp p) (exec (cx.wp p) n)) ops.toList ops.toList F S) _);rw[runOps_ov];exact .bind (iA hK _ _ _ _) fun r=>.refl _
   | true=>
    show aj.Le (aj.bind (cC cx (bq cx (exec cx n)) ops.toList F S) _) (aj.bind (cC (cx.wp p) (bq (cx.wp p) (exec (cx.wp p) n)) ops.toList F S) _);rw[C3];exact .bind (uv hK _ _ _) fun r=>.refl _
  | seq x y=>
   show aj.Le (aj.bind (exec cx n x F S) fun o=>match o.ex with
    | .normal=>exec cx n y o.F o.S
    | _=>.ok o []) (aj.bind (exec (cx.wp p) n x F S) fun o=>match o.ex with
    | .normal=>exec (cx.wp p) n y o.F o.S
    | _=>.ok o [])
   refine .bind (ih _ _ _) fun o=>?_;cases o.ex<;>first|exact ih _ _ _|exact .refl _
  | cond x y z=>
   show aj.Le (match eval F x with
    | .bool true=>exec cx n y F S
    | .bool false=>exec cx n z F S
    | _=>.err 3001) (match eval F x with
    | .bool true=>exec (cx.wp p) n y F S
    | .bool false=>exec (cx.wp p) n z F S
    | _=>.err 3001)
   split
   ·exact ih _ _ _
   ·exact ih _ _ _
   ·exact .refl _
  | block id b=>
   exact .bind (ih b F S) fun o=>.refl _
  | loop b=>
   show aj.Le (aj.bind (exec cx n b F S) fun o=>match o.ex with
    | .normal=>exec cx n (.loop b) o.F o.S
    | _=>.ok o []) (aj.bind (exec (cx.wp p) n b F S) fun o=>match o.ex with
    | .normal=>exec (cx.wp p) n (.loop b) o.F o.S
    | _=>.ok o [])
   refine .bind (ih _ _ _) fun o=>?_;cases o.ex<;>first|exact ih _ _ _|exact .refl _
  | rangeFunc f ps x y=>exact Dj hp ih f ps x y F S
  | scope b=>exact CW ih b n b F S
  | label l=>exact .refl _
  | goto l=>exact .refl _
  | refuse s=>exact .refl _
theorem call_over (hp:PLe cx.bG p) (n:Nat) (f:FuncId) (as:List AV) (S:AS):aj.Le (call cx n f as S) (call (cx.wp p) n f as S):=qW hp (exec_over hp n) (.fn f) as S
theorem ai.over (hp:PLe cx.bG p) {f:FuncId} {as:List AV} {S:AS} {Q:AV→AS→Prop} (h:ai cx f as S Q):ai (cx.wp p) f as S Q:=by
 obtain ⟨n,h⟩:=h;exact ⟨n,(call_over hp n f as S).one h⟩
end
theorem mkCx_wp {P:Program} {A A':Ask} (h1:A'.eqs=A.eqs) (h2:A'.exts=A.exts) (h3:A'.eU=A.eU) (h4:A'.fQ=A.fQ):(j4 P A).wp (j4 P A').bG=j4 P A':=by
 unfold j4 Cx.wp;simp only[h1,h2,h3,h4]
theorem ai.to {P:Program} {A A':Ask} (h1:A'.eqs=A.eqs) (h2:A'.exts=A.exts) (h3:A'.eU=A.eU) (h4:A'.fQ=A.fQ) (hp:PLe (j4 P A).bG (j4 P A').bG) {f:FuncId} {vs:List AV} {S:AS} {Q:AV→AS→Prop} (h:ai (j4 P A) f vs S Q):ai (j4 P A') f vs S Q:=by
 rw[←mkCx_wp h1 h2 h3 h4];exact h.over hp
theorem PLe.set {p p':T (List AV→AS→Option (AV×AS))} (h:PLe p p') (f:Nat) (q q':List AV→AS→Option (AV×AS)) (hq:∀ as S r,q as S=some r→q' as S=some r):PLe (p.set f q) (p'.set f q'):=by
 intro g;by_cases e:g=f
 ·subst e;rw[aa];exact fun as S r hr=>⟨q',aa _ _ _,hq as S r hr⟩
 ·rw[ae _ _ e,ae _ _ e];exact h g
theorem PLe.leaf:PLe .leaf .leaf:=fun f=>by rw[dz]
theorem PLe.hole {p p':T (List AV→AS→Option (AV×AS))} (h:PLe p p') (f:Nat) (q':List AV→AS→Option (AV×AS)):PLe (p.set f Am.hole) (p'.set f q'):=h.set f _ _ fun as S r hr=>by cases hr
end Go.Am
