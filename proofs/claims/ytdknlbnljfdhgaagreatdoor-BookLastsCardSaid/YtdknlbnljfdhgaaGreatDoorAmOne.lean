/-
  The abstract machine: the logic of one outcome for code that defers calls, ranges over functions, and calls a loop's round.
-/
import Derived.Test.YtdknlbnljfdhgaaGreatDoorAmSet
open Nat renaming le_add_right->zza,le_add_left->zzb
open Bool renaming and_eq_true->zzc
set_option linter.unusedVariables false
set_option linter.unusedSimpArgs false
namespace Go.Am
open Go
def rO(cx:Cx)(id:Nat)(as:List AV)(S:AS)(Q:AV->AS->Prop):Prop:=∃n,(qM (exec cx n) id as S).One fun r=>bL r.1=false/\Q r.1 r.2
theorem rO.mono{cx:Cx}{id:Nat}{as:List AV}{S:AS}{Q Q':AV->AS->Prop}(h:rO cx id as S Q)(k:∀v S',Q v S'->Q' v S'):rO cx id as S Q':=by
 obtain⟨n,h⟩:=h;exact⟨n,h.mono fun r hr=>⟨hr.1,k _ _ hr.2⟩⟩
def JX(cx:Cx)(r:AR)(K:AV->AS->Prop):Prop:=
 match r with
 | .val v S'=>K v S'
 | .enter f as S'=>ah cx f as S' K
 | .round id as S'=>rO cx id as S' K
 |_=>False
def stepG(cx:Cx)(ops:List Oper)(o:Oper)(F:Fr)(S:AS)(K:AV->AS->Prop):Prop:=
 match bj ops F o.guard with
 |some b=>(b=true->JX cx (bF cx F S o) K)/\(b=false->K .undef S)
 |none=>False
def qW(cx:Cx)(ops:List Oper):List Oper->Fr->AS->(Fr->AS->Prop)->Prop
 |[],F,S,Q=>Q F S
 |o::l,F,S,Q=>match dc o with
  |none=>stepG cx ops o F S fun v S'=>qW cx ops l (up F o.dst v) S' Q
  |some c=>match bj ops F o.guard with
   |some true=>∃d,iM F c=some d/\qW cx ops l (up ⟨F.t,F.n,d::F.ds⟩ o.dst .undef) S Q
   |some false=>qW cx ops l (up F o.dst .undef) S Q
   |none=>False
theorem Yt{cx:Cx}{ops:List Oper}{o:Oper}{F:Fr}{S:AS}{K:AV->AS->Prop}(h:stepG cx ops o F S K):∃n,(one cx (cS cx (exec cx n)) ops o F S).One fun r=>r.1=false/\K r.2.1 r.2.2:=by
 unfold stepG at h;unfold one;rw[iU];cases hw:bj ops F o.guard with
 |none=>rw[hw]at h;exact h.elim
 |some b=>
  rw[hw]at h;cases b with
  |true=>
   have h1:=h.1 rfl;unfold JX at h1;simp only[];cases ha:bF cx F S o with
   |val v S'=>rw[ha]at h1;exact⟨0,_,rfl,rfl,h1⟩
   |round f as S'=>
    rw[ha]at h1;obtain⟨n,h1⟩:=h1;exact⟨n,az.One.bind (h1.mono fun r hr=>by rw[zo hr.1];exact⟨_,rfl,rfl,hr.2⟩)⟩
   |eO v S'=>rw[ha]at h1;exact h1.elim
   |many l=>rw[ha]at h1;exact h1.elim
   |enter f as S'=>
    rw[ha]at h1;obtain⟨n,h1⟩:=h1;exact⟨n,az.One.bind (h1.mono fun r hr=>by rw[zo hr.1];exact⟨_,rfl,rfl,hr.2⟩)⟩
   |err n=>rw[ha]at h1;exact h1.elim
  |false=>exact⟨0,_,rfl,rfl,h.2 rfl⟩
theorem yu{cx:Cx}{ops:List Oper}:∀{l:List Oper}{F:Fr}{S:AS}{Q:Fr->AS->Prop},AD F.n l=true->qW cx ops l F S Q ->
  ∃n,(dz cx (cS cx (exec cx n)) ops l F S).One fun r=>r.1=none/\Q r.2.1 r.2.2/\r.2.1.n=F.n
 |[],F,S,Q,_,h=>⟨0,_,rfl,rfl,h,rfl⟩
 |o::l,F,S,Q,hd,h=>by
  have j7:(BT F.n o&&AD F.n l)=true:=hd;rw[zzc]at j7;have h0:qW cx ops (o::l) F S Q=(match dc o with
   |none=>stepG cx ops o F S fun v S'=>qW cx ops l (up F o.dst v) S' Q
   |some c=>match bj ops F o.guard with
    |some true=>∃d,iM F c=some d/\qW cx ops l (up ⟨F.t,F.n,d::F.ds⟩ o.dst .undef) S Q
    |some false=>qW cx ops l (up F o.dst .undef) S Q
    |none=>False):=rfl
  rw[h0]at h;have yB:∀K,dz cx K ops (o::l) F S=(match dc o with
   |none=>az.bind (one cx K ops o F S) fun r=>cond r.1 (.ok (some r.2.1,F,r.2.2) []) (dz cx K ops l (bQ F o.dst r.2.1) r.2.2)
   |some c=>match wanted ops F o with
    |some true=>match iM F c with
     |some d=>dz cx K ops l (bQ ⟨F.t,F.n,d::F.ds⟩ o.dst .undef) S
     |none=>.err 1009
    |some false=>dz cx K ops l (bQ F o.dst .undef) S
    |none=>.err 1010):=fun K=>rfl
  cases Et:dc o with
  |some c=>
   rw[Et]at h;simp only[]at h;cases hw:bj ops F o.guard with
   |none=>rw[hw]at h;exact h.elim
   |some b=>
    rw[hw]at h;cases b with
    |true=>
     obtain⟨d,hdv,h⟩:=h;obtain⟨m,h3⟩:=yu (l:=l) (F:=up ⟨F.t,F.n,d::F.ds⟩ o.dst .undef) (by rw[nc];exact j7.2) h;refine⟨m,?_⟩;rw[yB,Et];simp only[iU,hw,hdv];rw[pI (F:=⟨F.t,F.n,d::F.ds⟩) _ j7.1];exact h3.mono fun r hr=>⟨hr.1,hr.2.1,hr.2.2.trans (nc ..)⟩
    |false=>
     obtain⟨m,h3⟩:=yu (l:=l) (by rw[nc];exact j7.2) h;refine⟨m,?_⟩;rw[yB,Et];simp only[iU,hw];rw[pI _ j7.1];exact h3.mono fun r hr=>⟨hr.1,hr.2.1,hr.2.2.trans (nc ..)⟩
  |none=>
   rw[Et]at h;obtain⟨n,r,h1,h0,h2⟩:=Yt h;obtain⟨m,h3⟩:=yu (l:=l) (by rw[nc];exact j7.2) h2;refine⟨n+m,?_⟩;rw[yB,Et];simp only[];refine az.One.bind ⟨r,(one_le (cx:=cx) (K:=cS cx (exec cx n)) (K':=cS cx (exec cx (n+m))) (iF (zza n m)) ops o F S) _ _ h1,?_⟩;simp only[h0,cond_false];rw[pI _ j7.1];exact ((mg (K:=cS cx (exec cx m)) (K':=cS cx (exec cx (n+m))) (iF (zzb m n)) ops l _ _).one h3).mono fun r hr=>⟨hr.1,hr.2.1,hr.2.2.trans (nc ..)⟩
def N4(cx:Cx)(b:Code)(F:Fr)(S:AS)(Q:Ex->Fr->AS->Prop):Prop:=codeOk cx F.n b=true->∃n,(exec cx n (.loop b) F S).One fun o=>Q o.ex o.F o.S/\o.F.n=F.n
def Fm(cx:Cx)(x:Operand)(ps:Array Tmp)(a b:Code)(F:Fr)(S:AS)(Q:Ex->Fr->AS->Prop):Prop:=
 (df a&&df b)=true/\∃g first captured,eval F x=.func (.func g) first captured /\
  ah cx g (gC first (.obj .LZ (Nat.succ S.nx)::captured)) ⟨(S.h.set S.nx (.j6 (.Bt true))).set (Nat.succ S.nx) (.j6 (.loop .ready none F ps a b)),Nat.succ (Nat.succ S.nx)⟩
   fun _ T=>(∃st F' J8 a' b',st≠.busy/\T.h.get (Nat.succ S.nx)=some (.j6 (.loop st none F' J8 a' b'))/\Q .normal ⟨F.t,F.n,.mark S.nx::F.ds⟩ (mB T (Nat.succ S.nx) (.loop .exhausted none F' J8 a' b'))) \/
    (∃st F' J8 a' b',st≠.busy/\T.h.get (Nat.succ S.nx)=some (.j6 (.loop st (some .ret) F' J8 a' b'))/\Q .ret ⟨F.t,F.n,.mark S.nx::F.ds⟩ (mB T (Nat.succ S.nx) (.loop .exhausted (some .ret) F' J8 a' b')))
def tw(cx:Cx):Code->Fr->AS->(Ex->Fr->AS->Prop)->Prop
 | .skip,F,S,Q=>Q .normal F S
 | .ret,F,S,Q=>Q .ret F S
 | .exit id,F,S,Q=>Q (.exit id) F S
 | .region _ ops false,F,S,Q=>qW cx ops.toList ops.toList F S (Q .normal)
 | .region _ ops true,F,S,Q=>lL cx ops.toList F S (Q .normal)
 | .seq a b,F,S,Q=>tw cx a F S (ke (fun F' S'=>tw cx b F' S' Q) Q)
 | .cond x a b,F,S,Q=>iH (eval F x) (tw cx a F S Q) (tw cx b F S Q)
 | .block id b,F,S,Q=>tw cx b F S (jZ id Q)
 | .loop b,F,S,Q=>N4 cx b F S Q
 | .rangeFunc x ps a b,F,S,Q=>Fm cx x ps a b F S Q
 |_,_,_,_=>False
theorem Dq{cx:Cx}:∀(c:Code){F:Fr}{S:AS}{Q:Ex->Fr->AS->Prop},codeOk cx F.n c=true->tw cx c F S Q->∃n,(exec cx n c F S).One fun o=>Q o.ex o.F o.S/\o.F.n=F.n:=by
 intro c
 induction c with
 |skip=>intro F S Q _ h;exact⟨1,_,rfl,h,rfl⟩
 |ret=>intro F S Q _ h;exact⟨1,_,rfl,h,rfl⟩
 |exit id=>intro F S Q _ h;exact⟨1,_,rfl,h,rfl⟩
 |region id ops draw=>
  intro F S Q hc h;cases draw with
  |false=>
   obtain⟨n,h⟩:=yu hc h;refine⟨n+1,?_⟩;show (az.bind (dz cx (cS cx (exec cx n)) ops.toList ops.toList F S) fun r=>match r.1 with
    |none=>.ok (⟨.normal,r.2.1,r.2.2⟩:Out) []
    |some v=>.ok (⟨.eO v,r.2.1,r.2.2⟩:Out) []).One _
   exact az.One.bind (h.mono fun r hr=>by rw[hr.1];exact⟨_,rfl,hr.2⟩)
  |true=>
   obtain⟨n,h⟩:=C7 hc h;refine⟨n+1,?_⟩;show (az.bind (fM cx (cS cx (exec cx n)) ops.toList F S) fun r=>match r.1 with
    |none=>.ok (⟨.normal,r.2.1,r.2.2⟩:Out) []
    |some v=>.ok (⟨.eO v,r.2.1,r.2.2⟩:Out) []).One _
   exact az.One.bind (h.mono fun r hr=>by rw[hr.1];exact⟨_,rfl,hr.2.1,hr.2.2.1⟩)
 |seq a b Ef xu=>
  intro F S Q hc h;have jF:(codeOk cx F.n a&&codeOk cx F.n b)=true:=hc;rw[zzc]at jF;obtain⟨n,o,h1,h2,h3⟩:=Ef jF.1 (show tw cx a F S (ke (fun F' S'=>tw cx b F' S' Q) Q) from h);obtain⟨e,F2,S2⟩:=o;have h3:F2.n=F.n:=h3;have h4:∃m,((match e with | .normal=>exec cx m b F2 S2|_=>.ok ⟨e,F2,S2⟩ []):az Out).One fun o=>Q o.ex o.F o.S/\o.F.n=F.n:=by
   cases e with
   |normal=>
    obtain⟨m,h5⟩:=xu (F:=F2) (S:=S2) (Q:=Q) (by rw[h3];exact jF.2) h2;exact⟨m,h5.mono fun o ho=>⟨ho.1,ho.2.trans h3⟩⟩
   |exit id=>exact⟨0,_,rfl,h2,h3⟩
   |ret=>exact⟨0,_,rfl,h2,h3⟩
   |goto l=>exact⟨0,_,rfl,h2,h3⟩
   |eO v=>exact⟨0,_,rfl,h2,h3⟩
  obtain⟨m,h4⟩:=h4;refine⟨n+m+1,?_⟩;show (az.bind (exec cx (n+m) a F S) fun o=>match o.ex with | .normal=>exec cx (n+m) b o.F o.S|_=>.ok o []).One _;refine az.One.bind ⟨⟨e,F2,S2⟩,cP (zza n m) a F S _ _ h1,?_⟩;cases e with
  |normal=>exact (cP (zzb m n) b F2 S2).one h4
  |goto l=>exact h4
  |eO v=>exact h4
  |exit id=>exact h4
  |ret=>exact h4
 |cond x a b Ef xu=>
  intro F S Q hc h;have jF:(codeOk cx F.n a&&codeOk cx F.n b)=true:=hc;rw[zzc]at jF;have h0:iH (eval F x) (tw cx a F S Q) (tw cx b F S Q):=h;have e:∀n,exec cx (n+1) (.cond x a b) F S=(match eval F x with
   | .bool true=>exec cx n a F S
   | .bool false=>exec cx n b F S
   |_=>.err 3001):=fun n=>rfl
  unfold iH at h0;split at h0
  .rename_i t ht;cases t with
   |true=>obtain⟨n,h1⟩:=Ef jF.1 (h0.1 rfl);exact⟨n+1,by rw[e,ht];exact h1⟩
   |false=>obtain⟨n,h1⟩:=xu jF.2 (h0.2 rfl);exact⟨n+1,by rw[e,ht];exact h1⟩
  .exact h0.elim
 |block id b ih=>
  intro F S Q hc h;obtain⟨n,o,h1,h2,h3⟩:=ih (F:=F) hc (show tw cx b F S (jZ id Q) from h);refine⟨n+1,?_⟩;show (az.bind (exec cx n b F S) fun o=>match o.ex with
   | .exit j=>cond (Nat.beq j id) (.ok ⟨.normal,o.F,o.S⟩ []) (.ok o [])
   |_=>.ok o []).One _
  refine az.One.bind ⟨o,h1,?_⟩;obtain⟨ex,F2,S2⟩:=o;cases ex with
  |exit j=>
   have h2:(if j=id then Q .normal F2 S2 else Q (.exit j) F2 S2):=h2;show (cond (Nat.beq j id) (.ok ⟨.normal,F2,S2⟩ []) (.ok ⟨.exit j,F2,S2⟩ []):az Out).One _;by_cases hj:j=id
   .rw[if_pos hj]at h2;rw[show Nat.beq j id=true from by rw[hj];exact Nat.beq_refl id];exact⟨_,rfl,h2,h3⟩
   .rw[if_neg hj]at h2;rw[show Nat.beq j id=false from by cases hb:Nat.beq j id with|false=>rfl|true=>exact absurd (Nat.eq_of_beq_eq_true hb) hj];exact⟨_,rfl,h2,h3⟩
  |normal=>exact⟨_,rfl,h2,h3⟩
  |ret=>exact⟨_,rfl,h2,h3⟩
  |goto l=>exact⟨_,rfl,h2,h3⟩
  |eO v=>exact⟨_,rfl,h2,h3⟩
 |loop b _=>intro F S Q hc h;exact h hc
 |rangeFunc x ps a b _ _=>
  intro F S Q _ h;obtain⟨h0,g,first,captured,hx,n,h1⟩:=h;refine⟨n+1+1,?_⟩;show (qR cx (exec cx (n+1)) x ps a b F S).One _;unfold qR;rw[h0,cond_true,hx];have vH:=(iF (cx:=cx) (Nat.le_succ n) (.fn g) _ _).one h1;refine az.One.bind (vH.mono fun r hr=>?_);obtain⟨hp,hr⟩:=hr;obtain⟨v,T⟩:=r;have hnp:∀{β:Type}{p:AV->β}{k:β},tJ v p k=k:=by
   intro β p k;cases v<;>first|rfl|cases hp
  unfold qT;rw[hnp];rcases hr with⟨st,F',J8,a',b',fI,hg,hq⟩|⟨st,F',J8,a',b',fI,hg,hq⟩
  .simp only[]at hg hq⊢;rw[hg];cases st with
   |busy=>exact absurd rfl fI
   |ready=>exact⟨_,rfl,hq,rfl⟩
   |done=>exact⟨_,rfl,hq,rfl⟩
   |exhausted=>exact⟨_,rfl,hq,rfl⟩
  .simp only[]at hg hq⊢;rw[hg];cases st with
   |busy=>exact absurd rfl fI
   |ready=>exact⟨_,rfl,hq,rfl⟩
   |done=>exact⟨_,rfl,hq,rfl⟩
   |exhausted=>exact⟨_,rfl,hq,rfl⟩
 |scope b xu=>intro F S Q _ h;exact h.elim
 |label l=>intro F S Q _ h;exact h.elim
 |goto l=>intro F S Q _ h;exact h.elim
 |refuse s=>intro F S Q _ h;exact h.elim
theorem O7{cx:Cx}{x:Operand}{ps:Array Tmp}{a b:Code}{F:Fr}{S:AS}{Q:Ex->Fr->AS->Prop}(H:∀cA cB:Code,cA=a->cB=b->Fm cx x ps cA cB F S Q):Fm cx x ps a b F S Q:=H a b rfl rfl
theorem OV{cx:Cx}{id:Nat}{as:List AV}{S:AS}{K:AV->AS->Prop}{j:Option Code}{F F1:Fr}{ps:Array Tmp}{a b:Code}(hg:S.h.get id=some (.j6 (.loop .ready j F ps a b)))(hp:DJ ⟨F.t,F.n,[]⟩ ps.toList as=some F1)
  (ha:codeOk cx F1.n a=true) (hb:codeOk cx F1.n b=true)
  (h:tw cx a F1 S fun e F2 S2=>e=.normal/\∃j' F' a' b',S2.h.get id=some (.j6 (.loop .ready j' F' ps a' b')) /\
   tw cx b F2 (mB S2 id (.loop .busy j' F' ps a' b')) fun e2 F3 S3=>∃st j3 F4 ps3 a3 b3,S3.h.get id=some (.j6 (.loop st j3 F4 ps3 a3 b3))/\((e2=.normal/\K (.bool true) (mB S3 id (.loop .ready none F4 ps3 a3 b3)))\/(e2=.ret/\K (.bool false) (mB S3 id (.loop .done (some .ret) F4 ps3 a3 b3))))):rO cx id as S K:=by
 obtain⟨n,o,h1,⟨he,j',F',a',b',hg2,h3⟩,hn⟩:=Dq a ha h;obtain⟨e,F2,S2⟩:=o;simp only[]at he hg2 h3 hn;subst he;obtain⟨m,o2,h4,⟨st,j3,F4,ps3,a3,b3,hg3,hk⟩,_⟩:=Dq b (F:=F2) (by rw[hn];exact hb) h3;obtain⟨e2,F3,S3⟩:=o2;simp only[]at hg3 hk;refine⟨n+m,?_⟩;unfold qM;rw[hg];simp only[hp];refine az.One.bind ⟨_,cP (zza n m) a _ _ _ _ h1,?_⟩;simp only[hg2];refine az.One.bind ⟨_,cP (zzb m n) b _ _ _ _ h4,?_⟩;rcases hk with⟨he2,hk⟩|⟨he2,hk⟩
 .subst he2;unfold qN;rw[hg3];exact⟨_,rfl,rfl,hk⟩
 .subst he2;unfold qN;rw[hg3];exact⟨_,rfl,rfl,hk⟩
theorem Ui{cx:Cx}{b:Code}{F:Fr}{S:AS}{Q:Ex->Fr->AS->Prop}(I:Nat->Fr->AS->Prop)(k:Nat)(h0:I k F S)
  (h:∀(k:Nat)(F':Fr)(S':AS),F'.n=F.n->I k F' S'->tw cx b F' S' (ke (fun F2 S2=>∃j,j<k/\I j F2 S2) Q)):N4 cx b F S Q:=by
 intro hc;have main:∀(k:Nat)(F':Fr)(S':AS),I k F' S'->F'.n=F.n->∃n,(exec cx n (.loop b) F' S').One fun o=>Q o.ex o.F o.S/\o.F.n=F.n:=by
  intro k
  induction k using Nat.strongRecOn with
  |ind k ih=>
   intro F' S' hI hn;obtain⟨n,o,h1,h2,h3⟩:=Dq b (by rw[hn];exact hc) (h k F' S' hn hI);obtain⟨e,F2,S2⟩:=o;simp only[]at h2 h3;have h4:∃m,((match e with | .normal=>exec cx m (.loop b) F2 S2|_=>.ok ⟨e,F2,S2⟩ []):az Out).One fun o=>Q o.ex o.F o.S/\o.F.n=F.n:=by
    cases e with
    |normal=>obtain⟨j,hj,hI2⟩:=h2;exact ih j hj F2 S2 hI2 (h3.trans hn)
    |exit id=>exact⟨0,_,rfl,h2,h3.trans hn⟩
    |ret=>exact⟨0,_,rfl,h2,h3.trans hn⟩
    |goto l=>exact⟨0,_,rfl,h2,h3.trans hn⟩
    |eO v=>exact⟨0,_,rfl,h2,h3.trans hn⟩
   obtain⟨m,h4⟩:=h4;refine⟨n+m+1,?_⟩;show (az.bind (exec cx (n+m) b F' S') fun o=>match o.ex with | .normal=>exec cx (n+m) (.loop b) o.F o.S|_=>.ok o []).One _;refine az.One.bind ⟨⟨e,F2,S2⟩,cP (zza n m) b _ _ _ _ h1,?_⟩;cases e with
   |normal=>exact (cP (zzb m n) (.loop b) F2 S2).one h4
   |goto l=>exact h4
   |eO v=>exact h4
   |exit id=>exact h4
   |ret=>exact h4
 exact main k F S h0 rfl
def lG(cx:Cx)(fn:Func)(F:Fr)(Q:AV->AS->Prop):List ur->AS->Prop
 |[],S=>HY (lD cx F S fn.results.toList |>.map fun vs=>match vs with|[v]=>v|vs=>.tuple vs) S Q
 | .mark id::ds,S=>S.h.get id=some (.j6 (.Bt true))/\lG cx fn F Q ds (mB S id (.Bt false))
 | .call g as captured :: ds,S=>∃ gn c,cx.fns.get g=some gn∧gn.body=some c∧codeOk cx gn.ntmps c=true∧(gC as captured).length≤gn.ntmps ∧
   ∀F':Fr,F'.n=gn.ntmps->(∀t,sl F' t=((gC as captured)[t]?).getD .undef)->wpS cx c F' S (Dz cx gn fun S'=>lG cx fn F Q ds S')
def Wq(cx:Cx)(fn:Func)(Q:AV->AS->Prop):Ex->Fr->AS->Prop
 | .exit _,_,_=>False
 | .goto _,_,_=>False
 | .eO _,_,_=>False
 |_,F,S=>lG cx fn F Q F.ds S
theorem sf{cx:Cx}{fn:Func}{F:Fr}{Q:AV->AS->Prop}:∀{ds:List ur}{S:AS},lG cx fn F Q ds S->∃n,(fh cx (exec cx n) fn F ds .ret S).One fun r=>bL r.1=false/\Q r.1 r.2
 |[],S,h=>by
  refine⟨0,?_⟩;show (match cC cx fn F S with|some v=>(.ok (v,S) []:az (AV×AS))|none=>.err 2001).One _;have h':HY (cC cx fn F S) S Q:=by rw[pD];exact h
  cases hv:cC cx fn F S with
  |none=>rw[hv]at h';exact h'.elim
  |some v=>rw[hv]at h';exact⟨_,rfl,h'⟩
 | .mark id::ds,S,h=>by
  have e:∀ih,fh cx ih fn F (.mark id::ds) .ret S=(match S.h.get id with
    |some (.j6 (.Bt true))=>fh cx ih fn F ds .ret (mB S id (.Bt false))
    |_=>.err 2011):=fun _=>rfl
  obtain⟨n,h2⟩:=sf h.2;exact⟨n,by rw[e,h.1];exact h2⟩
 | .call g as cs::ds,S,h=>by
  obtain⟨gn,c,h1,h2,h3,h3',h4⟩:=h;have fX:(lP (gC as cs) gn.ntmps).n=gn.ntmps:=by rw[D6];omega
  obtain ⟨n, o, h5, q1, hm, q2⟩ := jcf c (F := lP (gC as cs) gn.ntmps) (by rw [fX]; exact h3) (h4 _ fX (zd _ _));obtain ⟨ex, F2, S2, m2⟩ := o;have hm : m2 = .ret := hm;subst hm;have sq : F2.ds = [] := q2.2;have e : ∀ ih, fh cx ih fn F (.call g as cs :: ds) .ret S = (match cx.fns.get g with
    |some gn=>match gn.body with
     |some c=>az.bind (eS cx ih c (lP (gC as cs) gn.ntmps) S .ret) fun o=>match o.F.ds with
      |[]=>match pz o.ex o.m with
       |some m'=>match o.ex with
        | .eO _=>fh cx ih fn F ds m' o.S
        |_=>match cC cx gn o.F o.S with
         |some _=>fh cx ih fn F ds m' o.S
         |none=>.err 2012
       |none=>.err 2013
      |_=>.err 2014
     |none=>.err 2015
    |none=>.err 2016):=fun _=>rfl
  cases ex with
  |exit id=>exact q1.elim
  |goto l=>exact q1.elim
  |eO v=>exact q1.elim
  |normal=>
   obtain⟨⟨v,k2⟩,k3⟩:=q1;obtain⟨m,k4⟩:=sf k3;refine⟨n+m,?_⟩;rw[e,h1];simp only[h2];refine az.One.bind ⟨_,pS (zza n m) c _ S .ret _ _ h5,?_⟩;have k2:cC cx gn F2 S2=some v:=k2;simp only[sq,pz,k2];exact (iz (fun c F S=>cP (zzb m n) c F S) fn F ds _ _).one k4
  |ret=>
   obtain⟨⟨v,k2⟩,k3⟩:=q1;obtain⟨m,k4⟩:=sf k3;refine⟨n+m,?_⟩;rw[e,h1];simp only[h2];refine az.One.bind ⟨_,pS (zza n m) c _ S .ret _ _ h5,?_⟩;have k2:cC cx gn F2 S2=some v:=k2;simp only[sq,pz,k2];exact (iz (fun c F S=>cP (zzb m n) c F S) fn F ds _ _).one k4
theorem Az{cx:Cx}{f:FuncId}{fn:Func}{c:Code}{as:List AV}{S:AS}{Q:AV->AS->Prop}(hu:cx.kZ.get f=none)(hp:cx.ei.get f=none)(hf:cx.fns.get f=some fn)(hb:fn.body=some c)(hc:codeOk cx fn.ntmps c=true)(hn:as.length<=fn.ntmps)
  (h:∀F:Fr,F.n=fn.ntmps->F.ds=[]->(∀t,sl F t=(as[t]?).getD .undef)->tw cx c F S (Wq cx fn Q)):ah cx f as S Q:=by
 have fX:(lP as fn.ntmps).n=fn.ntmps:=by rw[D6];omega
 obtain⟨n,o,h1,h2,h3⟩:=Dq c (F:=lP as fn.ntmps) (by rw[fX];exact hc) (h _ fX rfl (zd as _));obtain⟨e,F',S'⟩:=o;have key:lG cx fn F' Q F'.ds S'->∃m,(fh cx (exec cx m) fn F' F'.ds .ret S').One fun r=>bL r.1=false/\Q r.1 r.2:=sf;cases e with
 |exit id=>exact h2.elim
 |goto l=>exact h2.elim
 |eO v=>exact h2.elim
 |normal=>
  obtain⟨m,h4⟩:=key h2;refine⟨n+m,?_⟩;unfold call cS sY Xo;simp only[hu,hp,hf,hb];exact az.One.bind ⟨_,cP (zza n m) c _ S _ _ h1,(iz (fun c F S=>cP (zzb m n) c F S) fn F' F'.ds _ _).one h4⟩
 |ret=>
  obtain⟨m,h4⟩:=key h2;refine⟨n+m,?_⟩;unfold call cS sY Xo;simp only[hu,hp,hf,hb];exact az.One.bind ⟨_,cP (zza n m) c _ S _ _ h1,(iz (fun c F S=>cP (zzb m n) c F S) fn F' F'.ds _ _).one h4⟩
section
variable{cx:Cx}{ops l:List Oper}{o:Oper}{F:Fr}{S:AS}{K:AV->AS->Prop}{Q:Ex->Fr->AS->Prop}{R:Fr->AS->Prop}
theorem SZ:qW cx ops [] F S R=R F S:=rfl
def jbD(cx:Cx)(ops l:List Oper)(F:Fr)(d:Option Nat)(R:Fr->AS->Prop)(v:AV)(S':AS):Prop:=qW cx ops l (up F d v) S' R
theorem PQ{d:Option Nat}{v:AV}{S':AS}:jbD cx ops l F d R v S'=qW cx ops l (up F d v) S' R:=rfl
def jfY(cx:Cx)(ops l:List Oper)(F:Fr)(S:AS)(dst:Option Nat)(R:Fr->AS->Prop)(w:Option Bool)(c:Call):Prop:=match w with
 |some true=>∃d,iM F c=some d/\qW cx ops l (up ⟨F.t,F.n,d::F.ds⟩ dst .undef) S R
 |some false=>qW cx ops l (up F dst .undef) S R
 |none=>False
theorem OJ{dst:Option Nat}{c:Call}:jfY cx ops l F S dst R (some true) c=∃d,iM F c=some d/\qW cx ops l (up ⟨F.t,F.n,d::F.ds⟩ dst .undef) S R:=rfl
theorem Pf:qW cx ops (o::l) F S R=jeU (dc o) (stepG cx ops o F S (jbD cx ops l F o.dst R)) (jfY cx ops l F S o.dst R (bj ops F o.guard)):=rfl
theorem JI{dst:Option Tmp}{op:Op}{ty:TypeId}{pos:String}{af:Array Edge}:stepG cx ops ⟨dst,op,ty,pos,af,none⟩ F S K=JX cx (bF cx F S ⟨dst,op,ty,pos,af,none⟩) K:=by
 simp[stepG,bj]
theorem Oy{dst:Option Tmp}{op:Op}{ty:TypeId}{pos:String}{af:Array Edge}{j d:Nat}{w b:Bool}(h1:ff ops j=some d)(h2:sl F d=.bool b)(h3:(b==w)=true):
  stepG cx ops ⟨dst,op,ty,pos,af,some (j,w)⟩ F S K=JX cx (bF cx F S ⟨dst,op,ty,pos,af,some (j,w)⟩) K:=by
 have:w=b:=by cases b<;>cases w<;>first|rfl|cases h3
 subst this;simp only[stepG,fA h1 h2];cases w<;>simp
theorem JH{dst:Option Tmp}{op:Op}{ty:TypeId}{pos:String}{af:Array Edge}{j d:Nat}{w b:Bool}(h1:ff ops j=some d)(h2:sl F d=.bool b)(h3:(b == !w)=true):
  stepG cx ops ⟨dst,op,ty,pos,af,some (j,w)⟩ F S K=K .undef S:=by
 have:w=!b:=by cases b<;>cases w<;>first|rfl|cases h3
 subst this;simp only[stepG,fA h1 h2];cases b<;>simp
theorem Sp{v:AV}{S':AS}:JX cx (.val v S') K=K v S':=rfl
theorem JW{f:FuncId}{as:List AV}{S':AS}:JX cx (.enter f as S') K=ah cx f as S' K:=rfl
theorem JV{id:Nat}{as:List AV}{S':AS}:JX cx (.round id as S') K=rO cx id as S' K:=rfl
theorem RH:tw cx .skip F S Q=Q .normal F S:=rfl
theorem XE:tw cx .ret F S Q=Q .ret F S:=rfl
theorem RJ{id:Nat}:tw cx (.exit id) F S Q=Q (.exit id) F S:=rfl
theorem Jq{id:Nat}{l:List Oper}:tw cx (.region id l.toArray false) F S Q=qW cx l l F S (Q .normal):=rfl
theorem Of{id:Nat}{l:List Oper}:tw cx (.region id l.toArray true) F S Q=lL cx l F S (Q .normal):=rfl
theorem rR.gen{b:Code}(h:rR cx b F S Q):N4 cx b F S Q:=fun hc=>by
 obtain⟨n,h⟩:=h hc;exact⟨n,h.mono fun o ho=>⟨ho.1,ho.2.1⟩⟩
def Us(cx:Cx)(b:Code)(Q:Ex->Fr->AS->Prop)(F':Fr)(S':AS):Prop:=tw cx b F' S' Q
theorem KJ{b:Code}{F':Fr}{S':AS}:Us cx b Q F' S'=tw cx b F' S' Q:=rfl
theorem XD{a b:Code}:tw cx (.seq a b) F S Q=tw cx a F S (ke (Us cx b Q) Q):=rfl
theorem RK{x:Operand}{a b:Code}:tw cx (.cond x a b) F S Q=iH (eval F x) (tw cx a F S Q) (tw cx b F S Q):=rfl
theorem Og{id:Nat}{b:Code}:tw cx (.block id b) F S Q=tw cx b F S (jZ id Q):=rfl
theorem RI{b:Code}:tw cx (.loop b) F S Q=N4 cx b F S Q:=rfl
theorem Oe{x:Operand}{ps:Array Tmp}{a b:Code}:tw cx (.rangeFunc x ps a b) F S Q=Fm cx x ps a b F S Q:=rfl
theorem QL{fn:Func}{H:AV->AS->Prop}:Wq cx fn H .ret F S=lG cx fn F H F.ds S:=rfl
theorem E3{fn:Func}{H:AV->AS->Prop}:Wq cx fn H .normal F S=lG cx fn F H F.ds S:=rfl
theorem jk{fn:Func}{H:AV->AS->Prop}:lG cx fn F H [] S=HY (lD cx F S fn.results.toList |>.map fun vs=>match vs with|[v]=>v|vs=>.tuple vs) S H:=rfl
def L6(r:AR)(K:AV->AS->Prop):Prop:=match r with | .val v S'=>K v S'|_=>False
theorem FU{v:AV}{S':AS}:L6 (.val v S') K=K v S':=rfl
def jbC(cx:Cx)(ops l:List Oper)(F:Fr)(d:Option Nat)(R:Fr->AS->Prop)(v:AV)(S':AS):Prop:=pL cx ops l (up F d v) S' R
theorem PO{d:Option Nat}{v:AV}{S':AS}:jbC cx ops l F d R v S'=pL cx ops l (up F d v) S' R:=rfl
theorem SX:pL cx ops [] F S R=R F S:=rfl
theorem DP{dst:Option Tmp}{ty:TypeId}{pos:String}{af:Array Edge}{a:Array Operand}{ts:Array TypeId}:pL cx ops (⟨dst,.call ⟨.builtin .recover,a,ts⟩,ty,pos,af,none⟩::l) F S R=pL cx ops l (up F dst .bR) S R:=by
 show (dc _=none/\cond (bI _) _ _)=_;simp[bj]
theorem Cz{dst:Option Tmp}{op:Op}{ty:TypeId}{pos:String}{af:Array Edge}(h1:bI ⟨dst,op,ty,pos,af,none⟩=false)(h2:dc ⟨dst,op,ty,pos,af,none⟩=none):
  pL cx ops (⟨dst,op,ty,pos,af,none⟩::l) F S R=L6 (bF cx F S ⟨dst,op,ty,pos,af,none⟩) (jbC cx ops l F dst R):=by
 show (dc _=none/\cond (bI _) _ _)=_;rw[h1,h2];simp only[cond_false,true_and];rfl
end
attribute [simp] FU PO SX DP Cz PQ SZ Pf OJ JI Oy JH Of Sp JW JV RH XE RJ Jq KJ XD RK Og RI Oe QL E3
end Go.Am
