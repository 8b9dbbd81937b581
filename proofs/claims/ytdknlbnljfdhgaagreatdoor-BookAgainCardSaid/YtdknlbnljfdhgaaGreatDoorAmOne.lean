/-
  The abstract machine: the logic of one outcome for code that defers calls, ranges over functions, and calls a loop's round.
-/
import Derived.Test.YtdknlbnljfdhgaaGreatDoorAmSet
namespace Go.Am
open Go
set_option linter.unusedVariables false
set_option linter.unusedSimpArgs false
def pS(cx:Cx)(id:Nat)(as:List AV)(S:AS)(Q:AV->AS->Prop):Prop:=∃n,(oR (exec cx n) id as S).One fun r=>bE r.1=false/\Q r.1 r.2
theorem pS.mono{cx:Cx}{id:Nat}{as:List AV}{S:AS}{Q Q':AV->AS->Prop}(h:pS cx id as S Q)(k:∀v S',Q v S'->Q' v S'):pS cx id as S Q':=by
 obtain⟨n,h⟩:=h;exact⟨n,h.mono fun r hr=>⟨hr.1,k _ _ hr.2⟩⟩
def runG(cx:Cx)(r:AR)(K:AV->AS->Prop):Prop:=
 match r with
 | .val v S'=>K v S'
 | .enter f as S'=>ai cx f as S' K
 | .round id as S'=>pS cx id as S' K
 |_=>False
def stepG(cx:Cx)(ops:List Oper)(o:Oper)(F:Fr)(S:AS)(K:AV->AS->Prop):Prop:=
 match aQ ops F o.guard with
 |some b=>(b=true->runG cx (bj cx F S o) K)/\(b=false->K .undef S)
 |none=>False
def pk(cx:Cx)(ops:List Oper):List Oper->Fr->AS->(Fr->AS->Prop)->Prop
 |[],F,S,Q=>Q F S
 |o::l,F,S,Q=>match cM o with
  |none=>stepG cx ops o F S fun v S'=>pk cx ops l (up F o.dst v) S' Q
  |some c=>match aQ ops F o.guard with
   |some true=>∃d,gM F c=some d/\pk cx ops l (up ⟨F.t,F.n,d::F.ds⟩ o.dst .undef) S Q
   |some false=>pk cx ops l (up F o.dst .undef) S Q
   |none=>False
theorem one_okG{cx:Cx}{ops:List Oper}{o:Oper}{F:Fr}{S:AS}{K:AV->AS->Prop}(h:stepG cx ops o F S K):∃n,(one cx (cy cx (exec cx n)) ops o F S).One fun r=>r.1=false/\K r.2.1 r.2.2:=by
 unfold stepG at h;unfold one;rw[gP];cases hw:aQ ops F o.guard with
 |none=>rw[hw]at h;exact h.elim
 |some b=>
  rw[hw]at h;cases b with
  |true=>
   have h1:=h.1 rfl;unfold runG at h1;simp only[];cases ha:bj cx F S o with
   |val v S'=>rw[ha]at h1;exact⟨0,_,rfl,rfl,h1⟩
   |round f as S'=>
    rw[ha]at h1;obtain⟨n,h1⟩:=h1;exact⟨n,av.One.bind (h1.mono fun r hr=>by rw[wA hr.1];exact⟨_,rfl,rfl,hr.2⟩)⟩
   |dP v S'=>rw[ha]at h1;exact h1.elim
   |many l=>rw[ha]at h1;exact h1.elim
   |enter f as S'=>
    rw[ha]at h1;obtain⟨n,h1⟩:=h1;exact⟨n,av.One.bind (h1.mono fun r hr=>by rw[wA hr.1];exact⟨_,rfl,rfl,hr.2⟩)⟩
   |err n=>rw[ha]at h1;exact h1.elim
  |false=>exact⟨0,_,rfl,rfl,h.2 rfl⟩
theorem vE{cx:Cx}{ops:List Oper}:∀{l:List Oper}{F:Fr}{S:AS}{Q:Fr->AS->Prop},xM F.n l=true->pk cx ops l F S Q ->
  ∃n,(cY cx (cy cx (exec cx n)) ops l F S).One fun r=>r.1=none/\Q r.2.1 r.2.2/\r.2.1.n=F.n
 |[],F,S,Q,_,h=>⟨0,_,rfl,rfl,h,rfl⟩
 |o::l,F,S,Q,hd,h=>by
  have jq:(yX F.n o&&xM F.n l)=true:=hd;rw[Bool.and_eq_true]at jq;have h0:pk cx ops (o::l) F S Q=(match cM o with
   |none=>stepG cx ops o F S fun v S'=>pk cx ops l (up F o.dst v) S' Q
   |some c=>match aQ ops F o.guard with
    |some true=>∃d,gM F c=some d/\pk cx ops l (up ⟨F.t,F.n,d::F.ds⟩ o.dst .undef) S Q
    |some false=>pk cx ops l (up F o.dst .undef) S Q
    |none=>False):=rfl
  rw[h0]at h;have vI:∀K,cY cx K ops (o::l) F S=(match cM o with
   |none=>av.bind (one cx K ops o F S) fun r=>cond r.1 (.ok (some r.2.1,F,r.2.2) []) (cY cx K ops l (bG F o.dst r.2.1) r.2.2)
   |some c=>match wanted ops F o with
    |some true=>match gM F c with
     |some d=>cY cx K ops l (bG ⟨F.t,F.n,d::F.ds⟩ o.dst .undef) S
     |none=>.err 1009
    |some false=>cY cx K ops l (bG F o.dst .undef) S
    |none=>.err 1010):=fun K=>rfl
  cases BT:cM o with
  |some c=>
   rw[BT]at h;simp only[]at h;cases hw:aQ ops F o.guard with
   |none=>rw[hw]at h;exact h.elim
   |some b=>
    rw[hw]at h;cases b with
    |true=>
     obtain⟨d,hdv,h⟩:=h;obtain⟨m,h3⟩:=vE (l:=l) (F:=up ⟨F.t,F.n,d::F.ds⟩ o.dst .undef) (by rw[lS];exact jq.2) h;refine⟨m,?_⟩;rw[vI,BT];simp only[gP,hw,hdv];rw[nE (F:=⟨F.t,F.n,d::F.ds⟩) _ jq.1];exact h3.mono fun r hr=>⟨hr.1,hr.2.1,hr.2.2.trans (lS ..)⟩
    |false=>
     obtain⟨m,h3⟩:=vE (l:=l) (by rw[lS];exact jq.2) h;refine⟨m,?_⟩;rw[vI,BT];simp only[gP,hw];rw[nE _ jq.1];exact h3.mono fun r hr=>⟨hr.1,hr.2.1,hr.2.2.trans (lS ..)⟩
  |none=>
   rw[BT]at h;obtain⟨n,r,h1,h0,h2⟩:=one_okG h;obtain⟨m,h3⟩:=vE (l:=l) (by rw[lS];exact jq.2) h2;refine⟨n+m,?_⟩;rw[vI,BT];simp only[];refine av.One.bind ⟨r,(one_le (cx:=cx) (K:=cy cx (exec cx n)) (K':=cy cx (exec cx (n+m))) (gC (Nat.le_add_right n m)) ops o F S) _ _ h1,?_⟩;simp only[h0,cond_false];rw[nE _ jq.1];exact ((kS (K:=cy cx (exec cx m)) (K':=cy cx (exec cx (n+m))) (gC (Nat.le_add_left m n)) ops l _ _).one h3).mono fun r hr=>⟨hr.1,hr.2.1,hr.2.2.trans (lS ..)⟩
def LoopG(cx:Cx)(b:Code)(F:Fr)(S:AS)(Q:Ex->Fr->AS->Prop):Prop:=codeOk cx F.n b=true->∃n,(exec cx n (.loop b) F S).One fun o=>Q o.ex o.F o.S/\o.F.n=F.n
def CI(cx:Cx)(x:Operand)(ps:Array Tmp)(a b:Code)(F:Fr)(S:AS)(Q:Ex->Fr->AS->Prop):Prop:=
 (cP a&&cP b)=true/\∃g first captured,eval F x=.func (.func g) first captured /\
  ai cx g (fH first (.obj .yld (Nat.succ S.next)::captured)) ⟨(S.h.set S.next (.jk (.yw true))).set (Nat.succ S.next) (.jk (.loop .ready none F ps a b)),Nat.succ (Nat.succ S.next)⟩
   fun _ T=>(∃st F' ps' a' b',st≠.busy/\T.h.get (Nat.succ S.next)=some (.jk (.loop st none F' ps' a' b'))/\Q .normal ⟨F.t,F.n,.mark S.next::F.ds⟩ (lh T (Nat.succ S.next) (.loop .exhausted none F' ps' a' b'))) \/
    (∃st F' ps' a' b',st≠.busy/\T.h.get (Nat.succ S.next)=some (.jk (.loop st (some .ret) F' ps' a' b'))/\Q .ret ⟨F.t,F.n,.mark S.next::F.ds⟩ (lh T (Nat.succ S.next) (.loop .exhausted (some .ret) F' ps' a' b')))
def rm(cx:Cx):Code->Fr->AS->(Ex->Fr->AS->Prop)->Prop
 | .skip,F,S,Q=>Q .normal F S
 | .ret,F,S,Q=>Q .ret F S
 | .exit id,F,S,Q=>Q (.exit id) F S
 | .region _ ops false,F,S,Q=>pk cx ops.toList ops.toList F S (Q .normal)
 | .region _ ops true,F,S,Q=>ko cx ops.toList F S (Q .normal)
 | .seq a b,F,S,Q=>rm cx a F S (jo (fun F' S'=>rm cx b F' S' Q) Q)
 | .cond x a b,F,S,Q=>gG (eval F x) (rm cx a F S Q) (rm cx b F S Q)
 | .block id b,F,S,Q=>rm cx b F S (jh id Q)
 | .loop b,F,S,Q=>LoopG cx b F S Q
 | .rangeFunc x ps a b,F,S,Q=>CI cx x ps a b F S Q
 |_,_,_,_=>False
theorem AN{cx:Cx}:∀(c:Code){F:Fr}{S:AS}{Q:Ex->Fr->AS->Prop},codeOk cx F.n c=true->rm cx c F S Q->∃n,(exec cx n c F S).One fun o=>Q o.ex o.F o.S/\o.F.n=F.n:=by
 intro c
 induction c with
 |skip=>intro F S Q _ h;exact⟨1,_,rfl,h,rfl⟩
 |ret=>intro F S Q _ h;exact⟨1,_,rfl,h,rfl⟩
 |exit id=>intro F S Q _ h;exact⟨1,_,rfl,h,rfl⟩
 |region id ops draw=>
  intro F S Q hc h;cases draw with
  |false=>
   obtain⟨n,h⟩:=vE hc h;refine⟨n+1,?_⟩;show (av.bind (cY cx (cy cx (exec cx n)) ops.toList ops.toList F S) fun r=>match r.1 with
    |none=>.ok (⟨.normal,r.2.1,r.2.2⟩:Out) []
    |some v=>.ok (⟨.dP v,r.2.1,r.2.2⟩:Out) []).One _
   exact av.One.bind (h.mono fun r hr=>by rw[hr.1];exact⟨_,rfl,hr.2⟩)
  |true=>
   obtain⟨n,h⟩:=As hc h;refine⟨n+1,?_⟩;show (av.bind (fb cx (cy cx (exec cx n)) ops.toList F S) fun r=>match r.1 with
    |none=>.ok (⟨.normal,r.2.1,r.2.2⟩:Out) []
    |some v=>.ok (⟨.dP v,r.2.1,r.2.2⟩:Out) []).One _
   exact av.One.bind (h.mono fun r hr=>by rw[hr.1];exact⟨_,rfl,hr.2.1,hr.2.2.1⟩)
 |seq a b BG uS=>
  intro F S Q hc h;have iO:(codeOk cx F.n a&&codeOk cx F.n b)=true:=hc;rw[Bool.and_eq_true]at iO;obtain⟨n,o,h1,h2,h3⟩:=BG iO.1 (show rm cx a F S (jo (fun F' S'=>rm cx b F' S' Q) Q) from h);obtain⟨e,F2,S2⟩:=o;have h3:F2.n=F.n:=h3;have h4:∃m,((match e with | .normal=>exec cx m b F2 S2|_=>.ok ⟨e,F2,S2⟩ []):av Out).One fun o=>Q o.ex o.F o.S/\o.F.n=F.n:=by
   cases e with
   |normal=>
    obtain⟨m,h5⟩:=uS (F:=F2) (S:=S2) (Q:=Q) (by rw[h3];exact iO.2) h2;exact⟨m,h5.mono fun o ho=>⟨ho.1,ho.2.trans h3⟩⟩
   |exit id=>exact⟨0,_,rfl,h2,h3⟩
   |ret=>exact⟨0,_,rfl,h2,h3⟩
   |goto l=>exact⟨0,_,rfl,h2,h3⟩
   |dP v=>exact⟨0,_,rfl,h2,h3⟩
  obtain⟨m,h4⟩:=h4;refine⟨n+m+1,?_⟩;show (av.bind (exec cx (n+m) a F S) fun o=>match o.ex with | .normal=>exec cx (n+m) b o.F o.S|_=>.ok o []).One _;refine av.One.bind ⟨⟨e,F2,S2⟩,cr (Nat.le_add_right n m) a F S _ _ h1,?_⟩;cases e with
  |normal=>exact (cr (Nat.le_add_left m n) b F2 S2).one h4
  |goto l=>exact h4
  |dP v=>exact h4
  |exit id=>exact h4
  |ret=>exact h4
 |cond x a b BG uS=>
  intro F S Q hc h;have iO:(codeOk cx F.n a&&codeOk cx F.n b)=true:=hc;rw[Bool.and_eq_true]at iO;have h0:gG (eval F x) (rm cx a F S Q) (rm cx b F S Q):=h;have e:∀n,exec cx (n+1) (.cond x a b) F S=(match eval F x with
   | .bool true=>exec cx n a F S
   | .bool false=>exec cx n b F S
   |_=>.err 3001):=fun n=>rfl
  unfold gG at h0;split at h0
  .rename_i t ht;cases t with
   |true=>obtain⟨n,h1⟩:=BG iO.1 (h0.1 rfl);exact⟨n+1,by rw[e,ht];exact h1⟩
   |false=>obtain⟨n,h1⟩:=uS iO.2 (h0.2 rfl);exact⟨n+1,by rw[e,ht];exact h1⟩
  .exact h0.elim
 |block id b ih=>
  intro F S Q hc h;obtain⟨n,o,h1,h2,h3⟩:=ih (F:=F) hc (show rm cx b F S (jh id Q) from h);refine⟨n+1,?_⟩;show (av.bind (exec cx n b F S) fun o=>match o.ex with
   | .exit j=>cond (Nat.beq j id) (.ok ⟨.normal,o.F,o.S⟩ []) (.ok o [])
   |_=>.ok o []).One _
  refine av.One.bind ⟨o,h1,?_⟩;obtain⟨ex,F2,S2⟩:=o;cases ex with
  |exit j=>
   have h2:(if j=id then Q .normal F2 S2 else Q (.exit j) F2 S2):=h2;show (cond (Nat.beq j id) (.ok ⟨.normal,F2,S2⟩ []) (.ok ⟨.exit j,F2,S2⟩ []):av Out).One _;by_cases hj:j=id
   .rw[if_pos hj]at h2;rw[show Nat.beq j id=true from by rw[hj];exact Nat.beq_refl id];exact⟨_,rfl,h2,h3⟩
   .rw[if_neg hj]at h2;rw[show Nat.beq j id=false from by cases hb:Nat.beq j id with|false=>rfl|true=>exact absurd (Nat.eq_of_beq_eq_true hb) hj];exact⟨_,rfl,h2,h3⟩
  |normal=>exact⟨_,rfl,h2,h3⟩
  |ret=>exact⟨_,rfl,h2,h3⟩
  |goto l=>exact⟨_,rfl,h2,h3⟩
  |dP v=>exact⟨_,rfl,h2,h3⟩
 |loop b _=>intro F S Q hc h;exact h hc
 |rangeFunc x ps a b _ _=>
  intro F S Q _ h;obtain⟨h0,g,first,captured,hx,n,h1⟩:=h;refine⟨n+1+1,?_⟩;show (pe cx (exec cx (n+1)) x ps a b F S).One _;unfold pe;rw[h0,cond_true,hx];have vL:=(gC (cx:=cx) (Nat.le_succ n) (.fn g) _ _).one h1;refine av.One.bind (vL.mono fun r hr=>?_);obtain⟨hp,hr⟩:=hr;obtain⟨v,T⟩:=r;have hnp:∀{β:Type}{p:AV->β}{k:β},rD v p k=k:=by
   intro β p k;cases v<;>first|rfl|cases hp
  unfold pg;rw[hnp];rcases hr with⟨st,F',ps',a',b',fy,hg,hq⟩|⟨st,F',ps',a',b',fy,hg,hq⟩
  .simp only[]at hg hq⊢;rw[hg];cases st with
   |busy=>exact absurd rfl fy
   |ready=>exact⟨_,rfl,hq,rfl⟩
   |done=>exact⟨_,rfl,hq,rfl⟩
   |exhausted=>exact⟨_,rfl,hq,rfl⟩
  .simp only[]at hg hq⊢;rw[hg];cases st with
   |busy=>exact absurd rfl fy
   |ready=>exact⟨_,rfl,hq,rfl⟩
   |done=>exact⟨_,rfl,hq,rfl⟩
   |exhausted=>exact⟨_,rfl,hq,rfl⟩
 |scope b uS=>intro F S Q _ h;exact h.elim
 |label l=>intro F S Q _ h;exact h.elim
 |goto l=>intro F S Q _ h;exact h.elim
 |refuse s=>intro F S Q _ h;exact h.elim
theorem range_gen{cx:Cx}{x:Operand}{ps:Array Tmp}{a b:Code}{F:Fr}{S:AS}{Q:Ex->Fr->AS->Prop}(H:∀cA cB:Code,cA=a->cB=b->CI cx x ps cA cB F S Q):CI cx x ps a b F S Q:=H a b rfl rfl
theorem roundG_of{cx:Cx}{id:Nat}{as:List AV}{S:AS}{K:AV->AS->Prop}{j:Option Code}{F F1:Fr}{ps:Array Tmp}{a b:Code}(hg:S.h.get id=some (.jk (.loop .ready j F ps a b)))(hp:Bf ⟨F.t,F.n,[]⟩ ps.toList as=some F1)
  (ha:codeOk cx F1.n a=true) (hb:codeOk cx F1.n b=true)
  (h:rm cx a F1 S fun e F2 S2=>e=.normal/\∃j' F' a' b',S2.h.get id=some (.jk (.loop .ready j' F' ps a' b')) /\
   rm cx b F2 (lh S2 id (.loop .busy j' F' ps a' b')) fun e2 F3 S3=>∃st j3 F4 ps3 a3 b3,S3.h.get id=some (.jk (.loop st j3 F4 ps3 a3 b3))/\((e2=.normal/\K (.bool true) (lh S3 id (.loop .ready none F4 ps3 a3 b3)))\/(e2=.ret/\K (.bool false) (lh S3 id (.loop .done (some .ret) F4 ps3 a3 b3))))):pS cx id as S K:=by
 obtain⟨n,o,h1,⟨he,j',F',a',b',hg2,h3⟩,hn⟩:=AN a ha h;obtain⟨e,F2,S2⟩:=o;simp only[]at he hg2 h3 hn;subst he;obtain⟨m,o2,h4,⟨st,j3,F4,ps3,a3,b3,hg3,hk⟩,_⟩:=AN b (F:=F2) (by rw[hn];exact hb) h3;obtain⟨e2,F3,S3⟩:=o2;simp only[]at hg3 hk;refine⟨n+m,?_⟩;unfold oR;rw[hg];simp only[hp];refine av.One.bind ⟨_,cr (Nat.le_add_right n m) a _ _ _ _ h1,?_⟩;simp only[hg2];refine av.One.bind ⟨_,cr (Nat.le_add_left m n) b _ _ _ _ h4,?_⟩;rcases hk with⟨he2,hk⟩|⟨he2,hk⟩
 .subst he2;unfold oS;rw[hg3];exact⟨_,rfl,rfl,hk⟩
 .subst he2;unfold oS;rw[hg3];exact⟨_,rfl,rfl,hk⟩
theorem loopG_of{cx:Cx}{b:Code}{F:Fr}{S:AS}{Q:Ex->Fr->AS->Prop}(I:Nat->Fr->AS->Prop)(k:Nat)(h0:I k F S)
  (h:∀(k:Nat)(F':Fr)(S':AS),F'.n=F.n->I k F' S'->rm cx b F' S' (jo (fun F2 S2=>∃j,j<k/\I j F2 S2) Q)):LoopG cx b F S Q:=by
 intro hc;have main:∀(k:Nat)(F':Fr)(S':AS),I k F' S'->F'.n=F.n->∃n,(exec cx n (.loop b) F' S').One fun o=>Q o.ex o.F o.S/\o.F.n=F.n:=by
  intro k
  induction k using Nat.strongRecOn with
  |ind k ih=>
   intro F' S' hI hn;obtain⟨n,o,h1,h2,h3⟩:=AN b (by rw[hn];exact hc) (h k F' S' hn hI);obtain⟨e,F2,S2⟩:=o;simp only[]at h2 h3;have h4:∃m,((match e with | .normal=>exec cx m (.loop b) F2 S2|_=>.ok ⟨e,F2,S2⟩ []):av Out).One fun o=>Q o.ex o.F o.S/\o.F.n=F.n:=by
    cases e with
    |normal=>obtain⟨j,hj,hI2⟩:=h2;exact ih j hj F2 S2 hI2 (h3.trans hn)
    |exit id=>exact⟨0,_,rfl,h2,h3.trans hn⟩
    |ret=>exact⟨0,_,rfl,h2,h3.trans hn⟩
    |goto l=>exact⟨0,_,rfl,h2,h3.trans hn⟩
    |dP v=>exact⟨0,_,rfl,h2,h3.trans hn⟩
   obtain⟨m,h4⟩:=h4;refine⟨n+m+1,?_⟩;show (av.bind (exec cx (n+m) b F' S') fun o=>match o.ex with | .normal=>exec cx (n+m) (.loop b) o.F o.S|_=>.ok o []).One _;refine av.One.bind ⟨⟨e,F2,S2⟩,cr (Nat.le_add_right n m) b _ _ _ _ h1,?_⟩;cases e with
   |normal=>exact (cr (Nat.le_add_left m n) (.loop b) F2 S2).one h4
   |goto l=>exact h4
   |dP v=>exact h4
   |exit id=>exact h4
   |ret=>exact h4
 exact main k F S h0 rfl
def kg(cx:Cx)(fn:Func)(F:Fr)(Q:AV->AS->Prop):List sa->AS->Prop
 |[],S=>E5 (j9 cx F S fn.results.toList |>.map fun vs=>match vs with|[v]=>v|vs=>.tuple vs) S Q
 | .mark id::ds,S=>S.h.get id=some (.jk (.yw true))/\kg cx fn F Q ds (lh S id (.yw false))
 | .call g as captured :: ds,S=>∃ gn c,cx.fns.get g=some gn∧gn.body=some c∧codeOk cx gn.ntmps c=true∧(fH as captured).length≤gn.ntmps ∧
   ∀F':Fr,F'.n=gn.ntmps->(∀t,sl F' t=((fH as captured)[t]?).getD .undef)->wpS cx c F' S (AY cx gn fun S'=>kg cx fn F Q ds S')
def bodyG(cx:Cx)(fn:Func)(Q:AV->AS->Prop):Ex->Fr->AS->Prop
 | .exit _,_,_=>False
 | .goto _,_,_=>False
 | .dP _,_,_=>False
 |_,F,S=>kg cx fn F Q F.ds S
theorem qm{cx:Cx}{fn:Func}{F:Fr}{Q:AV->AS->Prop}:∀{ds:List sa}{S:AS},kg cx fn F Q ds S->∃n,(ei cx (exec cx n) fn F ds .ret S).One fun r=>bE r.1=false/\Q r.1 r.2
 |[],S,h=>by
  refine⟨0,?_⟩;show (match b9 cx fn F S with|some v=>(.ok (v,S) []:av (AV×AS))|none=>.err 2001).One _;have h':E5 (b9 cx fn F S) S Q:=by rw[nA];exact h
  cases hv:b9 cx fn F S with
  |none=>rw[hv]at h';exact h'.elim
  |some v=>rw[hv]at h';exact⟨_,rfl,h'⟩
 | .mark id::ds,S,h=>by
  have e:∀ih,ei cx ih fn F (.mark id::ds) .ret S=(match S.h.get id with
    |some (.jk (.yw true))=>ei cx ih fn F ds .ret (lh S id (.yw false))
    |_=>.err 2011):=fun _=>rfl
  obtain⟨n,h2⟩:=qm h.2;exact⟨n,by rw[e,h.1];exact h2⟩
 | .call g as cs::ds,S,h=>by
  obtain⟨gn,c,h1,h2,h3,h3',h4⟩:=h;have fL:(kB (fH as cs) gn.ntmps).n=gn.ntmps:=by rw[BA];omega
  obtain ⟨n, o, h5, q1, hm, q2⟩ := wpS_ok c (F := kB (fH as cs) gn.ntmps) (by rw [fL]; exact h3) (h4 _ fL (wj _ _));obtain ⟨ex, F2, S2, m2⟩ := o;have hm : m2 = .ret := hm;subst hm;have qv : F2.ds = [] := q2.2;have e : ∀ ih, ei cx ih fn F (.call g as cs :: ds) .ret S = (match cx.fns.get g with
    |some gn=>match gn.body with
     |some c=>av.bind (dR cx ih c (kB (fH as cs) gn.ntmps) S .ret) fun o=>match o.F.ds with
      |[]=>match nu o.ex o.m with
       |some m'=>match o.ex with
        | .dP _=>ei cx ih fn F ds m' o.S
        |_=>match b9 cx gn o.F o.S with
         |some _=>ei cx ih fn F ds m' o.S
         |none=>.err 2012
       |none=>.err 2013
      |_=>.err 2014
     |none=>.err 2015
    |none=>.err 2016):=fun _=>rfl
  cases ex with
  |exit id=>exact q1.elim
  |goto l=>exact q1.elim
  |dP v=>exact q1.elim
  |normal=>
   obtain⟨⟨v,k2⟩,k3⟩:=q1;obtain⟨m,k4⟩:=qm k3;refine⟨n+m,?_⟩;rw[e,h1];simp only[h2];refine av.One.bind ⟨_,nM (Nat.le_add_right n m) c _ S .ret _ _ h5,?_⟩;have k2:b9 cx gn F2 S2=some v:=k2;simp only[qv,nu,k2];exact (gz (fun c F S=>cr (Nat.le_add_left m n) c F S) fn F ds _ _).one k4
  |ret=>
   obtain⟨⟨v,k2⟩,k3⟩:=q1;obtain⟨m,k4⟩:=qm k3;refine⟨n+m,?_⟩;rw[e,h1];simp only[h2];refine av.One.bind ⟨_,nM (Nat.le_add_right n m) c _ S .ret _ _ h5,?_⟩;have k2:b9 cx gn F2 S2=some v:=k2;simp only[qv,nu,k2];exact (gz (fun c F S=>cr (Nat.le_add_left m n) c F S) fn F ds _ _).one k4
theorem xK{cx:Cx}{f:FuncId}{fn:Func}{c:Code}{as:List AV}{S:AS}{Q:AV->AS->Prop}(hu:cx.jS.get f=none)(hp:cx.dE.get f=none)(hf:cx.fns.get f=some fn)(hb:fn.body=some c)(hc:codeOk cx fn.ntmps c=true)(hn:as.length<=fn.ntmps)
  (h:∀F:Fr,F.n=fn.ntmps->F.ds=[]->(∀t,sl F t=(as[t]?).getD .undef)->rm cx c F S (bodyG cx fn Q)):ai cx f as S Q:=by
 have fL:(kB as fn.ntmps).n=fn.ntmps:=by rw[BA];omega
 obtain⟨n,o,h1,h2,h3⟩:=AN c (F:=kB as fn.ntmps) (by rw[fL];exact hc) (h _ fL rfl (wj as _));obtain⟨e,F',S'⟩:=o;have key:kg cx fn F' Q F'.ds S'->∃m,(ei cx (exec cx m) fn F' F'.ds .ret S').One fun r=>bE r.1=false/\Q r.1 r.2:=qm;cases e with
 |exit id=>exact h2.elim
 |goto l=>exact h2.elim
 |dP v=>exact h2.elim
 |normal=>
  obtain⟨m,h4⟩:=key h2;refine⟨n+m,?_⟩;unfold call cy qQ fnF;simp only[hu,hp,hf,hb];exact av.One.bind ⟨_,cr (Nat.le_add_right n m) c _ S _ _ h1,(gz (fun c F S=>cr (Nat.le_add_left m n) c F S) fn F' F'.ds _ _).one h4⟩
 |ret=>
  obtain⟨m,h4⟩:=key h2;refine⟨n+m,?_⟩;unfold call cy qQ fnF;simp only[hu,hp,hf,hb];exact av.One.bind ⟨_,cr (Nat.le_add_right n m) c _ S _ _ h1,(gz (fun c F S=>cr (Nat.le_add_left m n) c F S) fn F' F'.ds _ _).one h4⟩
section
variable{cx:Cx}{ops l:List Oper}{o:Oper}{F:Fr}{S:AS}{K:AV->AS->Prop}{Q:Ex->Fr->AS->Prop}{R:Fr->AS->Prop}
theorem opsG_nil:pk cx ops [] F S R=R F S:=rfl
def kontG(cx:Cx)(ops l:List Oper)(F:Fr)(d:Option Nat)(R:Fr->AS->Prop)(v:AV)(S':AS):Prop:=pk cx ops l (up F d v) S' R
theorem kontG_app{d:Option Nat}{v:AV}{S':AS}:kontG cx ops l F d R v S'=pk cx ops l (up F d v) S' R:=rfl
def setG(cx:Cx)(ops l:List Oper)(F:Fr)(S:AS)(dst:Option Nat)(R:Fr->AS->Prop)(w:Option Bool)(c:Call):Prop:=match w with
 |some true=>∃d,gM F c=some d/\pk cx ops l (up ⟨F.t,F.n,d::F.ds⟩ dst .undef) S R
 |some false=>pk cx ops l (up F dst .undef) S R
 |none=>False
theorem setG_true{dst:Option Nat}{c:Call}:setG cx ops l F S dst R (some true) c=∃d,gM F c=some d/\pk cx ops l (up ⟨F.t,F.n,d::F.ds⟩ dst .undef) S R:=rfl
theorem opsG_cons:pk cx ops (o::l) F S R=defK (cM o) (stepG cx ops o F S (kontG cx ops l F o.dst R)) (setG cx ops l F S o.dst R (aQ ops F o.guard)):=rfl
theorem stepG_free{dst:Option Tmp}{op:Op}{ty:TypeId}{pos:String}{af:Array Edge}:stepG cx ops ⟨dst,op,ty,pos,af,none⟩ F S K=runG cx (bj cx F S ⟨dst,op,ty,pos,af,none⟩) K:=by
 simp[stepG,aQ]
theorem stepG_run{dst:Option Tmp}{op:Op}{ty:TypeId}{pos:String}{af:Array Edge}{j d:Nat}{w b:Bool}(h1:dY ops j=some d)(h2:sl F d=.bool b)(h3:(b==w)=true):
  stepG cx ops ⟨dst,op,ty,pos,af,some (j,w)⟩ F S K=runG cx (bj cx F S ⟨dst,op,ty,pos,af,some (j,w)⟩) K:=by
 have:w=b:=by cases b<;>cases w<;>first|rfl|cases h3
 subst this;simp only[stepG,eH h1 h2];cases w<;>simp
theorem stepG_skip{dst:Option Tmp}{op:Op}{ty:TypeId}{pos:String}{af:Array Edge}{j d:Nat}{w b:Bool}(h1:dY ops j=some d)(h2:sl F d=.bool b)(h3:(b == !w)=true):
  stepG cx ops ⟨dst,op,ty,pos,af,some (j,w)⟩ F S K=K .undef S:=by
 have:w=!b:=by cases b<;>cases w<;>first|rfl|cases h3
 subst this;simp only[stepG,eH h1 h2];cases b<;>simp
theorem runG_val{v:AV}{S':AS}:runG cx (.val v S') K=K v S':=rfl
theorem runG_enter{f:FuncId}{as:List AV}{S':AS}:runG cx (.enter f as S') K=ai cx f as S' K:=rfl
theorem runG_round{id:Nat}{as:List AV}{S':AS}:runG cx (.round id as S') K=pS cx id as S' K:=rfl
theorem wpG_skip:rm cx .skip F S Q=Q .normal F S:=rfl
theorem wpG_ret:rm cx .ret F S Q=Q .ret F S:=rfl
theorem wpG_exit{id:Nat}:rm cx (.exit id) F S Q=Q (.exit id) F S:=rfl
theorem wpG_region{id:Nat}{l:List Oper}:rm cx (.region id l.toArray false) F S Q=pk cx l l F S (Q .normal):=rfl
theorem wpG_drawn{id:Nat}{l:List Oper}:rm cx (.region id l.toArray true) F S Q=ko cx l F S (Q .normal):=rfl
theorem pU.gen{b:Code}(h:pU cx b F S Q):LoopG cx b F S Q:=fun hc=>by
 obtain⟨n,h⟩:=h hc;exact⟨n,h.mono fun o ho=>⟨ho.1,ho.2.1⟩⟩
def kcodeG(cx:Cx)(b:Code)(Q:Ex->Fr->AS->Prop)(F':Fr)(S':AS):Prop:=rm cx b F' S' Q
theorem kcodeG_app{b:Code}{F':Fr}{S':AS}:kcodeG cx b Q F' S'=rm cx b F' S' Q:=rfl
theorem wpG_seq{a b:Code}:rm cx (.seq a b) F S Q=rm cx a F S (jo (kcodeG cx b Q) Q):=rfl
theorem wpG_cond{x:Operand}{a b:Code}:rm cx (.cond x a b) F S Q=gG (eval F x) (rm cx a F S Q) (rm cx b F S Q):=rfl
theorem wpG_block{id:Nat}{b:Code}:rm cx (.block id b) F S Q=rm cx b F S (jh id Q):=rfl
theorem wpG_loop{b:Code}:rm cx (.loop b) F S Q=LoopG cx b F S Q:=rfl
theorem wpG_range{x:Operand}{ps:Array Tmp}{a b:Code}:rm cx (.rangeFunc x ps a b) F S Q=CI cx x ps a b F S Q:=rfl
theorem bodyG_ret{fn:Func}{H:AV->AS->Prop}:bodyG cx fn H .ret F S=kg cx fn F H F.ds S:=rfl
theorem Co{fn:Func}{H:AV->AS->Prop}:bodyG cx fn H .normal F S=kg cx fn F H F.ds S:=rfl
theorem iz{fn:Func}{H:AV->AS->Prop}:kg cx fn F H [] S=E5 (j9 cx F S fn.results.toList |>.map fun vs=>match vs with|[v]=>v|vs=>.tuple vs) S H:=rfl
def valOnly(r:AR)(K:AV->AS->Prop):Prop:=match r with | .val v S'=>K v S'|_=>False
theorem Da{v:AV}{S':AS}:valOnly (.val v S') K=K v S':=rfl
def kontR(cx:Cx)(ops l:List Oper)(F:Fr)(d:Option Nat)(R:Fr->AS->Prop)(v:AV)(S':AS):Prop:=nH cx ops l (up F d v) S' R
theorem kontR_app{d:Option Nat}{v:AV}{S':AS}:kontR cx ops l F d R v S'=nH cx ops l (up F d v) S' R:=rfl
theorem opsR_nil:nH cx ops [] F S R=R F S:=rfl
theorem Bn{dst:Option Tmp}{ty:TypeId}{pos:String}{af:Array Edge}{a:Array Operand}{ts:Array TypeId}:nH cx ops (⟨dst,.call ⟨.builtin .recover,a,ts⟩,ty,pos,af,none⟩::l) F S R=nH cx ops l (up F dst .bH) S R:=by
 show (cM _=none/\cond (bu _) _ _)=_;simp[aQ]
theorem zL{dst:Option Tmp}{op:Op}{ty:TypeId}{pos:String}{af:Array Edge}(h1:bu ⟨dst,op,ty,pos,af,none⟩=false)(h2:cM ⟨dst,op,ty,pos,af,none⟩=none):
  nH cx ops (⟨dst,op,ty,pos,af,none⟩::l) F S R=valOnly (bj cx F S ⟨dst,op,ty,pos,af,none⟩) (kontR cx ops l F dst R):=by
 show (cM _=none/\cond (bu _) _ _)=_;rw[h1,h2];simp only[cond_false,true_and];rfl
end
attribute [simp] Da kontR_app opsR_nil Bn zL kontG_app opsG_nil opsG_cons setG_true stepG_free stepG_run stepG_skip wpG_drawn runG_val runG_enter runG_round wpG_skip wpG_ret wpG_exit wpG_region kcodeG_app wpG_seq wpG_cond wpG_block wpG_loop wpG_range bodyG_ret Co
end Go.Am
