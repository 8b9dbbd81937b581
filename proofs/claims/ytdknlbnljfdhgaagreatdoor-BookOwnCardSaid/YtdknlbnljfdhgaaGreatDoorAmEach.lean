/-
  The abstract machine: a logic for code with several outcomes (a range over a map, a range over a function).
-/
import Derived.Test.YtdknlbnljfdhgaaGreatDoorAmRules
import Derived.Test.YtdknlbnljfdhgaaGreatDoorAmWide
namespace Go.Am
open Go
set_option linter.unusedVariables false
theorem aj.all_app' {α:Type} {a b:aj α} {p:α→Prop} (ha:a.cY p) (hb:b.cY p):(aj.app a b).cY p:=by
 cases a with
 | err n=>exact ha.elim
 | ok x xs=>
  cases b with
  | err n=>exact hb.elim
  | ok y ys=>
   refine ⟨ha.1,fun z hz=>?_⟩;simp only[bw] at hz;rcases List.mem_append.1 hz with h|h
   ·exact ha.2 z h
   ·cases h with
    | head=>exact hb.1
    | tail _ h=>exact hb.2 z h
theorem aj.cY.bind {α β:Type} {r:aj α} {f:α→aj β} {p:β→Prop} (h:r.cY fun x=>(f x).cY p):(aj.bind r f).cY p:=by
 cases r with
 | err n=>exact h.elim
 | ok x xs=>
  cases xs with
  | nil=>exact h.1
  | cons y ys=>
   show (aj.app (f x) (List.rec (motive:=fun _=>α→aj β) (fun y=>f y) (fun z _ ih y=>aj.app (f y) (ih z)) ys y)).cY p;obtain ⟨h1,h2⟩:=h;refine aj.all_app' h1 ?_;clear h1
   induction ys generalizing y with
   | nil=>exact h2 y (List.mem_cons_self ..)
   | cons z ys ih=>exact aj.all_app' (h2 y (List.mem_cons_self ..)) (ih z fun u hu=>h2 u (List.mem_cons_of_mem _ hu))
theorem aj.cY.pick {α β:Type} {r:aj α} {f:Nat→α→aj β} {p:β→Prop} (hm:∀ n m x,n≤m→aj.Le (f n x) (f m x)) (h:r.cY fun x=>∃ n,(f n x).cY p):∃ n,r.cY fun x=>(f n x).cY p:=by
 cases r with
 | err n=>exact h.elim
 | ok x xs=>
  obtain ⟨⟨n,h1⟩,h2⟩:=h;have key:∀ xs:List α,(∀ y,y∈xs→∃ n,(f n y).cY p)→∃ n,∀ y,y∈xs→(f n y).cY p:=by
   intro xs
   induction xs with
   | nil=>intro _;exact ⟨0,fun y hy=>by cases hy⟩
   | cons z zs ih=>
    intro hz;obtain ⟨a,ha⟩:=hz z (List.mem_cons_self ..);obtain ⟨b,hb⟩:=ih fun y hy=>hz y (List.mem_cons_of_mem _ hy);refine ⟨a+b,fun y hy=>?_⟩;cases hy with
    | head=>exact (hm a (a+b) z (Nat.le_add_right ..)).all ha
    | tail _ hy=>exact (hm b (a+b) y (Nat.le_add_left ..)).all (hb y hy)
  obtain ⟨m,fg⟩:=key xs h2;exact ⟨n+m,(hm n (n+m) x (Nat.le_add_right ..)).all h1,fun y hy=>(hm m (n+m) y (Nat.le_add_left ..)).all (fg y hy)⟩
def gm (cx:Cx) (f:FuncId) (as:List AV) (S:AS) (Q:AV→AS→Prop):Prop:=∃ n,(call cx n f as S).cY fun r=>bh r.1=false∧Q r.1 r.2
theorem gm.mono {cx:Cx} {f:FuncId} {as:List AV} {S:AS} {Q Q':AV→AS→Prop} (h:gm cx f as S Q) (k:∀ v S',Q v S'→Q' v S'):gm cx f as S Q':=by
 obtain ⟨n,h⟩:=h;exact ⟨n,h.mono fun r hr=>⟨hr.1,k _ _ hr.2⟩⟩
theorem ai.each {cx:Cx} {f:FuncId} {as:List AV} {S:AS} {Q:AV→AS→Prop} (h:ai cx f as S Q):gm cx f as S Q:=by
 obtain ⟨n,h⟩:=h;exact ⟨n,h.all⟩
theorem callE_eq {cx:Cx} {f:FuncId} {as:List AV} {S T:AS} {v:AV} (h:∀ Q:AV→AS→Prop,ai cx f as S Q=Q v T) (Q:AV→AS→Prop):gm cx f as S Q=Q v T:=by
 refine propext ⟨fun hq=>?_,fun hq=>ai.each (by rw[h];exact hq)⟩;obtain ⟨n,hn⟩:=hq;have h1:ai cx f as S fun v' T'=>v'=v∧T'=T:=by rw[h];exact ⟨rfl,rfl⟩
 obtain ⟨m,⟨v',T'⟩,e,_,h2,h3⟩:=h1;simp only at h2 h3;subst h2 h3;have h4:=(eB (cx:=cx) (Nat.le_add_right n m) (.fn f) as S).all hn;have h5:=eB (cx:=cx) (Nat.le_add_left m n) (.fn f) as S _ _ e;unfold call at h4;rw[h5] at h4;exact h4.1.2
def B8 (cx:Cx) (id:Nat) (as:List AV) (S:AS) (Q:AV→AS→Prop):Prop:=∃ n,(nY (exec cx n) id as S).cY fun r=>bh r.1=false∧Q r.1 r.2
def C2 (cx:Cx) (r:AR) (K:AV→AS→Prop):Prop:=
 match r with
 | .val v S'=>K v S'
 | .enter f as S'=>gm cx f as S' K
 | .round id as S'=>B8 cx id as S' K
 | .many l=>l≠[]∧∀ y,y∈l→K y.1 y.2
 | _=>False
def nh (cx:Cx) (ops:List Oper) (o:Oper) (F:Fr) (S:AS) (K:AV→AS→Prop):Prop:=
 match bz ops F o.guard with
 | some b=>(b=true→C2 cx (bo cx F S o) K)∧(b=false→K .undef S)
 | none=>False
def A9 (cx:Cx) (ops:List Oper):List Oper→Fr→AS→(Fr→AS→Prop)→Prop
 | [],F,S,Q=>Q F S
 | o :: l,F,S,Q=>nh cx ops o F S fun v S'=>A9 cx ops l (up F o.dst v) S' Q
theorem zC {r:aj (AV×AS)} {K:AV→AS→Prop} (h:r.cY fun r=>bh r.1=false∧K r.1 r.2):(aj.bind r rH).cY fun r=>r.1=false∧K r.2.1 r.2.2:=
 aj.cY.bind (h.mono fun r hr=>by rw[C8 hr.1];exact ⟨⟨rfl,hr.2⟩,fun y hy=>by cases hy⟩)
theorem one_okE {cx:Cx} {ops:List Oper} {o:Oper} {F:Fr} {S:AS} {K:AV→AS→Prop} (h:nh cx ops o F S K):∃ n,(one cx (bq cx (exec cx n)) ops o F S).cY fun r=>r.1=false∧K r.2.1 r.2.2:=by
 unfold nh at h;unfold one;rw[kl];cases hw:bz ops F o.guard with
 | none=>rw[hw] at h;exact h.elim
 | some b=>
  rw[hw] at h;cases b with
  | true=>
   have h1:=h.1 rfl;unfold C2 at h1;simp only[];cases ha:bo cx F S o with
   | val v S'=>rw[ha] at h1;exact ⟨0,⟨rfl,h1⟩,fun y hy=>by cases hy⟩
   | round f as S'=>rw[ha] at h1;obtain ⟨n,h1⟩:=h1;exact ⟨n,zC h1⟩
   | dN v S'=>rw[ha] at h1;exact h1.elim
   | many l=>
    rw[ha] at h1;obtain ⟨h2,h3⟩:=h1;refine ⟨0,?_⟩;cases l with
    | nil=>exact absurd rfl h2
    | cons x xs=>
     refine ⟨⟨rfl,h3 x (List.mem_cons_self ..)⟩,fun y hy=>?_⟩;obtain ⟨z,hz,rfl⟩:=List.mem_map.1 hy;exact ⟨rfl,h3 z (List.mem_cons_of_mem _ hz)⟩
   | enter f as S'=>rw[ha] at h1;obtain ⟨n,h1⟩:=h1;exact ⟨n,zC h1⟩
   | err n=>rw[ha] at h1;exact h1.elim
  | false=>exact ⟨0,⟨rfl,h.2 rfl⟩,fun y hy=>by cases hy⟩
theorem qJ {cx:Cx} {ops:List Oper}:∀ {l:List Oper} {F:Fr} {S:AS} {Q:Fr→AS→Prop},EK F.n l=true→A9 cx ops l F S Q →
  ∃ n,(bA cx (bq cx (exec cx n)) ops l F S).cY fun r=>r.1=none∧Q r.2.1 r.2.2∧r.2.1.n=F.n
 | [],F,S,Q,_,h=>⟨0,⟨rfl,h,rfl⟩,fun y hy=>by cases hy⟩
 | o :: l,F,S,Q,hd,h=>by
  have ki:(BE F.n o&&EK F.n l)=true:=hd;rw[Bool.and_eq_true] at ki;have hs:nh cx ops o F S fun v S'=>A9 cx ops l (up F o.dst v) S' Q:=h;have vA:∀ K,bA cx K ops (o :: l) F S=(match dG o with
   | none=>aj.bind (one cx K ops o F S) fun r=>cond r.1 (.ok (some r.2.1,F,r.2.2) []) (bA cx K ops l (aO F o.dst r.2.1) r.2.2)
   | some c=>match wanted ops F o with
    | some true=>match kK F c with
     | some d=>bA cx K ops l (aO ⟨F.t,F.n,d :: F.ds⟩ o.dst .undef) S
     | none=>.err 1009
    | some false=>bA cx K ops l (aO F o.dst .undef) S
    | none=>.err 1010):=fun K=>rfl
  cases Ek:dG o with
  | some c=>
   unfold nh at hs;cases hw:bz ops F o.guard with
   | none=>rw[hw] at hs;exact hs.elim
   | some b=>
    rw[hw] at hs;cases b with
    | true=>
     obtain ⟨m,hm⟩:=Aq (cx:=cx) (F:=F) (S:=S) Ek;have h1:=hs.1 rfl;rw[hm] at h1;exact h1.elim
    | false=>
     obtain ⟨m,h3⟩:=qJ (l:=l) (by rw[oq];exact ki.2) (hs.2 rfl);refine ⟨m,?_⟩;rw[vA,Ek];simp only[kl,hw];rw[rL _ ki.1];exact h3.mono fun r hr=>⟨hr.1,hr.2.1,hr.2.2.trans (oq ..)⟩
  | none=>
   obtain ⟨n,h1⟩:=one_okE hs;have h2:(one cx (bq cx (exec cx n)) ops o F S).cY fun r=>∃ m,(cond r.1 (.ok (some r.2.1,F,r.2.2) []) (bA cx (bq cx (exec cx m)) ops l (aO F o.dst r.2.1) r.2.2)).cY fun r=>r.1=none∧Q r.2.1 r.2.2∧r.2.1.n=F.n:=by
    refine h1.mono fun r hr=>?_;obtain ⟨m,h3⟩:=qJ (l:=l) (by rw[oq];exact ki.2) hr.2;refine ⟨m,?_⟩;rw[hr.1,cond_false,rL _ ki.1];exact h3.mono fun r hr=>⟨hr.1,hr.2.1,hr.2.2.trans (oq ..)⟩
   obtain ⟨m,h3⟩:=aj.cY.pick (f:=fun m (r:Bool×AV×AS)=>cond r.1 (.ok (some r.2.1,F,r.2.2) []) (bA cx (bq cx (exec cx m)) ops l (aO F o.dst r.2.1) r.2.2))
    (fun a b x yQ=>vH (iA (eB yQ) ops l _ _)) h2
   refine ⟨n+m,?_⟩;rw[vA,Ek];simp only[];refine aj.cY.bind ?_;refine ((one_le (cx:=cx) (K:=bq cx (exec cx n)) (K':=bq cx (exec cx (n+m))) (eB (Nat.le_add_right n m)) ops o F S).all h3).mono fun r hr=>?_;exact (vH (iA (eB (Nat.le_add_left m n)) ops l _ _)).all hr
def LoopE (cx:Cx) (b:Code) (F:Fr) (S:AS) (Q:Ex→Fr→AS→Prop):Prop:=codeOk cx F.n b=true→∃ n,(exec cx n (.loop b) F S).cY fun o=>Q o.ex o.F o.S∧o.F.n=F.n
def B9 (cx:Cx) (x:Operand) (ps:Array Tmp) (a b:Code) (F:Fr) (S:AS) (Q:Ex→Fr→AS→Prop):Prop:=
 (cl a&&cl b)=true∧∃ g first captured,eval F x=.func (.func g) first captured ∧
  gm cx g (fh first (.obj .yld (Nat.succ S.next) :: captured)) ⟨(S.h.set S.next (.dO (.sq true))).set (Nat.succ S.next) (.dO (.loop .ready none F ps a b)),Nat.succ (Nat.succ S.next)⟩
   fun _ T=>(∃ st F' Ce a' b',st≠.busy∧T.h.get (Nat.succ S.next)=some (.dO (.loop st none F' Ce a' b'))∧Q .normal ⟨F.t,F.n,.mark S.next :: F.ds⟩ (jy T (Nat.succ S.next) (.loop .exhausted none F' Ce a' b'))) ∨
    (∃ st F' Ce a' b',st≠.busy∧T.h.get (Nat.succ S.next)=some (.dO (.loop st (some .ret) F' Ce a' b'))∧Q .ret ⟨F.t,F.n,.mark S.next :: F.ds⟩ (jy T (Nat.succ S.next) (.loop .exhausted (some .ret) F' Ce a' b')))
def sH (cx:Cx):Code→Fr→AS→(Ex→Fr→AS→Prop)→Prop
 | .skip,F,S,Q=>Q .normal F S
 | .ret,F,S,Q=>Q .ret F S
 | .exit id,F,S,Q=>Q (.exit id) F S
 | .region _ ops false,F,S,Q=>A9 cx ops.toList ops.toList F S (Q .normal)
 | .region _ ops true,F,S,Q=>jJ cx ops.toList F S (Q .normal)
 | .seq a b,F,S,Q=>sH cx a F S (ko (fun F' S'=>sH cx b F' S' Q) Q)
 | .cond x a b,F,S,Q=>iY (eval F x) (sH cx a F S Q) (sH cx b F S Q)
 | .block id b,F,S,Q=>sH cx b F S (lE id Q)
 | .loop b,F,S,Q=>LoopE cx b F S Q
 | .rangeFunc x ps a b,F,S,Q=>B9 cx x ps a b F S Q
 | _,_,_,_=>False
theorem ml {cx:Cx} {n m:Nat} (h:n≤m) {c:Code} {F:Fr} {S:AS}:aj.Le (exec cx n c F S) (exec cx m c F S):=jl h c F S
theorem Az {cx:Cx}:∀ (c:Code) {F:Fr} {S:AS} {Q:Ex→Fr→AS→Prop},codeOk cx F.n c=true→sH cx c F S Q→∃ n,(exec cx n c F S).cY fun o=>Q o.ex o.F o.S∧o.F.n=F.n:=by
 intro c
 induction c with
 | skip=>intro F S Q _ h;exact ⟨1,⟨h,rfl⟩,fun y hy=>by cases hy⟩
 | ret=>intro F S Q _ h;exact ⟨1,⟨h,rfl⟩,fun y hy=>by cases hy⟩
 | exit id=>intro F S Q _ h;exact ⟨1,⟨h,rfl⟩,fun y hy=>by cases hy⟩
 | region id ops draw=>
  intro F S Q hc h;cases draw with
  | false=>
   obtain ⟨n,h⟩:=qJ hc h;refine ⟨n+1,?_⟩;show (aj.bind (bA cx (bq cx (exec cx n)) ops.toList ops.toList F S) fun r=>match r.1 with
    | none=>.ok (⟨.normal,r.2.1,r.2.2⟩:Out) []
    | some v=>.ok (⟨.dN v,r.2.1,r.2.2⟩:Out) []).cY _
   exact aj.cY.bind (h.mono fun r hr=>by rw[hr.1];exact ⟨hr.2,fun y hy=>by cases hy⟩)
  | true=>
   obtain ⟨n,h⟩:=Ag hc h;refine ⟨n+1,?_⟩;show (aj.bind (cC cx (bq cx (exec cx n)) ops.toList F S) fun r=>match r.1 with
    | none=>.ok (⟨.normal,r.2.1,r.2.2⟩:Out) []
    | some v=>.ok (⟨.dN v,r.2.1,r.2.2⟩:Out) []).cY _
   exact aj.cY.bind (h.all.mono fun r hr=>by rw[hr.1];exact ⟨⟨hr.2.1,hr.2.2.1⟩,fun y hy=>by cases hy⟩)
 | seq a b Bo vy=>
  intro F S Q hc h;have jj:(codeOk cx F.n a&&codeOk cx F.n b)=true:=hc;rw[Bool.and_eq_true] at jj;obtain ⟨n,h1⟩:=Bo jj.1 h;have h4:(exec cx n a F S).cY fun o=>∃ m,(match o.ex with | .normal=>exec cx m b o.F o.S|_=>.ok o []).cY fun o=>Q o.ex o.F o.S∧o.F.n=F.n:=by
   refine h1.mono fun o ho=>?_;obtain ⟨e,F',S'⟩:=o;obtain ⟨h2,h3⟩:=ho;cases e with
   | normal=>
    obtain ⟨m,h5⟩:=vy (F:=F') (by rw[h3];exact jj.2) h2;exact ⟨m,h5.mono fun o ho=>⟨ho.1,ho.2.trans h3⟩⟩
   | goto l=>exact ⟨0,⟨h2,h3⟩,fun y hy=>by cases hy⟩
   | dN v=>exact ⟨0,⟨h2,h3⟩,fun y hy=>by cases hy⟩
   | exit id=>exact ⟨0,⟨h2,h3⟩,fun y hy=>by cases hy⟩
   | ret=>exact ⟨0,⟨h2,h3⟩,fun y hy=>by cases hy⟩
  have uC:∀ p q (o:Out),p≤q→aj.Le (match o.ex with | .normal=>exec cx p b o.F o.S|_=>.ok o []) (match o.ex with | .normal=>exec cx q b o.F o.S|_=>.ok o []):=by
   intro p q o Ea;cases o.ex<;>first|exact ml Ea|exact aj.Le.refl _
  obtain ⟨m,h5⟩:=aj.cY.pick (f:=fun m (o:Out)=>match o.ex with | .normal=>exec cx m b o.F o.S|_=>.ok o []) uC h4;refine ⟨n+m+1,?_⟩;show (aj.bind (exec cx (n+m) a F S) fun o=>match o.ex with | .normal=>exec cx (n+m) b o.F o.S|_=>.ok o []).cY _;exact aj.cY.bind (((ml (Nat.le_add_right n m)).all h5).mono fun o ho=>(uC m (n+m) o (Nat.le_add_left ..)).all ho)
 | cond x a b Bo vy=>
  intro F S Q hc h;have jj:(codeOk cx F.n a&&codeOk cx F.n b)=true:=hc;rw[Bool.and_eq_true] at jj;have h':iY (eval F x) (sH cx a F S Q) (sH cx b F S Q):=h;unfold iY at h';cases hx:eval F x<;>rw[hx] at h'<;>(try exact h'.elim);rename_i t;cases t with
  | true=>
   obtain ⟨n,h1⟩:=Bo jj.1 (h'.1 rfl);refine ⟨n+1,?_⟩;show (match eval F x with | .bool true=>exec cx n a F S | .bool false=>exec cx n b F S|_=>.err 3001).cY _;rw[hx];exact h1
  | false=>
   obtain ⟨n,h1⟩:=vy jj.2 (h'.2 rfl);refine ⟨n+1,?_⟩;show (match eval F x with | .bool true=>exec cx n a F S | .bool false=>exec cx n b F S|_=>.err 3001).cY _;rw[hx];exact h1
 | block id b vy=>
  intro F S Q hc h;obtain ⟨n,h1⟩:=vy hc h;refine ⟨n+1,?_⟩;show (aj.bind (exec cx n b F S) fun o=>match o.ex with
   | .exit j=>cond (Nat.beq j id) (.ok ⟨.normal,o.F,o.S⟩ []) (.ok o [])
   | _=>.ok o []).cY _
  refine aj.cY.bind (h1.mono fun o ho=>?_);obtain ⟨e,F',S'⟩:=o;obtain ⟨h2,h3⟩:=ho;cases e with
  | normal=>exact ⟨⟨h2,h3⟩,fun y hy=>by cases hy⟩
  | ret=>exact ⟨⟨h2,h3⟩,fun y hy=>by cases hy⟩
  | goto l=>exact ⟨⟨h2,h3⟩,fun y hy=>by cases hy⟩
  | dN v=>exact ⟨⟨h2,h3⟩,fun y hy=>by cases hy⟩
  | exit j=>
   have jS:if j=id then Q .normal F' S' else Q (.exit j) F' S':=h2
   simp only[bf];by_cases hj:j=id
   ·rw[if_pos hj] at jS;rw[decide_eq_true hj];exact ⟨⟨jS,h3⟩,fun y hy=>by cases hy⟩
   ·rw[if_neg hj] at jS;rw[decide_eq_false hj];exact ⟨⟨jS,h3⟩,fun y hy=>by cases hy⟩
 | loop b _=>intro F S Q hc h;exact h hc
 | rangeFunc x ps a b _ _=>
  intro F S Q _ h;obtain ⟨h0,g,first,captured,hx,n,h1⟩:=h;refine ⟨n+1+1,?_⟩;show (jF cx (exec cx (n+1)) x ps a b F S).cY _;unfold jF;rw[h0,cond_true,hx];have uF:=(eB (cx:=cx) (Nat.le_succ n) (.fn g) _ _).all h1;refine aj.cY.bind (uF.mono fun r hr=>?_);obtain ⟨hp,hr⟩:=hr;obtain ⟨v,T⟩:=r;have hnp:∀ {β:Type} {p:AV→β} {k:β},lu v p k=k:=by
   intro β p k;cases v<;>first|rfl|cases hp
  unfold lQ;rw[hnp];rcases hr with ⟨st,F',Ce,a',b',eX,hg,hq⟩|⟨st,F',Ce,a',b',eX,hg,hq⟩
  ·simp only[] at hg hq ⊢;rw[hg];cases st with
   | busy=>exact absurd rfl eX
   | ready=>exact ⟨⟨hq,rfl⟩,fun y hy=>by cases hy⟩
   | done=>exact ⟨⟨hq,rfl⟩,fun y hy=>by cases hy⟩
   | exhausted=>exact ⟨⟨hq,rfl⟩,fun y hy=>by cases hy⟩
  ·simp only[] at hg hq ⊢;rw[hg];cases st with
   | busy=>exact absurd rfl eX
   | ready=>exact ⟨⟨hq,rfl⟩,fun y hy=>by cases hy⟩
   | done=>exact ⟨⟨hq,rfl⟩,fun y hy=>by cases hy⟩
   | exhausted=>exact ⟨⟨hq,rfl⟩,fun y hy=>by cases hy⟩
 | scope b vy=>intro F S Q _ h;exact h.elim
 | label l=>intro F S Q _ h;exact h.elim
 | goto l=>intro F S Q _ h;exact h.elim
 | refuse s=>intro F S Q _ h;exact h.elim
theorem roundE_of {cx:Cx} {id:Nat} {as:List AV} {S:AS} {K:AV→AS→Prop} {j:Option Code} {F F1:Fr} {ps:Array Tmp} {a b:Code} (hg:S.h.get id=some (.dO (.loop .ready j F ps a b))) (hp:AX ⟨F.t,F.n,[]⟩ ps.toList as=some F1)
  (ha:codeOk cx F1.n a=true) (hb:codeOk cx F1.n b=true)
  (h:sH cx a F1 S fun e F2 S2=>e=.normal∧∃ j' F' a' b',S2.h.get id=some (.dO (.loop .ready j' F' ps a' b')) ∧
   sH cx b F2 (jy S2 id (.loop .busy j' F' ps a' b')) fun e2 F3 S3=>e2=.normal∧∃ st j3 F4 ps3 a3 b3,S3.h.get id=some (.dO (.loop st j3 F4 ps3 a3 b3))∧K (.bool true) (jy S3 id (.loop .ready none F4 ps3 a3 b3))):B8 cx id as S K:=by
 obtain ⟨n,h1⟩:=Az a ha h;have h2:(exec cx n a F1 S).cY fun o=>∃ m,(match o.ex with
   | .normal=>match o.S.h.get id with
    | some (.dO (.loop .ready j F ps a' b'))=>aj.bind (exec cx m b o.F (jy o.S id (.loop .busy j F ps a' b'))) fun o2=>kz id o2.ex o2.S
    | _=>.err 2102
   | _=>.err 2103:aj (AV×AS)).cY fun r=>bh r.1=false∧K r.1 r.2:=by
  refine h1.mono fun o ho=>?_;obtain ⟨e,F2,S2⟩:=o;obtain ⟨⟨he,j',F',a',b',hg2,h3⟩,hn⟩:=ho;simp only[] at he hg2 h3 hn ⊢;subst he;obtain ⟨m,h4⟩:=Az b (F:=F2) (by rw[hn];exact hb) h3;refine ⟨m,?_⟩;simp only[hg2];refine aj.cY.bind (h4.mono fun o2 nu=>?_);obtain ⟨e2,F3,S3⟩:=o2;obtain ⟨⟨he2,st,j3,F4,ps3,a3,b3,hg3,hk⟩,_⟩:=nu;simp only[] at he2 hg3 hk ⊢;subst he2;unfold kz;rw[hg3];exact ⟨⟨rfl,hk⟩,fun y hy=>by cases hy⟩
 have uC:∀ p q (o:Out),p≤q→aj.Le (match o.ex with
   | .normal=>match o.S.h.get id with
    | some (.dO (.loop .ready j F ps a' b'))=>aj.bind (exec cx p b o.F (jy o.S id (.loop .busy j F ps a' b'))) fun o2=>kz id o2.ex o2.S
    | _=>.err 2102
   | _=>.err 2103:aj (AV×AS)) (match o.ex with
   | .normal=>match o.S.h.get id with
    | some (.dO (.loop .ready j F ps a' b'))=>aj.bind (exec cx q b o.F (jy o.S id (.loop .busy j F ps a' b'))) fun o2=>kz id o2.ex o2.S
    | _=>.err 2102
   | _=>.err 2103:aj (AV×AS)):=by
  intro p q o Ea;split
  ·split
   ·exact aj.Le.bind (ml Ea) fun _=>aj.Le.refl _
   ·exact aj.Le.refl _
  ·exact aj.Le.refl _
 obtain ⟨m,h5⟩:=aj.cY.pick uC h2;refine ⟨n+m,?_⟩;unfold nY;rw[hg];simp only[hp];exact aj.cY.bind (((ml (Nat.le_add_right n m)).all h5).mono fun o ho=>(uC m (n+m) o (Nat.le_add_left ..)).all ho)
theorem loopE_of {cx:Cx} {b:Code} {F:Fr} {S:AS} {Q:Ex→Fr→AS→Prop} (I:Nat→Fr→AS→Prop) (k:Nat) (h0:I k F S)
  (h:∀ (k:Nat) (F':Fr) (S':AS),F'.n=F.n→I k F' S'→sH cx b F' S' (ko (fun F2 S2=>∃ j,j<k∧I j F2 S2) Q)):LoopE cx b F S Q:=by
 intro hc;have main:∀ (k:Nat) (F':Fr) (S':AS),I k F' S'→F'.n=F.n→∃ n,(exec cx n (.loop b) F' S').cY fun o=>Q o.ex o.F o.S∧o.F.n=F.n:=by
  intro k
  induction k using Nat.strongRecOn with
  | ind k ih=>
   intro F' S' hI hn;obtain ⟨n,h1⟩:=Az b (by rw[hn];exact hc) (h k F' S' hn hI);have h4:(exec cx n b F' S').cY fun o=>∃ m,(match o.ex with | .normal=>exec cx m (.loop b) o.F o.S|_=>.ok o []).cY fun o=>Q o.ex o.F o.S∧o.F.n=F.n:=by
    refine h1.mono fun o ho=>?_;obtain ⟨e,F2,S2⟩:=o;obtain ⟨h2,h3⟩:=ho;cases e with
    | normal=>obtain ⟨j,hj,hI2⟩:=h2;exact ih j hj F2 S2 hI2 (h3.trans hn)
    | exit id=>exact ⟨0,⟨h2,h3.trans hn⟩,fun y hy=>by cases hy⟩
    | ret=>exact ⟨0,⟨h2,h3.trans hn⟩,fun y hy=>by cases hy⟩
    | goto l=>exact ⟨0,⟨h2,h3.trans hn⟩,fun y hy=>by cases hy⟩
    | dN v=>exact ⟨0,⟨h2,h3.trans hn⟩,fun y hy=>by cases hy⟩
   have uC:∀ p q (o:Out),p≤q→aj.Le (match o.ex with | .normal=>exec cx p (.loop b) o.F o.S|_=>.ok o []) (match o.ex with | .normal=>exec cx q (.loop b) o.F o.S|_=>.ok o []):=by
    intro p q o Ea;cases o.ex<;>first|exact ml Ea|exact aj.Le.refl _
   obtain ⟨m,h5⟩:=aj.cY.pick (f:=fun m (o:Out)=>match o.ex with | .normal=>exec cx m (.loop b) o.F o.S|_=>.ok o []) uC h4;refine ⟨n+m+1,?_⟩;show (aj.bind (exec cx (n+m) b F' S') fun o=>match o.ex with | .normal=>exec cx (n+m) (.loop b) o.F o.S|_=>.ok o []).cY _;exact aj.cY.bind (((ml (Nat.le_add_right n m)).all h5).mono fun o ho=>(uC m (n+m) o (Nat.le_add_left ..)).all ho)
 exact main k F S h0 rfl
def ov (cx:Cx) (fn:Func) (F:Fr) (Q:AV→AS→Prop):List vf→AS→Prop
 | [],S=>xM (kA cx F S fn.results.toList |>.map fun vs=>match vs with|[v]=>v|vs=>.tuple vs) S Q
 | .mark id :: ds,S=>S.h.get id=some (.dO (.sq true))∧ov cx fn F Q ds (jy S id (.sq false))
 | _,_=>False
def bodyE (cx:Cx) (fn:Func) (Q:AV→AS→Prop):Ex→Fr→AS→Prop
 | .exit _,_,_=>False
 | .goto _,_,_=>False
 | .dN _,_,_=>False
 | _,F,S=>ov cx fn F Q F.ds S
theorem tt {cx:Cx} {fn:Func} {F:Fr} {Q:AV→AS→Prop} {ih:Code→Fr→AS→aj Out}:∀ {ds:List vf} {S:AS},ov cx fn F Q ds S→(fc cx ih fn F ds .ret S).cY fun r=>bh r.1=false∧Q r.1 r.2
 | [],S,h=>by
  show (match cZ cx fn F S with|some v=>(.ok (v,S) []:aj (AV×AS))|none=>.err 2001).cY _;have h':xM (cZ cx fn F S) S Q:=by rw[mP];exact h
  cases hv:cZ cx fn F S with
  | none=>rw[hv] at h';exact h'.elim
  | some v=>rw[hv] at h';exact ⟨h',fun y hy=>by cases hy⟩
 | .mark id :: ds,S,h=>by
  have e:fc cx ih fn F (.mark id :: ds) .ret S=(match S.h.get id with
    | some (.dO (.sq true))=>fc cx ih fn F ds .ret (jy S id (.sq false))
    | _=>.err 2011):=rfl
  rw[e,h.1];exact tt h.2
 | .call f as cs :: ds,S,h=>h.elim
theorem xL {cx:Cx} {f:FuncId} {fn:Func} {c:Code} {as:List AV} {S:AS} {Q:AV→AS→Prop} (hu:cx.fQ.get f=none) (hp:cx.bG.get f=none) (hf:cx.fns.get f=some fn) (hb:fn.body=some c) (hc:codeOk cx fn.ntmps c=true) (hn:as.length≤fn.ntmps)
  (h:∀ F:Fr,F.n=fn.ntmps→F.ds=[]→(∀ t,sl F t=(as[t]?).getD .undef)→sH cx c F S (bodyE cx fn Q)):gm cx f as S Q:=by
 have dY:(kZ as fn.ntmps).n=fn.ntmps:=by rw[n_initF];omega
 obtain ⟨n,h1⟩:=Az c (F:=kZ as fn.ntmps) (by rw[dY];exact hc) (h _ dY rfl (CR as _));refine ⟨n,?_⟩;unfold call bq oc Ey;simp only[hu,hp,hf,hb];refine aj.cY.bind (h1.mono fun o ho=>?_);obtain ⟨e,F',S'⟩:=o;obtain ⟨h2,_⟩:=ho;cases e with
 | normal=>exact tt h2
 | ret=>exact tt h2
 | exit id=>exact h2.elim
 | goto l=>exact h2.elim
 | dN v=>exact h2.elim
section
variable {cx:Cx} {ops l:List Oper} {o:Oper} {F:Fr} {S:AS} {K:AV→AS→Prop} {Q:Ex→Fr→AS→Prop} {R:Fr→AS→Prop}
theorem opsE_nil:A9 cx ops [] F S R=R F S:=rfl
def kontE (cx:Cx) (ops l:List Oper) (F:Fr) (d:Option Nat) (R:Fr→AS→Prop) (v:AV) (S':AS):Prop:=A9 cx ops l (up F d v) S' R
theorem kontE_app {d:Option Nat} {v:AV} {S':AS}:kontE cx ops l F d R v S'=A9 cx ops l (up F d v) S' R:=rfl
theorem opsE_cons:A9 cx ops (o :: l) F S R=nh cx ops o F S (kontE cx ops l F o.dst R):=rfl
theorem stepM_free {dst:Option Tmp} {op:Op} {ty:TypeId} {pos:String} {af:Array Edge}:nh cx ops ⟨dst,op,ty,pos,af,none⟩ F S K=C2 cx (bo cx F S ⟨dst,op,ty,pos,af,none⟩) K:=by
 simp[nh,bz]
theorem stepM_run {dst:Option Tmp} {op:Op} {ty:TypeId} {pos:String} {af:Array Edge} {j d:Nat} {w b:Bool} (h1:ei ops j=some d) (h2:sl F d=.bool b) (h3:(b == w)=true) :
  nh cx ops ⟨dst,op,ty,pos,af,some (j,w)⟩ F S K=C2 cx (bo cx F S ⟨dst,op,ty,pos,af,some (j,w)⟩) K:=by
 have:w=b:=by cases b<;>cases w<;>first|rfl|cases h3
 subst this;simp only[nh,eH h1 h2];cases w<;>simp
theorem stepM_skip {dst:Option Tmp} {op:Op} {ty:TypeId} {pos:String} {af:Array Edge} {j d:Nat} {w b:Bool} (h1:ei ops j=some d) (h2:sl F d=.bool b) (h3:(b == !w)=true) :
  nh cx ops ⟨dst,op,ty,pos,af,some (j,w)⟩ F S K=K .undef S:=by
 have:w=!b:=by cases b<;>cases w<;>first|rfl|cases h3
 subst this;simp only[nh,eH h1 h2];cases b<;>simp
theorem runE_val {v:AV} {S':AS}:C2 cx (.val v S') K=K v S':=rfl
theorem runE_enter {f:FuncId} {as:List AV} {S':AS}:C2 cx (.enter f as S') K=gm cx f as S' K:=rfl
theorem runE_round {id:Nat} {as:List AV} {S':AS}:C2 cx (.round id as S') K=B8 cx id as S' K:=rfl
theorem runE_many {l:List (AV×AS)}:C2 cx (.many l) K=(l≠[]∧∀ y,y∈l→K y.1 y.2):=rfl
theorem wpE_skip:sH cx .skip F S Q=Q .normal F S:=rfl
theorem wpE_ret:sH cx .ret F S Q=Q .ret F S:=rfl
theorem wpE_exit {id:Nat}:sH cx (.exit id) F S Q=Q (.exit id) F S:=rfl
theorem wpE_region {id:Nat} {l:List Oper}:sH cx (.region id l.toArray false) F S Q=A9 cx l l F S (Q .normal):=rfl
theorem wpE_drawn {id:Nat} {l:List Oper}:sH cx (.region id l.toArray true) F S Q=jJ cx l F S (Q .normal):=rfl
def kcodeE (cx:Cx) (b:Code) (Q:Ex→Fr→AS→Prop) (F':Fr) (S':AS):Prop:=sH cx b F' S' Q
theorem kcodeE_app {b:Code} {F':Fr} {S':AS}:kcodeE cx b Q F' S'=sH cx b F' S' Q:=rfl
theorem wpE_seq {a b:Code}:sH cx (.seq a b) F S Q=sH cx a F S (ko (kcodeE cx b Q) Q):=rfl
theorem wpE_cond {x:Operand} {a b:Code}:sH cx (.cond x a b) F S Q=iY (eval F x) (sH cx a F S Q) (sH cx b F S Q):=rfl
theorem wpE_block {id:Nat} {b:Code}:sH cx (.block id b) F S Q=sH cx b F S (lE id Q):=rfl
theorem wpE_loop {b:Code}:sH cx (.loop b) F S Q=LoopE cx b F S Q:=rfl
theorem wpE_range {x:Operand} {ps:Array Tmp} {a b:Code}:sH cx (.rangeFunc x ps a b) F S Q=B9 cx x ps a b F S Q:=rfl
end
attribute [simp] kontE_app opsE_nil opsE_cons stepM_free stepM_run stepM_skip wpE_drawn runE_val runE_enter runE_round wpE_skip wpE_ret wpE_exit wpE_region kcodeE_app wpE_seq wpE_cond wpE_block wpE_loop wpE_range
end Go.Am
