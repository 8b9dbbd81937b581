/-
  The abstract machine against the model: calls, whole; code.
-/
import Derived.Test.YtdknlbnljfdhgaaGreatDoorAmLeave
import Derived.Test.YtdknlbnljfdhgaaGreatDoorAmSame
open Bool renaming and_eq_true->zza
set_option linter.unusedVariables false
set_option linter.unusedSimpArgs false
namespace Go.Am
open Go
variable{Λ:LB}
def W0(Λ:LB)(ρ:aY)(S:AS)(w:World)(ij:Ending->World->Prop)(r:AV×AS):Prop:=
 ∀ρ' e w',jB ρ' r.1 e->R Λ ρ' r.2 w'->Kp ρ S w ρ' r.2 w'->ij e w'
theorem jey{P:Program}{cx:Cx}(aF:dQ Λ P cx){n:Nat}(hc:qf Λ P cx n){ρ:aY}{f:FuncId}{as:List AV}{S:AS}{w:World}{args:Array Value}{ij:Ending->World->Prop}
  (h:(Xo cx (exec cx n) f as S).kQ (W0 Λ ρ S w ij)) (hR:R Λ ρ S w) (hl:ay ρ as args.toList):N2 P ρ args w ij (.fn f):=by
 unfold Xo at h;cases hq:cx.ei.get f with
 |some q=>
  rw[hq]at h;simp only[]at h;cases hr:q as S with
  |none=>rw[hr]at h;exact h.elim
  |some r=>
   rw[hr]at h;obtain⟨v,S'⟩:=r;obtain⟨Hz,Ao⟩:=aF.ei f q hq ρ as S w args v S' hR hl hr;refine⟨Hz,Ao.mono fun e w' he=>?_⟩;obtain⟨x,ρ',rfl,e2,e3,e4⟩:=he;exact h.1 ρ' _ w' (jB.of e2) e3 e4
 |none=>
 rw[hq]at h;simp only[]at h;cases hf:cx.fns.get f with
 |none=>rw[hf]at h;exact h.elim
 |some fn=>
  rw[hf]at h;simp only[]at h;have Hz:=aF.fns f fn hf;cases hb:fn.body with
  |none=>rw[hb]at h;exact h.elim
  |some c=>
   rw[hb]at h;simp only[]at h;refine⟨⟨fn,Hz,by rw[hb];rfl⟩,callsIn_wide.1 (callsIn_of_wp_marks (n:=0) Hz hb trivial ?_)⟩;refine hc none c _ ρ _ S w _ (.inl rfl) hR (CN hl fn.ntmps) ?_;refine (az.all_bind h).mono fun o ho ρ' e a' w' k0 h1 h2 h3=>?_;cases he:o.ex with
   |exit id=>rw[he]at ho;exact ho.elim
   |goto l=>rw[he]at ho;exact ho.elim
   |normal=>
    rw[he]at ho k0;cases k0;exact wj aF hc o.F.ds a'.defers ρ' o.S .ret _ w' h1 h2.R9 h2.defers rfl (ho.mono fun r hr ρ'' e yO j0 j1 j2=>hr ρ'' e yO j0 j1 (h3.trans j2))
   |ret=>
    rw[he]at ho k0;cases k0;exact wj aF hc o.F.ds a'.defers ρ' o.S .ret _ w' h1 h2.R9 h2.defers rfl (ho.mono fun r hr ρ'' e yO j0 j1 j2=>hr ρ'' e yO j0 j1 (h3.trans j2))
   |eO v=>
    rw[he]at ho k0;obtain⟨x,rfl,hx⟩:=k0;exact wj aF hc o.F.ds a'.defers ρ' o.S (.eO v) _ w' h1 h2.R9 h2.defers ⟨x,rfl,hx⟩ (ho.mono fun r hr ρ'' e yO j0 j1 j2=>hr ρ'' e yO j0 j1 (h3.trans j2))
theorem SL{P:Program}{cx:Cx}(aF:dQ Λ P cx){n:Nat}(hc:qf Λ P cx n){ρ:aY}{f:FuncId}{as:List AV}{S:AS}{w:World}{args:Array Value}{ij:Ending->World->Prop}
  (h:(sY cx (exec cx n) f as S).kQ (W0 Λ ρ S w ij)) (hR:R Λ ρ S w) (hl:ay ρ as args.toList):N2 P ρ args w ij (.fn f):=by
 unfold sY at h;cases hq:cx.kZ.get f with
 |none=>rw[hq]at h;exact jey aF hc h hR hl
 |some u=>rw[hq]at h;exact h.elim
theorem vr{P:Program}{cx:Cx}(aF:dQ Λ P cx){n:Nat}(hc:qf Λ P cx n):Bf Λ P (cS cx (exec cx n)):=by
 intro ρ t as S w args ij h hR hl;cases t with
 |fn f=>exact SL aF hc h hR hl
 |round id=>exact OW hc h hR hl
theorem vT(a b:Code):df (.seq a b)=(df a&&df b):=by
 show cond (df a) (df b) false=_;cases df a<;>rfl
theorem Kb:∀(c:Code)(l:Nat)(rest:Code),df c=true->findLabel c l=some rest->df rest=true:=by
 intro c
 induction c with
 |seq a b Ef xu=>
  intro l rest hp h;rw[vT,zza]at hp;rw[findLabel]at h;cases ha:findLabel a l with
  |some r=>
   rw[ha]at h;cases h;rw[vT,Ef l r hp.1 ha,hp.2];rfl
  |none=>
   rw[ha]at h;exact xu l rest hp.2 h
 |label l'=>
  intro l rest _ h;rw[findLabel]at h;split at h
  .cases h;rfl
  .cases h
 |skip=>intro l rest _ h;rw[findLabel]at h<;>first|cases h|(intros;intro e;cases e)
 |ret=>intro l rest _ h;rw[findLabel]at h<;>first|cases h|(intros;intro e;cases e)
 |exit id=>intro l rest _ h;rw[findLabel]at h<;>first|cases h|(intros;intro e;cases e)
 |region id ops d=>intro l rest _ h;rw[findLabel]at h<;>first|cases h|(intros;intro e;cases e)
 |cond x a b _ _=>intro l rest _ h;rw[findLabel]at h<;>first|cases h|(intros;intro e;cases e)
 |block id b _=>intro l rest _ h;rw[findLabel]at h<;>first|cases h|(intros;intro e;cases e)
 |loop b _=>intro l rest _ h;rw[findLabel]at h<;>first|cases h|(intros;intro e;cases e)
 |rangeFunc f p x y _ _=>intro l rest _ h;rw[findLabel]at h<;>first|cases h|(intros;intro e;cases e)
 |scope b _=>intro l rest _ h;rw[findLabel]at h<;>first|cases h|(intros;intro e;cases e)
 |goto t=>intro l rest _ h;rw[findLabel]at h<;>first|cases h|(intros;intro e;cases e)
 |refuse s=>intro l rest _ h;rw[findLabel]at h<;>first|cases h|(intros;intro e;cases e)
section
variable{P:Program}{b:Frame}{a:Act}{k:List Item}{cs:List Frame}{w:World}
theorem Gi{c:Code}:step P (lone (b.atR a (.code (.scope c)::k)) cs w)=.next (lone (b.atR a (.code c::.inScope c::k)) cs w):=
 step_lone_go (by simp[stepG,stepG.exec,Frame.atR])
theorem By{c:Code}:step P (lone (b.atR a (.inScope c::k)) cs w)=.next (lone (b.atR a k) cs w):=
 step_lone_go (by simp[stepG,stepG.exec,Frame.atR])
end
def Fp(ro:Option Nat)(P:Program)(body:Code)(Q:Exit->Act->World->Prop)(c:Code)(a:Act)(w:World):Prop:=
 ∀(b:Frame)(k:List Item)(cs:List Frame),b.roundOf=ro ->
  ∃e a' w',Q e a' w'/\ArrivesIn (Machine.fenced P (GF ro)) P (lone (b.atR a (.code c::.inScope body::k)) cs w) b k cs e a' w'
theorem Jp{ro:Option Nat}{P:Program}{body:Code}{Q:Exit->Act->World->Prop}{a:Act}{w:World}(h:Fp ro P body Q body a w):(Code.scope body).wpIn (GF ro) 0 P Q a w:=by
 intro b k cs M0 hb hr;rw[I2]at M0;obtain⟨e,a',w',hq,gK⟩:=h b k cs M0;exact⟨e,a',w',hq,.of_steps (.one (fenced_calm hb hr rfl) Gi) gK⟩
theorem OL{P:Program}{cx:Cx}{n:Nat}(hc:qf Λ P cx n){ro:Option Nat}{body:Code}(hp:ro=none\/df body=true){Q:Exit->Act->World->Prop}:
  ∀(m:Nat)(c:Code)(ρ:aY)(F:Fr)(S:AS)(w:World)(a:Act),(ro=none\/df c=true)->R Λ ρ S w->eY ρ F a ->
  (qK (exec cx n) body m c F S).kQ (jt Λ ρ S w Q)->Fp ro P body Q c a w:=by
 intro m
 induction m with
 |zero=>intro c ρ F S w a _ _ _ h;exact h.elim
 |succ m ih=>
  intro c ρ F S w a hpc hR hF h;have h':(az.bind (exec cx n c F S) fun o=>match o.ex with
   | .goto l=>match findLabel body l with
    |some rest=>qK (exec cx n) body m rest o.F o.S
    |none=>.ok o []
   |_=>.ok o []).kQ (jt Λ ρ S w Q):=h
  have key:=hc ro c (fun e a' w'=>match e with
   | .goto l=>match findLabel body l with
    |some rest=>Fp ro P body Q rest a' w'
    |none=>Q (.goto l) a' w'
   |e=>Q e a' w') ρ F S w a hpc hR hF ((az.all_bind h').mono fun o ho ρ' e a' w' h0 h1 h2 h3=>by
    cases he:o.ex with
    |goto l=>
     rw[he]at ho h0;cases h0;simp only[]at ho⊢;cases vG:findLabel body l with
     |none=>rw[vG]at ho;exact ho.1 ρ' (.goto l) a' w' (by rw[he];rfl) h1 h2 h3
     |some rest=>
      rw[vG]at ho;exact ih rest ρ' o.F o.S w' a' (hp.imp id fun hb=>Kb body l rest hb vG) h1 h2 (ho.mono fun q hq=>hq.trans h3)
    |normal=>rw[he]at ho h0;cases h0;exact ho.1 ρ' .normal a' w' (by rw[he];rfl) h1 h2 h3
    |ret=>rw[he]at ho h0;cases h0;exact ho.1 ρ' .ret a' w' (by rw[he];rfl) h1 h2 h3
    |exit i=>rw[he]at ho h0;cases h0;exact ho.1 ρ' (.exit i) a' w' (by rw[he];rfl) h1 h2 h3
    |eO v=>rw[he]at ho h0;obtain⟨x,rfl,hx⟩:=h0;exact ho.1 ρ' _ a' w' (by rw[he];exact⟨x,rfl,hx⟩) h1 h2 h3)
  intro b k cs M0;obtain⟨e,a₁,w₁,hq,gK⟩:=key b (.inScope body::k) cs (by rw[I2];exact M0) (Dn ro _) (N5 ro _);cases e with
  |normal=>exact⟨.normal,a₁,w₁,hq,StepsIn.trans gK (.one (fenced_calm (n:=0) (Dn ro _) (N5 ro _) rfl) By)⟩
  |exit id=>exact⟨.exit id,a₁,w₁,hq,fun k' hk=>gK.1 k' (by simp[exitTo,hk]),fun hr hk=>gK.2 hr (by simp[exitTo,hk])⟩
  |goto l=>
   simp only[]at hq;cases vG:findLabel body l with
   |some rest=>
    rw[vG]at hq;have hg:gotoIn l (.inScope body::k)=some (.code rest::.inScope body::k):=by simp[gotoIn,vG]
    obtain⟨e₂,a₂,w₂,hq₂,jiX⟩:=hq b k cs M0;exact⟨e₂,a₂,w₂,hq₂,.of_steps (gK.1 _ hg) jiX⟩
   |none=>
    rw[vG]at hq;have hg:gotoIn l (.inScope body::k)=gotoIn l k:=by simp[gotoIn,vG]
    exact⟨.goto l,a₁,w₁,hq,fun k' hk=>gK.1 k' (by rw[hg];exact hk),fun hr hk=>gK.2 hr (by rw[hg];exact hk)⟩
  |ret=>exact⟨_,a₁,w₁,hq,gK⟩
  |panic ch=>exact⟨_,a₁,w₁,hq,gK⟩
  |outgrown=>exact⟨_,a₁,w₁,hq,gK⟩
theorem O8{P:Program}{cx:Cx}(aF:dQ Λ P cx){n:Nat}(hc:qf Λ P cx n){x:Operand}{ps:Array Tmp}{c d:Code}{Q:Exit->Act->World->Prop}{ρ:aY}{F:Fr}{S:AS}{w:World}{a:Act}
  (hR:R Λ ρ S w) (hF:eY ρ F a) (h:(qR cx (exec cx n) x ps c d F S).kQ (jt Λ ρ S w Q)):(Code.rangeFunc x ps c d).wpIn (GF none) 0 P Q a w:=by
 unfold qR at h;cases kS:(df c&&df d)with
 |false=>rw[kS]at h;exact h.elim
 |true=>
 rw[kS]at h;rw[zza]at kS;simp only[cond_true]at h;split at h
 .rename_i g first captured he
  have hf:=hF.eval x;rw[he]at hf;simp only[ai]at hf;obtain⟨p,q,e,hp,hq⟩:=hf;have g1:kP (.deferred (some [])) w (w.alloc (.deferred (some []))):=⟨⟨rfl,rfl,rfl⟩,rfl⟩
  obtain⟨ρ1,pl1,a1,a2,a3,a4,a5⟩:=hR.Ku (x:=.Bt true) g1 rfl;refine wpIn_rangeFunc (F:=GF none) fun fn _=>?_;have g2:kP (.loop {state:=.ready,pending:=none,fn:=fn,tmps:=a.tmps,params:=ps,assign:=c,body:=d,defers:=w.heap.size}) (w.alloc (.deferred (some [])))
   ((w.alloc (.deferred (some []))).alloc (.loop {state:=.ready,pending:=none,fn:=fn,tmps:=a.tmps,params:=ps,assign:=c,body:=d,defers:=w.heap.size})):=⟨⟨rfl,rfl,rfl⟩,rfl⟩
  obtain⟨ρ2,Pd,b1,b2,b3,b4,b5⟩:=a4.Ku (x:=.loop .ready none F ps c d) g2 ⟨fn,a.tmps,w.heap.size,rfl,⟨fun t=>(hF.slot t).mono a5.ext _ _,hF.size⟩,kS.1,kS.2⟩;have hk:=a5.trans b5;have nf:(w.alloc (.deferred (some []))).heap.size=w.heap.size+1:=g1.size;have Eu:Pd.b=w.heap.size+1:=by rw[b2,nf]
  have hK:=vr aF hc;have dY:ay ρ2 (gC first (.obj .LZ (Nat.succ S.nx)::captured)) (p ++ #[Value.func (.yield Pd.b) #[] #[]]++q).toList:=by
   rw[bJ];simp only[Array.toList_append,List.append_assoc];exact (hp.mono hk.ext).append (ay.cons (by simp only[ai];exact⟨Pd,b1,rfl⟩) (hq.mono hk.ext))
  have hh:=hK ρ2 (.fn g) _ _ _ (p ++ #[Value.func (.yield Pd.b) #[] #[]]++q) (rangePost (GF none) 0 P Pd.b Q {a with defers:=[{target:=.collected w.heap.size,args:=#[]}]++a.defers}) ((az.all_bind h).mono fun r hr ρ' e' w' r0 r1 r2=>?_) b4 dY
  .obtain⟨⟨gn,hgn,hgb⟩,Ao⟩:=hh;refine⟨Pd.b,_,_,⟨.fn (.func g) q,p ++ #[Value.func (.yield Pd.b) #[] #[]]⟩,_,g,_,_,(by rw[Eu];exact run_enterLoop_outer fn a.tmps ps c d),?_,fun _ _=>trivial,aF.enters g gn hgn hgb _ _,fun hd=>Bg none hd,AM (ro:=none) Ao⟩;simp only[resolve,e,Deferred.ofValue,List.map_toArray,List.map_cons,List.map_nil];rfl
  ·-- behind the call
   have hF2:eY ρ' ⟨F.t,F.n,.mark S.nx::F.ds⟩ {a with defers:=[{target:=.collected w.heap.size,args:=#[]}]++a.defers}:=
    ⟨fun t=>(hF.slot t).mono (hk.trans r2).ext _ _,hF.size,_,a.defers,rfl,⟨pl1,(b5.trans r2).ext _ _ _ a1,by rw[a2]⟩,hF.defers.mono (hk.trans r2).ext⟩
   have fi:(qT (exec cx n) (Nat.succ S.nx) ⟨F.t,F.n,.mark S.nx::F.ds⟩ r).kQ (jt Λ ρ S w Q):=hr;unfold qT at fi;rcases r0.cases with⟨hnp,v,rfl,hv⟩|⟨u,v,hu,rfl,hv⟩
   .rw[zI hnp]at fi;have M3:=r2.ext _ _ _ b1;split at fi
    .exact fi.elim
    .rename_i st j F' J8 x' y' hnb ho;obtain⟨fn',jbd,d',f1,_⟩:=uX r1 M3 ho;obtain⟨t1,t2⟩:=r1.DC (st':=.exhausted) (j':=j) M3 ho f1;have hkk:=(hk.trans r2).trans t2;refine⟨j,_,run_endLoop f1 (by
      show st≠.busy;intro est;subst est;exact hnb rfl),?_⟩
     cases j with
     |none=>exact fi.1 ρ' .normal _ _ rfl t1 hF2 hkk
     |some cj=>exact hc none cj Q ρ' _ _ _ _ (.inl rfl) t1 hF2 (fi.mono fun o hq=>hq.trans hkk)
    .exact fi.elim
   .rw[hu,zG]at fi;exact fi.1 ρ' _ _ w' ⟨v,rfl,hv⟩ r1 hF2 (hk.trans r2)
 .exact h.elim
theorem NI{P:Program}{cx:Cx}(aF:dQ Λ P cx)(hd:N6 Λ P cx):∀n,qf Λ P cx n/\W3 Λ P cx n:=by
 intro n
 induction n with
 |zero=>exact⟨fun ro c Q ρ F S w a _ _ _ h=>h.elim,fun ro c Q ρ F S w a _ _ _ h=>h.elim⟩
 |succ n ih=>
  obtain⟨ic,il⟩:=ih;have hK:=vr aF ic;have loop:W3 Λ P cx (n+1):=by
   intro ro b Q ρ F S w a hp hR hF h;rw[roundsIn_succ];have h':(az.bind (exec cx n b F S) fun o=>match o.ex with
    | .normal=>exec cx n (.loop b) o.F o.S
    |_=>.ok o []).kQ (jt Λ ρ S w Q):=h
   refine ic ro b _ ρ F S w a hp hR hF ((az.all_bind h').mono fun o ho ρ' e a' w' h0 h1 h2 h3=>?_);cases he:o.ex with
   |normal=>
    rw[he]at ho h0;cases h0;exact il ro b Q ρ' o.F o.S w' a' hp h1 h2 (ho.mono fun q hq=>hq.trans h3)
   |exit i=>rw[he]at ho h0;cases h0;exact ho.1 ρ' (.exit i) a' w' (by rw[he];rfl) h1 h2 h3
   |ret=>rw[he]at ho h0;cases h0;exact ho.1 ρ' .ret a' w' (by rw[he];rfl) h1 h2 h3
   |goto l=>rw[he]at ho h0;cases h0;exact ho.1 ρ' (.goto l) a' w' (by rw[he];rfl) h1 h2 h3
   |eO v=>rw[he]at ho h0;obtain⟨x,rfl,hx⟩:=h0;exact ho.1 ρ' _ a' w' (by rw[he];exact⟨x,rfl,hx⟩) h1 h2 h3
  refine⟨?_,loop⟩;intro ro c Q ρ F S w a hp hR hF h;cases c with
  |skip=>exact wpIn_skip (h.1 ρ .normal a w rfl hR hF (Kp.refl _ _ _))
  |ret=>exact wpIn_ret (h.1 ρ .ret a w rfl hR hF (Kp.refl _ _ _))
  |exit id=>exact wpIn_exit (h.1 ρ (.exit id) a w rfl hR hF (Kp.refl _ _ _))
  |region id ops draw=>
   cases draw with
   |false=>
    refine wpIn_region ?_;have h':(az.bind (dz cx (cS cx (exec cx n)) ops.toList ops.toList F S) fun r=>match r.1 with
     |none=>(.ok ⟨.normal,r.2.1,r.2.2⟩ []:az Out)
     |some v=>.ok ⟨.eO v,r.2.1,r.2.2⟩ []).kQ (jt Λ ρ S w Q):=h
    have:=OS (ro:=ro) aF hK (ops:=ops) hp (Q:=Q) ops.toList 0 ρ F S w a rfl hR hF ((az.all_bind h').mono fun r hr ρ' e a' w' h0 h1 h2 h3=>by
     obtain⟨pv,F',S'⟩:=r;cases pv with
     |none=>exact hr.1 ρ' e a' w' h0 h1 h2 h3
     |some v=>exact hr.1 ρ' e a' w' h0 h1 h2 h3)
    rw[List.range_eq_range'];simpa using this
   |true=>
    have h':(az.bind (fM cx (cS cx (exec cx n)) ops.toList F S) fun r=>match r.1 with
     |none=>(.ok ⟨.normal,r.2.1,r.2.2⟩ []:az Out)
     |some v=>.ok ⟨.eO v,r.2.1,r.2.2⟩ []).kQ (jt Λ ρ S w Q):=h
    exact hd ro _ hK ops id Q ρ F S w a hR hF ((az.all_bind h').mono fun r hr ρ' e a' w' h0 h1 h2 h3=>by
     obtain⟨pv,F',S'⟩:=r;cases pv with
     |none=>exact hr.1 ρ' e a' w' h0 h1 h2 h3
     |some v=>exact hr.1 ρ' e a' w' h0 h1 h2 h3)
  |seq x y=>
   have M3:(ro=none\/df x=true)/\(ro=none\/df y=true):=by
    rcases hp with hp|hp
    .exact⟨.inl hp,.inl hp⟩
    .rw[vT,zza]at hp;exact⟨.inr hp.1,.inr hp.2⟩
   have h':(az.bind (exec cx n x F S) fun o=>match o.ex with
    | .normal=>exec cx n y o.F o.S
    |_=>.ok o []).kQ (jt Λ ρ S w Q):=h
   refine wpIn_seq (ic ro x _ ρ F S w a M3.1 hR hF ((az.all_bind h').mono fun o ho ρ' e a' w' h0 h1 h2 h3=>?_));cases he:o.ex with
   |normal=>
    rw[he]at ho h0;cases h0;exact ic ro y Q ρ' o.F o.S w' a' M3.2 h1 h2 (ho.mono fun q hq=>hq.trans h3)
   |exit i=>rw[he]at ho h0;cases h0;exact ho.1 ρ' (.exit i) a' w' (by rw[he];rfl) h1 h2 h3
   |ret=>rw[he]at ho h0;cases h0;exact ho.1 ρ' .ret a' w' (by rw[he];rfl) h1 h2 h3
   |goto l=>rw[he]at ho h0;cases h0;exact ho.1 ρ' (.goto l) a' w' (by rw[he];rfl) h1 h2 h3
   |eO v=>rw[he]at ho h0;obtain⟨z,rfl,hx⟩:=h0;exact ho.1 ρ' _ a' w' (by rw[he];exact⟨z,rfl,hx⟩) h1 h2 h3
  |cond x y z=>
   have M3:(ro=none\/df y=true)/\(ro=none\/df z=true):=by
    rcases hp with hp|hp
    .exact⟨.inl hp,.inl hp⟩
    .have lB:cond (df y) (df z) false=true:=hp;cases hy:df y with
     |false=>rw[hy]at lB;cases lB
     |true=>rw[hy]at lB;exact⟨.inr rfl,.inr lB⟩
   have h':(match eval F x with
    | .bool true=>exec cx n y F S
    | .bool false=>exec cx n z F S
    |_=>.err 3001).kQ (jt Λ ρ S w Q):=h
   have hx:=hF.eval x;split at h'
   .rename_i he;rw[he]at hx;exact wpIn_cond_true (by simpa[ai]using hx) (ic ro y Q ρ F S w a M3.1 hR hF h')
   .rename_i he;rw[he]at hx;exact wpIn_cond_false (by simpa[ai]using hx) (ic ro z Q ρ F S w a M3.2 hR hF h')
   .exact h'.elim
  |block id b=>
   have h':(az.bind (exec cx n b F S) fun o=>match o.ex with
    | .exit j=>cond (Nat.beq j id) (.ok ⟨.normal,o.F,o.S⟩ []) (.ok o [])
    |_=>.ok o []).kQ (jt Λ ρ S w Q):=h
   refine wpIn_block (ic ro b _ ρ F S w a hp hR hF ((az.all_bind h').mono fun o ho ρ' e a' w' h0 h1 h2 h3=>?_));cases he:o.ex with
   |normal=>rw[he]at ho h0;cases h0;exact ho.1 ρ' .normal a' w' (by rw[he];rfl) h1 h2 h3
   |ret=>rw[he]at ho h0;cases h0;exact ho.1 ρ' .ret a' w' (by rw[he];rfl) h1 h2 h3
   |goto l=>rw[he]at ho h0;cases h0;exact ho.1 ρ' (.goto l) a' w' (by rw[he];rfl) h1 h2 h3
   |eO v=>rw[he]at ho h0;obtain⟨z,rfl,hx⟩:=h0;exact ho.1 ρ' _ a' w' (by rw[he];exact⟨z,rfl,hx⟩) h1 h2 h3
   |exit j=>
    rw[he]at ho h0;cases h0;simp only[bO]at ho;show Exit.inBlock id Q (.exit j) a' w';by_cases hj:j=id
    .rw[decide_eq_true hj]at ho;simp only[Exit.inBlock,if_pos hj];exact ho.1 ρ' .normal a' w' rfl h1 h2 h3
    .rw[decide_eq_false hj]at ho;simp only[Exit.inBlock,if_neg hj];exact ho.1 ρ' (.exit j) a' w' (by rw[he];rfl) h1 h2 h3
  |loop b=>exact wpIn_loop_rounds (n+1) (loop ro b Q ρ F S w a hp hR hF h)
  |rangeFunc f p x y=>
   rcases hp with rfl|hp
   .exact O8 aF ic hR hF h
   .cases hp
  |scope b=>exact Jp (OL (body:=b) ic hp n b ρ F S w a hp hR hF h)
  |label l=>exact wpIn_label (h.1 ρ .normal a w rfl hR hF (Kp.refl _ _ _))
  |goto l=>exact wpIn_goto (h.1 ρ (.goto l) a w rfl hR hF (Kp.refl _ _ _))
  |refuse s=>exact (h:False).elim
end Go.Am
