/-
  The abstract machine against the model: calls, whole; code.
-/
import Derived.Test.YthklfandhmkpiaaGreatDoorAmLeave
import Derived.Test.YthklfandhmkpiaaGreatDoorAmSame
open Bool renaming and_eq_true->zza
set_option linter.unusedVariables false
set_option linter.unusedSimpArgs false
namespace Go.Am
open Go
variable{Λ:LB}
def PostOk(Λ:LB)(ρ:bf)(S:AS)(w:World)(fS:Ending->World->Prop)(r:AV×AS):Prop:=
 ∀ρ' e w',hJ ρ' r.1 e->R Λ ρ' r.2 w'->Kp ρ S w ρ' r.2 w'->fS e w'
theorem fnF_ok{P:Program}{cx:Cx}(aI:cU Λ P cx){n:Nat}(hc:nA Λ P cx n){ρ:bf}{f:FuncId}{as:List AV}{S:AS}{w:World}{args:Array Value}{fS:Ending->World->Prop}
  (h:(fnF cx (exec cx n) f as S).iQ (PostOk Λ ρ S w fS)) (hR:R Λ ρ S w) (hl:aD ρ as args.toList):TgtOk P ρ args w fS (.fn f):=by
 unfold fnF at h;cases hq:cx.fi.get f with
 |some q=>
  rw[hq]at h;simp only[]at h;cases hr:q as S with
  |none=>rw[hr]at h;exact h.elim
  |some r=>
   rw[hr]at h;obtain⟨v,S'⟩:=r;obtain⟨hfn,vK⟩:=aI.fi f q hq ρ as S w args v S' hR hl hr;refine⟨hfn,vK.mono fun e w' he=>?_⟩;obtain⟨x,ρ',rfl,e2,e3,e4⟩:=he;exact h.1 ρ' _ w' (hJ.of e2) e3 e4
 |none=>
 rw[hq]at h;simp only[]at h;cases hf:cx.fns.get f with
 |none=>rw[hf]at h;exact h.elim
 |some fn=>
  rw[hf]at h;simp only[]at h;have hfn:=aI.fns f fn hf;cases hb:fn.body with
  |none=>rw[hb]at h;exact h.elim
  |some c=>
   rw[hb]at h;simp only[]at h;refine⟨⟨fn,hfn,by rw[hb];rfl⟩,callsIn_wide.1 (callsIn_of_wp_marks (n:=0) hfn hb trivial ?_)⟩;refine hc none c _ ρ _ S w _ (.inl rfl) hR (yY hl fn.ntmps) ?_;refine (aC.all_bind h).mono fun o ho ρ' e a' w' k0 h1 h2 h3=>?_;cases he:o.ex with
   |exit id=>rw[he]at ho;exact ho.elim
   |goto l=>rw[he]at ho;exact ho.elim
   |normal=>
    rw[he]at ho k0;cases k0;exact sk aI hc o.F.ds a'.defers ρ' o.S .ret _ w' h1 h2.srel h2.defers rfl (ho.mono fun r hr ρ'' e ux j0 j1 j2=>hr ρ'' e ux j0 j1 (h3.trans j2))
   |ret=>
    rw[he]at ho k0;cases k0;exact sk aI hc o.F.ds a'.defers ρ' o.S .ret _ w' h1 h2.srel h2.defers rfl (ho.mono fun r hr ρ'' e ux j0 j1 j2=>hr ρ'' e ux j0 j1 (h3.trans j2))
   |eQ v=>
    rw[he]at ho k0;obtain⟨x,rfl,hx⟩:=k0;exact sk aI hc o.F.ds a'.defers ρ' o.S (.eQ v) _ w' h1 h2.srel h2.defers ⟨x,rfl,hx⟩ (ho.mono fun r hr ρ'' e ux j0 j1 j2=>hr ρ'' e ux j0 j1 (h3.trans j2))
theorem pureF_ok{P:Program}{cx:Cx}(aI:cU Λ P cx){n:Nat}(hc:nA Λ P cx n){ρ:bf}{f:FuncId}{as:List AV}{S:AS}{w:World}{args:Array Value}{fS:Ending->World->Prop}
  (h:(tf cx (exec cx n) f as S).iQ (PostOk Λ ρ S w fS)) (hR:R Λ ρ S w) (hl:aD ρ as args.toList):TgtOk P ρ args w fS (.fn f):=by
 unfold tf at h;cases hq:cx.kU.get f with
 |none=>rw[hq]at h;exact fnF_ok aI hc h hR hl
 |some u=>rw[hq]at h;exact h.elim
theorem rC{P:Program}{cx:Cx}(aI:cU Λ P cx){n:Nat}(hc:nA Λ P cx n):wH Λ P (cD cx (exec cx n)):=by
 intro ρ t as S w args fS h hR hl;cases t with
 |fn f=>exact pureF_ok aI hc h hR hl
 |round id=>exact roundF_ok hc h hR hl
theorem rW(a b:Code):cW (.seq a b)=(cW a&&cW b):=by
 show cond (cW a) (cW b) false=_;cases cW a<;>rfl
theorem plain_find:∀(c:Code)(l:Nat)(rest:Code),cW c=true->findLabel c l=some rest->cW rest=true:=by
 intro c
 induction c with
 |seq a b iha Dl=>
  intro l rest hp h;rw[rW,zza]at hp;rw[findLabel]at h;cases ha:findLabel a l with
  |some r=>
   rw[ha]at h;cases h;rw[rW,iha l r hp.1 ha,hp.2];rfl
  |none=>
   rw[ha]at h;exact Dl l rest hp.2 h
 |label l'=>
  intro l rest _ h;rw[findLabel]at h;split at h
  .cases h;rfl
  .cases h
 |skip=>intro l rest _ h;rw[findLabel]at h<;>first|cases h|(intros;intro e;cases e)
 |ret=>intro l rest _ h;rw[findLabel]at h<;>first|cases h|(intros;intro e;cases e)
 |exit id=>intro l rest _ h;rw[findLabel]at h<;>first|cases h|(intros;intro e;cases e)
 |region id ops d=>intro l rest _ h;rw[findLabel]at h<;>first|cases h|(intros;intro e;cases e)
 |cond x a b _ _=>intro l rest _ h;rw[findLabel]at h<;>first|cases h|(intros;intro e;cases e)
 |block id b _=>intro l rest _ h;rw[findLabel]at h<;>first|cases h|(intros;intro e;cases e)
 |loop b _=>intro l rest _ h;rw[findLabel]at h<;>first|cases h|(intros;intro e;cases e)
 |rangeFunc f p x y _ _=>intro l rest _ h;rw[findLabel]at h<;>first|cases h|(intros;intro e;cases e)
 |scope b _=>intro l rest _ h;rw[findLabel]at h<;>first|cases h|(intros;intro e;cases e)
 |goto t=>intro l rest _ h;rw[findLabel]at h<;>first|cases h|(intros;intro e;cases e)
 |refuse s=>intro l rest _ h;rw[findLabel]at h<;>first|cases h|(intros;intro e;cases e)
section
variable{P:Program}{b:Frame}{a:Act}{k:List Item}{cs:List Frame}{w:World}
theorem Ci{c:Code}:step P (lone (b.atR a (.code (.scope c)::k)) cs w)=.next (lone (b.atR a (.code c::.inScope c::k)) cs w):=
 step_lone_go (by simp[stepG,stepG.exec,Frame.atR])
theorem wQ{c:Code}:step P (lone (b.atR a (.inScope c::k)) cs w)=.next (lone (b.atR a k) cs w):=
 step_lone_go (by simp[stepG,stepG.exec,Frame.atR])
end
def BI(ro:Option Nat)(P:Program)(body:Code)(Q:Exit->Act->World->Prop)(c:Code)(a:Act)(w:World):Prop:=
 ∀(b:Frame)(k:List Item)(cs:List Frame),b.roundOf=ro ->
  ∃e a' w',Q e a' w'/\ArrivesIn (Machine.fenced P (GF ro)) P (lone (b.atR a (.code c::.inScope body::k)) cs w) b k cs e a' w'
theorem E8{ro:Option Nat}{P:Program}{body:Code}{Q:Exit->Act->World->Prop}{a:Act}{w:World}(h:BI ro P body Q body a w):(Code.scope body).wpIn (GF ro) 0 P Q a w:=by
 intro b k cs hro hb hr;rw[EL]at hro;obtain⟨e,a',w',hq,fG⟩:=h b k cs hro;exact⟨e,a',w',hq,.of_steps (.one (fenced_calm hb hr rfl) Ci) fG⟩
theorem scopeF_ok{P:Program}{cx:Cx}{n:Nat}(hc:nA Λ P cx n){ro:Option Nat}{body:Code}(hp:ro=none\/cW body=true){Q:Exit->Act->World->Prop}:
  ∀(m:Nat)(c:Code)(ρ:bf)(F:Fr)(S:AS)(w:World)(a:Act),(ro=none\/cW c=true)->R Λ ρ S w->eA ρ F a ->
  (mO (exec cx n) body m c F S).iQ (gX Λ ρ S w Q)->BI ro P body Q c a w:=by
 intro m
 induction m with
 |zero=>intro c ρ F S w a _ _ _ h;exact h.elim
 |succ m ih=>
  intro c ρ F S w a hpc hR hF h;have h':(aC.bind (exec cx n c F S) fun o=>match o.ex with
   | .goto l=>match findLabel body l with
    |some rest=>mO (exec cx n) body m rest o.F o.S
    |none=>.ok o []
   |_=>.ok o []).iQ (gX Λ ρ S w Q):=h
  have key:=hc ro c (fun e a' w'=>match e with
   | .goto l=>match findLabel body l with
    |some rest=>BI ro P body Q rest a' w'
    |none=>Q (.goto l) a' w'
   |e=>Q e a' w') ρ F S w a hpc hR hF ((aC.all_bind h').mono fun o ho ρ' e a' w' h0 h1 h2 h3=>by
    cases he:o.ex with
    |goto l=>
     rw[he]at ho h0;cases h0;simp only[]at ho⊢;cases sy:findLabel body l with
     |none=>rw[sy]at ho;exact ho.1 ρ' (.goto l) a' w' (by rw[he];rfl) h1 h2 h3
     |some rest=>
      rw[sy]at ho;exact ih rest ρ' o.F o.S w' a' (hp.imp id fun hb=>plain_find body l rest hb sy) h1 h2 (ho.mono fun q hq=>hq.trans h3)
    |normal=>rw[he]at ho h0;cases h0;exact ho.1 ρ' .normal a' w' (by rw[he];rfl) h1 h2 h3
    |ret=>rw[he]at ho h0;cases h0;exact ho.1 ρ' .ret a' w' (by rw[he];rfl) h1 h2 h3
    |exit i=>rw[he]at ho h0;cases h0;exact ho.1 ρ' (.exit i) a' w' (by rw[he];rfl) h1 h2 h3
    |eQ v=>rw[he]at ho h0;obtain⟨x,rfl,hx⟩:=h0;exact ho.1 ρ' _ a' w' (by rw[he];exact⟨x,rfl,hx⟩) h1 h2 h3)
  intro b k cs hro;obtain⟨e,a₁,w₁,hq,fG⟩:=key b (.inScope body::k) cs (by rw[EL];exact hro) (zL ro _) (GF_room ro _);cases e with
  |normal=>exact⟨.normal,a₁,w₁,hq,StepsIn.trans fG (.one (fenced_calm (n:=0) (zL ro _) (GF_room ro _) rfl) wQ)⟩
  |exit id=>exact⟨.exit id,a₁,w₁,hq,fun k' hk=>fG.1 k' (by simp[exitTo,hk]),fun hr hk=>fG.2 hr (by simp[exitTo,hk])⟩
  |goto l=>
   simp only[]at hq;cases sy:findLabel body l with
   |some rest=>
    rw[sy]at hq;have hg:gotoIn l (.inScope body::k)=some (.code rest::.inScope body::k):=by simp[gotoIn,sy]
    obtain⟨e₂,a₂,w₂,hq₂,harr₂⟩:=hq b k cs hro;exact⟨e₂,a₂,w₂,hq₂,.of_steps (fG.1 _ hg) harr₂⟩
   |none=>
    rw[sy]at hq;have hg:gotoIn l (.inScope body::k)=gotoIn l k:=by simp[gotoIn,sy]
    exact⟨.goto l,a₁,w₁,hq,fun k' hk=>fG.1 k' (by rw[hg];exact hk),fun hr hk=>fG.2 hr (by rw[hg];exact hk)⟩
  |ret=>exact⟨_,a₁,w₁,hq,fG⟩
  |panic ch=>exact⟨_,a₁,w₁,hq,fG⟩
  |outgrown=>exact⟨_,a₁,w₁,hq,fG⟩
theorem rangeF_ok{P:Program}{cx:Cx}(aI:cU Λ P cx){n:Nat}(hc:nA Λ P cx n){x:Operand}{ps:Array Tmp}{c d:Code}{Q:Exit->Act->World->Prop}{ρ:bf}{F:Fr}{S:AS}{w:World}{a:Act}
  (hR:R Λ ρ S w) (hF:eA ρ F a) (h:(qb cx (exec cx n) x ps c d F S).iQ (gX Λ ρ S w Q)):(Code.rangeFunc x ps c d).wpIn (GF none) 0 P Q a w:=by
 unfold qb at h;cases oZ:(cW c&&cW d)with
 |false=>rw[oZ]at h;exact h.elim
 |true=>
 rw[oZ]at h;rw[zza]at oZ;simp only[cond_true]at h;split at h
 .rename_i g first captured he
  have hf:=hF.eval x;rw[he]at hf;simp only[aq]at hf;obtain⟨p,q,e,hp,hq⟩:=hf;have g1:iz (.deferred (some [])) w (w.alloc (.deferred (some []))):=⟨⟨rfl,rfl,rfl⟩,rfl⟩
  obtain⟨ρ1,pl1,a1,a2,a3,a4,a5⟩:=hR.newOth (x:=.dfr true) g1 rfl;refine wpIn_rangeFunc (F:=GF none) fun fn _=>?_;have g2:iz (.loop {state:=.ready,pending:=none,fn:=fn,tmps:=a.tmps,params:=ps,assign:=c,body:=d,defers:=w.heap.size}) (w.alloc (.deferred (some [])))
   ((w.alloc (.deferred (some []))).alloc (.loop {state:=.ready,pending:=none,fn:=fn,tmps:=a.tmps,params:=ps,assign:=c,body:=d,defers:=w.heap.size})):=⟨⟨rfl,rfl,rfl⟩,rfl⟩
  obtain⟨ρ2,pl2,b1,b2,b3,b4,b5⟩:=a4.newOth (x:=.loop .ready none F ps c d) g2 ⟨fn,a.tmps,w.heap.size,rfl,⟨fun t=>(hF.slot t).mono a5.ext _ _,hF.size⟩,oZ.1,oZ.2⟩;have hk:=a5.trans b5;have nf:(w.alloc (.deferred (some []))).heap.size=w.heap.size+1:=g1.size;have AT:pl2.b=w.heap.size+1:=by rw[b2,nf]
  have hK:=rC aI hc;have dI:aD ρ2 (gR first (.obj .yld (Nat.succ S.nx)::captured)) (p ++ #[Value.func (.yield pl2.b) #[] #[]]++q).toList:=by
   rw[cA];simp only[Array.toList_append,List.append_assoc];exact (hp.mono hk.ext).append (aD.cons (by simp only[aq];exact⟨pl2,b1,rfl⟩) (hq.mono hk.ext))
  have hh:=hK ρ2 (.fn g) _ _ _ (p ++ #[Value.func (.yield pl2.b) #[] #[]]++q) (rangePost (GF none) 0 P pl2.b Q {a with defers:=[{target:=.collected w.heap.size,args:=#[]}]++a.defers}) ((aC.all_bind h).mono fun r hr ρ' e' w' r0 r1 r2=>?_) b4 dI
  .obtain⟨⟨gn,hgn,hgb⟩,vK⟩:=hh;refine⟨pl2.b,_,_,⟨.fn (.func g) q,p ++ #[Value.func (.yield pl2.b) #[] #[]]⟩,_,g,_,_,(by rw[AT];exact run_enterLoop_outer fn a.tmps ps c d),?_,fun _ _=>trivial,aI.enters g gn hgn hgb _ _,fun hd=>wI none hd,v7 (ro:=none) vK⟩;simp only[resolve,e,Deferred.ofValue,List.map_toArray,List.map_cons,List.map_nil];rfl
  ·-- behind the call
   have hF2:eA ρ' ⟨F.t,F.n,.mark S.nx::F.ds⟩ {a with defers:=[{target:=.collected w.heap.size,args:=#[]}]++a.defers}:=
    ⟨fun t=>(hF.slot t).mono (hk.trans r2).ext _ _,hF.size,_,a.defers,rfl,⟨pl1,(b5.trans r2).ext _ _ _ a1,by rw[a2]⟩,hF.defers.mono (hk.trans r2).ext⟩
   have ij:(qO (exec cx n) (Nat.succ S.nx) ⟨F.t,F.n,.mark S.nx::F.ds⟩ r).iQ (gX Λ ρ S w Q):=hr;unfold qO at ij;rcases r0.cases with⟨hnp,v,rfl,hv⟩|⟨u,v,hu,rfl,hv⟩
   .rw[ve hnp]at ij;have hp2:=r2.ext _ _ _ b1;split at ij
    .exact ij.elim
    .rename_i st j F' ps' x' y' hnb ho;obtain⟨fn',tmps',d',f1,_⟩:=qZ r1 hp2 ho;obtain⟨t1,t2⟩:=r1.Aj (st':=.exhausted) (j':=j) hp2 ho f1;have hkk:=(hk.trans r2).trans t2;refine⟨j,_,run_endLoop f1 (by
      show st≠.busy;intro est;subst est;exact hnb rfl),?_⟩
     cases j with
     |none=>exact ij.1 ρ' .normal _ _ rfl t1 hF2 hkk
     |some cj=>exact hc none cj Q ρ' _ _ _ _ (.inl rfl) t1 hF2 (ij.mono fun o hq=>hq.trans hkk)
    .exact ij.elim
   .rw[hu,vd]at ij;exact ij.1 ρ' _ _ w' ⟨v,rfl,hv⟩ r1 hF2 (hk.trans r2)
 .exact h.elim
theorem code_ok{P:Program}{cx:Cx}(aI:cU Λ P cx)(hd:DrawnOk Λ P cx):∀n,nA Λ P cx n/\LoopOk Λ P cx n:=by
 intro n
 induction n with
 |zero=>exact⟨fun ro c Q ρ F S w a _ _ _ h=>h.elim,fun ro c Q ρ F S w a _ _ _ h=>h.elim⟩
 |succ n ih=>
  obtain⟨ic,il⟩:=ih;have hK:=rC aI ic;have loop:LoopOk Λ P cx (n+1):=by
   intro ro b Q ρ F S w a hp hR hF h;rw[roundsIn_succ];have h':(aC.bind (exec cx n b F S) fun o=>match o.ex with
    | .normal=>exec cx n (.loop b) o.F o.S
    |_=>.ok o []).iQ (gX Λ ρ S w Q):=h
   refine ic ro b _ ρ F S w a hp hR hF ((aC.all_bind h').mono fun o ho ρ' e a' w' h0 h1 h2 h3=>?_);cases he:o.ex with
   |normal=>
    rw[he]at ho h0;cases h0;exact il ro b Q ρ' o.F o.S w' a' hp h1 h2 (ho.mono fun q hq=>hq.trans h3)
   |exit i=>rw[he]at ho h0;cases h0;exact ho.1 ρ' (.exit i) a' w' (by rw[he];rfl) h1 h2 h3
   |ret=>rw[he]at ho h0;cases h0;exact ho.1 ρ' .ret a' w' (by rw[he];rfl) h1 h2 h3
   |goto l=>rw[he]at ho h0;cases h0;exact ho.1 ρ' (.goto l) a' w' (by rw[he];rfl) h1 h2 h3
   |eQ v=>rw[he]at ho h0;obtain⟨x,rfl,hx⟩:=h0;exact ho.1 ρ' _ a' w' (by rw[he];exact⟨x,rfl,hx⟩) h1 h2 h3
  refine⟨?_,loop⟩;intro ro c Q ρ F S w a hp hR hF h;cases c with
  |skip=>exact wpIn_skip (h.1 ρ .normal a w rfl hR hF (Kp.refl _ _ _))
  |ret=>exact wpIn_ret (h.1 ρ .ret a w rfl hR hF (Kp.refl _ _ _))
  |exit id=>exact wpIn_exit (h.1 ρ (.exit id) a w rfl hR hF (Kp.refl _ _ _))
  |region id ops draw=>
   cases draw with
   |false=>
    refine wpIn_region ?_;have h':(aC.bind (cP cx (cD cx (exec cx n)) ops.toList ops.toList F S) fun r=>match r.1 with
     |none=>(.ok ⟨.normal,r.2.1,r.2.2⟩ []:aC Out)
     |some v=>.ok ⟨.eQ v,r.2.1,r.2.2⟩ []).iQ (gX Λ ρ S w Q):=h
    have:=runOps_wp (ro:=ro) aI hK (ops:=ops) hp (Q:=Q) ops.toList 0 ρ F S w a rfl hR hF ((aC.all_bind h').mono fun r hr ρ' e a' w' h0 h1 h2 h3=>by
     obtain⟨pv,F',S'⟩:=r;cases pv with
     |none=>exact hr.1 ρ' e a' w' h0 h1 h2 h3
     |some v=>exact hr.1 ρ' e a' w' h0 h1 h2 h3)
    rw[List.range_eq_range'];simpa using this
   |true=>
    have h':(aC.bind (eg cx (cD cx (exec cx n)) ops.toList F S) fun r=>match r.1 with
     |none=>(.ok ⟨.normal,r.2.1,r.2.2⟩ []:aC Out)
     |some v=>.ok ⟨.eQ v,r.2.1,r.2.2⟩ []).iQ (gX Λ ρ S w Q):=h
    exact hd ro _ hK ops id Q ρ F S w a hR hF ((aC.all_bind h').mono fun r hr ρ' e a' w' h0 h1 h2 h3=>by
     obtain⟨pv,F',S'⟩:=r;cases pv with
     |none=>exact hr.1 ρ' e a' w' h0 h1 h2 h3
     |some v=>exact hr.1 ρ' e a' w' h0 h1 h2 h3)
  |seq x y=>
   have hp2:(ro=none\/cW x=true)/\(ro=none\/cW y=true):=by
    rcases hp with hp|hp
    .exact⟨.inl hp,.inl hp⟩
    .rw[rW,zza]at hp;exact⟨.inr hp.1,.inr hp.2⟩
   have h':(aC.bind (exec cx n x F S) fun o=>match o.ex with
    | .normal=>exec cx n y o.F o.S
    |_=>.ok o []).iQ (gX Λ ρ S w Q):=h
   refine wpIn_seq (ic ro x _ ρ F S w a hp2.1 hR hF ((aC.all_bind h').mono fun o ho ρ' e a' w' h0 h1 h2 h3=>?_));cases he:o.ex with
   |normal=>
    rw[he]at ho h0;cases h0;exact ic ro y Q ρ' o.F o.S w' a' hp2.2 h1 h2 (ho.mono fun q hq=>hq.trans h3)
   |exit i=>rw[he]at ho h0;cases h0;exact ho.1 ρ' (.exit i) a' w' (by rw[he];rfl) h1 h2 h3
   |ret=>rw[he]at ho h0;cases h0;exact ho.1 ρ' .ret a' w' (by rw[he];rfl) h1 h2 h3
   |goto l=>rw[he]at ho h0;cases h0;exact ho.1 ρ' (.goto l) a' w' (by rw[he];rfl) h1 h2 h3
   |eQ v=>rw[he]at ho h0;obtain⟨z,rfl,hx⟩:=h0;exact ho.1 ρ' _ a' w' (by rw[he];exact⟨z,rfl,hx⟩) h1 h2 h3
  |cond x y z=>
   have hp2:(ro=none\/cW y=true)/\(ro=none\/cW z=true):=by
    rcases hp with hp|hp
    .exact⟨.inl hp,.inl hp⟩
    .have kF:cond (cW y) (cW z) false=true:=hp;cases hy:cW y with
     |false=>rw[hy]at kF;cases kF
     |true=>rw[hy]at kF;exact⟨.inr rfl,.inr kF⟩
   have h':(match eval F x with
    | .bool true=>exec cx n y F S
    | .bool false=>exec cx n z F S
    |_=>.err 3001).iQ (gX Λ ρ S w Q):=h
   have hx:=hF.eval x;split at h'
   .rename_i he;rw[he]at hx;exact wpIn_cond_true (by simpa[aq]using hx) (ic ro y Q ρ F S w a hp2.1 hR hF h')
   .rename_i he;rw[he]at hx;exact wpIn_cond_false (by simpa[aq]using hx) (ic ro z Q ρ F S w a hp2.2 hR hF h')
   .exact h'.elim
  |block id b=>
   have h':(aC.bind (exec cx n b F S) fun o=>match o.ex with
    | .exit j=>cond (Nat.beq j id) (.ok ⟨.normal,o.F,o.S⟩ []) (.ok o [])
    |_=>.ok o []).iQ (gX Λ ρ S w Q):=h
   refine wpIn_block (ic ro b _ ρ F S w a hp hR hF ((aC.all_bind h').mono fun o ho ρ' e a' w' h0 h1 h2 h3=>?_));cases he:o.ex with
   |normal=>rw[he]at ho h0;cases h0;exact ho.1 ρ' .normal a' w' (by rw[he];rfl) h1 h2 h3
   |ret=>rw[he]at ho h0;cases h0;exact ho.1 ρ' .ret a' w' (by rw[he];rfl) h1 h2 h3
   |goto l=>rw[he]at ho h0;cases h0;exact ho.1 ρ' (.goto l) a' w' (by rw[he];rfl) h1 h2 h3
   |eQ v=>rw[he]at ho h0;obtain⟨z,rfl,hx⟩:=h0;exact ho.1 ρ' _ a' w' (by rw[he];exact⟨z,rfl,hx⟩) h1 h2 h3
   |exit j=>
    rw[he]at ho h0;cases h0;simp only[bC]at ho;show Exit.inBlock id Q (.exit j) a' w';by_cases hj:j=id
    .rw[decide_eq_true hj]at ho;simp only[Exit.inBlock,if_pos hj];exact ho.1 ρ' .normal a' w' rfl h1 h2 h3
    .rw[decide_eq_false hj]at ho;simp only[Exit.inBlock,if_neg hj];exact ho.1 ρ' (.exit j) a' w' (by rw[he];rfl) h1 h2 h3
  |loop b=>exact wpIn_loop_rounds (n+1) (loop ro b Q ρ F S w a hp hR hF h)
  |rangeFunc f p x y=>
   rcases hp with rfl|hp
   .exact rangeF_ok aI ic hR hF h
   .cases hp
  |scope b=>exact E8 (scopeF_ok (body:=b) ic hp n b ρ F S w a hp hR hF h)
  |label l=>exact wpIn_label (h.1 ρ .normal a w rfl hR hF (Kp.refl _ _ _))
  |goto l=>exact wpIn_goto (h.1 ρ (.goto l) a w rfl hR hF (Kp.refl _ _ _))
  |refuse s=>exact (h:False).elim
end Go.Am
