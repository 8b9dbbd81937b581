/-
  The abstract machine against the model: operations in a row.
-/
import Derived.Test.YtdknlbnljfdhgaaGreatDoorAmSound
import Derived.LoopN
import Derived.OrdersIn
import Derived.RangeFuncIn
import Derived.RangeFuncRecord
namespace Go.Am
open Go
variable{Λ:LB}
def av.jK{α:Type}(r:av α)(p:α->Prop):Prop:=
 match r with
 | .err _=>False
 | .ok x xs=>p x/\∀y,y∈xs->p y
theorem av.jK.mono{α:Type}{r:av α}{p q:α->Prop}(h:r.jK p)(hq:∀x,p x->q x):r.jK q:=by
 cases r with
 |err n=>exact h
 |ok x xs=>exact⟨hq x h.1,fun y hy=>hq y (h.2 y hy)⟩
theorem av.all_app{α:Type}{a b:av α}{p:α->Prop}(h:(av.app a b).jK p):a.jK p/\b.jK p:=by
 cases a with
 |err n=>exact h.elim
 |ok x xs=>
  cases b with
  |err n=>exact h.elim
  |ok y ys=>
   obtain⟨h1,h2⟩:=h;simp only[bz]at h2;exact⟨⟨h1,fun z hz=>h2 z (List.mem_append_left _ hz)⟩,⟨h2 y (by simp),fun z hz=>h2 z (by simp[hz])⟩⟩
theorem av.all_bind{α β:Type}{r:av α}{f:α->av β}{p:β->Prop}(h:(av.bind r f).jK p):r.jK fun x=>(f x).jK p:=by
 cases r with
 |err n=>exact h.elim
 |ok x xs=>
  cases xs with
  |nil=>exact⟨h,fun y hy=>by cases hy⟩
  |cons y ys=>
   have h':(av.app (f x) (List.rec (motive:=fun _=>α->av β) (fun y=>f y) (fun z _ ih y=>av.app (f y) (ih z)) ys y)).jK p:=h;obtain⟨h1,h2⟩:=av.all_app h';refine⟨h1,?_⟩;clear h h' h1
   induction ys generalizing y with
   |nil=>
    intro z hz;simp at hz;subst hz;exact h2
   |cons z ys ih=>
    have h3:(av.app (f y) (List.rec (motive:=fun _=>α->av β) (fun y=>f y) (fun z _ ih y=>av.app (f y) (ih z)) ys z)).jK p:=h2;obtain⟨h4,h5⟩:=av.all_app h3;intro u hu;cases hu with
    |head=>exact h4
    |tail _ hu=>exact ih z h5 u hu
def GF(ro:Option Nat):Fence:=match ro with|none=>Fence.wide|some l=>Fence.wide.inRound l
theorem AK(ro:Option Nat)(f:FuncId):(GF ro).fn f:=by cases ro<;>trivial
theorem GF_room(ro:Option Nat)(n:Nat):(GF ro).room n:=by cases ro<;>exact room_wide n
theorem Gb(ro:Option Nat):(GF ro).round=ro:=by cases ro<;>rfl
theorem yi(ro:Option Nat){p:Prop}(h:(GF ro).depth.isSome=true):p:=by cases ro<;>simp[GF,Fence.wide]at h
theorem xQ{ro:Option Nat}{n:Nat}{P:Program}{f:FuncId}{args:Array Value}{w:World}{R:Ending->World->Prop}(h:Calls P f args w R):CallsIn (GF ro) n P f args w R:=by
 have h':=callsIn_wide (n:=n).2 h;cases ro with
 |none=>exact h'
 |some l=>exact h'
theorem roundIn_GF{ro:Option Nat}{n:Nat}{P:Program}{l:Nat}{f:FuncId}{tmps:Array Value}{x y:Code}{w:World}{R:Ending->World->Prop}(h:RoundIn Fence.wide n P l f tmps x y w R):RoundIn (GF ro) n P l f tmps x y w R:=by
 cases ro with
 |none=>exact h
 |some l=>exact h
def iK(ρ:aO)(v:AV)(e:Ending):Prop:=
 match v with
 | .dP u=>∃x,e=.panicked [{v:=x,recovered:=false}]/\ah ρ u x
 |v=>∃x,e=.returned x/\ah ρ v x
theorem iK.of{ρ:aO}{v:AV}{x:Value}(h:ah ρ v x):iK ρ v (.returned x):=by
 cases v<;>first|exact⟨x,rfl,h⟩|(simp only[ah]at h)
theorem iK.cases{ρ:aO}{v:AV}{e:Ending}(h:iK ρ v e):((∀u,v≠.dP u)/\∃x,e=.returned x/\ah ρ v x)\/∃u x,v=.dP u/\e=.panicked [{v:=x,recovered:=false}]/\ah ρ u x:=by
 cases v
 case dP u=>obtain⟨x,e1,e2⟩:=h;exact .inr ⟨u,x,rfl,e1,e2⟩
 all_goals exact .inl ⟨(by intro u e;cases e),h⟩
theorem wN{β:Type}{u:AV}{p:AV->β}{k:β}:rD (.dP u) p k=p u:=rfl
theorem wO{β:Type}{v:AV}{p:AV->β}{k:β}(h:∀u,v≠.dP u):rD v p k=k:=by
 cases v<;>first|rfl|exact absurd rfl (h _)
def qO(ρ:aO)(b:Bool)(v:AV)(e:Ending):Prop:=∃x,ah ρ v x/\e=cond b (.panicked [{v:=x,recovered:=false}]) (.returned x)
theorem qO.val{ρ:aO}{v:AV}{e:Ending}(h:qO ρ false v e):∃x,e=.returned x/\ah ρ v x:=let ⟨x,a,b⟩:=h;⟨x,b,a⟩
theorem qO.dP{ρ:aO}{v:AV}{e:Ending}(h:qO ρ true v e):∃x,e=.panicked [{v:=x,recovered:=false}]/\ah ρ v x:=let ⟨x,a,b⟩:=h;⟨x,b,a⟩
theorem qO.of{ρ:aO}{v:AV}{x:Value}(h:ah ρ v x):qO ρ false v (.returned x):=⟨x,h,rfl⟩
theorem qO.ofPan{ρ:aO}{v:AV}{x:Value}(h:ah ρ v x):qO ρ true v (.panicked [{v:=x,recovered:=false}]):=⟨x,h,rfl⟩
theorem DL{Λ:LB}{ρ:aO}{S:AS}{w:World}{fZ:Ending->World->Prop}{r:av (AV×AS)}(h:(av.bind r retR).jK fun r=>∀ρ' e w',qO ρ' r.1 r.2.1 e->R Λ ρ' r.2.2 w'->Kp ρ S w ρ' r.2.2 w'->fZ e w'):
  r.jK fun r=>∀ρ' e w',iK ρ' r.1 e->R Λ ρ' r.2 w'->Kp ρ S w ρ' r.2 w'->fZ e w':=by
 refine (av.all_bind h).mono fun q hq ρ' e w' h0 h1 h2=>?_;unfold retR at hq;rcases h0.cases with⟨hnp,x,rfl,hx⟩|⟨u,x,hu,rfl,hx⟩
 .rw[wO hnp]at hq;exact hq.1 ρ' _ w' (qO.of hx) h1 h2
 .rw[hu,wN]at hq;exact hq.1 ρ' _ w' (qO.ofPan hx) h1 h2
def TgtOk(P:Program)(ρ:aO)(args:Array Value)(w:World)(fZ:Ending->World->Prop):Tgt->Prop
 | .fn f=>(∃fn,P.funcs[f]?=some fn/\fn.body.isSome=true)/\Calls P f args w fZ
 | .round id=>∀pl,ρ id 0=some pl->∃fn tmps x y,(Instr.yield pl.b args).run P w=.ok (.round pl.b fn tmps x y) w/\RoundIn Fence.wide 0 P pl.b fn tmps x y w fZ
def yh(Λ:LB)(P:Program)(K:eW):Prop:=
 ∀(ρ:aO)(t:Tgt)(as:List AV)(S:AS)(w:World)(args:Array Value)(fZ:Ending->World->Prop),
  (K t as S).jK (fun r=>∀ρ' e w',iK ρ' r.1 e->R Λ ρ' r.2 w'->Kp ρ S w ρ' r.2 w'->fZ e w')->R Λ ρ S w->au ρ as args.toList->TgtOk P ρ args w fZ t
def EndP(next:Act->World->Prop)(Q:Exit->Act->World->Prop)(a:Act)(dst:Option Tmp):Ending->World->Prop
 | .returned x,w=>next (a.put dst x) w
 | .panicked ch,w=>Q (.panic ch) a w
 | .outgrown,_=>False
theorem getD_bool{a:Act}{d:Nat}{b:Bool}(h:a.tmps.getD d undef=.bool b):a.tmps[d]?=some (.bool b):=by
 rw[Array.getD_eq_getD_getElem?]at h;cases hd:a.tmps[d]? with
 |none=>rw[hd]at h;cases h
 |some x=>rw[hd]at h;simp at h;rw[h]
theorem mC{ρ:aO}{F:Fr}{a:Act}(hF:dT ρ F a){ops:Array Oper}{o:Oper}{b:Bool}(h:wanted ops.toList F o=some b):
  Region.wanted o (yielded ops a.tmps)=b:=by
 unfold wanted at h;unfold Region.wanted;cases hg:o.guard with
 |none=>simp only[hg,Option.some.injEq]at h;simpa[hg]using h
 |some jw=>
  obtain⟨j,want⟩:=jw;simp only[hg]at h⊢;rw[iw]at h;unfold yielded;rw[Array.getElem?_toList]at h;cases hj:ops[j]? with
  |none=>simp only[hj,Option.some.injEq]at h;subst h;rfl
  |some p=>
   simp only[hj]at h;cases hd:p.dst with
   |none=>simp only[hd,Option.some.injEq]at h;subst h;simp[hd]
   |some d=>
    simp only[hd]at h;have hs:=hF.slot d;simp only[Option.bind_some,hd];cases hv:F.t.get d with
    |none=>
     rw[hv]at hs h;simp only[Option.some.injEq]at h;subst h;simp only[AV.undef,ah]at hs;obtain⟨x,hx,_⟩:=hs;cases hm:a.tmps[d]? with
     |none=>rfl
     |some y=>
      rw[Array.getD_eq_getD_getElem?,hm]at hx;simp at hx;subst hx;rfl
    |some v=>
     rw[hv]at hs h;simp only[]at hs;have cS:(∀c,a.tmps.getD d undef≠Value.bool c)->∀c,a.tmps[d]?≠some (.bool c):=by
      intro cS c hc;exact absurd (by rw[Array.getD_eq_getD_getElem?,hc];rfl) (cS c)
     cases v<;>simp only[Option.some.injEq,reduceCtorEq]at h<;>(try simp only[ah]at hs)
     case bool c=>
      rw[getD_bool hs];subst h;cases want<;>cases c<;>rfl
     all_goals
      subst h;have hn2:∀c,a.tmps[d]?≠some (.bool c):=by
       refine cS fun c hc=>?_;rw[hc]at hs
       first
        |(cases hs;done)
        |(obtain⟨_,hh,_⟩:=hs;cases hh;done)
        |(rename_i k _;obtain⟨_,_,hh⟩:=hs;cases k<;>cases hh;done)
        |(obtain⟨_,_,hh⟩:=hs;cases hh;done)
        |(obtain⟨_,_,_,hh⟩:=hs;cases hh;done)
        |(obtain⟨_,_,hh,_⟩:=hs;cases hh;done)
        |(obtain⟨_,_,_,_,_,_,_,hh⟩:=hs;rcases hh with⟨hh,_⟩|⟨_,_,_,_,hh⟩<;>cases hh)
      cases hm:a.tmps[d]? with
      |none=>rfl
      |some y=>cases y with
       |bool c=>exact absurd hm (hn2 c)
       |_=>rfl
theorem Br{P:Program}{cx:Cx}{ro:Option Nat}(aC:dq Λ P cx){K:eW}(hK:yh Λ P K){ρ:aO}{F:Fr}{S:AS}{w:World}{a:Act}(hR:R Λ ρ S w)(hF:dT ρ F a)
  {ops:Array Oper} {i:Nat} {o:Oper} (hi:ops[i]?=some o) {next:Act->World->Prop} {Q:Exit->Act->World->Prop}
  (h:(one cx K ops.toList o F S).jK fun r=>∀ρ' e w',qO ρ' r.1 r.2.1 e->R Λ ρ' r.2.2 w'->Kp ρ S w ρ' r.2.2 w'->EndP next Q a o.dst e w') :
  wpOpIn (GF ro) 0 P ops Q i next a w:=by
 unfold wpOpIn;simp only[hi];unfold one at h;cases hw:wanted ops.toList F o with
 |none=>rw[hw]at h;exact h.elim
 |some b=>
  rw[hw]at h;rw[mC hF hw];have ha:∀f,o.about P w a.eval=some f->(GF ro).fn f:=fun f _=>AK ro f;cases b with
  |false=>
   simp only[Bool.false_eq_true,if_false];exact⟨ha,h.1 ρ _ w (qO.of (ez ρ)) hR (Kp.refl _ _ _)⟩
  |true=>
   simp only[if_true];refine⟨ha,?_⟩;simp only[]at h;have BN:∀c,o.op≠.defer c:=by
    intro c e;have mo:bj cx F S o=.err 99:=by simp only[bj,e]
    rw[mo]at h;exact h
   rw[Oper.semAt_eq _ _ _ BN];have val:∀(v:AV)(S':AS),cz Λ P ρ S w (execOp a.eval o) v S'->(∀ρ' e w',qO ρ' false v e->R Λ ρ' S' w'->Kp ρ S w ρ' S' w'->EndP next Q a o.dst e w') ->
     o.uponIn (GF ro) 0 P a next Q ((execOp a.eval o).run P w):=by
    rintro v S' ⟨nx,x,ρ',w',r1,r2,r3,r4,r5⟩ h1;have hn:=h1 ρ' (.returned x) w' (qO.of r3) r4 r5;rw[r1];cases nx<;>simp only[Bz,Option.some.injEq,reduceCtorEq]at r2
    .subst r2;exact hn
    .subst r2;exact hn
   cases mo:bj cx F S o with
   |err n=>rw[mo]at h;exact h.elim
   |val v S'=>
    rw[mo]at h;exact val v S' (AA aC hR hF mo) h.1
   |enter f as S'=>
    rw[mo]at h;obtain⟨rfl,args,e1,e2⟩:=aop_enter (P:=P) hF mo;obtain⟨⟨fn,EI,hbody⟩,xy⟩:=hK ρ (.fn f) as S' w args _ (DL h) hR e2;rw[e1,aC.enters f fn EI hbody args w];refine⟨fun hd=>yi ro hd,xQ (xy.mono fun e w' he=>?_)⟩;cases e with
    |returned x=>exact he
    |panicked ch=>exact he
    |outgrown=>exact (he:False).elim
   |round id as S'=>
    rw[mo]at h;obtain⟨rfl,pl,args,p1,e1,e2⟩:=aop_round (P:=P) hF mo;obtain⟨fn,tmps,x,y,r1,r2⟩:=hK ρ (.round id) as S' w args _ (DL h) hR e2 pl p1;rw[e1,r1];refine⟨fun hd=>yi ro hd,roundIn_GF (r2.mono fun e w' he=>?_)⟩;cases e with
    |returned x=>exact he
    |panicked ch=>exact he
    |outgrown=>exact (he:False).elim
   |dP v S'=>
    rw[mo]at h;obtain⟨rfl,_,x,r1,r2⟩:=aop_pan (P:=P) (w:=w) hF mo;rw[r1];exact h.1 ρ (.panicked [{v:=x,recovered:=false}]) w (qO.ofPan r2) hR (Kp.refl _ _ _)
   |many l=>
    rw[mo]at h;cases l with
    |nil=>exact h.elim
    |cons y ys=>
     obtain⟨r,hr,hs⟩:=FQ (P:=P) hR hF mo (by simp);refine val r.1 r.2 hs ?_;cases hr with
     |head=>exact h.1
     |tail _ hr=>exact h.2 (valR r) (List.mem_map.2 ⟨r,hr,rfl⟩)
def ExTo(ρ:aO):Ex->Exit->Prop
 | .normal,e=>e=.normal
 | .exit id,e=>e=.exit id
 | .ret,e=>e=.ret
 | .goto l,e=>e=.goto l
 | .dP v,e=>∃x,e=.panic [{v:=x,recovered:=false}]/\ah ρ v x
def exOf:Option AV->Ex
 |none=>.normal
 |some v=>.dP v
theorem deferV_run{P:Program}{ρ:aO}{F:Fr}{a:Act}(hF:dT ρ F a){c:Call}{d:sa}(h:gM F c=some d)(ty:TypeId):∃d',(∀w:World,(resolve a.eval c ty).run P w=.ok d' w)/\DRel ρ d d':=by
 unfold gM at h;obtain⟨callee,xs,mr⟩:=c;cases callee with
 |builtin b=>cases h
 |invoke r m=>cases h
 |value f=>
  simp only[]at h;split at h
  .rename_i g first captured he
   cases h;have hf:=hF.eval f;rw[he]at hf;simp only[ah]at hf;obtain⟨p,q,e,hp,hq⟩:=hf;refine⟨⟨.fn (.func g) q,p++xs.map a.eval⟩,fun w=>?_,q,rfl,?_,hq⟩
   .simp only[resolve,e,Deferred.ofValue];rfl
   .rw[bz,Array.toList_append];exact hp.append (lK hF xs)
  .cases h
theorem BF{o:Oper}{c:Call}(h:cM o=some c):o.op=.defer c:=by
 unfold cM at h;split at h
 .cases h;assumption
 .cases h
theorem runOps_wp{P:Program}{cx:Cx}{ro:Option Nat}(aC:dq Λ P cx){K:eW}(hK:yh Λ P K){ops:Array Oper}(hro:ro=none\/D8 ops.toList=true){Q:Exit->Act->World->Prop}:
  ∀(l:List Oper)(i:Nat)(ρ:aO)(F:Fr)(S:AS)(w:World)(a:Act),ops.toList.drop i=l->R Λ ρ S w->dT ρ F a ->
  (cY cx K ops.toList l F S).jK (fun r=>∀ρ' e a' w',ExTo ρ' (exOf r.1) e->R Λ ρ' r.2.2 w'->dT ρ' r.2.1 a'->Kp ρ S w ρ' r.2.2 w'->Q e a' w') ->
  wpOpsIn (GF ro) 0 P ops Q (List.range' i l.length) a w:=by
 intro l
 induction l with
 |nil=>intro i ρ F S w a _ hR hF h;exact h.1 ρ _ a w rfl hR hF (Kp.refl _ _ _)
 |cons o l ih=>
  intro i ρ F S w a hd hR hF h;have hio:ops[i]?=some o:=by
   rw[<-Array.getElem?_toList];have:(ops.toList.drop i)[0]?=some o:=by rw[hd];rfl
   rwa [List.getElem?_drop,Nat.add_zero]at this
  have xw:ops.toList.drop (i+1)=l:=by
   rw[<-List.drop_drop,hd];rfl
  rw[List.length_cons,List.range'_succ,wpOpsIn_cons];have vI:cY cx K ops.toList (o::l) F S=(match cM o with
   |none=>av.bind (one cx K ops.toList o F S) fun r=>cond r.1 (.ok (some r.2.1,F,r.2.2) []) (cY cx K ops.toList l (bG F o.dst r.2.1) r.2.2)
   |some c=>match wanted ops.toList F o with
    |some true=>match gM F c with
     |some d=>cY cx K ops.toList l (bG ⟨F.t,F.n,d::F.ds⟩ o.dst .undef) S
     |none=>.err 1009
    |some false=>cY cx K ops.toList l (bG F o.dst .undef) S
    |none=>.err 1010):=rfl
  rw[vI]at h;cases BT:cM o with
  |none=>
   rw[BT]at h;refine Br aC hK hR hF hio ?_;refine (av.all_bind h).mono fun r hr ρ' e w' hv hR' hk=>?_;obtain⟨b,v,S'⟩:=r;cases b with
   |false=>
    obtain⟨x,rfl,hx⟩:=hv.val;exact ih (i+1) ρ' _ _ w' _ xw hR' ((hF.mono hk.ext).put o.dst hx) (hr.mono fun q hq ρ'' e a' vY h0 h1 h2 h3=>hq ρ'' e a' vY h0 h1 h2 (hk.trans h3))
   |true=>
    obtain⟨x,rfl,hx⟩:=hv.dP;exact hr.1 ρ' _ a w' ⟨x,rfl,hx⟩ hR' (hF.mono hk.ext) hk
  |some c=>
   rw[BT]at h;simp only[]at h;have mo:=BF BT;rcases hro with rfl|hp
   .unfold wpOpIn;simp only[hio];cases hw:wanted ops.toList F o with
    |none=>rw[hw]at h;exact h.elim
    |some b=>
     rw[hw]at h;rw[mC hF hw];cases b with
     |false=>
      simp only[Bool.false_eq_true,if_false];exact⟨fun f _=>AK none f,ih (i+1) ρ _ _ w _ xw hR (hF.put o.dst (ez ρ)) h⟩
     |true=>
      simp only[if_true];refine⟨fun f _=>AK none f,?_⟩;simp only[]at h;cases hdv:gM F c with
      |none=>rw[hdv]at h;exact h.elim
      |some d=>
       rw[hdv]at h;obtain⟨d',r1,r2⟩:=deferV_run (P:=P) hF hdv o.type;have oB:(execOp a.eval o).run P w=.ok (.defer d') w:=by
        unfold execOp;rw[mo];simp only[Sem.run_bind,r1,Result.andThen_ok,Sem.run_pure]
       show o.uponIn (GF none) 0 P a _ Q ((execOp a.eval o).run P w);rw[oB];have hF2:dT ρ ⟨F.t,F.n,d::F.ds⟩ {a with defers:=d'::a.defers}:=⟨hF.slot,hF.size,d',a.defers,rfl,r2,hF.defers⟩
       exact ih (i+1) ρ _ _ w _ xw hR (hF2.put o.dst (ez ρ)) h
   .exfalso;have hm:o∈ops.toList:=List.mem_of_getElem? (by rw[Array.getElem?_toList];exact hio);have:=List.all_eq_true.1 hp o hm;rw[mo]at this;cases this
end Go.Am
