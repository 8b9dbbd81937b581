/-
  The abstract machine against the model: operations in a row.
-/
import Derived.Test.YtdknlbnljfdhgaaGreatDoorAmSound
import Derived.LoopN
import Derived.OrdersIn
import Derived.RangeFuncIn
import Derived.RangeFuncRecord
open Option.some renaming injEq->zza
open Array renaming getD_eq_getD_getElem?->zzb,getElem?_toList->zzc
namespace Go.Am
open Go
variable{Λ:LB}
def az.kQ{α:Type}(r:az α)(p:α->Prop):Prop:=
 match r with
 | .err _=>False
 | .ok x xs=>p x/\∀y,y∈xs->p y
theorem az.kQ.mono{α:Type}{r:az α}{p q:α->Prop}(h:r.kQ p)(hq:∀x,p x->q x):r.kQ q:=by
 cases r with
 |err n=>exact h
 |ok x xs=>exact⟨hq x h.1,fun y hy=>hq y (h.2 y hy)⟩
theorem az.NV{α:Type}{a b:az α}{p:α->Prop}(h:(az.app a b).kQ p):a.kQ p/\b.kQ p:=by
 cases a with
 |err n=>exact h.elim
 |ok x xs=>
  cases b with
  |err n=>exact h.elim
  |ok y ys=>
   obtain⟨h1,h2⟩:=h;simp only[bJ]at h2;exact⟨⟨h1,fun z hz=>h2 z (List.mem_append_left _ hz)⟩,⟨h2 y (by simp),fun z hz=>h2 z (by simp[hz])⟩⟩
theorem az.all_bind{α β:Type}{r:az α}{f:α->az β}{p:β->Prop}(h:(az.bind r f).kQ p):r.kQ fun x=>(f x).kQ p:=by
 cases r with
 |err n=>exact h.elim
 |ok x xs=>
  cases xs with
  |nil=>exact⟨h,fun y hy=>by cases hy⟩
  |cons y ys=>
   have h':(az.app (f x) (List.rec (motive:=fun _=>α->az β) (fun y=>f y) (fun z _ ih y=>az.app (f y) (ih z)) ys y)).kQ p:=h;obtain⟨h1,h2⟩:=az.NV h';refine⟨h1,?_⟩;clear h h' h1
   induction ys generalizing y with
   |nil=>
    intro z hz;simp at hz;subst hz;exact h2
   |cons z ys ih=>
    have h3:(az.app (f y) (List.rec (motive:=fun _=>α->az β) (fun y=>f y) (fun z _ ih y=>az.app (f y) (ih z)) ys z)).kQ p:=h2;obtain⟨h4,h5⟩:=az.NV h3;intro u hu;cases hu with
    |head=>exact h4
    |tail _ hu=>exact ih z h5 u hu
def GF(ro:Option Nat):Fence:=match ro with|none=>Fence.wide|some l=>Fence.wide.inRound l
theorem Dn(ro:Option Nat)(f:FuncId):(GF ro).fn f:=by cases ro<;>trivial
theorem N5(ro:Option Nat)(n:Nat):(GF ro).room n:=by cases ro<;>exact room_wide n
theorem I2(ro:Option Nat):(GF ro).round=ro:=by cases ro<;>rfl
theorem Bg(ro:Option Nat){p:Prop}(h:(GF ro).depth.isSome=true):p:=by cases ro<;>simp[GF,Fence.wide]at h
theorem AM{ro:Option Nat}{n:Nat}{P:Program}{f:FuncId}{args:Array Value}{w:World}{R:Ending->World->Prop}(h:Calls P f args w R):CallsIn (GF ro) n P f args w R:=by
 have h':=callsIn_wide (n:=n).2 h;cases ro with
 |none=>exact h'
 |some l=>exact h'
theorem JY{ro:Option Nat}{n:Nat}{P:Program}{l:Nat}{f:FuncId}{tmps:Array Value}{x y:Code}{w:World}{R:Ending->World->Prop}(h:RoundIn Fence.wide n P l f tmps x y w R):RoundIn (GF ro) n P l f tmps x y w R:=by
 cases ro with
 |none=>exact h
 |some l=>exact h
def jB(ρ:aY)(v:AV)(e:Ending):Prop:=
 match v with
 | .eO u=>∃x,e=.panicked [{v:=x,recovered:=false}]/\ai ρ u x
 |v=>∃x,e=.returned x/\ai ρ v x
theorem jB.of{ρ:aY}{v:AV}{x:Value}(h:ai ρ v x):jB ρ v (.returned x):=by
 cases v<;>first|exact⟨x,rfl,h⟩|(simp only[ai]at h)
theorem jB.cases{ρ:aY}{v:AV}{e:Ending}(h:jB ρ v e):((∀u,v≠.eO u)/\∃x,e=.returned x/\ai ρ v x)\/∃u x,v=.eO u/\e=.panicked [{v:=x,recovered:=false}]/\ai ρ u x:=by
 cases v
 case eO u=>obtain⟨x,e1,e2⟩:=h;exact .inr ⟨u,x,rfl,e1,e2⟩
 all_goals exact .inl ⟨(by intro u e;cases e),h⟩
theorem zG{β:Type}{u:AV}{p:AV->β}{k:β}:tJ (.eO u) p k=p u:=rfl
theorem zI{β:Type}{v:AV}{p:AV->β}{k:β}(h:∀u,v≠.eO u):tJ v p k=k:=by
 cases v<;>first|rfl|exact absurd rfl (h _)
def sW(ρ:aY)(b:Bool)(v:AV)(e:Ending):Prop:=∃x,ai ρ v x/\e=cond b (.panicked [{v:=x,recovered:=false}]) (.returned x)
theorem sW.val{ρ:aY}{v:AV}{e:Ending}(h:sW ρ false v e):∃x,e=.returned x/\ai ρ v x:=let ⟨x,a,b⟩:=h;⟨x,b,a⟩
theorem sW.eO{ρ:aY}{v:AV}{e:Ending}(h:sW ρ true v e):∃x,e=.panicked [{v:=x,recovered:=false}]/\ai ρ v x:=let ⟨x,a,b⟩:=h;⟨x,b,a⟩
theorem sW.of{ρ:aY}{v:AV}{x:Value}(h:ai ρ v x):sW ρ false v (.returned x):=⟨x,h,rfl⟩
theorem sW.jbu{ρ:aY}{v:AV}{x:Value}(h:ai ρ v x):sW ρ true v (.panicked [{v:=x,recovered:=false}]):=⟨x,h,rfl⟩
theorem GH{Λ:LB}{ρ:aY}{S:AS}{w:World}{ij:Ending->World->Prop}{r:az (AV×AS)}(h:(az.bind r St).kQ fun r=>∀ρ' e w',sW ρ' r.1 r.2.1 e->R Λ ρ' r.2.2 w'->Kp ρ S w ρ' r.2.2 w'->ij e w'):
  r.kQ fun r=>∀ρ' e w',jB ρ' r.1 e->R Λ ρ' r.2 w'->Kp ρ S w ρ' r.2 w'->ij e w':=by
 refine (az.all_bind h).mono fun q hq ρ' e w' h0 h1 h2=>?_;unfold St at hq;rcases h0.cases with⟨hnp,x,rfl,hx⟩|⟨u,x,hu,rfl,hx⟩
 .rw[zI hnp]at hq;exact hq.1 ρ' _ w' (sW.of hx) h1 h2
 .rw[hu,zG]at hq;exact hq.1 ρ' _ w' (sW.jbu hx) h1 h2
def N2(P:Program)(ρ:aY)(args:Array Value)(w:World)(ij:Ending->World->Prop):Tgt->Prop
 | .fn f=>(∃fn,P.funcs[f]?=some fn/\fn.body.isSome=true)/\Calls P f args w ij
 | .round id=>∀pl,ρ id 0=some pl->∃fn tmps x y,(Instr.yield pl.b args).run P w=.ok (.round pl.b fn tmps x y) w/\RoundIn Fence.wide 0 P pl.b fn tmps x y w ij
def Bf(Λ:LB)(P:Program)(K:fK):Prop:=
 ∀(ρ:aY)(t:Tgt)(as:List AV)(S:AS)(w:World)(args:Array Value)(ij:Ending->World->Prop),
  (K t as S).kQ (fun r=>∀ρ' e w',jB ρ' r.1 e->R Λ ρ' r.2 w'->Kp ρ S w ρ' r.2 w'->ij e w')->R Λ ρ S w->ay ρ as args.toList->N2 P ρ args w ij t
def jlu(nx:Act->World->Prop)(Q:Exit->Act->World->Prop)(a:Act)(dst:Option Tmp):Ending->World->Prop
 | .returned x,w=>nx (a.put dst x) w
 | .panicked ch,w=>Q (.panic ch) a w
 | .outgrown,_=>False
theorem Qd{a:Act}{d:Nat}{b:Bool}(h:a.tmps.getD d undef=.bool b):a.tmps[d]?=some (.bool b):=by
 rw[zzb]at h;cases hd:a.tmps[d]? with
 |none=>rw[hd]at h;cases h
 |some x=>rw[hd]at h;simp at h;rw[h]
theorem nX{ρ:aY}{F:Fr}{a:Act}(hF:eY ρ F a){ops:Array Oper}{o:Oper}{b:Bool}(h:wanted ops.toList F o=some b):
  Region.wanted o (yielded ops a.tmps)=b:=by
 unfold wanted at h;unfold Region.wanted;cases hg:o.guard with
 |none=>simp only[hg,zza]at h;simpa[hg]using h
 |some jw=>
  obtain⟨j,want⟩:=jw;simp only[hg]at h⊢;rw[ji]at h;unfold yielded;rw[zzc]at h;cases hj:ops[j]? with
  |none=>simp only[hj,zza]at h;subst h;rfl
  |some p=>
   simp only[hj]at h;cases hd:p.dst with
   |none=>simp only[hd,zza]at h;subst h;simp[hd]
   |some d=>
    simp only[hd]at h;have hs:=hF.slot d;simp only[Option.bind_some,hd];cases hv:F.t.get d with
    |none=>
     rw[hv]at hs h;simp only[zza]at h;subst h;simp only[AV.undef,ai]at hs;obtain⟨x,hx,_⟩:=hs;cases hm:a.tmps[d]? with
     |none=>rfl
     |some y=>
      rw[zzb,hm]at hx;simp at hx;subst hx;rfl
    |some v=>
     rw[hv]at hs h;simp only[]at hs;have ct:(∀c,a.tmps.getD d undef≠Value.bool c)->∀c,a.tmps[d]?≠some (.bool c):=by
      intro ct c hc;exact absurd (by rw[zzb,hc];rfl) (ct c)
     cases v<;>simp only[zza,reduceCtorEq]at h<;>(try simp only[ai]at hs)
     case bool c=>
      rw[Qd hs];subst h;cases want<;>cases c<;>rfl
     all_goals
      subst h;have hn2:∀c,a.tmps[d]?≠some (.bool c):=by
       refine ct fun c hc=>?_;rw[hc]at hs
       first
        |(cases hs;done)
        |(obtain⟨_,hh,_⟩:=hs;cases hh;done)
        |(rename_i k _;obtain⟨_,_,hh⟩:=hs;cases k<;>cases hh;done)
        |(obtain⟨_,_,hh⟩:=hs;cases hh;done)
        |(obtain⟨_,_,_,hh⟩:=hs;cases hh;done)
        |(obtain⟨_,_,hh,_⟩:=hs;cases hh;done)
        |(obtain⟨_,_,_,_,_,_,_,hh⟩:=hs;rcases hh with⟨hh,_⟩|⟨_,_,_,_,hh⟩<;>cases hh)
      cases hm:a.tmps[d]? with
      |none=>rfl
      |some y=>cases y with
       |bool c=>exact absurd hm (hn2 c)
       |_=>rfl
theorem DQ{P:Program}{cx:Cx}{ro:Option Nat}(aF:dQ Λ P cx){K:fK}(hK:Bf Λ P K){ρ:aY}{F:Fr}{S:AS}{w:World}{a:Act}(hR:R Λ ρ S w)(hF:eY ρ F a)
  {ops:Array Oper} {i:Nat} {o:Oper} (hi:ops[i]?=some o) {nx:Act->World->Prop} {Q:Exit->Act->World->Prop}
  (h:(one cx K ops.toList o F S).kQ fun r=>∀ρ' e w',sW ρ' r.1 r.2.1 e->R Λ ρ' r.2.2 w'->Kp ρ S w ρ' r.2.2 w'->jlu nx Q a o.dst e w') :
  wpOpIn (GF ro) 0 P ops Q i nx a w:=by
 unfold wpOpIn;simp only[hi];unfold one at h;cases hw:wanted ops.toList F o with
 |none=>rw[hw]at h;exact h.elim
 |some b=>
  rw[hw]at h;rw[nX hF hw];have ha:∀f,o.about P w a.eval=some f->(GF ro).fn f:=fun f _=>Dn ro f;cases b with
  |false=>
   simp only[Bool.false_eq_true,if_false];exact⟨ha,h.1 ρ _ w (sW.of (fm ρ)) hR (Kp.refl _ _ _)⟩
  |true=>
   simp only[if_true];refine⟨ha,?_⟩;simp only[]at h;have BO:∀c,o.op≠.defer c:=by
    intro c e;have jR:bF cx F S o=.err 99:=by simp only[bF,e]
    rw[jR]at h;exact h
   rw[Oper.semAt_eq _ _ _ BO];have val:∀(v:AV)(S':AS),cU Λ P ρ S w (execOp a.eval o) v S'->(∀ρ' e w',sW ρ' false v e->R Λ ρ' S' w'->Kp ρ S w ρ' S' w'->jlu nx Q a o.dst e w') ->
     o.uponIn (GF ro) 0 P a nx Q ((execOp a.eval o).run P w):=by
    rintro v S' ⟨nx,x,ρ',w',r1,r2,r3,r4,r5⟩ h1;have hn:=h1 ρ' (.returned x) w' (sW.of r3) r4 r5;rw[r1];cases nx<;>simp only[DY,zza,reduceCtorEq]at r2
    .subst r2;exact hn
    .subst r2;exact hn
   cases jR:bF cx F S o with
   |err n=>rw[jR]at h;exact h.elim
   |val v S'=>
    rw[jR]at h;exact val v S' (Df aF hR hF jR) h.1
   |enter f as S'=>
    rw[jR]at h;obtain⟨rfl,args,e1,e2⟩:=Q2 (P:=P) hF jR;obtain⟨⟨fn,Hz,jbL⟩,Ao⟩:=hK ρ (.fn f) as S' w args _ (GH h) hR e2;rw[e1,aF.enters f fn Hz jbL args w];refine⟨fun hd=>Bg ro hd,AM (Ao.mono fun e w' he=>?_)⟩;cases e with
    |returned x=>exact he
    |panicked ch=>exact he
    |outgrown=>exact (he:False).elim
   |round id as S'=>
    rw[jR]at h;obtain⟨rfl,pl,args,p1,e1,e2⟩:=QX (P:=P) hF jR;obtain⟨fn,tmps,x,y,r1,r2⟩:=hK ρ (.round id) as S' w args _ (GH h) hR e2 pl p1;rw[e1,r1];refine⟨fun hd=>Bg ro hd,JY (r2.mono fun e w' he=>?_)⟩;cases e with
    |returned x=>exact he
    |panicked ch=>exact he
    |outgrown=>exact (he:False).elim
   |eO v S'=>
    rw[jR]at h;obtain⟨rfl,_,x,r1,r2⟩:=NT (P:=P) (w:=w) hF jR;rw[r1];exact h.1 ρ (.panicked [{v:=x,recovered:=false}]) w (sW.jbu r2) hR (Kp.refl _ _ _)
   |many l=>
    rw[jR]at h;cases l with
    |nil=>exact h.elim
    |cons y ys=>
     obtain⟨r,hr,hs⟩:=IL (P:=P) hR hF jR (by simp);refine val r.1 r.2 hs ?_;cases hr with
     |head=>exact h.1
     |tail _ hr=>exact h.2 (XF r) (List.mem_map.2 ⟨r,hr,rfl⟩)
def W5(ρ:aY):Ex->Exit->Prop
 | .normal,e=>e=.normal
 | .exit id,e=>e=.exit id
 | .ret,e=>e=.ret
 | .goto l,e=>e=.goto l
 | .eO v,e=>∃x,e=.panic [{v:=x,recovered:=false}]/\ai ρ v x
def jkp:Option AV->Ex
 |none=>.normal
 |some v=>.eO v
theorem Lk{P:Program}{ρ:aY}{F:Fr}{a:Act}(hF:eY ρ F a){c:Call}{d:ur}(h:iM F c=some d)(ty:TypeId):∃d',(∀w:World,(resolve a.eval c ty).run P w=.ok d' w)/\W7 ρ d d':=by
 unfold iM at h;obtain⟨callee,xs,nN⟩:=c;cases callee with
 |builtin b=>cases h
 |invoke r m=>cases h
 |value f=>
  simp only[]at h;split at h
  .rename_i g first captured he
   cases h;have hf:=hF.eval f;rw[he]at hf;simp only[ai]at hf;obtain⟨p,q,e,hp,hq⟩:=hf;refine⟨⟨.fn (.func g) q,p++xs.map a.eval⟩,fun w=>?_,q,rfl,?_,hq⟩
   .simp only[resolve,e,Deferred.ofValue];rfl
   .rw[bJ,Array.toList_append];exact hp.append (mW hF xs)
  .cases h
theorem Ee{o:Oper}{c:Call}(h:dc o=some c):o.op=.defer c:=by
 unfold dc at h;split at h
 .cases h;assumption
 .cases h
theorem OS{P:Program}{cx:Cx}{ro:Option Nat}(aF:dQ Λ P cx){K:fK}(hK:Bf Λ P K){ops:Array Oper}(M0:ro=none\/GX ops.toList=true){Q:Exit->Act->World->Prop}:
  ∀(l:List Oper)(i:Nat)(ρ:aY)(F:Fr)(S:AS)(w:World)(a:Act),ops.toList.drop i=l->R Λ ρ S w->eY ρ F a ->
  (dz cx K ops.toList l F S).kQ (fun r=>∀ρ' e a' w',W5 ρ' (jkp r.1) e->R Λ ρ' r.2.2 w'->eY ρ' r.2.1 a'->Kp ρ S w ρ' r.2.2 w'->Q e a' w') ->
  wpOpsIn (GF ro) 0 P ops Q (List.range' i l.length) a w:=by
 intro l
 induction l with
 |nil=>intro i ρ F S w a _ hR hF h;exact h.1 ρ _ a w rfl hR hF (Kp.refl _ _ _)
 |cons o l ih=>
  intro i ρ F S w a hd hR hF h;have Rs:ops[i]?=some o:=by
   rw[<-zzc];have:(ops.toList.drop i)[0]?=some o:=by rw[hd];rfl
   rwa [List.getElem?_drop,Nat.add_zero]at this
  have Al:ops.toList.drop (i+1)=l:=by
   rw[<-List.drop_drop,hd];rfl
  rw[List.length_cons,List.range'_succ,wpOpsIn_cons];have yB:dz cx K ops.toList (o::l) F S=(match dc o with
   |none=>az.bind (one cx K ops.toList o F S) fun r=>cond r.1 (.ok (some r.2.1,F,r.2.2) []) (dz cx K ops.toList l (bQ F o.dst r.2.1) r.2.2)
   |some c=>match wanted ops.toList F o with
    |some true=>match iM F c with
     |some d=>dz cx K ops.toList l (bQ ⟨F.t,F.n,d::F.ds⟩ o.dst .undef) S
     |none=>.err 1009
    |some false=>dz cx K ops.toList l (bQ F o.dst .undef) S
    |none=>.err 1010):=rfl
  rw[yB]at h;cases Et:dc o with
  |none=>
   rw[Et]at h;refine DQ aF hK hR hF Rs ?_;refine (az.all_bind h).mono fun r hr ρ' e w' hv hR' hk=>?_;obtain⟨b,v,S'⟩:=r;cases b with
   |false=>
    obtain⟨x,rfl,hx⟩:=hv.val;exact ih (i+1) ρ' _ _ w' _ Al hR' ((hF.mono hk.ext).put o.dst hx) (hr.mono fun q hq ρ'' e a' yO h0 h1 h2 h3=>hq ρ'' e a' yO h0 h1 h2 (hk.trans h3))
   |true=>
    obtain⟨x,rfl,hx⟩:=hv.eO;exact hr.1 ρ' _ a w' ⟨x,rfl,hx⟩ hR' (hF.mono hk.ext) hk
  |some c=>
   rw[Et]at h;simp only[]at h;have jR:=Ee Et;rcases M0 with rfl|hp
   .unfold wpOpIn;simp only[Rs];cases hw:wanted ops.toList F o with
    |none=>rw[hw]at h;exact h.elim
    |some b=>
     rw[hw]at h;rw[nX hF hw];cases b with
     |false=>
      simp only[Bool.false_eq_true,if_false];exact⟨fun f _=>Dn none f,ih (i+1) ρ _ _ w _ Al hR (hF.put o.dst (fm ρ)) h⟩
     |true=>
      simp only[if_true];refine⟨fun f _=>Dn none f,?_⟩;simp only[]at h;cases hdv:iM F c with
      |none=>rw[hdv]at h;exact h.elim
      |some d=>
       rw[hdv]at h;obtain⟨d',r1,r2⟩:=Lk (P:=P) hF hdv o.type;have qv:(execOp a.eval o).run P w=.ok (.defer d') w:=by
        unfold execOp;rw[jR];simp only[Sem.run_bind,r1,Result.andThen_ok,Sem.run_pure]
       show o.uponIn (GF none) 0 P a _ Q ((execOp a.eval o).run P w);rw[qv];have hF2:eY ρ ⟨F.t,F.n,d::F.ds⟩ {a with defers:=d'::a.defers}:=⟨hF.slot,hF.size,d',a.defers,rfl,r2,hF.defers⟩
       exact ih (i+1) ρ _ _ w _ Al hR (hF2.put o.dst (fm ρ)) h
   .exfalso;have hm:o∈ops.toList:=List.mem_of_getElem? (by rw[zzc];exact Rs);have:=List.all_eq_true.1 hp o hm;rw[jR]at this;cases this
end Go.Am
