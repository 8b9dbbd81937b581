/-
  The abstract machine against the model: operations in a row.
-/
import Derived.Test.YthklfandhmkpiaaGreatDoorAmRange
import Derived.LoopN
import Derived.OrdersIn
import Derived.RangeFuncIn
import Derived.RangeFuncRecord
import Derived.LoopNIn
import Derived.RecoverIn
import Derived.RangeFuncLeaves
open Option.some renaming injEq->zza
open Array renaming getD_eq_getD_getElem?->zzb,getElem?_toList->zzd,replicate->zzg
open Go.Result renaming andThen_ok->zzc
open Go.Sem renaming run_bind->zze,run_pure->zzf
open Bool renaming false_eq_true->zzh
namespace Go.Am
open Go
variable{Λ:LB}
def aC.iQ{α:Type}(r:aC α)(p:α->Prop):Prop:=
 match r with
 | .err _=>False
 | .ok x xs=>p x/\∀y,y∈xs->p y
theorem aC.iQ.mono{α:Type}{r:aC α}{p q:α->Prop}(h:r.iQ p)(hq:∀x,p x->q x):r.iQ q:=by
 cases r with
 |err n=>exact h
 |ok x xs=>exact⟨hq x h.1,fun y hy=>hq y (h.2 y hy)⟩
theorem aC.all_app{α:Type}{a b:aC α}{p:α->Prop}(h:(aC.app a b).iQ p):a.iQ p/\b.iQ p:=by
 cases a with
 |err n=>exact h.elim
 |ok x xs=>
  cases b with
  |err n=>exact h.elim
  |ok y ys=>
   obtain⟨h1,h2⟩:=h;simp only[cA]at h2;exact⟨⟨h1,fun z hz=>h2 z (List.mem_append_left _ hz)⟩,⟨h2 y (by simp),fun z hz=>h2 z (by simp[hz])⟩⟩
theorem aC.all_bind{α β:Type}{r:aC α}{f:α->aC β}{p:β->Prop}(h:(aC.bind r f).iQ p):r.iQ fun x=>(f x).iQ p:=by
 cases r with
 |err n=>exact h.elim
 |ok x xs=>
  cases xs with
  |nil=>exact⟨h,fun y hy=>by cases hy⟩
  |cons y ys=>
   have h':(aC.app (f x) (List.rec (motive:=fun _=>α->aC β) (fun y=>f y) (fun z _ ih y=>aC.app (f y) (ih z)) ys y)).iQ p:=h;obtain⟨h1,h2⟩:=aC.all_app h';refine⟨h1,?_⟩;clear h h' h1
   induction ys generalizing y with
   |nil=>
    intro z hz;simp at hz;subst hz;exact h2
   |cons z ys ih=>
    have h3:(aC.app (f y) (List.rec (motive:=fun _=>α->aC β) (fun y=>f y) (fun z _ ih y=>aC.app (f y) (ih z)) ys z)).iQ p:=h2;obtain⟨h4,h5⟩:=aC.all_app h3;intro u hu;cases hu with
    |head=>exact h4
    |tail _ hu=>exact ih z h5 u hu
def GF(ro:Option Nat):Fence:=match ro with|none=>Fence.wide|some l=>Fence.wide.inRound l
theorem zL(ro:Option Nat)(f:FuncId):(GF ro).fn f:=by cases ro<;>trivial
theorem GF_room(ro:Option Nat)(n:Nat):(GF ro).room n:=by cases ro<;>exact room_wide n
theorem EL(ro:Option Nat):(GF ro).round=ro:=by cases ro<;>rfl
theorem wI(ro:Option Nat){p:Prop}(h:(GF ro).depth.isSome=true):p:=by cases ro<;>simp[GF,Fence.wide]at h
theorem v7{ro:Option Nat}{n:Nat}{P:Program}{f:FuncId}{args:Array Value}{w:World}{R:Ending->World->Prop}(h:Calls P f args w R):CallsIn (GF ro) n P f args w R:=by
 have h':=callsIn_wide (n:=n).2 h;cases ro with
 |none=>exact h'
 |some l=>exact h'
theorem FE{ro:Option Nat}{n:Nat}{P:Program}{l:Nat}{f:FuncId}{tmps:Array Value}{x y:Code}{w:World}{R:Ending->World->Prop}(h:RoundIn Fence.wide n P l f tmps x y w R):RoundIn (GF ro) n P l f tmps x y w R:=by
 cases ro with
 |none=>exact h
 |some l=>exact h
def hJ(ρ:bf)(v:AV)(e:Ending):Prop:=
 match v with
 | .eQ u=>∃x,e=.panicked [{v:=x,recovered:=false}]/\aq ρ u x
 |v=>∃x,e=.returned x/\aq ρ v x
theorem hJ.of{ρ:bf}{v:AV}{x:Value}(h:aq ρ v x):hJ ρ v (.returned x):=by
 cases v<;>first|exact⟨x,rfl,h⟩|(simp only[aq]at h)
theorem hJ.cases{ρ:bf}{v:AV}{e:Ending}(h:hJ ρ v e):((∀u,v≠.eQ u)/\∃x,e=.returned x/\aq ρ v x)\/∃u x,v=.eQ u/\e=.panicked [{v:=x,recovered:=false}]/\aq ρ u x:=by
 cases v
 case eQ u=>obtain⟨x,e1,e2⟩:=h;exact .inr ⟨u,x,rfl,e1,e2⟩
 all_goals exact .inl ⟨(by intro u e;cases e),h⟩
theorem vd{β:Type}{u:AV}{p:AV->β}{k:β}:mW (.eQ u) p k=p u:=rfl
theorem ve{β:Type}{v:AV}{p:AV->β}{k:β}(h:∀u,v≠.eQ u):mW v p k=k:=by
 cases v<;>first|rfl|exact absurd rfl (h _)
def pC(ρ:bf)(b:Bool)(v:AV)(e:Ending):Prop:=∃x,aq ρ v x/\e=cond b (.panicked [{v:=x,recovered:=false}]) (.returned x)
theorem pC.val{ρ:bf}{v:AV}{e:Ending}(h:pC ρ false v e):∃x,e=.returned x/\aq ρ v x:=let ⟨x,a,b⟩:=h;⟨x,b,a⟩
theorem pC.eQ{ρ:bf}{v:AV}{e:Ending}(h:pC ρ true v e):∃x,e=.panicked [{v:=x,recovered:=false}]/\aq ρ v x:=let ⟨x,a,b⟩:=h;⟨x,b,a⟩
theorem pC.of{ρ:bf}{v:AV}{x:Value}(h:aq ρ v x):pC ρ false v (.returned x):=⟨x,h,rfl⟩
theorem pC.ofPan{ρ:bf}{v:AV}{x:Value}(h:aq ρ v x):pC ρ true v (.panicked [{v:=x,recovered:=false}]):=⟨x,h,rfl⟩
theorem CA{Λ:LB}{ρ:bf}{S:AS}{w:World}{fS:Ending->World->Prop}{r:aC (AV×AS)}(h:(aC.bind r rU).iQ fun r=>∀ρ' e w',pC ρ' r.1 r.2.1 e->R Λ ρ' r.2.2 w'->Kp ρ S w ρ' r.2.2 w'->fS e w'):
  r.iQ fun r=>∀ρ' e w',hJ ρ' r.1 e->R Λ ρ' r.2 w'->Kp ρ S w ρ' r.2 w'->fS e w':=by
 refine (aC.all_bind h).mono fun q hq ρ' e w' h0 h1 h2=>?_;unfold rU at hq;rcases h0.cases with⟨hnp,x,rfl,hx⟩|⟨u,x,hu,rfl,hx⟩
 .rw[ve hnp]at hq;exact hq.1 ρ' _ w' (pC.of hx) h1 h2
 .rw[hu,vd]at hq;exact hq.1 ρ' _ w' (pC.ofPan hx) h1 h2
def TgtOk(P:Program)(ρ:bf)(args:Array Value)(w:World)(fS:Ending->World->Prop):Tgt->Prop
 | .fn f=>(∃fn,P.funcs[f]?=some fn/\fn.body.isSome=true)/\Calls P f args w fS
 | .round id=>∀pl,ρ id 0=some pl->∃fn tmps x y,(Instr.yield pl.b args).run P w=.ok (.round pl.b fn tmps x y) w/\RoundIn Fence.wide 0 P pl.b fn tmps x y w fS
def wH(Λ:LB)(P:Program)(K:bO):Prop:=
 ∀(ρ:bf)(t:Tgt)(as:List AV)(S:AS)(w:World)(args:Array Value)(fS:Ending->World->Prop),
  (K t as S).iQ (fun r=>∀ρ' e w',hJ ρ' r.1 e->R Λ ρ' r.2 w'->Kp ρ S w ρ' r.2 w'->fS e w')->R Λ ρ S w->aD ρ as args.toList->TgtOk P ρ args w fS t
def EndP(nx:Act->World->Prop)(Q:Exit->Act->World->Prop)(a:Act)(dst:Option Tmp):Ending->World->Prop
 | .returned x,w=>nx (a.put dst x) w
 | .panicked ch,w=>Q (.panic ch) a w
 | .outgrown,_=>False
theorem getD_bool{a:Act}{d:Nat}{b:Bool}(h:a.tmps.getD d undef=.bool b):a.tmps[d]?=some (.bool b):=by
 rw[zzb]at h;cases hd:a.tmps[d]? with
 |none=>rw[hd]at h;cases h
 |some x=>rw[hd]at h;simp at h;rw[h]
theorem lO{ρ:bf}{F:Fr}{a:Act}(hF:eA ρ F a){ops:Array Oper}{o:Oper}{b:Bool}(h:wanted ops.toList F o=some b):
  Region.wanted o (yielded ops a.tmps)=b:=by
 unfold wanted at h;unfold Region.wanted;cases hg:o.guard with
 |none=>simp only[hg,zza]at h;simpa[hg]using h
 |some jw=>
  obtain⟨j,want⟩:=jw;simp only[hg]at h⊢;rw[gq]at h;unfold yielded;rw[zzd]at h;cases hj:ops[j]? with
  |none=>simp only[hj,zza]at h;subst h;rfl
  |some p=>
   simp only[hj]at h;cases hd:p.dst with
   |none=>simp only[hd,zza]at h;subst h;simp[hd]
   |some d=>
    simp only[hd]at h;have hs:=hF.slot d;simp only[Option.bind_some,hd];cases hv:F.t.get d with
    |none=>
     rw[hv]at hs h;simp only[zza]at h;subst h;simp only[AV.undef,aq]at hs;obtain⟨x,hx,_⟩:=hs;cases hm:a.tmps[d]? with
     |none=>rfl
     |some y=>
      rw[zzb,hm]at hx;simp at hx;subst hx;rfl
    |some v=>
     rw[hv]at hs h;simp only[]at hs;have cl:(∀c,a.tmps.getD d undef≠Value.bool c)->∀c,a.tmps[d]?≠some (.bool c):=by
      intro cl c hc;exact absurd (by rw[zzb,hc];rfl) (cl c)
     cases v<;>simp only[zza,reduceCtorEq]at h<;>(try simp only[aq]at hs)
     case bool c=>
      rw[getD_bool hs];subst h;cases want<;>cases c<;>rfl
     all_goals
      subst h;have rK:∀c,a.tmps[d]?≠some (.bool c):=by
       refine cl fun c hc=>?_;rw[hc]at hs
       first
        |(cases hs;done)
        |(obtain⟨_,hh,_⟩:=hs;cases hh;done)
        |(rename_i k _;obtain⟨_,_,hh⟩:=hs;cases k<;>cases hh;done)
        |(obtain⟨_,_,hh⟩:=hs;cases hh;done)
        |(obtain⟨_,_,_,hh⟩:=hs;cases hh;done)
        |(obtain⟨_,_,hh,_⟩:=hs;cases hh;done)
        |(obtain⟨_,_,_,_,_,_,_,hh⟩:=hs;rcases hh with⟨hh,_⟩|⟨_,_,_,_,hh⟩<;>cases hh)
      cases hm:a.tmps[d]? with
      |none=>rfl
      |some y=>cases y with
       |bool c=>exact absurd hm (rK c)
       |_=>rfl
theorem Au{P:Program}{cx:Cx}{ro:Option Nat}(aI:cU Λ P cx){K:bO}(hK:wH Λ P K){ρ:bf}{F:Fr}{S:AS}{w:World}{a:Act}(hR:R Λ ρ S w)(hF:eA ρ F a)
  {ops:Array Oper} {i:Nat} {o:Oper} (hi:ops[i]?=some o) {nx:Act->World->Prop} {Q:Exit->Act->World->Prop}
  (h:(one cx K ops.toList o F S).iQ fun r=>∀ρ' e w',pC ρ' r.1 r.2.1 e->R Λ ρ' r.2.2 w'->Kp ρ S w ρ' r.2.2 w'->EndP nx Q a o.dst e w') :
  wpOpIn (GF ro) 0 P ops Q i nx a w:=by
 unfold wpOpIn;simp only[hi];unfold one at h;cases hw:wanted ops.toList F o with
 |none=>rw[hw]at h;exact h.elim
 |some b=>
  rw[hw]at h;rw[lO hF hw];have ha:∀f,o.about P w a.eval=some f->(GF ro).fn f:=fun f _=>zL ro f;cases b with
  |false=>
   simp only[zzh,if_false];exact⟨ha,h.1 ρ _ w (pC.of (eE ρ)) hR (Kp.refl _ _ _)⟩
  |true=>
   simp only[if_true];refine⟨ha,?_⟩;simp only[]at h;have zb:∀c,o.op≠.defer c:=by
    intro c e;have nN:bE cx F S o=.err 99:=by simp only[bE,e]
    rw[nN]at h;exact h
   rw[Oper.semAt_eq _ _ _ zb];have val:∀(v:AV)(S':AS),cB Λ P ρ S w (execOp a.eval o) v S'->(∀ρ' e w',pC ρ' false v e->R Λ ρ' S' w'->Kp ρ S w ρ' S' w'->EndP nx Q a o.dst e w') ->
     o.uponIn (GF ro) 0 P a nx Q ((execOp a.eval o).run P w):=by
    rintro v S' ⟨nx,x,ρ',w',r1,r2,r3,r4,r5⟩ h1;have hn:=h1 ρ' (.returned x) w' (pC.of r3) r4 r5;rw[r1];cases nx<;>simp only[Ax,zza,reduceCtorEq]at r2
    .subst r2;exact hn
    .subst r2;exact hn
   cases nN:bE cx F S o with
   |err n=>rw[nN]at h;exact h.elim
   |val v S'=>
    rw[nN]at h;exact val v S' (zE aI hR hF nN) h.1
   |enter f as S'=>
    rw[nN]at h;obtain⟨rfl,args,e1,e2⟩:=aop_enter (P:=P) hF nN;obtain⟨⟨fn,hfn,hbody⟩,vK⟩:=hK ρ (.fn f) as S' w args _ (CA h) hR e2;rw[e1,aI.enters f fn hfn hbody args w];refine⟨fun hd=>wI ro hd,v7 (vK.mono fun e w' he=>?_)⟩;cases e with
    |returned x=>exact he
    |panicked ch=>exact he
    |outgrown=>exact (he:False).elim
   |round id as S'=>
    rw[nN]at h;obtain⟨rfl,pl,args,p1,e1,e2⟩:=aop_round (P:=P) hF nN;obtain⟨fn,tmps,x,y,r1,r2⟩:=hK ρ (.round id) as S' w args _ (CA h) hR e2 pl p1;rw[e1,r1];refine⟨fun hd=>wI ro hd,FE (r2.mono fun e w' he=>?_)⟩;cases e with
    |returned x=>exact he
    |panicked ch=>exact he
    |outgrown=>exact (he:False).elim
   |eQ v S'=>
    rw[nN]at h;obtain⟨rfl,_,x,r1,r2⟩:=aop_pan (P:=P) (w:=w) hF nN;rw[r1];exact h.1 ρ (.panicked [{v:=x,recovered:=false}]) w (pC.ofPan r2) hR (Kp.refl _ _ _)
   |many l=>
    rw[nN]at h;cases l with
    |nil=>exact h.elim
    |cons y ys=>
     obtain⟨r,hr,hs⟩:=EA (P:=P) hR hF nN (by simp);refine val r.1 r.2 hs ?_;cases hr with
     |head=>exact h.1
     |tail _ hr=>exact h.2 (valR r) (List.mem_map.2 ⟨r,hr,rfl⟩)
def ExTo(ρ:bf):Ex->Exit->Prop
 | .normal,e=>e=.normal
 | .exit id,e=>e=.exit id
 | .ret,e=>e=.ret
 | .goto l,e=>e=.goto l
 | .eQ v,e=>∃x,e=.panic [{v:=x,recovered:=false}]/\aq ρ v x
def exOf:Option AV->Ex
 |none=>.normal
 |some v=>.eQ v
theorem deferV_run{P:Program}{ρ:bf}{F:Fr}{a:Act}(hF:eA ρ F a){c:Call}{d:wJ}(h:lE F c=some d)(ty:TypeId):∃d',(∀w:World,(resolve a.eval c ty).run P w=.ok d' w)/\DRel ρ d d':=by
 unfold lE at h;obtain⟨callee,xs,lG⟩:=c;cases callee with
 |builtin b=>cases h
 |invoke r m=>cases h
 |value f=>
  simp only[]at h;split at h
  .rename_i g first captured he
   cases h;have hf:=hF.eval f;rw[he]at hf;simp only[aq]at hf;obtain⟨p,q,e,hp,hq⟩:=hf;refine⟨⟨.fn (.func g) q,p++xs.map a.eval⟩,fun w=>?_,q,rfl,?_,hq⟩
   .simp only[resolve,e,Deferred.ofValue];rfl
   .rw[cA,Array.toList_append];exact hp.append (kz hF xs)
  .cases h
theorem AL{o:Oper}{c:Call}(h:dW o=some c):o.op=.defer c:=by
 unfold dW at h;split at h
 .cases h;assumption
 .cases h
theorem runOps_wp{P:Program}{cx:Cx}{ro:Option Nat}(aI:cU Λ P cx){K:bO}(hK:wH Λ P K){ops:Array Oper}(hro:ro=none\/CO ops.toList=true){Q:Exit->Act->World->Prop}:
  ∀(l:List Oper)(i:Nat)(ρ:bf)(F:Fr)(S:AS)(w:World)(a:Act),ops.toList.drop i=l->R Λ ρ S w->eA ρ F a ->
  (cP cx K ops.toList l F S).iQ (fun r=>∀ρ' e a' w',ExTo ρ' (exOf r.1) e->R Λ ρ' r.2.2 w'->eA ρ' r.2.1 a'->Kp ρ S w ρ' r.2.2 w'->Q e a' w') ->
  wpOpsIn (GF ro) 0 P ops Q (List.range' i l.length) a w:=by
 intro l
 induction l with
 |nil=>intro i ρ F S w a _ hR hF h;exact h.1 ρ _ a w rfl hR hF (Kp.refl _ _ _)
 |cons o l ih=>
  intro i ρ F S w a hd hR hF h;have hio:ops[i]?=some o:=by
   rw[<-zzd];have:(ops.toList.drop i)[0]?=some o:=by rw[hd];rfl
   rwa [List.getElem?_drop,Nat.add_zero]at this
  have hdl:ops.toList.drop (i+1)=l:=by
   rw[<-List.drop_drop,hd];rfl
  rw[List.length_cons,List.range'_succ,wpOpsIn_cons];have hun:cP cx K ops.toList (o::l) F S=(match dW o with
   |none=>aC.bind (one cx K ops.toList o F S) fun r=>cond r.1 (.ok (some r.2.1,F,r.2.2) []) (cP cx K ops.toList l (bw F o.dst r.2.1) r.2.2)
   |some c=>match wanted ops.toList F o with
    |some true=>match lE F c with
     |some d=>cP cx K ops.toList l (bw ⟨F.t,F.n,d::F.ds⟩ o.dst .undef) S
     |none=>.err 1009
    |some false=>cP cx K ops.toList l (bw F o.dst .undef) S
    |none=>.err 1010):=rfl
  rw[hun]at h;cases hdf:dW o with
  |none=>
   rw[hdf]at h;refine Au aI hK hR hF hio ?_;refine (aC.all_bind h).mono fun r hr ρ' e w' hv hR' hk=>?_;obtain⟨b,v,S'⟩:=r;cases b with
   |false=>
    obtain⟨x,rfl,hx⟩:=hv.val;exact ih (i+1) ρ' _ _ w' _ hdl hR' ((hF.mono hk.ext).put o.dst hx) (hr.mono fun q hq ρ'' e a' ux h0 h1 h2 h3=>hq ρ'' e a' ux h0 h1 h2 (hk.trans h3))
   |true=>
    obtain⟨x,rfl,hx⟩:=hv.eQ;exact hr.1 ρ' _ a w' ⟨x,rfl,hx⟩ hR' (hF.mono hk.ext) hk
  |some c=>
   rw[hdf]at h;simp only[]at h;have nN:=AL hdf;rcases hro with rfl|hp
   .unfold wpOpIn;simp only[hio];cases hw:wanted ops.toList F o with
    |none=>rw[hw]at h;exact h.elim
    |some b=>
     rw[hw]at h;rw[lO hF hw];cases b with
     |false=>
      simp only[zzh,if_false];exact⟨fun f _=>zL none f,ih (i+1) ρ _ _ w _ hdl hR (hF.put o.dst (eE ρ)) h⟩
     |true=>
      simp only[if_true];refine⟨fun f _=>zL none f,?_⟩;simp only[]at h;cases hdv:lE F c with
      |none=>rw[hdv]at h;exact h.elim
      |some d=>
       rw[hdv]at h;obtain⟨d',r1,r2⟩:=deferV_run (P:=P) hF hdv o.type;have py:(execOp a.eval o).run P w=.ok (.defer d') w:=by
        unfold execOp;rw[nN];simp only[zze,r1,zzc,zzf]
       show o.uponIn (GF none) 0 P a _ Q ((execOp a.eval o).run P w);rw[py];have hF2:eA ρ ⟨F.t,F.n,d::F.ds⟩ {a with defers:=d'::a.defers}:=⟨hF.slot,hF.size,d',a.defers,rfl,r2,hF.defers⟩
       exact ih (i+1) ρ _ _ w _ hdl hR (hF2.put o.dst (eE ρ)) h
   .exfalso;have hm:o∈ops.toList:=List.mem_of_getElem? (by rw[zzd];exact hio);have:=List.all_eq_true.1 hp o hm;rw[nN]at this;cases this
end Go.Am
namespace Go.Am
open Go
variable{Λ:LB}
def DrawnOk(Λ:LB)(P:Program)(cx:Cx):Prop:=
 ∀(ro:Option Nat)(K:bO),wH Λ P K->∀(ops:Array Oper)(id:Nat)(Q:Exit->Act->World->Prop)(ρ:bf)(F:Fr)(S:AS)(w:World)(a:Act),R Λ ρ S w->eA ρ F a ->
  (eg cx K ops.toList F S).iQ (fun r=>∀ρ' e a' w',ExTo ρ' (exOf r.1) e->R Λ ρ' r.2.2 w'->eA ρ' r.2.1 a'->Kp ρ S w ρ' r.2.2 w'->Q e a' w')->(Code.region id ops true).wpIn (GF ro) 0 P Q a w
def gX(Λ:LB)(ρ:bf)(S:AS)(w:World)(Q:Exit->Act->World->Prop)(o:Out):Prop:=
 ∀ρ' e a' w',ExTo ρ' o.ex e->R Λ ρ' o.S w'->eA ρ' o.F a'->Kp ρ S w ρ' o.S w'->Q e a' w'
def nA(Λ:LB)(P:Program)(cx:Cx)(n:Nat):Prop:=
 ∀(ro:Option Nat)(c:Code)(Q:Exit->Act->World->Prop)(ρ:bf)(F:Fr)(S:AS)(w:World)(a:Act),(ro=none\/cW c=true)->R Λ ρ S w->eA ρ F a ->
  (exec cx n c F S).iQ (gX Λ ρ S w Q)->c.wpIn (GF ro) 0 P Q a w
def LoopOk(Λ:LB)(P:Program)(cx:Cx)(n:Nat):Prop:=
 ∀(ro:Option Nat)(b:Code)(Q:Exit->Act->World->Prop)(ρ:bf)(F:Fr)(S:AS)(w:World)(a:Act),(ro=none\/cW b=true)->R Λ ρ S w->eA ρ F a ->
  (exec cx n (.loop b) F S).iQ (gX Λ ρ S w Q)->Code.roundsIn (GF ro) 0 P b Q n a w
theorem gX.trans{ρ ρ':bf}{S S':AS}{w w':World}{Q:Exit->Act->World->Prop}{o:Out}(hk:Kp ρ S w ρ' S' w')(h:gX Λ ρ S w Q o):gX Λ ρ' S' w' Q o:=
 fun ρ'' e a ux h0 h1 h2 h3=>h ρ'' e a ux h0 h1 h2 (hk.trans h3)
theorem eA.srel{ρ:bf}{F:Fr}{a:Act}(h:eA ρ F a):wG ρ F a.tmps:=⟨h.slot,h.size⟩
theorem yY{ρ:bf}{as:List AV}{args:Array Value}(h:aD ρ as args.toList)(n:Nat):
  eA ρ (ou as n) {tmps:=args++zzg (n-args.size) undef,defers:=[]}:=by
 have hl:=h.length;refine⟨fun t=>?_,?_,(rfl:([]:List Deferred)=[])⟩
 .show aq ρ (match (T.ofL as 0 .leaf).get t with|some v=>v|none=>.undef) _;rw[ui];by_cases ht:t<as.length
  .rw[if_pos ⟨Nat.zero_le _,by omega⟩];obtain⟨x,hx⟩:∃x,as[t]?=some x:=⟨as[t],List.getElem?_eq_getElem ht⟩
   obtain⟨y,hy,hr⟩:=h.get hx;have hta:t<args.size:=by simp at hl;omega
   have e:(args++zzg (n-args.size) undef).getD t undef=y:=by
    rw[zzb,Array.getElem?_append_left hta,<-zzd,hy];rfl
   rw[e,Nat.sub_zero,hx];exact hr
  .rw[if_neg (by omega),fj];have e:(args++zzg (n-args.size) undef).getD t undef=undef:=by
    rw[zzb];rcases Nat.lt_or_ge t (args++zzg (n-args.size) undef).size with h1|h1
    .rw[Array.getElem?_append_right (by simp at hl;omega),Array.getElem?_replicate];split<;>rfl
    .rw[Array.getElem?_eq_none h1];rfl
   rw[e];exact eE ρ
 .show _=Nat.add (dN as) (Nat.sub n (dN as));rw[bL];simp at hl;simp[hl]
theorem wG.eval{ρ:bf}{F:Fr}{tmps:Array Value}(h:wG ρ F tmps)(t:Tmp):aq ρ (Am.eval F (.tmp t)) (tmps.getD t undef):=by rw[mv];exact h.slot t
theorem loadV_run{P:Program}{cx:Cx}(aI:cU Λ P cx){ρ:bf}{S:AS}{w:World}(hR:R Λ ρ S w){t:TypeId}{x v:AV}{x':Value}(h:nD cx S t x=some v)(hx:aq ρ x x'):
  ∃z,(do loadVar t (<-asAddr x')).run P w=.ok z w/\aq ρ v z:=by
 unfold nD at h;cases x<;>simp only[reduceCtorEq]at h;rename_i id g off aM;simp only[aq]at hx;obtain⟨pl,p1,p2,rfl⟩:=hx;cases ha:aX cx t with
 |none=>simp[ha]at h
 |some b=>
  cases b with
  |true=>
   simp only[ha]at h;cases hs:aH cx t with
   |none=>simp[hs]at h
   |some n=>
    simp only[hs]at h;cases hr:rd S id g off n aM with
    |none=>simp[hr]at h
    |some cs=>
     simp only[hr,zza]at h;subst h;obtain⟨arr,q1,q2,q3,q4,_⟩:=jd (P:=P) hR hr p1 p2;exact⟨.agg arr,by simp only[asAddr,loadVar,zze,zzf,zzc,kS aI ha,if_true,ef aI hs,q1],by simp only[aq];exact⟨arr,rfl,q3,q4⟩⟩
  |false=>
   simp only[ha]at h;split at h
   .rename_i u hr;simp only[zza]at h;subst h;obtain⟨arr,q1,q2,q3,q4,q5,q6⟩:=jd (P:=P) hR hr p1 p2;obtain⟨z,hz,hz2⟩:=q6 0 (by omega);refine⟨z,?_,?_⟩
    .simp only[Nat.add_zero]at hz;simp only[asAddr,loadVar,zze,zzf,zzc,kS aI ha,zzh,if_false,run_load,hz]
    .obtain⟨y,hy,ij⟩:=q3.get (i:=0) (x:=u) rfl;rw[hz2]at hy;cases hy;exact ij
   .cases h
theorem CC{P:Program}{cx:Cx}(aI:cU Λ P cx){ρ:bf}{S:AS}{w:World}(hR:R Λ ρ S w){F:Fr}{tmps:Array Value}(hF:wG ρ F tmps)(f:ResultVar->Sem Value)(hf:∀t,f (.tmp t)=pure (tmps.getD t undef))
  (hf2:∀t ty,f (.cell t ty)=(do loadVar ty (<-asAddr (tmps.getD t undef)))):∀(l:List ResultVar)(vs:List AV),nI cx F S l=some vs ->
  ∃xs:List Value,(l.mapM f).run P w=.ok xs w/\aD ρ vs xs:=by
 intro l
 induction l with
 |nil=>intro vs h;have h':some []=some vs:=h;cases h';exact⟨[],rfl,aD.nil⟩
 |cons r l ih=>
  intro vs h;have h':mR cx F S r (nI cx F S l)=some vs:=h;unfold mR at h';cases hl:nI cx F S l with
  |none=>rw[hl]at h';cases h'
  |some vs'=>
   rw[hl]at h';obtain⟨xs,h1,h2⟩:=ih vs' hl;cases r with
   |tmp t=>
    cases h';refine⟨tmps.getD t undef::xs,?_,aD.cons (hF.eval t) h2⟩;simp only[List.mapM_cons,zze,hf,zzf,zzc,h1]
   |cell t ty=>
    simp only[]at h';cases hv:nD cx S ty (eval F (.tmp t))with
    |none=>rw[hv]at h';cases h'
    |some v=>
     rw[hv]at h';cases h';obtain⟨z,r1,r2⟩:=loadV_run (P:=P) aI hR hv (hF.eval t);refine⟨z::xs,?_,aD.cons r2 h2⟩;have r1':(f (.cell t ty)).run P w=.ok z w:=by rw[hf2];exact r1
     simp only[List.mapM_cons,zze,r1',zzf,zzc,h1]
theorem mQ{P:Program}{cx:Cx}(aI:cU Λ P cx){ρ:bf}{S:AS}{w:World}(hR:R Λ ρ S w){F:Fr}{tmps:Array Value}{fn:Func}{v:AV}(hF:wG ρ F tmps)(h:di cx fn F S=some v):
  ∃x,(results fn tmps).run P w=.ok x w/\aq ρ v x:=by
 unfold di at h;obtain ⟨f, hf, hf2, hres⟩ : ∃ f : ResultVar → Sem Value, (∀ t, f (.tmp t) = pure (tmps.getD t undef)) ∧ (∀ t ty, f (.cell t ty) = (do loadVar ty (← asAddr (tmps.getD t undef)))) ∧
   results fn tmps=(do let vs <-fn.results.mapM f;pure (if h:vs.size=1 then vs[0] else .tuple vs)):=by
  refine⟨_,?_,?_,rfl⟩
  .intro t;rfl
  .intro t ty;rfl
 rw[hres,Array.mapM_eq_mapM_toList];split at h
 .rename_i u hr;cases h;obtain⟨xs,h1,h2⟩:=CC (P:=P) aI hR hF f hf hf2 _ _ hr;simp only[aD]at h2;obtain⟨y,ys,rfl,hy,rfl⟩:=h2;refine⟨y,?_,hy⟩;simp only[zze,Sem.run_map];rw[h1];rfl
 .rename_i vs cl hr;cases h;obtain⟨xs,h1,h2⟩:=CC (P:=P) aI hR hF f hf hf2 _ _ hr;refine⟨.tuple xs.toArray,?_,by simp only[aq];exact⟨_,rfl,by simpa using h2⟩⟩;have hl:=h2.length;have Dv:xs.length≠1:=by
   intro e;cases vs with
   |nil=>simp at hl;omega
   |cons v vs=>cases vs with
    |nil=>exact cl v rfl
    |cons _ _=>simp at hl;omega
  simp only[zze,Sem.run_map];rw[h1];simp only[zzc,zzf];rw[dif_neg (by simpa using Dv)]
 .cases h
theorem putL_nil(F:Fr)(as:List AV):putL F [] as=(match as with|[]=>some F|_=>none):=by cases as<;>rfl
theorem putL_cons(F:Fr)(p:Tmp)(ps:List Tmp)(as:List AV):putL F (p::ps) as=(match as with|[]=>none|a::as=>putL (bw F (some p) a) ps as):=by cases as<;>rfl
theorem CK{ρ:bf}:∀(ps:List Tmp)(as:List AV)(vs:List Value)(F F1:Fr)(tmps:Array Value),putL F ps as=some F1->aD ρ as vs->eA ρ F ⟨tmps,[]⟩ ->
  vs.length=ps.length/\eA ρ F1 ⟨(ps.zip vs).foldl (fun tmps (t,a)=>tmps.setIfInBounds t a) tmps,[]⟩
 |[],as,vs,F,F1,tmps,h,hl,hF=>by
  rw[putL_nil]at h;cases as with
  |cons a as=>cases h
  |nil=>
   cases h;simp only[aD]at hl;subst hl;exact⟨rfl,hF⟩
 |p::ps,as,vs,F,F1,tmps,h,hl,hF=>by
  rw[putL_cons]at h;cases as with
  |nil=>cases h
  |cons a as=>
   simp only[aD]at hl;obtain⟨y,ys,rfl,h1,h2⟩:=hl;obtain⟨r1,r2⟩:=CK ps as ys (bw F (some p) a) F1 (tmps.setIfInBounds p y) h h2 (hF.put (some p) h1);exact⟨by simp[r1],r2⟩
theorem qZ{ρ:bf}{S:AS}{w:World}(hR:R Λ ρ S w){id:Nat}{st:LoopState}{j:Option Code}{F:Fr}{ps:Array Tmp}{x y:Code}{pl:Pl}(hp:ρ id 0=some pl)(ho:S.h.get id=some (.nR (.loop st j F ps x y))):
  ∃fn tmps d,w.heap[pl.b]?=some (.loop {state:=st,pending:=j,fn:=fn,tmps:=tmps,params:=ps,assign:=x,body:=y,defers:=d})/\wG ρ F tmps/\cW x=true/\cW y=true/\pl.base=0:=by
 obtain⟨dT,o,q1,q2,⟨fn,tmps,d,rfl,q4,q5,q6⟩,q7⟩:=hR.ja id _ ho;rw[hp]at q1;cases q1;exact⟨fn,tmps,d,q2,q4,q5,q6,q7⟩
theorem u4(w:World){b:Nat}{o o':Obj}(h:w.heap[b]?=some o'):But b w (w.putObj b o)/\(w.putObj b o).heap[b]?=some o:=by
 have cR:b<w.heap.size:=(Array.getElem?_eq_some_iff.1 h).1;exact⟨⟨⟨rfl,rfl,rfl⟩,by simp,fun k hk=>World.putObj_heap_other hk⟩,World.putObj_heap_same cR⟩
theorem R.Aj{ρ:bf}{S:AS}{w:World}(hR:R Λ ρ S w){id:Nat}{st st':LoopState}{j j':Option Code}{F:Fr}{ps:Array Tmp}{x y:Code}{pl:Pl}(hp:ρ id 0=some pl)(ho:S.h.get id=some (.nR (.loop st j F ps x y)))
  {fn:FuncId} {tmps:Array Value} {d:Nat} (hw:w.heap[pl.b]?=some (.loop {state:=st,pending:=j,fn:=fn,tmps:=tmps,params:=ps,assign:=x,body:=y,defers:=d})) :
  R Λ ρ (tJ S id (.loop st' j' F ps x y)) (w.putObj pl.b (.loop {state:=st',pending:=j',fn:=fn,tmps:=tmps,params:=ps,assign:=x,body:=y,defers:=d})) /\
   Kp ρ S w ρ (tJ S id (.loop st' j' F ps x y)) (w.putObj pl.b (.loop {state:=st',pending:=j',fn:=fn,tmps:=tmps,params:=ps,assign:=x,body:=y,defers:=d})):=by
 obtain⟨fn',tmps',d',e1,e2,e3,e4,e5⟩:=qZ hR hp ho;rw[hw]at e1;cases e1;obtain⟨b1,b2⟩:=u4 w (o:=.loop {state:=st',pending:=j',fn:=fn,tmps:=tmps,params:=ps,assign:=x,body:=y,defers:=d}) hw;exact hR.setOth (x:=.loop st' j' F ps x y) ho (by intro a b c d t e;cases e) hp b1 b2 ⟨fn,tmps,d,rfl,e2,e3,e4⟩ e5
theorem Cz{P:Program}{ρ ρ':bf}{S S':AS}{w w':World}{id:Nat}{pl:Pl}{ex:Ex}{e:Exit}{a:Act}{fS:Ending->World->Prop}(hp:ρ' id 0=some pl)(hR:R Λ ρ' S' w')(hk:Kp ρ S w ρ' S' w')(he:ExTo ρ' ex e)
  (h:(uV id ex S').iQ (fun r=>∀ρ' e w',hJ ρ' r.1 e->R Λ ρ' r.2 w'->Kp ρ S w ρ' r.2 w'->fS e w')):roundPost P pl.b fS e a w':=by
 unfold uV at h;split at h
 .rename_i st j F ps x y ho;obtain⟨fn,tmps,d,e1,_⟩:=qZ hR hp ho;have fin:∀(jump:Option Code)(v:Bool),jump.isNone=v->(∀ρ'' e ux,hJ ρ'' (.bool v) e->R Λ ρ'' (tJ S' id (.loop (if jump.isNone then .ready else .done) jump F ps x y)) ux->Kp ρ S w ρ'' (tJ S' id (.loop (if jump.isNone then .ready else .done) jump F ps x y)) ux->fS e ux) ->
    ∃u ux,(Instr.endRound pl.b jump).run P w'=.ok u ux/\fS (.returned u) ux:=by
   intro jump v hv hpost;obtain⟨t1,t2⟩:=hR.Aj (st':=if jump.isNone then .ready else .done) (j':=jump) hp ho e1;exact⟨_,_,run_endRound jump e1,hpost ρ' _ _ (by rw[hv];exact hJ.of (by simp[aq])) t1 (hk.trans t2)⟩
  cases ex with
  |normal=>cases he;exact fin none true rfl h.1
  |ret=>cases he;exact fin (some .ret) false rfl h.1
  |exit i=>cases he;exact fin (some (.exit i)) false rfl h.1
  |goto l=>cases he;exact fin (some (.goto l)) false rfl h.1
  |eQ v=>exact h.elim
 .exact h.elim
theorem roundF_ok{P:Program}{cx:Cx}{n:Nat}(hc:nA Λ P cx n){ρ:bf}{id:Nat}{as:List AV}{S:AS}{w:World}{args:Array Value}{fS:Ending->World->Prop}
  (h:(rS (exec cx n) id as S).iQ (fun r=>∀ρ' e w',hJ ρ' r.1 e->R Λ ρ' r.2 w'->Kp ρ S w ρ' r.2 w'->fS e w')) (hR:R Λ ρ S w) (hl:aD ρ as args.toList):TgtOk P ρ args w fS (.round id):=by
 intro pl hp;unfold rS at h;split at h
 .rename_i j F ps x y ho;obtain⟨fn,tmps,d,e1,e2,e3,e4,e5⟩:=qZ hR hp ho;cases hput:putL ⟨F.t,F.n,[]⟩ ps.toList as with
  |none=>rw[hput]at h;exact h.elim
  |some F1=>
   rw[hput]at h;simp only[]at h;obtain⟨r1,r2⟩:=CK (ρ:=ρ) ps.toList as args.toList ⟨F.t,F.n,[]⟩ F1 tmps hput hl ⟨e2.slot,e2.size,(rfl:([]:List Deferred)=[])⟩;have nf:args.size=ps.size:=by simpa using r1
   refine⟨fn,_,x,y,run_yield e1 nf,roundIn_of_wpIn trivial ?_⟩;have hfold:(ps.zip args).foldl (fun tmps (t,a)=>tmps.setIfInBounds t a) tmps=(ps.toList.zip args.toList).foldl (fun tmps (t,a)=>tmps.setIfInBounds t a) tmps:=by
    rw[<-Array.foldl_toList,Array.toList_zip]
   rw[hfold];refine hc (some pl.b) x _ ρ F1 S w _ (.inr e3) hR r2 ((aC.all_bind h).mono fun o qu ρ' e a' w' k0 k1 k2 k3=>?_);cases hex:o.ex with
   |normal=>
    rw[hex]at qu k0;cases k0;simp only[]at qu;split at qu
    .rename_i j' F' ps' x' y' pz;have kF:=k3.ext id 0 pl hp;obtain⟨fn',tmps',d',f1,f2,f3,f4,f5⟩:=qZ k1 kF pz;obtain⟨t1,t2⟩:=k1.Aj (st':=.busy) (j':=j') kF pz f1;refine⟨_,run_beginRound f1 rfl,?_⟩;have hbody:y'=y':=rfl;refine hc (some pl.b) y _ ρ' o.F _ _ _ (.inr e4) t1 k2 ((aC.all_bind qu).mono fun o2 ho2' ρ'' e2 a2 w2 m0 m1 m2 m3=>?_);exact Cz (m3.ext id 0 pl kF) m1 (k3.trans (t2.trans m3)) m0 ho2'
    .exact qu.elim
   |exit i=>rw[hex]at qu;exact qu.elim
   |ret=>rw[hex]at qu;exact qu.elim
   |goto l=>rw[hex]at qu;exact qu.elim
   |eQ v=>rw[hex]at qu;exact qu.elim
 .exact h.elim
end Go.Am
