/-
  The abstract machine against the model: code, calls.
-/
import Derived.Test.YtdknlbnljfdhgaaGreatDoorAmWp
import Derived.LoopNIn
import Derived.RecoverIn
import Derived.RangeFuncLeaves
open Go.Result renaming andThen_ok->zza
open Go.Sem renaming run_bind->zzb,run_pure->zzd
open Array renaming replicate->zzc,getD_eq_getD_getElem?->zze
open Option.some renaming injEq->zzf
namespace Go.Am
open Go
variable{Λ:LB}
def N6(Λ:LB)(P:Program)(cx:Cx):Prop:=
 ∀(ro:Option Nat)(K:fK),Bf Λ P K->∀(ops:Array Oper)(id:Nat)(Q:Exit->Act->World->Prop)(ρ:aY)(F:Fr)(S:AS)(w:World)(a:Act),R Λ ρ S w->eY ρ F a ->
  (fM cx K ops.toList F S).kQ (fun r=>∀ρ' e a' w',W5 ρ' (jkp r.1) e->R Λ ρ' r.2.2 w'->eY ρ' r.2.1 a'->Kp ρ S w ρ' r.2.2 w'->Q e a' w')->(Code.region id ops true).wpIn (GF ro) 0 P Q a w
def jt(Λ:LB)(ρ:aY)(S:AS)(w:World)(Q:Exit->Act->World->Prop)(o:Out):Prop:=
 ∀ρ' e a' w',W5 ρ' o.ex e->R Λ ρ' o.S w'->eY ρ' o.F a'->Kp ρ S w ρ' o.S w'->Q e a' w'
def qf(Λ:LB)(P:Program)(cx:Cx)(n:Nat):Prop:=
 ∀(ro:Option Nat)(c:Code)(Q:Exit->Act->World->Prop)(ρ:aY)(F:Fr)(S:AS)(w:World)(a:Act),(ro=none\/df c=true)->R Λ ρ S w->eY ρ F a ->
  (exec cx n c F S).kQ (jt Λ ρ S w Q)->c.wpIn (GF ro) 0 P Q a w
def W3(Λ:LB)(P:Program)(cx:Cx)(n:Nat):Prop:=
 ∀(ro:Option Nat)(b:Code)(Q:Exit->Act->World->Prop)(ρ:aY)(F:Fr)(S:AS)(w:World)(a:Act),(ro=none\/df b=true)->R Λ ρ S w->eY ρ F a ->
  (exec cx n (.loop b) F S).kQ (jt Λ ρ S w Q)->Code.roundsIn (GF ro) 0 P b Q n a w
theorem jt.trans{ρ ρ':aY}{S S':AS}{w w':World}{Q:Exit->Act->World->Prop}{o:Out}(hk:Kp ρ S w ρ' S' w')(h:jt Λ ρ S w Q o):jt Λ ρ' S' w' Q o:=
 fun ρ'' e a yO h0 h1 h2 h3=>h ρ'' e a yO h0 h1 h2 (hk.trans h3)
theorem eY.R9{ρ:aY}{F:Fr}{a:Act}(h:eY ρ F a):Bd ρ F a.tmps:=⟨h.slot,h.size⟩
theorem CN{ρ:aY}{as:List AV}{args:Array Value}(h:ay ρ as args.toList)(n:Nat):
  eY ρ (lP as n) {tmps:=args++zzc (n-args.size) undef,defers:=[]}:=by
 have hl:=h.length;refine⟨fun t=>?_,?_,(rfl:([]:List Deferred)=[])⟩
 .show ai ρ (match (T.YI as 0 .leaf).get t with|some v=>v|none=>.undef) _;rw[yH];by_cases ht:t<as.length
  .rw[if_pos ⟨Nat.zero_le _,by omega⟩];obtain⟨x,hx⟩:∃x,as[t]?=some x:=⟨as[t],List.getElem?_eq_getElem ht⟩
   obtain⟨y,hy,hr⟩:=h.get hx;have hta:t<args.size:=by simp at hl;omega
   have e:(args++zzc (n-args.size) undef).getD t undef=y:=by
    rw[zze,Array.getElem?_append_left hta,<-Array.getElem?_toList,hy];rfl
   rw[e,Nat.sub_zero,hx];exact hr
  .rw[if_neg (by omega),gm];have e:(args++zzc (n-args.size) undef).getD t undef=undef:=by
    rw[zze];rcases Nat.lt_or_ge t (args++zzc (n-args.size) undef).size with h1|h1
    .rw[Array.getElem?_append_right (by simp at hl;omega),Array.getElem?_replicate];split<;>rfl
    .rw[Array.getElem?_eq_none h1];rfl
   rw[e];exact fm ρ
 .show _=Nat.add (fw as) (Nat.sub n (fw as));rw[bX];simp at hl;simp[hl]
theorem Bd.eval{ρ:aY}{F:Fr}{tmps:Array Value}(h:Bd ρ F tmps)(t:Tmp):ai ρ (Am.eval F (.tmp t)) (tmps.getD t undef):=by rw[oM];exact h.slot t
theorem PI{P:Program}{cx:Cx}(aF:dQ Λ P cx){ρ:aY}{S:AS}{w:World}(hR:R Λ ρ S w){t:TypeId}{x v:AV}{x':Value}(h:qj cx S t x=some v)(hx:ai ρ x x'):
  ∃z,(do loadVar t (<-asAddr x')).run P w=.ok z w/\ai ρ v z:=by
 unfold qj at h;cases x<;>simp only[reduceCtorEq]at h;rename_i id g off lim;simp only[ai]at hx;obtain⟨pl,p1,p2,rfl⟩:=hx;cases ha:aN cx t with
 |none=>simp[ha]at h
 |some b=>
  cases b with
  |true=>
   simp only[ha]at h;cases hs:aG cx t with
   |none=>simp[hs]at h
   |some n=>
    simp only[hs]at h;cases hr:rd S id g off n lim with
    |none=>simp[hr]at h
    |some cs=>
     simp only[hr,zzf]at h;subst h;obtain⟨arr,q1,q2,q3,q4,_⟩:=lj (P:=P) hR hr p1 p2;exact⟨.agg arr,by simp only[asAddr,loadVar,zzb,zzd,zza,rV aF ha,if_true,fg aF hs,q1],by simp only[ai];exact⟨arr,rfl,q3,q4⟩⟩
  |false=>
   simp only[ha]at h;split at h
   .rename_i u hr;simp only[zzf]at h;subst h;obtain⟨arr,q1,q2,q3,q4,q5,q6⟩:=lj (P:=P) hR hr p1 p2;obtain⟨z,hz,PV⟩:=q6 0 (by omega);refine⟨z,?_,?_⟩
    .simp only[Nat.add_zero]at hz;simp only[asAddr,loadVar,zzb,zzd,zza,rV aF ha,Bool.false_eq_true,if_false,run_load,hz]
    .obtain⟨y,hy,fi⟩:=q3.get (i:=0) (x:=u) rfl;rw[PV]at hy;cases hy;exact fi
   .cases h
theorem GI{P:Program}{cx:Cx}(aF:dQ Λ P cx){ρ:aY}{S:AS}{w:World}(hR:R Λ ρ S w){F:Fr}{tmps:Array Value}(hF:Bd ρ F tmps)(f:ResultVar->Sem Value)(hf:∀t,f (.tmp t)=pure (tmps.getD t undef))
  (Ru:∀t ty,f (.cell t ty)=(do loadVar ty (<-asAddr (tmps.getD t undef)))):∀(l:List ResultVar)(vs:List AV),lD cx F S l=some vs ->
  ∃xs:List Value,(l.mapM f).run P w=.ok xs w/\ay ρ vs xs:=by
 intro l
 induction l with
 |nil=>intro vs h;have h':some []=some vs:=h;cases h';exact⟨[],rfl,ay.nil⟩
 |cons r l ih=>
  intro vs h;have h':pE cx F S r (lD cx F S l)=some vs:=h;unfold pE at h';cases hl:lD cx F S l with
  |none=>rw[hl]at h';cases h'
  |some vs'=>
   rw[hl]at h';obtain⟨xs,h1,h2⟩:=ih vs' hl;cases r with
   |tmp t=>
    cases h';refine⟨tmps.getD t undef::xs,?_,ay.cons (hF.eval t) h2⟩;simp only[List.mapM_cons,zzb,hf,zzd,zza,h1]
   |cell t ty=>
    simp only[]at h';cases hv:qj cx S ty (eval F (.tmp t))with
    |none=>rw[hv]at h';cases h'
    |some v=>
     rw[hv]at h';cases h';obtain⟨z,r1,r2⟩:=PI (P:=P) aF hR hv (hF.eval t);refine⟨z::xs,?_,ay.cons r2 h2⟩;have r1':(f (.cell t ty)).run P w=.ok z w:=by rw[Ru];exact r1
     simp only[List.mapM_cons,zzb,r1',zzd,zza,h1]
theorem pC{P:Program}{cx:Cx}(aF:dQ Λ P cx){ρ:aY}{S:AS}{w:World}(hR:R Λ ρ S w){F:Fr}{tmps:Array Value}{fn:Func}{v:AV}(hF:Bd ρ F tmps)(h:cC cx fn F S=some v):
  ∃x,(results fn tmps).run P w=.ok x w/\ai ρ v x:=by
 unfold cC at h;obtain ⟨f, hf, Ru, iW⟩ : ∃ f : ResultVar → Sem Value, (∀ t, f (.tmp t) = pure (tmps.getD t undef)) ∧ (∀ t ty, f (.cell t ty) = (do loadVar ty (← asAddr (tmps.getD t undef)))) ∧
   results fn tmps=(do let vs <-fn.results.mapM f;pure (if h:vs.size=1 then vs[0] else .tuple vs)):=by
  refine⟨_,?_,?_,rfl⟩
  .intro t;rfl
  .intro t ty;rfl
 rw[iW,Array.mapM_eq_mapM_toList];split at h
 .rename_i u hr;cases h;obtain⟨xs,h1,h2⟩:=GI (P:=P) aF hR hF f hf Ru _ _ hr;simp only[ay]at h2;obtain⟨y,ys,rfl,hy,rfl⟩:=h2;refine⟨y,?_,hy⟩;simp only[zzb,Sem.run_map];rw[h1];rfl
 .rename_i vs ct hr;cases h;obtain⟨xs,h1,h2⟩:=GI (P:=P) aF hR hF f hf Ru _ _ hr;refine⟨.tuple xs.toArray,?_,by simp only[ai];exact⟨_,rfl,by simpa using h2⟩⟩;have hl:=h2.length;have qy:xs.length≠1:=by
   intro e;cases vs with
   |nil=>simp at hl;omega
   |cons v vs=>cases vs with
    |nil=>exact ct v rfl
    |cons _ _=>simp at hl;omega
  simp only[zzb,Sem.run_map];rw[h1];simp only[zza,zzd];rw[dif_neg (by simpa using qy)]
 .cases h
theorem SK(F:Fr)(as:List AV):DJ F [] as=(match as with|[]=>some F|_=>none):=by cases as<;>rfl
theorem Pa(F:Fr)(p:Tmp)(ps:List Tmp)(as:List AV):DJ F (p::ps) as=(match as with|[]=>none|a::as=>DJ (bQ F (some p) a) ps as):=by cases as<;>rfl
theorem GR{ρ:aY}:∀(ps:List Tmp)(as:List AV)(vs:List Value)(F F1:Fr)(tmps:Array Value),DJ F ps as=some F1->ay ρ as vs->eY ρ F ⟨tmps,[]⟩ ->
  vs.length=ps.length/\eY ρ F1 ⟨(ps.zip vs).foldl (fun tmps (t,a)=>tmps.setIfInBounds t a) tmps,[]⟩
 |[],as,vs,F,F1,tmps,h,hl,hF=>by
  rw[SK]at h;cases as with
  |cons a as=>cases h
  |nil=>
   cases h;simp only[ay]at hl;subst hl;exact⟨rfl,hF⟩
 |p::ps,as,vs,F,F1,tmps,h,hl,hF=>by
  rw[Pa]at h;cases as with
  |nil=>cases h
  |cons a as=>
   simp only[ay]at hl;obtain⟨y,ys,rfl,h1,h2⟩:=hl;obtain⟨r1,r2⟩:=GR ps as ys (bQ F (some p) a) F1 (tmps.setIfInBounds p y) h h2 (hF.put (some p) h1);exact⟨by simp[r1],r2⟩
theorem uX{ρ:aY}{S:AS}{w:World}(hR:R Λ ρ S w){id:Nat}{st:LoopState}{j:Option Code}{F:Fr}{ps:Array Tmp}{x y:Code}{pl:Pl}(hp:ρ id 0=some pl)(ho:S.h.get id=some (.j6 (.loop st j F ps x y))):
  ∃fn tmps d,w.heap[pl.b]?=some (.loop {state:=st,pending:=j,fn:=fn,tmps:=tmps,params:=ps,assign:=x,body:=y,defers:=d})/\Bd ρ F tmps/\df x=true/\df y=true/\pl.base=0:=by
 obtain⟨eA,o,q1,q2,⟨fn,tmps,d,rfl,q4,q5,q6⟩,q7⟩:=hR.jE id _ ho;rw[hp]at q1;cases q1;exact⟨fn,tmps,d,q2,q4,q5,q6,q7⟩
theorem zy(w:World){b:Nat}{o o':Obj}(h:w.heap[b]?=some o'):N7 b w (w.putObj b o)/\(w.putObj b o).heap[b]?=some o:=by
 have cQ:b<w.heap.size:=(Array.getElem?_eq_some_iff.1 h).1;exact⟨⟨⟨rfl,rfl,rfl⟩,by simp,fun k hk=>World.putObj_heap_other hk⟩,World.putObj_heap_same cQ⟩
theorem R.DC{ρ:aY}{S:AS}{w:World}(hR:R Λ ρ S w){id:Nat}{st st':LoopState}{j j':Option Code}{F:Fr}{ps:Array Tmp}{x y:Code}{pl:Pl}(hp:ρ id 0=some pl)(ho:S.h.get id=some (.j6 (.loop st j F ps x y)))
  {fn:FuncId} {tmps:Array Value} {d:Nat} (hw:w.heap[pl.b]?=some (.loop {state:=st,pending:=j,fn:=fn,tmps:=tmps,params:=ps,assign:=x,body:=y,defers:=d})) :
  R Λ ρ (mB S id (.loop st' j' F ps x y)) (w.putObj pl.b (.loop {state:=st',pending:=j',fn:=fn,tmps:=tmps,params:=ps,assign:=x,body:=y,defers:=d})) /\
   Kp ρ S w ρ (mB S id (.loop st' j' F ps x y)) (w.putObj pl.b (.loop {state:=st',pending:=j',fn:=fn,tmps:=tmps,params:=ps,assign:=x,body:=y,defers:=d})):=by
 obtain⟨fn',jbd,d',e1,e2,e3,e4,e5⟩:=uX hR hp ho;rw[hw]at e1;cases e1;obtain⟨b1,b2⟩:=zy w (o:=.loop {state:=st',pending:=j',fn:=fn,tmps:=tmps,params:=ps,assign:=x,body:=y,defers:=d}) hw;exact hR.Sf (x:=.loop st' j' F ps x y) ho (by intro a b c d t e;cases e) hp b1 b2 ⟨fn,tmps,d,rfl,e2,e3,e4⟩ e5
theorem GD{P:Program}{ρ ρ':aY}{S S':AS}{w w':World}{id:Nat}{pl:Pl}{ex:Ex}{e:Exit}{a:Act}{ij:Ending->World->Prop}(hp:ρ' id 0=some pl)(hR:R Λ ρ' S' w')(hk:Kp ρ S w ρ' S' w')(he:W5 ρ' ex e)
  (h:(qN id ex S').kQ (fun r=>∀ρ' e w',jB ρ' r.1 e->R Λ ρ' r.2 w'->Kp ρ S w ρ' r.2 w'->ij e w')):roundPost P pl.b ij e a w':=by
 unfold qN at h;split at h
 .rename_i st j F ps x y ho;obtain⟨fn,tmps,d,e1,_⟩:=uX hR hp ho;have fin:∀(jump:Option Code)(v:Bool),jump.isNone=v->(∀ρ'' e yO,jB ρ'' (.bool v) e->R Λ ρ'' (mB S' id (.loop (if jump.isNone then .ready else .done) jump F ps x y)) yO->Kp ρ S w ρ'' (mB S' id (.loop (if jump.isNone then .ready else .done) jump F ps x y)) yO->ij e yO) ->
    ∃u yO,(Instr.endRound pl.b jump).run P w'=.ok u yO/\ij (.returned u) yO:=by
   intro jump v hv jin;obtain⟨t1,t2⟩:=hR.DC (st':=if jump.isNone then .ready else .done) (j':=jump) hp ho e1;exact⟨_,_,run_endRound jump e1,jin ρ' _ _ (by rw[hv];exact jB.of (by simp[ai])) t1 (hk.trans t2)⟩
  cases ex with
  |normal=>cases he;exact fin none true rfl h.1
  |ret=>cases he;exact fin (some .ret) false rfl h.1
  |exit i=>cases he;exact fin (some (.exit i)) false rfl h.1
  |goto l=>cases he;exact fin (some (.goto l)) false rfl h.1
  |eO v=>exact h.elim
 .exact h.elim
theorem OW{P:Program}{cx:Cx}{n:Nat}(hc:qf Λ P cx n){ρ:aY}{id:Nat}{as:List AV}{S:AS}{w:World}{args:Array Value}{ij:Ending->World->Prop}
  (h:(qM (exec cx n) id as S).kQ (fun r=>∀ρ' e w',jB ρ' r.1 e->R Λ ρ' r.2 w'->Kp ρ S w ρ' r.2 w'->ij e w')) (hR:R Λ ρ S w) (hl:ay ρ as args.toList):N2 P ρ args w ij (.round id):=by
 intro pl hp;unfold qM at h;split at h
 .rename_i j F ps x y ho;obtain⟨fn,tmps,d,e1,e2,e3,e4,e5⟩:=uX hR hp ho;cases jdR:DJ ⟨F.t,F.n,[]⟩ ps.toList as with
  |none=>rw[jdR]at h;exact h.elim
  |some F1=>
   rw[jdR]at h;simp only[]at h;obtain⟨r1,r2⟩:=GR (ρ:=ρ) ps.toList as args.toList ⟨F.t,F.n,[]⟩ F1 tmps jdR hl ⟨e2.slot,e2.size,(rfl:([]:List Deferred)=[])⟩;have nf:args.size=ps.size:=by simpa using r1
   refine⟨fn,_,x,y,run_yield e1 nf,roundIn_of_wpIn trivial ?_⟩;have jiK:(ps.zip args).foldl (fun tmps (t,a)=>tmps.setIfInBounds t a) tmps=(ps.toList.zip args.toList).foldl (fun tmps (t,a)=>tmps.setIfInBounds t a) tmps:=by
    rw[<-Array.foldl_toList,Array.toList_zip]
   rw[jiK];refine hc (some pl.b) x _ ρ F1 S w _ (.inr e3) hR r2 ((az.all_bind h).mono fun o uw ρ' e a' w' k0 k1 k2 k3=>?_);cases hex:o.ex with
   |normal=>
    rw[hex]at uw k0;cases k0;simp only[]at uw;split at uw
    .rename_i j' F' J8 x' y' sQ;have lB:=k3.ext id 0 pl hp;obtain⟨fn',jbd,d',f1,f2,f3,f4,f5⟩:=uX k1 lB sQ;obtain⟨t1,t2⟩:=k1.DC (st':=.busy) (j':=j') lB sQ f1;refine⟨_,run_beginRound f1 rfl,?_⟩;have jbL:y'=y':=rfl;refine hc (some pl.b) y _ ρ' o.F _ _ _ (.inr e4) t1 k2 ((az.all_bind uw).mono fun o2 ho2' ρ'' e2 a2 w2 m0 m1 m2 m3=>?_);exact GD (m3.ext id 0 pl lB) m1 (k3.trans (t2.trans m3)) m0 ho2'
    .exact uw.elim
   |exit i=>rw[hex]at uw;exact uw.elim
   |ret=>rw[hex]at uw;exact uw.elim
   |goto l=>rw[hex]at uw;exact uw.elim
   |eO v=>rw[hex]at uw;exact uw.elim
 .exact h.elim
end Go.Am
