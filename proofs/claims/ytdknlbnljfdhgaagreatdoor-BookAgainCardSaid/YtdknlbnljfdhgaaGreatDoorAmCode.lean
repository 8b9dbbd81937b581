/-
  The abstract machine against the model: code, calls.
-/
import Derived.Test.YtdknlbnljfdhgaaGreatDoorAmWp
import Derived.LoopNIn
import Derived.RecoverIn
import Derived.RangeFuncLeaves
namespace Go.Am
open Go
variable{Λ:LB}
def DrawnOk(Λ:LB)(P:Program)(cx:Cx):Prop:=
 ∀(ro:Option Nat)(K:eW),yh Λ P K->∀(ops:Array Oper)(id:Nat)(Q:Exit->Act->World->Prop)(ρ:aO)(F:Fr)(S:AS)(w:World)(a:Act),R Λ ρ S w->dT ρ F a ->
  (fb cx K ops.toList F S).jK (fun r=>∀ρ' e a' w',ExTo ρ' (exOf r.1) e->R Λ ρ' r.2.2 w'->dT ρ' r.2.1 a'->Kp ρ S w ρ' r.2.2 w'->Q e a' w')->(Code.region id ops true).wpIn (GF ro) 0 P Q a w
def iF(Λ:LB)(ρ:aO)(S:AS)(w:World)(Q:Exit->Act->World->Prop)(o:Out):Prop:=
 ∀ρ' e a' w',ExTo ρ' o.ex e->R Λ ρ' o.S w'->dT ρ' o.F a'->Kp ρ S w ρ' o.S w'->Q e a' w'
def od(Λ:LB)(P:Program)(cx:Cx)(n:Nat):Prop:=
 ∀(ro:Option Nat)(c:Code)(Q:Exit->Act->World->Prop)(ρ:aO)(F:Fr)(S:AS)(w:World)(a:Act),(ro=none\/cP c=true)->R Λ ρ S w->dT ρ F a ->
  (exec cx n c F S).jK (iF Λ ρ S w Q)->c.wpIn (GF ro) 0 P Q a w
def LoopOk(Λ:LB)(P:Program)(cx:Cx)(n:Nat):Prop:=
 ∀(ro:Option Nat)(b:Code)(Q:Exit->Act->World->Prop)(ρ:aO)(F:Fr)(S:AS)(w:World)(a:Act),(ro=none\/cP b=true)->R Λ ρ S w->dT ρ F a ->
  (exec cx n (.loop b) F S).jK (iF Λ ρ S w Q)->Code.roundsIn (GF ro) 0 P b Q n a w
theorem iF.trans{ρ ρ':aO}{S S':AS}{w w':World}{Q:Exit->Act->World->Prop}{o:Out}(hk:Kp ρ S w ρ' S' w')(h:iF Λ ρ S w Q o):iF Λ ρ' S' w' Q o:=
 fun ρ'' e a vY h0 h1 h2 h3=>h ρ'' e a vY h0 h1 h2 (hk.trans h3)
theorem dT.srel{ρ:aO}{F:Fr}{a:Act}(h:dT ρ F a):ye ρ F a.tmps:=⟨h.slot,h.size⟩
theorem zY{ρ:aO}{as:List AV}{args:Array Value}(h:au ρ as args.toList)(n:Nat):
  dT ρ (kB as n) {tmps:=args++Array.replicate (n-args.size) undef,defers:=[]}:=by
 have hl:=h.length;refine⟨fun t=>?_,?_,(rfl:([]:List Deferred)=[])⟩
 .show ah ρ (match (T.ofL as 0 .leaf).get t with|some v=>v|none=>.undef) _;rw[vP];by_cases ht:t<as.length
  .rw[if_pos ⟨Nat.zero_le _,by omega⟩];obtain⟨x,hx⟩:∃x,as[t]?=some x:=⟨as[t],List.getElem?_eq_getElem ht⟩
   obtain⟨y,hy,hr⟩:=h.get hx;have hta:t<args.size:=by simp at hl;omega
   have e:(args++Array.replicate (n-args.size) undef).getD t undef=y:=by
    rw[Array.getD_eq_getD_getElem?,Array.getElem?_append_left hta,<-Array.getElem?_toList,hy];rfl
   rw[e,Nat.sub_zero,hx];exact hr
  .rw[if_neg (by omega),fD];have e:(args++Array.replicate (n-args.size) undef).getD t undef=undef:=by
    rw[Array.getD_eq_getD_getElem?];rcases Nat.lt_or_ge t (args++Array.replicate (n-args.size) undef).size with h1|h1
    .rw[Array.getElem?_append_right (by simp at hl;omega),Array.getElem?_replicate];split<;>rfl
    .rw[Array.getElem?_eq_none h1];rfl
   rw[e];exact ez ρ
 .show _=Nat.add (eG as) (Nat.sub n (eG as));rw[bJ];simp at hl;simp[hl]
theorem ye.eval{ρ:aO}{F:Fr}{tmps:Array Value}(h:ye ρ F tmps)(t:Tmp):ah ρ (Am.eval F (.tmp t)) (tmps.getD t undef):=by rw[mZ];exact h.slot t
theorem loadV_run{P:Program}{cx:Cx}(aC:dq Λ P cx){ρ:aO}{S:AS}{w:World}(hR:R Λ ρ S w){t:TypeId}{x v:AV}{x':Value}(h:oh cx S t x=some v)(hx:ah ρ x x'):
  ∃z,(do loadVar t (<-asAddr x')).run P w=.ok z w/\ah ρ v z:=by
 unfold oh at h;cases x<;>simp only[reduceCtorEq]at h;rename_i id g off lim;simp only[ah]at hx;obtain⟨pl,p1,p2,rfl⟩:=hx;cases ha:aG cx t with
 |none=>simp[ha]at h
 |some b=>
  cases b with
  |true=>
   simp only[ha]at h;cases hs:aE cx t with
   |none=>simp[hs]at h
   |some n=>
    simp only[hs]at h;cases hr:rd S id g off n lim with
    |none=>simp[hr]at h
    |some cs=>
     simp only[hr,Option.some.injEq]at h;subst h;obtain⟨arr,q1,q2,q3,q4,_⟩:=jU (P:=P) hR hr p1 p2;exact⟨.agg arr,by simp only[asAddr,loadVar,Sem.run_bind,Sem.run_pure,Result.andThen_ok,pY aC ha,if_true,dZ aC hs,q1],by simp only[ah];exact⟨arr,rfl,q3,q4⟩⟩
  |false=>
   simp only[ha]at h;split at h
   .rename_i u hr;simp only[Option.some.injEq]at h;subst h;obtain⟨arr,q1,q2,q3,q4,q5,q6⟩:=jU (P:=P) hR hr p1 p2;obtain⟨z,hz,hz2⟩:=q6 0 (by omega);refine⟨z,?_,?_⟩
    .simp only[Nat.add_zero]at hz;simp only[asAddr,loadVar,Sem.run_bind,Sem.run_pure,Result.andThen_ok,pY aC ha,Bool.false_eq_true,if_false,run_load,hz]
    .obtain⟨y,hy,eS⟩:=q3.get (i:=0) (x:=u) rfl;rw[hz2]at hy;cases hy;exact eS
   .cases h
theorem DM{P:Program}{cx:Cx}(aC:dq Λ P cx){ρ:aO}{S:AS}{w:World}(hR:R Λ ρ S w){F:Fr}{tmps:Array Value}(hF:ye ρ F tmps)(f:ResultVar->Sem Value)(hf:∀t,f (.tmp t)=pure (tmps.getD t undef))
  (BS:∀t ty,f (.cell t ty)=(do loadVar ty (<-asAddr (tmps.getD t undef)))):∀(l:List ResultVar)(vs:List AV),j9 cx F S l=some vs ->
  ∃xs:List Value,(l.mapM f).run P w=.ok xs w/\au ρ vs xs:=by
 intro l
 induction l with
 |nil=>intro vs h;have h':some []=some vs:=h;cases h';exact⟨[],rfl,au.nil⟩
 |cons r l ih=>
  intro vs h;have h':nB cx F S r (j9 cx F S l)=some vs:=h;unfold nB at h';cases hl:j9 cx F S l with
  |none=>rw[hl]at h';cases h'
  |some vs'=>
   rw[hl]at h';obtain⟨xs,h1,h2⟩:=ih vs' hl;cases r with
   |tmp t=>
    cases h';refine⟨tmps.getD t undef::xs,?_,au.cons (hF.eval t) h2⟩;simp only[List.mapM_cons,Sem.run_bind,hf,Sem.run_pure,Result.andThen_ok,h1]
   |cell t ty=>
    simp only[]at h';cases hv:oh cx S ty (eval F (.tmp t))with
    |none=>rw[hv]at h';cases h'
    |some v=>
     rw[hv]at h';cases h';obtain⟨z,r1,r2⟩:=loadV_run (P:=P) aC hR hv (hF.eval t);refine⟨z::xs,?_,au.cons r2 h2⟩;have r1':(f (.cell t ty)).run P w=.ok z w:=by rw[BS];exact r1
     simp only[List.mapM_cons,Sem.run_bind,r1',Sem.run_pure,Result.andThen_ok,h1]
theorem nz{P:Program}{cx:Cx}(aC:dq Λ P cx){ρ:aO}{S:AS}{w:World}(hR:R Λ ρ S w){F:Fr}{tmps:Array Value}{fn:Func}{v:AV}(hF:ye ρ F tmps)(h:b9 cx fn F S=some v):
  ∃x,(results fn tmps).run P w=.ok x w/\ah ρ v x:=by
 unfold b9 at h;obtain ⟨f, hf, BS, iN⟩ : ∃ f : ResultVar → Sem Value, (∀ t, f (.tmp t) = pure (tmps.getD t undef)) ∧ (∀ t ty, f (.cell t ty) = (do loadVar ty (← asAddr (tmps.getD t undef)))) ∧
   results fn tmps=(do let vs <-fn.results.mapM f;pure (if h:vs.size=1 then vs[0] else .tuple vs)):=by
  refine⟨_,?_,?_,rfl⟩
  .intro t;rfl
  .intro t ty;rfl
 rw[iN,Array.mapM_eq_mapM_toList];split at h
 .rename_i u hr;cases h;obtain⟨xs,h1,h2⟩:=DM (P:=P) aC hR hF f hf BS _ _ hr;simp only[au]at h2;obtain⟨y,ys,rfl,hy,rfl⟩:=h2;refine⟨y,?_,hy⟩;simp only[Sem.run_bind,Sem.run_map];rw[h1];rfl
 .rename_i vs cS hr;cases h;obtain⟨xs,h1,h2⟩:=DM (P:=P) aC hR hF f hf BS _ _ hr;refine⟨.tuple xs.toArray,?_,by simp only[ah];exact⟨_,rfl,by simpa using h2⟩⟩;have hl:=h2.length;have oE:xs.length≠1:=by
   intro e;cases vs with
   |nil=>simp at hl;omega
   |cons v vs=>cases vs with
    |nil=>exact cS v rfl
    |cons _ _=>simp at hl;omega
  simp only[Sem.run_bind,Sem.run_map];rw[h1];simp only[Result.andThen_ok,Sem.run_pure];rw[dif_neg (by simpa using oE)]
 .cases h
theorem putL_nil(F:Fr)(as:List AV):Bf F [] as=(match as with|[]=>some F|_=>none):=by cases as<;>rfl
theorem putL_cons(F:Fr)(p:Tmp)(ps:List Tmp)(as:List AV):Bf F (p::ps) as=(match as with|[]=>none|a::as=>Bf (bG F (some p) a) ps as):=by cases as<;>rfl
theorem DX{ρ:aO}:∀(ps:List Tmp)(as:List AV)(vs:List Value)(F F1:Fr)(tmps:Array Value),Bf F ps as=some F1->au ρ as vs->dT ρ F ⟨tmps,[]⟩ ->
  vs.length=ps.length/\dT ρ F1 ⟨(ps.zip vs).foldl (fun tmps (t,a)=>tmps.setIfInBounds t a) tmps,[]⟩
 |[],as,vs,F,F1,tmps,h,hl,hF=>by
  rw[putL_nil]at h;cases as with
  |cons a as=>cases h
  |nil=>
   cases h;simp only[au]at hl;subst hl;exact⟨rfl,hF⟩
 |p::ps,as,vs,F,F1,tmps,h,hl,hF=>by
  rw[putL_cons]at h;cases as with
  |nil=>cases h
  |cons a as=>
   simp only[au]at hl;obtain⟨y,ys,rfl,h1,h2⟩:=hl;obtain⟨r1,r2⟩:=DX ps as ys (bG F (some p) a) F1 (tmps.setIfInBounds p y) h h2 (hF.put (some p) h1);exact⟨by simp[r1],r2⟩
theorem sI{ρ:aO}{S:AS}{w:World}(hR:R Λ ρ S w){id:Nat}{st:LoopState}{j:Option Code}{F:Fr}{ps:Array Tmp}{x y:Code}{pl:Pl}(hp:ρ id 0=some pl)(ho:S.h.get id=some (.jk (.loop st j F ps x y))):
  ∃fn tmps d,w.heap[pl.b]?=some (.loop {state:=st,pending:=j,fn:=fn,tmps:=tmps,params:=ps,assign:=x,body:=y,defers:=d})/\ye ρ F tmps/\cP x=true/\cP y=true/\pl.base=0:=by
 obtain⟨dK,o,q1,q2,⟨fn,tmps,d,rfl,q4,q5,q6⟩,q7⟩:=hR.iM id _ ho;rw[hp]at q1;cases q1;exact⟨fn,tmps,d,q2,q4,q5,q6,q7⟩
theorem wH(w:World){b:Nat}{o o':Obj}(h:w.heap[b]?=some o'):But b w (w.putObj b o)/\(w.putObj b o).heap[b]?=some o:=by
 have cq:b<w.heap.size:=(Array.getElem?_eq_some_iff.1 h).1;exact⟨⟨⟨rfl,rfl,rfl⟩,by simp,fun k hk=>World.putObj_heap_other hk⟩,World.putObj_heap_same cq⟩
theorem R.A7{ρ:aO}{S:AS}{w:World}(hR:R Λ ρ S w){id:Nat}{st st':LoopState}{j j':Option Code}{F:Fr}{ps:Array Tmp}{x y:Code}{pl:Pl}(hp:ρ id 0=some pl)(ho:S.h.get id=some (.jk (.loop st j F ps x y)))
  {fn:FuncId} {tmps:Array Value} {d:Nat} (hw:w.heap[pl.b]?=some (.loop {state:=st,pending:=j,fn:=fn,tmps:=tmps,params:=ps,assign:=x,body:=y,defers:=d})) :
  R Λ ρ (lh S id (.loop st' j' F ps x y)) (w.putObj pl.b (.loop {state:=st',pending:=j',fn:=fn,tmps:=tmps,params:=ps,assign:=x,body:=y,defers:=d})) /\
   Kp ρ S w ρ (lh S id (.loop st' j' F ps x y)) (w.putObj pl.b (.loop {state:=st',pending:=j',fn:=fn,tmps:=tmps,params:=ps,assign:=x,body:=y,defers:=d})):=by
 obtain⟨fn',tmps',d',e1,e2,e3,e4,e5⟩:=sI hR hp ho;rw[hw]at e1;cases e1;obtain⟨b1,b2⟩:=wH w (o:=.loop {state:=st',pending:=j',fn:=fn,tmps:=tmps,params:=ps,assign:=x,body:=y,defers:=d}) hw;exact hR.setOth (x:=.loop st' j' F ps x y) ho (by intro a b c d t e;cases e) hp b1 b2 ⟨fn,tmps,d,rfl,e2,e3,e4⟩ e5
theorem DJ{P:Program}{ρ ρ':aO}{S S':AS}{w w':World}{id:Nat}{pl:Pl}{ex:Ex}{e:Exit}{a:Act}{fZ:Ending->World->Prop}(hp:ρ' id 0=some pl)(hR:R Λ ρ' S' w')(hk:Kp ρ S w ρ' S' w')(he:ExTo ρ' ex e)
  (h:(oS id ex S').jK (fun r=>∀ρ' e w',iK ρ' r.1 e->R Λ ρ' r.2 w'->Kp ρ S w ρ' r.2 w'->fZ e w')):roundPost P pl.b fZ e a w':=by
 unfold oS at h;split at h
 .rename_i st j F ps x y ho;obtain⟨fn,tmps,d,e1,_⟩:=sI hR hp ho;have fin:∀(jump:Option Code)(v:Bool),jump.isNone=v->(∀ρ'' e vY,iK ρ'' (.bool v) e->R Λ ρ'' (lh S' id (.loop (if jump.isNone then .ready else .done) jump F ps x y)) vY->Kp ρ S w ρ'' (lh S' id (.loop (if jump.isNone then .ready else .done) jump F ps x y)) vY->fZ e vY) ->
    ∃u vY,(Instr.endRound pl.b jump).run P w'=.ok u vY/\fZ (.returned u) vY:=by
   intro jump v hv hpost;obtain⟨t1,t2⟩:=hR.A7 (st':=if jump.isNone then .ready else .done) (j':=jump) hp ho e1;exact⟨_,_,run_endRound jump e1,hpost ρ' _ _ (by rw[hv];exact iK.of (by simp[ah])) t1 (hk.trans t2)⟩
  cases ex with
  |normal=>cases he;exact fin none true rfl h.1
  |ret=>cases he;exact fin (some .ret) false rfl h.1
  |exit i=>cases he;exact fin (some (.exit i)) false rfl h.1
  |goto l=>cases he;exact fin (some (.goto l)) false rfl h.1
  |dP v=>exact h.elim
 .exact h.elim
theorem roundF_ok{P:Program}{cx:Cx}{n:Nat}(hc:od Λ P cx n){ρ:aO}{id:Nat}{as:List AV}{S:AS}{w:World}{args:Array Value}{fZ:Ending->World->Prop}
  (h:(oR (exec cx n) id as S).jK (fun r=>∀ρ' e w',iK ρ' r.1 e->R Λ ρ' r.2 w'->Kp ρ S w ρ' r.2 w'->fZ e w')) (hR:R Λ ρ S w) (hl:au ρ as args.toList):TgtOk P ρ args w fZ (.round id):=by
 intro pl hp;unfold oR at h;split at h
 .rename_i j F ps x y ho;obtain⟨fn,tmps,d,e1,e2,e3,e4,e5⟩:=sI hR hp ho;cases hput:Bf ⟨F.t,F.n,[]⟩ ps.toList as with
  |none=>rw[hput]at h;exact h.elim
  |some F1=>
   rw[hput]at h;simp only[]at h;obtain⟨r1,r2⟩:=DX (ρ:=ρ) ps.toList as args.toList ⟨F.t,F.n,[]⟩ F1 tmps hput hl ⟨e2.slot,e2.size,(rfl:([]:List Deferred)=[])⟩;have lT:args.size=ps.size:=by simpa using r1
   refine⟨fn,_,x,y,run_yield e1 lT,roundIn_of_wpIn trivial ?_⟩;have hfold:(ps.zip args).foldl (fun tmps (t,a)=>tmps.setIfInBounds t a) tmps=(ps.toList.zip args.toList).foldl (fun tmps (t,a)=>tmps.setIfInBounds t a) tmps:=by
    rw[<-Array.foldl_toList,Array.toList_zip]
   rw[hfold];refine hc (some pl.b) x _ ρ F1 S w _ (.inr e3) hR r2 ((av.all_bind h).mono fun o sd ρ' e a' w' k0 k1 k2 k3=>?_);cases hex:o.ex with
   |normal=>
    rw[hex]at sd k0;cases k0;simp only[]at sd;split at sd
    .rename_i j' F' ps' x' y' qL;have j6:=k3.ext id 0 pl hp;obtain⟨fn',tmps',d',f1,f2,f3,f4,f5⟩:=sI k1 j6 qL;obtain⟨t1,t2⟩:=k1.A7 (st':=.busy) (j':=j') j6 qL f1;refine⟨_,run_beginRound f1 rfl,?_⟩;have hbody:y'=y':=rfl;refine hc (some pl.b) y _ ρ' o.F _ _ _ (.inr e4) t1 k2 ((av.all_bind sd).mono fun o2 ho2' ρ'' e2 a2 w2 m0 m1 m2 m3=>?_);exact DJ (m3.ext id 0 pl j6) m1 (k3.trans (t2.trans m3)) m0 ho2'
    .exact sd.elim
   |exit i=>rw[hex]at sd;exact sd.elim
   |ret=>rw[hex]at sd;exact sd.elim
   |goto l=>rw[hex]at sd;exact sd.elim
   |dP v=>rw[hex]at sd;exact sd.elim
 .exact h.elim
end Go.Am
