/-
  The abstract machine against the model: code, calls.
-/
import Derived.Test.YtdknlbnljfdhgaaGreatDoorAmWp
import Derived.LoopNIn
import Derived.RecoverIn
import Derived.RangeFuncLeaves
namespace Go.Am
open Go
variable {Λ:LB}
def DrawnOk (Λ:LB) (P:Program) (cx:Cx):Prop:=
 ∀ (ro:Option Nat) (K:bg),ym Λ P K→∀ (ops:Array Oper) (id:Nat) (Q:Exit→Act→World→Prop) (ρ:aI) (F:Fr) (S:AS) (w:World) (a:Act),R Λ ρ S w→eh ρ F a →
  (cC cx K ops.toList F S).cY (fun r=>∀ ρ' e a' w',ExTo ρ' (exOf r.1) e→R Λ ρ' r.2.2 w'→eh ρ' r.2.1 a'→Kp ρ S w ρ' r.2.2 w'→Q e a' w')→(Code.region id ops true).wpIn (GF ro) 0 P Q a w
def iw (Λ:LB) (ρ:aI) (S:AS) (w:World) (Q:Exit→Act→World→Prop) (o:Out):Prop:=
 ∀ ρ' e a' w',ExTo ρ' o.ex e→R Λ ρ' o.S w'→eh ρ' o.F a'→Kp ρ S w ρ' o.S w'→Q e a' w'
def ng (Λ:LB) (P:Program) (cx:Cx) (n:Nat):Prop:=
 ∀ (ro:Option Nat) (c:Code) (Q:Exit→Act→World→Prop) (ρ:aI) (F:Fr) (S:AS) (w:World) (a:Act),(ro=none∨cl c=true)→R Λ ρ S w→eh ρ F a →
  (exec cx n c F S).cY (iw Λ ρ S w Q)→c.wpIn (GF ro) 0 P Q a w
def LoopOk (Λ:LB) (P:Program) (cx:Cx) (n:Nat):Prop:=
 ∀ (ro:Option Nat) (b:Code) (Q:Exit→Act→World→Prop) (ρ:aI) (F:Fr) (S:AS) (w:World) (a:Act),(ro=none∨cl b=true)→R Λ ρ S w→eh ρ F a →
  (exec cx n (.loop b) F S).cY (iw Λ ρ S w Q)→Code.roundsIn (GF ro) 0 P b Q n a w
theorem iw.trans {ρ ρ':aI} {S S':AS} {w w':World} {Q:Exit→Act→World→Prop} {o:Out} (hk:Kp ρ S w ρ' S' w') (h:iw Λ ρ S w Q o):iw Λ ρ' S' w' Q o:=
 fun ρ'' e a vQ h0 h1 h2 h3=>h ρ'' e a vQ h0 h1 h2 (hk.trans h3)
theorem eh.srel {ρ:aI} {F:Fr} {a:Act} (h:eh ρ F a):yj ρ F a.tmps:=⟨h.slot,h.size⟩
theorem zQ {ρ:aI} {as:List AV} {args:Array Value} (h:au ρ as args.toList) (n:Nat) :
  eh ρ (kZ as n) { tmps:=args++Array.replicate (n-args.size) undef,defers:=[] }:=by
 have hl:=h.length;refine ⟨fun t=>?_,?_,(rfl:([]:List Deferred)=[])⟩
 ·show ah ρ (match (T.ofL as 0 .leaf).get t with|some v=>v|none=>.undef) _;rw[vD];by_cases ht:t<as.length
  ·rw[if_pos ⟨Nat.zero_le _,by omega⟩];obtain ⟨x,hx⟩:∃ x,as[t]?=some x:=⟨as[t],List.getElem?_eq_getElem ht⟩
   obtain ⟨y,hy,hr⟩:=h.get hx;have hta:t<args.size:=by simp at hl;omega
   have e:(args++Array.replicate (n-args.size) undef).getD t undef=y:=by
    rw[Array.getD_eq_getD_getElem?,Array.getElem?_append_left hta,←Array.getElem?_toList,hy];rfl
   rw[e,Nat.sub_zero,hx];exact hr
  ·rw[if_neg (by omega),dz];have e:(args++Array.replicate (n-args.size) undef).getD t undef=undef:=by
    rw[Array.getD_eq_getD_getElem?];rcases Nat.lt_or_ge t (args++Array.replicate (n-args.size) undef).size with h1|h1
    ·rw[Array.getElem?_append_right (by simp at hl;omega),Array.getElem?_replicate];split<;>rfl
    ·rw[Array.getElem?_eq_none h1];rfl
   rw[e];exact eA ρ
 ·show _=Nat.add (dv as) (Nat.sub n (dv as));rw[bp];simp at hl;simp[hl]
theorem yj.eval {ρ:aI} {F:Fr} {tmps:Array Value} (h:yj ρ F tmps) (t:Tmp):ah ρ (Am.eval F (.tmp t)) (tmps.getD t undef):=by rw[mn];exact h.slot t
theorem loadV_run {P:Program} {cx:Cx} (az:cX Λ P cx) {ρ:aI} {S:AS} {w:World} (hR:R Λ ρ S w) {t:TypeId} {x v:AV} {x':Value} (h:nr cx S t x=some v) (hx:ah ρ x x') :
  ∃ z,(do loadVar t (←asAddr x')).run P w=.ok z w∧ah ρ v z:=by
 unfold nr at h;cases x<;>simp only[reduceCtorEq] at h;rename_i id g off ay;simp only[ah] at hx;obtain ⟨pl,p1,p2,rfl⟩:=hx;cases ha:aD cx t with
 | none=>simp[ha] at h
 | some b=>
  cases b with
  | true=>
   simp only[ha] at h;cases hs:aA cx t with
   | none=>simp[hs] at h
   | some n=>
    simp only[hs] at h;cases hr:rd S id g off n ay with
    | none=>simp[hr] at h
    | some cs=>
     simp only[hr,Option.some.injEq] at h;subst h;obtain ⟨arr,q1,q2,q3,q4,_⟩:=jA (P:=P) hR hr p1 p2;exact ⟨.agg arr,by simp only[asAddr,loadVar,Sem.run_bind,Sem.run_pure,Result.andThen_ok,kW az ha,if_true,dP az hs,q1],by simp only[ah];exact ⟨arr,rfl,q3,q4⟩⟩
  | false=>
   simp only[ha] at h;split at h
   ·rename_i u hr;simp only[Option.some.injEq] at h;subst h;obtain ⟨arr,q1,q2,q3,q4,q5,q6⟩:=jA (P:=P) hR hr p1 p2;obtain ⟨z,hz,hz2⟩:=q6 0 (by omega);refine ⟨z,?_,?_⟩
    ·simp only[Nat.add_zero] at hz;simp only[asAddr,loadVar,Sem.run_bind,Sem.run_pure,Result.andThen_ok,kW az ha,Bool.false_eq_true,if_false,run_load,hz]
    ·obtain ⟨y,hy,fk⟩:=q3.get (i:=0) (x:=u) rfl;rw[hz2] at hy;cases hy;exact fk
   ·cases h
theorem Da {P:Program} {cx:Cx} (az:cX Λ P cx) {ρ:aI} {S:AS} {w:World} (hR:R Λ ρ S w) {F:Fr} {tmps:Array Value} (hF:yj ρ F tmps) (f:ResultVar→Sem Value) (hf:∀ t,f (.tmp t)=pure (tmps.getD t undef))
  (hf2:∀ t ty,f (.cell t ty)=(do loadVar ty (←asAddr (tmps.getD t undef)))):∀ (l:List ResultVar) (vs:List AV),kA cx F S l=some vs →
  ∃ xs:List Value,(l.mapM f).run P w=.ok xs w∧au ρ vs xs:=by
 intro l
 induction l with
 | nil=>intro vs h;have h':some []=some vs:=h;cases h';exact ⟨[],rfl,au.nil⟩
 | cons r l ih=>
  intro vs h;have h':mQ cx F S r (kA cx F S l)=some vs:=h;unfold mQ at h';cases hl:kA cx F S l with
  | none=>rw[hl] at h';cases h'
  | some vs'=>
   rw[hl] at h';obtain ⟨xs,h1,h2⟩:=ih vs' hl;cases r with
   | tmp t=>
    cases h';refine ⟨tmps.getD t undef :: xs,?_,au.cons (hF.eval t) h2⟩;simp only[List.mapM_cons,Sem.run_bind,hf,Sem.run_pure,Result.andThen_ok,h1]
   | cell t ty=>
    simp only[] at h';cases hv:nr cx S ty (eval F (.tmp t)) with
    | none=>rw[hv] at h';cases h'
    | some v=>
     rw[hv] at h';cases h';obtain ⟨z,r1,r2⟩:=loadV_run (P:=P) az hR hv (hF.eval t);refine ⟨z :: xs,?_,au.cons r2 h2⟩;have r1':(f (.cell t ty)).run P w=.ok z w:=by rw[hf2];exact r1
     simp only[List.mapM_cons,Sem.run_bind,r1',Sem.run_pure,Result.andThen_ok,h1]
theorem mO {P:Program} {cx:Cx} (az:cX Λ P cx) {ρ:aI} {S:AS} {w:World} (hR:R Λ ρ S w) {F:Fr} {tmps:Array Value} {fn:Func} {v:AV} (hF:yj ρ F tmps) (h:cZ cx fn F S=some v) :
  ∃ x,(results fn tmps).run P w=.ok x w∧ah ρ v x:=by
 unfold cZ at h;obtain ⟨f, hf, hf2, gC⟩ : ∃ f : ResultVar → Sem Value, (∀ t, f (.tmp t) = pure (tmps.getD t undef)) ∧ (∀ t ty, f (.cell t ty) = (do loadVar ty (← asAddr (tmps.getD t undef)))) ∧
   results fn tmps=(do let vs ←fn.results.mapM f;pure (if h:vs.size=1 then vs[0] else .tuple vs)):=by
  refine ⟨_,?_,?_,rfl⟩
  ·intro t;rfl
  ·intro t ty;rfl
 rw[gC,Array.mapM_eq_mapM_toList];split at h
 ·rename_i u hr;cases h;obtain ⟨xs,h1,h2⟩:=Da (P:=P) az hR hF f hf hf2 _ _ hr;simp only[au] at h2;obtain ⟨y,ys,rfl,hy,rfl⟩:=h2;refine ⟨y,?_,hy⟩;simp only[Sem.run_bind,Sem.run_map];rw[h1];rfl
 ·rename_i vs cN hr;cases h;obtain ⟨xs,h1,h2⟩:=Da (P:=P) az hR hF f hf hf2 _ _ hr;refine ⟨.tuple xs.toArray,?_,by simp only[ah];exact ⟨_,rfl,by simpa using h2⟩⟩;have hl:=h2.length;have Bt:xs.length≠1:=by
   intro e;cases vs with
   | nil=>simp at hl;omega
   | cons v vs=>cases vs with
    | nil=>exact cN v rfl
    | cons _ _=>simp at hl;omega
  simp only[Sem.run_bind,Sem.run_map];rw[h1];simp only[Result.andThen_ok,Sem.run_pure];rw[dif_neg (by simpa using Bt)]
 ·cases h
theorem putL_nil (F:Fr) (as:List AV):AX F [] as=(match as with|[]=>some F|_=>none):=by cases as<;>rfl
theorem putL_cons (F:Fr) (p:Tmp) (ps:List Tmp) (as:List AV):AX F (p :: ps) as=(match as with|[]=>none|a :: as=>AX (aO F (some p) a) ps as):=by cases as<;>rfl
theorem Dm {ρ:aI}:∀ (ps:List Tmp) (as:List AV) (vs:List Value) (F F1:Fr) (tmps:Array Value),AX F ps as=some F1→au ρ as vs→eh ρ F ⟨tmps,[]⟩ →
  vs.length=ps.length∧eh ρ F1 ⟨(ps.zip vs).foldl (fun tmps (t,a)=>tmps.setIfInBounds t a) tmps,[]⟩
 | [],as,vs,F,F1,tmps,h,hl,hF=>by
  rw[putL_nil] at h;cases as with
  | cons a as=>cases h
  | nil=>
   cases h;simp only[au] at hl;subst hl;exact ⟨rfl,hF⟩
 | p :: ps,as,vs,F,F1,tmps,h,hl,hF=>by
  rw[putL_cons] at h;cases as with
  | nil=>cases h
  | cons a as=>
   simp only[au] at hl;obtain ⟨y,ys,rfl,h1,h2⟩:=hl;obtain ⟨r1,r2⟩:=Dm ps as ys (aO F (some p) a) F1 (tmps.setIfInBounds p y) h h2 (hF.put (some p) h1);exact ⟨by simp[r1],r2⟩
theorem rR {ρ:aI} {S:AS} {w:World} (hR:R Λ ρ S w) {id:Nat} {st:LoopState} {j:Option Code} {F:Fr} {ps:Array Tmp} {x y:Code} {pl:Pl} (hp:ρ id 0=some pl) (ho:S.h.get id=some (.dO (.loop st j F ps x y))) :
  ∃ fn tmps d,w.heap[pl.b]?=some (.loop { state:=st,pending:=j,fn:=fn,tmps:=tmps,params:=ps,assign:=x,body:=y,defers:=d })∧yj ρ F tmps∧cl x=true∧cl y=true∧pl.base=0:=by
 obtain ⟨df,o,q1,q2,⟨fn,tmps,d,rfl,q4,q5,q6⟩,q7⟩:=hR.fi id _ ho;rw[hp] at q1;cases q1;exact ⟨fn,tmps,d,q2,q4,q5,q6,q7⟩
theorem wD (w:World) {b:Nat} {o o':Obj} (h:w.heap[b]?=some o'):But b w (w.putObj b o)∧(w.putObj b o).heap[b]?=some o:=by
 have bK:b<w.heap.size:=(Array.getElem?_eq_some_iff.1 h).1;exact ⟨⟨⟨rfl,rfl,rfl⟩,by simp,fun k hk=>World.putObj_heap_other hk⟩,World.putObj_heap_same bK⟩
theorem R.AM {ρ:aI} {S:AS} {w:World} (hR:R Λ ρ S w) {id:Nat} {st st':LoopState} {j j':Option Code} {F:Fr} {ps:Array Tmp} {x y:Code} {pl:Pl} (hp:ρ id 0=some pl) (ho:S.h.get id=some (.dO (.loop st j F ps x y)))
  {fn:FuncId} {tmps:Array Value} {d:Nat} (hw:w.heap[pl.b]?=some (.loop { state:=st,pending:=j,fn:=fn,tmps:=tmps,params:=ps,assign:=x,body:=y,defers:=d })) :
  R Λ ρ (jy S id (.loop st' j' F ps x y)) (w.putObj pl.b (.loop { state:=st',pending:=j',fn:=fn,tmps:=tmps,params:=ps,assign:=x,body:=y,defers:=d })) ∧
   Kp ρ S w ρ (jy S id (.loop st' j' F ps x y)) (w.putObj pl.b (.loop { state:=st',pending:=j',fn:=fn,tmps:=tmps,params:=ps,assign:=x,body:=y,defers:=d })):=by
 obtain ⟨fn',tmps',d',e1,e2,e3,e4,e5⟩:=rR hR hp ho;rw[hw] at e1;cases e1;obtain ⟨b1,b2⟩:=wD w (o:=.loop { state:=st',pending:=j',fn:=fn,tmps:=tmps,params:=ps,assign:=x,body:=y,defers:=d }) hw;exact hR.AL (x:=.loop st' j' F ps x y) ho (by intro a b c d t e;cases e) hp b1 b2 ⟨fn,tmps,d,rfl,e2,e3,e4⟩ e5
theorem C5 {P:Program} {ρ ρ':aI} {S S':AS} {w w':World} {id:Nat} {pl:Pl} {ex:Ex} {e:Exit} {a:Act} {fW:Ending→World→Prop} (hp:ρ' id 0=some pl) (hR:R Λ ρ' S' w') (hk:Kp ρ S w ρ' S' w') (he:ExTo ρ' ex e)
  (h:(kz id ex S').cY (fun r=>∀ ρ' e w',fT ρ' r.1 e→R Λ ρ' r.2 w'→Kp ρ S w ρ' r.2 w'→fW e w')):roundPost P pl.b fW e a w':=by
 unfold kz at h;split at h
 ·rename_i st j F ps x y ho;obtain ⟨fn,tmps,d,e1,_⟩:=rR hR hp ho;have fin:∀ (jump:Option Code) (v:Bool),jump.isNone=v→(∀ ρ'' e vQ,fT ρ'' (.bool v) e→R Λ ρ'' (jy S' id (.loop (if jump.isNone then .ready else .done) jump F ps x y)) vQ→Kp ρ S w ρ'' (jy S' id (.loop (if jump.isNone then .ready else .done) jump F ps x y)) vQ→fW e vQ) →
    ∃ u vQ,(Instr.endRound pl.b jump).run P w'=.ok u vQ∧fW (.returned u) vQ:=by
   intro jump v hv hpost;obtain ⟨t1,t2⟩:=hR.AM (st':=if jump.isNone then .ready else .done) (j':=jump) hp ho e1;exact ⟨_,_,run_endRound jump e1,hpost ρ' _ _ (by rw[hv];exact fT.of (by simp[ah])) t1 (hk.trans t2)⟩
  cases ex with
  | normal=>cases he;exact fin none true rfl h.1
  | ret=>cases he;exact fin (some .ret) false rfl h.1
  | exit i=>cases he;exact fin (some (.exit i)) false rfl h.1
  | goto l=>cases he;exact fin (some (.goto l)) false rfl h.1
  | dN v=>exact h.elim
 ·exact h.elim
theorem roundF_ok {P:Program} {cx:Cx} {n:Nat} (hc:ng Λ P cx n) {ρ:aI} {id:Nat} {as:List AV} {S:AS} {w:World} {args:Array Value} {fW:Ending→World→Prop}
  (h:(nY (exec cx n) id as S).cY (fun r=>∀ ρ' e w',fT ρ' r.1 e→R Λ ρ' r.2 w'→Kp ρ S w ρ' r.2 w'→fW e w')) (hR:R Λ ρ S w) (hl:au ρ as args.toList):TgtOk P ρ args w fW (.round id):=by
 intro pl hp;unfold nY at h;split at h
 ·rename_i j F ps x y ho;obtain ⟨fn,tmps,d,e1,e2,e3,e4,e5⟩:=rR hR hp ho;cases hput:AX ⟨F.t,F.n,[]⟩ ps.toList as with
  | none=>rw[hput] at h;exact h.elim
  | some F1=>
   rw[hput] at h;simp only[] at h;obtain ⟨r1,r2⟩:=Dm (ρ:=ρ) ps.toList as args.toList ⟨F.t,F.n,[]⟩ F1 tmps hput hl ⟨e2.slot,e2.size,(rfl:([]:List Deferred)=[])⟩;have gp:args.size=ps.size:=by simpa using r1
   refine ⟨fn,_,x,y,run_yield e1 gp,roundIn_of_wpIn trivial ?_⟩;have hfold:(ps.zip args).foldl (fun tmps (t,a)=>tmps.setIfInBounds t a) tmps=(ps.toList.zip args.toList).foldl (fun tmps (t,a)=>tmps.setIfInBounds t a) tmps:=by
    rw[←Array.foldl_toList,Array.toList_zip]
   rw[hfold];refine hc (some pl.b) x _ ρ F1 S w _ (.inr e3) hR r2 ((aj.all_bind h).mono fun o iU ρ' e a' w' k0 k1 k2 k3=>?_);cases hex:o.ex with
   | normal=>
    rw[hex] at iU k0;cases k0;simp only[] at iU;split at iU
    ·rename_i j' F' Ce x' y' nu;have gK:=k3.ext id 0 pl hp;obtain ⟨fn',tmps',d',f1,f2,f3,f4,f5⟩:=rR k1 gK nu;obtain ⟨t1,t2⟩:=k1.AM (st':=.busy) (j':=j') gK nu f1;refine ⟨_,run_beginRound f1 rfl,?_⟩;have hbody:y'=y':=rfl;refine hc (some pl.b) y _ ρ' o.F _ _ _ (.inr e4) t1 k2 ((aj.all_bind iU).mono fun o2 ho2' ρ'' e2 a2 w2 m0 m1 m2 m3=>?_);exact C5 (m3.ext id 0 pl gK) m1 (k3.trans (t2.trans m3)) m0 ho2'
    ·exact iU.elim
   | exit i=>rw[hex] at iU;exact iU.elim
   | ret=>rw[hex] at iU;exact iU.elim
   | goto l=>rw[hex] at iU;exact iU.elim
   | dN v=>rw[hex] at iU;exact iU.elim
 ·exact h.elim
end Go.Am
