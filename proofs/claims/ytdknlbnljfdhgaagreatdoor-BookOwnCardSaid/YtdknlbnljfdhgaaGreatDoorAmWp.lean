/-
  The abstract machine against the model: operations in a row.
-/
import Derived.Test.YtdknlbnljfdhgaaGreatDoorAmSound
import Derived.LoopN
import Derived.OrdersIn
import Derived.RangeFuncIn
import Derived.RangeFuncRecord
namespace Go.Am
open Go
variable {Λ:LB}
def aj.cY {α:Type} (r:aj α) (p:α→Prop):Prop:=
 match r with
 | .err _=>False
 | .ok x xs=>p x∧∀ y,y∈xs→p y
theorem aj.cY.mono {α:Type} {r:aj α} {p q:α→Prop} (h:r.cY p) (hq:∀ x,p x→q x):r.cY q:=by
 cases r with
 | err n=>exact h
 | ok x xs=>exact ⟨hq x h.1,fun y hy=>hq y (h.2 y hy)⟩
theorem aj.all_app {α:Type} {a b:aj α} {p:α→Prop} (h:(aj.app a b).cY p):a.cY p∧b.cY p:=by
 cases a with
 | err n=>exact h.elim
 | ok x xs=>
  cases b with
  | err n=>exact h.elim
  | ok y ys=>
   obtain ⟨h1,h2⟩:=h;simp only[bw] at h2;exact ⟨⟨h1,fun z hz=>h2 z (List.mem_append_left _ hz)⟩,⟨h2 y (by simp),fun z hz=>h2 z (by simp[hz])⟩⟩
theorem aj.all_bind {α β:Type} {r:aj α} {f:α→aj β} {p:β→Prop} (h:(aj.bind r f).cY p):r.cY fun x=>(f x).cY p:=by
 cases r with
 | err n=>exact h.elim
 | ok x xs=>
  cases xs with
  | nil=>exact ⟨h,fun y hy=>by cases hy⟩
  | cons y ys=>
   have h':(aj.app (f x) (List.rec (motive:=fun _=>α→aj β) (fun y=>f y) (fun z _ ih y=>aj.app (f y) (ih z)) ys y)).cY p:=h;obtain ⟨h1,h2⟩:=aj.all_app h';refine ⟨h1,?_⟩;clear h h' h1
   induction ys generalizing y with
   | nil=>
    intro z hz;simp at hz;subst hz;exact h2
   | cons z ys ih=>
    have h3:(aj.app (f y) (List.rec (motive:=fun _=>α→aj β) (fun y=>f y) (fun z _ ih y=>aj.app (f y) (ih z)) ys z)).cY p:=h2;obtain ⟨h4,h5⟩:=aj.all_app h3;intro u hu;cases hu with
    | head=>exact h4
    | tail _ hu=>exact ih z h5 u hu
def GF (ro:Option Nat):Fence:=match ro with|none=>Fence.wide|some l=>Fence.wide.inRound l
theorem Av (ro:Option Nat) (f:FuncId):(GF ro).fn f:=by cases ro<;>trivial
theorem GF_room (ro:Option Nat) (n:Nat):(GF ro).room n:=by cases ro<;>exact room_wide n
theorem GF_round (ro:Option Nat):(GF ro).round=ro:=by cases ro<;>rfl
theorem yn (ro:Option Nat) {p:Prop} (h:(GF ro).depth.isSome=true):p:=by cases ro<;>simp[GF,Fence.wide] at h
theorem xV {ro:Option Nat} {n:Nat} {P:Program} {f:FuncId} {args:Array Value} {w:World} {R:Ending→World→Prop} (h:Calls P f args w R):CallsIn (GF ro) n P f args w R:=by
 have h':=callsIn_wide (n:=n).2 h;cases ro with
 | none=>exact h'
 | some l=>exact h'
theorem roundIn_GF {ro:Option Nat} {n:Nat} {P:Program} {l:Nat} {f:FuncId} {tmps:Array Value} {x y:Code} {w:World} {R:Ending→World→Prop} (h:RoundIn Fence.wide n P l f tmps x y w R):RoundIn (GF ro) n P l f tmps x y w R:=by
 cases ro with
 | none=>exact h
 | some l=>exact h
def fT (ρ:aI) (v:AV) (e:Ending):Prop:=
 match v with
 | .dN u=>∃ x,e=.panicked [{ v:=x,recovered:=false }]∧ah ρ u x
 | v=>∃ x,e=.returned x∧ah ρ v x
theorem fT.of {ρ:aI} {v:AV} {x:Value} (h:ah ρ v x):fT ρ v (.returned x):=by
 cases v<;>first|exact ⟨x,rfl,h⟩|(simp only[ah] at h)
theorem fT.cases {ρ:aI} {v:AV} {e:Ending} (h:fT ρ v e):((∀ u,v≠.dN u)∧∃ x,e=.returned x∧ah ρ v x)∨∃ u x,v=.dN u∧e=.panicked [{ v:=x,recovered:=false }]∧ah ρ u x:=by
 cases v
 case dN u=>obtain ⟨x,e1,e2⟩:=h;exact .inr ⟨u,x,rfl,e1,e2⟩
 all_goals exact .inl ⟨(by intro u e;cases e),h⟩
theorem wN {β:Type} {u:AV} {p:AV→β} {k:β}:lu (.dN u) p k=p u:=rfl
theorem wO {β:Type} {v:AV} {p:AV→β} {k:β} (h:∀ u,v≠.dN u):lu v p k=k:=by
 cases v<;>first|rfl|exact absurd rfl (h _)
def pY (ρ:aI) (b:Bool) (v:AV) (e:Ending):Prop:=∃ x,ah ρ v x∧e=cond b (.panicked [{ v:=x,recovered:=false }]) (.returned x)
theorem pY.val {ρ:aI} {v:AV} {e:Ending} (h:pY ρ false v e):∃ x,e=.returned x∧ah ρ v x:=let ⟨x,a,b⟩:=h;⟨x,b,a⟩
theorem pY.dN {ρ:aI} {v:AV} {e:Ending} (h:pY ρ true v e):∃ x,e=.panicked [{ v:=x,recovered:=false }]∧ah ρ v x:=let ⟨x,a,b⟩:=h;⟨x,b,a⟩
theorem pY.of {ρ:aI} {v:AV} {x:Value} (h:ah ρ v x):pY ρ false v (.returned x):=⟨x,h,rfl⟩
theorem pY.ofPan {ρ:aI} {v:AV} {x:Value} (h:ah ρ v x):pY ρ true v (.panicked [{ v:=x,recovered:=false }]):=⟨x,h,rfl⟩
theorem C9 {Λ:LB} {ρ:aI} {S:AS} {w:World} {fW:Ending→World→Prop} {r:aj (AV×AS)} (h:(aj.bind r rH).cY fun r=>∀ ρ' e w',pY ρ' r.1 r.2.1 e→R Λ ρ' r.2.2 w'→Kp ρ S w ρ' r.2.2 w'→fW e w') :
  r.cY fun r=>∀ ρ' e w',fT ρ' r.1 e→R Λ ρ' r.2 w'→Kp ρ S w ρ' r.2 w'→fW e w':=by
 refine (aj.all_bind h).mono fun q hq ρ' e w' h0 h1 h2=>?_;unfold rH at hq;rcases h0.cases with ⟨hnp,x,rfl,hx⟩|⟨u,x,hu,rfl,hx⟩
 ·rw[wO hnp] at hq;exact hq.1 ρ' _ w' (pY.of hx) h1 h2
 ·rw[hu,wN] at hq;exact hq.1 ρ' _ w' (pY.ofPan hx) h1 h2
def TgtOk (P:Program) (ρ:aI) (args:Array Value) (w:World) (fW:Ending→World→Prop):Tgt→Prop
 | .fn f=>(∃ fn,P.funcs[f]?=some fn∧fn.body.isSome=true)∧Calls P f args w fW
 | .round id=>∀ pl,ρ id 0=some pl→∃ fn tmps x y,(Instr.yield pl.b args).run P w=.ok (.round pl.b fn tmps x y) w∧RoundIn Fence.wide 0 P pl.b fn tmps x y w fW
def ym (Λ:LB) (P:Program) (K:bg):Prop:=
 ∀ (ρ:aI) (t:Tgt) (as:List AV) (S:AS) (w:World) (args:Array Value) (fW:Ending→World→Prop),
  (K t as S).cY (fun r=>∀ ρ' e w',fT ρ' r.1 e→R Λ ρ' r.2 w'→Kp ρ S w ρ' r.2 w'→fW e w')→R Λ ρ S w→au ρ as args.toList→TgtOk P ρ args w fW t
def EndP (next:Act→World→Prop) (Q:Exit→Act→World→Prop) (a:Act) (dst:Option Tmp):Ending→World→Prop
 | .returned x,w=>next (a.put dst x) w
 | .panicked ch,w=>Q (.panic ch) a w
 | .outgrown,_=>False
theorem getD_bool {a:Act} {d:Nat} {b:Bool} (h:a.tmps.getD d undef=.bool b):a.tmps[d]?=some (.bool b):=by
 rw[Array.getD_eq_getD_getElem?] at h;cases hd:a.tmps[d]? with
 | none=>rw[hd] at h;cases h
 | some x=>rw[hd] at h;simp at h;rw[h]
theorem lI {ρ:aI} {F:Fr} {a:Act} (hF:eh ρ F a) {ops:Array Oper} {o:Oper} {b:Bool} (h:wanted ops.toList F o=some b) :
  Region.wanted o (yielded ops a.tmps)=b:=by
 unfold wanted at h;unfold Region.wanted;cases hg:o.guard with
 | none=>simp only[hg,Option.some.injEq] at h;simpa[hg] using h
 | some jw=>
  obtain ⟨j,want⟩:=jw;simp only[hg] at h ⊢;rw[gf] at h;unfold yielded;rw[Array.getElem?_toList] at h;cases hj:ops[j]? with
  | none=>simp only[hj,Option.some.injEq] at h;subst h;rfl
  | some p=>
   simp only[hj] at h;cases hd:p.dst with
   | none=>simp only[hd,Option.some.injEq] at h;subst h;simp[hd]
   | some d=>
    simp only[hd] at h;have hs:=hF.slot d;simp only[Option.bind_some,hd];cases hv:F.t.get d with
    | none=>
     rw[hv] at hs h;simp only[Option.some.injEq] at h;subst h;simp only[AV.undef,ah] at hs;obtain ⟨x,hx,_⟩:=hs;cases hm:a.tmps[d]? with
     | none=>rfl
     | some y=>
      rw[Array.getD_eq_getD_getElem?,hm] at hx;simp at hx;subst hx;rfl
    | some v=>
     rw[hv] at hs h;simp only[] at hs;have cN:(∀ c,a.tmps.getD d undef≠Value.bool c)→∀ c,a.tmps[d]?≠some (.bool c):=by
      intro cN c hc;exact absurd (by rw[Array.getD_eq_getD_getElem?,hc];rfl) (cN c)
     cases v<;>simp only[Option.some.injEq,reduceCtorEq] at h<;>(try simp only[ah] at hs)
     case bool c=>
      rw[getD_bool hs];subst h;cases want<;>cases c<;>rfl
     all_goals
      subst h;have rn:∀ c,a.tmps[d]?≠some (.bool c):=by
       refine cN fun c hc=>?_;rw[hc] at hs
       first
        | (cases hs;done)
        | (obtain ⟨_,hh,_⟩:=hs;cases hh;done)
        | (rename_i k _;obtain ⟨_,_,hh⟩:=hs;cases k<;>cases hh;done)
        | (obtain ⟨_,_,hh⟩:=hs;cases hh;done)
        | (obtain ⟨_,_,_,hh⟩:=hs;cases hh;done)
        | (obtain ⟨_,_,hh,_⟩:=hs;cases hh;done)
        | (obtain ⟨_,_,_,_,_,_,_,hh⟩:=hs;rcases hh with ⟨hh,_⟩|⟨_,_,_,_,hh⟩<;>cases hh)
      cases hm:a.tmps[d]? with
      | none=>rfl
      | some y=>cases y with
       | bool c=>exact absurd hm (rn c)
       | _=>rfl
theorem Ba {P:Program} {cx:Cx} {ro:Option Nat} (az:cX Λ P cx) {K:bg} (hK:ym Λ P K) {ρ:aI} {F:Fr} {S:AS} {w:World} {a:Act} (hR:R Λ ρ S w) (hF:eh ρ F a)
  {ops:Array Oper} {i:Nat} {o:Oper} (hi:ops[i]?=some o) {next:Act→World→Prop} {Q:Exit→Act→World→Prop}
  (h:(one cx K ops.toList o F S).cY fun r=>∀ ρ' e w',pY ρ' r.1 r.2.1 e→R Λ ρ' r.2.2 w'→Kp ρ S w ρ' r.2.2 w'→EndP next Q a o.dst e w') :
  wpOpIn (GF ro) 0 P ops Q i next a w:=by
 unfold wpOpIn;simp only[hi];unfold one at h;cases hw:wanted ops.toList F o with
 | none=>rw[hw] at h;exact h.elim
 | some b=>
  rw[hw] at h;rw[lI hF hw];have ha:∀ f,o.about P w a.eval=some f→(GF ro).fn f:=fun f _=>Av ro f;cases b with
  | false=>
   simp only[Bool.false_eq_true,if_false];exact ⟨ha,h.1 ρ _ w (pY.of (eA ρ)) hR (Kp.refl _ _ _)⟩
  | true=>
   simp only[if_true];refine ⟨ha,?_⟩;simp only[] at h;have hnd:∀ c,o.op≠.defer c:=by
    intro c e;have nI:bo cx F S o=.err 99:=by simp only[bo,e]
    rw[nI] at h;exact h
   rw[Oper.semAt_eq _ _ _ hnd];have val:∀ (v:AV) (S':AS),cr Λ P ρ S w (execOp a.eval o) v S'→(∀ ρ' e w',pY ρ' false v e→R Λ ρ' S' w'→Kp ρ S w ρ' S' w'→EndP next Q a o.dst e w') →
     o.uponIn (GF ro) 0 P a next Q ((execOp a.eval o).run P w):=by
    rintro v S' ⟨nx,x,ρ',w',r1,r2,r3,r4,r5⟩ h1;have hn:=h1 ρ' (.returned x) w' (pY.of r3) r4 r5;rw[r1];cases nx<;>simp only[Bd,Option.some.injEq,reduceCtorEq] at r2
    ·subst r2;exact hn
    ·subst r2;exact hn
   cases nI:bo cx F S o with
   | err n=>rw[nI] at h;exact h.elim
   | val v S'=>
    rw[nI] at h;exact val v S' (Ap az hR hF nI) h.1
   | enter f as S'=>
    rw[nI] at h;obtain ⟨rfl,args,e1,e2⟩:=aop_enter (P:=P) hF nI;obtain ⟨⟨fn,Eh,hbody⟩,xC⟩:=hK ρ (.fn f) as S' w args _ (C9 h) hR e2;rw[e1,az.enters f fn Eh hbody args w];refine ⟨fun hd=>yn ro hd,xV (xC.mono fun e w' he=>?_)⟩;cases e with
    | returned x=>exact he
    | panicked ch=>exact he
    | outgrown=>exact (he:False).elim
   | round id as S'=>
    rw[nI] at h;obtain ⟨rfl,pl,args,p1,e1,e2⟩:=aop_round (P:=P) hF nI;obtain ⟨fn,tmps,x,y,r1,r2⟩:=hK ρ (.round id) as S' w args _ (C9 h) hR e2 pl p1;rw[e1,r1];refine ⟨fun hd=>yn ro hd,roundIn_GF (r2.mono fun e w' he=>?_)⟩;cases e with
    | returned x=>exact he
    | panicked ch=>exact he
    | outgrown=>exact (he:False).elim
   | dN v S'=>
    rw[nI] at h;obtain ⟨rfl,_,x,r1,r2⟩:=aop_pan (P:=P) (w:=w) hF nI;rw[r1];exact h.1 ρ (.panicked [{ v:=x,recovered:=false }]) w (pY.ofPan r2) hR (Kp.refl _ _ _)
   | many l=>
    rw[nI] at h;cases l with
    | nil=>exact h.elim
    | cons y ys=>
     obtain ⟨r,hr,hs⟩:=aop_many (P:=P) hR hF nI (by simp);refine val r.1 r.2 hs ?_;cases hr with
     | head=>exact h.1
     | tail _ hr=>exact h.2 (valR r) (List.mem_map.2 ⟨r,hr,rfl⟩)
def ExTo (ρ:aI):Ex→Exit→Prop
 | .normal,e=>e=.normal
 | .exit id,e=>e=.exit id
 | .ret,e=>e=.ret
 | .goto l,e=>e=.goto l
 | .dN v,e=>∃ x,e=.panic [{ v:=x,recovered:=false }]∧ah ρ v x
def exOf:Option AV→Ex
 | none=>.normal
 | some v=>.dN v
theorem deferV_run {P:Program} {ρ:aI} {F:Fr} {a:Act} (hF:eh ρ F a) {c:Call} {d:vf} (h:kK F c=some d) (ty:TypeId):∃ d',(∀ w:World,(resolve a.eval c ty).run P w=.ok d' w)∧DRel ρ d d':=by
 unfold kK at h;obtain ⟨callee,xs,lF⟩:=c;cases callee with
 | builtin b=>cases h
 | invoke r m=>cases h
 | value f=>
  simp only[] at h;split at h
  ·rename_i g first captured he
   cases h;have hf:=hF.eval f;rw[he] at hf;simp only[ah] at hf;obtain ⟨p,q,e,hp,hq⟩:=hf;refine ⟨⟨.fn (.func g) q,p++xs.map a.eval⟩,fun w=>?_,q,rfl,?_,hq⟩
   ·simp only[resolve,e,Deferred.ofValue];rfl
   ·rw[bw,Array.toList_append];exact hp.append (kO hF xs)
  ·cases h
theorem Bm {o:Oper} {c:Call} (h:dG o=some c):o.op=.defer c:=by
 unfold dG at h;split at h
 ·cases h;assumption
 ·cases h
theorem runOps_wp {P:Program} {cx:Cx} {ro:Option Nat} (az:cX Λ P cx) {K:bg} (hK:ym Λ P K) {ops:Array Oper} (hro:ro=none∨Du ops.toList=true) {Q:Exit→Act→World→Prop} :
  ∀ (l:List Oper) (i:Nat) (ρ:aI) (F:Fr) (S:AS) (w:World) (a:Act),ops.toList.drop i=l→R Λ ρ S w→eh ρ F a →
  (bA cx K ops.toList l F S).cY (fun r=>∀ ρ' e a' w',ExTo ρ' (exOf r.1) e→R Λ ρ' r.2.2 w'→eh ρ' r.2.1 a'→Kp ρ S w ρ' r.2.2 w'→Q e a' w') →
  wpOpsIn (GF ro) 0 P ops Q (List.range' i l.length) a w:=by
 intro l
 induction l with
 | nil=>intro i ρ F S w a _ hR hF h;exact h.1 ρ _ a w rfl hR hF (Kp.refl _ _ _)
 | cons o l ih=>
  intro i ρ F S w a hd hR hF h;have hio:ops[i]?=some o:=by
   rw[←Array.getElem?_toList];have:(ops.toList.drop i)[0]?=some o:=by rw[hd];rfl
   rwa [List.getElem?_drop,Nat.add_zero] at this
  have zZ:ops.toList.drop (i+1)=l:=by
   rw[←List.drop_drop,hd];rfl
  rw[List.length_cons,List.range'_succ,wpOpsIn_cons];have vA:bA cx K ops.toList (o :: l) F S=(match dG o with
   | none=>aj.bind (one cx K ops.toList o F S) fun r=>cond r.1 (.ok (some r.2.1,F,r.2.2) []) (bA cx K ops.toList l (aO F o.dst r.2.1) r.2.2)
   | some c=>match wanted ops.toList F o with
    | some true=>match kK F c with
     | some d=>bA cx K ops.toList l (aO ⟨F.t,F.n,d :: F.ds⟩ o.dst .undef) S
     | none=>.err 1009
    | some false=>bA cx K ops.toList l (aO F o.dst .undef) S
    | none=>.err 1010):=rfl
  rw[vA] at h;cases Ek:dG o with
  | none=>
   rw[Ek] at h;refine Ba az hK hR hF hio ?_;refine (aj.all_bind h).mono fun r hr ρ' e w' hv hR' hk=>?_;obtain ⟨b,v,S'⟩:=r;cases b with
   | false=>
    obtain ⟨x,rfl,hx⟩:=hv.val;exact ih (i+1) ρ' _ _ w' _ zZ hR' ((hF.mono hk.ext).put o.dst hx) (hr.mono fun q hq ρ'' e a' vQ h0 h1 h2 h3=>hq ρ'' e a' vQ h0 h1 h2 (hk.trans h3))
   | true=>
    obtain ⟨x,rfl,hx⟩:=hv.dN;exact hr.1 ρ' _ a w' ⟨x,rfl,hx⟩ hR' (hF.mono hk.ext) hk
  | some c=>
   rw[Ek] at h;simp only[] at h;have nI:=Bm Ek;rcases hro with rfl|hp
   ·unfold wpOpIn;simp only[hio];cases hw:wanted ops.toList F o with
    | none=>rw[hw] at h;exact h.elim
    | some b=>
     rw[hw] at h;rw[lI hF hw];cases b with
     | false=>
      simp only[Bool.false_eq_true,if_false];exact ⟨fun f _=>Av none f,ih (i+1) ρ _ _ w _ zZ hR (hF.put o.dst (eA ρ)) h⟩
     | true=>
      simp only[if_true];refine ⟨fun f _=>Av none f,?_⟩;simp only[] at h;cases hdv:kK F c with
      | none=>rw[hdv] at h;exact h.elim
      | some d=>
       rw[hdv] at h;obtain ⟨d',r1,r2⟩:=deferV_run (P:=P) hF hdv o.type;have ma:(execOp a.eval o).run P w=.ok (.defer d') w:=by
        unfold execOp;rw[nI];simp only[Sem.run_bind,r1,Result.andThen_ok,Sem.run_pure]
       show o.uponIn (GF none) 0 P a _ Q ((execOp a.eval o).run P w);rw[ma];have hF2:eh ρ ⟨F.t,F.n,d :: F.ds⟩ { a with defers:=d' :: a.defers }:=⟨hF.slot,hF.size,d',a.defers,rfl,r2,hF.defers⟩
       exact ih (i+1) ρ _ _ w _ zZ hR (hF2.put o.dst (eA ρ)) h
   ·exfalso;have hm:o∈ops.toList:=List.mem_of_getElem? (by rw[Array.getElem?_toList];exact hio);have:=List.all_eq_true.1 hp o hm;rw[nI] at this;cases this
end Go.Am
