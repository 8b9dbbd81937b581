/-
  The abstract machine: an operation sees its operands alone.
-/
import Derived.Test.YthklfandhmkpiaaGreatDoorAmCall
open List renaming getElem?_eq_getElem->zza,getElem?_eq_none->zzc
open Nat renaming testBit_or->zzb,blt->zzd,lt_or_ge->zze
namespace Go.Am
open Go
theorem eval_congr{F F':Fr}{x:Operand}(h:∀t,x=.tmp t->F.t.get t=F'.t.get t):eval F x=eval F' x:=by
 cases x with
 |tmp t=>rw[mv,mv,h t rfl]
 |_=>rfl
theorem oF{F F':Fr}{x:Option Operand}{d:Nat}(h:∀y,x=some y->eval F y=eval F' y):bound F x d=bound F' x d:=by
 cases x with
 |none=>rfl
 |some y=>simp only[bound,h y rfl]
theorem qp{F F':Fr}{xs:Array Operand}(h:∀x,x∈xs.toList->eval F x=eval F' x):args F xs=args F' xs:=by
 simp only[args,fZ];exact List.map_congr_left h
theorem tu{cx:Cx}{F F':Fr}{pl:Nat->Option (Nat×Nat)}:∀(parts:List (Nat×Operand))(cells:List AV),(∀p,p∈parts->eval F p.2=eval F' p.2)->e9 cx F pl parts cells=e9 cx F' pl parts cells:=by
 intro parts
 induction parts with
 |nil=>intro cells _;rfl
 |cons p parts ih=>
  intro cells h;show (match pl p.1,cellsOf (eval F p.2)with
   |some (off,size),some new=>cond (Nat.beq (dN new) size&&Nat.ble (Nat.add off size) (dN cells)) (e9 cx F pl parts (ec off cells new)) none
   |_,_=>none)=(match pl p.1,cellsOf (eval F' p.2)with
   |some (off,size),some new=>cond (Nat.beq (dN new) size&&Nat.ble (Nat.add off size) (dN cells)) (e9 cx F' pl parts (ec off cells new)) none
   |_,_=>none)
  rw[h p (by simp)];split
  .rw[ih _ (fun q hq=>h q (by simp[hq]))]
  .rfl
theorem Bu{cx:Cx}{F F':Fr}{t:TypeId}{parts:List (Nat×Operand)}(h:∀p,p∈parts->eval F p.2=eval F' p.2):lF cx F t parts=lF cx F' t parts:=by
 unfold lF;simp only[tu parts _ h]
theorem Ah{cx:Cx}{F F':Fr}{t:TypeId}{x:AV}{lo hi mx:Option Operand}(h1:∀y,lo=some y->eval F y=eval F' y)(h2:∀y,hi=some y->eval F y=eval F' y)(h3:∀y,mx=some y->eval F y=eval F' y):
  fL cx F t x lo hi mx=fL cx F' t x lo hi mx:=by
 unfold fL bounds;simp only[oF h1,oF h2,oF h3]
theorem im{cx:Cx}{F F':Fr}{id:Nat}{op:Op}(h:∀x,x∈op.operands.toList->eval F x=eval F' x):aO cx F id op=aO cx F' id op:=by
 cases op<;>(try rfl)
 case box t x=>simp only[aO,h x (by simp[Op.operands])]
 case buildSlice t n parts=>
  have hp:∀p,p∈parts.toList->eval F p.2=eval F' p.2:=fun p hp=>h p.2 (by simp only[Op.operands];simpa using⟨p.1,by simpa using hp⟩);simp only[aO,tu parts.toList _ hp]
 case makeMap t r=>
  have:oz F r=oz F' r:=by
   cases r with
   |none=>rfl
   |some x=>simp only[oz,h x (by simp[Op.operands])]
  simp only[aO,this]
 case makeSlice t l c=>simp only[aO,h l (by simp[Op.operands]),h c (by simp[Op.operands])]
theorem zF{cx:Cx}{F F':Fr}{S:AS}{o:Oper}(h:∀x,x∈o.op.operands.toList->eval F x=eval F' x):bE cx F S o=bE cx F' S o:=by
 obtain⟨dst,op,ty,pos,after,guard⟩:=o;simp only at h;cases op<;>(try rfl)
 case move x=>simp only[bE,h x (by simp[Op.operands])]
 case assign x=>simp only[bE,h x (by simp[Op.operands])]
 case pick c a b=>simp only[bE,h c (by simp[Op.operands]),h a (by simp[Op.operands]),h b (by simp[Op.operands])]
 case box t x=>simp only[bE,im h]
 case build t parts=>
  have hp:∀p,p∈parts.toList->eval F p.2=eval F' p.2:=fun p hp=>h p.2 (by simp only[Op.operands];simpa using⟨p.1,by simpa using hp⟩);simp only[bE,Bu hp]
 case buildSlice t n parts=>simp only[bE,im h]
 case load t x=>simp only[bE,h x (by simp[Op.operands])]
 case store t x y=>simp only[bE,h x (by simp[Op.operands]),h y (by simp[Op.operands])]
 case nilCheck x=>simp only[bE,h x (by simp[Op.operands])]
 case binOp op t x y yt=>simp only[bE,h x (by simp[Op.operands]),h y (by simp[Op.operands])]
 case unOp op t x=>simp only[bE,h x (by simp[Op.operands])]
 case convert s d x=>simp only[bE,h x (by simp[Op.operands])]
 case makeInterface t x=>simp only[bE,h x (by simp[Op.operands])]
 case makeFunc fn a b=>
  have h1:=qp (F:=F) (F':=F') (xs:=a) fun x hx=>h x (by simp only[Op.operands];simp at hx⊢;exact .inl hx);have h2:=qp (F:=F) (F':=F') (xs:=b) fun x hx=>h x (by simp only[Op.operands];simp at hx⊢;exact .inr hx);simp only[bE,h1,h2]
 case makeMap t r=>simp only[bE,im h]
 case makeSlice t l c=>simp only[bE,im h]
 case slice t x lo hi mx=>
  have h0:=h x (by simp[Op.operands]);have h1:∀y,lo=some y->eval F y=eval F' y:=fun y e=>h y (by simp[Op.operands,e]);have h2:∀y,hi=some y->eval F y=eval F' y:=fun y e=>h y (by simp[Op.operands,e]);have h3:∀y,mx=some y->eval F y=eval F' y:=fun y e=>h y (by simp[Op.operands,e]);simp only[bE,h0,Ah h1 h2 h3]
 case fieldAddr t x f=>simp only[bE,h x (by simp[Op.operands])]
 case field t x f=>simp only[bE,h x (by simp[Op.operands])]
 case indexAddr t x i=>simp only[bE,h x (by simp[Op.operands]),h i (by simp[Op.operands])]
 case index t x i=>simp only[bE,h x (by simp[Op.operands]),h i (by simp[Op.operands])]
 case lookup t x i ok=>simp only[bE,h x (by simp[Op.operands]),h i (by simp[Op.operands])]
 case mapUpdate t m k v=>simp only[bE,h m (by simp[Op.operands]),h k (by simp[Op.operands]),h v (by simp[Op.operands])]
 case insert t m k v=>simp only[bE,h m (by simp[Op.operands]),h k (by simp[Op.operands]),h v (by simp[Op.operands])]
 case panic x=>simp only[bE,h x (by simp[Op.operands])]
 case typeAssert x a b ok=>simp only[bE,h x (by simp[Op.operands])]
 case extract x i=>simp only[bE,h x (by simp[Op.operands])]
 case call c=>
  obtain⟨callee,as,lG⟩:=c;have h1:=qp (F:=F) (F':=F') (xs:=as) fun x hx=>h x (by simp only[Op.operands,Call.operands];simp at hx⊢;exact .inr hx);cases callee with
  |value f=>
   have h0:=h f (by simp[Op.operands,Call.operands]);simp only[bE,h0,h1]
  |builtin b=>simp only[bE,h1]
  |invoke r m=>rfl
theorem rQ{F F':Fr}{ops:List Oper}{o:Oper}(h:∀t,t∈gh ops o->F.t.get t=F'.t.get t):∀x,x∈o.op.operands.toList->eval F x=eval F' x:=by
 intro x hx;refine eval_congr fun t e=>h t ?_;subst e;have:t∈qV o:=List.mem_filterMap.2 ⟨.tmp t,hx,rfl⟩;unfold gh;split
 .exact this
 .split
  .split
   .exact List.mem_cons_of_mem _ this
   .exact this
  .exact this
theorem jH{F F':Fr}{ops:List Oper}{o:Oper}(h:∀t,t∈gh ops o->F.t.get t=F'.t.get t):wanted ops F o=wanted ops F' o:=by
 unfold wanted;unfold gh at h;cases hg:o.guard with
 |none=>rfl
 |some jw=>
  obtain⟨j,want⟩:=jw;simp only[hg]at h⊢;cases hn:nth j ops with
  |none=>rfl
  |some p=>
   simp only[hn]at h⊢;cases hd:p.dst with
   |none=>rfl
   |some d=>
    simp only[hd]at h⊢;rw[h d (by simp)]
theorem Ey{cx:Cx}{F:Fr}{S S':AS}{o:Oper}{v:AV}(hc:fN cx o=.pure\/fN cx o=.read)(h:bE cx F S o=.val v S'):S'=S:=by
 obtain⟨dst,op,ty,pos,after,guard⟩:=o;have fr:∀r n,eR r S n=.val v S'->∃u o,r=some (u,o):=fun r n e=>by cases r with
  |none=>cases e
  |some x=>exact⟨x.1,x.2,rfl⟩
 cases op<;>simp only[fN,reduceCtorEq,or_self]at hc<;>simp only[bE]at h
 case move x=>cases h;rfl
 case assign x=>cases h;rfl
 case pick c a b=>split at h<;>first|(cases h;rfl)|cases h
 case build t parts=>exact (cC h).2
 case load t x=>
  split at h
  .repeat (split at h<;>try (first|(cases h;done)|(cases h;rfl)))
  .split at h
   .exact (cC h).2
   .cases h
  .cases h
 case typeAssert x a b ok=>exact (cC h).2
 case nilCheck x=>split at h<;>first|(cases h;rfl)|cases h
 case binOp op t x y yt=>exact (cC h).2
 case unOp op t x=>exact (cC h).2
 case convert s d x=>
  split at h
  .cases h;rfl
  .cases h;rfl
  .rename_i ds e s' qd nM he;rw[nM]at hc;simp at hc
  .repeat (split at h<;>try (first|(cases h;done)|(cases h;rfl)))
  .rename_i nM _;rw[nM]at hc;simp at hc
  .rename_i nM _;rw[nM]at hc;simp at hc
  .rename_i nM _;rw[nM]at hc;simp at hc
  .cases h
 case makeInterface t x=>split at h<;>first|(cases h;rfl)|cases h
 case makeFunc fn a b=>cases h;rfl
 case slice t x lo hi mx=>exact (cC h).2
 case fieldAddr t x f=>repeat (split at h<;>try (first|(cases h;done)|(cases h;rfl)))
 case field t x f=>
  split at h
  .split at h
   .exact (cC h).2
   .cases h
  .cases h
 case indexAddr t x i=>
  split at h
  .split at h
   .cases hc:(Nat.beq _ _&&zzd _ _)with
    |false=>rw[hc]at h;cases h
    |true=>rw[hc]at h;cases h;rfl
   .cases h
  .split at h
   .cases hc:zzd _ _ with
    |false=>rw[hc]at h;cases h
    |true=>rw[hc]at h;cases h;rfl
   .cases h
  .split at h
   .cases hc:zzd _ _ with
    |false=>rw[hc]at h;cases h
    |true=>rw[hc]at h;cases h;rfl
   .cases h
  .cases h
 case index t x i=>
  split at h
  .split at h<;>first|(cases h;rfl)|cases h
  .split at h
   .cases hc:zzd _ _ with
    |false=>rw[hc]at h;cases h
    |true=>rw[hc]at h;exact (cC h).2
   .cases h
  .cases h
 case lookup t x i ok=>exact (cC h).2
 case extract x i=>
  split at h
  .exact (cC h).2
  .cases h
 case call c=>
  obtain⟨callee,as,lG⟩:=c;cases callee with
  |value f=>simp at hc
  |invoke r m=>simp at hc
  |builtin b=>
   have hb:b=.len\/b=.cap\/b=.min\/b=.max:=by cases b<;>simp_all
   simp only[]at h;unfold aY at h;rcases hb with rfl|rfl|rfl|rfl<;>clear hc<;>split at h<;>(try contradiction)<;>(try (cases h;done))
   .split at h<;>first|(cases h;rfl)|(cases h;done)
   .split at h<;>first|(cases h;rfl)|(cases h;done)
   .exact (cC h).2
   .exact (cC h).2
theorem aop_pure{cx:Cx}{F:Fr}{S S2:AS}{o:Oper}{v:AV}(hc:fN cx o=.pure)(h:bE cx F S o=.val v S):bE cx F S2 o=.val v S2:=by
 obtain⟨dst,op,ty,pos,after,guard⟩:=o;have vv:∀(r:Option AV)(n:Nat),val? r S n=.val v S->val? r S2 n=.val v S2:=fun r n e=>by
  obtain⟨rfl,_⟩:=cC e;rfl
 cases op<;>simp only[fN,reduceCtorEq]at hc<;>simp only[bE]at h⊢
 case move x=>cases h;rfl
 case assign x=>cases h;rfl
 case pick c a b=>split at h<;>first|(cases h;rfl)|cases h
 case build t parts=>exact vv _ _ h
 case load t x=>
  cases x with
  |global g=>
   simp only[zq]at h⊢;split at h
   .exact vv _ _ h
   .cases h
  |tmp t=>cases hc
  |const v=>cases hc
  |func f=>cases hc
 case nilCheck x=>split at h<;>first|(cases h;rfl)|cases h
 case binOp op t x y yt=>exact vv _ _ h
 case unOp op t x=>exact vv _ _ h
 case convert s d x=>
  split at h
  .cases h;rfl
  .rename_i ds s' qd nM he;rw[nM]at hc;simp at hc
  .rename_i ds e s' qd nM he;rw[nM]at hc;simp at hc
  .rename_i xx e qd nM hno;rw[nM]at hc;simp at hc
  .rename_i nM _;rw[nM]at hc;simp at hc
  .rename_i nM _;rw[nM]at hc;simp at hc
  .rename_i nM _;rw[nM]at hc;simp at hc
  .cases h
 case typeAssert x a b ok=>exact vv _ _ h
 case makeInterface t x=>split at h<;>first|(cases h;rfl)|cases h
 case makeFunc fn a b=>cases h;rfl
 case slice t x lo hi mx=>exact vv _ _ h
 case fieldAddr t x f=>
  split at h
  .split at h
   .split at h
    .cases h;rfl
    .cases h
   .cases h
  .cases h
 case field t x f=>
  split at h
  .split at h
   .exact vv _ _ h
   .cases h
  .cases h
 case indexAddr t x i=>
  split at h
  .split at h
   .cases hc:(Nat.beq _ _&&zzd _ _)with
    |false=>rw[hc]at h;cases h
    |true=>rw[hc]at h;cases h;rfl
   .cases h
  .split at h
   .cases hc:zzd _ _ with
    |false=>rw[hc]at h;cases h
    |true=>rw[hc]at h;cases h;rfl
   .cases h
  .split at h
   .cases hc:zzd _ _ with
    |false=>rw[hc]at h;cases h
    |true=>rw[hc]at h;cases h;rfl
   .cases h
  .cases h
 case index t x i=>
  split at h
  .split at h<;>first|(cases h;rfl)|cases h
  .split at h
   .cases hc:zzd _ _ with
    |false=>rw[hc]at h;cases h
    |true=>rw[hc]at h;exact vv _ _ h
   .cases h
  .cases h
 case extract x i=>
  split at h
  .exact vv _ _ h
  .cases h
 case call c=>
  obtain⟨callee,as,lG⟩:=c;cases callee with
  |value f=>simp at hc
  |invoke r m=>simp at hc
  |builtin b=>
   have hb:b=.cap\/b=.min\/b=.max:=by cases b<;>simp_all
   simp only[]at h⊢;unfold aY at h⊢;rcases hb with rfl|rfl|rfl<;>clear hc<;>split at h<;>(try contradiction)<;>(try (cases h;done))
   .split at h<;>first|(cases h;rfl)|(cases h;done)
   .exact vv _ _ h
   .exact vv _ _ h
end Go.Am
namespace Go.Am
open Go
theorem Bx(m i:Nat):bit m i=m.testBit i:=by
 unfold bit;rw[bC,Nat.testBit_eq_decide_div_mod_eq];rfl
theorem oI{m i j:Nat}(h:m<2 ^ i)(hb:bit m j=true):j<i:=by
 rw[Bx]at hb;rcases zze j i with h1|h1
 .exact h1
 .have:=Nat.testBit_lt_two_pow (Nat.lt_of_lt_of_le h (Nat.pow_le_pow_right (by decide) h1));rw[this]at hb;cases hb
noncomputable def zt(acc:List Nat)(s:Nat)(e:Edge):Nat:=
 match e.ground with
 | .textOnly _=>s
 | .gcOnly _=>s
 |_=>dS (Nat.lor s (Nat.lor (Nat.pow 2 e.on) (match nth e.on acc with|some m=>m|none=>0))) fun n=>n
theorem qj{acc:List Nat}{s:Nat}{e:Edge}(h:Region.binds .any e=true):zt acc s e=s ||| (2 ^ e.on ||| (acc[e.on]?).getD 0):=by
 obtain⟨on,ground⟩:=e;have hn:(match nth on acc with|some m=>m|none=>0)=(acc[on]?).getD 0:=by
  rw[gq];cases acc[on]?<;>rfl
 cases ground<;>simp only[Region.binds]at h<;>(try (cases h;done))<;>(simp only[zt,aQ,hn];rfl)
theorem vV{acc:List Nat}{s:Nat}{e:Edge}(h:Region.binds .any e=false):zt acc s e=s:=by
 obtain⟨on,ground⟩:=e;cases ground<;>first|(cases h;done)|rfl
noncomputable def tC(acc:List Nat)(o:Oper):Nat:=o.after.toList.foldl (zt acc) 0
theorem fold_bits(acc:List Nat):∀(es:List Edge)(s j:Nat),(es.foldl (zt acc) s).testBit j=true ->
  s.testBit j=true\/∃e,e∈es/\Region.binds .any e=true/\(e.on=j\/((acc[e.on]?).getD 0).testBit j=true):=by
 intro es
 induction es with
 |nil=>intro s j h;exact .inl h
 |cons e es ih=>
  intro s j h;rcases ih _ _ h with h1|⟨e',h1,h2,h3⟩
  .cases hb:Region.binds .any e with
   |false=>rw[vV hb]at h1;exact .inl h1
   |true=>
    rw[qj hb,zzb,zzb,Nat.testBit_two_pow,Bool.or_eq_true,Bool.or_eq_true]at h1;rcases h1 with h1|h1|h1
    .exact .inl h1
    .exact .inr ⟨e,by simp,hb,.inl (by simpa using h1)⟩
    .exact .inr ⟨e,by simp,hb,.inr h1⟩
  .exact .inr ⟨e',by simp[h1],h2,h3⟩
theorem fold_has(acc:List Nat):∀(es:List Edge)(s:Nat)(j:Nat),(s.testBit j=true\/∃e,e∈es/\Region.binds .any e=true/\e.on=j)->(es.foldl (zt acc) s).testBit j=true:=by
 intro es
 induction es with
 |nil=>intro s j h;rcases h with h|⟨e,h,_⟩;exact h;cases h
 |cons e es ih=>
  intro s j h;refine ih _ _ ?_;rcases h with h|⟨e',h,hb,hj⟩
  .left;cases hb:Region.binds .any e with
   |false=>rw[vV hb];exact h
   |true=>rw[qj hb,zzb,h];rfl
  .cases h with
   |head=>
    left;rw[qj hb,zzb,zzb,Nat.testBit_two_pow];simp[hj]
   |tail _ h=>exact .inr ⟨e',h,hb,hj⟩
noncomputable def lh:List Oper->List Nat->List Nat
 |[],acc=>acc
 |o::l,acc=>lh l (acc++[tC acc o])
theorem befL_eq(ops:List Oper):befL ops=lh ops []:=by
 have gen:∀(l:List Oper)(acc:List Nat),(List.rec (motive:=fun _=>List Nat->List Nat) (fun acc=>acc)
  (fun o _ ih acc=>ih (gR acc [List.foldl (fun s (e:Edge)=>match e.ground with
   | .textOnly _=>s
   | .gcOnly _=>s
   |_=>dS (Nat.lor s (Nat.lor (Nat.pow 2 e.on) (match nth e.on acc with|some m=>m|none=>0))) fun n=>n) 0 o.after.toList])) l) acc=lh l acc:=by
  intro l
  induction l with
  |nil=>intro acc;rfl
  |cons o l ih=>
   intro acc;refine (ih _).trans ?_;show lh l _=lh l (acc++[tC acc o]);rw[cA];rfl
 exact gen ops []
theorem BA:∀(l:List Oper)(acc:List Nat),∃B,lh l acc=acc++B/\B.length=l.length/\∀(i:Nat)(o:Oper),l[i]?=some o->B[i]?=some (tC (acc++B.take i) o):=by
 intro l
 induction l with
 |nil=>intro acc;exact⟨[],by simp[lh],rfl,fun i o h=>by simp at h⟩
 |cons o l ih=>
  intro acc;obtain⟨B,h1,h2,h3⟩:=ih (acc++[tC acc o]);refine⟨tC acc o::B,by simp[lh,h1],by simp[h2],fun i p hp=>?_⟩;cases i with
  |zero=>simp at hp;subst hp;simp
  |succ i=>
   simp at hp;have:=h3 i p hp;simpa using this
structure Plan(ops:Array Oper)(rows:List Row):Prop where
 len:rows.length=ops.size
 row:∀(i:Nat)(r:Row),rows[i]?=some r->r.i=i/\ops[i]?=some r.o
 down:∀(i:Nat)(r:Row)(j:Nat),rows[i]?=some r->bit r.dy j=true->∃e,e∈r.o.after.toList/\Region.binds .any e=true/\(e.on=j\/∃r':Row,rows[e.on]?=some r'/\bit r'.dy j=true)
 edge:∀(i:Nat)(r:Row)(e:Edge),rows[i]?=some r->e∈r.o.after.toList->Region.binds .any e=true->bit r.dy e.on=true
theorem zip_rows(cx:Cx):∀(ops:List Oper)(bs:List Nat)(i0:Nat),bs.length=ops.length ->
  ∀(i:Nat)(r:Row),((List.rec (motive:=fun _=>List Nat->Nat->List Row) (fun _ _=>[])
  (fun o _ ih bs i=>List.casesOn (motive:=fun _=>List Row) bs [] fun b bs=>⟨o,b,fN cx o,i⟩::ih bs (Nat.succ i)) ops) bs i0)[i]?=some r ↔
   (∃o b,ops[i]?=some o/\bs[i]?=some b/\r=⟨o,b,fN cx o,i0+i⟩):=by
 intro ops
 induction ops with
 |nil=>intro bs i0 _ i r;simp
 |cons o ops ih=>
  intro bs i0 hl i r;cases bs with
  |nil=>simp at hl
  |cons b bs=>
   cases i with
   |zero=>
    constructor
    .intro h;exact⟨o,b,rfl,rfl,by simpa using (Option.some.inj h).symm⟩
    .rintro⟨o',b',h1,h2,rfl⟩;simp at h1 h2;subst h1 h2;rfl
   |succ i=>
    have:=ih bs (i0+1) (by simpa using hl) i r;constructor
    .intro h;obtain⟨o',b',h1,h2,h3⟩:=this.1 h;exact⟨o',b',by simpa using h1,by simpa using h2,by rw[h3];congr 1;omega⟩
    .rintro⟨o',b',h1,h2,h3⟩;exact this.2 ⟨o',b',by simpa using h1,by simpa using h2,by rw[h3];congr 1;omega⟩
theorem rowsL_get(cx:Cx)(ops:List Oper):∃B:List Nat,B.length=ops.length/\(∀(i:Nat)(o:Oper),ops[i]?=some o->B[i]?=some (tC (B.take i) o)) /\
  ∀(i:Nat)(r:Row),(dw cx ops)[i]?=some r↔∃o b,ops[i]?=some o/\B[i]?=some b/\r=⟨o,b,fN cx o,i⟩:=by
 obtain⟨B,h1,h2,h3⟩:=BA ops [];refine⟨B,h2,fun i o h=>by simpa using h3 i o h,fun i r=>?_⟩;have hb:befL ops=B:=by rw[befL_eq,h1];simp
 have:=zip_rows cx ops B 0 h2 i r;rw[<-hb]at this⊢;simpa[dw]using this
theorem jX(l:List Row)(i:Nat)(r:Row)(h:(settle l)[i]?=some r):∃r0,l[i]?=some r0/\r.o=r0.o/\r.dy=r0.dy/\r.i=r0.i/\(r.cls=r0.cls\/(r0.cls=.fresh/\r.cls=.vU)):=by
 unfold settle at h;simp only[fZ,List.getElem?_map]at h;cases hl:l[i]? with
 |none=>rw[hl]at h;cases h
 |some r0=>
  rw[hl]at h;simp only[Option.map_some,Option.some.injEq]at h;refine⟨r0,rfl,?_⟩;cases hc:(bU r0.cls&&gS (ordered r0) (gr (fun r=>bR r.cls||bU r.cls) l))with
  |false=>rw[hc]at h;simp only[cond_false]at h;subst h;exact⟨rfl,rfl,rfl,.inl rfl⟩
  |true=>
   rw[hc]at h;simp only[cond_true]at h;subst h;simp only[Bool.and_eq_true]at hc;refine⟨rfl,rfl,rfl,.inr ⟨?_,rfl⟩⟩;have:=hc.1;cases hk:r0.cls<;>rw[hk]at this<;>first|rfl|cases this
theorem uL(l:List Row):(settle l).length=l.length:=by
 unfold settle;simp only[fZ];simp
theorem rV(cx:Cx)(ops:Array Oper):Plan ops (settle (dw cx ops.toList))/\∀(i:Nat)(r:Row),(settle (dw cx ops.toList))[i]?=some r->(r.cls=.pure\/r.cls=.read)->fN cx r.o=r.cls:=by
 obtain⟨B,hl,hB,hr⟩:=rowsL_get cx ops.toList;have hlen:(dw cx ops.toList).length=ops.size:=by
  have h1:∀i,i<ops.size↔i<(dw cx ops.toList).length:=by
   intro i;constructor
   .intro h;have ho:ops.toList[i]?=some ops.toList[i]:=zza (by simpa using h);have hiB:i<B.length:=by rw[hl];simpa using h
    have hb:B[i]?=some B[i]:=zza hiB;have:=(hr i _).2 ⟨_,_,ho,hb,rfl⟩;rcases zze i (dw cx ops.toList).length with h'|h'
    .exact h'
    .rw[zzc h']at this;cases this
   .intro h;obtain⟨o,b,h1,_⟩:=(hr i _).1 (zza h);rcases zze i ops.size with h'|h'
    .exact h'
    .rw[zzc (by simpa using h')]at h1;cases h1
  have a:=h1 ops.size;have b:=h1 (dw cx ops.toList).length;omega
 refine⟨⟨by rw[uL,hlen],fun i r h=>?_,fun i r j h hb=>?_,fun i r e h he AQ=>?_⟩,fun i r h hc=>?_⟩
 .obtain⟨r0,h0,e1,e2,e3,e4⟩:=jX _ _ _ h;obtain⟨o,b,h1,h2,rfl⟩:=(hr i r0).1 h0;exact⟨e3,by rw[<-Array.getElem?_toList,h1,e1]⟩
 .obtain⟨r0,h0,e1,e2,e3,e4⟩:=jX _ _ _ h;obtain⟨o,b,h1,h2,rfl⟩:=(hr i r0).1 h0;rw[e2]at hb;have jQ:b=tC (B.take i) o:=by have:=hB i o h1;rw[h2]at this;exact Option.some.inj this
  simp only[Bx]at hb;rw[jQ]at hb;rcases fold_bits _ _ _ _ hb with h3|⟨e,h3,h4,h5⟩
  .simp at h3
  .refine⟨e,by rw[e1];exact h3,h4,?_⟩;rcases h5 with h5|h5
   .exact .inl h5
   .right;rw[List.getElem?_take]at h5;by_cases hei:e.on<i
    .rw[if_pos hei]at h5;cases hbe:B[e.on]? with
     |none=>rw[hbe]at h5;simp at h5
     |some m=>
      rw[hbe]at h5;have hio:i<ops.toList.length:=by
       rcases zze i ops.toList.length with h'|h'
       .exact h'
       .rw[zzc h']at h1;cases h1
      have hoe:ops.toList[e.on]?=some ops.toList[e.on]:=zza (by omega);have hre:=(hr e.on _).2 ⟨_,m,hoe,hbe,rfl⟩;have cR:e.on<(settle (dw cx ops.toList)).length:=by
       rw[uL,hlen];simp at hio;omega
      obtain⟨r1,hr1,_,f2,_,_⟩:=jX _ e.on _ (zza cR);rw[hre]at hr1;cases hr1;exact⟨_,zza cR,by rw[f2,Bx];simpa using h5⟩
    .rw[if_neg hei]at h5;simp at h5
 .obtain⟨r0,h0,e1,e2,e3,e4⟩:=jX _ _ _ h;obtain⟨o,b,h1,h2,rfl⟩:=(hr i r0).1 h0;have jQ:b=tC (B.take i) o:=by have:=hB i o h1;rw[h2]at this;exact Option.some.inj this
  rw[e2,Bx];show b.testBit e.on=true;rw[jQ];rw[e1]at he;exact fold_has _ _ _ _ (.inr ⟨e,he,AQ,rfl⟩)
 .obtain⟨r0,h0,e1,e2,e3,e4⟩:=jX _ _ _ h;obtain⟨o,b,h1,h2,rfl⟩:=(hr i r0).1 h0;rw[e1];rcases e4 with e4|⟨_,e5⟩
  .exact e4.symm
  .rw[e5]at hc;rcases hc with hc|hc<;>cases hc
end Go.Am
