/-
  The abstract machine: an operation sees its operands alone.
-/
import Derived.Test.YtdknlbnljfdhgaaGreatDoorAmCall
open Nat renaming blt->zza
namespace Go.Am
open Go
theorem eval_congr{F F':Fr}{x:Operand}(h:∀t,x=.tmp t->F.t.get t=F'.t.get t):eval F x=eval F' x:=by
 cases x with
 |tmp t=>rw[oM,oM,h t rfl]
 |_=>rfl
theorem rG{F F':Fr}{x:Option Operand}{d:Nat}(h:∀y,x=some y->eval F y=eval F' y):bound F x d=bound F' x d:=by
 cases x with
 |none=>rfl
 |some y=>simp only[bound,h y rfl]
theorem ua{F F':Fr}{xs:Array Operand}(h:∀x,x∈xs.toList->eval F x=eval F' x):args F xs=args F' xs:=by
 simp only[args,iw];exact List.map_congr_left h
theorem xC{cx:Cx}{F F':Fr}{pl:Nat->Option (Nat×Nat)}:∀(parts:List (Nat×Operand))(cells:List AV),(∀p,p∈parts->eval F p.2=eval F' p.2)->fO cx F pl parts cells=fO cx F' pl parts cells:=by
 intro parts
 induction parts with
 |nil=>intro cells _;rfl
 |cons p parts ih=>
  intro cells h;show (match pl p.1,cellsOf (eval F p.2)with
   |some (off,size),some new=>cond (Nat.beq (fw new) size&&Nat.ble (Nat.add off size) (fw cells)) (fO cx F pl parts (dq off cells new)) none
   |_,_=>none)=(match pl p.1,cellsOf (eval F' p.2)with
   |some (off,size),some new=>cond (Nat.beq (fw new) size&&Nat.ble (Nat.add off size) (fw cells)) (fO cx F' pl parts (dq off cells new)) none
   |_,_=>none)
  rw[h p (by simp)];split
  .rw[ih _ (fun q hq=>h q (by simp[hq]))]
  .rfl
theorem E1{cx:Cx}{F F':Fr}{t:TypeId}{parts:List (Nat×Operand)}(h:∀p,p∈parts->eval F p.2=eval F' p.2):qb cx F t parts=qb cx F' t parts:=by
 unfold qb;simp only[xC parts _ h]
theorem Dy{cx:Cx}{F F':Fr}{t:TypeId}{x:AV}{lo hi mx:Option Operand}(h1:∀y,lo=some y->eval F y=eval F' y)(h2:∀y,hi=some y->eval F y=eval F' y)(h3:∀y,mx=some y->eval F y=eval F' y):
  dT cx F t x lo hi mx=dT cx F' t x lo hi mx:=by
 unfold dT bounds;simp only[rG h1,rG h2,rG h3]
theorem jU{cx:Cx}{F F':Fr}{id:Nat}{op:Op}(h:∀x,x∈op.operands.toList->eval F x=eval F' x):aD cx F id op=aD cx F' id op:=by
 cases op<;>(try rfl)
 case box t x=>simp only[aD,h x (by simp[Op.operands])]
 case buildSlice t n parts=>
  have hp:∀p,p∈parts.toList->eval F p.2=eval F' p.2:=fun p hp=>h p.2 (by simp only[Op.operands];simpa using⟨p.1,by simpa using hp⟩);simp only[aD,xC parts.toList _ hp]
 case makeMap t r=>
  have:tO F r=tO F' r:=by
   cases r with
   |none=>rfl
   |some x=>simp only[tO,h x (by simp[Op.operands])]
  simp only[aD,this]
 case makeSlice t l c=>simp only[aD,h l (by simp[Op.operands]),h c (by simp[Op.operands])]
theorem Dg{cx:Cx}{F F':Fr}{S:AS}{o:Oper}(h:∀x,x∈o.op.operands.toList->eval F x=eval F' x):bF cx F S o=bF cx F' S o:=by
 obtain⟨dst,op,ty,pos,after,guard⟩:=o;simp only at h;cases op<;>(try rfl)
 case move x=>simp only[bF,h x (by simp[Op.operands])]
 case assign x=>simp only[bF,h x (by simp[Op.operands])]
 case pick c a b=>simp only[bF,h c (by simp[Op.operands]),h a (by simp[Op.operands]),h b (by simp[Op.operands])]
 case box t x=>simp only[bF,jU h]
 case build t parts=>
  have hp:∀p,p∈parts.toList->eval F p.2=eval F' p.2:=fun p hp=>h p.2 (by simp only[Op.operands];simpa using⟨p.1,by simpa using hp⟩);simp only[bF,E1 hp]
 case buildSlice t n parts=>simp only[bF,jU h]
 case load t x=>simp only[bF,h x (by simp[Op.operands])]
 case store t x y=>simp only[bF,h x (by simp[Op.operands]),h y (by simp[Op.operands])]
 case nilCheck x=>simp only[bF,h x (by simp[Op.operands])]
 case binOp op t x y yt=>simp only[bF,h x (by simp[Op.operands]),h y (by simp[Op.operands])]
 case unOp op t x=>simp only[bF,h x (by simp[Op.operands])]
 case convert s d x=>simp only[bF,h x (by simp[Op.operands])]
 case makeInterface t x=>simp only[bF,h x (by simp[Op.operands])]
 case makeFunc fn a b=>
  have h1:=ua (F:=F) (F':=F') (xs:=a) fun x hx=>h x (by simp only[Op.operands];simp at hx⊢;exact .inl hx);have h2:=ua (F:=F) (F':=F') (xs:=b) fun x hx=>h x (by simp only[Op.operands];simp at hx⊢;exact .inr hx);simp only[bF,h1,h2]
 case makeMap t r=>simp only[bF,jU h]
 case makeSlice t l c=>simp only[bF,jU h]
 case slice t x lo hi mx=>
  have h0:=h x (by simp[Op.operands]);have h1:∀y,lo=some y->eval F y=eval F' y:=fun y e=>h y (by simp[Op.operands,e]);have h2:∀y,hi=some y->eval F y=eval F' y:=fun y e=>h y (by simp[Op.operands,e]);have h3:∀y,mx=some y->eval F y=eval F' y:=fun y e=>h y (by simp[Op.operands,e]);simp only[bF,h0,Dy h1 h2 h3]
 case fieldAddr t x f=>simp only[bF,h x (by simp[Op.operands])]
 case field t x f=>simp only[bF,h x (by simp[Op.operands])]
 case indexAddr t x i=>simp only[bF,h x (by simp[Op.operands]),h i (by simp[Op.operands])]
 case index t x i=>simp only[bF,h x (by simp[Op.operands]),h i (by simp[Op.operands])]
 case lookup t x i ok=>simp only[bF,h x (by simp[Op.operands]),h i (by simp[Op.operands])]
 case mapUpdate t m k v=>simp only[bF,h m (by simp[Op.operands]),h k (by simp[Op.operands]),h v (by simp[Op.operands])]
 case insert t m k v=>simp only[bF,h m (by simp[Op.operands]),h k (by simp[Op.operands]),h v (by simp[Op.operands])]
 case panic x=>simp only[bF,h x (by simp[Op.operands])]
 case typeAssert x a b ok=>simp only[bF,h x (by simp[Op.operands])]
 case extract x i=>simp only[bF,h x (by simp[Op.operands])]
 case call c=>
  obtain⟨callee,as,nN⟩:=c;have h1:=ua (F:=F) (F':=F') (xs:=as) fun x hx=>h x (by simp only[Op.operands,Call.operands];simp at hx⊢;exact .inr hx);cases callee with
  |value f=>
   have h0:=h f (by simp[Op.operands,Call.operands]);simp only[bF,h0,h1]
  |builtin b=>simp only[bF,h1]
  |invoke r m=>rfl
theorem vO{F F':Fr}{ops:List Oper}{o:Oper}(h:∀t,t∈iG ops o->F.t.get t=F'.t.get t):∀x,x∈o.op.operands.toList->eval F x=eval F' x:=by
 intro x hx;refine eval_congr fun t e=>h t ?_;subst e;have:t∈uR o:=List.mem_filterMap.2 ⟨.tmp t,hx,rfl⟩;unfold iG;split
 .exact this
 .split
  .split
   .exact List.mem_cons_of_mem _ this
   .exact this
  .exact this
theorem lV{F F':Fr}{ops:List Oper}{o:Oper}(h:∀t,t∈iG ops o->F.t.get t=F'.t.get t):wanted ops F o=wanted ops F' o:=by
 unfold wanted;unfold iG at h;cases hg:o.guard with
 |none=>rfl
 |some jw=>
  obtain⟨j,want⟩:=jw;simp only[hg]at h⊢;cases hn:nth j ops with
  |none=>rfl
  |some p=>
   simp only[hn]at h⊢;cases hd:p.dst with
   |none=>rfl
   |some d=>
    simp only[hd]at h⊢;rw[h d (by simp)]
theorem IJ{cx:Cx}{F:Fr}{S S':AS}{o:Oper}{v:AV}(hc:ie cx o=.pure\/ie cx o=.read)(h:bF cx F S o=.val v S'):S'=S:=by
 obtain⟨dst,op,ty,pos,after,guard⟩:=o;have fr:∀r n,iL r S n=.val v S'->∃u o,r=some (u,o):=fun r n e=>by cases r with
  |none=>cases e
  |some x=>exact⟨x.1,x.2,rfl⟩
 cases op<;>simp only[ie,reduceCtorEq,or_self]at hc<;>simp only[bF]at h
 case move x=>cases h;rfl
 case assign x=>cases h;rfl
 case pick c a b=>split at h<;>first|(cases h;rfl)|cases h
 case build t parts=>exact (cV h).2
 case load t x=>
  split at h
  .repeat (split at h<;>try (first|(cases h;done)|(cases h;rfl)))
  .split at h
   .exact (cV h).2
   .cases h
  .cases h
 case typeAssert x a b ok=>exact (cV h).2
 case nilCheck x=>split at h<;>first|(cases h;rfl)|cases h
 case binOp op t x y yt=>exact (cV h).2
 case unOp op t x=>exact (cV h).2
 case convert s d x=>
  split at h
  .cases h;rfl
  .cases h;rfl
  .rename_i ds e s' sN sh he;rw[sh]at hc;simp at hc
  .repeat (split at h<;>try (first|(cases h;done)|(cases h;rfl)))
  .rename_i sh _;rw[sh]at hc;simp at hc
  .rename_i sh _;rw[sh]at hc;simp at hc
  .rename_i sh _;rw[sh]at hc;simp at hc
  .cases h
 case makeInterface t x=>split at h<;>first|(cases h;rfl)|cases h
 case makeFunc fn a b=>cases h;rfl
 case slice t x lo hi mx=>exact (cV h).2
 case fieldAddr t x f=>repeat (split at h<;>try (first|(cases h;done)|(cases h;rfl)))
 case field t x f=>
  split at h
  .split at h
   .exact (cV h).2
   .cases h
  .cases h
 case indexAddr t x i=>
  split at h
  .split at h
   .cases hc:(Nat.beq _ _&&zza _ _)with
    |false=>rw[hc]at h;cases h
    |true=>rw[hc]at h;cases h;rfl
   .cases h
  .split at h
   .cases hc:zza _ _ with
    |false=>rw[hc]at h;cases h
    |true=>rw[hc]at h;cases h;rfl
   .cases h
  .split at h
   .cases hc:zza _ _ with
    |false=>rw[hc]at h;cases h
    |true=>rw[hc]at h;cases h;rfl
   .cases h
  .cases h
 case index t x i=>
  split at h
  .split at h<;>first|(cases h;rfl)|cases h
  .split at h
   .cases hc:zza _ _ with
    |false=>rw[hc]at h;cases h
    |true=>rw[hc]at h;exact (cV h).2
   .cases h
  .cases h
 case lookup t x i ok=>exact (cV h).2
 case extract x i=>
  split at h
  .exact (cV h).2
  .cases h
 case call c=>
  obtain⟨callee,as,nN⟩:=c;cases callee with
  |value f=>simp at hc
  |invoke r m=>simp at hc
  |builtin b=>
   have hb:b=.len\/b=.cap\/b=.min\/b=.max:=by cases b<;>simp_all
   simp only[]at h;unfold bh at h;rcases hb with rfl|rfl|rfl|rfl<;>clear hc<;>split at h<;>(try contradiction)<;>(try (cases h;done))
   .split at h<;>first|(cases h;rfl)|(cases h;done)
   .split at h<;>first|(cases h;rfl)|(cases h;done)
   .exact (cV h).2
   .exact (cV h).2
theorem WK{cx:Cx}{F:Fr}{S S2:AS}{o:Oper}{v:AV}(hc:ie cx o=.pure)(h:bF cx F S o=.val v S):bF cx F S2 o=.val v S2:=by
 obtain⟨dst,op,ty,pos,after,guard⟩:=o;have vv:∀(r:Option AV)(n:Nat),val? r S n=.val v S->val? r S2 n=.val v S2:=fun r n e=>by
  obtain⟨rfl,_⟩:=cV e;rfl
 cases op<;>simp only[ie,reduceCtorEq]at hc<;>simp only[bF]at h⊢
 case move x=>cases h;rfl
 case assign x=>cases h;rfl
 case pick c a b=>split at h<;>first|(cases h;rfl)|cases h
 case build t parts=>exact vv _ _ h
 case load t x=>
  cases x with
  |global g=>
   simp only[C4]at h⊢;split at h
   .exact vv _ _ h
   .cases h
  |tmp t=>cases hc
  |const v=>cases hc
  |func f=>cases hc
 case nilCheck x=>split at h<;>first|(cases h;rfl)|cases h
 case binOp op t x y yt=>exact vv _ _ h
 case unOp op t x=>exact vv _ _ h
 case convert s d x=>
  split at h
  .cases h;rfl
  .rename_i ds s' sN sh he;rw[sh]at hc;simp at hc
  .rename_i ds e s' sN sh he;rw[sh]at hc;simp at hc
  .rename_i xx e sN sh lR;rw[sh]at hc;simp at hc
  .rename_i sh _;rw[sh]at hc;simp at hc
  .rename_i sh _;rw[sh]at hc;simp at hc
  .rename_i sh _;rw[sh]at hc;simp at hc
  .cases h
 case typeAssert x a b ok=>exact vv _ _ h
 case makeInterface t x=>split at h<;>first|(cases h;rfl)|cases h
 case makeFunc fn a b=>cases h;rfl
 case slice t x lo hi mx=>exact vv _ _ h
 case fieldAddr t x f=>
  split at h
  .split at h
   .split at h
    .cases h;rfl
    .cases h
   .cases h
  .cases h
 case field t x f=>
  split at h
  .split at h
   .exact vv _ _ h
   .cases h
  .cases h
 case indexAddr t x i=>
  split at h
  .split at h
   .cases hc:(Nat.beq _ _&&zza _ _)with
    |false=>rw[hc]at h;cases h
    |true=>rw[hc]at h;cases h;rfl
   .cases h
  .split at h
   .cases hc:zza _ _ with
    |false=>rw[hc]at h;cases h
    |true=>rw[hc]at h;cases h;rfl
   .cases h
  .split at h
   .cases hc:zza _ _ with
    |false=>rw[hc]at h;cases h
    |true=>rw[hc]at h;cases h;rfl
   .cases h
  .cases h
 case index t x i=>
  split at h
  .split at h<;>first|(cases h;rfl)|cases h
  .split at h
   .cases hc:zza _ _ with
    |false=>rw[hc]at h;cases h
    |true=>rw[hc]at h;exact vv _ _ h
   .cases h
  .cases h
 case extract x i=>
  split at h
  .exact vv _ _ h
  .cases h
 case call c=>
  obtain⟨callee,as,nN⟩:=c;cases callee with
  |value f=>simp at hc
  |invoke r m=>simp at hc
  |builtin b=>
   have hb:b=.cap\/b=.min\/b=.max:=by cases b<;>simp_all
   simp only[]at h⊢;unfold bh at h⊢;rcases hb with rfl|rfl|rfl<;>clear hc<;>split at h<;>(try contradiction)<;>(try (cases h;done))
   .split at h<;>first|(cases h;rfl)|(cases h;done)
   .exact vv _ _ h
   .exact vv _ _ h
end Go.Am
