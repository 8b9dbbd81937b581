/-
  The abstract machine: an operation sees its operands alone.
-/
import Derived.Test.YtdknlbnljfdhgaaGreatDoorAmCall
namespace Go.Am
open Go
theorem eval_congr{F F':Fr}{x:Operand}(h:∀t,x=.tmp t->F.t.get t=F'.t.get t):eval F x=eval F' x:=by
 cases x with
 |tmp t=>rw[mZ,mZ,h t rfl]
 |_=>rfl
theorem pM{F F':Fr}{x:Option Operand}{d:Nat}(h:∀y,x=some y->eval F y=eval F' y):bound F x d=bound F' x d:=by
 cases x with
 |none=>rfl
 |some y=>simp only[bound,h y rfl]
theorem rR{F F':Fr}{xs:Array Operand}(h:∀x,x∈xs.toList->eval F x=eval F' x):args F xs=args F' xs:=by
 simp only[args,gu];exact List.map_congr_left h
theorem uZ{cx:Cx}{F F':Fr}{pl:Nat->Option (Nat×Nat)}:∀(parts:List (Nat×Operand))(cells:List AV),(∀p,p∈parts->eval F p.2=eval F' p.2)->fe cx F pl parts cells=fe cx F' pl parts cells:=by
 intro parts
 induction parts with
 |nil=>intro cells _;rfl
 |cons p parts ih=>
  intro cells h;show (match pl p.1,cellsOf (eval F p.2)with
   |some (off,size),some new=>cond (Nat.beq (eG new) size&&Nat.ble (Nat.add off size) (eG cells)) (fe cx F pl parts (cT off cells new)) none
   |_,_=>none)=(match pl p.1,cellsOf (eval F' p.2)with
   |some (off,size),some new=>cond (Nat.beq (eG new) size&&Nat.ble (Nat.add off size) (eG cells)) (fe cx F' pl parts (cT off cells new)) none
   |_,_=>none)
  rw[h p (by simp)];split
  .rw[ih _ (fun q hq=>h q (by simp[hq]))]
  .rfl
theorem Cm{cx:Cx}{F F':Fr}{t:TypeId}{parts:List (Nat×Operand)}(h:∀p,p∈parts->eval F p.2=eval F' p.2):nR cx F t parts=nR cx F' t parts:=by
 unfold nR;simp only[uZ parts _ h]
theorem AX{cx:Cx}{F F':Fr}{t:TypeId}{x:AV}{lo hi mx:Option Operand}(h1:∀y,lo=some y->eval F y=eval F' y)(h2:∀y,hi=some y->eval F y=eval F' y)(h3:∀y,mx=some y->eval F y=eval F' y):
  eK cx F t x lo hi mx=eK cx F' t x lo hi mx:=by
 unfold eK bounds;simp only[pM h1,pM h2,pM h3]
theorem jb{cx:Cx}{F F':Fr}{id:Nat}{op:Op}(h:∀x,x∈op.operands.toList->eval F x=eval F' x):aA cx F id op=aA cx F' id op:=by
 cases op<;>(try rfl)
 case box t x=>simp only[aA,h x (by simp[Op.operands])]
 case buildSlice t n parts=>
  have hp:∀p,p∈parts.toList->eval F p.2=eval F' p.2:=fun p hp=>h p.2 (by simp only[Op.operands];simpa using⟨p.1,by simpa using hp⟩);simp only[aA,uZ parts.toList _ hp]
 case makeMap t r=>
  have:rG F r=rG F' r:=by
   cases r with
   |none=>rfl
   |some x=>simp only[rG,h x (by simp[Op.operands])]
  simp only[aA,this]
 case makeSlice t l c=>simp only[aA,h l (by simp[Op.operands]),h c (by simp[Op.operands])]
theorem AB{cx:Cx}{F F':Fr}{S:AS}{o:Oper}(h:∀x,x∈o.op.operands.toList->eval F x=eval F' x):bj cx F S o=bj cx F' S o:=by
 obtain⟨dst,op,ty,pos,after,guard⟩:=o;simp only at h;cases op<;>(try rfl)
 case move x=>simp only[bj,h x (by simp[Op.operands])]
 case assign x=>simp only[bj,h x (by simp[Op.operands])]
 case pick c a b=>simp only[bj,h c (by simp[Op.operands]),h a (by simp[Op.operands]),h b (by simp[Op.operands])]
 case box t x=>simp only[bj,jb h]
 case build t parts=>
  have hp:∀p,p∈parts.toList->eval F p.2=eval F' p.2:=fun p hp=>h p.2 (by simp only[Op.operands];simpa using⟨p.1,by simpa using hp⟩);simp only[bj,Cm hp]
 case buildSlice t n parts=>simp only[bj,jb h]
 case load t x=>simp only[bj,h x (by simp[Op.operands])]
 case store t x y=>simp only[bj,h x (by simp[Op.operands]),h y (by simp[Op.operands])]
 case nilCheck x=>simp only[bj,h x (by simp[Op.operands])]
 case binOp op t x y yt=>simp only[bj,h x (by simp[Op.operands]),h y (by simp[Op.operands])]
 case unOp op t x=>simp only[bj,h x (by simp[Op.operands])]
 case convert s d x=>simp only[bj,h x (by simp[Op.operands])]
 case makeInterface t x=>simp only[bj,h x (by simp[Op.operands])]
 case makeFunc fn a b=>
  have h1:=rR (F:=F) (F':=F') (xs:=a) fun x hx=>h x (by simp only[Op.operands];simp at hx⊢;exact .inl hx);have h2:=rR (F:=F) (F':=F') (xs:=b) fun x hx=>h x (by simp only[Op.operands];simp at hx⊢;exact .inr hx);simp only[bj,h1,h2]
 case makeMap t r=>simp only[bj,jb h]
 case makeSlice t l c=>simp only[bj,jb h]
 case slice t x lo hi mx=>
  have h0:=h x (by simp[Op.operands]);have h1:∀y,lo=some y->eval F y=eval F' y:=fun y e=>h y (by simp[Op.operands,e]);have h2:∀y,hi=some y->eval F y=eval F' y:=fun y e=>h y (by simp[Op.operands,e]);have h3:∀y,mx=some y->eval F y=eval F' y:=fun y e=>h y (by simp[Op.operands,e]);simp only[bj,h0,AX h1 h2 h3]
 case fieldAddr t x f=>simp only[bj,h x (by simp[Op.operands])]
 case field t x f=>simp only[bj,h x (by simp[Op.operands])]
 case indexAddr t x i=>simp only[bj,h x (by simp[Op.operands]),h i (by simp[Op.operands])]
 case index t x i=>simp only[bj,h x (by simp[Op.operands]),h i (by simp[Op.operands])]
 case lookup t x i ok=>simp only[bj,h x (by simp[Op.operands]),h i (by simp[Op.operands])]
 case mapUpdate t m k v=>simp only[bj,h m (by simp[Op.operands]),h k (by simp[Op.operands]),h v (by simp[Op.operands])]
 case insert t m k v=>simp only[bj,h m (by simp[Op.operands]),h k (by simp[Op.operands]),h v (by simp[Op.operands])]
 case panic x=>simp only[bj,h x (by simp[Op.operands])]
 case typeAssert x a b ok=>simp only[bj,h x (by simp[Op.operands])]
 case extract x i=>simp only[bj,h x (by simp[Op.operands])]
 case call c=>
  obtain⟨callee,as,mr⟩:=c;have h1:=rR (F:=F) (F':=F') (xs:=as) fun x hx=>h x (by simp only[Op.operands,Call.operands];simp at hx⊢;exact .inr hx);cases callee with
  |value f=>
   have h0:=h f (by simp[Op.operands,Call.operands]);simp only[bj,h0,h1]
  |builtin b=>simp only[bj,h1]
  |invoke r m=>rfl
theorem tH{F F':Fr}{ops:List Oper}{o:Oper}(h:∀t,t∈gF ops o->F.t.get t=F'.t.get t):∀x,x∈o.op.operands.toList->eval F x=eval F' x:=by
 intro x hx;refine eval_congr fun t e=>h t ?_;subst e;have:t∈sE o:=List.mem_filterMap.2 ⟨.tmp t,hx,rfl⟩;unfold gF;split
 .exact this
 .split
  .split
   .exact List.mem_cons_of_mem _ this
   .exact this
  .exact this
theorem kI{F F':Fr}{ops:List Oper}{o:Oper}(h:∀t,t∈gF ops o->F.t.get t=F'.t.get t):wanted ops F o=wanted ops F' o:=by
 unfold wanted;unfold gF at h;cases hg:o.guard with
 |none=>rfl
 |some jw=>
  obtain⟨j,want⟩:=jw;simp only[hg]at h⊢;cases hn:nth j ops with
  |none=>rfl
  |some p=>
   simp only[hn]at h⊢;cases hd:p.dst with
   |none=>rfl
   |some d=>
    simp only[hd]at h⊢;rw[h d (by simp)]
theorem FO{cx:Cx}{F:Fr}{S S':AS}{o:Oper}{v:AV}(hc:fY cx o=.pure\/fY cx o=.read)(h:bj cx F S o=.val v S'):S'=S:=by
 obtain⟨dst,op,ty,pos,after,guard⟩:=o;have fr:∀r n,gJ r S n=.val v S'->∃u o,r=some (u,o):=fun r n e=>by cases r with
  |none=>cases e
  |some x=>exact⟨x.1,x.2,rfl⟩
 cases op<;>simp only[fY,reduceCtorEq,or_self]at hc<;>simp only[bj]at h
 case move x=>cases h;rfl
 case assign x=>cases h;rfl
 case pick c a b=>split at h<;>first|(cases h;rfl)|cases h
 case build t parts=>exact (cC h).2
 case load t x=>
  split at h
  .repeat (split at h<;>try (first|(cases h;done)|(cases h;rfl)))
  .split at h
   .exact (cC h).2
   .cases h
  .cases h
 case typeAssert x a b ok=>exact (cC h).2
 case nilCheck x=>split at h<;>first|(cases h;rfl)|cases h
 case binOp op t x y yt=>exact (cC h).2
 case unOp op t x=>exact (cC h).2
 case convert s d x=>
  split at h
  .cases h;rfl
  .cases h;rfl
  .rename_i ds e s' rF qJ he;rw[qJ]at hc;simp at hc
  .repeat (split at h<;>try (first|(cases h;done)|(cases h;rfl)))
  .rename_i qJ _;rw[qJ]at hc;simp at hc
  .rename_i qJ _;rw[qJ]at hc;simp at hc
  .rename_i qJ _;rw[qJ]at hc;simp at hc
  .cases h
 case makeInterface t x=>split at h<;>first|(cases h;rfl)|cases h
 case makeFunc fn a b=>cases h;rfl
 case slice t x lo hi mx=>exact (cC h).2
 case fieldAddr t x f=>repeat (split at h<;>try (first|(cases h;done)|(cases h;rfl)))
 case field t x f=>
  split at h
  .split at h
   .exact (cC h).2
   .cases h
  .cases h
 case indexAddr t x i=>
  split at h
  .split at h
   .cases hc:(Nat.beq _ _&&Nat.blt _ _)with
    |false=>rw[hc]at h;cases h
    |true=>rw[hc]at h;cases h;rfl
   .cases h
  .split at h
   .cases hc:Nat.blt _ _ with
    |false=>rw[hc]at h;cases h
    |true=>rw[hc]at h;cases h;rfl
   .cases h
  .split at h
   .cases hc:Nat.blt _ _ with
    |false=>rw[hc]at h;cases h
    |true=>rw[hc]at h;cases h;rfl
   .cases h
  .cases h
 case index t x i=>
  split at h
  .split at h<;>first|(cases h;rfl)|cases h
  .split at h
   .cases hc:Nat.blt _ _ with
    |false=>rw[hc]at h;cases h
    |true=>rw[hc]at h;exact (cC h).2
   .cases h
  .cases h
 case lookup t x i ok=>exact (cC h).2
 case extract x i=>
  split at h
  .exact (cC h).2
  .cases h
 case call c=>
  obtain⟨callee,as,mr⟩:=c;cases callee with
  |value f=>simp at hc
  |invoke r m=>simp at hc
  |builtin b=>
   have hb:b=.len\/b=.cap\/b=.min\/b=.max:=by cases b<;>simp_all
   simp only[]at h;unfold bg at h;rcases hb with rfl|rfl|rfl|rfl<;>clear hc<;>split at h<;>(try contradiction)<;>(try (cases h;done))
   .split at h<;>first|(cases h;rfl)|(cases h;done)
   .split at h<;>first|(cases h;rfl)|(cases h;done)
   .exact (cC h).2
   .exact (cC h).2
theorem aop_pure{cx:Cx}{F:Fr}{S S2:AS}{o:Oper}{v:AV}(hc:fY cx o=.pure)(h:bj cx F S o=.val v S):bj cx F S2 o=.val v S2:=by
 obtain⟨dst,op,ty,pos,after,guard⟩:=o;have vv:∀(r:Option AV)(n:Nat),val? r S n=.val v S->val? r S2 n=.val v S2:=fun r n e=>by
  obtain⟨rfl,_⟩:=cC e;rfl
 cases op<;>simp only[fY,reduceCtorEq]at hc<;>simp only[bj]at h⊢
 case move x=>cases h;rfl
 case assign x=>cases h;rfl
 case pick c a b=>split at h<;>first|(cases h;rfl)|cases h
 case build t parts=>exact vv _ _ h
 case load t x=>
  cases x with
  |global g=>
   simp only[Ap]at h⊢;split at h
   .exact vv _ _ h
   .cases h
  |tmp t=>cases hc
  |const v=>cases hc
  |func f=>cases hc
 case nilCheck x=>split at h<;>first|(cases h;rfl)|cases h
 case binOp op t x y yt=>exact vv _ _ h
 case unOp op t x=>exact vv _ _ h
 case convert s d x=>
  split at h
  .cases h;rfl
  .rename_i ds s' rF qJ he;rw[qJ]at hc;simp at hc
  .rename_i ds e s' rF qJ he;rw[qJ]at hc;simp at hc
  .rename_i xx e rF qJ jL;rw[qJ]at hc;simp at hc
  .rename_i qJ _;rw[qJ]at hc;simp at hc
  .rename_i qJ _;rw[qJ]at hc;simp at hc
  .rename_i qJ _;rw[qJ]at hc;simp at hc
  .cases h
 case typeAssert x a b ok=>exact vv _ _ h
 case makeInterface t x=>split at h<;>first|(cases h;rfl)|cases h
 case makeFunc fn a b=>cases h;rfl
 case slice t x lo hi mx=>exact vv _ _ h
 case fieldAddr t x f=>
  split at h
  .split at h
   .split at h
    .cases h;rfl
    .cases h
   .cases h
  .cases h
 case field t x f=>
  split at h
  .split at h
   .exact vv _ _ h
   .cases h
  .cases h
 case indexAddr t x i=>
  split at h
  .split at h
   .cases hc:(Nat.beq _ _&&Nat.blt _ _)with
    |false=>rw[hc]at h;cases h
    |true=>rw[hc]at h;cases h;rfl
   .cases h
  .split at h
   .cases hc:Nat.blt _ _ with
    |false=>rw[hc]at h;cases h
    |true=>rw[hc]at h;cases h;rfl
   .cases h
  .split at h
   .cases hc:Nat.blt _ _ with
    |false=>rw[hc]at h;cases h
    |true=>rw[hc]at h;cases h;rfl
   .cases h
  .cases h
 case index t x i=>
  split at h
  .split at h<;>first|(cases h;rfl)|cases h
  .split at h
   .cases hc:Nat.blt _ _ with
    |false=>rw[hc]at h;cases h
    |true=>rw[hc]at h;exact vv _ _ h
   .cases h
  .cases h
 case extract x i=>
  split at h
  .exact vv _ _ h
  .cases h
 case call c=>
  obtain⟨callee,as,mr⟩:=c;cases callee with
  |value f=>simp at hc
  |invoke r m=>simp at hc
  |builtin b=>
   have hb:b=.cap\/b=.min\/b=.max:=by cases b<;>simp_all
   simp only[]at h⊢;unfold bg at h⊢;rcases hb with rfl|rfl|rfl<;>clear hc<;>split at h<;>(try contradiction)<;>(try (cases h;done))
   .split at h<;>first|(cases h;rfl)|(cases h;done)
   .exact vv _ _ h
   .exact vv _ _ h
end Go.Am
