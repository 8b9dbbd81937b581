/-
  The abstract machine: an operation sees its operands alone.
-/
import Derived.Test.YtdknlbnljfdhgaaGreatDoorAmCall
namespace Go.Am
open Go
theorem eval_congr {F F':Fr} {x:Operand} (h:∀ t,x=.tmp t→F.t.get t=F'.t.get t):eval F x=eval F' x:=by
 cases x with
 | tmp t=>rw[mn,mn,h t rfl]
 | _=>rfl
theorem oM {F F':Fr} {x:Option Operand} {d:Nat} (h:∀ y,x=some y→eval F y=eval F' y):bound F x d=bound F' x d:=by
 cases x with
 | none=>rfl
 | some y=>simp only[bound,h y rfl]
theorem qY {F F':Fr} {xs:Array Operand} (h:∀ x,x∈xs.toList→eval F x=eval F' x):args F xs=args F' xs:=by
 simp only[args,fu];exact List.map_congr_left h
theorem uK {cx:Cx} {F F':Fr} {pl:Nat→Option (Nat×Nat)}:∀ (parts:List (Nat×Operand)) (cells:List AV),(∀ p,p∈parts→eval F p.2=eval F' p.2)→eV cx F pl parts cells=eV cx F' pl parts cells:=by
 intro parts
 induction parts with
 | nil=>intro cells _;rfl
 | cons p parts ih=>
  intro cells h;show (match pl p.1,cellsOf (eval F p.2) with
   | some (off,size),some new=>cond (Nat.beq (dv new) size&&Nat.ble (Nat.add off size) (dv cells)) (eV cx F pl parts (cz off cells new)) none
   | _,_=>none)=(match pl p.1,cellsOf (eval F' p.2) with
   | some (off,size),some new=>cond (Nat.beq (dv new) size&&Nat.ble (Nat.add off size) (dv cells)) (eV cx F' pl parts (cz off cells new)) none
   | _,_=>none)
  rw[h p (by simp)];split
  ·rw[ih _ (fun q hq=>h q (by simp[hq]))]
  ·rfl
theorem BR {cx:Cx} {F F':Fr} {t:TypeId} {parts:List (Nat×Operand)} (h:∀ p,p∈parts→eval F p.2=eval F' p.2):lD cx F t parts=lD cx F' t parts:=by
 unfold lD;simp only[uK parts _ h]
theorem AH {cx:Cx} {F F':Fr} {t:TypeId} {x:AV} {lo hi mx:Option Operand} (h1:∀ y,lo=some y→eval F y=eval F' y) (h2:∀ y,hi=some y→eval F y=eval F' y) (h3:∀ y,mx=some y→eval F y=eval F' y) :
  iJ cx F t x lo hi mx=iJ cx F' t x lo hi mx:=by
 unfold iJ bounds;simp only[oM h1,oM h2,oM h3]
theorem iO {cx:Cx} {F F':Fr} {id:Nat} {op:Op} (h:∀ x,x∈op.operands.toList→eval F x=eval F' x):aC cx F id op=aC cx F' id op:=by
 cases op<;>(try rfl)
 case box t x=>simp only[aC,h x (by simp[Op.operands])]
 case buildSlice t n parts=>
  have hp:∀ p,p∈parts.toList→eval F p.2=eval F' p.2:=fun p hp=>h p.2 (by simp only[Op.operands];simpa using ⟨p.1,by simpa using hp⟩);simp only[aC,uK parts.toList _ hp]
 case makeMap t r=>
  have:oA F r=oA F' r:=by
   cases r with
   | none=>rfl
   | some x=>simp only[oA,h x (by simp[Op.operands])]
  simp only[aC,this]
 case makeSlice t l c=>simp only[aC,h l (by simp[Op.operands]),h c (by simp[Op.operands])]
theorem Ar {cx:Cx} {F F':Fr} {S:AS} {o:Oper} (h:∀ x,x∈o.op.operands.toList→eval F x=eval F' x):bo cx F S o=bo cx F' S o:=by
 obtain ⟨dst,op,ty,pos,after,guard⟩:=o;simp only at h;cases op<;>(try rfl)
 case move x=>simp only[bo,h x (by simp[Op.operands])]
 case assign x=>simp only[bo,h x (by simp[Op.operands])]
 case pick c a b=>simp only[bo,h c (by simp[Op.operands]),h a (by simp[Op.operands]),h b (by simp[Op.operands])]
 case box t x=>simp only[bo,iO h]
 case build t parts=>
  have hp:∀ p,p∈parts.toList→eval F p.2=eval F' p.2:=fun p hp=>h p.2 (by simp only[Op.operands];simpa using ⟨p.1,by simpa using hp⟩);simp only[bo,BR hp]
 case buildSlice t n parts=>simp only[bo,iO h]
 case load t x=>simp only[bo,h x (by simp[Op.operands])]
 case store t x y=>simp only[bo,h x (by simp[Op.operands]),h y (by simp[Op.operands])]
 case nilCheck x=>simp only[bo,h x (by simp[Op.operands])]
 case binOp op t x y yt=>simp only[bo,h x (by simp[Op.operands]),h y (by simp[Op.operands])]
 case unOp op t x=>simp only[bo,h x (by simp[Op.operands])]
 case convert s d x=>simp only[bo,h x (by simp[Op.operands])]
 case makeInterface t x=>simp only[bo,h x (by simp[Op.operands])]
 case makeFunc fn a b=>
  have h1:=qY (F:=F) (F':=F') (xs:=a) fun x hx=>h x (by simp only[Op.operands];simp at hx ⊢;exact .inl hx);have h2:=qY (F:=F) (F':=F') (xs:=b) fun x hx=>h x (by simp only[Op.operands];simp at hx ⊢;exact .inr hx);simp only[bo,h1,h2]
 case makeMap t r=>simp only[bo,iO h]
 case makeSlice t l c=>simp only[bo,iO h]
 case slice t x lo hi mx=>
  have h0:=h x (by simp[Op.operands]);have h1:∀ y,lo=some y→eval F y=eval F' y:=fun y e=>h y (by simp[Op.operands,e]);have h2:∀ y,hi=some y→eval F y=eval F' y:=fun y e=>h y (by simp[Op.operands,e]);have h3:∀ y,mx=some y→eval F y=eval F' y:=fun y e=>h y (by simp[Op.operands,e]);simp only[bo,h0,AH h1 h2 h3]
 case fieldAddr t x f=>simp only[bo,h x (by simp[Op.operands])]
 case field t x f=>simp only[bo,h x (by simp[Op.operands])]
 case indexAddr t x i=>simp only[bo,h x (by simp[Op.operands]),h i (by simp[Op.operands])]
 case index t x i=>simp only[bo,h x (by simp[Op.operands]),h i (by simp[Op.operands])]
 case lookup t x i ok=>simp only[bo,h x (by simp[Op.operands]),h i (by simp[Op.operands])]
 case mapUpdate t m k v=>simp only[bo,h m (by simp[Op.operands]),h k (by simp[Op.operands]),h v (by simp[Op.operands])]
 case insert t m k v=>simp only[bo,h m (by simp[Op.operands]),h k (by simp[Op.operands]),h v (by simp[Op.operands])]
 case mapEntry t m k=>simp only[bo,h m (by simp[Op.operands]),h k (by simp[Op.operands])]
 case entryStore t m k v=>simp only[bo,h m (by simp[Op.operands]),h k (by simp[Op.operands]),h v (by simp[Op.operands])]
 case range t x=>simp only[bo,h x (by simp[Op.operands])]
 case next x s=>simp only[bo,h x (by simp[Op.operands])]
 case entry x=>simp only[bo,h x (by simp[Op.operands])]
 case panic x=>simp only[bo,h x (by simp[Op.operands])]
 case typeAssert x a b ok=>simp only[bo,h x (by simp[Op.operands])]
 case extract x i=>simp only[bo,h x (by simp[Op.operands])]
 case call c=>
  obtain ⟨callee,as,lF⟩:=c;have h1:=qY (F:=F) (F':=F') (xs:=as) fun x hx=>h x (by simp only[Op.operands,Call.operands];simp at hx ⊢;exact .inr hx);cases callee with
  | value f=>
   have h0:=h f (by simp[Op.operands,Call.operands]);simp only[bo,h0,h1]
  | builtin b=>simp only[bo,h1]
  | invoke r m=>rfl
theorem sY {F F':Fr} {ops:List Oper} {o:Oper} (h:∀ t,t∈gG ops o→F.t.get t=F'.t.get t):∀ x,x∈o.op.operands.toList→eval F x=eval F' x:=by
 intro x hx;refine eval_congr fun t e=>h t ?_;subst e;have:t∈rP o:=List.mem_filterMap.2 ⟨.tmp t,hx,rfl⟩;unfold gG;split
 ·exact this
 ·split
  ·split
   ·exact List.mem_cons_of_mem _ this
   ·exact this
  ·exact this
theorem jU {F F':Fr} {ops:List Oper} {o:Oper} (h:∀ t,t∈gG ops o→F.t.get t=F'.t.get t):wanted ops F o=wanted ops F' o:=by
 unfold wanted;unfold gG at h;cases hg:o.guard with
 | none=>rfl
 | some jw=>
  obtain ⟨j,want⟩:=jw;simp only[hg] at h ⊢;cases hn:nth j ops with
  | none=>rfl
  | some p=>
   simp only[hn] at h ⊢;cases hd:p.dst with
   | none=>rfl
   | some d=>
    simp only[hd] at h ⊢;rw[h d (by simp)]
theorem Fi {cx:Cx} {F:Fr} {S S':AS} {o:Oper} {v:AV} (hc:gk cx o=.pure∨gk cx o=.read) (h:bo cx F S o=.val v S'):S'=S:=by
 obtain ⟨dst,op,ty,pos,after,guard⟩:=o;have fr:∀ r n,eK r S n=.val v S'→∃ u o,r=some (u,o):=fun r n e=>by cases r with
  | none=>cases e
  | some x=>exact ⟨x.1,x.2,rfl⟩
 cases op<;>simp only[gk,reduceCtorEq,or_self] at hc<;>simp only[bo] at h
 case move x=>cases h;rfl
 case assign x=>cases h;rfl
 case pick c a b=>split at h<;>first|(cases h;rfl)|cases h
 case build t parts=>exact (cu h).2
 case load t x=>
  split at h
  ·repeat (split at h<;>try (first|(cases h;done)|(cases h;rfl)))
  ·split at h
   ·exact (cu h).2
   ·cases h
  ·cases h
 case typeAssert x a b ok=>exact (cu h).2
 case nilCheck x=>split at h<;>first|(cases h;rfl)|cases h
 case binOp op t x y yt=>exact (cu h).2
 case unOp op t x=>exact (cu h).2
 case convert s d x=>
  split at h
  ·cases h;rfl
  ·cases h;rfl
  ·rename_i ds e s' qO pP he;rw[pP] at hc;simp at hc
  ·repeat (split at h<;>try (first|(cases h;done)|(cases h;rfl)))
  ·rename_i pP _;rw[pP] at hc;simp at hc
  ·rename_i pP _;rw[pP] at hc;simp at hc
  ·rename_i pP _;rw[pP] at hc;simp at hc
  ·cases h
 case makeInterface t x=>split at h<;>first|(cases h;rfl)|cases h
 case makeFunc fn a b=>cases h;rfl
 case slice t x lo hi mx=>exact (cu h).2
 case fieldAddr t x f=>repeat (split at h<;>try (first|(cases h;done)|(cases h;rfl)))
 case field t x f=>
  split at h
  ·split at h
   ·exact (cu h).2
   ·cases h
  ·cases h
 case indexAddr t x i=>
  split at h
  ·split at h
   ·cases hc:(Nat.beq _ _&&Nat.blt _ _) with
    | false=>rw[hc] at h;cases h
    | true=>rw[hc] at h;cases h;rfl
   ·cases h
  ·split at h
   ·cases hc:Nat.blt _ _ with
    | false=>rw[hc] at h;cases h
    | true=>rw[hc] at h;cases h;rfl
   ·cases h
  ·split at h
   ·cases hc:Nat.blt _ _ with
    | false=>rw[hc] at h;cases h
    | true=>rw[hc] at h;cases h;rfl
   ·cases h
  ·cases h
 case index t x i=>
  split at h
  ·split at h<;>first|(cases h;rfl)|cases h
  ·split at h
   ·cases hc:Nat.blt _ _ with
    | false=>rw[hc] at h;cases h
    | true=>rw[hc] at h;exact (cu h).2
   ·cases h
  ·cases h
 case lookup t x i ok=>exact (cu h).2
 case extract x i=>
  split at h
  ·exact (cu h).2
  ·cases h
 case call c=>
  obtain ⟨callee,as,lF⟩:=c;cases callee with
  | value f=>simp at hc
  | invoke r m=>simp at hc
  | builtin b=>
   have hb:b=.len∨b=.cap∨b=.min∨b=.max:=by cases b<;>simp_all
   simp only[] at h;unfold aZ at h;rcases hb with rfl|rfl|rfl|rfl<;>clear hc<;>split at h<;>(try contradiction)<;>(try (cases h;done))
   ·split at h<;>first|(cases h;rfl)|(cases h;done)
   ·split at h<;>first|(cases h;rfl)|(cases h;done)
   ·exact (cu h).2
   ·exact (cu h).2
theorem aop_pure {cx:Cx} {F:Fr} {S S2:AS} {o:Oper} {v:AV} (hc:gk cx o=.pure) (h:bo cx F S o=.val v S):bo cx F S2 o=.val v S2:=by
 obtain ⟨dst,op,ty,pos,after,guard⟩:=o;have vv:∀ (r:Option AV) (n:Nat),val? r S n=.val v S→val? r S2 n=.val v S2:=fun r n e=>by
  obtain ⟨rfl,_⟩:=cu e;rfl
 cases op<;>simp only[gk,reduceCtorEq] at hc<;>simp only[bo] at h ⊢
 case move x=>cases h;rfl
 case assign x=>cases h;rfl
 case pick c a b=>split at h<;>first|(cases h;rfl)|cases h
 case build t parts=>exact vv _ _ h
 case load t x=>
  cases x with
  | global g=>
   simp only[Ad] at h ⊢;split at h
   ·exact vv _ _ h
   ·cases h
  | tmp t=>cases hc
  | const v=>cases hc
  | func f=>cases hc
 case nilCheck x=>split at h<;>first|(cases h;rfl)|cases h
 case binOp op t x y yt=>exact vv _ _ h
 case unOp op t x=>exact vv _ _ h
 case convert s d x=>
  split at h
  ·cases h;rfl
  ·rename_i ds s' qO pP he;rw[pP] at hc;simp at hc
  ·rename_i ds e s' qO pP he;rw[pP] at hc;simp at hc
  ·rename_i xx e qO pP uB;rw[pP] at hc;simp at hc
  ·rename_i pP _;rw[pP] at hc;simp at hc
  ·rename_i pP _;rw[pP] at hc;simp at hc
  ·rename_i pP _;rw[pP] at hc;simp at hc
  ·cases h
 case typeAssert x a b ok=>exact vv _ _ h
 case makeInterface t x=>split at h<;>first|(cases h;rfl)|cases h
 case makeFunc fn a b=>cases h;rfl
 case slice t x lo hi mx=>exact vv _ _ h
 case fieldAddr t x f=>
  split at h
  ·split at h
   ·split at h
    ·cases h;rfl
    ·cases h
   ·cases h
  ·cases h
 case field t x f=>
  split at h
  ·split at h
   ·exact vv _ _ h
   ·cases h
  ·cases h
 case indexAddr t x i=>
  split at h
  ·split at h
   ·cases hc:(Nat.beq _ _&&Nat.blt _ _) with
    | false=>rw[hc] at h;cases h
    | true=>rw[hc] at h;cases h;rfl
   ·cases h
  ·split at h
   ·cases hc:Nat.blt _ _ with
    | false=>rw[hc] at h;cases h
    | true=>rw[hc] at h;cases h;rfl
   ·cases h
  ·split at h
   ·cases hc:Nat.blt _ _ with
    | false=>rw[hc] at h;cases h
    | true=>rw[hc] at h;cases h;rfl
   ·cases h
  ·cases h
 case index t x i=>
  split at h
  ·split at h<;>first|(cases h;rfl)|cases h
  ·split at h
   ·cases hc:Nat.blt _ _ with
    | false=>rw[hc] at h;cases h
    | true=>rw[hc] at h;exact vv _ _ h
   ·cases h
  ·cases h
 case extract x i=>
  split at h
  ·exact vv _ _ h
  ·cases h
 case call c=>
  obtain ⟨callee,as,lF⟩:=c;cases callee with
  | value f=>simp at hc
  | invoke r m=>simp at hc
  | builtin b=>
   have hb:b=.cap∨b=.min∨b=.max:=by cases b<;>simp_all
   simp only[] at h ⊢;unfold aZ at h ⊢;rcases hb with rfl|rfl|rfl<;>clear hc<;>split at h<;>(try contradiction)<;>(try (cases h;done))
   ·split at h<;>first|(cases h;rfl)|(cases h;done)
   ·exact vv _ _ h
   ·exact vv _ _ h
end Go.Am
