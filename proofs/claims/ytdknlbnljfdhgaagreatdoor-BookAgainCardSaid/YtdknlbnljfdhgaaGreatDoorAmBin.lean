/-
  The abstract machine against the model: the binary and the unary operators.
-/
import Derived.Test.YtdknlbnljfdhgaaGreatDoorAmEq
namespace Go.Am
open Go
variable{Λ:LB}
def odd':Value->Bool
 | .int .. | .float .. | .complex .. | .string _ | .tuple _ | .chan _=>false
 |_=>true
theorem oddA_odd{ρ:aO}{x:AV}{x':Value}(h:rC x=true)(hx:ah ρ x x'):odd' x'=true:=by
 cases x<;>simp only[rC,Bool.false_eq_true]at h<;>simp only[ah]at hx
 .subst hx;rfl
 .subst hx;rfl
 .obtain⟨_,_,_,rfl⟩:=hx;rfl
 .subst hx;rfl
 .obtain⟨_,_,_,_,_,_,_,hh⟩:=hx;rcases hh with⟨rfl,_⟩|⟨_,_,_,_,rfl⟩<;>rfl
 .subst hx;rfl
 .obtain⟨_,_,rfl⟩:=hx;rfl
 .obtain⟨_,_,rfl,_⟩:=hx;rfl
 .subst hx;rfl
 .subst hx;rfl
 .obtain⟨_,rfl,_⟩:=hx;rfl
 .obtain⟨_,rfl,_⟩:=hx;rfl
theorem zh{t:TypeId}{x y:Value}(h:odd' x=true):binOp .eql t x y=(do pure (.bool (<-Op.equal t x y))):=by
 cases x<;>simp only[odd',Bool.false_eq_true]at h<;>cases y<;>rfl
theorem ze{t:TypeId}{x y:Value}(h:odd' x=true):binOp .neq t x y=(do pure (.bool (!(<-Op.equal t x y)))):=by
 cases x<;>simp only[odd',Bool.false_eq_true]at h<;>cases y<;>rfl
def isC:Operand->Bool | .const _=>true|_=>false
theorem eqV_run{P:Program}{cx:Cx}(aC:dq Λ P cx){ρ:aO}{t:TypeId}{cst:Bool}{x y:AV}{r:Bool}{x' y':Value}{xo yo:Operand}
  (h:Aq cx t cst x y=some r) (hc:cst=(isC xo||isC yo)) (hx:ah ρ x x') (hy:ah ρ y y') (w:World) :
  odd' x'=true/\(Op.equal t x' y').run P w=.ok r w/\∀op,(eqGuard op t xo yo x' y').run P w=.ok () w:=by
 have key:∀x y,sW cx 6 t x y=some r->rC x=true->ah ρ x x'->ah ρ y y'->odd' x'=true/\(Op.equal t x' y').run P w=.ok r w:=fun x y he ho hx hy=>
  ⟨oddA_odd ho hx,eqT_run aC 6 Op.maxDepth t x y r x' y' (by decide) he hx hy w⟩
 unfold Aq at h;split at h
 .cases hcst:cst with
  |false=>simp[hcst]at h
  |true=>
   rw[hcst]at h;obtain⟨k1,k2⟩:=key _ _ h rfl hx hy;simp only[ah]at hx hy;subst hx hy;refine⟨k1,k2,fun op=>?_⟩;rw[hcst]at hc;unfold eqGuard;cases op<;>first
    |rfl
    |(cases xo<;>cases yo<;>first|rfl|(simp[isC]at hc))
 .rename_i cS;cases ho:rC x with
  |false=>simp[ho]at h
  |true=>
   rw[ho]at h;simp only[cond_true]at h;obtain⟨k1,k2⟩:=key _ _ h ho hx hy;refine⟨k1,k2,fun op=>?_⟩;unfold eqGuard;have hg:∀a b,x'=.agg a->y'=.agg b->P.eqGuardType P.depth t=false:=by
    intro a b ha hb;subst ha;cases x<;>simp only[rC,Bool.false_eq_true]at ho<;>simp only[ah]at hx<;>(try (cases hx;done))<;>(try (obtain⟨_,_,_,hh⟩:=hx;cases hh;done)) <;>
     (try (obtain⟨_,_,hh⟩:=hx;cases hh;done))<;>(try (obtain⟨_,_,hh,_⟩:=hx;cases hh;done))<;>(try (obtain⟨_,hh,_⟩:=hx;cases hh;done))
    .obtain⟨_,_,_,_,_,_,_,hh⟩:=hx;rcases hh with⟨hh,_⟩|⟨_,_,_,_,hh⟩<;>cases hh
    .rename_i cs;have fy:sW cx 6 t (.agg cs) y=(match bC cx t with|none=>none|some d=>iD cx (sW cx 5) t d (.agg cs) y):=rfl;rw[fy]at h;cases hu:bC cx t with
     |none=>rw[hu]at h;cases h
     |some d=>
      rw[hu]at h;simp only[]at h;unfold iD at h;split at h<;>(try (cases h;done))<;>(try (rename_i heq _;cases heq;done))
      all_goals (try (rename_i heq;cases heq;done))
      all_goals
       cases he:cx.eqs.get t with
       |none=>simp[he]at h
       |some u=>exact (aC.stood t (by rw[he];simp)).2.1
   cases mo:(!(op matches BinOp.eql|BinOp.neq))with
   |true=>rfl
   |false=>
    simp only[Bool.false_eq_true,if_false];split
    .rename_i e1 e2;exact absurd hx (by
      intro hx;cases x<;>simp only[rC,Bool.false_eq_true]at ho<;>simp only[ah]at hx<;>(try (cases hx;done))<;>(try (obtain⟨_,_,_,hh⟩:=hx;cases hh;done)) <;>
       (try (obtain⟨_,_,hh⟩:=hx;cases hh;done))<;>(try (obtain⟨_,_,hh,_⟩:=hx;cases hh;done))<;>(try (obtain⟨_,hh,_⟩:=hx;cases hh;done))
      .obtain⟨_,_,_,_,_,_,_,hh⟩:=hx;rcases hh with⟨hh,_⟩|⟨_,_,_,_,hh⟩<;>cases hh
      .have fy:sW cx 6 t .bH y=(match bC cx t with|none=>none|some d=>iD cx (sW cx 5) t d .bH y):=rfl;rw[fy]at h;cases hu:bC cx t with
       |none=>rw[hu]at h;cases h
       |some d=>
        rw[hu]at h;simp only[]at h;unfold iD at h;split at h<;>(try (cases h;done))<;>(try (rename_i heq _;cases heq;done))<;>(try (rename_i heq;cases heq;done))
        .exact cS rfl rfl
        .simp only[ah]at hy;obtain⟨_,hh,_⟩:=hy;cases hh)
    .rename_i a b;have:=hg a b rfl rfl;simp[this]
    .rfl
theorem binV_run{P:Program}{cx:Cx}(aC:dq Λ P cx){ρ:aO}{op:BinOp}{t:TypeId}{cst:Bool}{x y v:AV}{x' y':Value}{xo yo:Operand}
  (h:aS cx op t cst x y=some v) (hc:cst=(isC xo||isC yo)) (hx:ah ρ x x') (hy:ah ρ y y') (w:World) :
  ∃z,((do eqGuard op t xo yo x' y';binOp op t x' y':Sem Value)).run P w=.ok z w/\ah ρ v z:=by
 unfold aS at h;split at h
 .rename_i j a k b;simp only[ah]at hx hy;subst hx hy;have hg:(eqGuard op t xo yo (.int j a) (.int k b)).run P w=.ok () w:=by unfold eqGuard;cases op<;>rfl
  simp only[Sem.run_bind,hg,Result.andThen_ok];split at h
  .cases b with
   |negSucc n=>cases h
   |ofNat n=>
   cases h;have hn:¬((Int.ofNat n)<0):=by simp
   refine⟨.int j (j.wrap (a*2 ^ (min n j.bits))),?_,?_⟩
   .simp only[binOp,Op.shift,hn,if_false];simp
   .simp only[iy,ah];congr 2
  .cases b with
   |negSucc n=>cases h
   |ofNat n=>
   cases h;have hn:¬((Int.ofNat n)<0):=by simp
   refine⟨.int j (a.fdiv (2 ^ (min n j.bits))),?_,?_⟩
   .simp only[binOp,Op.shift,hn,if_false];simp
   .simp only[dG,ah];congr 2
  .rename_i hs lN;rw[cR]at h;by_cases hk:j=k
   .rw[decide_eq_true hk]at h;subst hk;obtain⟨z,r1,r2⟩:=binI_run (P:=P) h hs lN w;refine⟨z,?_,r2 ρ⟩;have:binOp op t (.int j a) (.int j b)=binOp op 0 (.int j a) (.int j b):=by cases op<;>rfl
    rw[this];exact r1
   .rw[decide_eq_false hk]at h;cases h
 .rename_i a b;simp only[ah]at hx hy;obtain⟨a',rfl,ha⟩:=hx;obtain⟨b',rfl,hb⟩:=hy;have hg:(eqGuard op t xo yo (.string a') (.string b')).run P w=.ok () w:=by unfold eqGuard;cases op<;>rfl
  simp only[Sem.run_bind,hg,Result.andThen_ok];obtain⟨z,r1,r2⟩:=binS_run (P:=P) h ha hb w;refine⟨z,?_,r2 ρ⟩;have:binOp op t (.string a') (.string b')=Op.stringOp op a' b':=by
   cases op<;>first|rfl|(simp[zd]at h)
  rw[this];exact r1
 .split at h
  .cases he:Aq cx t cst x y with
   |none=>simp[he]at h
   |some r=>
    simp only[he,Option.some.injEq]at h;subst h;obtain⟨k1,k2,k3⟩:=eqV_run aC he hc hx hy w;exact⟨.bool r,by simp only[Sem.run_bind,k3,Result.andThen_ok,zh k1,k2,Sem.run_pure],by simp[ah]⟩
  .cases he:Aq cx t cst x y with
   |none=>simp[he]at h
   |some r=>
    simp only[he,Option.some.injEq]at h;subst h;obtain⟨k1,k2,k3⟩:=eqV_run aC he hc hx hy w;exact⟨.bool (!r),by simp only[Sem.run_bind,k3,Result.andThen_ok,ze k1,k2,Sem.run_pure],by simp[ah]⟩
  .cases h
theorem unV_run{P:Program}{ρ:aO}{op:UnOp}{x v:AV}{x':Value}(h:unV op x=some v)(hx:ah ρ x x')(w:World):
  ∃z,(Op.unary op x').run P w=.ok z w/\ah ρ v z:=by
 unfold unV at h;split at h<;>cases h<;>simp only[ah]at hx<;>subst hx
 .exact⟨_,rfl,by simp[ah]⟩
 .exact⟨_,rfl,by simp only[iy,ah];rfl⟩
 .rename_i k n;refine⟨_,(pO (op:=.xor) (by simp) w),?_⟩;rw[ji (by simp)];simp only[ah];congr 2;cases k<;>rfl
end Go.Am
