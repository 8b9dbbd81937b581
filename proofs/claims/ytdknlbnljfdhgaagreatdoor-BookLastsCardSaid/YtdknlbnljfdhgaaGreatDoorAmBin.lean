/-
  The abstract machine against the model: the binary and the unary operators.
-/
import Derived.Test.YtdknlbnljfdhgaaGreatDoorAmEq
open Bool renaming false_eq_true->zza
open Go.Result renaming andThen_ok->zzb
open Go.Sem renaming run_bind->zzc
open Option.some renaming injEq->zzd
namespace Go.Am
open Go
variable{Λ:LB}
def Kq:Value->Bool
 | .int .. | .float .. | .complex .. | .string _ | .tuple _ | .chan _=>false
 |_=>true
theorem TO{ρ:aY}{x:AV}{x':Value}(h:tI x=true)(hx:ai ρ x x'):Kq x'=true:=by
 cases x<;>simp only[tI,zza]at h<;>simp only[ai]at hx
 .subst hx;rfl
 .subst hx;rfl
 .obtain⟨_,_,_,rfl⟩:=hx;rfl
 .subst hx;rfl
 .obtain⟨_,_,_,_,_,_,_,hh⟩:=hx;rcases hh with⟨rfl,_⟩|⟨_,_,_,_,rfl⟩<;>rfl
 .subst hx;rfl
 .obtain⟨_,_,rfl⟩:=hx;rfl
 .obtain⟨_,_,rfl,_⟩:=hx;rfl
 .subst hx;rfl
 .subst hx;rfl
 .obtain⟨_,rfl,_⟩:=hx;rfl
 .obtain⟨_,rfl,_⟩:=hx;rfl
theorem B5{t:TypeId}{x y:Value}(h:Kq x=true):binOp .eql t x y=(do pure (.bool (<-Op.equal t x y))):=by
 cases x<;>simp only[Kq,zza]at h<;>cases y<;>rfl
theorem B4{t:TypeId}{x y:Value}(h:Kq x=true):binOp .neq t x y=(do pure (.bool (!(<-Op.equal t x y)))):=by
 cases x<;>simp only[Kq,zza]at h<;>cases y<;>rfl
def isC:Operand->Bool | .const _=>true|_=>false
theorem Nx{P:Program}{cx:Cx}(aF:dQ Λ P cx){ρ:aY}{t:TypeId}{Qx:Bool}{x y:AV}{r:Bool}{x' y':Value}{xo yo:Operand}
  (h:C5 cx t Qx x y=some r) (hc:Qx=(isC xo||isC yo)) (hx:ai ρ x x') (hy:ai ρ y y') (w:World) :
  Kq x'=true/\(Op.equal t x' y').run P w=.ok r w/\∀op,(eqGuard op t xo yo x' y').run P w=.ok () w:=by
 have key:∀x y,vj cx 6 t x y=some r->tI x=true->ai ρ x x'->ai ρ y y'->Kq x'=true/\(Op.equal t x' y').run P w=.ok r w:=fun x y he ho hx hy=>
  ⟨TO ho hx,Z8 aF 6 Op.maxDepth t x y r x' y' (by decide) he hx hy w⟩
 unfold C5 at h;split at h
 .cases jef:Qx with
  |false=>simp[jef]at h
  |true=>
   rw[jef]at h;obtain⟨k1,k2⟩:=key _ _ h rfl hx hy;simp only[ai]at hx hy;subst hx hy;refine⟨k1,k2,fun op=>?_⟩;rw[jef]at hc;unfold eqGuard;cases op<;>first
    |rfl
    |(cases xo<;>cases yo<;>first|rfl|(simp[isC]at hc))
 .rename_i ct;cases ho:tI x with
  |false=>simp[ho]at h
  |true=>
   rw[ho]at h;simp only[cond_true]at h;obtain⟨k1,k2⟩:=key _ _ h ho hx hy;refine⟨k1,k2,fun op=>?_⟩;unfold eqGuard;have hg:∀a b,x'=.agg a->y'=.agg b->P.eqGuardType P.depth t=false:=by
    intro a b ha hb;subst ha;cases x<;>simp only[tI,zza]at ho<;>simp only[ai]at hx<;>(try (cases hx;done))<;>(try (obtain⟨_,_,_,hh⟩:=hx;cases hh;done)) <;>
     (try (obtain⟨_,_,hh⟩:=hx;cases hh;done))<;>(try (obtain⟨_,_,hh,_⟩:=hx;cases hh;done))<;>(try (obtain⟨_,hh,_⟩:=hx;cases hh;done))
    .obtain⟨_,_,_,_,_,_,_,hh⟩:=hx;rcases hh with⟨hh,_⟩|⟨_,_,_,_,hh⟩<;>cases hh
    .rename_i cs;have fI:vj cx 6 t (.agg cs) y=(match bN cx t with|none=>none|some d=>jo cx (vj cx 5) t d (.agg cs) y):=rfl;rw[fI]at h;cases hu:bN cx t with
     |none=>rw[hu]at h;cases h
     |some d=>
      rw[hu]at h;simp only[]at h;unfold jo at h;split at h<;>(try (cases h;done))<;>(try (rename_i heq _;cases heq;done))
      all_goals (try (rename_i heq;cases heq;done))
      all_goals
       cases he:cx.eqs.get t with
       |none=>simp[he]at h
       |some u=>exact (aF.stood t (by rw[he];simp)).2.1
   cases jR:(!(op matches BinOp.eql|BinOp.neq))with
   |true=>rfl
   |false=>
    simp only[zza,if_false];split
    .rename_i e1 e2;exact absurd hx (by
      intro hx;cases x<;>simp only[tI,zza]at ho<;>simp only[ai]at hx<;>(try (cases hx;done))<;>(try (obtain⟨_,_,_,hh⟩:=hx;cases hh;done)) <;>
       (try (obtain⟨_,_,hh⟩:=hx;cases hh;done))<;>(try (obtain⟨_,_,hh,_⟩:=hx;cases hh;done))<;>(try (obtain⟨_,hh,_⟩:=hx;cases hh;done))
      .obtain⟨_,_,_,_,_,_,_,hh⟩:=hx;rcases hh with⟨hh,_⟩|⟨_,_,_,_,hh⟩<;>cases hh
      .have fI:vj cx 6 t .bR y=(match bN cx t with|none=>none|some d=>jo cx (vj cx 5) t d .bR y):=rfl;rw[fI]at h;cases hu:bN cx t with
       |none=>rw[hu]at h;cases h
       |some d=>
        rw[hu]at h;simp only[]at h;unfold jo at h;split at h<;>(try (cases h;done))<;>(try (rename_i heq _;cases heq;done))<;>(try (rename_i heq;cases heq;done))
        .exact ct rfl rfl
        .simp only[ai]at hy;obtain⟨_,hh,_⟩:=hy;cases hh)
    .rename_i a b;have:=hg a b rfl rfl;simp[this]
    .rfl
theorem Wu{P:Program}{cx:Cx}(aF:dQ Λ P cx){ρ:aY}{op:BinOp}{t:TypeId}{Qx:Bool}{x y v:AV}{x' y':Value}{xo yo:Operand}
  (h:aZ cx op t Qx x y=some v) (hc:Qx=(isC xo||isC yo)) (hx:ai ρ x x') (hy:ai ρ y y') (w:World) :
  ∃z,((do eqGuard op t xo yo x' y';binOp op t x' y':Sem Value)).run P w=.ok z w/\ai ρ v z:=by
 unfold aZ at h;split at h
 .rename_i j a k b;simp only[ai]at hx hy;subst hx hy;have hg:(eqGuard op t xo yo (.int j a) (.int k b)).run P w=.ok () w:=by unfold eqGuard;cases op<;>rfl
  simp only[zzc,hg,zzb];split at h
  .cases b with
   |negSucc n=>cases h
   |ofNat n=>
   cases h;have hn:¬((Int.ofNat n)<0):=by simp
   refine⟨.int j (j.wrap (a*2 ^ (min n j.bits))),?_,?_⟩
   .simp only[binOp,Op.shift,hn,if_false];simp
   .simp only[jj,ai];congr 2
  .cases b with
   |negSucc n=>cases h
   |ofNat n=>
   cases h;have hn:¬((Int.ofNat n)<0):=by simp
   refine⟨.int j (a.fdiv (2 ^ (min n j.bits))),?_,?_⟩
   .simp only[binOp,Op.shift,hn,if_false];simp
   .simp only[dM,ai];congr 2
  .rename_i hs m8;rw[dn]at h;by_cases hk:j=k
   .rw[decide_eq_true hk]at h;subst hk;obtain⟨z,r1,r2⟩:=WA (P:=P) h hs m8 w;refine⟨z,?_,r2 ρ⟩;have:binOp op t (.int j a) (.int j b)=binOp op 0 (.int j a) (.int j b):=by cases op<;>rfl
    rw[this];exact r1
   .rw[decide_eq_false hk]at h;cases h
 .rename_i a b;simp only[ai]at hx hy;obtain⟨a',rfl,ha⟩:=hx;obtain⟨b',rfl,hb⟩:=hy;have hg:(eqGuard op t xo yo (.string a') (.string b')).run P w=.ok () w:=by unfold eqGuard;cases op<;>rfl
  simp only[zzc,hg,zzb];obtain⟨z,r1,r2⟩:=Wv (P:=P) h ha hb w;refine⟨z,?_,r2 ρ⟩;have:binOp op t (.string a') (.string b')=Op.stringOp op a' b':=by
   cases op<;>first|rfl|(simp[B3]at h)
  rw[this];exact r1
 .split at h
  .cases he:C5 cx t Qx x y with
   |none=>simp[he]at h
   |some r=>
    simp only[he,zzd]at h;subst h;obtain⟨k1,k2,k3⟩:=Nx aF he hc hx hy w;exact⟨.bool r,by simp only[zzc,k3,zzb,B5 k1,k2,Sem.run_pure],by simp[ai]⟩
  .cases he:C5 cx t Qx x y with
   |none=>simp[he]at h
   |some r=>
    simp only[he,zzd]at h;subst h;obtain⟨k1,k2,k3⟩:=Nx aF he hc hx hy w;exact⟨.bool (!r),by simp only[zzc,k3,zzb,B4 k1,k2,Sem.run_pure],by simp[ai]⟩
  .cases h
theorem XH{P:Program}{ρ:aY}{op:UnOp}{x v:AV}{x':Value}(h:unV op x=some v)(hx:ai ρ x x')(w:World):
  ∃z,(Op.unary op x').run P w=.ok z w/\ai ρ v z:=by
 unfold unV at h;split at h<;>cases h<;>simp only[ai]at hx<;>subst hx
 .exact⟨_,rfl,by simp[ai]⟩
 .exact⟨_,rfl,by simp only[jj,ai];rfl⟩
 .rename_i k n;refine⟨_,(rI (op:=.xor) (by simp) w),?_⟩;rw[j4 (by simp)];simp only[ai];congr 2;cases k<;>rfl
end Go.Am
