/-
  The abstract machine against the model: the binary and the unary operators.
-/
import Derived.Test.YthklfandhmkpiaaGreatDoorAmPure
open Option.some renaming injEq->zza
open Go.Result renaming andThen_ok->zzb
open Bool renaming false_eq_true->zzc
open Nat renaming mul_le_mul_right->zzd,le_refl->zzf,add_assoc->zzg,add_mul->zzh
open Go.Sem renaming run_bind->zze
namespace Go.Am
open Go
variable{Λ:LB}
def odd':Value->Bool
 | .int .. | .float .. | .complex .. | .string _ | .tuple _ | .chan _=>false
 |_=>true
theorem oddA_odd{ρ:bf}{x:AV}{x':Value}(h:mh x=true)(hx:aq ρ x x'):odd' x'=true:=by
 cases x<;>simp only[mh,zzc]at h<;>simp only[aq]at hx
 .subst hx;rfl
 .subst hx;rfl
 .obtain⟨_,_,_,rfl⟩:=hx;rfl
 .subst hx;rfl
 .obtain⟨_,_,_,_,_,_,_,hh⟩:=hx;rcases hh with⟨rfl,_⟩|⟨_,_,_,_,rfl⟩<;>rfl
 .subst hx;rfl
 .obtain⟨_,_,rfl⟩:=hx;rfl
 .obtain⟨_,_,rfl,_⟩:=hx;rfl
 .subst hx;rfl
 .subst hx;rfl
 .obtain⟨_,rfl,_⟩:=hx;rfl
 .obtain⟨_,rfl,_⟩:=hx;rfl
theorem xQ{t:TypeId}{x y:Value}(h:odd' x=true):binOp .eql t x y=(do pure (.bool (<-Op.equal t x y))):=by
 cases x<;>simp only[odd',zzc]at h<;>cases y<;>rfl
theorem xP{t:TypeId}{x y:Value}(h:odd' x=true):binOp .neq t x y=(do pure (.bool (!(<-Op.equal t x y)))):=by
 cases x<;>simp only[odd',zzc]at h<;>cases y<;>rfl
def isC:Operand->Bool | .const _=>true|_=>false
theorem eqV_run{P:Program}{cx:Cx}(aI:cU Λ P cx){ρ:bf}{t:TypeId}{cst:Bool}{x y:AV}{r:Bool}{x' y':Value}{xo yo:Operand}
  (h:qh cx t cst x y=some r) (hc:cst=(isC xo||isC yo)) (hx:aq ρ x x') (hy:aq ρ y y') (w:World) :
  odd' x'=true/\(Op.equal t x' y').run P w=.ok r w/\∀op,(eqGuard op t xo yo x' y').run P w=.ok () w:=by
 have key:∀x y,tA cx 6 t x y=some r->mh x=true->aq ρ x x'->aq ρ y y'->odd' x'=true/\(Op.equal t x' y').run P w=.ok r w:=fun x y he ho hx hy=>
  ⟨oddA_odd ho hx,eqT_run aI 6 Op.maxDepth t x y r x' y' (by decide) he hx hy w⟩
 unfold qh at h;split at h
 .cases hcst:cst with
  |false=>simp[hcst]at h
  |true=>
   rw[hcst]at h;obtain⟨k1,k2⟩:=key _ _ h rfl hx hy;simp only[aq]at hx hy;subst hx hy;refine⟨k1,k2,fun op=>?_⟩;rw[hcst]at hc;unfold eqGuard;cases op<;>first
    |rfl
    |(cases xo<;>cases yo<;>first|rfl|(simp[isC]at hc))
 .rename_i cl;cases ho:mh x with
  |false=>simp[ho]at h
  |true=>
   rw[ho]at h;simp only[cond_true]at h;obtain⟨k1,k2⟩:=key _ _ h ho hx hy;refine⟨k1,k2,fun op=>?_⟩;unfold eqGuard;have hg:∀a b,x'=.agg a->y'=.agg b->P.eqGuardType P.depth t=false:=by
    intro a b ha hb;subst ha;cases x<;>simp only[mh,zzc]at ho<;>simp only[aq]at hx<;>(try (cases hx;done))<;>(try (obtain⟨_,_,_,hh⟩:=hx;cases hh;done)) <;>
     (try (obtain⟨_,_,hh⟩:=hx;cases hh;done))<;>(try (obtain⟨_,_,hh,_⟩:=hx;cases hh;done))<;>(try (obtain⟨_,hh,_⟩:=hx;cases hh;done))
    .obtain⟨_,_,_,_,_,_,_,hh⟩:=hx;rcases hh with⟨hh,_⟩|⟨_,_,_,_,hh⟩<;>cases hh
    .rename_i cs;have jJ:tA cx 6 t (.agg cs) y=(match bJ cx t with|none=>none|some d=>gP cx (tA cx 5) t d (.agg cs) y):=rfl;rw[jJ]at h;cases hu:bJ cx t with
     |none=>rw[hu]at h;cases h
     |some d=>
      rw[hu]at h;simp only[]at h;unfold gP at h;split at h<;>(try (cases h;done))<;>(try (rename_i heq _;cases heq;done))
      all_goals (try (rename_i heq;cases heq;done))
      all_goals
       cases he:cx.eqs.get t with
       |none=>simp[he]at h
       |some u=>exact (aI.stood t (by rw[he];simp)).2.1
   cases nN:(!(op matches BinOp.eql|BinOp.neq))with
   |true=>rfl
   |false=>
    simp only[zzc,if_false];split
    .rename_i e1 e2;exact absurd hx (by
      intro hx;cases x<;>simp only[mh,zzc]at ho<;>simp only[aq]at hx<;>(try (cases hx;done))<;>(try (obtain⟨_,_,_,hh⟩:=hx;cases hh;done)) <;>
       (try (obtain⟨_,_,hh⟩:=hx;cases hh;done))<;>(try (obtain⟨_,_,hh,_⟩:=hx;cases hh;done))<;>(try (obtain⟨_,hh,_⟩:=hx;cases hh;done))
      .obtain⟨_,_,_,_,_,_,_,hh⟩:=hx;rcases hh with⟨hh,_⟩|⟨_,_,_,_,hh⟩<;>cases hh
      .have jJ:tA cx 6 t .bS y=(match bJ cx t with|none=>none|some d=>gP cx (tA cx 5) t d .bS y):=rfl;rw[jJ]at h;cases hu:bJ cx t with
       |none=>rw[hu]at h;cases h
       |some d=>
        rw[hu]at h;simp only[]at h;unfold gP at h;split at h<;>(try (cases h;done))<;>(try (rename_i heq _;cases heq;done))<;>(try (rename_i heq;cases heq;done))
        .exact cl rfl rfl
        .simp only[aq]at hy;obtain⟨_,hh,_⟩:=hy;cases hh)
    .rename_i a b;have:=hg a b rfl rfl;simp[this]
    .rfl
theorem gtrV_run{P:Program}{ρ:bf}{t:TypeId}{x y v:AV}{x' y':Value}{xo yo:Operand}(h:gtrV x y=some v)(hx:aq ρ x x')(hy:aq ρ y y')(w:World):
  ∃z,((do eqGuard .gtr t xo yo x' y';binOp .gtr t x' y':Sem Value)).run P w=.ok z w/\aq ρ v z:=by
 unfold gtrV at h;split at h
 .rename_i b n;simp only[aq]at hx hy;obtain⟨pl,_,rfl⟩:=hx;subst hy;rw[bC]at h;by_cases hk:n=256
  .subst hk;rw[decide_eq_true rfl]at h;cases h;have hg:(eqGuard .gtr t xo yo (OK.val .small pl.b) (.int .i64 (.ofNat 256))).run P w=.ok () w:=rfl;refine⟨.bool false,?_,by simp[aq]⟩;simp only[zze,hg,zzb];have hb:pl.b%257<257:=Nat.mod_lt _ (by decide);have h2:(binOp .gtr t (OK.val .small pl.b) (.int .i64 (.ofNat 256))).run P w=.ok (.bool (decide ((Int.ofNat 256)<((pl.b%257:Nat):Int)))) w:=rfl;rw[h2,decide_eq_false];show ¬((256:Int)<_);omega
  .rw[decide_eq_false hk]at h;cases h
 .cases h
theorem binV_run{P:Program}{cx:Cx}(aI:cU Λ P cx){ρ:bf}{op:BinOp}{t:TypeId}{cst:Bool}{x y v:AV}{x' y':Value}{xo yo:Operand}
  (h:bI cx op t cst x y=some v) (hc:cst=(isC xo||isC yo)) (hx:aq ρ x x') (hy:aq ρ y y') (w:World) :
  ∃z,((do eqGuard op t xo yo x' y';binOp op t x' y':Sem Value)).run P w=.ok z w/\aq ρ v z:=by
 unfold bI at h;split at h
 .rename_i j a k b;simp only[aq]at hx hy;subst hx hy;have hg:(eqGuard op t xo yo (.int j a) (.int k b)).run P w=.ok () w:=by unfold eqGuard;cases op<;>rfl
  simp only[zze,hg,zzb];split at h
  .cases b with
   |negSucc n=>cases h
   |ofNat n=>
   cases h;have hn:¬((Int.ofNat n)<0):=by simp
   refine⟨.int j (j.wrap (a*2 ^ (min n j.bits))),?_,?_⟩
   .simp only[binOp,Op.shift,hn,if_false];simp
   .simp only[iM,aq];congr 2
  .cases b with
   |negSucc n=>cases h
   |ofNat n=>
   cases h;have hn:¬((Int.ofNat n)<0):=by simp
   refine⟨.int j (a.fdiv (2 ^ (min n j.bits))),?_,?_⟩
   .simp only[binOp,Op.shift,hn,if_false];simp
   .simp only[eG,aq];congr 2
  .rename_i hs hs';rw[cL]at h;by_cases hk:j=k
   .rw[decide_eq_true hk]at h;subst hk;obtain⟨z,r1,r2⟩:=binI_run (P:=P) h hs hs' w;refine⟨z,?_,r2 ρ⟩;have:binOp op t (.int j a) (.int j b)=binOp op 0 (.int j a) (.int j b):=by cases op<;>rfl
    rw[this];exact r1
   .rw[decide_eq_false hk]at h;cases h
 .rename_i a b;simp only[aq]at hx hy;obtain⟨a',rfl,ha⟩:=hx;obtain⟨b',rfl,hb⟩:=hy;have hg:(eqGuard op t xo yo (.string a') (.string b')).run P w=.ok () w:=by unfold eqGuard;cases op<;>rfl
  simp only[zze,hg,zzb];obtain⟨z,r1,r2⟩:=binS_run (P:=P) h ha hb w;refine⟨z,?_,r2 ρ⟩;have:binOp op t (.string a') (.string b')=Op.stringOp op a' b':=by
   cases op<;>first|rfl|(simp[wh]at h)
  rw[this];exact r1
 .split at h
  .cases he:qh cx t cst x y with
   |none=>simp[he]at h
   |some r=>
    simp only[he,zza]at h;subst h;obtain⟨k1,k2,k3⟩:=eqV_run aI he hc hx hy w;exact⟨.bool r,by simp only[zze,k3,zzb,xQ k1,k2,Sem.run_pure],by simp[aq]⟩
  .cases he:qh cx t cst x y with
   |none=>simp[he]at h
   |some r=>
    simp only[he,zza]at h;subst h;obtain⟨k1,k2,k3⟩:=eqV_run aI he hc hx hy w;exact⟨.bool (!r),by simp only[zze,k3,zzb,xP k1,k2,Sem.run_pure],by simp[aq]⟩
  .exact gtrV_run h hx hy w
  .cases h
theorem unV_run{P:Program}{ρ:bf}{op:UnOp}{x v:AV}{x':Value}(h:unV op x=some v)(hx:aq ρ x x')(w:World):
  ∃z,(Op.unary op x').run P w=.ok z w/\aq ρ v z:=by
 unfold unV at h;split at h<;>cases h<;>simp only[aq]at hx<;>subst hx
 .exact⟨_,rfl,by simp[aq]⟩
 .exact⟨_,rfl,by simp only[iM,aq];rfl⟩
 .rename_i k n;refine⟨_,(oH (op:=.xor) (by simp) w),?_⟩;rw[jk (by simp)];simp only[aq];congr 2;cases k<;>rfl
end Go.Am
namespace Go.Am
open Go
variable{Λ:LB}
theorem fz{ρ:bf}{x:AV}{v:Value}{n:Nat}(h:eY x=some n)(hv:aq ρ x v):∃k,v=.int k (n:Int):=by
 cases x<;>simp only[eY]at h<;>(try (cases h;done));rename_i k m;cases m with
 |negSucc m=>cases h
 |ofNat m=>simp only[zza]at h;subst h;simp only[aq]at hv;exact⟨k,hv⟩
theorem cV{P:Program}{k:IntKind}{i y:Nat}{code:BoundsCode}(h:i<=y)(w:World):(Instr.sliceBound (.int k (i:Int)) y code).run P w=.ok i w:=by
 have:(0:Int)<=i/\(i:Int)<=y:=by omega
 simp[Instr.sliceBound,asIntOf,this]
theorem mB{ρ:bf}{F:Fr}{a:Act}(hF:eA ρ F a){x:Operand}{d n:Nat}(h:bound F (some x) d=some n):∃k,a.eval x=.int k (n:Int):=
 fz h (hF.eval x)
theorem nC{P:Program}{ρ:bf}{F:Fr}{a:Act}(hF:eA ρ F a){isSl:Bool}{len cap l h m:Nat}{lo hi mx:Option Operand}
  (hl:bound F lo 0=some l) (hh:bound F hi len=some h) (hm0:mx=none->m=cap) (hm1:∀o,mx=some o->eY (eval F o)=some m) (hx:mx=none\/hi≠none)
  (h1:l<=h) (h2:h<=m) (h3:m<=cap) (w:World) :
  (Instr.sliceBounds isSl len cap (lo.map a.eval) (hi.map a.eval) (mx.map a.eval)).run P w=.ok (l,h,m) w:=by
 unfold Instr.sliceBounds;cases mx with
 |none=>
  obtain rfl:=hm0 rfl;cases hi with
  |none=>
   simp only[bound,zza]at hh;subst hh;cases lo with
   |none=>simp only[bound,zza]at hl;subst hl;simp
   |some lo=>obtain⟨k,e⟩:=mB hF hl;simp[e,cV h1]
  |some hi=>
   obtain⟨k,e⟩:=mB hF hh;cases lo with
   |none=>simp only[bound,zza]at hl;subst hl;simp[e,cV h2]
   |some lo=>obtain⟨k2,e2⟩:=mB hF hl;simp[e,e2,cV h1,cV h2]
 |some mx=>
  obtain⟨k,e⟩:=fz (hm1 mx rfl) (hF.eval mx);cases hi with
  |none=>exact absurd rfl (hx.resolve_left (by simp))
  |some hi=>
   obtain⟨k2,e2⟩:=mB hF hh;cases lo with
   |none=>simp only[bound,zza]at hl;subst hl;simp[e,e2,cV h2,cV h3]
   |some lo=>obtain⟨k3,e3⟩:=mB hF hl;simp[e,e2,e3,cV h1,cV h2,cV h3]
theorem ns{P:Program}{ρ:bf}{F:Fr}{a:Act}(hF:eA ρ F a){isSl:Bool}{len room cap l h m:Nat}{lo hi mx:Option Operand}
  (hb:bounds F len room lo hi mx=some (l,h,m)) (hr:room<=cap) :
  l<=h/\h<=m/\m<=room/\(mx=none->m=room) /\
   ∀w,∃m',(Instr.sliceBounds isSl len cap (lo.map a.eval) (hi.map a.eval) (mx.map a.eval)).run P w=.ok (l,h,m') w/\(mx=none->m'=cap)/\(vu mx=true->m'=m):=by
 unfold bounds at hb;cases hl:bound F lo 0 with
 |none=>simp[hl]at hb
 |some l0=>
  cases hh:bound F hi len with
  |none=>simp[hl,hh]at hb
  |some h0=>
   cases gf:bound F mx room with
   |none=>simp[hl,hh,gf]at hb
   |some m0=>
    simp only[hl,hh,gf,cG]at hb;cases hc:(decide (l0<=h0)&&decide (h0<=m0)&&decide (m0<=room)&&(!vu mx||vu hi))with
    |false=>simp[hc]at hb
    |true=>
     simp only[hc,cond_true,zza,Prod.mk.injEq]at hb;obtain⟨rfl,rfl,rfl⟩:=hb;simp only[Bool.and_eq_true,decide_eq_true_eq]at hc;obtain⟨⟨⟨c1,c2⟩,c3⟩,c4⟩:=hc;refine⟨c1,c2,c3,fun e=>by subst e;simp only[bound,zza]at gf;exact gf.symm,fun w=>?_⟩;cases mx with
     |none=>
      simp only[bound,zza]at gf;subst gf;exact⟨cap,nC hF hl hh (fun _=>rfl) (fun o e=>by cases e) (.inl rfl) c1 (by omega) (zzf _) w,fun _=>rfl,fun e=>by cases e⟩
     |some mx=>
      refine⟨m0,nC hF hl hh (fun e=>by cases e) (fun o e=>by cases e;exact gf) (.inr ?_) c1 c2 (by omega) w,(fun e=>by cases e),fun _=>rfl⟩;rintro rfl;simp[vu]at c4
theorem str_cut{b:ByteArray}{s:List Nat}(h:b.data.toList.map UInt8.toNat=s)(l u:Nat):(b.extract l u).data.toList.map UInt8.toNat=(s.drop l).take (u-l):=by
 rw[<-h,ByteArray.data_extract,Array.toList_extract,List.extract_eq_take_drop,List.map_take,List.map_drop]
theorem aq.fK{ρ:bf}{id g off len aM sz:Nat}{cap:Option Nat}{v:Value}(pl:Pl)(c:Nat)(p1:ρ id g=some pl)(p2:aM<=pl.n)(p3:off+len*sz<=aM)(p4:0<sz)(p5:len<=c)
  (hh : (v = .slice (some ⟨pl.b, pl.base + off, none⟩) len c ∧ pl.base + off + c * sz ≤ pl.N ∧ (∀ k, cap = some k → c = k ∧ off + k * sz ≤ aM)) ∨
     (len=0/\c=0/\(∀k,cap=some k->k=0)/\∃a,v=.slice (some a) 0 0)):aq ρ (.slice id g off len aM sz cap) v:=by
 simp only[aq];exact⟨pl,c,p1,p2,p3,p4,p5,hh⟩
theorem D3{ρ:bf}{id g off len aM sz l h m c:Nat}{cap:Option Nat}{v:Value}{a:Option Addr}
  (hv:aq ρ (.slice id g off len aM sz cap) (.slice a len c)) (hlh:l<=h) (hhm:h<=m) (hmc:m<=c) (hml:off+m*sz<=aM)
  (he:v=.slice (if m=l then a else a.map (·.add (l*sz))) (h-l) (m-l)):aq ρ (Bh id g off aM sz l h m) v:=by
 subst he;unfold Bh;simp only[bC,aQ];simp only[aq]at hv;obtain⟨pl,c',p1,p2,p3,p4,p5,hh⟩:=hv;by_cases hm:m=l
 .have hl:h=l:=by omega
  subst hm hl;rw[decide_eq_true rfl];simp only[cond_true,if_true,Nat.sub_self];refine aq.fK pl 0 p1 p2 ?_ p4 (zzf _) ?_
  .have:off<=aM:=Nat.le_trans (Nat.le_add_right _ _) hml;omega
  .rcases hh with⟨e,q1,q2⟩|⟨e1,e2,e3,a',e⟩
   .cases e;refine .inl ⟨rfl,by omega,fun k hk=>?_⟩;cases hk;exact⟨rfl,by have:=Nat.le_add_right off (h*sz);omega⟩
   .cases e;exact .inr ⟨rfl,rfl,fun k hk=>by cases hk;rfl,_,rfl⟩
 .rw[decide_eq_false hm];simp only[cond_false,if_neg hm];have ni:0<m:=by omega
  have eL:off+l*sz+(h-l)*sz=off+h*sz:=by
   rw[zzg,<-zzh];congr 2;omega
  have eM:off+l*sz+(m-l)*sz=off+m*sz:=by
   rw[zzg,<-zzh];congr 2;omega
  have hhs:h*sz<=m*sz:=zzd _ hhm;have g1:off+l*sz+(h-l)*sz<=aM:=by rw[eL];omega
  have g2:off+l*sz+(m-l)*sz<=aM:=by rw[eM];exact hml
  rcases hh with⟨e,q1,q2⟩|⟨e1,e2,e3,a',e⟩
  .cases e;refine aq.fK pl (m-l) p1 p2 g1 p4 (Nat.sub_le_sub_right hhm l) (.inl ⟨?_,?_,fun k hk=>?_⟩)
   .show Value.slice ((some (⟨pl.b,pl.base+off,none⟩:Addr)).map (·.add (l*sz))) (h-l) (m-l)=.slice (some ⟨pl.b,pl.base+(off+l*sz),none⟩) (h-l) (m-l);rw[Option.map_some,fw,zzg]
   .have:m*sz<=c*sz:=zzd _ hmc;show pl.base+(off+l*sz)+(m-l)*sz<=pl.N;have e3:pl.base+(off+l*sz)+(m-l)*sz=pl.base+(off+l*sz+(m-l)*sz):=by omega
    rw[e3,eM];omega
   .cases hk;exact⟨rfl,g2⟩
  .cases e;omega
theorem openV_rel{ρ:bf}{id g off len aM sz l h c:Nat}{v:Value}{a:Option Addr}
  (hv:aq ρ (.slice id g off len aM sz none) (.slice a len c)) (hlh:l<=h) (hhm:h<=len)
  (he:v=.slice (if c=l then a else a.map (·.add (l*sz))) (h-l) (c-l)):aq ρ (.slice id g (off+l*sz) (h-l) aM sz none) v:=by
 subst he;simp only[aq]at hv;obtain⟨pl,c',p1,p2,p3,p4,p5,hh⟩:=hv;have eL:off+l*sz+(h-l)*sz=off+h*sz:=by
  rw[zzg,<-zzh];congr 2;omega
 have hhs:h*sz<=len*sz:=zzd _ hhm;have g1:off+l*sz+(h-l)*sz<=aM:=by rw[eL];omega
 rcases hh with⟨e,q1,q2⟩|⟨e1,e2,e3,a',e⟩
 .cases e;refine aq.fK pl (c-l) p1 p2 g1 p4 (by omega) ?_;by_cases hc:c=l
  .rw[if_pos hc];obtain rfl:h=l:=by omega
   exact .inr ⟨by omega,by omega,fun k hk=>(by cases hk),_,by rw[hc,Nat.sub_self]⟩
  .rw[if_neg hc];refine .inl ⟨by rw[Option.map_some,fw,zzg],?_,fun k hk=>by cases hk⟩;have e3:pl.base+(off+l*sz)+(c-l)*sz=pl.base+off+(l*sz+(c-l)*sz):=by omega
   have e4:l*sz+(c-l)*sz=c*sz:=by rw[<-zzh];congr 1;omega
   rw[e3,e4];exact q1
 .cases e;obtain rfl:l=0:=by omega
  obtain rfl:h=0:=by omega
  exact aq.fK pl 0 p1 p2 (by simpa using (by omega:off<=aM)) p4 (zzf _) (.inr ⟨rfl,rfl,fun k hk=>(by cases hk),a',by simp⟩)
theorem fX{ρ:bf}{id g off len aM sz:Nat}{cap:Option Nat}{v:Value}(hv:aq ρ (.slice id g off len aM sz cap) v):
  ∃a c,v=.slice (some a) len c/\len<=c/\∀k,cap=some k->c=k:=by
 simp only[aq]at hv;obtain⟨pl,c,p1,p2,p3,p4,p5,hh⟩:=hv;rcases hh with⟨e,q1,q2⟩|⟨e1,e2,e3,a',e⟩
 .exact⟨_,c,e,p5,fun k hk=>(q2 k hk).1⟩
 .subst e1 e2;exact⟨a',0,e,zzf _,fun k hk=>(e3 k hk).symm⟩
theorem Fu{ρ:bf}{id g off len aM sz k:Nat}{v:Value}(hv:aq ρ (.slice id g off len aM sz (some k)) v):off+k*sz<=aM:=by
 simp only[aq]at hv;obtain⟨pl,c,p1,p2,p3,p4,p5,hh⟩:=hv;rcases hh with⟨e,q1,q2⟩|⟨e1,e2,e3,a',e⟩
 .exact (q2 k rfl).2
 .have:=e3 k rfl;subst this;omega
theorem yx{ρ:bf}{id g off len aM sz:Nat}{cap:Option Nat}{v:Value}(hv:aq ρ (.slice id g off len aM sz cap) v):off+len*sz<=aM:=by
 simp only[aq]at hv;obtain⟨pl,c,p1,p2,p3,_⟩:=hv;exact p3
theorem Fv{P:Program}{cx:Cx}(aI:cU Λ P cx){ρ:bf}{F:Fr}{a:Act}(hF:eA ρ F a){t:TypeId}{x v:AV}{x':Value}{lo hi mx:Option Operand}
  (h:fL cx F t x lo hi mx=some v) (hx:aq ρ x x') (w:World) :
  ∃z,(Instr.sliceAt t x' (lo.map a.eval) (hi.map a.eval) (mx.map a.eval)).run P w=.ok z w/\aq ρ v z:=by
 unfold fL at h;cases hu:bJ cx t with
 |none=>simp[hu]at h
 |some d=>
  have oy:=aP aI hu w;rw[hu]at h;split at h
  ·-- a string
   rename_i s heq;cases heq;simp only[aq]at hx;obtain⟨b,rfl,hb⟩:=hx;cases AQ:bounds F s.length s.length lo hi mx with
   |none=>simp[AQ]at h
   |some r=>
    obtain⟨l,u,m⟩:=r;simp only[AQ]at h;cases hs:vu mx with
    |true=>simp[hs]at h
    |false=>
     have hmx:mx=none:=by cases mx with|none=>rfl|some _=>cases hs
     subst hmx;simp only[hs,cond_false,zza,cK,cY,Nat.sub_eq]at h;subst h;obtain⟨c1,c2,c3,c4,c5⟩:=ns (P:=P) hF (isSl:=false) AQ (zzf _);refine⟨.string (b.extract l u),?_,by simp only[aq];exact⟨_,rfl,str_cut hb l u⟩⟩;have nf:=lU hb;obtain⟨m',this,_,_⟩:=c5 w;rw[<-nf]at this;simp only[Option.map_none]at this;simp only[Instr.sliceAt,Instr.slice,zze,oy,zzb,Option.map_none,Option.isSome_none,zzc,if_false,this];rfl
  .rename_i e heq;cases heq;simp only[aq]at hx;subst hx;cases hs:aH cx e with
   |none=>simp[hs]at h
   |some n=>
    cases AQ:bounds F 0 0 lo hi mx with
    |none=>simp[hs,AQ]at h
    |some r=>
     obtain⟨l,u,m⟩:=r;simp only[hs,AQ,zza]at h;subst h;obtain⟨c1,c2,c3,c4,c5⟩:=ns (P:=P) hF (isSl:=true) AQ (zzf _);obtain⟨m',h5,h6,h7⟩:=c5 w;obtain⟨rfl,rfl,rfl⟩:l=0/\u=0/\m=0:=by omega
     have hm0:m'=0:=by cases mx with|none=>exact h6 rfl|some _=>exact h7 rfl
     subst hm0;refine⟨.slice none 0 0,?_,by simp[aq]⟩;simp only[Instr.sliceAt,Instr.slice,zze,oy,zzb,h5,ef aI hs];simp
  .rename_i e id g off len aM sz cap heq;cases heq;cases hs:aH cx e with
   |none=>simp[hs]at h
   |some z=>
    simp only[hs,bC]at h;by_cases hz:z=sz
    .subst hz;rw[decide_eq_true rfl]at h;simp only[cond_true]at h;obtain⟨ad,c,rfl,hlc,mn⟩:=fX hx;cases AQ:bounds F len (mP len cap) lo hi mx with
     |none=>simp[AQ]at h
     |some r=>
      obtain⟨l,u,m⟩:=r;simp only[AQ]at h;have vD:mP len cap<=c:=by
       cases cap with
       |none=>exact hlc
       |some k=>exact Nat.le_of_eq (mn k rfl).symm
      obtain⟨c1,c2,c3,c4,c5⟩:=ns (P:=P) hF (isSl:=true) AQ vD;obtain⟨m',h5,h6,h7⟩:=c5 w;have run:(Instr.sliceAt t (.slice (some ad) len c) (lo.map a.eval) (hi.map a.eval) (mx.map a.eval)).run P w =
        .ok (.slice (if m'=l then some ad else (some ad).map (·.add (l*z))) (u-l) (m'-l)) w:=by
       simp only[Instr.sliceAt,Instr.slice,zze,oy,zzb,h5,ef aI hs];rfl
      refine⟨_,run,?_⟩;cases hd:(vu mx||vu cap)with
      |true=>
       simp only[hd,cond_true,zza]at h;subst h;have hm:m'=m:=by
        cases mx with
        |some _=>exact h7 rfl
        |none=>
         cases cap with
         |none=>simp[vu]at hd
         |some k=>rw[h6 rfl,c4 rfl,mn k rfl];rfl
       subst hm;have hmc:m'<=c:=by omega
       refine D3 hx c1 c2 hmc ?_ rfl;cases cap with
       |some k=>
        have:=Fu hx;have h8:m'*z<=k*z:=zzd _ (show m'<=k from c3);omega
       |none=>
        have:=yx hx;have h8:m'*z<=len*z:=zzd _ (show m'<=len from c3);omega
      |false=>
       simp only[hd,cond_false,zza,aQ]at h;subst h;simp only[Bool.or_eq_false_iff]at hd;have hmx:mx=none:=by cases mx with|none=>rfl|some _=>simp[vu]at hd
       have hcp:cap=none:=by cases cap with|none=>rfl|some _=>simp[vu]at hd
       subst hmx hcp;rw[h6 rfl];exact openV_rel hx c1 (Nat.le_trans c2 (show m<=len from c3)) rfl
    .rw[decide_eq_false hz]at h;cases h
  .rename_i n e id g off aM heq;cases heq;split at h
   .rename_i z hs;cases AQ:bounds F n n lo hi mx with
    |none=>simp[AQ]at h
    |some r=>
     obtain⟨l,u,m⟩:=r;simp only[AQ,cG]at h;by_cases hlim:off.add (n.mul (Nat.succ z))<=aM
     .rw[decide_eq_true hlim]at h;simp only[cond_true,zza]at h;subst h;obtain⟨c1,c2,c3,c4,c5⟩:=ns (P:=P) hF (isSl:=false) AQ (zzf _);obtain⟨m',h5,h6,h7⟩:=c5 w;have hm:m'=m:=by
       cases mx with
       |some _=>exact h7 rfl
       |none=>rw[h6 rfl,c4 rfl]
      subst hm;simp only[aq]at hx;obtain⟨pl,p1,p2,rfl⟩:=hx;have hlim':off+n*(z+1)<=aM:=hlim;have run:(Instr.sliceAt t (.pointer (some ⟨pl.b,pl.base+off,none⟩)) (lo.map a.eval) (hi.map a.eval) (mx.map a.eval)).run P w =
        .ok (.slice (some (if m'=l then⟨pl.b,pl.base+off,none⟩ else (⟨pl.b,pl.base+off,none⟩:Addr).add (l*(z+1)))) (u-l) (m'-l)) w:=by
       simp only[Instr.sliceAt,Instr.sureAddr,zze,oy,zzb,h5,ef aI hs,Sem.run_pure]
      refine⟨_,run,?_⟩;have hv:aq ρ (.slice id g off n aM (z+1) (some n)) (.slice (some ⟨pl.b,pl.base+off,none⟩) n n):=by
       refine aq.fK pl n p1 p2 hlim' (Nat.succ_pos _) (zzf _) (.inl ⟨rfl,?_,fun k hk=>?_⟩)
       .have:=pl.le;omega
       .cases hk;exact⟨rfl,hlim'⟩
      refine D3 hv c1 c2 c3 ?_ ?_
      .have h8:m'*(z+1)<=n*(z+1):=zzd _ c3;show off+m'*(z+1)<=aM;omega
      .congr 1;by_cases e:m'=l
       .rw[if_pos e,if_pos e]
       .rw[if_neg e,if_neg e];rfl
     .rw[decide_eq_false hlim]at h;cases h
   .cases h
  .cases h
end Go.Am
