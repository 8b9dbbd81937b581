/-
  The abstract machine against the model: what reckons alone, more: slices, aggregates, conversions.
-/
import Derived.Test.YtdknlbnljfdhgaaGreatDoorAmBin
namespace Go.Am
open Go
variable{Λ:LB}
theorem fF{ρ:aO}{x:AV}{v:Value}{n:Nat}(h:eR x=some n)(hv:ah ρ x v):∃k,v=.int k (n:Int):=by
 cases x<;>simp only[eR]at h<;>(try (cases h;done));rename_i k m;cases m with
 |negSucc m=>cases h
 |ofNat m=>simp only[Option.some.injEq]at h;subst h;simp only[ah]at hv;exact⟨k,hv⟩
theorem cX{P:Program}{k:IntKind}{i y:Nat}{code:BoundsCode}(h:i<=y)(w:World):(Instr.sliceBound (.int k (i:Int)) y code).run P w=.ok i w:=by
 have:(0:Int)<=i/\(i:Int)<=y:=by omega
 simp[Instr.sliceBound,asIntOf,this]
theorem m8{ρ:aO}{F:Fr}{a:Act}(hF:dT ρ F a){x:Operand}{d n:Nat}(h:bound F (some x) d=some n):∃k,a.eval x=.int k (n:Int):=
 fF h (hF.eval x)
theorem oe{P:Program}{ρ:aO}{F:Fr}{a:Act}(hF:dT ρ F a){isSl:Bool}{len cap l h m:Nat}{lo hi mx:Option Operand}
  (hl:bound F lo 0=some l) (hh:bound F hi len=some h) (hm0:mx=none->m=cap) (hm1:∀o,mx=some o->eR (eval F o)=some m) (hx:mx=none\/hi≠none)
  (h1:l<=h) (h2:h<=m) (h3:m<=cap) (w:World) :
  (Instr.sliceBounds isSl len cap (lo.map a.eval) (hi.map a.eval) (mx.map a.eval)).run P w=.ok (l,h,m) w:=by
 unfold Instr.sliceBounds;cases mx with
 |none=>
  obtain rfl:=hm0 rfl;cases hi with
  |none=>
   simp only[bound,Option.some.injEq]at hh;subst hh;cases lo with
   |none=>simp only[bound,Option.some.injEq]at hl;subst hl;simp
   |some lo=>obtain⟨k,e⟩:=m8 hF hl;simp[e,cX h1]
  |some hi=>
   obtain⟨k,e⟩:=m8 hF hh;cases lo with
   |none=>simp only[bound,Option.some.injEq]at hl;subst hl;simp[e,cX h2]
   |some lo=>obtain⟨k2,e2⟩:=m8 hF hl;simp[e,e2,cX h1,cX h2]
 |some mx=>
  obtain⟨k,e⟩:=fF (hm1 mx rfl) (hF.eval mx);cases hi with
  |none=>exact absurd rfl (hx.resolve_left (by simp))
  |some hi=>
   obtain⟨k2,e2⟩:=m8 hF hh;cases lo with
   |none=>simp only[bound,Option.some.injEq]at hl;subst hl;simp[e,e2,cX h2,cX h3]
   |some lo=>obtain⟨k3,e3⟩:=m8 hF hl;simp[e,e2,e3,cX h1,cX h2,cX h3]
theorem nX{P:Program}{ρ:aO}{F:Fr}{a:Act}(hF:dT ρ F a){isSl:Bool}{len room cap l h m:Nat}{lo hi mx:Option Operand}
  (hb:bounds F len room lo hi mx=some (l,h,m)) (hr:room<=cap) :
  l<=h/\h<=m/\m<=room/\(mx=none->m=room) /\
   ∀w,∃m',(Instr.sliceBounds isSl len cap (lo.map a.eval) (hi.map a.eval) (mx.map a.eval)).run P w=.ok (l,h,m') w/\(mx=none->m'=cap)/\(yp mx=true->m'=m):=by
 unfold bounds at hb;cases hl:bound F lo 0 with
 |none=>simp[hl]at hb
 |some l0=>
  cases hh:bound F hi len with
  |none=>simp[hl,hh]at hb
  |some h0=>
   cases gN:bound F mx room with
   |none=>simp[hl,hh,gN]at hb
   |some m0=>
    simp only[hl,hh,gN,cH]at hb;cases hc:(decide (l0<=h0)&&decide (h0<=m0)&&decide (m0<=room)&&(!yp mx||yp hi))with
    |false=>simp[hc]at hb
    |true=>
     simp only[hc,cond_true,Option.some.injEq,Prod.mk.injEq]at hb;obtain⟨rfl,rfl,rfl⟩:=hb;simp only[Bool.and_eq_true,decide_eq_true_eq]at hc;obtain⟨⟨⟨c1,c2⟩,c3⟩,c4⟩:=hc;refine⟨c1,c2,c3,fun e=>by subst e;simp only[bound,Option.some.injEq]at gN;exact gN.symm,fun w=>?_⟩;cases mx with
     |none=>
      simp only[bound,Option.some.injEq]at gN;subst gN;exact⟨cap,oe hF hl hh (fun _=>rfl) (fun o e=>by cases e) (.inl rfl) c1 (by omega) (Nat.le_refl _) w,fun _=>rfl,fun e=>by cases e⟩
     |some mx=>
      refine⟨m0,oe hF hl hh (fun e=>by cases e) (fun o e=>by cases e;exact gN) (.inr ?_) c1 c2 (by omega) w,(fun e=>by cases e),fun _=>rfl⟩;rintro rfl;simp[yp]at c4
theorem str_cut{b:ByteArray}{s:List Nat}(h:b.data.toList.map UInt8.toNat=s)(l u:Nat):(b.extract l u).data.toList.map UInt8.toNat=(s.drop l).take (u-l):=by
 rw[<-h,ByteArray.data_extract,Array.toList_extract,List.extract_eq_take_drop,List.map_take,List.map_drop]
theorem ah.fP{ρ:aO}{id g off len lim sz:Nat}{cap:Option Nat}{v:Value}(pl:Pl)(c:Nat)(p1:ρ id g=some pl)(p2:lim<=pl.n)(p3:off+len*sz<=lim)(p4:0<sz)(p5:len<=c)
  (hh : (v = .slice (some ⟨pl.b, pl.base + off, none⟩) len c ∧ pl.base + off + c * sz ≤ pl.N ∧ (∀ k, cap = some k → c = k ∧ off + k * sz ≤ lim)) ∨
     (len=0/\c=0/\(∀k,cap=some k->k=0)/\∃a,v=.slice (some a) 0 0)):ah ρ (.slice id g off len lim sz cap) v:=by
 simp only[ah];exact⟨pl,c,p1,p2,p3,p4,p5,hh⟩
theorem Ff{ρ:aO}{id g off len lim sz l h m c:Nat}{cap:Option Nat}{v:Value}{a:Option Addr}
  (hv:ah ρ (.slice id g off len lim sz cap) (.slice a len c)) (hlh:l<=h) (hhm:h<=m) (hmc:m<=c) (se:off+m*sz<=lim)
  (he:v=.slice (if m=l then a else a.map (·.add (l*sz))) (h-l) (m-l)):ah ρ (Ca id g off lim sz l h m) v:=by
 subst he;unfold Ca;simp only[bF,aN];simp only[ah]at hv;obtain⟨pl,c',p1,p2,p3,p4,p5,hh⟩:=hv;by_cases hm:m=l
 .have hl:h=l:=by omega
  subst hm hl;rw[decide_eq_true rfl];simp only[cond_true,if_true,Nat.sub_self];refine ah.fP pl 0 p1 p2 ?_ p4 (Nat.le_refl _) ?_
  .have:off<=lim:=Nat.le_trans (Nat.le_add_right _ _) se;omega
  .rcases hh with⟨e,q1,q2⟩|⟨e1,e2,e3,a',e⟩
   .cases e;refine .inl ⟨rfl,by omega,fun k hk=>?_⟩;cases hk;exact⟨rfl,by have:=Nat.le_add_right off (h*sz);omega⟩
   .cases e;exact .inr ⟨rfl,rfl,fun k hk=>by cases hk;rfl,_,rfl⟩
 .rw[decide_eq_false hm];simp only[cond_false,if_neg hm];have pG:0<m:=by omega
  have eL:off+l*sz+(h-l)*sz=off+h*sz:=by
   rw[Nat.add_assoc,<-Nat.add_mul];congr 2;omega
  have eM:off+l*sz+(m-l)*sz=off+m*sz:=by
   rw[Nat.add_assoc,<-Nat.add_mul];congr 2;omega
  have hhs:h*sz<=m*sz:=Nat.mul_le_mul_right _ hhm;have g1:off+l*sz+(h-l)*sz<=lim:=by rw[eL];omega
  have g2:off+l*sz+(m-l)*sz<=lim:=by rw[eM];exact se
  rcases hh with⟨e,q1,q2⟩|⟨e1,e2,e3,a',e⟩
  .cases e;refine ah.fP pl (m-l) p1 p2 g1 p4 (Nat.sub_le_sub_right hhm l) (.inl ⟨?_,?_,fun k hk=>?_⟩)
   .show Value.slice ((some (⟨pl.b,pl.base+off,none⟩:Addr)).map (·.add (l*sz))) (h-l) (m-l)=.slice (some ⟨pl.b,pl.base+(off+l*sz),none⟩) (h-l) (m-l);rw[Option.map_some,gg,Nat.add_assoc]
   .have:m*sz<=c*sz:=Nat.mul_le_mul_right _ hmc;show pl.base+(off+l*sz)+(m-l)*sz<=pl.N;have e3:pl.base+(off+l*sz)+(m-l)*sz=pl.base+(off+l*sz+(m-l)*sz):=by omega
    rw[e3,eM];omega
   .cases hk;exact⟨rfl,g2⟩
  .cases e;omega
theorem openV_rel{ρ:aO}{id g off len lim sz l h c:Nat}{v:Value}{a:Option Addr}
  (hv:ah ρ (.slice id g off len lim sz none) (.slice a len c)) (hlh:l<=h) (hhm:h<=len)
  (he:v=.slice (if c=l then a else a.map (·.add (l*sz))) (h-l) (c-l)):ah ρ (.slice id g (off+l*sz) (h-l) lim sz none) v:=by
 subst he;simp only[ah]at hv;obtain⟨pl,c',p1,p2,p3,p4,p5,hh⟩:=hv;have eL:off+l*sz+(h-l)*sz=off+h*sz:=by
  rw[Nat.add_assoc,<-Nat.add_mul];congr 2;omega
 have hhs:h*sz<=len*sz:=Nat.mul_le_mul_right _ hhm;have g1:off+l*sz+(h-l)*sz<=lim:=by rw[eL];omega
 rcases hh with⟨e,q1,q2⟩|⟨e1,e2,e3,a',e⟩
 .cases e;refine ah.fP pl (c-l) p1 p2 g1 p4 (by omega) ?_;by_cases hc:c=l
  .rw[if_pos hc];obtain rfl:h=l:=by omega
   exact .inr ⟨by omega,by omega,fun k hk=>(by cases hk),_,by rw[hc,Nat.sub_self]⟩
  .rw[if_neg hc];refine .inl ⟨by rw[Option.map_some,gg,Nat.add_assoc],?_,fun k hk=>by cases hk⟩;have e3:pl.base+(off+l*sz)+(c-l)*sz=pl.base+off+(l*sz+(c-l)*sz):=by omega
   have e4:l*sz+(c-l)*sz=c*sz:=by rw[<-Nat.add_mul];congr 1;omega
   rw[e3,e4];exact q1
 .cases e;obtain rfl:l=0:=by omega
  obtain rfl:h=0:=by omega
  exact ah.fP pl 0 p1 p2 (by simpa using (by omega:off<=lim)) p4 (Nat.le_refl _) (.inr ⟨rfl,rfl,fun k hk=>(by cases hk),a',by simp⟩)
theorem gq{ρ:aO}{id g off len lim sz:Nat}{cap:Option Nat}{v:Value}(hv:ah ρ (.slice id g off len lim sz cap) v):
  ∃a c,v=.slice (some a) len c/\len<=c/\∀k,cap=some k->c=k:=by
 simp only[ah]at hv;obtain⟨pl,c,p1,p2,p3,p4,p5,hh⟩:=hv;rcases hh with⟨e,q1,q2⟩|⟨e1,e2,e3,a',e⟩
 .exact⟨_,c,e,p5,fun k hk=>(q2 k hk).1⟩
 .subst e1 e2;exact⟨a',0,e,Nat.le_refl _,fun k hk=>(e3 k hk).symm⟩
theorem slice_room{ρ:aO}{id g off len lim sz k:Nat}{v:Value}(hv:ah ρ (.slice id g off len lim sz (some k)) v):off+k*sz<=lim:=by
 simp only[ah]at hv;obtain⟨pl,c,p1,p2,p3,p4,p5,hh⟩:=hv;rcases hh with⟨e,q1,q2⟩|⟨e1,e2,e3,a',e⟩
 .exact (q2 k rfl).2
 .have:=e3 k rfl;subst this;omega
theorem zA{ρ:aO}{id g off len lim sz:Nat}{cap:Option Nat}{v:Value}(hv:ah ρ (.slice id g off len lim sz cap) v):off+len*sz<=lim:=by
 simp only[ah]at hv;obtain⟨pl,c,p1,p2,p3,_⟩:=hv;exact p3
theorem sliceV_run{P:Program}{cx:Cx}(aC:dq Λ P cx){ρ:aO}{F:Fr}{a:Act}(hF:dT ρ F a){t:TypeId}{x v:AV}{x':Value}{lo hi mx:Option Operand}
  (h:eK cx F t x lo hi mx=some v) (hx:ah ρ x x') (w:World) :
  ∃z,(Instr.sliceAt t x' (lo.map a.eval) (hi.map a.eval) (mx.map a.eval)).run P w=.ok z w/\ah ρ v z:=by
 unfold eK at h;cases hu:bC cx t with
 |none=>simp[hu]at h
 |some d=>
  have qt:=aF aC hu w;rw[hu]at h;split at h
  ·-- a string
   rename_i s heq;cases heq;simp only[ah]at hx;obtain⟨b,rfl,hb⟩:=hx;cases ue:bounds F s.length s.length lo hi mx with
   |none=>simp[ue]at h
   |some r=>
    obtain⟨l,u,m⟩:=r;simp only[ue]at h;cases hs:yp mx with
    |true=>simp[hs]at h
    |false=>
     have hmx:mx=none:=by cases mx with|none=>rfl|some _=>cases hs
     subst hmx;simp only[hs,cond_false,Option.some.injEq,ct,ca,Nat.sub_eq]at h;subst h;obtain⟨c1,c2,c3,c4,c5⟩:=nX (P:=P) hF (isSl:=false) ue (Nat.le_refl _);refine⟨.string (b.extract l u),?_,by simp only[ah];exact⟨_,rfl,str_cut hb l u⟩⟩;have lT:=mJ hb;obtain⟨m',this,_,_⟩:=c5 w;rw[<-lT]at this;simp only[Option.map_none]at this;simp only[Instr.sliceAt,Instr.slice,Sem.run_bind,qt,Result.andThen_ok,Option.map_none,Option.isSome_none,Bool.false_eq_true,if_false,this];rfl
  .rename_i e heq;cases heq;simp only[ah]at hx;subst hx;cases hs:aE cx e with
   |none=>simp[hs]at h
   |some n=>
    cases ue:bounds F 0 0 lo hi mx with
    |none=>simp[hs,ue]at h
    |some r=>
     obtain⟨l,u,m⟩:=r;simp only[hs,ue,Option.some.injEq]at h;subst h;obtain⟨c1,c2,c3,c4,c5⟩:=nX (P:=P) hF (isSl:=true) ue (Nat.le_refl _);obtain⟨m',h5,h6,h7⟩:=c5 w;obtain⟨rfl,rfl,rfl⟩:l=0/\u=0/\m=0:=by omega
     have hm0:m'=0:=by cases mx with|none=>exact h6 rfl|some _=>exact h7 rfl
     subst hm0;refine⟨.slice none 0 0,?_,by simp[ah]⟩;simp only[Instr.sliceAt,Instr.slice,Sem.run_bind,qt,Result.andThen_ok,h5,dZ aC hs];simp
  .rename_i e id g off len lim sz cap heq;cases heq;cases hs:aE cx e with
   |none=>simp[hs]at h
   |some z=>
    simp only[hs,bF]at h;by_cases hz:z=sz
    .subst hz;rw[decide_eq_true rfl]at h;simp only[cond_true]at h;obtain⟨ad,c,rfl,hlc,mW⟩:=gq hx;cases ue:bounds F len (ny len cap) lo hi mx with
     |none=>simp[ue]at h
     |some r=>
      obtain⟨l,u,m⟩:=r;simp only[ue]at h;have Ab:ny len cap<=c:=by
       cases cap with
       |none=>exact hlc
       |some k=>exact Nat.le_of_eq (mW k rfl).symm
      obtain⟨c1,c2,c3,c4,c5⟩:=nX (P:=P) hF (isSl:=true) ue Ab;obtain⟨m',h5,h6,h7⟩:=c5 w;have run:(Instr.sliceAt t (.slice (some ad) len c) (lo.map a.eval) (hi.map a.eval) (mx.map a.eval)).run P w =
        .ok (.slice (if m'=l then some ad else (some ad).map (·.add (l*z))) (u-l) (m'-l)) w:=by
       simp only[Instr.sliceAt,Instr.slice,Sem.run_bind,qt,Result.andThen_ok,h5,dZ aC hs];rfl
      refine⟨_,run,?_⟩;cases hd:(yp mx||yp cap)with
      |true=>
       simp only[hd,cond_true,Option.some.injEq]at h;subst h;have hm:m'=m:=by
        cases mx with
        |some _=>exact h7 rfl
        |none=>
         cases cap with
         |none=>simp[yp]at hd
         |some k=>rw[h6 rfl,c4 rfl,mW k rfl];rfl
       subst hm;have hmc:m'<=c:=by omega
       refine Ff hx c1 c2 hmc ?_ rfl;cases cap with
       |some k=>
        have:=slice_room hx;have h8:m'*z<=k*z:=Nat.mul_le_mul_right _ (show m'<=k from c3);omega
       |none=>
        have:=zA hx;have h8:m'*z<=len*z:=Nat.mul_le_mul_right _ (show m'<=len from c3);omega
      |false=>
       simp only[hd,cond_false,Option.some.injEq,aN]at h;subst h;simp only[Bool.or_eq_false_iff]at hd;have hmx:mx=none:=by cases mx with|none=>rfl|some _=>simp[yp]at hd
       have hcp:cap=none:=by cases cap with|none=>rfl|some _=>simp[yp]at hd
       subst hmx hcp;rw[h6 rfl];exact openV_rel hx c1 (Nat.le_trans c2 (show m<=len from c3)) rfl
    .rw[decide_eq_false hz]at h;cases h
  .rename_i n e id g off lim heq;cases heq;split at h
   .rename_i z hs;cases ue:bounds F n n lo hi mx with
    |none=>simp[ue]at h
    |some r=>
     obtain⟨l,u,m⟩:=r;simp only[ue,cH]at h;by_cases hlim:off.add (n.mul (Nat.succ z))<=lim
     .rw[decide_eq_true hlim]at h;simp only[cond_true,Option.some.injEq]at h;subst h;obtain⟨c1,c2,c3,c4,c5⟩:=nX (P:=P) hF (isSl:=false) ue (Nat.le_refl _);obtain⟨m',h5,h6,h7⟩:=c5 w;have hm:m'=m:=by
       cases mx with
       |some _=>exact h7 rfl
       |none=>rw[h6 rfl,c4 rfl]
      subst hm;simp only[ah]at hx;obtain⟨pl,p1,p2,rfl⟩:=hx;have hlim':off+n*(z+1)<=lim:=hlim;have run:(Instr.sliceAt t (.pointer (some ⟨pl.b,pl.base+off,none⟩)) (lo.map a.eval) (hi.map a.eval) (mx.map a.eval)).run P w =
        .ok (.slice (some (if m'=l then⟨pl.b,pl.base+off,none⟩ else (⟨pl.b,pl.base+off,none⟩:Addr).add (l*(z+1)))) (u-l) (m'-l)) w:=by
       simp only[Instr.sliceAt,Instr.sureAddr,Sem.run_bind,qt,Result.andThen_ok,h5,dZ aC hs,Sem.run_pure]
      refine⟨_,run,?_⟩;have hv:ah ρ (.slice id g off n lim (z+1) (some n)) (.slice (some ⟨pl.b,pl.base+off,none⟩) n n):=by
       refine ah.fP pl n p1 p2 hlim' (Nat.succ_pos _) (Nat.le_refl _) (.inl ⟨rfl,?_,fun k hk=>?_⟩)
       .have:=pl.le;omega
       .cases hk;exact⟨rfl,hlim'⟩
      refine Ff hv c1 c2 c3 ?_ ?_
      .have h8:m'*(z+1)<=n*(z+1):=Nat.mul_le_mul_right _ c3;show off+m'*(z+1)<=lim;omega
      .congr 1;by_cases e:m'=l
       .rw[if_pos e,if_pos e]
       .rw[if_neg e,if_neg e];rfl
     .rw[decide_eq_false hlim]at h;cases h
   .cases h
  .cases h
end Go.Am
