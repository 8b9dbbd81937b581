/-
  The abstract machine against the model: what reckons alone, more: slices, aggregates, conversions.
-/
import Derived.Test.YtdknlbnljfdhgaaGreatDoorAmBin
open Option.some renaming injEq->zza
open Nat renaming mul_le_mul_right->zzb,le_refl->zzc,add_assoc->zze,add_mul->zzg
open Go.Result renaming andThen_ok->zzd
open Go.Sem renaming run_bind->zzf
namespace Go.Am
open Go
variable{Λ:LB}
theorem gu{ρ:aY}{x:AV}{v:Value}{n:Nat}(h:fH x=some n)(hv:ai ρ x v):∃k,v=.int k (n:Int):=by
 cases x<;>simp only[fH]at h<;>(try (cases h;done));rename_i k m;cases m with
 |negSucc m=>cases h
 |ofNat m=>simp only[zza]at h;subst h;simp only[ai]at hv;exact⟨k,hv⟩
theorem dy{P:Program}{k:IntKind}{i y:Nat}{code:BoundsCode}(h:i<=y)(w:World):(Instr.sliceBound (.int k (i:Int)) y code).run P w=.ok i w:=by
 have:(0:Int)<=i/\(i:Int)<=y:=by omega
 simp[Instr.sliceBound,asIntOf,this]
theorem oX{ρ:aY}{F:Fr}{a:Act}(hF:eY ρ F a){x:Operand}{d n:Nat}(h:bound F (some x) d=some n):∃k,a.eval x=.int k (n:Int):=
 gu h (hF.eval x)
theorem qg{P:Program}{ρ:aY}{F:Fr}{a:Act}(hF:eY ρ F a){isSl:Bool}{len cap l h m:Nat}{lo hi mx:Option Operand}
  (hl:bound F lo 0=some l) (hh:bound F hi len=some h) (CS:mx=none->m=cap) (hm1:∀o,mx=some o->fH (eval F o)=some m) (hx:mx=none\/hi≠none)
  (h1:l<=h) (h2:h<=m) (h3:m<=cap) (w:World) :
  (Instr.sliceBounds isSl len cap (lo.map a.eval) (hi.map a.eval) (mx.map a.eval)).run P w=.ok (l,h,m) w:=by
 unfold Instr.sliceBounds;cases mx with
 |none=>
  obtain rfl:=CS rfl;cases hi with
  |none=>
   simp only[bound,zza]at hh;subst hh;cases lo with
   |none=>simp only[bound,zza]at hl;subst hl;simp
   |some lo=>obtain⟨k,e⟩:=oX hF hl;simp[e,dy h1]
  |some hi=>
   obtain⟨k,e⟩:=oX hF hh;cases lo with
   |none=>simp only[bound,zza]at hl;subst hl;simp[e,dy h2]
   |some lo=>obtain⟨k2,e2⟩:=oX hF hl;simp[e,e2,dy h1,dy h2]
 |some mx=>
  obtain⟨k,e⟩:=gu (hm1 mx rfl) (hF.eval mx);cases hi with
  |none=>exact absurd rfl (hx.resolve_left (by simp))
  |some hi=>
   obtain⟨k2,e2⟩:=oX hF hh;cases lo with
   |none=>simp only[bound,zza]at hl;subst hl;simp[e,e2,dy h2,dy h3]
   |some lo=>obtain⟨k3,e3⟩:=oX hF hl;simp[e,e2,e3,dy h1,dy h2,dy h3]
theorem qc{P:Program}{ρ:aY}{F:Fr}{a:Act}(hF:eY ρ F a){isSl:Bool}{len room cap l h m:Nat}{lo hi mx:Option Operand}
  (hb:bounds F len room lo hi mx=some (l,h,m)) (hr:room<=cap) :
  l<=h/\h<=m/\m<=room/\(mx=none->m=room) /\
   ∀w,∃m',(Instr.sliceBounds isSl len cap (lo.map a.eval) (hi.map a.eval) (mx.map a.eval)).run P w=.ok (l,h,m') w/\(mx=none->m'=cap)/\(Bk mx=true->m'=m):=by
 unfold bounds at hb;cases hl:bound F lo 0 with
 |none=>simp[hl]at hb
 |some l0=>
  cases hh:bound F hi len with
  |none=>simp[hl,hh]at hb
  |some h0=>
   cases iR:bound F mx room with
   |none=>simp[hl,hh,iR]at hb
   |some m0=>
    simp only[hl,hh,iR,cY]at hb;cases hc:(decide (l0<=h0)&&decide (h0<=m0)&&decide (m0<=room)&&(!Bk mx||Bk hi))with
    |false=>simp[hc]at hb
    |true=>
     simp only[hc,cond_true,zza,Prod.mk.injEq]at hb;obtain⟨rfl,rfl,rfl⟩:=hb;simp only[Bool.and_eq_true,decide_eq_true_eq]at hc;obtain⟨⟨⟨c1,c2⟩,c3⟩,c4⟩:=hc;refine⟨c1,c2,c3,fun e=>by subst e;simp only[bound,zza]at iR;exact iR.symm,fun w=>?_⟩;cases mx with
     |none=>
      simp only[bound,zza]at iR;subst iR;exact⟨cap,qg hF hl hh (fun _=>rfl) (fun o e=>by cases e) (.inl rfl) c1 (by omega) (zzc _) w,fun _=>rfl,fun e=>by cases e⟩
     |some mx=>
      refine⟨m0,qg hF hl hh (fun e=>by cases e) (fun o e=>by cases e;exact iR) (.inr ?_) c1 c2 (by omega) w,(fun e=>by cases e),fun _=>rfl⟩;rintro rfl;simp[Bk]at c4
theorem XN{b:ByteArray}{s:List Nat}(h:b.data.toList.map UInt8.toNat=s)(l u:Nat):(b.extract l u).data.toList.map UInt8.toNat=(s.drop l).take (u-l):=by
 rw[<-h,ByteArray.data_extract,Array.toList_extract,List.extract_eq_take_drop,List.map_take,List.map_drop]
theorem ai.gL{ρ:aY}{id g off len lim sz:Nat}{cap:Option Nat}{v:Value}(pl:Pl)(c:Nat)(p1:ρ id g=some pl)(p2:lim<=pl.n)(p3:off+len*sz<=lim)(p4:0<sz)(p5:len<=c)
  (hh : (v = .slice (some ⟨pl.b, pl.base + off, none⟩) len c ∧ pl.base + off + c * sz ≤ pl.N ∧ (∀ k, cap = some k → c = k ∧ off + k * sz ≤ lim)) ∨
     (len=0/\c=0/\(∀k,cap=some k->k=0)/\∃a,v=.slice (some a) 0 0)):ai ρ (.slice id g off len lim sz cap) v:=by
 simp only[ai];exact⟨pl,c,p1,p2,p3,p4,p5,hh⟩
theorem Ie{ρ:aY}{id g off len lim sz l h m c:Nat}{cap:Option Nat}{v:Value}{a:Option Addr}
  (hv:ai ρ (.slice id g off len lim sz cap) (.slice a len c)) (hlh:l<=h) (hhm:h<=m) (hmc:m<=c) (qz:off+m*sz<=lim)
  (he:v=.slice (if m=l then a else a.map (·.add (l*sz))) (h-l) (m-l)):ai ρ (EL id g off lim sz l h m) v:=by
 subst he;unfold EL;simp only[bO,aQ];simp only[ai]at hv;obtain⟨pl,c',p1,p2,p3,p4,p5,hh⟩:=hv;by_cases hm:m=l
 .have hl:h=l:=by omega
  subst hm hl;rw[decide_eq_true rfl];simp only[cond_true,if_true,Nat.sub_self];refine ai.gL pl 0 p1 p2 ?_ p4 (zzc _) ?_
  .have:off<=lim:=Nat.le_trans (Nat.le_add_right _ _) qz;omega
  .rcases hh with⟨e,q1,q2⟩|⟨e1,e2,e3,a',e⟩
   .cases e;refine .inl ⟨rfl,by omega,fun k hk=>?_⟩;cases hk;exact⟨rfl,by have:=Nat.le_add_right off (h*sz);omega⟩
   .cases e;exact .inr ⟨rfl,rfl,fun k hk=>by cases hk;rfl,_,rfl⟩
 .rw[decide_eq_false hm];simp only[cond_false,if_neg hm];have pP:0<m:=by omega
  have eL:off+l*sz+(h-l)*sz=off+h*sz:=by
   rw[zze,<-zzg];congr 2;omega
  have eM:off+l*sz+(m-l)*sz=off+m*sz:=by
   rw[zze,<-zzg];congr 2;omega
  have hhs:h*sz<=m*sz:=zzb _ hhm;have g1:off+l*sz+(h-l)*sz<=lim:=by rw[eL];omega
  have g2:off+l*sz+(m-l)*sz<=lim:=by rw[eM];exact qz
  rcases hh with⟨e,q1,q2⟩|⟨e1,e2,e3,a',e⟩
  .cases e;refine ai.gL pl (m-l) p1 p2 g1 p4 (Nat.sub_le_sub_right hhm l) (.inl ⟨?_,?_,fun k hk=>?_⟩)
   .show Value.slice ((some (⟨pl.b,pl.base+off,none⟩:Addr)).map (·.add (l*sz))) (h-l) (m-l)=.slice (some ⟨pl.b,pl.base+(off+l*sz),none⟩) (h-l) (m-l);rw[Option.map_some,iq,zze]
   .have:m*sz<=c*sz:=zzb _ hmc;show pl.base+(off+l*sz)+(m-l)*sz<=pl.N;have e3:pl.base+(off+l*sz)+(m-l)*sz=pl.base+(off+l*sz+(m-l)*sz):=by omega
    rw[e3,eM];omega
   .cases hk;exact⟨rfl,g2⟩
  .cases e;omega
theorem Pg{ρ:aY}{id g off len lim sz l h c:Nat}{v:Value}{a:Option Addr}
  (hv:ai ρ (.slice id g off len lim sz none) (.slice a len c)) (hlh:l<=h) (hhm:h<=len)
  (he:v=.slice (if c=l then a else a.map (·.add (l*sz))) (h-l) (c-l)):ai ρ (.slice id g (off+l*sz) (h-l) lim sz none) v:=by
 subst he;simp only[ai]at hv;obtain⟨pl,c',p1,p2,p3,p4,p5,hh⟩:=hv;have eL:off+l*sz+(h-l)*sz=off+h*sz:=by
  rw[zze,<-zzg];congr 2;omega
 have hhs:h*sz<=len*sz:=zzb _ hhm;have g1:off+l*sz+(h-l)*sz<=lim:=by rw[eL];omega
 rcases hh with⟨e,q1,q2⟩|⟨e1,e2,e3,a',e⟩
 .cases e;refine ai.gL pl (c-l) p1 p2 g1 p4 (by omega) ?_;by_cases hc:c=l
  .rw[if_pos hc];obtain rfl:h=l:=by omega
   exact .inr ⟨by omega,by omega,fun k hk=>(by cases hk),_,by rw[hc,Nat.sub_self]⟩
  .rw[if_neg hc];refine .inl ⟨by rw[Option.map_some,iq,zze],?_,fun k hk=>by cases hk⟩;have e3:pl.base+(off+l*sz)+(c-l)*sz=pl.base+off+(l*sz+(c-l)*sz):=by omega
   have e4:l*sz+(c-l)*sz=c*sz:=by rw[<-zzg];congr 1;omega
   rw[e3,e4];exact q1
 .cases e;obtain rfl:l=0:=by omega
  obtain rfl:h=0:=by omega
  exact ai.gL pl 0 p1 p2 (by simpa using (by omega:off<=lim)) p4 (zzc _) (.inr ⟨rfl,rfl,fun k hk=>(by cases hk),a',by simp⟩)
theorem iv{ρ:aY}{id g off len lim sz:Nat}{cap:Option Nat}{v:Value}(hv:ai ρ (.slice id g off len lim sz cap) v):
  ∃a c,v=.slice (some a) len c/\len<=c/\∀k,cap=some k->c=k:=by
 simp only[ai]at hv;obtain⟨pl,c,p1,p2,p3,p4,p5,hh⟩:=hv;rcases hh with⟨e,q1,q2⟩|⟨e1,e2,e3,a',e⟩
 .exact⟨_,c,e,p5,fun k hk=>(q2 k hk).1⟩
 .subst e1 e2;exact⟨a',0,e,zzc _,fun k hk=>(e3 k hk).symm⟩
theorem JN{ρ:aY}{id g off len lim sz k:Nat}{v:Value}(hv:ai ρ (.slice id g off len lim sz (some k)) v):off+k*sz<=lim:=by
 simp only[ai]at hv;obtain⟨pl,c,p1,p2,p3,p4,p5,hh⟩:=hv;rcases hh with⟨e,q1,q2⟩|⟨e1,e2,e3,a',e⟩
 .exact (q2 k rfl).2
 .have:=e3 k rfl;subst this;omega
theorem Cn{ρ:aY}{id g off len lim sz:Nat}{cap:Option Nat}{v:Value}(hv:ai ρ (.slice id g off len lim sz cap) v):off+len*sz<=lim:=by
 simp only[ai]at hv;obtain⟨pl,c,p1,p2,p3,_⟩:=hv;exact p3
theorem JO{P:Program}{cx:Cx}(aF:dQ Λ P cx){ρ:aY}{F:Fr}{a:Act}(hF:eY ρ F a){t:TypeId}{x v:AV}{x':Value}{lo hi mx:Option Operand}
  (h:dT cx F t x lo hi mx=some v) (hx:ai ρ x x') (w:World) :
  ∃z,(Instr.sliceAt t x' (lo.map a.eval) (hi.map a.eval) (mx.map a.eval)).run P w=.ok z w/\ai ρ v z:=by
 unfold dT at h;cases hu:bN cx t with
 |none=>simp[hu]at h
 |some d=>
  have si:=aH aF hu w;rw[hu]at h;split at h
  ·-- a string
   rename_i s heq;cases heq;simp only[ai]at hx;obtain⟨b,rfl,hb⟩:=hx;cases wD:bounds F s.length s.length lo hi mx with
   |none=>simp[wD]at h
   |some r=>
    obtain⟨l,u,m⟩:=r;simp only[wD]at h;cases hs:Bk mx with
    |true=>simp[hs]at h
    |false=>
     have hmx:mx=none:=by cases mx with|none=>rfl|some _=>cases hs
     subst hmx;simp only[hs,cond_false,zza,cR,cF,Nat.sub_eq]at h;subst h;obtain⟨c1,c2,c3,c4,c5⟩:=qc (P:=P) hF (isSl:=false) wD (zzc _);refine⟨.string (b.extract l u),?_,by simp only[ai];exact⟨_,rfl,XN hb l u⟩⟩;have nf:=oh hb;obtain⟨m',this,_,_⟩:=c5 w;rw[<-nf]at this;simp only[Option.map_none]at this;simp only[Instr.sliceAt,Instr.slice,zzf,si,zzd,Option.map_none,Option.isSome_none,Bool.false_eq_true,if_false,this];rfl
  .rename_i e heq;cases heq;simp only[ai]at hx;subst hx;cases hs:aG cx e with
   |none=>simp[hs]at h
   |some n=>
    cases wD:bounds F 0 0 lo hi mx with
    |none=>simp[hs,wD]at h
    |some r=>
     obtain⟨l,u,m⟩:=r;simp only[hs,wD,zza]at h;subst h;obtain⟨c1,c2,c3,c4,c5⟩:=qc (P:=P) hF (isSl:=true) wD (zzc _);obtain⟨m',h5,h6,h7⟩:=c5 w;obtain⟨rfl,rfl,rfl⟩:l=0/\u=0/\m=0:=by omega
     have CS:m'=0:=by cases mx with|none=>exact h6 rfl|some _=>exact h7 rfl
     subst CS;refine⟨.slice none 0 0,?_,by simp[ai]⟩;simp only[Instr.sliceAt,Instr.slice,zzf,si,zzd,h5,fg aF hs];simp
  .rename_i e id g off len lim sz cap heq;cases heq;cases hs:aG cx e with
   |none=>simp[hs]at h
   |some z=>
    simp only[hs,bO]at h;by_cases hz:z=sz
    .subst hz;rw[decide_eq_true rfl]at h;simp only[cond_true]at h;obtain⟨ad,c,rfl,UT,oK⟩:=iv hx;cases wD:bounds F len (pB len cap) lo hi mx with
     |none=>simp[wD]at h
     |some r=>
      obtain⟨l,u,m⟩:=r;simp only[wD]at h;have CR:pB len cap<=c:=by
       cases cap with
       |none=>exact UT
       |some k=>exact Nat.le_of_eq (oK k rfl).symm
      obtain⟨c1,c2,c3,c4,c5⟩:=qc (P:=P) hF (isSl:=true) wD CR;obtain⟨m',h5,h6,h7⟩:=c5 w;have run:(Instr.sliceAt t (.slice (some ad) len c) (lo.map a.eval) (hi.map a.eval) (mx.map a.eval)).run P w =
        .ok (.slice (if m'=l then some ad else (some ad).map (·.add (l*z))) (u-l) (m'-l)) w:=by
       simp only[Instr.sliceAt,Instr.slice,zzf,si,zzd,h5,fg aF hs];rfl
      refine⟨_,run,?_⟩;cases hd:(Bk mx||Bk cap)with
      |true=>
       simp only[hd,cond_true,zza]at h;subst h;have hm:m'=m:=by
        cases mx with
        |some _=>exact h7 rfl
        |none=>
         cases cap with
         |none=>simp[Bk]at hd
         |some k=>rw[h6 rfl,c4 rfl,oK k rfl];rfl
       subst hm;have hmc:m'<=c:=by omega
       refine Ie hx c1 c2 hmc ?_ rfl;cases cap with
       |some k=>
        have:=JN hx;have h8:m'*z<=k*z:=zzb _ (show m'<=k from c3);omega
       |none=>
        have:=Cn hx;have h8:m'*z<=len*z:=zzb _ (show m'<=len from c3);omega
      |false=>
       simp only[hd,cond_false,zza,aQ]at h;subst h;simp only[Bool.or_eq_false_iff]at hd;have hmx:mx=none:=by cases mx with|none=>rfl|some _=>simp[Bk]at hd
       have hcp:cap=none:=by cases cap with|none=>rfl|some _=>simp[Bk]at hd
       subst hmx hcp;rw[h6 rfl];exact Pg hx c1 (Nat.le_trans c2 (show m<=len from c3)) rfl
    .rw[decide_eq_false hz]at h;cases h
  .rename_i n e id g off lim heq;cases heq;split at h
   .rename_i z hs;cases wD:bounds F n n lo hi mx with
    |none=>simp[wD]at h
    |some r=>
     obtain⟨l,u,m⟩:=r;simp only[wD,cY]at h;by_cases P4:off.add (n.mul (Nat.succ z))<=lim
     .rw[decide_eq_true P4]at h;simp only[cond_true,zza]at h;subst h;obtain⟨c1,c2,c3,c4,c5⟩:=qc (P:=P) hF (isSl:=false) wD (zzc _);obtain⟨m',h5,h6,h7⟩:=c5 w;have hm:m'=m:=by
       cases mx with
       |some _=>exact h7 rfl
       |none=>rw[h6 rfl,c4 rfl]
      subst hm;simp only[ai]at hx;obtain⟨pl,p1,p2,rfl⟩:=hx;have jbJ:off+n*(z+1)<=lim:=P4;have run:(Instr.sliceAt t (.pointer (some ⟨pl.b,pl.base+off,none⟩)) (lo.map a.eval) (hi.map a.eval) (mx.map a.eval)).run P w =
        .ok (.slice (some (if m'=l then⟨pl.b,pl.base+off,none⟩ else (⟨pl.b,pl.base+off,none⟩:Addr).add (l*(z+1)))) (u-l) (m'-l)) w:=by
       simp only[Instr.sliceAt,Instr.sureAddr,zzf,si,zzd,h5,fg aF hs,Sem.run_pure]
      refine⟨_,run,?_⟩;have hv:ai ρ (.slice id g off n lim (z+1) (some n)) (.slice (some ⟨pl.b,pl.base+off,none⟩) n n):=by
       refine ai.gL pl n p1 p2 jbJ (Nat.succ_pos _) (zzc _) (.inl ⟨rfl,?_,fun k hk=>?_⟩)
       .have:=pl.le;omega
       .cases hk;exact⟨rfl,jbJ⟩
      refine Ie hv c1 c2 c3 ?_ ?_
      .have h8:m'*(z+1)<=n*(z+1):=zzb _ c3;show off+m'*(z+1)<=lim;omega
      .congr 1;by_cases e:m'=l
       .rw[if_pos e,if_pos e]
       .rw[if_neg e,if_neg e];rfl
     .rw[decide_eq_false P4]at h;cases h
   .cases h
  .cases h
end Go.Am
