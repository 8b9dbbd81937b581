/-
  Predicates alike, as the document says.
-/
import Derived.Test.YthklfandhmkpiaaGreatDoorPartG
import Derived.Test.YthklfandhmkpiaaGreatDoorPartF
open List renaming length_append->zza,getElem?_eq_getElem->zzb,length_nil->zzc,length_cons->zzd,take_of_length_le->zze,length_map->zzf,not_mem_nil->zzh,mem_of_getElem?->zzi,mem_cons_of_mem->zzj,take_add_one->zzl,flatMap_cons->zzm,mem_cons->zzn,getElem?_cons_zero->zzo,map_cons->zzu
open List.cons renaming injEq->zzg
open Nat renaming lt_of_lt_of_le->zzk,zero_le->zzp,le_refl->zzq,mul_le_mul_right->zzr,lt_succ_self->zzt
open Option renaming getD_some->zzs
set_option linter.unusedVariables false
set_option linter.unusedSimpArgs false
set_option maxRecDepth 20000
namespace Go.Proofs.YthklfandhmkpiaaGreatDoor.sh
open Go Go.Am Go.Proofs.YthklfandhmkpiaaGreatDoor.dk
open Go.Proofs.YthklfandhmkpiaaGreatDoor.mod (kH bq dJ gY ek dj jm df)
theorem zf204:C0.fns.get 204=some Tryz.f204:=by kernel_rfl
theorem zo204:okF C0 Tryz.f204=true:=by kernel_rfl
theorem zf171:C0.fns.get 171=some Tryz.f171:=by kernel_rfl
theorem zo171:okF C0 Tryz.f171=true:=by kernel_rfl
theorem zf127:C0.fns.get 127=some Tryz.f127:=by kernel_rfl
theorem zo127:okF C0 Tryz.f127=true:=by kernel_rfl
theorem zf85:C0.fns.get 85=some Tryz.f85:=by kernel_rfl
theorem zo85:okF C0 Tryz.f85=true:=by kernel_rfl
theorem zf32:C0.fns.get 32=some Tryz.f32:=by kernel_rfl
theorem zo32:okF C0 Tryz.f32=true:=by kernel_rfl
theorem zn204:Tryz.f204.ntmps=61:=by kernel_rfl
theorem zn171:Tryz.f171.ntmps=39:=by kernel_rfl
theorem zn127:Tryz.f127.ntmps=77:=by kernel_rfl
theorem zn85:Tryz.f85.ntmps=41:=by kernel_rfl
theorem lt_cons(a b:Nat)(l m:List Nat):nK (a::l) (b::m)=cond (Nat.blt a b) true (cond (Nat.beq a b) (nK l m) false):=rfl
theorem lt_tot:∀{l m:List Nat},nK l m=false->nK m l=false->l=m
 |[],[],_,_=>rfl
 |[],b::m,h,_=>by simp[nK]at h
 |a::l,[],_,h=>by simp[nK]at h
 |a::l,b::m,h1,h2=>by
  rw[lt_cons,gJ,bC]at h1 h2;by_cases c1:a<b
  .simp[c1]at h1
  .by_cases c2:b<a
   .simp[c2]at h2
   .obtain rfl:a=b:=by omega
    simp at h1 h2;rw[lt_tot h1 h2]
def Alike(a b:kH):Prop:=a.kind=b.kind/\(a.kind=1->a.num=b.num)/\(a.kind=2->a.str=b.str)/\(a.kind=3->a.bool=b.bool)
def ZP(n:Int)(P:Prop):Prop:=n=0↔P
theorem ZP.z{P:Prop}(h:P):ZP 0 P:=⟨fun _=>h,fun _=>rfl⟩
theorem ZP.n{P:Prop}(h:¬P):ZP (-1) P:=⟨fun e=>absurd e (by decide),fun p=>absurd p h⟩
theorem ZP.p{P:Prop}(h:¬P):ZP 1 P:=⟨fun e=>absurd e (by decide),fun p=>absurd p h⟩
section
theorem Bk(a b:kH)(S:AS):az C0 204 [.agg (bq a),.agg (bq b)] S fun r T=>Sub S T/\∃n,r=.int .i64 n/\ZP n (Alike a b):=by
 have h2:Sub S ⟨(S.h.set S.nx (.row (bq a) 0 0 false 92)).set (S.nx+1) (.row (bq b) 0 0 false 92),S.nx+2⟩:=Go.Proofs.YthklfandhmkpiaaGreatDoor.mod.pY;obtain⟨ak,an,ax,ab⟩:=a;obtain⟨bk,bn,bx,bb⟩:=b;simp only[bq]at h2;refine ej (dL _) (dF _ rfl) zf204 rfl zo204 (by simp) fun F hn hs=>?_;rw[zn204]at hn;have s0:=hs 0;have s1:=hs 1;clear hs;simp only[zzo,List.getElem?_cons_succ,zzs,bq]at s0 s1;by_cases hk:ak=bk
 case neg=>
  have cl:¬Alike ⟨ak,an,ax,ab⟩ ⟨bk,bn,bx,bb⟩:=fun h=>hk h.1;by_cases hl:ak<bk
  .simp[s0,s1,hk,hl];exact⟨h2,.n cl⟩
  .simp[s0,s1,hk,hl];exact⟨h2,.p cl⟩
 subst hk;by_cases k1:ak=1
 .subst k1;by_cases l1:an<bn
  .simp[s0,s1,l1];exact⟨h2,.n fun h=>by have:an=bn:=h.2.1 rfl;omega⟩
  by_cases l2:bn<an
  .simp[s0,s1,l1,l2];exact⟨h2,.p fun h=>by have:an=bn:=h.2.1 rfl;omega⟩
  obtain rfl:an=bn:=by omega
  simp[s0,s1];exact⟨h2,.z ⟨rfl,fun _=>rfl,fun h=>(by simp at h),fun h=>(by simp at h)⟩⟩
 by_cases k2:ak=2
 .subst k2;cases l1:nK ax bx with
  |true=>
   simp[s0,s1,l1];exact⟨h2,.n fun h=>by obtain rfl:ax=bx:=h.2.2.1 rfl;rw[AD]at l1;cases l1⟩
  |false=>
   cases l2:nK bx ax with
   |true=>
    simp[s0,s1,l1,l2];exact⟨h2,.p fun h=>by obtain rfl:ax=bx:=h.2.2.1 rfl;rw[AD]at l2;cases l2⟩
   |false=>
    have:=lt_tot l1 l2;simp[s0,s1,l1,l2];exact⟨h2,.z ⟨rfl,fun h=>(by simp at h),fun _=>this,fun h=>(by simp at h)⟩⟩
 by_cases k3:ak=3
 .subst k3;have ne:∀x y:Bool,x≠y->¬Alike ⟨3,an,ax,x⟩ ⟨3,bn,bx,y⟩:=fun x y h g=>h (g.2.2.2 rfl);have eq:∀x:Bool,Alike ⟨3,an,ax,x⟩ ⟨3,bn,bx,x⟩:=fun x=>⟨rfl,fun h=>(by simp at h),fun h=>(by simp at h),fun _=>rfl⟩
  cases ab<;>cases bb<;>simp[s0,s1]
  .exact⟨h2,.z (eq _)⟩
  .exact⟨h2,.n (ne _ _ (by decide))⟩
  .exact⟨h2,.p (ne _ _ (by decide))⟩
  .exact⟨h2,.z (eq _)⟩
 simp[s0,s1,k1,k2,k3];exact⟨h2,.z ⟨rfl,fun h=>absurd h k1,fun h=>absurd h k2,fun h=>absurd h k3⟩⟩
theorem BX(a b:kH)(S:AS):az C0 171 [.agg (bq a),.agg (bq b)] S fun r T=>Sub S T/\∃n,r=.int .i64 n/\ZP n (a=b):=by
 obtain⟨S1,dZ⟩:∃S1:AS,S1=⟨(S.h.set S.nx (.row (bq a) 0 0 false 92)).set (S.nx+1) (.row (bq b) 0 0 false 92),S.nx+2⟩:=⟨_,rfl⟩
 have h0:Sub S S1:=by rw[dZ];exact Go.Proofs.YthklfandhmkpiaaGreatDoor.mod.pY
 have g0:S1.h.get S.nx=some (.row (bq a) 0 0 false 92):=by rw[dZ];exact (ah _ _ (by omega)).trans (get_set_same _ _ _)
 have fH:S1.h.get (S.nx+1)=some (.row (bq b) 0 0 false 92):=by rw[dZ];exact get_set_same _ _ _
 have nS1:S1.nx=S.nx+2:=by rw[dZ]
 have fR:=dZ.symm;clear dZ;obtain⟨_,T1,⟨t1,n1,rfl,z1⟩,e1⟩:=(Bk a b S1).ex;obtain⟨_,T2,⟨t2,n2,rfl,z2⟩,e2⟩:=(Bk ⟨1,a.num,[],false⟩ ⟨1,b.num,[],false⟩ T1).ex;obtain⟨_,T3,⟨t3,n3,rfl,z3⟩,e3⟩:=(Bk ⟨2,0,a.str,false⟩ ⟨2,0,b.str,false⟩ T2).ex;obtain⟨_,T4,⟨t4,n4,rfl,z4⟩,e4⟩:=(Bk ⟨3,0,[],a.bool⟩ ⟨3,0,[],b.bool⟩ T3).ex;have m1:=t1.nx;have m2:=t2.nx;have m3:=t3.nx;have g1:=(t1.h _ (by omega)).trans g0;have nP:=(t1.h _ (by omega)).trans fH;have g2:=(t2.h _ (by omega)).trans g1;have g2':=(t2.h _ (by omega)).trans nP;have g3:=(t3.h _ (by omega)).trans g2;have g3':=(t3.h _ (by omega)).trans g2';have a1:n1=0->a.kind=b.kind:=fun h=>(z1.1 h).1;have a2:n2=0->a.num=b.num:=fun h=>(z2.1 h).2.1 rfl;have a3:n3=0->a.str=b.str:=fun h=>(z3.1 h).2.2.1 rfl;have a4:n4=0->a.bool=b.bool:=fun h=>(z4.1 h).2.2.2 rfl;have b1:a=b->n1=0:=fun h=>z1.2 (by rw[h];exact⟨rfl,fun _=>rfl,fun _=>rfl,fun _=>rfl⟩);have b2:a=b->n2=0:=fun h=>z2.2 (by rw[h];exact⟨rfl,fun _=>rfl,fun _=>rfl,fun _=>rfl⟩);have b3:a=b->n3=0:=fun h=>z3.2 (by rw[h];exact⟨rfl,fun _=>rfl,fun _=>rfl,fun _=>rfl⟩);have b4:a=b->n4=0:=fun h=>z4.2 (by rw[h];exact⟨rfl,fun _=>rfl,fun _=>rfl,fun _=>rfl⟩);have ext:n1=0->n2=0->n3=0->n4=0->a=b:=fun h1 h2 h3 h4=>by
  have c1:=a1 h1;have c2:=a2 h2;have c3:=a3 h3;have c4:=a4 h4;cases a;cases b;simp_all
 clear z1 z2 z3 z4 a1 a2 a3 a4;simp only[bq]at *;refine bu (dL _) (dF _ rfl) zf171 rfl zo171 (by simp) fun F hn s0 s1=>?_;rw[zn171]at hn;by_cases k1:n1=0
 case neg=>
  simp[s0,s1,fR,aK,g0,fH,e1,k1];exact⟨h0.trans t1,fun h=>absurd h k1,b1⟩
 by_cases k2:n2=0
 case neg=>
  rw[k1]at e1;simp[s0,s1,fR,aK,g0,fH,e1,g1,nP,e2,k2];exact⟨(h0.trans t1).trans t2,fun h=>absurd h k2,b2⟩
 by_cases k3:n3=0
 case neg=>
  rw[k1]at e1;rw[k2]at e2;simp[s0,s1,fR,aK,g0,fH,e1,g1,nP,e2,g2,g2',e3,k3];exact⟨((h0.trans t1).trans t2).trans t3,fun h=>absurd h k3,b3⟩
 rw[k1]at e1;rw[k2]at e2;rw[k3]at e3;simp[s0,s1,fR,aK,g0,fH,e1,g1,nP,e2,g2,g2',e3,g3,g3',e4];exact⟨(((h0.trans t1).trans t2).trans t3).trans t4,ext k1 k2 k3,b4⟩
end
theorem bare_ext{a b:gY}:cz a=cz b↔a.name=b.name/\a.op=b.op/\a.val=b.val/\a.cF=b.cF:=by
 unfold cz;simp only[Prod.mk.injEq]
def sideH{α β:Type}(S1:AS)(f:α->β)(l m:List α)(N:Nat)(t:Tmp)(A:Fr->Prop)(k:Nat)(F':Fr)(S':AS):Prop:=
 ∃i:Nat,Sub S1 S'/\(l.take i).map f=(m.take i).map f/\sl F' t=.int .i64 i/\i<=l.length/\i<=m.length/\A F'/\F'.n=N/\k=l.length-i
theorem lu{α β:Type}{f:α->β}{l m:List α}{i:Nat}{a b:α}(h:(l.take i).map f=(m.take i).map f)(h1:l[i]?=some a)(h2:m[i]?=some b)(DE:f a=f b):(l.take (i+1)).map f=(m.take (i+1)).map f:=by
 rw[zzl,zzl,List.map_append,List.map_append,h,h1,h2];simp[DE]
theorem map_ne{α β:Type}{f:α->β}{l m:List α}{i:Nat}{a b:α}(h1:l[i]?=some a)(h2:m[i]?=some b)(DE:f a≠f b):l.map f≠m.map f:=fun h=>by
 have:=congrArg (·[i]?) h;simp only[List.getElem?_map,h1,h2,Option.map_some]at this;exact DE (Option.some.inj this)
theorem AA{α β:Type}{f:α->β}{l m:List α}{i:Nat}(h:(l.take i).map f=(m.take i).map f)(h1:i=l.length)(h2:i=m.length):l.map f=m.map f:=by
 rw[zze (by omega),zze (by omega)]at h;exact h
section
variable{S:AS}
set_option maxHeartbeats 4000000 in
theorem order127{a b:gY}(ha:jm S a)(hb:jm S b):az C0 127 [.agg (ek a),.agg (ek b)] S fun r T=>Sub S T/\∃n,r=.int .i64 n/\ZP n (cz a=cz b):=by
 obtain⟨S1,dZ⟩:∃S1:AS,S1=⟨(S.h.set S.nx (.row (ek a) 0 0 false 98)).set (S.nx+1) (.row (ek b) 0 0 false 98),S.nx+2⟩:=⟨_,rfl⟩
 have h0:Sub S S1:=by rw[dZ];exact Go.Proofs.YthklfandhmkpiaaGreatDoor.mod.pY
 have g0:S1.h.get S.nx=some (.row (ek a) 0 0 false 98):=by rw[dZ];exact (ah _ _ (by omega)).trans (get_set_same _ _ _)
 have fH:S1.h.get (S.nx+1)=some (.row (ek b) 0 0 false 98):=by rw[dZ];exact get_set_same _ _ _
 have nS1:S1.nx=S.nx+2:=by rw[dZ]
 have fR:=dZ.symm;clear dZ;rw[show (cz a=cz b)=(a.name=b.name/\a.op=b.op/\a.val=b.val/\a.cF=b.cF) from propext bare_ext];obtain⟨_,T1,⟨t1,n1,rfl,z1⟩,e1⟩:=(BX a.val b.val S1).ex;have m1:=t1.nx;have g1:=(t1.h _ (by omega)).trans g0;have nP:=(t1.h _ (by omega)).trans fH;have hla:=ha.le;have hlb:=hb.le;have u1:=ha.sl.sl;have u2:=ha.sl.bj dJ (by omega);have v1:=hb.sl.sl;have v2:=hb.sl.bj dJ (by omega);have wL:=aj ha.sl;have wK:=aj hb.sl;have oc1:=ha.sl.cells;have oc2:=hb.sl.cells;have hsa:=ha.sl;have hsb:=hb.sl;clear ha hb;obtain⟨an,ao,av,asv,al⟩:=a;obtain⟨bn,bo,bv,bsv,bl⟩:=b;simp only[ek,bq]at *;refine bu (dL _) (dF _ rfl) zf127 rfl zo127 (by simp) fun F hn s0 s1=>?_;rw[zn127]at hn;by_cases k1:an=bn
 case neg=>
  have cl:¬(an=bn/\ao=bo/\av=bv/\al=bl):=fun h=>k1 h.1;cases hl:nK an bn with
  |true=>
   simp[s0,s1,fR,g0,fH,aZ,k1,hl];exact⟨h0,.n (by simp)⟩
  |false=>
   simp[s0,s1,fR,g0,fH,aZ,k1,hl];exact⟨h0,.p (by simp)⟩
 subst k1;by_cases k1:ao=bo
 case neg=>
  by_cases hl:ao<bo
  .simp[s0,s1,fR,g0,fH,aZ,k1,hl];exact⟨h0,.n (by simp)⟩
  .simp[s0,s1,fR,g0,fH,aZ,k1,hl];exact⟨h0,.p (by simp)⟩
 subst k1;by_cases k1:n1=0
 case neg=>
  have cl:¬av=bv:=fun h=>k1 (z1.2 h);simp[s0,s1,fR,g0,fH,aZ,aK,e1,k1];exact⟨h0.trans t1,fun h=>absurd h k1,fun h=>absurd h.1 cl⟩
 have hv:=z1.1 k1;rw[k1]at e1;simp[s0,s1,fR,g0,fH,aZ,aK,e1];refine aW (sideH S1 (fun v:kH=>v) al bl 77 6 (fun F'=>sl F' 2=.ptr S.nx 0 0 7/\sl F' 3=.ptr (S.nx+1) 0 0 7)) al.length ⟨0,t1,by simp,by simp,zzp _,zzp _,⟨by simp,by simp⟩,by simp[hn],rfl⟩ ?_;clear s0 s1 hn e1;rintro k F' S'-⟨i,hS,hm,t6,hi1,BO,⟨t2,t3⟩,hn,hk⟩;have q1:=(hS.h _ (by omega)).trans g0;have BK:=(hS.h _ (by omega)).trans fH;have E0:=h0.trans hS;by_cases c1:i<al.length
 case neg=>
  have e1:i=al.length:=by omega
  by_cases c2:al.length<bl.length
  .have pA:(al.length:Int)<bl.length:=by omega
   have cl:¬al=bl:=fun e=>by rw[e]at c2;omega
   simp[t2,t3,t6,q1,BK,u1,u2,v1,v2,wL,wK,c1,c2,pA,hv];exact⟨E0,.n cl⟩
  .have e2:al.length=bl.length:=by omega
   have pA:¬((al.length:Int)<bl.length):=by omega
   have c3I:¬((bl.length:Int)<al.length):=by omega
   have c3:¬(bl.length<al.length):=by omega
   have heq:al=bl:=by simpa using AA hm e1 (by omega)
   simp[t2,t3,t6,q1,BK,u1,u2,v1,v2,wL,wK,c1,c2,pA,c3,c3I,hv];exact⟨E0,.z heq⟩
 by_cases c2:i<bl.length
 case neg=>
  have c3:¬(al.length<bl.length):=by omega
  have c3I:¬((al.length:Int)<bl.length):=by omega
  have c4:bl.length<al.length:=by omega
  have c4I:(bl.length:Int)<al.length:=by omega
  have kG:(i:Int)<al.length:=by omega
  have pA:¬((i:Int)<bl.length):=by omega
  have cl:¬al=bl:=fun e=>by rw[e]at c4;omega
  simp[t2,t3,t6,q1,BK,u1,u2,v1,v2,wL,wK,c1,kG,c2,pA,c3,c3I,c4,c4I,hv];exact⟨E0,.p cl⟩
 obtain⟨x,hx⟩:∃x,al[i]?=some x:=⟨_,zzb c1⟩
 obtain⟨y,hy⟩:∃x,bl[i]?=some x:=⟨_,zzb c2⟩
 have lx:=bh (cx:=C0) (e:=92) (hsa.toSub E0) dJ (by omega) hx Go.Proofs.YthklfandhmkpiaaGreatDoor.bk.EG Go.Proofs.YthklfandhmkpiaaGreatDoor.bk.Ce;have ly:=bh (cx:=C0) (e:=92) (hsb.toSub E0) dJ (by omega) hy Go.Proofs.YthklfandhmkpiaaGreatDoor.bk.EG Go.Proofs.YthklfandhmkpiaaGreatDoor.bk.Ce;obtain⟨_,U,⟨tU,n2,rfl,z2⟩,e2⟩:=(BX x y S').ex;have wi:=IntWalk.i64_in ((i:Int)+1) (by omega);have kG:(i:Int)<al.length:=by omega
 have pA:(i:Int)<bl.length:=by omega
 simp only[bq]at lx ly e2;simp[t2,t3,t6,q1,BK,u1,u2,v1,v2,wL,wK,c1,kG,c2,pA];refine bg [.p,.r 0 0,.p,.p,.r 0 0,.p,.r 0 0,.p,.p,.r 0 0,.e [],.p] (n:=77) (by kernel_rfl) (by simp[hn]) ?_;by_cases k2:n2=0
 case neg=>
  have cl:¬al=bl:=fun e=>by
   rw[e,hy]at hx;exact k2 (z2.2 (Option.some.inj hx).symm)
  simp[t2,t3,t6,q1,BK,u1,u2,v1,v2,wL,wK,c1,kG,c2,pA,lx,ly,e2,aK,k2];exact⟨E0.trans tU,fun h=>absurd h k2,fun h=>absurd h.2 cl⟩
 have hxy:=z2.1 k2;rw[k2]at e2;simp[t2,t3,t6,q1,BK,u1,u2,v1,v2,wL,wK,c1,kG,c2,pA,lx,ly,e2,aK,wi];exact⟨al.length-(i+1),by omega,i+1,hS.trans tU,lu hm hx hy hxy,by simp,by omega,by omega,⟨by simp[t2],by simp[t3]⟩,by simp[hn],rfl⟩
theorem cmp85{p q:AV}{al bl:List gY}(hp:df S p al)(hq:df S q bl):az C0 85 [p,q] S fun r T=>Sub S T/\∃n,r=.int .i64 n/\ZP n (al.map cz=bl.map cz):=by
 have hla:=hp.le;have hlb:=hq.le;have u1:=hp.sl.sl;have u2:=hp.sl.bj dj (by omega);have v1:=hq.sl.sl;have v2:=hq.sl.bj dj (by omega);have wL:=aj hp.sl;have wK:=aj hq.sl;have mlen:al.map cz=bl.map cz->al.length=bl.length:=fun h=>by simpa using congrArg List.length h
 refine bu (dL _) (dF _ rfl) zf85 rfl zo85 (by simp) fun F hn s0 s1=>?_;rw[zn85]at hn;simp[s0,s1];refine aW (sideH S cz al bl 41 5 (fun F'=>sl F' 0=p/\sl F' 1=q)) al.length ⟨0,Sub.refl S,by simp,by simp,zzp _,zzp _,⟨by simp[s0],by simp[s1]⟩,by simp[hn],rfl⟩ ?_;clear s0 s1 hn;rintro k F' S'-⟨i,E0,hm,t6,hi1,BO,⟨t2,t3⟩,hn,hk⟩;by_cases c1:i<al.length
 case neg=>
  have e1:i=al.length:=by omega
  by_cases c2:al.length<bl.length
  .have pA:(al.length:Int)<bl.length:=by omega
   have cl:¬al.map cz=bl.map cz:=fun e=>by have:=mlen e;omega
   simp[t2,t3,t6,u1,u2,v1,v2,wL,wK,c1,c2,pA];exact⟨E0,.n cl⟩
  .have e2:al.length=bl.length:=by omega
   have pA:¬((al.length:Int)<bl.length):=by omega
   have c3I:¬((bl.length:Int)<al.length):=by omega
   have c3:¬(bl.length<al.length):=by omega
   have heq:al.map cz=bl.map cz:=AA hm e1 (by omega);simp[t2,t3,t6,u1,u2,v1,v2,wL,wK,c1,c2,pA,c3,c3I];exact⟨E0,.z heq⟩
 by_cases c2:i<bl.length
 case neg=>
  have c3:¬(al.length<bl.length):=by omega
  have c3I:¬((al.length:Int)<bl.length):=by omega
  have c4:bl.length<al.length:=by omega
  have c4I:(bl.length:Int)<al.length:=by omega
  have kG:(i:Int)<al.length:=by omega
  have pA:¬((i:Int)<bl.length):=by omega
  have cl:¬al.map cz=bl.map cz:=fun e=>by have:=mlen e;omega
  simp[t2,t3,t6,u1,u2,v1,v2,wL,wK,c1,kG,c2,pA,c3,c3I,c4,c4I];exact⟨E0,.p cl⟩
 obtain⟨x,hx⟩:∃x,al[i]?=some x:=⟨_,zzb c1⟩
 obtain⟨y,hy⟩:∃x,bl[i]?=some x:=⟨_,zzb c2⟩
 have hxc:=hp.con x (zzi hx);have hyc:=hq.con y (zzi hy);have lx:=bh (cx:=C0) (e:=98) (hp.sl.toSub E0) dj (by omega) hx Go.Proofs.YthklfandhmkpiaaGreatDoor.bk.zI Go.Proofs.YthklfandhmkpiaaGreatDoor.bk.yj;have ly:=bh (cx:=C0) (e:=98) (hq.sl.toSub E0) dj (by omega) hy Go.Proofs.YthklfandhmkpiaaGreatDoor.bk.zI Go.Proofs.YthklfandhmkpiaaGreatDoor.bk.yj;obtain⟨_,U,⟨tU,n2,rfl,z2⟩,e2⟩:=(order127 (hxc.sub E0) (hyc.sub E0)).ex;have wi:=IntWalk.i64_in ((i:Int)+1) (by omega);have kG:(i:Int)<al.length:=by omega
 have pA:(i:Int)<bl.length:=by omega
 have xk:=aj hxc.sl;have yk:=aj hyc.sl;have xo:=hxc.sl.ok;have yo:=hyc.sl.ok;have xb:=hxc.sl.base;have yb:=hyc.sl.base;simp only[ek]at lx ly e2;simp[t2,t3,t6,u1,u2,v1,v2,wL,wK,c1,kG,c2,pA];refine bg [.p,.p,.p,.r 0 0,.p,.p,.p,.r 0 0,.e [],.p] (n:=41) (by kernel_rfl) (by simp[hn]) ?_;by_cases k2:n2=0
 case neg=>
  have cl:¬al.map cz=bl.map cz:=map_ne hx hy fun e=>k2 (z2.2 e);simp[t2,t3,t6,u1,u2,v1,v2,wL,wK,c1,kG,c2,pA,lx,ly,e2,aK,k2,xk,yk,xo,yo,xb,yb];exact⟨E0.trans tU,fun h=>absurd h k2,fun h=>absurd h cl⟩
 have hxy:=z2.1 k2;rw[k2]at e2;simp[t2,t3,t6,u1,u2,v1,v2,wL,wK,c1,kG,c2,pA,lx,ly,e2,aK,wi,xk,yk,xo,yo,xb,yb];exact⟨al.length-(i+1),by omega,i+1,E0.trans tU,lu hm hx hy hxy,by simp,by omega,by omega,⟨by simp[t2],by simp[t3]⟩,by simp[hn],rfl⟩
theorem same32{p q:AV}{al bl:List gY}(hp:df S p al)(hq:df S q bl):az C0 32 [p,q] S fun r T=>Sub S T/\∃b,r=.bool b/\(b=true↔al.map cz=bl.map cz):=by
 have wL:=aj hp.sl;have wK:=aj hq.sl;obtain⟨_,T,⟨t,n,rfl,z⟩,e⟩:=(cmp85 hp hq).ex;refine bu (dL _) (dF _ rfl) zf32 rfl zo32 (by simp) fun F hn s0 s1=>?_;by_cases k:n=0
 .have h:=z.1 k;simp[s0,s1,e,aK,wL,wK,k,h];exact t
 .have h:¬al.map cz=bl.map cz:=fun h=>k (z.2 h);simp[s0,s1,e,aK,wL,wK,k,h];exact t
end
open Go.Proofs.YthklfandhmkpiaaGreatDoor.val (fU ew fB same7 qm tY)
theorem zn16:Tryz.f16.ntmps=129:=by kernel_rfl
theorem ne78(c:Bool)(a b:Int×Nat):bI C0 .neq 78 c (.agg [.int .i64 a.1,.int .u64 a.2]) (.agg [.int .i64 b.1,.int .u64 b.2])=some (.bool (!decide (a=b))):=by
 obtain⟨ak,an⟩:=a;obtain⟨bk,bn⟩:=b;have e:qh C0 78 c (.agg [.int .i64 ak,.int .u64 an]) (.agg [.int .i64 bk,.int .u64 bn])=fB (some (pP ak bk)) (fB (some (pP an bn)) (some true)):=by kernel_rfl
 have h:qh C0 78 c (.agg [.int .i64 ak,.int .u64 an]) (.agg [.int .i64 bk,.int .u64 bn])=some (decide ((ak,an)=(bk,bn))):=by
  rw[e,cQ,cQ];unfold fB;by_cases h1:ak=bk
  .by_cases h2:an=bn
   .simp[h1,h2]
   .have h3:¬((an:Int)=bn):=by omega
    simp[h1,h2,h3]
  .simp[h1]
 unfold bI;simp[h,mh]
theorem ne45(c:Bool)(a1 a2 a3 b1 b2 b3:Int):bI C0 .neq 45 c (.agg [.int .i64 a1,.int .i64 a2,.int .i64 a3]) (.agg [.int .i64 b1,.int .i64 b2,.int .i64 b3])=some (.bool (!decide (a1=b1/\a2=b2/\a3=b3))):=by
 have e:qh C0 45 c (.agg [.int .i64 a1,.int .i64 a2,.int .i64 a3]) (.agg [.int .i64 b1,.int .i64 b2,.int .i64 b3])=fB (some (pP a1 b1)) (fB (some (pP a2 b2)) (fB (some (pP a3 b3)) (some true))):=by kernel_rfl
 have h:qh C0 45 c (.agg [.int .i64 a1,.int .i64 a2,.int .i64 a3]) (.agg [.int .i64 b1,.int .i64 b2,.int .i64 b3])=some (decide (a1=b1/\a2=b2/\a3=b3)):=by
  rw[e,cQ,cQ,cQ];unfold fB;by_cases h1:a1=b1<;>by_cases h2:a2=b2<;>by_cases h3:a3=b3<;>simp[h1,h2,h3]
 unfold bI;simp[h,mh]
def sideE{α:Type}(S1:AS)(l m:List α)(N:Nat)(t:Tmp)(A:Fr->Prop)(k:Nat)(F':Fr)(S':AS):Prop:=
 ∃i:Nat,S'=S1/\l.take i=m.take i/\sl F' t=.int .i64 i/\i<=l.length/\A F'/\F'.n=N/\k=l.length-i
section
variable{S:AS}
set_option maxHeartbeats 4000000 in
theorem same16{x y:cy}(hx:jz S x)(hy:jz S y):az C0 16 [.agg x.c,.agg y.c] S fun r T=>Sub S T/\∃b,r=.bool b/\(b=true↔x.e.same y.e):=by
 obtain⟨S1,dZ⟩:∃S1:AS,S1=⟨(S.h.set S.nx (.row x.c 0 0 false 50)).set (S.nx+1) (.row y.c 0 0 false 50),S.nx+2⟩:=⟨_,rfl⟩
 have h0:Sub S S1:=by rw[dZ];exact Go.Proofs.YthklfandhmkpiaaGreatDoor.mod.pY
 have g0:S1.h.get S.nx=some (.row x.c 0 0 false 50):=by rw[dZ];exact (ah _ _ (by omega)).trans (get_set_same _ _ _)
 have fH:S1.h.get (S.nx+1)=some (.row y.c 0 0 false 50):=by rw[dZ];exact get_set_same _ _ _
 have nS1:S1.nx=S.nx+2:=by rw[dZ]
 have fR:=dZ.symm;clear dZ;obtain⟨_,T1,⟨t1,b1,rfl,pd⟩,e1⟩:=(same32 (hx.pred.sub h0) (hy.pred.sub h0)).ex;obtain⟨_,T2,⟨rfl,t2⟩,e2⟩:=(same7 (key:=x.e.key) (key':=y.e.key) (hx.aR.sub (h0.trans t1)) (hy.aR.sub (h0.trans t1))).ex;have n1:=t1.nx;have n2:=t2.nx;have g1:=(t1.h _ (by omega)).trans g0;have nP:=(t1.h _ (by omega)).trans fH;have hT:=(h0.trans t1).trans t2;have tx:=fun (F:Fr) (dst:Option Tmp) (ty:TypeId) (pos:String) (af:Array Edge) (gd:Option (Nat×Bool)) (w:Tmp) (e:sl F w=x.tv)=>gC (cx:=C0) (F:=F) (S:=S1) (dst:=dst) (ty:=ty) (pos:=pos) (af:=af) (gd:=gd) (a:=48) (b:=9) (hx.eH.toSub h0) hx.dK.eH ((aA F w).trans e) qm tY;have B8:=fun (F:Fr) (dst:Option Tmp) (ty:TypeId) (pos:String) (af:Array Edge) (gd:Option (Nat×Bool)) (w:Tmp) (e:sl F w=y.tv)=>gC (cx:=C0) (F:=F) (S:=S1) (dst:=dst) (ty:=ty) (pos:=pos) (af:=af) (gd:=gd) (a:=48) (b:=9) (hy.eH.toSub h0) hy.dK.eH ((aA F w).trans e) qm tY;have y1:=aj hy.pred.sl;have y2:=aj hy.aR.sl;have y3:=aj hy.aS;have y4:=aj hy.bX;have y5:=aj hy.eH;have y6:=hy.aR.sl.ok;have x1:=aj hx.pred.sl;have x2:=aj hx.aR.sl;have x3:=aj hx.aS;have x4:=aj hx.bX;have x5:=aj hx.eH;have x6:=hx.aR.sl.ok;have u1:=hx.aS.sl;have u2:=hx.aS.bj eK (by omega);have v1:=hy.aS.sl;have v2:=hy.aS.bj eK (by omega);have p1:=hx.bX.sl;have p2:=hx.bX.gx;have q1:=hy.bX.sl;have q2:=hy.bX.gx;rw[rX]at p2 q2;have hxs:=hx.aS;have hys:=hy.aS;have hxk:=hx.bX;have hyk:=hy.bX;have hle:=hx.sl;have hpe:=hx.pl;clear hx hy;obtain⟨⟨yk,yb,yp,yi,yu,yn,ycs,yky,yat,yst,ya,yby,yco,ypk,yto⟩,ypv,yav,ysv,ykv,ytv⟩:=y;obtain⟨⟨xk,xb,xp,xi,xu,xn,xcs,xky,xat,xst,xa,xby,xco,xpk,xto⟩,xpv,xav,xsv,xkv,xtv⟩:=x;unfold Ev.same;simp only[cy.c]at *;refine bu (dL _) (dF _ rfl) zf16 rfl zo16 (by simp) fun F hn s0 s1=>?_;rw[zn16]at hn;by_cases k1:xk=yk
 case neg=>simp[s0,s1,fR,g0,fH,k1];exact h0
 subst k1;by_cases k1:xb=yb
 case neg=>simp[s0,s1,fR,g0,fH,k1];exact h0
 subst k1;by_cases k1:xp=yp
 case neg=>simp[s0,s1,fR,g0,fH,k1];exact h0
 subst k1;by_cases k1:xi=yi
 case neg=>simp[s0,s1,fR,g0,fH,k1];exact h0
 subst k1;by_cases k1:xu=yu
 case neg=>simp[s0,s1,fR,g0,fH,k1];exact h0
 subst k1;by_cases k1:xn=yn
 case neg=>
  have k2:¬((xn:Int)=yn):=by omega
  simp[s0,s1,fR,g0,fH,k1,k2];exact h0
 subst k1;by_cases k1:xa=ya/\xby=yby/\xco=yco
 case neg=>
  simp[s0,s1,fR,g0,fH,ne45,k1];exact⟨h0,fun a1 a2 a3 a4 a5 a6 a7=>absurd ⟨a5,a6,a7⟩ k1⟩
 obtain⟨rfl,rfl,rfl⟩:=k1;by_cases k1:xto=yto
 case neg=>
  simp[s0,s1,fR,g0,fH,ne45,x5,y5,tx,B8,aZ,k1];exact h0
 subst k1;by_cases k1:xst.length=yst.length
 case neg=>
  have k2:¬((xst.length:Int)=yst.length):=by omega
  have k3:¬xst=yst:=fun e=>k1 (by rw[e]);simp[s0,s1,fR,g0,fH,ne45,x5,y5,tx,B8,aZ,x3,y3,u1,u2,v1,v2,k1,k2,k3];exact h0
 by_cases k2:xpk.length=ypk.length
 case neg=>
  have k3:¬((xpk.length:Int)=ypk.length):=by omega
  have k4:¬xpk=ypk:=fun e=>k2 (by rw[e]);simp[s0,s1,fR,g0,fH,ne45,x5,y5,tx,B8,aZ,x3,y3,u1,u2,v1,v2,k1,x4,y4,p1,p2,q1,q2,k2,k3,k4];exact h0
 simp[s0,s1,fR,g0,fH,ne45,x5,y5,tx,B8,aZ,x3,y3,u1,u2,v1,v2,k1,x4,y4,p1,p2,q1,q2,k2];refine aW (sideE S1 xst yst 129 5 (fun F'=>sl F' 2=.ptr S.nx 0 0 15/\sl F' 3=.ptr (S.nx+1) 0 0 15)) xst.length ⟨0,rfl,by simp,by simp,zzp _,⟨by simp,by simp⟩,by simp[hn],rfl⟩ ?_;clear s0 s1 hn;rintro k F S2-⟨i,rfl,hm,t5,hi,⟨f2,f3⟩,hn,hk⟩;by_cases c1:i<xst.length
 .obtain⟨a,ug⟩:∃a,xst[i]?=some a:=⟨_,zzb c1⟩
  obtain⟨b,EU⟩:∃a,yst[i]?=some a:=⟨_,zzb (by omega)⟩
  have lx:=bh (cx:=C0) (e:=78) (hxs.toSub h0) eK (by omega) ug (by kernel_rfl) (by kernel_rfl);have ly:=bh (cx:=C0) (e:=78) (hys.toSub h0) eK (by omega) EU (by kernel_rfl) (by kernel_rfl);have wi:=IntWalk.i64_in ((i:Int)+1) (by omega);have c2:i<yst.length:=by omega
  have kG:(i:Int)<xst.length:=by omega
  have pA:(i:Int)<yst.length:=by omega
  simp only[iy]at lx ly;simp[f2,f3,t5,g0,fH,x3,y3,u1,u2,c1,kG];refine iZ (n:=129) (by kernel_rfl) (by simp[hn]) ?_;by_cases DE:a=b
  .subst DE;simp[f2,f3,t5,g0,fH,x3,y3,u1,u2,v1,v2,c1,kG,c2,pA,lx,ly,ne78,wi,hxs.ok,hys.ok];exact⟨xst.length-(i+1),by omega,i+1,rfl,jW hm ug EU rfl,by simp,by omega,⟨by simp[f2],by simp[f3]⟩,by simp[hn],rfl⟩
  .have cl:¬xst=yst:=fun e=>by rw[e,EU]at ug;exact DE (Option.some.inj ug).symm
   simp[f2,f3,t5,g0,fH,x3,y3,u1,u2,v1,v2,c1,kG,c2,pA,lx,ly,ne78,DE,cl,hxs.ok,hys.ok];exact h0
 have jJ:xst=yst:=by
  rw[zze (by omega),zze (by omega)]at hm;exact hm
 subst jJ;have ei:i=xst.length:=by omega
 subst ei;simp[f2,f3,t5,g0,fH,x3,y3,u1,u2];refine aW (sideE S2 xpk ypk 129 6 (fun F'=>sl F' 2=.ptr S.nx 0 0 15/\sl F' 3=.ptr (S.nx+1) 0 0 15)) xpk.length ⟨0,rfl,by simp,by simp,zzp _,⟨by simp[f2],by simp[f3]⟩,by simp[hn],rfl⟩ ?_;clear f2 f3 t5 hn hm;rintro k F S1-⟨i,rfl,hm,t5,hi,⟨f2,f3⟩,hn,hk⟩;by_cases c1:i<xpk.length
 .obtain⟨a,ug⟩:∃a,xpk[i]?=some a:=⟨_,zzb c1⟩
  obtain⟨b,EU⟩:∃a,ypk[i]?=some a:=⟨_,zzb (by omega)⟩
  have lx:=dV (cx:=C0) (e:=112) (hxk.toSub h0) (qS ug) qw;have ly:=dV (cx:=C0) (e:=112) (hyk.toSub h0) (qS EU) qw;have wi:=IntWalk.i64_in ((i:Int)+1) (by omega);have c2:i<ypk.length:=by omega
  have kG:(i:Int)<xpk.length:=by omega
  have pA:(i:Int)<ypk.length:=by omega
  simp[f2,f3,t5,g0,fH,x4,y4,p1,p2,c1,kG];refine iZ (n:=129) (by kernel_rfl) (by simp[hn]) ?_;by_cases DE:a=b
  .subst DE;simp[f2,f3,t5,g0,fH,x4,y4,p1,p2,q1,q2,c1,kG,c2,pA,lx,ly,wi,hxk.ok,hyk.ok];exact⟨xpk.length-(i+1),by omega,i+1,rfl,jW hm ug EU rfl,by simp,by omega,⟨by simp[f2],by simp[f3]⟩,by simp[hn],rfl⟩
  .have cl:¬xpk=ypk:=fun e=>by rw[e,EU]at ug;exact DE (Option.some.inj ug).symm
   have habI:¬((a:Int)=b):=by omega
   simp[f2,f3,t5,g0,fH,x4,y4,p1,p2,q1,q2,c1,kG,c2,pA,lx,ly,DE,habI,cl,hxk.ok,hyk.ok];exact h0
 have hpk:xpk=ypk:=by
  rw[zze (by omega),zze (by omega)]at hm;exact hm
 subst hpk;have ei:i=xpk.length:=by omega
 subst ei;cases b1 with
 |false=>
  have cl:¬xcs.map cz=ycs.map cz:=fun h=>by have:=pd.2 h;cases this
  simp[f2,f3,t5,g0,fH,x4,y4,p1,p2,x1,y1,e1,aK,cl];exact h0.trans t1
 |true=>
  have heq:=pd.1 rfl;simp[f2,f3,t5,g0,fH,x4,y4,p1,p2,x1,y1,e1,aK,g1,nP,x2,y2,x6,y6,e2,heq];exact⟨hT,by by_cases w1:xky=yky<;>by_cases w2:xat=yat<;>simp[w1,w2]⟩
end
open Go.Proofs.YthklfandhmkpiaaGreatDoor.val (cH gl okE)
structure iB where
 au:Int
 kind:Int
 fh:Int
 sub:Int
 to:Int
 n:Nat
 iN:Nat
 iT:Nat
 key:List Nat
 aR:List fU
 gF:Nat
 gT:Nat
 bytes:List Nat
def wOk:List Nat:=[111,107]
def jT:List Nat:=[101,114,114,111,114]
def kP:List Nat:=[97,110,115,119,101,114]
def zV:List Nat:=[103,97,112]
def sU:List Nat:=[105,116,101,109]
abbrev iB.gap(o:iB):Prop:=¬(o.gF=0/\o.gT=0)
def iB.iX(o:iB):List Nat:=if o.kind=1 then kP else if o.gap then zV else sU
def iB.rest(o:iB):List Tok:=
 if o.kind=1 then [.num o.fh,.nat o.n] else if o.gap then [.num o.sub,.num o.fh,.nat o.gF,.nat o.gT] else [.num o.sub,.num o.fh,.nat o.iN,.nat o.iT,.said o.key o.aR]
noncomputable def iB.line(o:iB):List Nat:=62::(ea (.num o.au::.lit o.iX::o.rest)++[10])
structure iB.E3(o:iB):Prop where
 au:pq o.au
 fh:pq o.fh
 sub:pq o.sub
 n:o.n<18446744073709551616
 iN:o.iN<18446744073709551616
 iT:o.iT<18446744073709551616
 gF:o.gF<18446744073709551616
 gT:o.gT<18446744073709551616
 ev:okE o.key o.aR
structure iB.nS(o:iB):Prop where
 kind:o.kind=1\/o.kind=2
 n:o.kind=2->o.n=0
 sub:o.kind=1->o.sub=0
 to:o.to=0
 bytes:o.bytes=[]
 gap:o.kind=1->¬o.gap
 item:o.kind=1\/o.gap->o.iN=0/\o.iT=0/\o.key=[]/\o.aR=[]
 ev:o.kind=2->¬o.gap->gl o.key o.aR=true
def sigW(w:List Nat)(i:Nat):Nat:=if w=kP then (if i=0 then 0 else 1) else if w=zV then (if i=0\/i=1 then 0 else 1) else (if i=0\/i=1 then 0 else if i=4 then 4 else 1)
theorem CB{o:iB}(hr:o.E3)(hm:o.nS):Fits (sigW o.iX) o.rest:=by
 unfold iB.iX iB.rest;split
 .exact⟨rfl,hr.fh,fun h=>(by cases h),rfl,hr.n,fun h=>(by cases h),trivial⟩
 .rename_i h1;split
  .exact⟨rfl,hr.sub,fun h=>(by cases h),rfl,hr.fh,fun h=>(by cases h),rfl,hr.gF,fun h=>(by cases h),rfl,hr.gT,fun h=>(by cases h),trivial⟩
  .rename_i h2;exact⟨rfl,hr.sub,fun h=>(by cases h),rfl,hr.fh,fun h=>(by cases h),rfl,hr.iN,fun h=>(by cases h),rfl,hr.iT,fun h=>(by cases h),rfl,⟨hr.ev,hm.ev (by rcases hm.kind with h|h;exact absurd h h1;exact h) h2⟩,fun _=>rfl,trivial⟩
theorem BY(o:iB):∀c,c∈o.iX->97<=c:=by
 unfold iB.iX;split
 .decide
 .split<;>decide
theorem sent_ext{o p:iB}(ho:o.nS)(hp:p.nS)(hb:o.au=p.au)(hw:o.iX=p.iX)(h:o.rest=p.rest):o=p:=by
 have k1:=ho.kind;have k2:=hp.kind;have t1:=ho.to;have t2:=hp.to;have b1:=ho.bytes;have b2:=hp.bytes;have n1:=ho.n;have n2:=hp.n;have s1:=ho.sub;have s2:=hp.sub;have i1:=ho.item;have i2:=hp.item;have g1:=ho.gap;have g2:=hp.gap;clear ho hp;obtain⟨ob,ok,opub,osub,oto,on,oiN,oiT,okey,oat,ogF,ogT,oby⟩:=o;obtain⟨pb,pk,ppub,psub,pto,pn,piN,piT,pkey,pat,pgF,pgT,pby⟩:=p;unfold iB.iX at hw;unfold iB.rest at h;unfold iB.gap at *;simp only at *;subst hb t1 t2 b1 b2;rcases k1 with rfl|rfl<;>rcases k2 with rfl|rfl
 .simp only[if_true,zzg,Tok.num.injEq,Tok.nat.injEq,and_true]at h;obtain⟨h1,h2⟩:=h;subst h1 h2;obtain⟨q1,q2,q3,q4⟩:=i1 (.inl rfl);obtain⟨r1,r2,r3,r4⟩:=i2 (.inl rfl);have e1:=s1 rfl;have e2:=s2 rfl;have e3:ogF=0/\ogT=0:=Classical.not_not.1 (g1 rfl);have e4:pgF=0/\pgT=0:=Classical.not_not.1 (g2 rfl);obtain⟨e3,e3'⟩:=e3;obtain⟨e4,e4'⟩:=e4;subst q1 q2 q3 q4 r1 r2 r3 r4 e1 e2 e3 e3' e4 e4';rfl
 .rw[if_pos rfl,if_neg (by decide)]at hw;rcases Classical.em (¬(pgF=0/\pgT=0))with w|w
  .rw[if_pos w]at hw;exact absurd hw (by decide)
  .rw[if_neg w]at hw;exact absurd hw (by decide)
 .rw[if_neg (by decide),if_pos rfl]at hw;rcases Classical.em (¬(ogF=0/\ogT=0))with w|w
  .rw[if_pos w]at hw;exact absurd hw (by decide)
  .rw[if_neg w]at hw;exact absurd hw (by decide)
 .have e1:=n1 rfl;have e2:=n2 rfl;subst e1 e2;simp only[show ¬(2:Int)=1 by decide,if_false]at h hw;rcases Classical.em (¬(ogF=0/\ogT=0))with w1|w1<;>rcases Classical.em (¬(pgF=0/\pgT=0))with w2|w2
  .rw[if_pos w1,if_pos w2]at h;simp only[zzg,Tok.num.injEq,Tok.nat.injEq,and_true]at h;obtain⟨h1,h2,h3,h4⟩:=h;obtain⟨q1,q2,q3,q4⟩:=i1 (.inr w1);obtain⟨r1,r2,r3,r4⟩:=i2 (.inr w2);subst h1 h2 h3 h4 q1 q2 q3 q4 r1 r2 r3 r4;rfl
  .rw[if_pos w1,if_neg w2]at hw;exact absurd hw (by decide)
  .rw[if_neg w1,if_pos w2]at hw;exact absurd hw (by decide)
  .rw[if_neg w1,if_neg w2]at h;simp only[zzg,Tok.num.injEq,Tok.nat.injEq,Tok.said.injEq,and_true]at h;obtain⟨h1,h2,h3,h4,h5,h6⟩:=h;obtain⟨e3,e3'⟩:=Classical.not_not.1 w1;obtain⟨e4,e4'⟩:=Classical.not_not.1 w2;subst h1 h2 h3 h4 h5 h6 e3 e3' e4 e4';rfl
theorem line_eq(o:iB)(r:List Nat):o.line++r=62::32::((Tok.num o.au).text++(32::((Tok.lit o.iX).text++(ea o.rest++10::r)))):=by
 simp[iB.line,ea]
theorem line_free{o p:iB}{r s:List Nat}(ro:o.E3)(rp:p.E3)(mo:o.nS)(mp:p.nS)(h:o.line++r=p.line++s):o=p/\r=s:=by
 rw[line_eq,line_eq]at h;have h:=(List.cons.inj (List.cons.inj h).2).2;obtain⟨h1,h2⟩:=nY (t:=.num o.au) (u:=.num p.au) rfl (by simp[Tok.k]) ro.au rp.au (fun c hc=>by simp at hc;omega) (fun c hc=>by simp at hc;omega) h;obtain⟨h3,h4⟩:=nY (t:=.lit o.iX) (u:=.lit p.iX) rfl (by simp[Tok.k]) (BY o) (BY p) (eF _ _) (eF _ _) (List.cons.inj h2).2;have h1':o.au=p.au:=by injection h1
 have h3':o.iX=p.iX:=by injection h3
 have f:=CB rp mp;rw[<-h3']at f;obtain⟨h5,h6⟩:=lP (CB ro mo) f h4;exact⟨sent_ext mo mp h1' h3' h5,h6⟩
theorem yW:∀{l m:List iB},(∀o,o∈l->o.E3/\o.nS)->(∀o,o∈m->o.E3/\o.nS)->l.flatMap iB.line=m.flatMap iB.line->l=m
 |[],[],_,_,_=>rfl
 |[],p::m,_,_,h=>by rw[zzm]at h;unfold iB.line at h;simp at h
 |o::l,[],_,_,h=>by rw[zzm]at h;unfold iB.line at h;simp at h
 |o::l,p::m,h1,h2,h=>by
  rw[zzm,zzm]at h;obtain⟨a1,a2⟩:=h1 o (List.mem_cons_self ..);obtain⟨b1,b2⟩:=h2 p (List.mem_cons_self ..);obtain⟨h3,h4⟩:=line_free a1 b1 a2 b2 h;rw[h3,yW (fun x hx=>h1 x (zzj _ hx)) (fun x hx=>h2 x (zzj _ hx)) h4]
structure Row where
 kind:Int
 err:Int
 n:Nat
 qF:List iB
def Row.fu(r:Row):List Tok:=if r.err=0 then [.lit wOk,.nat r.n] else [.lit jT,.num r.err,.nat r.n]
noncomputable def Row.head(r:Row):List Nat:=cd r.kind++ea r.fu++[10]
noncomputable def Row.text(r:Row):List Nat:=r.head++r.qF.flatMap iB.line
structure Row.E3(r:Row):Prop where
 err:pq r.err
 n:r.n<18446744073709551616
 qF:∀o,o∈r.qF->o.E3
structure Row.nS(r:Row):Prop where
 name:cd r.kind≠[]
 qF:∀o,o∈r.qF->o.nS
theorem row_eq(r:Row):r.text=cd r.kind++(ea r.fu++10::r.qF.flatMap iB.line):=by
 simp[Row.text,Row.head]
theorem tZ{a b:Row}(ra:a.E3)(rb:b.E3)(ma:a.nS)(mb:b.nS):a.text=b.text↔a=b:=by
 refine⟨fun h=>?_,fun h=>by rw[h]⟩;rw[row_eq,row_eq]at h;obtain⟨h1,h2⟩:=vt ma.name mb.name (eF _ _) (eF _ _) h;have wE:∀(w:List Nat)(l:List Tok)(r:List Nat),ea (.lit w::l)++10::r=32::((Tok.lit w).text++(ea l++10::r)):=fun w l r=>by simp[ea]
 have lOk:∀c,c∈wOk->97<=c:=by decide
 have lEr:∀c,c∈jT->97<=c:=by decide
 have key:a.err=b.err/\a.n=b.n/\a.qF.flatMap iB.line=b.qF.flatMap iB.line:=by
  unfold Row.fu at h2;split at h2<;>split at h2
  .rename_i e1 e2;obtain⟨h3,h4⟩:=lP (s:=fun i=>if i=0 then 5 else 1) (l:=[.lit wOk,.nat a.n]) (m:=[.lit wOk,.nat b.n]) ⟨rfl,lOk,fun h=>(by cases h),rfl,ra.n,fun h=>(by cases h),trivial⟩ ⟨rfl,lOk,fun h=>(by cases h),rfl,rb.n,fun h=>(by cases h),trivial⟩ h2;simp only[zzg,Tok.nat.injEq,and_true,true_and]at h3;exact⟨by rw[e1,e2],h3,h4⟩
  .rw[wE,wE]at h2;obtain⟨h3,_⟩:=nY (t:=.lit wOk) (u:=.lit jT) rfl (by decide) lOk lEr (eF _ _) (eF _ _) (List.cons.inj h2).2;injection h3 with h3;exact absurd h3 (by decide)
  .rw[wE,wE]at h2;obtain⟨h3,_⟩:=nY (t:=.lit jT) (u:=.lit wOk) rfl (by decide) lEr lOk (eF _ _) (eF _ _) (List.cons.inj h2).2;injection h3 with h3;exact absurd h3 (by decide)
  .rename_i e1 e2;obtain⟨h3,h4⟩:=lP (s:=fun i=>if i=0 then 5 else if i=1 then 0 else 1) (l:=[.lit jT,.num a.err,.nat a.n]) (m:=[.lit jT,.num b.err,.nat b.n]) ⟨rfl,lEr,fun h=>(by cases h),rfl,ra.err,fun h=>(by cases h),rfl,ra.n,fun h=>(by cases h),trivial⟩ ⟨rfl,lEr,fun h=>(by cases h),rfl,rb.err,fun h=>(by cases h),rfl,rb.n,fun h=>(by cases h),trivial⟩ h2;simp only[zzg,Tok.nat.injEq,Tok.num.injEq,and_true,true_and]at h3;exact⟨h3.1,h3.2,h4⟩
 obtain⟨k1,k2,k3⟩:=key;have k4:=yW (fun o ho=>⟨ra.qF o ho,ma.qF o ho⟩) (fun o ho=>⟨rb.qF o ho,mb.qF o ho⟩) k3;obtain⟨ak,ae,an,al⟩:=a;obtain⟨bk,be,bn,bl⟩:=b;simp only at h1 k1 k2 k4;subst h1 k1 k2 k4;rfl
structure aE where
 o:iB
 av:AV
 bv:AV
def aE.d(x:aE):List AV:=[.int .u64 x.o.iN,.int .u64 x.o.iT,.str x.o.key,x.av,.int .u64 x.o.gF,.int .u64 x.o.gT]
def aE.u(x:aE):List AV:=[.int .i64 x.o.kind,.int .i64 x.o.fh,.int .i64 x.o.sub,.int .i64 x.o.to,.int .u64 x.o.n,.int .u64 x.o.iN,.int .u64 x.o.iT,.str x.o.key,x.av,.int .u64 x.o.gF,.int .u64 x.o.gT,x.bv]
def aE.c(x:aE):List AV:=[.int .i64 x.o.au,.int .i64 x.o.kind,.int .i64 x.o.fh,.int .i64 x.o.sub,.int .i64 x.o.to,.int .u64 x.o.n,.int .u64 x.o.iN,.int .u64 x.o.iT,.str x.o.key,x.av,.int .u64 x.o.gF,.int .u64 x.o.gT,x.bv]
theorem aE.dm(x:aE):x.c.length=13:=rfl
theorem aE.jA(x:aE):x.u.length=12:=rfl
structure jl(S:AS)(x:aE):Prop where
 aR:ew S x.av x.o.aR
 bytes:Sl S x.bv 1 (bH x.o.bytes)
 dK:x.o.E3
 kind:pq x.o.kind
 to:pq x.o.to
 byt:∀c,c∈x.o.bytes->c<256
 bl:x.o.bytes.length<=1048576
theorem jl.sub{S T:AS}{x:aE}(h:jl S x)(k:Sub S T):jl T x:=⟨h.aR.sub k,h.bytes.toSub k,h.dK,h.kind,h.to,h.byt,h.bl⟩
theorem eqv100(c:Bool)(a1 a2 b1 b2:Nat):qh C0 100 c (.agg [.int .u64 a1,.int .u64 a2]) (.agg [.int .u64 b1,.int .u64 b2])=some (decide (a1=b1/\a2=b2)):=by
 have e:qh C0 100 c (.agg [.int .u64 (a1:Int),.int .u64 (a2:Int)]) (.agg [.int .u64 (b1:Int),.int .u64 (b2:Int)])=fB (some (pP a1 b1)) (fB (some (pP a2 b2)) (some true)):=by kernel_rfl
 rw[e,cQ,cQ];unfold fB;by_cases h1:a1=b1
 .by_cases h2:a2=b2
  .simp[h1,h2]
  .have h3:¬((a2:Int)=b2):=by omega
   simp[h1,h2,h3]
 .have h3:¬((a1:Int)=b1):=by omega
  simp[h1,h3]
theorem DV(c:Bool)(a1 a2 b1 b2:Nat):bI C0 .eql 100 c (.agg [.int .u64 a1,.int .u64 a2]) (.agg [.int .u64 b1,.int .u64 b2])=some (.bool (decide (a1=b1/\a2=b2))):=oJ (eqv100 c a1 a2 b1 b2)
theorem yL(c:Bool)(a1 a2 b1 b2:Nat):bI C0 .neq 100 c (.agg [.int .u64 a1,.int .u64 a2]) (.agg [.int .u64 b1,.int .u64 b2])=some (.bool (!decide (a1=b1/\a2=b2))):=by
 unfold bI;simp[eqv100]
theorem ne100z(c:Bool)(a1 a2:Nat):bI C0 .neq 100 c (.agg [.int .u64 a1,.int .u64 a2]) (.agg [.int .u64 0,.int .u64 0])=some (.bool (!decide (a1=0/\a2=0))):=yL c a1 a2 0 0
theorem zD:eT C0 100 []=some (.agg [.int .u64 0,.int .u64 0]):=by kernel_rfl
theorem zC(k p:Int):eT C0 106 [(0,.int .i64 k),(1,.int .i64 p)]=some (.agg [.int .i64 k,.int .i64 p,.int .i64 0,.int .i64 0,.int .u64 0,.int .u64 0,.int .u64 0,.str [],.ar,.int .u64 0,.int .u64 0,.ar]):=by kernel_rfl
theorem zn88:Tryz.f88.ntmps=205:=by kernel_rfl
theorem fc2{F:Fr}{id:Nat}{b:Tmp}{w:ByteArray}{t1 t2:List Nat}(h1:eval F (.const (.string w))=.str t1)(h2:sl F b=.str t2):aO C0 F id (.buildSlice 86 2 #[(0,.const (.string w)),(1,.tmp b)])=some (.slice id 0 0 2 2 1 (some 2),.row [.str t1,.str t2] 0 0 false 9):=by
 have:=bA (cx:=C0) (F:=F) (t:=86) (p:=(9,1,16)) (id:=id) (n:=2) (a:=#[(0,.const (.string w)),(1,.tmp b)]) [[.str t1],[.str t2]] dh rfl (by simp[aA,h1,h2,cellsOf]) (by simp) (by decide);simpa using this
theorem fc3{F:Fr}{id:Nat}{b c:Tmp}{w:ByteArray}{t1 t2 t3:List Nat}(h1:eval F (.const (.string w))=.str t1)(h2:sl F b=.str t2)(h3:sl F c=.str t3):aO C0 F id (.buildSlice 86 3 #[(0,.const (.string w)),(1,.tmp b),(2,.tmp c)])=some (.slice id 0 0 3 3 1 (some 3),.row [.str t1,.str t2,.str t3] 0 0 false 9):=by
 have:=bA (cx:=C0) (F:=F) (t:=86) (p:=(9,1,16)) (id:=id) (n:=3) (a:=#[(0,.const (.string w)),(1,.tmp b),(2,.tmp c)]) [[.str t1],[.str t2],[.str t3]] dh rfl (by simp[aA,h1,h2,h3,cellsOf]) (by simp) (by decide);simpa using this
theorem fc5{F:Fr}{id:Nat}{b c d e:Tmp}{w:ByteArray}{t1 t2 t3 t4 t5:List Nat}(h1:eval F (.const (.string w))=.str t1)(h2:sl F b=.str t2)(h3:sl F c=.str t3)(h4:sl F d=.str t4)(h5:sl F e=.str t5):aO C0 F id (.buildSlice 86 5 #[(0,.const (.string w)),(1,.tmp b),(2,.tmp c),(3,.tmp d),(4,.tmp e)])=some (.slice id 0 0 5 5 1 (some 5),.row [.str t1,.str t2,.str t3,.str t4,.str t5] 0 0 false 9):=by
 have:=bA (cx:=C0) (F:=F) (t:=86) (p:=(9,1,16)) (id:=id) (n:=5) (a:=#[(0,.const (.string w)),(1,.tmp b),(2,.tmp c),(3,.tmp d),(4,.tmp e)]) [[.str t1],[.str t2],[.str t3],[.str t4],[.str t5]] dh rfl (by simp[aA,h1,h2,h3,h4,h5,cellsOf]) (by simp) (by decide);simpa using this
theorem fc6{F:Fr}{id:Nat}{b c d e f:Tmp}{w:ByteArray}{t1 t2 t3 t4 t5 t6:List Nat}(h1:eval F (.const (.string w))=.str t1)(h2:sl F b=.str t2)(h3:sl F c=.str t3)(h4:sl F d=.str t4)(h5:sl F e=.str t5)(h6:sl F f=.str t6):aO C0 F id (.buildSlice 86 6 #[(0,.const (.string w)),(1,.tmp b),(2,.tmp c),(3,.tmp d),(4,.tmp e),(5,.tmp f)])=some (.slice id 0 0 6 6 1 (some 6),.row [.str t1,.str t2,.str t3,.str t4,.str t5,.str t6] 0 0 false 9):=by
 have:=bA (cx:=C0) (F:=F) (t:=86) (p:=(9,1,16)) (id:=id) (n:=6) (a:=#[(0,.const (.string w)),(1,.tmp b),(2,.tmp c),(3,.tmp d),(4,.tmp e),(5,.tmp f)]) [[.str t1],[.str t2],[.str t3],[.str t4],[.str t5],[.str t6]] dh rfl (by simp[aA,h1,h2,h3,h4,h5,h6,cellsOf]) (by simp) (by decide);simpa using this
section
variable{S T:AS}
theorem gw_row{us:List (List Nat)}{n:Nat}(hn:us.length=n):Gw (⟨T.h.set T.nx (.row (dE us) 0 0 false 9),T.nx+1⟩:AS) (.slice T.nx 0 0 n n 1 (some n)) 1 9 (dE us):=by
 refine⟨⟨by simp[isSl,eS],?_,by simp[sLen,ie,hn],by simp[aV]⟩,.inr ⟨T.nx,0,0,n,n,some n,rfl,by simp[capN],zzt _,_,0,0,get_set_same _ _ _,zzq _,rfl⟩⟩;cases n with
 |zero=>
  obtain rfl:=List.length_eq_zero_iff.1 hn;simp[lY,dE]
 |succ m=>
  show rd _ _ _ _ ((m+1)*1) (m+1)=_;rw[dP,get_set_same,cr,if_pos ⟨zzq _,zzq _,by omega⟩,List.drop_zero,zze (by rw[ie,hn];omega)]
end
def OutP(o:iB)(s:List Nat)(b:Bool):Prop:=(b=true->o.nS/\s=o.line)/\s.length<=50000000/\∀c,c∈s->c<256
structure O1(S:AS)(x:aE)(F:Fr)(T:AS):Prop where
 sub:Sub S T
 b1:T.h.get S.nx=some (.row x.c 0 0 false 108)
 b4:T.h.get (S.nx+1)=some (.row x.u 0 0 false 106)
 b5:T.h.get (S.nx+2)=some (.row x.d 0 0 false 104)
 nx:T.nx=S.nx+3
 s1:sl F 1=.ptr S.nx 0 0 13
 s4:sl F 4=.ptr (S.nx+1) 0 0 12
 s5:sl F 5=.ptr (S.nx+2) 0 0 6
 n:F.n=205
structure O2(S:AS)(x:aE)(ys:List AV)(ts:List (List Nat))(v:AV)(T:AS):Prop where
 sub:Sub S T
 b1:T.h.get S.nx=some (.row x.c 0 0 false 108)
 b4:T.h.get (S.nx+1)=some (.row x.u 0 0 false 106)
 b5:T.h.get (S.nx+2)=some (.row x.d 0 0 false 104)
 b7:T.h.get (S.nx+3)=some (.row ys 0 0 false 106)
 lt:S.nx+4<=T.nx
 gw:Gw T v 1 9 (dE ts)
 bn:S.nx+4<aV v
def O2F(S:AS)(x:aE)(ys:List AV)(ts:List (List Nat))(gb:Bool)(F:Fr)(T:AS):Prop:=
 ∃v,O2 S x ys ts v T/\sl F 8=v/\sl F 1=.ptr S.nx 0 0 13/\sl F 4=.ptr (S.nx+1) 0 0 12/\sl F 5=.ptr (S.nx+2) 0 0 6/\sl F 6=.bool gb/\sl F 7=.ptr (S.nx+3) 0 0 12/\F.n=205
def O3F(S:AS)(x:aE)(ys yd:List AV)(ts:List (List Nat))(gb:Bool)(F:Fr)(T:AS):Prop:=
 ∃v B,O2 S x ys ts v T/\T.h.get B=some (.row yd 0 0 false 104)/\T.h.get (B+1)=some (.row x.d 0 0 false 104)/\B+2<=T.nx/\S.nx+4<=B/\sl F 8=v/\sl F 4=.ptr (S.nx+1) 0 0 12/\sl F 5=.ptr (S.nx+2) 0 0 6/\sl F 6=.bool gb/\sl F 7=.ptr (S.nx+3) 0 0 12/\sl F 9=.ptr B 0 0 6/\sl F 10=.ptr (B+1) 0 0 6/\F.n=205
section
variable{S T W:AS}{x:aE}{ys ys':List AV}{ts us:List (List Nat)}{v v':AV}
theorem O2.to(h:O2 S x ys ts v T)(k:Sub T W):O2 S x ys ts v W:=
 ⟨h.sub.trans k,(k.h _ (by have:=h.lt;omega)).trans h.b1,(k.h _ (by have:=h.lt;omega)).trans h.b4,(k.h _ (by have:=h.lt;omega)).trans h.b5,(k.h _ (by have:=h.lt;omega)).trans h.b7,Nat.le_trans h.lt k.nx,h.gw.cE (fun id e=>k.h id (by have:=h.gw.1.old;omega)) k.nx,h.bn⟩
theorem O2.put(h:O2 S x ys ts v T)(hn:W.nx=T.nx)(hk:∀id,id≠S.nx+3->W.h.get id=T.h.get id)(hc:W.h.get (S.nx+3)=some (.row ys' 0 0 false 106)):O2 S x ys' ts v W:=
 ⟨⟨fun id cw=>(hk id (by omega)).trans (h.sub.h id cw),by have:=h.sub.nx;omega⟩,(hk _ (by omega)).trans h.b1,(hk _ (by omega)).trans h.b4,(hk _ (by omega)).trans h.b5,hc,by have:=h.lt;omega,h.gw.cE (fun id e=>hk id (by have:=h.bn;omega)) (by omega),h.bn⟩
theorem O2.app(h:O2 S x ys ts v T)(h1:Gw W v' 1 9 (dE (ts++us)))(h2:∀id,id<T.nx->aV v≠id+1->W.h.get id=T.h.get id)(h3:T.nx<=W.nx)(h4:aV v'=aV v\/T.nx<aV v'):O2 S x ys (ts++us) v' W:=by
 have hl:=h.lt;have hb:=h.bn;have hs:=h.sub.nx;exact⟨⟨fun id cw=>(h2 id (by omega) (by omega)).trans (h.sub.h id cw),by omega⟩,(h2 _ (by omega) (by omega)).trans h.b1,(h2 _ (by omega) (by omega)).trans h.b4,(h2 _ (by omega) (by omega)).trans h.b5,(h2 _ (by omega) (by omega)).trans h.b7,by omega,h1,by omega⟩
end
open Go.Proofs.YthklfandhmkpiaaGreatDoor.val (aU bP bK dc mw pg)
section
variable{S:AS}
set_option maxHeartbeats 8000000 in
theorem yH{x:aE}(hx:jl S x):az C0 88 [.agg x.c] S fun r T=>Sub S T/\∃s b,r=.tuple [.str s,.bool b]/\OutP x.o s b:=by
 have r:=hx.dK;have bm:=aj hx.aR.sl;have dM:=aj hx.bytes;have dB:=hx.aR.sl.ok;have dC:=hx.aR.sl.base;have bvk:=hx.bytes.ok;have bvb:=hx.bytes.base;have iv:=hx.aR.sl.cells;have bvc:=hx.bytes.cells;have avm:(match x.av with | .bool b=>true | .int k n=>true | .str s=>true | .cT=>true | .ptr id gen off aM=>true | .ar=>true | .slice id gen off len aM sz cap=>true | .jb=>true | .map id=>true | .kI=>true | .bS=>true|_=>false)=true:=by
  rcases hx.aR.sl.cases with h|⟨_,_,_,_,_,_,h⟩<;>rw[h]
 obtain⟨gb,hgb⟩:∃gb:Bool,gb=!decide (x.o.gF=0/\x.o.gT=0):=⟨_,rfl⟩
 have nz:∀c,bI C0 .neq 100 c (.agg [.int .u64 x.o.gF,.int .u64 x.o.gT]) (.agg [.int .u64 0,.int .u64 0])=some (.bool gb):=fun c=>by rw[hgb];exact ne100z c x.o.gF x.o.gT
 have EZ:gb=true->x.o.gap:=fun h=>by
  rw[hgb]at h;rintro⟨h1,h2⟩;simp[h1,h2]at h
 have hgf:gb=false->x.o.gF=0/\x.o.gT=0:=fun h=>by rw[hgb]at h;simpa using h
 have zgb:(!gb)=decide (0=x.o.gF/\0=x.o.gT):=by rw[hgb,Bool.not_not];exact decide_eq_decide.2 ⟨fun h=>⟨h.1.symm,h.2.symm⟩,fun h=>⟨h.1.symm,h.2.symm⟩⟩
 clear hgb;refine ej (dL _) (dF _ rfl) zf88 rfl zo88 (by simp) fun F hn hs=>?_;rw[zn88]at hn;have s0:=hs 0;clear hs;simp only[zzo,zzs,aE.c]at s0;simp[s0];refine aJ (O1 S x) ?_ ?_
 .refine bg [.p,.r 0 0,.p,.p,.r 0 1,.f,.f,.e [5,6],.e [5,6]] (n:=205) (by kernel_rfl) (by simp[hn]) ?_;simp[s0,bm,dM,dB,dC,bvk,bvb,iv,bvc];refine⟨avm,⟨fun id cw=>?_,?_⟩,?_,?_,?_,?_,by simp,by simp,by simp,by simp[hn]⟩
  .show (Am.T.set _ _ _).get _=_;rw[ah _ _ (by omega),ah _ _ (by omega),ah _ _ (by omega),ah _ _ (by omega),ah _ _ (by omega)]
  .show S.nx<=S.nx+1+2;omega
  .show (Am.T.set _ _ _).get _=_;rw[ah _ _ (by omega),ah _ _ (by omega),ah _ _ (by omega),ah _ _ (by omega),get_set_same];rfl
  .show (Am.T.set _ _ _).get _=_;rw[ah _ _ (by omega),get_set_same];rfl
  .exact get_set_same _ _ _
  .show S.nx+1+2=S.nx+3;omega
 rintro G T ⟨o1,o2,o3,o4,o5,o6,o7,o8,o9⟩;obtain⟨T7,hT7⟩:∃T7:AS,T7=⟨(T.h.set T.nx (.row [.int .i64 0,.int .i64 0,.int .i64 0,.int .i64 0,.int .u64 0,.int .u64 0,.int .u64 0,.str [],.ar,.int .u64 0,.int .u64 0,.ar] 0 0 false 106)).set T.nx (.row [.int .i64 x.o.kind,.int .i64 x.o.fh,.int .i64 0,.int .i64 0,.int .u64 0,.int .u64 0,.int .u64 0,.str [],.ar,.int .u64 0,.int .u64 0,.ar] 0 0 false 106),T.nx+1⟩:=⟨_,rfl⟩
 have z7:Sub T T7:=by rw[hT7];exact Go.Proofs.YthklfandhmkpiaaGreatDoor.mod.eb
 have g7:T7.h.get (S.nx+3)=some (.row [.int .i64 x.o.kind,.int .i64 x.o.fh,.int .i64 0,.int .i64 0,.int .u64 0,.int .u64 0,.int .u64 0,.str [],.ar,.int .u64 0,.int .u64 0,.ar] 0 0 false 106):=by rw[hT7,<-o5];exact get_set_same _ _ _
 have n7:T7.nx=S.nx+4:=by rw[hT7];show T.nx+1=S.nx+4;omega
 have bT7:=hT7.symm;clear hT7;obtain⟨_,V1,⟨rfl,iA⟩,c1⟩:=(gk (S:=T7) r.au.1 r.au.2).ex;obtain⟨V2,vL⟩:∃V2:AS,V2=⟨V1.h.set V1.nx (.row [.str [62],.str (aU x.o.au)] 0 0 false 9),V1.nx+1⟩:=⟨_,rfl⟩
 have z8:Sub V1 V2:=by rw[vL];exact dc
 have gw2:Gw V2 (.slice V1.nx 0 0 2 2 1 (some 2)) 1 9 (dE [[62],aU x.o.au]):=by rw[vL];exact gw_row (us:=[[62],aU x.o.au]) rfl
 have bV2:=vL.symm;clear vL;have nV1:=iA.nx;have hK:=(z7.trans iA).trans z8;have O0:O2 S x [.int .i64 x.o.kind,.int .i64 x.o.fh,.int .i64 0,.int .i64 0,.int .u64 0,.int .u64 0,.int .u64 0,.str [],.ar,.int .u64 0,.int .u64 0,.ar] [[62],aU x.o.au] (.slice V1.nx 0 0 2 2 1 (some 2)) V2:=
  ⟨o1.trans hK,(hK.h _ (by omega)).trans o2,(hK.h _ (by omega)).trans o3,(hK.h _ (by omega)).trans o4,(z8.h _ (by omega)).trans ((iA.h _ (by omega)).trans g7),by have:=z8.nx;omega,gw2,by simp[aV];omega⟩
 have q1:=(z7.h _ (by omega)).trans o2;have q2:=o2;have q3:=o3;have q4:=o4;have p3:=O0.b4;have p4:=O0.b5;have p7:=O0.b7;simp only[aE.c,aE.u,aE.d]at q1 q2 q3 q4 p3 p4;rw[<-o5]at p7;have EX:¬S.nx=T.nx:=by omega
 have Dv:¬S.nx+1=T.nx:=by omega
 have rK:¬S.nx+2=T.nx:=by omega
 by_cases k1:x.o.kind=1
 .rw[k1]at bT7 p7 p3 q3 O0;obtain⟨W0,hW0⟩:∃W0:AS,W0=⟨V2.h.set T.nx (.row [.int .i64 1,.int .i64 x.o.fh,.int .i64 0,.int .i64 0,.int .u64 x.o.n,.int .u64 0,.int .u64 0,.str [],.ar,.int .u64 0,.int .u64 0,.ar] 0 0 false 106),V2.nx⟩:=⟨_,rfl⟩
  have O:O2 S x [.int .i64 1,.int .i64 x.o.fh,.int .i64 0,.int .i64 0,.int .u64 x.o.n,.int .u64 0,.int .u64 0,.str [],.ar,.int .u64 0,.int .u64 0,.ar] [[62],aU x.o.au] (.slice V1.nx 0 0 2 2 1 (some 2)) W0:=O0.put (by rw[hW0]) (fun id e=>by rw[hW0];exact ah _ _ (by omega)) (by rw[hW0,<-o5];exact get_set_same _ _ _);have bW0:=hW0.symm;clear hW0;simp[o6,o7,o8,EX,Dv,rK,q1,q2,q3,q4,p3,p4,p7,zD,nz,zC,bT7,c1,aK,fc2,bV2,dB,dC,bvk,bvb,bm,dM,iv,bvc,bW0];obtain⟨_,W1,⟨rfl,iA⟩,d1⟩:=(gk (S:=W0) r.fh.1 r.fh.2).ex;have jf:=iA;obtain⟨_,W2,⟨rfl,vL⟩,d2⟩:=(ka (S:=W1) r.n).ex;have qv:=jf.trans vL;obtain⟨v2,W,a1,a2,a3,a4,a5⟩:=kA (us:=[[97,110,115,119,101,114],aU x.o.fh,bP x.o.n]) (n:=2) (O.to qv).gw (by simp) rfl;have OO:=(O.to qv).app a2 a3 a4 a5;have xC:=O.b4;have xv:=O.b5;simp only[aE.u,aE.d]at xC xv;have xB:=(O.to jf).b4;have xr:=(O.to jf).b5;simp only[aE.u,aE.d]at xB xr;have xz:=(O.to qv).b4;have xq:=(O.to qv).b5;simp only[aE.u,aE.d]at xz xq;have a1:=a1;simp only[dE,zzu,List.map_nil]at a1;refine aJ (O2F S x [.int .i64 1,.int .i64 x.o.fh,.int .i64 0,.int .i64 0,.int .u64 x.o.n,.int .u64 0,.int .u64 0,.str [],.ar,.int .u64 0,.int .u64 0,.ar] ([[62],aU x.o.au]++[[97,110,115,119,101,114],aU x.o.fh,bP x.o.n]) gb) ?_ ?_
  .refine bg [.p,.p,.r 0 0,.e [],.p,.r 1 0,.e [],.e [],.e [],.p] (n:=205) (by kernel_rfl) (by simp[o9]) ?_;simp[o6,o7,o8,xC,xv,xB,xr,xz,xq,d1,d2,aK,fc3,a1,aj O.gw.1,aj a2.1,bm,dM,dB,dC,bvk,bvb,iv,bvc];exact⟨v2,OO,by simp,by simp[o6],by simp[o7],by simp[o8],by simp,by simp[o5],by simp[o9]⟩
  .rintro G W0 ⟨v,O,h8,h1,h4,h5,h6,h7,h9⟩;have e4:=O.b4;have e7:=O.b7;simp only[aE.u]at e4;have cR:=O.lt;simp[h1,h4,h5,h6,h7,h8,e4,e7];refine aJ (O3F S x [.int .i64 1,.int .i64 x.o.fh,.int .i64 0,.int .i64 0,.int .u64 x.o.n,.int .u64 0,.int .u64 0,.str [],.ar,.int .u64 0,.int .u64 0,.ar] [.int .u64 0,.int .u64 0,.str [],.ar,.int .u64 0,.int .u64 0] ([[62],aU x.o.au]++[[97,110,115,119,101,114],aU x.o.fh,bP x.o.n]) gb) ?_ ?_
   .refine bg [.p,.r 0 0,.p,.r 0 1,.f,.f,.e [4,5],.e [4,5]] (n:=205) (by kernel_rfl) (by simp[h9]) ?_;have w1:¬S.nx+1=W0.nx:=by omega
    have w2:¬S.nx+1=W0.nx+1:=by omega
    have w3:¬S.nx+3=W0.nx:=by omega
    have w4:¬S.nx+3=W0.nx+1:=by omega
    have w5:¬S.nx=W0.nx:=by omega
    have w6:¬S.nx+2=W0.nx:=by omega
    simp[h1,h4,h5,h6,h7,h8,e4,e7,w1,w2,w3,w4,w5,w6,dB,dC,bvk,bvb,bm,dM,iv,bvc];refine⟨avm,?_⟩;refine⟨v,W0.nx,O.to ⟨fun id cw=>?_,?_⟩,?_,?_,?_,by omega,by simp[h8],by simp[h4],by simp[h5],by simp[h6],by simp[h7],by simp,by simp,by simp[h9]⟩
    .show (Am.T.set _ _ _).get _=_;rw[ah _ _ (by omega),ah _ _ (by omega),ah _ _ (by omega),ah _ _ (by omega)]
    .show W0.nx<=W0.nx+2;omega
    .show (Am.T.set _ _ _).get _=_;rw[ah _ _ (by omega),get_set_same]
    .exact get_set_same _ _ _
    .exact zzq _
   .rintro G T ⟨v,B,O,b9,b10,hB,hB2,h8,h4,h5,h6,h7,h9,cM,hn⟩;have e4:=O.b4;have e5:=O.b5;have e7:=O.b7;have fc:=b10;have fE:=aj O.gw.1;have u1:=hx.bytes.sl;have u2:=hx.bytes.gx;rw[bM]at u2;obtain⟨_,T1,⟨rfl,t1⟩,m1⟩:=(mw (a:=[]) (b:=x.o.key) (l:=[]) (⟨Sl.nil,by simp,fun a h=>(by cases h)⟩:ew T .ar []) (hx.aR.sub O.sub)).ex;have lM:=(O.to t1).b4;have lL:=(O.to t1).b5;have nt:=(t1.h _ (by omega)).trans b9;have fe:=(t1.h _ (by omega)).trans b10;simp only[aE.u,aE.d]at e4 e5 fc lM lL fe;have gs:=fun c=>DV c x.o.gF x.o.gT x.o.gF x.o.gT;simp at gs;have wlit:Tok.dK (.lit kP):=⟨by decide,by decide⟩
    have tb1:Tok.dK (.num x.o.au):=r.au;have tb2:Tok.dK (.num x.o.fh):=r.fh;have tb3:Tok.dK (.num x.o.sub):=r.sub;have tb4:Tok.dK (.nat x.o.n):=r.n;have tb5:Tok.dK (.nat x.o.gF):=r.gF;have tb6:Tok.dK (.nat x.o.gT):=r.gT;have tb7:Tok.dK (.nat x.o.iN):=r.iN;have tb8:Tok.dK (.nat x.o.iT):=r.iT;have tb9:Tok.dK (.said x.o.key x.o.aR):=r.ev;have qy:∀t,t∈([.num x.o.au,.lit kP,.num x.o.fh,.nat x.o.n]:List Tok)->t.dK:=fun t ht=>by
     simp only[zzn,zzh,or_false]at ht;rcases ht with rfl|rfl|rfl|rfl<;>assumption
    obtain⟨Ai,oa⟩:=iY (l:=[.num x.o.au,.lit kP,.num x.o.fh,.nat x.o.n]) qy (by simp);obtain⟨s,hs⟩:∃s,s=[62]++cg (([.num x.o.au,.lit kP,.num x.o.fh,.nat x.o.n]:List Tok).map Tok.text)++[10]:=⟨_,rfl⟩
    have tl:∀W,Sub T W->∃T',(∀Q,az C0 55 [v] W Q=Q (.str s) T')/\Sub S T':=fun W hW=>by
     have hv:Sl W v 1 (dE ([62]::([.num x.o.au,.lit kP,.num x.o.fh,.nat x.o.n]:List Tok).map Tok.text)):=by
      have:=(O.gw.1).toSub hW;exact this
     obtain⟨_,T',⟨rfl,lA⟩,e⟩:=(si hv (fun t ht=>by
      rcases List.mem_cons.1 ht with rfl|ht
      .decide
      .exact oa t ht) (by simp only[zzf,zzd,zzc];omega)).ex
     exact⟨T',fun Q=>by rw[e Q,hs],(O.sub.trans hW).trans lA⟩
    have tj:s=x.o.line:=by rw[hs];simp[iB.line,iB.iX,iB.rest,k1,ea,cg]
    have zg:∀c,bI C0 .eql 100 c (.agg [.int .u64 0,.int .u64 0]) (.agg [.int .u64 x.o.gF,.int .u64 x.o.gT])=some (.bool (!gb)):=fun c=>by
     rw[zgb];exact DV c 0 0 x.o.gF x.o.gT
    have sl3:=pX (l:=([.num x.o.au,.lit kP,.num x.o.fh,.nat x.o.n]:List Tok).map Tok.text) (k:=4300000) fun t ht=>by
     obtain⟨y,hy,rfl⟩:=List.mem_map.1 ht;exact (kQ (qy y hy)).1
    have fy:s.length<=50000000:=by
     rw[hs,zza,zza,eU];simp only[zzf,zzd,zzc]at sl3⊢;omega
    have fq:∀c,c∈s->c<256:=fun c hc=>by
     rw[hs]at hc;rcases List.mem_append.1 hc with h|h
     .rcases List.mem_append.1 h with h|h
      .simp at h;omega
      .unfold cg at h;obtain⟨t,ht,h⟩:=List.mem_flatMap.1 h;rcases List.mem_cons.1 h with h|h
       .omega
       .exact oa t ht c h
     .simp at h;omega
    clear hs Ai oa;by_cases z1:x.o.sub=0
    case neg=>
     have z1a:¬0=x.o.sub:=fun h=>z1 h.symm;obtain⟨T',l1,l2⟩:=tl T (Sub.refl _);simp[h8,h4,h5,h6,h7,h9,cM,e4,e5,e7,b9,fc,lM,lL,nt,fe,u1,u2,dM,bm,dB,dC,fE,aK,l1,gs,zg,k1,z1,z1a]
     first
      |exact⟨l2,⟨fun h=>(by cases h),fy,fq⟩⟩
      |exact⟨l2,_,_,⟨rfl,rfl⟩,⟨fun h=>(by cases h),fy,fq⟩⟩
    by_cases z2:x.o.to=0
    case neg=>
     have z2a:¬0=x.o.to:=fun h=>z2 h.symm;obtain⟨T',l1,l2⟩:=tl T (Sub.refl _);simp[h8,h4,h5,h6,h7,h9,cM,e4,e5,e7,b9,fc,lM,lL,nt,fe,u1,u2,dM,bm,dB,dC,fE,aK,l1,gs,zg,k1,z1,z2,z2a]
     first
      |exact⟨l2,⟨fun h=>(by cases h),fy,fq⟩⟩
      |exact⟨l2,_,_,⟨rfl,rfl⟩,⟨fun h=>(by cases h),fy,fq⟩⟩
    by_cases z3:x.o.bytes=[]
    case neg=>
     have z3a:¬x.o.bytes.length=0:=fun h=>z3 (List.length_eq_zero_iff.1 h);have z3b:¬((x.o.bytes.length:Int)=0):=by omega
     obtain⟨T',l1,l2⟩:=tl T (Sub.refl _);simp[h8,h4,h5,h6,h7,h9,cM,e4,e5,e7,b9,fc,lM,lL,nt,fe,u1,u2,dM,bm,dB,dC,fE,aK,l1,gs,zg,k1,z1,z2,z3,z3a,z3b]
     first
      |exact⟨l2,⟨fun h=>(by cases h),fy,fq⟩⟩
      |exact⟨l2,_,_,⟨rfl,rfl⟩,⟨fun h=>(by cases h),fy,fq⟩⟩
    cases gb with
    |true=>
     obtain⟨T',l1,l2⟩:=tl T (Sub.refl _);simp[h8,h4,h5,h6,h7,h9,cM,e4,e5,e7,b9,fc,lM,lL,nt,fe,u1,u2,dM,bm,dB,dC,fE,aK,l1,gs,zg,k1,z1,z2,z3]
     first
      |exact⟨l2,⟨fun h=>(by cases h),fy,fq⟩⟩
      |exact⟨l2,_,_,⟨rfl,rfl⟩,⟨fun h=>(by cases h),fy,fq⟩⟩
    |false=>
     by_cases z5:x.o.iN=0
     case neg=>
      have z5a:¬0=x.o.iN:=fun h=>z5 h.symm;have z5b:¬(((x.o.iN:Nat):Int)=0):=by omega
      have z5c:¬((0:Int)=((x.o.iN:Nat):Int)):=by omega
      obtain⟨T',l1,l2⟩:=tl T (Sub.refl _);simp[h8,h4,h5,h6,h7,h9,cM,e4,e5,e7,b9,fc,lM,lL,nt,fe,u1,u2,dM,bm,dB,dC,fE,aK,l1,gs,zg,k1,z1,z2,z3,z5,z5a,z5b,z5c]
      first
       |exact⟨l2,⟨fun h=>(by cases h),fy,fq⟩⟩
       |exact⟨l2,_,_,⟨rfl,rfl⟩,⟨fun h=>(by cases h),fy,fq⟩⟩
     by_cases z6:x.o.iT=0
     case neg=>
      have z6a:¬0=x.o.iT:=fun h=>z6 h.symm;have z6b:¬(((x.o.iT:Nat):Int)=0):=by omega
      have z6c:¬((0:Int)=((x.o.iT:Nat):Int)):=by omega
      obtain⟨T',l1,l2⟩:=tl T (Sub.refl _);simp[h8,h4,h5,h6,h7,h9,cM,e4,e5,e7,b9,fc,lM,lL,nt,fe,u1,u2,dM,bm,dB,dC,fE,aK,l1,gs,zg,k1,z1,z2,z3,z5,z6,z6a,z6b,z6c]
      first
       |exact⟨l2,⟨fun h=>(by cases h),fy,fq⟩⟩
       |exact⟨l2,_,_,⟨rfl,rfl⟩,⟨fun h=>(by cases h),fy,fq⟩⟩
     by_cases z7:x.o.key=[]
     case neg=>
      have z7a:¬[]=x.o.key:=fun h=>z7 h.symm;obtain⟨T',l1,l2⟩:=tl T1 t1;simp[h8,h4,h5,h6,h7,h9,cM,e4,e5,e7,b9,fc,lM,lL,nt,fe,u1,u2,dM,bm,dB,dC,fE,aK,l1,gs,zg,k1,z1,z2,z3,z5,z6,m1,z7,z7a]
      first
       |exact⟨l2,⟨fun h=>(by cases h),fy,fq⟩⟩
       |exact⟨l2,_,_,⟨rfl,rfl⟩,⟨fun h=>(by cases h),fy,fq⟩⟩
     rw[z7]at m1;by_cases z8:x.o.aR=[]
     case neg=>
      have z8a:¬[]=x.o.aR:=fun h=>z8 h.symm;obtain⟨T',l1,l2⟩:=tl T1 t1;simp[h8,h4,h5,h6,h7,h9,cM,e4,e5,e7,b9,fc,lM,lL,nt,fe,u1,u2,dM,bm,dB,dC,fE,aK,l1,gs,zg,k1,z1,z2,z3,z5,z6,m1,z7,z8,z8a]
      first
       |exact⟨l2,⟨fun h=>(by cases h),fy,fq⟩⟩
       |exact⟨l2,_,_,⟨rfl,rfl⟩,⟨fun h=>(by cases h),fy,fq⟩⟩
     obtain⟨T',l1,l2⟩:=tl T1 t1;simp[h8,h4,h5,h6,h7,h9,cM,e4,e5,e7,b9,fc,lM,lL,nt,fe,u1,u2,dM,bm,dB,dC,fE,aK,l1,gs,zg,k1,z1,z2,z3,z5,z6,m1,z7,z8]
     first
      |exact⟨l2,⟨fun _=>⟨⟨.inl k1,fun h=>absurd (k1.symm.trans h) (by decide),fun _=>z1,z2,z3,fun _ h=>h (hgf rfl),fun _=>⟨z5,z6,z7,z8⟩,fun h=>absurd (k1.symm.trans h) (by decide)⟩,tj⟩,fy,fq⟩⟩
      |exact⟨l2,_,_,⟨rfl,rfl⟩,⟨fun _=>⟨⟨.inl k1,fun h=>absurd (k1.symm.trans h) (by decide),fun _=>z1,z2,z3,fun _ h=>h (hgf rfl),fun _=>⟨z5,z6,z7,z8⟩,fun h=>absurd (k1.symm.trans h) (by decide)⟩,tj⟩,fy,fq⟩⟩
 by_cases k2:x.o.kind=2
 .rw[k2]at bT7 p7 p3 q3 O0;cases gb with
  |true=>
   simp[o6,o7,o8,EX,Dv,rK,q1,q2,q3,q4,p3,p4,p7,zD,nz,zC,bT7,c1,aK,fc2,bV2,dB,dC,bvk,bvb,bm,dM,iv,bvc];refine aJ (O2F S x [.int .i64 2,.int .i64 x.o.fh,.int .i64 x.o.sub,.int .i64 0,.int .u64 0,.int .u64 0,.int .u64 0,.str [],.ar,.int .u64 x.o.gF,.int .u64 x.o.gT,.ar] [[62],aU x.o.au] true) ?_ ?_
   .refine bg [.p,.r 0 0,.p,.r 0 1,.p,.e [],.p,.p,.e []] (n:=205) (by kernel_rfl) (by simp[o9]) ?_;simp[o6,o7,o8,EX,Dv,rK,q1,q2,q3,q4,p3,p4,p7,zD,nz,zC,bT7,c1,aK,fc2,bV2,dB,dC,bvk,bvb,bm,dM,iv,bvc];exact⟨_,O0.put rfl (fun id e=>by simp[o5,ah _ _ e,e]) (by rw[<-o5];exact get_set_same _ _ _),by simp,by simp[o6],by simp[o7],by simp[o8],by simp,by simp[o5],by simp[o9]⟩
   .rintro G W0 ⟨v,O,h8,h1,h4,h5,h6,h7,h9⟩;obtain⟨_,W1,⟨rfl,iA⟩,d1⟩:=(gk (S:=W0) r.sub.1 r.sub.2).ex;have jf:=iA;obtain⟨_,W2,⟨rfl,vL⟩,d2⟩:=(gk (S:=W1) r.fh.1 r.fh.2).ex;have qv:=jf.trans vL;obtain⟨_,W3,⟨rfl,AX⟩,d3⟩:=(ka (S:=W2) r.gF).ex;have hW3:=qv.trans AX;obtain⟨_,W4,⟨rfl,hV4⟩,d4⟩:=(ka (S:=W3) r.gT).ex;have hW4:=hW3.trans hV4;obtain⟨v2,W,a1,a2,a3,a4,a5⟩:=kA (us:=[[103,97,112],aU x.o.sub,aU x.o.fh,bP x.o.gF,bP x.o.gT]) (n:=4) (O.to hW4).gw (by simp) rfl;have OO:=(O.to hW4).app a2 a3 a4 a5;have xC:=O.b4;have xv:=O.b5;simp only[aE.u,aE.d]at xC xv;have xB:=(O.to jf).b4;have xr:=(O.to jf).b5;simp only[aE.u,aE.d]at xB xr;have xz:=(O.to qv).b4;have xq:=(O.to qv).b5;simp only[aE.u,aE.d]at xz xq;have e4_3:=(O.to hW3).b4;have e5_3:=(O.to hW3).b5;simp only[aE.u,aE.d]at e4_3 e5_3;have e4_4:=(O.to hW4).b4;have e5_4:=(O.to hW4).b5;simp only[aE.u,aE.d]at e4_4 e5_4;have a1:=a1;simp only[dE,zzu,List.map_nil]at a1;simp[h1,h4,h5,h6,h7,h8,xC,xv,xB,xr,xz,xq,e4_3,e5_3,e4_4,e5_4,d1,d2,d3,d4,aK,fc5,a1,aj O.gw.1,aj a2.1,bm,dM,dB,dC,bvk,bvb,iv,bvc];refine aJ (O2F S x [.int .i64 2,.int .i64 x.o.fh,.int .i64 x.o.sub,.int .i64 0,.int .u64 0,.int .u64 0,.int .u64 0,.str [],.ar,.int .u64 x.o.gF,.int .u64 x.o.gT,.ar] ([[62],aU x.o.au]++[[103,97,112],aU x.o.sub,aU x.o.fh,bP x.o.gF,bP x.o.gT]) true) ?_ ?_
    .refine bg [.p,.p,.r 0 0,.e [],.p,.r 1 0,.e [],.p,.p,.r 2 0,.e [],.p,.p,.r 3 0,.e [],.e [],.e [],.p] (n:=205) (by kernel_rfl) (by simp[h9]) ?_;simp[h1,h4,h5,h6,h7,h8,xC,xv,xB,xr,xz,xq,e4_3,e5_3,e4_4,e5_4,d1,d2,d3,d4,aK,fc5,a1,aj O.gw.1,aj a2.1,bm,dM,dB,dC,bvk,bvb,iv,bvc];exact⟨v2,OO,by simp,by simp[h1],by simp[h4],by simp[h5],by simp[h6],by simp[h7],by simp[h9]⟩
    .rintro G W0 ⟨v,O,h8,h1,h4,h5,h6,h7,h9⟩;have e4:=O.b4;have e7:=O.b7;simp only[aE.u]at e4;have cR:=O.lt;simp[h1,h4,h5,h6,h7,h8,e4,e7];refine aJ (O3F S x [.int .i64 2,.int .i64 x.o.fh,.int .i64 x.o.sub,.int .i64 0,.int .u64 0,.int .u64 0,.int .u64 0,.str [],.ar,.int .u64 x.o.gF,.int .u64 x.o.gT,.ar] [.int .u64 0,.int .u64 0,.str [],.ar,.int .u64 x.o.gF,.int .u64 x.o.gT] ([[62],aU x.o.au]++[[103,97,112],aU x.o.sub,aU x.o.fh,bP x.o.gF,bP x.o.gT]) true) ?_ ?_
     .refine bg [.p,.r 0 0,.p,.r 0 1,.f,.f,.e [4,5],.e [4,5]] (n:=205) (by kernel_rfl) (by simp[h9]) ?_;have w1:¬S.nx+1=W0.nx:=by omega
      have w2:¬S.nx+1=W0.nx+1:=by omega
      have w3:¬S.nx+3=W0.nx:=by omega
      have w4:¬S.nx+3=W0.nx+1:=by omega
      have w5:¬S.nx=W0.nx:=by omega
      have w6:¬S.nx+2=W0.nx:=by omega
      simp[h1,h4,h5,h6,h7,h8,e4,e7,w1,w2,w3,w4,w5,w6,dB,dC,bvk,bvb,bm,dM,iv,bvc];refine⟨avm,?_⟩;refine⟨v,W0.nx,O.to ⟨fun id cw=>?_,?_⟩,?_,?_,?_,by omega,by simp[h8],by simp[h4],by simp[h5],by simp[h6],by simp[h7],by simp,by simp,by simp[h9]⟩
      .show (Am.T.set _ _ _).get _=_;rw[ah _ _ (by omega),ah _ _ (by omega),ah _ _ (by omega),ah _ _ (by omega)]
      .show W0.nx<=W0.nx+2;omega
      .show (Am.T.set _ _ _).get _=_;rw[ah _ _ (by omega),get_set_same]
      .exact get_set_same _ _ _
      .exact zzq _
     .rintro G T ⟨v,B,O,b9,b10,hB,hB2,h8,h4,h5,h6,h7,h9,cM,hn⟩;have e4:=O.b4;have e5:=O.b5;have e7:=O.b7;have fc:=b10;have fE:=aj O.gw.1;have u1:=hx.bytes.sl;have u2:=hx.bytes.gx;rw[bM]at u2;obtain⟨_,T1,⟨rfl,t1⟩,m1⟩:=(mw (a:=[]) (b:=x.o.key) (l:=[]) (⟨Sl.nil,by simp,fun a h=>(by cases h)⟩:ew T .ar []) (hx.aR.sub O.sub)).ex;have lM:=(O.to t1).b4;have lL:=(O.to t1).b5;have nt:=(t1.h _ (by omega)).trans b9;have fe:=(t1.h _ (by omega)).trans b10;simp only[aE.u,aE.d]at e4 e5 fc lM lL fe;have gs:=fun c=>DV c x.o.gF x.o.gT x.o.gF x.o.gT;simp at gs;have wlit:Tok.dK (.lit zV):=⟨by decide,by decide⟩
      have tb1:Tok.dK (.num x.o.au):=r.au;have tb2:Tok.dK (.num x.o.fh):=r.fh;have tb3:Tok.dK (.num x.o.sub):=r.sub;have tb4:Tok.dK (.nat x.o.n):=r.n;have tb5:Tok.dK (.nat x.o.gF):=r.gF;have tb6:Tok.dK (.nat x.o.gT):=r.gT;have tb7:Tok.dK (.nat x.o.iN):=r.iN;have tb8:Tok.dK (.nat x.o.iT):=r.iT;have tb9:Tok.dK (.said x.o.key x.o.aR):=r.ev;have qy:∀t,t∈([.num x.o.au,.lit zV,.num x.o.sub,.num x.o.fh,.nat x.o.gF,.nat x.o.gT]:List Tok)->t.dK:=fun t ht=>by
       simp only[zzn,zzh,or_false]at ht;rcases ht with rfl|rfl|rfl|rfl|rfl|rfl<;>assumption
      obtain⟨Ai,oa⟩:=iY (l:=[.num x.o.au,.lit zV,.num x.o.sub,.num x.o.fh,.nat x.o.gF,.nat x.o.gT]) qy (by simp);obtain⟨s,hs⟩:∃s,s=[62]++cg (([.num x.o.au,.lit zV,.num x.o.sub,.num x.o.fh,.nat x.o.gF,.nat x.o.gT]:List Tok).map Tok.text)++[10]:=⟨_,rfl⟩
      have tl:∀W,Sub T W->∃T',(∀Q,az C0 55 [v] W Q=Q (.str s) T')/\Sub S T':=fun W hW=>by
       have hv:Sl W v 1 (dE ([62]::([.num x.o.au,.lit zV,.num x.o.sub,.num x.o.fh,.nat x.o.gF,.nat x.o.gT]:List Tok).map Tok.text)):=by
        have:=(O.gw.1).toSub hW;exact this
       obtain⟨_,T',⟨rfl,lA⟩,e⟩:=(si hv (fun t ht=>by
        rcases List.mem_cons.1 ht with rfl|ht
        .decide
        .exact oa t ht) (by simp only[zzf,zzd,zzc];omega)).ex
       exact⟨T',fun Q=>by rw[e Q,hs],(O.sub.trans hW).trans lA⟩
      have hw:x.o.iX=zV:=by unfold iB.iX;rw[if_neg (by rw[k2];decide),if_pos (EZ rfl)]
      have hr:x.o.rest=[.num x.o.sub,.num x.o.fh,.nat x.o.gF,.nat x.o.gT]:=by unfold iB.rest;rw[if_neg (by rw[k2];decide),if_pos (EZ rfl)]
      have tj:s=x.o.line:=by rw[hs,iB.line,hw,hr];simp[ea,cg]
      have zg:=gs;have sl3:=pX (l:=([.num x.o.au,.lit zV,.num x.o.sub,.num x.o.fh,.nat x.o.gF,.nat x.o.gT]:List Tok).map Tok.text) (k:=4300000) fun t ht=>by
       obtain⟨y,hy,rfl⟩:=List.mem_map.1 ht;exact (kQ (qy y hy)).1
      have fy:s.length<=50000000:=by
       rw[hs,zza,zza,eU];simp only[zzf,zzd,zzc]at sl3⊢;omega
      have fq:∀c,c∈s->c<256:=fun c hc=>by
       rw[hs]at hc;rcases List.mem_append.1 hc with h|h
       .rcases List.mem_append.1 h with h|h
        .simp at h;omega
        .unfold cg at h;obtain⟨t,ht,h⟩:=List.mem_flatMap.1 h;rcases List.mem_cons.1 h with h|h
         .omega
         .exact oa t ht c h
       .simp at h;omega
      clear hs Ai oa;by_cases kg:x.o.gF=0
      case pos=>
       have kgd:decide (0<x.o.gF)=false:=by rw[kg];rfl
       have kge:decide ((0:Int)<(x.o.gF:Nat))=false:=by rw[kg];rfl
       clear kg;by_cases z1:x.o.n=0
       case neg=>
        have z1a:¬0=x.o.n:=fun h=>z1 h.symm;have z1b:¬(((x.o.n:Nat):Int)=0):=by omega
        have z1c:¬((0:Int)=((x.o.n:Nat):Int)):=by omega
        obtain⟨T',l1,l2⟩:=tl T (Sub.refl _);simp[h8,h4,h5,h6,h7,h9,cM,e4,e5,e7,b9,fc,lM,lL,nt,fe,u1,u2,dM,bm,dB,dC,fE,aK,l1,gs,zg,k2,kgd,kge,z1,z1a,z1b,z1c]
        first
         |exact⟨l2,⟨fun h=>(by cases h),fy,fq⟩⟩
         |exact⟨l2,_,_,⟨rfl,rfl⟩,⟨fun h=>(by cases h),fy,fq⟩⟩
       by_cases z2:x.o.to=0
       case neg=>
        have z2a:¬0=x.o.to:=fun h=>z2 h.symm;obtain⟨T',l1,l2⟩:=tl T (Sub.refl _);simp[h8,h4,h5,h6,h7,h9,cM,e4,e5,e7,b9,fc,lM,lL,nt,fe,u1,u2,dM,bm,dB,dC,fE,aK,l1,gs,zg,k2,kgd,kge,z1,z2,z2a]
        first
         |exact⟨l2,⟨fun h=>(by cases h),fy,fq⟩⟩
         |exact⟨l2,_,_,⟨rfl,rfl⟩,⟨fun h=>(by cases h),fy,fq⟩⟩
       by_cases z3:x.o.bytes=[]
       case neg=>
        have z3a:¬x.o.bytes.length=0:=fun h=>z3 (List.length_eq_zero_iff.1 h);have z3b:¬((x.o.bytes.length:Int)=0):=by omega
        obtain⟨T',l1,l2⟩:=tl T (Sub.refl _);simp[h8,h4,h5,h6,h7,h9,cM,e4,e5,e7,b9,fc,lM,lL,nt,fe,u1,u2,dM,bm,dB,dC,fE,aK,l1,gs,zg,k2,kgd,kge,z1,z2,z3,z3a,z3b]
        first
         |exact⟨l2,⟨fun h=>(by cases h),fy,fq⟩⟩
         |exact⟨l2,_,_,⟨rfl,rfl⟩,⟨fun h=>(by cases h),fy,fq⟩⟩
       by_cases z5:x.o.iN=0
       case neg=>
        have z5a:¬0=x.o.iN:=fun h=>z5 h.symm;have z5b:¬(((x.o.iN:Nat):Int)=0):=by omega
        have z5c:¬((0:Int)=((x.o.iN:Nat):Int)):=by omega
        obtain⟨T',l1,l2⟩:=tl T (Sub.refl _);simp[h8,h4,h5,h6,h7,h9,cM,e4,e5,e7,b9,fc,lM,lL,nt,fe,u1,u2,dM,bm,dB,dC,fE,aK,l1,gs,zg,k2,kgd,kge,z1,z2,z3,z5,z5a,z5b,z5c]
        first
         |exact⟨l2,⟨fun h=>(by cases h),fy,fq⟩⟩
         |exact⟨l2,_,_,⟨rfl,rfl⟩,⟨fun h=>(by cases h),fy,fq⟩⟩
       by_cases z6:x.o.iT=0
       case neg=>
        have z6a:¬0=x.o.iT:=fun h=>z6 h.symm;have z6b:¬(((x.o.iT:Nat):Int)=0):=by omega
        have z6c:¬((0:Int)=((x.o.iT:Nat):Int)):=by omega
        obtain⟨T',l1,l2⟩:=tl T (Sub.refl _);simp[h8,h4,h5,h6,h7,h9,cM,e4,e5,e7,b9,fc,lM,lL,nt,fe,u1,u2,dM,bm,dB,dC,fE,aK,l1,gs,zg,k2,kgd,kge,z1,z2,z3,z5,z6,z6a,z6b,z6c]
        first
         |exact⟨l2,⟨fun h=>(by cases h),fy,fq⟩⟩
         |exact⟨l2,_,_,⟨rfl,rfl⟩,⟨fun h=>(by cases h),fy,fq⟩⟩
       by_cases z7:x.o.key=[]
       case neg=>
        have z7a:¬[]=x.o.key:=fun h=>z7 h.symm;obtain⟨T',l1,l2⟩:=tl T1 t1;simp[h8,h4,h5,h6,h7,h9,cM,e4,e5,e7,b9,fc,lM,lL,nt,fe,u1,u2,dM,bm,dB,dC,fE,aK,l1,gs,zg,k2,kgd,kge,z1,z2,z3,z5,z6,m1,z7,z7a]
        first
         |exact⟨l2,⟨fun h=>(by cases h),fy,fq⟩⟩
         |exact⟨l2,_,_,⟨rfl,rfl⟩,⟨fun h=>(by cases h),fy,fq⟩⟩
       rw[z7]at m1;by_cases z8:x.o.aR=[]
       case neg=>
        have z8a:¬[]=x.o.aR:=fun h=>z8 h.symm;obtain⟨T',l1,l2⟩:=tl T1 t1;simp[h8,h4,h5,h6,h7,h9,cM,e4,e5,e7,b9,fc,lM,lL,nt,fe,u1,u2,dM,bm,dB,dC,fE,aK,l1,gs,zg,k2,kgd,kge,z1,z2,z3,z5,z6,m1,z7,z8,z8a]
        first
         |exact⟨l2,⟨fun h=>(by cases h),fy,fq⟩⟩
         |exact⟨l2,_,_,⟨rfl,rfl⟩,⟨fun h=>(by cases h),fy,fq⟩⟩
       obtain⟨T',l1,l2⟩:=tl T1 t1;simp[h8,h4,h5,h6,h7,h9,cM,e4,e5,e7,b9,fc,lM,lL,nt,fe,u1,u2,dM,bm,dB,dC,fE,aK,l1,gs,zg,k2,kgd,kge,z1,z2,z3,z5,z6,m1,z7,z8]
       first
        |exact⟨l2,⟨fun h=>(by cases h),fy,fq⟩⟩
        |exact⟨l2,_,_,⟨rfl,rfl⟩,⟨fun h=>(by cases h),fy,fq⟩⟩
      have kgp:0<x.o.gF:=by omega
      have kgi:(0:Int)<(x.o.gF:Nat):=by omega
      by_cases z1:x.o.n=0
      case neg=>
       have z1a:¬0=x.o.n:=fun h=>z1 h.symm;have z1b:¬(((x.o.n:Nat):Int)=0):=by omega
       have z1c:¬((0:Int)=((x.o.n:Nat):Int)):=by omega
       obtain⟨T',l1,l2⟩:=tl T (Sub.refl _);simp[h8,h4,h5,h6,h7,h9,cM,e4,e5,e7,b9,fc,lM,lL,nt,fe,u1,u2,dM,bm,dB,dC,fE,aK,l1,gs,zg,k2,kgp,kgi,z1,z1a,z1b,z1c]
       first
        |exact⟨l2,⟨fun h=>(by cases h),fy,fq⟩⟩
        |exact⟨l2,_,_,⟨rfl,rfl⟩,⟨fun h=>(by cases h),fy,fq⟩⟩
      by_cases z2:x.o.to=0
      case neg=>
       have z2a:¬0=x.o.to:=fun h=>z2 h.symm;obtain⟨T',l1,l2⟩:=tl T (Sub.refl _);simp[h8,h4,h5,h6,h7,h9,cM,e4,e5,e7,b9,fc,lM,lL,nt,fe,u1,u2,dM,bm,dB,dC,fE,aK,l1,gs,zg,k2,kgp,kgi,z1,z2,z2a]
       first
        |exact⟨l2,⟨fun h=>(by cases h),fy,fq⟩⟩
        |exact⟨l2,_,_,⟨rfl,rfl⟩,⟨fun h=>(by cases h),fy,fq⟩⟩
      by_cases z3:x.o.bytes=[]
      case neg=>
       have z3a:¬x.o.bytes.length=0:=fun h=>z3 (List.length_eq_zero_iff.1 h);have z3b:¬((x.o.bytes.length:Int)=0):=by omega
       obtain⟨T',l1,l2⟩:=tl T (Sub.refl _);simp[h8,h4,h5,h6,h7,h9,cM,e4,e5,e7,b9,fc,lM,lL,nt,fe,u1,u2,dM,bm,dB,dC,fE,aK,l1,gs,zg,k2,kgp,kgi,z1,z2,z3,z3a,z3b]
       first
        |exact⟨l2,⟨fun h=>(by cases h),fy,fq⟩⟩
        |exact⟨l2,_,_,⟨rfl,rfl⟩,⟨fun h=>(by cases h),fy,fq⟩⟩
      by_cases z5:x.o.iN=0
      case neg=>
       have z5a:¬0=x.o.iN:=fun h=>z5 h.symm;have z5b:¬(((x.o.iN:Nat):Int)=0):=by omega
       have z5c:¬((0:Int)=((x.o.iN:Nat):Int)):=by omega
       obtain⟨T',l1,l2⟩:=tl T (Sub.refl _);simp[h8,h4,h5,h6,h7,h9,cM,e4,e5,e7,b9,fc,lM,lL,nt,fe,u1,u2,dM,bm,dB,dC,fE,aK,l1,gs,zg,k2,kgp,kgi,z1,z2,z3,z5,z5a,z5b,z5c]
       first
        |exact⟨l2,⟨fun h=>(by cases h),fy,fq⟩⟩
        |exact⟨l2,_,_,⟨rfl,rfl⟩,⟨fun h=>(by cases h),fy,fq⟩⟩
      by_cases z6:x.o.iT=0
      case neg=>
       have z6a:¬0=x.o.iT:=fun h=>z6 h.symm;have z6b:¬(((x.o.iT:Nat):Int)=0):=by omega
       have z6c:¬((0:Int)=((x.o.iT:Nat):Int)):=by omega
       obtain⟨T',l1,l2⟩:=tl T (Sub.refl _);simp[h8,h4,h5,h6,h7,h9,cM,e4,e5,e7,b9,fc,lM,lL,nt,fe,u1,u2,dM,bm,dB,dC,fE,aK,l1,gs,zg,k2,kgp,kgi,z1,z2,z3,z5,z6,z6a,z6b,z6c]
       first
        |exact⟨l2,⟨fun h=>(by cases h),fy,fq⟩⟩
        |exact⟨l2,_,_,⟨rfl,rfl⟩,⟨fun h=>(by cases h),fy,fq⟩⟩
      by_cases z7:x.o.key=[]
      case neg=>
       have z7a:¬[]=x.o.key:=fun h=>z7 h.symm;obtain⟨T',l1,l2⟩:=tl T1 t1;simp[h8,h4,h5,h6,h7,h9,cM,e4,e5,e7,b9,fc,lM,lL,nt,fe,u1,u2,dM,bm,dB,dC,fE,aK,l1,gs,zg,k2,kgp,kgi,z1,z2,z3,z5,z6,m1,z7,z7a]
       first
        |exact⟨l2,⟨fun h=>(by cases h),fy,fq⟩⟩
        |exact⟨l2,_,_,⟨rfl,rfl⟩,⟨fun h=>(by cases h),fy,fq⟩⟩
      rw[z7]at m1;by_cases z8:x.o.aR=[]
      case neg=>
       have z8a:¬[]=x.o.aR:=fun h=>z8 h.symm;obtain⟨T',l1,l2⟩:=tl T1 t1;simp[h8,h4,h5,h6,h7,h9,cM,e4,e5,e7,b9,fc,lM,lL,nt,fe,u1,u2,dM,bm,dB,dC,fE,aK,l1,gs,zg,k2,kgp,kgi,z1,z2,z3,z5,z6,m1,z7,z8,z8a]
       first
        |exact⟨l2,⟨fun h=>(by cases h),fy,fq⟩⟩
        |exact⟨l2,_,_,⟨rfl,rfl⟩,⟨fun h=>(by cases h),fy,fq⟩⟩
      obtain⟨T',l1,l2⟩:=tl T1 t1;simp[h8,h4,h5,h6,h7,h9,cM,e4,e5,e7,b9,fc,lM,lL,nt,fe,u1,u2,dM,bm,dB,dC,fE,aK,l1,gs,zg,k2,kgp,kgi,z1,z2,z3,z5,z6,m1,z7,z8]
      first
       |exact⟨l2,⟨fun _=>⟨⟨.inr k2,fun _=>z1,fun h=>absurd (k2.symm.trans h) (by decide),z2,z3,fun h _=>absurd (k2.symm.trans h) (by decide),fun _=>⟨z5,z6,z7,z8⟩,fun _ h=>absurd (EZ rfl) h⟩,tj⟩,fy,fq⟩⟩
       |exact⟨l2,_,_,⟨rfl,rfl⟩,⟨fun _=>⟨⟨.inr k2,fun _=>z1,fun h=>absurd (k2.symm.trans h) (by decide),z2,z3,fun h _=>absurd (k2.symm.trans h) (by decide),fun _=>⟨z5,z6,z7,z8⟩,fun _ h=>absurd (EZ rfl) h⟩,tj⟩,fy,fq⟩⟩
  |false=>
   simp[o6,o7,o8,EX,Dv,rK,q1,q2,q3,q4,p3,p4,p7,zD,nz,zC,bT7,c1,aK,fc2,bV2,dB,dC,bvk,bvb,bm,dM,iv,bvc];refine aJ (O2F S x [.int .i64 2,.int .i64 x.o.fh,.int .i64 x.o.sub,.int .i64 0,.int .u64 0,.int .u64 x.o.iN,.int .u64 x.o.iT,.str x.o.key,x.av,.int .u64 0,.int .u64 0,.ar] [[62],aU x.o.au] false) ?_ ?_
   .refine bg [.p,.r 0 0,.p,.r 0 1,.p,.e [],.p,.p,.e []] (n:=205) (by kernel_rfl) (by simp[o9]) ?_;simp[o6,o7,o8,EX,Dv,rK,q1,q2,q3,q4,p3,p4,p7,zD,nz,zC,bT7,c1,aK,fc2,bV2,dB,dC,bvk,bvb,bm,dM,iv,bvc];refine⟨avm,?_⟩;exact⟨_,O0.put rfl (fun id e=>by simp[o5,ah _ _ e,e]) (by rw[<-o5];exact get_set_same _ _ _),by simp,by simp[o6],by simp[o7],by simp[o8],by simp,by simp[o5],by simp[o9]⟩
   .rintro G W0 ⟨v,O,h8,h1,h4,h5,h6,h7,h9⟩;obtain⟨_,W1,⟨rfl,iA⟩,d1⟩:=(gk (S:=W0) r.sub.1 r.sub.2).ex;have jf:=iA;obtain⟨_,W2,⟨rfl,vL⟩,d2⟩:=(gk (S:=W1) r.fh.1 r.fh.2).ex;have qv:=jf.trans vL;obtain⟨_,W3,⟨rfl,AX⟩,d3⟩:=(ka (S:=W2) r.iN).ex;have hW3:=qv.trans AX;obtain⟨_,W4,⟨rfl,hV4⟩,d4⟩:=(ka (S:=W3) r.iT).ex;have hW4:=hW3.trans hV4;obtain⟨_,W5,⟨rfl,hV5⟩,d5⟩:=(said95 (key:=x.o.key) (hx.aR.sub (O.sub.trans hW4)) r.ev.1).ex;have hW5:=hW4.trans hV5;obtain⟨v2,W,a1,a2,a3,a4,a5⟩:=kA (us:=[[105,116,101,109],aU x.o.sub,aU x.o.fh,bP x.o.iN,bP x.o.iT,(cH x.o.key x.o.aR).getD []]) (n:=5) (O.to hW5).gw (by simp) rfl;have OO:=(O.to hW5).app a2 a3 a4 a5;have xC:=O.b4;have xv:=O.b5;simp only[aE.u,aE.d]at xC xv;have xB:=(O.to jf).b4;have xr:=(O.to jf).b5;simp only[aE.u,aE.d]at xB xr;have xz:=(O.to qv).b4;have xq:=(O.to qv).b5;simp only[aE.u,aE.d]at xz xq;have e4_3:=(O.to hW3).b4;have e5_3:=(O.to hW3).b5;simp only[aE.u,aE.d]at e4_3 e5_3;have e4_4:=(O.to hW4).b4;have e5_4:=(O.to hW4).b5;simp only[aE.u,aE.d]at e4_4 e5_4;have e4_5:=(O.to hW5).b4;have e5_5:=(O.to hW5).b5;simp only[aE.u,aE.d]at e4_5 e5_5;have a1:=a1;simp only[dE,zzu,List.map_nil]at a1;simp[h1,h4,h5,h6,h7,h8,xC,xv,xB,xr,xz,xq,e4_3,e5_3,e4_4,e5_4,e4_5,e5_5,d1,d2,d3,d4,d5,aK,fc6,a1,aj O.gw.1,aj a2.1,bm,dM,dB,dC,bvk,bvb,iv,bvc];refine aJ (O2F S x [.int .i64 2,.int .i64 x.o.fh,.int .i64 x.o.sub,.int .i64 0,.int .u64 0,.int .u64 x.o.iN,.int .u64 x.o.iT,.str x.o.key,x.av,.int .u64 0,.int .u64 0,.ar] ([[62],aU x.o.au]++[[105,116,101,109],aU x.o.sub,aU x.o.fh,bP x.o.iN,bP x.o.iT,(cH x.o.key x.o.aR).getD []]) false) ?_ ?_
    .refine bg [.p,.p,.r 0 0,.e [],.p,.r 1 0,.e [],.p,.p,.r 2 0,.e [],.p,.p,.r 3 0,.e [],.p,.p,.r 4 0,.e [],.e [],.e [],.p] (n:=205) (by kernel_rfl) (by simp[h9]) ?_;simp[h1,h4,h5,h6,h7,h8,xC,xv,xB,xr,xz,xq,e4_3,e5_3,e4_4,e5_4,e4_5,e5_5,d1,d2,d3,d4,d5,aK,fc6,a1,aj O.gw.1,aj a2.1,bm,dM,dB,dC,bvk,bvb,iv,bvc];refine⟨avm,?_⟩;exact⟨v2,OO,by simp,by simp[h1],by simp[h4],by simp[h5],by simp[h6],by simp[h7],by simp[h9]⟩
    .rintro G W0 ⟨v,O,h8,h1,h4,h5,h6,h7,h9⟩;have e4:=O.b4;have e7:=O.b7;simp only[aE.u]at e4;have cR:=O.lt;simp[h1,h4,h5,h6,h7,h8,e4,e7];refine aJ (O3F S x [.int .i64 2,.int .i64 x.o.fh,.int .i64 x.o.sub,.int .i64 0,.int .u64 0,.int .u64 x.o.iN,.int .u64 x.o.iT,.str x.o.key,x.av,.int .u64 0,.int .u64 0,.ar] [.int .u64 x.o.iN,.int .u64 x.o.iT,.str x.o.key,x.av,.int .u64 0,.int .u64 0] ([[62],aU x.o.au]++[[105,116,101,109],aU x.o.sub,aU x.o.fh,bP x.o.iN,bP x.o.iT,(cH x.o.key x.o.aR).getD []]) false) ?_ ?_
     .refine bg [.p,.r 0 0,.p,.r 0 1,.f,.f,.e [4,5],.e [4,5]] (n:=205) (by kernel_rfl) (by simp[h9]) ?_;have w1:¬S.nx+1=W0.nx:=by omega
      have w2:¬S.nx+1=W0.nx+1:=by omega
      have w3:¬S.nx+3=W0.nx:=by omega
      have w4:¬S.nx+3=W0.nx+1:=by omega
      have w5:¬S.nx=W0.nx:=by omega
      have w6:¬S.nx+2=W0.nx:=by omega
      simp[h1,h4,h5,h6,h7,h8,e4,e7,w1,w2,w3,w4,w5,w6,dB,dC,bvk,bvb,bm,dM,iv,bvc];refine⟨avm,?_⟩;refine⟨v,W0.nx,O.to ⟨fun id cw=>?_,?_⟩,?_,?_,?_,by omega,by simp[h8],by simp[h4],by simp[h5],by simp[h6],by simp[h7],by simp,by simp,by simp[h9]⟩
      .show (Am.T.set _ _ _).get _=_;rw[ah _ _ (by omega),ah _ _ (by omega),ah _ _ (by omega),ah _ _ (by omega)]
      .show W0.nx<=W0.nx+2;omega
      .show (Am.T.set _ _ _).get _=_;rw[ah _ _ (by omega),get_set_same]
      .exact get_set_same _ _ _
      .exact zzq _
     .rintro G T ⟨v,B,O,b9,b10,hB,hB2,h8,h4,h5,h6,h7,h9,cM,hn⟩;have e4:=O.b4;have e5:=O.b5;have e7:=O.b7;have fc:=b10;have fE:=aj O.gw.1;have u1:=hx.bytes.sl;have u2:=hx.bytes.gx;rw[bM]at u2;obtain⟨_,T1,⟨rfl,t1⟩,m1⟩:=(mw (a:=x.o.key) (b:=x.o.key) (l:=x.o.aR) (hx.aR.sub O.sub) (hx.aR.sub O.sub)).ex;have lM:=(O.to t1).b4;have lL:=(O.to t1).b5;have nt:=(t1.h _ (by omega)).trans b9;have fe:=(t1.h _ (by omega)).trans b10;simp only[aE.u,aE.d]at e4 e5 fc lM lL fe;have gs:=fun c=>DV c x.o.gF x.o.gT x.o.gF x.o.gT;simp at gs;have wlit:Tok.dK (.lit sU):=⟨by decide,by decide⟩
      have tb1:Tok.dK (.num x.o.au):=r.au;have tb2:Tok.dK (.num x.o.fh):=r.fh;have tb3:Tok.dK (.num x.o.sub):=r.sub;have tb4:Tok.dK (.nat x.o.n):=r.n;have tb5:Tok.dK (.nat x.o.gF):=r.gF;have tb6:Tok.dK (.nat x.o.gT):=r.gT;have tb7:Tok.dK (.nat x.o.iN):=r.iN;have tb8:Tok.dK (.nat x.o.iT):=r.iT;have tb9:Tok.dK (.said x.o.key x.o.aR):=r.ev;have qy:∀t,t∈([.num x.o.au,.lit sU,.num x.o.sub,.num x.o.fh,.nat x.o.iN,.nat x.o.iT,.said x.o.key x.o.aR]:List Tok)->t.dK:=fun t ht=>by
       simp only[zzn,zzh,or_false]at ht;rcases ht with rfl|rfl|rfl|rfl|rfl|rfl|rfl<;>assumption
      obtain⟨Ai,oa⟩:=iY (l:=[.num x.o.au,.lit sU,.num x.o.sub,.num x.o.fh,.nat x.o.iN,.nat x.o.iT,.said x.o.key x.o.aR]) qy (by simp);obtain⟨s,hs⟩:∃s,s=[62]++cg (([.num x.o.au,.lit sU,.num x.o.sub,.num x.o.fh,.nat x.o.iN,.nat x.o.iT,.said x.o.key x.o.aR]:List Tok).map Tok.text)++[10]:=⟨_,rfl⟩
      have tl:∀W,Sub T W->∃T',(∀Q,az C0 55 [v] W Q=Q (.str s) T')/\Sub S T':=fun W hW=>by
       have hv:Sl W v 1 (dE ([62]::([.num x.o.au,.lit sU,.num x.o.sub,.num x.o.fh,.nat x.o.iN,.nat x.o.iT,.said x.o.key x.o.aR]:List Tok).map Tok.text)):=by
        have:=(O.gw.1).toSub hW;exact this
       obtain⟨_,T',⟨rfl,lA⟩,e⟩:=(si hv (fun t ht=>by
        rcases List.mem_cons.1 ht with rfl|ht
        .decide
        .exact oa t ht) (by simp only[zzf,zzd,zzc];omega)).ex
       exact⟨T',fun Q=>by rw[e Q,hs],(O.sub.trans hW).trans lA⟩
      have hng:¬x.o.gap:=fun h=>h (hgf rfl);have hw:x.o.iX=sU:=by unfold iB.iX;rw[if_neg (by rw[k2];decide),if_neg hng]
      have hr:x.o.rest=[.num x.o.sub,.num x.o.fh,.nat x.o.iN,.nat x.o.iT,.said x.o.key x.o.aR]:=by unfold iB.rest;rw[if_neg (by rw[k2];decide),if_neg hng]
      have tj:s=x.o.line:=by rw[hs,iB.line,hw,hr];simp[ea,cg]
      have zg:∀c,bI C0 .eql 100 c (.agg [.int .u64 0,.int .u64 0]) (.agg [.int .u64 x.o.gF,.int .u64 x.o.gT])=some (.bool true):=fun c=>by
       have:=DV c 0 0 x.o.gF x.o.gT;rw[(hgf rfl).1,(hgf rfl).2]at this⊢;simpa using this
      have sl3:=pX (l:=([.num x.o.au,.lit sU,.num x.o.sub,.num x.o.fh,.nat x.o.iN,.nat x.o.iT,.said x.o.key x.o.aR]:List Tok).map Tok.text) (k:=4300000) fun t ht=>by
       obtain⟨y,hy,rfl⟩:=List.mem_map.1 ht;exact (kQ (qy y hy)).1
      have fy:s.length<=50000000:=by
       rw[hs,zza,zza,eU];simp only[zzf,zzd,zzc]at sl3⊢;omega
      have fq:∀c,c∈s->c<256:=fun c hc=>by
       rw[hs]at hc;rcases List.mem_append.1 hc with h|h
       .rcases List.mem_append.1 h with h|h
        .simp at h;omega
        .unfold cg at h;obtain⟨t,ht,h⟩:=List.mem_flatMap.1 h;rcases List.mem_cons.1 h with h|h
         .omega
         .exact oa t ht c h
       .simp at h;omega
      clear hs Ai oa;obtain⟨_,T2,⟨rfl,t2⟩,m2⟩:=(pg (key:=x.o.key) (hx.aR.sub O.sub)).ex;obtain⟨_,T3,⟨rfl,t3⟩,m3⟩:=(pg (key:=x.o.key) (hx.aR.sub (O.sub.trans t1))).ex;simp at m1;by_cases ki:x.o.iN=0
      case pos=>
       by_cases z1:x.o.n=0
       case neg=>
        have z1a:¬0=x.o.n:=fun h=>z1 h.symm;have z1b:¬(((x.o.n:Nat):Int)=0):=by omega
        have z1c:¬((0:Int)=((x.o.n:Nat):Int)):=by omega
        obtain⟨T',l1,l2⟩:=tl T (Sub.refl _);simp[h8,h4,h5,h6,h7,h9,cM,e4,e5,e7,b9,fc,lM,lL,nt,fe,u1,u2,dM,bm,dB,dC,fE,aK,l1,gs,zg,k2,ki,z1,z1a,z1b,z1c]
        first
         |exact⟨l2,⟨fun h=>(by cases h),fy,fq⟩⟩
         |exact⟨l2,_,_,⟨rfl,rfl⟩,⟨fun h=>(by cases h),fy,fq⟩⟩
       by_cases z2:x.o.to=0
       case neg=>
        have z2a:¬0=x.o.to:=fun h=>z2 h.symm;obtain⟨T',l1,l2⟩:=tl T (Sub.refl _);simp[h8,h4,h5,h6,h7,h9,cM,e4,e5,e7,b9,fc,lM,lL,nt,fe,u1,u2,dM,bm,dB,dC,fE,aK,l1,gs,zg,k2,ki,z1,z2,z2a]
        first
         |exact⟨l2,⟨fun h=>(by cases h),fy,fq⟩⟩
         |exact⟨l2,_,_,⟨rfl,rfl⟩,⟨fun h=>(by cases h),fy,fq⟩⟩
       by_cases z3:x.o.bytes=[]
       case neg=>
        have z3a:¬x.o.bytes.length=0:=fun h=>z3 (List.length_eq_zero_iff.1 h);have z3b:¬((x.o.bytes.length:Int)=0):=by omega
        obtain⟨T',l1,l2⟩:=tl T (Sub.refl _);simp[h8,h4,h5,h6,h7,h9,cM,e4,e5,e7,b9,fc,lM,lL,nt,fe,u1,u2,dM,bm,dB,dC,fE,aK,l1,gs,zg,k2,ki,z1,z2,z3,z3a,z3b]
        first
         |exact⟨l2,⟨fun h=>(by cases h),fy,fq⟩⟩
         |exact⟨l2,_,_,⟨rfl,rfl⟩,⟨fun h=>(by cases h),fy,fq⟩⟩
       obtain⟨T',l1,l2⟩:=tl T1 t1;simp[h8,h4,h5,h6,h7,h9,cM,e4,e5,e7,b9,fc,lM,lL,nt,fe,u1,u2,dM,bm,dB,dC,fE,aK,l1,gs,zg,k2,ki,z1,z2,z3,m1]
       first
        |exact⟨l2,⟨fun h=>(by cases h),fy,fq⟩⟩
        |exact⟨l2,_,_,⟨rfl,rfl⟩,⟨fun h=>(by cases h),fy,fq⟩⟩
      have kip:0<x.o.iN:=by omega
      have kii:(0:Int)<(x.o.iN:Nat):=by omega
      cases hv:gl x.o.key x.o.aR with
      |false=>
       rw[hv]at m2 m3;by_cases z1:x.o.n=0
       case neg=>
        have z1a:¬0=x.o.n:=fun h=>z1 h.symm;have z1b:¬(((x.o.n:Nat):Int)=0):=by omega
        have z1c:¬((0:Int)=((x.o.n:Nat):Int)):=by omega
        obtain⟨T',l1,l2⟩:=tl T2 t2;simp[h8,h4,h5,h6,h7,h9,cM,e4,e5,e7,b9,fc,lM,lL,nt,fe,u1,u2,dM,bm,dB,dC,fE,aK,l1,gs,zg,k2,kip,kii,m2,m3,z1,z1a,z1b,z1c]
        first
         |exact⟨l2,⟨fun h=>(by cases h),fy,fq⟩⟩
         |exact⟨l2,_,_,⟨rfl,rfl⟩,⟨fun h=>(by cases h),fy,fq⟩⟩
       by_cases z2:x.o.to=0
       case neg=>
        have z2a:¬0=x.o.to:=fun h=>z2 h.symm;obtain⟨T',l1,l2⟩:=tl T2 t2;simp[h8,h4,h5,h6,h7,h9,cM,e4,e5,e7,b9,fc,lM,lL,nt,fe,u1,u2,dM,bm,dB,dC,fE,aK,l1,gs,zg,k2,kip,kii,m2,m3,z1,z2,z2a]
        first
         |exact⟨l2,⟨fun h=>(by cases h),fy,fq⟩⟩
         |exact⟨l2,_,_,⟨rfl,rfl⟩,⟨fun h=>(by cases h),fy,fq⟩⟩
       by_cases z3:x.o.bytes=[]
       case neg=>
        have z3a:¬x.o.bytes.length=0:=fun h=>z3 (List.length_eq_zero_iff.1 h);have z3b:¬((x.o.bytes.length:Int)=0):=by omega
        obtain⟨T',l1,l2⟩:=tl T2 t2;simp[h8,h4,h5,h6,h7,h9,cM,e4,e5,e7,b9,fc,lM,lL,nt,fe,u1,u2,dM,bm,dB,dC,fE,aK,l1,gs,zg,k2,kip,kii,m2,m3,z1,z2,z3,z3a,z3b]
        first
         |exact⟨l2,⟨fun h=>(by cases h),fy,fq⟩⟩
         |exact⟨l2,_,_,⟨rfl,rfl⟩,⟨fun h=>(by cases h),fy,fq⟩⟩
       obtain⟨T',l1,l2⟩:=tl T3 (t1.trans t3);simp[h8,h4,h5,h6,h7,h9,cM,e4,e5,e7,b9,fc,lM,lL,nt,fe,u1,u2,dM,bm,dB,dC,fE,aK,l1,gs,zg,k2,kip,kii,m2,m3,z1,z2,z3,m1]
       first
        |exact⟨l2,⟨fun h=>(by cases h),fy,fq⟩⟩
        |exact⟨l2,_,_,⟨rfl,rfl⟩,⟨fun h=>(by cases h),fy,fq⟩⟩
      |true=>
       rw[hv]at m2 m3;by_cases z1:x.o.n=0
       case neg=>
        have z1a:¬0=x.o.n:=fun h=>z1 h.symm;have z1b:¬(((x.o.n:Nat):Int)=0):=by omega
        have z1c:¬((0:Int)=((x.o.n:Nat):Int)):=by omega
        obtain⟨T',l1,l2⟩:=tl T2 t2;simp[h8,h4,h5,h6,h7,h9,cM,e4,e5,e7,b9,fc,lM,lL,nt,fe,u1,u2,dM,bm,dB,dC,fE,aK,l1,gs,zg,k2,kip,kii,m2,m3,z1,z1a,z1b,z1c]
        first
         |exact⟨l2,⟨fun h=>(by cases h),fy,fq⟩⟩
         |exact⟨l2,_,_,⟨rfl,rfl⟩,⟨fun h=>(by cases h),fy,fq⟩⟩
       by_cases z2:x.o.to=0
       case neg=>
        have z2a:¬0=x.o.to:=fun h=>z2 h.symm;obtain⟨T',l1,l2⟩:=tl T2 t2;simp[h8,h4,h5,h6,h7,h9,cM,e4,e5,e7,b9,fc,lM,lL,nt,fe,u1,u2,dM,bm,dB,dC,fE,aK,l1,gs,zg,k2,kip,kii,m2,m3,z1,z2,z2a]
        first
         |exact⟨l2,⟨fun h=>(by cases h),fy,fq⟩⟩
         |exact⟨l2,_,_,⟨rfl,rfl⟩,⟨fun h=>(by cases h),fy,fq⟩⟩
       by_cases z3:x.o.bytes=[]
       case neg=>
        have z3a:¬x.o.bytes.length=0:=fun h=>z3 (List.length_eq_zero_iff.1 h);have z3b:¬((x.o.bytes.length:Int)=0):=by omega
        obtain⟨T',l1,l2⟩:=tl T2 t2;simp[h8,h4,h5,h6,h7,h9,cM,e4,e5,e7,b9,fc,lM,lL,nt,fe,u1,u2,dM,bm,dB,dC,fE,aK,l1,gs,zg,k2,kip,kii,m2,m3,z1,z2,z3,z3a,z3b]
        first
         |exact⟨l2,⟨fun h=>(by cases h),fy,fq⟩⟩
         |exact⟨l2,_,_,⟨rfl,rfl⟩,⟨fun h=>(by cases h),fy,fq⟩⟩
       obtain⟨T',l1,l2⟩:=tl T3 (t1.trans t3);simp[h8,h4,h5,h6,h7,h9,cM,e4,e5,e7,b9,fc,lM,lL,nt,fe,u1,u2,dM,bm,dB,dC,fE,aK,l1,gs,zg,k2,kip,kii,m2,m3,z1,z2,z3,m1]
       first
        |exact⟨l2,⟨fun _=>⟨⟨.inr k2,fun _=>z1,fun h=>absurd (k2.symm.trans h) (by decide),z2,z3,fun h _=>absurd (k2.symm.trans h) (by decide),fun h=>(by rcases h with h|h;exact absurd (k2.symm.trans h) (by decide);exact absurd h hng),fun _ _=>hv⟩,tj⟩,fy,fq⟩⟩
        |exact⟨l2,_,_,⟨rfl,rfl⟩,⟨fun _=>⟨⟨.inr k2,fun _=>z1,fun h=>absurd (k2.symm.trans h) (by decide),z2,z3,fun h _=>absurd (k2.symm.trans h) (by decide),fun h=>(by rcases h with h|h;exact absurd (k2.symm.trans h) (by decide);exact absurd h hng),fun _ _=>hv⟩,tj⟩,fy,fq⟩⟩
 simp[o6,o7,o8,EX,Dv,rK,q1,q2,q3,q4,p3,p4,p7,zD,nz,zC,bT7,c1,aK,fc2,bV2,dB,dC,bvk,bvb,bm,dM,iv,bvc,k1,k2];exact⟨O0.sub,fun h=>(by cases h),by simp,fun c hc=>(by cases hc)⟩
end
open Go.Proofs.YthklfandhmkpiaaGreatDoor.val (cN ff fJ)
theorem zn35:Tryz.f35.ntmps=54:=by kernel_rfl
theorem ft2{F:Fr}{id:Nat}{a:Tmp}{w:ByteArray}{t1 t2:List Nat}(h1:sl F a=.str t1)(h2:eval F (.const (.string w))=.str t2):aO C0 F id (.buildSlice 86 2 #[(0,.tmp a),(1,.const (.string w))])=some (.slice id 0 0 2 2 1 (some 2),.row [.str t1,.str t2] 0 0 false 9):=by
 have:=bA (cx:=C0) (F:=F) (t:=86) (p:=(9,1,16)) (id:=id) (n:=2) (a:=#[(0,.tmp a),(1,.const (.string w))]) [[.str t1],[.str t2]] dh rfl (by simp[aA,h1,h2,cellsOf]) (by simp) (by decide);simpa using this
theorem ft3{F:Fr}{id:Nat}{a c:Tmp}{w:ByteArray}{t1 t2 t3:List Nat}(h1:sl F a=.str t1)(h2:eval F (.const (.string w))=.str t2)(h3:sl F c=.str t3):aO C0 F id (.buildSlice 86 3 #[(0,.tmp a),(1,.const (.string w)),(2,.tmp c)])=some (.slice id 0 0 3 3 1 (some 3),.row [.str t1,.str t2,.str t3] 0 0 false 9):=by
 have:=bA (cx:=C0) (F:=F) (t:=86) (p:=(9,1,16)) (id:=id) (n:=3) (a:=#[(0,.tmp a),(1,.const (.string w)),(2,.tmp c)]) [[.str t1],[.str t2],[.str t3]] dh rfl (by simp[aA,h1,h2,h3,cellsOf]) (by simp) (by decide);simpa using this
structure dY where
 kind:Int
 err:Int
 n:Nat
 l:List aE
 sv:AV
def dY.c(x:dY):List AV:=[.int .i64 x.kind,.int .i64 x.err,.int .u64 x.n,x.sv]
theorem dY.dm(x:dY):x.c.length=4:=rfl
def dY.row(x:dY):Row:=⟨x.kind,x.err,x.n,x.l.map aE.o⟩
structure jG(S:AS)(x:dY):Prop where
 sl:Sl S x.sv 13 (x.l.flatMap aE.c)
 at_:∀o,o∈x.l->jl S o
 kind:pq x.kind
 err:pq x.err
 n:x.n<18446744073709551616
 len:x.l.length<=1048576
theorem jG.sub{S T:AS}{x:dY}(h:jG S x)(k:Sub S T):jG T x:=⟨h.sl.toSub k,fun o ho=>(h.at_ o ho).sub k,h.kind,h.err,h.n,h.len⟩
theorem tW{S:AS}{x:aE}(hx:jl S x)(hm:x.o.nS):x.o.line.length<=50000000/\(∀c,c∈x.o.line->c<256):=by
 have r:=hx.dK;have tb1:Tok.dK (.num x.o.au):=r.au;have tb2:Tok.dK (.num x.o.fh):=r.fh;have tb3:Tok.dK (.num x.o.sub):=r.sub;have tb4:Tok.dK (.nat x.o.n):=r.n;have tb5:Tok.dK (.nat x.o.gF):=r.gF;have tb6:Tok.dK (.nat x.o.gT):=r.gT;have tb7:Tok.dK (.nat x.o.iN):=r.iN;have tb8:Tok.dK (.nat x.o.iT):=r.iT;have tb9:Tok.dK (.said x.o.key x.o.aR):=r.ev;have tw:Tok.dK (.lit x.o.iX):=by
  unfold iB.iX;split
  .exact⟨by decide,by decide⟩
  .split<;>exact⟨by decide,by decide⟩
 have tr:(∀t,t∈(Tok.num x.o.au::Tok.lit x.o.iX::x.o.rest)->t.dK)/\(Tok.num x.o.au::Tok.lit x.o.iX::x.o.rest).length<=7:=by
  unfold iB.rest;split
  .exact⟨by simp[tb1,tw,tb2,tb4],by simp⟩
  .split
   .exact⟨by simp[tb1,tw,tb2,tb3,tb5,tb6],by simp⟩
   .exact⟨by simp[tb1,tw,tb2,tb3,tb7,tb8,tb9],by simp⟩
 obtain⟨t1,t2⟩:=tr;obtain⟨_,fq⟩:=iY t1 (by omega);have sl3:=pX (l:=(Tok.num x.o.au::Tok.lit x.o.iX::x.o.rest).map Tok.text) (k:=4300000) fun t ht=>by
  obtain⟨y,hy,rfl⟩:=List.mem_map.1 ht;exact (kQ (t1 y hy)).1
 have e:x.o.line=[62]++cg ((Tok.num x.o.au::Tok.lit x.o.iX::x.o.rest).map Tok.text)++[10]:=by
  unfold iB.line;rw[mI];rfl
 have hb:=eU ((Tok.num x.o.au::Tok.lit x.o.iX::x.o.rest).map Tok.text);rw[zzf]at sl3 hb;have h7:(Tok.num x.o.au::Tok.lit x.o.iX::x.o.rest).length*4300000<=7*4300000:=zzr _ t2;rw[e];constructor
 .rw[zza,zza,hb];show 1+_+1<=_;omega
 .intro c hc;rcases List.mem_append.1 hc with h|h
  .rcases List.mem_append.1 h with h|h
   .simp at h;omega
   .unfold cg at h;obtain⟨t,ht,h⟩:=List.mem_flatMap.1 h;rcases List.mem_cons.1 h with h|h
    .omega
    .exact fq t ht c h
  .simp at h;omega
def RowP(r:Row)(s:List Nat)(b:Bool):Prop:=(b=true->r.nS/\s=r.text)/\s.length<=60000000000000/\∀c,c∈s->c<256
def rowH(S:AS)(x:dY)(b:Nat)(hd:List Nat)(k:Nat)(F':Fr)(S':AS):Prop:=
 ∃(i:Nat)(v:AV),cN S' b v (hd++(x.l.take i).flatMap fun o=>o.o.line)/\Sub S S'/\S'.h.get S.nx=some (.row x.c 0 0 false 111)/\S.nx+1<aV v/\(∀o,o∈x.l.take i->o.o.nS)/\sl F' 1=.ptr S.nx 0 0 4/\sl F' 5=.ptr b 0 0 2/\sl F' 33=x.sv/\sl F' 34=.int .i64 x.l.length/\sl F' 35=.int .i64 i/\i<=x.l.length/\F'.n=54/\k=x.l.length-i
section
variable{S:AS}
theorem Bw{v:AV}{cs:List AV}(h:Sl S v 1 cs)(hl:0<cs.length):aV v≠0:=fun e=>by
 have:=h.gx;rcases h.cases with rfl|⟨id,g,off,n,aM,cap,rfl⟩
 .simp[sLen]at this;omega
 .simp[aV]at e
set_option maxHeartbeats 4000000 in
theorem rowText35(hN:Names){x:dY}(hx:jG S x):az C0 35 [.agg x.c] S fun r T=>Sub S T/\∃s b,r=.tuple [.str s,.bool b]/\RowP x.row s b:=by
 have oks:=aj hx.sl;have scs:=hx.sl.cells;have u1:=hx.sl.sl;have u2:=hx.sl.bj aE.dm (by omega);have nm:=fun (S:AS) (Q:AV->AS->Prop)=>name51 hN x.kind (S:=S) (Q:=Q);obtain⟨nl,nb⟩:=sr x.kind;have hlen:=hx.len;obtain⟨S1,dZ⟩:∃S1:AS,S1=⟨S.h.set S.nx (.row x.c 0 0 false 111),S.nx+1⟩:=⟨_,rfl⟩
 have z1:Sub S S1:=by rw[dZ];exact dc
 have g1:S1.h.get S.nx=some (.row x.c 0 0 false 111):=by rw[dZ];exact get_set_same _ _ _
 have n1:S1.nx=S.nx+1:=by rw[dZ]
 have fR:=dZ.symm;clear dZ;obtain⟨S2,pO⟩:∃S2:AS,S2=⟨S1.h.set S1.nx (.row [.str (cd x.kind),.str [111,107]] 0 0 false 9),S1.nx+1⟩:=⟨_,rfl⟩
 have z2:Sub S1 S2:=by rw[pO];exact dc
 have gw2:Gw S2 (.slice S1.nx 0 0 2 2 1 (some 2)) 1 9 (dE [cd x.kind,[111,107]]):=by rw[pO];exact gw_row (us:=[cd x.kind,[111,107]]) rfl
 have n2:S2.nx=S1.nx+1:=by rw[pO]
 have bS2:=pO.symm;clear pO;have g2:=(z2.h _ (by omega)).trans g1;have kl:=g1;have g2c:=g2;simp only[dY.c]at fR kl g2c;refine ej (dL _) (dF _ rfl) zf35 rfl zo35 (by simp) fun F hn hs=>?_;rw[zn35]at hn;have s0:=hs 0;clear hs;simp only[zzo,zzs,dY.c]at s0;by_cases k1:x.err=0
 .rw[k1]at fR s0;have gwW:=gw2;have zW:=z1.trans z2;have gW:=g2;have hbnd:S.nx+1<aV (.slice S1.nx 0 0 2 2 1 (some 2)):=by simp only[aV];omega
  have hlit:Tok.dK (.lit wOk):=⟨by decide,by decide⟩
  have hnn:Tok.dK (.nat x.n):=hx.n;have hee:Tok.dK (.num x.err):=hx.err;have qy:∀t,t∈([.lit wOk,.nat x.n]:List Tok)->t.dK:=fun t ht=>by
   simp only[zzn,zzh,or_false]at ht;rcases ht with rfl|rfl|rfl<;>assumption
  obtain⟨Ai,oa⟩:=iY qy (by simp);have sl3:=pX (l:=([.lit wOk,.nat x.n]:List Tok).map Tok.text) (k:=4300000) fun t ht=>by
   obtain⟨y,hy,rfl⟩:=List.mem_map.1 ht;exact (kQ (qy y hy)).1
  have erest:([.lit wOk,.nat x.n]:List Tok).map Tok.text=[[111,107]]++[bP x.n]:=rfl;rw[erest]at Ai oa sl3;have lby:∀t,t∈cd x.kind::([[111,107]]++[bP x.n])->∀c,c∈t->c<256:=fun t ht=>by
   rcases List.mem_cons.1 ht with rfl|ht
   .exact nb
   .exact oa t ht
  have llen:(cd x.kind).length+hY ([[111,107]]++[bP x.n])+([[111,107]]++[bP x.n]).length<=10000000000000:=by
   simp only[zza,zzd,zzc];omega
  obtain⟨B0,ze⟩:∃B0:AS,B0=⟨S2.h.set S2.nx (.row [.cT,.ar] 0 0 false 136),S2.nx+1⟩:=⟨_,rfl⟩
  have zB:Sub S2 B0:=by rw[ze];exact dc
  have hb0:cN B0 S2.nx .ar []:=by rw[ze];exact⟨zzt _,⟨_,get_set_same _ _ _,.inl rfl⟩,Gw.nil,by simp[aV]⟩
  have nB:B0.nx=S2.nx+1:=by rw[ze]
  have bB0:=ze.symm;clear ze;obtain⟨_,V1,⟨rfl,iA⟩,c1⟩:=(ka (S:=B0) hx.n).ex;have hWV:=zB.trans iA;have gold:=gwW.1.old;have gwV:=gwW.cE (T:=V1) (fun id e=>hWV.h id (by omega)) hWV.nx;obtain⟨v2,V2,a1,a2,a3,a4,a5⟩:=xR (bP x.n) gwV (by simp);have nV1:=iA.nx;have gV2:V2.h.get S.nx=some (.row x.c 0 0 false 111):=(a3 _ (by omega) (by omega)).trans ((hWV.h _ (by omega)).trans gW);have hSV2:Sub S V2:=⟨fun id cw=>(a3 id (by omega) (by omega)).trans ((hWV.h id (by omega)).trans (zW.h id cw)),by have:=zW.nx;omega⟩
  have bV2:cN V2 S2.nx .ar []:=by
   obtain⟨p,hp,wM⟩:=hb0.at_;exact⟨by omega,⟨p,(a3 _ (by omega) (by omega)).trans ((iA.h _ (by omega)).trans hp),wM⟩,Gw.nil,by simp[aV]⟩
  obtain⟨_,V3,⟨rfl,AX⟩,c3⟩:=(si (u:=v2) (t0:=cd x.kind) (l:=[[111,107]]++[bP x.n]) (by simpa using a2.1) lby llen).ex;obtain⟨hd,hhd⟩:∃hd,hd=cd x.kind++cg ([[111,107]]++[bP x.n])++[10]:=⟨_,rfl⟩
  rw[<-hhd]at c3;have hdr:hd=x.row.head:=by rw[hhd];unfold Row.head Row.fu dY.row;simp[k1,ea,cg,wOk,Tok.text]
  have hdl:hd.length<=100000000:=by
   rw[hhd,zza,zza,eU];simp only[zza,zzd,zzc]at sl3⊢;omega
  have hdb:∀c,c∈hd->c<256:=fun c hc=>by
   rw[hhd]at hc;rcases List.mem_append.1 hc with h|h
   .rcases List.mem_append.1 h with h|h
    .exact nb c h
    .unfold cg at h;obtain⟨t,ht,h⟩:=List.mem_flatMap.1 h;rcases List.mem_cons.1 h with h|h
     .omega
     .exact lby t (zzj _ ht) c h
   .simp at h;omega
  have hdn:hd≠[]:=fun e=>by
   have:=congrArg List.length e;rw[hhd]at this;simp at this
  have bV3:cN V3 S2.nx .ar []:=by
   obtain⟨p,hp,wM⟩:=bV2.at_;have:=bV2.lt;exact⟨zzk this AX.nx,⟨p,(AX.h _ this).trans hp,wM⟩,Gw.nil,by simp[aV]⟩
  obtain⟨_,V4,⟨rfl,v4,b4,k4,n4,m4⟩,c4⟩:=(ff bV3 hd (by simp only[zzc];omega)).ex;have nV3:=AX.nx;have gV4:V4.h.get S.nx=some (.row x.c 0 0 false 111):=(k4 _ (by omega) (by omega) (by simp only[aV];omega)).trans ((AX.h _ (by omega)).trans gV2);have hSV4:Sub S V4:=⟨fun id cw=>(k4 id (by omega) (by omega) (by simp only[aV];omega)).trans ((AX.h id (by omega)).trans (hSV2.h id cw)),by have:=hSV2.nx;omega⟩
  have m4':S.nx+1<aV v4\/aV v4=0:=by
   rcases m4 with h|h
   .exact .inr (by simpa[aV]using h)
   .exact .inl (by have:=hWV.nx;have:=zB.nx;omega)
  have gWc:=gW;have gBc:=(zB.h _ (by omega)).trans gW;have g4c:=gV4;simp only[dY.c]at gWc gBc g4c;have hV1c:=(iA.h _ (by omega)).trans ((zB.h _ (by omega)).trans gW);simp only[dY.c]at hV1c;simp[s0,fR,kl,nm,aK,ft2,bS2,g2c,oks,scs,k1,bB0,gWc,gBc,hV1c,c1,aB dh,a1,c3,c4,aj gwW.1,aj a2.1,oks,scs,u1,u2,g4c];have mb4:S.nx+1<aV v4:=by
   rcases m4' with h|h
   .exact h
   .exfalso;exact Bw b4.gw.1 (by rw[List.nil_append,bM];exact List.length_pos_iff.2 hdn) h
  have sy:∀j,(∀o,o∈x.l.take j->o.o.nS)->(hd++(x.l.take j).flatMap fun o=>o.o.line).length<=59000000000000:=fun j hm=>by
   have h3:=kX (f:=fun o:aE=>o.o.line) (k:=50000000) (l:=x.l.take j) fun o ho=>(tW (hx.at_ o (List.mem_of_mem_take ho)) (hm o ho)).1;have h4:(x.l.take j).length<=1048576:=by rw[List.length_take];omega
   have h5:(x.l.take j).length*50000000<=1048576*50000000:=zzr _ h4;rw[zza];omega
  refine aW (rowH S x S2.nx hd) x.l.length ⟨0,v4,by simpa using b4,hSV4,gV4,mb4,by simp,by simp,by simp,by simp,by simp,by simp,by omega,by simp[hn],rfl⟩ ?_;rintro k F' S'-⟨i,v,hB,hS,hg,hv,hm,t1,t5,t33,t34,t35,hi,hn,hk⟩;have hgc:=hg;simp only[dY.c]at hgc;have hSn:=hS.nx;have hblt:=hB.lt;by_cases ck:i<x.l.length
  .obtain⟨o,ho⟩:∃o,x.l[i]?=some o:=⟨_,zzb ck⟩
   have hom:=zzi ho;have rJ:=hx.at_ o hom;have ld:=bh (cx:=C0) (e:=108) (hx.sl.toSub hS) aE.dm (by omega) ho zR zO;obtain⟨Z,hZ⟩:∃Z:AS,Z=⟨(S'.h.set S'.nx (.row [.int .i64 0,.int .i64 0,.int .i64 0,.int .i64 0,.int .i64 0,.int .u64 0,.int .u64 0,.int .u64 0,.str [],.ar,.int .u64 0,.int .u64 0,.ar] 0 0 false 108)).set S'.nx (.row o.c 0 0 false 108),S'.nx+1⟩:=⟨_,rfl⟩
   have z1:Sub S' Z:=by rw[hZ];exact Go.Proofs.YthklfandhmkpiaaGreatDoor.mod.eb
   have gz:Z.h.get S'.nx=some (.row o.c 0 0 false 108):=by rw[hZ];exact get_set_same _ _ _
   have bZ:=hZ.symm;clear hZ;obtain⟨_,T,⟨hT,s,b,rfl,hb⟩,e1⟩:=(yH (rJ.sub (hS.trans z1))).ex;have lA:=z1.trans hT;have hold:=hB.gw.1.old;have ox:=hB.self;have hBT:cN T S2.nx v (hd++(x.l.take i).flatMap fun o=>o.o.line):=by
    obtain⟨p,hp,wM⟩:=hB.at_;exact⟨zzk hblt lA.nx,⟨p,(lA.h _ hblt).trans hp,wM⟩,hB.gw.cE (fun id e=>lA.h id (by omega)) lA.nx,ox⟩
   have hfi:=sy i hm;obtain⟨_,W,⟨rfl,v2,b2,k2,n2,m2⟩,e2⟩:=(ff hBT s (by have:=hb.2.1;omega)).ex;have AY:=lA.nx;have hW:Sub S W:=⟨fun id cw=>(k2 id (by omega) (by omega) (by omega)).trans ((lA.h id (by omega)).trans (hS.h id cw)),by omega⟩
   have gW2:W.h.get S.nx=some (.row x.c 0 0 false 111):=(k2 _ (by omega) (by omega) (by omega)).trans ((lA.h _ (by omega)).trans hg);have w1:=IntWalk.i64_in ((i:Int)+1) (by omega);have x1:=aj rJ.aR.sl;have x2:=aj rJ.bytes;have x3:=rJ.aR.sl.ok;have x4:=rJ.aR.sl.base;have x5:=rJ.bytes.ok;have x6:=rJ.bytes.base;have kj:x.l.take (i+1)=x.l.take i++[o]:=by rw[zzl,ho];rfl
   simp only[aE.c]at ld bZ gz e1;cases b with
   |false=>
    simp[t1,t5,t33,t34,t35,ck,u1,u2,oks,ld,bZ,gz,e1,aK,x1,x2,x3,x4,x5,x6];exact⟨hS.trans lA,fun h=>(by cases h),by simp,fun c hc=>(by cases hc)⟩
   |true=>
    obtain⟨hmo,hso⟩:=hb.1 rfl;simp[t1,t5,t33,t34,t35,ck,u1,u2,oks,ld,bZ,gz,e1,e2,aK,w1,x1,x2,x3,x4,x5,x6];refine⟨x.l.length-(i+1),by omega,i+1,v2,?_,hW,gW2,by omega,?_,by simp[t1],by simp[t5],by simp[t33],by simp[t34],by simp,ck,by simp[hn],rfl⟩
    .rw[kj,List.flatMap_append];rw[hso]at b2;simpa using b2
    .intro y hy;rw[kj]at hy;rcases List.mem_append.1 hy with h|h
     .exact hm y h
     .rw[List.mem_singleton.1 h];exact hmo
  .obtain rfl:i=x.l.length:=by omega
   have hfi:=sy x.l.length hm;rw[List.take_length]at hB hm hfi;have jQ:∀c,c∈(hd++x.l.flatMap fun o=>o.o.line)->c<256:=fun c hc=>by
    rcases List.mem_append.1 hc with h|h
    .exact hdb c h
    .obtain⟨o,ho,h⟩:=List.mem_flatMap.1 h;exact (tW (hx.at_ o ho) (hm o ho)).2 c h
   have cl:(hd++x.l.flatMap fun o=>o.o.line)≠[]:=fun e=>hdn (List.append_eq_nil_iff.1 e).1;obtain⟨_,T,⟨rfl,k1',ER⟩,e2⟩:=(fJ hB jQ cl (by omega)).ex;have hT:Sub S T:=⟨fun id cw=>(k1' id (by omega)).trans (hS.h id cw),by omega⟩
   have gT:=(k1' S.nx (by omega)).trans hg;simp only[dY.c]at gT;have htx:(hd++x.l.flatMap fun o=>o.o.line)=x.row.text:=by
    unfold Row.text;rw[hdr];show _=x.row.head++(x.l.map aE.o).flatMap iB.line;rw[List.flatMap_map]
   have hms:∀o,o∈x.row.qF->o.nS:=fun o ho=>by
    obtain⟨y,hy,rfl⟩:=List.mem_map.1 (show o∈x.l.map aE.o from ho);exact hm y hy
   generalize (hd++x.l.flatMap fun o=>o.o.line)=tx at *;simp[t1,t5,t33,t34,t35];refine bg [.e [],.p,.r 1 0,.e [],.p,.p,.p] (n:=54) (by kernel_rfl) (by simp[hn]) ?_;by_cases kn:cd x.kind=[]
   .rw[kn]at nm;simp[t1,t5,e2,aK,gT,hgc,nm,aZ];exact⟨hT,fun h=>(by cases h),by omega,jQ⟩
   .simp[t1,t5,e2,aK,gT,hgc,nm,aZ,kn];exact⟨hT,fun _=>⟨⟨kn,hms⟩,htx⟩,by omega,jQ⟩
 .obtain⟨_,V0,⟨rfl,hV0⟩,c0⟩:=(gk (S:=S2) hx.err.1 hx.err.2).ex;obtain⟨W0,hW0⟩:∃W0:AS,W0=⟨V0.h.set V0.nx (.row [.str (cd x.kind),.str [101,114,114,111,114],.str (aU x.err)] 0 0 false 9),V0.nx+1⟩:=⟨_,rfl⟩
  have z3:Sub V0 W0:=by rw[hW0];exact dc
  have gwW:Gw W0 (.slice V0.nx 0 0 3 3 1 (some 3)) 1 9 (dE [cd x.kind,[101,114,114,111,114],aU x.err]):=by rw[hW0];exact gw_row (us:=[cd x.kind,[101,114,114,111,114],aU x.err]) rfl
  have bW0:=hW0.symm;have nW0:W0.nx=V0.nx+1:=by rw[hW0]
  clear hW0;have zW:=((z1.trans z2).trans hV0).trans z3;have nV0:=hV0.nx;have gW:=(z3.h _ (by omega)).trans ((hV0.h _ (by omega)).trans g2);have hbnd:S.nx+1<aV (.slice V0.nx 0 0 3 3 1 (some 3)):=by simp only[aV];omega
  simp[s0,fR,kl,nm,aK,ft2,bS2,g2c,oks,scs,k1];refine aJ (fun G T=>T=W0/\sl G 1=.ptr S.nx 0 0 4/\sl G 4=.slice V0.nx 0 0 3 3 1 (some 3)/\G.n=54) ?_ ?_
  .refine bg [.p,.r 0 0,.e [],.p,.r 1 0,.e [],.e [],.p] (n:=54) (by kernel_rfl) (by simp[hn]) ?_;simp[s0,fR,kl,nm,aK,ft2,bS2,g2c,oks,scs,k1,c0,ft3,bW0,hn]
  rintro G WB ⟨rfl,f1,f4,fn⟩;have hlit:Tok.dK (.lit jT):=⟨by decide,by decide⟩
  have hnn:Tok.dK (.nat x.n):=hx.n;have hee:Tok.dK (.num x.err):=hx.err;have qy:∀t,t∈([.lit jT,.num x.err,.nat x.n]:List Tok)->t.dK:=fun t ht=>by
   simp only[zzn,zzh,or_false]at ht;rcases ht with rfl|rfl|rfl|rfl|rfl<;>assumption
  obtain⟨Ai,oa⟩:=iY qy (by simp);have sl3:=pX (l:=([.lit jT,.num x.err,.nat x.n]:List Tok).map Tok.text) (k:=4300000) fun t ht=>by
   obtain⟨y,hy,rfl⟩:=List.mem_map.1 ht;exact (kQ (qy y hy)).1
  have erest:([.lit jT,.num x.err,.nat x.n]:List Tok).map Tok.text=[[101,114,114,111,114],aU x.err]++[bP x.n]:=rfl;rw[erest]at Ai oa sl3;have lby:∀t,t∈cd x.kind::([[101,114,114,111,114],aU x.err]++[bP x.n])->∀c,c∈t->c<256:=fun t ht=>by
   rcases List.mem_cons.1 ht with rfl|ht
   .exact nb
   .exact oa t ht
  have llen:(cd x.kind).length+hY ([[101,114,114,111,114],aU x.err]++[bP x.n])+([[101,114,114,111,114],aU x.err]++[bP x.n]).length<=10000000000000:=by
   simp only[zza,zzd,zzc];omega
  obtain⟨B0,ze⟩:∃B0:AS,B0=⟨WB.h.set WB.nx (.row [.cT,.ar] 0 0 false 136),WB.nx+1⟩:=⟨_,rfl⟩
  have zB:Sub WB B0:=by rw[ze];exact dc
  have hb0:cN B0 WB.nx .ar []:=by rw[ze];exact⟨zzt _,⟨_,get_set_same _ _ _,.inl rfl⟩,Gw.nil,by simp[aV]⟩
  have nB:B0.nx=WB.nx+1:=by rw[ze]
  have bB0:=ze.symm;clear ze;obtain⟨_,V1,⟨rfl,iA⟩,c1⟩:=(ka (S:=B0) hx.n).ex;have hWV:=zB.trans iA;have gold:=gwW.1.old;have gwV:=gwW.cE (T:=V1) (fun id e=>hWV.h id (by omega)) hWV.nx;obtain⟨v2,V2,a1,a2,a3,a4,a5⟩:=xR (bP x.n) gwV (by simp);have nV1:=iA.nx;have gV2:V2.h.get S.nx=some (.row x.c 0 0 false 111):=(a3 _ (by omega) (by omega)).trans ((hWV.h _ (by omega)).trans gW);have hSV2:Sub S V2:=⟨fun id cw=>(a3 id (by omega) (by omega)).trans ((hWV.h id (by omega)).trans (zW.h id cw)),by have:=zW.nx;omega⟩
  have bV2:cN V2 WB.nx .ar []:=by
   obtain⟨p,hp,wM⟩:=hb0.at_;exact⟨by omega,⟨p,(a3 _ (by omega) (by omega)).trans ((iA.h _ (by omega)).trans hp),wM⟩,Gw.nil,by simp[aV]⟩
  obtain⟨_,V3,⟨rfl,AX⟩,c3⟩:=(si (u:=v2) (t0:=cd x.kind) (l:=[[101,114,114,111,114],aU x.err]++[bP x.n]) (by simpa using a2.1) lby llen).ex;obtain⟨hd,hhd⟩:∃hd,hd=cd x.kind++cg ([[101,114,114,111,114],aU x.err]++[bP x.n])++[10]:=⟨_,rfl⟩
  rw[<-hhd]at c3;have hdr:hd=x.row.head:=by rw[hhd];unfold Row.head Row.fu dY.row;simp[k1,ea,cg,jT,Tok.text]
  have hdl:hd.length<=100000000:=by
   rw[hhd,zza,zza,eU];simp only[zza,zzd,zzc]at sl3⊢;omega
  have hdb:∀c,c∈hd->c<256:=fun c hc=>by
   rw[hhd]at hc;rcases List.mem_append.1 hc with h|h
   .rcases List.mem_append.1 h with h|h
    .exact nb c h
    .unfold cg at h;obtain⟨t,ht,h⟩:=List.mem_flatMap.1 h;rcases List.mem_cons.1 h with h|h
     .omega
     .exact lby t (zzj _ ht) c h
   .simp at h;omega
  have hdn:hd≠[]:=fun e=>by
   have:=congrArg List.length e;rw[hhd]at this;simp at this
  have bV3:cN V3 WB.nx .ar []:=by
   obtain⟨p,hp,wM⟩:=bV2.at_;have:=bV2.lt;exact⟨zzk this AX.nx,⟨p,(AX.h _ this).trans hp,wM⟩,Gw.nil,by simp[aV]⟩
  obtain⟨_,V4,⟨rfl,v4,b4,k4,n4,m4⟩,c4⟩:=(ff bV3 hd (by simp only[zzc];omega)).ex;have nV3:=AX.nx;have gV4:V4.h.get S.nx=some (.row x.c 0 0 false 111):=(k4 _ (by omega) (by omega) (by simp only[aV];omega)).trans ((AX.h _ (by omega)).trans gV2);have hSV4:Sub S V4:=⟨fun id cw=>(k4 id (by omega) (by omega) (by simp only[aV];omega)).trans ((AX.h id (by omega)).trans (hSV2.h id cw)),by have:=hSV2.nx;omega⟩
  have m4':S.nx+1<aV v4\/aV v4=0:=by
   rcases m4 with h|h
   .exact .inr (by simpa[aV]using h)
   .exact .inl (by have:=hWV.nx;have:=zB.nx;omega)
  have gWc:=gW;have gBc:=(zB.h _ (by omega)).trans gW;have g4c:=gV4;simp only[dY.c]at gWc gBc g4c;have hV1c:=(iA.h _ (by omega)).trans ((zB.h _ (by omega)).trans gW);simp only[dY.c]at hV1c;simp[f1,f4,aK,bB0,gWc,gBc,hV1c,c1,aB dh,a1,c3,c4,aj gwW.1,aj a2.1,oks,scs,u1,u2,g4c];have mb4:S.nx+1<aV v4:=by
   rcases m4' with h|h
   .exact h
   .exfalso;exact Bw b4.gw.1 (by rw[List.nil_append,bM];exact List.length_pos_iff.2 hdn) h
  have sy:∀j,(∀o,o∈x.l.take j->o.o.nS)->(hd++(x.l.take j).flatMap fun o=>o.o.line).length<=59000000000000:=fun j hm=>by
   have h3:=kX (f:=fun o:aE=>o.o.line) (k:=50000000) (l:=x.l.take j) fun o ho=>(tW (hx.at_ o (List.mem_of_mem_take ho)) (hm o ho)).1;have h4:(x.l.take j).length<=1048576:=by rw[List.length_take];omega
   have h5:(x.l.take j).length*50000000<=1048576*50000000:=zzr _ h4;rw[zza];omega
  refine aW (rowH S x WB.nx hd) x.l.length ⟨0,v4,by simpa using b4,hSV4,gV4,mb4,by simp,by simp[f1],by simp,by simp,by simp,by simp,by omega,by simp[fn],rfl⟩ ?_;rintro k F' S'-⟨i,v,hB,hS,hg,hv,hm,t1,t5,t33,t34,t35,hi,hn,hk⟩;have hgc:=hg;simp only[dY.c]at hgc;have hSn:=hS.nx;have hblt:=hB.lt;by_cases ck:i<x.l.length
  .obtain⟨o,ho⟩:∃o,x.l[i]?=some o:=⟨_,zzb ck⟩
   have hom:=zzi ho;have rJ:=hx.at_ o hom;have ld:=bh (cx:=C0) (e:=108) (hx.sl.toSub hS) aE.dm (by omega) ho zR zO;obtain⟨Z,hZ⟩:∃Z:AS,Z=⟨(S'.h.set S'.nx (.row [.int .i64 0,.int .i64 0,.int .i64 0,.int .i64 0,.int .i64 0,.int .u64 0,.int .u64 0,.int .u64 0,.str [],.ar,.int .u64 0,.int .u64 0,.ar] 0 0 false 108)).set S'.nx (.row o.c 0 0 false 108),S'.nx+1⟩:=⟨_,rfl⟩
   have z1:Sub S' Z:=by rw[hZ];exact Go.Proofs.YthklfandhmkpiaaGreatDoor.mod.eb
   have gz:Z.h.get S'.nx=some (.row o.c 0 0 false 108):=by rw[hZ];exact get_set_same _ _ _
   have bZ:=hZ.symm;clear hZ;obtain⟨_,T,⟨hT,s,b,rfl,hb⟩,e1⟩:=(yH (rJ.sub (hS.trans z1))).ex;have lA:=z1.trans hT;have hold:=hB.gw.1.old;have ox:=hB.self;have hBT:cN T WB.nx v (hd++(x.l.take i).flatMap fun o=>o.o.line):=by
    obtain⟨p,hp,wM⟩:=hB.at_;exact⟨zzk hblt lA.nx,⟨p,(lA.h _ hblt).trans hp,wM⟩,hB.gw.cE (fun id e=>lA.h id (by omega)) lA.nx,ox⟩
   have hfi:=sy i hm;obtain⟨_,W,⟨rfl,v2,b2,k2,n2,m2⟩,e2⟩:=(ff hBT s (by have:=hb.2.1;omega)).ex;have AY:=lA.nx;have hW:Sub S W:=⟨fun id cw=>(k2 id (by omega) (by omega) (by omega)).trans ((lA.h id (by omega)).trans (hS.h id cw)),by omega⟩
   have gW2:W.h.get S.nx=some (.row x.c 0 0 false 111):=(k2 _ (by omega) (by omega) (by omega)).trans ((lA.h _ (by omega)).trans hg);have w1:=IntWalk.i64_in ((i:Int)+1) (by omega);have x1:=aj rJ.aR.sl;have x2:=aj rJ.bytes;have x3:=rJ.aR.sl.ok;have x4:=rJ.aR.sl.base;have x5:=rJ.bytes.ok;have x6:=rJ.bytes.base;have kj:x.l.take (i+1)=x.l.take i++[o]:=by rw[zzl,ho];rfl
   simp only[aE.c]at ld bZ gz e1;cases b with
   |false=>
    simp[t1,t5,t33,t34,t35,ck,u1,u2,oks,ld,bZ,gz,e1,aK,x1,x2,x3,x4,x5,x6];exact⟨hS.trans lA,fun h=>(by cases h),by simp,fun c hc=>(by cases hc)⟩
   |true=>
    obtain⟨hmo,hso⟩:=hb.1 rfl;simp[t1,t5,t33,t34,t35,ck,u1,u2,oks,ld,bZ,gz,e1,e2,aK,w1,x1,x2,x3,x4,x5,x6];refine⟨x.l.length-(i+1),by omega,i+1,v2,?_,hW,gW2,by omega,?_,by simp[t1],by simp[t5],by simp[t33],by simp[t34],by simp,ck,by simp[hn],rfl⟩
    .rw[kj,List.flatMap_append];rw[hso]at b2;simpa using b2
    .intro y hy;rw[kj]at hy;rcases List.mem_append.1 hy with h|h
     .exact hm y h
     .rw[List.mem_singleton.1 h];exact hmo
  .obtain rfl:i=x.l.length:=by omega
   have hfi:=sy x.l.length hm;rw[List.take_length]at hB hm hfi;have jQ:∀c,c∈(hd++x.l.flatMap fun o=>o.o.line)->c<256:=fun c hc=>by
    rcases List.mem_append.1 hc with h|h
    .exact hdb c h
    .obtain⟨o,ho,h⟩:=List.mem_flatMap.1 h;exact (tW (hx.at_ o ho) (hm o ho)).2 c h
   have cl:(hd++x.l.flatMap fun o=>o.o.line)≠[]:=fun e=>hdn (List.append_eq_nil_iff.1 e).1;obtain⟨_,T,⟨rfl,k1',ER⟩,e2⟩:=(fJ hB jQ cl (by omega)).ex;have hT:Sub S T:=⟨fun id cw=>(k1' id (by omega)).trans (hS.h id cw),by omega⟩
   have gT:=(k1' S.nx (by omega)).trans hg;simp only[dY.c]at gT;have htx:(hd++x.l.flatMap fun o=>o.o.line)=x.row.text:=by
    unfold Row.text;rw[hdr];show _=x.row.head++(x.l.map aE.o).flatMap iB.line;rw[List.flatMap_map]
   have hms:∀o,o∈x.row.qF->o.nS:=fun o ho=>by
    obtain⟨y,hy,rfl⟩:=List.mem_map.1 (show o∈x.l.map aE.o from ho);exact hm y hy
   generalize (hd++x.l.flatMap fun o=>o.o.line)=tx at *;simp[t1,t5,t33,t34,t35];refine bg [.e [],.p,.r 1 0,.e [],.p,.p,.p] (n:=54) (by kernel_rfl) (by simp[hn]) ?_;by_cases kn:cd x.kind=[]
   .rw[kn]at nm;simp[t1,t5,e2,aK,gT,hgc,nm,aZ];exact⟨hT,fun h=>(by cases h),by omega,jQ⟩
   .simp[t1,t5,e2,aK,gT,hgc,nm,aZ,kn];exact⟨hT,fun _=>⟨⟨kn,hms⟩,htx⟩,by omega,jQ⟩
end
end Go.Proofs.YthklfandhmkpiaaGreatDoor.sh
