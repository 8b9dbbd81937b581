/-
  The facts that simp wants of what else a crash reaches.
-/
import Derived.Test.YtdknlbnljfdhgaaGreatDoorPartE
import Derived.Test.YtdknlbnljfdhgaaGreatDoorPartD
open List renaming getElem?_eq_getElem->zza,range->zzb,length_append->zzc,flatMap_append->zzd,length_map->zze,append_nil->zzf,flatMap_cons->zzg,length_cons->zzh,flatMap_nil->zzi,mem_of_getElem?->zzk,not_mem_nil->zzl,mem_singleton->zzm,range_succ->zzn,map_append->zzo,getElem?_cons_zero->zzr,getElem?_cons_succ->zzs,take_succ_eq_append_getElem->zzt,getElem?_map->zzu,length_take->zzv,map_map->zzw,filter->zzy,map_congr_left->zzz,length->zqa,take_length->zqc,map_cons->zqd,take_of_length_le->zqe
open Nat renaming zero_le->zzj,le_refl->zzp,lt_succ_self->zzq,lt_of_lt_of_le->zqb
open Option renaming getD_some->zzx
set_option linter.unusedVariables false
set_option linter.unusedSimpArgs false
set_option maxRecDepth 20000
namespace Go.Proofs.YtdknlbnljfdhgaaGreatDoor.dk
open Go Go.Am Go.Proofs.YtdknlbnljfdhgaaGreatDoor.seg
@[simp] theorem jlf:aN C1 31=some false:=by kernel_rfl
@[simp] theorem XM:aG C1 31=some 1:=by kernel_rfl
theorem fn17:C1.fns.get 20=some Tryz.f20:=by kernel_rfl
theorem ok17:okF C1 Tryz.f20=true:=by kernel_rfl
theorem jjI:C1.fns.get 18=some Tryz.f18:=by kernel_rfl
theorem jgN:okF C1 Tryz.f18=true:=by kernel_rfl
@[simp] theorem R8:qh C1 31=some (133,1,2):=by kernel_rfl
@[simp] theorem jlm:aN C1 133=some false:=by kernel_rfl
@[simp] theorem jfN:aG C1 133=some 1:=by kernel_rfl
section
variable{S T U:AS}{D D':Dk}
theorem jex{T:AS}{fs:List AV}(hp:fs≠[]):Sl (⟨T.h.set T.nx (.row fs 0 0 false 122),T.nx+1⟩:AS) (.slice T.nx 0 0 fs.length fs.length 1 (some fs.length)) 1 fs:=SG (aa _ _ _) (zzp _) rfl (zzq _) (by simp[eV])
def Dk.Ar(D:Dk)(n:Int):Int:=aS [D.eX,if n < -1 then 1 else 0]
def Dk.lX(D:Dk)(n:Int):Dk:=if D.Ar n=0 then {D with bq:=n} else D
theorem nt17:Tryz.f20.ntmps=20:=by kernel_rfl
theorem Gv{id:Nat}{a b c d x:AV}{ty:TypeId}(h:S.h.get id=some (.row [a,b,c,d] 0 0 false ty)):xQ S (.ptr id 0 2 4) [x]=some ⟨S.h.set id (.row [a,b,x,d] 0 0 false ty),S.nx⟩:=by
 simp only[eC,iT,h,dO];rw[if_pos ⟨trivial,by simp,trivial⟩];rfl
theorem aV.head(h:aV S D){D':Dk}(e1:D'.dp=D.dp)(e2:D'.mi=D.mi)(e3:D'.fs=D.fs)(hr:T.h.get D.dp=some (.row [.map D.mi,.int .i64 D'.q,.int .i64 D'.bq,.bool D'.off] 0 0 false 130))(hs:∀id,id≠D.dp->T.h.get id=S.h.get id)(hn:S.nx<=T.nx):aV T D':=by
 have hdm:=h.dm;refine⟨by rw[e1,e2];exact hr,by rw[e1];exact zqb h.C8 hn,by rw[e2];exact zqb h.mlt hn,?_,?_,?_,?_,by rw[e3];exact h.names,by rw[e1,e2];exact hdm,?_,?_,by rw[e3];exact h.apart,by rw[e3];exact h.vZ⟩
 .rw[e2,e3];exact h.map.agree (hs _ (Ne.symm hdm))
 .rw[e3];intro f hf;rw[hs _ (h.FE f hf).1];exact h.ve f hf
 .rw[e3];intro f hf;exact zqb (h.tj f hf) hn
 .rw[e3];intro f hf;exact (h.gw f hf).agree (fun id e=>hs id (fun e2=>(h.wid f hf).1 (by rw[e,e2]))) hn
 .rw[e1,e2,e3];exact h.FE
 .rw[e1,e2,e3];exact h.wid
theorem nF.head(h:aV S D){D':Dk}(e1:D'.dp=D.dp)(e2:D'.mi=D.mi)(e3:D'.fs=D.fs)(hs:∀id,id≠D.dp->T.h.get id=S.h.get id)(hn:S.nx<=T.nx):nF D D' S T:=
 ⟨fun id hi hf=>hs id (fun e=>hf (.inl e)),hn,fun id hi hf=>by
  rcases hf with e|e|⟨f,hf,e⟩
  .exact .inl (e.trans e1)
  .exact .inr (.inl (e.trans e2))
  .exact .inr (.inr ⟨f,by rw[<-e3];exact hf,e⟩)⟩
theorem jer(h:aV S D)(n:Int):ah C1 20 [.ptr D.dp 0 0 4,.int .i64 n] S fun r T=>r=.int .i64 (D.Ar n)/\aV T (D.lX n)/\nF D (D.lX n) S T:=by
 have x9:=rS (S:=S) (b:=decide (n < -1)) (e:=1);obtain⟨S1,bC⟩:∃S1:AS,S1=⟨(S.h.set S.nx (.row [.bool (decide (n < -1))] 0 0 false 4)).set (S.nx+1) (.row [.int .i64 1] 0 0 false 42),S.nx+2⟩:=⟨_,rfl⟩
 have s1:Sub S S1:=by rw[bC];exact (cq (S:=S)).set _ _ (Nat.le_succ _) _ (Nat.le_succ _)
 have n1:S1.nx=S.nx+2:=by rw[bC]
 have ga:S1.h.get S.nx=some (.row [.bool (decide (n < -1))] 0 0 false 4):=by rw[bC];exact (ae _ _ (by omega)).trans (aa _ _ _)
 have gb:S1.h.get (S.nx+1)=some (.row [.int .i64 1] 0 0 false 42):=by rw[bC];exact aa _ _ _
 rw[<-bC]at x9;obtain⟨S2,dD⟩:∃S2:AS,S2=⟨S1.h.set S1.nx (.row [.func (.func 54) [.ptr D.dp 0 0 4] [],.func (.func 124) [] [.ptr S.nx 0 0 1,.ptr (S.nx+1) 0 0 1]] 0 0 false 122),S1.nx+1⟩:=⟨_,rfl⟩
 have s2:Sub S1 S2:=by rw[dD];exact cq
 have n2:S2.nx=S1.nx+1:=by rw[dD]
 have iN:=dD.symm;have s12:=s1.trans s2;have h2:=h.sub s12;have hv:Sl S2 (.slice S1.nx 0 0 2 2 1 (some 2)) 1 [.func (.func 54) [.ptr D.dp 0 0 4] [],.func (.func 124) [] [.ptr S.nx 0 0 1,.ptr (S.nx+1) 0 0 1]]:=by rw[dD];exact jex (fs:=[_,_]) (by simp)
 have jJ:∀(F:Fr)(B:Nat)(x0 x1:Tmp),sl F x0=.func (.func 54) [.ptr D.dp 0 0 4] []->sl F x1=.func (.func 124) [] [.ptr S.nx 0 0 1,.ptr (S.nx+1) 0 0 1] ->
   aD C1 F B (.buildSlice 193 2 #[(0,.tmp x0),(1,.tmp x1)])=some (.slice B 0 0 2 2 1 (some 2),.row [.func (.func 54) [.ptr D.dp 0 0 4] [],.func (.func 124) [] [.ptr S.nx 0 0 1,.ptr (S.nx+1) 0 0 1]] 0 0 false 122):=
  fun F B x0 x1 a0 a1=>Vx a0 a1
 have M1:Quiet S2 (.func (.func 124) [] [.ptr S.nx 0 0 1,.ptr (S.nx+1) 0 0 1]) (if n < -1 then 1 else 0):=by
  have:=DH (S:=S2) ((s2.h _ (by omega)).trans ga) ((s2.h _ (by omega)).trans gb) (by omega) (by omega);by_cases hn:n < -1
  .rw[decide_eq_true hn]at this;rw[if_pos hn];exact this
  .rw[decide_eq_false hn]at this;rw[if_neg hn];exact this
 have hbv:aE (.slice S1.nx 0 0 2 2 1 (some 2))<=S2.nx:=by simp[aE,n2]
 have h55:=su (Q:=fun e T=>e=D.Ar n/\Sub S2 T) hv (by simp) (by
  refine kJ (pH h2) (Sub.refl _) hbv (fun h0 U hU=>?_) (fun h0 U hU=>⟨by unfold Dk.Ar aS;rw[if_neg h0],hU⟩);refine kJ M1 hU hbv (fun h1 V hV=>?_) (fun h1 V hV=>⟨by unfold Dk.Ar aS;rw[if_pos h0];unfold aS;rw[if_neg h1],hV⟩);exact⟨by unfold Dk.Ar aS;rw[if_pos h0];unfold aS;rw[if_pos h1];rfl,hV⟩)
 obtain⟨r,T,⟨e,rfl,he,hT⟩,AB⟩:=h55.ex;rw[he]at AB;have hs:=s12.trans hT;have hD:=h.sub hs;have hr:=hD.row;refine bt (cK _) (cM _ rfl) fn17 rfl ok17 (by simp) fun F hn t0 t1=>?_;rw[nt17]at hn;unfold Dk.lX;by_cases h0:D.Ar n=0
 .have UF:=fun (x:AV)=>Gv (x:=x) hr;rw[h0]at AB;simp[t0,t1,aP,x9,jJ,iN,AB,hr,UF,h0];have Hq:∀id,id≠D.dp->(T.h.set D.dp (.row [.map D.mi,.int .i64 D.q,.int .i64 n,.bool D.off] 0 0 false 130)).get id=T.h.get id:=fun id hi=>ae _ _ hi;exact⟨hD.head rfl rfl rfl (aa _ _ _) Hq (zzp _),(nF.of hs).trans (nF.head hD rfl rfl rfl Hq (zzp _))⟩
 .simp[t0,t1,aP,x9,jJ,iN,AB,h0];exact⟨hD,nF.of hs⟩
end
def Out(P:Nat->Prop)(v:AV):Prop:=∀id,aE v=id+1->¬P id
theorem Out.mono{P Q:Nat->Prop}{v:AV}(h:Out P v){n:Nat}(hv:aE v<=n)(hq:∀id,id<n->Q id->P id):Out Q v:=fun id e hQ=>h id e (hq id (by omega) hQ)
def AY(l:List Nat)(x:Nat):List Nat:=l.dropLast++(l.getLast?.map fun c=>c ^^^ x).toList
def mN(picks:List Nat)(k loose:Nat):Nat:=match picks[k]? with|some p=>p%(loose+1)|none=>0
def gX(picks flips:List Nat)(k:Nat)(bs:List Nat)(fast:Nat):List Nat:=
 match flips[k]? with
 |some x=>if 0<mN picks k (bs.length-fast) then AY (bs.take (fast+mN picks k (bs.length-fast))) x else bs.take (fast+mN picks k (bs.length-fast))
 |none=>bs.take (fast+mN picks k (bs.length-fast))
def unB(l:List AV):List Nat:=l.map fun v=>match v with | .int _ n=>n.toNat|_=>0
theorem yP(l:List Nat):unB (aq l)=l:=by
 unfold unB aq;rw[zzw]
 conv=>rhs;rw[<-List.map_id l]
 exact zzz fun c _=>by simp
namespace PD
def wR(picks flips:List Nat)(k:Nat)(f:PF):PF:={f with bs:=aq (gX picks flips k (unB f.bs) f.fast),fast:=(gX picks flips k (unB f.bs) f.fast).length}
def fj(picks flips:List Nat):List (List Nat)->Nat->PD->PD
 |[],_,d=>d
 |n::ns,k,d=>match d.file n with
  |none=>fj picks flips ns k d
  |some f=>if f.bs.length=f.fast then fj picks flips ns k d else fj picks flips ns (k+1) (d.put (wR picks flips k f))
end PD
def PF.Iz(f:PF):Prop:=(∃l,f.bs=aq l/\∀c,c∈l->c<256)/\f.bs.length<=4194304/\f.fast<=f.bs.length
def PD.Iz(d:PD):Prop:=∀f,f∈d.fs->f.Iz
theorem rK(l:List Nat)(x:Nat):(AY l x).length=l.length:=by
 unfold AY;cases e:l.getLast? with
 |none=>rw[List.getLast?_eq_none_iff.1 e];rfl
 |some c=>
  have ct:l≠[]:=fun e2=>by rw[e2]at e;cases e
  have:=List.length_pos_iff.2 ct;rw[zzc,List.length_dropLast];show _+1=_;omega
theorem rm(picks:List Nat)(k loose:Nat):mN picks k loose<=loose:=by
 unfold mN;split
 .rename_i p _;have:=Nat.mod_lt p (show 0<loose+1 by omega);omega
 .exact zzj _
theorem AI{picks flips:List Nat}{k:Nat}{bs:List Nat}{fast:Nat}(h:fast<=bs.length):(gX picks flips k bs fast).length=fast+mN picks k (bs.length-fast):=by
 have h1:=rm picks k (bs.length-fast);have h2:(bs.take (fast+mN picks k (bs.length-fast))).length=fast+mN picks k (bs.length-fast):=by rw[zzv];omega
 unfold gX;split
 .split
  .rw[rK,h2]
  .exact h2
 .exact h2
theorem C9{picks flips:List Nat}{k:Nat}{bs:List Nat}{fast:Nat}(hb:∀c,c∈bs->c<256)(hf:∀c,c∈flips->c<256):∀c,c∈gX picks flips k bs fast->c<256:=by
 have h0:∀m c,c∈bs.take m->c<256:=fun m c hc=>hb c (List.mem_of_mem_take hc);unfold gX;split
 .rename_i x hx;split
  .intro c hc;unfold AY at hc;rcases List.mem_append.1 hc with hc|hc
   .exact h0 _ c (List.dropLast_subset _ hc)
   .cases e:(bs.take (fast+mN picks k (bs.length-fast))).getLast? with
    |none=>rw[e]at hc;cases hc
    |some y=>
     rw[e]at hc;simp at hc;rw[hc];exact Nat.xor_lt_two_pow (n:=8) (h0 _ y (List.mem_of_getLast? e)) (hf x (zzk hx))
  .exact h0 _
 .exact h0 _
theorem SI{D:Dk}(f':Fl):(D.put f').fs.map (·.name)=D.fs.map (·.name):=by
 show (D.fs.map (kB f')).map (·.name)=_;rw[zzw];refine zzz fun g _=>?_;show (kB f' g).name=g.name;unfold kB;split
 .rename_i e;exact e.symm
 .rfl
section
variable{S T U:AS}{D D':Dk}
theorem Ym{v:AV}{k:Nat}:ug (nh v k) 0=nh v k:=by cases v<;>rfl
theorem vu{cx:Am.Cx}{t:TypeId}{c:Bool}{k:IntKind}{a b:Nat}(hb:0<b):aZ cx .rem t c (.int k a) (.int k b)=some (.int k ((a%b:Nat):Int)):=by
 have h0:Bs (b:Int) (.ofNat 0)=false:=by rw[gz];simp;omega
 have:aZ cx .rem t c (.int k a) (.int k b)=cond (eE k k) (qw .rem k a b) none:=rfl;rw[this,eu,cond_true];unfold qw;simp only[h0,cond_false,dM];rfl
theorem nt18:Tryz.f18.ntmps=111:=by kernel_rfl
def Oo(l:List Nat):List AV:=l.map fun n:Nat=>AV.int .u16 (n:Int)
theorem RV(l:List Nat):(Oo l).length=l.length:=zze ..
theorem RW{l:List Nat}{i n:Nat}(h:l[i]?=some n):(Oo l)[i]?=some (AV.int .u16 (n:Int)):=by unfold Oo;rw[zzu,h];rfl
def crH(S:AS)(D:Dk)(pv fv nv:AV)(picks flips:List Nat)(ns:List (List Nat))(d0:PD)(k:Nat)(F':Fr)(S':AS):Prop:=
 ∃(i j:Nat)(D':Dk),aV S' D'/\nF D D' S S'/\D'.dp=D.dp/\D'.mi=D.mi/\D'.fs.map (·.name)=D.fs.map (·.name)/\D'.pd.Iz/\PD.fj picks flips ns 0 d0=PD.fj picks flips (ns.drop i) j D'.pd /\
  (Sl S' pv 1 (Oo picks)/\Out D'.aU pv)/\(Sl S' fv 1 (aq flips)/\Out D'.aU fv)/\(Sl S' nv 1 (la ns)/\Out D'.aU nv) /\
  sl F' 0=.ptr D.dp 0 0 4/\sl F' 1=pv/\sl F' 2=fv/\sl F' 7=.int .i64 j/\sl F' 23=nv/\sl F' 24=.int .i64 ns.length/\sl F' 25=.int .i64 i/\i<=ns.length/\j<=i/\F'.n=111/\k=ns.length-i
theorem XX{id:Nat}{a b c d x:AV}{ty:TypeId}(h:S.h.get id=some (.row [a,b,c,d] 0 0 false ty)):xQ S (.ptr id 0 3 4) [x]=some ⟨S.h.set id (.row [a,b,c,x] 0 0 false ty),S.nx⟩:=by
 simp only[eC,iT,h,dO];rw[if_pos ⟨trivial,by simp,trivial⟩];rfl
theorem Out.evo{v:AV}(h:Out D.aU v)(hv:aE v<=S.nx)(he:nF D D' S T):Out D'.aU v:=h.mono hv he.aU
theorem mz{v:AV}{sz:Nat}{cs:List AV}(h:Sl S v sz cs)(ho:Out D.aU v)(he:nF D D' S T):Sl T v sz cs/\Out D'.aU v:=
 ⟨h.agree (fun id e=>he.ca id (by have:=h.old;omega) (ho id e)) he.nx,ho.evo h.old he⟩
theorem jam(h:aV S D)(hb:D.pd.Iz)(Ek:D.fs.length<=1048576){pv fv:AV}{picks flips:List Nat}(hp:Sl S pv 1 (Oo picks))(ho:Out D.aU pv)(hf:Sl S fv 1 (aq flips))(hof:Out D.aU fv)(kS:∀p,p∈picks->p<65536)(vG:∀c,c∈flips->c<256):
  ah C1 18 [.ptr D.dp 0 0 4,pv,fv] S fun r T=>r=.int .i64 0/\∃D',aV T D'/\D'.pd=PD.fj picks flips D.sorted 0 {D.pd with off:=false,bq:=-1}/\nF D D' S T/\D'.dp=D.dp:=by
 have hr:=h.row;have Xr:=fun Q=>pa h (Q:=Q);have ha:¬D.eX=2:=by unfold Dk.eX;split<;>decide
 have UF:=fun (x:AV)=>XX (x:=x) hr;obtain⟨T0,hT0⟩:∃T0:AS,T0=⟨S.h.set D.dp (.row [.map D.mi,.int .i64 D.q,.int .i64 D.bq,.bool false] 0 0 false 130),S.nx⟩:=⟨_,rfl⟩
 have bT0:=hT0.symm;have BL:T0.h.get D.dp=some (.row [.map D.mi,.int .i64 D.q,.int .i64 D.bq,.bool false] 0 0 false 130):=by rw[hT0];exact aa _ _ _
 have hsf:=fun (x:AV)=>Gv (x:=x) BL;obtain⟨T1,iD⟩:∃T1:AS,T1=⟨T0.h.set D.dp (.row [.map D.mi,.int .i64 D.q,.int .i64 (-1),.bool false] 0 0 false 130),T0.nx⟩:=⟨_,rfl⟩
 have Bu:=iD.symm;have n1:T1.nx=S.nx:=by rw[iD,hT0]
 have k1:∀id,id≠D.dp->T1.h.get id=S.h.get id:=fun id hi=>by rw[iD,hT0];exact (ae _ _ hi).trans (ae _ _ hi)
 obtain⟨D1,wF⟩:∃D1:Dk,D1={D with off:=false,bq:=-1}:=⟨_,rfl⟩
 have h1:aV T1 D1:=by rw[wF];exact h.head rfl rfl rfl (by rw[iD];exact aa _ _ _) k1 (by omega)
 have ev1:nF D D1 S T1:=by rw[wF];exact nF.head h rfl rfl rfl k1 (by omega)
 have jeb:D1.fs=D.fs:=by rw[wF]
 have jiO:D1.dp=D.dp:=by rw[wF]
 have hmi1:D1.mi=D.mi:=by rw[wF]
 have hso1:D1.sorted=D.sorted:=by unfold Dk.sorted;rw[jeb]
 obtain⟨nv,T2,⟨n2,t2,nn⟩,e23⟩:=(MF h1 (by rw[jeb];exact Ek) (by rw[wF])).ex;rw[jiO]at e23;rw[hso1]at n2;obtain⟨ns,hns⟩:∃ns,ns=D.sorted:=⟨_,rfl⟩
 rw[<-hns]at n2⊢;have nl:=n2.eR;have nls:(la ns).length=ns.length:=zze ..;rw[nls]at nl;have nsl:=n2.sl;have ev2:nF D D1 S T2:=ev1.trans (nF.of t2);have jip:D1.pd={D.pd with off:=false,bq:=-1}:=by rw[wF];rfl
 have u9:∀n,n∈ns->n∈D.fs.map (·.name):=fun n hn=>by
  rw[hns]at hn;exact (List.mergeSort_perm _ _).mem_iff.1 hn
 have hnsl:ns.length<=1048576:=by
  have:=(List.mergeSort_perm (D.fs.map (·.name)) Hg).length_eq;have e:D.sorted.length=D.fs.length:=this.trans (zze ..);rw[hns,e];exact Ek
 refine tW (cK _) (cM _ rfl) jjI rfl jgN (by simp) fun F hn s0 t1 s2=>?_;rw[nt18]at hn;simp[s0,t1,s2,aP,Xr,ha,hr,UF,bT0,BL,hsf,Bu,e23,nl,nsl];refine aT (crH S D pv fv nv picks flips ns {D.pd with off:=false,bq:=-1}) ns.length ⟨0,0,D1,h1.sub t2,ev2,jiO,hmi1,by rw[jeb],by rw[jip];exact hb,by rw[jip];rfl,mz hp ho ev2,mz hf hof ev2,⟨n2,fun id e hf=>?_⟩,by simp[s0],by simp[t1],by simp[s2],by simp,by simp,by simp[nl],by simp,by omega,by omega,by simp[hn],rfl⟩ ?_
 .have:=h1.lt hf;rcases nn with q|q<;>omega
 clear s0 t1 s2 hn;rintro k F' S' fX ⟨i,j,D',h',ev,wC,hmi,M5,KZ,heq,⟨p1,p2⟩,⟨f1,f2⟩,⟨yv,Fw⟩,s0,s1,s2,s7,Xa,I8,W9,hi,wB,hn,hk⟩;clear fX;by_cases KV:i<ns.length
 case neg=>
  have:i=ns.length:=by omega
  subst this;rw[List.drop_length]at heq;simp[Xa,I8,W9];exact⟨D',h',heq.symm,ev,wC⟩
 have hilI:(i:Int)<ns.length:=by omega
 have lH:=IntWalk.i64_in ((i:Int)+1) (by omega);obtain⟨n,hni⟩:∃n,ns[i]?=some n:=⟨_,zza KV⟩
 have Nc:ns.drop i=n::ns.drop (i+1):=by
  rw[List.drop_eq_getElem_cons KV,(List.getElem?_eq_some_iff.1 hni).2]
 have Em:n∈D'.fs.map (·.name):=by rw[M5];exact u9 n (zzk hni)
 obtain⟨g,hg,hgn⟩:=List.mem_map.1 Em;have Ak:D'.file n=some g:=by rw[<-hgn];exact sx h'.names hg
 have hpf:D'.pd.file n=some g.pf:=by rw[uM,Ak];rfl
 have BP:=fu (cx:=C1) (e:=9) yv (show (la ns)[i]?=some (.str n) by unfold la;rw[zzu,hni];rfl) (by simp);have lk:=h'.lookup n;rw[Ak,hmi]at lk;simp only[]at lk;have fi:=h'.row;rw[wC,hmi]at fi;have fr:=h'.ve g hg;have gw:=h'.gw g hg;have w1:=gw.1.sl;have w2:=gw.1.eR;have wk:okW g.w=true:=lF gw.1.ok;obtain⟨⟨l,hl,FB⟩,Rr,hl3⟩:=KZ g.pf (List.mem_map.2 ⟨g,hg,rfl⟩);have hl:g.bs=aq l:=hl;have hlen:g.bs.length=l.length:=by rw[hl,aA]
 have Rr:g.bs.length<=4194304:=Rr;have hl3:g.fast<=g.bs.length:=hl3;rw[hlen]at w2 Rr hl3;obtain⟨lo,rr⟩:∃lo,lo=l.length-g.fast:=⟨_,rfl⟩
 have Zt:((l.length:Int)-g.fast)=(lo:Int):=by omega
 have Zs:=IntWalk.i64_in ((l.length:Int)-g.fast) (by omega);rw[Zt]at Zs;have nl2:=yv.eR;rw[nls]at nl2;have nsl2:=yv.sl;simp[s0,Xa,I8,W9,hilI,nl2,nsl2,KV,BP,fi,lk];refine cu [.p,.p,.p,.r 0 0,.r 0 0,.p,.p,.p,.r 0 0,.p,.p] (n:=111) (by kernel_rfl) (by simp[hn]) ?_;by_cases l0:lo=0
 .have l0I:=eq_true (show (lo:Int)=0 by omega);have l0N:=eq_true l0;simp[fr,w1,w2,wk,Zt,Zs,l0I,l0N,W9,lH];refine⟨ns.length-(i+1),by omega,i+1,j,D',h',ev,wC,hmi,M5,KZ,?_,⟨p1,p2⟩,⟨f1,f2⟩,⟨yv,Fw⟩,by simp[s0],by simp[s1],by simp[s2],by simp[s7],by simp[Xa],by simp[I8],by simp,by omega,by omega,by simp[hn],rfl⟩;rw[heq,Nc];show (match D'.pd.file n with|none=>_|some f=>_)=_;rw[hpf];show (if g.bs.length=g.fast then _ else _)=_;rw[if_pos (by omega)]
 have l0I:¬((lo:Int)=0):=by omega
 obtain⟨m,hm⟩:∃m,m=mN picks j lo:=⟨_,rfl⟩
 have qz:m<=lo:=by rw[hm];exact rm _ _ _
 have pl:=p1.eR;rw[RV]at pl;have psl:=p1.sl;have fl:=f1.eR;rw[aA]at fl;have fsl:=f1.sl;simp[-cz,fr,w1,w2,wk,Zt,Zs,l0I,l0,s7,s1,pl,psl];rw[cz];simp[-cz,fr,w1,w2,wk,Zt,Zs,l0I,l0,s7,s1,pl,psl];refine nK (fun F1 S1=>S1=S'/\F1.n=111/\sl F1 0=.ptr D.dp 0 0 4/\sl F1 1=pv/\sl F1 2=fv/\sl F1 7=.int .i64 j/\sl F1 10=.ptr g.id 0 0 2/\sl F1 12=.int .i64 m/\sl F1 23=nv/\sl F1 24=.int .i64 ns.length/\sl F1 25=.int .i64 i) ?_ ?_
 .by_cases hj:j<picks.length
  .have yD:(j:Int)<picks.length:=by omega
   obtain⟨p,yC⟩:∃p,picks[j]?=some p:=⟨_,zza hj⟩
   have ldp:=fu (cx:=C1) (e:=133) p1 (RW yC) (by simp);have hmp:m=p%(lo+1):=by rw[hm];unfold mN;rw[yC]
   have xW:=IntWalk.i64_in ((lo:Int)+1) (by omega);have hpw:=IntWalk.i64_in (p:Int) (by have:=kS p (zzk yC);omega);have hrm:aZ C1 .rem 3 false (.int .i64 p) (.int .i64 ((lo:Int)+1))=some (.int .i64 m):=by
    have:=vu (cx:=C1) (t:=3) (c:=false) (k:=.i64) (a:=p) (b:=lo+1) (by omega);rw[<-hmp]at this;exact this
   simp[hj,yD,s0,s1,s2,s7,Xa,I8,W9,ldp,pl,psl,xW,hpw,hrm,hn]
  .have yD:¬((j:Int)<picks.length):=by omega
   have CS:m=0:=by rw[hm];unfold mN;rw[List.getElem?_eq_none (by omega)]
   simp[hj,yD,s0,s1,s2,s7,Xa,I8,W9,hn,CS]
 clear s0 s1 s2 s7 Xa I8 W9 hn;rintro F1 S1 ⟨rfl,hn,s0,s1,s2,s7,s10,s12,Xa,I8,W9⟩;obtain⟨b0,K0⟩:∃b0,b0=l.take (g.fast+m):=⟨_,rfl⟩
 have CV:g.fast+m<=l.length:=by omega
 have ZC:b0.length=g.fast+m:=by rw[K0,zzv];omega
 obtain⟨cw,Nd⟩:∃cw,cw=kX g.w 0 (g.fast+m):=⟨_,rfl⟩
 have aR:∀(F:Fr)(x:Tmp),∀q:Nat,q=g.fast+m->sl F x=.int .i64 (q:Int)->dT C1 F 32 g.w none (some (.tmp x)) none=some cw:=fun F x q hq a0=>by
  subst hq;rw[Nd];exact dx (cx:=C1) (p:=(5,1,1)) (l:=0) (k:=g.fast+m) tE w1 (by simp) (by rw[AT,aI,a0];exact oC) (zzj _) (by omega)
 have KY:=gw.1.cut (l:=0) (k:=g.fast+m) (zzj _) (by omega);rw[<-Nd,Nat.zero_mul,List.drop_zero,Nat.sub_zero,Nat.mul_one,hl]at KY;have KY:Sl S1 cw 1 (aq b0):=by rw[K0];unfold aq at KY⊢;rw[List.map_take];exact KY
 obtain⟨r,T3,⟨gr,t3,nr⟩,e58⟩:=(bk.AK KY (by rw[aA];omega)).ex;have fr3:=(t3.h _ (h'.tj g hg)).trans fr;obtain⟨T4,hT4⟩:∃T4:AS,T4=⟨T3.h.set g.id (.row [r,.int .i64 g.fast] 0 0 false 132),T3.nx⟩:=⟨_,rfl⟩
 have fr4:T4.h.get g.id=some (.row [r,.int .i64 g.fast] 0 0 false 132):=by rw[hT4];exact aa _ _ _
 have fI:xQ T3 (.ptr g.id 0 0 2) [r]=some T4:=by
  simp only[eC,iT,fr3,dO];rw[if_pos ⟨trivial,by simp,trivial⟩,hT4];rfl
 have PW:=IntWalk.i64_in ((g.fast:Int)+m) (by omega);have UE:((g.fast:Int)+m)=((g.fast+m:Nat):Int):=by omega
 obtain⟨q,hq⟩:∃q,q=g.fast+m:=⟨_,rfl⟩
 have aR:=fun (F:Fr) (x:Tmp)=>aR F x q hq;rw[<-hq]at UE ZC;rw[UE]at PW;have cr:=pZ gr.1.sl;have kc:=aj KY;have kr:=aj gr.1;obtain⟨f',Es⟩:∃f':List Nat->Fl,f'=fun b=>⟨g.name,g.id,r,aq b,b.length⟩:=⟨_,rfl⟩
 have fin:∀(T5:AS)(b1:List Nat),b1=gX picks flips j l g.fast->Gw T5 r 1 5 (aq b1)->(∀id,id<S1.nx->id≠g.id->T5.h.get id=S1.h.get id)->S1.nx<=T5.nx->∀T6:AS,T6=⟨T5.h.set g.id (.row [r,.int .i64 b1.length] 0 0 false 132),T5.nx⟩ ->
   aV T6 (D'.put (f' b1))/\nF D' (D'.put (f' b1)) S1 T6/\(D'.put (f' b1)).fs.map (·.name)=D.fs.map (·.name)/\(D'.put (f' b1)).pd.Iz/\PD.fj picks flips ns 0 {D.pd with off:=false,bq:=-1}=PD.fj picks flips (ns.drop (i+1)) (j+1) (D'.put (f' b1)).pd:=by
  intro T5 b1 tP g5 k5 n5 T6 ZG;have hfb:f' b1=⟨g.name,g.id,r,aq b1,b1.length⟩:=by rw[Es]
  have n6:T6.nx=T5.nx:=by rw[ZG]
  have r6:T6.h.get g.id=some (.row [r,.int .i64 b1.length] 0 0 false 132):=by rw[ZG];exact aa _ _ _
  have k6:∀id,id<S1.nx->id≠g.id->T6.h.get id=S1.h.get id:=fun id hi ct=>by rw[ZG];exact (ae _ _ ct).trans (k5 id hi ct)
  have hgl:=h'.tj g hg;have g6:Gw T6 r 1 5 (aq b1):=g5.agree (fun id e=>by rw[ZG];exact ae _ _ (by rcases nr with q|q<;>omega)) (by omega);have gN:D'.aU g.id:=.inr (.inr ⟨g,hg,.inl rfl⟩);refine⟨?_,⟨fun id hi Em=>k6 id hi (fun e=>Em (by rw[e];exact gN)),by omega,fun id hi hfo=>?_⟩,by rw[SI];exact M5,?_,?_⟩
  .rw[hfb];exact h'.put hg rfl rfl r6 g6 (by rcases nr with q|q;exact .inr (.inr q);exact .inr (.inl q)) (fun id hi ct _=>k6 id hi ct) (by omega)
  .rcases zw hfo with e|e|e
   .exact e
   .rw[hfb]at e;rw[e];exact gN
   .rw[hfb]at e;have e:aE r=id+1:=e;rcases nr with q|q<;>omega
  .rw[vW];intro f hf;obtain⟨f0,hf0,rfl⟩:=List.mem_map.1 hf;show PF.Iz (if f0.name=(f' b1).pf.name then (f' b1).pf else f0);split
   .rw[hfb];have jbK:b1.length=g.fast+mN picks j (l.length-g.fast):=by rw[tP];exact AI hl3
    have:=rm picks j (l.length-g.fast);exact⟨⟨b1,rfl,by rw[tP];exact C9 FB vG⟩,by show (aq b1).length<=_;rw[aA];omega,by show b1.length<=(aq b1).length;rw[aA];exact zzp _⟩
   .exact KZ f0 hf0
  .rw[heq,Nc];show (match D'.pd.file n with|none=>_|some f=>_)=_;rw[hpf];show (if g.bs.length=g.fast then _ else PD.fj picks flips (ns.drop (i+1)) (j+1) (D'.pd.put (PD.wR picks flips j g.pf)))=_;rw[if_neg (by omega),vW,hfb];have e1:PD.wR picks flips j g.pf=(⟨g.name,g.id,r,aq b1,b1.length⟩:Fl).pf:=by
    show PF.mk g.name (aq (gX picks flips j (unB g.bs) g.fast)) (gX picks flips j (unB g.bs) g.fast).length=PF.mk g.name (aq b1) b1.length;rw[hl,yP,<-tP]
   rw[e1]
 simp[s10,s12,fr];refine cu [.p,.p,.p,.p,.r 0 0,.p,.p,.p,.r 0 0,.p,.p,.p,.e [],.p,.p,.e []] (n:=111) (by kernel_rfl) (by simp[hn]) ?_;have hgl:=h'.tj g hg;have n4:T4.nx=T3.nx:=by rw[hT4]
 have t3n:=t3.nx;have k4:∀id,id<S1.nx->id≠g.id->T4.h.get id=S1.h.get id:=fun id hi ct=>by rw[hT4];exact (ae _ _ ct).trans (t3.h id hi)
 have g4:Gw T4 r 1 5 (aq b0):=gr.agree (fun id e=>by rw[hT4];exact ae _ _ (by rcases nr with q|q<;>omega)) (by omega);have r4s:=g4.1.sl;have r4l:=g4.1.eR;rw[aA,ZC]at r4l;have UB:=IntWalk.i64_in ((j:Int)+1) (by omega);have kf:=aj f1;by_cases hfx:0<m/\j<flips.length
 .obtain⟨CS,hjf⟩:=hfx;have US:(0:Int)<m:=by omega
  have jea:(j:Int)<flips.length:=by omega
  obtain⟨x,hx⟩:∃x,flips[j]?=some x:=⟨_,zza hjf⟩
  have Uz:=vG x (zzk hx);obtain⟨z,hz⟩:∃z,q=z+1:=⟨q-1,by omega⟩
  have Ux:z<b0.length:=by omega
  have hzq:z<q:=by omega
  obtain⟨c0,pP⟩:∃c,b0[z]?=some c:=⟨_,zza Ux⟩
  have hc0l:c0<256:=FB c0 (by have:=zzk pP;rw[K0]at this;exact List.mem_of_mem_take this);have ldc:=fu (cx:=C1) (e:=5) g4.1 (show (aq b0)[z]?=some (.int .u8 (c0:Int)) by unfold aq;rw[zzu,pP];rfl) (by simp);have f4:Sl T4 fv 1 (aq flips):=f1.agree (fun id e=>k4 id (by have:=f1.old;omega) (fun e2=>f2 id e (by rw[e2];exact .inr (.inr ⟨g,hg,.inl rfl⟩)))) (by omega);have ldf:=fu (cx:=C1) (e:=5) f4 (show (aq flips)[j]?=some (.int .u8 (x:Int)) by unfold aq;rw[zzu,hx];rfl) (by simp);have hxo:=Ws (cx:=C1) (t:=5) (c:=false) hc0l Uz;obtain⟨T5,w5,g5,k5,n5⟩:=g4.jge (i:=z) (o:=0) (x:=.int .u8 ((c0 ^^^ x:Nat):Int)) (by omega) (by decide);rw[Ym]at w5;have hzi:=IntWalk.i64_in ((q:Int)-1) (by omega);have hqz:((q:Int)-1)=(z:Int):=by omega
  rw[hqz]at hzi;obtain⟨b1,tP⟩:∃b1,b1=gX picks flips j l g.fast:=⟨_,rfl⟩
  have qA:b1=AY b0 x:=by rw[tP];unfold gX;rw[hx,<-rr,<-hm];show (if 0<m then _ else _)=_;rw[if_pos CS,<-K0]
  have nI:(aq b0).set (z*1+0) (.int .u8 ((c0 ^^^ x:Nat):Int))=aq b1:=by
   have e1:b1=b0.set z (c0 ^^^ x):=by
    have ct:b0≠[]:=fun e=>by rw[e]at Ux;exact absurd Ux (Nat.not_lt_zero _)
    have hgl:b0.getLast?=some c0:=by rw[List.getLast?_eq_getElem?,show b0.length-1=z by omega];exact pP
    rw[qA];unfold AY;rw[hgl];obtain⟨a,ha⟩:∃a,b0=a++[c0]:=⟨b0.dropLast,by have h1:=List.dropLast_concat_getLast ct;have h2:b0.getLast ct=c0:=by {rw[List.getLast?_eq_some_getLast ct]at hgl;simpa using hgl};rw[h2]at h1;exact h1.symm⟩
    have Nj:a.length=z:=by have:=congrArg zqa ha;rw[zzc]at this;simp at this;omega
    rw[ha,List.dropLast_concat,<-Nj,List.set_append_right _ _ (zzp _),Nat.sub_self];rfl
   rw[e1];unfold aq;rw[List.map_set,Nat.mul_one,Nat.add_zero]
  rw[nI]at g5;have sT:b1.length=q:=by rw[qA,rK,ZC]
  have fr5:T5.h.get g.id=some (.row [r,.int .i64 g.fast] 0 0 false 132):=(k5 g.id (fun e=>by rcases nr with q|q<;>omega)).trans fr4;have Zk:xQ T5 (.ptr g.id 0 1 2) [.int .i64 q]=some ⟨T5.h.set g.id (.row [r,.int .i64 q] 0 0 false 132),T5.nx⟩:=by
   simp only[eC,iT,fr5,dO];rw[if_pos ⟨trivial,by simp,trivial⟩];rfl
  obtain⟨q1,q2,q3,q4,q5⟩:=fin T5 b1 tP g5 (fun id hi ct=>(k5 id (fun e=>by rcases nr with q|q<;>omega)).trans (k4 id hi ct)) (by omega) _ rfl;rw[sT]at q1 q2;simp[s10,s12,s7,s1,s2,fr,UE,PW,aR,aP,e58,fr3,fI,cr,kc,kr,wk,CS,US,hjf,jea,fl,fsl];refine cu [.p,.p,.p,.r 0 0,.p,.p,.p,.r 0 0,.r 0 0,.p,.p,.r 0 0,.p,.p,.p,.r 0 0,.p,.p,.e []] (n:=111) (by kernel_rfl) (by simp[hn]) ?_;simp[s10,s12,s7,s1,s2,W9,fr4,fr5,r4s,r4l,hqz,hzi,hzq,ldc,fl,fsl,hjf,ldf,hxo,w5,kr,kf,g5.1.sl,g5.1.eR,sT,Zk,UB,lH];exact⟨ns.length-(i+1),by omega,i+1,j+1,_,q1,ev.trans q2,wC,hmi,q3,q4,q5,mz p1 p2 q2,mz f1 f2 q2,mz yv Fw q2,by simp[s0],by simp[s1],by simp[s2],by simp,by simp[Xa],by simp[I8],by simp,by omega,by omega,by simp[hn],rfl⟩
 .obtain⟨b1,tP⟩:∃b1,b1=gX picks flips j l g.fast:=⟨_,rfl⟩
  have qA:b1=b0:=by
   rw[tP];unfold gX;rw[<-rr,<-hm,<-K0];split
   .rename_i x hx;rw[if_neg (fun e=>hfx ⟨e,(List.getElem?_eq_some_iff.1 hx).1⟩)]
   .rfl
  have Zk:xQ T4 (.ptr g.id 0 1 2) [.int .i64 q]=some ⟨T4.h.set g.id (.row [r,.int .i64 q] 0 0 false 132),T4.nx⟩:=by
   simp only[eC,iT,fr4,dO];rw[if_pos ⟨trivial,by simp,trivial⟩];rfl
  obtain⟨q1,q2,q3,q4,q5⟩:=fin T4 b1 tP (by rw[qA];exact g4) k4 (by omega) _ rfl;have sT:b1.length=q:=by rw[qA,ZC]
  rw[sT]at q1 q2;by_cases CS:0<m
  .have US:(0:Int)<m:=by omega
   have hjf:¬(j<flips.length):=fun e=>hfx ⟨CS,e⟩;have jea:¬((j:Int)<flips.length):=by omega
   simp[s10,s12,s7,s1,s2,W9,fr,UE,PW,aR,aP,e58,fr3,fI,cr,kc,kr,wk,CS,US,hjf,jea,fl,fsl,fr4,r4s,r4l,Zk,UB,lH];exact⟨ns.length-(i+1),by omega,i+1,j+1,_,q1,ev.trans q2,wC,hmi,q3,q4,q5,mz p1 p2 q2,mz f1 f2 q2,mz yv Fw q2,by simp[s0],by simp[s1],by simp[s2],by simp,by simp[Xa],by simp[I8],by simp,by omega,by omega,by simp[hn],rfl⟩
  .have US:¬((0:Int)<m):=by omega
   simp[s10,s12,s7,s1,s2,W9,fr,UE,PW,aR,aP,e58,fr3,fI,cr,kc,kr,wk,CS,US,fl,fsl,fr4,r4s,r4l,Zk,UB,lH];exact⟨ns.length-(i+1),by omega,i+1,j+1,_,q1,ev.trans q2,wC,hmi,q3,q4,q5,mz p1 p2 q2,mz f1 f2 q2,mz yv Fw q2,by simp[s0],by simp[s1],by simp[s2],by simp,by simp[Xa],by simp[I8],by simp,by omega,by omega,by simp[hn],rfl⟩
end
end Go.Proofs.YtdknlbnljfdhgaaGreatDoor.dk
namespace Go.Proofs.YtdknlbnljfdhgaaGreatDoor.dk
open Go Go.Am Go.Proofs.YtdknlbnljfdhgaaGreatDoor.seg
theorem jji:C1.fns.get 17=some Tryz.f17:=by kernel_rfl
theorem jgn:okF C1 Tryz.f17=true:=by kernel_rfl
theorem jjh:C1.fns.get 19=some Tryz.f19:=by kernel_rfl
theorem jgm:okF C1 Tryz.f19=true:=by kernel_rfl
theorem jjj:C1.fns.get 21=some Tryz.f21:=by kernel_rfl
theorem jgo:okF C1 Tryz.f21=true:=by kernel_rfl
@[simp] theorem jeV:ny C1 27 3=some .i64:=by kernel_rfl
section
variable{S T U:AS}{D D':Dk}
theorem jhr(h:aV S D){Q:AV->AS->Prop}:ah C1 17 [.ptr D.dp 0 0 4] S Q=Q (.bool D.off) S:=by
 refine ah.eq (aL (cK _) (cM _ rfl) jji rfl jgn (by simp) fun F hn s0=>?_);have Xr:=fun Q=>pa h (Q:=Q);unfold Dk.eX at Xr;cases ho:D.off<;>rw[ho]at Xr<;>simp[s0,aP,Xr]
theorem OH{id:Nat}{a b c d x:AV}{ty:TypeId}(h:S.h.get id=some (.row [a,b,c,d] 0 0 false ty)):xQ S (.ptr id 0 1 4) [x]=some ⟨S.h.set id (.row [a,x,c,d] 0 0 false ty),S.nx⟩:=by
 simp only[eC,iT,h,dO];rw[if_pos ⟨trivial,by simp,trivial⟩];rfl
theorem Yh(h:aV S D){n:Nat}(hn:n<=4194304):ah C1 19 [.ptr D.dp 0 0 4,.int .i64 n] S fun r T=>r=.int .i64 0/\aV T {D with q:=n}/\nF D {D with q:=n} S T:=by
 refine bt (cK _) (cM _ rfl) jjh rfl jgm (by simp) fun F fX s0 s1=>?_;have Xr:=fun Q=>pa h (Q:=Q);have ha:¬D.eX=2:=by unfold Dk.eX;split<;>decide
 have h1:¬((n:Int)<0):=by omega
 have h2:¬((4194304:Int)<n):=by omega
 have h2n:¬(4194304<n):=by omega
 have hr:=h.row;have UF:=fun (x:AV)=>OH (x:=x) hr;simp[s0,s1,aP,Xr,ha,h1,h2,h2n,hr,UF];have Hq:∀id,id≠D.dp->(S.h.set D.dp (.row [.map D.mi,.int .i64 n,.int .i64 D.bq,.bool D.off] 0 0 false 130)).get id=S.h.get id:=fun id hi=>ae _ _ hi;exact⟨h.head rfl rfl rfl (aa _ _ _) Hq (zzp _),nF.head h rfl rfl rfl Hq (zzp _)⟩
theorem Yg{n:Nat}(hn:n<18446744073709551616){Q:AV->AS->Prop}:ah C1 21 [.int .u64 n] S Q=Q (.int .i64 ((n%20000:Nat):Int)) S:=by
 refine ah.eq (aL (cK _) (cM _ rfl) jjj rfl jgo (by simp) fun F fX s0=>?_);have hb:∀t c,aZ C1 .rem t c (.int .u64 n) (.int .u64 20000)=some (.int .u64 ((n%20000:Nat):Int)):=fun t c=>vu (b:=20000) (by decide);obtain⟨m,hm⟩:∃m,m=n%20000:=⟨_,rfl⟩
 have qz:m<20000:=by rw[hm];exact Nat.mod_lt _ (by decide)
 have hw:=IntWalk.i64_in (m:Int) (by omega);rw[<-hm]at hb⊢;simp[s0,hb,hw]
end
end Go.Proofs.YtdknlbnljfdhgaaGreatDoor.dk
namespace Go.Proofs.YtdknlbnljfdhgaaGreatDoor.bk
open Go Go.Am Go.Proofs.YtdknlbnljfdhgaaGreatDoor.dk
open Go.Proofs.YtdknlbnljfdhgaaGreatDoor.mod (qe cZ dC dH dj c8 gq aB dE nG kF zj gG zeroV jP eJ cd bare rC dg gl kE mh ej lg gM aW tL wx)
def PB.cN(P:PB)(n:Nat):PB:={P with aC:=n}
section
variable{S T:AS}{X:cT}{r:Rec}
theorem jad(h:bG S X)(cJ:da S r)(e2:r.sort=1)(qy:fb r.n=true):
  ah C1 51 [.ptr X.b 0 1 27,.agg r.c] S fun v T=>v=.func (.func 105) [] [.ptr (S.nx+1) 0 0 7,.ptr S.nx 0 0 1]/\vE S X r T:=by
 have hB:=oS (S:=S) (X:=X) (r:=r);have jG:=fun Q=>uD (h.toSub (rF (X:=X) (r:=r))) r.id (Q:=Q);have iN:(⟨(S.h.set S.nx (.row [.ptr X.b 0 1 27] 0 0 false 121)).set (S.nx+1) (.row r.c 0 0 false 115),S.nx+2⟩:AS)=jr S X r:=rfl;have n2:(jr S X r).nx=S.nx+2:=rfl;have tS:(jr S X r).h.get (S.nx+1)=some (.row r.c 0 0 false 115):=aa _ _ _;have HD:(jr S X r).h.get S.nx=some (.row [.ptr X.b 0 1 27] 0 0 false 121):=(ae _ _ (by omega)).trans (aa _ _ _);have nQ:(⟨((jr S X r).h.set (S.nx+2) (.row [.ck] 0 0 false 104)).set (S.nx+2) (.row [pX (jL X.au r.id)] 0 0 false 104),S.nx+3⟩:AS)=Ji S X r:=rfl;have ux:=ow (S:=Ji S X r) (n:=r.n);have gr:=hB.br;have gx:=hB.bx;have gs:=hB.bs;have k1:=aj cJ.pred.sl;have k2:=aj cJ.sl;have k3:=cJ.pred.sl.cells;have k4:=cJ.sl.cells;obtain⟨S2,dD⟩:∃S2,S2=jr S X r:=⟨_,rfl⟩
 obtain⟨S3,l7⟩:∃S3,S3=Ji S X r:=⟨_,rfl⟩
 rw[<-dD]at jG iN n2 tS HD nQ;rw[<-l7]at nQ ux gr gx gs hB;obtain⟨px,Zm⟩:∃px,px=pX (jL X.au r.id):=⟨_,rfl⟩
 have o1:okW px=true:=by rw[Zm];exact Kk
 have o2:bL px=false:=by rw[Zm];exact TY
 have o3:cellsOf px=some [px]:=by rw[Zm];exact Ii
 rw[<-Zm]at jG nQ gx;unfold Rec.c at iN tS gr;rw[e2]at iN tS gr;rw[qy]at ux;refine cG (cK _) (cM _ rfl) VB rfl Tu (by simp) fun F hn hs=>?_;rw[TS]at hn;have s0:=hs 0;have s1:=hs 1;clear hs;simp only[zzr,zzs,zzx,Rec.c,e2]at s0 s1;simp[s0,s1,aP,iN,n2,tS,HD,jG,nQ,gr,gx,ux,k1,k2,k3,k4,o1,o2,o3];exact hB
theorem jeR(h:bG S X){sb rb:Nat}(hs:S.h.get sb=some (.row [.ptr X.b 0 1 27] 0 0 false 121))(hr:S.h.get rb=some (.row r.c 0 0 false 115))(hn:r.n<18446744073709551616):
  ah C1 105 [.ptr rb 0 0 7,.ptr sb 0 0 1] S fun _ T=>bG T {X with aC:=r.n}/\eZ X {X with aC:=r.n} S T:=by
 have eI:=h.row;have hw:xQ S (.ptr X.b 0 1 27) [.int .u64 r.n]=some ⟨S.h.set X.b (.row ({X with aC:=r.n}:cT).c 0 0 false 110),S.nx⟩:=by
  simp only[eC,iT,h.row,dO];rw[if_pos ⟨trivial,by simp,trivial⟩];rfl
 have fin:bG ⟨S.h.set X.b (.row ({X with aC:=r.n}:cT).c 0 0 false 110),S.nx⟩ {X with aC:=r.n}/\eZ X {X with aC:=r.n} S ⟨S.h.set X.b (.row ({X with aC:=r.n}:cT).c 0 0 false 110),S.nx⟩:=
  h.own rfl rfl (fun id _ hi=>ae _ _ hi) (zzp _) (aa _ _ _) hn (fun i x hi hx=>.inl hx) (fun i hi=>.inl rfl)
 unfold Rec.c at hr;refine bt (cK _) (cM _ rfl) jkh rfl jhm (by simp) fun F hn s0 s1=>?_;simp[s0,s1,hs,hr,hw];exact fin
theorem Qr(e2:r.sort=1)(qy:fb r.n=true):LV S X r (X.pure.cN r.n):=fun T X1 hX hL cJ=>by
 obtain⟨v,U,⟨rfl,hB⟩,e1⟩:=(jad hX cJ e2 qy).ex;have ZF:=hX.toSub hB.sub;have cQ:=hB.lt;obtain⟨w,Y,⟨h1,h2⟩,e⟩:=(jeR ZF hB.bs hB.br cJ.n).ex;refine⟨_,_,U,e1,aP _ rfl,hB.sub,w,Y,_,e,h1,h2,?_,rfl,rfl⟩;have:=oF hL;rw[<-this];rfl
end
inductive um(P:PB)(r:Rec):PB->Prop
 |aC (e:r.sort=1) (hn:fb r.n=true):um P r (P.cN r.n)
 |qd (e:r.sort=2) {n:Nat} (cD:r.id=n) (lI:n<8) (lR:P.au n=none) (hm:dE r.cs=true) (hr:fN r.st=true):um P r (P.aK n (some ⟨r.cs.map bare,r.st,[]⟩))
 |ends (e:r.sort=3) {n:Nat} (cD:r.id=n) (lI:n<8) {x:iQ} (hx:P.au n=some x):um P r (P.aK n none)
 |ad (e:r.sort=4) {k:Nat} (cD:r.id=k) (tN:k<4) (hn:fb r.n=true) (hv:(P.bg k).fy<r.n) (hm:dE r.cs=true):um P r (P.dV k ⟨k,r.n,r.there,r.cs.map bare⟩)
 |ack (e:r.sort=5) {n:Nat} (cD:r.id=n) (lI:n<8) {x:iQ} (hx:P.au n=some x) (hn:fb r.n=true) (hp:0<=r.pub/\r.pub<256) (hv:jH x r.pub<r.n):um P r (P.aK n (some {x with cur:=gl x.cur r.pub r.n}))
theorem um.eqv{P P':PB}{r r':Rec}(h:um P r P')(he:Eqv r r'):um P r' P':=by
 have hm:dE r.cs=true->dE r'.cs=true:=fun h=>by rw[mJ he.cs];exact h
 cases h with
 |aC e hn=>rw[<-he.n]at hn⊢;exact .aC (he.sort.trans e) hn
 |qd e cD lI lR h1 h2=>rw[<-he.st]at h2⊢;rw[<-he.cs];exact .qd (he.sort.trans e) (he.id.trans cD) lI lR (hm h1) h2
 |ends e cD lI hx=>exact .ends (he.sort.trans e) (he.id.trans cD) lI hx
 |ad e cD tN hn hv h1=>rw[<-he.n]at hn hv⊢;rw[<-he.there,<-he.cs];exact .ad (he.sort.trans e) (he.id.trans cD) tN hn hv (hm h1)
 |ack e cD lI hx hn hp hv=>rw[<-he.n]at hn hv⊢;rw[<-he.pub]at hp hv⊢;exact .ack (he.sort.trans e) (he.id.trans cD) lI hx hn hp hv
inductive jC:PB->List Rec->PB->Prop
 |nil (P:PB):jC P [] P
 |cons {P Q R:PB} {r:Rec} {rs:List Rec} (h:um P r Q) (k:jC Q rs R):jC P (r::rs) R
theorem jC.append{P Q R:PB}{rs ss:List Rec}(h:jC P rs Q)(k:jC Q ss R):jC P (rs++ss) R:=by
 induction h with
 |nil=>exact k
 |cons h1 _ ih=>exact .cons h1 (ih k)
def I4(d:PD)(P:PB)(E:PB->Prop)(e:Int)(d':PD)(P':PB):Prop:=((∀Q,¬E Q)/\e≠0/\d'=d/\P'=P)\/∃r Q,E Q/\r.sort≠1/\fQ r/\um P r Q/\oR d (aq (di (cX r)))=(e,d')/\(e≠0->P'=P)/\(e=0->P'=Q)
section
variable{S T:AS}{X:cT}{r:Rec}
theorem um.jkE{P':PB}(h:um X.pure r P'):LV S X r P':=by
 have Zh:∀{n:Nat}{y:iQ},X.pure.au n=some y->∃x,X.au n=some x/\x.pure=y:=fun {n y} h=>by
  have h:(X.au n).map dv.pure=some y:=h;cases e:X.au n with
  |none=>rw[e]at h;cases h
  |some x=>rw[e]at h;exact⟨x,rfl,Option.some.inj h⟩
 cases h with
 |aC e hn=>exact Qr e hn
 | qd e cD lI lR h1 h2=>exact H8 e cD lI (by
   have lR:(X.au _).map dv.pure=none:=lR;exact Option.map_eq_none_iff.1 lR) h1 h2
 |ends e cD lI hx=>obtain⟨x,h1,_⟩:=Zh hx;exact Qs e cD lI h1
 |ad e cD tN hn hv h1=>exact jac e cD tN hn hv h1
 |ack e cD lI hx hn hp hv=>obtain⟨x,h1,rfl⟩:=Zh hx;exact V6 e cD lI h1 hn hp hv
end
def az(X:cT)(E:PB->Prop)(S:AS)(v:AV)(T:AS):Prop:=
 ∃(e:Int)(X':cT),v=.int .i64 e/\bG T X'/\eZ X X' S T/\X'.D.pd.ok/\((e≠0/\X'.pure=X.pure/\X'.cL=X.cL)\/(e=0/\E X'.pure/\X'.cL=X.cL+1))/\I4 X.D.pd X.pure E e X'.D.pd X'.pure/\X'.D.dp=X.D.dp
def jaT(X:cT)(id pub:Int)(n:Nat)(P:PB):Prop:=∃(k:Nat)(x:dv),id=k/\k<8/\X.au k=some x/\0<=pub/\pub<256/\(fb n=true/\jH x.pure pub<n)/\P=X.pure.aK k (some ⟨x.ks.map bare,x.st,gl x.cur pub n⟩)
def jfv(X:cT)(id:Int)(cs:List dH)(st:List (Int×Nat))(P:PB):Prop:=∃k:Nat,id=k/\k<8/\X.au k=none/\(dE cs=true/\fN st=true)/\P=X.pure.aK k (some ⟨cs.map bare,st,[]⟩)
def jfu(X:cT)(id:Int)(P:PB):Prop:=∃(k:Nat)(x:dv),id=k/\k<8/\X.au k=some x/\P=X.pure.aK k none
def Rg(X:cT)(id:Int)(there:Bool)(cs:List dH)(P:PB):Prop:=∃k:Nat,id=k/\k<4/\((X.bg k).fy<1099511627776/\dE cs=true/\(there=false->(X.bg k).there=true))/\P=X.pure.dV k ⟨k,(X.bg k).fy+1,there,cs.map bare⟩
theorem NN{id:Int}{p v:AV}(h:isSl 7 p=true)(hv:isSl 2 v=true):dr C1 115 [(0,.int .i64 2),(1,.int .i64 id),(6,v),(5,p)]=some (.agg [.int .i64 2,.int .i64 id,.int .i64 0,.int .u64 0,.bool false,p,v]):=by
 cases p<;>first|(simp[isSl]at h;done)|(cases v<;>first|(simp[isSl]at hv;done)|kernel_rfl)
theorem jas{id:Int}:dr C1 115 [(0,.int .i64 3),(1,.int .i64 id)]=some (.agg [.int .i64 3,.int .i64 id,.int .i64 0,.int .u64 0,.bool false,.ar,.ar]):=by kernel_rfl
theorem NO{k n:Int}{t:Bool}{p:AV}(h:isSl 7 p=true):dr C1 115 [(0,.int .i64 4),(1,.int .i64 k),(3,.int .u64 n),(4,.bool t),(5,p)]=some (.agg [.int .i64 4,.int .i64 k,.int .i64 0,.int .u64 n,.bool t,p,.ar]):=by
 cases p<;>first|(simp[isSl]at h;done)|kernel_rfl
theorem NM{id pub n:Int}:dr C1 115 [(0,.int .i64 5),(1,.int .i64 id),(2,.int .i64 pub),(3,.int .u64 n)]=some (.agg [.int .i64 5,.int .i64 id,.int .i64 pub,.int .u64 n,.bool false,.ar,.ar]):=by kernel_rfl
section
variable{S T:AS}{X:cT}
theorem zz:aB S .ar []:=⟨Sl.nil,(fun c hc=>by cases hc),by simp⟩
theorem az.no{E:PB->Prop}(h:bG S X)(ok:X.D.pd.ok){e:Int}(he:e≠0)(hs:Sub S T)(hn:∀P,¬E P):az X E S (.int .i64 e) T:=⟨e,X,rfl,h.toSub hs,eZ.of hs,ok,.inl ⟨he,rfl,rfl⟩,.inl ⟨hn,he,rfl,rfl⟩,rfl⟩
theorem pY{r:Rec}{E:PB->Prop}(h:bG S X)(hs:Sub S T)(cJ:da T r)(ho:xd X r)(CW:X.cL<64)(ok:X.D.pd.ok)(hs8:r.st.length<=8){P':PB}(hp:um X.pure r P')(hw:fQ r)(hE:E P')(Xe:r.sort≠1):
  ∃v U,(∀Q:AV->AS->Prop,ah C1 91 [.ptr X.b 0 0 27,.agg r.c] T Q=Q v U)/\bL v=false/\okW v=true/\az X E S v U:=by
 obtain⟨v,U,⟨e,X',rfl,h1,h2,h3,h4,h7,h8⟩,e1⟩:=(Wl (h.toSub hs) cJ ho CW ok hs8 (um.jkE (S:=T) hp)).ex;refine⟨_,U,e1,rfl,rfl,e,X',rfl,h1,(eZ.of hs).trans h2,h3,?_,.inr ⟨r,P',hE,Xe,hw,hp,h7,fun q=>?_,fun q=>?_⟩,h8⟩
 case refine_2=>rcases h4 with⟨_,h5,_⟩|⟨h5,_⟩;exact h5;exact absurd h5 q
 case refine_3=>rcases h4 with⟨h5,_⟩|⟨_,h5,_⟩;exact absurd q h5;exact h5
 rcases h4 with h4|⟨h4,h5,h6⟩
 .exact .inl h4
 .exact .inr ⟨h4,by rw[h5];exact hE,h6⟩
theorem zq{r:Rec}(e1:r.p=.ar)(e2:r.cs=[])(e3:r.sv=.ar):xd X r:=fun id e=>by
 rcases e with e|e
 .rw[e1,e2]at e;rcases e with e|⟨c,hc,_⟩
  .simp[aE]at e
  .cases hc
 .rw[e3]at e;simp[aE]at e
theorem uC{k:Nat}{x:dv}(h:X.au k=some x):X.pure.au k=some x.pure:=by
 show (X.au k).map _=_;rw[h];rfl
theorem Gc{k:Nat}(h:X.au k=none):X.pure.au k=none:=by
 show (X.au k).map _=_;rw[h];rfl
theorem MI:dE []=true:=by decide
theorem Sj{k:Nat}{pub:Int}{n:Nat}(hk:k<256)(hp:0<=pub/\pub<256)(hn:fb n=true):fQ ⟨5,k,pub,n,false,.ar,[],.ar,[]⟩:=
 ⟨by unfold fb at hn;simp at hn;show n<=_;omega,MI,(fun c hc=>by cases hc),by simp,(fun t ht=>by cases ht),by show (0:Int)<=k/\(k:Int)<256;omega,hp,.inr (.inr (.inr (.inr ⟨rfl,rfl,rfl,rfl⟩)))⟩
theorem X4{k:Nat}(hk:k<256):fQ ⟨3,k,0,0,false,.ar,[],.ar,[]⟩:=
 ⟨by simp,MI,(fun c hc=>by cases hc),by simp,(fun t ht=>by cases ht),by show (0:Int)<=k/\(k:Int)<256;omega,by simp,.inr (.inr (.inl ⟨rfl,rfl,rfl,rfl,rfl,rfl⟩))⟩
theorem JZ{st:List (Int×Nat)}(h:fN st=true):∀t,t∈st->0<=t.1/\t.1<256/\t.2<=1099511627777:=by
 unfold fN at h;rw[Bool.and_eq_true]at h;refine fun t ht=>?_;obtain⟨i,hi,rfl⟩:=List.getElem_of_mem ht;have h1:=List.all_eq_true.1 h.1 i (List.mem_range.2 hi);unfold Ja at h1;rw[zza hi]at h1;unfold Tq at h1;simp only[Bool.and_eq_true,decide_eq_true_eq]at h1;omega
theorem Cq{k:Nat}{p sv:AV}{cs:List dH}{st:List (Int×Nat)}(hk:k<256)(hm:dE cs=true)(hn:∀c,c∈cs->cy c)(hr:fN st=true):fQ ⟨2,k,0,0,false,p,cs,sv,st⟩:=
 ⟨by simp,hm,hn,(uH hr).1,JZ hr,by show (0:Int)<=k/\(k:Int)<256;omega,by simp,.inr (.inl ⟨rfl,rfl,rfl,rfl⟩)⟩
theorem jbn{k n:Nat}{there:Bool}{p:AV}{cs:List dH}(hk:k<256)(qy:n<=1099511627776)(hm:dE cs=true)(hn:∀c,c∈cs->cy c)(ht:there=false->cs=[]):fQ ⟨4,k,0,n,there,p,cs,.ar,[]⟩:=
 ⟨by show n<=_;omega,hm,hn,by simp,(fun t ht=>by cases ht),by show (0:Int)<=k/\(k:Int)<256;omega,by simp,.inr (.inr (.inr (.inl ⟨rfl,rfl,rfl,ht⟩)))⟩
theorem jlq(h:bG S X)(ok:X.D.pd.ok)(CW:X.cL<64)(id pub:Int){n:Nat}(hn64:n<18446744073709551616):
  ah C1 41 [.ptr X.b 0 0 27,.int .i64 id,.int .i64 pub,.int .u64 n] S (az X (jaT X id pub n) S):=by
 have sD:=fun Q=>pN h (Q:=Q);have jG:=fun Q=>uD h id (Q:=Q);have ux:=ow (S:=S) (n:=n);obtain⟨v,T,⟨rfl,hT⟩,e88⟩:=(AG h id pub).ex;have eI:=h.row;unfold cT.c at eI;refine Li (cK _) (cM _ rfl) jeG rfl jdg (by simp) fun F hn s0 s1 s2 s3=>?_;cases fI:jL X.au id with
 |none=>
  rw[fI]at jG;simp only[pX]at jG;simp[s0,s1,s2,s3,sD,jG,aP];exact az.no h ok (by decide) (Sub.refl S) fun P ⟨k,x,q1,q2,q3,_⟩=>by rw[q1,my _ q2,q3]at fI;cases fI
 |some x=>
  obtain⟨k,rfl,P8,hx⟩:=vM fI;rw[fI]at jG e88;simp only[pX]at jG;have lR:∀P,jaT X k pub n P->0<=pub/\pub<256/\fb n=true/\jH x.pure pub<n:=fun P ⟨k',x',q1,q2,q3,q4,q5,q6,_⟩=>by
   have:k'=k:=by omega
   subst this;rw[hx]at q3;cases q3;exact⟨q4,q5,q6⟩
  have ec:ja (Option.map dv.pure (some x)) pub=jH x.pure pub:=rfl;rw[ec]at e88;by_cases p0:pub<0
  .simp[s0,s1,s2,s3,sD,jG,aP,p0];exact az.no h ok (by decide) (Sub.refl S) fun P hP=>by have:=lR P hP;omega
  by_cases p1:256<=pub
  .simp[s0,s1,s2,s3,sD,jG,aP,p0,p1];exact az.no h ok (by decide) (Sub.refl S) fun P hP=>by have:=lR P hP;omega
  cases hk:fb n with
  |false=>
   rw[hk]at ux;simp[s0,s1,s2,s3,sD,jG,aP,p0,p1,ux];exact az.no h ok (by decide) (Sub.refl S) fun P hP=>by have:=(lR P hP).2.2.1;rw[hk]at this;cases this
  |true=>
   rw[hk]at ux;by_cases c:n<=jH x.pure pub
   .have cI:(n:Int)<=(jH x.pure pub:Nat):=by omega
    simp[s0,s1,s2,s3,sD,jG,aP,p0,p1,ux,eI,e88,c,cI];exact az.no h ok (by decide) hT fun P hP=>by have:=(lR P hP).2.2.2;omega
   .have cI:¬(n:Int)<=(jH x.pure pub:Nat):=by omega
    obtain⟨r,hr⟩:∃r:Rec,r=⟨5,k,pub,n,false,.ar,[],.ar,[]⟩:=⟨_,rfl⟩
    have cJ:da T r:=by rw[hr];exact⟨zz,Sl.nil,(fun c hc=>by cases hc),hn64,(fun t ht=>by cases ht),by simp⟩
    have Fy:r.c=[.int .i64 5,.int .i64 k,.int .i64 pub,.int .u64 n,.bool false,.ar,.ar]:=by rw[hr];rfl
    obtain⟨v,U,FF,np,okv,iW⟩:=pY (E:=jaT X k pub n) h hT cJ (zq (by rw[hr]) (by rw[hr]) (by rw[hr])) CW ok (by rw[hr];simp)
     (um.ack (P:=X.pure) (r:=r) (x:=x.pure) (by rw[hr]) (by rw[hr]) P8 (uC hx) (by rw[hr];exact hk) (by rw[hr];show 0<=pub/\pub<256;omega) (by rw[hr];show jH x.pure pub<n;omega))
     (by rw[hr];exact Sj (by omega) (by omega) hk) ⟨k,x,rfl,P8,hx,by omega,by omega,⟨hk,by omega⟩,by rw[hr];rfl⟩ (by simp[hr])
    rw[Fy]at FF;simp[s0,s1,s2,s3,sD,jG,aP,p0,p1,ux,eI,e88,c,cI,NM,FF,np,okv];exact iW
theorem Bw(h:bG S X)(ok:X.D.pd.ok)(CW:X.cL<64)(id:Int):ah C1 44 [.ptr X.b 0 0 27,.int .i64 id] S (az X (jfu X id) S):=by
 have sD:=fun Q=>pN h (Q:=Q);have jG:=fun Q=>uD h id (Q:=Q);have eI:=h.row;unfold cT.c at eI;refine bt (cK _) (cM _ rfl) fn44 rfl ok44 (by simp) fun F hn s0 s1=>?_;cases fI:jL X.au id with
 |none=>
  rw[fI]at jG;simp only[pX]at jG;simp[s0,s1,sD,jG,aP];exact az.no h ok (by decide) (Sub.refl S) fun P ⟨k,x,q1,q2,q3,_⟩=>by rw[q1,my _ q2,q3]at fI;cases fI
 |some x=>
  obtain⟨k,rfl,P8,hx⟩:=vM fI;rw[fI]at jG;simp only[pX]at jG;obtain⟨r,hr⟩:∃r:Rec,r=⟨3,k,0,0,false,.ar,[],.ar,[]⟩:=⟨_,rfl⟩
  have cJ:da S r:=by rw[hr];exact⟨zz,Sl.nil,(fun c hc=>by cases hc),(by show 0<18446744073709551616;decide),(fun t ht=>by cases ht),by simp⟩
  have Fy:r.c=[.int .i64 3,.int .i64 k,.int .i64 0,.int .u64 0,.bool false,.ar,.ar]:=by rw[hr];rfl
  obtain⟨v,U,FF,np,okv,iW⟩:=pY (E:=jfu X k) h (Sub.refl S) cJ (zq (by rw[hr]) (by rw[hr]) (by rw[hr])) CW ok (by rw[hr];simp)
   (um.ends (P:=X.pure) (r:=r) (x:=x.pure) (by rw[hr]) (by rw[hr]) P8 (uC hx)) (by rw[hr];exact X4 (by omega)) ⟨k,x,rfl,P8,hx,rfl⟩ (by simp[hr])
  rw[Fy]at FF;simp[s0,s1,sD,jG,aP,jas,FF,np,okv];exact iW
theorem Gb(h:bG S X)(ok:X.D.pd.ok)(CW:X.cL<64)(id:Int){p sv:AV}{cs:List dH}{st:List (Int×Nat)}(hp:aB S p cs)(hn:∀c,c∈cs->cy c)(hs:Sl S sv 2 (st.flatMap eJ))(fI:st.length<=9223372036854775806)
  (Rn:∀i,aW p cs i->¬X.wf i) (UF:∀i,aE sv=i+1->¬X.wf i) :
  ah C1 42 [.ptr X.b 0 0 27,.int .i64 id,p,sv] S (az X (jfv X id cs st) S):=by
 have sD:=fun Q=>pN h (Q:=Q);obtain⟨v,T,⟨rfl,hT⟩,Xq⟩:=(Ml hs fI).ex;obtain⟨v,U,⟨rfl,hU⟩,xE⟩:=(Rh (jP (hp.sub hT))).ex;have hTU:=hT.trans hU;have hX:=h.toSub hTU;have jG:=fun Q=>uD hX id (Q:=Q);have k1:=aj hp.sl;have k2:=aj hs;refine Li (cK _) (cM _ rfl) fn42 rfl ok42 (by simp) fun F fX s0 s1 s2 s3=>?_;by_cases i0:id<0
 .simp[s0,s1,s2,s3,sD,aP,i0];exact az.no h ok (by decide) (Sub.refl S) fun P ⟨k,q1,q2,_⟩=>by omega
 by_cases i8:8<=id
 .simp[s0,s1,s2,s3,sD,aP,i0,i8];exact az.no h ok (by decide) (Sub.refl S) fun P ⟨k,q1,q2,_⟩=>by omega
 cases hr:fN st with
 |false=>
  rw[hr]at Xq;simp[s0,s1,s2,s3,sD,aP,i0,i8,k2,Xq];exact az.no h ok (by decide) hT fun P ⟨k,_,_,_,⟨_,q⟩,_⟩=>by rw[hr]at q;cases q
 |true=>
  rw[hr]at Xq;cases hm:dE cs with
  |false=>
   rw[hm]at xE;simp[s0,s1,s2,s3,sD,aP,i0,i8,k1,k2,Xq,xE];exact az.no h ok (by decide) hTU fun P ⟨k,_,_,_,⟨q,_⟩,_⟩=>by rw[hm]at q;cases q
  |true=>
   rw[hm]at xE;obtain⟨k,rfl⟩:∃k:Nat,id=k:=⟨id.toNat,by omega⟩
   have P8:k<8:=by omega
   rw[my _ P8]at jG;cases hx:X.au k with
   |some x=>
    rw[hx]at jG;simp only[pX]at jG;simp[s0,s1,s2,s3,sD,aP,i0,i8,k1,k2,Xq,xE,jG];exact az.no h ok (by decide) hTU fun P ⟨k',q1,_,q3,_⟩=>by
     have:k'=k:=by omega
     subst this;rw[hx]at q3;cases q3
   |none=>
    rw[hx]at jG;simp only[pX]at jG;obtain⟨r,fi⟩:∃r:Rec,r=⟨2,k,0,0,false,p,cs,sv,st⟩:=⟨_,rfl⟩
    have M0:=uH hr;have cJ:da U r:=by rw[fi];exact⟨hp.sub hTU,hs.toSub hTU,hn,(by show 0<18446744073709551616;decide),(fun t ht=>(M0.2 t ht).2),by show st.length<=_;omega⟩
    have Fy:r.c=[.int .i64 2,.int .i64 k,.int .i64 0,.int .u64 0,.bool false,p,sv]:=by rw[fi];rfl
    have rn:xd X r:=fun i e=>by
     rw[fi]at e;rcases e with e|e
     .exact Rn i e
     .exact UF i e
    obtain⟨v,W,FF,np,okv,iW⟩:=pY (E:=jfv X k cs st) h hTU cJ rn CW ok (by rw[fi];exact M0.1)
     (um.qd (P:=X.pure) (r:=r) (by rw[fi]) (by rw[fi]) P8 (Gc hx) (by rw[fi];exact hm) (by rw[fi];exact hr)) (by rw[fi];exact Cq (by omega) hm hn hr) ⟨k,rfl,P8,hx,⟨hm,hr⟩,by rw[fi]⟩ (by simp[fi])
    rw[Fy]at FF;simp[s0,s1,s2,s3,sD,aP,i0,i8,k1,k2,Xq,xE,jG,NN hp.sl.sl hs.sl,FF,np,okv];exact iW
theorem WZ(eI:S.h.get X.b=some (.row X.c 0 0 false 110)){k:Nat}(hk:k<4):loadT C1 S 27 (.ptr X.b 0 (10+k*4+1) 27)=some (.int .u64 (X.bg k).fy)/\loadT C1 S 4 (.ptr X.b 0 (10+k*4+2) 27)=some (.bool (X.bg k).there):=by
 unfold cT.c at eI;rcases lt4 hk with rfl|rfl|rfl|rfl<;>constructor<;>simp[eI]
theorem xL(h:bG S X)(ok:X.D.pd.ok)(CW:X.cL<64){k:Nat}(tN:k<4)(there:Bool){p:AV}{cs:List dH}(hp:aB S p cs)(hn:∀c,c∈cs->cy c)(hm:dE cs=true)(hth:there=false->cs=[])(hth2:there=false->(X.bg k).there=true)(Rn:∀i,aW p cs i->¬X.wf i):
  ah C1 94 [.ptr X.b 0 0 27,.int .i64 k,.bool there,p] S fun v T=>az X (Rg X k there cs) S v T:=by
 obtain⟨g1,g2⟩:=WZ h.row tN;have jia:=(h.ad k tN).2;have k1:=aj hp.sl;obtain⟨fy,hv⟩:∃fy,fy=(X.bg k).fy:=⟨_,rfl⟩
 rw[<-hv]at g1 jia;have hkI:(k:Int)<4:=by omega
 refine Li (cK _) (cM _ rfl) jjo rfl jgt (by simp) fun F fX s0 s1 s2 s3=>?_;by_cases c:1099511627776<=fy
 .have cI:(1099511627776:Int)<=fy:=by omega
  simp[s0,s1,s2,s3,aP,hkI,tN,g1,c,cI];exact az.no h ok (by decide) (Sub.refl S) fun P ⟨k',q1,_,⟨q2,_⟩,_⟩=>by
   have:k'=k:=by omega
   subst this;omega
 .have cI:¬(1099511627776:Int)<=fy:=by omega
  have hw:IntKind.u64.wrap ((fy:Int)+1)=((fy+1:Nat):Int):=by rw[show ((fy:Int)+1)=((fy+1:Nat):Int) by omega];exact gD (by omega)
  obtain⟨y,hy⟩:∃y,y=fy+1:=⟨_,rfl⟩
  rw[<-hy]at hw;obtain⟨r,fi⟩:∃r:Rec,r=⟨4,k,0,y,there,p,cs,.ar,[]⟩:=⟨_,rfl⟩
  have cJ:da S r:=by rw[fi];exact⟨hp,Sl.nil,hn,(by show y<18446744073709551616;omega),(fun t ht=>by cases ht),by simp⟩
  have Fy:r.c=[.int .i64 4,.int .i64 k,.int .i64 0,.int .u64 y,.bool there,p,.ar]:=by rw[fi];rfl
  have rn:xd X r:=fun i e=>by
   rw[fi]at e;rcases e with e|e
   .exact Rn i e
   .simp[aE]at e
  have hnum:fb r.n=true:=by rw[fi];unfold fb;simp;show 1<=y/\y<=_;omega
  obtain⟨v,W,FF,np,okv,iW⟩:=pY (E:=Rg X k there cs) h (Sub.refl S) cJ rn CW ok (by rw[fi];simp)
   (um.ad (P:=X.pure) (r:=r) (by rw[fi]) (by rw[fi]) tN hnum (by rw[fi];show (X.bg k).fy<y;rw[<-hv];omega) (by rw[fi];exact hm)) (by rw[fi];exact jbn (by omega) (by omega) hm hn hth) ⟨k,rfl,tN,⟨by omega,hm,hth2⟩,by rw[fi,<-hv,<-hy]⟩ (by simp[fi])
  rw[Fy]at FF;simp[s0,s1,s2,s3,aP,hkI,tN,g1,c,cI,hw,k1,NO hp.sl.sl,FF,np,okv];exact iW
theorem IS(h:bG S X)(ok:X.D.pd.ok)(CW:X.cL<64)(id:Int){p:AV}{cs:List dH}(hp:aB S p cs)(hn:∀c,c∈cs->cy c)(Rn:∀i,aW p cs i->¬X.wf i):
  ah C1 45 [.ptr X.b 0 0 27,.int .i64 id,p] S (az X (Rg X id true cs) S):=by
 have sD:=fun Q=>pN h (Q:=Q);obtain⟨v,T,⟨rfl,hT⟩,xE⟩:=(Rh (jP hp)).ex;have k1:=aj hp.sl;refine tW (cK _) (cM _ rfl) fn45 rfl ok45 (by simp) fun F fX s0 s1 s2=>?_;by_cases i0:id<0
 .simp[s0,s1,s2,sD,aP,i0];exact az.no h ok (by decide) (Sub.refl S) fun P ⟨k,q1,q2,_⟩=>by omega
 by_cases i4:4<=id
 .simp[s0,s1,s2,sD,aP,i0,i4];exact az.no h ok (by decide) (Sub.refl S) fun P ⟨k,q1,q2,_⟩=>by omega
 cases hm:dE cs with
 |false=>
  rw[hm]at xE;simp[s0,s1,s2,sD,aP,i0,i4,k1,xE];exact az.no h ok (by decide) hT fun P ⟨k,_,_,⟨_,q,_⟩,_⟩=>by rw[hm]at q;cases q
 |true=>
  rw[hm]at xE;obtain⟨k,rfl⟩:∃k:Nat,id=k:=⟨id.toNat,by omega⟩
  have tN:k<4:=by omega
  obtain⟨v,U,⟨e,X',rfl,q1,q2,q3,q4⟩,e94⟩:=(xL (h.toSub hT) ok CW tN true (hp.sub hT) hn hm (by simp) (by simp) Rn).ex;simp[s0,s1,s2,sD,aP,i0,i4,k1,xE,e94];exact⟨e,X',rfl,q1,(eZ.of hT).trans q2,q3,q4⟩
theorem Jr(h:bG S X)(ok:X.D.pd.ok)(CW:X.cL<64)(id:Int):ah C1 46 [.ptr X.b 0 0 27,.int .i64 id] S (az X (Rg X id false []) S):=by
 have sD:=fun Q=>pN h (Q:=Q);refine bt (cK _) (cM _ rfl) fn46 rfl ok46 (by simp) fun F fX s0 s1=>?_;by_cases i0:id<0
 .simp[s0,s1,sD,aP,i0];exact az.no h ok (by decide) (Sub.refl S) fun P ⟨k,q1,q2,_⟩=>by omega
 by_cases i4:4<=id
 .simp[s0,s1,sD,aP,i0,i4];exact az.no h ok (by decide) (Sub.refl S) fun P ⟨k,q1,q2,_⟩=>by omega
 obtain⟨k,rfl⟩:∃k:Nat,id=k:=⟨id.toNat,by omega⟩
 have tN:k<4:=by omega
 have hkI:(k:Int)<4:=by omega
 obtain⟨g1,g2⟩:=WZ h.row tN;obtain⟨t,ht⟩:∃t,t=(X.bg k).there:=⟨_,rfl⟩
 rw[<-ht]at g2;cases t with
 |false=>
  simp[s0,s1,sD,aP,i0,i4,hkI,tN,g2];exact az.no h ok (by decide) (Sub.refl S) fun P ⟨k',q1,_,⟨_,_,q⟩,_⟩=>by
   have:k'=k:=by omega
   subst this;have:=q rfl;rw[<-ht]at this;cases this
 |true=>
  obtain⟨v,U,⟨e,X',rfl,q1,q2,q3,q4⟩,e94⟩:=(xL h ok CW tN false (p:=.ar) (cs:=[]) zz (fun c hc=>by cases hc) (by decide) (fun _=>rfl) (fun _=>ht.symm) (fun i e=>by
   rcases e with e|⟨c,hc,_⟩
   .simp[aE]at e
   .cases hc)).ex
  simp[s0,s1,sD,aP,i0,i4,hkI,tN,g2,e94];exact⟨e,X',rfl,q1,q2,q3,q4⟩
variable{lo:Nat}
theorem Mr{t e sz bs:Nat}{w:AV}{cs x:List AV}(fI:qh C1 t=some (e,sz,bs))(yB:bN C1 t=some (.slice e))(h:Gw S w sz e cs)(hn:jI lo w)(rr:lo<=S.nx)(hx:x.length=sz)(hf:fits (sLen w+1) bs=true):
  ∃w' T,bh C1 (⟨S.h.set S.nx (.row x 0 0 false e),S.nx+1⟩:AS) .append [t,t] [w,.slice S.nx 0 0 1 sz sz (some 1)]=.val w' T/\Gw T w' sz e (cs++x)/\jI lo w'/\(∀id,id<lo->T.h.get id=S.h.get id)/\S.nx<=T.nx /\
   (∀id,id<S.nx->id+1≠aE w->T.h.get id=S.h.get id)/\(aE w'=aE w\/S.nx<aE w')/\sLen w'=sLen w+1:=by
 obtain⟨S1,bC⟩:∃S1:AS,S1=⟨S.h.set S.nx (.row x 0 0 false e),S.nx+1⟩:=⟨_,rfl⟩
 have s1:Sub S S1:=by rw[bC];exact seg.cq
 have hxs:Sl S1 (.slice S.nx 0 0 1 sz sz (some 1)) sz x:=by
  refine⟨by simp[isSl,eV],?_,by simp[sLen,hx],by simp[aE,bC]⟩;rw[bC];simp[kR,dN,aa,bB,<-hx]
 have hwo:=h.1.old;have g1:=h.agree (T:=S1) (fun id e=>s1.h id (by omega)) s1.nx;obtain⟨w',T,e1,r1,r2,r3,r4,r5,r6,r7⟩:=fo (cx:=C1) (ts:=[]) (u:=t) (p:=(e,sz,bs)) fI yB rfl g1 hxs (by simpa[jb]using hf);rw[bC]at e1;have fX:jI lo w':=by
  rcases r6 with q|q
  .unfold jI;rw[q];exact hn
  .exact .inr (by have:=s1.nx;omega)
 have hk:∀id,id<S.nx->id+1≠aE w->T.h.get id=S.h.get id:=fun id hi ct=>(r2 id (by have:=s1.nx;omega) ct).trans (s1.h id hi);refine⟨w',T,e1,r1,fX,fun id hi=>hk id (by omega) (by rcases hn with q|q<;>omega),Nat.le_trans s1.nx r3,hk,?_,by rw[r4];rfl⟩;rcases r6 with q|q
 .exact .inl q
 .exact .inr (by have:=s1.nx;omega)
theorem nt43:Tryz.f43.ntmps=19:=by kernel_rfl
def jfQ(S:AS)(v:AV)(st:List (Int×Nat))(k:Nat)(F':Fr)(S':AS):Prop:=
 ∃(i:Nat)(w:AV),Sub S S'/\Gw S' w 2 52 ((st.take i).flatMap eJ)/\jI S.nx w/\sl F' 0=v/\sl F' 3=w/\sl F' 4=.int .i64 i/\i<=st.length/\F'.n=19/\k=st.length-i
theorem Mg{v:AV}{st:List (Int×Nat)}{k:Nat}{F':Fr}(i:Nat)(w:AV)(h1:Sub S T)(h2:Gw T w 2 52 ((st.take i).flatMap eJ))(h3:jI S.nx w)(h4:sl F' 0=v)(h5:sl F' 3=w)(h6:sl F' 4=.int .i64 i)(h7:i<=st.length)(h8:F'.n=19)(h9:k=st.length-i):jfQ S v st k F' T:=
 ⟨i,w,h1,h2,h3,h4,h5,h6,h7,h8,h9⟩
theorem Qi{α:Type}{f:α->List AV}{l:List α}{i:Nat}(h:i<l.length):(l.take (i+1)).flatMap f=(l.take i).flatMap f++f l[i]:=by
 rw[zzt h,zzd];simp
theorem R6{v:AV}{st:List (Int×Nat)}(h:Sl S v 2 (st.flatMap eJ))(hb:st.length*16<=140737488355328):ah C1 43 [v] S fun r T=>Sub S T/\Sl T r 2 (st.flatMap eJ)/\jI S.nx r:=by
 have u1:=h.sl;have u2:=h.aO cd (by omega);refine aL (cK _) (cM _ rfl) fn43 rfl ok43 (by simp) fun F hn s0=>?_;rw[nt43]at hn;simp[s0,u1,u2];refine aT (jfQ S v st) st.length (Mg 0 .ar (Sub.refl S) (by simpa using (Gw.nil (S:=S) (sz:=2) (e:=52))) (.inl rfl) (by simp[s0]) (by simp) (by simp) (zzj _) (by simp[hn]) rfl) ?_;clear s0 hn;rintro k F' S'-⟨i,w,hS,hg,Rq,t0,t3,t4,hi,hn,hk⟩;by_cases dh:i<st.length
 .obtain⟨t,hx⟩:∃t,st[i]?=some t:=⟨_,zza dh⟩
  have hxe:st[i]=t:=(List.getElem?_eq_some_iff.1 hx).2;have rr:=dB (cx:=C1) (e:=174) (h.toSub hS) cd (by omega) hx jlj R3;have kT:(i:Int)<st.length:=by omega
  have PX:sLen w=i:=by
   have:=hg.1.aO cd (by omega);rw[this,zzv];omega
  obtain⟨w',U,e1,g1,g2,g3,g4,g5,g6,g7⟩:=Mr (lo:=S.nx) (t:=48) (e:=52) (sz:=2) (bs:=16) (x:=eJ t) XP jfC hg Rq hS.nx rfl (by rw[PX];simp[fits,cY];omega);have jJ:∀(F:Fr)(B:Nat)(y:Tmp),sl F y=.agg (eJ t)->aD C1 F B (.buildSlice 48 1 #[(0,.tmp y)])=some (.slice B 0 0 1 2 2 (some 1),.row (eJ t) 0 0 false 52):=fun F B y a0=>by
   have:=cg (cx:=C1) (F:=F) (t:=48) (p:=(52,2,16)) (id:=B) (n:=1) (a:=#[(0,.tmp y)]) [eJ t] XP rfl (by simp[a0,cellsOf]) (by simp[eJ]) (by decide);rw[this];simp[eJ]
  have lH:=cp (i:=i) (by omega);have kw:=aj hg.1;have kn:=g1.1.np;have Nm:Sub S U:=⟨fun id cD=>(g3 id cD).trans (hS.h id cD),Nat.le_trans hS.nx g4⟩
  rw[<-hxe,<-Qi dh]at g1;simp[t0,t3,t4,u1,u2,dh,kT,rr,jJ,e1,lH,kw,kn];exact⟨st.length-(i+1),by omega,Mg (i+1) w' Nm g1 g2 (by simp[t0]) (by simp) (by simp) (by omega) (by simp[hn]) rfl⟩
 .have:i=st.length:=by omega
  subst this;rw[zqc]at hg;simp[t0,t3,t4,u1,u2,hg.1.np,aj hg.1];exact⟨hS,hg.1,Rq⟩
def zC(pub:Int):Nat:=match fP .and .i64 pub 15 with | .int _ m=>m.toNat|_=>0
theorem PU{m:Int}(h1:0<=m)(h2:m<16):IntKind.i64.wrap m=m:=IntWalk.i64_in m (by omega)
theorem uP(pub:Int):fP .and .i64 pub 15=.int .i64 (zC pub)/\zC pub<16:=by
 have key:∃m:Nat,m<16/\fP .and .i64 pub 15=.int .i64 m:=by
  have bv:∃m:Nat,m<16/\tm .and .i64 pub 15=(m:Int):=by
   have h1:((BitVec.ofInt 64 pub) &&& (BitVec.ofInt 64 15)).toNat<16:=by
    rw[BitVec.toNat_and];have h2:(BitVec.ofInt 64 15).toNat=15:=by decide
    rw[h2];exact Nat.lt_succ_of_le Nat.and_le_right
   refine⟨((BitVec.ofInt 64 pub) &&& (BitVec.ofInt 64 15)).toNat,h1,?_⟩;show IntKind.i64.wrap (((BitVec.ofInt 64 pub) &&& (BitVec.ofInt 64 15)).toNat:Int)=_;exact PU (by omega) (by omega)
  cases pub with
  |ofNat a=>
   show ∃m:Nat,m<16/\cond (Nat.blt a (half .i64)&&Nat.blt 15 (half .i64)) (gP (Nat.land a 15) fun n=>AV.int .i64 (.ofNat n)) (jW (tm .and .i64 (Int.ofNat a) 15) fun n=>AV.int .i64 n)=AV.int .i64 m;cases (Nat.blt a (half .i64)&&Nat.blt 15 (half .i64))with
   |true=>exact⟨a &&& 15,Nat.lt_succ_of_le Nat.and_le_right,by rw[cond_true,aQ];rfl⟩
   |false=>
    obtain⟨m,h1,h2⟩:=bv;exact⟨m,h1,by rw[cond_false,dM,h2]⟩
  |negSucc a=>
   obtain⟨m,h1,h2⟩:=bv;refine⟨m,h1,?_⟩;show jW (tm .and .i64 (Int.negSucc a) 15) (fun n=>AV.int .i64 n)=_;rw[dM,h2]
 obtain⟨m,h1,h2⟩:=key;have e:zC pub=m:=by unfold zC;rw[h2];rfl
 rw[e];exact⟨h2,h1⟩
theorem QO{t:TypeId}{c:Bool}(pub:Int):aZ C1 .and t c (.int .i64 pub) (.int .i64 15)=some (.int .i64 (zC pub)):=by
 show cond (eE .i64 .i64) (some (fP .and .i64 pub 15)) none=_;rw[(uP pub).1];rfl
structure rP where
 gI:Int
 id:Int
 pub:Int
 n:Nat
 p:AV
 cs:List dH
 sv:AV
 st:List (Int×Nat)
 kv:AV
 tv:AV
def rP.c(o:rP):List AV:=[.int .i64 o.gI,.int .i64 o.id,.int .i64 o.pub,.int .u64 o.n,o.p,o.sv,o.kv,o.tv]
theorem Kj(o:rP):o.c.length=8:=rfl
structure LQ(S:AS)(o:rP):Prop where
 pred:aB S o.p o.cs
 num:∀c,c∈o.cs->cy c
 sl:Sl S o.sv 2 (o.st.flatMap eJ)
 len:o.st.length*16<=140737488355328
 n:o.n<18446744073709551616
 kv:cellsOf o.kv=some [o.kv]/\okW o.kv=true
 tv:cellsOf o.tv=some [o.tv]/\okW o.tv=true
theorem LQ.sub{o:rP}(h:LQ S o)(hs:Sub S T):LQ T o:=⟨h.pred.sub hs,h.num,h.sl.toSub hs,h.len,h.n,h.kv,h.tv⟩
def W6(X:cT)(o:rP)(P:PB):Prop:=
 (o.gI<=1/\jaT X o.id (zC o.pub) o.n P)\/(o.gI=2/\jfv X o.id o.cs o.st P)\/(o.gI=3/\jfu X o.id P)\/(o.gI=4/\Rg X o.id true o.cs P)\/(o.gI=5/\Rg X o.id false [] P)
theorem az.mono{E E':PB->Prop}{v:AV}(h:az X E S v T)(hE:∀P,E P↔E' P):az X E' S v T:=by
 obtain⟨e,X',h1,h2,h3,h4,h5,h6⟩:=h;have he:E=E':=funext fun P=>propext (hE P);refine⟨e,X',h1,h2,h3,h4,?_,by rw[<-he];exact h6⟩;clear h6;rcases h5 with h5|⟨h5,h6,h7⟩
 .exact .inl h5
 .exact .inr ⟨h5,(hE _).1 h6,h7⟩
theorem az.pre{E:PB->Prop}{U:AS}{v:AV}(hs:Sub S T)(h:az X E T v U):az X E S v U:=by
 obtain⟨e,X',h1,h2,h3,h4,h5⟩:=h;exact⟨e,X',h1,h2,(eZ.of hs).trans h3,h4,h5⟩
theorem nt9:Tryz.f9.ntmps=48:=by kernel_rfl
theorem do9{o:rP}(h:bG S X)(ok:X.D.pd.ok)(CW:X.cL<64)(ho:LQ S o)(hw:0<=o.gI/\o.gI<=5)(Rn:∀i,aW o.p o.cs i->¬X.wf i):
  ah C1 9 [.ptr X.b 0 0 27,.agg o.c] S (az X (W6 X o) S):=by
 obtain⟨S1,bC⟩:∃S1:AS,S1=⟨S.h.set S.nx (.row o.c 0 0 false 34),S.nx+1⟩:=⟨_,rfl⟩
 have s1:Sub S S1:=by rw[bC];exact seg.cq
 have g1:S1.h.get S.nx=some (.row o.c 0 0 false 34):=by rw[bC];exact aa _ _ _
 have fR:=bC.symm;have n1:S1.nx=S.nx+1:=by rw[bC]
 clear bC;have hX:=h.toSub s1;have Hs:=ho.sub s1;have k1:=aj ho.pred.sl;have k2:=aj ho.sl;have k3:=ho.pred.sl.cells;have k4:=ho.sl.cells;have k5:=ho.kv.1;have k6:=ho.tv.1;have k7:=ho.kv.2;have k8:=ho.tv.2;have ep:=fun (c:Bool)=>QO (t:=3) (c:=c) o.pub;unfold rP.c at fR g1;refine cG (cK _) (cM _ rfl) fn9 rfl ok9 (by simp) fun F hn hs=>?_;rw[nt9]at hn;have s0:=hs 0;have xq:=hs 1;clear hs;simp only[zzr,zzs,zzx,rP.c]at s0 xq;by_cases w0:o.gI<=1
 .have hor:o.gI=0\/o.gI=1:=by omega
  obtain⟨v,U,iW,e41⟩:=(jlq hX ok CW o.id (zC o.pub) ho.n).ex;have hv:okW v=true/\bL v=false:=by obtain⟨e,_,rfl,_⟩:=iW;exact⟨rfl,rfl⟩
  have fin:az X (W6 X o) S v U:=(iW.mono fun P=>⟨fun hP=>.inl ⟨w0,hP⟩,fun hP=>by rcases hP with q|q|q|q|q<;>first|exact q.2|(have:=q.1;omega)⟩).pre s1;rcases hor with hw|hw
  .rw[hw]at fR g1 xq;simp[s0,xq,fR,g1,k1,k2,k3,k4,k5,k6,k7,k8,ep,aP,e41,hv.1,hv.2];exact fin
  .rw[hw]at fR g1 xq;simp[s0,xq,fR,g1,k1,k2,k3,k4,k5,k6,k7,k8,ep,aP,e41,hv.1,hv.2];exact fin
 by_cases w2:o.gI=2
 .obtain⟨sv,T,⟨t1,t2,t3⟩,e43⟩:=(R6 Hs.sl ho.len).ex;have hXT:=hX.toSub t1;have gT:=(t1.h _ (by omega)).trans g1;have xX:∀i,aE sv=i+1->¬X.wf i:=fun i e Jc=>by
   have:=h.tj Jc;unfold jI at t3;omega
  obtain⟨v,U,iW,e42⟩:=(Gb hXT ok CW o.id (Hs.pred.sub t1) ho.num t2 (by have:=ho.len;omega) Rn xX).ex;have hv:okW v=true/\bL v=false:=by obtain⟨e,_,rfl,_⟩:=iW;exact⟨rfl,rfl⟩
  have fin:az X (W6 X o) S v U:=(iW.mono fun P=>⟨fun hP=>.inr (.inl ⟨w2,hP⟩),fun hP=>by rcases hP with q|q|q|q|q<;>first|(have:=q.1;omega)|exact q.2⟩).pre (s1.trans t1);have k9:=aj t2;have ka:=t2.np;rw[w2]at fR g1 xq gT;simp[s0,xq,fR,g1,k1,k2,k3,k4,k5,k6,k7,k8];refine cu [.p,.p,.r 0 1,.p,.r 0 1,.p,.r 0 0,.e [],.e [],.p] (n:=48) (by kernel_rfl) (by simp[hn]) ?_;simp[s0,xq,g1,gT,k1,k2,k7,k8,k9,ka,aP,e43,e42,hv.1,hv.2];exact fin
 by_cases w3:o.gI=3
 .obtain⟨v,U,iW,e44⟩:=(Bw hX ok CW o.id).ex;have hv:okW v=true/\bL v=false:=by obtain⟨e,_,rfl,_⟩:=iW;exact⟨rfl,rfl⟩
  have fin:az X (W6 X o) S v U:=(iW.mono fun P=>⟨fun hP=>.inr (.inr (.inl ⟨w3,hP⟩)),fun hP=>by rcases hP with q|q|q|q|q<;>first|(have:=q.1;omega)|exact q.2⟩).pre s1;rw[w3]at fR g1 xq;simp[s0,xq,fR,g1,k1,k2,k3,k4,k5,k6,k7,k8,aP,e44,hv.1,hv.2];exact fin
 by_cases w4:o.gI=4
 .obtain⟨v,U,iW,e45⟩:=(IS hX ok CW o.id Hs.pred ho.num Rn).ex;have hv:okW v=true/\bL v=false:=by obtain⟨e,_,rfl,_⟩:=iW;exact⟨rfl,rfl⟩
  have fin:az X (W6 X o) S v U:=(iW.mono fun P=>⟨fun hP=>.inr (.inr (.inr (.inl ⟨w4,hP⟩))),fun hP=>by rcases hP with q|q|q|q|q<;>first|(have:=q.1;omega)|exact q.2⟩).pre s1;rw[w4]at fR g1 xq;simp[s0,xq,fR,g1,k1,k2,k3,k4,k5,k6,k7,k8,aP,e45,hv.1,hv.2];exact fin
 have w5:o.gI=5:=by omega
 obtain⟨v,U,iW,e46⟩:=(Jr hX ok CW o.id).ex;have hv:okW v=true/\bL v=false:=by obtain⟨e,_,rfl,_⟩:=iW;exact⟨rfl,rfl⟩
 have fin:az X (W6 X o) S v U:=(iW.mono fun P=>⟨fun hP=>.inr (.inr (.inr (.inr ⟨w5,hP⟩))),fun hP=>by rcases hP with q|q|q|q|q<;>first|(have:=q.1;omega)|exact q.2⟩).pre s1;rw[w5]at fR g1 xq;simp[s0,xq,fR,g1,k1,k2,k3,k4,k5,k6,k7,k8,aP,e46,hv.1,hv.2];exact fin
end
structure iZ{α:Type}(enc:α->List AV)(sz e:Nat)(ft:α->Nat->Prop)(uU:AS->α->Prop)(S:AS)(lo:Nat)(w:AV)(L:List α):Prop where
 gw:Gw S w sz e (L.flatMap enc)
 new:jI lo w
 el:∀a,a∈L->uU S a/\∀id,ft a id->lo<=id/\id<S.nx/\id+1≠aE w
section
variable{α:Type}{enc:α->List AV}{sz e:Nat}{ft:α->Nat->Prop}{uU:AS->α->Prop}{S T:AS}{lo:Nat}{w:AV}{L:List α}
theorem iZ.nil:iZ enc sz e ft uU S lo .ar []:=⟨Gw.nil,.inl rfl,fun a h=>by cases h⟩
theorem iZ.sub(Bz:∀S T a,uU S a->(∀id,ft a id->T.h.get id=S.h.get id)->S.nx<=T.nx->uU T a)(h:iZ enc sz e ft uU S lo w L)(hs:Sub S T):iZ enc sz e ft uU T lo w L:=
 ⟨h.gw.agree (fun id q=>hs.h id (by have:=h.gw.1.old;omega)) hs.nx,h.new,fun a ha=>⟨Bz S T a (h.el a ha).1 (fun id q=>hs.h id ((h.el a ha).2 id q).2.1) hs.nx,fun id q=>by
  have h1:=(h.el a ha).2 id q;have:=hs.nx;exact⟨h1.1,by omega,h1.2.2⟩⟩⟩
theorem iZ.push{t bs:Nat}(fI:qh C1 t=some (e,sz,bs))(yB:bN C1 t=some (.slice e))(Bz:∀S T a,uU S a->(∀id,ft a id->T.h.get id=S.h.get id)->S.nx<=T.nx->uU T a)
  (h:iZ enc sz e ft uU S lo w L) (rr:lo<=S.nx) {a:α} (ha:uU S a) (hf:∀id,ft a id->lo<=id/\id<S.nx/\id+1≠aE w) (hx:(enc a).length=sz) (mQ:fits (sLen w+1) bs=true) :
  ∃w' T,bh C1 (⟨S.h.set S.nx (.row (enc a) 0 0 false e),S.nx+1⟩:AS) .append [t,t] [w,.slice S.nx 0 0 1 sz sz (some 1)]=.val w' T/\iZ enc sz e ft uU T lo w' (L++[a])/\(∀id,id<lo->T.h.get id=S.h.get id)/\S.nx<=T.nx:=by
 obtain⟨w',T,e1,g1,g2,g3,g4,g5,g6,g7⟩:=Mr fI yB h.gw h.new rr hx mQ;have key:∀b,uU S b->(∀id,ft b id->lo<=id/\id<S.nx/\id+1≠aE w)->uU T b/\∀id,ft b id->lo<=id/\id<T.nx/\id+1≠aE w':=fun b h1 h2=>
  ⟨Bz S T b h1 (fun id q=>g5 id (h2 id q).2.1 (h2 id q).2.2) g4,fun id q=>by
   have h3:=h2 id q;refine⟨h3.1,by omega,?_⟩;rcases g6 with q|q<;>omega⟩
 refine⟨w',T,e1,⟨by rw[zzd];simpa using g1,g2,fun b hb=>?_⟩,g3,g4⟩;rcases List.mem_append.1 hb with hb|hb
 .exact key b (h.el b hb).1 (h.el b hb).2
 .simp at hb;subst hb;exact key b ha hf
end
structure ma where
 id:Int
 p:AV
 ks:List dH
 sv:AV
 st:List (Int×Nat)
def ma.c(s:ma):List AV:=[.int .i64 s.id,s.p,s.sv]
def ma.ft(s:ma)(id:Nat):Prop:=aW s.p s.ks id\/aE s.sv=id+1
def ma.ok(S:AS)(s:ma):Prop:=aB S s.p s.ks/\Sl S s.sv 2 (s.st.flatMap eJ)/\s.ks.length<=6/\s.st.length<=8
structure PSb where
 id:Int
 cs:List dH
 st:List (Int×Nat)
def ma.pure(s:ma):PSb:=⟨s.id,s.ks.map bare,s.st⟩
def iS.c(a:iS):List AV:=[.int .i64 a.k,.int .u64 a.fy,.bool a.there,a.p]
def iS.ft(a:iS)(id:Nat):Prop:=aW a.p a.ks id
def iS.ok(S:AS)(a:iS):Prop:=aB S a.p a.ks/\a.ks.length<=6
theorem yh(S T:AS)(s:ma)(h:ma.ok S s)(hs:∀id,s.ft id->T.h.get id=S.h.get id)(hn:S.nx<=T.nx):ma.ok T s:=
 ⟨aB.agree h.1 (fun id q=>hs id (.inl q)) hn,h.2.1.agree (fun id q=>hs id (.inr q)) hn,h.2.2⟩
theorem vB(S T:AS)(s:iS)(h:iS.ok S s)(hs:∀id,s.ft id->T.h.get id=S.h.get id)(hn:S.nx<=T.nx):iS.ok T s:=
 ⟨aB.agree h.1 hs hn,h.2⟩
abbrev N3(S:AS)(lo:Nat)(w:AV)(L:List ma):Prop:=iZ ma.c 3 50 ma.ft ma.ok S lo w L
abbrev N8(S:AS)(lo:Nat)(w:AV)(L:List iS):Prop:=iZ iS.c 4 98 iS.ft iS.ok S lo w L
def W8(P:PB)(i:Nat):Option PSb:=(P.au i).map fun x=>⟨i,x.cs,x.st⟩
def IV(P:PB)(i:Nat):Option IY:=if 0<(P.bg i).fy then some (P.bg i) else none
def jx(P:PB)(n:Nat):List PSb:=(zzb n).filterMap (W8 P)
def iP(P:PB)(n:Nat):List IY:=(zzb n).filterMap (IV P)
theorem yY(P:PB)(n:Nat):jx P (n+1)=jx P n++(match W8 P n with|some s=>[s]|none=>[]):=by
 unfold jx;rw[zzn,List.filterMap_append];cases h:W8 P n<;>simp[h]
theorem xa(P:PB)(n:Nat):iP P (n+1)=iP P n++(match IV P n with|some s=>[s]|none=>[]):=by
 unfold iP;rw[zzn,List.filterMap_append];cases h:IV P n<;>simp[h]
theorem Ay{α β:Type}(f:α->Option β):∀l:List α,(l.filterMap f).length<=l.length
 |[]=>zzp _
 |a::l=>by
  have:=Ay f l;rw[List.filterMap_cons];split<;>simp only[zzh]<;>omega
theorem Cj(P:PB)(n:Nat):(jx P n).length<=n:=by have:=Ay (W8 P) (zzb n);rwa [List.length_range]at this
theorem IU(P:PB)(n:Nat):(iP P n).length<=n:=by have:=Ay (IV P) (zzb n);rwa [List.length_range]at this
def ya(X:cT):AV:=.agg [pX (X.au 0),pX (X.au 1),pX (X.au 2),pX (X.au 3),pX (X.au 4),pX (X.au 5),pX (X.au 6),pX (X.au 7)]
def B6(X:cT):AV:=.agg [.int .i64 (X.bg 0).k,.int .u64 (X.bg 0).fy,.bool (X.bg 0).there,(X.bg 0).p,.int .i64 (X.bg 1).k,.int .u64 (X.bg 1).fy,.bool (X.bg 1).there,(X.bg 1).p,
 .int .i64 (X.bg 2).k,.int .u64 (X.bg 2).fy,.bool (X.bg 2).there,(X.bg 2).p,.int .i64 (X.bg 3).k,.int .u64 (X.bg 3).fy,.bool (X.bg 3).there,(X.bg 3).p]
section
variable{S T:AS}{X:cT}
theorem Uv{F:Fr}{dst:Option Tmp}{ty:TypeId}{pos:String}{af:Array Edge}{gd:Option (Nat×Bool)}{x i:Tmp}{j:Nat}(hx:sl F x=ya X)(hi:sl F i=.int .i64 j)(hj:j<8):
  bF C1 F S ⟨dst,.index 105 (.tmp x) (.tmp i),ty,pos,af,gd⟩=.val (pX (X.au j)) S:=by
 have hu:bN C1 105=some (.array 8 104):=by kernel_rfl
 have hz:aG C1 104=some 1:=by kernel_rfl
 have ha:aN C1 104=some false:=by kernel_rfl
 unfold ya at hx;rcases lt8 hj with rfl|rfl|rfl|rfl|rfl|rfl|rfl|rfl<;>simp[bF,hu,aI,hx,hi,fH,hz,partOf,ha,nth,val?,iJ]
theorem Uu{F:Fr}{dst:Option Tmp}{ty:TypeId}{pos:String}{af:Array Edge}{gd:Option (Nat×Bool)}{x i:Tmp}{j:Nat}(hx:sl F x=B6 X)(hi:sl F i=.int .i64 j)(hj:j<4):
  bF C1 F S ⟨dst,.index 106 (.tmp x) (.tmp i),ty,pos,af,gd⟩=.val (.agg (X.bg j).c) S:=by
 have hu:bN C1 106=some (.array 4 98):=by kernel_rfl
 have hz:aG C1 98=some 4:=by kernel_rfl
 have ha:aN C1 98=some true:=by kernel_rfl
 unfold B6 at hx;rcases lt4 hj with rfl|rfl|rfl|rfl<;>simp[bF,hu,aI,hx,hi,fH,hz,partOf,ha,val?,iJ,iS.c,cR,cF]
end
def oB(q:Nat):PD:=⟨[],q,-1,false⟩
section
variable{S T U:AS}{D:Dk}
theorem jkP(m:Nat)(n:Int):dr C1 130 [(0,AV.map m),(1,AV.int .i64 n),(2,.int .i64 (-1)),(3,.bool false)]=some (.agg [.map m,.int .i64 n,.int .i64 (-1),.bool false]):=by kernel_rfl
theorem jhO{q:Nat}(hq:q<=4194304):ah C1 22 [.int .i64 q] S fun u T=>Sub S T/\∃D,u=.tuple [.ptr D.dp 0 0 4,.int .i64 0]/\aV T D/\D.pd=oB q/\(∀id,D.aU id->S.nx<=id):=by
 have q1:¬((q:Int)<0):=by omega
 have q2:¬((4194304:Int)<q):=by omega
 refine aL (cK _) (cM _ rfl) fn5 rfl ok5 (by simp) fun F hn s0=>?_;simp[s0,q1,q2,jkP];have hf:∀id,(⟨S.nx+1,S.nx,[],q,-1,false⟩:Dk).aU id->S.nx<=id:=fun id hf=>by
  rcases hf with e|e|⟨f,hf,_⟩
  .have e:id=S.nx+1:=e;omega
  .have e:id=S.nx:=e;omega
  .cases hf
 refine⟨⟨fun id hi=>(ae _ _ (by omega)).trans (ae _ _ (by omega)),by show S.nx<=S.nx+2;omega⟩,⟨S.nx+1,S.nx,[],q,-1,false⟩,rfl,?_,rfl,hf⟩;have no:∀{P:Fl->Prop}(f:Fl),f∈([]:List Fl)->P f:=fun f hf=>(by cases hf)
 exact⟨aa _ _ _,zzq (S.nx+1),Nat.lt_succ_of_lt (zzq S.nx),⟨[],0,(ae _ _ (show S.nx≠S.nx+1 by omega)).trans (aa _ _ _),rfl,by simp[pe]⟩,no,no,no,List.Pairwise.nil,Nat.succ_ne_self _,no,no,List.Pairwise.nil,no⟩
def aX:List Nat:=[98,111,111,107,46,110,101,119]
def aM:List Nat:=[98,111,111,107]
theorem T8:(oB 1048576).ok:=⟨by show 0<=512;decide,zzj _,by show 1048576<=_;decide,by show (-1:Int)<_;decide,List.Pairwise.nil⟩
theorem Kx:lh aX=true:=by decide
theorem Ky:lh aM=true:=by decide
theorem jcR:(oB 1048576).create aX=(0,⟨[⟨aX,[],0⟩],1048576,-1,false⟩):=by
 unfold PD.create PD.on PD.bf PD.fJ mq;rw[Kx];rfl
theorem jcS{bs:List AV}(h:bs.length<=100000):PD.append ⟨[⟨aX,[],0⟩],1048576,-1,false⟩ aX bs=(0,⟨[⟨aX,bs,0⟩],1048576,-1,false⟩):=by
 have hf:PD.fc ⟨[⟨aX,[],0⟩],1048576,-1,false⟩ bs.length=0:=by
  unfold PD.fc PD.used;rw[if_neg (by simp;omega)]
 unfold PD.append PD.on PD.bf PD.av;rw[hf,Kx];rfl
theorem jcO{bs:List AV}:PD.sync ⟨[⟨aX,bs,0⟩],1048576,-1,false⟩ aX=(0,⟨[⟨aX,bs,bs.length⟩],1048576,-1,false⟩):=by
 unfold PD.sync PD.on PD.bf PD.av;rw[Kx];rfl
theorem jcP{bs:List AV}:PD.rename ⟨[⟨aX,bs,bs.length⟩],1048576,-1,false⟩ aX aM=(0,⟨[⟨aM,bs,bs.length⟩],1048576,-1,false⟩):=by
 unfold PD.rename PD.on PD.bf PD.av mq;rw[Kx,Ky];rfl
theorem jcQ{bs:List AV}(h:bs.length<=100000):PD.ok ⟨[⟨aM,bs,bs.length⟩],1048576,-1,false⟩:=
 ⟨by show 1<=512;decide,by show (bs.length+0)<=4194304;omega,by show 1048576<=_;decide,by show (-1:Int)<_;decide,by simp⟩
def dF(n:Nat):Rec:=⟨1,0,0,n,false,.ar,[],.ar,[]⟩
theorem jkT(n:Int):dr C1 115 [(0,.int .i64 1),(3,.int .u64 n)]=some (.agg [.int .i64 1,.int .i64 0,.int .i64 0,.int .u64 n,.bool false,.ar,.ar]):=by kernel_rfl
theorem jhK:Tryz.f110.ntmps=90:=by kernel_rfl
end
theorem jjK:C1.fns.get 162=some Tryz.f162:=by kernel_rfl
theorem jgP:okF C1 Tryz.f162=true:=by kernel_rfl
def mV(r:Rec):Rec:={r with p:=.ar,cs:=r.cs.map bare,sv:=.ar}
def Gd(i:Nat)(x:iQ):Rec:=⟨2,i,0,0,false,.ar,x.cs,.ar,x.st⟩
def Q9(i k n:Nat):Rec:=⟨5,i,k,n,false,.ar,[],.ar,[]⟩
def fT(cur:List (Int×Nat)):List Nat:=(cur.map fun t=>t.1.toNat).mergeSort fun a b=>decide (a<=b)
def IW(i:Nat)(x:iQ):List Rec:=(fT x.cur).map fun k=>Q9 i k ((dg x.cur k).getD 0)
def mF(P:PB)(i:Nat):List Rec:=match P.au i with|none=>[]|some x=>Gd i x::IW i x
def adR(k:Int)(a:IY):Rec:=⟨4,k,0,a.fy,a.there,.ar,a.cs,.ar,[]⟩
def kN(P:PB)(k:Nat):List Rec:=if 0<(P.bg k).fy then [adR k (P.bg k)] else []
def iO(P:PB):List Rec:=dF P.aC::((zzb 8).flatMap (mF P)++(zzb 4).flatMap (kN P))
structure LO(P:PB):Prop where
 keys:∀i x,i<8->P.au i=some x->x.cur.length<=256/\(∀t,t∈x.cur->0<=t.1/\t.1<256/\t.2<=1099511627776)/\(x.cur.map (·.1)).Nodup
theorem O3(r:Rec):cX (mV r)=cX r:=Mn ⟨rfl,rfl,rfl,rfl,rfl,by show (r.cs.map bare).map bare=_;rw[zzw];rfl,rfl⟩
structure nD(S:AS)(lo:Nat)(w:AV)(rs:List Rec):Prop where
 gw:Gw S w 7 115 (rs.flatMap Rec.c)
 el:∀r,r∈rs->da S r
 nw:aE w=0\/lo<aE w
section
variable{S T:AS}
theorem nD.sub{lo:Nat}{w:AV}{rs:List Rec}(h:nD S lo w rs)(hs:Sub S T):nD T lo w rs:=
 ⟨h.gw.agree (fun id e=>hs.h id (by have:=h.gw.1.old;omega)) hs.nx,fun r hr=>(h.el r hr).sub hs,h.nw⟩
theorem nD.push{S0:AS}{w:AV}{rs:List Rec}(h:nD S S0.nx w rs)(hs:Sub S0 S){r:Rec}(h0:da S0 r)(hold:∀x,x∈rs->da S0 x)(hl:rs.length<=100000):
  ∃(w':AV)(T:AS),bh C1 ⟨S.h.set S.nx (.row r.c 0 0 false 115),S.nx+1⟩ .append [189,189] [w,.slice S.nx 0 0 1 7 7 (some 1)]=.val w' T/\nD T S0.nx w' (rs++[r])/\Sub S0 T/\S.nx<=T.nx/\(∀id,id<S.nx->id+1≠aE w->T.h.get id=S.h.get id)/\(aE w'=aE w\/S.nx<aE w'):=by
 obtain⟨S1,bC⟩:∃S1:AS,S1=⟨S.h.set S.nx (.row r.c 0 0 false 115),S.nx+1⟩:=⟨_,rfl⟩
 have s1:Sub S S1:=by rw[bC];exact seg.cq
 have g1:S1.h.get S.nx=some (.row r.c 0 0 false 115):=by rw[bC];exact aa _ _ _
 have n1:S1.nx=S.nx+1:=by rw[bC]
 rw[<-bC];have Ey:Sl S1 (.slice S.nx 0 0 1 7 7 (some 1)) 7 r.c:=⟨by simp[isSl,eV],by simp[kR,dN,g1,bB,pF];rw[zqe (by rw[pF];omega)],by simp[sLen,pF],by simp[aE,n1]⟩
 have PX:sLen w=rs.length:=h.gw.1.aO pF (by omega);obtain⟨w',T,e,g,o,n,l,_,b,_⟩:=fo (cx:=C1) (S:=S1) (t:=189) (u:=189) (ts:=[]) (p:=(115,7,88)) (v:=w) (x:=.slice S.nx 0 0 1 7 7 (some 1)) jbh jfE rfl (h.sub s1).gw Ey (by rw[PX];simp[fits,cY,sLen];omega);have Rq:=h.nw;have hwo:=h.gw.1.old;have hsn:=hs.nx;have aR:Sub S0 T:=⟨fun id hi=>by rw[o id (by omega) (by omega),s1.h id (by omega)];exact hs.h id hi,by omega⟩
 refine⟨w',T,e,⟨by rw[zzd,zzg,zzi,zzf];exact g,fun x hx=>?_,by omega⟩,aR,by omega,fun id h1 h2=>by rw[o id (by omega) h2,s1.h id h1],by omega⟩;rcases List.mem_append.1 hx with hx|hx
 .exact (hold x hx).sub aR
 .rw[zzm]at hx;subst hx;exact h0.sub aR
theorem Za{m:Nat}:∀Q:AV->AS->Prop,ah C1 162 [.map m] S Q=Q (.func (.func 202) [] [.ptr S.nx 0 0 1]) ⟨S.h.set S.nx (.row [.map m] 0 0 false 164),S.nx+1⟩:=fun Q=>by
 refine ah.eq (aL (cK _) (cM _ rfl) jjK rfl jgP (by simp) fun F hn s0=>?_);simp[s0]
def xU(l:List Nat):List AV:=l.map fun n:Nat=>AV.int .i64 (n:Int)
theorem OC{m:Nat}{cur:List (Int×Nat)}(hm:Fo S m (fun n:Int=>AV.int .i64 n) (rC cur))(qz:m<S.nx)(hk:∀t,t∈cur->0<=t.1/\t.1<256)(BO:(cur.map (·.1)).Nodup)(hl:cur.length<=1048576):
  ∃v T,(∀Q:AV->AS->Prop,ah C1 161 [.func (.func 202) [] [.ptr S.nx 0 0 1]] ⟨S.h.set S.nx (.row [.map m] 0 0 false 164),S.nx+1⟩ Q=Q v T)/\Sub S T/\Sl T v 1 (xU (fT cur))/\(aE v=0\/S.nx<aE v):=by
 obtain⟨es,clock,h1,h2,h3⟩:=hm;obtain⟨S1,bC⟩:∃S1:AS,S1=⟨S.h.set S.nx (.row [.map m] 0 0 false 164),S.nx+1⟩:=⟨_,rfl⟩
 have s1:Sub S S1:=by rw[bC];exact seg.cq
 have g1:S1.h.get S.nx=some (.row [.map m] 0 0 false 164):=by rw[bC];exact aa _ _ _
 have n1:S1.nx=S.nx+1:=by rw[bC]
 rw[<-bC];clear bC;have hlen:es.length=cur.length:=by have:=congrArg zqa h2;simpa[rC]using this
 have Hw:es.map (·.key)=cur.map fun t=>AV.int .i64 t.1:=by
  have:=congrArg (List.map Prod.fst) h2;simpa[rC,zzw,Function.comp_def]using this
 have M8:es.map srt.tK=cur.map fun t=>t.1.toNat:=by
  have e1:es.map srt.tK=(es.map (·.key)).map fun v:AV=>match v with | .int _ (.ofNat n)=>n|_=>0:=by rw[zzw];rfl
  rw[e1,Hw,zzw];refine zzz fun t ht=>?_;have:=(hk t ht).1;obtain⟨a,b⟩:=t;simp only at this;obtain⟨n,rfl⟩:∃n:Nat,a=n:=⟨a.toNat,by omega⟩
  rfl
 have hQ:srt.LN [.func (.func 202) [] [.ptr S.nx 0 0 1]] S1 es:=⟨S.nx,m,clock,rfl,g1,(s1.h _ qz).trans h1,h3,fun e he=>by
  have:e.key∈cur.map fun t=>AV.int .i64 t.1:=by rw[<-Hw];exact List.mem_map.2 ⟨e,he,rfl⟩
  obtain⟨t,ht,h⟩:=List.mem_map.1 this;have h0:=hk t ht;refine⟨?_,?_⟩
  case refine_2=>
   have:srt.tK e∈es.map srt.tK:=List.mem_map.2 ⟨e,he,rfl⟩;rw[M8]at this;obtain⟨u,hu,q⟩:=List.mem_map.1 this;have:=hk u hu;omega
  have h0:=h0.1;unfold srt.tK;rw[<-h];obtain⟨a,b⟩:=t;simp only at h0⊢;obtain⟨n,rfl⟩:∃n:Nat,a=n:=⟨a.toNat,by omega⟩
  rfl,by
  rw[M8];refine List.pairwise_map.2 ((List.pairwise_map.1 BO).imp_of_mem fun {a b} ha hb e q=>e ?_);have h1:=(hk a ha).1;have h2:=(hk b hb).1;omega,by omega⟩
 have hr:srt.jO es=fT cur:=by unfold srt.jO fT;rw[M8]
 have hq:=srt.DI hQ;rw[hr]at hq;cases BQ:fT cur with
 |nil=>
  rw[BQ]at hq;exact⟨_,_,fun Q=>mT (q:=srt.sL) EA rfl hq rfl,s1,Sl.nil,.inl rfl⟩
 |cons x l=>
  rw[BQ]at hq;refine⟨_,_,fun Q=>mT (q:=srt.sL) EA rfl hq rfl,⟨fun id hi=>(ae _ _ (by omega)).trans (s1.h id hi),by show S.nx<=S1.nx+1;omega⟩,?_,.inr (by show S.nx<S1.nx+1;omega)⟩;refine⟨by simp[isSl,eV],?_,by simp[sLen,xU],by show S1.nx+1<=S1.nx+1;omega⟩;simp[kR,dN,aa,bB,srt.la,xU];rw[zqe (by simp)]
theorem oG(cur:List (Int×Nat)):(fT cur).length=cur.length:=by unfold fT;rw[List.length_mergeSort,zze]
theorem Td{P:PB}(m9:LO P){i:Nat}(hi:i<8):(mF P i).length<=257:=by
 unfold mF;cases hx:P.au i with
 |none=>simp
 |some x=>
  have:=(m9.keys i x hi hx).1;simp[IW,oG];omega
theorem qX{P:PB}(m9:LO P):∀j,j<=8->((zzb j).flatMap (mF P)).length<=j*257
 |0,_=>by simp
 |j+1,hj=>by
  have h1:=qX m9 j (by omega);have h2:=Td m9 (i:=j) (by omega);rw[zzn,zzd,zzg,zzi,zzf,zzc];omega
def jld(S:AS)(X:cT)(k:Nat)(F':Fr)(S':AS):Prop:=
 ∃(j:Nat)(w:AV)(rs:List Rec),Sub S S'/\nD S' S.nx w rs/\(∀r,r∈rs->da S r)/\rs.map mV=dF X.aC::(zzb j).flatMap (mF X.pure)/\sl F' 0=.ptr X.b 0 1 27/\sl F' 3=w/\sl F' 19=ya X/\sl F' 20=.int .i64 j/\j<=8/\F'.n=90/\k=8-j
theorem Fh{X:cT}{k:Nat}{F':Fr}(j:Nat)(w:AV)(rs:List Rec)(h1:Sub S T)(h2:nD T S.nx w rs)(h3:∀r,r∈rs->da S r)(h4:rs.map mV=dF X.aC::(zzb j).flatMap (mF X.pure))(h5:sl F' 0=.ptr X.b 0 1 27)(h6:sl F' 3=w)(h7:sl F' 19=ya X)(h8:sl F' 20=.int .i64 j)(h9:j<=8)(Ez:F'.n=90)(Vo:k=8-j):jld S X k F' T:=
 ⟨j,w,rs,h1,h2,h3,h4,h5,h6,h7,h8,h9,Ez,Vo⟩
def jlc(S:AS)(X:cT)(j:Nat)(x:dv)(v:AV)(ks:List Nat)(k:Nat)(F':Fr)(S':AS):Prop:=
 ∃(i:Nat)(w:AV)(rs:List Rec),Sub S S'/\nD S' S.nx w rs/\(∀r,r∈rs->da S r)/\rs.map mV=dF X.aC::((zzb j).flatMap (mF X.pure)++Gd j x.pure::((ks.take i).map fun k=>Q9 j k ((dg x.cur k).getD 0)))/\Sl S' v 1 (xU ks)/\(aE v=0\/aE v≠aE w) /\
  sl F' 0=.ptr X.b 0 1 27/\sl F' 3=w/\sl F' 4=.int .i64 j/\sl F' 5=.ptr x.s 0 0 4/\sl F' 19=ya X/\sl F' 20=.int .i64 j/\sl F' 46=v/\sl F' 47=.int .i64 ks.length/\sl F' 48=.int .i64 i/\i<=ks.length/\F'.n=90/\k=ks.length-i
theorem NY{X:cT}{j:Nat}{x:dv}{v:AV}{ks:List Nat}{k:Nat}{F':Fr}(i:Nat)(w:AV)(rs:List Rec)(h1:Sub S T)(h2:nD T S.nx w rs)(h3:∀r,r∈rs->da S r)(h4:rs.map mV=dF X.aC::((zzb j).flatMap (mF X.pure)++Gd j x.pure::((ks.take i).map fun k=>Q9 j k ((dg x.cur k).getD 0))))(h5:Sl T v 1 (xU ks))(h6:aE v=0\/aE v≠aE w)
  (h7:sl F' 0=.ptr X.b 0 1 27) (h8:sl F' 3=w) (h9:sl F' 4=.int .i64 j) (Ez:sl F' 5=.ptr x.s 0 0 4) (Vo:sl F' 19=ya X) (h12:sl F' 20=.int .i64 j) (h13:sl F' 46=v) (h14:sl F' 47=.int .i64 ks.length) (h15:sl F' 48=.int .i64 i) (h16:i<=ks.length) (h17:F'.n=90) (h18:k=ks.length-i):jlc S X j x v ks k F' T:=
 ⟨i,w,rs,h1,h2,h3,h4,h5,h6,h7,h8,h9,Ez,Vo,h12,h13,h14,h15,h16,h17,h18⟩
def jlb(S:AS)(X:cT)(k:Nat)(F':Fr)(S':AS):Prop:=
 ∃(j:Nat)(w:AV)(rs:List Rec),Sub S S'/\nD S' S.nx w rs/\(∀r,r∈rs->da S r)/\rs.map mV=dF X.aC::((zzb 8).flatMap (mF X.pure)++(zzb j).flatMap (kN X.pure))/\sl F' 3=w/\sl F' 69=B6 X/\sl F' 70=.int .i64 j/\j<=4/\F'.n=90/\k=4-j
theorem Fg{X:cT}{k:Nat}{F':Fr}(j:Nat)(w:AV)(rs:List Rec)(h1:Sub S T)(h2:nD T S.nx w rs)(h3:∀r,r∈rs->da S r)(h4:rs.map mV=dF X.aC::((zzb 8).flatMap (mF X.pure)++(zzb j).flatMap (kN X.pure)))(h6:sl F' 3=w)(h7:sl F' 69=B6 X)(h8:sl F' 70=.int .i64 j)(h9:j<=4)(Ez:F'.n=90)(Vo:k=4-j):jlb S X k F' T:=
 ⟨j,w,rs,h1,h2,h3,h4,h6,h7,h8,h9,Ez,Vo⟩
theorem No(F:Fr)(B:Nat)(y:Tmp)(r:Rec)(h:sl F y=.agg r.c):aD C1 F B (.buildSlice 189 1 #[(0,.tmp y)])=some (.slice B 0 0 1 7 7 (some 1),.row r.c 0 0 false 115):=by
 have:=cg (cx:=C1) (F:=F) (t:=189) (p:=(115,7,88)) (id:=B) (n:=1) (a:=#[(0,.tmp y)]) [r.c] jbh rfl (by simp[h,cellsOf]) (by simp[Rec.c]) (by decide);rw[this];simp[Rec.c]
theorem jfr{X:cT}(h:bG S X)(m9:LO X.pure):ah C1 110 [.ptr X.b 0 1 27] S fun w T=>Sub S T/\∃rs,nD T S.nx w rs/\(∀r,r∈rs->da S r)/\rs.map mV=iO X.pure:=by
 have eI:=h.row;unfold cT.c at eI;obtain⟨S1,bC⟩:∃S1:AS,S1=⟨S.h.set S.nx (.row (dF X.aC).c 0 0 false 115),S.nx+1⟩:=⟨_,rfl⟩
 have s1:Sub S S1:=by rw[bC];exact seg.cq
 have g1:S1.h.get S.nx=some (.row (dF X.aC).c 0 0 false 115):=by rw[bC];exact aa _ _ _
 have n1:S1.nx=S.nx+1:=by rw[bC]
 have Ac:=(h.toSub s1).row;unfold cT.c at Ac;have fR:=bC.symm;clear bC;have M7:da S (dF X.aC):=⟨⟨Sl.nil,(fun c hc=>(zzl hc).elim),zzj _⟩,Sl.nil,(fun c hc=>(zzl hc).elim),h.aC,(fun t ht=>(zzl ht).elim),zzj _⟩
 have hw0:nD S1 S.nx (.slice S.nx 0 0 1 7 7 (some 1)) [dF X.aC]:=by
  refine⟨⟨⟨by simp[isSl,eV],by simp[kR,dN,g1,bB];rfl,by simp[sLen,pF],by simp[aE,n1]⟩,.inr ⟨S.nx,0,0,1,7,some 1,rfl,by simp[Ip],by rw[n1];exact zzq _,(dF X.aC).c,0,0,g1,zzp _,rfl⟩⟩,fun r hr=>?_,.inr (zzq _)⟩;rw[zzm]at hr;subst hr;exact M7.sub s1
 have jJ:=fun (F:Fr) (B:Nat) (y:Tmp)=>No F B y (dF X.aC);have UT:(dF X.aC).c=[.int .i64 1,.int .i64 0,.int .i64 0,.int .u64 X.aC,.bool false,.ar,.ar]:=rfl;rw[UT]at fR jJ;refine aL (cK _) (cM _ rfl) VL rfl TE (by simp) fun F hn s0=>?_;rw[jhK]at hn;simp[s0,eI,jkT,jJ,fR,Ac];refine aT (jld S X) 8 (Fh 0 _ [dF X.aC] s1 hw0 (fun r hr=>by rw[zzm]at hr;subst hr;exact M7) rfl (by simp[s0]) (by simp) (by simp[ya]) (by simp) (by omega) (by simp[hn]) rfl) ?_;clear s0 hn Ac fR hw0;rintro k F' S'-⟨j,w,rs,hS,hw,hold,vF,t0,t3,t19,t20,hj,hn,hk⟩;have MZ:=(h.toSub hS).row;unfold cT.c at MZ;by_cases M9:j<8
 case neg=>
  obtain rfl:j=8:=by omega
  simp[t0,t3,t19,t20,MZ];refine aT (jlb S X) 4 (Fg 0 w rs hS hw hold (by rw[List.range_zero,zzi,zzf];exact vF) (by simp[t3]) (by simp[B6]) (by simp) (by omega) (by simp[hn]) rfl) ?_;clear t0 t3 t19 t20 hn vF hold hw hS MZ hk;rintro k F' S'-⟨j,w,rs,hS,hw,hold,vF,t3,t69,t70,hj,hn,hk⟩;have kw:=aj hw.gw.1;by_cases Xj:j<4
  case neg=>
   obtain rfl:j=4:=by omega
   simp[t3,t69,t70,kw,hw.gw.1.np];exact⟨hS,rs,hw,hold,vF⟩
  have yD:(j:Int)<4:=by omega
  have yE:∀(F:Fr)(dst:Option Tmp)(ty:TypeId)(pos:String)(af:Array Edge)(gd:Option (Nat×Bool)),sl F 69=B6 X->sl F 70=.int .i64 j->bF C1 F S' ⟨dst,.index 106 (.tmp 69) (.tmp 70),ty,pos,af,gd⟩=.val (.agg (X.bg j).c) S':=fun F dst ty pos af gd h1 h2=>Uu h1 h2 Xj;have UB:=IntWalk.i64_in ((j:Int)+1) (by omega);have qa:=(h.ad j Xj).1;have jia:=(h.ad j Xj).2;simp only[iS.c]at yE;obtain⟨S2,dD⟩:∃S2:AS,S2=⟨(S'.h.set S'.nx (.row [.int .i64 0,.int .u64 0,.bool false,.ar] 0 0 false 98)).set S'.nx (.row [.int .i64 (X.bg j).k,.int .u64 (X.bg j).fy,.bool (X.bg j).there,(X.bg j).p] 0 0 false 98),S'.nx+1⟩:=⟨_,rfl⟩
  have s2:Sub S' S2:=by rw[dD];exact seg.gF
  have g2:S2.h.get S'.nx=some (.row [.int .i64 (X.bg j).k,.int .u64 (X.bg j).fy,.bool (X.bg j).there,(X.bg j).p] 0 0 false 98):=by rw[dD];exact aa _ _ _
  have iN:=dD.symm;clear dD;have k1:=qa.at_.sl.cells;have kp:=aj qa.at_.sl;have Ae:(zzb (j+1)).flatMap (kN X.pure)=(zzb j).flatMap (kN X.pure)++kN X.pure j:=by rw[zzn,zzd,zzg,zzi,zzf]
  by_cases hv:0<(X.bg j).fy
  case neg=>
   have KN:¬(0:Int)<(X.bg j).fy:=by omega
   have h1:kN X.pure j=[]:=by unfold kN;exact if_neg hv
   simp[t3,t69,t70,yD,Xj,yE,k1,iN,g2,hv,KN,UB];exact⟨4-(j+1),by omega,Fg (j+1) w rs (hS.trans s2) (hw.sub s2) hold (by rw[Ae,h1,zzf];exact vF) (by simp[t3]) (by simp[t69]) (by simp) (by omega) (by simp[hn]) rfl⟩
  have KN:(0:Int)<(X.bg j).fy:=by omega
  obtain⟨r,hr⟩:∃r:Rec,r=⟨4,j,0,(X.bg j).fy,(X.bg j).there,(X.bg j).p,(X.bg j).ks,.ar,[]⟩:=⟨_,rfl⟩
  have BL:da S r:=by rw[hr];exact⟨qa.at_,Sl.nil,qa.num,by show (X.bg j).fy<_;omega,(fun t ht=>(zzl ht).elim),zzj _⟩
  have mO:rs.length<=3000:=by
   have h1:=congrArg zqa vF;have h2:=qX m9 8 (by omega);have h3:∀m,m<=4->((zzb m).flatMap (kN X.pure)).length<=m:=by
    intro m
    induction m with
    |zero=>simp
    |succ m ih=>
     intro hm;have:=ih (by omega);rw[zzn,zzd,zzg,zzi,zzf,zzc];have:(kN X.pure m).length<=1:=by unfold kN;split<;>simp
     omega
   have h4:=h3 j (by omega);rw[zze,zzh,zzc]at h1;omega
  obtain⟨w2,T,e1,xV,hT,nT,oT,bT⟩:=(hw.sub s2).push (hS.trans s2) BL hold (by omega);have Fy:r.c=[.int .i64 4,.int .i64 j,.int .i64 0,.int .u64 (X.bg j).fy,.bool (X.bg j).there,(X.bg j).p,.ar]:=by rw[hr];rfl
  have Er:=fun (F:Fr) (B:Nat) (y:Tmp)=>No F B y r;rw[Fy]at e1 Er;have kw2:=aj xV.gw.1;have hba:=NO (k:=j) (n:=(X.bg j).fy) (t:=(X.bg j).there) qa.at_.sl.sl;simp[t3,t69,t70,yD,Xj,yE,k1,iN,g2,hv,KN,UB,kw,kp,hba,Er,e1,xV.gw.1.np,kw2];refine⟨4-(j+1),by omega,Fg (j+1) w2 (rs++[r]) hT xV (fun y hy=>?_) ?_ (by simp) (by simp[t69]) (by simp) (by omega) (by simp[hn]) rfl⟩
  .rcases List.mem_append.1 hy with hy|hy
   .exact hold y hy
   .rw[zzm]at hy;subst hy;exact BL
  .have h1:kN X.pure j=[adR j (X.pure.bg j)]:=by unfold kN;exact if_pos hv
   rw[Ae,h1,zzo,vF];simp[mV,hr,adR,cT.pure,iS.pure]
 have yD:(j:Int)<8:=by omega
 have yE:∀(F:Fr)(dst:Option Tmp)(ty:TypeId)(pos:String)(af:Array Edge)(gd:Option (Nat×Bool)),sl F 19=ya X->sl F 20=.int .i64 j->bF C1 F S' ⟨dst,.index 105 (.tmp 19) (.tmp 20),ty,pos,af,gd⟩=.val (pX (X.au j)) S':=fun F dst ty pos af gd h1 h2=>Uv h1 h2 M9;have UB:=IntWalk.i64_in ((j:Int)+1) (by omega);have Ae:(zzb (j+1)).flatMap (mF X.pure)=(zzb j).flatMap (mF X.pure)++mF X.pure j:=by rw[zzn,zzd,zzg,zzi,zzf]
 cases hx:X.au j with
 |none=>
  rw[hx]at yE;simp only[pX]at yE;have h1:mF X.pure j=[]:=by unfold mF cT.pure;simp[hx]
  simp[t0,t3,t19,t20,yD,M9,yE,UB];exact⟨8-(j+1),by omega,Fh (j+1) w rs hS hw hold (by rw[Ae,h1,zzf];exact vF) (by simp[t0]) (by simp[t3]) (by simp[t19]) (by simp) (by omega) (by simp[hn]) rfl⟩
 |some x=>
  rw[hx]at yE;simp only[pX]at yE;have q0:=h.sub j x M9 hx;have q:=(h.toSub hS).sub j x M9 hx;have zu:=q.row;unfold dv.c at zu;have hPx:X.pure.au j=some x.pure:=by unfold cT.pure;simp[hx]
  obtain⟨ry,hck,Vd⟩:=m9.keys j x.pure M9 hPx;have mO:rs.length<=2057:=by
   have h1:=congrArg zqa vF;have h2:=qX m9 j (by omega);rw[zze,zzh]at h1;omega
  obtain⟨r,hr⟩:∃r:Rec,r=⟨2,j,0,0,false,x.p,x.ks,x.sv,x.st⟩:=⟨_,rfl⟩
  have BL:da S r:=by rw[hr];exact⟨q0.pred.at_,q0.sl,q0.pred.num,by show (0:Nat)<18446744073709551616;decide,fun t ht=>(q0.Fu t ht).2,by have:=q0.sl8;show x.st.length<=_;omega⟩
  have hrb:mV r=Gd j x.pure:=by rw[hr];rfl
  obtain⟨w1,T1,e1,xW,jeq,yv,o1,b1⟩:=hw.push hS BL hold (by omega);have Fy:r.c=[.int .i64 2,.int .i64 j,.int .i64 0,.int .u64 0,.bool false,x.p,x.sv]:=by rw[hr];rfl
  have Er:=fun (F:Fr) (B:Nat) (y:Tmp)=>No F B y r;rw[Fy]at e1 Er;have Zg:=((h.toSub jeq).sub j x M9 hx)
  have GQ:=Zg.row;unfold dv.c at GQ;have jkv:=Za (S:=T1) (m:=x.m);obtain⟨v,T2,jkw,iC,hv,hvb⟩:=OC Zg.map Zg.mlt (fun t ht=>⟨(hck t ht).1,(hck t ht).2.1⟩) Vd (by have:x.cur.length<=256:=ry;omega);have u1:=hv.sl;have u2:=hv.eR;have Hv:(xU (fT x.cur)).length=(fT x.cur).length:=by simp[xU]
  rw[Hv]at u2;have kw:=aj hw.gw.1;have kw1:=aj xW.gw.1;have kp:=aj q.pred.at_.sl;have ks:=aj q.sl;have kv:=aj hv;have hb:=NN (id:=j) q.pred.at_.sl.sl q.sl.sl;have hwo:=hw.gw.1.old;have hw1o:=xW.gw.1.old;have ZH:=iC.nx;simp[t0,t3,t19,t20,yD,M9,yE];refine cu [.p,.p,.p,.p,.p,.p,.r 0 0,.p,.p,.p,.p,.r 0 0,.p,.e [],.e [],.p] (n:=90) (by kernel_rfl) (by simp[hn]) ?_;simp[t0,t3,t19,t20,zu,kw,kp,ks,hb,Er,e1,xW.gw.1.np,kw1,GQ,aP,jkv,jkw,hv.np,kv,u1,u2];refine aT (jlc S X j x v (fT x.cur)) (fT x.cur).length (NY 0 w1 (rs++[r]) (jeq.trans iC) (xW.sub iC) (fun y hy=>?_) ?_ hv (by omega) (by simp[t0]) (by simp) (by simp) (by simp) (by simp[t19]) (by simp[t20]) (by simp) (by simp) (by simp) (zzj _) (by simp[hn]) rfl) ?_
  .rcases List.mem_append.1 hy with hy|hy
   .exact hold y hy
   .rw[zzm]at hy;subst hy;exact BL
  .rw[zzo,vF,zqd,hrb,List.take_zero];rfl
  clear e1 jkw jkv yE kw kw1 kv u1 zu GQ Er hb hv hvb u2 xW hw jeq iC Zg o1 b1 hw1o hwo yv t0 t3 t19 t20 hn hold vF ZH MZ Hv q kp ks hS;rintro k F' S'-⟨i,w,rs,hS,hw,hold,vF,hv,hvb,t0,t3,t4,t5,t19,t20,t46,t47,t48,hi,hn,hk⟩;have u1:=hv.sl;have u2:=hv.eR;have Hv:(xU (fT x.cur)).length=(fT x.cur).length:=by simp[xU]
  rw[Hv]at u2;by_cases dh:i<(fT x.cur).length
  case neg=>
   obtain rfl:i=(fT x.cur).length:=by omega
   rw[zqc]at vF;simp[t0,t3,t4,t5,t19,t20,t46,t47,t48,UB];refine⟨8-(j+1),by omega,Fh (j+1) w rs hS hw hold ?_ (by simp[t0]) (by simp[t3]) (by simp[t19]) (by simp) (by omega) (by simp[hn]) rfl⟩;have h1:mF X.pure j=Gd j x.pure::IW j x.pure:=by unfold mF;rw[hPx]
   rw[Ae,h1];exact vF
  have kT:(i:Int)<(fT x.cur).length:=by omega
  obtain⟨kk,hkk⟩:∃kk,kk=(fT x.cur)[i]:=⟨_,rfl⟩
  have hke:(xU (fT x.cur))[i]?=some (.int .i64 (kk:Int)):=by
   unfold xU;rw[zzu,zza dh,<-hkk];rfl
  have BP:loadT C1 S' 3 (nh v i)=some (.int .i64 (kk:Int)):=fu hv hke (by simp);have qS:=(h.toSub hS).sub j x M9 hx;have zu:=qS.row;unfold dv.c at zu;obtain⟨val,BI⟩:∃val,val=(dg x.cur kk).getD 0:=⟨_,rfl⟩
  have MW:val<18446744073709551616:=by
   rw[BI];cases hg:dg x.cur kk with
   |none=>decide
   |some m=>exact q0.jaj _ (gM hg)
  have lk:lY C1 S' 164 (.map x.m) (.int .i64 (kk:Int)) false=some (.int .u64 (val:Int)):=by
   have:=sd (cx:=C1) (t:=164) (k:=(kk:Int)) (ok:=false) Ud (KI .i64 .i64) (qS.map.mp qS.mlt);rw[kE]at this;rw[BI];cases hg:dg x.cur (kk:Int)with
   |none=>rw[hg]at this;exact this
   |some m=>rw[hg]at this;exact this
  obtain⟨r2,hr2⟩:∃r2:Rec,r2=⟨5,j,kk,val,false,.ar,[],.ar,[]⟩:=⟨_,rfl⟩
  have jij:da S r2:=by rw[hr2];exact⟨⟨Sl.nil,(fun c hc=>(zzl hc).elim),zzj _⟩,Sl.nil,(fun c hc=>(zzl hc).elim),MW,(fun t ht=>(zzl ht).elim),zzj _⟩
  have hrl2:rs.length<=3000:=by
   have h1:=congrArg zqa vF;have h2:=qX m9 j (by omega);have h3:=oG x.cur;have h4:x.cur.length<=256:=ry;rw[zze,zzh,zzc,zzh,zze,zzv]at h1;omega
  obtain⟨w2,T,e1,xV,hT,nT,oT,bT⟩:=hw.push hS jij hold (by omega);have Fy:r2.c=[.int .i64 5,.int .i64 j,.int .i64 kk,.int .u64 val,.bool false,.ar,.ar]:=by rw[hr2];rfl
  have Er:=fun (F:Fr) (B:Nat) (y:Tmp)=>No F B y r2;rw[Fy]at e1 Er;have hwo:=hw.gw.1.old;have hvo:=hv.old;have kw:=aj hw.gw.1;have kw2:=aj xV.gw.1;have hvT:Sl T v 1 (xU (fT x.cur)):=hv.agree (fun id e=>oT id (by omega) (by omega)) nT;have lH:=cp (i:=i) (by have h3:=oG x.cur;have h4:x.cur.length<=256:=ry;omega);have Zz:=NM (id:=j) (pub:=kk) (n:=val);simp[t0,t3,t4,t5,t19,t20,t46,t47,t48,dh,kT,u1,u2,BP,kw,zu,lk,Zz,Er,e1,xV.gw.1.np,kw2,lH];refine⟨(fT x.cur).length-(i+1),by omega,NY (i+1) w2 (rs++[r2]) hT xV (fun y hy=>?_) ?_ hvT (by omega) (by simp[t0]) (by simp) (by simp[t4]) (by simp[t5]) (by simp[t19]) (by simp[t20]) (by simp[t46]) (by simp[t47]) (by simp) dh (by simp[hn]) rfl⟩
  .rcases List.mem_append.1 hy with hy|hy
   .exact hold y hy
   .rw[zzm]at hy;subst hy;exact jij
  .rw[zzo,vF,zzt dh,zzo,<-hkk];simp[mV,hr2,Q9,BI]
variable{U:AS}{D:Dk}{a b:Nat}
theorem jeX(h:aV S D)(ok:D.pd.ok)(ha:S.h.get a=some (.row [.ptr D.dp 0 0 4] 0 0 false 24)):ah C1 112 [.ptr a 0 0 1] S (dk.Left D S (D.pd.create aX)):=by
 obtain⟨r,T,hr,e⟩:=(Qy h ok (name:=aX) (by decide) (by decide)).ex;have Ad:=hr.ret;subst Ad;unfold aX at e;refine aL (cK _) (cM _ rfl) VK rfl TD (by simp) fun F hn s0=>?_;simp[s0,ha,aP,e];exact hr
theorem jfp(h:aV S D)(ok:D.pd.ok)(ha:S.h.get a=some (.row [.ptr D.dp 0 0 4] 0 0 false 24)){v:AV}{bs:List AV}(hb:S.h.get b=some (.row [v] 0 0 false 32))(hv:Sl S v 1 bs)(wD:aE v≠D.dp+1)(sT:bs.length<=1073741824):ah C1 113 [.ptr a 0 0 1,.ptr b 0 0 1] S (dk.Left D S (D.pd.append aX bs)):=by
 obtain⟨r,T,hr,e⟩:=(De h ok (name:=aX) (by decide) (by decide) hv wD sT).ex;have Ad:=hr.ret;subst Ad;unfold aX at e;refine bt (cK _) (cM _ rfl) jkc rfl jhh (by simp) fun F hn s0 s1=>?_;simp[s0,s1,ha,hb,aP,e];exact hr
theorem jcp(h:aV S D)(ok:D.pd.ok)(ha:S.h.get a=some (.row [.ptr D.dp 0 0 4] 0 0 false 24)):ah C1 114 [.ptr a 0 0 1] S (dk.Left D S (D.pd.sync aX)):=by
 obtain⟨r,T,hr,e⟩:=(Mc h ok (name:=aX) (by decide) (by decide)).ex;have Ad:=hr.ret;subst Ad;unfold aX at e;refine aL (cK _) (cM _ rfl) jbS rfl jbt (by simp) fun F hn s0=>?_;simp[s0,ha,aP,e];exact hr
theorem jcF(h:aV S D)(ok:D.pd.ok)(ha:S.h.get a=some (.row [.ptr D.dp 0 0 4] 0 0 false 24)):ah C1 115 [.ptr a 0 0 1] S (dk.Left D S (D.pd.rename aX aM)):=by
 obtain⟨r,T,hr,e⟩:=(O0 h ok (old:=aX) (name:=aM) (by decide) (by decide) (by decide) (by decide) (by decide)).ex;have Ad:=hr.ret;subst Ad;unfold aX aM at e;refine aL (cK _) (cM _ rfl) jkb rfl jhg (by simp) fun F hn s0=>?_;simp[s0,ha,aP,e];exact hr
def eK(a b:Nat):Nat->AV
 |0=>.func (.func 112) [] [.ptr a 0 0 1]
 |1=>.func (.func 113) [] [.ptr a 0 0 1,.ptr b 0 0 1]
 |2=>.func (.func 114) [] [.ptr a 0 0 1]
 |_=>.func (.func 115) [] [.ptr a 0 0 1]
def stepG:Nat->Nat|0=>112|1=>113|2=>114|_=>115
def uE(a b:Nat):Nat->List AV|1=>[.ptr a 0 0 1,.ptr b 0 0 1]|_=>[.ptr a 0 0 1]
theorem Gl(a b i:Nat):eK a b i=.func (.func (stepG i)) [] (uE a b i):=by
 match i with
 |0|1|2=>rfl
 |_+3=>rfl
theorem ED{F:Fr}{B:Nat}{x0 x1 x2 x3:Tmp}(h0:sl F x0=eK a b 0)(h1:sl F x1=eK a b 1)(h2:sl F x2=eK a b 2)(h3:sl F x3=eK a b 3):
  aD C1 F B (.buildSlice 193 4 #[(0,.tmp x0),(1,.tmp x1),(2,.tmp x2),(3,.tmp x3)])=some (.slice B 0 0 4 4 1 (some 4),.row [eK a b 0,eK a b 1,eK a b 2,eK a b 3] 0 0 false 122):=by
 have:=cg (cx:=C1) (F:=F) (t:=193) (p:=(122,1,8)) (id:=B) (n:=4) (a:=#[(0,.tmp x0),(1,.tmp x1),(2,.tmp x2),(3,.tmp x3)]) [[eK a b 0],[eK a b 1],[eK a b 2],[eK a b 3]] Cl rfl (by simp[aI,h0,h1,h2,h3,cellsOf,eK]) (by simp) (by decide);simpa using this
end
theorem jka:C1.fns.get 118=some Tryz.f118:=by kernel_rfl
theorem jhf:okF C1 Tryz.f118=true:=by kernel_rfl
theorem jjZ:C1.fns.get 119=some Tryz.f119:=by kernel_rfl
theorem jhe:okF C1 Tryz.f119=true:=by kernel_rfl
theorem jhJ:Tryz.f118.ntmps=95:=by kernel_rfl
section
variable{S T U:AS}{D:Dk}{a b:Nat}
theorem jcG(h:aV S D)(ok:D.pd.ok)(ha:S.h.get a=some (.row [.ptr D.dp 0 0 4] 0 0 false 24)):ah C1 119 [.ptr a 0 0 1] S (dk.Left D S (D.pd.remove aX)):=by
 obtain⟨r,T,hr,e⟩:=(O1 h ok (name:=aX) (by decide) (by decide)).ex;have Ad:=hr.ret;subst Ad;unfold aX at e;refine aL (cK _) (cM _ rfl) jjZ rfl jhe (by simp) fun F hn s0=>?_;simp[s0,ha,aP,e];exact hr
theorem jev{F:Fr}{B:Nat}{x0:Tmp}{g0:Fn}{a0 b0:List AV}(h0:sl F x0=.func g0 a0 b0):aD C1 F B (.buildSlice 193 1 #[(0,.tmp x0)])=some (.slice B 0 0 1 1 1 (some 1),.row [.func g0 a0 b0] 0 0 false 122):=by
 have:=cg (cx:=C1) (F:=F) (t:=193) (p:=(122,1,8)) (id:=B) (n:=1) (a:=#[(0,.tmp x0)]) [[.func g0 a0 b0]] Cl rfl (by simp[aI,h0,cellsOf]) (by simp) (by decide);simpa using this
theorem jbb:bN C1 193=some (.slice 122):=by kernel_rfl
theorem jbf:aG C1 122=some 1:=by kernel_rfl
theorem Ig{cx:Am.Cx}{t e:TypeId}{d x v:AV}{ts:List TypeId}(hu:bN cx t=some (.slice e))(hs:aG cx e=some 1)(hc:copyV S 1 d x=some (v,T)):bh cx S .copy (t::ts) [d,x]=.val v T:=by
 show (match bN cx t with|some (.slice e)=>(match aG cx e with|some (Nat.succ z)=>ey (copyV S (Nat.succ z) d x) 7|_=>.err 8)|_=>.err 9)=_;rw[hu];simp only[hs];show ey (copyV S 1 d x) 7=_;rw[hc];rfl
theorem jkN{q:Nat}{ts:List TypeId}:bh C1 S .cap (193::ts) [.slice q 0 0 4 4 1 (some 4)]=.val (.int .i64 4) S:=by kernel_rfl
theorem app5{q:Nat}{ts:List TypeId}(T:AS):bh C1 T .append (193::3::ts) [.slice q 0 0 0 4 1 (some 4),.int .i64 5]=.val (.slice T.nx 0 0 5 5 1 none) ⟨T.h.set T.nx (.row [.eQ,.eQ,.eQ,.eQ,.eQ] 0 0 false 122),T.nx+1⟩:=by kernel_rfl
theorem jdF{q p:Nat}{f0 f1 f2 f3 f4:AV}(hq:S.h.get q=some (.row [f1,f2,f3,f4] 0 0 false 122))(hp:S.h.get p=some (.row [f0] 0 0 false 122))(hql:q<S.nx)(kS:p<S.nx):
  ah C1 118 [.slice q 0 0 4 4 1 (some 4),.int .i64 0,.slice p 0 0 1 1 1 (some 1)] S fun r T=>r=.slice S.nx 0 0 5 5 1 none/\T.h.get S.nx=some (.row [f0,f1,f2,f3,f4] 0 0 false 122)/\Sub S T/\S.nx<T.nx:=by
 obtain⟨T1,iD⟩:∃T1:AS,T1=⟨S.h.set S.nx (.row [.eQ,.eQ,.eQ,.eQ,.eQ] 0 0 false 122),S.nx+1⟩:=⟨_,rfl⟩
 have g1:T1.h.get S.nx=some (.row [.eQ,.eQ,.eQ,.eQ,.eQ] 0 0 false 122):=by rw[iD];exact aa _ _ _
 have s1:Sub S T1:=by rw[iD];exact seg.cq
 have a1:=app5 (q:=q) (ts:=[]) S;rw[<-iD]at a1;have Rp:=(s1.h p kS).trans hp;have tk1:takeN 1 [f0]=[f0]:=rfl;have tk4:takeN 4 [f1,f2,f3,f4]=[f1,f2,f3,f4]:=rfl;obtain⟨T2,iC⟩:∃T2:AS,T2=⟨T1.h.set S.nx (.row [f0,.eQ,.eQ,.eQ,.eQ] 0 0 false 122),T1.nx⟩:=⟨_,rfl⟩
 have c1:copyV T1 1 (.slice S.nx 0 0 5 5 1 none) (.slice p 0 0 1 1 1 (some 1))=some (.int .i64 1,T2):=by
  simp[copyV,taken,dN,iT,Rp,g1,bB,dO,tk1,iC]
 have g2:T2.h.get S.nx=some (.row [f0,.eQ,.eQ,.eQ,.eQ] 0 0 false 122):=by rw[iC];exact aa _ _ _
 have k2:∀id,id<S.nx->T2.h.get id=S.h.get id:=fun id hi=>by rw[iC];exact (ae _ _ (by omega)).trans (s1.h id hi)
 have n2:T2.nx=T1.nx:=by rw[iC]
 have BM:=(k2 q hql).trans hq;obtain⟨T3,tg⟩:∃T3:AS,T3=⟨T2.h.set S.nx (.row [f0,f1,f2,f3,f4] 0 0 false 122),T2.nx⟩:=⟨_,rfl⟩
 have c2:copyV T2 1 (.slice S.nx 0 1 4 5 1 none) (.slice q 0 0 4 4 1 (some 4))=some (.int .i64 4,T3):=by
  simp[copyV,taken,dN,iT,BM,g2,bB,dO,tk4,tg]
 have b1:∀ts,bh C1 T1 .copy (193::ts) [.slice S.nx 0 0 5 5 1 none,.slice p 0 0 1 1 1 (some 1)]=.val (.int .i64 1) T2:=fun ts=>Ig jbb jbf c1;have b2:∀ts,bh C1 T2 .copy (193::ts) [.slice S.nx 0 1 4 5 1 none,.slice q 0 0 4 4 1 (some 4)]=.val (.int .i64 4) T3:=fun ts=>Ig jbb jbf c2;have v1:∀(F:Fr)(x:Tmp),sl F x=.int .i64 0->dT C1 F 193 (.slice q 0 0 4 4 1 (some 4)) (some (.tmp x)) none none=some (.slice q 0 0 4 4 1 (some 4)):=fun F x a0=>dx (cx:=C1) (p:=(122,1,8)) (l:=0) (k:=4) Cl rfl (by simp[a0]) (by simp[sLen]) (by omega) (by simp[sLen]);have v2:∀(F:Fr)(x:Tmp),sl F x=.int .i64 0->dT C1 F 193 (.slice q 0 0 4 4 1 (some 4)) none (some (.tmp x)) none=some (.slice q 0 0 0 4 1 (some 4)):=fun F x a0=>dx (cx:=C1) (p:=(122,1,8)) (l:=0) (k:=0) Cl rfl (by simp) (by simp[a0]) (by omega) (by simp[sLen]);have v3:∀(F:Fr)(x:Tmp),sl F x=.int .i64 0->dT C1 F 193 (.slice S.nx 0 0 5 5 1 none) (some (.tmp x)) none none=some (.slice S.nx 0 0 5 5 1 none):=fun F x a0=>dx (cx:=C1) (p:=(122,1,8)) (l:=0) (k:=5) Cl rfl (by simp[a0]) (by simp[sLen]) (by omega) (by simp[sLen]);have v4:∀(F:Fr)(x:Tmp),sl F x=.int .i64 1->dT C1 F 193 (.slice S.nx 0 0 5 5 1 none) (some (.tmp x)) none none=some (.slice S.nx 0 1 4 5 1 none):=fun F x a0=>dx (cx:=C1) (p:=(122,1,8)) (l:=1) (k:=5) Cl rfl (by simp[a0]) (by simp[sLen]) (by omega) (by simp[sLen]);refine cG (cK _) (cM _ rfl) jka rfl jhf (by simp) fun F hn hs=>?_;rw[jhJ]at hn;have s0:=hs 0;have xq:=hs 1;have s2:=hs 2;clear hs;simp only[zzr,zzs,zzx]at s0 xq s2;have w5:IntKind.i64.wrap 5=5:=IntWalk.i64_in 5 (by omega);have w1:IntKind.i64.wrap 1=1:=IntWalk.i64_in 1 (by omega);simp[s0,xq,s2,a1,b1,b2,v1,v2,v3,v4,jkN,w5,w1];refine cu [.p,.p,.p,.p,.p,.p,.p,.p,.e []] (n:=95) (by kernel_rfl) (by simp[hn]) ?_;simp[s0,xq,s2,a1,b1,b2,v1,v2,v3,v4,jkN,w5,w1];exact⟨by rw[tg];exact aa _ _ _,⟨fun id hi=>by rw[tg];exact (ae _ _ (by omega)).trans (k2 id hi),by rw[tg];show S.nx<=T2.nx;rw[n2];exact s1.nx⟩,by rw[tg];show S.nx<T2.nx;rw[n2,iD];exact zzq _⟩
end
theorem Dv{f:PF}:∀{fs:List PF},(fs.map (·.name)).Nodup->f∈fs->((fs.filter fun g=>!(g.name==f.name)).map fun g=>g.bs.length).sum+f.bs.length=(fs.map fun g=>g.bs.length).sum/\(fs.filter fun g=>!(g.name==f.name)).length+1=fs.length
 |[],_,h=>by cases h
 |g::fs,hd,h=>by
  rw[zqd,List.nodup_cons]at hd;rcases List.mem_cons.1 h with rfl|h'
  .have e:fs.filter (fun g=>!(g.name==f.name))=fs:=List.filter_eq_self.2 fun g hg=>by
    have:g.name≠f.name:=fun e=>hd.1 (List.mem_map.2 ⟨g,hg,e⟩);simp[this]
   rw[List.filter_cons];simp[e];omega
  .have ne:¬g.name=f.name:=fun e=>hd.1 (List.mem_map.2 ⟨f,h',e.symm⟩);have ih:=Dv hd.2 h';rw[List.filter_cons];simp[ne];omega
theorem CD{d:PD}(h:d.ok){old name:List Nat}(ct:old≠name):(d.rename old name).2.ok:=h.on fun d' h1 h2 h3 h0=>by
 cases e:d'.file old with
 |none=>exact h1
 |some f=>
  have hm:=PD.jX e;show (d'.mv f name).ok;unfold PD.mv;by_cases hx:d'.has name=true
  .rw[if_pos hx];obtain⟨g,hg⟩:∃g,d'.file name=some g:=Option.isSome_iff_exists.1 hx;have hgm:=PD.jX hg;have hs:=PD.Du (f:=g) (f':=⟨name,f.bs,f.fast⟩) hgm.2.symm h1.names hgm.1;have hn:=PD.vR d' ⟨name,f.bs,f.fast⟩;have CV:f∈(d'.put ⟨name,f.bs,f.fast⟩).fs:=by
    show f∈d'.fs.map _;refine List.mem_map.2 ⟨f,hm.1,if_neg ?_⟩;rw[hm.2];exact ct
   have hd:=Dv (f:=f) (fs:=(d'.put ⟨name,f.bs,f.fast⟩).fs) (by rw[hn];exact h1.names) CV;have hu:=h1.used;unfold PD.used at hu;have hl:(d'.put ⟨name,f.bs,f.fast⟩).fs.length=d'.fs.length:=zze _;refine⟨?_,?_,h1.q,h1.bq,?_⟩
   .show (zzy _ _).length<=512;have:=h1.many;omega
   .show ((zzy _ _).map _).sum<=4194304;have h5:((d'.put ⟨name,f.bs,f.fast⟩).fs.map fun g=>g.bs.length).sum+g.bs.length=(d'.fs.map fun g=>g.bs.length).sum+f.bs.length:=hs;omega
   .show ((zzy _ _).map _).Nodup;exact (show ((d'.put ⟨name,f.bs,f.fast⟩).fs.map (·.name)).Nodup by rw[hn];exact h1.names).sublist (List.filter_sublist.map _)
  .rw[if_neg hx];have M5:¬name∈d'.fs.map (·.name):=fun hh=>hx ((PD.Ew d' name).2 hh);have hd:=Dv (f:=f) (fs:=d'.fs++[⟨name,f.bs,f.fast⟩]) (by
    rw[zzo,List.nodup_append];refine⟨h1.names,by simp,fun a ha b hb=>?_⟩;simp at hb;subst hb;exact fun e=>M5 (e▸ha)) (List.mem_append_left _ hm.1)
   have hu:=h1.used;unfold PD.used at hu;rw[zzo,List.sum_append,zzc]at hd;simp only[zqd,List.map_nil,List.sum_cons,List.sum_nil,zzh,List.length_nil]at hd;refine⟨?_,?_,h1.q,h1.bq,?_⟩
   .show (zzy (fun g=>!(g.name==f.name)) (d'.fs++[⟨name,f.bs,f.fast⟩])).length<=512;have:=h1.many;omega
   .show ((zzy (fun g=>!(g.name==f.name)) (d'.fs++[⟨name,f.bs,f.fast⟩])).map fun g=>g.bs.length).sum<=4194304;omega
   .show ((zzy _ _).map _).Nodup;refine List.Nodup.sublist (List.filter_sublist.map _) ?_;rw[zzo,List.nodup_append];refine⟨h1.names,by simp,fun a ha b hb=>?_⟩;simp at hb;subst hb;exact fun e=>M5 (e▸ha)
noncomputable def SC(r:Rec):List Nat:=di (cX r)
noncomputable def aJ(rs:List Rec):List Nat:=rs.flatMap SC
def rY(bs:List AV)(i:Nat)(d:PD):Int×PD:=match i with|0=>d.remove aX|1=>d.create aX|2=>d.append aX bs|3=>d.sync aX|_=>d.rename aX aM
def iV(bs:List AV):List Nat->PD->Int×PD
 |[],d=>(0,d)
 |i::l,d=>if (rY bs i d).1=0 then iV bs l (rY bs i d).2 else rY bs i d
def xR:Nat->List Nat|0=>[0,1,2,3,4]|1=>[1,2,3,4]|2=>[2,3,4]|3=>[3,4]|4=>[4]|_=>[]
def Pr(d:PD):Nat:=if aS [d.eX,d.av aX]=0 then 0 else 1
def dJ(d:PD)(bs:List AV):Int×PD:=iV bs (xR (Pr d)) d
theorem O2{i:Nat}(h:i<5):xR i=i::xR (i+1):=by
 have:i=0\/i=1\/i=2\/i=3\/i=4:=by omega
 rcases this with rfl|rfl|rfl|rfl|rfl<;>rfl
def stG:Nat->Nat|0=>119|i+1=>stepG i
def stC(a b:Nat):Nat->List AV|0=>[.ptr a 0 0 1]|i+1=>uE a b i
def stF(a b i:Nat):AV:=.func (.func (stG i)) [] (stC a b i)
def stL(a b o:Nat):List AV:=(xR o).map (stF a b)
theorem SB(r:Rec):(SC r).length<=2056:=vf _
theorem jA:∀rs:List Rec,(aJ rs).length<=rs.length*2056
 |[]=>by simp[aJ]
 |r::rs=>by
  have h1:=SB r;have h2:=jA rs;unfold aJ at h2⊢;rw[zzg,zzc,zzh];omega
theorem K9(rs:List Rec):aJ (rs.map mV)=aJ rs:=by
 unfold aJ;rw[List.flatMap_map];have:(fun r=>SC (mV r))=SC:=by funext r;unfold SC;rw[O3]
 rw[this]
theorem WU{P:PB}(m9:LO P):(iO P).length<=2061:=by
 have h2:=qX m9 8 (by omega);have h3:∀m,m<=4->((zzb m).flatMap (kN P)).length<=m:=by
  intro m
  induction m with
  |zero=>simp
  |succ m ih=>
   intro hm;have:=ih (by omega);rw[zzn,zzd,zzg,zzi,zzf,zzc];have:(kN P m).length<=1:=by unfold kN;split<;>simp
   omega
 have h4:=h3 4 (by omega);unfold iO;rw[zzh,zzc];omega
section
variable{S T:AS}
theorem nt52:Tryz.f52.ntmps=66:=by kernel_rfl
structure WrM(S0:AS)(a b dp:Nat)(l:AV)(rs:List Rec)(i:Nat)(S:AS):Prop where
 sub:Sub S0 S
 ra:S.h.get a=some (.row [.ptr dp 0 0 4] 0 0 false 24)
 al:a<S.nx
 bl:b<S.nx
 ab:a≠b
 al0:S0.nx<=a
 bl0:S0.nx<=b
 rcs:Sl S l 7 (rs.flatMap Rec.c)
 lb:aE l≠a+1/\aE l≠b+1
 ex:∃w,S.h.get b=some (.row [w] 0 0 false 32)/\Gw S w 1 5 (aq (aJ (rs.take i)))/\(aE w=0\/(b+1<aE w/\aE w≠aE l))
structure WrS(a b:Nat)(l:AV)(n:Nat)(F':Fr):Prop where
 t2:sl F' 2=.ptr a 0 0 1
 t6:sl F' 6=l
 t7:sl F' 7=.ptr b 0 0 1
 t20:sl F' 20=l
 t21:sl F' 21=.int .i64 n
 n:F'.n=66
def jfz(S0:AS)(a b dp:Nat)(l:AV)(rs:List Rec)(k:Nat)(F':Fr)(S':AS):Prop:=
 ∃i:Nat,WrM S0 a b dp l rs i S'/\WrS a b l rs.length F'/\sl F' 22=.int .i64 i/\i<=rs.length/\k=rs.length-i
theorem L5{S0:AS}{a b dp:Nat}{l:AV}{rs:List Rec}{k:Nat}{F':Fr}(i:Nat)(h1:WrM S0 a b dp l rs i T)(h2:WrS a b l rs.length F')(h3:sl F' 22=.int .i64 i)(h4:i<=rs.length)(h5:k=rs.length-i):jfz S0 a b dp l rs k F' T:=⟨i,h1,h2,h3,h4,h5⟩
def jfy(U1:AS)(D:Dk)(l v:AV)(o:Nat)(bs:List AV)(k:Nat)(F':Fr)(S':AS):Prop:=
 ∃(i:Nat)(D':Dk),aV S' D'/\D'.pd.ok/\iV bs (xR (o+i)) D'.pd=dJ D.pd bs/\D'.dp=D.dp/\nF D D' U1 S'/\o+i<=5/\sl F' 52=v/\sl F' 53=.int .i64 (5-o:Nat)/\sl F' 54=.int .i64 i/\sl F' 6=l/\F'.n=66/\k=5-(o+i)
theorem L4{U1:AS}{D:Dk}{l v:AV}{o:Nat}{bs:List AV}{k:Nat}{F':Fr}(i:Nat)(D':Dk)(h1:aV T D')(vH:D'.pd.ok)(h2:iV bs (xR (o+i)) D'.pd=dJ D.pd bs)(h3:D'.dp=D.dp)(h4:nF D D' U1 T)(h5:o+i<=5)(h6:sl F' 52=v)(h7:sl F' 53=.int .i64 (5-o:Nat))(h8:sl F' 54=.int .i64 i)(h9:sl F' 6=l)(Ez:F'.n=66)(Vo:k=5-(o+i)):jfy U1 D l v o bs k F' T:=
 ⟨i,D',h1,vH,h2,h3,h4,h5,h6,h7,h8,h9,Ez,Vo⟩
theorem Ys{D:Dk}{a b i:Nat}(h:aV S D)(ok:D.pd.ok){v:AV}{bs:List AV}(hi:i<5)(ha:S.h.get a=some (.row [.ptr D.dp 0 0 4] 0 0 false 24))(hb:S.h.get b=some (.row [v] 0 0 false 32))(hv:Sl S v 1 bs)(wD:aE v≠D.dp+1)(sT:bs.length<=1073741824):
  ah C1 (stG i) (stC a b i) S (dk.Left D S (rY bs i D.pd)):=by
 have:i=0\/i=1\/i=2\/i=3\/i=4:=by omega
 rcases this with rfl|rfl|rfl|rfl|rfl
 .exact jcG h ok ha
 .exact jeX h ok ha
 .exact jfp h ok ha hb hv wD sT
 .exact jcp h ok ha
 .exact jcF h ok ha
theorem jcX{d:PD}(h:d.ok)(bs:List AV)(i:Nat)(hi:i<5):(rY bs i d).2.ok:=by
 have:i=0\/i=1\/i=2\/i=3\/i=4:=by omega
 rcases this with rfl|rfl|rfl|rfl|rfl
 .exact h.remove _
 .exact h.create _
 .exact h.append _ _
 .exact h.sync _
 .exact CD h (by decide)
theorem WrM.old{S0:AS}{a b dp:Nat}{l:AV}{rs:List Rec}{i:Nat}(h:WrM S0 a b dp l rs i S):S0.nx<=S.nx:=h.sub.nx
theorem Xz{X:cT}(h:bG S X)(m9:LO X.pure)(ok:X.D.pd.ok)(hr8:∀r,r∈iO X.pure->r.st.length<=8):
  ah C1 52 [.ptr X.D.dp 0 0 4,.ptr X.b 0 1 27] S fun v T=>∃D',v=.tuple [.int .i64 (if (dJ X.D.pd (aq (aJ (iO X.pure)))).1=0 then ((iO X.pure).length:Int) else 0),.int .i64 (dJ X.D.pd (aq (aJ (iO X.pure)))).1] /\
   bG T {X with D:=D'}/\eZ X {X with D:=D'} S T/\D'.pd=(dJ X.D.pd (aq (aJ (iO X.pure)))).2/\D'.dp=X.D.dp:=by
 obtain⟨a,ha⟩:∃a,a=S.nx:=⟨_,rfl⟩
 obtain⟨S1,bC⟩:∃S1:AS,S1=⟨S.h.set a (.row [.ptr X.D.dp 0 0 4] 0 0 false 24),a+1⟩:=⟨_,rfl⟩
 have s1:Sub S S1:=by rw[bC,ha];exact seg.cq
 have ra1:S1.h.get a=some (.row [.ptr X.D.dp 0 0 4] 0 0 false 24):=by rw[bC];exact aa _ _ _
 have n1:S1.nx=a+1:=by rw[bC]
 have fR:=bC.symm;clear bC;obtain⟨l,T1,⟨t1,rs,hl,jis,vF⟩,jkD⟩:=(jfr (h.toSub s1) m9).ex;have t1n:=t1.nx;have hlen:rs.length=(iO X.pure).length:=by rw[<-vF,zze]
 have hl61:=WU m9;have Ak:aJ rs=aJ (iO X.pure):=by rw[<-vF,K9]
 have jif:∀r,r∈rs->r.st.length<=8:=fun r hr=>by
  have:mV r∈iO X.pure:=by rw[<-vF];exact List.mem_map.2 ⟨r,hr,rfl⟩
  have h2:=hr8 (mV r) this;exact h2
 rw[<-Ak,<-hlen];obtain⟨b,hb⟩:∃b,b=T1.nx:=⟨_,rfl⟩
 obtain⟨S2,dD⟩:∃S2:AS,S2=⟨T1.h.set b (.row [.ar] 0 0 false 32),b+1⟩:=⟨_,rfl⟩
 have s2:Sub T1 S2:=by rw[dD,hb];exact seg.cq
 have rb2:S2.h.get b=some (.row [.ar] 0 0 false 32):=by rw[dD];exact aa _ _ _
 have n2:S2.nx=b+1:=by rw[dD]
 have iN:=dD.symm;clear dD;have rr:=hl.gw.1.old;have hlw:=hl.nw;have kl:=aj hl.gw.1;have u1:=hl.gw.1.sl;have u2:sLen l=rs.length:=hl.gw.1.aO pF (by omega);have m0:WrM S a b X.D.dp l rs 0 S2:=⟨(s1.trans t1).trans s2,(s2.h _ (by omega)).trans ((t1.h _ (by omega)).trans ra1),by omega,by omega,by omega,by omega,by have:=(s1.trans t1).nx;omega,hl.gw.1.toSub s2,by omega,.ar,rb2,Gw.nil,.inl rfl⟩
 refine cG (cK _) (cM _ rfl) fn52 rfl ok52 (by simp) fun F hn hs=>?_;rw[nt52]at hn;have s0:=hs 0;have xq:=hs 1;clear hs;simp only[zzr,zzs,zzx]at s0 xq;simp[s0,xq,<-ha,fR,aP,jkD,hl.gw.1.np,kl,<-hb,iN,u1,u2];refine aT (jfz S a b X.D.dp l rs) rs.length (L5 0 m0 ⟨by simp,by simp,by simp,by simp,by simp,by simp[hn]⟩ (by simp) (zzj _) rfl) ?_;clear s0 xq hn m0 rb2 jkD fR iN;rintro k F' S'-⟨i,hM,⟨F8,t6,t7,t20,t21,hn⟩,t22,hi,hk⟩;obtain⟨w,k5,k6,k7⟩:=hM.ex;have hMs:Sub S1 S':=⟨fun id hi=>by
  by_cases e:id=a
  .rw[e];exact hM.ra.trans ra1.symm
  .rw[hM.sub.h id (by omega),s1.h id (by omega)],by have:=hM.al;omega⟩
 by_cases dh:i<rs.length
 .obtain⟨r,Zl⟩:∃r,rs[i]?=some r:=⟨_,zza dh⟩
  have hrm:=zzk Zl;have BL:=(jis r hrm).sub hMs;have BP:=dB (cx:=C1) (e:=115) (k:=i) hM.rcs pF (by decide) Zl jll jfM;have Nj:=hM.al;have sT:=hM.bl;have Nk:=hM.ab;have FB:=hM.lb;have hMo:=hM.old;have jja:=hM.al0;have jem:=hM.bl0;obtain⟨c,hc⟩:∃c,c=S'.nx:=⟨_,rfl⟩
  obtain⟨S3,l7⟩:∃S3:AS,S3=⟨(S'.h.set c (.row [.int .i64 0,.int .i64 0,.int .i64 0,.int .u64 0,.bool false,.ar,.ar] 0 0 false 115)).set c (.row r.c 0 0 false 115),c+1⟩:=⟨_,rfl⟩
  have s3:Sub S' S3:=by rw[l7,hc];exact seg.gF
  have g3:S3.h.get c=some (.row r.c 0 0 false 115):=by rw[l7];exact aa _ _ _
  have n3:S3.nx=c+1:=by rw[l7]
  have nQ:=l7.symm;clear l7;have cJ:=BL.sub s3;obtain⟨fv,T3,⟨t3,w1,gw1⟩,H0⟩:=(AP cJ (jif r hrm)).ex;have hbl':=GM cJ.num cJ.n cJ.Fu (jif r hrm);obtain⟨x,T4,⟨y,e,rfl,t4,w2,gw2⟩,jeT⟩:=(Vt gw1.1 (nz cJ.num) (qO _) (by omega)).ex;have R8:=(s3.trans t3).trans t4;have n34:=R8.nx;have k6':Gw T4 w 1 5 (aq (aJ (rs.take i))):=k6.agree (fun id e=>R8.h id (by have:=k6.1.old;omega)) n34;have PX:sLen w<=2061*2056:=by
   have h1:=k6.1.eR;have h2:=jA (rs.take i);have h3:(rs.take i).length*2056<=2061*2056:=Nat.mul_le_mul_right _ (by rw[zzv];omega);rw[aA]at h1;omega
  have hyl:sLen y<=2056:=by
   have h1:=gw2.1.eR;have h2:=vf (cX r);rw[aA]at h1;omega
  obtain⟨w',T5,e5,g5,o5,n5,q5,_,q6,_⟩:=fo (cx:=C1) (S:=T4) (t:=32) (u:=32) (ts:=[]) (p:=(5,1,1)) (v:=w) (x:=y) tD RS rfl k6' gw2.1 (by simp[fits,cY];omega);have Ap:aq (aJ (rs.take i))++aq (di (cX r))=aq (aJ (rs.take (i+1))):=by
   rw[ig];congr 1;unfold aJ;have:rs[i]=r:=by rw[zza dh]at Zl;exact Option.some.inj Zl
   rw[zzt dh,zzd,zzg,zzi,zzf,this];rfl
  rw[Ap]at g5;have kwo:=k6.1.old;obtain⟨S6,hS6⟩:∃S6:AS,S6=⟨T5.h.set b (.row [w'] 0 0 false 32),T5.nx⟩:=⟨_,rfl⟩
  have b6:S6.h.get b=some (.row [w'] 0 0 false 32):=by rw[hS6];exact aa _ _ _
  have o6:∀id,id≠b->S6.h.get id=T5.h.get id:=fun id hi=>by rw[hS6];exact ae _ _ hi
  have n6:S6.nx=T5.nx:=by rw[hS6]
  have bS6:=hS6.symm;clear hS6;have og:∀id,id<S'.nx->id≠b->id+1≠aE w->S6.h.get id=S'.h.get id:=fun id h1 h2 h3=>by
   rw[o6 _ h2,o5 _ (by omega) h3,R8.h _ h1]
  have rb4:=(R8.h b (by omega)).trans k5;have rb5:T5.h.get b=some (.row [w] 0 0 false 32):=by rw[o5 _ (by omega) (by omega)];exact rb4
  have rc3:=(t3.h c (by omega)).trans g3;have hrco:=hM.rcs.old;have fin:WrM S a b X.D.dp l rs (i+1) S6:=by
   refine⟨⟨fun id hi=>by rw[og id (by omega) (by omega) (by omega)];exact hM.sub.h id hi,by omega⟩,by rw[og _ (by omega) (by omega) (by omega)];exact hM.ra,by omega,by omega,Nk,jja,jem,hM.rcs.agree (fun id e=>og id (by omega) (by omega) (by omega)) (by omega),FB,w',b6,g5.agree (fun id e=>o6 id (by omega)) (by omega),by omega⟩
  have lH:=cp (i:=i) (by omega);have kT:(i:Int)<rs.length:=by omega
  have kw:=aj k6.1;simp only[Rec.c]at nQ g3 rc3 H0 BP;have kp:=aj BL.pred.sl;have ks:=aj BL.sl;have kpc:=BL.pred.sl.cells;have ksc:=BL.sl.cells;simp[F8,t6,t7,t20,t21,t22,dh,kT,u1,u2,kl,BP,<-hc,nQ,g3,kp,ks,kpc,ksc,aP,H0,jeT,gw1.1.np,aj gw1.1,gw2.1.np,aj gw2.1,rb4,kw,e5,g5.1.np,aj g5.1,rb5,bS6,g5.1.cells,lH];exact⟨rs.length-(i+1),by omega,L5 (i+1) fin ⟨by simp[F8],by simp[t6],by simp[t7],by simp[t20],by simp[t21],by simp[hn]⟩ (by simp) dh rfl⟩
 .obtain rfl:i=rs.length:=by omega
  rw[zqc]at k6;obtain⟨bs,nI⟩:∃bs,bs=aq (aJ rs):=⟨_,rfl⟩
  rw[<-nI]at k6⊢;have hbsl:bs.length<=2061*2056:=by
   rw[nI,aA];have h1:=jA rs;have h2:rs.length*2056<=2061*2056:=Nat.mul_le_mul_right _ (by omega);omega
  have k1:=hM.sub;have k2:=hM.ra;have k3:=hM.al;have k4:=hM.bl;have jja:=hM.al0;have jem:=hM.bl0;have Nk:=hM.ab;have k1n:=k1.nx;obtain⟨q,hq⟩:∃q,q=S'.nx:=⟨_,rfl⟩
  obtain⟨S7,hS7⟩:∃S7:AS,S7=⟨S'.h.set q (.row [eK a b 0,eK a b 1,eK a b 2,eK a b 3] 0 0 false 122),q+1⟩:=⟨_,rfl⟩
  have s7:Sub S' S7:=by rw[hS7,hq];exact seg.cq
  have g7:S7.h.get q=some (.row [eK a b 0,eK a b 1,eK a b 2,eK a b 3] 0 0 false 122):=by rw[hS7];exact aa _ _ _
  have n7:S7.nx=q+1:=by rw[hS7]
  have bS7:=hS7.symm;clear hS7;have hd7:aV S7 X.D:=h.iE.sub (k1.trans s7);obtain⟨r,U0,⟨u0',Hp⟩,jab⟩:=(jcz (name:=aX) hd7 (G2 ok) (by decide) (by decide)).ex;have ra7:=(s7.h a k3).trans k2;have u0n:=u0'.nx;have gqU:=(u0'.h q (by omega)).trans g7;have hqS:S.nx<=q:=by omega
  unfold aX at jab;have hf4:∀F B(x0 x1 x2 x3:Tmp),sl F x0=.func (.func 112) [] [.ptr a 0 0 1]->sl F x1=.func (.func 113) [] [.ptr a 0 0 1,.ptr b 0 0 1]->sl F x2=.func (.func 114) [] [.ptr a 0 0 1]->sl F x3=.func (.func 115) [] [.ptr a 0 0 1]->aD C1 F B (.buildSlice 193 4 #[(0,.tmp x0),(1,.tmp x1),(2,.tmp x2),(3,.tmp x3)])=some (.slice B 0 0 4 4 1 (some 4),.row [eK a b 0,eK a b 1,eK a b 2,eK a b 3] 0 0 false 122):=fun F B x0 x1 x2 x3 c0 c1 c2 c3=>ED c0 c1 c2 c3;obtain⟨o,ho⟩:∃o,o=Pr X.D.pd:=⟨_,rfl⟩
  have Hs:o<=1:=by rw[ho];unfold Pr;split<;>omega
  have jR:o=if aS [X.D.eX,X.D.av aX]=0 then 0 else 1:=by rw[ho];unfold Pr;rw[ou];rfl
  obtain⟨z,rfl,hz⟩:∃(z:Int×Int),r=.tuple [.int .i64 z.1,.int .i64 z.2]/\(z.2=0↔o=0):=by
   rcases Hp with⟨q0,rfl⟩|⟨q0,f,_,rfl⟩
   .exact⟨(0,aS [X.D.eX,X.D.av aX]),rfl,by rw[jR,if_neg q0];simp only[q0,false_iff];decide⟩
   .exact⟨((f.bs.length:Int),0),rfl,by rw[jR,if_pos q0];exact Iff.intro (fun _=>rfl) fun _=>rfl⟩
  obtain⟨z1,z2⟩:=z;simp only[]at hz;simp[-cz,F8,t6,t7,t20,t21,t22,hf4,<-hq,bS7,ra7,aP,jab];rw[cz];simp[-cz,F8,t6,t7,t20,t21,t22,hf4,<-hq,bS7,ra7,aP,jab];refine nK (fun F1 U1=>∃v,sl F1 12=v/\sl F1 6=l/\F1.n=66/\Sl U1 v 1 (stL a b o)/\sLen v=5-o/\S.nx<aE v/\Sub U0 U1) ?_ ?_
  .by_cases h0:z2=0
   .have o0:=hz.1 h0;subst h0;obtain⟨U2,hU2⟩:∃U2:AS,U2=⟨U0.h.set U0.nx (.row [.func (.func 119) [] [.ptr a 0 0 1]] 0 0 false 122),U0.nx+1⟩:=⟨_,rfl⟩
    have s2:Sub U0 U2:=by rw[hU2];exact seg.cq
    have g2:U2.h.get U0.nx=some (.row [.func (.func 119) [] [.ptr a 0 0 1]] 0 0 false 122):=by rw[hU2];exact aa _ _ _
    have n2:U2.nx=U0.nx+1:=by rw[hU2]
    have bU2:=hU2.symm;have KW:∀F B(x0:Tmp),sl F x0=.func (.func 119) [] [.ptr a 0 0 1]->aD C1 F B (.buildSlice 193 1 #[(0,.tmp x0)])=some (.slice B 0 0 1 1 1 (some 1),.row [.func (.func 119) [] [.ptr a 0 0 1]] 0 0 false 122):=fun F B x0 c0=>jev c0;obtain⟨w5,U3,⟨rfl,g3,s3,g3l⟩,e118⟩:=(jdF ((s2.h q (by omega)).trans gqU) g2 (by omega) (by omega)).ex;have s3n:=s3.nx;simp[KW,bU2,aP,e118,F8,t6,hn];refine⟨⟨by simp[isSl,eV],?_,?_,by simp[aE];omega⟩,by rw[o0],by simp[aE];omega,s2.trans s3⟩
    .rw[o0];simp[kR,dN,g3,bB,stL,xR,stF,stG,stC,Gl]
    .rw[o0];simp[stL,xR,sLen]
   .have o1:o=1:=by have:¬o=0:=fun e=>h0 (hz.2 e);omega
    simp[h0,t6,hn];refine⟨⟨by simp[isSl,eV],?_,?_,by simp[aE];omega⟩,by rw[o1],by simp[aE];omega,Sub.refl _⟩
    .rw[o1];simp[kR,dN,gqU,bB,stL,xR,stF,stG,stC,Gl]
    .rw[o1];simp[stL,xR,sLen]
  clear F8 t6 t7 t20 t21 t22 hn bS7 jab hf4;rintro F1 U1 ⟨v,t12,t6,hn,hv,MW,hvb,FX⟩;have u1n:=FX.nx;have FX:=u0'.trans FX;have dU:aV U1 X.D:=hd7.sub FX;have Nm:Sub S U1:=(k1.trans s7).trans FX;have nfa:∀id,S.nx<=id->¬X.D.aU id:=fun id hi hf=>by have:=h.iE.lt hf;omega
  have gaU:=(FX.h a (by have:=s7.nx;omega)).trans ra7;have gbU:=(FX.h b (by have:=s7.nx;omega)).trans ((s7.h b k4).trans k5);have gwU:=(k6.1.toSub s7).toSub FX;have hw6:aE w<=S'.nx:=k6.1.old;have Al:=h.iE.C8;have hwlo:aE w=0\/S.nx<aE w:=by have:=k7;omega
  have hvs:=hv.sl;simp[t12,t6,hvs,MW];refine aT (jfy U1 X.D l v o bs) (5-o) (L4 0 X.D dU ok (by rw[ho];rfl) rfl nF.refl (by omega) (by simp[t12]) (by simp) (by simp) (by simp[t6]) (by simp[hn]) (by omega)) ?_;clear t12 t6 hn;rintro k F' S8-⟨i,D',d1,ok',d2,d3,d4,hi,t52,t53,t54,t6,hn,hk⟩;have ga8:S8.h.get a=some (.row [.ptr D'.dp 0 0 4] 0 0 false 24):=by rw[d3];exact (d4.ca a (by omega) (nfa a (by omega))).trans gaU
  have gb8:=(d4.ca b (by omega) (nfa b jem)).trans gbU;have hv8:=hv.agree (fun id e=>d4.ca id (by have:=hv.old;omega) (nfa id (by omega))) d4.nx;by_cases hi4:o+i<5
  .have hw8:Sl S8 w 1 bs:=gwU.agree (fun id e=>d4.ca id (by omega) (nfa id (by omega))) d4.nx;obtain⟨r,V,hL,ec⟩:=(Ys d1 ok' hi4 ga8 gb8 hw8 (by rw[d3];omega) (by omega)).ex;obtain⟨Ad,D2,f1,f2,f3,f4⟩:=hL;subst Ad;have v4:=d4.trans f4;have hX:∀i,i<5->C1.exts.get (stG i)=none:=fun i hi=>by
    have:i=0\/i=1\/i=2\/i=3\/i=4:=by omega
    rcases this with rfl|rfl|rfl|rfl|rfl<;>exact aP _ rfl
   have hxi:=hX _ hi4;have BP:loadT C1 S8 122 (nh v i)=some (.func (.func (stG (o+i))) [] (stC a b (o+i))):=by
    refine fu hv8 ?_ jbX;have:∀o i,o<=1->o+i<5->(stL a b o)[i]?=some (stF a b (o+i)):=fun o i h1 h2=>by
     have:(o=0\/o=1)/\(i=0\/i=1\/i=2\/i=3\/i=4):=by omega
     rcases this with⟨rfl|rfl,rfl|rfl|rfl|rfl|rfl⟩<;>first|rfl|omega
    exact this o i Hs hi4
   have kT:(i:Int)<((5-o:Nat):Int):=by omega
   have Eo:i<5-o:=by omega
   have jhZ:i<sLen v:=by omega
   have lH:=cp (i:=i) (by omega);have qv:iV bs (xR (o+i)) D'.pd=if (rY bs (o+i) D'.pd).1=0 then iV bs (xR (o+i+1)) (rY bs (o+i) D'.pd).2 else rY bs (o+i) D'.pd:=by rw[O2 hi4];rfl
   have sZ:=jcX ok' bs _ hi4;obtain⟨e,he⟩:∃e,e=(rY bs (o+i) D'.pd).1:=⟨_,rfl⟩
   rw[<-he]at qv ec;by_cases hz:e=0
   .rw[if_pos hz]at qv;rw[hz]at ec;simp[t52,t53,t54,t6,kT,Eo,jhZ,hvs,BP,hxi,ec,lH];exact⟨5-(o+(i+1)),by omega,L4 (i+1) D2 f1 (by rw[f2];exact sZ) (by rw[<-d2,qv,f2];rfl) (f3.trans d3) v4 (by omega) (by simp[t52]) (by simp[t53]) (by simp) (by simp[t6]) (by simp[hn]) rfl⟩
   .rw[if_neg hz]at qv;rw[qv]at d2;have PV:¬(dJ X.D.pd bs).1=0:=by rw[<-d2,<-he];exact hz
    have hez:e=(dJ X.D.pd bs).1:=by rw[<-d2];exact he
    obtain⟨o1,o2⟩:=(h.toSub Nm).onD f1 (f3.trans d3) v4;simp[t52,t53,t54,t6,kT,Eo,jhZ,hvs,BP,hxi,ec,hz,PV];exact⟨hez,D2,o1,(eZ.of Nm).trans o2,by rw[f2,d2],f3.trans d3⟩
  .have UN:o+i=5:=by omega
   rw[UN]at d2;have hw0:dJ X.D.pd bs=(0,D'.pd):=d2.symm;have kl':=kl;have kT:¬((i:Int)<((5-o:Nat):Int)):=by omega
   have Eo:¬(i<5-o):=by omega
   rw[hw0];simp[t52,t53,t54,t6,u1,u2,kl,kT,Eo];obtain⟨o1,o2⟩:=(h.toSub Nm).onD d1 d3 d4;exact⟨D',o1,(eZ.of Nm).trans o2,rfl,d3⟩
end
end Go.Proofs.YtdknlbnljfdhgaaGreatDoor.bk
