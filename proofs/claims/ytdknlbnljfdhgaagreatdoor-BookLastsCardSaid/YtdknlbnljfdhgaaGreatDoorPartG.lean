/-
  The frames that were written are read: plain Lean.
-/
import Derived.Test.YtdknlbnljfdhgaaGreatDoorPartF
import Derived.Test.YtdknlbnljfdhgaaGreatDoorPartE
open Nat renaming le_refl->zza,zero_le->zzl,add_comm->zzy,le_add_right->zqb
open List renaming length_append->zzb,append_assoc->zzc,getElem?_eq_getElem->zzd,mem_of_getElem?->zze,range->zzf,mem_cons_of_mem->zzg,getElem?_map->zzh,take_of_length_le->zzi,append_nil->zzj,length->zzk,mem_cons_self->zzm,drop_of_length_le->zzn,map_congr_left->zzo,map_cons->zzp,getElem?_cons_zero->zzq,getElem?_cons_succ->zzr,not_mem_nil->zzs,length_take->zzt,getElem?_range->zzv,mem_singleton->zzw,length_cons->zzz,drop_append_of_le_length->zqa,length_map->zqc
open Option renaming map_some->zzu,getD_some->zzx
set_option linter.unusedVariables false
set_option linter.unusedSimpArgs false
set_option maxRecDepth 20000
namespace Go.Proofs.YtdknlbnljfdhgaaGreatDoor.bk
open Go Go.Am Go.Proofs.YtdknlbnljfdhgaaGreatDoor.dk
theorem DO{a b n:Nat}(h:a<2 ^ n):a ||| b*2 ^ n=a+b*2 ^ n:=by
 rw[Nat.or_comm,zzy,Nat.mul_comm,<-Nat.two_pow_add_eq_or_of_lt h]
theorem MO{a b c d:Nat}(ha:a<256)(hb:b<256)(hc:c<256):KH a b c d=a+b*256+c*65536+d*16777216:=by
 unfold KH;have e1:=DO (a:=a) (b:=b) (n:=8) (by simpa using ha);have e2:=DO (a:=a+b*256) (b:=c) (n:=16) (by show _<65536;omega);have e3:=DO (a:=a+b*256+c*65536) (b:=d) (n:=24) (by show _<16777216;omega);rw[show (256:Nat)=2 ^ 8 from rfl,e1,show (65536:Nat)=2 ^ 16 from rfl,e2,show (16777216:Nat)=2 ^ 24 from rfl,e3]
theorem uY{n:Nat}(h:n<4294967296)(t:List Nat):Ec (bH n++t)=n:=by
 show KH _ _ _ _=n;rw[MO (by omega) (by omega) (by omega)];omega
theorem CE{r:List Nat}(hb:mZ r)(h1:1<=r.length)(h2:r.length<=2048)(t:List Nat):eB (di r++t)=some r:=by
 have hf:di r=bH r.length++(r++bH (jY (jS r))):=by
  unfold di;rw[if_pos h2];show (bH r.length++r)++_=_;rw[zzc]
 have h4:∀n,(bH n).length=4:=fun _=>rfl;have e4:Ec (di r++t)=r.length:=by rw[hf,zzc];exact uY (by omega) _
 have hl:(di r++t).length=r.length+8+t.length:=by
  rw[hf];simp only[zzb,h4];omega
 have hbh:mZ (jS r):=fun c hc=>by
  rcases List.mem_append.1 hc with hc|hc
  .exact vg _ c hc
  .exact hb c hc
 have ht:(di r++t).take (4+r.length)=jS r:=by
  rw[hf,show bH r.length++(r++bH (jY (jS r)))++t=jS r++(bH (jY (jS r))++t) by
   show _=(bH r.length++r)++_;simp only[zzc]]
  rw[List.take_left' (by show (bH r.length++r).length=_;rw[zzb,h4])]
 have hd:(di r++t).drop (4+r.length)=bH (jY (jS r))++t:=by
  rw[hf,show bH r.length++(r++bH (jY (jS r)))++t=jS r++(bH (jY (jS r))++t) by
   show _=(bH r.length++r)++_;simp only[zzc]]
  rw[List.drop_left' (by show (bH r.length++r).length=_;rw[zzb,h4])]
 unfold eB;rw[e4,ht,hd,if_neg (by omega),if_neg (by omega),List.take_left' (h4 _)];have:=uY (EM hbh) [];rw[zzj]at this;rw[if_pos this];rfl
theorem xk{rs:List Rec}(h:∀r,r∈rs->fQ r):iI (aJ rs)=rs.map cX:=by
 induction rs with
 |nil=>rfl
 |cons r rs ih=>
  have hr:=h r (zzm ..);have hl:=oq hr;have hn:=CE (nz hr.num) (qO r) (by omega) (aJ rs);have e:aJ (r::rs)=di (cX r)++aJ rs:=rfl;rw[e,qH hn,zzp,<-ih fun x hx=>h x (zzg _ hx)];have e2:(di (cX r)).length=(cX r).length+8:=by unfold di;rw[if_pos (by omega),pQ]
  rw[List.drop_left' e2]
open Go.Proofs.YtdknlbnljfdhgaaGreatDoor.mod (qe cZ dC dH dj c8 gq aB dE nG kF zj gG zeroV jP eJ cd bare rC dg gl kE mh ej lg gM aW tL wx)
def jT(b:Nat)(D:Dk)(aC cL:Nat):cT:=⟨b,D,aC,fun _=>none,fun _=>⟨0,0,false,.ar,[]⟩,cL⟩
def fF:PB:=⟨0,fun _=>none,fun _=>⟨0,0,false,[]⟩⟩
theorem K3(b:Nat)(D:Dk):(jT b D 0 0).pure=fF:=rfl
def Dl(bs:List Nat)(rs:List Rec):Prop:=mZ bs/\bs.length<=1000000/\iI bs=rs.map cX
def Reads(d:PD)(rs:List Rec):Prop:=d.off=false/\((d.file aM=none/\rs=[])\/∃f bs,d.file aM=some f/\f.bs=aq bs/\Dl bs rs)
theorem Cm:∀(k:Nat)(bs:List Nat),(pw k bs).length<=k
 |0,_=>zza _
 |k+1,bs=>by
  unfold pw;split
  .rename_i r _;have:=Cm k (bs.drop (r.length+8));rw[zzz];omega
  .exact zzl _
theorem Dl.le{bs:List Nat}{rs:List Rec}(h:Dl bs rs):rs.length<=1000001:=by
 have h1:=Cm (bs.length+1) bs;have h2:=congrArg zzk h.2.2;rw[zqc]at h2;have h3:=h.2.1;unfold iI at h2;omega
noncomputable def qZ(P:PB):List AV:=aq (aJ (iO (P.cN (P.aC+1))))
section
variable{S T:AS}{D:Dk}
theorem jfj(d:Nat):dr C1 110 [(0,.ptr d 0 0 4)]=some (.agg [.ptr d 0 0 4,.int .u64 0,.ck,.ck,.ck,.ck,.ck,.ck,.ck,.ck,.int .i64 0,.int .u64 0,.bool false,.ar,.int .i64 0,.int .u64 0,.bool false,.ar,.int .i64 0,.int .u64 0,.bool false,.ar,.int .i64 0,.int .u64 0,.bool false,.ar,.int .i64 0]):=by kernel_rfl
theorem Vv(b:Nat)(D:Dk):(jT b D 0 0).c=[.ptr D.dp 0 0 4,.int .u64 0,.ck,.ck,.ck,.ck,.ck,.ck,.ck,.ck,.int .i64 0,.int .u64 0,.bool false,.ar,.int .i64 0,.int .u64 0,.bool false,.ar,.int .i64 0,.int .u64 0,.bool false,.ar,.int .i64 0,.int .u64 0,.bool false,.ar,.int .i64 0]:=rfl
theorem Vw{b n m:Nat}(hr:S.h.get b=some (.row (jT b D n m).c 0 0 false 110))(hb:b<S.nx)(hd:aV S D)(hf:¬D.aU b)(hn:n<18446744073709551616):bG S (jT b D n m) where
 row:=hr
 lt:=hb
 iE:=hd
 sub i x _ h:=by cases h
 ad i _:=⟨⟨⟨show Sl S .ar 7 [] from Sl.nil,fun c hc=>(zzs hc).elim,zzl _⟩,by show dE []=true;simp[dE],fun c hc=>(zzs hc).elim⟩,zzl _⟩
 bD:=hf
 mD i x _ h:=by cases h
 mm i j x y _ _ _ h _:=by cases h
 Ri i x _ h:=by cases h
 Sq i _ id h:=by
  rcases h with e|⟨c,hc,_⟩
  .have e:(0:Nat)=id+1:=e;omega
  .exact (zzs hc).elim
 aC:=hn
theorem O4(h:aV S D)(ok:D.pd.ok){rs:List Rec}(hr:Reads D.pd rs):∃e v T,(∀Q:AV->AS->Prop,ah C1 35 [.ptr D.dp 0 0 4,.str aM] S Q=Q (.tuple [v,.int .i64 e]) T)/\Sub S T/\(e=0\/e=6)/\∃bs,Sl T v 1 (aq bs)/\Dl bs rs:=by
 obtain⟨r,T,⟨hT,hc⟩,e35⟩:=(SD (name:=aM) h (G2 ok) (by decide) (by decide)).ex;obtain⟨h1,h2⟩:=hr;have h1:D.off=false:=h1;have ha:D.eX=0:=by unfold Dk.eX;rw[h1];rfl
 have hth:D.av aM=if (D.file aM).isSome then 0 else 6:=by unfold Dk.av;rw[Ky];rfl
 rw[uM]at h2;cases hf:D.file aM with
 |none=>
  rw[hf]at h2 hth;have hfi:aS [D.eX,D.av aM]=6:=by rw[ha,hth];rfl
  rw[hfi]at hc;rcases hc with⟨_,rfl⟩|⟨q,_⟩
  .rcases h2 with⟨_,rfl⟩|⟨f,q⟩
   .exact⟨6,.ar,T,e35,hT,.inr rfl,[],Sl.nil,fun c hc=>(by cases hc),zzl _,qI rfl⟩
   .obtain⟨_,q,_⟩:=q;cases q
  .exact absurd q (by decide)
 |some g=>
  rw[hf]at h2 hth;have hfi:aS [D.eX,D.av aM]=0:=by rw[ha,hth];rfl
  rw[hfi]at hc;rcases hc with⟨q,_⟩|⟨_,f,v,q1,rfl,q2⟩
  .exact absurd rfl q
  .rcases h2 with⟨q,_⟩|⟨f',bs,q,q3,q4⟩
   .cases q
   .cases q;rw[hf]at q1;cases q1;have q3:g.bs=_:=q3;exact⟨0,v,T,e35,hT,.inl rfl,bs,by rw[<-q3];exact q2,q4⟩
structure LP(S T:AS)(D:Dk)(X:cT)(P:PB):Prop where
 at_:bG T X
 pd:X.D.pd=(dJ D.pd (qZ P)).2
 dp:X.D.dp=D.dp
 pure:X.pure=P.cN (P.aC+1)
 b:S.nx<=X.b
 nx:S.nx<=T.nx
 ca:∀id,id<S.nx->¬D.aU id->T.h.get id=S.h.get id
 aU:∀id,id<S.nx->X.wf id->D.aU id
 Ya:∀id,X.rf id->S.nx<=id
theorem Vu{b n m id:Nat}:¬(jT b D n m).rf id:=fun h=>by
 rcases h with⟨i,x,_,h,_⟩|⟨i,_,h⟩
 .cases h
 .rcases h with e|⟨c,hc,_⟩
  .have e:(0:Nat)=id+1:=e;omega
  .exact (zzs hc).elim
theorem XA{X:cT}(h:bG S X){n:Nat}(hn:n<18446744073709551616):∃T,xQ S (.ptr X.b 0 1 27) [.int .u64 n]=some T/\bG T {X with aC:=n}/\eZ X {X with aC:=n} S T:=by
 refine⟨⟨S.h.set X.b (.row ({X with aC:=n}:cT).c 0 0 false 110),S.nx⟩,?_,h.own rfl rfl (fun id _ hi=>ae _ _ hi) (zza _) (aa _ _ _) hn (fun i x hi hx=>.inl hx) (fun i hi=>.inl rfl)⟩;simp only[eC,iT,h.row,dO];rw[if_pos ⟨trivial,by simp,trivial⟩];rfl
@[simp] theorem eqf(g:Nat)(ts caps:List AV)(c:Bool):aZ C1 .eql 1 c (.func (.func g) ts caps) .eQ=some (.bool false):=by kernel_rfl
theorem nt13:Tryz.f13.ntmps=87:=by kernel_rfl
structure jls(b dp:Nat)(l:AV)(n i:Nat)(F':Fr):Prop where
 s0:sl F' 0=.ptr dp 0 0 4
 s4:sl F' 4=.ptr b 0 0 27
 s34:sl F' 34=l
 s35:sl F' 35=.int .i64 n
 s36:sl F' 36=.int .i64 i
 n:F'.n=87
def Yp(S2:AS)(b:Nat)(D:Dk)(l:AV)(rs:List Rec)(P:PB)(k:Nat)(F':Fr)(S':AS):Prop:=
 ∃i X1,bG S' X1/\eZ (jT b D 0 0) X1 S2 S'/\X1.D=D/\X1.cL=0/\jC X1.pure (rs.drop i) P/\i<=rs.length/\k=rs.length-i/\jls b D.dp l rs.length i F'
theorem Mx{S2:AS}{b:Nat}{l:AV}{rs:List Rec}{P:PB}{k:Nat}{F':Fr}(i:Nat)(X1:cT)(h1:bG T X1)(h2:eZ (jT b D 0 0) X1 S2 T)(h3:X1.D=D)(h4:X1.cL=0)(h5:jC X1.pure (rs.drop i) P)(h6:i<=rs.length)(h7:k=rs.length-i)(h8:jls b D.dp l rs.length i F'):Yp S2 b D l rs P k F' T:=
 ⟨i,X1,h1,h2,h3,h4,h5,h6,h7,h8⟩
theorem S9(h:aV S D)(ok:D.pd.ok){rs:List Rec}{P:PB}(hr:Reads D.pd rs)(oI:∀r,r∈rs->fQ r)(hp:jC fF rs P)(hl:P.aC<1099511627776)
  (m9:LO (P.cN (P.aC+1))) (hr8:∀r,r∈iO (P.cN (P.aC+1))->r.st.length<=8) :
  ah C1 13 [.ptr D.dp 0 0 4] S fun v T=>∃X,LP S T D X P/\((dJ D.pd (qZ P)).1≠0->v=.tuple [.ck,.int .i64 (dJ D.pd (qZ P)).1]) /\
   ((dJ D.pd (qZ P)).1=0->v=.tuple [.ptr X.b 0 0 27,.int .i64 0]/\X.cL=(iO (P.cN (P.aC+1))).length):=by
 obtain⟨b,hb⟩:∃b,b=S.nx:=⟨_,rfl⟩
 obtain⟨S1,bC⟩:∃S1:AS,S1=⟨S.h.set b (.row (jT b D 0 0).c 0 0 false 110),b+1⟩:=⟨_,rfl⟩
 have s1:Sub S S1:=by rw[bC,hb];exact seg.cq
 have g1:S1.h.get b=some (.row (jT b D 0 0).c 0 0 false 110):=by rw[bC];exact aa _ _ _
 have n1:S1.nx=b+1:=by rw[bC]
 have fR:=bC.symm;clear bC;have h1:=h.sub s1;obtain⟨e,v,U1,e35,u1,he,bs,hv,KP⟩:=O4 h1 ok hr;unfold aM at e35;obtain⟨r,T2,⟨t2,l,ps,n,rfl,jJ,xY⟩,e49⟩:=(XQ hv KP.1 KP.2.1).ex;rw[KP.2.2]at xY;have kS:ps.length=rs.length:=by have:=congrArg zzk xY;simpa using this
 have kv:=aj hv;have kl:=aj jJ.gw.1;have kp:=jJ.gw.1.np;have Xg:sLen l=rs.length:=by rw[jJ.gw.1.eR,zqc,kS]
 have hln:=KP.le;have m7:Sub S T2:=(s1.trans u1).trans t2;have nfb:¬D.aU b:=fun hf=>by have:=h.lt hf;omega
 have hX0:bG T2 (jT b D 0 0):=Vw (((u1.trans t2).h b (by omega)).trans g1) (by have:=u1.nx;have:=t2.nx;omega) (h.sub m7) nfb (by decide);have hold:∀id,U1.nx<=id->¬(jT b D 0 0).wf id:=fun id hi hw=>by
  have:=u1.nx;rcases hw with q|q|⟨_,_,_,q,_⟩
  .have q:id=b:=q;omega
  .have:=h.lt q;omega
  .cases q
 have w0:Yp T2 b D l rs P rs.length=Yp T2 b D l rs P rs.length:=rfl;rw[Vv]at fR;refine aL (cK _) (cM _ rfl) fn13 rfl ok13 (by simp) fun F hn s0=>?_;rw[nt13]at hn;rcases he with rfl|rfl
 all_goals
  simp[s0,jfj,<-hb,fR,aP,e35,e49,kv,kl,kp,jJ.gw.1.sl,Xg];refine aT (Yp T2 b D l rs P) rs.length (Mx 0 (jT b D 0 0) hX0 eZ.refl rfl rfl (by rw[K3];exact hp) (zzl _) rfl ⟨by simp[s0],by simp,by simp,by simp,by simp,by simp[hn]⟩) ?_;clear s0 hn;rintro k F' S'-⟨i,X1,hX,hE,hD,h0,KT,hi,hk,⟨t0,t4,t34,t35,t36,hn⟩⟩;have hpi':=KT;by_cases dh:i<rs.length
  .obtain⟨r,Zl⟩:∃r,rs[i]?=some r:=⟨_,zzd dh⟩
   obtain⟨q,hqx⟩:∃q,ps[i]?=some q:=⟨_,zzd (by omega)⟩
   have hrm:=zze Zl;have tf:q.2=cX r:=by
    have e1:(ps.map (·.2))[i]?=some q.2:=by rw[zzh,hqx];rfl
    have e2:(rs.map cX)[i]?=some (cX r):=by rw[zzh,Zl];rfl
    rw[xY,e2]at e1;exact (Option.some.inj e1).symm
   have jiJ:=jJ.agree (fun id q1 q2=>hE.ca id q2 (hold id (by have:=t2.nx;omega))) hE.nx;have BP:loadT C1 S' 32 (nh l i)=some q.1:=fu jiJ.gw.1 (by rw[zzh,hqx];rfl) jlg;have nI:=(jiJ.el q (zze hqx)).1;rw[tf]at nI;obtain⟨w,U,⟨r',rfl,jiH,hU⟩,e50⟩:=(SV nI (oI r hrm)).ex;obtain⟨c,hc⟩:∃c,c=U.nx:=⟨_,rfl⟩
   obtain⟨S5,hS5⟩:∃S5:AS,S5=⟨(U.h.set c (.row [.int .i64 0,.int .i64 0,.int .i64 0,.int .u64 0,.bool false,.ar,.ar] 0 0 false 115)).set c (.row r'.c 0 0 false 115),c+1⟩:=⟨_,rfl⟩
   have s5:Sub U S5:=by rw[hS5,hc];exact seg.gF
   have g5:S5.h.get c=some (.row r'.c 0 0 false 115):=by rw[hS5];exact aa _ _ _
   have bS5:=hS5.symm;clear hS5;have hX5:=hX.toSub (hU.trans s5);have hdr:rs.drop i=r::rs.drop (i+1):=by
    rw[List.drop_eq_getElem_cons dh];rw[zzd dh]at Zl;rw[Option.some.inj Zl]
   rw[hdr]at KT;cases KT with
   | @cons _ Q _ _ _ hdo jio=>
   have Vj:=jiH.at_.sub s5;obtain⟨g,caps,V,e51,xg,hV,w',Y,X2,eg,hX2,v2,p2,D2,r2⟩:=(um.jkE (S:=S5) (hdo.eqv jiH.eq)) S5 X1 hX5 ⟨rfl,rfl,rfl,rfl,rfl⟩ Vj;have ZB:X1.b=b:=hE.b;rw[ZB]at e51;have k1:=aj Vj.pred.sl;have k2:=aj Vj.sl;have k3:=Vj.pred.sl.cells;have k4:=Vj.sl.cells;have kT:(i:Int)<rs.length:=by omega
   have hll':i<sLen l:=by omega
   have lH:=cp (i:=i) (by omega);have kq:=aj nI;have fin:eZ (jT b D 0 0) X2 T2 Y:=hE.trans ((eZ.of (hU.trans (s5.trans hV))).trans v2);unfold Rec.c at e50 bS5 g5 e51;simp[t0,t4,t34,t35,t36,kT,dh,Xg,hll',BP,jJ.gw.1.sl,aP,e50,<-hc,bS5,kq,k1,k2,k3,k4];refine cu [.p,.p,.p,.r 0 0,.e [],.p] (n:=87) (by kernel_rfl) (by simp[hn]) ?_;simp[t0,t4,t34,t35,t36,aP,g5,e51,xg,eg,lH,k1,k2];exact⟨rs.length-(i+1),by omega,Mx (i+1) X2 hX2 fin (D2.trans hD) (r2.trans h0) (by rw[p2];exact jio) (by omega) rfl ⟨by simp[t0],by simp[t4],by simp[t34],by simp[t35],by simp,by simp[hn]⟩⟩
  .obtain rfl:i=rs.length:=by omega
   rw[List.drop_length]at KT;cases hX1:X1.pure with
   |mk L1 SU1 AD1=>
   have hpp:X1.pure=P:=by cases KT;rfl
   clear hX1;have hlf:X1.aC=P.aC:=congrArg PB.aC hpp;have ZB:X1.b=b:=hE.b;obtain⟨n,qy⟩:∃n,n=X1.aC:=⟨_,rfl⟩
   have El:¬(1099511627776:Int)<=n:=by omega
   have hwn:IntKind.u64.wrap ((n:Int)+1)=((n+1:Nat):Int):=by rw[show ((n:Int)+1)=((n+1:Nat):Int) by omega];exact gD (by omega)
   obtain⟨m,hm⟩:∃m,m=n+1:=⟨_,rfl⟩
   rw[<-hm]at hwn;obtain⟨S3,hw3,Nl,hE3⟩:=XA hX (n:=m) (by omega);rw[ZB]at hw3;have hP3:({X1 with aC:=m}:cT).pure=P.cN (P.aC+1):=by
    rw[<-hpp,hm,qy];rfl
   have hD3:({X1 with aC:=m}:cT).D=D:=hD;obtain⟨v,T4,⟨D',rfl,f1,f2,f3,f4⟩,e52⟩:=(Xz Nl (by rw[hP3];exact m9) (by rw[hD3];exact ok) (by rw[hP3];exact hr8)).ex;rw[hP3]at f3 e52;rw[hD3]at f3 f4 e52;have Rq:aq (aJ (iO (P.cN (P.aC+1))))=qZ P:=rfl;rw[Rq]at f3 e52;obtain⟨z,hz⟩:∃z,z=(dJ D.pd (qZ P)).1:=⟨_,rfl⟩
   obtain⟨a,ha⟩:∃a,a=(iO (P.cN (P.aC+1))).length:=⟨_,rfl⟩
   obtain⟨y,hy⟩:∃y:Nat,y=if z=0 then a else 0:=⟨_,rfl⟩
   rw[<-hz,<-ha]at e52;have hyI:(if z=0 then (a:Int) else 0)=(y:Int):=by rw[hy];split<;>rfl
   rw[hyI]at e52;have hw6:=L0 f1 y;obtain⟨q1,q2⟩:=NR f1 y;obtain⟨Z,hZ⟩:∃Z:AS,Z=⟨T4.h.set X1.b (.row ({X1 with aC:=m,D:=D',cL:=y}:cT).c 0 0 false 110),T4.nx⟩:=⟨_,rfl⟩
   have hw7:xQ T4 (.ptr X1.b 0 26 27) [.int .i64 y]=some Z:=by rw[hZ];exact hw6
   have q1:bG Z {X1 with aC:=m,D:=D',cL:=y}:=by rw[hZ];exact q1
   have q2:eZ {X1 with aC:=m,D:=D'} {X1 with aC:=m,D:=D',cL:=y} T4 Z:=by rw[hZ];exact q2
   have hEZ:eZ (jT b D 0 0) {X1 with aC:=m,D:=D',cL:=y} T2 Z:=((hE.trans hE3).trans f2).trans q2;rw[ZB]at hw7;have fin:LP S Z D {X1 with aC:=m,D:=D',cL:=y} P:=by
    have hsn:=m7.nx;refine⟨q1,f3,f4,by rw[<-hP3];rfl,by show S.nx<=X1.b;omega,Nat.le_trans hsn hEZ.nx,fun id hi hf=>?_,fun id hi hw=>?_,fun id hw=>?_⟩
    .refine (hEZ.ca id (by omega) fun hw=>?_).trans (m7.h id hi);rcases hw with e|e|⟨_,_,_,e,_⟩
     .have e:id=b:=e;omega
     .exact hf e
     .cases e
    .have:=hEZ.aU id (by omega) hw;rcases this with e|e|⟨_,_,_,e,_⟩
     .have e:id=b:=e;omega
     .exact e
     .cases e
    .by_cases hi:S.nx<=id
     .exact hi
     .exact absurd (hEZ.Ya id (by omega) hw) Vu
   have eI:=hX.row;have Ab:=f1.row;unfold cT.c at eI Ab;rw[ZB,<-qy]at eI;simp only[]at Ab;rw[ZB]at Ab;have jks:∀Q:AV->AS->Prop,ah C1 52 [.ptr D.dp 0 0 4,.ptr b 0 1 27] S3 Q=Q (.tuple [.int .i64 y,.int .i64 z]) T4:=by
    rw[<-ZB];exact e52
   have Xl:=Nl.row;unfold cT.c at Xl;simp only[]at Xl;rw[ZB]at Xl;rw[<-hz,<-ha];by_cases Ze:z=0
   .simp[t0,t4,t34,t35,t36,Xg,aP,eI,El,hwn,hw3,Xl,jks,hw7,Ze];exact⟨_,fin,ZB.symm,by rw[hy,if_pos Ze]⟩
   .simp[t0,t4,t34,t35,t36,Xg,aP,eI,El,hwn,hw3,Xl,jks,hw7,Ze];exact⟨_,fin⟩
theorem My(S:AS)(hF:(dJ (oB 1048576) (qZ fF)).1=0):ah C1 7 [] S fun v T=>∃X,v=.tuple [.ptr X.b 0 0 27,.ptr X.D.dp 0 0 4]/\bG T X/\X.D.pd=(dJ (oB 1048576) (qZ fF)).2/\X.cL=1/\X.pure=fF.cN 1/\Sub S T/\(∀id,X.wf id->S.nx<=id)/\(∀id,X.rf id->S.nx<=id):=by
 obtain⟨u,T1,⟨t1,D,rfl,d1,d2,d3⟩,e22⟩:=(jhO (S:=S) (q:=1048576) (by decide)).ex;have okD:D.pd.ok:=by rw[d2];exact T8
 have Nj:iO (fF.cN 1)=[dF 1]:=rfl;obtain⟨v,T2,⟨X,hO,_,hX⟩,wQ⟩:=(S9 d1 okD (rs:=[]) (P:=fF) (by rw[d2];exact⟨rfl,.inl ⟨rfl,rfl⟩⟩) (fun _ h=>by cases h) (.nil _) (by decide) ⟨fun i x _ h=>by cases h⟩ (fun r hr=>by
  rw[show iO (fF.cN (fF.aC+1))=[dF 1] from rfl,zzw]at hr;rw[hr];exact zzl _)).ex
 rw[d2]at hX;obtain⟨rfl,tM⟩:=hX hF;have wC:=hO.dp;have Ro:=hO.pd;rw[d2]at Ro;have hT:Sub S T2:=⟨fun id hi=>(hO.ca id (by have:=t1.nx;omega) (fun hf=>by have:=d3 id hf;omega)).trans (t1.h id hi),Nat.le_trans t1.nx hO.nx⟩
 have e22':∀Q:AV->AS->Prop,ah C1 22 [.int .i64 1048576] S Q=Q (.tuple [.ptr D.dp 0 0 4,.int .i64 0]) T1:=e22;refine cG (cK _) (cM _ rfl) fn7 rfl ok7 (by simp) fun F hn hs=>?_;simp[aP,e22',wQ];refine⟨X,by rw[wC];exact⟨rfl,rfl⟩,hO.at_,Ro,tM,hO.pure,hT,fun id hw=>?_,fun id hw=>Nat.le_trans t1.nx (hO.Ya id hw)⟩;by_cases hi:S.nx<=id
 .exact hi
 .exact d3 id (hO.aU id (by have:=t1.nx;omega) hw)
end
structure I1(x:iQ):Prop where
 bare:x.cs.map bare=x.cs
 may:dE x.cs=true
 num:∀c,c∈x.cs->cy c
 st:fN x.st=true
 nd:(x.cur.map (·.1)).Nodup
 cur:∀t,t∈x.cur->0<=t.1/\t.1<16/\fb t.2=true/\y9 x.st t.1<t.2
def jbZ(k:Nat)(a:IY):Prop:=a=⟨0,0,false,[]⟩\/(1<=a.fy/\a.fy<=1099511627776/\a.k=k/\a.cs.map bare=a.cs/\dE a.cs=true/\(∀c,c∈a.cs->cy c)/\(a.there=false->a.cs=[]))
structure ew(P:PB):Prop where
 au:∀i x,i<8->P.au i=some x->I1 x
 bg:∀k,k<4->jbZ k (P.bg k)
theorem mo(cs:List dH):(cs.map bare).map bare=cs.map bare:=by rw[List.map_map];rfl
theorem TP{n:Nat}(h:fb n=true):1<=n/\n<=1099511627776:=by unfold fb at h;simpa using h
theorem TQ{n:Nat}(h:1<=n/\n<=1099511627776):fb n=true:=by unfold fb;simpa using h
theorem Pt(m:List (Int×Nat))(k:Int)(n:Nat):(gl m k n).map (·.1)=if k∈m.map (·.1) then m.map (·.1) else m.map (·.1)++[k]:=by
 induction m with
 |nil=>simp[gl]
 |cons p m ih=>
  obtain⟨a,w⟩:=p;unfold gl;by_cases h:k=a
  .subst h;simp
  .rw[if_neg h,zzp,ih,zzp];by_cases h2:k∈m.map (·.1)
   .rw[if_pos h2,if_pos (zzg _ h2)]
   .rw[if_neg h2,if_neg (by rw[List.mem_cons];rintro (q|q);exact h q;exact h2 q)];rfl
theorem YN{m:List (Int×Nat)}{k:Int}{n:Nat}(h:(m.map (·.1)).Nodup):((gl m k n).map (·.1)).Nodup:=by
 rw[Pt];split
 .exact h
 .rename_i hk;rw[List.nodup_append];exact⟨h,by simp,fun a ha b hb=>by simp at hb;subst hb;exact fun e=>hk (e▸ha)⟩
theorem oA{m:List (Int×Nat)}{k:Int}:dg m k=none↔k∉m.map (·.1):=by
 induction m with
 |nil=>simp[dg]
 |cons p m ih=>
  obtain⟨a,w⟩:=p;unfold dg;by_cases h:k=a
  .subst h;simp
  .rw[if_neg h,ih];simp[h]
theorem jal{x:iQ}(h:I1 x)(pub:Int):y9 x.st pub<=jH x pub:=by
 unfold jH;cases e:dg x.cur pub with
 |none=>exact zza _
 |some n=>have:=(h.cur _ (gM e)).2.2.2;exact Nat.le_of_lt this
theorem ew.set{P:PB}(h:ew P){n:Nat}{o:Option iQ}(ho:∀x,o=some x->I1 x):ew (P.aK n o) where
 au i x hi hx:=by
  have hx:(if i=n then o else P.au i)=some x:=hx;split at hx
  .exact ho x hx
  .exact h.au i x hi hx
 bg:=h.bg
theorem ew.do{P Q:PB}{r:Rec}(h:ew P)(hd:um P r Q)(hw:fQ r)(hp:r.sort=5->r.pub<16):ew Q:=by
 cases hd with
 |aC e hn=>exact⟨h.au,h.bg⟩
 |qd e cD lI lR hm hr=>
  refine h.set fun x hx=>?_;cases hx;exact⟨mo _,by rw[mJ (mo _)];exact hm,mG (mo _) hw.num,hr,by simp,fun t ht=>by cases ht⟩
 |ends e cD lI hx=>exact h.set fun x hx=>by cases hx
 |ad e cD tN hn hv hm=>
  refine⟨h.au,fun i hi=>?_⟩;show jbZ i (if i=_ then _ else P.bg i);split
  .rename_i e1;have h1:=TP hn;refine .inr ⟨h1.1,h1.2,by rw[e1],mo _,by rw[mJ (mo _)];exact hm,mG (mo _) hw.num,fun ht=>?_⟩;rcases hw.case with q|q|q|q|q
   .exact absurd (e.symm.trans q.1) (by decide)
   .exact absurd (e.symm.trans q.1) (by decide)
   .exact absurd (e.symm.trans q.1) (by decide)
   .rw[q.2.2.2 ht];rfl
   .exact absurd (e.symm.trans q.1) (by decide)
  .exact h.bg i hi
 | @ack e n cD lI x hx hn Rp hv=>
  refine h.set fun y hy=>?_;cases hy;have g:=h.au _ x lI hx;refine⟨g.bare,g.may,g.num,g.st,YN g.nd,fun t ht=>?_⟩;rcases lg ht with q|q
  .rw[q];exact⟨Rp.1,hp e,hn,Nat.lt_of_le_of_lt (jal g _) hv⟩
  .exact g.cur t q
theorem vI:ew fF:=⟨fun i x _ h=>(by cases h),fun k _=>.inl rfl⟩
def lA(o o':Option iQ):Prop:=(o=none/\o'=none)\/∃x y,o=some x/\o'=some y/\x.cs=y.cs/\x.st=y.st/\∀k,dg x.cur k=dg y.cur k
structure bz(P Q:PB):Prop where
 au:∀i,i<8->lA (P.au i) (Q.au i)
 bg:∀k,k<4->P.bg k=Q.bg k
theorem DA(P:PB)(n:Nat)(a b:Option iQ):(P.aK n a).aK n b=P.aK n b:=by
 unfold PB.aK;congr 1;funext j;split
 .rfl
 .rename_i h;exact if_neg h
theorem Di{P:PB}{j:Nat}(hj:j<8){cs:List dH}{st:List (Int×Nat)}{v:Nat->Nat}:∀(ks:List Nat)(c0:List (Int×Nat)),ks.Nodup->(∀k,k∈ks->dg c0 k=none/\k<256/\fb (v k)=true/\y9 st k<v k) ->
  ∃c,jC (P.aK j (some ⟨cs,st,c0⟩)) (ks.map fun k=>Q9 j k (v k)) (P.aK j (some ⟨cs,st,c⟩))/\∀z:Int,dg c z=if (∃k,k∈ks/\z=(k:Nat)) then some (v z.toNat) else dg c0 z
 |[],c0,_,_=>⟨c0,.nil _,fun z=>by simp⟩
 |k::ks,c0,BO,h=>by
  rw[List.nodup_cons]at BO;have hk:=h k (zzm ..);obtain⟨c,h1,h2⟩:=Di (P:=P) hj (cs:=cs) (st:=st) (v:=v) ks (gl c0 k (v k)) BO.2 fun k' En=>by
   have xZ:=h k' (zzg _ En);refine⟨?_,xZ.2⟩;rw[ej,if_neg (fun e=>BO.1 (by rw[<-show k'=k by omega];exact En))];exact xZ.1
  refine⟨c,.cons (Q:=P.aK j (some ⟨cs,st,gl c0 k (v k)⟩)) ?_ h1,fun z=>?_⟩
  .have hx:(P.aK j (some ⟨cs,st,c0⟩)).au j=some ⟨cs,st,c0⟩:=if_pos rfl;have:=um.ack (P:=P.aK j (some ⟨cs,st,c0⟩)) (r:=Q9 j k (v k)) rfl (n:=j) rfl hj hx hk.2.2.1 (by show (0:Int)<=k/\(k:Int)<256;have:=hk.2.1;omega) (by
    show jH ⟨cs,st,c0⟩ (k:Int)<v k;unfold jH;rw[show dg (⟨cs,st,c0⟩:iQ).cur (k:Int)=none from hk.1];exact hk.2.2.2)
   rw[DA]at this;exact this
  .rw[h2 z,ej];by_cases e1:∃k',k'∈ks/\z=(k':Nat)
   .obtain⟨k',q1,q2⟩:=e1;rw[if_pos ⟨k',q1,q2⟩,if_pos ⟨k',zzg _ q1,q2⟩]
   .rw[if_neg e1];by_cases e2:z=(k:Nat)
    .rw[if_pos e2,if_pos ⟨k,zzm ..,e2⟩,e2];rfl
    .rw[if_neg e2,if_neg];rintro⟨k',q1,q2⟩;rcases List.mem_cons.1 q1 with q|q
     .exact e2 (q▸q2)
     .exact e1 ⟨k',q,q2⟩
theorem mj{cur:List (Int×Nat)}{k:Nat}(h:∀t,t∈cur->0<=t.1):k∈fT cur↔(k:Int)∈cur.map (·.1):=by
 unfold fT;rw[List.mem_mergeSort,List.mem_map,List.mem_map];constructor
 .rintro⟨t,h1,h2⟩;exact⟨t,h1,by have:=h t h1;omega⟩
 .rintro⟨t,h1,h2⟩;exact⟨t,h1,by omega⟩
theorem Hh{cur:List (Int×Nat)}(h:∀t,t∈cur->0<=t.1)(hn:(cur.map (·.1)).Nodup):(fT cur).Nodup:=by
 unfold fT;rw[(List.mergeSort_perm _ _).nodup_iff]
 induction cur with
 |nil=>simp
 |cons t cur ih=>
  rw[zzp,List.nodup_cons]at hn⊢;refine⟨fun hm=>hn.1 ?_,ih (fun x hx=>h x (zzg _ hx)) hn.2⟩;obtain⟨u,h1,h2⟩:=List.mem_map.1 hm;have:=h u (zzg _ h1);have:=h t (zzm ..);exact List.mem_map.2 ⟨u,h1,by omega⟩
theorem Ta{P Q:PB}{j:Nat}(hj:j<8)(hg:∀x,P.au j=some x->I1 x)(lR:Q.au j=none):∃o,jC Q (mF P j) (Q.aK j o)/\lA o (P.au j):=by
 unfold mF;cases e:P.au j with
 |none=>
  refine⟨none,?_,.inl ⟨rfl,rfl⟩⟩;have:Q.aK j none=Q:=by
   unfold PB.aK;have:(fun i=>if i=j then none else Q.au i)=Q.au:=by
    funext i;split
    .rename_i q;rw[q,lR]
    .rfl
   rw[this]
  rw[this];exact .nil _
 |some x=>
  have g:=hg x e;have h0:∀t,t∈x.cur->0<=t.1:=fun t ht=>(g.cur t ht).1;obtain⟨c,h1,h2⟩:=Di (P:=Q) hj (cs:=x.cs) (st:=x.st) (v:=fun k=>(dg x.cur k).getD 0) (fT x.cur) [] (Hh h0 g.nd) fun k hk=>by
   have En:=(mj h0).1 hk;cases e2:dg x.cur k with
   |none=>exact absurd En (oA.1 e2)
   |some n=>
    have:=g.cur _ (gM e2);refine⟨rfl,by have:=this.2.1;simp only[]at this;omega,?_,?_⟩
    .show fb n=true;exact this.2.2.1
    .exact this.2.2.2
  refine⟨_,.cons (Q:=Q.aK j (some ⟨x.cs,x.st,[]⟩)) ?_ h1,.inr ⟨_,x,rfl,rfl,rfl,rfl,fun z=>?_⟩⟩
  .have:=um.qd (P:=Q) (r:=Gd j x) rfl (n:=j) rfl hj lR g.may g.st;rw[show (Gd j x).cs.map bare=x.cs from g.bare]at this;exact this
  .show dg c z=_;rw[h2 z];by_cases hz:∃k,k∈fT x.cur/\z=(k:Nat)
   .rw[if_pos hz];obtain⟨k,q1,rfl⟩:=hz;have En:=(mj h0).1 q1;cases e2:dg x.cur k with
    |none=>exact absurd En (oA.1 e2)
    |some n=>simp[e2]
   .rw[if_neg hz]
    symm
    show dg x.cur z=none;rw[oA];intro hm;obtain⟨t,q1,q2⟩:=List.mem_map.1 hm;have:=h0 t q1;exact hz ⟨z.toNat,(mj h0).2 (by rw[show ((z.toNat:Nat):Int)=z by omega];exact hm),by omega⟩
theorem CB{P Q:PB}(hg:ew P)(lR:∀i,Q.au i=none):∀j,j<=8->∃R,jC Q ((zzf j).flatMap (mF P)) R/\R.aC=Q.aC/\R.bg=Q.bg/\(∀i,i<j->lA (R.au i) (P.au i))/\∀i,j<=i->R.au i=none
 |0,_=>⟨Q,.nil _,rfl,rfl,fun i h=>absurd h (by omega),fun i _=>lR i⟩
 |j+1,hj=>by
  obtain⟨R,h1,h2,h3,h4,h5⟩:=CB hg lR j (by omega);obtain⟨o,k1,k2⟩:=Ta (P:=P) (Q:=R) (j:=j) (by omega) (fun x hx=>hg.au j x (by omega) hx) (h5 j (zza _));refine⟨R.aK j o,?_,h2,h3,fun i hi=>?_,fun i hi=>?_⟩
  .rw[List.range_succ,List.flatMap_append,List.flatMap_cons,List.flatMap_nil,zzj];exact h1.append k1
  .show lA (if i=j then o else R.au i) _;split
   .rename_i q;rw[q];exact k2
   .exact h4 i (by omega)
  .show (if i=j then o else R.au i)=none;rw[if_neg (by omega)];exact h5 i (by omega)
theorem IT{P Q:PB}(hg:ew P)(lR:∀k,Q.bg k=⟨0,0,false,[]⟩):∀j,j<=4->∃R,jC Q ((zzf j).flatMap (kN P)) R/\R.aC=Q.aC/\R.au=Q.au/\(∀k,k<j->R.bg k=P.bg k)/\∀k,j<=k->R.bg k=⟨0,0,false,[]⟩
 |0,_=>⟨Q,.nil _,rfl,rfl,fun i h=>absurd h (by omega),fun i _=>lR i⟩
 |j+1,hj=>by
  obtain⟨R,h1,h2,h3,h4,h5⟩:=IT hg lR j (by omega);have e:(zzf (j+1)).flatMap (kN P)=(zzf j).flatMap (kN P)++kN P j:=by
   rw[List.range_succ,List.flatMap_append,List.flatMap_cons,List.flatMap_nil,zzj]
  rw[e];rcases hg.bg j (by omega)with q|⟨q1,q2,q3,q4,q5,q6,q7⟩
  .have e2:kN P j=[]:=by unfold kN;rw[q];rfl
   rw[e2,zzj];refine⟨R,h1,h2,h3,fun k hk=>?_,fun k hk=>h5 k (by omega)⟩;by_cases hkj:k<j
   .exact h4 k hkj
   .obtain rfl:k=j:=by omega
    rw[h5 k (zza _),q]
  .have e2:kN P j=[adR j (P.bg j)]:=by unfold kN;rw[if_pos (by omega)]
   rw[e2];have hd:=um.ad (P:=R) (r:=adR j (P.bg j)) rfl (k:=j) rfl (by omega) (TQ ⟨q1,q2⟩) (by rw[h5 j (zza _)];exact q1) q5;refine⟨_,h1.append (.cons hd (.nil _)),h2,h3,fun k hk=>?_,fun k hk=>?_⟩
   .show (if k=j then _ else R.bg k)=_;by_cases hkj:k=j
    .rw[if_pos hkj,hkj];show (⟨j,(P.bg j).fy,(P.bg j).there,(P.bg j).cs.map bare⟩:IY)=P.bg j;rw[q4,<-q3]
    .rw[if_neg hkj];exact h4 k (by omega)
   .show (if k=j then _ else R.bg k)=_;rw[if_neg (by omega)];exact h5 k (by omega)
theorem WS{P:PB}(hg:ew P)(hl:fb P.aC=true):∃Q,jC fF (iO P) Q/\bz Q P/\Q.aC=P.aC:=by
 obtain⟨R,h1,h2,h3,h4,_⟩:=CB (P:=P) (Q:=fF.cN P.aC) hg (fun _=>rfl) 8 (zza _);obtain⟨U,k1,k2,k3,k4,_⟩:=IT (P:=P) (Q:=R) hg (fun k=>by rw[h3];rfl) 4 (zza _);have hd:=um.aC (P:=fF) (r:=dF P.aC) rfl hl;exact⟨U,.cons hd (h1.append k1),⟨fun i hi=>by rw[k3];exact h4 i hi,k4⟩,k2.trans h2⟩
theorem NW{P:PB}(hg:ew P)(hl:P.aC<=1099511627777):∀r,r∈iO P->fQ r:=fun r hr=>by
 have mn:dE []=true:=by decide
 unfold iO at hr;rcases List.mem_cons.1 hr with rfl|hr
 .exact⟨hl,mn,(fun c hc=>by cases hc),by simp[dF],(fun t ht=>by cases ht),by simp[dF],by simp[dF],.inl ⟨rfl,rfl,rfl,rfl,rfl,rfl⟩⟩
 .rcases List.mem_append.1 hr with hr|hr
  .obtain⟨i,hi,hr⟩:=List.mem_flatMap.1 hr;have hi:=List.mem_range.1 hi;unfold mF at hr;cases e:P.au i with
   |none=>rw[e]at hr;cases hr
   |some x=>
    rw[e]at hr;have g:=hg.au i x hi e;rcases List.mem_cons.1 hr with rfl|hr
    .exact Cq (k:=i) (by omega) g.may g.num g.st
    .obtain⟨k,hk,rfl⟩:=List.mem_map.1 hr;have h0:∀t,t∈x.cur->0<=t.1:=fun t ht=>(g.cur t ht).1;have En:=(mj h0).1 hk;cases e2:dg x.cur k with
     |none=>exact absurd En (oA.1 e2)
     |some n=>
      have:=g.cur _ (gM e2);have h3:=this.2.1;simp only[]at h3;exact Sj (k:=i) (by omega) (by omega) this.2.2.1
  .obtain⟨k,hk,hr⟩:=List.mem_flatMap.1 hr;have hk:=List.mem_range.1 hk;unfold kN at hr;split at hr
   .rename_i hv;rw[zzw]at hr;subst hr;rcases hg.bg k hk with q|⟨q1,q2,q3,q4,q5,q6,q7⟩
    .rw[q]at hv;exact absurd hv (by decide)
    .exact jbn (k:=k) (by omega) q2 q5 q6 q7
   .cases hr
theorem ew.aC{P:PB}(hg:ew P)(n:Nat):ew (P.cN n):=⟨hg.au,hg.bg⟩
theorem bz.aC{P Q:PB}(h:bz P Q)(n m:Nat):bz (P.cN n) (Q.cN m):=⟨h.au,h.bg⟩
theorem lA.symm{o o':Option iQ}(h:lA o o'):lA o' o:=by
 rcases h with⟨h1,h2⟩|⟨x,y,h1,h2,h3,h4,h5⟩
 .exact .inl ⟨h2,h1⟩
 .exact .inr ⟨y,x,h2,h1,h3.symm,h4.symm,fun k=>(h5 k).symm⟩
theorem lA.trans{o o' o'':Option iQ}(h:lA o o')(k:lA o' o''):lA o o'':=by
 rcases h with⟨h1,h2⟩|⟨x,y,h1,h2,h3,h4,h5⟩
 .rcases k with⟨k1,k2⟩|⟨u,v,k1,k2,_⟩
  .exact .inl ⟨h1,k2⟩
  .rw[h2]at k1;cases k1
 .rcases k with⟨k1,k2⟩|⟨u,v,k1,k2,k3,k4,k5⟩
  .rw[h2]at k1;cases k1
  .rw[h2]at k1;cases k1;exact .inr ⟨x,v,h1,k2,h3.trans k3,h4.trans k4,fun z=>(h5 z).trans (k5 z)⟩
theorem bz.trans{P Q R:PB}(h:bz P Q)(k:bz Q R):bz P R:=⟨fun i hi=>(h.au i hi).trans (k.au i hi),fun i hi=>(h.bg i hi).trans (k.bg i hi)⟩
theorem bz.symm{P Q:PB}(h:bz P Q):bz Q P:=⟨fun i hi=>(h.au i hi).symm,fun i hi=>(h.bg i hi).symm⟩
theorem bz.refl(P:PB):bz P P:=⟨fun i hi=>by
 cases e:P.au i with
 |none=>exact .inl ⟨rfl,rfl⟩
 |some x=>exact .inr ⟨x,x,rfl,rfl,rfl,rfl,fun _=>rfl⟩,fun _ _=>rfl⟩
def sV(o:Option iQ):Nat:=match o with|none=>0|some x=>1+((zzf 16).filter fun k=>(dg x.cur (k:Nat)).isSome).length
def oQ(a:IY):Nat:=if 0<a.fy then 1 else 0
theorem NB{x:iQ}(g:I1 x):x.cur.length=((zzf 16).filter fun k=>(dg x.cur (k:Nat)).isSome).length:=by
 have h0:∀t,t∈x.cur->0<=t.1:=fun t ht=>(g.cur t ht).1;rw[<-oG];refine List.Perm.length_eq ((List.perm_ext_iff_of_nodup (Hh h0 g.nd) (List.nodup_range.filter _)).2 fun k=>?_);rw[mj h0,List.mem_filter,List.mem_range];constructor
 .intro h;refine⟨?_,?_⟩
  .obtain⟨t,q1,q2⟩:=List.mem_map.1 h;have:=(g.cur t q1).2.1;omega
  .cases e:dg x.cur (k:Nat)with
   |none=>exact absurd h (oA.1 e)
   |some n=>rfl
 .rintro⟨_,h⟩;cases e:dg x.cur (k:Nat)with
  |none=>rw[e]at h;cases h
  |some n=>exact List.mem_map.2 ⟨_,gM e,rfl⟩
theorem ew.pbok{P:PB}(hg:ew P):LO P where
 keys i x hi hx:=by
  have g:=hg.au i x hi hx;refine⟨?_,fun t ht=>?_,g.nd⟩
  .rw[NB g];have:=List.length_filter_le (fun k:Nat=>(dg x.cur (k:Nat)).isSome) (zzf 16);rw[List.length_range]at this;omega
  .have:=g.cur t ht;have:=TP this.2.2.1;omega
theorem NU{P:PB}(hg:ew P):(iO P).length=1+(((zzf 8).map fun i=>sV (P.au i)).sum+((zzf 4).map fun k=>oQ (P.bg k)).sum):=by
 unfold iO;rw[zzz,zzb,List.length_flatMap,List.length_flatMap,zzy];congr 2
 .congr 1;refine zzo fun i hi=>?_;have hi:=List.mem_range.1 hi;unfold mF sV;cases e:P.au i with
  |none=>rfl
  |some x=>
   have g:=hg.au i x hi e;show (Gd i x::IW i x).length=_;unfold IW;rw[zzz,zqc,oG,NB g,zzy]
 .congr 1;refine zzo fun k _=>?_;unfold kN oQ;split<;>rfl
theorem Sh{P Q:PB}(h:bz P Q):((zzf 8).map fun i=>sV (P.au i)).sum+((zzf 4).map fun k=>oQ (P.bg k)).sum=((zzf 8).map fun i=>sV (Q.au i)).sum+((zzf 4).map fun k=>oQ (Q.bg k)).sum:=by
 congr 2
 .refine zzo fun i hi=>?_;rcases h.au i (List.mem_range.1 hi)with⟨h1,h2⟩|⟨x,y,h1,h2,_,_,h5⟩
  .rw[h1,h2]
  .rw[h1,h2];have e:(fun k:Nat=>(dg x.cur (k:Nat)).isSome)=fun k:Nat=>(dg y.cur (k:Nat)).isSome:=funext fun k=>by rw[h5]
   show 1+((zzf 16).filter fun k:Nat=>(dg x.cur (k:Nat)).isSome).length=1+_;rw[e]
 .refine zzo fun k hk=>?_;rw[h.bg k (List.mem_range.1 hk)]
theorem qY(d:PD)(es:List Int)(k:PD->PD):(aS es≠0/\d.on es k=(aS es,d))\/(aS es=0/\((d.bM.1=0/\d.on es k=(0,k d.bM.2))\/(d.bM.1=8/\d.on es k=(8,d.bM.2)))):=by
 unfold PD.on PD.bf;by_cases h:aS es=0
 .refine .inr ⟨h,?_⟩;simp only[h,if_true];have:d.bM.1=0\/d.bM.1=8:=by
   unfold PD.bM;split
   .exact .inr rfl
   .split<;>exact .inl rfl
  rcases this with e|e
  .exact .inl ⟨e,by simp only[e,if_true]⟩
  .refine .inr ⟨e,?_⟩;rw[if_neg (by rw[e];decide)];exact Prod.ext e rfl
 .refine .inl ⟨h,?_⟩;simp only[h,if_false]
theorem nKN:aM≠aX:=by decide
theorem nNK:aX≠aM:=by decide
def szN(n:Option (List Nat×Nat)):Nat:=match n with|some m=>m.1.length|none=>0
def gO(bs:List Nat)(fast:Nat)(n:Option (List Nat×Nat)):List PF:=⟨aM,aq bs,fast⟩::(match n with|some m=>[⟨aX,aq m.1,m.2⟩]|none=>[])
structure DS(d:PD)(bs:List Nat)(fast:Nat)(n:Option (List Nat×Nat)):Prop where
 fs:d.fs=gO bs fast n
 ok:d.ok
 Iz:mZ bs
 le:fast<=bs.length
 nb:∀m,n=some m->mZ m.1/\m.2<=m.1.length
theorem E0{d:PD}(h:d.bM.1=0):d.bM.2.off=d.off:=by
 unfold PD.bM at h⊢;split
 .rename_i e;rw[if_pos e]at h;exact absurd (show (8:Int)=0 from h) (by decide)
 .split<;>rfl
theorem EZ{d:PD}(h:d.bM.1=8):d.bM.2.off=true:=by
 unfold PD.bM at h⊢;split
 .rfl
 .rename_i e;rw[if_neg e]at h;split at h<;>exact absurd (show (0:Int)=8 from h) (by decide)
section
variable{d:PD}{bs:List Nat}{fast:Nat}{n:Option (List Nat×Nat)}
theorem DS.bM(h:DS d bs fast n):DS d.bM.2 bs fast n:=⟨by rw[(PD.nA d).1];exact h.fs,h.ok.bM,h.Iz,h.le,h.nb⟩
theorem kn:(aM==aX)=false:=by decide
theorem DS.xD(h:DS d bs fast n):d.file aM=some ⟨aM,aq bs,fast⟩:=by
 unfold PD.file;rw[h.fs];simp[gO]
theorem DS.Nu(h:DS d bs fast n):d.file aX=n.map fun m=>⟨aX,aq m.1,m.2⟩:=by
 unfold PD.file;rw[h.fs];cases n<;>simp[gO,kn]
theorem DS.jiW(h:DS d bs fast n):d.has aX=n.isSome:=by unfold PD.has;rw[h.Nu];cases n<;>rfl
theorem DS.used(h:DS d bs fast n):d.used=bs.length+szN n:=by
 unfold PD.used;rw[h.fs];cases n<;>simp[gO,aA,szN]
theorem DS.len(h:DS d bs fast n):d.fs.length<=2:=by rw[h.fs];cases n<;>simp[gO]
theorem nO(h:d.off=false):d.eX=0:=by unfold PD.eX;rw[h];rfl
theorem EF{a b c:Int}(ha:a=0)(hb:b=0):aS [a,b,c]=c:=by subst ha hb;by_cases h:c=0<;>simp[aS,h]
theorem Aw{a b:Int}(ha:a=0):aS [a,b]=b:=by subst ha;by_cases h:b=0<;>simp[aS,h]
theorem DS.chg(h:DS d bs bs.length n)(dL:d.off=false){xs:List Nat}(hx:mZ xs):
  ((oR d (aq xs)).1=0/\(oR d (aq xs)).2.off=false/\DS (oR d (aq xs)).2 (bs++xs) (bs++xs).length n)\/((oR d (aq xs)).1=7/\(oR d (aq xs)).2=d) \/
   ((oR d (aq xs)).1=8/\(oR d (aq xs)).2.off=true/\(DS (oR d (aq xs)).2 bs bs.length n\/DS (oR d (aq xs)).2 (bs++xs) bs.length n)):=by
 have Eu:mZ (bs++xs):=fun c hc=>(List.mem_append.1 hc).elim (h.Iz c) (hx c);have KQ:d.av aM=0:=by unfold PD.av PD.has;rw[Ky,h.xD];rfl
 have jiZ:=h.ok.append aM (aq xs);have e0:oR d (aq xs)=if (d.append aM (aq xs)).1=0 then (d.append aM (aq xs)).2.sync aM else d.append aM (aq xs):=rfl
 rw[e0];rcases qY d [d.eX,d.av aM,d.fc (aq xs).length] (fun d=>match d.file aM with|some f=>d.put {f with bs:=f.bs++aq xs}|none=>d)with⟨q1,q2⟩|⟨q1,⟨q2,q3⟩|⟨q2,q3⟩⟩
 .have q2:d.append aM (aq xs)=_:=q2;rw[EF (nO dL) KQ]at q1 q2;have hf:d.fc (aq xs).length=7:=by
   unfold PD.fc at q1⊢;split
   .rfl
   .rename_i e;rw[if_neg e]at q1;exact absurd rfl q1
  rw[hf]at q2;rw[q2];exact .inr (.inl ⟨rfl,rfl⟩)
 .have q3:d.append aM (aq xs)=_:=q3;rw[h.bM.xD]at q3;rw[q3]at jiZ;have jiu:d.bM.2.off=false:=by rw[E0 q2];exact dL
  obtain⟨d1,KX⟩:∃d1,d1=d.bM.2.put ⟨aM,aq bs++aq xs,bs.length⟩:=⟨_,rfl⟩
  have q3:d.append aM (aq xs)=(0,d1):=by rw[q3,KX]
  have ok1:d1.ok:=by rw[KX];exact jiZ
  have jhs:d1.off=false:=by rw[KX];exact jiu
  have h1:DS d1 (bs++xs) bs.length n:=by
   refine⟨?_,ok1,Eu,by rw[zzb];omega,h.nb⟩;rw[KX];show d.bM.2.fs.map _=_;rw[h.bM.fs,ig];cases n<;>simp[gO,Ne.symm nKN,nNK]
  have hsy:=ok1.sync aM;have Zi:d1.av aM=0:=by unfold PD.av PD.has;rw[Ky,h1.xD];rfl
  rw[q3];show (if (0:Int)=0 then d1.sync aM else _).1=0/\_\/_;simp only[if_true];rcases qY d1 [d1.eX,d1.av aM] (fun d=>match d.file aM with|some f=>d.put {f with fast:=f.bs.length}|none=>d)with⟨p1,p2⟩|⟨p1,⟨p2,p3⟩|⟨p2,p3⟩⟩
  .rw[Aw (nO jhs)]at p1;exact absurd Zi p1
  .have p3:d1.sync aM=_:=p3;rw[h1.bM.xD]at p3;rw[p3]at hsy⊢;refine .inl ⟨rfl,by show d1.bM.2.off=false;rw[E0 p2];exact jhs,?_,hsy,Eu,zza _,h.nb⟩;show d1.bM.2.fs.map _=_;rw[h1.bM.fs];cases n<;>simp[gO,Ne.symm nKN,nNK,aA]
  .have p3:d1.sync aM=_:=p3;rw[p3];exact .inr (.inr ⟨rfl,EZ p2,.inr h1.bM⟩)
 .have q3:d.append aM (aq xs)=_:=q3;rw[q3];exact .inr (.inr ⟨rfl,EZ q2,.inl h.bM⟩)
theorem kA{bs:List AV}{i:Nat}{l:List Nat}:iV bs (i::l) d=if (rY bs i d).1=0 then iV bs l (rY bs i d).2 else rY bs i d:=rfl
def mY(d:PD)(r:Int×PD)(bs:List Nat)(fast:Nat)(m:Option (List Nat×Nat))(p:Prop):Prop:=
 (r.1=0/\DS r.2 bs fast m/\r.2.off=false/\r.2.q=d.q)\/(r.1=7/\r.2=d/\p)\/(r.1=8/\r.2.off=true/\r.2.q=d.q/\∃m,DS r.2 bs fast m)
theorem yR(h:DS d bs fast n):d.av aX=if n.isSome then 0 else 6:=by unfold PD.av;rw[Kx,h.jiW];rfl
theorem ye(h:DS d bs fast n)(dL:d.off=false){es:List Int}{k:PD->PD}{m:Option (List Nat×Nat)}{p:Prop}(he:aS es=0\/(aS es=7/\p))(hk:aS es=0->(k d.bM.2).fs=gO bs fast m/\(k d.bM.2).off=d.bM.2.off/\(k d.bM.2).q=d.bM.2.q)
  (ok:(d.on es k).2.ok) (hm:∀x,m=some x->mZ x.1/\x.2<=x.1.length):mY d (d.on es k) bs fast m p:=by
 rcases qY d es k with⟨q1,q2⟩|⟨q1,⟨q2,q3⟩|⟨q2,q3⟩⟩
 .rw[q2];rcases he with he|he
  .exact absurd he q1
  .exact .inr (.inl ⟨he.1,rfl,he.2⟩)
 .obtain⟨k1,k2,k3⟩:=hk q1;rw[q3]at ok⊢;exact .inl ⟨rfl,⟨k1,ok,h.Iz,h.le,hm⟩,by show (k d.bM.2).off=false;rw[k2,E0 q2];exact dL,by show (k d.bM.2).q=d.q;rw[k3];exact (PD.nA d).2⟩
 .rw[q3];exact .inr (.inr ⟨rfl,EZ q2,(PD.nA d).2,n,h.bM⟩)
theorem jcu(h:DS d bs fast n)(dL:d.off=false)(hn:n.isSome=true)(xs:List AV):mY d (rY xs 0 d) bs fast none False:=by
 refine ye (es:=[d.eX,d.av aX]) (k:=fun d=>d.del aX) h dL (.inl ?_) (fun _=>⟨?_,rfl,rfl⟩) (h.ok.remove _) (fun x hx=>by cases hx)
 .rw[Aw (nO dL),yR h,hn];rfl
 .show d.bM.2.fs.filter _=_;rw[h.bM.fs];cases n<;>simp[gO,kn]
theorem jcv(h:DS d bs fast none)(dL:d.off=false)(xs:List AV):mY d (rY xs 1 d) bs fast (some ([],0)) False:=by
 have hl:=h.len;refine ye (es:=d.fJ aX) (k:=fun d=>{d with fs:=d.fs++[⟨aX,[],0⟩]}) h dL (.inl ?_) (fun _=>⟨?_,rfl,rfl⟩) (h.ok.create _) (fun x hx=>by cases hx;exact⟨fun c hc=>(by cases hc),zza _⟩)
 .unfold PD.fJ;rw[nO dL,Kx,h.jiW,if_neg (show ¬512<=d.fs.length by omega)];simp[aS,mq]
 .show d.bM.2.fs++_=_;rw[h.bM.fs];rfl
theorem jcw(h:DS d bs fast (some ([],0)))(dL:d.off=false){xs:List Nat}(hx:mZ xs):mY d (rY (aq xs) 2 d) bs fast (some (xs,0)) (d.q<bs.length+xs.length):=by
 have hN:=h.bM.Nu;refine ye (es:=[d.eX,d.av aX,d.fc (aq xs).length]) (k:=fun d=>match d.file aX with|some f=>d.put {f with bs:=f.bs++aq xs}|none=>d) h dL ?_ (fun _=>?_) (h.ok.append _ _) (fun x oH=>by cases oH;exact⟨hx,zzl _⟩)
 .rw[EF (nO dL) (by rw[yR h];rfl)];have hu:d.used=bs.length:=h.used;unfold PD.fc;split
  .rename_i e;rw[hu,aA]at e;exact .inr ⟨rfl,by omega⟩
  .exact .inl rfl
 .rw[hN];refine⟨?_,rfl,rfl⟩;show d.bM.2.fs.map _=_;rw[h.bM.fs];simp[gO,nKN,nNK,aq]
theorem jcs{xs:List Nat}(h:DS d bs fast (some (xs,0)))(dL:d.off=false)(ys:List AV):mY d (rY ys 3 d) bs fast (some (xs,xs.length)) False:=by
 have hN:=h.bM.Nu;refine ye (es:=[d.eX,d.av aX]) (k:=fun d=>match d.file aX with|some f=>d.put {f with fast:=f.bs.length}|none=>d) h dL (.inl ?_) (fun _=>?_) (h.ok.sync _) (fun x oH=>by cases oH;exact⟨(h.nb _ rfl).1,zza _⟩)
 .rw[Aw (nO dL),yR h];rfl
 .rw[hN];refine⟨?_,rfl,rfl⟩;show d.bM.2.fs.map _=_;rw[h.bM.fs];simp[gO,nKN,nNK,aA]
theorem jct{xs:List Nat}(h:DS d bs fast (some (xs,xs.length)))(dL:d.off=false)(ys:List AV):((rY ys 4 d).1=0/\DS (rY ys 4 d).2 xs xs.length none/\(rY ys 4 d).2.off=false/\(rY ys 4 d).2.q=d.q)\/((rY ys 4 d).1=8/\(rY ys 4 d).2.off=true/\(rY ys 4 d).2.q=d.q/\∃m,DS (rY ys 4 d).2 bs fast m):=by
 have hN:=h.bM.Nu;have hK:d.bM.2.has aM=true:=by unfold PD.has;rw[h.bM.xD];rfl
 have ok:=CD (d:=d) h.ok (old:=aX) (name:=aM) (by decide);show ((d.rename aX aM).1=0/\_)\/_;rcases qY d [d.eX,mq (!lh aM) 1,d.av aX] (fun d=>match d.file aX with|some f=>d.mv f aM|none=>d)with⟨q1,q2⟩|⟨q1,⟨q2,q3⟩|⟨q2,q3⟩⟩
 .rw[EF (nO dL) (by rw[Ky];rfl),yR h]at q1;exact absurd rfl q1
 .have q3:d.rename aX aM=_:=q3;rw[hN]at q3;rw[q3]at ok;have e:d.rename aX aM=(0,d.bM.2.mv ⟨aX,aq xs,xs.length⟩ aM):=q3;refine .inl ?_;show (d.rename aX aM).1=0/\DS (d.rename aX aM).2 _ _ _/\(d.rename aX aM).2.off=false/\(d.rename aX aM).2.q=d.q;rw[e];refine⟨rfl,⟨?_,ok,(h.nb _ rfl).1,zza _,fun x hx=>by cases hx⟩,?_,?_⟩
  .show (d.bM.2.mv _ aM).fs=_;unfold PD.mv;rw[if_pos hK];show (d.bM.2.fs.map _).filter _=_;rw[h.bM.fs];simp[gO,nKN,nNK,kn]
  .show (d.bM.2.mv _ aM).off=false;unfold PD.mv;rw[if_pos hK];show d.bM.2.off=false;rw[E0 q2];exact dL
  .show (d.bM.2.mv _ aM).q=d.q;unfold PD.mv;rw[if_pos hK];exact (PD.nA d).2
 .have q3:d.rename aX aM=_:=q3;refine .inr ?_;show (d.rename aX aM).1=8/\(d.rename aX aM).2.off=true/\(d.rename aX aM).2.q=d.q/\_;rw[show (rY ys 4 d).2=(d.rename aX aM).2 from rfl,q3];exact⟨rfl,EZ q2,(PD.nA d).2,_,h.bM⟩
def uh(d:PD)(r:Int×PD)(bs:List Nat)(fast:Nat)(xs:List Nat):Prop:=
 (r.1=0/\DS r.2 xs xs.length none/\r.2.off=false/\r.2.q=d.q)\/(r.1=7/\r.2.off=false/\r.2.q=d.q/\(∃m,DS r.2 bs fast m)/\r.2.q<bs.length+xs.length)\/(r.1=8/\r.2.off=true/\r.2.q=d.q/\∃m,DS r.2 bs fast m)
theorem Dr{d':PD}{ys:List AV}{i:Nat}{l:List Nat}{m:Option (List Nat×Nat)}{p:Prop}{xs:List Nat}(hs:mY d' (rY ys i d') bs fast m p)(hq:d'.q=d.q)(dL:d'.off=false)(hD:∃m,DS d' bs fast m)(hp:p->d'.q<bs.length+xs.length)
  (nx:∀d2,DS d2 bs fast m->d2.off=false->d2.q=d.q->uh d (iV ys l d2) bs fast xs):uh d (iV ys (i::l) d') bs fast xs:=by
 rw[kA];rcases hs with⟨h1,h2,h3,h4⟩|⟨h1,h2,h3⟩|⟨h1,h2,h3,h4⟩
 .rw[if_pos h1];exact nx _ h2 h3 (h4.trans hq)
 .rw[if_neg (by rw[h1];decide)];exact .inr (.inl ⟨h1,by rw[h2];exact dL,by rw[h2];exact hq,by rw[h2];exact hD,by rw[h2];exact hp h3⟩)
 .rw[if_neg (by rw[h1];decide)];exact .inr (.inr ⟨h1,h2,h3.trans hq,h4⟩)
theorem DS.write(h:DS d bs fast n)(dL:d.off=false){xs:List Nat}(hx:mZ xs):uh d (dJ d (aq xs)) bs fast xs:=by
 have w4:∀d2,DS d2 bs fast (some (xs,xs.length))->d2.off=false->d2.q=d.q->uh d (iV (aq xs) [4] d2) bs fast xs:=fun d2 h2 o2 q2=>by
  rw[kA];rcases jct h2 o2 (aq xs)with⟨a1,a2,a3,a4⟩|⟨a1,a2,a3,a4⟩
  .rw[if_pos a1];exact .inl ⟨rfl,a2,a3,a4.trans q2⟩
  .rw[if_neg (by rw[a1];decide)];exact .inr (.inr ⟨a1,a2,a3.trans q2,a4⟩)
 have w3:∀d2,DS d2 bs fast (some (xs,0))->d2.off=false->d2.q=d.q->uh d (iV (aq xs) [3,4] d2) bs fast xs:=fun d2 h2 o2 q2=>Dr (jcs h2 o2 _) q2 o2 ⟨_,h2⟩ (fun h=>h.elim) w4;have w2:∀d2,DS d2 bs fast (some ([],0))->d2.off=false->d2.q=d.q->uh d (iV (aq xs) [2,3,4] d2) bs fast xs:=fun d2 h2 o2 q2=>Dr (jcw h2 o2 hx) q2 o2 ⟨_,h2⟩ (fun h=>h) w3;have w1:∀d2,DS d2 bs fast none->d2.off=false->d2.q=d.q->uh d (iV (aq xs) [1,2,3,4] d2) bs fast xs:=fun d2 h2 o2 q2=>Dr (jcv h2 o2 _) q2 o2 ⟨_,h2⟩ (fun h=>h.elim) w2;unfold dJ Pr;rw[Aw (nO dL),yR h];cases hn:n with
 |none=>
  rw[hn]at h;exact w1 d h dL rfl
 |some m=>
  rw[hn]at h;exact Dr (jcu h dL rfl _) rfl dL ⟨_,h⟩ (fun h=>h.elim) w1
end
theorem jcd{a x:Nat}(h:a ^^^ x=a):x=0:=by
 have:a ^^^ (a ^^^ x)=a ^^^ a:=by rw[h]
 rwa [<-Nat.xor_assoc,Nat.xor_self,Nat.zero_xor]at this
theorem G7{n:Nat}{t:List Nat}(hn:n<4294967296)(h:t.length<n+4):eB (bH n++t)=none:=by
 unfold eB;have hl:(bH n++t).length=t.length+4:=by rw[zzb];show 4+_=_;omega
 rw[uY hn,hl,if_neg (by omega),if_pos (by omega)]
theorem Pz{n:Nat}{r u:List Nat}(hn:n<4294967296)(hr:r.length=n)(hu:Ec (u.take 4)≠jY (bH n++r)):eB (bH n++(r++u))=none:=by
 unfold eB;have e4:∀n,(bH n).length=4:=fun _=>rfl;have ht:(bH n++(r++u)).take (4+n)=bH n++r:=by
  rw[<-zzc,List.take_append_of_le_length (by rw[zzb,e4];omega),zzi (by rw[zzb,e4];omega)]
 have hd:(bH n++(r++u)).drop (4+n)=u:=by
  rw[<-zzc,zqa (by rw[zzb,e4];omega),zzn (by rw[zzb,e4];omega),List.nil_append]
 rw[uY hn,ht,hd]
 repeat' split
 all_goals first|rfl|(rename_i q;exact absurd q hu)
def jK(fr:List Nat)(m:Nat)(x:Option Nat):List Nat:=match x with|some x=>if 0<m then AY (fr.take m) x else fr.take m|none=>fr.take m
theorem sG(a:List Nat)(c x:Nat):AY (a++[c]) x=a++[c ^^^ x]:=by
 unfold AY;simp
theorem xI{a b:List Nat}(x:Nat)(h:b≠[]):AY (a++b) x=a++AY b x:=by
 rcases List.eq_nil_or_concat b with rfl|⟨b',c,rfl⟩
 .exact absurd rfl h
 .rw[List.concat_eq_append,<-zzc,sG,sG,zzc]
theorem Ot{r:List Nat}(h1:1<=r.length)(h2:r.length<=2048)(hb:mZ r){m:Nat}(hm:m<=(di r).length)(x:Option Nat):eB (jK (di r) m x)=none\/jK (di r) m x=di r:=by
 obtain⟨c,hc⟩:∃c,c=jY (jS r):=⟨_,rfl⟩
 have hf:di r=bH r.length++(r++bH c):=by
  unfold di;rw[if_pos h2];show (bH r.length++r)++bH (jY (jS r))=_;rw[zzc,hc]
 have e4:∀n,(bH n).length=4:=fun _=>rfl;have hl:(di r).length=r.length+8:=by rw[hf,zzb,zzb,e4,e4];omega
 have hlen:(jK (di r) m x).length=m:=by
  have:((di r).take m).length=m:=by rw[zzt];omega
  unfold jK;cases x with
  |none=>exact this
  |some x=>simp only[];split;rw[rK];exact this;exact this
 by_cases c4:m<4
 .left;unfold eB;rw[if_pos (by rw[hlen];exact c4)]
 by_cases c5:m=4
 .left;unfold eB;rw[hlen,if_neg c4];by_cases q:Ec (jK (di r) m x)<1
  .rw[if_pos (.inl q)]
  .rw[if_pos (.inr (.inr (by omega)))]
 have ht:(di r).take m=bH r.length++(r++bH c).take (m-4):=by
  rw[hf,List.take_append,zzi (by rw[e4];omega),e4]
 have ct:(r++bH c).take (m-4)≠[]:=fun e=>by
  have:=congrArg zzk e;rw[zzt,zzb,e4,List.length_nil]at this;omega
 have hu:∃u,jK (di r) m x=bH r.length++u/\u.length=m-4:=by
  have hul:((r++bH c).take (m-4)).length=m-4:=by rw[zzt,zzb,e4];omega
  unfold jK;cases x with
  |none=>exact⟨_,ht,hul⟩
  |some x=>
   simp only[];rw[if_pos (by omega),ht,xI x ct];exact⟨_,rfl,by rw[rK];exact hul⟩
 obtain⟨u,sN,sh⟩:=hu;by_cases c6:m<r.length+8
 .left;rw[sN];exact G7 (by omega) (by omega)
 have hme:m=(di r).length:=by omega
 have Hy:(di r).take m=di r:=zzi (by omega);cases x with
 |none=>right;unfold jK;exact Hy
 |some x=>
  by_cases hx:x=0
  .right;unfold jK;simp only[];rw[if_pos (by omega),Hy,hx,hf,show bH c=[c%256,c / 256%256,c / 65536%256]++[c / 16777216%256] from rfl,<-zzc,<-zzc,sG,Nat.xor_zero]
  .left;have e:jK (di r) m (some x)=bH r.length++(r++[c%256,c / 256%256,c / 65536%256,(c / 16777216%256) ^^^ x]):=by
    unfold jK;simp only[];rw[if_pos (by omega),Hy,hf,show bH c=[c%256,c / 256%256,c / 65536%256]++[c / 16777216%256] from rfl,<-zzc,<-zzc,sG];simp
   rw[e];refine Pz (by omega) rfl ?_;have ry:c<4294967296:=by rw[hc];exact EM fun z hz=>(List.mem_append.1 hz).elim (vg _ z) (hb z)
   rw[show bH r.length++r=jS r from rfl,<-hc];show KH _ _ _ _≠c;rw[MO (by omega) (by omega) (by omega)];intro q;have:c / 16777216%256 ^^^ x=c / 16777216%256:=by omega
   exact hx (jcd this)
theorem Jw{r:Rec}(hr:fQ r){m:Nat}(hm:m<=(di (cX r)).length)(x:Option Nat):iI (jK (di (cX r)) m x)=[]\/jK (di (cX r)) m x=di (cX r):=by
 have:=oq hr;rcases Ot (qO r) (by omega) (nz hr.num) hm x with h|h
 .exact .inl (qI h)
 .exact .inr h
theorem OA{rs:List Rec}(h:∀r,r∈rs->fQ r)(t:List Nat):iI (aJ rs++t)=rs.map cX++iI t:=by
 induction rs with
 |nil=>rfl
 |cons r rs ih=>
  have hr:=h r (zzm ..);have hl:=oq hr;have hn:=CE (nz hr.num) (qO r) (by omega) (aJ rs++t);have e:aJ (r::rs)++t=di (cX r)++(aJ rs++t):=by
   show (di (cX r)++aJ rs)++t=_;rw[zzc]
  have e2:(di (cX r)).length=(cX r).length+8:=by unfold di;rw[if_pos (by omega),pQ]
  rw[e,qH hn,<-e2,zqa (zza _),zzn (zza _),List.nil_append,ih fun x hx=>h x (zzg _ hx)];rfl
theorem Ll(a fr:List Nat)(picks flips:List Nat):∃m,m<=fr.length/\gX picks flips 0 (a++fr) a.length=a++jK fr m flips[0]?:=by
 obtain⟨m,hm⟩:∃m,m=mN picks 0 ((a++fr).length-a.length):=⟨_,rfl⟩
 have qz:m<=fr.length:=by
  have:=rm picks 0 ((a++fr).length-a.length);rw[zzb]at this hm;omega
 refine⟨m,qz,?_⟩;have ht:(a++fr).take (a.length+m)=a++fr.take m:=by
  rw[List.take_append,zzi (by omega),Nat.add_sub_cancel_left]
 unfold gX jK;rw[<-hm,ht];cases flips[0]? with
 |none=>rfl
 |some x=>
  simp only[];split
  .rename_i h0;rw[xI];intro e;have:=congrArg zzk e;rw[zzt,List.length_nil]at this;omega
  .rfl
def kM(picks flips:List Nat)(k:Nat)(bs:List Nat)(fast:Nat):List Nat:=if bs.length=fast then bs else gX picks flips k bs fast
theorem N0{picks flips:List Nat}{k:Nat}{bs:List Nat}{fast:Nat}(h:fast<=bs.length):(kM picks flips k bs fast).length<=bs.length:=by
 unfold kM;split
 .exact zza _
 .rw[AI h];have:=rm picks k (bs.length-fast);omega
theorem Fj{picks flips:List Nat}{k:Nat}{bs:List Nat}{fast:Nat}(hb:mZ bs)(hf:∀c,c∈flips->c<256):mZ (kM picks flips k bs fast):=by
 unfold kM;split
 .exact hb
 .exact C9 hb hf
section
variable{bs:List Nat}{fast q:Nat}{n:Option (List Nat×Nat)}{z:Int}{o:Bool}{picks flips:List Nat}
theorem xG{nm:List Nat}{ns:List (List Nat)}{k:Nat}{d:PD}:PD.fj picks flips (nm::ns) k d=(match d.file nm with|none=>PD.fj picks flips ns k d|some f=>if f.bs.length=f.fast then PD.fj picks flips ns k d else PD.fj picks flips ns (k+1) (d.put (PD.wR picks flips k f))):=rfl
def tlN(n:Option (List Nat×Nat)):List (List Nat):=match n with|some _=>[aX]|none=>[]
theorem cr_K{l:List (List Nat)}{k:Nat}:∃k',PD.fj picks flips (aM::l) k ⟨gO bs fast n,q,z,o⟩=PD.fj picks flips l k' ⟨gO (kM picks flips k bs fast) (kM picks flips k bs fast).length n,q,z,o⟩:=by
 have hf:(⟨gO bs fast n,q,z,o⟩:PD).file aM=some ⟨aM,aq bs,fast⟩:=by simp[PD.file,gO]
 rw[xG,hf];simp only[aA];unfold kM;by_cases e:bs.length=fast
 .rw[if_pos e,if_pos e];exact⟨k,by rw[e]⟩
 .rw[if_neg e,if_neg e];refine⟨k+1,?_⟩;congr 1;unfold PD.put PD.wR;simp only[yP];cases n<;>simp[gO,nNK]
theorem cr_N{m:List Nat×Nat}{l:List (List Nat)}{k:Nat}:∃k',PD.fj picks flips (aX::l) k ⟨gO bs fast (some m),q,z,o⟩=PD.fj picks flips l k' ⟨gO bs fast (some (kM picks flips k m.1 m.2,(kM picks flips k m.1 m.2).length)),q,z,o⟩:=by
 have hf:(⟨gO bs fast (some m),q,z,o⟩:PD).file aX=some ⟨aX,aq m.1,m.2⟩:=by simp[PD.file,gO,kn]
 rw[xG,hf];simp only[aA];unfold kM;by_cases e:m.1.length=m.2
 .rw[if_pos e,if_pos e];exact⟨k,by rw[e]⟩
 .rw[if_neg e,if_neg e];refine⟨k+1,?_⟩;congr 1;unfold PD.put PD.wR;simp only[yP];simp[gO,nKN]
theorem DS.jfe{d:PD}(h:DS d bs fast n):d.Iz:=fun f hf=>by
 have hs:=h.ok.small f hf;rw[h.fs]at hf;unfold gO at hf;rcases List.mem_cons.1 hf with rfl|hf
 .exact⟨⟨bs,rfl,h.Iz⟩,hs,by show fast<=(aq bs).length;rw[aA];exact h.le⟩
 .cases n with
  |none=>cases hf
  |some m=>
   rw[zzw]at hf;subst hf;obtain⟨b1,b2⟩:=h.nb m rfl;exact⟨⟨m.1,rfl,b1⟩,hs,by show m.2<=(aq m.1).length;rw[aA];exact b2⟩
theorem DS.oN{D:Dk}(h:DS D.pd bs fast n)(picks:List Nat)(hf:∀c,c∈flips->c<256){d':PD}(hd:d'=PD.fj picks flips D.sorted 0 {D.pd with off:=false,bq:=-1}):
  (∃m,DS d' (kM picks flips 0 bs fast) (kM picks flips 0 bs fast).length m)/\d'.off=false/\d'.bq=-1/\d'.q=D.pd.q:=by
 have M5:D.fs.map (·.name)=D.pd.fs.map (·.name):=by
  show _=(D.fs.map Fl.pf).map _;rw[List.map_map];rfl
 have hd0:({D.pd with off:=false,bq:=-1}:PD)=⟨gO bs fast n,D.pd.q,-1,false⟩:=by rw[<-h.fs]
 rw[hd0]at hd;have hu:D.pd.used=bs.length+szN n:=h.used;have ho:=h.ok.used;have Nj:=N0 (picks:=picks) (flips:=flips) (k:=0) h.le;have UF:D.sorted=aM::tlN n:=by
  unfold Dk.sorted;rw[M5,h.fs];cases n with
  |none=>simp[gO,List.mergeSort,tlN]
  |some m=>
   have hle:seg.Hg aM aX=true:=by decide
   simp[gO,List.mergeSort,List.MergeSort.Internal.splitInTwo,List.merge,hle,tlN]
 rw[UF]at hd;obtain⟨k1,e1⟩:=cr_K (picks:=picks) (flips:=flips) (bs:=bs) (fast:=fast) (q:=D.pd.q) (n:=n) (z:=-1) (o:=false) (l:=tlN n) (k:=0);rw[e1]at hd;have okf:∀(m:Option (List Nat×Nat)),szN m<=szN n->(⟨gO (kM picks flips 0 bs fast) (kM picks flips 0 bs fast).length m,D.pd.q,-1,false⟩:PD).ok:=fun m hm=>by
  refine⟨?_,?_,h.ok.q,by show (-1:Int)<_;decide,?_⟩
  .cases m<;>simp[gO]
  .show (List.map _ (gO _ _ m)).sum<=_;rw[hu]at ho;cases m<;>cases n<;>simp only[szN,gO,zzp,List.map_nil,List.sum_cons,List.sum_nil,aA]at * <;> omega
  .cases m<;>simp[gO,nKN]
 cases n with
 |none=>
  have hd:d'=⟨gO (kM picks flips 0 bs fast) (kM picks flips 0 bs fast).length none,D.pd.q,-1,false⟩:=hd;subst hd;exact⟨⟨none,rfl,okf none (zza _),Fj h.Iz hf,zza _,fun m hm=>by cases hm⟩,rfl,rfl,rfl⟩
 |some m=>
  obtain⟨b1,b2⟩:=h.nb m rfl;obtain⟨k2,e2⟩:=cr_N (picks:=picks) (flips:=flips) (bs:=kM picks flips 0 bs fast) (fast:=(kM picks flips 0 bs fast).length) (q:=D.pd.q) (m:=m) (z:=-1) (o:=false) (l:=[]) (k:=k1);have hd:d'=PD.fj picks flips [aX] k1 ⟨gO (kM picks flips 0 bs fast) (kM picks flips 0 bs fast).length (some m),D.pd.q,-1,false⟩:=hd;rw[e2]at hd;have hd:d'=⟨gO (kM picks flips 0 bs fast) (kM picks flips 0 bs fast).length (some (kM picks flips k1 m.1 m.2,(kM picks flips k1 m.1 m.2).length)),D.pd.q,-1,false⟩:=hd;subst hd;obtain⟨c,hc⟩:∃c,c=kM picks flips k1 m.1 m.2:=⟨_,rfl⟩
  have hcb:mZ c:=by rw[hc];exact Fj b1 hf
  have ry:c.length<=m.1.length:=by rw[hc];exact N0 b2
  rw[<-hc];exact⟨⟨some (c,c.length),rfl,okf _ ry,Fj h.Iz hf,zza _,fun x hx=>by cases hx;exact⟨hcb,zza _⟩⟩,rfl,rfl,rfl⟩
variable{S T:AS}{X:cT}
theorem nt38:Tryz.f38.ntmps=42:=by kernel_rfl
def sbH(S:AS)(X:cT)(k:Nat)(F':Fr)(S':AS):Prop:=
 ∃(j:Nat)(w:AV)(L:List ma),Sub S S'/\N3 S' S.nx w L/\L.map ma.pure=jx X.pure j/\sl F' 3=w/\sl F' 13=ya X/\sl F' 14=.int .i64 j/\j<=8/\F'.n=42/\k=8-j
theorem JQ{k:Nat}{F':Fr}(j:Nat)(w:AV)(L:List ma)(h1:Sub S T)(h2:N3 T S.nx w L)(h3:L.map ma.pure=jx X.pure j)(h4:sl F' 3=w)(h5:sl F' 13=ya X)(h6:sl F' 14=.int .i64 j)(h7:j<=8)(h8:F'.n=42)(h9:k=8-j):sbH S X k F' T:=
 ⟨j,w,L,h1,h2,h3,h4,h5,h6,h7,h8,h9⟩
theorem jN(s:ma):s.c.length=3:=rfl
theorem nC(s:iS):s.c.length=4:=rfl
theorem jcq(h:bG S X):ah C1 38 [.ptr X.b 0 0 27] S fun v T=>Sub S T/\∃L,N3 T S.nx v L/\L.map ma.pure=jx X.pure 8:=by
 have sD:=fun Q=>pN h (Q:=Q);have eI:=h.row;unfold cT.c at eI;refine aL (cK _) (cM _ rfl) fn38 rfl ok38 (by simp) fun F hn s0=>?_;rw[nt38]at hn;simp[s0,aP,sD,eI];refine aT (sbH S X) 8 (JQ 0 .ar [] (Sub.refl S) iZ.nil rfl (by simp) (by simp[ya]) (by simp) (by omega) (by simp[hn]) rfl) ?_;clear s0 hn sD eI;rintro k F' S'-⟨j,w,L,hS,hL,hp,t3,t13,t14,hj,hn,hk⟩;by_cases M9:j<8
 case neg=>
  obtain rfl:j=8:=by omega
  simp[t3,t13,t14,hL.gw.1.np,aj hL.gw.1];exact⟨hS,L,hL,hp⟩
 have yD:(j:Int)<8:=by omega
 have yE:∀(F:Fr)(dst:Option Tmp)(ty:TypeId)(pos:String)(af:Array Edge)(gd:Option (Nat×Bool)),sl F 13=ya X->sl F 14=.int .i64 j->bF C1 F S' ⟨dst,.index 105 (.tmp 13) (.tmp 14),ty,pos,af,gd⟩=.val (pX (X.au j)) S':=fun F dst ty pos af gd h1 h2=>Uv h1 h2 M9;have hw:=IntWalk.i64_in ((j:Int)+1) (by omega);have xY:=yY X.pure j;cases hx:X.au j with
 |none=>
  have eo:W8 X.pure j=none:=by unfold W8 cT.pure;simp[hx]
  rw[eo,zzj]at xY;rw[hx]at yE;simp only[pX]at yE;simp[t3,t13,t14,yD,M9,yE,hw];exact⟨8-(j+1),by omega,JQ (j+1) w L hS hL (by rw[xY];exact hp) (by simp[t3]) (by simp[t13]) (by simp) (by omega) (by simp[hn]) rfl⟩
 |some x=>
  have eo:W8 X.pure j=some ⟨j,x.ks.map bare,x.st⟩:=by unfold W8 cT.pure;simp[hx,dv.pure]
  rw[eo]at xY;rw[hx]at yE;simp only[pX]at yE;have q:=(h.toSub hS).sub j x M9 hx;have zu:=q.row;unfold dv.c at zu;have h6:x.ks.length<=6:=rh q.pred.may;obtain⟨c,T1,⟨wq,hq,hb,iD,kG⟩,e86⟩:=(Rh (mod.vq q.pred.at_ h6 (fun c hc=>((mK q.pred.may q.pred.num).2 c hc).2.1))).ex;have u2:=q.sl.aO cd (by omega);obtain⟨v,T2,⟨iC,hv,_,MW,hvb⟩,e87⟩:=(Rh (mod.NK (q.sl.toSub iD) (by rw[u2];have:=q.sl8;omega))).ex;have jep:=iD.trans iC;have GQ:=(iD.h _ q.lt).trans zu;have jgd:=(jep.h _ q.lt).trans zu;have hL2:=hL.sub yh jep;have jhY:=hL.gw.1.old;have hT1n:=iD.nx;have ZH:=iC.nx;have hl6:wq.length<=6:=by have:=congrArg zzk hb;simp at this;omega
  obtain⟨s,hs⟩:∃s:ma,s=⟨j,c,wq,v,x.st⟩:=⟨_,rfl⟩
  have hsc:s.c=[.int .i64 j,c,v]:=by rw[hs];rfl
  have m9:ma.ok T2 s:=by rw[hs];exact⟨hq.sub iC,hv,hl6,q.sl8⟩
  have hlen:L.length<=8:=by have:=congrArg zzk hp;have:=Cj X.pure j;simp at *;omega
  have PX:sLen w=L.length:=hL.gw.1.aO jN (by omega);obtain⟨w',T3,e3,hL3,k3,n3⟩:=hL2.push (t:=35) (bs:=56) jfS un35 yh (by have:=hS.nx;omega) (a:=s) m9 (fun id e=>by
   have cQ:id<T2.nx:=by
    rcases e with e|e
    .exact aB.aU m9.1 e
    .have:=m9.2.1.old;omega
   have CU:S'.nx<=id:=by
    rw[hs]at e;rcases e with e|e
    .exact kG id e
    .have e:aE v=id+1:=e;omega
   have:=hS.nx;exact⟨by omega,cQ,by omega⟩) rfl (by rw[PX];simp[fits,cY];omega)
  rw[hsc]at e3;have jJ:∀(F:Fr)(B:Nat)(y:Tmp),sl F y=.agg [.int .i64 j,c,v]->aD C1 F B (.buildSlice 35 1 #[(0,.tmp y)])=some (.slice B 0 0 1 3 3 (some 1),.row [.int .i64 j,c,v] 0 0 false 50):=fun F B y a0=>by
   have:=cg (cx:=C1) (F:=F) (t:=35) (p:=(50,3,56)) (id:=B) (n:=1) (a:=#[(0,.tmp y)]) [[.int .i64 j,c,v]] jfS rfl (by simp[a0,cellsOf]) (by simp) (by decide);rw[this];simp
  have k1:=aj q.pred.at_.sl;have k2:=aj hq.sl;have k3':=hq.sl.cells;have k4:=hq.sl.np;have k5:=aj q.sl;have k6:=aj hv;have k7:=hv.cells;have k8:=hv.np;have k9:=aj hL.gw.1;have Vn:=hL3.gw.1;have ka:=Vn.np;have kb:=aj Vn;have l7:Sub S T3:=⟨fun id cD=>(k3 id cD).trans ((hS.trans jep).h id cD),by have:=hS.nx;omega⟩
  have Af:(L++[s]).map ma.pure=jx X.pure (j+1):=by
   rw[xY,List.map_append,hp,hs];show _++[(⟨j,wq.map bare,x.st⟩:PSb)]=_;rw[hb]
  simp[t3,t13,t14,yD,M9,yE];refine cu [.p,.p,.p,.p,.p,.r 0 2,.p,.p,.p,.p,.r 0 0,.e [],.p,.p,.p,.p,.r 1 0,.e [],.p,.e [],.e [],.p] (n:=42) (by kernel_rfl) (by simp[hn]) ?_;simp[t3,t13,t14,yD,M9,yE,zu,GQ,jgd,aP,e86,e87,k1,k2,k3',k4,k5,k6,k7,k8,k9,jbU hq.sl.sl hv.sl,jJ,e3,ka,kb,hw];exact⟨8-(j+1),by omega,JQ (j+1) w' (L++[s]) l7 hL3 Af (by simp) (by simp[t13]) (by simp) (by omega) (by simp[hn]) rfl⟩
theorem nt39:Tryz.f39.ntmps=30:=by kernel_rfl
def adH(S:AS)(X:cT)(k:Nat)(F':Fr)(S':AS):Prop:=
 ∃(j:Nat)(w:AV)(L:List iS),Sub S S'/\N8 S' S.nx w L/\L.map iS.pure=iP X.pure j/\sl F' 3=w/\sl F' 13=B6 X/\sl F' 14=.int .i64 j/\j<=4/\F'.n=30/\k=4-j
theorem LJ{k:Nat}{F':Fr}(j:Nat)(w:AV)(L:List iS)(h1:Sub S T)(h2:N8 T S.nx w L)(h3:L.map iS.pure=iP X.pure j)(h4:sl F' 3=w)(h5:sl F' 13=B6 X)(h6:sl F' 14=.int .i64 j)(h7:j<=4)(h8:F'.n=30)(h9:k=4-j):adH S X k F' T:=
 ⟨j,w,L,h1,h2,h3,h4,h5,h6,h7,h8,h9⟩
theorem jlo(h:bG S X):ah C1 39 [.ptr X.b 0 0 27] S fun v T=>Sub S T/\∃L,N8 T S.nx v L/\L.map iS.pure=iP X.pure 4:=by
 have sD:=fun Q=>pN h (Q:=Q);have eI:=h.row;unfold cT.c at eI;refine aL (cK _) (cM _ rfl) fn39 rfl ok39 (by simp) fun F hn s0=>?_;rw[nt39]at hn;simp[s0,aP,sD,eI];refine aT (adH S X) 4 (LJ 0 .ar [] (Sub.refl S) iZ.nil rfl (by simp) (by simp[B6]) (by simp) (by omega) (by simp[hn]) rfl) ?_;clear s0 hn sD eI;rintro k F' S'-⟨j,w,L,hS,hL,hp,t3,t13,t14,hj,hn,hk⟩;by_cases Xj:j<4
 case neg=>
  obtain rfl:j=4:=by omega
  simp[t3,t13,t14,hL.gw.1.np,aj hL.gw.1];exact⟨hS,L,hL,hp⟩
 have yD:(j:Int)<4:=by omega
 have yE:∀(F:Fr)(dst:Option Tmp)(ty:TypeId)(pos:String)(af:Array Edge)(gd:Option (Nat×Bool)),sl F 13=B6 X->sl F 14=.int .i64 j->bF C1 F S' ⟨dst,.index 106 (.tmp 13) (.tmp 14),ty,pos,af,gd⟩=.val (.agg (X.bg j).c) S':=fun F dst ty pos af gd h1 h2=>Uu h1 h2 Xj;have hw:=IntWalk.i64_in ((j:Int)+1) (by omega);have xY:=xa X.pure j;have q:=((h.toSub hS).ad j Xj).1;obtain⟨a,ha⟩:∃a,a=X.bg j:=⟨_,rfl⟩
 rw[<-ha]at q yE;have ea:X.pure.bg j=a.pure:=by rw[ha];rfl
 have k1:=aj q.at_.sl;have k1c:=q.at_.sl.cells;obtain⟨S1,bC⟩:∃S1:AS,S1=⟨(S'.h.set S'.nx (.row [.int .i64 0,.int .u64 0,.bool false,.ar] 0 0 false 98)).set S'.nx (.row a.c 0 0 false 98),S'.nx+1⟩:=⟨_,rfl⟩
 have s1:Sub S' S1:=by rw[bC];exact seg.gF
 have g1:S1.h.get S'.nx=some (.row a.c 0 0 false 98):=by rw[bC];exact aa _ _ _
 have n1:S1.nx=S'.nx+1:=by rw[bC]
 have fR:=bC.symm;clear bC;have hgg:S1.h.get S'.nx=some (.row [.int .i64 a.k,.int .u64 a.fy,.bool a.there,a.p] 0 0 false 98):=g1;simp only[iS.c]at yE fR;by_cases hv:0<a.fy
 case neg=>
  have KN:¬(0:Int)<a.fy:=by omega
  have eo:IV X.pure j=none:=by unfold IV;rw[ea];exact if_neg hv
  rw[eo,zzj]at xY;simp[t3,t13,t14,yD,Xj,yE,hw,k1c,fR,hgg,hv,KN];exact⟨4-(j+1),by omega,LJ (j+1) w L (hS.trans s1) (hL.sub vB s1) (by rw[xY];exact hp) (by simp[t3]) (by simp[t13]) (by simp) (by omega) (by simp[hn]) rfl⟩
 have KN:(0:Int)<a.fy:=by omega
 have eo:IV X.pure j=some a.pure:=by unfold IV;rw[ea];exact if_pos hv
 rw[eo]at xY;have h6:a.ks.length<=6:=rh q.may;obtain⟨c,T1,⟨wq,hq,hb,iD,kG⟩,e86⟩:=(Rh (mod.vq (q.at_.sub s1) h6 (fun c hc=>((mK q.may q.num).2 c hc).2.1))).ex;have g2:=(iD.h _ (by omega)).trans hgg;have hT1n:=iD.nx;obtain⟨T2,iC⟩:∃T2:AS,T2=⟨T1.h.set S'.nx (.row [.int .i64 a.k,.int .u64 a.fy,.bool a.there,c] 0 0 false 98),T1.nx⟩:=⟨_,rfl⟩
 have g3:T2.h.get S'.nx=some (.row [.int .i64 a.k,.int .u64 a.fy,.bool a.there,c] 0 0 false 98):=by rw[iC];exact aa _ _ _
 have o3:∀id,id≠S'.nx->T2.h.get id=T1.h.get id:=fun id hi=>by rw[iC];exact ae _ _ hi
 have n3:T2.nx=T1.nx:=by rw[iC]
 have QP:=iC.symm;clear iC;have jjb:Sub S' T2:=⟨fun id hi=>(o3 id (by omega)).trans ((s1.trans iD).h id hi),by omega⟩
 have hL2:=hL.sub vB jjb;have jhY:=hL.gw.1.old;have hl6:wq.length<=6:=by have:=congrArg zzk hb;simp at this;omega
 obtain⟨s,hs⟩:∃s:iS,s=⟨a.k,a.fy,a.there,c,wq⟩:=⟨_,rfl⟩
 have hsc:s.c=[.int .i64 a.k,.int .u64 a.fy,.bool a.there,c]:=by rw[hs];rfl
 have Rq:∀id,aW c wq id->S'.nx<id:=fun id e=>by have:=kG id e;omega
 have m9:iS.ok T2 s:=by rw[hs];exact⟨aB.agree hq (fun id e=>o3 id (by have:=Rq id e;omega)) (by omega),hl6⟩
 have hlen:L.length<=4:=by have:=congrArg zzk hp;have:=IU X.pure j;simp at *;omega
 have PX:sLen w=L.length:=hL.gw.1.aO nC (by omega);obtain⟨w',T3,e3,hL3,k3,m3⟩:=hL2.push (t:=36) (bs:=48) jfR un36 vB (by have:=hS.nx;omega) (a:=s) m9 (fun id e=>by
  have cQ:=aB.aU m9.1 e;rw[hs]at e;have CU:=Rq id e;have:=hS.nx;exact⟨by omega,cQ,by omega⟩) rfl (by rw[PX];simp[fits,cY];omega)
 rw[hsc]at e3;have k2:=aj hq.sl;have k3':=hq.sl.cells;have k4:=hq.sl.np;have k9:=aj hL.gw.1;have Vn:=hL3.gw.1;have ka:=Vn.np;have kb:=aj Vn;have jJ:∀(F:Fr)(B:Nat)(y:Tmp),sl F y=.agg [.int .i64 a.k,.int .u64 a.fy,.bool a.there,c]->aD C1 F B (.buildSlice 36 1 #[(0,.tmp y)])=some (.slice B 0 0 1 4 4 (some 1),.row [.int .i64 a.k,.int .u64 a.fy,.bool a.there,c] 0 0 false 98):=fun F B y a0=>by
  have:=cg (cx:=C1) (F:=F) (t:=36) (p:=(98,4,48)) (id:=B) (n:=1) (a:=#[(0,.tmp y)]) [[.int .i64 a.k,.int .u64 a.fy,.bool a.there,c]] jfR rfl (by simp[a0,cellsOf]) (by simp) (by decide);rw[this];simp
 have l7:Sub S T3:=⟨fun id cD=>(k3 id cD).trans ((hS.trans jjb).h id cD),by have:=hS.nx;omega⟩
 have Af:(L++[s]).map iS.pure=iP X.pure (j+1):=by
  rw[xY,List.map_append,hp,hs];show _++[(⟨a.k,a.fy,a.there,wq.map bare⟩:IY)]=_;rw[hb];rfl
 simp[t3,t13,t14,yD,Xj,yE,hw,k1,k1c,fR,hgg,hv,KN,aP,e86,g2,k2,k3',k4,k9,QP,g3,jJ,e3,ka,kb];exact⟨4-(j+1),by omega,LJ (j+1) w' (L++[s]) l7 hL3 Af (by simp) (by simp[t13]) (by simp) (by omega) (by simp[hn]) rfl⟩
end
def iY(f:Nat->Nat):List AV:=(zzf 128).map fun m=>AV.int .u64 (f m:Nat)
def lq(a b:AV)(f:Nat->Nat):List AV:=a::b::iY f
@[simp] theorem jkH(f:Nat->Nat):(iY f).length=128:=by simp[iY]
theorem eF(a b:AV)(f:Nat->Nat):(lq a b f).length=130:=by simp[lq]
def zH:List AV:=lq .ar .ar fun _=>0
@[simp] theorem ze40:zeroOf C1 40=some (.agg zH):=by kernel_rfl
theorem jkR{a b:AV}(h:isSl 3 a=true)(hb:isSl 4 b=true):dr C1 40 [(0,a),(1,b)]=some (.agg (lq a b fun _=>0)):=by
 cases a<;>first|(simp[isSl]at h;done)|(cases b<;>first|(simp[isSl]at hb;done)|kernel_rfl)
def jq(P:PB)(n:Nat)(m:Nat):Nat:=if m<n then ja (P.au (m / 16)) ((m%16:Nat):Int) else 0
theorem Wd{f g:Nat->Nat}{m c:Nat}(hm:m<128)(h1:g m=c)(h2:∀j,j≠m->g j=f j):(iY f).set m (.int .u64 c)=iY g:=by
 unfold iY;apply List.ext_getElem?;intro j;by_cases hj:j<128
 .rw[List.getElem?_set];by_cases e:m=j
  .subst e;rw[if_pos rfl,if_pos (by simpa using hm),zzh,zzv hm,zzu,h1]
  .rw[if_neg e,zzh,zzh,zzv hj,zzu,zzu,h2 j (Ne.symm e)]
 .rw[List.getElem?_eq_none (by simp;omega),List.getElem?_eq_none (by simp;omega)]
theorem Zy{a b:AV}{P:PB}{n c:Nat}(hn:n<128)(hc:c=ja (P.au (n / 16)) ((n%16:Nat):Int)):(lq a b (jq P n)).set (2+n) (.int .u64 c)=lq a b (jq P (n+1)):=by
 rw[zzy 2 n];show a::b::(iY _).set n _=_;rw[Wd (g:=jq P (n+1)) hn (by unfold jq;rw[if_pos (Nat.lt_succ_self _),hc]) (fun j hj=>by
  unfold jq;by_cases h:j<n
  .rw[if_pos h,if_pos (by omega)]
  .rw[if_neg h,if_neg (by omega)])]
 rfl
theorem Qw(P:PB):jq P 0=fun _=>0:=by funext m;rfl
section
variable{S T:AS}{X:cT}
theorem iZ.agree{α:Type}{enc:α->List AV}{sz e:Nat}{ft:α->Nat->Prop}{uU:AS->α->Prop}{lo lo':Nat}{w:AV}{L:List α}(Bz:∀S T a,uU S a->(∀id,ft a id->T.h.get id=S.h.get id)->S.nx<=T.nx->uU T a)
  (h:iZ enc sz e ft uU S lo w L) (hs:∀id,lo<=id->id<S.nx->T.h.get id=S.h.get id) (hn:S.nx<=T.nx) (hl:lo'<=lo):iZ enc sz e ft uU T lo' w L:=
 ⟨h.gw.agree (fun id q=>hs id (by have:=h.new;unfold jI at this;omega) (by have:=h.gw.1.old;omega)) hn,by have:=h.new;unfold jI at this⊢;omega,fun a ha=>⟨Bz S T a (h.el a ha).1 (fun id q=>hs id ((h.el a ha).2 id q).1 ((h.el a ha).2 id q).2.1) hn,fun id q=>by
  have h1:=(h.el a ha).2 id q;exact⟨by omega,by omega,h1.2.2⟩⟩⟩
structure HdX where
 sw:AV
 L:List ma
 aw:AV
 A:List iS
 f:Nat->Nat
def HdX.c(H:HdX):List AV:=lq H.sw H.aw H.f
structure jaS(S:AS)(lo:Nat)(H:HdX):Prop where
 Fv:N3 S lo H.sw H.L
 bg:N8 S lo H.aw H.A
structure I0(P:PB)(H:HdX):Prop where
 Fv:H.L.map ma.pure=jx P 8
 bg:H.A.map iS.pure=iP P 4
 cur:H.f=jq P 128
def hoH(S T2:AS)(X:cT)(sw aw:AV)(k:Nat)(F':Fr)(S':AS):Prop:=
 ∃i:Nat,(∀id,id<T2.nx->S'.h.get id=T2.h.get id)/\T2.nx<S'.nx/\S'.h.get T2.nx=some (.row (lq sw aw (jq X.pure (16*i))) 0 0 false 40)/\sl F' 0=.ptr X.b 0 0 27/\sl F' 2=.ptr S.nx 0 0 130/\sl F' 3=.ptr T2.nx 0 0 130/\sl F' 4=.int .i64 i/\i<=8/\F'.n=29/\k=8-i
theorem UP{T2 U:AS}{sw aw:AV}{k:Nat}{F':Fr}(i:Nat)(h1:∀id,id<T2.nx->U.h.get id=T2.h.get id)(h2:T2.nx<U.nx)(h3:U.h.get T2.nx=some (.row (lq sw aw (jq X.pure (16*i))) 0 0 false 40))(h4:sl F' 0=.ptr X.b 0 0 27)(h5:sl F' 2=.ptr S.nx 0 0 130)(h6:sl F' 3=.ptr T2.nx 0 0 130)(h7:sl F' 4=.int .i64 i)(h8:i<=8)(h9:F'.n=29)(Ez:k=8-i):hoH S T2 X sw aw k F' U:=
 ⟨i,h1,h2,h3,h4,h5,h6,h7,h8,h9,Ez⟩
def hiH(S T2:AS)(X:cT)(sw aw:AV)(i:Nat)(k:Nat)(F':Fr)(S':AS):Prop:=
 ∃j:Nat,(∀id,id<T2.nx->S'.h.get id=T2.h.get id)/\T2.nx<S'.nx/\S'.h.get T2.nx=some (.row (lq sw aw (jq X.pure (16*i+j))) 0 0 false 40)/\sl F' 0=.ptr X.b 0 0 27/\sl F' 2=.ptr S.nx 0 0 130/\sl F' 3=.ptr T2.nx 0 0 130/\sl F' 4=.int .i64 i/\sl F' 5=.int .i64 j/\j<=16/\F'.n=29/\k=16-j
theorem UX{T2 U:AS}{sw aw:AV}{i k:Nat}{F':Fr}(j:Nat)(h1:∀id,id<T2.nx->U.h.get id=T2.h.get id)(h2:T2.nx<U.nx)(h3:U.h.get T2.nx=some (.row (lq sw aw (jq X.pure (16*i+j))) 0 0 false 40))(h4:sl F' 0=.ptr X.b 0 0 27)(h5:sl F' 2=.ptr S.nx 0 0 130)(h6:sl F' 3=.ptr T2.nx 0 0 130)(h7:sl F' 4=.int .i64 i)(h7':sl F' 5=.int .i64 j)(h8:j<=16)(h9:F'.n=29)(Ez:k=16-j):hiH S T2 X sw aw i k F' U:=
 ⟨j,h1,h2,h3,h4,h5,h6,h7,h7',h8,h9,Ez⟩
theorem MQ{S:AS}{B:Nat}{cs:List AV}{ty:Nat}{fz:Bool}(h:S.h.get B=some (.row cs 0 0 fz ty))(hl:cs.length=130):loadT C1 S 40 (.ptr B 0 0 130)=some (.agg cs):=by
 simp only[jz,ll,ag40,sz40,se,h,bB];rw[if_pos ⟨zza _,zza _,by omega⟩,List.drop_zero,zzi (by omega)];rfl
theorem nt8:Tryz.f8.ntmps=29:=by kernel_rfl
theorem jdS(h:bG S X):ah C1 8 [.ptr X.b 0 0 27] S fun v T=>Sub S T/\∃H:HdX,v=.agg H.c/\jaS T S.nx H/\I0 X.pure H:=by
 obtain⟨S1,bC⟩:∃S1:AS,S1=⟨S.h.set S.nx (.row zH 0 0 false 40),S.nx+1⟩:=⟨_,rfl⟩
 have s1:Sub S S1:=by rw[bC];exact seg.cq
 have gS:S1.h.get S.nx=some (.row zH 0 0 false 40):=by rw[bC];exact aa _ _ _
 have nS:S1.nx=S.nx+1:=by rw[bC]
 have fR:=bC.symm;clear bC;obtain⟨sw,T1,⟨t1,L,hL,hp⟩,e38⟩:=(jcq (h.toSub s1)).ex;obtain⟨aw,T2,⟨t2,A,hA,hpA⟩,e39⟩:=(jlo (h.toSub (s1.trans t1))).ex;have k1:=hL.gw.1.np;have k2:=aj hL.gw.1;have k3:=hA.gw.1.np;have k4:=aj hA.gw.1;refine aL (cK _) (cM _ rfl) fn8 rfl ok8 (by simp) fun F hn s0=>?_;rw[nt8]at hn;have zl:zH.length=130:=eF _ _ _;obtain⟨B,hB⟩:∃B,B=T2.nx:=⟨_,rfl⟩
 have b0:(⟨T2.h.set B (.row zH 0 0 false 40),B+1⟩:AS).h.get B=some (.row zH 0 0 false 40):=aa _ _ _;obtain⟨S2,dD⟩:∃S2:AS,S2=⟨(T2.h.set B (.row zH 0 0 false 40)).set B (.row (lq sw aw fun _=>0) 0 0 false 40),B+1⟩:=⟨_,rfl⟩
 have fI:xQ (⟨T2.h.set B (.row zH 0 0 false 40),B+1⟩:AS) (.ptr B 0 0 130) (lq sw aw fun _=>0)=some S2:=by
  simp only[eC,iT,b0,dO];rw[if_pos ⟨trivial,by rw[eF];exact zza _,trivial⟩,dD];have:dq 0 zH (lq sw aw fun _=>0)=lq sw aw fun _=>0:=by
   show py zH _=_;unfold py;rw[eF,cF,zzn (by rw[zl];exact zza _)];exact zzj _
  rw[this]
 have g2:S2.h.get B=some (.row (lq sw aw (jq X.pure 0)) 0 0 false 40):=by rw[dD,Qw];exact aa _ _ _
 have n2:S2.nx=B+1:=by rw[dD]
 have o2:∀id,id<B->S2.h.get id=T2.h.get id:=fun id hi=>by rw[dD];exact (ae _ _ (by omega)).trans (ae _ _ (by omega))
 clear dD;simp[s0,aP,fR,e38,e39,k1,k2,k3,k4,jkR hL.gw.1.sl hA.gw.1.sl,zl,<-hB,fI,eF];refine aT (hoH S T2 X sw aw) 8 (UP 0 (by rw[<-hB];exact o2) (by omega) (by rw[<-hB];exact g2) (by simp[s0]) (by simp) (by simp[hB]) (by simp) (by omega) (by simp[hn]) rfl) ?_;clear s0 hn fI b0 g2 n2 o2 e38 e39 fR;rintro k F' S'-⟨i,h1,h2,h3,t0,F8,t3,t4,hi,hn,hk⟩;by_cases Zv:i<8
 .have kT:(i:Int)<8:=by omega
  simp[t0,F8,t3,t4,kT];refine aT (hiH S T2 X sw aw i) 16 (UX 0 h1 h2 h3 (by simp[t0]) (by simp[F8]) (by simp[t3]) (by simp[t4]) (by simp) (by omega) (by simp[hn]) rfl) ?_;clear h1 h2 h3 t0 F8 t3 t4 hn;rintro k F' S'-⟨j,h1,h2,h3,t0,F8,t3,t4,t5,hj,hn,hk⟩;by_cases hj16:j<16
  .have yD:(j:Int)<16:=by omega
   have Xm:bG S' X:=(h.toSub ((s1.trans t1).trans t2)).agree h1 (Nat.le_of_lt h2);obtain⟨c,U,⟨rfl,hU⟩,e40⟩:=(Wc Xm i j).ex;have ec:ja ((jL X.au (i:Int)).map dv.pure) (j:Int)=ja (X.pure.au i) (j:Int):=by rw[my _ Zv];rfl
   rw[ec]at e40;have gU:=(hU.h _ h2).trans h3;have hUn:=hU.nx;have hset:=Zy (a:=sw) (b:=aw) (P:=X.pure) (n:=16*i+j) (c:=ja (X.pure.au i) (j:Int)) (by omega) (by
    rw[show (16*i+j) / 16=i by omega,show (16*i+j)%16=j by omega])
   have oI:=L2 (x:=.int .u64 (ja (X.pure.au i) (j:Int):Nat)) gU (eF _ _ _) (show 2+(16*i+j)<130 by omega);rw[hset]at oI;rw[show 2+(16*i+j)=2+i*16+j by omega]at oI;obtain⟨V,hV⟩:∃V:AS,V=⟨U.h.set T2.nx (.row (lq sw aw (jq X.pure (16*i+j+1))) 0 0 false 40),U.nx⟩:=⟨_,rfl⟩
   rw[<-hV]at oI;have v1:∀id,id<T2.nx->V.h.get id=T2.h.get id:=fun id cD=>by rw[hV];exact (ae _ _ (by omega)).trans ((hU.h id (by omega)).trans (h1 id cD))
   have v2:T2.nx<V.nx:=by rw[hV];show T2.nx<U.nx;omega
   have v3:V.h.get T2.nx=some (.row (lq sw aw (jq X.pure (16*i+(j+1)))) 0 0 false 40):=by rw[hV];exact aa _ _ _
   clear hV;have hw:=IntWalk.i64_in ((j:Int)+1) (by omega);simp[t0,F8,t3,t4,t5,kT,yD];refine cu [.p,.p,.p,.p,.p,.e [],.p,.p,.p,.e []] (n:=29) (by kernel_rfl) (by simp[hn]) ?_;simp[t0,F8,t3,t4,t5,kT,Zv,yD,hj16,aP,e40,oI,hw];exact⟨16-(j+1),by omega,UX (j+1) v1 v2 v3 (by simp[t0]) (by simp[F8]) (by simp[t3]) (by simp[t4]) (by simp) (by omega) (by simp[hn]) rfl⟩
  .obtain rfl:j=16:=by omega
   have hw:=IntWalk.i64_in ((i:Int)+1) (by omega);simp[t0,F8,t3,t4,t5,hw];exact⟨8-(i+1),by omega,UP (i+1) h1 h2 h3 (by simp[t0]) (by simp[F8]) (by simp[t3]) (by simp) (by omega) (by simp[hn]) rfl⟩
 .obtain rfl:i=8:=by omega
  have BP:=MQ h3 (eF _ _ _);have hT:Sub T2 S':=⟨h1,Nat.le_of_lt h2⟩
  have gT:S'.h.get S.nx=some (.row zH 0 0 false 40):=(hT.h _ (by have:=t1.nx;have:=t2.nx;omega)).trans ((t2.h _ (by have:=t1.nx;omega)).trans ((t1.h _ (by omega)).trans gS));have hZ:=eF .ar .ar fun _=>0;have zl:zH.length=130:=hZ;have nT:S.nx<S'.nx:=by have:=t1.nx;have:=t2.nx;have:=hT.nx;omega
  obtain⟨V,hV⟩:∃V:AS,V=⟨S'.h.set S.nx (.row (lq sw aw (jq X.pure 128)) 0 0 false 40),S'.nx⟩:=⟨_,rfl⟩
  have fI:xQ S' (.ptr S.nx 0 0 130) (lq sw aw (jq X.pure 128))=some V:=by
   simp only[eC,iT,gT,dO];rw[if_pos ⟨trivial,by rw[eF];exact zza _,trivial⟩,hV];have:dq 0 zH (lq sw aw (jq X.pure 128))=lq sw aw (jq X.pure 128):=by
    show py zH _=_;unfold py;rw[eF,cF,zzn (by rw[zl];exact zza _)];exact zzj _
   rw[this]
  have gV:V.h.get S.nx=some (.row (lq sw aw (jq X.pure 128)) 0 0 false 40):=by rw[hV];exact aa _ _ _
  have oV:∀id,id≠S.nx->V.h.get id=S'.h.get id:=fun id hi=>by rw[hV];exact ae _ _ hi
  have vN:V.nx=S'.nx:=by rw[hV]
  clear hV;have hld2:WW (Xb (V.h.get S.nx) 0 0 130 130)=some (.agg (lq sw aw (jq X.pure 128))):=by
   rw[gV,bB,if_pos ⟨zza _,zza _,zza _⟩,List.drop_zero,zzi (by rw[eF];exact zza _)];rfl
  simp[t0,F8,t3,t4,BP,fI,eF];rw[hld2];refine⟨rfl,?_⟩;refine⟨⟨fun id hi=>(oV id (by omega)).trans ((hT.h id (by have:=t1.nx;have:=t2.nx;omega)).trans ((t2.h id (by have:=t1.nx;omega)).trans ((t1.h id (by omega)).trans (s1.h id hi)))),by omega⟩,⟨sw,L,aw,A,jq X.pure 128⟩,rfl,⟨?_,?_⟩,hp,hpA,rfl⟩
  .exact iZ.agree yh hL (fun id q q2=>(oV id (by omega)).trans ((hT.h id (by have:=t2.nx;omega)).trans (t2.h id q2))) (by have:=t2.nx;have:=hT.nx;omega) (by omega)
  .exact iZ.agree vB hA (fun id q q2=>(oV id (by have:=t1.nx;omega)).trans (hT.h id q2)) (by have:=hT.nx;omega) (by have:=t1.nx;omega)
end
@[simp] theorem blC1(n:Int):dr C1 100 [(0,.int .i64 1),(1,.int .i64 n)]=some (.agg [.int .i64 1,.int .i64 n,.str [],.bool false]):=by kernel_rfl
@[simp] theorem blC2(s:List Nat):dr C1 100 [(0,.int .i64 2),(2,.str s)]=some (.agg [.int .i64 2,.int .i64 0,.str s,.bool false]):=by kernel_rfl
@[simp] theorem blC3(b:Bool):dr C1 100 [(0,.int .i64 3),(3,.bool b)]=some (.agg [.int .i64 3,.int .i64 0,.str [],.bool b]):=by kernel_rfl
theorem Uf:∀l:List Nat,Jb l l=false
 |[]=>rfl
 |a::l=>by
  show cond (Nat.blt a a) true (cond (Nat.beq a a) (Jb l l) false)=false;rw[Uf l,iJ];simp
theorem Nw:∀l:List Nat,tV l l=true
 |[]=>rfl
 |a::l=>by
  show cond (Nat.beq a a) (tV l l) false=true;rw[Nw l,Nat.beq_refl];rfl
theorem vk(a:Int):Bs a a=true:=by rw[gz];simp
theorem ne52(a:Int)(b:Nat)(c:Bool):aZ C1 .neq 52 c (.agg [.int .i64 a,.int .u64 b]) (.agg [.int .i64 a,.int .u64 b])=some (.bool false):=by
 have h:C5 C1 52 c (.agg [.int .i64 a,.int .u64 b]) (.agg [.int .i64 a,.int .u64 b])=(match (some (Bs a a):Option Bool)with|some true=>(match (some (Bs b b):Option Bool)with|some true=>some true|r=>r)|r=>r):=by kernel_rfl
 show (match C5 C1 52 c _ _ with|some r=>some (AV.bool (!r))|none=>none)=_;rw[h,vk,vk];rfl
theorem pT{eq:AV->AV->Option Bool}{cx:Cx}{e z:Nat}{xs ys:List AV}{r:Nat->Bool}:∀(n i:Nat){t:Bool},(∀j,i<=j->j<i+n->∃a b,partOf cx e xs (j*z)=some a/\partOf cx e ys (j*z)=some b/\eq a b=some (r j))->(t=true↔∀j,i<=j->j<i+n->r j=true)->nq eq cx e z xs ys n i=some t
 |0,i,t,_,ht=>by
  rw[ht.2 fun j h1 h2=>by omega];rfl
 |n+1,i,t,h,ht=>by
  obtain⟨a,b,h1,h2,h3⟩:=h i (zza _) (by omega);show (match partOf cx e xs (Nat.mul i z),partOf cx e ys (Nat.mul i z)with
   |some a,some b=>match eq a b with
    |some true=>nq eq cx e z xs ys n (Nat.succ i)
    |r=>r
   |_,_=>none)=_
  rw[show Nat.mul i z=i*z from rfl,h1,h2];show (match eq a b with
    |some true=>nq eq cx e z xs ys n (Nat.succ i)
    |r=>r)=_
  rw[h3];cases hr:r i with
  |true=>
   refine pT n (i+1) (fun j h4 h5=>h j (by omega) (by omega)) (ht.trans ⟨fun q j h4 h5=>q j (by omega) (by omega),fun q j h4 h5=>?_⟩);by_cases e:j=i
   .rw[e];exact hr
   .exact q j (by omega) (by omega)
  |false=>
   have:t=false:=by
    cases t with
    |false=>rfl
    |true=>have:=ht.1 rfl i (zza _) (by omega);rw[hr]at this;cases this
   rw[this]
theorem jak{f:Nat->Nat}{j:Nat}(h:j<128):(iY f)[j]?=some (.int .u64 (f j:Nat)):=by
 unfold iY;rw[zzh,zzv h];rfl
noncomputable abbrev cE:Cx:=jhQ C1.mf C1.eqs
theorem eq38(f g:Nat->Nat){t:Bool}(ht:t=true↔∀j,j<128->f j=g j):vj C1 6 38 (.agg (iY f)) (.agg (iY g))=some t:=by
 have h:vj C1 6 38 (.agg (iY f)) (.agg (iY g))=nq (eqR cE 5 37) cE 37 16 (iY f) (iY g) 8 0:=by kernel_rfl
 rw[h];obtain⟨r,hr⟩:∃r:Nat->Bool,∀j,r j=true↔∀m,m<16->f (j*16+m)=g (j*16+m):=⟨fun j=>(zzf 16).all fun m=>decide (f (j*16+m)=g (j*16+m)),fun j=>by simp⟩
 refine pT (r:=r) _ _ (fun j h1 h2=>?_) (ht.trans ⟨fun q j _ hj=>(hr j).2 fun m hm=>q _ (by omega),fun q j hj=>?_⟩)
 .have hp:∀f,partOf cE 37 (iY f) (j*16)=some (.agg (takeN 16 (lT (j*16) (iY f)))):=fun f=>by kernel_rfl
  refine⟨_,_,hp f,hp g,?_⟩;have hn:∀f m,m<16->nth m (takeN 16 (lT (j*16) (iY f)))=some (.int .u64 (f (j*16+m):Nat)):=fun f m hm=>by
   rw[ji,cR,cF,List.getElem?_take_of_lt (by omega),List.getElem?_drop];exact jak (by omega)
  obtain⟨L,hL⟩:∃L,L=takeN 16 (lT (j*16) (iY f)):=⟨_,rfl⟩
  obtain⟨M,hM⟩:∃M,M=takeN 16 (lT (j*16) (iY g)):=⟨_,rfl⟩
  have h3:eqR cE 5 37 (.agg L) (.agg M)=nq (eqR cE 4 27) cE 27 1 L M 16 0:=by kernel_rfl
  have nL:=hn f;have nM:=hn g;rw[<-hL]at nL;rw[<-hM]at nM;rw[<-hL,<-hM,h3];refine pT (r:=fun m=>decide (f (j*16+m)=g (j*16+m))) _ _ (fun m h4 h5=>?_) ((hr j).trans ⟨fun q m _ hm=>decide_eq_true (q m (by omega)),fun q m hm=>of_decide_eq_true (q m (zzl _) (by omega))⟩);have hq:∀L,partOf cE 27 L (m*1)=nth (m*1) L:=fun L=>by kernel_rfl
  have hqL:=hq L;have hqM:=hq M;rw[Nat.mul_one]at hqL hqM⊢;refine⟨_,_,hqL.trans (nL m (by omega)),hqM.trans (nM m (by omega)),?_⟩;have h6:∀x y:Int,eqR cE 4 27 (.int .u64 x) (.int .u64 y)=some (Bs x y):=fun x y=>by kernel_rfl
  rw[h6,gz];congr 1;rw[decide_eq_decide];omega
 .have:=(hr _).1 (q (j / 16) (zzl _) (by omega)) (j%16) (by omega)
  rwa [show j / 16*16+j%16=j by omega]at this
theorem jby(f g:Nat->Nat)(c:Bool){t:Bool}(h:t=true↔∀j,j<128->f j=g j):aZ C1 .neq 38 c (.agg (iY f)) (.agg (iY g))=some (.bool (!t)):=by
 show (match C5 C1 38 c _ _ with|some r=>some (AV.bool (!r))|none=>none)=_;rw[show C5 C1 38 c (.agg (iY f)) (.agg (iY g))=vj C1 6 38 (.agg (iY f)) (.agg (iY g)) from rfl,eq38 f g h]
theorem ne38(f:Nat->Nat)(c:Bool):aZ C1 .neq 38 c (.agg (iY f)) (.agg (iY f))=some (.bool false):=jby f f c (t:=true) ⟨fun _ _ _=>rfl,fun _=>rfl⟩
section
variable{S T:AS}
theorem EO(a:qe)(S:AS):ah C1 234 [.agg (cZ a),.agg (cZ a)] S fun r T=>Sub S T/\r=.int .i64 0:=by
 refine cG (cK _) (cM _ rfl) jjz rfl jgE (by simp) fun F hn m8=>?_;have s0:=m8 0;have s1:=m8 1;clear m8;simp only[zzq,zzr,zzx,cZ]at s0 s1;by_cases k1:a.kind=1
 .simp[s0,s1,k1,mod.yZ]
 by_cases k2:a.kind=2
 .simp[s0,s1,k1,k2,mod.yZ,Uf]
 by_cases k3:a.kind=3
 .cases hb:a.bool<;>simp[s0,s1,k1,k2,k3,hb,mod.yZ]
 simp[s0,s1,k1,k2,k3,mod.yZ]
theorem FO(a:qe)(S:AS):ah C1 187 [.agg (cZ a),.agg (cZ a)] S fun r T=>Sub S T/\r=.int .i64 0:=by
 have h0:Sub S ⟨(S.h.set S.nx (.row (cZ a) 0 0 false 100)).set (S.nx+1) (.row (cZ a) 0 0 false 100),S.nx+2⟩:=mod.yZ;have lk:∀T:AS,Sub ⟨(S.h.set S.nx (.row (cZ a) 0 0 false 100)).set (S.nx+1) (.row (cZ a) 0 0 false 100),S.nx+2⟩ T->T.h.get S.nx=some (.row (cZ a) 0 0 false 100)/\T.h.get (S.nx+1)=some (.row (cZ a) 0 0 false 100):=fun T hT=>
  ⟨(hT.h _ (by show S.nx<S.nx+2;omega)).trans ((ae _ _ (by omega)).trans (aa _ _ _)),(hT.h _ (by show S.nx+1<S.nx+2;omega)).trans (aa _ _ _)⟩
 obtain⟨_,T1,⟨t1,rfl⟩,e1⟩:=(EO a ⟨(S.h.set S.nx (.row (cZ a) 0 0 false 100)).set (S.nx+1) (.row (cZ a) 0 0 false 100),S.nx+2⟩).ex;obtain⟨_,T2,⟨t2,rfl⟩,e2⟩:=(EO ⟨1,a.num,[],false⟩ T1).ex;obtain⟨_,T3,⟨t3,rfl⟩,e3⟩:=(EO ⟨2,0,a.str,false⟩ T2).ex;obtain⟨_,T4,⟨t4,rfl⟩,e4⟩:=(EO ⟨3,0,[],a.bool⟩ T3).ex;obtain⟨g1,K2⟩:=lk _ t1;obtain⟨g2,g2'⟩:=lk _ (t1.trans t2);obtain⟨g3,g3'⟩:=lk _ ((t1.trans t2).trans t3);simp only[cZ]at *;refine cG (cK _) (cM _ rfl) jjH rfl jgM (by simp) fun F hn m8=>?_;have s0:=m8 0;have s1:=m8 1;clear m8;simp only[zzq,zzr,zzx,cZ]at s0 s1;simp[s0,s1,aP,e1,e2,e3,e4,g1,K2,g2,g2',g3,g3'];exact (((h0.trans t1).trans t2).trans t3).trans t4
theorem jhH:Tryz.f147.ntmps=77:=by kernel_rfl
theorem nt95:Tryz.f95.ntmps=41:=by kernel_rfl
theorem nt47:Tryz.f47.ntmps=26:=by kernel_rfl
theorem WC{a b:dH}(h:bare a=bare b):b.name=a.name/\b.op=a.op/\b.val=a.val/\b.bA=a.bA:=by
 have h1:=congrArg dH.name h;have h2:=congrArg dH.op h;have h3:=congrArg dH.val h;have h4:=congrArg dH.bA h;exact⟨h1.symm,h2.symm,h3.symm,h4.symm⟩
def jgk(S:AS)(a:dH)(u v:AV)(k:Nat)(F':Fr)(S':AS):Prop:=
 ∃i:Nat,Sub S S'/\sl F' 2=u/\sl F' 3=v/\sl F' 6=.int .i64 i/\i<=a.bA.length/\F'.n=77/\k=a.bA.length-i
theorem Mv{a:dH}{u v:AV}{k:Nat}{F':Fr}(i:Nat)(h1:Sub S T)(h4:sl F' 2=u)(h5:sl F' 3=v)(h6:sl F' 6=.int .i64 i)(h7:i<=a.bA.length)(h8:F'.n=77)(h9:k=a.bA.length-i):jgk S a u v k F' T:=
 ⟨i,h1,h4,h5,h6,h7,h8,h9⟩
theorem jcV{a b:dH}(ha:gq S a)(hb:gq S b)(he:bare a=bare b):ah C1 147 [.agg (dj a),.agg (dj b)] S fun r T=>Sub S T/\r=.int .i64 0:=by
 obtain⟨S1,bC⟩:∃S1:AS,S1=⟨(S.h.set S.nx (.row (dj a) 0 0 false 103)).set (S.nx+1) (.row (dj b) 0 0 false 103),S.nx+2⟩:=⟨_,rfl⟩
 have h0:Sub S S1:=by rw[bC];exact mod.yZ
 have g0:S1.h.get S.nx=some (.row (dj a) 0 0 false 103):=by rw[bC];exact (ae _ _ (by omega)).trans (aa _ _ _)
 have Qe:S1.h.get (S.nx+1)=some (.row (dj b) 0 0 false 103):=by rw[bC];exact aa _ _ _
 have nS1:S1.nx=S.nx+2:=by rw[bC]
 have fR:=bC.symm;clear bC;obtain⟨e1,e2,e3,e4⟩:=WC he;have h6:=ha.le;obtain⟨_,T1,⟨t1,rfl⟩,w1⟩:=(FO a.val S1).ex;have g1:=(t1.h _ (by omega)).trans g0;have K2:=(t1.h _ (by omega)).trans Qe;have u1:=ha.sl.sl;have u2:=ha.sl.aO dC (by omega);have v1:=hb.sl.sl;have v2:=hb.sl.aO dC (by omega);rw[e4]at v2;have ok1:=aj ha.sl;have ok2:=aj hb.sl;have nI:=hb.sl;rw[e4]at nI;simp only[dj,e1,e2,e3]at fR g0 Qe g1 K2;simp only[cZ]at w1;refine cG (cK _) (cM _ rfl) jjU rfl jgZ (by simp) fun F hn m8=>?_;rw[jhH]at hn;have s0:=m8 0;have s1:=m8 1;clear m8;simp only[zzq,zzr,zzx,dj,e1,e2,e3]at s0 s1;simp[s0,s1,aP,fR,g0,Qe,w1,g1,K2,Nw];refine aT (jgk S1 a (.ptr S.nx 0 0 7) (.ptr (S.nx+1) 0 0 7)) a.bA.length (Mv 0 t1 (by simp) (by simp) (by simp) (by omega) (by simp[hn]) rfl) ?_;clear s0 s1 hn g1 K2 w1 t1 fR;rintro k F' S'-⟨i,hS,t2,t3,t6,hi,hn,hk⟩;have g1:=(hS.h _ (by omega)).trans g0;have K2:=(hS.h _ (by omega)).trans Qe;by_cases dh:i<a.bA.length
 .obtain⟨t,hx⟩:∃t,a.bA[i]?=some t:=⟨_,zzd dh⟩
  have l1:=dB (cx:=C1) (e:=100) (ha.sl.toSub (h0.trans hS)) dC (by omega) hx WX F9;have l2:=dB (cx:=C1) (e:=100) (nI.toSub (h0.trans hS)) dC (by omega) hx WX F9;have kT:(i:Int)<a.bA.length:=by omega
  obtain⟨_,U,⟨q1,rfl⟩,w1⟩:=(FO t S').ex;have lH:=cp (i:=i) (by omega);simp[t2,t3,t6,g1,K2,u1,u2,v1,v2,dh,kT];refine cu [.p,.r 0 0,.p,.p,.r 0 0,.p,.r 0 0,.p,.p,.r 0 0,.e [],.p] (n:=77) (by kernel_rfl) (by simp[hn]) ?_;simp[t2,t3,t6,g1,K2,u1,u2,v1,v2,dh,kT,l1,l2,aP,w1,lH,ok1,ok2];exact⟨a.bA.length-(i+1),by omega,Mv (i+1) (hS.trans q1) (by simp[t2]) (by simp[t3]) (by simp) (by omega) (by simp[hn]) rfl⟩
 .obtain rfl:i=a.bA.length:=by omega
  simp[t2,t3,t6,g1,K2,u1,u2,v1,v2,dh,ok1,ok2];exact h0.trans hS
def jkL(S:AS)(n:Nat)(u v:AV)(k:Nat)(F':Fr)(S':AS):Prop:=
 ∃i:Nat,Sub S S'/\sl F' 0=u/\sl F' 1=v/\sl F' 5=.int .i64 i/\i<=n/\F'.n=41/\k=n-i
theorem NJ{n:Nat}{u v:AV}{k:Nat}{F':Fr}(i:Nat)(h1:Sub S T)(h4:sl F' 0=u)(h5:sl F' 1=v)(h6:sl F' 5=.int .i64 i)(h7:i<=n)(h8:F'.n=41)(h9:k=n-i):jkL S n u v k F' T:=
 ⟨i,h1,h4,h5,h6,h7,h8,h9⟩
theorem D9{α β:Type}{f:α->β}{l l':List α}(h:l.map f=l'.map f){i:Nat}{x:α}(hx:l[i]?=some x):∃y,l'[i]?=some y/\f x=f y:=by
 have:=congrArg (·[i]?) h;simp only[zzh,hx,zzu]at this;cases hy:l'[i]? with
 |none=>rw[hy]at this;cases this
 |some y=>rw[hy]at this;exact⟨y,rfl,Option.some.inj this⟩
theorem jkM{p q:AV}{ks ls:List dH}(hp:aB S p ks)(hq:aB S q ls)(he:ks.map bare=ls.map bare):ah C1 95 [p,q] S fun r T=>Sub S T/\r=.int .i64 0:=by
 have el:ls.length=ks.length:=by have:=congrArg zzk he;simpa using this.symm
 have h6:=hp.le;have u1:=hp.sl.sl;have u2:=hp.sl.aO c8 (by omega);have v1:=hq.sl.sl;have v2:=hq.sl.aO c8 (by omega);rw[el]at v2;refine bt (cK _) (cM _ rfl) jjn rfl jgs (by simp) fun F hn s0 s1=>?_;rw[nt95]at hn;simp[s0,s1];refine aT (jkL S ks.length p q) ks.length (NJ 0 (Sub.refl S) (by simp[s0]) (by simp[s1]) (by simp) (by omega) (by simp[hn]) rfl) ?_;clear s0 s1 hn;rintro k F' S'-⟨i,hS,t0,t1,t5,hi,hn,hk⟩;by_cases dh:i<ks.length
 .obtain⟨a,hx⟩:∃t,ks[i]?=some t:=⟨_,zzd dh⟩
  obtain⟨b,hy,Nk⟩:=D9 he hx;have l1:=dB (cx:=C1) (e:=103) (hp.sl.toSub hS) c8 (by omega) hx NZ Ci;have l2:=dB (cx:=C1) (e:=103) (hq.sl.toSub hS) c8 (by omega) hy NZ Ci;have kT:(i:Int)<ks.length:=by omega
  obtain⟨_,U,⟨q1,rfl⟩,w1⟩:=(jcV ((hp.BW a (zze hx)).sub hS) ((hq.BW b (zze hy)).sub hS) Nk).ex;have lH:=cp (i:=i) (by omega);have ok1:=aj (hp.BW a (zze hx)).sl;have ok2:=aj (hq.BW b (zze hy)).sl;simp[t0,t1,t5,u1,u2,v1,v2,dh,kT];refine cu [.p,.p,.p,.r 0 0,.p,.p,.p,.r 0 0,.e [],.p] (n:=41) (by kernel_rfl) (by simp[hn]) ?_;simp only[dj]at l1 l2 w1;simp[t0,t1,t5,u1,u2,v1,v2,dh,kT,l1,l2,aP,w1,lH,ok1,ok2];exact⟨ks.length-(i+1),by omega,NJ (i+1) (hS.trans q1) (by simp[t0]) (by simp[t1]) (by simp) (by omega) (by simp[hn]) rfl⟩
 .obtain rfl:i=ks.length:=by omega
  simp[t0,t1,t5,u1,u2,v1,v2,dh];exact hS
theorem Si{p q:AV}{ks ls:List dH}(hp:aB S p ks)(hq:aB S q ls)(he:ks.map bare=ls.map bare):ah C1 48 [p,q] S fun r T=>Sub S T/\r=.bool true:=by
 obtain⟨_,U,⟨q1,rfl⟩,w1⟩:=(jkM hp hq he).ex;refine bt (cK _) (cM _ rfl) fn48 rfl ok48 (by simp) fun F hn s0 s1=>?_;simp[s0,s1,aP,w1];exact q1
def jkr(S:AS)(n:Nat)(u v:AV)(k:Nat)(F':Fr)(S':AS):Prop:=
 ∃i:Nat,S'=S/\sl F' 0=u/\sl F' 1=v/\sl F' 5=.int .i64 i/\i<=n/\F'.n=26/\k=n-i
theorem Nv{n:Nat}{u v:AV}{k:Nat}{F':Fr}(i:Nat)(h1:T=S)(h4:sl F' 0=u)(h5:sl F' 1=v)(h6:sl F' 5=.int .i64 i)(h7:i<=n)(h8:F'.n=26)(h9:k=n-i):jkr S n u v k F' T:=
 ⟨i,h1,h4,h5,h6,h7,h8,h9⟩
theorem Z6{u v:AV}{st:List (Int×Nat)}(hu:Sl S u 2 (st.flatMap eJ))(hv:Sl S v 2 (st.flatMap eJ))(h8:st.length<=8):ah C1 47 [u,v] S fun r T=>Sub S T/\r=.bool true:=by
 have u1:=hu.sl;have u2:=hu.aO cd (by omega);have v1:=hv.sl;have v2:=hv.aO cd (by omega);refine bt (cK _) (cM _ rfl) fn47 rfl ok47 (by simp) fun F hn s0 s1=>?_;rw[nt47]at hn;simp[s0,s1,u1,u2,v1,v2];refine aT (jkr S st.length u v) st.length (Nv 0 rfl (by simp[s0]) (by simp[s1]) (by simp) (by omega) (by simp[hn]) rfl) ?_;clear s0 s1 hn;rintro k F' S'-⟨i,rfl,t0,t1,t5,hi,hn,hk⟩;by_cases dh:i<st.length
 .obtain⟨t,hx⟩:∃t,st[i]?=some t:=⟨_,zzd dh⟩
  have l1:=dB (cx:=C1) (e:=52) hu cd (by omega) hx jaP XL;have l2:=dB (cx:=C1) (e:=52) hv cd (by omega) hx jaP XL;have kT:(i:Int)<st.length:=by omega
  have lH:=cp (i:=i) (by omega);simp only[eJ]at l1 l2;simp[t0,t1,t5,u1,u2,v1,v2,dh,kT];refine od (n:=26) (by kernel_rfl) (by simp[hn]) ?_;simp[t0,t1,t5,u1,u2,v1,v2,dh,kT,l1,l2,lH,hu.ok,hv.ok,ne52];exact⟨st.length-(i+1),by omega,Nv (i+1) rfl (by simp[t0]) (by simp[t1]) (by simp) (by omega) (by simp[hn]) rfl⟩
 .obtain rfl:i=st.length:=by omega
  simp[t0,t1,t5,u1,u2,v1,v2,dh];exact Sub.refl _
end
structure Ql{α:Type}(enc:α->List AV)(sz:Nat)(uU:AS->α->Prop)(S:AS)(w:AV)(L:List α):Prop where
 sl:Sl S w sz (L.flatMap enc)
 el:∀a,a∈L->uU S a
section
variable{S T:AS}
theorem ma.ok.sub{s:ma}(h:ma.ok S s)(hs:Sub S T):ma.ok T s:=⟨h.1.sub hs,h.2.1.toSub hs,h.2.2⟩
theorem iS.ok.sub{s:iS}(h:iS.ok S s)(hs:Sub S T):iS.ok T s:=⟨h.1.sub hs,h.2⟩
theorem Ql.subS{w:AV}{L:List ma}(h:Ql ma.c 3 ma.ok S w L)(hs:Sub S T):Ql ma.c 3 ma.ok T w L:=⟨h.sl.toSub hs,fun a ha=>(h.el a ha).sub hs⟩
theorem Ql.kX{w:AV}{L:List iS}(h:Ql iS.c 4 iS.ok S w L)(hs:Sub S T):Ql iS.c 4 iS.ok T w L:=⟨h.sl.toSub hs,fun a ha=>(h.el a ha).sub hs⟩
theorem iZ.ql{α:Type}{enc:α->List AV}{sz e:Nat}{ft:α->Nat->Prop}{uU:AS->α->Prop}{lo:Nat}{w:AV}{L:List α}(h:iZ enc sz e ft uU S lo w L):Ql enc sz uU S w L:=⟨h.gw.1,fun a ha=>(h.el a ha).1⟩
section
variable{B:Nat}{a b:AV}{f:Nat->Nat}{fz:Bool}
theorem MP(h:S.h.get B=some (.row (lq a b f) 0 0 fz 40)):loadT C1 S 35 (.ptr B 0 0 130)=some a:=by
 simp only[jz,ll,ag35,oE,h,bB];rfl
theorem MR(h:S.h.get B=some (.row (lq a b f) 0 0 fz 40)):loadT C1 S 36 (.ptr B 0 1 130)=some b:=by
 simp only[jz,ll,ag36,oE,h,bB];rfl
theorem Ed(h:S.h.get B=some (.row (lq a b f) 0 0 fz 40)):loadT C1 S 38 (.ptr B 0 2 130)=some (.agg (iY f)):=by
 simp only[jz,ll,ag38,sz38,se,h,bB];rw[if_pos ⟨zza _,zza _,by omega⟩];rfl
end
theorem nt10:Tryz.f10.ntmps=128:=by kernel_rfl
def jfs(S:AS)(n t:Nat)(u v:AV)(k:Nat)(F':Fr)(S':AS):Prop:=
 ∃i:Nat,Sub S S'/\sl F' 2=u/\sl F' 3=v/\sl F' t=.int .i64 i/\i<=n/\F'.n=128/\k=n-i
theorem yK{n t:Nat}{u v:AV}{k:Nat}{F':Fr}(i:Nat)(h1:Sub S T)(h4:sl F' 2=u)(h5:sl F' 3=v)(h6:sl F' t=.int .i64 i)(h7:i<=n)(h8:F'.n=128)(h9:k=n-i):jfs S n t u v k F' T:=
 ⟨i,h1,h4,h5,h6,h7,h8,h9⟩
theorem NX{sw I6 aw Xw:AV}{L L':List ma}{A A':List iS}{f:Nat->Nat}(h1:Ql ma.c 3 ma.ok S sw L)(vH:Ql ma.c 3 ma.ok S I6 L')(h2:Ql iS.c 4 iS.ok S aw A)(rz:Ql iS.c 4 iS.ok S Xw A')
  (e1:L.map ma.pure=L'.map ma.pure) {m:Nat} (hm:m<=A.length) (ea:A'.length=A.length) (e2:∀i a b,i<m->A[i]?=some a->A'[i]?=some b->a.pure=b.pure) (e3:∀a b,A[m]?=some a->A'[m]?=some b->a.k=b.k/\a.fy≠b.fy) (hl:L.length<=8) (ha:A.length<=4) :
  ah C1 10 [.agg (lq sw aw f),.agg (lq I6 Xw f)] S fun r T=>Sub S T/\r=.bool (decide (m=A.length)):=by
 obtain⟨S1,bC⟩:∃S1:AS,S1=⟨(S.h.set S.nx (.row (lq sw aw f) 0 0 false 40)).set (S.nx+1) (.row (lq I6 Xw f) 0 0 false 40),S.nx+2⟩:=⟨_,rfl⟩
 have h0:Sub S S1:=by rw[bC];exact mod.yZ
 have g0:S1.h.get S.nx=some (.row (lq sw aw f) 0 0 false 40):=by rw[bC];exact (ae _ _ (by omega)).trans (aa _ _ _)
 have Qe:S1.h.get (S.nx+1)=some (.row (lq I6 Xw f) 0 0 false 40):=by rw[bC];exact aa _ _ _
 have nS1:S1.nx=S.nx+2:=by rw[bC]
 have fR:=bC.symm;clear bC;have el:L'.length=L.length:=by have:=congrArg zzk e1;simpa using this.symm
 have u1:=h1.sl.sl;have u2:=h1.sl.aO jN (by omega);have v1:=vH.sl.sl;have v2:=vH.sl.aO jN (by omega);have x1:=h2.sl.sl;have x2:=h2.sl.aO nC (by omega);have y1:=rz.sl.sl;have y2:=rz.sl.aO nC (by omega);rw[el]at v2;rw[ea]at y2;have uo:=h1.sl.ok;have vo:=vH.sl.ok;have xo:=h2.sl.ok;have yo:=rz.sl.ok;have k1:=aj h1.sl;have k2:=aj vH.sl;have k3:=aj h2.sl;have k4:=aj rz.sl;have lds:∀T:AS,Sub S1 T->(loadT C1 T 35 (.ptr S.nx 0 0 130)=some sw/\loadT C1 T 35 (.ptr (S.nx+1) 0 0 130)=some I6)/\(loadT C1 T 36 (.ptr S.nx 0 1 130)=some aw/\loadT C1 T 36 (.ptr (S.nx+1) 0 1 130)=some Xw):=fun T hT=>by
  have a1:=(hT.h _ (by omega)).trans g0;have a2:=(hT.h _ (by omega)).trans Qe;exact⟨⟨MP a1,MP a2⟩,MR a1,MR a2⟩
 obtain⟨⟨a1,a2⟩,a3,a4⟩:=lds S1 (Sub.refl _);have a5:=Ed g0;have a6:=Ed Qe;refine bt (cK _) (cM _ rfl) jkl rfl jhq (by simp) fun F hn s0 s1=>?_;rw[nt10]at hn;simp[s0,s1,eF,fR,a1,a2,a3,a4,a5,a6,u1,u2,v1,v2,x1,x2,y1,y2,k1,k2,k3,k4,ne38];refine aT (jfs S1 L.length 5 (.ptr S.nx 0 0 130) (.ptr (S.nx+1) 0 0 130)) L.length (yK 0 (Sub.refl _) (by simp) (by simp) (by simp) (by omega) (by simp[hn]) rfl) ?_;clear s0 s1 hn a1 a2 a3 a4 a5 a6 fR;rintro k F' S'-⟨i,hS,t2,t3,t5,hi,hn,hk⟩;obtain⟨⟨a1,a2⟩,a3,a4⟩:=lds S' hS;by_cases dh:i<L.length
 .obtain⟨a,hx⟩:∃t,L[i]?=some t:=⟨_,zzd dh⟩
  obtain⟨b,hy,Nk⟩:=D9 e1 hx;have am:=h1.el a (zze hx);have bm:=vH.el b (zze hy);have eid:b.id=a.id:=(congrArg PSb.id Nk).symm;have ecs:a.ks.map bare=b.ks.map bare:=congrArg PSb.cs Nk;have est:b.st=a.st:=(congrArg PSb.st Nk).symm;have q1:=h1.sl.toSub (h0.trans hS);have q2:=vH.sl.toSub (h0.trans hS);have l1:=iy (cx:=C1) (e:=3) (o:=0) q1 jN (by omega) hx (y:=.int .i64 a.id) rfl ag3;have l2:=iy (cx:=C1) (e:=3) (o:=0) q2 jN (by omega) hy (y:=.int .i64 b.id) rfl ag3;have l3:=iy (cx:=C1) (e:=48) (o:=2) q1 jN (by omega) hx (y:=a.sv) rfl jle;have l4:=iy (cx:=C1) (e:=48) (o:=2) q2 jN (by omega) hy (y:=b.sv) rfl jle;rw[eid]at l2;have p1:=uZ (k:=i) u1 (by omega);have p2:=uZ (k:=i) v1 (by omega);have f1:lJ (nh sw i) (some 0)=some (ug (nh sw i) 0):=fY p1;have f2:lJ (nh I6 i) (some 0)=some (ug (nh I6 i) 0):=fY p2;have f3:lJ (nh sw i) (some 2)=some (ug (nh sw i) 2):=fY p1;have f4:lJ (nh I6 i) (some 2)=some (ug (nh I6 i) 2):=fY p2;have f5:lJ (nh sw i) (some 1)=some (ug (nh sw i) 1):=fY p1;have f6:lJ (nh I6 i) (some 1)=some (ug (nh I6 i) 1):=fY p2;have kT:(i:Int)<L.length:=by omega
  obtain⟨_,U,⟨U1,rfl⟩,w1⟩:=(Z6 (am.2.1.toSub (h0.trans hS)) (by have:=bm.2.1.toSub (h0.trans hS);rwa [est]at this) am.2.2.2).ex;obtain⟨⟨b1,b2⟩,b3,b4⟩:=lds U (hS.trans U1);have q3:=h1.sl.toSub ((h0.trans hS).trans U1);have q4:=vH.sl.toSub ((h0.trans hS).trans U1);have l5:=iy (cx:=C1) (e:=29) (o:=1) q3 jN (by omega) hx (y:=a.p) rfl jlh;have l6:=iy (cx:=C1) (e:=29) (o:=1) q4 jN (by omega) hy (y:=b.p) rfl jlh;obtain⟨_,V,⟨V1,rfl⟩,w2⟩:=(Si (am.1.sub ((h0.trans hS).trans U1)) (bm.1.sub ((h0.trans hS).trans U1)) ecs).ex;have lH:=cp (i:=i) (by omega);have c1:=aj am.1.sl;have c2:=aj bm.1.sl;have c3:=aj am.2.1;have c4:=aj bm.2.1;simp[t2,t3,t5,a1,a2,u1,u2,v1,v2,dh,kT,uo,vo,k1,k2];refine cu [.p,.r 0 0,.p,.p,.p,.r 0 0,.p,.r 0 0,.p,.p,.p,.r 0 0,.p,.p,.p,.r 0 0,.p,.p,.p,.r 0 0,.p,.r 0 0,.p,.p,.p,.r 0 0,.e [],.p,.p,.p,.p,.r 0 0,.p,.p,.p,.r 0 0,.p,.r 0 0,.p,.p,.p,.r 0 0,.e [],.p,.p] (n:=128) (by kernel_rfl) (by simp[hn]) ?_;simp[t2,t3,t5,a1,a2,b1,b2,u1,u2,v1,v2,dh,kT,uo,vo,k1,k2,f1,f2,f3,f4,f5,f6,l1,l2,l3,l4,l5,l6,aP,w1,w2,lH,c1,c2,c3,c4,zF];exact⟨L.length-(i+1),by omega,yK (i+1) ((hS.trans U1).trans V1) (by simp[t2]) (by simp[t3]) (by simp) (by omega) (by simp[hn]) rfl⟩
 obtain rfl:i=L.length:=by omega
 simp[t2,t3,t5,a1,a2,a3,a4,u1,u2,v1,v2,dh,uo,vo,k1,k2];refine aT (jfs S1 m 6 (.ptr S.nx 0 0 130) (.ptr (S.nx+1) 0 0 130)) m (yK 0 hS (by simp[t2]) (by simp[t3]) (by simp) (by omega) (by simp[hn]) rfl) ?_;clear t2 t3 t5 hn a1 a2 a3 a4 hS;rintro k F' S'-⟨i,hS,t2,t3,t6,hi,hn,hk⟩;obtain⟨⟨a1,a2⟩,a3,a4⟩:=lds S' hS;by_cases dh:i<A.length
 .obtain⟨a,hx⟩:∃t,A[i]?=some t:=⟨_,zzd dh⟩
  obtain⟨b,hy⟩:∃t,A'[i]?=some t:=⟨_,zzd (by omega)⟩
  have ek:b.k=a.k:=by
   by_cases him:i<m
   .exact (congrArg IY.k (e2 i a b him hx hy)).symm
   .obtain rfl:i=m:=by omega
    exact (e3 a b hx hy).1.symm
  have am:=h2.el a (zze hx);have bm:=rz.el b (zze hy);have w0:Sub S' ⟨S'.h,S'.nx+2⟩:=⟨fun _ _=>rfl,zqb _ _⟩
  obtain⟨_,b3,b4⟩:=lds _ (hS.trans w0);have q1:=h2.sl.toSub ((h0.trans hS).trans w0);have q2:=rz.sl.toSub ((h0.trans hS).trans w0);have l1:=dB (cx:=C1) (e:=98) q1 nC (by omega) hx jft jcn;have l2:=dB (cx:=C1) (e:=98) q2 nC (by omega) hy jft jcn;simp only[iS.c,ek]at l1 l2;have kT:(i:Int)<A.length:=by omega
  have lH:=cp (i:=i) (by omega);have c1:=aj am.1.sl;have c2:=aj bm.1.sl;have c3:=am.1.sl.cells;have c4:=bm.1.sl.cells;simp[t2,t3,t6,a1,a2,a3,a4,x1,x2,y1,y2,dh,kT,xo,yo,k3,k4];refine cu [.p,.r 0 0,.p,.p,.r 0 0,.p,.r 0 1,.p,.p,.r 0 1,.f,.f,.e [10,11],.e [10,11]] (n:=128) (by kernel_rfl) (by simp[hn]) ?_;obtain⟨zc,Bn⟩:∃zc,zc=[AV.int .i64 0,.int .u64 0,.bool false,.ar]:=⟨_,rfl⟩
  obtain⟨ac,hac⟩:∃ac,ac=[AV.int .i64 a.k,.int .u64 a.fy,.bool a.there,a.p]:=⟨_,rfl⟩
  obtain⟨bc,hbc⟩:∃bc,bc=[AV.int .i64 a.k,.int .u64 b.fy,.bool b.there,b.p]:=⟨_,rfl⟩
  have w1:Sub S' ⟨((S'.h.set (S'.nx+1) (.row zc 0 0 false 98)).set S'.nx (.row zc 0 0 false 98)).set S'.nx (.row ac 0 0 false 98),S'.nx+2⟩:=
   ⟨fun id hi=>(ae _ _ (by omega)).trans ((ae _ _ (by omega)).trans (ae _ _ (by omega))),zqb _ _⟩
  obtain⟨_,b5,b6⟩:=lds _ (hS.trans w1);have l3:=dB (cx:=C1) (e:=98) (rz.sl.toSub ((h0.trans hS).trans w1)) nC (by omega) hy jft jcn;simp only[iS.c,ek]at l3;obtain⟨S2,dD⟩:∃S2:AS,S2=⟨(((S'.h.set (S'.nx+1) (.row zc 0 0 false 98)).set S'.nx (.row zc 0 0 false 98)).set S'.nx (.row ac 0 0 false 98)).set (S'.nx+1) (.row bc 0 0 false 98),S'.nx+2⟩:=⟨_,rfl⟩
  have w2:Sub S' S2:=by rw[dD];exact⟨fun id hi=>(ae _ _ (by omega)).trans (w1.h id hi),zqb _ _⟩
  have g2:S2.h.get S'.nx=some (.row ac 0 0 false 98):=by rw[dD];exact (ae _ _ (by omega)).trans (aa _ _ _)
  have g3:S2.h.get (S'.nx+1)=some (.row bc 0 0 false 98):=by rw[dD];exact aa _ _ _
  have iN:=dD.symm;clear dD;rw[hac,Bn]at b5 b6 l3;rw[hac,Bn,hbc]at iN;rw[hac]at g2;rw[hbc]at g3;have c5:kg b.p=true:=by rcases bm.1.sl.cases with e|⟨_,_,_,_,_,_,e⟩<;>rw[e]<;>rfl
  have nb:∀(t:Bool)(c:Bool),aZ C1 .neq 4 c (.bool t) (.bool t)=some (.bool false):=fun t c=>by cases t<;>kernel_rfl
  by_cases him:i<m
  .have Nk:=e2 i a b him hx hy;have ev:b.fy=a.fy:=(congrArg IY.fy Nk).symm;have et:b.there=a.there:=(congrArg IY.there Nk).symm;have ecs:a.ks.map bare=b.ks.map bare:=congrArg IY.cs Nk;obtain⟨_,V,⟨V1,rfl⟩,e48⟩:=(Si (am.1.sub ((h0.trans hS).trans w2)) (bm.1.sub ((h0.trans hS).trans w2)) ecs).ex;rw[ev,et]at l2 l3 iN g3;simp[t2,t3,t6,a1,a2,a3,a4,b3,b4,x1,x2,y1,y2,dh,kT,xo,yo,k3,k4,l1,l2,aP,lH,c1,c2,c3,c4,b5,b6,l3,iN,g2,g3,nb,e48];refine⟨c5,?_⟩;exact⟨m-(i+1),by omega,yK (i+1) ((hS.trans w2).trans V1) (by simp[t2]) (by simp[t3]) (by simp) (by omega) (by simp[hn]) rfl⟩
  .obtain rfl:i=m:=by omega
   have hv:=(e3 a b hx hy).2;have KN:¬((a.fy:Int)=(b.fy:Int)):=by omega
   have qz:¬i=A.length:=by omega
   simp[t2,t3,t6,a1,a2,a3,a4,b3,b4,x1,x2,y1,y2,dh,kT,xo,yo,k3,k4,l1,l2,aP,lH,c1,c2,c3,c4,b5,b6,l3,iN,g2,g3,nb,hv,KN,qz];exact⟨c5,(h0.trans hS).trans w2⟩
 obtain rfl:i=A.length:=by omega
 obtain rfl:m=A.length:=by omega
 simp[t2,t3,t6,a1,a2,a3,a4,x1,x2,y1,y2,dh,xo,yo,k3,k4];exact h0.trans hS
theorem RQ{sw I6 aw Xw:AV}{L L':List ma}{A A':List iS}{f g:Nat->Nat}(h1:Ql ma.c 3 ma.ok S sw L)(vH:Ql ma.c 3 ma.ok S I6 L')(h2:Ql iS.c 4 iS.ok S aw A)(rz:Ql iS.c 4 iS.ok S Xw A')
  (hd:L'.length≠L.length\/A'.length≠A.length\/∃j,j<128/\f j≠g j) :
  ah C1 10 [.agg (lq sw aw f),.agg (lq I6 Xw g)] S fun r T=>Sub S T/\r=.bool false:=by
 obtain⟨S1,bC⟩:∃S1:AS,S1=⟨(S.h.set S.nx (.row (lq sw aw f) 0 0 false 40)).set (S.nx+1) (.row (lq I6 Xw g) 0 0 false 40),S.nx+2⟩:=⟨_,rfl⟩
 have h0:Sub S S1:=by rw[bC];exact mod.yZ
 have g0:S1.h.get S.nx=some (.row (lq sw aw f) 0 0 false 40):=by rw[bC];exact (ae _ _ (by omega)).trans (aa _ _ _)
 have Qe:S1.h.get (S.nx+1)=some (.row (lq I6 Xw g) 0 0 false 40):=by rw[bC];exact aa _ _ _
 have fR:=bC.symm;clear bC;have u1:=h1.sl.sl;have u2:=h1.sl.aO jN (by omega);have v1:=vH.sl.sl;have v2:=vH.sl.aO jN (by omega);have x1:=h2.sl.sl;have x2:=h2.sl.aO nC (by omega);have y1:=rz.sl.sl;have y2:=rz.sl.aO nC (by omega);have k1:=aj h1.sl;have k2:=aj vH.sl;have k3:=aj h2.sl;have k4:=aj rz.sl;have a1:=MP g0;have a2:=MP Qe;have a3:=MR g0;have a4:=MR Qe;have a5:=Ed g0;have a6:=Ed Qe;refine bt (cK _) (cM _ rfl) jkl rfl jhq (by simp) fun F hn s0 s1=>?_;by_cases c1:L.length=L'.length
 .have c1I:(L.length:Int)=L'.length:=by omega
  by_cases c2:A.length=A'.length
  .have c2I:(A.length:Int)=A'.length:=by omega
   have hx:¬∀j,j<128->f j=g j:=fun q=>by
    rcases hd with e|e|⟨j,hj,e⟩
    .exact e c1.symm
    .exact e c2.symm
    .exact e (q j hj)
   have ne:=fun c=>jby f g c (t:=false) ⟨fun h=>by (cases h),fun h=>absurd h hx⟩;simp[s0,s1,eF,fR,a1,a2,a3,a4,a5,a6,u1,u2,v1,v2,x1,x2,y1,y2,k1,k2,k3,k4,ne,c1,c1I,c2,c2I];exact h0
  .have c2I:¬(A.length:Int)=A'.length:=by omega
   simp[s0,s1,eF,fR,a1,a2,a3,a4,a5,a6,u1,u2,v1,v2,x1,x2,y1,y2,k1,k2,k3,k4,c1,c1I,c2,c2I];exact h0
 .have c1I:¬(L.length:Int)=L'.length:=by omega
  simp[s0,s1,eF,fR,a1,a2,a3,a4,a5,a6,u1,u2,v1,v2,x1,x2,y1,y2,k1,k2,k3,k4,c1,c1I];exact h0
variable{P P':PB}{o:rP}
end
end Go.Proofs.YtdknlbnljfdhgaaGreatDoor.bk
