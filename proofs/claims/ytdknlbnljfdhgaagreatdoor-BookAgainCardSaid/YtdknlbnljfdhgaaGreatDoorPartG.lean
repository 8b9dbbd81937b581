/-
  The frames that were written are read: plain Lean.
-/
import Derived.Test.YtdknlbnljfdhgaaGreatDoorPartF
import Derived.Test.YtdknlbnljfdhgaaGreatDoorPartE
namespace Go.Proofs.YtdknlbnljfdhgaaGreatDoor.bk
open Go Go.Am Go.Proofs.YtdknlbnljfdhgaaGreatDoor.dk
set_option linter.unusedVariables false
set_option linter.unusedSimpArgs false
theorem Bk{a b n:Nat}(h:a<2 ^ n):a ||| b*2 ^ n=a+b*2 ^ n:=by
 rw[Nat.or_comm,Nat.add_comm,Nat.mul_comm,<-Nat.two_pow_add_eq_or_of_lt h]
theorem leN_add{a b c d:Nat}(ha:a<256)(hb:b<256)(hc:c<256):leN a b c d=a+b*256+c*65536+d*16777216:=by
 unfold leN;have e1:=Bk (a:=a) (b:=b) (n:=8) (by simpa using ha);have e2:=Bk (a:=a+b*256) (b:=c) (n:=16) (by show _<65536;omega);have e3:=Bk (a:=a+b*256+c*65536) (b:=d) (n:=24) (by show _<16777216;omega);rw[show (256:Nat)=2 ^ 8 from rfl,e1,show (65536:Nat)=2 ^ 16 from rfl,e2,show (16777216:Nat)=2 ^ 24 from rfl,e3]
theorem Es{n:Nat}(h:n<4294967296)(t:List Nat):Et (di n++t)=n:=by
 show leN _ _ _ _=n;rw[leN_add (by omega) (by omega) (by omega)];omega
theorem nextF_frm{r:List Nat}(hb:qD r)(h1:1<=r.length)(h2:r.length<=2048)(t:List Nat):fg (iQ r++t)=some r:=by
 have hf:iQ r=di r.length++(r++di (jX (kC r))):=by
  unfold iQ;rw[if_pos h2];show (di r.length++r)++_=_;rw[List.append_assoc]
 have h4:∀n,(di n).length=4:=fun _=>rfl;have e4:Et (iQ r++t)=r.length:=by rw[hf,List.append_assoc];exact Es (by omega) _
 have hl:(iQ r++t).length=r.length+8+t.length:=by
  rw[hf];simp only[List.length_append,h4];omega
 have hbh:qD (kC r):=fun c hc=>by
  rcases List.mem_append.1 hc with hc|hc
  .exact xE _ c hc
  .exact hb c hc
 have ht:(iQ r++t).take (4+r.length)=kC r:=by
  rw[hf,show di r.length++(r++di (jX (kC r)))++t=kC r++(di (jX (kC r))++t) by
   show _=(di r.length++r)++_;simp only[List.append_assoc]]
  rw[List.take_left' (by show (di r.length++r).length=_;rw[List.length_append,h4])]
 have hd:(iQ r++t).drop (4+r.length)=di (jX (kC r))++t:=by
  rw[hf,show di r.length++(r++di (jX (kC r)))++t=kC r++(di (jX (kC r))++t) by
   show _=(di r.length++r)++_;simp only[List.append_assoc]]
  rw[List.drop_left' (by show (di r.length++r).length=_;rw[List.length_append,h4])]
 unfold fg;rw[e4,ht,hd,if_neg (by omega),if_neg (by omega),List.take_left' (h4 _)];have:=Es (crcN_lt hbh) [];rw[List.append_nil]at this;rw[if_pos this];rfl
theorem Dy{rs:List Rec}(h:∀r,r∈rs->kG r):lf (dj rs)=rs.map dS:=by
 induction rs with
 |nil=>rfl
 |cons r rs ih=>
  have hr:=h r (List.mem_cons_self ..);have hl:=tJ hr;have hn:=nextF_frm (tf hr.num) (wD r) (by omega) (dj rs);have e:dj (r::rs)=iQ (dS r)++dj rs:=rfl;rw[e,uM hn,List.map_cons,<-ih fun x hx=>h x (List.mem_cons_of_mem _ hx)];have e2:(iQ (dS r)).length=(dS r).length+8:=by unfold iQ;rw[if_pos (by omega),rK]
  rw[List.drop_left' e2]
open Go.Proofs.YtdknlbnljfdhgaaGreatDoor.mod (Val encV encV_len Con encC encC_len ConOk PredAt mayP mayC mayV setB sameB zeroV mayPred encT encT_len bare encM nget nput mget_encM mput_encM nget_nput nput_mem nget_mem predFoot idxI idx174)
def ja(b:Nat)(D:Dk)(aI db:Nat):cV:=⟨b,D,aI,fun _=>none,fun _=>⟨0,0,false,.aq,[]⟩,db⟩
def gO:PB:=⟨0,fun _=>none,fun _=>⟨0,0,false,[]⟩⟩
theorem fresh_pure(b:Nat)(D:Dk):(ja b D 0 0).pure=gO:=rfl
def Reads(d:PD)(rs:List Rec):Prop:=d.off=false/\((d.file cu=none/\rs=[])\/∃f,d.file cu=some f/\f.bs=az (dj rs))
noncomputable def qI(P:PB):List AV:=az (dj (gD (P.de (P.aI+1))))
section
variable{S T:AS}{D:Dk}
theorem bld110(d:Nat):cU C1 110 [(0,.ptr d 0 0 4)]=some (.agg [.ptr d 0 0 4,.int .u64 0,.bM,.bM,.bM,.bM,.bM,.bM,.bM,.bM,.int .i64 0,.int .u64 0,.bool false,.aq,.int .i64 0,.int .u64 0,.bool false,.aq,.int .i64 0,.int .u64 0,.bool false,.aq,.int .i64 0,.int .u64 0,.bool false,.aq,.int .i64 0]):=by kernel_rfl
theorem fresh_c0(b:Nat)(D:Dk):(ja b D 0 0).c=[.ptr D.dp 0 0 4,.int .u64 0,.bM,.bM,.bM,.bM,.bM,.bM,.bM,.bM,.int .i64 0,.int .u64 0,.bool false,.aq,.int .i64 0,.int .u64 0,.bool false,.aq,.int .i64 0,.int .u64 0,.bool false,.aq,.int .i64 0,.int .u64 0,.bool false,.aq,.int .i64 0]:=rfl
theorem fresh_at{b n m:Nat}(hr:S.h.get b=some (.row (ja b D n m).c 0 0 false 110))(hb:b<S.next)(hd:bh S D)(hf:¬D.bB b)(hn:n<18446744073709551616):bN S (ja b D n m) where
 row:=hr
 lt:=hb
 gL:=hd
 sub i x _ h:=by cases h
 ad i _:=⟨⟨⟨show Sl S .aq 7 [] from Sl.nil,fun c hc=>(List.not_mem_nil hc).elim,Nat.zero_le _⟩,by show mayP []=true;simp[mayP],fun c hc=>(List.not_mem_nil hc).elim⟩,Nat.zero_le _⟩
 bD:=hf
 mD i x _ h:=by cases h
 mm i j x y _ _ _ h _:=by cases h
 ros i x _ h:=by cases h
 roa i _ id h:=by
  rcases h with e|⟨c,hc,_⟩
  .have e:(0:Nat)=id+1:=e;omega
  .exact (List.not_mem_nil hc).elim
 aI:=hn
theorem read_book(h:bh S D)(ok:D.pd.ok){rs:List Rec}(hr:Reads D.pd rs):∃e v T,(∀Q:AV->AS->Prop,ai C1 35 [.ptr D.dp 0 0 4,.str cu] S Q=Q (.tuple [v,.int .i64 e]) T)/\Sub S T/\(e=0\/e=6)/\Sl T v 1 (az (dj rs)):=by
 obtain⟨r,T,⟨hT,hc⟩,e35⟩:=(read59 (name:=cu) h (Ec ok) (by decide) (by decide)).ex;obtain⟨h1,h2⟩:=hr;have h1:D.off=false:=h1;have ha:D.eY=0:=by unfold Dk.eY;rw[h1];rfl
 have hth:D.ay cu=if (D.file cu).isSome then 0 else 6:=by unfold Dk.ay;rw[mayK];rfl
 rw[sC]at h2;cases hf:D.file cu with
 |none=>
  rw[hf]at h2 hth;have hfi:aT [D.eY,D.ay cu]=6:=by rw[ha,hth];rfl
  rw[hfi]at hc;rcases hc with⟨_,rfl⟩|⟨q,_⟩
  .rcases h2 with⟨_,rfl⟩|⟨f,q,_⟩
   .exact⟨6,.aq,T,e35,hT,.inr rfl,Sl.nil⟩
   .cases q
  .exact absurd q (by decide)
 |some g=>
  rw[hf]at h2 hth;have hfi:aT [D.eY,D.ay cu]=0:=by rw[ha,hth];rfl
  rw[hfi]at hc;rcases hc with⟨q,_⟩|⟨_,f,v,q1,rfl,q2⟩
  .exact absurd rfl q
  .rcases h2 with⟨q,_⟩|⟨f',q,q3⟩
   .cases q
   .cases q;rw[hf]at q1;cases q1;have q3:g.bs=_:=q3;exact⟨0,v,T,e35,hT,.inl rfl,by rw[<-q3];exact q2⟩
theorem byt_file{rs:List Rec}(h:∀r,r∈rs->kG r):qD (dj rs):=pK fun r hr=>frmB_byt (tf (h r hr).num)
theorem file_ge{rs:List Rec}(h:∀r,r∈rs->kG r):rs.length<=(dj rs).length:=by
 induction rs with
 |nil=>exact Nat.zero_le _
 |cons r rs ih=>
  have:=ih fun x hx=>h x (List.mem_cons_of_mem _ hx);have hl:=tJ (h r (List.mem_cons_self ..));have e2:(iQ (dS r)).length=(dS r).length+8:=by unfold iQ;rw[if_pos (by omega),rK]
  have e:dj (r::rs)=iQ (dS r)++dj rs:=rfl;rw[e,List.length_append,List.length_cons];omega
structure Opened(S T:AS)(D:Dk)(X:cV)(P:PB):Prop where
 at_:bN T X
 pd:X.D.pd=(dH D.pd (qI P)).2
 dp:X.D.dp=D.dp
 pure:X.pure=P.de (P.aI+1)
 b:S.next<=X.b
 next:S.next<=T.next
 cg:∀id,id<S.next->¬D.bB id->T.h.get id=S.h.get id
 bB:∀id,id<S.next->X.wf id->D.bB id
 rof:∀id,X.rf id->S.next<=id
theorem fresh_rf{b n m id:Nat}:¬(ja b D n m).rf id:=fun h=>by
 rcases h with⟨i,x,_,h,_⟩|⟨i,_,h⟩
 .cases h
 .rcases h with e|⟨c,hc,_⟩
  .have e:(0:Nat)=id+1:=e;omega
  .exact (List.not_mem_nil hc).elim
theorem wr_life{X:cV}(h:bN S X){n:Nat}(hn:n<18446744073709551616):∃T,AM S (.ptr X.b 0 1 27) [.int .u64 n]=some T/\bN T {X with aI:=n}/\dV X {X with aI:=n} S T:=by
 refine⟨⟨S.h.set X.b (.row ({X with aI:=n}:cV).c 0 0 false 110),S.next⟩,?_,h.own rfl rfl (fun id _ hi=>ae _ _ hi) (Nat.le_refl _) (aa _ _ _) hn (fun i x hi hx=>.inl hx) (fun i hi=>.inl rfl)⟩;simp only[gh,mA,h.row,gk];rw[if_pos ⟨trivial,by simp,trivial⟩];rfl
@[simp] theorem eqf(g:Nat)(ts caps:List AV)(c:Bool):aS C1 .eql 1 c (.func (.func g) ts caps) .kM=some (.bool false):=by kernel_rfl
theorem nt13:Tryz.f13.ntmps=87:=by kernel_rfl
structure OpnS(b dp:Nat)(l:AV)(n i:Nat)(F':Fr):Prop where
 s0:sl F' 0=.ptr dp 0 0 4
 s4:sl F' 4=.ptr b 0 0 27
 s34:sl F' 34=l
 s35:sl F' 35=.int .i64 n
 s36:sl F' 36=.int .i64 i
 n:F'.n=87
def opnG(S2:AS)(b:Nat)(D:Dk)(l:AV)(rs:List Rec)(P:PB)(k:Nat)(F':Fr)(S':AS):Prop:=
 ∃i X1,bN S' X1/\dV (ja b D 0 0) X1 S2 S'/\X1.D=D/\X1.db=0/\js X1.pure (rs.drop i) P/\i<=rs.length/\k=rs.length-i/\OpnS b D.dp l rs.length i F'
theorem opnG_mk{S2:AS}{b:Nat}{l:AV}{rs:List Rec}{P:PB}{k:Nat}{F':Fr}(i:Nat)(X1:cV)(h1:bN T X1)(h2:dV (ja b D 0 0) X1 S2 T)(h3:X1.D=D)(h4:X1.db=0)(h5:js X1.pure (rs.drop i) P)(h6:i<=rs.length)(h7:k=rs.length-i)(h8:OpnS b D.dp l rs.length i F'):opnG S2 b D l rs P k F' T:=
 ⟨i,X1,h1,h2,h3,h4,h5,h6,h7,h8⟩
set_option maxRecDepth 20000 in
theorem open13(h:bh S D)(ok:D.pd.ok){rs:List Rec}{P:PB}(hr:Reads D.pd rs)(mj:∀r,r∈rs->kG r)(ub:(dj rs).length<=1000000)(hp:js gO rs P)(hl:P.aI<1099511627776)
  (l7:PBOk (P.de (P.aI+1))) (hr8:∀r,r∈gD (P.de (P.aI+1))->r.st.length<=8) (jL:aT [D.eY,D.ay aZ]≠0) :
  ai C1 13 [.ptr D.dp 0 0 4] S fun v T=>∃X,Opened S T D X P/\((dH D.pd (qI P)).1≠0->v=.tuple [.bM,.int .i64 (dH D.pd (qI P)).1]) /\
   ((dH D.pd (qI P)).1=0->v=.tuple [.ptr X.b 0 0 27,.int .i64 0]/\X.db=(gD (P.de (P.aI+1))).length):=by
 obtain⟨b,hb⟩:∃b,b=S.next:=⟨_,rfl⟩
 obtain⟨S1,bI⟩:∃S1:AS,S1=⟨S.h.set b (.row (ja b D 0 0).c 0 0 false 110),b+1⟩:=⟨_,rfl⟩
 have s1:Sub S S1:=by rw[bI,hb];exact seg.cf
 have g1:S1.h.get b=some (.row (ja b D 0 0).c 0 0 false 110):=by rw[bI];exact aa _ _ _
 have n1:S1.next=b+1:=by rw[bI]
 have fN:=bI.symm;clear bI;have h1:=h.sub s1;obtain⟨e,v,U1,e35,u1,he,hv⟩:=read_book h1 ok hr;unfold cu at e35;obtain⟨r,T2,⟨t2,l,ps,n,rfl,iY,vi⟩,e49⟩:=(split49 hv (byt_file mj) ub).ex;rw[Dy mj]at vi;have lV:ps.length=rs.length:=by have:=congrArg List.length vi;simpa using this
 have kv:=aj hv;have kl:=aj iY.gw.1;have kp:=iY.gw.1.np;have hll:sLen l=rs.length:=by rw[iY.gw.1.fC,List.length_map,lV]
 have hln:=file_ge mj;have lE:Sub S T2:=(s1.trans u1).trans t2;have nfb:¬D.bB b:=fun hf=>by have:=h.lt hf;omega
 have hX0:bN T2 (ja b D 0 0):=fresh_at (((u1.trans t2).h b (by omega)).trans g1) (by have:=u1.next;have:=t2.next;omega) (h.sub lE) nfb (by decide);have hold:∀id,U1.next<=id->¬(ja b D 0 0).wf id:=fun id hi hw=>by
  have:=u1.next
  rcases hw with q|q|⟨_,_,_,q,_⟩
  .have q:id=b:=q;omega
  .have:=h.lt q;omega
  .cases q
 have w0:opnG T2 b D l rs P rs.length=opnG T2 b D l rs P rs.length:=rfl;rw[fresh_c0]at fN;refine aK (cD _) (cG _ rfl) fn13 rfl ok13 (by simp) fun F hn s0=>?_;rw[nt13]at hn;rcases he with rfl|rfl
 all_goals
  simp[s0,bld110,<-hb,fN,aR,e35,e49,kv,kl,kp,iY.gw.1.sl,hll];refine aH (opnG T2 b D l rs P) rs.length (opnG_mk 0 (ja b D 0 0) hX0 dV.refl rfl rfl (by rw[fresh_pure];exact hp) (Nat.zero_le _) rfl ⟨by simp[s0],by simp,by simp,by simp,by simp,by simp[hn]⟩) ?_;clear s0 hn;rintro k F' S'-⟨i,X1,hX,hE,hD,h0,hpi,hi,hk,⟨t0,t4,t34,t35,t36,hn⟩⟩;have hpi':=hpi;by_cases cQ:i<rs.length
  .obtain⟨r,hrx⟩:∃r,rs[i]?=some r:=⟨_,List.getElem?_eq_getElem cQ⟩
   obtain⟨q,hqx⟩:∃q,ps[i]?=some q:=⟨_,List.getElem?_eq_getElem (by omega)⟩
   have hrm:=List.mem_of_getElem? hrx;have qX:q.2=dS r:=by
    have e1:(ps.map (·.2))[i]?=some q.2:=by rw[List.getElem?_map,hqx];rfl
    have e2:(rs.map dS)[i]?=some (dS r):=by rw[List.getElem?_map,hrx];rfl
    rw[vi,e2]at e1;exact (Option.some.inj e1).symm
   have hfr':=iY.agree (fun id q1 q2=>hE.cg id q2 (hold id (by have:=t2.next;omega))) hE.next
   have CQ:loadT C1 S' 32 (j5 l i)=some q.1:=fQ hfr'.gw.1 (by rw[List.getElem?_map,hqx];rfl) ag32;have oo:=(hfr'.el q (List.mem_of_getElem? hqx)).1;rw[qX]at oo;obtain⟨w,U,⟨r',rfl,hgot,hU⟩,e50⟩:=(parsed50 oo (mj r hrm)).ex;obtain⟨c,hc⟩:∃c,c=U.next:=⟨_,rfl⟩
   obtain⟨S5,hS5⟩:∃S5:AS,S5=⟨(U.h.set c (.row [.int .i64 0,.int .i64 0,.int .i64 0,.int .u64 0,.bool false,.aq,.aq] 0 0 false 115)).set c (.row r'.c 0 0 false 115),c+1⟩:=⟨_,rfl⟩
   have s5:Sub U S5:=by rw[hS5,hc];exact seg.fO
   have g5:S5.h.get c=some (.row r'.c 0 0 false 115):=by rw[hS5];exact aa _ _ _
   have bS5:=hS5.symm;clear hS5;have hX5:=hX.toSub (hU.trans s5);have hdr:rs.drop i=r::rs.drop (i+1):=by
    rw[List.drop_eq_getElem_cons cQ];rw[List.getElem?_eq_getElem cQ]at hrx;rw[Option.some.inj hrx]
   rw[hdr]at hpi;cases hpi with
   | @cons _ Q _ _ _ hdo hpl2=>
   have hat5:=hgot.at_.sub s5;obtain⟨g,caps,V,e51,xg,hV,w',Y,X2,eg,hX2,v2,p2,D2,r2⟩:=(vq.does (S:=S5) (hdo.eqv hgot.eq)) S5 X1 hX5 ⟨rfl,rfl,rfl,rfl,rfl⟩ hat5;have hbX:X1.b=b:=hE.b;rw[hbX]at e51;have k1:=aj hat5.pred.sl;have k2:=aj hat5.sl;have k3:=hat5.pred.sl.cells;have k4:=hat5.sl.cells;have jC:(i:Int)<rs.length:=by omega
   have hll':i<sLen l:=by omega
   have kh:=aW (i:=i) (by omega);have kq:=aj oo;have fin:dV (ja b D 0 0) X2 T2 Y:=hE.trans ((dV.of (hU.trans (s5.trans hV))).trans v2);unfold Rec.c at e50 bS5 g5 e51;simp[t0,t4,t34,t35,t36,jC,cQ,hll,hll',CQ,iY.gw.1.sl,aR,e50,<-hc,bS5,kq,k1,k2,k3,k4];refine cO [.p,.p,.p,.r 0 0,.e [],.p] (n:=87) (by kernel_rfl) (by simp[hn]) ?_;simp[t0,t4,t34,t35,t36,aR,g5,e51,xg,eg,kh,k1,k2];exact⟨rs.length-(i+1),by omega,opnG_mk (i+1) X2 hX2 fin (D2.trans hD) (r2.trans h0) (by rw[p2];exact hpl2) (by omega) rfl ⟨by simp[t0],by simp[t4],by simp[t34],by simp[t35],by simp,by simp[hn]⟩⟩
  .obtain rfl:i=rs.length:=by omega
   rw[List.drop_length]at hpi;cases hX1:X1.pure with
   |mk L1 SU1 AD1=>
   have hpp:X1.pure=P:=by cases hpi;rfl
   clear hX1;have hlf:X1.aI=P.aI:=congrArg PB.aI hpp;have hbX:X1.b=b:=hE.b;obtain⟨n,oE⟩:∃n,n=X1.aI:=⟨_,rfl⟩
   have yu:¬(1099511627776:Int)<=n:=by omega
   have hwn:IntKind.u64.wrap ((n:Int)+1)=((n+1:Nat):Int):=by rw[show ((n:Int)+1)=((n+1:Nat):Int) by omega];exact eC (by omega)
   obtain⟨m,hm⟩:∃m,m=n+1:=⟨_,rfl⟩
   rw[<-hm]at hwn;obtain⟨S3,hw3,hX3,hE3⟩:=wr_life hX (n:=m) (by omega);rw[hbX]at hw3;have hP3:({X1 with aI:=m}:cV).pure=P.de (P.aI+1):=by
    rw[<-hpp,hm,oE];rfl
   have hD3:({X1 with aI:=m}:cV).D=D:=hD;obtain⟨v,T4,⟨D',rfl,f1,f2,f3,f4⟩,e52⟩:=(write52 hX3 (by rw[hP3];exact l7) (by rw[hD3];exact ok) (by rw[hP3];exact hr8) (by rw[hD3];exact jL)).ex;rw[hP3]at f3 e52;rw[hD3]at f3 f4 e52;have hnw:az (dj (gD (P.de (P.aI+1))))=qI P:=rfl;rw[hnw]at f3 e52;obtain⟨z,hz⟩:∃z,z=(dH D.pd (qI P)).1:=⟨_,rfl⟩
   obtain⟨a,ha⟩:∃a,a=(gD (P.de (P.aI+1))).length:=⟨_,rfl⟩
   obtain⟨y,hy⟩:∃y:Nat,y=if z=0 then a else 0:=⟨_,rfl⟩
   rw[<-hz,<-ha]at e52;have hyI:(if z=0 then (a:Int) else 0)=(y:Int):=by rw[hy];split<;>rfl
   rw[hyI]at e52;have hw6:=wr_recs f1 y;obtain⟨q1,q2⟩:=at_recs f1 y;obtain⟨Z,hZ⟩:∃Z:AS,Z=⟨T4.h.set X1.b (.row ({X1 with aI:=m,D:=D',db:=y}:cV).c 0 0 false 110),T4.next⟩:=⟨_,rfl⟩
   have hw7:AM T4 (.ptr X1.b 0 26 27) [.int .i64 y]=some Z:=by rw[hZ];exact hw6
   have q1:bN Z {X1 with aI:=m,D:=D',db:=y}:=by rw[hZ];exact q1
   have q2:dV {X1 with aI:=m,D:=D'} {X1 with aI:=m,D:=D',db:=y} T4 Z:=by rw[hZ];exact q2
   have hEZ:dV (ja b D 0 0) {X1 with aI:=m,D:=D',db:=y} T2 Z:=((hE.trans hE3).trans f2).trans q2;rw[hbX]at hw7;have fin:Opened S Z D {X1 with aI:=m,D:=D',db:=y} P:=by
    have hsn:=lE.next
    refine⟨q1,f3,f4,by rw[<-hP3];rfl,by show S.next<=X1.b;omega,Nat.le_trans hsn hEZ.next,fun id hi hf=>?_,fun id hi hw=>?_,fun id hw=>?_⟩
    .refine (hEZ.cg id (by omega) fun hw=>?_).trans (lE.h id hi);rcases hw with e|e|⟨_,_,_,e,_⟩
     .have e:id=b:=e;omega
     .exact hf e
     .cases e
    .have:=hEZ.bB id (by omega) hw;rcases this with e|e|⟨_,_,_,e,_⟩
     .have e:id=b:=e;omega
     .exact e
     .cases e
    .by_cases hi:S.next<=id
     .exact hi
     .exact absurd (hEZ.rof id (by omega) hw) fresh_rf
   have dc:=hX.row;have xm:=f1.row;unfold cV.c at dc xm;rw[hbX,<-oE]at dc;simp only[]at xm;rw[hbX]at xm;have e52':∀Q:AV->AS->Prop,ai C1 52 [.ptr D.dp 0 0 4,.ptr b 0 1 27] S3 Q=Q (.tuple [.int .i64 y,.int .i64 z]) T4:=by
    rw[<-hbX];exact e52
   have hb3:=hX3.row;unfold cV.c at hb3;simp only[]at hb3;rw[hbX]at hb3;rw[<-hz,<-ha];by_cases hz0:z=0
   .simp[t0,t4,t34,t35,t36,hll,aR,dc,yu,hwn,hw3,hb3,e52',hw7,hz0];exact⟨_,fin,hbX.symm,by rw[hy,if_pos hz0]⟩
   .simp[t0,t4,t34,t35,t36,hll,aR,dc,yu,hwn,hw3,hb3,e52',hw7,hz0];exact⟨_,fin⟩
theorem opened7(S:AS)(hF:(dH (qT 1048576) (qI gO)).1=0):ai C1 7 [] S fun v T=>∃X,v=.tuple [.ptr X.b 0 0 27,.ptr X.D.dp 0 0 4]/\bN T X/\X.D.pd=(dH (qT 1048576) (qI gO)).2/\X.db=1/\X.pure=gO.de 1/\Sub S T/\(∀id,X.wf id->S.next<=id)/\(∀id,X.rf id->S.next<=id):=by
 obtain⟨u,T1,⟨t1,D,rfl,d1,d2,d3⟩,e22⟩:=(new22 (S:=S) (q:=1048576) (by decide)).ex;have okD:D.pd.ok:=by rw[d2];exact newPD_ok
 have jL:aT [D.eY,D.ay aZ]≠0:=by
  have jV:D.fs=[]:=by
   have:D.pd.fs=[]:=by rw[d2];rfl
   exact List.map_eq_nil_iff.1 this
  have yO:D.off=false:=by
   have:D.pd.off=false:=by rw[d2];rfl
   exact this
  have:aT [D.eY,D.ay aZ]=6:=by
   unfold Dk.eY Dk.ay Dk.file;rw[yO,mayN,jV];rfl
  rw[this];decide
 have hal:gD (gO.de 1)=[fK 1]:=rfl;obtain⟨v,T2,⟨X,hO,_,hX⟩,e13⟩:=(open13 d1 okD (rs:=[]) (P:=gO) (by rw[d2];exact⟨rfl,.inl ⟨rfl,rfl⟩⟩) (fun _ h=>by cases h) (Nat.zero_le _) (.nil _) (by decide) ⟨fun i x _ h=>by cases h⟩ (fun r hr=>by
  rw[show gD (gO.de (gO.aI+1))=[fK 1] from rfl,List.mem_singleton]at hr;rw[hr];exact Nat.zero_le _) jL).ex
 rw[d2]at hX;obtain⟨rfl,sJ⟩:=hX hF;have hdp:=hO.dp;have hpd:=hO.pd;rw[d2]at hpd;have hT:Sub S T2:=⟨fun id hi=>(hO.cg id (by have:=t1.next;omega) (fun hf=>by have:=d3 id hf;omega)).trans (t1.h id hi),Nat.le_trans t1.next hO.next⟩
 have e22':∀Q:AV->AS->Prop,ai C1 22 [.int .i64 1048576] S Q=Q (.tuple [.ptr D.dp 0 0 4,.int .i64 0]) T1:=e22;refine cl (cD _) (cG _ rfl) fn7 rfl ok7 (by simp) fun F hn hs=>?_;simp[aR,e22',e13];refine⟨X,by rw[hdp];exact⟨rfl,rfl⟩,hO.at_,hpd,sJ,hO.pure,hT,fun id hw=>?_,fun id hw=>Nat.le_trans t1.next (hO.rof id hw)⟩;by_cases hi:S.next<=id
 .exact hi
 .exact d3 id (hO.bB id (by have:=t1.next;omega) hw)
end
open Go.Proofs.YtdknlbnljfdhgaaGreatDoor.mod (Val encV encV_len Con encC encC_len ConOk PredAt mayP mayC mayV setB sameB zeroV mayPred encT encT_len bare encM nget nput mget_encM mput_encM nget_nput nput_mem nget_mem predFoot idxI idx174)
structure Ga(x:mu):Prop where
 bare:x.cs.map bare=x.cs
 may:mayP x.cs=true
 num:∀c,c∈x.cs->bX c
 st:eh x.st=true
 nd:(x.cur.map (·.1)).Nodup
 cur:∀t,t∈x.cur->0<=t.1/\t.1<16/\fc t.2=true/\tF x.st t.1<t.2
def GoodA(k:Nat)(a:PAd):Prop:=a=⟨0,0,false,[]⟩\/(1<=a.gE/\a.gE<=1099511627776/\a.k=k/\a.cs.map bare=a.cs/\mayP a.cs=true/\(∀c,c∈a.cs->bX c)/\(a.there=false->a.cs=[]))
structure eV(P:PB):Prop where
 ar:∀i x,i<8->P.ar i=some x->Ga x
 bR:∀k,k<4->GoodA k (P.bR k)
theorem kW(cs:List Con):(cs.map bare).map bare=cs.map bare:=by rw[List.map_map];rfl
theorem num_ok{n:Nat}(h:fc n=true):1<=n/\n<=1099511627776:=by unfold fc at h;simpa using h
theorem num_mk{n:Nat}(h:1<=n/\n<=1099511627776):fc n=true:=by unfold fc;simpa using h
theorem nput_keys(m:List (Int×Nat))(k:Int)(n:Nat):(nput m k n).map (·.1)=if k∈m.map (·.1) then m.map (·.1) else m.map (·.1)++[k]:=by
 induction m with
 |nil=>simp[nput]
 |cons p m ih=>
  obtain⟨a,w⟩:=p;unfold nput;by_cases h:k=a
  .subst h;simp
  .rw[if_neg h,List.map_cons,ih,List.map_cons];by_cases h2:k∈m.map (·.1)
   .rw[if_pos h2,if_pos (List.mem_cons_of_mem _ h2)]
   .rw[if_neg h2,if_neg (by rw[List.mem_cons];rintro (q|q);exact h q;exact h2 q)];rfl
theorem nput_nd{m:List (Int×Nat)}{k:Int}{n:Nat}(h:(m.map (·.1)).Nodup):((nput m k n).map (·.1)).Nodup:=by
 rw[nput_keys];split
 .exact h
 .rename_i hk;rw[List.nodup_append];exact⟨h,by simp,fun a ha b hb=>by simp at hb;subst hb;exact fun e=>hk (e▸ha)⟩
theorem mR{m:List (Int×Nat)}{k:Int}:nget m k=none↔k∉m.map (·.1):=by
 induction m with
 |nil=>simp[nget]
 |cons p m ih=>
  obtain⟨a,w⟩:=p;unfold nget;by_cases h:k=a
  .subst h;simp
  .rw[if_neg h,ih];simp[h]
theorem curN_ge{x:mu}(h:Ga x)(pub:Int):tF x.st pub<=lW x pub:=by
 unfold lW;cases e:nget x.cur pub with
 |none=>exact Nat.le_refl _
 |some n=>have:=(h.cur _ (nget_mem e)).2.2.2;exact Nat.le_of_lt this
theorem eV.set{P:PB}(h:eV P){n:Nat}{o:Option mu}(ho:∀x,o=some x->Ga x):eV (P.bq n o) where
 ar i x hi hx:=by
  have hx:(if i=n then o else P.ar i)=some x:=hx;split at hx
  .exact ho x hx
  .exact h.ar i x hi hx
 bR:=h.bR
theorem eV.do{P Q:PB}{r:Rec}(h:eV P)(hd:vq P r Q)(hw:kG r)(hp:r.sort=5->r.pub<16):eV Q:=by
 cases hd with
 |aI e hn=>exact⟨h.ar,h.bR⟩
 |rQ e bY mw jL hm hr=>
  refine h.set fun x hx=>?_;cases hx;exact⟨kW _,by rw[lA (kW _)];exact hm,lu (kW _) hw.num,hr,by simp,fun t ht=>by cases ht⟩
 |ends e bY mw hx=>exact h.set fun x hx=>by cases hx
 |ad e bY tw hn hv hm=>
  refine⟨h.ar,fun i hi=>?_⟩;show GoodA i (if i=_ then _ else P.bR i);split
  .rename_i e1;have h1:=num_ok hn;refine .inr ⟨h1.1,h1.2,by rw[e1],kW _,by rw[lA (kW _)];exact hm,lu (kW _) hw.num,fun ht=>?_⟩;rcases hw.case with q|q|q|q|q
   .exact absurd (e.symm.trans q.1) (by decide)
   .exact absurd (e.symm.trans q.1) (by decide)
   .exact absurd (e.symm.trans q.1) (by decide)
   .rw[q.2.2.2 ht];rfl
   .exact absurd (e.symm.trans q.1) (by decide)
  .exact h.bR i hi
 | @ack e n bY mw x hx hn hp1 hv=>
  refine h.set fun y hy=>?_;cases hy;have g:=h.ar _ x mw hx;refine⟨g.bare,g.may,g.num,g.st,nput_nd g.nd,fun t ht=>?_⟩;rcases nput_mem ht with q|q
  .rw[q];exact⟨hp1.1,hp e,hn,Nat.lt_of_le_of_lt (curN_ge g _) hv⟩
  .exact g.cur t q
theorem tA:eV gO:=⟨fun i x _ h=>(by cases h),fun k _=>.inl rfl⟩
def vc(o o':Option mu):Prop:=(o=none/\o'=none)\/∃x y,o=some x/\o'=some y/\x.cs=y.cs/\x.st=y.st/\∀k,nget x.cur k=nget y.cur k
structure kF(P Q:PB):Prop where
 ar:∀i,i<8->vc (P.ar i) (Q.ar i)
 bR:∀k,k<4->P.bR k=Q.bR k
theorem AZ(P:PB)(n:Nat)(a b:Option mu):(P.bq n a).bq n b=P.bq n b:=by
 unfold PB.bq;congr 1;funext j;split
 .rfl
 .rename_i h;exact if_neg h
theorem AH{P:PB}{j:Nat}(hj:j<8){cs:List Con}{st:List (Int×Nat)}{v:Nat->Nat}:∀(ks:List Nat)(c0:List (Int×Nat)),ks.Nodup->(∀k,k∈ks->nget c0 k=none/\k<256/\fc (v k)=true/\tF st k<v k) ->
  ∃c,js (P.bq j (some ⟨cs,st,c0⟩)) (ks.map fun k=>ackR j k (v k)) (P.bq j (some ⟨cs,st,c⟩))/\∀z:Int,nget c z=if (∃k,k∈ks/\z=(k:Nat)) then some (v z.toNat) else nget c0 z
 |[],c0,_,_=>⟨c0,.nil _,fun z=>by simp⟩
 |k::ks,c0,BN,h=>by
  rw[List.nodup_cons]at BN;have hk:=h k (List.mem_cons_self ..);obtain⟨c,h1,h2⟩:=AH (P:=P) hj (cs:=cs) (st:=st) (v:=v) ks (nput c0 k (v k)) BN.2 fun k' BO=>by
   have vl:=h k' (List.mem_cons_of_mem _ BO);refine⟨?_,vl.2⟩;rw[nget_nput,if_neg (fun e=>BN.1 (by rw[<-show k'=k by omega];exact BO))];exact vl.1
  refine⟨c,.cons (Q:=P.bq j (some ⟨cs,st,nput c0 k (v k)⟩)) ?_ h1,fun z=>?_⟩
  .have hx:(P.bq j (some ⟨cs,st,c0⟩)).ar j=some ⟨cs,st,c0⟩:=if_pos rfl;have:=vq.ack (P:=P.bq j (some ⟨cs,st,c0⟩)) (r:=ackR j k (v k)) rfl (n:=j) rfl hj hx hk.2.2.1 (by show (0:Int)<=k/\(k:Int)<256;have:=hk.2.1;omega) (by
    show lW ⟨cs,st,c0⟩ (k:Int)<v k;unfold lW;rw[show nget (⟨cs,st,c0⟩:mu).cur (k:Int)=none from hk.1];exact hk.2.2.2)
   rw[AZ]at this;exact this
  .rw[h2 z,nget_nput];by_cases e1:∃k',k'∈ks/\z=(k':Nat)
   .obtain⟨k',q1,q2⟩:=e1;rw[if_pos ⟨k',q1,q2⟩,if_pos ⟨k',List.mem_cons_of_mem _ q1,q2⟩]
   .rw[if_neg e1];by_cases e2:z=(k:Nat)
    .rw[if_pos e2,if_pos ⟨k,List.mem_cons_self ..,e2⟩,e2];rfl
    .rw[if_neg e2,if_neg];rintro⟨k',q1,q2⟩;rcases List.mem_cons.1 q1 with q|q
     .exact e2 (q▸q2)
     .exact e1 ⟨k',q,q2⟩
theorem kU{cur:List (Int×Nat)}{k:Nat}(h:∀t,t∈cur->0<=t.1):k∈fh cur↔(k:Int)∈cur.map (·.1):=by
 unfold fh;rw[List.mem_mergeSort,List.mem_map,List.mem_map];constructor
 .rintro⟨t,h1,h2⟩;exact⟨t,h1,by have:=h t h1;omega⟩
 .rintro⟨t,h1,h2⟩;exact⟨t,h1,by omega⟩
theorem Eu{cur:List (Int×Nat)}(h:∀t,t∈cur->0<=t.1)(hn:(cur.map (·.1)).Nodup):(fh cur).Nodup:=by
 unfold fh;rw[(List.mergeSort_perm _ _).nodup_iff]
 induction cur with
 |nil=>simp
 |cons t cur ih=>
  rw[List.map_cons,List.nodup_cons]at hn⊢;refine⟨fun hm=>hn.1 ?_,ih (fun x hx=>h x (List.mem_cons_of_mem _ hx)) hn.2⟩;obtain⟨u,h1,h2⟩:=List.mem_map.1 hm;have:=h u (List.mem_cons_of_mem _ h1);have:=h t (List.mem_cons_self ..);exact List.mem_map.2 ⟨u,h1,by omega⟩
theorem one_play{P Q:PB}{j:Nat}(hj:j<8)(hg:∀x,P.ar j=some x->Ga x)(jL:Q.ar j=none):∃o,js Q (lq P j) (Q.bq j o)/\vc o (P.ar j):=by
 unfold lq;cases e:P.ar j with
 |none=>
  refine⟨none,?_,.inl ⟨rfl,rfl⟩⟩;have:Q.bq j none=Q:=by
   unfold PB.bq;have:(fun i=>if i=j then none else Q.ar i)=Q.ar:=by
    funext i;split
    .rename_i q;rw[q,jL]
    .rfl
   rw[this]
  rw[this];exact .nil _
 |some x=>
  have g:=hg x e;have h0:∀t,t∈x.cur->0<=t.1:=fun t ht=>(g.cur t ht).1;obtain⟨c,h1,h2⟩:=AH (P:=Q) hj (cs:=x.cs) (st:=x.st) (v:=fun k=>(nget x.cur k).getD 0) (fh x.cur) [] (Eu h0 g.nd) fun k hk=>by
   have BO:=(kU h0).1 hk;cases e2:nget x.cur k with
   |none=>exact absurd BO (mR.1 e2)
   |some n=>
    have:=g.cur _ (nget_mem e2);refine⟨rfl,by have:=this.2.1;simp only[]at this;omega,?_,?_⟩
    .show fc n=true;exact this.2.2.1
    .exact this.2.2.2
  refine⟨_,.cons (Q:=Q.bq j (some ⟨x.cs,x.st,[]⟩)) ?_ h1,.inr ⟨_,x,rfl,rfl,rfl,rfl,fun z=>?_⟩⟩
  .have:=vq.rQ (P:=Q) (r:=Dl j x) rfl (n:=j) rfl hj jL g.may g.st;rw[show (Dl j x).cs.map bare=x.cs from g.bare]at this;exact this
  .show nget c z=_;rw[h2 z];by_cases hz:∃k,k∈fh x.cur/\z=(k:Nat)
   .rw[if_pos hz];obtain⟨k,q1,rfl⟩:=hz;have BO:=(kU h0).1 q1;cases e2:nget x.cur k with
    |none=>exact absurd BO (mR.1 e2)
    |some n=>simp[e2]
   .rw[if_neg hz]
    symm
    show nget x.cur z=none;rw[mR];intro hm;obtain⟨t,q1,q2⟩:=List.mem_map.1 hm;have:=h0 t q1;exact hz ⟨z.toNat,(kU h0).2 (by rw[show ((z.toNat:Nat):Int)=z by omega];exact hm),by omega⟩
theorem zN{P Q:PB}(hg:eV P)(jL:∀i,Q.ar i=none):∀j,j<=8->∃R,js Q ((List.range j).flatMap (lq P)) R/\R.aI=Q.aI/\R.bR=Q.bR/\(∀i,i<j->vc (R.ar i) (P.ar i))/\∀i,j<=i->R.ar i=none
 |0,_=>⟨Q,.nil _,rfl,rfl,fun i h=>absurd h (by omega),fun i _=>jL i⟩
 |j+1,hj=>by
  obtain⟨R,h1,h2,h3,h4,h5⟩:=zN hg jL j (by omega);obtain⟨o,k1,k2⟩:=one_play (P:=P) (Q:=R) (j:=j) (by omega) (fun x hx=>hg.ar j x (by omega) hx) (h5 j (Nat.le_refl _));refine⟨R.bq j o,?_,h2,h3,fun i hi=>?_,fun i hi=>?_⟩
  .rw[List.range_succ,List.flatMap_append,List.flatMap_cons,List.flatMap_nil,List.append_nil];exact h1.append k1
  .show vc (if i=j then o else R.ar i) _;split
   .rename_i q;rw[q];exact k2
   .exact h4 i (by omega)
  .show (if i=j then o else R.ar i)=none;rw[if_neg (by omega)];exact h5 i (by omega)
theorem FZ{P Q:PB}(hg:eV P)(jL:∀k,Q.bR k=⟨0,0,false,[]⟩):∀j,j<=4->∃R,js Q ((List.range j).flatMap (jH P)) R/\R.aI=Q.aI/\R.ar=Q.ar/\(∀k,k<j->R.bR k=P.bR k)/\∀k,j<=k->R.bR k=⟨0,0,false,[]⟩
 |0,_=>⟨Q,.nil _,rfl,rfl,fun i h=>absurd h (by omega),fun i _=>jL i⟩
 |j+1,hj=>by
  obtain⟨R,h1,h2,h3,h4,h5⟩:=FZ hg jL j (by omega);have e:(List.range (j+1)).flatMap (jH P)=(List.range j).flatMap (jH P)++jH P j:=by
   rw[List.range_succ,List.flatMap_append,List.flatMap_cons,List.flatMap_nil,List.append_nil]
  rw[e];rcases hg.bR j (by omega)with q|⟨q1,q2,q3,q4,q5,q6,q7⟩
  .have e2:jH P j=[]:=by unfold jH;rw[q];rfl
   rw[e2,List.append_nil];refine⟨R,h1,h2,h3,fun k hk=>?_,fun k hk=>h5 k (by omega)⟩;by_cases hkj:k<j
   .exact h4 k hkj
   .obtain rfl:k=j:=by omega
    rw[h5 k (Nat.le_refl _),q]
  .have e2:jH P j=[adR j (P.bR j)]:=by unfold jH;rw[if_pos (by omega)]
   rw[e2];have hd:=vq.ad (P:=R) (r:=adR j (P.bR j)) rfl (k:=j) rfl (by omega) (num_mk ⟨q1,q2⟩) (by rw[h5 j (Nat.le_refl _)];exact q1) q5;refine⟨_,h1.append (.cons hd (.nil _)),h2,h3,fun k hk=>?_,fun k hk=>?_⟩
   .show (if k=j then _ else R.bR k)=_;by_cases hkj:k=j
    .rw[if_pos hkj,hkj];show (⟨j,(P.bR j).gE,(P.bR j).there,(P.bR j).cs.map bare⟩:PAd)=P.bR j;rw[q4,<-q3]
    .rw[if_neg hkj];exact h4 k (by omega)
   .show (if k=j then _ else R.bR k)=_;rw[if_neg (by omega)];exact h5 k (by omega)
theorem all_play{P:PB}(hg:eV P)(hl:fc P.aI=true):∃Q,js gO (gD P) Q/\kF Q P/\Q.aI=P.aI:=by
 obtain⟨R,h1,h2,h3,h4,_⟩:=zN (P:=P) (Q:=gO.de P.aI) hg (fun _=>rfl) 8 (Nat.le_refl _);obtain⟨U,k1,k2,k3,k4,_⟩:=FZ (P:=P) (Q:=R) hg (fun k=>by rw[h3];rfl) 4 (Nat.le_refl _);have hd:=vq.aI (P:=gO) (r:=fK P.aI) rfl hl;exact⟨U,.cons hd (h1.append k1),⟨fun i hi=>by rw[k3];exact h4 i hi,k4⟩,k2.trans h2⟩
open Go.Proofs.YtdknlbnljfdhgaaGreatDoor.mod (Val encV encV_len Con encC encC_len ConOk PredAt mayP mayC mayV setB sameB zeroV mayPred encT encT_len bare encM nget nput mget_encM mput_encM nget_nput nput_mem nget_mem predFoot idxI idx174)
theorem allR_wr{P:PB}(hg:eV P)(hl:P.aI<=1099511627777):∀r,r∈gD P->kG r:=fun r hr=>by
 have mn:mayP []=true:=by decide
 unfold gD at hr;rcases List.mem_cons.1 hr with rfl|hr
 .exact⟨hl,mn,(fun c hc=>by cases hc),by simp[fK],(fun t ht=>by cases ht),by simp[fK],by simp[fK],.inl ⟨rfl,rfl,rfl,rfl,rfl,rfl⟩⟩
 .rcases List.mem_append.1 hr with hr|hr
  .obtain⟨i,hi,hr⟩:=List.mem_flatMap.1 hr;have hi:=List.mem_range.1 hi;unfold lq at hr;cases e:P.ar i with
   |none=>rw[e]at hr;cases hr
   |some x=>
    rw[e]at hr;have g:=hg.ar i x hi e;rcases List.mem_cons.1 hr with rfl|hr
    .exact zC (k:=i) (by omega) g.may g.num g.st
    .obtain⟨k,hk,rfl⟩:=List.mem_map.1 hr;have h0:∀t,t∈x.cur->0<=t.1:=fun t ht=>(g.cur t ht).1;have BO:=(kU h0).1 hk;cases e2:nget x.cur k with
     |none=>exact absurd BO (mR.1 e2)
     |some n=>
      have:=g.cur _ (nget_mem e2);have h3:=this.2.1;simp only[]at h3;exact rw_ack (k:=i) (by omega) (by omega) this.2.2.1
  .obtain⟨k,hk,hr⟩:=List.mem_flatMap.1 hr;have hk:=List.mem_range.1 hk;unfold jH at hr;split at hr
   .rename_i hv;rw[List.mem_singleton]at hr;subst hr;rcases hg.bR k hk with q|⟨q1,q2,q3,q4,q5,q6,q7⟩
    .rw[q]at hv;exact absurd hv (by decide)
    .exact rw_ad (k:=k) (by omega) q2 q5 q6 q7
   .cases hr
theorem eV.aI{P:PB}(hg:eV P)(n:Nat):eV (P.de n):=⟨hg.ar,hg.bR⟩
theorem vc.trans{o o' o'':Option mu}(h:vc o o')(k:vc o' o''):vc o o'':=by
 rcases h with⟨h1,h2⟩|⟨x,y,h1,h2,h3,h4,h5⟩
 .rcases k with⟨k1,k2⟩|⟨u,v,k1,k2,_⟩
  .exact .inl ⟨h1,k2⟩
  .rw[h2]at k1;cases k1
 .rcases k with⟨k1,k2⟩|⟨u,v,k1,k2,k3,k4,k5⟩
  .rw[h2]at k1;cases k1
  .rw[h2]at k1;cases k1;exact .inr ⟨x,v,h1,k2,h3.trans k3,h4.trans k4,fun z=>(h5 z).trans (k5 z)⟩
theorem kF.trans{P Q R:PB}(h:kF P Q)(k:kF Q R):kF P R:=⟨fun i hi=>(h.ar i hi).trans (k.ar i hi),fun i hi=>(h.bR i hi).trans (k.bR i hi)⟩
theorem kF.refl(P:PB):kF P P:=⟨fun i hi=>by
 cases e:P.ar i with
 |none=>exact .inl ⟨rfl,rfl⟩
 |some x=>exact .inr ⟨x,x,rfl,rfl,rfl,rfl,fun _=>rfl⟩,fun _ _=>rfl⟩
def cntS(o:Option mu):Nat:=match o with|none=>0|some x=>1+((List.range 16).filter fun k=>(nget x.cur (k:Nat)).isSome).length
def Fi(a:PAd):Nat:=if 0<a.gE then 1 else 0
theorem cur_len{x:mu}(g:Ga x):x.cur.length=((List.range 16).filter fun k=>(nget x.cur (k:Nat)).isSome).length:=by
 have h0:∀t,t∈x.cur->0<=t.1:=fun t ht=>(g.cur t ht).1;rw[<-mU];refine List.Perm.length_eq ((List.perm_ext_iff_of_nodup (Eu h0 g.nd) (List.nodup_range.filter _)).2 fun k=>?_);rw[kU h0,List.mem_filter,List.mem_range];constructor
 .intro h;refine⟨?_,?_⟩
  .obtain⟨t,q1,q2⟩:=List.mem_map.1 h;have:=(g.cur t q1).2.1;omega
  .cases e:nget x.cur (k:Nat)with
   |none=>exact absurd h (mR.1 e)
   |some n=>rfl
 .rintro⟨_,h⟩;cases e:nget x.cur (k:Nat)with
  |none=>rw[e]at h;cases h
  |some n=>exact List.mem_map.2 ⟨_,nget_mem e,rfl⟩
theorem eV.pbok{P:PB}(hg:eV P):PBOk P where
 keys i x hi hx:=by
  have g:=hg.ar i x hi hx;refine⟨?_,fun t ht=>?_,g.nd⟩
  .rw[cur_len g];have:=List.length_filter_le (fun k:Nat=>(nget x.cur (k:Nat)).isSome) (List.range 16);rw[List.length_range]at this;omega
  .have:=g.cur t ht;have:=num_ok this.2.2.1;omega
theorem vS{P:PB}(hg:eV P):(gD P).length=1+(((List.range 8).map fun i=>cntS (P.ar i)).sum+((List.range 4).map fun k=>Fi (P.bR k)).sum):=by
 unfold gD;rw[List.length_cons,List.length_append,List.length_flatMap,List.length_flatMap,Nat.add_comm];congr 2
 .congr 1;refine List.map_congr_left fun i hi=>?_;have hi:=List.mem_range.1 hi;unfold lq cntS;cases e:P.ar i with
  |none=>rfl
  |some x=>
   have g:=hg.ar i x hi e;show (Dl i x::F0 i x).length=_;unfold F0;rw[List.length_cons,List.length_map,mU,cur_len g,Nat.add_comm]
 .congr 1;refine List.map_congr_left fun k _=>?_;unfold jH Fi;split<;>rfl
theorem same_cnt{P Q:PB}(h:kF P Q):((List.range 8).map fun i=>cntS (P.ar i)).sum+((List.range 4).map fun k=>Fi (P.bR k)).sum=((List.range 8).map fun i=>cntS (Q.ar i)).sum+((List.range 4).map fun k=>Fi (Q.bR k)).sum:=by
 congr 2
 .refine List.map_congr_left fun i hi=>?_;rcases h.ar i (List.mem_range.1 hi)with⟨h1,h2⟩|⟨x,y,h1,h2,_,_,h5⟩
  .rw[h1,h2]
  .rw[h1,h2];have e:(fun k:Nat=>(nget x.cur (k:Nat)).isSome)=fun k:Nat=>(nget y.cur (k:Nat)).isSome:=funext fun k=>by rw[h5]
   show 1+((List.range 16).filter fun k:Nat=>(nget x.cur (k:Nat)).isSome).length=1+_;rw[e]
 .refine List.map_congr_left fun k hk=>?_;rw[h.bR k (List.mem_range.1 hk)]
structure ow(d:PD)(bs:List AV):Prop where
 off:d.off=false
 dQ:d.dQ<0
 q:d.q=1048576
 fs:∃iB,d.fs=[⟨cu,bs,iB⟩]
theorem nKN:cu≠aZ:=by decide
theorem nNK:aZ≠cu:=by decide
theorem burn_no{d:PD}(h:d.dQ<0):d.jg=(0,d):=by
 unfold PD.jg;rw[if_neg (by omega),if_neg (by omega)]
theorem zP{d:PD}{es:List Int}{k:PD->PD}(h:d.dQ<0)(he:aT es=0):d.on es k=(0,k d):=by
 unfold PD.on PD.aU;simp only[he,if_true,burn_no h]
theorem used_one{bs:List AV}{n:List Nat}{f q:Nat}{z:Int}{o:Bool}:(⟨[⟨n,bs,f⟩],q,z,o⟩:PD).used=bs.length:=by simp[PD.used]
theorem app_one{bs xs:List AV}{f:Nat}{z:Int}(hz:z<0)(hl:bs.length+xs.length<=1048576):(⟨[⟨cu,bs,f⟩],1048576,z,false⟩:PD).append cu xs=(0,⟨[⟨cu,bs++xs,f⟩],1048576,z,false⟩):=by
 unfold PD.append;rw[zP hz]
 .simp[PD.file,PD.put]
 .simp[aT,PD.eY,PD.ay,PD.has,PD.file,mayK,PD.fR,used_one];omega
theorem syn_one{bs:List AV}{f:Nat}{z:Int}(hz:z<0):(⟨[⟨cu,bs,f⟩],1048576,z,false⟩:PD).sync cu=(0,⟨[⟨cu,bs,bs.length⟩],1048576,z,false⟩):=by
 unfold PD.sync;rw[zP hz]
 .simp[PD.file,PD.put]
 .simp[aT,PD.eY,PD.ay,PD.has,PD.file,mayK]
theorem ow.chg{d:PD}{bs xs:List AV}(h:ow d bs)(hl:bs.length+xs.length<=1048576):(Cc d xs).1=0/\ow (Cc d xs).2 (bs++xs):=by
 obtain⟨h1,h2,h3,f,h4⟩:=h;obtain⟨fs,q,z,o⟩:=d;simp only[]at h1 h2 h3 h4;subst h1 h3 h4;have e1:=app_one (f:=f) h2 hl;have e2:=syn_one (bs:=bs++xs) (f:=f) h2;have e:Cc ⟨[⟨cu,bs,f⟩],1048576,z,false⟩ xs=(0,⟨[⟨cu,bs++xs,(bs++xs).length⟩],1048576,z,false⟩):=by
  show (if ((⟨[⟨cu,bs,f⟩],1048576,z,false⟩:PD).append cu xs).1=0 then ((⟨[⟨cu,bs,f⟩],1048576,z,false⟩:PD).append cu xs).2.sync cu else _)=_;rw[e1,if_pos rfl];exact e2
 rw[e];exact⟨rfl,rfl,h2,rfl,_,rfl⟩
def BDisk0(d:PD)(bs:List AV):Prop:=(d=qT 1048576/\bs=[])\/ow d bs
theorem CZ{fs:List PF}{bs xs:List AV}{z:Int}(hz:z<0)(hl:bs.length+xs.length<=1048576)(jV:(fs=[]/\bs=[])\/∃f,fs=[⟨cu,bs,f⟩]):∃f,dH ⟨fs,1048576,z,false⟩ xs=(0,⟨[⟨cu,xs,f⟩],1048576,z,false⟩):=by
 have b1:(cu==aZ)=false:=by decide
 have b2:(aZ==cu)=false:=by decide
 have b3:(aZ==aZ)=true:=by decide
 have b4:(cu==cu)=true:=by decide
 have n1:=nKN;have n2:=nNK;have ub:fs.length<=1:=by rcases jV with⟨rfl,_⟩|⟨f,rfl⟩<;>simp
 have hu:(fs.map fun g=>g.bs.length).sum=bs.length:=by rcases jV with⟨rfl,rfl⟩|⟨f,rfl⟩<;>simp
 have jL:fs.find? (fun f=>f.name==aZ)=none:=by rcases jV with⟨rfl,rfl⟩|⟨f,rfl⟩<;>simp[b1]
 have c1:(⟨fs,1048576,z,false⟩:PD).create aZ=(0,⟨fs++[⟨aZ,[],0⟩],1048576,z,false⟩):=by
  unfold PD.create;rw[zP hz];simp[PD.fj,aT,PD.eY,ng,mayN,PD.has,PD.file,jL];omega
 have BS:∀x:PF,x.name=aZ->(⟨fs++[x],1048576,z,false⟩:PD).file aZ=some x:=fun x hx=>by
  show (fs++[x]).find? _=_;rw[List.find?_append,jL];simp[hx]
 have hm:∀(c d:List AV)(u v:Nat),(fs++[(⟨aZ,c,u⟩:PF)]).map (fun g:PF=>if g.name=aZ then (⟨aZ,d,v⟩:PF) else g)=fs++[⟨aZ,d,v⟩]:=fun c d u v=>by
  rw[List.map_append];have:fs.map (fun g:PF=>if g.name=aZ then (⟨aZ,d,v⟩:PF) else g)=fs:=by
   rcases jV with⟨rfl,rfl⟩|⟨f,rfl⟩
   .rfl
   .simp[n1]
  rw[this];simp
 have c2:(⟨fs++[⟨aZ,[],0⟩],1048576,z,false⟩:PD).append aZ xs=(0,⟨fs++[⟨aZ,xs,0⟩],1048576,z,false⟩):=by
  unfold PD.append;rw[zP hz]
  .rw[BS _ rfl];simp only[];unfold PD.put;simp only[];rw[hm,List.nil_append]
  .have h1:(⟨fs++[⟨aZ,[],0⟩],1048576,z,false⟩:PD).has aZ=true:=by unfold PD.has;rw[BS _ rfl];rfl
   have h2:(⟨fs++[⟨aZ,[],0⟩],1048576,z,false⟩:PD).used=bs.length:=by
    show ((fs++[⟨aZ,[],0⟩]:List PF).map fun g=>g.bs.length).sum=_;simp[hu]
   simp[aT,PD.eY,PD.ay,h1,mayN,PD.fR,h2];omega
 have c3:(⟨fs++[⟨aZ,xs,0⟩],1048576,z,false⟩:PD).sync aZ=(0,⟨fs++[⟨aZ,xs,xs.length⟩],1048576,z,false⟩):=by
  unfold PD.sync;rw[zP hz]
  .rw[BS _ rfl];simp only[];unfold PD.put;simp only[];rw[hm]
  .have h1:(⟨fs++[⟨aZ,xs,0⟩],1048576,z,false⟩:PD).has aZ=true:=by unfold PD.has;rw[BS _ rfl];rfl
   simp[aT,PD.eY,PD.ay,h1,mayN]
 have c4:(⟨fs++[⟨aZ,xs,xs.length⟩],1048576,z,false⟩:PD).rename aZ cu=(0,⟨[⟨cu,xs,xs.length⟩],1048576,z,false⟩):=by
  unfold PD.rename;rw[zP hz]
  .rw[BS _ rfl];simp only[];unfold PD.mv;rcases jV with⟨rfl,rfl⟩|⟨f,rfl⟩
   .simp[PD.has,PD.file,PD.del,b2,b4,b1,b3,n1,n2]
   .simp[PD.has,PD.file,PD.put,PD.del,b2,b4,b1,b3,n1,n2]
  .have h1:(⟨fs++[⟨aZ,xs,xs.length⟩],1048576,z,false⟩:PD).has aZ=true:=by unfold PD.has;rw[BS _ rfl];rfl
   simp[aT,PD.eY,PD.ay,h1,mayN,mayK,ng]
 refine⟨xs.length,?_⟩;unfold dH;simp only[DP,lQ,opP,c1,c2,c3,c4,if_true]
theorem BDisk0.write{d:PD}{bs xs:List AV}(h:BDisk0 d bs)(hl:bs.length+xs.length<=1048576):(dH d xs).1=0/\ow (dH d xs).2 xs:=by
 rcases h with⟨rfl,rfl⟩|⟨h1,h2,h3,f,h4⟩
 .obtain⟨f,e⟩:=CZ (fs:=[]) (bs:=[]) (xs:=xs) (z:=-1) (by decide) hl (.inl ⟨rfl,rfl⟩);unfold qT;rw[e];exact⟨rfl,rfl,(by decide:(-1:Int)<0),rfl,f,rfl⟩
 .obtain⟨fs,q,z,o⟩:=d;simp only[]at h1 h2 h3 h4;subst h1 h3;obtain⟨f',e⟩:=CZ (fs:=fs) (xs:=xs) h2 hl (.inr ⟨f,h4⟩);rw[e];exact⟨rfl,rfl,h2,rfl,f',rfl⟩
open Go.Proofs.YtdknlbnljfdhgaaGreatDoor.mod (Val encV encV_len Con encC encC_len ConOk PredAt mayP mayC mayV setB sameB zeroV mayPred encT encT_len bare encM nget nput mget_encM mput_encM nget_nput nput_mem nget_mem predFoot idxI idx174)
section
variable{S T:AS}{X:cV}
theorem nt38:Tryz.f38.ntmps=42:=by kernel_rfl
def sbH(S:AS)(X:cV)(k:Nat)(F':Fr)(S':AS):Prop:=
 ∃(j:Nat)(w:AV)(L:List lM),Sub S S'/\F7 S' S.next w L/\L.map lM.pure=iH X.pure j/\sl F' 3=w/\sl F' 13=vn X/\sl F' 14=.int .i64 j/\j<=8/\F'.n=42/\k=8-j
theorem sbH_mk{k:Nat}{F':Fr}(j:Nat)(w:AV)(L:List lM)(h1:Sub S T)(h2:F7 T S.next w L)(h3:L.map lM.pure=iH X.pure j)(h4:sl F' 3=w)(h5:sl F' 13=vn X)(h6:sl F' 14=.int .i64 j)(h7:j<=8)(h8:F'.n=42)(h9:k=8-j):sbH S X k F' T:=
 ⟨j,w,L,h1,h2,h3,h4,h5,h6,h7,h8,h9⟩
theorem hJ(s:lM):s.c.length=3:=rfl
theorem oc(s:jn):s.c.length=4:=rfl
set_option maxRecDepth 20000 in
theorem subs38(h:bN S X):ai C1 38 [.ptr X.b 0 0 27] S fun v T=>Sub S T/\∃L,F7 T S.next v L/\L.map lM.pure=iH X.pure 8:=by
 have oF:=fun Q=>mh h (Q:=Q);have dc:=h.row;unfold cV.c at dc;refine aK (cD _) (cG _ rfl) fn38 rfl ok38 (by simp) fun F hn s0=>?_;rw[nt38]at hn;simp[s0,aR,oF,dc];refine aH (sbH S X) 8 (sbH_mk 0 .aq [] (Sub.refl S) gY.nil rfl (by simp) (by simp[vn]) (by simp) (by omega) (by simp[hn]) rfl) ?_;clear s0 hn oF dc;rintro k F' S'-⟨j,w,L,hS,hL,hp,t3,t13,t14,hj,hn,hk⟩;by_cases hj8:j<8
 case neg=>
  obtain rfl:j=8:=by omega
  simp[t3,t13,t14,hL.gw.1.np,aj hL.gw.1];exact⟨hS,L,hL,hp⟩
 have Ae:(j:Int)<8:=by omega
 have vK:∀(F:Fr)(dst:Option Tmp)(ty:TypeId)(pos:String)(af:Array Edge)(gd:Option (Nat×Bool)),sl F 13=vn X->sl F 14=.int .i64 j->bj C1 F S' ⟨dst,.index 105 (.tmp 13) (.tmp 14),ty,pos,af,gd⟩=.val (pX (X.ar j)) S':=fun F dst ty pos af gd h1 h2=>idx105 h1 h2 hj8;have hw:=IntWalk.i64_in ((j:Int)+1) (by omega);have vi:=rq X.pure j;cases hx:X.ar j with
 |none=>
  have eo:sbO X.pure j=none:=by unfold sbO cV.pure;simp[hx]
  rw[eo,List.append_nil]at vi;rw[hx]at vK;simp only[pX]at vK;simp[t3,t13,t14,Ae,hj8,vK,hw];exact⟨8-(j+1),by omega,sbH_mk (j+1) w L hS hL (by rw[vi];exact hp) (by simp[t3]) (by simp[t13]) (by simp) (by omega) (by simp[hn]) rfl⟩
 |some x=>
  have eo:sbO X.pure j=some ⟨j,x.ks.map bare,x.st⟩:=by unfold sbO cV.pure;simp[hx,da.pure]
  rw[eo]at vi;rw[hx]at vK;simp only[pX]at vK;have q:=(h.toSub hS).sub j x hj8 hx;have wF:=q.row;unfold da.c at wF;have h6:x.ks.length<=6:=pw q.pred.may;obtain⟨c,T1,⟨tW,hq,hb,iP,jB⟩,e86⟩:=(up1 (mod.tc q.pred.at_ h6 (fun c hc=>((lB q.pred.may q.pred.num).2 c hc).2.1))).ex;have u2:=q.sl.aM encT_len (by omega);obtain⟨v,T2,⟨ie,hv,_,hvl,hvb⟩,e87⟩:=(up1 (mod.clone73 (q.sl.toSub iP) (by rw[u2];have:=q.sl8;omega))).ex;have hT12:=iP.trans ie;have DV:=(iP.h _ q.lt).trans wF;have qrow2:=(hT12.h _ q.lt).trans wF;have hL2:=hL.sub vw hT12;have hwold:=hL.gw.1.old;have hT1n:=iP.next
  have hT2n:=ie.next
  have hl6:tW.length<=6:=by have:=congrArg List.length hb;simp at this;omega
  obtain⟨s,hs⟩:∃s:lM,s=⟨j,c,tW,v,x.st⟩:=⟨_,rfl⟩
  have hsc:s.c=[.int .i64 j,c,v]:=by rw[hs];rfl
  have l7:lM.ok T2 s:=by rw[hs];exact⟨hq.sub ie,hv,hl6,q.sl8⟩
  have hlen:L.length<=8:=by have:=congrArg List.length hp;have:=tC X.pure j;simp at *;omega
  have hwl:sLen w=L.length:=hL.gw.1.aM hJ (by omega);obtain⟨w',T3,e3,hL3,k3,n3⟩:=hL2.push (t:=35) (bs:=56) st35 un35 vw (by have:=hS.next;omega) (a:=s) l7 (fun id e=>by
   have cq:id<T2.next:=by
    rcases e with e|e
    .exact PredAt.bB l7.1 e
    .have:=l7.2.1.old;omega
   have Ag:S'.next<=id:=by
    rw[hs]at e;rcases e with e|e
    .exact jB id e
    .have e:aB v=id+1:=e;omega
   have:=hS.next
   exact⟨by omega,cq,by omega⟩) rfl (by rw[hwl];simp[fits,cH];omega)
  rw[hsc]at e3;have iY:∀(F:Fr)(B:Nat)(y:Tmp),sl F y=.agg [.int .i64 j,c,v]->aA C1 F B (.buildSlice 35 1 #[(0,.tmp y)])=some (.slice B 0 0 1 3 3 (some 1),.row [.int .i64 j,c,v] 0 0 false 50):=fun F B y a0=>by
   have:=ck (cx:=C1) (F:=F) (t:=35) (p:=(50,3,56)) (id:=B) (n:=1) (a:=#[(0,.tmp y)]) [[.int .i64 j,c,v]] st35 rfl (by simp[a0,cellsOf]) (by simp) (by decide);rw[this];simp
  have k1:=aj q.pred.at_.sl;have k2:=aj hq.sl;have k3':=hq.sl.cells;have k4:=hq.sl.np;have k5:=aj q.sl;have k6:=aj hv;have k7:=hv.cells;have k8:=hv.np;have k9:=aj hL.gw.1;have hL3g:=hL3.gw.1;have ka:=hL3g.np;have kb:=aj hL3g;have kO:Sub S T3:=⟨fun id bY=>(k3 id bY).trans ((hS.trans hT12).h id bY),by have:=hS.next;omega⟩
  have hpure:(L++[s]).map lM.pure=iH X.pure (j+1):=by
   rw[vi,List.map_append,hp,hs];show _++[(⟨j,tW.map bare,x.st⟩:zt)]=_;rw[hb]
  simp[t3,t13,t14,Ae,hj8,vK];refine cO [.p,.p,.p,.p,.p,.r 0 2,.p,.p,.p,.p,.r 0 0,.e [],.p,.p,.p,.p,.r 1 0,.e [],.p,.e [],.e [],.p] (n:=42) (by kernel_rfl) (by simp[hn]) ?_;simp[t3,t13,t14,Ae,hj8,vK,wF,DV,qrow2,aR,e86,e87,k1,k2,k3',k4,k5,k6,k7,k8,k9,bld50 hq.sl.sl hv.sl,iY,e3,ka,kb,hw];exact⟨8-(j+1),by omega,sbH_mk (j+1) w' (L++[s]) kO hL3 hpure (by simp) (by simp[t13]) (by simp) (by omega) (by simp[hn]) rfl⟩
theorem nt39:Tryz.f39.ntmps=30:=by kernel_rfl
def adH(S:AS)(X:cV)(k:Nat)(F':Fr)(S':AS):Prop:=
 ∃(j:Nat)(w:AV)(L:List jn),Sub S S'/\AdsAt S' S.next w L/\L.map jn.pure=tp X.pure j/\sl F' 3=w/\sl F' 13=zi X/\sl F' 14=.int .i64 j/\j<=4/\F'.n=30/\k=4-j
theorem adH_mk{k:Nat}{F':Fr}(j:Nat)(w:AV)(L:List jn)(h1:Sub S T)(h2:AdsAt T S.next w L)(h3:L.map jn.pure=tp X.pure j)(h4:sl F' 3=w)(h5:sl F' 13=zi X)(h6:sl F' 14=.int .i64 j)(h7:j<=4)(h8:F'.n=30)(h9:k=4-j):adH S X k F' T:=
 ⟨j,w,L,h1,h2,h3,h4,h5,h6,h7,h8,h9⟩
set_option maxRecDepth 20000 in
theorem ads39(h:bN S X):ai C1 39 [.ptr X.b 0 0 27] S fun v T=>Sub S T/\∃L,AdsAt T S.next v L/\L.map jn.pure=tp X.pure 4:=by
 have oF:=fun Q=>mh h (Q:=Q);have dc:=h.row;unfold cV.c at dc;refine aK (cD _) (cG _ rfl) fn39 rfl ok39 (by simp) fun F hn s0=>?_;rw[nt39]at hn;simp[s0,aR,oF,dc];refine aH (adH S X) 4 (adH_mk 0 .aq [] (Sub.refl S) gY.nil rfl (by simp) (by simp[zi]) (by simp) (by omega) (by simp[hn]) rfl) ?_;clear s0 hn oF dc;rintro k F' S'-⟨j,w,L,hS,hL,hp,t3,t13,t14,hj,hn,hk⟩;by_cases hj4:j<4
 case neg=>
  obtain rfl:j=4:=by omega
  simp[t3,t13,t14,hL.gw.1.np,aj hL.gw.1];exact⟨hS,L,hL,hp⟩
 have Ae:(j:Int)<4:=by omega
 have vK:∀(F:Fr)(dst:Option Tmp)(ty:TypeId)(pos:String)(af:Array Edge)(gd:Option (Nat×Bool)),sl F 13=zi X->sl F 14=.int .i64 j->bj C1 F S' ⟨dst,.index 106 (.tmp 13) (.tmp 14),ty,pos,af,gd⟩=.val (.agg (X.bR j).c) S':=fun F dst ty pos af gd h1 h2=>idx106 h1 h2 hj4;have hw:=IntWalk.i64_in ((j:Int)+1) (by omega);have vi:=AG X.pure j;have q:=((h.toSub hS).ad j hj4).1;obtain⟨a,ha⟩:∃a,a=X.bR j:=⟨_,rfl⟩
 rw[<-ha]at q vK;have ea:X.pure.bR j=a.pure:=by rw[ha];rfl
 have k1:=aj q.at_.sl;have k1c:=q.at_.sl.cells;obtain⟨S1,bI⟩:∃S1:AS,S1=⟨(S'.h.set S'.next (.row [.int .i64 0,.int .u64 0,.bool false,.aq] 0 0 false 98)).set S'.next (.row a.c 0 0 false 98),S'.next+1⟩:=⟨_,rfl⟩
 have s1:Sub S' S1:=by rw[bI];exact seg.fO
 have g1:S1.h.get S'.next=some (.row a.c 0 0 false 98):=by rw[bI];exact aa _ _ _
 have n1:S1.next=S'.next+1:=by rw[bI]
 have fN:=bI.symm;clear bI;have hgg:S1.h.get S'.next=some (.row [.int .i64 a.k,.int .u64 a.gE,.bool a.there,a.p] 0 0 false 98):=g1
 simp only[jn.c]at vK fN;by_cases hv:0<a.gE
 case neg=>
  have hvI:¬(0:Int)<a.gE:=by omega
  have eo:adO X.pure j=none:=by unfold adO;rw[ea];exact if_neg hv
  rw[eo,List.append_nil]at vi;simp[t3,t13,t14,Ae,hj4,vK,hw,k1c,fN,hgg,hv,hvI];exact⟨4-(j+1),by omega,adH_mk (j+1) w L (hS.trans s1) (hL.sub tq s1) (by rw[vi];exact hp) (by simp[t3]) (by simp[t13]) (by simp) (by omega) (by simp[hn]) rfl⟩
 have hvI:(0:Int)<a.gE:=by omega
 have eo:adO X.pure j=some a.pure:=by unfold adO;rw[ea];exact if_pos hv
 rw[eo]at vi;have h6:a.ks.length<=6:=pw q.may;obtain⟨c,T1,⟨tW,hq,hb,iP,jB⟩,e86⟩:=(up1 (mod.tc (q.at_.sub s1) h6 (fun c hc=>((lB q.may q.num).2 c hc).2.1))).ex;have g2:=(iP.h _ (by omega)).trans hgg;have hT1n:=iP.next
 obtain⟨T2,ie⟩:∃T2:AS,T2=⟨T1.h.set S'.next (.row [.int .i64 a.k,.int .u64 a.gE,.bool a.there,c] 0 0 false 98),T1.next⟩:=⟨_,rfl⟩
 have g3:T2.h.get S'.next=some (.row [.int .i64 a.k,.int .u64 a.gE,.bool a.there,c] 0 0 false 98):=by rw[ie];exact aa _ _ _
 have o3:∀id,id≠S'.next->T2.h.get id=T1.h.get id:=fun id hi=>by rw[ie];exact ae _ _ hi
 have n3:T2.next=T1.next:=by rw[ie]
 have bT2:=ie.symm;clear ie;have hST2:Sub S' T2:=⟨fun id hi=>(o3 id (by omega)).trans ((s1.trans iP).h id hi),by omega⟩
 have hL2:=hL.sub tq hST2;have hwold:=hL.gw.1.old;have hl6:tW.length<=6:=by have:=congrArg List.length hb;simp at this;omega
 obtain⟨s,hs⟩:∃s:jn,s=⟨a.k,a.gE,a.there,c,tW⟩:=⟨_,rfl⟩
 have hsc:s.c=[.int .i64 a.k,.int .u64 a.gE,.bool a.there,c]:=by rw[hs];rfl
 have hnw:∀id,predFoot c tW id->S'.next<id:=fun id e=>by have:=jB id e;omega
 have l7:jn.ok T2 s:=by rw[hs];exact⟨PredAt.agree hq (fun id e=>o3 id (by have:=hnw id e;omega)) (by omega),hl6⟩
 have hlen:L.length<=4:=by have:=congrArg List.length hp;have:=ya X.pure j;simp at *;omega
 have hwl:sLen w=L.length:=hL.gw.1.aM oc (by omega);obtain⟨w',T3,e3,hL3,k3,m3⟩:=hL2.push (t:=36) (bs:=48) st36 un36 tq (by have:=hS.next;omega) (a:=s) l7 (fun id e=>by
  have cq:=PredAt.bB l7.1 e;rw[hs]at e;have Ag:=hnw id e;have:=hS.next
  exact⟨by omega,cq,by omega⟩) rfl (by rw[hwl];simp[fits,cH];omega)
 rw[hsc]at e3;have k2:=aj hq.sl;have k3':=hq.sl.cells;have k4:=hq.sl.np;have k9:=aj hL.gw.1;have hL3g:=hL3.gw.1;have ka:=hL3g.np;have kb:=aj hL3g;have iY:∀(F:Fr)(B:Nat)(y:Tmp),sl F y=.agg [.int .i64 a.k,.int .u64 a.gE,.bool a.there,c]->aA C1 F B (.buildSlice 36 1 #[(0,.tmp y)])=some (.slice B 0 0 1 4 4 (some 1),.row [.int .i64 a.k,.int .u64 a.gE,.bool a.there,c] 0 0 false 98):=fun F B y a0=>by
  have:=ck (cx:=C1) (F:=F) (t:=36) (p:=(98,4,48)) (id:=B) (n:=1) (a:=#[(0,.tmp y)]) [[.int .i64 a.k,.int .u64 a.gE,.bool a.there,c]] st36 rfl (by simp[a0,cellsOf]) (by simp) (by decide);rw[this];simp
 have kO:Sub S T3:=⟨fun id bY=>(k3 id bY).trans ((hS.trans hST2).h id bY),by have:=hS.next;omega⟩
 have hpure:(L++[s]).map jn.pure=tp X.pure (j+1):=by
  rw[vi,List.map_append,hp,hs];show _++[(⟨a.k,a.gE,a.there,tW.map bare⟩:PAd)]=_;rw[hb];rfl
 simp[t3,t13,t14,Ae,hj4,vK,hw,k1,k1c,fN,hgg,hv,hvI,aR,e86,g2,k2,k3',k4,k9,bT2,g3,iY,e3,ka,kb];exact⟨4-(j+1),by omega,adH_mk (j+1) w' (L++[s]) kO hL3 hpure (by simp) (by simp[t13]) (by simp) (by omega) (by simp[hn]) rfl⟩
end
open Go.Proofs.YtdknlbnljfdhgaaGreatDoor.mod (Val encV encV_len Con encC encC_len ConOk PredAt mayP mayC mayV setB sameB zeroV mayPred encT encT_len bare encM nget nput mget_encM mput_encM nget_nput nput_mem nget_mem predFoot idxI idx174)
def gR(f:Nat->Nat):List AV:=(List.range 128).map fun m=>AV.int .u64 (f m:Nat)
def lO(a b:AV)(f:Nat->Nat):List AV:=a::b::gR f
@[simp] theorem curL_len(f:Nat->Nat):(gR f).length=128:=by simp[gR]
theorem eX(a b:AV)(f:Nat->Nat):(lO a b f).length=130:=by simp[lO]
def zH:List AV:=lO .aq .aq fun _=>0
@[simp] theorem ze40:zeroOf C1 40=some (.agg zH):=by kernel_rfl
theorem bld40{a b:AV}(h:isSl 3 a=true)(hb:isSl 4 b=true):cU C1 40 [(0,a),(1,b)]=some (.agg (lO a b fun _=>0)):=by
 cases a<;>first|(simp[isSl]at h;done)|(cases b<;>first|(simp[isSl]at hb;done)|kernel_rfl)
def gX(P:PB)(n:Nat)(m:Nat):Nat:=if m<n then ig (P.ar (m / 16)) ((m%16:Nat):Int) else 0
theorem curL_set{f g:Nat->Nat}{m c:Nat}(hm:m<128)(h1:g m=c)(h2:∀j,j≠m->g j=f j):(gR f).set m (.int .u64 c)=gR g:=by
 unfold gR;apply List.ext_getElem?;intro j;by_cases hj:j<128
 .rw[List.getElem?_set];by_cases e:m=j
  .subst e;rw[if_pos rfl,if_pos (by simpa using hm),List.getElem?_map,List.getElem?_range hm,Option.map_some,h1]
  .rw[if_neg e,List.getElem?_map,List.getElem?_map,List.getElem?_range hj,Option.map_some,Option.map_some,h2 j (Ne.symm e)]
 .rw[List.getElem?_eq_none (by simp;omega),List.getElem?_eq_none (by simp;omega)]
theorem heC_set{a b:AV}{P:PB}{n c:Nat}(hn:n<128)(hc:c=ig (P.ar (n / 16)) ((n%16:Nat):Int)):(lO a b (gX P n)).set (2+n) (.int .u64 c)=lO a b (gX P (n+1)):=by
 rw[Nat.add_comm 2 n];show a::b::(gR _).set n _=_;rw[curL_set (g:=gX P (n+1)) hn (by unfold gX;rw[if_pos (Nat.lt_succ_self _),hc]) (fun j hj=>by
  unfold gX;by_cases h:j<n
  .rw[if_pos h,if_pos (by omega)]
  .rw[if_neg h,if_neg (by omega)])]
 rfl
theorem curF_zero(P:PB):gX P 0=fun _=>0:=by funext m;rfl
section
variable{S T:AS}{X:cV}
theorem gY.agree{α:Type}{enc:α->List AV}{sz e:Nat}{ft:α->Nat->Prop}{sF:AS->α->Prop}{lo lo':Nat}{w:AV}{L:List α}(yC:∀S T a,sF S a->(∀id,ft a id->T.h.get id=S.h.get id)->S.next<=T.next->sF T a)
  (h:gY enc sz e ft sF S lo w L) (hs:∀id,lo<=id->id<S.next->T.h.get id=S.h.get id) (hn:S.next<=T.next) (hl:lo'<=lo):gY enc sz e ft sF T lo' w L:=
 ⟨h.gw.agree (fun id q=>hs id (by have:=h.new;unfold iS at this;omega) (by have:=h.gw.1.old;omega)) hn,by have:=h.new;unfold iS at this⊢;omega,fun a ha=>⟨yC S T a (h.el a ha).1 (fun id q=>hs id ((h.el a ha).2 id q).1 ((h.el a ha).2 id q).2.1) hn,fun id q=>by
  have h1:=(h.el a ha).2 id q;exact⟨by omega,by omega,h1.2.2⟩⟩⟩
structure HdX where
 sw:AV
 L:List lM
 aw:AV
 A:List jn
 f:Nat->Nat
def HdX.c(H:HdX):List AV:=lO H.sw H.aw H.f
structure HdAt(S:AS)(lo:Nat)(H:HdX):Prop where
 sbs:F7 S lo H.sw H.L
 bR:AdsAt S lo H.aw H.A
structure HdOf(P:PB)(H:HdX):Prop where
 sbs:H.L.map lM.pure=iH P 8
 bR:H.A.map jn.pure=tp P 4
 cur:H.f=gX P 128
def hoH(S T2:AS)(X:cV)(sw aw:AV)(k:Nat)(F':Fr)(S':AS):Prop:=
 ∃i:Nat,(∀id,id<T2.next->S'.h.get id=T2.h.get id)/\T2.next<S'.next/\S'.h.get T2.next=some (.row (lO sw aw (gX X.pure (16*i))) 0 0 false 40)/\sl F' 0=.ptr X.b 0 0 27/\sl F' 2=.ptr S.next 0 0 130/\sl F' 3=.ptr T2.next 0 0 130/\sl F' 4=.int .i64 i/\i<=8/\F'.n=29/\k=8-i
theorem hoH_mk{T2 U:AS}{sw aw:AV}{k:Nat}{F':Fr}(i:Nat)(h1:∀id,id<T2.next->U.h.get id=T2.h.get id)(h2:T2.next<U.next)(h3:U.h.get T2.next=some (.row (lO sw aw (gX X.pure (16*i))) 0 0 false 40))(h4:sl F' 0=.ptr X.b 0 0 27)(h5:sl F' 2=.ptr S.next 0 0 130)(h6:sl F' 3=.ptr T2.next 0 0 130)(h7:sl F' 4=.int .i64 i)(h8:i<=8)(h9:F'.n=29)(BX:k=8-i):hoH S T2 X sw aw k F' U:=
 ⟨i,h1,h2,h3,h4,h5,h6,h7,h8,h9,BX⟩
def hiH(S T2:AS)(X:cV)(sw aw:AV)(i:Nat)(k:Nat)(F':Fr)(S':AS):Prop:=
 ∃j:Nat,(∀id,id<T2.next->S'.h.get id=T2.h.get id)/\T2.next<S'.next/\S'.h.get T2.next=some (.row (lO sw aw (gX X.pure (16*i+j))) 0 0 false 40)/\sl F' 0=.ptr X.b 0 0 27/\sl F' 2=.ptr S.next 0 0 130/\sl F' 3=.ptr T2.next 0 0 130/\sl F' 4=.int .i64 i/\sl F' 5=.int .i64 j/\j<=16/\F'.n=29/\k=16-j
theorem hiH_mk{T2 U:AS}{sw aw:AV}{i k:Nat}{F':Fr}(j:Nat)(h1:∀id,id<T2.next->U.h.get id=T2.h.get id)(h2:T2.next<U.next)(h3:U.h.get T2.next=some (.row (lO sw aw (gX X.pure (16*i+j))) 0 0 false 40))(h4:sl F' 0=.ptr X.b 0 0 27)(h5:sl F' 2=.ptr S.next 0 0 130)(h6:sl F' 3=.ptr T2.next 0 0 130)(h7:sl F' 4=.int .i64 i)(h7':sl F' 5=.int .i64 j)(h8:j<=16)(h9:F'.n=29)(BX:k=16-j):hiH S T2 X sw aw i k F' U:=
 ⟨j,h1,h2,h3,h4,h5,h6,h7,h7',h8,h9,BX⟩
theorem ld_held{S:AS}{B:Nat}{cs:List AV}{ty:Nat}{fz:Bool}(h:S.h.get B=some (.row cs 0 0 fz ty))(hl:cs.length=130):loadT C1 S 40 (.ptr B 0 0 130)=some (.agg cs):=by
 simp only[gy,iW,ag40,sz40,qk,h,bt];rw[if_pos ⟨Nat.le_refl _,Nat.le_refl _,by omega⟩,List.drop_zero,List.take_of_length_le (by omega)];rfl
theorem nt8:Tryz.f8.ntmps=29:=by kernel_rfl
set_option maxRecDepth 20000 in
theorem holds8(h:bN S X):ai C1 8 [.ptr X.b 0 0 27] S fun v T=>Sub S T/\∃H:HdX,v=.agg H.c/\HdAt T S.next H/\HdOf X.pure H:=by
 obtain⟨S1,bI⟩:∃S1:AS,S1=⟨S.h.set S.next (.row zH 0 0 false 40),S.next+1⟩:=⟨_,rfl⟩
 have s1:Sub S S1:=by rw[bI];exact seg.cf
 have gS:S1.h.get S.next=some (.row zH 0 0 false 40):=by rw[bI];exact aa _ _ _
 have nS:S1.next=S.next+1:=by rw[bI]
 have fN:=bI.symm;clear bI;obtain⟨sw,T1,⟨t1,L,hL,hp⟩,e38⟩:=(subs38 (h.toSub s1)).ex;obtain⟨aw,T2,⟨t2,A,hA,hpA⟩,e39⟩:=(ads39 (h.toSub (s1.trans t1))).ex;have k1:=hL.gw.1.np;have k2:=aj hL.gw.1;have k3:=hA.gw.1.np;have k4:=aj hA.gw.1;refine aK (cD _) (cG _ rfl) fn8 rfl ok8 (by simp) fun F hn s0=>?_;rw[nt8]at hn;have zl:zH.length=130:=eX _ _ _;obtain⟨B,hB⟩:∃B,B=T2.next:=⟨_,rfl⟩
 have b0:(⟨T2.h.set B (.row zH 0 0 false 40),B+1⟩:AS).h.get B=some (.row zH 0 0 false 40):=aa _ _ _;obtain⟨S2,c7⟩:∃S2:AS,S2=⟨(T2.h.set B (.row zH 0 0 false 40)).set B (.row (lO sw aw fun _=>0) 0 0 false 40),B+1⟩:=⟨_,rfl⟩
 have fy:AM (⟨T2.h.set B (.row zH 0 0 false 40),B+1⟩:AS) (.ptr B 0 0 130) (lO sw aw fun _=>0)=some S2:=by
  simp only[gh,mA,b0,gk];rw[if_pos ⟨trivial,by rw[eX];exact Nat.le_refl _,trivial⟩,c7];have:cT 0 zH (lO sw aw fun _=>0)=lO sw aw fun _=>0:=by
   show nr zH _=_;unfold nr;rw[eX,ca,List.drop_of_length_le (by rw[zl];exact Nat.le_refl _)];exact List.append_nil _
  rw[this]
 have g2:S2.h.get B=some (.row (lO sw aw (gX X.pure 0)) 0 0 false 40):=by rw[c7,curF_zero];exact aa _ _ _
 have n2:S2.next=B+1:=by rw[c7]
 have o2:∀id,id<B->S2.h.get id=T2.h.get id:=fun id hi=>by rw[c7];exact (ae _ _ (by omega)).trans (ae _ _ (by omega))
 clear c7;simp[s0,aR,fN,e38,e39,k1,k2,k3,k4,bld40 hL.gw.1.sl hA.gw.1.sl,zl,<-hB,fy,eX];refine aH (hoH S T2 X sw aw) 8 (hoH_mk 0 (by rw[<-hB];exact o2) (by omega) (by rw[<-hB];exact g2) (by simp[s0]) (by simp) (by simp[hB]) (by simp) (by omega) (by simp[hn]) rfl) ?_;clear s0 hn fy b0 g2 n2 o2 e38 e39 fN;rintro k F' S'-⟨i,h1,h2,h3,t0,t2',t3,t4,hi,hn,hk⟩;by_cases hi8:i<8
 .have jC:(i:Int)<8:=by omega
  simp[t0,t2',t3,t4,jC];refine aH (hiH S T2 X sw aw i) 16 (hiH_mk 0 h1 h2 h3 (by simp[t0]) (by simp[t2']) (by simp[t3]) (by simp[t4]) (by simp) (by omega) (by simp[hn]) rfl) ?_;clear h1 h2 h3 t0 t2' t3 t4 hn;rintro k F' S'-⟨j,h1,h2,h3,t0,t2',t3,t4,t5,hj,hn,hk⟩;by_cases hj16:j<16
  .have Ae:(j:Int)<16:=by omega
   have hX':bN S' X:=(h.toSub ((s1.trans t1).trans t2)).agree h1 (Nat.le_of_lt h2);obtain⟨c,U,⟨rfl,hU⟩,e40⟩:=(cursor40 hX' i j).ex;have ec:ig ((iT X.ar (i:Int)).map da.pure) (j:Int)=ig (X.pure.ar i) (j:Int):=by rw[oN _ hi8];rfl
   rw[ec]at e40;have gU:=(hU.h _ h2).trans h3;have hUn:=hU.next
   have hset:=heC_set (a:=sw) (b:=aw) (P:=X.pure) (n:=16*i+j) (c:=ig (X.pure.ar i) (j:Int)) (by omega) (by
    rw[show (16*i+j) / 16=i by omega,show (16*i+j)%16=j by omega])
   have mj:=wr_cell (x:=.int .u64 (ig (X.pure.ar i) (j:Int):Nat)) gU (eX _ _ _) (show 2+(16*i+j)<130 by omega);rw[hset]at mj;rw[show 2+(16*i+j)=2+i*16+j by omega]at mj;obtain⟨V,hV⟩:∃V:AS,V=⟨U.h.set T2.next (.row (lO sw aw (gX X.pure (16*i+j+1))) 0 0 false 40),U.next⟩:=⟨_,rfl⟩
   rw[<-hV]at mj;have v1:∀id,id<T2.next->V.h.get id=T2.h.get id:=fun id bY=>by rw[hV];exact (ae _ _ (by omega)).trans ((hU.h id (by omega)).trans (h1 id bY))
   have v2:T2.next<V.next:=by rw[hV];show T2.next<U.next;omega
   have v3:V.h.get T2.next=some (.row (lO sw aw (gX X.pure (16*i+(j+1)))) 0 0 false 40):=by rw[hV];exact aa _ _ _
   clear hV;have hw:=IntWalk.i64_in ((j:Int)+1) (by omega);simp[t0,t2',t3,t4,t5,jC,Ae];refine cO [.p,.p,.p,.p,.p,.e [],.p,.p,.p,.e []] (n:=29) (by kernel_rfl) (by simp[hn]) ?_;simp[t0,t2',t3,t4,t5,jC,hi8,Ae,hj16,aR,e40,mj,hw];exact⟨16-(j+1),by omega,hiH_mk (j+1) v1 v2 v3 (by simp[t0]) (by simp[t2']) (by simp[t3]) (by simp[t4]) (by simp) (by omega) (by simp[hn]) rfl⟩
  .obtain rfl:j=16:=by omega
   have hw:=IntWalk.i64_in ((i:Int)+1) (by omega);simp[t0,t2',t3,t4,t5,hw];exact⟨8-(i+1),by omega,hoH_mk (i+1) h1 h2 h3 (by simp[t0]) (by simp[t2']) (by simp[t3]) (by simp) (by omega) (by simp[hn]) rfl⟩
 .obtain rfl:i=8:=by omega
  have CQ:=ld_held h3 (eX _ _ _);have hT:Sub T2 S':=⟨h1,Nat.le_of_lt h2⟩
  have gT:S'.h.get S.next=some (.row zH 0 0 false 40):=(hT.h _ (by have:=t1.next;have:=t2.next;omega)).trans ((t2.h _ (by have:=t1.next;omega)).trans ((t1.h _ (by omega)).trans gS))
  have hZ:=eX .aq .aq fun _=>0;have zl:zH.length=130:=hZ;have nT:S.next<S'.next:=by have:=t1.next;have:=t2.next;have:=hT.next;omega
  obtain⟨V,hV⟩:∃V:AS,V=⟨S'.h.set S.next (.row (lO sw aw (gX X.pure 128)) 0 0 false 40),S'.next⟩:=⟨_,rfl⟩
  have fy:AM S' (.ptr S.next 0 0 130) (lO sw aw (gX X.pure 128))=some V:=by
   simp only[gh,mA,gT,gk];rw[if_pos ⟨trivial,by rw[eX];exact Nat.le_refl _,trivial⟩,hV];have:cT 0 zH (lO sw aw (gX X.pure 128))=lO sw aw (gX X.pure 128):=by
    show nr zH _=_;unfold nr;rw[eX,ca,List.drop_of_length_le (by rw[zl];exact Nat.le_refl _)];exact List.append_nil _
   rw[this]
  have gV:V.h.get S.next=some (.row (lO sw aw (gX X.pure 128)) 0 0 false 40):=by rw[hV];exact aa _ _ _
  have oV:∀id,id≠S.next->V.h.get id=S'.h.get id:=fun id hi=>by rw[hV];exact ae _ _ hi
  have vN:V.next=S'.next:=by rw[hV]
  clear hV;have hld2:aggL (rdO (V.h.get S.next) 0 0 130 130)=some (.agg (lO sw aw (gX X.pure 128))):=by
   rw[gV,bt,if_pos ⟨Nat.le_refl _,Nat.le_refl _,Nat.le_refl _⟩,List.drop_zero,List.take_of_length_le (by rw[eX];exact Nat.le_refl _)];rfl
  simp[t0,t2',t3,t4,CQ,fy,eX];rw[hld2];refine⟨rfl,?_⟩;refine⟨⟨fun id hi=>(oV id (by omega)).trans ((hT.h id (by have:=t1.next;have:=t2.next;omega)).trans ((t2.h id (by have:=t1.next;omega)).trans ((t1.h id (by omega)).trans (s1.h id hi)))),by omega⟩,⟨sw,L,aw,A,gX X.pure 128⟩,rfl,⟨?_,?_⟩,hp,hpA,rfl⟩
  .exact gY.agree vw hL (fun id q q2=>(oV id (by omega)).trans ((hT.h id (by have:=t2.next;omega)).trans (t2.h id q2))) (by have:=t2.next;have:=hT.next;omega) (by omega)
  .exact gY.agree tq hA (fun id q q2=>(oV id (by have:=t1.next;omega)).trans (hT.h id q2)) (by have:=hT.next;omega) (by have:=t1.next;omega)
end
open Go.Proofs.YtdknlbnljfdhgaaGreatDoor.mod (Val encV encV_len Con encC encC_len ConOk PredAt mayP mayC mayV setB sameB zeroV mayPred encT encT_len bare encM nget nput mget_encM mput_encM nget_nput nput_mem nget_mem predFoot idxI idx174)
@[simp] theorem blC1(n:Int):cU C1 100 [(0,.int .i64 1),(1,.int .i64 n)]=some (.agg [.int .i64 1,.int .i64 n,.str [],.bool false]):=by kernel_rfl
@[simp] theorem blC2(s:List Nat):cU C1 100 [(0,.int .i64 2),(2,.str s)]=some (.agg [.int .i64 2,.int .i64 0,.str s,.bool false]):=by kernel_rfl
@[simp] theorem blC3(b:Bool):cU C1 100 [(0,.int .i64 3),(3,.bool b)]=some (.agg [.int .i64 3,.int .i64 0,.str [],.bool b]):=by kernel_rfl
theorem lt_irr:∀l:List Nat,ltS l l=false
 |[]=>rfl
 |a::l=>by
  show cond (Nat.blt a a) true (cond (Nat.beq a a) (ltS l l) false)=false;rw[lt_irr l,gH];simp
theorem eq_refl:∀l:List Nat,re l l=true
 |[]=>rfl
 |a::l=>by
  show cond (Nat.beq a a) (re l l) false=true;rw[eq_refl l,Nat.beq_refl];rfl
theorem pJ(a:Int):yU a a=true:=by rw[gK];simp
set_option maxRecDepth 20000 in
theorem ne52(a:Int)(b:Nat)(c:Bool):aS C1 .neq 52 c (.agg [.int .i64 a,.int .u64 b]) (.agg [.int .i64 a,.int .u64 b])=some (.bool false):=by
 have h:Aq C1 52 c (.agg [.int .i64 a,.int .u64 b]) (.agg [.int .i64 a,.int .u64 b])=(match (some (yU a a):Option Bool)with|some true=>(match (some (yU b b):Option Bool)with|some true=>some true|r=>r)|r=>r):=by kernel_rfl
 show (match Aq C1 52 c _ _ with|some r=>some (AV.bool (!r))|none=>none)=_;rw[h,pJ,pJ];rfl
theorem nN{eq:AV->AV->Option Bool}{cx:Cx}{e z:Nat}{xs ys:List AV}:∀(n i:Nat),(∀j,i<=j->j<i+n->∃a b,partOf cx e xs (j*z)=some a/\partOf cx e ys (j*z)=some b/\eq a b=some true)->l9 eq cx e z xs ys n i=some true
 |0,_,_=>rfl
 |n+1,i,h=>by
  obtain⟨a,b,h1,h2,h3⟩:=h i (Nat.le_refl _) (by omega);show (match partOf cx e xs (Nat.mul i z),partOf cx e ys (Nat.mul i z)with
   |some a,some b=>match eq a b with
    |some true=>l9 eq cx e z xs ys n (Nat.succ i)
    |r=>r
   |_,_=>none)=some true
  rw[show Nat.mul i z=i*z from rfl,h1,h2];show (match eq a b with
    |some true=>l9 eq cx e z xs ys n (Nat.succ i)
    |r=>r)=some true
  rw[h3];exact nN n (i+1) fun j h4 h5=>h j (by omega) (by omega)
theorem cur_get{f:Nat->Nat}{j:Nat}(h:j<128):(gR f)[j]?=some (.int .u64 (f j:Nat)):=by
 unfold gR;rw[List.getElem?_map,List.getElem?_range h];rfl
noncomputable abbrev cE:Cx:=lite C1.kR C1.eqs
set_option maxRecDepth 20000 in
theorem eq38(f:Nat->Nat):sW C1 6 38 (.agg (gR f)) (.agg (gR f))=some true:=by
 have h:sW C1 6 38 (.agg (gR f)) (.agg (gR f))=l9 (eqR cE 5 37) cE 37 16 (gR f) (gR f) 8 0:=by kernel_rfl
 rw[h];refine nN _ _ fun j h1 h2=>?_;have hp:partOf cE 37 (gR f) (j*16)=some (.agg (takeN 16 (mb (j*16) (gR f)))):=by kernel_rfl
 refine⟨_,_,hp,hp,?_⟩;obtain⟨L,hL⟩:∃L,L=takeN 16 (mb (j*16) (gR f)):=⟨_,rfl⟩
 have h3:eqR cE 5 37 (.agg L) (.agg L)=l9 (eqR cE 4 27) cE 27 1 L L 16 0:=by kernel_rfl
 rw[<-hL,h3];refine nN _ _ fun m h4 h5=>?_;have hn:nth m L=some (.int .u64 (f (j*16+m):Nat)):=by
  rw[iw,hL,ct,ca,List.getElem?_take_of_lt (by omega),List.getElem?_drop];exact cur_get (by omega)
 have hq:partOf cE 27 L (m*1)=nth (m*1) L:=by kernel_rfl
 rw[Nat.mul_one]at hq⊢;refine⟨_,_,hq.trans hn,hq.trans hn,?_⟩;have h6:∀x:Int,eqR cE 4 27 (.int .u64 x) (.int .u64 x)=some (yU x x):=fun x=>by kernel_rfl
 rw[h6,pJ]
set_option maxRecDepth 20000 in
theorem ne38(f:Nat->Nat)(c:Bool):aS C1 .neq 38 c (.agg (gR f)) (.agg (gR f))=some (.bool false):=by
 show (match Aq C1 38 c _ _ with|some r=>some (AV.bool (!r))|none=>none)=_;rw[show Aq C1 38 c (.agg (gR f)) (.agg (gR f))=sW C1 6 38 (.agg (gR f)) (.agg (gR f)) from rfl,eq38];rfl
section
variable{S T:AS}
theorem Cb(a:Val)(S:AS):ai C1 234 [.agg (encV a),.agg (encV a)] S fun r T=>Sub S T/\r=.int .i64 0:=by
 refine cl (cD _) (cG _ rfl) fn234 rfl ok234 (by simp) fun F hn lN=>?_;have s0:=lN 0;have s1:=lN 1;clear lN;simp only[List.getElem?_cons_zero,List.getElem?_cons_succ,Option.getD_some,encV]at s0 s1;by_cases k1:a.kind=1
 .simp[s0,s1,k1,mod.yz]
 by_cases k2:a.kind=2
 .simp[s0,s1,k1,k2,mod.yz,lt_irr]
 by_cases k3:a.kind=3
 .cases hb:a.bool<;>simp[s0,s1,k1,k2,k3,hb,mod.yz]
 simp[s0,s1,k1,k2,k3,mod.yz]
theorem C5(a:Val)(S:AS):ai C1 187 [.agg (encV a),.agg (encV a)] S fun r T=>Sub S T/\r=.int .i64 0:=by
 have h0:Sub S ⟨(S.h.set S.next (.row (encV a) 0 0 false 100)).set (S.next+1) (.row (encV a) 0 0 false 100),S.next+2⟩:=mod.yz;have lk:∀T:AS,Sub ⟨(S.h.set S.next (.row (encV a) 0 0 false 100)).set (S.next+1) (.row (encV a) 0 0 false 100),S.next+2⟩ T->T.h.get S.next=some (.row (encV a) 0 0 false 100)/\T.h.get (S.next+1)=some (.row (encV a) 0 0 false 100):=fun T hT=>
  ⟨(hT.h _ (by show S.next<S.next+2;omega)).trans ((ae _ _ (by omega)).trans (aa _ _ _)),(hT.h _ (by show S.next+1<S.next+2;omega)).trans (aa _ _ _)⟩
 obtain⟨_,T1,⟨t1,rfl⟩,e1⟩:=(Cb a ⟨(S.h.set S.next (.row (encV a) 0 0 false 100)).set (S.next+1) (.row (encV a) 0 0 false 100),S.next+2⟩).ex;obtain⟨_,T2,⟨t2,rfl⟩,e2⟩:=(Cb ⟨1,a.num,[],false⟩ T1).ex;obtain⟨_,T3,⟨t3,rfl⟩,e3⟩:=(Cb ⟨2,0,a.str,false⟩ T2).ex;obtain⟨_,T4,⟨t4,rfl⟩,e4⟩:=(Cb ⟨3,0,[],a.bool⟩ T3).ex;obtain⟨g1,g1'⟩:=lk _ t1;obtain⟨g2,g2'⟩:=lk _ (t1.trans t2);obtain⟨g3,g3'⟩:=lk _ ((t1.trans t2).trans t3);simp only[encV]at *;refine cl (cD _) (cG _ rfl) fn187 rfl ok187 (by simp) fun F hn lN=>?_;have s0:=lN 0;have s1:=lN 1;clear lN;simp only[List.getElem?_cons_zero,List.getElem?_cons_succ,Option.getD_some,encV]at s0 s1;simp[s0,s1,aR,e1,e2,e3,e4,g1,g1',g2,g2',g3,g3'];exact (((h0.trans t1).trans t2).trans t3).trans t4
theorem nt147:Tryz.f147.ntmps=77:=by kernel_rfl
theorem nt95:Tryz.f95.ntmps=41:=by kernel_rfl
theorem nt47:Tryz.f47.ntmps=26:=by kernel_rfl
theorem bare_eqs{a b:Con}(h:bare a=bare b):b.name=a.name/\b.op=a.op/\b.val=a.val/\b.aY=a.aY:=by
 have h1:=congrArg Con.name h;have h2:=congrArg Con.op h;have h3:=congrArg Con.val h;have h4:=congrArg Con.aY h;exact⟨h1.symm,h2.symm,h3.symm,h4.symm⟩
def ordH(S:AS)(a:Con)(u v:AV)(k:Nat)(F':Fr)(S':AS):Prop:=
 ∃i:Nat,Sub S S'/\sl F' 2=u/\sl F' 3=v/\sl F' 6=.int .i64 i/\i<=a.aY.length/\F'.n=77/\k=a.aY.length-i
theorem ordH_mk{a:Con}{u v:AV}{k:Nat}{F':Fr}(i:Nat)(h1:Sub S T)(h4:sl F' 2=u)(h5:sl F' 3=v)(h6:sl F' 6=.int .i64 i)(h7:i<=a.aY.length)(h8:F'.n=77)(h9:k=a.aY.length-i):ordH S a u v k F' T:=
 ⟨i,h1,h4,h5,h6,h7,h8,h9⟩
theorem ord147{a b:Con}(ha:ConOk S a)(hb:ConOk S b)(he:bare a=bare b):ai C1 147 [.agg (encC a),.agg (encC b)] S fun r T=>Sub S T/\r=.int .i64 0:=by
 obtain⟨S1,bI⟩:∃S1:AS,S1=⟨(S.h.set S.next (.row (encC a) 0 0 false 103)).set (S.next+1) (.row (encC b) 0 0 false 103),S.next+2⟩:=⟨_,rfl⟩
 have h0:Sub S S1:=by rw[bI];exact mod.yz
 have g0:S1.h.get S.next=some (.row (encC a) 0 0 false 103):=by rw[bI];exact (ae _ _ (by omega)).trans (aa _ _ _)
 have g0':S1.h.get (S.next+1)=some (.row (encC b) 0 0 false 103):=by rw[bI];exact aa _ _ _
 have nS1:S1.next=S.next+2:=by rw[bI]
 have fN:=bI.symm;clear bI;obtain⟨e1,e2,e3,e4⟩:=bare_eqs he;have h6:=ha.le;obtain⟨_,T1,⟨t1,rfl⟩,w1⟩:=(C5 a.val S1).ex;have g1:=(t1.h _ (by omega)).trans g0;have g1':=(t1.h _ (by omega)).trans g0';have u1:=ha.sl.sl;have u2:=ha.sl.aM encV_len (by omega);have v1:=hb.sl.sl;have v2:=hb.sl.aM encV_len (by omega);rw[e4]at v2;have ok1:=aj ha.sl;have ok2:=aj hb.sl;have oo:=hb.sl;rw[e4]at oo;simp only[encC,e1,e2,e3]at fN g0 g0' g1 g1';simp only[encV]at w1;refine cl (cD _) (cG _ rfl) fn147 rfl ok147 (by simp) fun F hn lN=>?_;rw[nt147]at hn;have s0:=lN 0;have s1:=lN 1;clear lN;simp only[List.getElem?_cons_zero,List.getElem?_cons_succ,Option.getD_some,encC,e1,e2,e3]at s0 s1;simp[s0,s1,aR,fN,g0,g0',w1,g1,g1',eq_refl];refine aH (ordH S1 a (.ptr S.next 0 0 7) (.ptr (S.next+1) 0 0 7)) a.aY.length (ordH_mk 0 t1 (by simp) (by simp) (by simp) (by omega) (by simp[hn]) rfl) ?_;clear s0 s1 hn g1 g1' w1 t1 fN;rintro k F' S'-⟨i,hS,t2,t3,t6,hi,hn,hk⟩;have g1:=(hS.h _ (by omega)).trans g0;have g1':=(hS.h _ (by omega)).trans g0';by_cases cQ:i<a.aY.length
 .obtain⟨t,hx⟩:∃t,a.aY[i]?=some t:=⟨_,List.getElem?_eq_getElem cQ⟩
  have l1:=cZ (cx:=C1) (e:=100) (ha.sl.toSub (h0.trans hS)) encV_len (by omega) hx ag100 Df;have l2:=cZ (cx:=C1) (e:=100) (oo.toSub (h0.trans hS)) encV_len (by omega) hx ag100 Df;have jC:(i:Int)<a.aY.length:=by omega
  obtain⟨_,U,⟨q1,rfl⟩,w1⟩:=(C5 t S').ex;have kh:=aW (i:=i) (by omega);simp[t2,t3,t6,g1,g1',u1,u2,v1,v2,cQ,jC];refine cO [.p,.r 0 0,.p,.p,.r 0 0,.p,.r 0 0,.p,.p,.r 0 0,.e [],.p] (n:=77) (by kernel_rfl) (by simp[hn]) ?_;simp[t2,t3,t6,g1,g1',u1,u2,v1,v2,cQ,jC,l1,l2,aR,w1,kh,ok1,ok2];exact⟨a.aY.length-(i+1),by omega,ordH_mk (i+1) (hS.trans q1) (by simp[t2]) (by simp[t3]) (by simp) (by omega) (by simp[hn]) rfl⟩
 .obtain rfl:i=a.aY.length:=by omega
  simp[t2,t3,t6,g1,g1',u1,u2,v1,v2,cQ,ok1,ok2];exact h0.trans hS
def cmpH(S:AS)(n:Nat)(u v:AV)(k:Nat)(F':Fr)(S':AS):Prop:=
 ∃i:Nat,Sub S S'/\sl F' 0=u/\sl F' 1=v/\sl F' 5=.int .i64 i/\i<=n/\F'.n=41/\k=n-i
theorem cmpH_mk{n:Nat}{u v:AV}{k:Nat}{F':Fr}(i:Nat)(h1:Sub S T)(h4:sl F' 0=u)(h5:sl F' 1=v)(h6:sl F' 5=.int .i64 i)(h7:i<=n)(h8:F'.n=41)(h9:k=n-i):cmpH S n u v k F' T:=
 ⟨i,h1,h4,h5,h6,h7,h8,h9⟩
theorem BD{α β:Type}{f:α->β}{l l':List α}(h:l.map f=l'.map f){i:Nat}{x:α}(hx:l[i]?=some x):∃y,l'[i]?=some y/\f x=f y:=by
 have:=congrArg (·[i]?) h;simp only[List.getElem?_map,hx,Option.map_some]at this;cases hy:l'[i]? with
 |none=>rw[hy]at this;cases this
 |some y=>rw[hy]at this;exact⟨y,rfl,Option.some.inj this⟩
theorem cmp95{p q:AV}{ks ls:List Con}(hp:PredAt S p ks)(hq:PredAt S q ls)(he:ks.map bare=ls.map bare):ai C1 95 [p,q] S fun r T=>Sub S T/\r=.int .i64 0:=by
 have el:ls.length=ks.length:=by have:=congrArg List.length he;simpa using this.symm
 have h6:=hp.le;have u1:=hp.sl.sl;have u2:=hp.sl.aM encC_len (by omega);have v1:=hq.sl.sl;have v2:=hq.sl.aM encC_len (by omega);rw[el]at v2;refine aX (cD _) (cG _ rfl) fn95 rfl ok95 (by simp) fun F hn s0 s1=>?_;rw[nt95]at hn;simp[s0,s1];refine aH (cmpH S ks.length p q) ks.length (cmpH_mk 0 (Sub.refl S) (by simp[s0]) (by simp[s1]) (by simp) (by omega) (by simp[hn]) rfl) ?_;clear s0 s1 hn;rintro k F' S'-⟨i,hS,t0,t1,t5,hi,hn,hk⟩;by_cases cQ:i<ks.length
 .obtain⟨a,hx⟩:∃t,ks[i]?=some t:=⟨_,List.getElem?_eq_getElem cQ⟩
  obtain⟨b,hy,hab⟩:=BD he hx;have l1:=cZ (cx:=C1) (e:=103) (hp.sl.toSub hS) encC_len (by omega) hx ag103 zy;have l2:=cZ (cx:=C1) (e:=103) (hq.sl.toSub hS) encC_len (by omega) hy ag103 zy;have jC:(i:Int)<ks.length:=by omega
  obtain⟨_,U,⟨q1,rfl⟩,w1⟩:=(ord147 ((hp.y6 a (List.mem_of_getElem? hx)).sub hS) ((hq.y6 b (List.mem_of_getElem? hy)).sub hS) hab).ex;have kh:=aW (i:=i) (by omega);have ok1:=aj (hp.y6 a (List.mem_of_getElem? hx)).sl;have ok2:=aj (hq.y6 b (List.mem_of_getElem? hy)).sl;simp[t0,t1,t5,u1,u2,v1,v2,cQ,jC];refine cO [.p,.p,.p,.r 0 0,.p,.p,.p,.r 0 0,.e [],.p] (n:=41) (by kernel_rfl) (by simp[hn]) ?_;simp only[encC]at l1 l2 w1;simp[t0,t1,t5,u1,u2,v1,v2,cQ,jC,l1,l2,aR,w1,kh,ok1,ok2];exact⟨ks.length-(i+1),by omega,cmpH_mk (i+1) (hS.trans q1) (by simp[t0]) (by simp[t1]) (by simp) (by omega) (by simp[hn]) rfl⟩
 .obtain rfl:i=ks.length:=by omega
  simp[t0,t1,t5,u1,u2,v1,v2,cQ];exact hS
theorem same48{p q:AV}{ks ls:List Con}(hp:PredAt S p ks)(hq:PredAt S q ls)(he:ks.map bare=ls.map bare):ai C1 48 [p,q] S fun r T=>Sub S T/\r=.bool true:=by
 obtain⟨_,U,⟨q1,rfl⟩,w1⟩:=(cmp95 hp hq he).ex;refine aX (cD _) (cG _ rfl) fn48 rfl ok48 (by simp) fun F hn s0 s1=>?_;simp[s0,s1,aR,w1];exact q1
def eqlH(S:AS)(n:Nat)(u v:AV)(k:Nat)(F':Fr)(S':AS):Prop:=
 ∃i:Nat,S'=S/\sl F' 0=u/\sl F' 1=v/\sl F' 5=.int .i64 i/\i<=n/\F'.n=26/\k=n-i
theorem eqlH_mk{n:Nat}{u v:AV}{k:Nat}{F':Fr}(i:Nat)(h1:T=S)(h4:sl F' 0=u)(h5:sl F' 1=v)(h6:sl F' 5=.int .i64 i)(h7:i<=n)(h8:F'.n=26)(h9:k=n-i):eqlH S n u v k F' T:=
 ⟨i,h1,h4,h5,h6,h7,h8,h9⟩
theorem equal47{u v:AV}{st:List (Int×Nat)}(hu:Sl S u 2 (st.flatMap encT))(hv:Sl S v 2 (st.flatMap encT))(h8:st.length<=8):ai C1 47 [u,v] S fun r T=>Sub S T/\r=.bool true:=by
 have u1:=hu.sl;have u2:=hu.aM encT_len (by omega);have v1:=hv.sl;have v2:=hv.aM encT_len (by omega);refine aX (cD _) (cG _ rfl) fn47 rfl ok47 (by simp) fun F hn s0 s1=>?_;rw[nt47]at hn;simp[s0,s1,u1,u2,v1,v2];refine aH (eqlH S st.length u v) st.length (eqlH_mk 0 rfl (by simp[s0]) (by simp[s1]) (by simp) (by omega) (by simp[hn]) rfl) ?_;clear s0 s1 hn;rintro k F' S'-⟨i,rfl,t0,t1,t5,hi,hn,hk⟩;by_cases cQ:i<st.length
 .obtain⟨t,hx⟩:∃t,st[i]?=some t:=⟨_,List.getElem?_eq_getElem cQ⟩
  have l1:=cZ (cx:=C1) (e:=52) hu encT_len (by omega) hx ag52 sz52;have l2:=cZ (cx:=C1) (e:=52) hv encT_len (by omega) hx ag52 sz52;have jC:(i:Int)<st.length:=by omega
  have kh:=aW (i:=i) (by omega);simp only[encT]at l1 l2;simp[t0,t1,t5,u1,u2,v1,v2,cQ,jC];refine mH (n:=26) (by kernel_rfl) (by simp[hn]) ?_;simp[t0,t1,t5,u1,u2,v1,v2,cQ,jC,l1,l2,kh,hu.ok,hv.ok,ne52];exact⟨st.length-(i+1),by omega,eqlH_mk (i+1) rfl (by simp[t0]) (by simp[t1]) (by simp) (by omega) (by simp[hn]) rfl⟩
 .obtain rfl:i=st.length:=by omega
  simp[t0,t1,t5,u1,u2,v1,v2,cQ];exact Sub.refl _
end
open Go.Proofs.YtdknlbnljfdhgaaGreatDoor.mod (Val encV encV_len Con encC encC_len ConOk PredAt mayP mayC mayV setB sameB zeroV mayPred encT encT_len bare encM nget nput mget_encM mput_encM nget_nput nput_mem nget_mem predFoot idxI idx174)
structure Ql{α:Type}(enc:α->List AV)(sz:Nat)(sF:AS->α->Prop)(S:AS)(w:AV)(L:List α):Prop where
 sl:Sl S w sz (L.flatMap enc)
 el:∀a,a∈L->sF S a
section
variable{S T:AS}
theorem lM.ok.sub{s:lM}(h:lM.ok S s)(hs:Sub S T):lM.ok T s:=⟨h.1.sub hs,h.2.1.toSub hs,h.2.2⟩
theorem jn.ok.sub{s:jn}(h:jn.ok S s)(hs:Sub S T):jn.ok T s:=⟨h.1.sub hs,h.2⟩
theorem Ql.subS{w:AV}{L:List lM}(h:Ql lM.c 3 lM.ok S w L)(hs:Sub S T):Ql lM.c 3 lM.ok T w L:=⟨h.sl.toSub hs,fun a ha=>(h.el a ha).sub hs⟩
theorem Ql.j8{w:AV}{L:List jn}(h:Ql jn.c 4 jn.ok S w L)(hs:Sub S T):Ql jn.c 4 jn.ok T w L:=⟨h.sl.toSub hs,fun a ha=>(h.el a ha).sub hs⟩
theorem gY.ql{α:Type}{enc:α->List AV}{sz e:Nat}{ft:α->Nat->Prop}{sF:AS->α->Prop}{lo:Nat}{w:AV}{L:List α}(h:gY enc sz e ft sF S lo w L):Ql enc sz sF S w L:=⟨h.gw.1,fun a ha=>(h.el a ha).1⟩
section
variable{B:Nat}{a b:AV}{f:Nat->Nat}{fz:Bool}
theorem ld_sw(h:S.h.get B=some (.row (lO a b f) 0 0 fz 40)):loadT C1 S 35 (.ptr B 0 0 130)=some a:=by
 simp only[gy,iW,ag35,kT,h,bt];rfl
theorem ld_aw(h:S.h.get B=some (.row (lO a b f) 0 0 fz 40)):loadT C1 S 36 (.ptr B 0 1 130)=some b:=by
 simp only[gy,iW,ag36,kT,h,bt];rfl
theorem ld_cur(h:S.h.get B=some (.row (lO a b f) 0 0 fz 40)):loadT C1 S 38 (.ptr B 0 2 130)=some (.agg (gR f)):=by
 simp only[gy,iW,ag38,sz38,qk,h,bt];rw[if_pos ⟨Nat.le_refl _,Nat.le_refl _,by omega⟩];rfl
end
theorem nt10:Tryz.f10.ntmps=128:=by kernel_rfl
def aliH(S:AS)(n t:Nat)(u v:AV)(k:Nat)(F':Fr)(S':AS):Prop:=
 ∃i:Nat,Sub S S'/\sl F' 2=u/\sl F' 3=v/\sl F' t=.int .i64 i/\i<=n/\F'.n=128/\k=n-i
theorem vT{n t:Nat}{u v:AV}{k:Nat}{F':Fr}(i:Nat)(h1:Sub S T)(h4:sl F' 2=u)(h5:sl F' 3=v)(h6:sl F' t=.int .i64 i)(h7:i<=n)(h8:F'.n=128)(h9:k=n-i):aliH S n t u v k F' T:=
 ⟨i,h1,h4,h5,h6,h7,h8,h9⟩
set_option maxRecDepth 20000 in
theorem alike10{sw sw' aw aw':AV}{L L':List lM}{A A':List jn}{f:Nat->Nat}(h1:Ql lM.c 3 lM.ok S sw L)(vL:Ql lM.c 3 lM.ok S sw' L')(h2:Ql jn.c 4 jn.ok S aw A)(rH:Ql jn.c 4 jn.ok S aw' A')
  (e1:L.map lM.pure=L'.map lM.pure) (e2:A.map jn.pure=A'.map jn.pure) (hl:L.length<=8) (ha:A.length<=4) :
  ai C1 10 [.agg (lO sw aw f),.agg (lO sw' aw' f)] S fun r T=>Sub S T/\r=.bool true:=by
 obtain⟨S1,bI⟩:∃S1:AS,S1=⟨(S.h.set S.next (.row (lO sw aw f) 0 0 false 40)).set (S.next+1) (.row (lO sw' aw' f) 0 0 false 40),S.next+2⟩:=⟨_,rfl⟩
 have h0:Sub S S1:=by rw[bI];exact mod.yz
 have g0:S1.h.get S.next=some (.row (lO sw aw f) 0 0 false 40):=by rw[bI];exact (ae _ _ (by omega)).trans (aa _ _ _)
 have g0':S1.h.get (S.next+1)=some (.row (lO sw' aw' f) 0 0 false 40):=by rw[bI];exact aa _ _ _
 have nS1:S1.next=S.next+2:=by rw[bI]
 have fN:=bI.symm;clear bI;have el:L'.length=L.length:=by have:=congrArg List.length e1;simpa using this.symm
 have ea:A'.length=A.length:=by have:=congrArg List.length e2;simpa using this.symm
 have u1:=h1.sl.sl;have u2:=h1.sl.aM hJ (by omega);have v1:=vL.sl.sl;have v2:=vL.sl.aM hJ (by omega);have x1:=h2.sl.sl;have x2:=h2.sl.aM oc (by omega);have y1:=rH.sl.sl;have y2:=rH.sl.aM oc (by omega);rw[el]at v2;rw[ea]at y2;have uo:=h1.sl.ok;have vo:=vL.sl.ok;have xo:=h2.sl.ok;have yo:=rH.sl.ok;have k1:=aj h1.sl;have k2:=aj vL.sl;have k3:=aj h2.sl;have k4:=aj rH.sl;have lds:∀T:AS,Sub S1 T->(loadT C1 T 35 (.ptr S.next 0 0 130)=some sw/\loadT C1 T 35 (.ptr (S.next+1) 0 0 130)=some sw')/\(loadT C1 T 36 (.ptr S.next 0 1 130)=some aw/\loadT C1 T 36 (.ptr (S.next+1) 0 1 130)=some aw'):=fun T hT=>by
  have a1:=(hT.h _ (by omega)).trans g0;have a2:=(hT.h _ (by omega)).trans g0';exact⟨⟨ld_sw a1,ld_sw a2⟩,ld_aw a1,ld_aw a2⟩
 obtain⟨⟨a1,a2⟩,a3,a4⟩:=lds S1 (Sub.refl _);have a5:=ld_cur g0;have a6:=ld_cur g0';refine aX (cD _) (cG _ rfl) fn10 rfl ok10 (by simp) fun F hn s0 s1=>?_;rw[nt10]at hn;simp[s0,s1,eX,fN,a1,a2,a3,a4,a5,a6,u1,u2,v1,v2,x1,x2,y1,y2,k1,k2,k3,k4,ne38];refine aH (aliH S1 L.length 5 (.ptr S.next 0 0 130) (.ptr (S.next+1) 0 0 130)) L.length (vT 0 (Sub.refl _) (by simp) (by simp) (by simp) (by omega) (by simp[hn]) rfl) ?_;clear s0 s1 hn a1 a2 a3 a4 a5 a6 fN;rintro k F' S'-⟨i,hS,t2,t3,t5,hi,hn,hk⟩;obtain⟨⟨a1,a2⟩,a3,a4⟩:=lds S' hS;by_cases cQ:i<L.length
 .obtain⟨a,hx⟩:∃t,L[i]?=some t:=⟨_,List.getElem?_eq_getElem cQ⟩
  obtain⟨b,hy,hab⟩:=BD e1 hx;have am:=h1.el a (List.mem_of_getElem? hx);have bm:=vL.el b (List.mem_of_getElem? hy);have eid:b.id=a.id:=(congrArg zt.id hab).symm;have ecs:a.ks.map bare=b.ks.map bare:=congrArg zt.cs hab;have est:b.st=a.st:=(congrArg zt.st hab).symm;have q1:=h1.sl.toSub (h0.trans hS);have q2:=vL.sl.toSub (h0.trans hS);have l1:=dF (cx:=C1) (e:=3) (o:=0) q1 hJ (by omega) hx (y:=.int .i64 a.id) rfl ag3;have l2:=dF (cx:=C1) (e:=3) (o:=0) q2 hJ (by omega) hy (y:=.int .i64 b.id) rfl ag3;have l3:=dF (cx:=C1) (e:=48) (o:=2) q1 hJ (by omega) hx (y:=a.sv) rfl ag48;have l4:=dF (cx:=C1) (e:=48) (o:=2) q2 hJ (by omega) hy (y:=b.sv) rfl ag48;rw[eid]at l2;have p1:=lY (k:=i) u1 (by omega);have p2:=lY (k:=i) v1 (by omega);have f1:fV (j5 sw i) (some 0)=some (oa (j5 sw i) 0):=c8 p1;have f2:fV (j5 sw' i) (some 0)=some (oa (j5 sw' i) 0):=c8 p2;have f3:fV (j5 sw i) (some 2)=some (oa (j5 sw i) 2):=c8 p1;have f4:fV (j5 sw' i) (some 2)=some (oa (j5 sw' i) 2):=c8 p2;have f5:fV (j5 sw i) (some 1)=some (oa (j5 sw i) 1):=c8 p1;have f6:fV (j5 sw' i) (some 1)=some (oa (j5 sw' i) 1):=c8 p2;have jC:(i:Int)<L.length:=by omega
  obtain⟨_,U,⟨U1,rfl⟩,w1⟩:=(equal47 (am.2.1.toSub (h0.trans hS)) (by have:=bm.2.1.toSub (h0.trans hS);rwa [est]at this) am.2.2.2).ex;obtain⟨⟨b1,b2⟩,b3,b4⟩:=lds U (hS.trans U1);have q3:=h1.sl.toSub ((h0.trans hS).trans U1);have q4:=vL.sl.toSub ((h0.trans hS).trans U1);have l5:=dF (cx:=C1) (e:=29) (o:=1) q3 hJ (by omega) hx (y:=a.p) rfl ag29;have l6:=dF (cx:=C1) (e:=29) (o:=1) q4 hJ (by omega) hy (y:=b.p) rfl ag29;obtain⟨_,V,⟨V1,rfl⟩,w2⟩:=(same48 (am.1.sub ((h0.trans hS).trans U1)) (bm.1.sub ((h0.trans hS).trans U1)) ecs).ex;have kh:=aW (i:=i) (by omega);have c1:=aj am.1.sl;have c2:=aj bm.1.sl;have c3:=aj am.2.1;have c4:=aj bm.2.1;simp[t2,t3,t5,a1,a2,u1,u2,v1,v2,cQ,jC,uo,vo,k1,k2];refine cO [.p,.r 0 0,.p,.p,.p,.r 0 0,.p,.r 0 0,.p,.p,.p,.r 0 0,.p,.p,.p,.r 0 0,.p,.p,.p,.r 0 0,.p,.r 0 0,.p,.p,.p,.r 0 0,.e [],.p,.p,.p,.p,.r 0 0,.p,.p,.p,.r 0 0,.p,.r 0 0,.p,.p,.p,.r 0 0,.e [],.p,.p] (n:=128) (by kernel_rfl) (by simp[hn]) ?_;simp[t2,t3,t5,a1,a2,b1,b2,u1,u2,v1,v2,cQ,jC,uo,vo,k1,k2,f1,f2,f3,f4,f5,f6,l1,l2,l3,l4,l5,l6,aR,w1,w2,kh,c1,c2,c3,c4,wM];exact⟨L.length-(i+1),by omega,vT (i+1) ((hS.trans U1).trans V1) (by simp[t2]) (by simp[t3]) (by simp) (by omega) (by simp[hn]) rfl⟩
 obtain rfl:i=L.length:=by omega
 simp[t2,t3,t5,a1,a2,a3,a4,u1,u2,v1,v2,cQ,uo,vo,k1,k2];refine aH (aliH S1 A.length 6 (.ptr S.next 0 0 130) (.ptr (S.next+1) 0 0 130)) A.length (vT 0 hS (by simp[t2]) (by simp[t3]) (by simp) (by omega) (by simp[hn]) rfl) ?_;clear t2 t3 t5 hn a1 a2 a3 a4 hS;rintro k F' S'-⟨i,hS,t2,t3,t6,hi,hn,hk⟩;obtain⟨⟨a1,a2⟩,a3,a4⟩:=lds S' hS;by_cases cQ:i<A.length
 .obtain⟨a,hx⟩:∃t,A[i]?=some t:=⟨_,List.getElem?_eq_getElem cQ⟩
  obtain⟨b,hy,hab⟩:=BD e2 hx;have am:=h2.el a (List.mem_of_getElem? hx);have bm:=rH.el b (List.mem_of_getElem? hy);have ek:b.k=a.k:=(congrArg PAd.k hab).symm;have ev:b.gE=a.gE:=(congrArg PAd.gE hab).symm;have et:b.there=a.there:=(congrArg PAd.there hab).symm;have ecs:a.ks.map bare=b.ks.map bare:=congrArg PAd.cs hab;have w0:Sub S' ⟨S'.h,S'.next+2⟩:=⟨fun _ _=>rfl,Nat.le_add_right _ _⟩
  obtain⟨_,b3,b4⟩:=lds _ (hS.trans w0);have q1:=h2.sl.toSub ((h0.trans hS).trans w0);have q2:=rH.sl.toSub ((h0.trans hS).trans w0);have l1:=cZ (cx:=C1) (e:=98) q1 oc (by omega) hx ag98 sz98;have l2:=cZ (cx:=C1) (e:=98) q2 oc (by omega) hy ag98 sz98;simp only[jn.c,ek,ev,et]at l1 l2;have jC:(i:Int)<A.length:=by omega
  have kh:=aW (i:=i) (by omega);have c1:=aj am.1.sl;have c2:=aj bm.1.sl;have c3:=am.1.sl.cells;have c4:=bm.1.sl.cells;simp[t2,t3,t6,a1,a2,a3,a4,x1,x2,y1,y2,cQ,jC,xo,yo,k3,k4];refine cO [.p,.r 0 0,.p,.p,.r 0 0,.p,.r 0 1,.p,.p,.r 0 1,.f,.f,.e [10,11],.e [10,11]] (n:=128) (by kernel_rfl) (by simp[hn]) ?_;obtain⟨zc,yq⟩:∃zc,zc=[AV.int .i64 0,.int .u64 0,.bool false,.aq]:=⟨_,rfl⟩
  obtain⟨ac,hac⟩:∃ac,ac=[AV.int .i64 a.k,.int .u64 a.gE,.bool a.there,a.p]:=⟨_,rfl⟩
  obtain⟨bc,hbc⟩:∃bc,bc=[AV.int .i64 a.k,.int .u64 a.gE,.bool a.there,b.p]:=⟨_,rfl⟩
  have w1:Sub S' ⟨((S'.h.set (S'.next+1) (.row zc 0 0 false 98)).set S'.next (.row zc 0 0 false 98)).set S'.next (.row ac 0 0 false 98),S'.next+2⟩:=
   ⟨fun id hi=>(ae _ _ (by omega)).trans ((ae _ _ (by omega)).trans (ae _ _ (by omega))),Nat.le_add_right _ _⟩
  obtain⟨_,b5,b6⟩:=lds _ (hS.trans w1);have l3:=cZ (cx:=C1) (e:=98) (rH.sl.toSub ((h0.trans hS).trans w1)) oc (by omega) hy ag98 sz98;simp only[jn.c,ek,ev,et]at l3;obtain⟨S2,c7⟩:∃S2:AS,S2=⟨(((S'.h.set (S'.next+1) (.row zc 0 0 false 98)).set S'.next (.row zc 0 0 false 98)).set S'.next (.row ac 0 0 false 98)).set (S'.next+1) (.row bc 0 0 false 98),S'.next+2⟩:=⟨_,rfl⟩
  have w2:Sub S' S2:=by rw[c7];exact⟨fun id hi=>(ae _ _ (by omega)).trans (w1.h id hi),Nat.le_add_right _ _⟩
  have g2:S2.h.get S'.next=some (.row ac 0 0 false 98):=by rw[c7];exact (ae _ _ (by omega)).trans (aa _ _ _)
  have g3:S2.h.get (S'.next+1)=some (.row bc 0 0 false 98):=by rw[c7];exact aa _ _ _
  have iJ:=c7.symm;clear c7;rw[hac,yq]at b5 b6 l3;rw[hac,yq,hbc]at iJ;rw[hac]at g2;rw[hbc]at g3;have c5:jr b.p=true:=by rcases bm.1.sl.cases with e|⟨_,_,_,_,_,_,e⟩<;>rw[e]<;>rfl
  have nb:∀(t:Bool)(c:Bool),aS C1 .neq 4 c (.bool t) (.bool t)=some (.bool false):=fun t c=>by cases t<;>kernel_rfl
  obtain⟨_,V,⟨V1,rfl⟩,e48⟩:=(same48 (am.1.sub ((h0.trans hS).trans w2)) (bm.1.sub ((h0.trans hS).trans w2)) ecs).ex;simp[t2,t3,t6,a1,a2,a3,a4,b3,b4,x1,x2,y1,y2,cQ,jC,xo,yo,k3,k4,l1,l2,aR,kh,c1,c2,c3,c4,b5,b6,l3,iJ,g2,g3,nb,e48];refine⟨c5,?_⟩;exact⟨A.length-(i+1),by omega,vT (i+1) ((hS.trans w2).trans V1) (by simp[t2]) (by simp[t3]) (by simp) (by omega) (by simp[hn]) rfl⟩
 obtain rfl:i=A.length:=by omega
 simp[t2,t3,t6,a1,a2,a3,a4,x1,x2,y1,y2,cQ,xo,yo,k3,k4];exact h0.trans hS
end
open Go.Proofs.YtdknlbnljfdhgaaGreatDoor.mod (Val encV encV_len Con encC encC_len ConOk PredAt mayP mayC mayV setB sameB zeroV mayPred encT encT_len bare encM nget nput mget_encM mput_encM nget_nput nput_mem nget_mem predFoot idxI idx174)
section
variable{S T:AS}
end
open Go.Proofs.YtdknlbnljfdhgaaGreatDoor.mod (Val encV encV_len Con encC encC_len ConOk PredAt mayP mayC mayV setB sameB zeroV mayPred encT encT_len bare encM nget nput mget_encM mput_encM nget_nput nput_mem nget_mem predFoot idxI idx174)
section
variable{P P':PB}{o:CV}
end
open Go.Proofs.YtdknlbnljfdhgaaGreatDoor.mod (Val encV encV_len Con encC encC_len ConOk PredAt mayP mayC mayV setB sameB zeroV mayPred encT encT_len bare encM nget nput mget_encM mput_encM nget_nput nput_mem nget_mem predFoot idxI idx174)
structure Sto(d:PD)(P:PB)(rs:List Rec):Prop where
 gL:ow d (az (dj rs))
 wr:∀r,r∈rs->kG r
 play:js gO rs P
 BY:eV P
def yg(P:PB):Prop:=∀i x,i<8->P.ar i=some x->∀t,t∈x.cur->t.1<16
theorem eV.keys{P:PB}(h:eV P):yg P:=fun i x hi hx t ht=>((h.ar i x hi hx).cur t ht).2.1
theorem pub_16{P Q:PB}{r:Rec}(h:vq P r Q)(hk:yg Q)(hs:r.sort=5):r.pub<16:=by
 cases h with
 |aI e=>omega
 |rQ e=>omega
 |ends e=>omega
 |ad e=>omega
 | @ack e n bY mw x hx hn hp hv=>
  exact hk n _ mw (if_pos rfl) (r.pub,r.n) (nget_mem (by show nget (nput x.cur r.pub r.n) r.pub=_;rw[nget_nput,if_pos rfl]))
theorem op_keys{X:cV}{o:CV}{P':PB}(h:EOp X o P')(hg:yg X.pure):yg P'/\P'.aI=X.pure.aI:=by
 have key:∀(k:Nat)(q:Option mu),(∀x,q=some x->∀t,t∈x.cur->t.1<16)->yg (X.pure.bq k q):=fun k q hq i x hi hx=>by
  have hx:(if i=k then q else X.pure.ar i)=some x:=hx;split at hx
  .exact hq x hx
  .exact hg i x hi hx
 rcases h with⟨hw,k,x,e1,e2,e3,e4,e5,rfl⟩|⟨hw,k,e1,e2,e3,rfl⟩|⟨hw,k,x,e1,e2,e3,rfl⟩|⟨hw,k,e1,e2,rfl⟩|⟨hw,k,e1,e2,rfl⟩
 .refine⟨key _ _ fun y hy t ht=>?_,rfl⟩;cases hy;rcases nput_mem ht with q|q
  .rw[q];have:=(Eb o.pub).2;show ((p15 o.pub:Nat):Int)<16;omega
  .have ec:X.pure.ar k=some ⟨x.ks.map bare,x.st,x.cur⟩:=by show (X.ar k).map da.pure=_;rw[e3];rfl
   exact hg k _ e2 ec t q
 .refine⟨key _ _ fun y hy t ht=>?_,rfl⟩;cases hy;cases ht
 .exact⟨key _ _ fun y hy=>by (cases hy),rfl⟩
 .exact⟨hg,rfl⟩
 .exact⟨hg,rfl⟩
theorem file_app(rs:List Rec)(r:Rec):dj (rs++[r])=dj rs++iQ (dS r):=by
 unfold dj;rw[List.flatMap_append,List.flatMap_cons,List.flatMap_nil,List.append_nil];rfl
theorem fE(a b:List Nat):az (a++b)=az a++az b:=List.map_append
theorem Sto.next{d d':PD}{P P':PB}{rs:List Rec}{e:Int}(h:Sto d P rs)(hd:DoneP d P e d' P')(hk:e=0->yg P')(hl:rs.length<=100):∃rs',Sto d' P' rs'/\rs'.length<=rs.length+1:=by
 rcases hd with⟨_,rfl,rfl⟩|⟨r,Q,hw,hp,hc,h1,h2⟩
 .exact⟨rs,h,by omega⟩
 .have hl2:=jD rs;have hl3:(iQ (dS r)).length<=2056:=sT _;obtain⟨c1,c2⟩:=h.gL.chg (xs:=az (iQ (dS r))) (by rw[aD,aD];omega);rw[hc]at c1 c2;have c1:e=0:=c1;have hq:=h2 c1;subst hq;refine⟨rs++[r],⟨by rw[file_app,fE];exact c2,fun x hx=>?_,h.play.append (.cons hp (.nil _)),h.BY.do hp hw (pub_16 hp (hk c1))⟩,by simp⟩;rcases List.mem_append.1 hx with hx|hx
  .exact h.wr x hx
  .rw[List.mem_singleton]at hx;rw[hx];exact hw
theorem allR_pub{P:PB}(hg:eV P):∀r,r∈gD P->r.sort=5->r.pub<16:=fun r hr hs=>by
 unfold gD at hr;rcases List.mem_cons.1 hr with rfl|hr
 .exact absurd hs (by show ¬(1:Int)=5;decide)
 .rcases List.mem_append.1 hr with hr|hr
  .obtain⟨i,hi,hr⟩:=List.mem_flatMap.1 hr;have hi:=List.mem_range.1 hi;unfold lq at hr;cases e:P.ar i with
   |none=>rw[e]at hr;cases hr
   |some x=>
    rw[e]at hr;have g:=hg.ar i x hi e;rcases List.mem_cons.1 hr with rfl|hr
    .exact absurd hs (by show ¬(2:Int)=5;decide)
    .obtain⟨k,hk,rfl⟩:=List.mem_map.1 hr;obtain⟨t,q1,q2⟩:=List.mem_map.1 ((kU fun t ht=>(g.cur t ht).1).1 hk);have:=(g.cur t q1).2.1;show (k:Int)<16;omega
  .obtain⟨k,hk,hr⟩:=List.mem_flatMap.1 hr;unfold jH at hr;split at hr
   .rw[List.mem_singleton]at hr;subst hr;exact absurd hs (by show ¬(4:Int)=5;decide)
   .cases hr
theorem js.BY{P Q:PB}{rs:List Rec}(h:js P rs Q)(hg:eV P)(hw:∀r,r∈rs->kG r)(hp:∀r,r∈rs->r.sort=5->r.pub<16):eV Q:=by
 induction h with
 |nil=>exact hg
 |cons h1 _ ih=>exact ih (hg.do h1 (hw _ (List.mem_cons_self ..)) (hp _ (List.mem_cons_self ..))) (fun r hr=>hw r (List.mem_cons_of_mem _ hr)) fun r hr=>hp r (List.mem_cons_of_mem _ hr)
theorem ow.reads{d:PD}{rs:List Rec}(h:ow d (az (dj rs))):Reads d rs:=by
 obtain⟨h1,_,_,f,h4⟩:=h;refine⟨h1,.inr ⟨⟨cu,az (dj rs),f⟩,?_,rfl⟩⟩;unfold PD.file;rw[h4];simp
theorem ow.noN{D:Dk}{bs:List AV}(h:ow D.pd bs):aT [D.eY,D.ay aZ]≠0:=by
 obtain⟨h1,_,_,f,h4⟩:=h;have h1:D.off=false:=h1;have hf:D.file aZ=none:=by
  have:D.pd.file aZ=none:=by
   unfold PD.file;rw[h4];simp[nKN]
  rw[sC]at this;exact Option.map_eq_none_iff.1 this
 have:aT [D.eY,D.ay aZ]=6:=by
  unfold Dk.eY Dk.ay;rw[h1,mayN,hf];rfl
 rw[this];decide
theorem FW{P:PB}(hg:eV P):(gD P).length<=141:=by
 rw[vS hg];have h1:∀(f:Nat->Nat)(c n:Nat),(∀i,f i<=c)->((List.range n).map f).sum<=n*c:=fun f c n hf=>by
  induction n with
  |zero=>simp
  |succ n ih=>
   rw[List.range_succ,List.map_append,List.sum_append,Nat.succ_mul];have:=hf n;simp only[List.map_cons,List.map_nil,List.sum_cons,List.sum_nil];omega
 have a1:=h1 (fun i=>cntS (P.ar i)) 17 8 fun i=>by
  unfold cntS;split
  .omega
  .rename_i x _;have:=List.length_filter_le (fun k:Nat=>(nget x.cur (k:Nat)).isSome) (List.range 16);rw[List.length_range]at this;omega
 have a2:=h1 (fun k=>Fi (P.bR k)) 1 4 fun k=>by unfold Fi;split<;>omega
 omega
theorem ow.ok{d:PD}{bs:List AV}(h:ow d bs)(hl:bs.length<=1048576):d.ok:=by
 obtain⟨h1,h2,h3,f,h4⟩:=h;refine⟨by rw[h4];exact Nat.le_of_ble_eq_true rfl,?_,by rw[h3];decide,by omega,by rw[h4];simp⟩;unfold PD.used;rw[h4,h3];simpa using hl
theorem Sto.open{d:PD}{P:PB}{bs:List AV}(h:BDisk0 d bs)(hb:bs.length<=300000)(hg:eV P)(hl:P.aI<1099511627776):(dH d (qI P)).1=0/\∃Q,Sto (dH d (qI P)).2 Q (gD (P.de (P.aI+1)))/\kF Q P/\Q.aI=P.aI+1:=by
 have hg1:=hg.aI (P.aI+1);have hw:=allR_wr hg1 (by show P.aI+1<=_;omega);have hln:=FW hg1;have ub:=jD (gD (P.de (P.aI+1)));obtain⟨w1,w2⟩:=h.write (xs:=qI P) (by unfold qI;rw[aD];omega);obtain⟨Q,q1,q2,q3⟩:=all_play hg1 (num_mk (by show 1<=P.aI+1/\P.aI+1<=_;omega));exact⟨w1,Q,⟨w2,hw,q1,q1.BY tA hw (allR_pub hg1)⟩,⟨q2.ar,q2.bR⟩,q3⟩
theorem xF{α β:Type}{f g:α->Option β}:∀{l:List α},(∀a,a∈l->f a=g a)->l.filterMap f=l.filterMap g
 |[],_=>rfl
 |a::l,h=>by
  rw[List.filterMap_cons,List.filterMap_cons,h a (List.mem_cons_self ..),xF fun b hb=>h b (List.mem_cons_of_mem _ hb)]
theorem same_subs{P Q:PB}(h:kF P Q):iH P 8=iH Q 8/\tp P 4=tp Q 4/\gX P 128=gX Q 128:=by
 refine⟨?_,?_,?_⟩
 .unfold iH;refine xF fun i hi=>?_;unfold sbO;rcases h.ar i (List.mem_range.1 hi)with⟨h1,h2⟩|⟨x,y,h1,h2,h3,h4,_⟩
  .rw[h1,h2]
  .rw[h1,h2];simp[h3,h4]
 .unfold tp;refine xF fun k hk=>?_;unfold adO;rw[h.bR k (List.mem_range.1 hk)]
 .funext m;unfold gX;split
  .rcases h.ar (m / 16) (by omega)with⟨h1,h2⟩|⟨x,y,h1,h2,h3,h4,h5⟩
   .rw[h1,h2]
   .rw[h1,h2];show lW x _=lW y _;unfold lW;rw[h5,h4]
  .rfl
def mY(st:List (Int×Nat))(q:Int):Nat:=st.foldl (fun a t=>if t.1=q then t.2-1 else a) 0
theorem fold_no{st:List (Int×Nat)}{q:Int}:∀a,(∀t,t∈st->t.1≠q)->st.foldl (fun a t=>if t.1=q then t.2-1 else a) a=a:=by
 induction st with
 |nil=>exact fun _ _=>rfl
 |cons t st ih=>
  intro a h;rw[List.foldl_cons,if_neg (h t (List.mem_cons_self ..))];exact ih a fun u hu=>h u (List.mem_cons_of_mem _ hu)
theorem fold_start{st:List (Int×Nat)}{q:Int}(hp:st.Pairwise fun t u=>t.1<u.1):mY st q=tF st q:=by
 unfold mY;have:∀a,st.foldl (fun a t=>if t.1=q then t.2-1 else a) a=match st.find? (fun t=>decide (t.1=q))with|some t=>t.2-1|none=>a:=by
  induction st with
  |nil=>exact fun _=>rfl
  |cons t st ih=>
   intro a;rw[List.pairwise_cons]at hp;rw[List.foldl_cons,List.find?_cons];by_cases h:t.1=q
   .rw[if_pos h,decide_eq_true h,fold_no _ fun u hu=>by have:=hp.1 u hu;omega]
   .rw[if_neg h,decide_eq_false h,ih hp.2 a]
 rw[this 0];rfl
theorem Bb{st:List (Int×Nat)}(h:eh st=true):st.Pairwise fun t u=>t.1<u.1:=by
 have h1:∀i,(hi:i+1<st.length)->(st[i]'(by omega)).1<st[i+1].1:=fun i hi=>by
  unfold eh at h;rw[Bool.and_eq_true]at h;have h1:=List.all_eq_true.1 h.1 (i+1) (List.mem_range.2 hi);unfold Ed okP at h1;rw[List.getElem?_eq_getElem hi]at h1;simp only[Bool.and_eq_true]at h1;have h2:=h1.2;rw[List.getElem?_eq_getElem (show i<st.length by omega)]at h2;simpa using h2
 rw[List.pairwise_iff_getElem];intro i j hi hj pD
 induction j with
 |zero=>omega
 |succ j ih=>
  by_cases hj2:i=j
  .subst hj2;exact h1 i hj
  .have:=ih (by omega) (by omega);have:=h1 j hj;omega
def mg(s:List (Int×Nat))(f:Nat->Nat)(i n:Nat):Nat:=((List.range n).filter fun q=>decide (f (i*16+q)≠mY s (q:Nat))).length
theorem offL_succ(s:List (Int×Nat))(f:Nat->Nat)(i n:Nat):mg s f i (n+1)=mg s f i n+if f (i*16+n)≠mY s (n:Nat) then 1 else 0:=by
 unfold mg;rw[List.range_succ,List.filter_append,List.length_append];by_cases h:f (i*16+n)≠mY s (n:Nat)<;>simp[h]
def xP(L:List zt)(f:Nat->Nat)(i k:Nat):Nat:=match L[k]? with|some s=>if s.id=i then mg s.st f i 16 else 0|none=>0
def rz(L:List zt)(f:Nat->Nat)(i k:Nat):Nat:=((List.range k).map (xP L f i)).sum
def ew(L:List zt)(f:Nat->Nat)(i:Nat):Nat:=((List.range i).map fun i=>rz L f i L.length).sum
theorem zD(L:List zt)(f:Nat->Nat)(i k:Nat):rz L f i (k+1)=rz L f i k+xP L f i k:=by
 unfold rz;rw[List.range_succ,List.map_append,List.sum_append];simp
theorem AE(L:List zt)(f:Nat->Nat)(i:Nat):ew L f (i+1)=ew L f i+rz L f i L.length:=by
 unfold ew;rw[List.range_succ,List.map_append,List.sum_append];simp
theorem row_list(L:List zt)(f:Nat->Nat)(i:Nat):rz L f i L.length=(L.map fun s=>if s.id=(i:Int) then mg s.st f i 16 else 0).sum:=by
 unfold rz;congr 1;refine List.ext_getElem (by simp) fun k h1 h2=>?_;simp only[List.getElem_map,List.getElem_range];unfold xP;rw[List.getElem?_eq_getElem (by simpa using h2)]
theorem DI{P:PB}(f:Nat->Nat)(i:Nat):∀n,((iH P n).map fun s=>if s.id=(i:Int) then mg s.st f i 16 else 0).sum=if i<n then (match P.ar i with|some x=>mg x.st f i 16|none=>0) else 0
 |0=>by simp[iH]
 |n+1=>by
  rw[rq,List.map_append,List.sum_append,DI f i n];unfold sbO;by_cases h:i=n
  .subst h;rw[if_neg (by omega),if_pos (by omega)];cases P.ar i<;>simp
  .have:¬(n:Int)=(i:Int):=fun e=>h (by omega);by_cases h2:i<n
   .rw[if_pos h2,if_pos (by omega)];cases P.ar n<;>simp[this]
   .rw[if_neg h2,if_neg (by omega)];cases P.ar n<;>simp[this]
theorem Di(P:PB):∀n,(iH P n).length=((List.range n).map fun i=>if (P.ar i).isSome then 1 else 0).sum
 |0=>rfl
 |n+1=>by
  rw[rq,List.length_append,Di P n,List.range_succ,List.map_append,List.sum_append];unfold sbO;cases h:P.ar n<;>simp[h]
theorem ads_len(P:PB):∀n,(tp P n).length=((List.range n).map fun k=>Fi (P.bR k)).sum
 |0=>rfl
 |n+1=>by
  rw[AG,List.length_append,ads_len P n,List.range_succ,List.map_append,List.sum_append];unfold adO Fi;split
  .rename_i h;split at h
   .rename_i h2;simp[h2]
   .cases h
  .rename_i h;split at h
   .cases h
   .rename_i h2;simp[h2]
theorem sum_add(f g:Nat->Nat)(n:Nat):((List.range n).map f).sum+((List.range n).map g).sum=((List.range n).map fun i=>f i+g i).sum:=by
 induction n with
 |zero=>rfl
 |succ n ih=>
  simp only[List.range_succ,List.map_append,List.sum_append,List.map_cons,List.map_nil,List.sum_cons,List.sum_nil];omega
theorem many_eq{P:PB}(hg:eV P):1+(iH P 8).length+(tp P 4).length+ew (iH P 8) (gX P 128) 8=(gD P).length:=by
 rw[vS hg,Di,ads_len];unfold ew;have e:((List.range 8).map fun i=>rz (iH P 8) (gX P 128) i (iH P 8).length)=(List.range 8).map fun i=>match P.ar i with|some x=>mg x.st (gX P 128) i 16|none=>0:=by
  refine List.map_congr_left fun i hi=>?_;have hi:=List.mem_range.1 hi;rw[row_list,DI,if_pos hi]
 have e2:=sum_add (fun i=>if (P.ar i).isSome then 1 else 0) (fun i=>match P.ar i with|some x=>mg x.st (gX P 128) i 16|none=>0) 8;rw[e];have e3:((List.range 8).map fun i=>cntS (P.ar i))=(List.range 8).map fun i=>(if (P.ar i).isSome then 1 else 0)+(match P.ar i with|some x=>mg x.st (gX P 128) i 16|none=>0):=by
  refine List.map_congr_left fun i hi=>?_;have hi:=List.mem_range.1 hi;cases ex:P.ar i with
  |none=>rfl
  |some x=>
   have g:=hg.ar i x hi ex;show 1+_=1+mg x.st (gX P 128) i 16;congr 1;unfold mg;congr 1;refine List.filter_congr fun q hq=>?_;have hq:=List.mem_range.1 hq;have ef:gX P 128 (i*16+q)=lW x (q:Nat):=by
    unfold gX;rw[if_pos (by omega),show (i*16+q) / 16=i by omega,show (i*16+q)%16=q by omega,ex];rfl
   rw[ef,fold_start (Bb g.st)];unfold lW;cases en:nget x.cur (q:Nat)with
   |none=>simp
   |some n=>
    have:=(g.cur _ (nget_mem en)).2.2.2;simp only[]at this;simp;omega
 rw[e3];omega
open Go.Proofs.YtdknlbnljfdhgaaGreatDoor.mod (Val encV encV_len Con encC encC_len ConOk PredAt mayP mayC mayV setB sameB zeroV mayPred encT encT_len bare encM nget nput mget_encM mput_encM nget_nput nput_mem nget_mem predFoot idxI idx174)
section
variable{S T:AS}{X:cV}
theorem life14(h:bN S X):∀Q:AV->AS->Prop,ai C1 14 [.ptr X.b 0 0 27] S Q=Q (.int .u64 X.aI) S:=fun Q=>by
 have oF:=fun Q=>mh h (Q:=Q);have dc:=h.row;unfold cV.c at dc;refine ai.eq (aK (cD _) (cG _ rfl) fn14 rfl ok14 (by simp) fun F hn s0=>?_);simp[s0,aR,oF,dc]
theorem recs15(h:bN S X):∀Q:AV->AS->Prop,ai C1 15 [.ptr X.b 0 0 27] S Q=Q (.int .i64 X.db) S:=fun Q=>by
 have oF:=fun Q=>mh h (Q:=Q);have dc:=h.row;unfold cV.c at dc;refine ai.eq (aK (cD _) (cG _ rfl) fn15 rfl ok15 (by simp) fun F hn s0=>?_);simp[s0,aR,oF,dc]
theorem gY.far{α:Type}{enc:α->List AV}{sz e:Nat}{ft:α->Nat->Prop}{sF:AS->α->Prop}{lo:Nat}{w:AV}{L:List α}(yC:∀S T a,sF S a->(∀id,ft a id->T.h.get id=S.h.get id)->S.next<=T.next->sF T a)
  (h:gY enc sz e ft sF S lo w L) (hs:∀id,lo<=id->id<S.next->T.h.get id=S.h.get id) (hn:S.next<=T.next):Ql enc sz sF T w L:=
 ⟨h.gw.1.agree (fun id q=>hs id (by have:=h.new;unfold iS at this;omega) (by have:=h.gw.1.old;omega)) hn,fun a ha=>yC S T a (h.el a ha).1 (fun id q=>hs id ((h.el a ha).2 id q).1 ((h.el a ha).2 id q).2.1) hn⟩
end
open Go.Proofs.YtdknlbnljfdhgaaGreatDoor.mod (Val encV encV_len Con encC encC_len ConOk PredAt mayP mayC mayV setB sameB zeroV mayPred encT encT_len bare encM nget nput mget_encM mput_encM nget_nput nput_mem nget_mem predFoot idxI idx174)
structure OpsAt(S:AS)(w:AV)(ops:List CV):Prop where
 sl:Sl S w 8 (ops.flatMap CV.c)
 el:∀o,o∈ops->OpAt S o
section
variable{S T:AS}
theorem zH_len:zH.length=130:=eX _ _ _
theorem st_held{B:Nat}{cs cs':List AV}(h:S.h.get B=some (.row cs 0 0 false 40))(hl:cs.length=130)(sO:cs'.length=130):AM S (.ptr B 0 0 130) cs'=some ⟨S.h.set B (.row cs' 0 0 false 40),S.next⟩:=by
 simp only[gh,mA,h,gk];rw[if_pos ⟨trivial,by omega,trivial⟩];have:cT 0 cs cs'=cs':=by
  show nr cs _=_;unfold nr;rw[sO,ca,List.drop_of_length_le (by omega)];exact List.append_nil _
 rw[this]
theorem ld_one{B:Nat}{a b:AV}{f:Nat->Nat}{fz:Bool}(h:S.h.get B=some (.row (lO a b f) 0 0 fz 40)){m:Nat}(hm:m<128):loadT C1 S 27 (.ptr B 0 (2+m) 130)=some (.int .u64 (f m:Nat)):=by
 simp only[gy,iW,ag27,kT,h,bt];rw[if_pos ⟨Nat.le_refl _,Nat.le_refl _,by omega⟩];have:(lO a b f).drop (2+m)=(gR f).drop m:=by rw[Nat.add_comm];rfl
 rw[this];have hc:(gR f).drop m=.int .u64 (f m:Nat)::(gR f).drop (m+1):=by
  have hl:m<(gR f).length:=by rw[curL_len];exact hm
  rw[List.drop_eq_getElem_cons hl];have:=cur_get (f:=f) hm;rw[List.getElem?_eq_getElem hl]at this;rw[Option.some.inj this]
 rw[hc];rfl
theorem ld_part{B:Nat}{a b:AV}{f:Nat->Nat}(h:S.h.get B=some (.row (lO a b f) 0 0 false 40)):loadT C1 S 40 (.ptr B 0 0 130)=some (.agg (lO a b f)):=ld_held h (eX _ _ _)
end
end Go.Proofs.YtdknlbnljfdhgaaGreatDoor.bk
