/-
  Two books on two disks: the walk.
-/
import Derived.Test.YtdknlbnljfdhgaaGreatDoorPartH
open Nat renaming le_refl->zza
set_option linter.unusedVariables false
set_option linter.unusedSimpArgs false
set_option maxRecDepth 20000
namespace Go.Proofs.YtdknlbnljfdhgaaGreatDoor.bk
open Go Go.Am Go.Proofs.YtdknlbnljfdhgaaGreatDoor.dk
open Go.Proofs.YtdknlbnljfdhgaaGreatDoor.mod (qe cZ dC dH dj c8 gq aB dE nG kF zj gG zeroV jP eJ cd bare rC dg gl kE mh ej lg gM aW tL wx)
theorem fnL5:C1.fns.get 5=some Tryz.f5:=by kernel_rfl
theorem okL5:okF C1 Tryz.f5=true:=by kernel_rfl
theorem ntL5:Tryz.f5.ntmps=191:=by kernel_rfl
@[simp] theorem jlZ:fieldAt C1 34 6=some 6/\fieldAt C1 34 7=some 7:=by and_intros<;>kernel_rfl
structure Re(w0:AV)(b dp yb l i:Nat)(F':Fr):Prop where
 t0:sl F' 0=w0
 t3:sl F' 3=.ptr b 0 0 27
 t4:sl F' 4=.ptr dp 0 0 4
 t5:sl F' 5=.ptr yb 0 0 27
 t7:sl F' 7=.int .u64 l
 t8:sl F' 8=.int .i64 i
 n:F'.n=191
structure LsM(S:AS)(i l b dp yb:Nat)(S':AS):Prop where
 ex:∃D P bs rs Y,nE S i l D P bs rs Y S'/\bz P Y.pure/\D.dp=dp/\Y.b=yb/\(D.off=false->∃X,X.D=D/\X.b=b/\vD S i X P bs rs Y S')
 le:l<=i+1
def lsH(S:AS)(w0:AV)(dp yb k:Nat)(F':Fr)(S':AS):Prop:=∃i l b:Nat,LsM S i l b dp yb S'/\Re w0 b dp yb l i F'/\i<=60/\k=60-i
theorem Uh{S T:AS}{w0:AV}{dp yb k:Nat}{F':Fr}(i l b:Nat)(h1:LsM S i l b dp yb T)(h2:Re w0 b dp yb l i F')(h3:i<=60)(h4:k=60-i):lsH S w0 dp yb k F' T:=⟨i,l,b,h1,h2,h3,h4⟩
section
variable{S T:AS}
theorem xN.down{T0:AS}{c:Nat}{D D0:Dk}{Y:cT}(h:xN S (c+1) D Y T)(h0:xN S c D0 Y T0):xN S c D Y T:={h with FI:=h0.FI,FJ:=h0.FJ}
theorem WB(f:Nat->Nat):j5 (iY f)=true:=by
 unfold iY;generalize List.range 128=l
 induction l with
 |nil=>rfl
 |cons a l ih=>simp[j5,kg,ih]
theorem NP{n:Nat}{a:AV}(h:isSl n a=true):kg a=true:=by cases a<;>simp_all[isSl,kg]
theorem NQ{a b:AV}{f:Nat->Nat}(ha:isSl 3 a=true)(hb:isSl 4 b=true):j5 (lq a b f)=true:=by
 show (kg a&&(kg b&&j5 (iY f)))=true;rw[NP ha,NP hb,WB];rfl
theorem tu:zH.length=130:=eF _ _ _
theorem XO{B:Nat}{cs Jh:List AV}(h:S.h.get B=some (.row cs 0 0 false 40))(hl:cs.length=130)(va:Jh.length=130):xQ S (.ptr B 0 0 130) Jh=some ⟨S.h.set B (.row Jh 0 0 false 40),S.nx⟩:=by
 simp only[eC,iT,h,dO];rw[if_pos ⟨trivial,by omega,trivial⟩];have:dq 0 cs Jh=Jh:=by
  show py cs _=_;unfold py;rw[va,cF,List.drop_of_length_le (by omega)];exact List.append_nil _
 rw[this]
theorem law5(hA:seg.Dj){w0:AV}{ops:List rP}(h:jlr S w0 ops):ah C1 5 [w0] S fun v T=>v=.bool true:=by
 obtain⟨T0,X0,U0,Y0,e7,e7',xo,P0,rs0,i0,l0,sm0⟩:=Ug S;have u1:=h.sl.sl;have u2:=h.sl.aO Kj (by omega);have uo:=h.sl.ok;have uk:=aj h.sl;refine aL (cK _) (cM _ rfl) fnL5 rfl okL5 (by simp) fun F hn s0=>?_;rw[ntL5]at hn;simp[s0,aP,e7,e7'];refine aT (lsH S w0 X0.D.dp Y0.b) 60 (Uh 0 1 X0.b ⟨⟨_,_,_,_,_,i0,sm0,rfl,rfl,fun _=>⟨X0,rfl,rfl,l0⟩⟩,zza _⟩ ⟨by simp[s0],by simp,by simp,by simp,by simp,by simp,by simp[hn]⟩ (Nat.zero_le _) rfl) ?_;clear s0 hn e7 e7';obtain⟨dp,wC⟩:∃d,d=X0.D.dp:=⟨_,rfl⟩
 obtain⟨yb,Ei⟩:∃d,d=Y0.b:=⟨_,rfl⟩
 rw[<-wC,<-Ei];clear wC Ei i0 l0 sm0 xo;rintro k F' S'-⟨i,l,b,⟨⟨D,P,bs,rs,Y,hI,lQ,wC,Ei,jiB⟩,hle⟩,⟨t0,t3,t4,t5,t7,t8,hn⟩,hi,hk⟩;by_cases hlen:i<ops.length
 case neg=>
  have hI':¬(i:Int)<ops.length:=by omega
  simp[t0,t3,t4,t5,t7,t8,u1,u2,hlen,hI',aP,WD hA]
 by_cases jiF:i<60
 case neg=>
  obtain rfl:i=60:=by omega
  have hI':(60:Int)<ops.length:=by omega
  simp[t0,t3,t4,t5,t7,t8,u1,u2,hlen,hI',aP,WD hA]
 have hIl:(i:Int)<ops.length:=by omega
 have jjc:(i:Int)<60:=by omega
 obtain⟨o,hx⟩:∃t,ops[i]?=some t:=⟨_,List.getElem?_eq_getElem hlen⟩
 obtain⟨picks,flips,hO⟩:=h.el o (List.mem_of_getElem? hx);have cJ:=hO.op;have BP:=dB (cx:=C1) (e:=34) (h.sl.toSub hI.w.sub) Kj (by omega) hx jlf XM;obtain⟨a9,ha9⟩:∃a,a=S'.nx:=⟨_,rfl⟩
 obtain⟨S1,bC⟩:∃S1:AS,S1=⟨(S'.h.set a9 (.row [.int .i64 0,.int .i64 0,.int .i64 0,.int .u64 0,.ar,.ar,.ar,.ar] 0 0 false 34)).set a9 (.row o.c 0 0 false 34),a9+1⟩:=⟨_,rfl⟩
 have s1:Sub S' S1:=by rw[bC,ha9];exact seg.gF
 have g1:S1.h.get a9=some (.row o.c 0 0 false 34):=by rw[bC];exact aa _ _ _
 have n1:S1.nx=a9+1:=by rw[bC]
 have fR:=bC.symm;clear bC;have lH:=cp (i:=i) (by omega);have FD:=g1;simp only[rP.c]at BP fR FD;have k1:=cJ.pred.sl.cells;have k2:=cJ.sl.cells;have k3:=cJ.kv.1;have k4:=cJ.tv.1;have k5:=aj cJ.pred.sl;have k6:=aj cJ.sl;have k7:=cJ.kv.2;have k8:=cJ.tv.2;have ZI:=hI.to s1;have e17:=fun Q=>jhr ZI.w.iE (Q:=Q);rw[wC]at e17;simp[-cz,-mb,t0,t3,t4,t5,t7,t8,u1,u2,uo,uk,hlen,hIl,jiF,jjc];rw[cz];simp[-cz,-mb,iA];refine nK (fun F' T=>∃b' l',LsM S (i+1) l' b' dp yb T/\Re w0 b' dp yb l' i F') ?_ ?_
 case refine_2=>
  rintro F2 T ⟨b',l',hM,⟨t0,t3,t4,t5,t7,t8,hn⟩⟩;simp[t0,t3,t4,t5,t7,t8,lH];exact⟨60-(i+1),by omega,Uh (i+1) l' b' hM ⟨by simp[t0],by simp[t3],by simp[t4],by simp[t5],by simp[t7],by simp,by simp[hn]⟩ (by omega) rfl⟩
 rw[mb,pg];refine nK (fun F' T=>T=S1/\Re w0 b dp yb l i F'/\sl F' 9=.ptr a9 0 0 8) ?_ ?_
 case refine_1=>
  simp[t0,t3,t4,t5,t7,t8,u1,u2,uo,uk,hlen,hIl,jiF,jjc,BP,<-ha9,fR,FD,k1,k2,k3,k4,k5,k6,k7,k8];exact⟨by simp[t0],by simp[t3],by simp[t4],by simp[t5],by simp[t7],by simp[t8],by simp[hn]⟩
 clear t0 t3 t4 t5 t7 t8 hn fR;rintro F2 S2 ⟨rfl,⟨t0,t3,t4,t5,t7,t8,hn⟩,t9⟩;rw[iA,mb,pg];obtain⟨op,jR⟩:∃op:Bool,op=(decide (o.gI=6)||decide (o.gI=7)||D.off):=⟨_,rfl⟩
 refine nK (fun F' T=>T=S2/\Re w0 b dp yb l i F'/\sl F' 9=.ptr a9 0 0 8/\sl F' 107=.bool op) ?_ ?_
 case refine_1=>
  have fin:∀F',Re w0 b dp yb l i F'->Re w0 b dp yb l i F':=fun _ h=>h;by_cases h6:o.gI=6
  .simp[t0,t3,t4,t5,t7,t8,t9,FD,h6]at jR⊢;exact⟨⟨by simp[t0],by simp[t3],by simp[t4],by simp[t5],by simp[t7],by simp[t8],by simp[hn]⟩,by rw[jR]⟩
  .by_cases h7:o.gI=7
   .simp[t0,t3,t4,t5,t7,t8,t9,FD,h6,h7]at jR⊢;exact⟨⟨by simp[t0],by simp[t3],by simp[t4],by simp[t5],by simp[t7],by simp[t8],by simp[hn]⟩,by rw[jR]⟩
   .simp[t0,t3,t4,t5,t7,t8,t9,FD,h6,h7,aP,e17]at jR⊢;exact⟨⟨by simp[t0],by simp[t3],by simp[t4],by simp[t5],by simp[t7],by simp[t8],by simp[hn]⟩,by rw[jR]⟩
 clear t0 t3 t4 t5 t7 t8 t9 hn;rintro F3 S3 ⟨rfl,⟨t0,t3,t4,t5,t7,t8,hn⟩,t9,t107⟩;rw[iA,cz];rw[show eval F3 (Operand.tmp 107)=.bool op by simp[t107]];have hsO:=hO;have LF:∀{F' F'':Fr}{b l:Nat},Re w0 b dp yb l i F'->(∀x,x<9->sl F'' x=sl F' x)->F''.n=F'.n->Re w0 b dp yb l i F'':=fun {F' F'' b l} h hx hn=>⟨(hx 0 (by omega)).trans h.t0,(hx 3 (by omega)).trans h.t3,(hx 4 (by omega)).trans h.t4,(hx 5 (by omega)).trans h.t5,(hx 7 (by omega)).trans h.t7,(hx 8 (by omega)).trans h.t8,hn.trans h.n⟩
 cases op with
 |true=>
  rw[tY,pg];obtain⟨cr,hcr⟩:∃cr:Bool,cr=(D.off||decide (o.gI=6)):=⟨_,rfl⟩
  refine nK (fun F' T=>Re w0 b dp yb l i F'/\∃D1,nE S i l D1 P bs rs Y T/\D1.dp=dp/\D1.off=false) ?_ ?_
  case refine_1=>
   rw[pg];refine nK (fun F' T=>T=S3/\Re w0 b dp yb l i F'/\sl F' 9=.ptr a9 0 0 8/\sl F' 126=.bool cr) ?_ ?_
   case refine_1=>
    cases ho:D.off with
    |true=>
     rw[ho]at e17 hcr;simp[t0,t3,t4,t5,t7,t8,t9,FD,aP,e17]at hcr⊢;exact⟨⟨by simp[t0],by simp[t3],by simp[t4],by simp[t5],by simp[t7],by simp[t8],by simp[hn]⟩,by rw[hcr]⟩
    |false=>
     rw[ho]at e17 hcr;simp[t0,t3,t4,t5,t7,t8,t9,FD,aP,e17]at hcr⊢;exact⟨⟨by simp[t0],by simp[t3],by simp[t4],by simp[t5],by simp[t7],by simp[t8],by simp[hn]⟩,by rw[hcr]⟩
   clear t0 t3 t4 t5 t7 t8 t9 t107 hn;rintro F4 S4 ⟨rfl,⟨t0,t3,t4,t5,t7,t8,hn⟩,t9,t126⟩;rw[iA,cz,show eval F4 (Operand.tmp 126)=.bool cr by simp[t126]];cases cr with
   |true=>
    obtain⟨T,D1,Xs,c1,c2,c3,c4⟩:=ZI.oN hO;rw[wC]at Xs;rw[tY];simp[t0,t3,t4,t5,t7,t8,t9,FD,aP,Xs];exact⟨⟨by simp[t0],by simp[t3],by simp[t4],by simp[t5],by simp[t7],by simp[t8],by simp[hn]⟩,D1,c1,c2.trans wC,c3⟩
   |false=>
    rw[rD];simp at hcr;simp;exact⟨⟨by simp[t0],by simp[t3],by simp[t4],by simp[t5],by simp[t7],by simp[t8],by simp[hn]⟩,D,ZI,wC,hcr.1⟩
  clear t0 t3 t4 t5 t7 t8 t9 t107 hn;rintro F5 S5 ⟨⟨t0,t3,t4,t5,t7,t8,hn⟩,D1,hJ,KX,Hs⟩;rw[iA,pg];refine nK (fun F' T=>Re w0 b dp yb l i F'/\((∃X P' gJ,sl F' 10=.ptr X.b 0 0 27/\sl F' 11=.int .i64 0/\nE S i (l+1) X.D P' (aJ gJ) gJ Y T/\vD S i X P' (aJ gJ) gJ Y T/\bz P P'/\X.D.dp=dp)\/(∃D2,sl F' 11=.int .i64 7/\D2.dp=dp/\D2.off=false/\nE S i l D2 P bs rs Y T)\/(∃D2,sl F' 11=.int .i64 8/\D2.dp=dp/\D2.off=true/\nE S i l D2 P bs rs Y T))) ?_ ?_
  case refine_1=>
   obtain⟨v,T,X,wQ,hdX,_,_,hc⟩:=hJ.open Hs (by omega);rw[KX]at wQ;rcases hc with⟨rfl,c1,P',gJ,c2,c3,c4,c5⟩|⟨rfl,c1,c2,c3,c4⟩|⟨rfl,c1,c2⟩
   .simp[t0,t3,t4,t5,t7,t8,aP,wQ];exact⟨⟨by simp[t0],by simp[t3],by simp[t4],by simp[t5],by simp[t7],by simp[t8],by simp[hn]⟩,X,rfl,P',gJ,c2,c3,c5,hdX.trans KX⟩
   .simp[t0,t3,t4,t5,t7,t8,aP,wQ];exact⟨⟨by simp[t0],by simp[t3],by simp[t4],by simp[t5],by simp[t7],by simp[t8],by simp[hn]⟩,X.D,hdX.trans KX,c1,c4⟩
   .simp[t0,t3,t4,t5,t7,t8,aP,wQ];exact⟨⟨by simp[t0],by simp[t3],by simp[t4],by simp[t5],by simp[t7],by simp[t8],by simp[hn]⟩,X.D,hdX.trans KX,c1,c2⟩
  clear t0 t3 t4 t5 t7 t8 hn;rintro F6 S6 ⟨⟨t0,t3,t4,t5,t7,t8,hn⟩,hc6⟩;rw[iA,pg];refine nK (fun F' T=>Re w0 b dp yb l i F'/\((∃X P' gJ,sl F' 10=.ptr X.b 0 0 27/\sl F' 11=.int .i64 0/\nE S i (l+1) X.D P' (aJ gJ) gJ Y T/\vD S i X P' (aJ gJ) gJ Y T/\bz P P'/\X.D.dp=dp)\/(∃D2,sl F' 11=.int .i64 8/\D2.dp=dp/\D2.off=true/\nE S i l D2 P bs rs Y T))) ?_ ?_
  case refine_1=>
   rcases hc6 with⟨X,P',gJ,c1,c2,c3,c4,c5,c6⟩|⟨D2,c1,c2,c3,c4⟩|⟨D2,c1,c2,c3,c4⟩
   .simp[t0,t3,t4,t5,t7,t8,c1,c2];exact⟨⟨by simp[t0],by simp[t3],by simp[t4],by simp[t5],by simp[t7],by simp[t8],by simp[hn]⟩,X,rfl,P',gJ,c3,c4,c5,c6⟩
   .obtain⟨T,D3,Jg,q1,q2,q3,q4,_⟩:=c4.SH (n:=4194304) (zza _);obtain⟨v,T2,X,wQ,hdX,_,_,hc⟩:=q1.open (q3.trans c3) (by omega);rw[c2]at Jg q2;rw[q2]at wQ hdX;have jku:∀R:AV->AS->Prop,ah C1 19 [.ptr dp 0 0 4,.int .i64 4194304] S6 R=R (.int .i64 0) T:=Jg;rcases hc with⟨rfl,d1,P',gJ,d2,d3,d4,d5⟩|⟨rfl,d1,d2,d3,d4⟩|⟨rfl,d1,d2⟩
    .simp[t0,t3,t4,t5,t7,t8,c1,aP,jku,wQ];exact⟨⟨by simp[t0],by simp[t3],by simp[t4],by simp[t5],by simp[t7],by simp[t8],by simp[hn]⟩,X,rfl,P',gJ,d2,d3,d5,hdX⟩
    .omega
    .simp[t0,t3,t4,t5,t7,t8,c1,aP,jku,wQ];exact⟨⟨by simp[t0],by simp[t3],by simp[t4],by simp[t5],by simp[t7],by simp[t8],by simp[hn]⟩,X.D,hdX,d1,d2⟩
   .simp[t0,t3,t4,t5,t7,t8,c1];exact⟨⟨by simp[t0],by simp[t3],by simp[t4],by simp[t5],by simp[t7],by simp[t8],by simp[hn]⟩,D2,c2,c3,c4⟩
  clear t0 t3 t4 t5 t7 t8 hn;rintro F7 S7 ⟨⟨t0,t3,t4,t5,t7,t8,hn⟩,hc7⟩;rw[iA];rcases hc7 with⟨X,P',gJ,t10,t11,c3,c4,c5,c6⟩|⟨D2,t11,c2,c3,c4⟩
  .obtain⟨H,T1,e8,FX,v1,v2⟩:=iB c4.at_;have hy:=c3.w.y.toSub FX;obtain⟨H',T2,e8',u2',v3,v4⟩:=iB hy;obtain⟨T3,Xt,u3⟩:=ko (v1.q.sub u2') v3.q v2 v4 (c4.same.trans (c5.symm.trans lQ));rw[Ei]at e8';have uu:=(FX.trans u2').trans u3;have hX:=c4.at_.toSub uu;have e14:=Eb hX;have hlf:X.aC=l+1:=c4.aC.trans c3.aC;rw[hlf]at e14;have Qq:∀Q:AV->AS->Prop,ah C1 14 [.ptr X.b 0 0 27] T3 Q=Q (.int .u64 ((l:Int)+1)) T3:=e14;have P5:¬((l:Int)+1<=l):=by omega
   simp[t0,t3,t4,t5,t7,t8,t10,t11,aP,e8,e8',Xt,Qq,P5];exact⟨X.b,l+1,⟨⟨X.D,P',aJ gJ,gJ,Y,(c3.to uu).up,c5.symm.trans lQ,c6,Ei,fun _=>⟨X,rfl,rfl,(c4.to uu).up⟩⟩,by omega⟩,⟨by simp[t0],by simp,by simp[t4],by simp[t5],by simp,by simp[t8],by simp[hn]⟩⟩
  .simp[t0,t3,t4,t5,t7,t8,t11];exact⟨b,l,⟨⟨D2,P,bs,rs,Y,c4.up,lQ,c2,Ei,fun q=>by rw[c3]at q;cases q⟩,by omega⟩,⟨by simp[t0],by simp[t3],by simp[t4],by simp[t5],by simp[t7],by simp[t8],by simp[hn]⟩⟩
 |false=>
  rw[rD];simp at jR;obtain⟨⟨h6,h7⟩,dL⟩:=jR;obtain⟨X,rfl,ZE,hL⟩:=jiB dL;have hL1:=hL.to s1;by_cases h8:o.gI=8
  .have hb:∀t c,aZ C1 .rem t c (.int .u64 o.n) (.int .u64 9)=some (.int .u64 ((o.n%9:Nat):Int)):=fun t c=>dk.vu (b:=9) (by decide);obtain⟨m,hm⟩:∃m,m=o.n%9:=⟨_,rfl⟩
   rw[<-hm]at hb;have hw9:=IntWalk.i64_in (m:Int) (by omega);obtain⟨T,D',e,e20,q1,q2,q3,q4⟩:=ZI.bq (n:=(m:Int)) (by omega);rw[wC]at e20;simp[t0,t3,t4,t5,t7,t8,t9,FD,h8,hb,hw9,aP,e20];exact⟨b,l,⟨⟨D',P,bs,rs,Y,q1.up,lQ,q2.trans wC,Ei,fun _=>⟨{X with D:=D'},rfl,ZE,(q4 rfl hL1).up⟩⟩,by omega⟩,⟨by simp[t0],by simp[t3],by simp[t4],by simp[t5],by simp[t7],by simp[t8],by simp[hn]⟩⟩
  have hqu:(8<o.gI\/o.gI<0)->∃(T T':AS)(D':Dk)(e:Int)(m:Nat),(∀Q:AV->AS->Prop,ah C1 21 [.int .u64 o.n] S3 Q=Q (.int .i64 (m:Int)) S3)/\(∀R:AV->AS->Prop,ah C1 19 [.ptr dp 0 0 4,.int .i64 (m:Int)] S3 R=R (.int .i64 0) T)/\nE S i l D' P bs rs Y T/\D'.dp=dp/\vD S i {X with D:=D'} P bs rs Y T:=fun _=>by
   have e21:=fun Q=>Yg (S:=S3) (n:=o.n) cJ.n (Q:=Q);obtain⟨T,D',Jg,q1,q2,q3,q4,q5,_,q6⟩:=ZI.SH (n:=o.n%20000) (by omega);rw[wC]at Jg;exact⟨T,T,D',0,_,e21,Jg,q1,q2.trans wC,q6 rfl hL1⟩
  by_cases h9:8<o.gI
  .obtain⟨T,_,D',_,m,e21,Jg,q1,q2,q3⟩:=hqu (.inl h9);simp[t0,t3,t4,t5,t7,t8,t9,FD,h8,h9,aP,e21,Jg];exact⟨b,l,⟨⟨D',P,bs,rs,Y,q1.up,lQ,q2,Ei,fun _=>⟨{X with D:=D'},rfl,ZE,q3.up⟩⟩,by omega⟩,⟨by simp[t0],by simp[t3],by simp[t4],by simp[t5],by simp[t7],by simp[t8],by simp[hn]⟩⟩
  by_cases hm:o.gI<0
  .obtain⟨T,_,D',_,m,e21,Jg,q1,q2,q3⟩:=hqu (.inr hm);simp[t0,t3,t4,t5,t7,t8,t9,FD,h8,h9,hm,aP,e21,Jg];exact⟨b,l,⟨⟨D',P,bs,rs,Y,q1.up,lQ,q2,Ei,fun _=>⟨{X with D:=D'},rfl,ZE,q3.up⟩⟩,by omega⟩,⟨by simp[t0],by simp[t3],by simp[t4],by simp[t5],by simp[t7],by simp[t8],by simp[hn]⟩⟩
  obtain⟨H,T1,e8,FX,v1,v2⟩:=iB hL1.at_;obtain⟨N1,K1⟩:∃a,a=T1.nx:=⟨_,rfl⟩
  obtain⟨S4,hS4⟩:∃S4:AS,S4=⟨(T1.h.set N1 (.row zH 0 0 false 40)).set N1 (.row (lq H.sw H.aw H.f) 0 0 false 40),N1+1⟩:=⟨_,rfl⟩
  have s4:Sub T1 S4:=by rw[hS4,K1];exact seg.gF
  have g12:S4.h.get N1=some (.row (lq H.sw H.aw H.f) 0 0 false 40):=by rw[hS4];exact aa _ _ _
  have n4:S4.nx=N1+1:=by rw[hS4]
  have w4:xQ (⟨T1.h.set N1 (.row zH 0 0 false 40),N1+1⟩:AS) (.ptr N1 0 0 130) (lq H.sw H.aw H.f)=some S4:=by rw[hS4];exact XO (aa _ _ _) tu (eF _ _ _)
  clear hS4;have u1n:=FX.nx;obtain⟨e,T2,X',e9,sU,j7,jiV,mP,Ht,gN,mR⟩:=(ZI.to (FX.trans s4)).do (hL1.to (FX.trans s4)) dL lQ hi hO ⟨by omega,by omega⟩
  have UC:∀id,a9<=id->¬X.wf id:=fun id q hw=>by have:=hL.at_.tj hw;omega
  have hq:HdQ T2 H:=⟨v1.Fv.ZZ yh (fun id q1 q2=>(mP id (by omega) (UC id (by omega))).trans (s4.h id q2)) (by omega),v1.bg.ZZ vB (fun id q1 q2=>(mP id (by omega) (UC id (by omega))).trans (s4.h id q2)) (by omega)⟩
  have g9:=(mP a9 (by omega) (UC a9 (zza _))).trans (((FX.trans s4).h a9 (by omega)).trans g1);have ZP:=(mP N1 (by omega) (UC N1 (by omega))).trans g12;have gg4:=((FX.trans s4).h a9 (by omega)).trans FD;have gg9:=g9;simp only[rP.c]at gg9 e9;rw[ZE]at e8 e9;have P6:(lq H.sw H.aw H.f).length=130:=eF _ _ _;have jei:(e=0/\X'.D.off=false/\∃P2 gJ Q,nE S (i+1) l X'.D P2 (aJ gJ) gJ Y T2/\vD S (i+1) X' P2 (aJ gJ) gJ Y T2/\LU Y.pure o Q/\bz P2 Q)\/(e≠0/\e≠8/\X'.pure=X.pure/\X'.D.off=false/\nE S i l X'.D P bs rs Y T2/\vD S i X' P bs rs Y T2)\/(e=8/\X'.pure=X.pure/\LsT S i l X'.D P bs rs o Y T2):=by
   rcases mR with q|⟨z,zp,o1,q1,q2⟩|q
   .exact .inl q
   .by_cases z8:e=8
    .exact .inr (.inr ⟨z8,zp,q1.w,.inl q1.Mj,q1.aC,q1.FG,q1.I9,lQ⟩)
    .exact .inr (.inl ⟨z,z8,zp,o1,q1,q2⟩)
   .exact .inr (.inr q)
  clear mR;rcases jei with⟨rfl,o1,P2,gJ,Q,q1,q2,q3,q4⟩|⟨z,z8,zp,o1,q1,q2⟩|⟨rfl,zp,q1⟩
  .obtain⟨T3,Y',e9y,w3,yb',yp,yk⟩:=(q1.w.down ZI.w).doY hi (cJ.sub q1.w.sub) ⟨by omega,by omega⟩ hO.aU q3;have L3:=yk q2;obtain⟨H1,T4,V4,u5,v5,v6⟩:=iB L3.at_;obtain⟨H2,T5,e8c,u6,v7,v8⟩:=iB (w3.y.toSub u5);obtain⟨T6,Xt,u7⟩:=ko (v5.q.sub u6) v7.q v6 v8 (L3.same.trans (by rw[yp];exact q4));have uu:=(u5.trans u6).trans u7;rw[yb',Ei]at e8c;rw[sU,ZE]at V4;rw[Ei]at e9y;simp only[rP.c]at e9y;simp[t0,t3,t4,t5,t7,t8,t9,FD,gg4,gg9,h8,h9,hm,aP,e8,<-K1,tu,P6,w4,k1,k2,k3,k4,k5,k6,k7,k8,e9,e9y,V4,e8c,Xt];exact⟨b,l,⟨⟨X'.D,P2,aJ gJ,gJ,Y',⟨w3.to uu,q1.Mj,q1.aC,q1.FG,q1.I9⟩,by rw[yp];exact q4,j7.trans wC,yb'.trans Ei,fun _=>⟨X',rfl,sU.trans ZE,L3.to uu⟩⟩,by omega⟩,⟨by simp[t0],by simp[t3],by simp[t4],by simp[t5],by simp[t7],by simp[t8],by simp[hn]⟩⟩
  .obtain⟨H1,T3,V4,u5,v5,v6⟩:=iB jiV;obtain⟨T4,Xt,u6⟩:=ko v5.q (hq.sub u5) v6 v2 (by rw[zp];exact bz.refl _);rw[sU,ZE]at V4;have l12:=yw ((u5.h N1 (by omega)).trans ZP);have PN:=yw ZP;simp[t0,t3,t4,t5,t7,t8,t9,FD,gg4,gg9,h8,h9,hm,aP,e8,<-K1,tu,P6,w4,k1,k2,k3,k4,k5,k6,k7,k8,e9,z];refine cu [.p,.e [],.r 1 0,.e [],.p] (n:=191) (by kernel_rfl) (by simp[hn]) ?_;simp[t0,t3,t4,t5,t7,t8,t9,aP,V4,l12,PN,Xt,z,z8];exact⟨NQ hq.Fv.sl.sl hq.bg.sl.sl,b,l,⟨⟨X'.D,P,bs,rs,Y,(q1.to (u5.trans u6)).up,lQ,j7.trans wC,Ei,fun _=>⟨X',rfl,sU.trans ZE,(q2.to (u5.trans u6)).up⟩⟩,by omega⟩,⟨by simp[t0],by simp[t3],by simp[t4],by simp[t5],by simp[t7],by simp[t8],by simp[hn]⟩⟩
  .obtain⟨H1,T3,V4,u5,v5,v6⟩:=iB jiV;obtain⟨T4,Xt,u6⟩:=ko v5.q (hq.sub u5) v6 v2 (by rw[zp];exact bz.refl _);rw[sU,ZE]at V4;have l12:=yw ((u5.h N1 (by omega)).trans ZP);have PN:=yw ZP;have u56:=u5.trans u6;have n56:=u56.nx;have gg5:=(u56.h a9 (by omega)).trans gg9;obtain⟨U0,U,X2,P2,rs2,Xs,jR,z1,zv,z2,z3,zs⟩:=(q1.to u56).back hi (by omega) hO;have nzv:=zv.nx;have gg6:=(zv.ca a9 (by omega) fun hf=>UC a9 (zza _) (gN a9 (by omega) (.inr (.inl hf)))).trans gg5;have hdp2:X'.D.dp=dp:=j7.trans wC;rw[hdp2]at Xs jR z1;have e14:=Eb z3.at_;have hlf:X2.aC=l+1:=z3.aC.trans z2.aC;rw[hlf]at e14;have Qq:∀Q:AV->AS->Prop,ah C1 14 [.ptr X2.b 0 0 27] U Q=Q (.int .u64 ((l:Int)+1)) U:=e14;have P5:¬((l:Int)+1<=l):=by omega
   obtain⟨H2,U1,f8,y1,y2,y3⟩:=iB z3.at_;obtain⟨H3,U2,f8',y4,y5,y6⟩:=iB (z2.w.y.toSub y1);rw[Ei]at f8';have vb:=NQ (f:=H.f) hq.Fv.sl.sl hq.bg.sl.sl;rcases zs with zs|⟨Q,zE,zs⟩
   .obtain⟨U3,f10,y7⟩:=ko (y2.q.sub y4) y5.q y3 y6 (z3.same.trans zs);have yy:=(y1.trans y4).trans y7;obtain⟨H4,U4,f8b,w1,w2,w3⟩:=iB (z3.at_.toSub yy);obtain⟨H5,U5,Ld,w4',w5,w6⟩:=iB ((z2.w.y.toSub yy).toSub w1);rw[Ei]at Ld;obtain⟨U6,VU,w7⟩:=ko (w2.q.sub w4') w5.q w3 w6 (z3.same.trans zs);have uu:=yy.trans ((w1.trans w4').trans w7);have V5:=Eb (z3.at_.toSub uu);rw[hlf]at V5;have HZ:∀Q:AV->AS->Prop,ah C1 14 [.ptr X2.b 0 0 27] U6 Q=Q (.int .u64 ((l:Int)+1)) U6:=V5;have fin:LsM S (i+1) (l+1) X2.b dp yb U6:=⟨⟨X2.D,P2,aJ rs2,rs2,Y,z2.to uu,zs,z1,Ei,fun _=>⟨X2,rfl,rfl,z3.to uu⟩⟩,by omega⟩
    rcases jR with wQ|⟨R1,R2,wQ,Jg,jeS⟩
    .simp[t0,t3,t4,t5,t7,t8,t9,FD,gg4,gg9,h8,h9,hm,aP,e8,<-K1,tu,P6,w4,k1,k2,k3,k4,k5,k6,k7,k8,e9];refine cu [.p,.e [],.r 1 0,.e [],.p] (n:=191) (by kernel_rfl) (by simp[hn]) ?_;simp[t0,t3,t4,t5,t7,t8,t9,aP,V4,l12,PN,Xt,gg5,Xs,wQ,Qq,P5,f8,f8',f10,f8b,Ld,VU,HZ];exact⟨vb,X2.b,l+1,fin,⟨by simp[t0],by simp,by simp[t4],by simp[t5],by simp,by simp[t8],by simp[hn]⟩⟩
    .simp[t0,t3,t4,t5,t7,t8,t9,FD,gg4,gg9,h8,h9,hm,aP,e8,<-K1,tu,P6,w4,k1,k2,k3,k4,k5,k6,k7,k8,e9];refine cu [.p,.e [],.r 1 0,.e [],.p] (n:=191) (by kernel_rfl) (by simp[hn]) ?_;simp[t0,t3,t4,t5,t7,t8,t9,aP,V4,l12,PN,Xt,gg5,Xs,wQ,Jg,jeS,Qq,P5,f8,f8',f10,f8b,Ld,VU,HZ];exact⟨vb,X2.b,l+1,fin,⟨by simp[t0],by simp,by simp[t4],by simp[t5],by simp,by simp[t8],by simp[hn]⟩⟩
   .obtain⟨U3,f10,y7⟩:=F0 (y2.q.sub y4) y5.q y3 y6 ((Lf zE (bz.refl _) ZI.w.uy).same (z3.same.trans zs));have yy:=(y1.trans y4).trans y7;have z2':=z2.to yy;have gg7:=(yy.h a9 (by omega)).trans gg6;obtain⟨U4,Y2,f9,wy,yb2,yp,yk⟩:=(z2'.w.down ZI.w).doY hi (cJ.sub z2'.w.sub) ⟨by omega,by omega⟩ hO.aU zE;rw[Ei]at f9;simp only[rP.c]at f9;have L3:=yk (z3.to yy);obtain⟨H4,U5,f8b,w1,w2,w3⟩:=iB L3.at_;obtain⟨H5,U6,Ld,w4',w5,w6⟩:=iB (wy.y.toSub w1);rw[yb2,Ei]at Ld;obtain⟨U7,VU,w7⟩:=ko (w2.q.sub w4') w5.q w3 w6 (L3.same.trans (by rw[yp];exact zs));have uu:=(w1.trans w4').trans w7;have V5:=Eb (L3.at_.toSub uu);rw[hlf]at V5;have HZ:∀Q:AV->AS->Prop,ah C1 14 [.ptr X2.b 0 0 27] U7 Q=Q (.int .u64 ((l:Int)+1)) U7:=V5;have fin:LsM S (i+1) (l+1) X2.b dp yb U7:=⟨⟨X2.D,P2,aJ rs2,rs2,Y2,⟨wy.to uu,z2.Mj,z2.aC,z2.FG,z2.I9⟩,by rw[yp];exact zs,z1,yb2.trans Ei,fun _=>⟨X2,rfl,rfl,L3.to uu⟩⟩,by omega⟩
    rcases jR with wQ|⟨R1,R2,wQ,Jg,jeS⟩
    .simp[t0,t3,t4,t5,t7,t8,t9,FD,gg4,gg9,h8,h9,hm,aP,e8,<-K1,tu,P6,w4,k1,k2,k3,k4,k5,k6,k7,k8,e9];refine cu [.p,.e [],.r 1 0,.e [],.p] (n:=191) (by kernel_rfl) (by simp[hn]) ?_;simp[t0,t3,t4,t5,t7,t8,t9,aP,V4,l12,PN,Xt,gg5,gg7,k1,k2,k3,k4,k5,k6,k7,k8,Xs,wQ,Qq,P5,f8,f8',f10,f9,f8b,Ld,VU,HZ];exact⟨vb,X2.b,l+1,fin,⟨by simp[t0],by simp,by simp[t4],by simp[t5],by simp,by simp[t8],by simp[hn]⟩⟩
    .simp[t0,t3,t4,t5,t7,t8,t9,FD,gg4,gg9,h8,h9,hm,aP,e8,<-K1,tu,P6,w4,k1,k2,k3,k4,k5,k6,k7,k8,e9];refine cu [.p,.e [],.r 1 0,.e [],.p] (n:=191) (by kernel_rfl) (by simp[hn]) ?_;simp[t0,t3,t4,t5,t7,t8,t9,aP,V4,l12,PN,Xt,gg5,gg7,k1,k2,k3,k4,k5,k6,k7,k8,Xs,wQ,Jg,jeS,Qq,P5,f8,f8',f10,f9,f8b,Ld,VU,HZ];exact⟨vb,X2.b,l+1,fin,⟨by simp[t0],by simp,by simp[t4],by simp[t5],by simp,by simp[t8],by simp[hn]⟩⟩
end
end Go.Proofs.YtdknlbnljfdhgaaGreatDoor.bk
