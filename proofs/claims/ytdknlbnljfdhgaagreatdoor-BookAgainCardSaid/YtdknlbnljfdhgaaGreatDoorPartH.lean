/-
  A book opened again: the walk, as far as the calls.
  Arguments from outside: what a law of a book is handed.
-/
import Derived.Test.YtdknlbnljfdhgaaGreatDoorPartG
import Derived.Test.YtdknlbnljfdhgaaGreatDoorAmArgs
namespace Go.Proofs.YtdknlbnljfdhgaaGreatDoor.bk
open Go Go.Am Go.Proofs.YtdknlbnljfdhgaaGreatDoor.dk
open Go.Proofs.YtdknlbnljfdhgaaGreatDoor.mod (Val encV encV_len Con encC encC_len ConOk PredAt mayP mayC mayV setB sameB zeroV mayPred encT encT_len bare encM nget nput mget_encM mput_encM nget_nput nput_mem nget_mem predFoot idxI idx174)
set_option linter.unusedVariables false
set_option linter.unusedSimpArgs false
theorem fn4:C1.fns.get 4=some Tryz.f4:=by kernel_rfl
theorem ok4:codeOk C1 Tryz.f4.ntmps (Tryz.f4.body.getD .skip)=true:=by kernel_rfl
theorem nt4:Tryz.f4.ntmps=179:=by kernel_rfl
section
variable{S T:AS}
structure AgM(S:AS)(i:Nat)(X:cV)(rs:List Rec)(S':AS):Prop where
 at_:bN S' X
 ok:X.D.pd.ok
 db:X.db<=i+1
 wf:∀id,X.wf id->S.next<=id
 sub:Sub S S'
 yA:Sto X.D.pd X.pure rs
 len:rs.length<=i+1
 aI:X.pure.aI=1
structure AgF(w0:AV)(tv:Int)(X:cV)(i:Nat)(F':Fr):Prop where
 t0:sl F' 0=w0
 t1:sl F' 1=.int .u8 tv
 t5:sl F' 5=.ptr X.b 0 0 27
 t6:sl F' 6=.ptr X.D.dp 0 0 4
 t7:sl F' 7=.int .i64 i
 n:F'.n=179
def agH(S:AS)(w0:AV)(tv:Int)(k:Nat)(F':Fr)(S':AS):Prop:=∃(i:Nat)(X:cV)(rs:List Rec),AgM S i X rs S'/\AgF w0 tv X i F'/\i<=60/\k=60-i
theorem CD{w0:AV}{tv:Int}{k:Nat}{F':Fr}(i:Nat)(X:cV)(rs:List Rec)(h1:AgM S i X rs T)(h2:AgF w0 tv X i F')(h3:i<=60)(h4:k=60-i):agH S w0 tv k F' T:=⟨i,X,rs,h1,h2,h3,h4⟩
theorem AgM.next{i:Nat}{X:cV}{rs:List Rec}{S' U:AS}{v:AV}{o:CV}(h:AgM S i X rs S')(hi:i<60)(hr:av X (EOp X o) S' v U):∃(e:Int)(X':cV)(rs':List Rec),v=.int .i64 e/\AgM S (i+1) X' rs' U/\X'.b=X.b/\X'.D.dp=X.D.dp:=by
 obtain⟨e,X',rfl,r1,r2,r3,r4,r5,r6⟩:=hr;have hk:e=0->yg X'.pure:=fun he=>by
  rcases r4 with⟨q,_⟩|⟨_,q,_⟩
  .exact absurd he q
  .exact (op_keys q h.yA.BY.keys).1
 have hlen:=h.len;obtain⟨rs',s1,s2⟩:=h.yA.next r5 hk (by omega)
 have sJ:=h.db;refine⟨e,X',rs',rfl,⟨r1,r3,?_,fun id hw=>?_,⟨fun id hi=>?_,Nat.le_trans h.sub.next r2.next⟩,s1,by omega,?_⟩,r2.b,r6⟩
 .rcases r4 with⟨_,_,q⟩|⟨_,_,q⟩<;>omega
 .by_cases bY:id<S'.next
  .exact h.wf id (r2.bB id bY hw)
  .have:=h.sub.next;omega
 .exact (r2.cg id (by have:=h.sub.next;omega) (fun hw=>by have:=h.wf id hw;omega)).trans (h.sub.h id hi)
 .rcases r4 with⟨_,q,_⟩|⟨_,q,_⟩
  .rw[q];exact h.aI
  .rw[(op_keys q h.yA.BY.keys).2];exact h.aI
theorem newP_ok:(dH (qT 1048576) (qI gO)).1=0/\∃Q,Sto (dH (qT 1048576) (qI gO)).2 Q (gD (gO.de 1))/\kF Q gO/\Q.aI=1:=Sto.open (.inl ⟨rfl,rfl⟩) (Nat.zero_le _) tA (by decide)
theorem CY:Sto (dH (qT 1048576) (qI gO)).2 (gO.de 1) [fK 1]:=by
 obtain⟨_,Q,h1,_⟩:=newP_ok;exact⟨h1.gL,h1.wr,.cons (.aI rfl (by decide)) (.nil _),tA.aI 1⟩
theorem offL_le(s:List (Int×Nat))(f:Nat->Nat)(i n:Nat):mg s f i n<=n:=by
 unfold mg;have:=List.length_filter_le (fun q:Nat=>decide (f (i*16+q)≠mY s (q:Nat))) (List.range n)
 rwa [List.length_range]at this
theorem cellL_le(L:List zt)(f:Nat->Nat)(i k:Nat):xP L f i k<=16:=by
 unfold xP;split
 .split
  .exact offL_le _ _ _ _
  .omega
 .omega
theorem Ba(L:List zt)(f:Nat->Nat)(i:Nat):∀k,rz L f i k<=k*16
 |0=>Nat.le_refl _
 |k+1=>by rw[zD];have:=Ba L f i k;have:=cellL_le L f i k;omega
theorem allL_le(L:List zt)(f:Nat->Nat)(hl:L.length<=8):∀i,ew L f i<=i*128
 |0=>Nat.le_refl _
 |i+1=>by rw[AE];have:=allL_le L f hl i;have:=Ba L f i L.length;omega
theorem fromL_succ{st:List (Int×Nat)}{q:Int}{m:Nat}{t:Int×Nat}(h:st[m]?=some t):mY (st.take (m+1)) q=if t.1=q then t.2-1 else mY (st.take m) q:=by
 have hm:=(List.getElem?_eq_some_iff.1 h)
 obtain⟨hl,he⟩:=hm;unfold mY;rw[List.take_succ_eq_append_getElem hl,List.foldl_append,he];rfl
structure AgK(dp:Nat)(tv:Int)(F':Fr):Prop where
 t1:sl F' 1=.int .u8 tv
 t6:sl F' 6=.ptr dp 0 0 4
 n:F'.n=179
def agE(S:AS)(tv:Int)(F':Fr)(S':AS):Prop:=∃(X:cV)(rs:List Rec),AgM S 60 X rs S'/\AgK X.D.dp tv F'/\sl F' 5=.ptr X.b 0 0 27
structure AgC(dp a8:Nat)(tv:Int)(F':Fr):Prop where
 t1:sl F' 1=.int .u8 tv
 t6:sl F' 6=.ptr dp 0 0 4
 t8:sl F' 8=.ptr a8 0 0 130
 n:F'.n=179
def ag2H(S:AS)(dp a8:Nat)(tv:Int)(m0:Nat)(L:List zt)(f:Nat->Nat)(k:Nat)(F':Fr)(S':AS):Prop:=∃i:Nat,S'=S/\AgC dp a8 tv F'/\sl F' 9=.int .i64 (m0+ew L f i:Nat)/\sl F' 10=.int .i64 i/\i<=8/\k=8-i
theorem ag2H_mk{dp a8:Nat}{tv:Int}{m0:Nat}{L:List zt}{f:Nat->Nat}{k:Nat}{F':Fr}(i:Nat)(h1:T=S)(h2:AgC dp a8 tv F')(h3:sl F' 9=.int .i64 (m0+ew L f i:Nat))(h4:sl F' 10=.int .i64 i)(h5:i<=8)(h6:k=8-i):ag2H S dp a8 tv m0 L f k F' T:=⟨i,h1,h2,h3,h4,h5,h6⟩
def ag4H(S:AS)(dp a8:Nat)(tv:Int)(m0:Nat)(L:List zt)(f:Nat->Nat)(i:Nat)(z:Nat)(F':Fr)(S':AS):Prop:=∃k:Nat,S'=S/\AgC dp a8 tv F'/\sl F' 9=.int .i64 (m0+rz L f i k:Nat)/\sl F' 10=.int .i64 i/\sl F' 11=.int .i64 k/\k<=L.length/\z=L.length-k
theorem CG{dp a8:Nat}{tv:Int}{m0:Nat}{L:List zt}{f:Nat->Nat}{i z:Nat}{F':Fr}(k:Nat)(h1:T=S)(h2:AgC dp a8 tv F')(h3:sl F' 9=.int .i64 (m0+rz L f i k:Nat))(h4:sl F' 10=.int .i64 i)(h4':sl F' 11=.int .i64 k)(h5:k<=L.length)(h6:z=L.length-k):ag4H S dp a8 tv m0 L f i z F' T:=⟨k,h1,h2,h3,h4,h4',h5,h6⟩
def ag6H(S:AS)(dp a8:Nat)(tv:Int)(m0:Nat)(st:List (Int×Nat))(f:Nat->Nat)(i k:Nat)(z:Nat)(F':Fr)(S':AS):Prop:=∃n:Nat,S'=S/\AgC dp a8 tv F'/\sl F' 9=.int .i64 (m0+mg st f i n:Nat)/\sl F' 10=.int .i64 i/\sl F' 11=.int .i64 k/\sl F' 12=.int .i64 n/\n<=16/\z=16-n
theorem CF{dp a8:Nat}{tv:Int}{m0:Nat}{st:List (Int×Nat)}{f:Nat->Nat}{i k z:Nat}{F':Fr}(n:Nat)(h1:T=S)(h2:AgC dp a8 tv F')(h3:sl F' 9=.int .i64 (m0+mg st f i n:Nat))(h4:sl F' 10=.int .i64 i)(h4':sl F' 11=.int .i64 k)(h4'':sl F' 12=.int .i64 n)(h5:n<=16)(h6:z=16-n):ag6H S dp a8 tv m0 st f i k z F' T:=⟨n,h1,h2,h3,h4,h4',h4'',h5,h6⟩
def ag8H(S:AS)(dp a8:Nat)(tv:Int)(m0:Nat)(st:List (Int×Nat))(i k n:Nat)(z:Nat)(F':Fr)(S':AS):Prop:=∃m:Nat,S'=S/\AgC dp a8 tv F'/\sl F' 9=.int .i64 m0/\sl F' 10=.int .i64 i/\sl F' 11=.int .i64 k/\sl F' 12=.int .i64 n/\sl F' 13=.int .u64 (mY (st.take m) (n:Nat):Nat)/\sl F' 14=.int .i64 m/\m<=st.length/\z=st.length-m
theorem CE{dp a8:Nat}{tv:Int}{m0:Nat}{st:List (Int×Nat)}{i k n z:Nat}{F':Fr}(m:Nat)(h1:T=S)(h2:AgC dp a8 tv F')(h3:sl F' 9=.int .i64 m0)(h4:sl F' 10=.int .i64 i)(h4':sl F' 11=.int .i64 k)(h4'':sl F' 12=.int .i64 n)(h7:sl F' 13=.int .u64 (mY (st.take m) (n:Nat):Nat))(h8:sl F' 14=.int .i64 m)(h5:m<=st.length)(h6:z=st.length-m):ag8H S dp a8 tv m0 st i k n z F' T:=⟨m,h1,h2,h3,h4,h4',h4'',h7,h8,h5,h6⟩
theorem sub_right{P:PB}(hg:eV P){s:zt}(h:s∈iH P 8):eh s.st=true:=by
 obtain⟨i,hi,e⟩:=List.mem_filterMap.1 h;have hi:=List.mem_range.1 hi;unfold sbO at e;cases ex:P.ar i with
 |none=>rw[ex]at e;cases e
 |some x=>
  rw[ex]at e;cases e;exact (hg.ar i x hi ex).st
theorem base_cur(f:Nat->Nat):jj (gR f)=true:=by
 unfold gR;generalize List.range 128=l
 induction l with
 |nil=>rfl
 |cons a l ih=>simp[jj,jr,ih]
theorem base_sl{n:Nat}{a:AV}(h:isSl n a=true):jr a=true:=by cases a<;>simp_all[isSl,jr]
theorem base_he{a b:AV}{f:Nat->Nat}(ha:isSl 3 a=true)(hb:isSl 4 b=true):jj (lO a b f)=true:=by
 show (jr a&&(jr b&&jj (gR f)))=true;rw[base_sl ha,base_sl hb,base_cur];rfl
@[simp] theorem cv5_3:jY C1 5 3=some .i64:=by kernel_rfl
structure AgO(S2:AS)(lo hi:Nat)(P0:PB)(dp i:Nat)(D:Dk)(P:PB)(rs:List Rec)(S':AS):Prop where
 gL:bh S' D
 dp:D.dp=dp
 yA:Sto D.pd P rs
 len:rs.length<=141
 same:kF P P0
 aI:P.aI=i+1
 bB:∀id,D.bB id->id<lo\/hi<=id
 cg:∀id,lo<=id->id<hi->S'.h.get id=S2.h.get id
 next:hi<=S'.next
def ag10H(S2:AS)(lo hi:Nat)(P0:PB)(dp a8 r M:Nat)(tv:Int)(z:Nat)(F':Fr)(S':AS):Prop:=
 ∃(i:Nat)(D:Dk)(P:PB)(rs:List Rec),AgO S2 lo hi P0 dp i D P rs S'/\AgC dp a8 tv F'/\sl F' 9=.int .i64 M/\sl F' 15=.int .i64 i/\i<=r+1/\z=r+1-i
theorem FX{S2:AS}{lo hi:Nat}{P0:PB}{dp a8 r M:Nat}{tv:Int}{z:Nat}{F':Fr}(i:Nat)(D:Dk)(P:PB)(rs:List Rec)(h1:AgO S2 lo hi P0 dp i D P rs T)(h2:AgC dp a8 tv F')(h3:sl F' 9=.int .i64 M)(h4:sl F' 15=.int .i64 i)(h5:i<=r+1)(h6:z=r+1-i):ag10H S2 lo hi P0 dp a8 r M tv z F' T:=⟨i,D,P,rs,h1,h2,h3,h4,h5,h6⟩
theorem AgO.open{S2:AS}{lo hi:Nat}{P0:PB}{dp i:Nat}{D:Dk}{P:PB}{rs:List Rec}{S':AS}(h:AgO S2 lo hi P0 dp i D P rs S')(hg0:eV P0)(hi5:i<=10):
  ∃(X:cV)(T:AS)(Q:PB),(∀R:AV->AS->Prop,ai C1 13 [.ptr dp 0 0 4] S' R=R (.tuple [.ptr X.b 0 0 27,.int .i64 0]) T)/\bN T X/\X.pure=P.de (i+2)/\X.db=(gD P0).length /\
   (∀U,Sub T U->AgO S2 lo hi P0 dp (i+1) X.D Q (gD (P.de (i+2))) U)/\(∀id,lo<=id->id<hi->T.h.get id=S2.h.get id)/\hi<=T.next/\kF X.pure P0:=by
 have hlen:=h.len;have ub:=jD rs;have hg:=h.yA.BY;have hlf:=h.aI;have hg1:=hg.aI (P.aI+1);have hw:=allR_wr hg1 (by show P.aI+1<=_;omega);obtain⟨w1,Q,q1,q2,q3⟩:=Sto.open (P:=P) (.inr h.yA.gL) (by rw[aD];omega) hg (by omega);have okD:=h.yA.gL.ok (by rw[aD];omega);obtain⟨v,T,⟨X,hO,_,hX⟩,e13⟩:=(open13 h.gL okD h.yA.gL.reads h.yA.wr (by omega) h.yA.play (by omega) hg1.pbok (fun r hr=>(hw r hr).st8) h.yA.gL.noN).ex;obtain⟨rfl,sJ⟩:=hX w1;rw[h.dp]at e13;have e1:P.aI+1=i+2:=by omega
 rw[e1]at q1 q3 sJ;have hpu:=hO.pure;rw[e1]at hpu;have hsame:kF X.pure P0:=by rw[hpu];exact⟨h.same.ar,h.same.bR⟩
 have hn:=h.next
 have BW:=hO.next
 have pC:∀id,lo<=id->id<hi->T.h.get id=S2.h.get id:=fun id h1 h2=>(hO.cg id (by omega) (fun hf=>by have:=h.bB id hf;omega)).trans (h.cg id h1 h2);refine⟨X,T,Q,e13,hO.at_,hpu,?_,fun U hU=>⟨(hO.at_.toSub hU).gL,hO.dp.trans h.dp,by rw[hO.pd];exact q1,FW (hg.aI _),q2.trans h.same,by omega,fun id hf=>?_,fun id h1 h2=>(hU.h id (by omega)).trans (pC id h1 h2),by have:=hU.next;omega⟩,pC,by omega,hsame⟩
 .rw[sJ,vS (hg.aI _),vS hg0,same_cnt (show kF (P.de (i+2)) P0 from⟨h.same.ar,h.same.bR⟩)]
 .by_cases bY:id<S'.next
  .exact h.bB id (hO.bB id bY (.inr (.inl hf)))
  .omega
set_option maxRecDepth 20000 in
theorem law4(hA:seg.AI){w0:AV}{ops:List CV}{tn:Nat}(h:OpsAt S w0 ops)(ht:tn<256):ai C1 4 [w0,.int .u8 (tn:Int)] S fun v T=>v=.bool true:=by
 obtain⟨v,T0,⟨X0,rfl,b1,b2,b3,b4,b5,b6,b7⟩,e7⟩:=(opened7 S newP_ok.1).ex;obtain⟨tv,htv⟩:∃tv:Int,tv=(tn:Int):=⟨_,rfl⟩
 rw[<-htv];have u1:=h.sl.sl;have u2:=h.sl.aM Bq (by omega);have uo:=h.sl.ok;have uk:=aj h.sl;have m0:AgM S 0 X0 [fK 1] T0:=⟨b1,by
  have:(dH (qT 1048576) (qI gO)).2.ok:=CY.gL.ok (by rw[aD];have:=jD [fK 1];simp at this;omega);rw[b2];exact this,by omega,b6,b5,by rw[b2,b4];exact CY,Nat.le_refl _,by rw[b4];rfl⟩
 refine aX (cD _) (cG _ rfl) fn4 rfl ok4 (by simp) fun F hn s0 s1=>?_;rw[nt4]at hn;simp[-mB,s0,aR,e7];refine cut_of (agE S tv) ?_ ?_
 case refine_2=>
  clear s0 s1 hn m0 b1 b2 b3 b4 b5 b6 b7 e7;rintro F1 S1 ⟨X,rs,hM,⟨t1,t6,hn⟩,t5⟩;obtain⟨_,T1,⟨u,H,rfl,c1,c2⟩,e8⟩:=(holds8 hM.at_).ex;have e8':∀Q:AV->AS->Prop,ai C1 8 [.ptr X.b 0 0 27] S1 Q=Q (.agg (lO H.sw H.aw H.f)) T1:=e8;obtain⟨a8,ha8⟩:∃a,a=T1.next:=⟨_,rfl⟩
  obtain⟨S2,c7⟩:∃S2:AS,S2=⟨(T1.h.set a8 (.row zH 0 0 false 40)).set a8 (.row (lO H.sw H.aw H.f) 0 0 false 40),a8+1⟩:=⟨_,rfl⟩
  have s2:Sub T1 S2:=by rw[c7,ha8];exact seg.fO
  have g8:S2.h.get a8=some (.row (lO H.sw H.aw H.f) 0 0 false 40):=by rw[c7];exact aa _ _ _
  have n2:S2.next=a8+1:=by rw[c7]
  have w2:AM (⟨T1.h.set a8 (.row zH 0 0 false 40),a8+1⟩:AS) (.ptr a8 0 0 130) (lO H.sw H.aw H.f)=some S2:=by rw[c7];exact st_held (aa _ _ _) zH_len (eX _ _ _)
  clear c7;have Q1:=c1.sbs.ql.subS s2;have Q2:=c1.bR.ql.j8 s2;have kL:H.L.length<=8:=by have:=congrArg List.length c2.sbs;have h2:=tC X.pure 8;rw[List.length_map]at this;omega
  have kA:H.A.length<=4:=by have:=congrArg List.length c2.bR;have h2:=ya X.pure 4;rw[List.length_map]at this;omega
  have v1:sLen H.sw=H.L.length:=Q1.sl.aM hJ (by omega);have v2:sLen H.aw=H.A.length:=Q2.sl.aM oc (by omega);have v3:=Q1.sl.sl;have v4:=Q2.sl.sl;have ls:=ld_sw g8;have la:=ld_aw g8;have k1:=aj Q1.sl;have k2:=aj Q2.sl;have ad1:IntKind.i64.wrap (1+(H.L.length:Int))=((1+H.L.length:Nat):Int):=by rw[show (1+(H.L.length:Int))=((1+H.L.length:Nat):Int) by omega];exact IntWalk.i64_in _ (by omega)
  have ad2:IntKind.i64.wrap (((1+H.L.length:Nat):Int)+(H.A.length:Int))=((1+H.L.length+H.A.length:Nat):Int):=by rw[show (((1+H.L.length:Nat):Int)+(H.A.length:Int))=((1+H.L.length+H.A.length:Nat):Int) by omega];exact IntWalk.i64_in _ (by omega)
  obtain⟨m1,hm1⟩:∃m,m=1+H.L.length:=⟨_,rfl⟩
  obtain⟨m0,hm0⟩:∃m,m=1+H.L.length+H.A.length:=⟨_,rfl⟩
  rw[<-hm0]at ad2;rw[<-hm1]at ad1 ad2;obtain⟨nl,yu⟩:∃n,n=H.L.length:=⟨_,rfl⟩
  obtain⟨na,hna⟩:∃n,n=H.A.length:=⟨_,rfl⟩
  rw[<-yu]at ad1 v1;rw[<-hna]at ad2 v2;simp[-mB,qp,t1,t5,t6,aR,e8',<-ha8,zH_len,eX,w2,ls,la,v1,v2,v3,v4,k1,k2,ad1,ad2];refine cut_of (fun F' S'=>S'=S2/\AgC X.D.dp a8 tv F'/\sl F' 9=.int .i64 (m0+ew (H.L.map lM.pure) H.f 8:Nat)) ?_ ?_
  case refine_2=>
   have hD0:=(hM.at_.gL.sub u).sub s2;have iZ:∀id,X.D.bB id->id<S1.next\/a8+1<=id:=fun id hf=>.inl (hM.at_.gL.lt hf)
   have hla:S1.next<=a8:=by rw[ha8];exact u.next
   have mny:m0+ew (H.L.map lM.pure) H.f 8=(gD X.pure).length:=by
    have h1:=congrArg List.length c2.sbs;have h2:=congrArg List.length c2.bR;rw[List.length_map]at h1 h2;rw[<-many_eq hM.yA.BY,c2.sbs,c2.cur,hm0,h1,h2]
   rw[mny];have hlen:=hM.len;have hO0:AgO S2 S1.next (a8+1) X.pure X.D.dp 0 X.D X.pure rs S2:=⟨hD0,rfl,hM.yA,by omega,kF.refl _,hM.aI,iZ,fun _ _ _=>rfl,by omega⟩
   have hsb:F7 T1 S1.next H.sw H.L:=c1.sbs
   have had:AdsAt T1 S1.next H.aw H.A:=c1.bR
   have iP:∀id,id<a8->S2.h.get id=T1.h.get id:=fun id hi=>s2.h id (by omega);have e1:=c2.sbs;have e2:=c2.bR;have e3:=c2.cur;have hgood:=hM.yA.BY;obtain⟨P0,hP0⟩:∃P,P=X.pure:=⟨_,rfl⟩
   obtain⟨dp,hdp⟩:∃d,d=X.D.dp:=⟨_,rfl⟩
   obtain⟨M,hMM⟩:∃M,M=(gD X.pure).length:=⟨_,rfl⟩
   rw[<-hMM];rw[<-hP0]at hMM hO0 e1 e2 e3 hgood;rw[<-hdp]at hO0⊢;obtain⟨lo,qu⟩:∃l,l=S1.next:=⟨_,rfl⟩
   rw[<-qu]at hO0 hsb had hla;clear mny hlen iZ hD0 Q1 Q2 e8 e8' w2 ls la v1 v2 k1 k2 ad1 ad2 hM c1 c2 t1 t5 t6 hn hP0;rintro F3 S3 ⟨rfl,C3,t9⟩;obtain⟨r,hr⟩:∃r,r=tn%5:=⟨_,rfl⟩
   have hr4:r<=4:=by omega
   have hrem:tv.tmod 5=(r:Int):=by rw[htv,hr];rfl
   have mj:IntKind.i64.wrap (r:Int)=(r:Int):=IntWalk.i64_in _ (by omega);obtain⟨t1,t6,t8,hn⟩:=C3;simp[-mB,qp];refine aH (ag10H S3 lo (a8+1) P0 dp a8 r M tv) (r+1) (FX 0 _ _ _ hO0 ⟨by simp[t1],by simp[t6],by simp[t8],by simp[hn]⟩ (by simp[t9]) (by simp) (Nat.zero_le _) rfl) ?_;clear t1 t6 t8 t9 hn hO0;rintro z F4 S4-⟨i,D,P,rs,hO,⟨t1,t6,t8,hn⟩,t9,t15,hi,hz⟩;by_cases hir:i<=r
   .have hirI:(i:Int)<=r:=by omega
    obtain⟨X',T,Q,e13,b1,b2,b3,b4,b5,b6,b7⟩:=hO.open hgood (by omega);obtain⟨_,T2,⟨u2,H',rfl,d1,d2⟩,e8⟩:=(holds8 b1).ex;have e8':∀Q:AV->AS->Prop,ai C1 8 [.ptr X'.b 0 0 27] T Q=Q (.agg (lO H'.sw H'.aw H'.f)) T2:=e8;obtain⟨x1,x2,x3⟩:=same_subs b7;have far:∀id,lo<=id->id<a8->T2.h.get id=T1.h.get id:=fun id h1 h2=>(u2.h id (by omega)).trans ((b5 id h1 (by omega)).trans (iP id h2));have BW:=u2.next
    have y1:=hsb.far (T:=T2) vw (fun id h1 h2=>far id h1 (by omega)) (by omega);have y2:=had.far (T:=T2) tq (fun id h1 h2=>far id h1 (by omega)) (by omega);have kL':H'.L.length<=8:=by have:=congrArg List.length d2.sbs;have h2:=tC X'.pure 8;rw[List.length_map]at this;omega
    have kA':H'.A.length<=4:=by have:=congrArg List.length d2.bR;have h2:=ya X'.pure 4;rw[List.length_map]at this;omega
    have hff:H'.f=H.f:=by rw[d2.cur,e3,x3]
    obtain⟨_,T5,⟨u5,rfl⟩,e10⟩:=(alike10 (f:=H'.f) d1.sbs.ql y1 d1.bR.ql y2 (by rw[d2.sbs,e1,x1]) (by rw[d2.bR,e2,x2]) kL' kA').ex;rw[show lO H.sw H.aw H'.f=lO H.sw H.aw H.f by rw[hff]]at e10;have g8T:T.h.get a8=some (.row (lO H.sw H.aw H.f) 0 0 false 40):=(b5 a8 hla (by omega)).trans g8;have g8T2:=(u2.h a8 (by omega)).trans g8T;have ld1:=ld_part g8T;have ld2:=ld_part g8T2;have hX5:=(b1.toSub u2).toSub u5;have e14:=life14 hX5;have e15:=recs15 hX5;have Ad:X'.aI=i+2:=congrArg PB.aI b2;rw[b3,<-hMM]at e15;have e14':∀Q:AV->AS->Prop,ai C1 14 [.ptr X'.b 0 0 27] T5 Q=Q (.int .u64 ((i:Int)+2)) T5:=by
     rw[Ad]at e14;exact e14
    have wi:IntKind.u64.wrap (i:Int)=(i:Int):=eC (by omega);have wi2:IntKind.u64.wrap ((i:Int)+2)=(i:Int)+2:=by rw[show ((i:Int)+2)=((i+2:Nat):Int) by omega];exact eC (by omega)
    have kh:=aW (i:=i) (by omega);have hO':=b4 T5 (u2.trans u5);simp[t1,t6,t8,t9,t15,hrem,mj,hirI,hir,aR,e13];refine cO [.p,.p,.p,.p,.e [],.r 1 0,.e [],.p,.p,.p,.p,.e [],.p,.p,.p,.p,.p,.p,.p,.e [],.p,.p,.p] (n:=179) (by kernel_rfl) (by simp[hn]) ?_;simp[t1,t6,t8,t9,t15,aR,e8',ld1,ld2,e10,e14',e15,wi,wi2,kh];refine⟨base_he v3 v4,?_⟩;exact⟨r+1-(i+1),by omega,FX (i+1) _ _ _ hO' ⟨by simp[t1],by simp[t6],by simp[t8],by simp[hn]⟩ (by simp[t9]) (by simp) (by omega) rfl⟩
   .have hirI:¬(i:Int)<=r:=by omega
    obtain⟨v,T,⟨gA,lE⟩,e16⟩:=(names23 hO.gL (by
     obtain⟨_,_,_,f,q⟩:=hO.yA.gL;have:=congrArg List.length q;have e:D.pd.fs.length=D.fs.length:=List.length_map _;simp at this;omega) hO.yA.gL.off).ex
    have hso:D.sorted=[cu]:=by
     obtain⟨_,_,_,f,q⟩:=hO.yA.gL;have e:D.fs.map (·.name)=[cu]:=by
      have:(D.pd.fs).map (·.name)=[cu]:=by rw[q];rfl
      rw[show D.pd.fs=D.fs.map Fl.pf from rfl,List.map_map]at this;exact this
     unfold Dk.sorted;rw[e];simp
    rw[hso]at gA;have gA:Sl T v 1 [.str cu]:=gA;rw[hO.dp]at e16;have n1:=gA.sl;have n2:sLen v=1:=by rw[gA.fC];rfl
    have n3:=gA.np;have n4:=aj gA;have n5:=fQ (cx:=C1) (e:=9) (k:=0) gA rfl ag9;have nn:re [98,111,111,107] [98,111,111,107]=true:=by decide
    simp[t1,t6,t8,t9,t15,hrem,mj,hirI,hir,aR,e16,n1,n2,n3,n4,n5,cu,nn,awake7 hA]
  simp;have hrt:∀s,s∈H.L->eh s.st=true:=fun s hs=>sub_right hM.yA.BY (s:=s.pure) (by rw[<-c2.sbs];exact List.mem_map.2 ⟨s,hs,rfl⟩);have q1:=Q1.sl;have qe:=Q1.el;have aL:=allL_le (H.L.map lM.pure) H.f (by rw[List.length_map];exact kL);have rL:=Ba (H.L.map lM.pure) H.f;obtain⟨dp,hdp⟩:∃d,d=X.D.dp:=⟨_,rfl⟩
  rw[<-hdp]at t6;obtain⟨L,hL⟩:∃L,L=H.L.map lM.pure:=⟨_,rfl⟩
  rw[<-hL]at aL rL;have hLl:L.length=nl:=by rw[hL,List.length_map,yu]
  have hm0':m0<=13:=by omega
  refine aH (ag2H S2 dp a8 tv m0 L H.f) 8 (ag2H_mk 0 rfl ⟨by simp[t1],by simp[t6],by simp,by simp[hn]⟩ (by simp[ew]) (by simp) (by omega) rfl) ?_;clear t1 t5 t6 hn e8 e8' w2 c1 Q2;rintro z2 F3 S3-⟨i,rfl,⟨t1,t6,t8,hn⟩,t9,t10,hi8,hz2⟩;have kh:=aW (i:=i) (by omega);obtain⟨M2,hM2⟩:∃M,M=m0+ew L H.f i:=⟨_,rfl⟩
  rw[<-hM2]at t9;have bM2:M2<=13+i*128:=by have:=aL i;omega
  by_cases hi:i<8
  case neg=>
   obtain rfl:i=8:=by omega
   simp[t9,t10];rw[<-hdp];exact⟨⟨by simp[t1],by simp[t6],by simp[t8],by simp[hn]⟩,by rw[<-hL];omega⟩
  have jC:(i:Int)<8:=by omega
  simp[t9,t10,hi,jC];refine aH (ag4H S3 dp a8 tv M2 L H.f i) L.length (CG 0 rfl ⟨by simp[t1],by simp[t6],by simp[t8],by simp[hn]⟩ (by simp[t9,rz]) (by simp[t10]) (by simp) (Nat.zero_le _) rfl) ?_;clear t1 t6 t8 t9 t10 hn;rintro z4 F4 S4-⟨k,rfl,⟨t1,t6,t8,hn⟩,t9,t10,t11,hk,hz4⟩;have hwk:=aW (i:=k) (by omega);obtain⟨M4,hM4⟩:∃M,M=M2+rz L H.f i k:=⟨_,rfl⟩
  rw[<-hM4]at t9;have bM4:M4<=13+i*128+k*16:=by have:=rL i k;omega
  by_cases vk:k<nl
  case neg=>
   have hkI:¬(k:Int)<nl:=by omega
   obtain rfl:k=L.length:=by omega
   have q:((M4:Nat):Int)=((m0+ew L H.f (i+1):Nat):Int):=by rw[AE];omega
   simp[t8,t9,t10,t11,ls,v1,v3,vk,hkI,kh];exact⟨8-(i+1),by omega,ag2H_mk (i+1) rfl ⟨by simp[t1],by simp[t6],by simp[t8],by simp[hn]⟩ (by rw[<-q];simp[t9]) (by simp) (by omega) rfl⟩
  have hkI:(k:Int)<nl:=by omega
  obtain⟨a,hx⟩:∃t,H.L[k]?=some t:=⟨_,List.getElem?_eq_getElem (by omega)⟩
  have am:=List.mem_of_getElem? hx;have hLx:L[k]?=some a.pure:=by rw[hL,List.getElem?_map,hx];rfl
  have kD:xP L H.f i k=if a.id=(i:Int) then mg a.st H.f i 16 else 0:=by unfold xP;rw[hLx];rfl
  have dc:=zD L H.f i k;rw[kD]at dc;have l1:=dF (cx:=C1) (e:=3) (o:=0) q1 hJ (by omega) hx (y:=.int .i64 a.id) rfl ag3;have l2:=dF (cx:=C1) (e:=48) (o:=2) q1 hJ (by omega) hx (y:=a.sv) rfl ag48;have p1:=lY (k:=k) v3 (by omega);have f0:fV (j5 H.sw k) (some 0)=some (oa (j5 H.sw k) 0):=c8 p1;have f2:fV (j5 H.sw k) (some 2)=some (oa (j5 H.sw k) 2):=c8 p1;by_cases bY:a.id=(i:Int)
  case neg=>
   rw[if_neg bY]at dc;have q:((M4:Nat):Int)=((M2+rz L H.f i (k+1):Nat):Int):=by rw[dc];omega
   simp[t8,t9,t10,t11,ls,v1,v3,k1,vk,hkI,p1,f0,l1,bY,hwk];exact⟨L.length-(k+1),by omega,CG (k+1) rfl ⟨by simp[t1],by simp[t6],by simp[t8],by simp[hn]⟩ (by rw[<-q];simp[t9]) (by simp[t10]) (by simp) (by omega) rfl⟩
  rw[if_pos bY]at dc;have ast:=(qe a am).2.1;have a8l:=(qe a am).2.2.2;have ars:=oX (hrt a am);have w1:sLen a.sv=a.st.length:=ast.aM encT_len (by omega);have w3:=ast.sl;have k3:=aj ast;obtain⟨ns,hns⟩:∃n,n=a.st.length:=⟨_,rfl⟩
  rw[<-hns]at w1;simp[t8,t9,t10,t11,ls,v1,v3,k1,vk,hkI,p1,f0,l1,bY];refine aH (ag6H S4 dp a8 tv M4 a.st H.f i k) 16 (CF 0 rfl ⟨by simp[t1],by simp[t6],by simp[t8],by simp[hn]⟩ (by simp[t9,mg]) (by simp[t10]) (by simp[t11]) (by simp) (Nat.zero_le _) rfl) ?_;clear t1 t6 t8 t9 t10 t11 hn;rintro z6 F6 S6-⟨n,rfl,⟨t1,t6,t8,hn⟩,t9,t10,t11,t12,hn16,hz6⟩;have hwn:=aW (i:=n) (by omega);obtain⟨M6,hM6⟩:∃M,M=M4+mg a.st H.f i n:=⟨_,rfl⟩
  rw[<-hM6]at t9;have bM6:M6<=2000:=by have:=offL_le a.st H.f i n;omega
  by_cases h16:n<16
  case neg=>
   obtain rfl:n=16:=by omega
   have q:((M6:Nat):Int)=((M2+rz L H.f i (k+1):Nat):Int):=by rw[dc];omega
   simp[t8,t9,t10,t11,t12,hwk];exact⟨L.length-(k+1),by omega,CG (k+1) rfl ⟨by simp[t1],by simp[t6],by simp[t8],by simp[hn]⟩ (by rw[<-q];simp[t9]) (by simp[t10]) (by simp) (by omega) rfl⟩
  have hnI:(n:Int)<16:=by omega
  simp[t8,t9,t10,t11,t12,h16,hnI];refine aH (ag8H S6 dp a8 tv M6 a.st i k n) ns (CE 0 rfl ⟨by simp[t1],by simp[t6],by simp[t8],by simp[hn]⟩ (by simp[t9]) (by simp[t10]) (by simp[t11]) (by simp[t12]) (by simp[mY]) (by simp) (Nat.zero_le _) (by omega)) ?_;clear t1 t6 t8 t9 t10 t11 t12 hn;rintro z8 F8 S8-⟨m,rfl,⟨t1,t6,t8,hn⟩,t9,t10,t11,t12,t13,t14,hmst,hz8⟩;have hwm:=aW (i:=m) (by omega);have hw9:=aW (i:=M6) (by omega);obtain⟨fr,iY⟩:∃fr,fr=mY (a.st.take m) (n:Nat):=⟨_,rfl⟩
  rw[<-iY]at t13;by_cases hms:m<ns
  .have hmI:(m:Int)<ns:=by omega
   obtain⟨t,htx⟩:∃t,a.st[m]?=some t:=⟨_,List.getElem?_eq_getElem (by omega)⟩
   have tm:=ars.2 t (List.mem_of_getElem? htx);have jV:=fromL_succ (q:=((n:Nat):Int)) htx;have r1:=dF (cx:=C1) (e:=3) (o:=0) (enc:=encT) ast encT_len (by decide) htx (y:=.int .i64 t.1) rfl ag3;have r2:=dF (cx:=C1) (e:=27) (o:=1) (enc:=encT) ast encT_len (by decide) htx (y:=.int .u64 t.2) rfl ag27;have p2:=lY (k:=m) w3 (by omega);have g0:fV (j5 a.sv m) (some 0)=some (oa (j5 a.sv m) 0):=c8 p2;have g1:fV (j5 a.sv m) (some 1)=some (oa (j5 a.sv m) 1):=c8 p2;have hwt:IntKind.u64.wrap ((t.2:Int)-1)=((t.2-1:Nat):Int):=by rw[show ((t.2:Int)-1)=((t.2-1:Nat):Int) by omega];exact eC (by omega)
   obtain⟨y,hy⟩:∃y,y=t.2-1:=⟨_,rfl⟩
   rw[<-hy]at hwt jV;by_cases htn:t.1=(n:Int)
   .rw[if_pos htn]at jV;simp[t8,t9,t10,t11,t12,t13,t14,ls,v1,v3,k1,vk,hkI,p1,f2,l2,w1,w3,k3,hms,hmI,p2,g0,g1,r1,r2,htn,hwt,hwm];exact⟨ns-(m+1),by omega,CE (m+1) rfl ⟨by simp[t1],by simp[t6],by simp[t8],by simp[hn]⟩ (by simp[t9]) (by simp[t10]) (by simp[t11]) (by simp[t12]) (by rw[jV];simp) (by simp) (by omega) (by omega)⟩
   .rw[if_neg htn,<-iY]at jV;simp[t8,t9,t10,t11,t12,t13,t14,ls,v1,v3,k1,vk,hkI,p1,f2,l2,w1,w3,k3,hms,hmI,p2,g0,g1,r1,r2,htn,hwt,hwm];exact⟨ns-(m+1),by omega,CE (m+1) rfl ⟨by simp[t1],by simp[t6],by simp[t8],by simp[hn]⟩ (by simp[t9]) (by simp[t10]) (by simp[t11]) (by simp[t12]) (by rw[jV];simp[t13]) (by simp) (by omega) (by omega)⟩
  .have hmI:¬(m:Int)<ns:=by omega
   have hmeq:m=a.st.length:=by omega
   rw[hmeq,List.take_length]at iY;have hof:=offL_succ a.st H.f i n;rw[<-iY]at hof;have lc:=ld_one (S:=S8) (B:=a8) (a:=H.sw) (b:=H.aw) (f:=H.f) g8 (m:=i*16+n) (by omega);rw[show 2+(i*16+n)=2+i*16+n by omega]at lc;obtain⟨c,hc⟩:∃c,c=H.f (i*16+n):=⟨_,rfl⟩
   rw[<-hc]at lc hof;by_cases hcf:c=fr
   .rw[if_neg (by rw[hcf];simp)]at hof;have q:((M6:Nat):Int)=((M4+mg a.st H.f i (n+1):Nat):Int):=by rw[hof];omega
    simp[t8,t9,t10,t11,t12,t13,t14,ls,v1,v3,k1,vk,hkI,p1,f2,l2,w1,w3,k3,hms,hmI,hi,jC,h16,hnI,lc,hcf,hwn];exact⟨16-(n+1),by omega,CF (n+1) rfl ⟨by simp[t1],by simp[t6],by simp[t8],by simp[hn]⟩ (by rw[<-q];simp[t9]) (by simp[t10]) (by simp[t11]) (by simp) (by omega) rfl⟩
   .rw[if_pos hcf]at hof;have hcI:¬((c:Int)=(fr:Int)):=by omega
    have q:((M6:Nat):Int)+1=((M4+mg a.st H.f i (n+1):Nat):Int):=by rw[hof];omega
    simp[t8,t9,t10,t11,t12,t13,t14,ls,v1,v3,k1,vk,hkI,p1,f2,l2,w1,w3,k3,hms,hmI,hi,jC,h16,hnI,lc,hcf,hcI,hwn,hw9];exact⟨16-(n+1),by omega,CF (n+1) rfl ⟨by simp[t1],by simp[t6],by simp[t8],by simp[hn]⟩ (by rw[<-q];simp) (by simp[t10]) (by simp[t11]) (by simp) (by omega) rfl⟩
 simp;refine aH (agH S w0 tv) 60 (CD 0 X0 _ m0 ⟨by simp[s0],by simp[s1],by simp,by simp,by simp,by simp[hn]⟩ (Nat.zero_le _) rfl) ?_;clear s0 s1 hn m0;rintro k F' S'-⟨i,X,rs,hM,⟨t0,t1,t5,t6,t7,hn⟩,hi,hk⟩;by_cases cq:i<ops.length/\i<60
 .obtain⟨hlen,hi60⟩:=cq;have hI:(i:Int)<ops.length:=by omega
  have hI60:(i:Int)<60:=by omega
  obtain⟨o,hx⟩:∃t,ops[i]?=some t:=⟨_,List.getElem?_eq_getElem hlen⟩
  have cJ:=h.el o (List.mem_of_getElem? hx);have CQ:=cZ (cx:=C1) (e:=34) (h.sl.toSub hM.sub) Bq (by omega) hx ag34 sz34;have hlw:=dF (cx:=C1) (e:=3) (o:=0) (h.sl.toSub hM.sub) Bq (by omega) hx (y:=.int .i64 o.kH) rfl ag3;have kh:=aW (i:=i) (by omega);have p1:=lY (k:=i) u1 (by omega);have f1:fV (j5 w0 i) (some 0)=some (oa (j5 w0 i) 0):=c8 p1;by_cases hw:o.kH<0
  .have hw0:¬0<=o.kH:=by omega
   simp[t0,t5,t6,t7,u1,u2,uo,uk,hlen,hI,hi60,hI60,p1,f1,hlw,hw0,kh];exact⟨60-(i+1),by omega,CD (i+1) X rs ⟨hM.at_,hM.ok,by have:=hM.db;omega,hM.wf,hM.sub,hM.yA,by have:=hM.len;omega,hM.aI⟩ ⟨by simp[t0],by simp[t1],by simp[t5],by simp[t6],by simp,by simp[hn]⟩ (by omega) rfl⟩
  have hw0:0<=o.kH:=by omega
  by_cases hw5:5<o.kH
  .have hw6:¬o.kH<6:=by omega
   have hw60:6<=o.kH:=by omega
   simp[t0,t5,t6,t7,u1,u2,uo,uk,hlen,hI,hi60,hI60,p1,f1,hlw,hw0,hw6,hw60,kh];exact⟨60-(i+1),by omega,CD (i+1) X rs ⟨hM.at_,hM.ok,by have:=hM.db;omega,hM.wf,hM.sub,hM.yA,by have:=hM.len;omega,hM.aI⟩ ⟨by simp[t0],by simp[t1],by simp[t5],by simp[t6],by simp,by simp[hn]⟩ (by omega) rfl⟩
  have hw6:o.kH<6:=by omega
  have hw60:¬6<=o.kH:=by omega
  obtain⟨v,U,iN,e9⟩:=(do9 hM.at_ hM.ok (by have:=hM.db;omega) (cJ.sub hM.sub) ⟨by omega,by omega⟩ (fun id hf hw=>by have:=PredAt.bB cJ.pred hf;have:=hM.wf id hw;omega)).ex;obtain⟨e,X',rs',rfl,hM',sQ,jq⟩:=hM.next hi60 iN
  simp[t0,t5,t6,t7,u1,u2,uo,uk,hlen,hI,hi60,hI60,p1,f1,hlw,CQ,hw0,hw6,hw60,kh,aR,e9];exact⟨60-(i+1),by omega,CD (i+1) X' rs' hM' ⟨by simp[t0],by simp[t1],by simp[t5,sQ],by simp[t6,jq],by simp,by simp[hn]⟩ (by omega) rfl⟩
 .have fin:agE S tv=agE S tv:=rfl;have hM60:AgM S 60 X rs S':=⟨hM.at_,hM.ok,by have:=hM.db;omega,hM.wf,hM.sub,hM.yA,by have:=hM.len;omega,hM.aI⟩
  by_cases hlen:i<ops.length
  .obtain rfl:i=60:=by omega
   have hI:(60:Int)<ops.length:=by omega
   simp[t0,t5,t6,t7,u1,u2,hlen,hI];exact⟨X,rs,hM60,⟨by simp[t1],by simp[t6],by simp[hn]⟩,by simp[t5]⟩
  .have hI:¬(i:Int)<ops.length:=by omega
   simp[t0,t5,t6,t7,u1,u2,hlen,hI];exact⟨X,rs,hM60,⟨by simp[t1],by simp[t6],by simp[hn]⟩,by simp[t5]⟩
end
open Go.Proofs.YtdknlbnljfdhgaaGreatDoor.mod (Val encV encV_len Con encC encC_len ConOk PredAt mayP mayC mayV setB sameB zeroV mayPred encT encT_len bare encM nget nput mget_encM mput_encM nget_nput nput_mem nget_mem predFoot idxI idx174)
noncomputable def flT(cx:Am.Cx)(t:TypeId):Option (List TypeId):=match bC cx t with|some (.struct fs)=>some (fs.toList.map (·.type))|_=>none
section
variable{cx:Am.Cx}
theorem Bd{S:AS}{m:Nat}{t:TypeId}{l:List TypeId}{x:List AV}(h:flT cx t=some l)(hx:bO cx S (m+1) t x):qx (aE cx) (bO cx S m) l x:=by
 unfold flT at h;split at h
 .rename_i fs hu;cases h;unfold bO at hx;simp only[hu]at hx;exact hx
 .cases h
theorem chunks{α:Type}{sz:Nat}{enc:α->List AV}{G:α->Prop}:∀(k:Nat)(cells:List AV),cells.length=k*sz->(∀i,i<k->∃a,(cells.drop (i*sz)).take sz=enc a/\G a)->∃l:List α,l.length=k/\cells=l.flatMap enc/\∀a,a∈l->G a
 |0,cells,h,_=>by
  rw[Nat.zero_mul]at h;exact⟨[],rfl,by rw[List.length_eq_zero_iff.1 h];rfl,fun a ha=>by cases ha⟩
 |k+1,cells,h,hc=>by
  obtain⟨a,e,g⟩:=hc 0 (by omega);rw[Nat.succ_mul]at h;obtain⟨l,h1,h2,h3⟩:=chunks (sz:=sz) (enc:=enc) (G:=G) k (cells.drop sz) (by rw[List.length_drop];omega) (fun i hi=>by
   obtain⟨b,e,g⟩:=hc (i+1) (by omega);refine⟨b,?_,g⟩;rw[<-e,List.drop_drop];congr 2;rw[Nat.succ_mul,Nat.add_comm])
  refine⟨a::l,by rw[List.length_cons,h1],?_,fun b hb=>?_⟩
  .rw[List.flatMap_cons,<-h2,<-e,Nat.zero_mul,List.drop_zero,List.take_append_drop]
  .rcases List.mem_cons.1 hb with rfl|hb
   .exact g
   .exact h3 b hb
theorem sl_of{S:AS}{m:Nat}{t e sz:Nat}{oC:List AV}(hu:bC cx t=some (.slice e))(hs:aE cx e=some sz)(h:bO cx S (m+1) t oC){α:Type}{enc:α->List AV}{G:α->Prop}(hz:∀a,(enc a).length=sz)
  (hel:∀x,bO cx S m e x->∃a,x=enc a/\G a):∃(u:AV)(l:List α),oC=[u]/\Sl S u sz (l.flatMap enc)/\(∀a,a∈l->G a)/\l.length<=maxLen/\∀bs,bytesOf cx e=some bs->l.length*bs<=reachBytes:=by
 unfold bO at h;simp only[hu]at h;rcases h with rfl|⟨id,len,cap,sz',rfl,h1,h2,h3,h4,hb,h5,h6⟩
 .exact⟨_,[],rfl,Sl.nil,fun a ha=>(by cases ha),by simp,fun bs _=>by simp⟩
 .rw[hs]at h1;cases h1;rcases h6 with rfl|⟨cells,ty,g1,g2,g3⟩
  .obtain rfl:len=0:=by omega
   exact⟨_,[],rfl,⟨by simp[isSl,eu],rfl,by simp[sLen],h5⟩,fun a ha=>(by cases ha),by simp,fun bs _=>by simp⟩
  .obtain⟨l,k1,k2,k3⟩:=chunks cap cells g2 fun i hi=>hel _ (g3 i hi);subst k2;refine⟨_,l.take len,rfl,⟨by simp[isSl,eu,h3],?_,by rw[fm_len hz,List.length_take];simp only[sLen];congr 1;omega,h5⟩,fun a ha=>k3 a (List.mem_of_mem_take ha),by rw[List.length_take];omega,fun bs oo=>Nat.le_trans (Nat.mul_le_mul_right _ (by rw[List.length_take];omega)) (hb bs oo)⟩;cases len with
   |zero=>simp[jR]
   |succ len=>
    simp only[jR,dJ,g1,bt];rw[if_pos ⟨Nat.le_refl _,Nat.le_refl _,by rw[Nat.zero_add];exact Nat.mul_le_mul_right _ h3⟩,List.drop_zero,fm_take hz]
theorem argU8{S:AS}{m:Nat}{t:TypeId}{oC:List AV}(hu:bC cx t=some (.int .u8))(h:bO cx S (m+1) t oC):∃n:Nat,oC=[.int .u8 n]/\n<256:=by
 unfold bO at h;simp only[hu]at h;obtain⟨n,e,k1,k2⟩:=h;have nJ:IntKind.u8.max=255:=rfl;have sN:IntKind.u8.min=0:=rfl;rw[sN]at k1;rw[nJ]at k2;exact⟨n.toNat,by rw[e,Int.toNat_of_nonneg k1],by omega⟩
theorem rS{S:AS}{m:Nat}{t:TypeId}{oC:List AV}(hu:bC cx t=some (.int .i64))(h:bO cx S (m+1) t oC):∃n:Int,oC=[.int .i64 n]/\-9223372036854775808<=n/\n<9223372036854775808:=by
 unfold bO at h;simp only[hu]at h;obtain⟨n,e,k1,k2⟩:=h;have nJ:IntKind.i64.max=9223372036854775807:=rfl;have sN:IntKind.i64.min=-9223372036854775808:=rfl;rw[sN]at k1;rw[nJ]at k2;exact⟨n,e,k1,by omega⟩
theorem argU64{S:AS}{m:Nat}{t:TypeId}{oC:List AV}(hu:bC cx t=some (.int .u64))(h:bO cx S (m+1) t oC):∃n:Nat,oC=[.int .u64 n]/\n<18446744073709551616:=by
 unfold bO at h;simp only[hu]at h;obtain⟨n,e,k1,k2⟩:=h;have nJ:IntKind.u64.max=18446744073709551615:=rfl;have sN:IntKind.u64.min=0:=rfl;rw[sN]at k1;rw[nJ]at k2;exact⟨n.toNat,by rw[e,Int.toNat_of_nonneg k1],by omega⟩
theorem argSl{S:AS}{m:Nat}{t e:TypeId}{oC:List AV}(hu:bC cx t=some (.slice e))(h:bO cx S (m+1) t oC):∃u:AV,oC=[u]/\cellsOf u=some [u]/\okW u=true:=by
 unfold bO at h;simp only[hu]at h;rcases h with rfl|⟨id,len,cap,sz',rfl,_⟩
 .exact⟨_,rfl,rfl,rfl⟩
 .exact⟨_,rfl,rfl,rfl⟩
theorem argBool{S:AS}{m:Nat}{t:TypeId}{oC:List AV}(hu:bC cx t=some .bool)(h:bO cx S (m+1) t oC):∃b:Bool,oC=[.bool b]:=by
 unfold bO at h;simp only[hu]at h;exact h
theorem argStr{S:AS}{m:Nat}{t:TypeId}{oC:List AV}(hu:bC cx t=some .string)(h:bO cx S (m+1) t oC):∃s:List Nat,oC=[.str s]/\s.length<140737488355328/\∀c,c∈s->c<256:=by
 unfold bO at h;simp only[hu]at h;obtain⟨s,e,k1,k2⟩:=h;have:reachBytes=140737488351232:=rfl;exact⟨s,e,by omega,k2⟩
structure qE(cx:Am.Cx):Prop where
 un2:bC cx 2=some (.int .i64)
 un3:bC cx 3=some (.int .i64)
 un4:bC cx 4=some .bool
 sc:bC cx 9=some .string
 un27:bC cx 27=some (.int .u64)
 un22:bC cx 22=some (.slice 34)
 un29:bC cx 29=some (.slice 103)
 un30:bC cx 30=some (.slice 174)
 un31:bC cx 31=some (.slice 133)
 un32:bC cx 32=some (.slice 5)
 un101:bC cx 101=some (.slice 100)
 sz34:aE cx 34=some 8
 zy:aE cx 103=some 7
 sz174:aE cx 174=some 2
 Df:aE cx 100=some 4
 by174:bytesOf cx 174=some 16
 fl34:flT cx 34=some [3,3,3,27,29,30,31,32]
 fl103:flT cx 103=some [9,3,100,101]
 fl100:flT cx 100=some [3,2,9,4]
 fl174:flT cx 174=some [3,27]
 ag22:aG cx 22=some false
 un5:bC cx 5=some (.int .u8)
 ag5:aG cx 5=some false
theorem val_of(K:qE cx){S:AS}{m:Nat}{x:List AV}(h:bO cx S (m+2) 100 x):∃v:Val,x=encV v/\rk v:=by
 obtain⟨a,_,rfl,_,h1,b,_,rfl,_,h2,c,_,rfl,_,h3,d,_,rfl,_,h4,rfl⟩:=Bd K.fl100 h;obtain⟨k,rfl,_⟩:=rS K.un3 h1;obtain⟨n,rfl,n1,n2⟩:=rS K.un2 h2;obtain⟨s,rfl,s1,s2⟩:=argStr K.sc h3;obtain⟨b,rfl⟩:=argBool K.un4 h4;exact⟨⟨k,n,s,b⟩,rfl,n1,n2,s2⟩
theorem con_of(K:qE cx){S:AS}{m:Nat}{x:List AV}(h:bO cx S (m+4) 103 x):∃c:Con,x=encC c/\ConOk S c/\bX c:=by
 obtain⟨a,_,rfl,_,h1,b,_,rfl,_,h2,c,_,rfl,_,h3,d,_,rfl,_,h4,rfl⟩:=Bd K.fl103 h;obtain⟨s,rfl,s1,s2⟩:=argStr K.sc h1;obtain⟨k,rfl,_⟩:=rS K.un3 h2;obtain⟨v,rfl,v1⟩:=val_of K h3;obtain⟨u,l,rfl,g1,g0,g3,_⟩:=sl_of (enc:=encV) (G:=rk) K.un101 K.Df h4 encV_len (fun x hx=>val_of K hx);have se:maxLen=9223372036854775807:=rfl;exact⟨⟨s,k,v,u,l⟩,rfl,⟨g1,by show l.length<=_;omega⟩,v1,g0,s2⟩
theorem start_of(K:qE cx){S:AS}{m:Nat}{x:List AV}(h:bO cx S (m+2) 174 x):∃t:Int×Nat,x=encT t/\True:=by
 obtain⟨a,_,rfl,_,h1,b,_,rfl,_,h2,rfl⟩:=Bd K.fl174 h;obtain⟨k,rfl,_⟩:=rS K.un3 h1;obtain⟨n,rfl,_⟩:=argU64 K.un27 h2;exact⟨(k,n),rfl,trivial⟩
theorem op_of(K:qE cx){S:AS}{m:Nat}{x:List AV}(h:bO cx S (m+6) 34 x):∃o:CV,x=o.c/\OpAt S o:=by
 obtain⟨a,_,rfl,_,h1,b,_,rfl,_,h2,c,_,rfl,_,h3,d,_,rfl,_,h4,e,_,rfl,_,h5,f,_,rfl,_,h6,g,_,rfl,_,h7,i,_,rfl,_,h8,rfl⟩:=Bd K.fl34 h;obtain⟨w,rfl,_⟩:=rS K.un3 h1;obtain⟨id,rfl,_⟩:=rS K.un3 h2;obtain⟨pub,rfl,_⟩:=rS K.un3 h3;obtain⟨n,rfl,n1⟩:=argU64 K.un27 h4;obtain⟨p,cs,rfl,p1,p2,p3,_⟩:=sl_of (enc:=encC) (G:=fun c=>ConOk S c/\bX c) K.un29 K.zy h5 encC_len (fun x hx=>con_of K hx);obtain⟨sv,st,rfl,s1,_,_,s3⟩:=sl_of (enc:=encT) (G:=fun _=>True) K.un30 K.sz174 h6 encT_len (fun x hx=>start_of K hx);obtain⟨kv,rfl,k1⟩:=argSl K.un31 h7;obtain⟨tv,rfl,t1⟩:=argSl K.un32 h8;have se:maxLen=9223372036854775807:=rfl;have hb:=s3 16 K.by174;have hrb:reachBytes=140737488351232:=rfl;exact⟨⟨w,id,pub,n,p,cs,sv,st,kv,tv⟩,rfl,⟨p1,fun c hc=>(p2 c hc).1,by show cs.length<=_;omega⟩,fun c hc=>(p2 c hc).2,s1,by show st.length*16<=_;omega,n1,k1,t1⟩
theorem args22_5(K:qE cx){S:AS}{m:Nat}{aY:List AV}(h:mE cx S (m+7) [22,5] aY):∃(v:AV)(n:Nat)(ops:List CV),aY=[v,.int .u8 n]/\OpsAt S v ops/\n<256:=by
 obtain⟨a1,r1,rfl,h1,a2,r2,rfl,h2,rfl⟩:=h;obtain⟨u,l,rfl,g1,g0,_,_⟩:=sl_of (G:=OpAt S) (enc:=CV.c) K.un22 K.sz34 h1 Bq (fun x hx=>op_of K hx);obtain⟨n,rfl,hn⟩:=argU8 K.un5 h2;exact⟨u,n,l,by simp only[argA,K.ag22,K.ag5,Dz],⟨g1,g0⟩,hn⟩
end
theorem bkFacts:qE C1:=⟨by kernel_rfl,by kernel_rfl,by kernel_rfl,by kernel_rfl,by kernel_rfl,by kernel_rfl,by kernel_rfl,by kernel_rfl,by kernel_rfl,by kernel_rfl,by kernel_rfl,by kernel_rfl,by kernel_rfl,by kernel_rfl,by kernel_rfl,by kernel_rfl,by kernel_rfl,by kernel_rfl,by kernel_rfl,by kernel_rfl,by kernel_rfl,by kernel_rfl,by kernel_rfl⟩
theorem lawAgain(hA:seg.AI)(S:AS)(aY:List AV)(h:mE C1 S 8 [22,5] aY):ai C1 4 aY S fun v _=>v=.bool true:=by
 obtain⟨v,n,ops,rfl,hv,hn⟩:=args22_5 (m:=1) bkFacts h;exact law4 hA hv hn
end Go.Proofs.YtdknlbnljfdhgaaGreatDoor.bk
