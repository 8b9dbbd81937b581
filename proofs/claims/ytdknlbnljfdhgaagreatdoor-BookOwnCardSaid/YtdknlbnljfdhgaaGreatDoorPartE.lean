/-
  A change that is laid behind the file.
-/
import Derived.Test.YtdknlbnljfdhgaaGreatDoorPartD
namespace Go.Proofs.YtdknlbnljfdhgaaGreatDoor.bk
open Go Go.Am Go.Proofs.YtdknlbnljfdhgaaGreatDoor.dk
open Go.Proofs.YtdknlbnljfdhgaaGreatDoor.mod (Val encV encV_len Con encC encC_len ConOk PredAt mayP mayC mayV setB sameB zeroV mayPred encT encT_len bare encM nget nput mget_encM mput_encM nget_nput nput_mem nget_mem predFoot idxI idx174)
set_option linter.unusedVariables false
set_option linter.unusedSimpArgs false
def Aw (l:List Nat):Prop:=∀ c,c∈l→c<256
theorem Aw.app {a b:List Nat} (h:Aw a) (k:Aw b):Aw (a++b):=fun c hc=>by
 rcases List.mem_append.1 hc with hc|hc
 ·exact h c hc
 ·exact k c hc
theorem Aw.nil:Aw []:=fun c hc=>by cases hc
theorem de (n:Nat):Aw (cD n):=numB_lt n
theorem vI {s:List Nat} (h:Aw s):Aw (mW s):=(de _).app h
theorem xY {α:Type} {f:α→List Nat} {l:List α} (h:∀ a,a∈l→Aw (f a)):Aw (l.flatMap f):=fun c hc=>by
 obtain ⟨a,ha,hc⟩:=List.mem_flatMap.1 hc;exact h a ha c hc
theorem Ak {a:Val} (h:yl a):Aw (iI a):=by
 unfold iI bodyB;refine (de _).app ?_;split
 ·exact de _
 ·split
  ·exact vI h.2.2
  ·split
   ·exact de _
   ·exact Aw.nil
theorem byt_cons {c:Con} (h:fA c):Aw (oJ c):=by
 unfold oJ;refine ((vI h.2.2).app (de _)).app ?_;split
 ·exact Aw.nil
 ·split
  ·exact (de _).app (xY fun v hv=>Ak (h.2.1 v hv))
  ·exact Ak h.1
theorem E6 {cs:List Con} (h:∀ c,c∈cs→fA c):Aw (mh cs):=by
 unfold mh wF;split
 ·exact (de _).app (xY fun c hc=>byt_cons (h c hc))
 ·exact Aw.nil
theorem byt_rec {r:Rec} (h:∀ c,c∈r.cs→fA c):Aw (te r):=by
 unfold te restB;refine (de _).app ?_;split
 ·exact de _
 ·split
  ·exact (((de _).app (vI (E6 h))).app (de _)).app (xY fun t ht=>(de _).app (de _))
  ·split
   ·exact de _
   ·split
    ·refine ((de _).app (de _)).app ?_;split
     ·exact (de _).app (vI (E6 h))
     ·exact de _
    ·split
     ·exact ((de _).app (de _)).app (de _)
     ·exact Aw.nil
theorem De (r:Rec):1≤(te r).length:=by
 unfold te;rw[List.length_append];have:=numB_pos (uN r.sort);omega
def frmB (r:List Nat):List Nat:=if r.length≤2048 then xH r else []
section
variable {S T:AS}
theorem frm111 {v:AV} {r:List Nat} (h:Sl S v 1 (cL r)) (hb:Aw r) (h1:1≤r.length) (hl:r.length≤1000000):ai C1 111 [v] S fun u T=>∃ w e,u=.tuple [w,.int .i64 e]∧Sub S T∧jN S.next w∧Gw T w 1 5 (cL (frmB r)):=by
 by_cases h2:r.length≤2048
 ·refine (put76 h hb h1 h2).mono ?_;rintro u T ⟨w,rfl,k1,k2,k3⟩;refine ⟨w,0,rfl,k1,k2,?_⟩;unfold frmB;rw[if_pos h2];exact k3
 ·have hlb:=dT r;have u1:=h.sl;have u2:=h.kT;rw[hlb] at u2;have q1:¬(r=[]):=fun e=>by rw[e] at h1;exact absurd h1 (by decide)
  have q2:((2048:Int)<r.length):=by omega
  unfold frmB;rw[if_neg h2];refine aW (dJ _) (dM _ rfl) fn76 rfl ok76 (by simp) fun F hn s0=>?_;simp[s0,u1,u2,q1,q2];exact ⟨Sub.refl S,.inl rfl,by simpa[cL] using (Gw.nil (S:=S) (sz:=1) (e:=5))⟩
end
open Go.Proofs.YtdknlbnljfdhgaaGreatDoor.mod (Val encV encV_len Con encC encC_len ConOk PredAt mayP mayC mayV setB sameB zeroV mayPred encT encT_len bare encM nget nput mget_encM mput_encM nget_nput nput_mem nget_mem predFoot idxI idx174)
def PB.dr (P:PB) (n:Nat) (o:Option PSub):PB:={ P with aM:=fun j=>if j=n then o else P.aM j }
def PB.jP (P:PB) (k:Nat) (a:PAd):PB:={ P with ey:=fun j=>if j=k then a else P.ey j }
theorem oa (X:dX) (n:Nat) (o:Option dB):(X.dr n o).pure=X.pure.dr n (o.map dB.pure):=by
 have e:(fun i=>(((if i=n then o else X.aM i):Option dB).map dB.pure))=fun i=>if i=n then o.map dB.pure else (X.aM i).map dB.pure:=by
  funext i;split<;>rfl
 show (⟨X.fb,fun i=>((if i=n then o else X.aM i):Option dB).map dB.pure,_⟩:PB)=⟨_,_,_⟩;rw[e];rfl
theorem pure_setAd (X:dX) (k:Nat) (a:jO):(X.jP k a).pure=X.pure.jP k a.pure:=by
 have e:(fun i=>((if i=k then a else X.ey i):jO).pure)=fun i=>if i=k then a.pure else (X.ey i).pure:=by
  funext i;split<;>rfl
 show (⟨X.fb,_,fun i=>((if i=k then a else X.ey i):jO).pure⟩:PB)=⟨_,_,_⟩;rw[e];rfl
def Like (X X1:dX):Prop:=X1.aM=X.aM∧X1.ey=X.ey∧X1.fb=X.fb∧X1.b=X.b∧X1.dF=X.dF
def Does (S:AS) (X:dX) (r:Rec) (P':PB):Prop:=∀ (T:AS) (X1:dX),bR T X1→Like X X1→eW T r→∃ g caps U,(∀ Q:AV→AS→Prop,ai C1 51 [.ptr X1.b 0 1 27,.agg r.c] T Q=Q (.func (.func g) [] caps) U)∧C1.exts.get g=none∧Sub T U ∧
 ∃ w Y X2,(∀ Q:AV→AS→Prop,ai C1 g caps U Q=Q w Y)∧bR Y X2∧gF X1 X2 U Y∧X2.pure=P'∧X2.D=X1.D∧X2.dF=X1.dF
section
variable {S T:AS} {X:dX} {r:Rec}
theorem pj {X1:dX} (h:Like X X1):X1.pure=X.pure:=by
 obtain ⟨h1,h2,h3,_,_⟩:=h;unfold dX.pure;rw[h1,h2,h3]
theorem EN (e2:r.sort=2) {n:Nat} (ck:r.id=n) (yO:n<8) (uB:X.aM n=none) (hm:mayP r.cs=true) (hr:jg r.st=true):Does S X r (X.pure.dr n (some ⟨r.cs.map bare,r.st,[]⟩)):=fun T X1 hX hL cy=>by
 have Bt:jc X1.aM r.id=none:=by rw[ck,nQ _ yO,hL.1];exact uB
 obtain ⟨v,U,⟨rfl,hB⟩,e1⟩:=(does51b hX cy e2 ⟨by omega,by omega⟩ Bt hm hr).ex;have hXU:=hX.toSub hB.sub;have bK:=hB.lt;obtain ⟨w,Y,⟨x,hx,h1,h2⟩,e⟩:=(eff106 hXU hB.bs (by omega) hB.br (by omega) ck yO (cy.sub hB.sub) hm hr).ex;refine ⟨_,_,U,e1,bN _ rfl,hB.sub,w,Y,_,e,h1,h2,?_,rfl,rfl⟩;rw[oa,pj hL,Option.map_some,hx]
theorem does_ends (e2:r.sort=3) {n:Nat} (ck:r.id=n) (yO:n<8) {x:dB} (hx:X.aM n=some x):Does S X r (X.pure.dr n none):=fun T X1 hX hL cy=>by
 have Bt:jc X1.aM r.id=some x:=by rw[ck,nQ _ yO,hL.1];exact hx
 obtain ⟨v,U,⟨rfl,hB⟩,e1⟩:=(does51e hX cy e2 Bt).ex;have hXU:=hX.toSub hB.sub;have bK:=hB.lt;obtain ⟨w,Y,⟨h1,h2⟩,e⟩:=(eff107 hXU hB.bs hB.br ck yO).ex;refine ⟨_,_,U,e1,bN _ rfl,hB.sub,w,Y,_,e,h1,h2,?_,rfl,rfl⟩;rw[oa,pj hL,Option.map_none]
theorem does_ad (e2:r.sort=4) {k:Nat} (ck:r.id=k) (xy:k<4) (Bt:nk r.n=true) (hv:(X.ey k).js<r.n) (hm:mayP r.cs=true):Does S X r (X.pure.jP k ⟨k,r.n,r.there,r.cs.map bare⟩):=fun T X1 hX hL cy=>by
 obtain ⟨v,U,⟨rfl,hB⟩,e1⟩:=(does51a hX cy e2 ck xy Bt (by rw[hL.2.1];exact hv) (fun _=>hm)).ex;have hXU:=hX.toSub hB.sub;have bK:=hB.lt;have rn:r.n≤1099511627776:=by unfold nk at Bt;simp at Bt;exact Bt.2
 obtain ⟨w,Y,⟨a,ha,h1,h2⟩,e⟩:=(eff108 hXU hB.bs (by omega) hB.br (by omega) ck xy (cy.sub hB.sub) hm rn).ex;refine ⟨_,_,U,e1,bN _ rfl,hB.sub,w,Y,_,e,h1,h2,?_,rfl,rfl⟩;rw[pure_setAd,pj hL,ha]
theorem does_ack (e2:r.sort=5) {n:Nat} (ck:r.id=n) (yO:n<8) {x:dB} (hx:X.aM n=some x) (Bt:nk r.n=true) (hp:0≤r.cU∧r.cU<256) (hv:vc x.pure r.cU<r.n):Does S X r (X.pure.dr n (some ⟨x.ks.map bare,x.st,nput x.cur r.cU r.n⟩)):=fun T X1 hX hL cy=>by
 have hx1:X1.aM n=some x:=by rw[hL.1];exact hx
 have lZ:jc X1.aM r.id=some x:=by rw[ck,nQ _ yO];exact hx1
 obtain ⟨v,U,⟨rfl,hB⟩,e1⟩:=(does51k hX cy e2 lZ Bt hp hv).ex;have hXU:=hX.toSub hB.sub;have bK:=hB.lt;have hbx:=hB.bx;rw[lZ] at hbx;obtain ⟨w,Y,⟨h1,h2⟩,e⟩:=(eff109 hXU hB.br hbx yO hx1 cy.n).ex;refine ⟨_,_,U,e1,bN _ rfl,hB.sub,w,Y,_,e,h1,h2,?_,rfl,rfl⟩;rw[oa,pj hL,Option.map_some];rfl
theorem wr_recs (h:bR S X) (n:Nat):pL S (.ptr X.b 0 26 27) [.int .i64 n]=some ⟨S.h.set X.b (.row ({ X with dF:=n }:dX).c 0 0 false 110),S.next⟩:=by
 simp only[fo,kk,h.row,fp];rw[if_pos ⟨trivial,by simp,trivial⟩];rfl
theorem at_recs (h:bR S X) (n:Nat):bR ⟨S.h.set X.b (.row ({ X with dF:=n }:dX).c 0 0 false 110),S.next⟩ { X with dF:=n }∧gF X { X with dF:=n } S ⟨S.h.set X.b (.row ({ X with dF:=n }:dX).c 0 0 false 110),S.next⟩:=
 h.own rfl rfl (fun id _ hi=>ae _ _ hi) (Nat.le_refl _) (aa _ _ _) h.fb (fun i x hi hx=>.inl hx) (fun i hi=>.inl rfl)
def uf (X:dX) (r:Rec):Prop:=∀ id,(predFoot r.p r.cs id∨aN r.sv=id+1)→¬X.wf id
theorem eW.evo {X':dX} (h:eW S r) (ho:uf X r) (he:gF X X' S T):eW T r:=
 have hp:∀ id,predFoot r.p r.cs id→T.h.get id=S.h.get id:=fun id e=>he.bH id (PredAt.bT h.pred e) (ho id (.inl e))
 ⟨PredAt.aF h.pred hp he.next,h.sl.aF (fun id e=>he.bH id (by have:=h.sl.old;omega) (ho id (.inr e))) he.next,h.num,h.n,h.sts,h.len⟩
theorem Df {r:Rec} (h:∀ c,c∈r.cs→fA c) (hn:r.n<18446744073709551616) (hs:∀ t,t∈r.st→t.2<18446744073709551616) (h8:r.st.length≤8):(te r).length≤3000:=by
 have a1:=cV _ (fX r.sort);have a2:=cV _ (fX r.id);have a3:=cV _ (fX r.cU);have a4:=cV _ hn;have a5:(mW (mh r.cs)).length≤10+2410:=ou (tJ h) (by omega);have a6:=cV r.st.length (by omega);have a7:=gR (f:=jE) (k:=20) (l:=r.st) fun t ht=>vY (hs t ht);have a8:r.st.length*20≤8*20:=Nat.mul_le_mul_right _ h8;have b1:=cV 1 (by decide);have b0:=cV 0 (by decide);unfold te restB;rw[List.length_append];split
 ·omega
 ·split
  ·simp only[List.length_append];omega
  ·split
   ·omega
   ·split
    ·split<;>simp only[List.length_append]<;>omega
    ·split
     ·simp only[List.length_append];omega
     ·simp;omega
theorem Ep (r:List Nat):(frmB r).length≤2056:=by
 unfold frmB;split
 ·rw[frameB_len];omega
 ·simp
theorem nt91:Tryz.f91.ntmps=82:=by kernel_rfl
set_option maxRecDepth 20000 in
theorem change91 (h:bR S X) (cy:eW S r) (ho:uf X r) (z6:X.dF<64) (ok:X.D.pd.ok) (hs8:r.st.length≤8) {P':PB} (hd:Does S X r P') :
  ai C1 91 [.ptr X.b 0 0 27,.agg r.c] S fun v T=>∃ (e:Int) (X':dX),v=.int .i64 e∧bR T X'∧gF X X' S T∧X'.D.pd.ok∧((e≠0∧X'.pure=X.pure∧X'.dF=X.dF)∨(e=0∧X'.pure=P'∧X'.dF=X.dF+1)):=by
 obtain ⟨S1,dL⟩:∃ S1:AS,S1=⟨S.h.set S.next (.row r.c 0 0 false 115),S.next+1⟩:=⟨_,rfl⟩
 have s1:Sub S S1:=by rw[dL];exact seg.dE
 have g1:S1.h.get S.next=some (.row r.c 0 0 false 115):=by rw[dL];exact aa _ _ _
 have n1:S1.next=S.next+1:=by rw[dL]
 have jD:=dL.symm;clear dL;have hX1:=h.toSub s1;obtain ⟨fv,T1,⟨t1,w1,gw1⟩,e104⟩:=(E5 (cy.sub s1) hs8).ex;have xD:=Df cy.num cy.n cy.sts hs8;obtain ⟨x,T2,⟨w,e,rfl,t2,w2,gw2⟩,e111⟩:=(frm111 gw1.1 (byt_rec cy.num) (De r) (by omega)).ex;have s2:=(s1.trans t1).trans t2;have hX2:=h.toSub s2;have pz:=Ep (te r);have hdlt:=h.m9.Co;have t1n:=t1.next
 obtain ⟨x,T3,⟨rfl,D3,d1,d2,d3,d4⟩,e25⟩:=(Ao (D:=X.D) hX2.m9 ok (name:=[98,111,111,107]) (by decide) (by decide) gw2.1 (by unfold jN at w2;omega) (by rw[dT];omega)).ex;obtain ⟨hX3,v3⟩:=hX2.onD d1 d3 d4;have ok3:D3.pd.ok:=by rw[d2];exact ok.append _ _
 obtain ⟨e3,he3⟩:∃ e3,e3=(X.D.pd.append [98,111,111,107] (cL (frmB (te r)))).1:=⟨_,rfl⟩
 rw[←he3] at e25;have g2:=((t1.trans t2).h _ (by omega)).trans g1;have dI:=h.row;have xn:=hX1.row;have hrow2:=hX2.row;have k1:=aq cy.pred.sl;have k2:=aq cy.sl;have k3:=cy.pred.sl.cells;have k4:=cy.sl.cells;have v03:gF X { X with D:=D3 } S T3:=(gF.of s2).trans v3;unfold dX.c at dI xn hrow2;have gg2:=g2;unfold Rec.c at jD g1 g2 e104;have h64I:¬(64:Int)≤X.dF:=by omega
 refine cp (dJ _) (dM _ rfl) fn91 rfl ok91 (by simp) fun F hn kR=>?_;rw[nt91] at hn;have s0:=kR 0;have wg:=kR 1;clear kR;simp only[List.getElem?_cons_zero,List.getElem?_cons_succ,Option.getD_some,Rec.c] at s0 wg;simp[-bF,s0,wg,k3,k4,jD,xn,h64I];rw[bF];simp[-bF,s0,wg,k1,k2,k3,k4,jD,g1,xn,h64I,bN,e104,e111,gw1.1.np,aq gw1.1,gw2.1.np,aq gw2.1,hrow2,e25];rw[bF];by_cases z3:e3=0
 case neg=>
  simp[s0,z3];exact ⟨_,hX3,v03,ok3,rfl,rfl⟩
 rw[z3] at e25;obtain ⟨x,T4,⟨rfl,D4,f1,f2,f3,f4⟩,e26⟩:=(sync_pd (D:=D3) d1 ok3 (name:=[98,111,111,107]) (by decide) (by decide)).ex;obtain ⟨hX4,v4⟩:=hX3.onD f1 f3 f4;have ok4:D4.pd.ok:=by rw[f2];exact ok3.sync _
 obtain ⟨e4,he4⟩:∃ e4,e4=(D3.pd.sync [98,111,111,107]).1:=⟨_,rfl⟩
 rw[←he4] at e26;have v04:gF X { X with D:=D4 } S T4:=v03.trans v4;have hrow3:=hX3.row;have hrow4:=hX4.row;unfold dX.c at hrow3 hrow4;simp only[] at hrow3 hrow4;have hb4:T4.h.get S.next=some (.row r.c 0 0 false 115):=by
  have q0:¬X.wf S.next:=fun e=>by have:=h.BB e;omega
  have q1:S.next<T2.next:=by have:=s2.next;have:=t2.next;omega
  have q3:T3.h.get S.next=T2.h.get S.next:=v3.bH _ q1 q0
  have q4:T4.h.get S.next=T3.h.get S.next:=v4.bH _ (by have:=v3.next;omega) (fun e=>q0 (v3.bT _ q1 e))
  rw[q4,q3];exact gg2
 have nv:({ X with D:=D4 }:dX).b=X.b:=rfl;simp[-bF,s0,z3,hrow3,bN,e26];rw[bF];by_cases z4:e4=0
 case neg=>
  simp[s0,z4];exact ⟨_,hX4,v04,ok4,rfl,rfl⟩
 obtain ⟨g,caps,U,e51,xg,hU,w',Y,X5,eg,hX5,v5,p5,D5,r5⟩:=hd T4 { X with D:=D4 } hX4 ⟨rfl,rfl,rfl,rfl,rfl⟩ (cy.evo ho v04);have v05:gF X X5 S Y:=v04.trans ((gF.of hU).trans v5);have hb5:=v05.b;have r5':X5.dF=X.dF:=r5;have hw6:=wr_recs hX5 (X.dF+1);obtain ⟨hX6,v6⟩:=at_recs hX5 (X.dF+1);obtain ⟨Z,hZ⟩:∃ Z:AS,Z=⟨Y.h.set X5.b (.row ({ X5 with dF:=X.dF+1 }:dX).c 0 0 false 110),Y.next⟩:=⟨_,rfl⟩
 rw[←hZ] at hw6 hX6 v6;have hrow5:=hX5.row;unfold dX.c at hrow5;rw[hb5] at hrow5 hw6;rw[r5'] at hrow5;have xj:=cd (i:=X.dF) (by omega);unfold Rec.c at hb4 e51;have fin:∃ X':dX,bR Z X'∧gF X X' S Z∧X'.D.pd.ok∧X'.pure=P'∧X'.dF=X.dF+1:=⟨_,hX6,v05.trans v6,by show X5.D.pd.ok;rw[D5];exact ok4,p5,rfl⟩
 simp[s0,z4];refine aK [.p,.p,.p,.r 0 0,.e [],.e []] (n:=82) (by kernel_rfl) (by simp[hn]) ?_;simp[s0,hrow4,hb4,k1,k2,bN,e51,xg,eg,hrow5,xj];rw[hZ] at fin;simpa[dX.c,hb5] using fin
end
open Go.Proofs.YtdknlbnljfdhgaaGreatDoor.mod (Val encV encV_len Con encC encC_len ConOk PredAt mayP mayC mayV setB sameB zeroV mayPred encT encT_len bare encM nget nput mget_encM mput_encM nget_nput nput_mem nget_mem predFoot idxI idx174)
def aj (X:dX) (E:PB→Prop) (S:AS) (v:AV) (T:AS):Prop:=
 ∃ (e:Int) (X':dX),v=.int .i64 e∧bR T X'∧gF X X' S T∧X'.D.pd.ok∧((e≠0∧X'.pure=X.pure∧X'.dF=X.dF)∨(e=0∧E X'.pure∧X'.dF=X.dF+1))
def EAck (X:dX) (id cU:Int) (n:Nat) (P:PB):Prop:=∃ (k:Nat) (x:dB),id=k∧k<8∧X.aM k=some x∧0≤cU∧cU<256∧P=X.pure.dr k (some ⟨x.ks.map bare,x.st,nput x.cur cU n⟩)
def ESub (X:dX) (id:Int) (cs:List Con) (st:List (Int×Nat)) (P:PB):Prop:=∃ k:Nat,id=k∧k<8∧X.aM k=none∧P=X.pure.dr k (some ⟨cs.map bare,st,[]⟩)
def EUns (X:dX) (id:Int) (P:PB):Prop:=∃ (k:Nat) (x:dB),id=k∧k<8∧X.aM k=some x∧P=X.pure.dr k none
def EAdv (X:dX) (id:Int) (there:Bool) (cs:List Con) (P:PB):Prop:=∃ k:Nat,id=k∧k<4∧P=X.pure.jP k ⟨k,(X.ey k).js+1,there,cs.map bare⟩
theorem bld115b {id:Int} {p v:AV} (h:isSl 7 p=true) (hv:isSl 2 v=true):dV C1 115 [(0,.int .i64 2),(1,.int .i64 id),(6,v),(5,p)]=some (.agg [.int .i64 2,.int .i64 id,.int .i64 0,.int .u64 0,.bool false,p,v]):=by
 cases p<;>first|(simp[isSl] at h;done)|(cases v<;>first|(simp[isSl] at hv;done)|kernel_rfl)
theorem bld115e {id:Int}:dV C1 115 [(0,.int .i64 3),(1,.int .i64 id)]=some (.agg [.int .i64 3,.int .i64 id,.int .i64 0,.int .u64 0,.bool false,.ar,.ar]):=by kernel_rfl
theorem bld115a {k n:Int} {t:Bool} {p:AV} (h:isSl 7 p=true):dV C1 115 [(0,.int .i64 4),(1,.int .i64 k),(3,.int .u64 n),(4,.bool t),(5,p)]=some (.agg [.int .i64 4,.int .i64 k,.int .i64 0,.int .u64 n,.bool t,p,.ar]):=by
 cases p<;>first|(simp[isSl] at h;done)|kernel_rfl
theorem bld115k {id cU n:Int}:dV C1 115 [(0,.int .i64 5),(1,.int .i64 id),(2,.int .i64 cU),(3,.int .u64 n)]=some (.agg [.int .i64 5,.int .i64 id,.int .i64 cU,.int .u64 n,.bool false,.ar,.ar]):=by kernel_rfl
section
variable {S T:AS} {X:dX}
theorem wE:PredAt S .ar []:=⟨Sl.nil,(fun c hc=>by cases hc),by simp⟩
theorem aj.no {E:PB→Prop} (h:bR S X) (ok:X.D.pd.ok) {e:Int} (he:e≠0) (hs:Sub S T):aj X E S (.int .i64 e) T:=⟨e,X,rfl,h.toSub hs,gF.of hs,ok,.inl ⟨he,rfl,rfl⟩⟩
theorem na {r:Rec} {E:PB→Prop} (h:bR S X) (hs:Sub S T) (cy:eW T r) (ho:uf X r) (z6:X.dF<64) (ok:X.D.pd.ok) (hs8:r.st.length≤8) {P':PB} (hd:Does T X r P') (hE:E P') :
  ∃ v U,(∀ Q:AV→AS→Prop,ai C1 91 [.ptr X.b 0 0 27,.agg r.c] T Q=Q v U)∧bh v=false∧okW v=true∧aj X E S v U:=by
 obtain ⟨v,U,⟨e,X',rfl,h1,h2,h3,h4⟩,e1⟩:=(change91 (h.toSub hs) cy ho z6 ok hs8 hd).ex;refine ⟨_,U,e1,rfl,rfl,e,X',rfl,h1,(gF.of hs).trans h2,h3,?_⟩;rcases h4 with h4|⟨h4,h5,h6⟩
 ·exact .inl h4
 ·exact .inr ⟨h4,by rw[h5];exact hE,h6⟩
theorem wB {r:Rec} (e1:r.p=.ar) (e2:r.cs=[]) (e3:r.sv=.ar):uf X r:=fun id e=>by
 rcases e with e|e
 ·rw[e1,e2] at e;rcases e with e|⟨c,hc,_⟩
  ·simp[aN] at e
  ·cases hc
 ·rw[e3] at e;simp[aN] at e
theorem ack41 (h:bR S X) (ok:X.D.pd.ok) (z6:X.dF<64) (id cU:Int) {n:Nat} (hn64:n<18446744073709551616) :
  ai C1 41 [.ptr X.b 0 0 27,.int .i64 id,.int .i64 cU,.int .u64 n] S (aj X (EAck X id cU n) S):=by
 have qz:=fun Q=>oo h (Q:=Q);have iV:=fun Q=>ui h id (Q:=Q);have uO:=og (S:=S) (n:=n);obtain ⟨v,T,⟨rfl,hT⟩,e88⟩:=(xQ h id cU).ex;have dI:=h.row;unfold dX.c at dI;refine oH (dJ _) (dM _ rfl) fn41 rfl ok41 (by simp) fun F hn s0 s1 s2 s3=>?_;cases eX:jc X.aM id with
 | none=>
  rw[eX] at iV;simp only[pX] at iV;simp[s0,s1,s2,s3,qz,iV,bN];exact aj.no h ok (by decide) (Sub.refl S)
 | some x=>
  obtain ⟨k,rfl,hk8,hx⟩:=sT eX;rw[eX] at iV e88;simp only[pX] at iV;have ec:dZ (Option.map dB.pure (some x)) cU=vc x.pure cU:=rfl;rw[ec] at e88;by_cases p0:cU<0
  ·simp[s0,s1,s2,s3,qz,iV,bN,p0];exact aj.no h ok (by decide) (Sub.refl S)
  by_cases p1:256≤cU
  ·simp[s0,s1,s2,s3,qz,iV,bN,p0,p1];exact aj.no h ok (by decide) (Sub.refl S)
  cases hk:nk n with
  | false=>
   rw[hk] at uO;simp[s0,s1,s2,s3,qz,iV,bN,p0,p1,uO];exact aj.no h ok (by decide) (Sub.refl S)
  | true=>
   rw[hk] at uO;by_cases c:n≤vc x.pure cU
   ·have cI:(n:Int)≤(vc x.pure cU:Nat):=by omega
    simp[s0,s1,s2,s3,qz,iV,bN,p0,p1,uO,dI,e88,c,cI];exact aj.no h ok (by decide) hT
   ·have cI:¬(n:Int)≤(vc x.pure cU:Nat):=by omega
    obtain ⟨r,hr⟩:∃ r:Rec,r=⟨5,k,cU,n,false,.ar,[],.ar,[]⟩:=⟨_,rfl⟩
    have cy:eW T r:=by rw[hr];exact ⟨wE,Sl.nil,(fun c hc=>by cases hc),hn64,(fun t ht=>by cases ht),by simp⟩
    have hrc:r.c=[.int .i64 5,.int .i64 k,.int .i64 cU,.int .u64 n,.bool false,.ar,.ar]:=by rw[hr];rfl
    obtain ⟨v,U,Cn,np,fB,gC⟩:=na (E:=EAck X k cU n) h hT cy (wB (by rw[hr]) (by rw[hr]) (by rw[hr])) z6 ok (by rw[hr];simp)
     (does_ack (S:=T) (X:=X) (r:=r) (by rw[hr]) (by rw[hr]) hk8 hx (by rw[hr];exact hk) (by rw[hr];show 0≤cU∧cU<256;omega) (by rw[hr];show vc x.pure cU<n;omega)) ⟨k,x,rfl,hk8,hx,by omega,by omega,by rw[hr]⟩
    rw[hrc] at Cn;simp[s0,s1,s2,s3,qz,iV,bN,p0,p1,uO,dI,e88,c,cI,bld115k,Cn,np,fB];exact gC
theorem yB (h:bR S X) (ok:X.D.pd.ok) (z6:X.dF<64) (id:Int):ai C1 44 [.ptr X.b 0 0 27,.int .i64 id] S (aj X (EUns X id) S):=by
 have qz:=fun Q=>oo h (Q:=Q);have iV:=fun Q=>ui h id (Q:=Q);have dI:=h.row;unfold dX.c at dI;refine bC (dJ _) (dM _ rfl) fn44 rfl ok44 (by simp) fun F hn s0 s1=>?_;cases eX:jc X.aM id with
 | none=>
  rw[eX] at iV;simp only[pX] at iV;simp[s0,s1,qz,iV,bN];exact aj.no h ok (by decide) (Sub.refl S)
 | some x=>
  obtain ⟨k,rfl,hk8,hx⟩:=sT eX;rw[eX] at iV;simp only[pX] at iV;obtain ⟨r,hr⟩:∃ r:Rec,r=⟨3,k,0,0,false,.ar,[],.ar,[]⟩:=⟨_,rfl⟩
  have cy:eW S r:=by rw[hr];exact ⟨wE,Sl.nil,(fun c hc=>by cases hc),(by show 0<18446744073709551616;decide),(fun t ht=>by cases ht),by simp⟩
  have hrc:r.c=[.int .i64 3,.int .i64 k,.int .i64 0,.int .u64 0,.bool false,.ar,.ar]:=by rw[hr];rfl
  obtain ⟨v,U,Cn,np,fB,gC⟩:=na (E:=EUns X k) h (Sub.refl S) cy (wB (by rw[hr]) (by rw[hr]) (by rw[hr])) z6 ok (by rw[hr];simp)
   (does_ends (S:=S) (X:=X) (r:=r) (by rw[hr]) (by rw[hr]) hk8 hx) ⟨k,x,rfl,hk8,hx,rfl⟩
  rw[hrc] at Cn;simp[s0,s1,qz,iV,bN,bld115e,Cn,np,fB];exact gC
theorem CF (h:bR S X) (ok:X.D.pd.ok) (z6:X.dF<64) (id:Int) {p sv:AV} {cs:List Con} {st:List (Int×Nat)} (hp:PredAt S p cs) (hn:∀ c,c∈cs→fA c) (hs:Sl S sv 2 (st.flatMap encT)) (eX:st.length≤9223372036854775806)
  (hpo:∀ i,predFoot p cs i→¬X.wf i) (hso:∀ i,aN sv=i+1→¬X.wf i) :
  ai C1 42 [.ptr X.b 0 0 27,.int .i64 id,p,sv] S (aj X (ESub X id cs st) S):=by
 have qz:=fun Q=>oo h (Q:=Q);obtain ⟨v,T,⟨rfl,hT⟩,e92⟩:=(right92 hs eX).ex;obtain ⟨v,U,⟨rfl,hU⟩,uM⟩:=(up1 (mayPred (hp.sub hT))).ex;have hTU:=hT.trans hU;have hX:=h.toSub hTU;have iV:=fun Q=>ui hX id (Q:=Q);have k1:=aq hp.sl;have k2:=aq hs;refine oH (dJ _) (dM _ rfl) fn42 rfl ok42 (by simp) fun F dY s0 s1 s2 s3=>?_;by_cases i0:id<0
 ·simp[s0,s1,s2,s3,qz,bN,i0];exact aj.no h ok (by decide) (Sub.refl S)
 by_cases i8:8≤id
 ·simp[s0,s1,s2,s3,qz,bN,i0,i8];exact aj.no h ok (by decide) (Sub.refl S)
 cases hr:jg st with
 | false=>
  rw[hr] at e92;simp[s0,s1,s2,s3,qz,bN,i0,i8,k2,e92];exact aj.no h ok (by decide) hT
 | true=>
  rw[hr] at e92;cases hm:mayP cs with
  | false=>
   rw[hm] at uM;simp[s0,s1,s2,s3,qz,bN,i0,i8,k1,k2,e92,uM];exact aj.no h ok (by decide) hTU
  | true=>
   rw[hm] at uM;obtain ⟨k,rfl⟩:∃ k:Nat,id=k:=⟨id.toNat,by omega⟩
   have hk8:k<8:=by omega
   rw[nQ _ hk8] at iV;cases hx:X.aM k with
   | some x=>
    rw[hx] at iV;simp only[pX] at iV;simp[s0,s1,s2,s3,qz,bN,i0,i8,k1,k2,e92,uM,iV];exact aj.no h ok (by decide) hTU
   | none=>
    rw[hx] at iV;simp only[pX] at iV;obtain ⟨r,fk⟩:∃ r:Rec,r=⟨2,k,0,0,false,p,cs,sv,st⟩:=⟨_,rfl⟩
    have hro:=wv hr;have cy:eW U r:=by rw[fk];exact ⟨hp.sub hTU,hs.toSub hTU,hn,(by show 0<18446744073709551616;decide),(fun t ht=>(hro.2 t ht).2),by show st.length≤_;omega⟩
    have hrc:r.c=[.int .i64 2,.int .i64 k,.int .i64 0,.int .u64 0,.bool false,p,sv]:=by rw[fk];rfl
    have rU:uf X r:=fun i e=>by
     rw[fk] at e;rcases e with e|e
     ·exact hpo i e
     ·exact hso i e
    obtain ⟨v,W,Cn,np,fB,gC⟩:=na (E:=ESub X k cs st) h hTU cy rU z6 ok (by rw[fk];exact hro.1)
     (EN (S:=U) (X:=X) (r:=r) (by rw[fk]) (by rw[fk]) hk8 hx (by rw[fk];exact hm) (by rw[fk];exact hr)) ⟨k,rfl,hk8,hx,by rw[fk]⟩
    rw[hrc] at Cn;simp[s0,s1,s2,s3,qz,bN,i0,i8,k1,k2,e92,uM,iV,bld115b hp.sl.sl hs.sl,Cn,np,fB];exact gC
theorem ad_get (dI:S.h.get X.b=some (.row X.c 0 0 false 110)) {k:Nat} (hk:k<4):loadT C1 S 27 (.ptr X.b 0 (10+k*4+1) 27)=some (.int .u64 (X.ey k).js)∧loadT C1 S 4 (.ptr X.b 0 (10+k*4+2) 27)=some (.bool (X.ey k).there):=by
 unfold dX.c at dI;rcases lt4 hk with rfl|rfl|rfl|rfl<;>constructor<;>simp[dI]
set_option maxRecDepth 20000 in
theorem uU (h:bR S X) (ok:X.D.pd.ok) (z6:X.dF<64) {k:Nat} (xy:k<4) (there:Bool) {p:AV} {cs:List Con} (hp:PredAt S p cs) (hn:∀ c,c∈cs→fA c) (hm:mayP cs=true) (hpo:∀ i,predFoot p cs i→¬X.wf i) :
  ai C1 94 [.ptr X.b 0 0 27,.int .i64 k,.bool there,p] S fun v T=>aj X (EAdv X k there cs) S v T:=by
 obtain ⟨g1,g2⟩:=ad_get h.row xy;have hver:=(h.ad k xy).2;have k1:=aq hp.sl;obtain ⟨js,hv⟩:∃ js,js=(X.ey k).js:=⟨_,rfl⟩
 rw[←hv] at g1 hver;have hkI:(k:Int)<4:=by omega
 refine oH (dJ _) (dM _ rfl) fn94 rfl ok94 (by simp) fun F dY s0 s1 s2 s3=>?_;by_cases c:1099511627776≤js
 ·have cI:(1099511627776:Int)≤js:=by omega
  simp[s0,s1,s2,s3,bN,hkI,xy,g1,c,cI];exact aj.no h ok (by decide) (Sub.refl S)
 ·have cI:¬(1099511627776:Int)≤js:=by omega
  have hw:IntKind.u64.wrap ((js:Int)+1)=((js+1:Nat):Int):=by rw[show ((js:Int)+1)=((js+1:Nat):Int) by omega];exact mH (by omega)
  obtain ⟨y,hy⟩:∃ y,y=js+1:=⟨_,rfl⟩
  rw[←hy] at hw;obtain ⟨r,fk⟩:∃ r:Rec,r=⟨4,k,0,y,there,p,cs,.ar,[]⟩:=⟨_,rfl⟩
  have cy:eW S r:=by rw[fk];exact ⟨hp,Sl.nil,hn,(by show y<18446744073709551616;omega),(fun t ht=>by cases ht),by simp⟩
  have hrc:r.c=[.int .i64 4,.int .i64 k,.int .i64 0,.int .u64 y,.bool there,p,.ar]:=by rw[fk];rfl
  have rU:uf X r:=fun i e=>by
   rw[fk] at e;rcases e with e|e
   ·exact hpo i e
   ·simp[aN] at e
  have hnum:nk r.n=true:=by rw[fk];unfold nk;simp;show 1≤y∧y≤_;omega
  obtain ⟨v,W,Cn,np,fB,gC⟩:=na (E:=EAdv X k there cs) h (Sub.refl S) cy rU z6 ok (by rw[fk];simp)
   (does_ad (S:=S) (X:=X) (r:=r) (by rw[fk]) (by rw[fk]) xy hnum (by rw[fk,←hv];show js<y;omega) (by rw[fk];exact hm)) ⟨k,rfl,xy,by rw[fk,←hv,←hy]⟩
  rw[hrc] at Cn;simp[s0,s1,s2,s3,bN,hkI,xy,g1,c,cI,hw,k1,bld115a hp.sl.sl,Cn,np,fB];exact gC
theorem advertise45 (h:bR S X) (ok:X.D.pd.ok) (z6:X.dF<64) (id:Int) {p:AV} {cs:List Con} (hp:PredAt S p cs) (hn:∀ c,c∈cs→fA c) (hpo:∀ i,predFoot p cs i→¬X.wf i) :
  ai C1 45 [.ptr X.b 0 0 27,.int .i64 id,p] S (aj X (EAdv X id true cs) S):=by
 have qz:=fun Q=>oo h (Q:=Q);obtain ⟨v,T,⟨rfl,hT⟩,uM⟩:=(up1 (mayPred hp)).ex;have k1:=aq hp.sl;refine jm (dJ _) (dM _ rfl) fn45 rfl ok45 (by simp) fun F dY s0 s1 s2=>?_;by_cases i0:id<0
 ·simp[s0,s1,s2,qz,bN,i0];exact aj.no h ok (by decide) (Sub.refl S)
 by_cases i4:4≤id
 ·simp[s0,s1,s2,qz,bN,i0,i4];exact aj.no h ok (by decide) (Sub.refl S)
 cases hm:mayP cs with
 | false=>
  rw[hm] at uM;simp[s0,s1,s2,qz,bN,i0,i4,k1,uM];exact aj.no h ok (by decide) hT
 | true=>
  rw[hm] at uM;obtain ⟨k,rfl⟩:∃ k:Nat,id=k:=⟨id.toNat,by omega⟩
  have xy:k<4:=by omega
  obtain ⟨v,U,⟨e,X',rfl,q1,q2,q3,q4⟩,e94⟩:=(uU (h.toSub hT) ok z6 xy true (hp.sub hT) hn hm hpo).ex;simp[s0,s1,s2,qz,bN,i0,i4,k1,uM,e94];exact ⟨e,X',rfl,q1,(gF.of hT).trans q2,q3,q4⟩
theorem withdraw46 (h:bR S X) (ok:X.D.pd.ok) (z6:X.dF<64) (id:Int):ai C1 46 [.ptr X.b 0 0 27,.int .i64 id] S (aj X (EAdv X id false []) S):=by
 have qz:=fun Q=>oo h (Q:=Q);refine bC (dJ _) (dM _ rfl) fn46 rfl ok46 (by simp) fun F dY s0 s1=>?_;by_cases i0:id<0
 ·simp[s0,s1,qz,bN,i0];exact aj.no h ok (by decide) (Sub.refl S)
 by_cases i4:4≤id
 ·simp[s0,s1,qz,bN,i0,i4];exact aj.no h ok (by decide) (Sub.refl S)
 obtain ⟨k,rfl⟩:∃ k:Nat,id=k:=⟨id.toNat,by omega⟩
 have xy:k<4:=by omega
 have hkI:(k:Int)<4:=by omega
 obtain ⟨g1,g2⟩:=ad_get h.row xy;obtain ⟨t,ht⟩:∃ t,t=(X.ey k).there:=⟨_,rfl⟩
 rw[←ht] at g2;cases t with
 | false=>
  simp[s0,s1,qz,bN,i0,i4,hkI,xy,g2];exact aj.no h ok (by decide) (Sub.refl S)
 | true=>
  obtain ⟨v,U,⟨e,X',rfl,q1,q2,q3,q4⟩,e94⟩:=(uU h ok z6 xy false (p:=.ar) (cs:=[]) wE (fun c hc=>by cases hc) (by decide) (fun i e=>by
   rcases e with e|⟨c,hc,_⟩
   ·simp[aN] at e
   ·cases hc)).ex
  simp[s0,s1,qz,bN,i0,i4,hkI,xy,g2,e94];exact ⟨e,X',rfl,q1,q2,q3,q4⟩
end
open Go.Proofs.YtdknlbnljfdhgaaGreatDoor.mod (Val encV encV_len Con encC encC_len ConOk PredAt mayP mayC mayV setB sameB zeroV mayPred encT encT_len bare encM nget nput mget_encM mput_encM nget_nput nput_mem nget_mem predFoot idxI idx174)
section
variable {S T:AS} {X:dX} {lo:Nat}
theorem AZ {t e sz bs:Nat} {w:AV} {cs x:List AV} (eX:mC C1 t=some (e,sz,bs)) (vA:aY C1 t=some (.slice e)) (h:Gw S w sz e cs) (hn:jN lo w) (rp:lo≤S.next) (hx:x.length=sz) (hf:fits (sLen w+1) bs=true) :
  ∃ w' T,aZ C1 (⟨S.h.set S.next (.row x 0 0 false e),S.next+1⟩:AS) .append [t,t] [w,.slice S.next 0 0 1 sz sz (some 1)]=.val w' T∧Gw T w' sz e (cs++x)∧jN lo w'∧(∀ id,id<lo→T.h.get id=S.h.get id)∧S.next≤T.next ∧
   (∀ id,id<S.next→id+1≠aN w→T.h.get id=S.h.get id)∧(aN w'=aN w∨S.next<aN w')∧sLen w'=sLen w+1:=by
 obtain ⟨S1,dL⟩:∃ S1:AS,S1=⟨S.h.set S.next (.row x 0 0 false e),S.next+1⟩:=⟨_,rfl⟩
 have s1:Sub S S1:=by rw[dL];exact seg.dE
 have hxs:Sl S1 (.slice S.next 0 0 1 sz sz (some 1)) sz x:=by
  refine ⟨by simp[isSl,iG],?_,by simp[sLen,hx],by simp[aN,dL]⟩;rw[dL];simp[lr,eS,aa,bY,←hx]
 have hwo:=h.1.old;have g1:=h.aF (T:=S1) (fun id e=>s1.h id (by omega)) s1.next
 obtain ⟨w',T,e1,r1,r2,r3,r4,r5,r6,r7⟩:=kj (cx:=C1) (ts:=[]) (u:=t) (p:=(e,sz,bs)) eX vA rfl g1 hxs (by simpa[gZ] using hf);rw[dL] at e1;have dY:jN lo w':=by
  rcases r6 with q|q
  ·unfold jN;rw[q];exact hn
  ·exact .inr (by have:=s1.next;omega)
 have hk:∀ id,id<S.next→id+1≠aN w→T.h.get id=S.h.get id:=fun id hi cN=>(r2 id (by have:=s1.next;omega) cN).trans (s1.h id hi)
 refine ⟨w',T,e1,r1,dY,fun id hi=>hk id (by omega) (by rcases hn with q|q<;>omega),Nat.le_trans s1.next r3,hk,?_,by rw[r4];rfl⟩;rcases r6 with q|q
 ·exact .inl q
 ·exact .inr (by have:=s1.next;omega)
theorem nt43:Tryz.f43.ntmps=19:=by kernel_rfl
def staH (S:AS) (v:AV) (st:List (Int×Nat)) (k:Nat) (F':Fr) (S':AS):Prop:=
 ∃ (i:Nat) (w:AV),Sub S S'∧Gw S' w 2 52 ((st.take i).flatMap encT)∧jN S.next w∧sl F' 0=v∧sl F' 3=w∧sl F' 4=.int .i64 i∧i≤st.length∧F'.n=19∧k=st.length-i
theorem staH_mk {v:AV} {st:List (Int×Nat)} {k:Nat} {F':Fr} (i:Nat) (w:AV) (h1:Sub S T) (h2:Gw T w 2 52 ((st.take i).flatMap encT)) (h3:jN S.next w) (h4:sl F' 0=v) (h5:sl F' 3=w) (h6:sl F' 4=.int .i64 i) (h7:i≤st.length) (h8:F'.n=19) (h9:k=st.length-i):staH S v st k F' T:=
 ⟨i,w,h1,h2,h3,h4,h5,h6,h7,h8,h9⟩
theorem flat_take {α:Type} {f:α→List AV} {l:List α} {i:Nat} (h:i<l.length):(l.take (i+1)).flatMap f=(l.take i).flatMap f++f l[i]:=by
 rw[List.take_succ_eq_append_getElem h,List.flatMap_append];simp
theorem starts43 {v:AV} {st:List (Int×Nat)} (h:Sl S v 2 (st.flatMap encT)) (hb:st.length*16≤140737488355328):ai C1 43 [v] S fun r T=>Sub S T∧Sl T r 2 (st.flatMap encT)∧jN S.next r:=by
 have u1:=h.sl;have u2:=h.aU encT_len (by omega);refine aW (dJ _) (dM _ rfl) fn43 rfl ok43 (by simp) fun F hn s0=>?_;rw[nt43] at hn;simp[s0,u1,u2];refine av (staH S v st) st.length (staH_mk 0 .ar (Sub.refl S) (by simpa using (Gw.nil (S:=S) (sz:=2) (e:=52))) (.inl rfl) (by simp[s0]) (by simp) (by simp) (Nat.zero_le _) (by simp[hn]) rfl) ?_;clear s0 hn;rintro k F' S'-⟨i,w,hS,hg,hnw,t0,t3,t4,hi,hn,hk⟩;by_cases cW:i<st.length
 ·obtain ⟨t,hx⟩:∃ t,st[i]?=some t:=⟨_,List.getElem?_eq_getElem cW⟩
  have hxe:st[i]=t:=(List.getElem?_eq_some_iff.1 hx).2;have rp:=cJ (cx:=C1) (e:=174) (h.toSub hS) encT_len (by omega) hx ag174 sz174;have kF:(i:Int)<st.length:=by omega
  have hwl:sLen w=i:=by
   have:=hg.1.aU encT_len (by omega);rw[this,List.length_take];omega
  obtain ⟨w',U,e1,g1,g2,g3,g4,g5,g6,g7⟩:=AZ (lo:=S.next) (t:=48) (e:=52) (sz:=2) (bs:=16) (x:=encT t) st48 un48 hg hnw hS.next rfl (by rw[hwl];simp[fits,cn];omega)
  have mE:∀ (F:Fr) (B:Nat) (y:Tmp),sl F y=.agg (encT t)→aC C1 F B (.buildSlice 48 1 #[(0,.tmp y)])=some (.slice B 0 0 1 2 2 (some 1),.row (encT t) 0 0 false 52):=fun F B y a0=>by
   have:=c9 (cx:=C1) (F:=F) (t:=48) (p:=(52,2,16)) (id:=B) (n:=1) (a:=#[(0,.tmp y)]) [encT t] st48 rfl (by simp[a0,cellsOf]) (by simp[encT]) (by decide);rw[this];simp[encT]
  have gY:=cd (i:=i) (by omega);have kw:=aq hg.1;have kn:=g1.1.np;have hSU:Sub S U:=⟨fun id ck=>(g3 id ck).trans (hS.h id ck),Nat.le_trans hS.next g4⟩
  rw[←hxe,←flat_take cW] at g1;simp[t0,t3,t4,u1,u2,cW,kF,rp,mE,e1,gY,kw,kn];exact ⟨st.length-(i+1),by omega,staH_mk (i+1) w' hSU g1 g2 (by simp[t0]) (by simp) (by simp) (by omega) (by simp[hn]) rfl⟩
 ·have:i=st.length:=by omega
  subst this;rw[List.take_length] at hg;simp[t0,t3,t4,u1,u2,hg.1.np,aq hg.1];exact ⟨hS,hg.1,hnw⟩
def ti (cU:Int):Nat:=match fF .and .i64 cU 15 with | .int _ m=>m.toNat|_=>0
theorem i64_small {m:Int} (h1:0≤m) (h2:m<16):IntKind.i64.wrap m=m:=IntWalk.i64_in m (by omega)
theorem wJ (cU:Int):fF .and .i64 cU 15=.int .i64 (ti cU)∧ti cU<16:=by
 have key:∃ m:Nat,m<16∧fF .and .i64 cU 15=.int .i64 m:=by
  have bv:∃ m:Nat,m<16∧nz .and .i64 cU 15=(m:Int):=by
   have h1:((BitVec.ofInt 64 cU) &&& (BitVec.ofInt 64 15)).toNat<16:=by
    rw[BitVec.toNat_and];have h2:(BitVec.ofInt 64 15).toNat=15:=by decide
    rw[h2];exact Nat.lt_succ_of_le Nat.and_le_right
   refine ⟨((BitVec.ofInt 64 cU) &&& (BitVec.ofInt 64 15)).toNat,h1,?_⟩;show IntKind.i64.wrap (((BitVec.ofInt 64 cU) &&& (BitVec.ofInt 64 15)).toNat:Int)=_;exact i64_small (by omega) (by omega)
  cases cU with
  | ofNat a=>
   show ∃ m:Nat,m<16∧cond (Nat.blt a (half .i64)&&Nat.blt 15 (half .i64)) (di (Nat.land a 15) fun n=>AV.int .i64 (.ofNat n)) (gM (nz .and .i64 (Int.ofNat a) 15) fun n=>AV.int .i64 n)=AV.int .i64 m;cases (Nat.blt a (half .i64)&&Nat.blt 15 (half .i64)) with
   | true=>exact ⟨a &&& 15,Nat.lt_succ_of_le Nat.and_le_right,by rw[cond_true,aH];rfl⟩
   | false=>
    obtain ⟨m,h1,h2⟩:=bv;exact ⟨m,h1,by rw[cond_false,cS,h2]⟩
  | negSucc a=>
   obtain ⟨m,h1,h2⟩:=bv;refine ⟨m,h1,?_⟩;show gM (nz .and .i64 (Int.negSucc a) 15) (fun n=>AV.int .i64 n)=_;rw[cS,h2]
 obtain ⟨m,h1,h2⟩:=key;have e:ti cU=m:=by unfold ti;rw[h2];rfl
 rw[e];exact ⟨h2,h1⟩
theorem tX {t:TypeId} {c:Bool} (cU:Int):bt C1 .and t c (.int .i64 cU) (.int .i64 15)=some (.int .i64 (ti cU)):=by
 show cond (fw .i64 .i64) (some (fF .and .i64 cU 15)) none=_;rw[(wJ cU).1];rfl
structure yz where
 eZ:Int
 id:Int
 cU:Int
 n:Nat
 p:AV
 cs:List Con
 sv:AV
 st:List (Int×Nat)
 kv:AV
 tv:AV
def yz.c (o:yz):List AV:=[.int .i64 o.eZ,.int .i64 o.id,.int .i64 o.cU,.int .u64 o.n,o.p,o.sv,o.kv,o.tv]
theorem op_len (o:yz):o.c.length=8:=rfl
structure OpAt (S:AS) (o:yz):Prop where
 pred:PredAt S o.p o.cs
 num:∀ c,c∈o.cs→fA c
 sl:Sl S o.sv 2 (o.st.flatMap encT)
 len:o.st.length*16≤140737488355328
 n:o.n<18446744073709551616
 kv:cellsOf o.kv=some [o.kv]∧okW o.kv=true
 tv:cellsOf o.tv=some [o.tv]∧okW o.tv=true
theorem OpAt.sub {o:yz} (h:OpAt S o) (hs:Sub S T):OpAt T o:=⟨h.pred.sub hs,h.num,h.sl.toSub hs,h.len,h.n,h.kv,h.tv⟩
def EOp (X:dX) (o:yz) (P:PB):Prop:=
 (o.eZ≤1∧EAck X o.id (ti o.cU) o.n P)∨(o.eZ=2∧ESub X o.id o.cs o.st P)∨(o.eZ=3∧EUns X o.id P)∨(o.eZ=4∧EAdv X o.id true o.cs P)∨(o.eZ=5∧EAdv X o.id false [] P)
theorem aj.mono {E E':PB→Prop} {v:AV} (h:aj X E S v T) (hE:∀ P,E P→E' P):aj X E' S v T:=by
 obtain ⟨e,X',h1,h2,h3,h4,h5⟩:=h;refine ⟨e,X',h1,h2,h3,h4,?_⟩;rcases h5 with h5|⟨h5,h6,h7⟩
 ·exact .inl h5
 ·exact .inr ⟨h5,hE _ h6,h7⟩
theorem aj.pre {E:PB→Prop} {U:AS} {v:AV} (hs:Sub S T) (h:aj X E T v U):aj X E S v U:=by
 obtain ⟨e,X',h1,h2,h3,h4,h5⟩:=h;exact ⟨e,X',h1,h2,(gF.of hs).trans h3,h4,h5⟩
theorem nt9:Tryz.f9.ntmps=48:=by kernel_rfl
set_option maxRecDepth 20000 in
theorem do9 {o:yz} (h:bR S X) (ok:X.D.pd.ok) (z6:X.dF<64) (ho:OpAt S o) (hw:0≤o.eZ∧o.eZ≤5) (hpo:∀ i,predFoot o.p o.cs i→¬X.wf i) :
  ai C1 9 [.ptr X.b 0 0 27,.agg o.c] S (aj X (EOp X o) S):=by
 obtain ⟨S1,dL⟩:∃ S1:AS,S1=⟨S.h.set S.next (.row o.c 0 0 false 34),S.next+1⟩:=⟨_,rfl⟩
 have s1:Sub S S1:=by rw[dL];exact seg.dE
 have g1:S1.h.get S.next=some (.row o.c 0 0 false 34):=by rw[dL];exact aa _ _ _
 have jD:=dL.symm;have n1:S1.next=S.next+1:=by rw[dL]
 clear dL;have hX:=h.toSub s1;have ho1:=ho.sub s1;have k1:=aq ho.pred.sl;have k2:=aq ho.sl;have k3:=ho.pred.sl.cells;have k4:=ho.sl.cells;have k5:=ho.kv.1;have k6:=ho.tv.1;have k7:=ho.kv.2;have k8:=ho.tv.2;have ep:=fun (c:Bool)=>tX (t:=3) (c:=c) o.cU;unfold yz.c at jD g1;refine cp (dJ _) (dM _ rfl) fn9 rfl ok9 (by simp) fun F hn hs=>?_;rw[nt9] at hn;have s0:=hs 0;have wg:=hs 1;clear hs;simp only[List.getElem?_cons_zero,List.getElem?_cons_succ,Option.getD_some,yz.c] at s0 wg;by_cases w0:o.eZ≤1
 ·have hor:o.eZ=0∨o.eZ=1:=by omega
  obtain ⟨v,U,gC,e41⟩:=(ack41 hX ok z6 o.id (ti o.cU) ho.n).ex;have hv:okW v=true∧bh v=false:=by obtain ⟨e,_,rfl,_⟩:=gC;exact ⟨rfl,rfl⟩
  have fin:aj X (EOp X o) S v U:=(gC.mono fun P hP=>.inl ⟨w0,hP⟩).pre s1;rcases hor with hw|hw
  ·rw[hw] at jD g1 wg;simp[s0,wg,jD,g1,k1,k2,k3,k4,k5,k6,k7,k8,ep,bN,e41,hv.1,hv.2];exact fin
  ·rw[hw] at jD g1 wg;simp[s0,wg,jD,g1,k1,k2,k3,k4,k5,k6,k7,k8,ep,bN,e41,hv.1,hv.2];exact fin
 by_cases w2:o.eZ=2
 ·obtain ⟨sv,T,⟨t1,t2,t3⟩,e43⟩:=(starts43 ho1.sl ho.len).ex;have hXT:=hX.toSub t1;have gT:=(t1.h _ (by omega)).trans g1;have hsv:∀ i,aN sv=i+1→¬X.wf i:=fun i e hwf=>by
   have:=h.BB hwf;unfold jN at t3;omega
  obtain ⟨v,U,gC,e42⟩:=(CF hXT ok z6 o.id (ho1.pred.sub t1) ho.num t2 (by have:=ho.len;omega) hpo hsv).ex;have hv:okW v=true∧bh v=false:=by obtain ⟨e,_,rfl,_⟩:=gC;exact ⟨rfl,rfl⟩
  have fin:aj X (EOp X o) S v U:=(gC.mono fun P hP=>.inr (.inl ⟨w2,hP⟩)).pre (s1.trans t1);have k9:=aq t2;have ka:=t2.np;rw[w2] at jD g1 wg gT;simp[s0,wg,jD,g1,k1,k2,k3,k4,k5,k6,k7,k8];refine aK [.p,.p,.r 0 1,.p,.r 0 1,.p,.r 0 0,.e [],.e [],.p] (n:=48) (by kernel_rfl) (by simp[hn]) ?_;simp[s0,wg,g1,gT,k1,k2,k7,k8,k9,ka,bN,e43,e42,hv.1,hv.2];exact fin
 by_cases w3:o.eZ=3
 ·obtain ⟨v,U,gC,e44⟩:=(yB hX ok z6 o.id).ex;have hv:okW v=true∧bh v=false:=by obtain ⟨e,_,rfl,_⟩:=gC;exact ⟨rfl,rfl⟩
  have fin:aj X (EOp X o) S v U:=(gC.mono fun P hP=>.inr (.inr (.inl ⟨w3,hP⟩))).pre s1;rw[w3] at jD g1 wg;simp[s0,wg,jD,g1,k1,k2,k3,k4,k5,k6,k7,k8,bN,e44,hv.1,hv.2];exact fin
 by_cases w4:o.eZ=4
 ·obtain ⟨v,U,gC,e45⟩:=(advertise45 hX ok z6 o.id ho1.pred ho.num hpo).ex;have hv:okW v=true∧bh v=false:=by obtain ⟨e,_,rfl,_⟩:=gC;exact ⟨rfl,rfl⟩
  have fin:aj X (EOp X o) S v U:=(gC.mono fun P hP=>.inr (.inr (.inr (.inl ⟨w4,hP⟩)))).pre s1;rw[w4] at jD g1 wg;simp[s0,wg,jD,g1,k1,k2,k3,k4,k5,k6,k7,k8,bN,e45,hv.1,hv.2];exact fin
 have w5:o.eZ=5:=by omega
 obtain ⟨v,U,gC,e46⟩:=(withdraw46 hX ok z6 o.id).ex;have hv:okW v=true∧bh v=false:=by obtain ⟨e,_,rfl,_⟩:=gC;exact ⟨rfl,rfl⟩
 have fin:aj X (EOp X o) S v U:=(gC.mono fun P hP=>.inr (.inr (.inr (.inr ⟨w5,hP⟩)))).pre s1;rw[w5] at jD g1 wg;simp[s0,wg,jD,g1,k1,k2,k3,k4,k5,k6,k7,k8,bN,e46,hv.1,hv.2];exact fin
end
open Go.Proofs.YtdknlbnljfdhgaaGreatDoor.mod (Val encV encV_len Con encC encC_len ConOk PredAt mayP mayC mayV setB sameB zeroV mayPred encT encT_len bare encM nget nput mget_encM mput_encM nget_nput nput_mem nget_mem predFoot idxI idx174)
structure dq {α:Type} (enc:α→List AV) (sz e:Nat) (ft:α→Nat→Prop) (vt:AS→α→Prop) (S:AS) (lo:Nat) (w:AV) (L:List α):Prop where
 gw:Gw S w sz e (L.flatMap enc)
 new:jN lo w
 el:∀ a,a∈L→vt S a∧∀ id,ft a id→lo≤id∧id<S.next∧id+1≠aN w
section
variable {α:Type} {enc:α→List AV} {sz e:Nat} {ft:α→Nat→Prop} {vt:AS→α→Prop} {S T:AS} {lo:Nat} {w:AV} {L:List α}
theorem dq.nil:dq enc sz e ft vt S lo .ar []:=⟨Gw.nil,.inl rfl,fun a h=>by cases h⟩
theorem dq.sub (stab:∀ S T a,vt S a→(∀ id,ft a id→T.h.get id=S.h.get id)→S.next≤T.next→vt T a) (h:dq enc sz e ft vt S lo w L) (hs:Sub S T):dq enc sz e ft vt T lo w L:=
 ⟨h.gw.aF (fun id q=>hs.h id (by have:=h.gw.1.old;omega)) hs.next,h.new,fun a ha=>⟨stab S T a (h.el a ha).1 (fun id q=>hs.h id ((h.el a ha).2 id q).2.1) hs.next,fun id q=>by
  have h1:=(h.el a ha).2 id q;have:=hs.next
  exact ⟨h1.1,by omega,h1.2.2⟩⟩⟩
theorem dq.push {t bs:Nat} (eX:mC C1 t=some (e,sz,bs)) (vA:aY C1 t=some (.slice e)) (stab:∀ S T a,vt S a→(∀ id,ft a id→T.h.get id=S.h.get id)→S.next≤T.next→vt T a)
  (h:dq enc sz e ft vt S lo w L) (rp:lo≤S.next) {a:α} (ha:vt S a) (hf:∀ id,ft a id→lo≤id∧id<S.next∧id+1≠aN w) (hx:(enc a).length=sz) (kG:fits (sLen w+1) bs=true) :
  ∃ w' T,aZ C1 (⟨S.h.set S.next (.row (enc a) 0 0 false e),S.next+1⟩:AS) .append [t,t] [w,.slice S.next 0 0 1 sz sz (some 1)]=.val w' T∧dq enc sz e ft vt T lo w' (L++[a])∧(∀ id,id<lo→T.h.get id=S.h.get id)∧S.next≤T.next:=by
 obtain ⟨w',T,e1,g1,g2,g3,g4,g5,g6,g7⟩:=AZ eX vA h.gw h.new rp hx kG;have key:∀ b,vt S b→(∀ id,ft b id→lo≤id∧id<S.next∧id+1≠aN w)→vt T b∧∀ id,ft b id→lo≤id∧id<T.next∧id+1≠aN w':=fun b h1 h2=>
  ⟨stab S T b h1 (fun id q=>g5 id (h2 id q).2.1 (h2 id q).2.2) g4,fun id q=>by
   have h3:=h2 id q;refine ⟨h3.1,by omega,?_⟩;rcases g6 with q|q<;>omega⟩
 refine ⟨w',T,e1,⟨by rw[List.flatMap_append];simpa using g1,g2,fun b hb=>?_⟩,g3,g4⟩;rcases List.mem_append.1 hb with hb|hb
 ·exact key b (h.el b hb).1 (h.el b hb).2
 ·simp at hb;subst hb;exact key b ha hf
end
structure gE where
 id:Int
 p:AV
 ks:List Con
 sv:AV
 st:List (Int×Nat)
def gE.c (s:gE):List AV:=[.int .i64 s.id,s.p,s.sv]
def gE.ft (s:gE) (id:Nat):Prop:=predFoot s.p s.ks id∨aN s.sv=id+1
def gE.ok (S:AS) (s:gE):Prop:=PredAt S s.p s.ks∧Sl S s.sv 2 (s.st.flatMap encT)∧s.ks.length≤6∧s.st.length≤8
structure PSb where
 id:Int
 cs:List Con
 st:List (Int×Nat)
def gE.pure (s:gE):PSb:=⟨s.id,s.ks.map bare,s.st⟩
def jO.c (a:jO):List AV:=[.int .i64 a.k,.int .u64 a.js,.bool a.there,a.p]
def jO.ft (a:jO) (id:Nat):Prop:=predFoot a.p a.ks id
def jO.ok (S:AS) (a:jO):Prop:=PredAt S a.p a.ks∧a.ks.length≤6
theorem rE (S T:AS) (s:gE) (h:gE.ok S s) (hs:∀ id,s.ft id→T.h.get id=S.h.get id) (hn:S.next≤T.next):gE.ok T s:=
 ⟨PredAt.aF h.1 (fun id q=>hs id (.inl q)) hn,h.2.1.aF (fun id q=>hs id (.inr q)) hn,h.2.2⟩
theorem pJ (S T:AS) (s:jO) (h:jO.ok S s) (hs:∀ id,s.ft id→T.h.get id=S.h.get id) (hn:S.next≤T.next):jO.ok T s:=
 ⟨PredAt.aF h.1 hs hn,h.2⟩
abbrev SbsAt (S:AS) (lo:Nat) (w:AV) (L:List gE):Prop:=dq gE.c 3 50 gE.ft gE.ok S lo w L
abbrev AdsAt (S:AS) (lo:Nat) (w:AV) (L:List jO):Prop:=dq jO.c 4 98 jO.ft jO.ok S lo w L
def sbO (P:PB) (i:Nat):Option PSb:=(P.aM i).map fun x=>⟨i,x.cs,x.st⟩
def adO (P:PB) (i:Nat):Option PAd:=if 0<(P.ey i).js then some (P.ey i) else none
def kq (P:PB) (n:Nat):List PSb:=(List.range n).filterMap (sbO P)
def ve (P:PB) (n:Nat):List PAd:=(List.range n).filterMap (adO P)
theorem subsP_succ (P:PB) (n:Nat):kq P (n+1)=kq P n++(match sbO P n with|some s=>[s]|none=>[]):=by
 unfold kq;rw[List.range_succ,List.filterMap_append];cases h:sbO P n<;>simp[h]
theorem adsP_succ (P:PB) (n:Nat):ve P (n+1)=ve P n++(match adO P n with|some s=>[s]|none=>[]):=by
 unfold ve;rw[List.range_succ,List.filterMap_append];cases h:adO P n<;>simp[h]
theorem xK {α β:Type} (f:α→Option β):∀ l:List α,(l.filterMap f).length≤l.length
 | []=>Nat.le_refl _
 | a :: l=>by
  have:=xK f l;rw[List.filterMap_cons];split<;>simp only[List.length_cons]<;>omega
theorem sR (P:PB) (n:Nat):(kq P n).length≤n:=by have:=xK (sbO P) (List.range n);rwa [List.length_range] at this
theorem adsP_len (P:PB) (n:Nat):(ve P n).length≤n:=by have:=xK (adO P) (List.range n);rwa [List.length_range] at this
def za (X:dX):AV:=.agg [pX (X.aM 0),pX (X.aM 1),pX (X.aM 2),pX (X.aM 3),pX (X.aM 4),pX (X.aM 5),pX (X.aM 6),pX (X.aM 7)]
def zb (X:dX):AV:=.agg [.int .i64 (X.ey 0).k,.int .u64 (X.ey 0).js,.bool (X.ey 0).there,(X.ey 0).p,.int .i64 (X.ey 1).k,.int .u64 (X.ey 1).js,.bool (X.ey 1).there,(X.ey 1).p,
 .int .i64 (X.ey 2).k,.int .u64 (X.ey 2).js,.bool (X.ey 2).there,(X.ey 2).p,.int .i64 (X.ey 3).k,.int .u64 (X.ey 3).js,.bool (X.ey 3).there,(X.ey 3).p]
section
variable {S T:AS} {X:dX}
theorem idx105 {F:Fr} {dst:Option Tmp} {ty:TypeId} {pos:String} {af:Array Edge} {gd:Option (Nat×Bool)} {x i:Tmp} {j:Nat} (hx:sl F x=za X) (hi:sl F i=.int .i64 j) (hj:j<8) :
  bo C1 F S ⟨dst,.index 105 (.tmp x) (.tmp i),ty,pos,af,gd⟩=.val (pX (X.aM j)) S:=by
 have hu:aY C1 105=some (.array 8 104):=by kernel_rfl
 have hz:aA C1 104=some 1:=by kernel_rfl
 have ha:aD C1 104=some false:=by kernel_rfl
 unfold za at hx;rcases lt8 hj with rfl|rfl|rfl|rfl|rfl|rfl|rfl|rfl<;>simp[bo,hu,aP,hx,hi,dS,hz,partOf,ha,nth,val?,gI]
theorem idx106 {F:Fr} {dst:Option Tmp} {ty:TypeId} {pos:String} {af:Array Edge} {gd:Option (Nat×Bool)} {x i:Tmp} {j:Nat} (hx:sl F x=zb X) (hi:sl F i=.int .i64 j) (hj:j<4) :
  bo C1 F S ⟨dst,.index 106 (.tmp x) (.tmp i),ty,pos,af,gd⟩=.val (.agg (X.ey j).c) S:=by
 have hu:aY C1 106=some (.array 4 98):=by kernel_rfl
 have hz:aA C1 98=some 4:=by kernel_rfl
 have ha:aD C1 98=some true:=by kernel_rfl
 unfold zb at hx;rcases lt4 hj with rfl|rfl|rfl|rfl<;>simp[bo,hu,aP,hx,hi,dS,hz,partOf,ha,val?,gI,jO.c,cf,bL]
end
open Go.Proofs.YtdknlbnljfdhgaaGreatDoor.mod (Val encV encV_len Con encC encC_len ConOk PredAt mayP mayC mayV setB sameB zeroV mayPred encT encT_len bare encM nget nput mget_encM mput_encM nget_nput nput_mem nget_mem predFoot idxI idx174)
section
variable {S T:AS} {X:dX}
theorem nt38:Tryz.f38.ntmps=42:=by kernel_rfl
def sbH (S:AS) (X:dX) (k:Nat) (F':Fr) (S':AS):Prop:=
 ∃ (j:Nat) (w:AV) (L:List gE),Sub S S'∧SbsAt S' S.next w L∧L.map gE.pure=kq X.pure j∧sl F' 3=w∧sl F' 13=za X∧sl F' 14=.int .i64 j∧j≤8∧F'.n=42∧k=8-j
theorem sbH_mk {k:Nat} {F':Fr} (j:Nat) (w:AV) (L:List gE) (h1:Sub S T) (h2:SbsAt T S.next w L) (h3:L.map gE.pure=kq X.pure j) (h4:sl F' 3=w) (h5:sl F' 13=za X) (h6:sl F' 14=.int .i64 j) (h7:j≤8) (h8:F'.n=42) (h9:k=8-j):sbH S X k F' T:=
 ⟨j,w,L,h1,h2,h3,h4,h5,h6,h7,h8,h9⟩
theorem gu (s:gE):s.c.length=3:=rfl
theorem pI (s:jO):s.c.length=4:=rfl
set_option maxRecDepth 20000 in
theorem subs38 (h:bR S X):ai C1 38 [.ptr X.b 0 0 27] S fun v T=>Sub S T∧∃ L,SbsAt T S.next v L∧L.map gE.pure=kq X.pure 8:=by
 have qz:=fun Q=>oo h (Q:=Q);have dI:=h.row;unfold dX.c at dI;refine aW (dJ _) (dM _ rfl) fn38 rfl ok38 (by simp) fun F hn s0=>?_;rw[nt38] at hn;simp[s0,bN,qz,dI];refine av (sbH S X) 8 (sbH_mk 0 .ar [] (Sub.refl S) dq.nil rfl (by simp) (by simp[za]) (by simp) (by omega) (by simp[hn]) rfl) ?_;clear s0 hn qz dI;rintro k F' S'-⟨j,w,L,hS,hL,hp,t3,t13,t14,hj,hn,hk⟩;by_cases hj8:j<8
 case neg=>
  obtain rfl:j=8:=by omega
  simp[t3,t13,t14,hL.gw.1.np,aq hL.gw.1];exact ⟨hS,L,hL,hp⟩
 have Ch:(j:Int)<8:=by omega
 have Eg:∀ (F:Fr) (dst:Option Tmp) (ty:TypeId) (pos:String) (af:Array Edge) (gd:Option (Nat×Bool)),sl F 13=za X→sl F 14=.int .i64 j→bo C1 F S' ⟨dst,.index 105 (.tmp 13) (.tmp 14),ty,pos,af,gd⟩=.val (pX (X.aM j)) S':=fun F dst ty pos af gd h1 h2=>idx105 h1 h2 hj8;have hw:=IntWalk.i64_in ((j:Int)+1) (by omega);have yN:=subsP_succ X.pure j;cases hx:X.aM j with
 | none=>
  have eo:sbO X.pure j=none:=by unfold sbO dX.pure;simp[hx]
  rw[eo,List.append_nil] at yN;rw[hx] at Eg;simp only[pX] at Eg;simp[t3,t13,t14,Ch,hj8,Eg,hw];exact ⟨8-(j+1),by omega,sbH_mk (j+1) w L hS hL (by rw[yN];exact hp) (by simp[t3]) (by simp[t13]) (by simp) (by omega) (by simp[hn]) rfl⟩
 | some x=>
  have eo:sbO X.pure j=some ⟨j,x.ks.map bare,x.st⟩:=by unfold sbO dX.pure;simp[hx,dB.pure]
  rw[eo] at yN;rw[hx] at Eg;simp only[pX] at Eg;have q:=(h.toSub hS).sub j x hj8 hx;have qrow:=q.row;unfold dB.c at qrow;have h6:x.ks.length≤6:=wZ q.pred.may;obtain ⟨c,T1,⟨tu,hq,hb,sL,jI⟩,e86⟩:=(up1 (mod.su q.pred.at_ h6 (fun c hc=>((lW q.pred.may q.pred.num).2 c hc).2.1))).ex;have u2:=q.sl.aU encT_len (by omega);obtain ⟨v,T2,⟨jC,hv,_,hvl,hvb⟩,e87⟩:=(up1 (mod.clone73 (q.sl.toSub sL) (by rw[u2];have:=q.sl8;omega))).ex;have hT12:=sL.trans jC;have qrow1:=(sL.h _ q.lt).trans qrow;have qrow2:=(hT12.h _ q.lt).trans qrow;have hL2:=hL.sub rE hT12;have hwold:=hL.gw.1.old;have hT1n:=sL.next
  have hT2n:=jC.next
  have hl6:tu.length≤6:=by have:=congrArg List.length hb;simp at this;omega
  obtain ⟨s,hs⟩:∃ s:gE,s=⟨j,c,tu,v,x.st⟩:=⟨_,rfl⟩
  have hsc:s.c=[.int .i64 j,c,v]:=by rw[hs];rfl
  have tB:gE.ok T2 s:=by rw[hs];exact ⟨hq.sub jC,hv,hl6,q.sl8⟩
  have hlen:L.length≤8:=by have:=congrArg List.length hp;have:=sR X.pure j;simp at *;omega
  have hwl:sLen w=L.length:=hL.gw.1.aU gu (by omega);obtain ⟨w',T3,e3,hL3,k3,n3⟩:=hL2.push (t:=35) (bs:=56) st35 un35 rE (by have:=hS.next;omega) (a:=s) tB (fun id e=>by
   have bK:id<T2.next:=by
    rcases e with e|e
    ·exact PredAt.bT tB.1 e
    ·have:=tB.2.1.old;omega
   have nJ:S'.next≤id:=by
    rw[hs] at e;rcases e with e|e
    ·exact jI id e
    ·have e:aN v=id+1:=e;omega
   have:=hS.next
   exact ⟨by omega,bK,by omega⟩) rfl (by rw[hwl];simp[fits,cn];omega)
  rw[hsc] at e3;have mE:∀ (F:Fr) (B:Nat) (y:Tmp),sl F y=.agg [.int .i64 j,c,v]→aC C1 F B (.buildSlice 35 1 #[(0,.tmp y)])=some (.slice B 0 0 1 3 3 (some 1),.row [.int .i64 j,c,v] 0 0 false 50):=fun F B y a0=>by
   have:=c9 (cx:=C1) (F:=F) (t:=35) (p:=(50,3,56)) (id:=B) (n:=1) (a:=#[(0,.tmp y)]) [[.int .i64 j,c,v]] st35 rfl (by simp[a0,cellsOf]) (by simp) (by decide);rw[this];simp
  have k1:=aq q.pred.at_.sl;have k2:=aq hq.sl;have k3':=hq.sl.cells;have k4:=hq.sl.np;have k5:=aq q.sl;have k6:=aq hv;have k7:=hv.cells;have k8:=hv.np;have k9:=aq hL.gw.1;have hL3g:=hL3.gw.1;have ka:=hL3g.np;have kb:=aq hL3g;have pA:Sub S T3:=⟨fun id ck=>(k3 id ck).trans ((hS.trans hT12).h id ck),by have:=hS.next;omega⟩
  have hpure:(L++[s]).map gE.pure=kq X.pure (j+1):=by
   rw[yN,List.map_append,hp,hs];show _++[(⟨j,tu.map bare,x.st⟩:PSb)]=_;rw[hb]
  simp[t3,t13,t14,Ch,hj8,Eg];refine aK [.p,.p,.p,.p,.p,.r 0 2,.p,.p,.p,.p,.r 0 0,.e [],.p,.p,.p,.p,.r 1 0,.e [],.p,.e [],.e [],.p] (n:=42) (by kernel_rfl) (by simp[hn]) ?_;simp[t3,t13,t14,Ch,hj8,Eg,qrow,qrow1,qrow2,bN,e86,e87,k1,k2,k3',k4,k5,k6,k7,k8,k9,bld50 hq.sl.sl hv.sl,mE,e3,ka,kb,hw];exact ⟨8-(j+1),by omega,sbH_mk (j+1) w' (L++[s]) pA hL3 hpure (by simp) (by simp[t13]) (by simp) (by omega) (by simp[hn]) rfl⟩
theorem nt39:Tryz.f39.ntmps=30:=by kernel_rfl
def adH (S:AS) (X:dX) (k:Nat) (F':Fr) (S':AS):Prop:=
 ∃ (j:Nat) (w:AV) (L:List jO),Sub S S'∧AdsAt S' S.next w L∧L.map jO.pure=ve X.pure j∧sl F' 3=w∧sl F' 13=zb X∧sl F' 14=.int .i64 j∧j≤4∧F'.n=30∧k=4-j
theorem adH_mk {k:Nat} {F':Fr} (j:Nat) (w:AV) (L:List jO) (h1:Sub S T) (h2:AdsAt T S.next w L) (h3:L.map jO.pure=ve X.pure j) (h4:sl F' 3=w) (h5:sl F' 13=zb X) (h6:sl F' 14=.int .i64 j) (h7:j≤4) (h8:F'.n=30) (h9:k=4-j):adH S X k F' T:=
 ⟨j,w,L,h1,h2,h3,h4,h5,h6,h7,h8,h9⟩
set_option maxRecDepth 20000 in
theorem ads39 (h:bR S X):ai C1 39 [.ptr X.b 0 0 27] S fun v T=>Sub S T∧∃ L,AdsAt T S.next v L∧L.map jO.pure=ve X.pure 4:=by
 have qz:=fun Q=>oo h (Q:=Q);have dI:=h.row;unfold dX.c at dI;refine aW (dJ _) (dM _ rfl) fn39 rfl ok39 (by simp) fun F hn s0=>?_;rw[nt39] at hn;simp[s0,bN,qz,dI];refine av (adH S X) 4 (adH_mk 0 .ar [] (Sub.refl S) dq.nil rfl (by simp) (by simp[zb]) (by simp) (by omega) (by simp[hn]) rfl) ?_;clear s0 hn qz dI;rintro k F' S'-⟨j,w,L,hS,hL,hp,t3,t13,t14,hj,hn,hk⟩;by_cases hj4:j<4
 case neg=>
  obtain rfl:j=4:=by omega
  simp[t3,t13,t14,hL.gw.1.np,aq hL.gw.1];exact ⟨hS,L,hL,hp⟩
 have Ch:(j:Int)<4:=by omega
 have Eg:∀ (F:Fr) (dst:Option Tmp) (ty:TypeId) (pos:String) (af:Array Edge) (gd:Option (Nat×Bool)),sl F 13=zb X→sl F 14=.int .i64 j→bo C1 F S' ⟨dst,.index 106 (.tmp 13) (.tmp 14),ty,pos,af,gd⟩=.val (.agg (X.ey j).c) S':=fun F dst ty pos af gd h1 h2=>idx106 h1 h2 hj4;have hw:=IntWalk.i64_in ((j:Int)+1) (by omega);have yN:=adsP_succ X.pure j;have q:=((h.toSub hS).ad j hj4).1;obtain ⟨a,ha⟩:∃ a,a=X.ey j:=⟨_,rfl⟩
 rw[←ha] at q Eg;have ea:X.pure.ey j=a.pure:=by rw[ha];rfl
 have k1:=aq q.at_.sl;have k1c:=q.at_.sl.cells;obtain ⟨S1,dL⟩:∃ S1:AS,S1=⟨(S'.h.set S'.next (.row [.int .i64 0,.int .u64 0,.bool false,.ar] 0 0 false 98)).set S'.next (.row a.c 0 0 false 98),S'.next+1⟩:=⟨_,rfl⟩
 have s1:Sub S' S1:=by rw[dL];exact seg.iW
 have g1:S1.h.get S'.next=some (.row a.c 0 0 false 98):=by rw[dL];exact aa _ _ _
 have n1:S1.next=S'.next+1:=by rw[dL]
 have jD:=dL.symm;clear dL;have hgg:S1.h.get S'.next=some (.row [.int .i64 a.k,.int .u64 a.js,.bool a.there,a.p] 0 0 false 98):=g1
 simp only[jO.c] at Eg jD;by_cases hv:0<a.js
 case neg=>
  have hvI:¬(0:Int)<a.js:=by omega
  have eo:adO X.pure j=none:=by unfold adO;rw[ea];exact if_neg hv
  rw[eo,List.append_nil] at yN;simp[t3,t13,t14,Ch,hj4,Eg,hw,k1c,jD,hgg,hv,hvI];exact ⟨4-(j+1),by omega,adH_mk (j+1) w L (hS.trans s1) (hL.sub pJ s1) (by rw[yN];exact hp) (by simp[t3]) (by simp[t13]) (by simp) (by omega) (by simp[hn]) rfl⟩
 have hvI:(0:Int)<a.js:=by omega
 have eo:adO X.pure j=some a.pure:=by unfold adO;rw[ea];exact if_pos hv
 rw[eo] at yN;have h6:a.ks.length≤6:=wZ q.may;obtain ⟨c,T1,⟨tu,hq,hb,sL,jI⟩,e86⟩:=(up1 (mod.su (q.at_.sub s1) h6 (fun c hc=>((lW q.may q.num).2 c hc).2.1))).ex;have g2:=(sL.h _ (by omega)).trans hgg;have hT1n:=sL.next
 obtain ⟨T2,jC⟩:∃ T2:AS,T2=⟨T1.h.set S'.next (.row [.int .i64 a.k,.int .u64 a.js,.bool a.there,c] 0 0 false 98),T1.next⟩:=⟨_,rfl⟩
 have g3:T2.h.get S'.next=some (.row [.int .i64 a.k,.int .u64 a.js,.bool a.there,c] 0 0 false 98):=by rw[jC];exact aa _ _ _
 have o3:∀ id,id≠S'.next→T2.h.get id=T1.h.get id:=fun id hi=>by rw[jC];exact ae _ _ hi
 have n3:T2.next=T1.next:=by rw[jC]
 have bT2:=jC.symm;clear jC;have hST2:Sub S' T2:=⟨fun id hi=>(o3 id (by omega)).trans ((s1.trans sL).h id hi),by omega⟩
 have hL2:=hL.sub pJ hST2;have hwold:=hL.gw.1.old;have hl6:tu.length≤6:=by have:=congrArg List.length hb;simp at this;omega
 obtain ⟨s,hs⟩:∃ s:jO,s=⟨a.k,a.js,a.there,c,tu⟩:=⟨_,rfl⟩
 have hsc:s.c=[.int .i64 a.k,.int .u64 a.js,.bool a.there,c]:=by rw[hs];rfl
 have hnw:∀ id,predFoot c tu id→S'.next<id:=fun id e=>by have:=jI id e;omega
 have tB:jO.ok T2 s:=by rw[hs];exact ⟨PredAt.aF hq (fun id e=>o3 id (by have:=hnw id e;omega)) (by omega),hl6⟩
 have hlen:L.length≤4:=by have:=congrArg List.length hp;have:=adsP_len X.pure j;simp at *;omega
 have hwl:sLen w=L.length:=hL.gw.1.aU pI (by omega);obtain ⟨w',T3,e3,hL3,k3,m3⟩:=hL2.push (t:=36) (bs:=48) st36 un36 pJ (by have:=hS.next;omega) (a:=s) tB (fun id e=>by
  have bK:=PredAt.bT tB.1 e;rw[hs] at e;have nJ:=hnw id e;have:=hS.next
  exact ⟨by omega,bK,by omega⟩) rfl (by rw[hwl];simp[fits,cn];omega)
 rw[hsc] at e3;have k2:=aq hq.sl;have k3':=hq.sl.cells;have k4:=hq.sl.np;have k9:=aq hL.gw.1;have hL3g:=hL3.gw.1;have ka:=hL3g.np;have kb:=aq hL3g;have mE:∀ (F:Fr) (B:Nat) (y:Tmp),sl F y=.agg [.int .i64 a.k,.int .u64 a.js,.bool a.there,c]→aC C1 F B (.buildSlice 36 1 #[(0,.tmp y)])=some (.slice B 0 0 1 4 4 (some 1),.row [.int .i64 a.k,.int .u64 a.js,.bool a.there,c] 0 0 false 98):=fun F B y a0=>by
  have:=c9 (cx:=C1) (F:=F) (t:=36) (p:=(98,4,48)) (id:=B) (n:=1) (a:=#[(0,.tmp y)]) [[.int .i64 a.k,.int .u64 a.js,.bool a.there,c]] st36 rfl (by simp[a0,cellsOf]) (by simp) (by decide);rw[this];simp
 have pA:Sub S T3:=⟨fun id ck=>(k3 id ck).trans ((hS.trans hST2).h id ck),by have:=hS.next;omega⟩
 have hpure:(L++[s]).map jO.pure=ve X.pure (j+1):=by
  rw[yN,List.map_append,hp,hs];show _++[(⟨a.k,a.js,a.there,tu.map bare⟩:PAd)]=_;rw[hb];rfl
 simp[t3,t13,t14,Ch,hj4,Eg,hw,k1,k1c,jD,hgg,hv,hvI,bN,e86,g2,k2,k3',k4,k9,bT2,g3,mE,e3,ka,kb];exact ⟨4-(j+1),by omega,adH_mk (j+1) w' (L++[s]) pA hL3 hpure (by simp) (by simp[t13]) (by simp) (by omega) (by simp[hn]) rfl⟩
end
open Go.Proofs.YtdknlbnljfdhgaaGreatDoor.mod (Val encV encV_len Con encC encC_len ConOk PredAt mayP mayC mayV setB sameB zeroV mayPred encT encT_len bare encM nget nput mget_encM mput_encM nget_nput nput_mem nget_mem predFoot idxI idx174)
def fO (f:Nat→Nat):List AV:=(List.range 128).map fun m=>AV.int .u64 (f m:Nat)
def gQ (a b:AV) (f:Nat→Nat):List AV:=a :: b :: fO f
@[simp] theorem mq (f:Nat→Nat):(fO f).length=128:=by simp[fO]
theorem db (a b:AV) (f:Nat→Nat):(gQ a b f).length=130:=by simp[gQ]
def zH:List AV:=gQ .ar .ar fun _=>0
@[simp] theorem ze40:zeroOf C1 40=some (.agg zH):=by kernel_rfl
theorem bld40 {a b:AV} (h:isSl 3 a=true) (hb:isSl 4 b=true):dV C1 40 [(0,a),(1,b)]=some (.agg (gQ a b fun _=>0)):=by
 cases a<;>first|(simp[isSl] at h;done)|(cases b<;>first|(simp[isSl] at hb;done)|kernel_rfl)
def jo (P:PB) (n:Nat) (m:Nat):Nat:=if m<n then dZ (P.aM (m / 16)) ((m%16:Nat):Int) else 0
theorem curL_set {f g:Nat→Nat} {m c:Nat} (hm:m<128) (h1:g m=c) (h2:∀ j,j≠m→g j=f j):(fO f).set m (.int .u64 c)=fO g:=by
 unfold fO;apply List.ext_getElem?;intro j;by_cases hj:j<128
 ·rw[List.getElem?_set];by_cases e:m=j
  ·subst e;rw[if_pos rfl,if_pos (by simpa using hm),List.getElem?_map,List.getElem?_range hm,Option.map_some,h1]
  ·rw[if_neg e,List.getElem?_map,List.getElem?_map,List.getElem?_range hj,Option.map_some,Option.map_some,h2 j (Ne.symm e)]
 ·rw[List.getElem?_eq_none (by simp;omega),List.getElem?_eq_none (by simp;omega)]
theorem heC_set {a b:AV} {P:PB} {n c:Nat} (hn:n<128) (hc:c=dZ (P.aM (n / 16)) ((n%16:Nat):Int)):(gQ a b (jo P n)).set (2+n) (.int .u64 c)=gQ a b (jo P (n+1)):=by
 rw[Nat.add_comm 2 n];show a :: b :: (fO _).set n _=_;rw[curL_set (g:=jo P (n+1)) hn (by unfold jo;rw[if_pos (Nat.lt_succ_self _),hc]) (fun j hj=>by
  unfold jo;by_cases h:j<n
  ·rw[if_pos h,if_pos (by omega)]
  ·rw[if_neg h,if_neg (by omega)])]
 rfl
theorem curF_zero (P:PB):jo P 0=fun _=>0:=by funext m;rfl
section
variable {S T:AS} {X:dX}
theorem dq.aF {α:Type} {enc:α→List AV} {sz e:Nat} {ft:α→Nat→Prop} {vt:AS→α→Prop} {lo lo':Nat} {w:AV} {L:List α} (stab:∀ S T a,vt S a→(∀ id,ft a id→T.h.get id=S.h.get id)→S.next≤T.next→vt T a)
  (h:dq enc sz e ft vt S lo w L) (hs:∀ id,lo≤id→id<S.next→T.h.get id=S.h.get id) (hn:S.next≤T.next) (hl:lo'≤lo):dq enc sz e ft vt T lo' w L:=
 ⟨h.gw.aF (fun id q=>hs id (by have:=h.new;unfold jN at this;omega) (by have:=h.gw.1.old;omega)) hn,by have:=h.new;unfold jN at this ⊢;omega,fun a ha=>⟨stab S T a (h.el a ha).1 (fun id q=>hs id ((h.el a ha).2 id q).1 ((h.el a ha).2 id q).2.1) hn,fun id q=>by
  have h1:=(h.el a ha).2 id q;exact ⟨by omega,by omega,h1.2.2⟩⟩⟩
structure HdX where
 sw:AV
 L:List gE
 aw:AV
 A:List jO
 f:Nat→Nat
def HdX.c (H:HdX):List AV:=gQ H.sw H.aw H.f
structure HdAt (S:AS) (lo:Nat) (H:HdX):Prop where
 sbs:SbsAt S lo H.sw H.L
 ey:AdsAt S lo H.aw H.A
structure HdOf (P:PB) (H:HdX):Prop where
 sbs:H.L.map gE.pure=kq P 8
 ey:H.A.map jO.pure=ve P 4
 cur:H.f=jo P 128
def hoH (S T2:AS) (X:dX) (sw aw:AV) (k:Nat) (F':Fr) (S':AS):Prop:=
 ∃ i:Nat,(∀ id,id<T2.next→S'.h.get id=T2.h.get id)∧T2.next<S'.next∧S'.h.get T2.next=some (.row (gQ sw aw (jo X.pure (16*i))) 0 0 false 40)∧sl F' 0=.ptr X.b 0 0 27∧sl F' 2=.ptr S.next 0 0 130∧sl F' 3=.ptr T2.next 0 0 130∧sl F' 4=.int .i64 i∧i≤8∧F'.n=29∧k=8-i
theorem hoH_mk {T2 U:AS} {sw aw:AV} {k:Nat} {F':Fr} (i:Nat) (h1:∀ id,id<T2.next→U.h.get id=T2.h.get id) (h2:T2.next<U.next) (h3:U.h.get T2.next=some (.row (gQ sw aw (jo X.pure (16*i))) 0 0 false 40)) (h4:sl F' 0=.ptr X.b 0 0 27) (h5:sl F' 2=.ptr S.next 0 0 130) (h6:sl F' 3=.ptr T2.next 0 0 130) (h7:sl F' 4=.int .i64 i) (h8:i≤8) (h9:F'.n=29) (qQ:k=8-i):hoH S T2 X sw aw k F' U:=
 ⟨i,h1,h2,h3,h4,h5,h6,h7,h8,h9,qQ⟩
def hiH (S T2:AS) (X:dX) (sw aw:AV) (i:Nat) (k:Nat) (F':Fr) (S':AS):Prop:=
 ∃ j:Nat,(∀ id,id<T2.next→S'.h.get id=T2.h.get id)∧T2.next<S'.next∧S'.h.get T2.next=some (.row (gQ sw aw (jo X.pure (16*i+j))) 0 0 false 40)∧sl F' 0=.ptr X.b 0 0 27∧sl F' 2=.ptr S.next 0 0 130∧sl F' 3=.ptr T2.next 0 0 130∧sl F' 4=.int .i64 i∧sl F' 5=.int .i64 j∧j≤16∧F'.n=29∧k=16-j
theorem hiH_mk {T2 U:AS} {sw aw:AV} {i k:Nat} {F':Fr} (j:Nat) (h1:∀ id,id<T2.next→U.h.get id=T2.h.get id) (h2:T2.next<U.next) (h3:U.h.get T2.next=some (.row (gQ sw aw (jo X.pure (16*i+j))) 0 0 false 40)) (h4:sl F' 0=.ptr X.b 0 0 27) (h5:sl F' 2=.ptr S.next 0 0 130) (h6:sl F' 3=.ptr T2.next 0 0 130) (h7:sl F' 4=.int .i64 i) (h7':sl F' 5=.int .i64 j) (h8:j≤16) (h9:F'.n=29) (qQ:k=16-j):hiH S T2 X sw aw i k F' U:=
 ⟨j,h1,h2,h3,h4,h5,h6,h7,h7',h8,h9,qQ⟩
theorem mX {S:AS} {B:Nat} {cs:List AV} {ty:Nat} {fz:Bool} (h:S.h.get B=some (.row cs 0 0 fz ty)) (hl:cs.length=130):loadT C1 S 40 (.ptr B 0 0 130)=some (.agg cs):=by
 simp only[gz,iK,ag40,sz40,ph,h,bY];rw[if_pos ⟨Nat.le_refl _,Nat.le_refl _,by omega⟩,List.drop_zero,List.take_of_length_le (by omega)];rfl
theorem nt8:Tryz.f8.ntmps=29:=by kernel_rfl
set_option maxRecDepth 20000 in
theorem holds8 (h:bR S X):ai C1 8 [.ptr X.b 0 0 27] S fun v T=>Sub S T∧∃ H:HdX,v=.agg H.c∧HdAt T S.next H∧HdOf X.pure H:=by
 obtain ⟨S1,dL⟩:∃ S1:AS,S1=⟨S.h.set S.next (.row zH 0 0 false 40),S.next+1⟩:=⟨_,rfl⟩
 have s1:Sub S S1:=by rw[dL];exact seg.dE
 have gS:S1.h.get S.next=some (.row zH 0 0 false 40):=by rw[dL];exact aa _ _ _
 have nS:S1.next=S.next+1:=by rw[dL]
 have jD:=dL.symm;clear dL;obtain ⟨sw,T1,⟨t1,L,hL,hp⟩,e38⟩:=(subs38 (h.toSub s1)).ex;obtain ⟨aw,T2,⟨t2,A,hA,hpA⟩,e39⟩:=(ads39 (h.toSub (s1.trans t1))).ex;have k1:=hL.gw.1.np;have k2:=aq hL.gw.1;have k3:=hA.gw.1.np;have k4:=aq hA.gw.1;refine aW (dJ _) (dM _ rfl) fn8 rfl ok8 (by simp) fun F hn s0=>?_;rw[nt8] at hn;have zl:zH.length=130:=db _ _ _;obtain ⟨B,hB⟩:∃ B,B=T2.next:=⟨_,rfl⟩
 have b0:(⟨T2.h.set B (.row zH 0 0 false 40),B+1⟩:AS).h.get B=some (.row zH 0 0 false 40):=aa _ _ _;obtain ⟨S2,fM⟩:∃ S2:AS,S2=⟨(T2.h.set B (.row zH 0 0 false 40)).set B (.row (gQ sw aw fun _=>0) 0 0 false 40),B+1⟩:=⟨_,rfl⟩
 have eX:pL (⟨T2.h.set B (.row zH 0 0 false 40),B+1⟩:AS) (.ptr B 0 0 130) (gQ sw aw fun _=>0)=some S2:=by
  simp only[fo,kk,b0,fp];rw[if_pos ⟨trivial,by rw[db];exact Nat.le_refl _,trivial⟩,fM];have:cz 0 zH (gQ sw aw fun _=>0)=gQ sw aw fun _=>0:=by
   show jX zH _=_;unfold jX;rw[db,bL,List.drop_of_length_le (by rw[zl];exact Nat.le_refl _)];exact List.append_nil _
  rw[this]
 have g2:S2.h.get B=some (.row (gQ sw aw (jo X.pure 0)) 0 0 false 40):=by rw[fM,curF_zero];exact aa _ _ _
 have n2:S2.next=B+1:=by rw[fM]
 have o2:∀ id,id<B→S2.h.get id=T2.h.get id:=fun id hi=>by rw[fM];exact (ae _ _ (by omega)).trans (ae _ _ (by omega))
 clear fM;simp[s0,bN,jD,e38,e39,k1,k2,k3,k4,bld40 hL.gw.1.sl hA.gw.1.sl,zl,←hB,eX,db];refine av (hoH S T2 X sw aw) 8 (hoH_mk 0 (by rw[←hB];exact o2) (by omega) (by rw[←hB];exact g2) (by simp[s0]) (by simp) (by simp[hB]) (by simp) (by omega) (by simp[hn]) rfl) ?_;clear s0 hn eX b0 g2 n2 o2 e38 e39 jD;rintro k F' S'-⟨i,h1,h2,h3,t0,t2',t3,t4,hi,hn,hk⟩;by_cases hi8:i<8
 ·have kF:(i:Int)<8:=by omega
  simp[t0,t2',t3,t4,kF];refine av (hiH S T2 X sw aw i) 16 (hiH_mk 0 h1 h2 h3 (by simp[t0]) (by simp[t2']) (by simp[t3]) (by simp[t4]) (by simp) (by omega) (by simp[hn]) rfl) ?_;clear h1 h2 h3 t0 t2' t3 t4 hn;rintro k F' S'-⟨j,h1,h2,h3,t0,t2',t3,t4,t5,hj,hn,hk⟩;by_cases hj16:j<16
  ·have Ch:(j:Int)<16:=by omega
   have hX':bR S' X:=(h.toSub ((s1.trans t1).trans t2)).aF h1 (Nat.le_of_lt h2);obtain ⟨c,U,⟨rfl,hU⟩,e40⟩:=(cursor40 hX' i j).ex;have ec:dZ ((jc X.aM (i:Int)).map dB.pure) (j:Int)=dZ (X.pure.aM i) (j:Int):=by rw[nQ _ hi8];rfl
   rw[ec] at e40;have gU:=(hU.h _ h2).trans h3;have hUn:=hU.next
   have hset:=heC_set (a:=sw) (b:=aw) (P:=X.pure) (n:=16*i+j) (c:=dZ (X.pure.aM i) (j:Int)) (by omega) (by
    rw[show (16*i+j) / 16=i by omega,show (16*i+j)%16=j by omega])
   have oy:=wr_cell (x:=.int .u64 (dZ (X.pure.aM i) (j:Int):Nat)) gU (db _ _ _) (show 2+(16*i+j)<130 by omega);rw[hset] at oy;rw[show 2+(16*i+j)=2+i*16+j by omega] at oy;obtain ⟨V,hV⟩:∃ V:AS,V=⟨U.h.set T2.next (.row (gQ sw aw (jo X.pure (16*i+j+1))) 0 0 false 40),U.next⟩:=⟨_,rfl⟩
   rw[←hV] at oy;have v1:∀ id,id<T2.next→V.h.get id=T2.h.get id:=fun id ck=>by rw[hV];exact (ae _ _ (by omega)).trans ((hU.h id (by omega)).trans (h1 id ck))
   have v2:T2.next<V.next:=by rw[hV];show T2.next<U.next;omega
   have v3:V.h.get T2.next=some (.row (gQ sw aw (jo X.pure (16*i+(j+1)))) 0 0 false 40):=by rw[hV];exact aa _ _ _
   clear hV;have hw:=IntWalk.i64_in ((j:Int)+1) (by omega);simp[t0,t2',t3,t4,t5,kF,Ch];refine aK [.p,.p,.p,.p,.p,.e [],.p,.p,.p,.e []] (n:=29) (by kernel_rfl) (by simp[hn]) ?_;simp[t0,t2',t3,t4,t5,kF,hi8,Ch,hj16,bN,e40,oy,hw];exact ⟨16-(j+1),by omega,hiH_mk (j+1) v1 v2 v3 (by simp[t0]) (by simp[t2']) (by simp[t3]) (by simp[t4]) (by simp) (by omega) (by simp[hn]) rfl⟩
  ·obtain rfl:j=16:=by omega
   have hw:=IntWalk.i64_in ((i:Int)+1) (by omega);simp[t0,t2',t3,t4,t5,hw];exact ⟨8-(i+1),by omega,hoH_mk (i+1) h1 h2 h3 (by simp[t0]) (by simp[t2']) (by simp[t3]) (by simp) (by omega) (by simp[hn]) rfl⟩
 ·obtain rfl:i=8:=by omega
  have yv:=mX h3 (db _ _ _);have hT:Sub T2 S':=⟨h1,Nat.le_of_lt h2⟩
  have gT:S'.h.get S.next=some (.row zH 0 0 false 40):=(hT.h _ (by have:=t1.next;have:=t2.next;omega)).trans ((t2.h _ (by have:=t1.next;omega)).trans ((t1.h _ (by omega)).trans gS))
  have hZ:=db .ar .ar fun _=>0;have zl:zH.length=130:=hZ;have nT:S.next<S'.next:=by have:=t1.next;have:=t2.next;have:=hT.next;omega
  obtain ⟨V,hV⟩:∃ V:AS,V=⟨S'.h.set S.next (.row (gQ sw aw (jo X.pure 128)) 0 0 false 40),S'.next⟩:=⟨_,rfl⟩
  have eX:pL S' (.ptr S.next 0 0 130) (gQ sw aw (jo X.pure 128))=some V:=by
   simp only[fo,kk,gT,fp];rw[if_pos ⟨trivial,by rw[db];exact Nat.le_refl _,trivial⟩,hV];have:cz 0 zH (gQ sw aw (jo X.pure 128))=gQ sw aw (jo X.pure 128):=by
    show jX zH _=_;unfold jX;rw[db,bL,List.drop_of_length_le (by rw[zl];exact Nat.le_refl _)];exact List.append_nil _
   rw[this]
  have gV:V.h.get S.next=some (.row (gQ sw aw (jo X.pure 128)) 0 0 false 40):=by rw[hV];exact aa _ _ _
  have oV:∀ id,id≠S.next→V.h.get id=S'.h.get id:=fun id hi=>by rw[hV];exact ae _ _ hi
  have vN:V.next=S'.next:=by rw[hV]
  clear hV;have hld2:aggL (rdO (V.h.get S.next) 0 0 130 130)=some (.agg (gQ sw aw (jo X.pure 128))):=by
   rw[gV,bY,if_pos ⟨Nat.le_refl _,Nat.le_refl _,Nat.le_refl _⟩,List.drop_zero,List.take_of_length_le (by rw[db];exact Nat.le_refl _)];rfl
  simp[t0,t2',t3,t4,yv,eX,db];rw[hld2];refine ⟨rfl,?_⟩;refine ⟨⟨fun id hi=>(oV id (by omega)).trans ((hT.h id (by have:=t1.next;have:=t2.next;omega)).trans ((t2.h id (by have:=t1.next;omega)).trans ((t1.h id (by omega)).trans (s1.h id hi)))),by omega⟩,⟨sw,L,aw,A,jo X.pure 128⟩,rfl,⟨?_,?_⟩,hp,hpA,rfl⟩
  ·exact dq.aF rE hL (fun id q q2=>(oV id (by omega)).trans ((hT.h id (by have:=t2.next;omega)).trans (t2.h id q2))) (by have:=t2.next;have:=hT.next;omega) (by omega)
  ·exact dq.aF pJ hA (fun id q q2=>(oV id (by have:=t1.next;omega)).trans (hT.h id q2)) (by have:=hT.next;omega) (by have:=t1.next;omega)
end
open Go.Proofs.YtdknlbnljfdhgaaGreatDoor.mod (Val encV encV_len Con encC encC_len ConOk PredAt mayP mayC mayV setB sameB zeroV mayPred encT encT_len bare encM nget nput mget_encM mput_encM nget_nput nput_mem nget_mem predFoot idxI idx174)
@[simp] theorem blC1 (n:Int):dV C1 100 [(0,.int .i64 1),(1,.int .i64 n)]=some (.agg [.int .i64 1,.int .i64 n,.str [],.bool false]):=by kernel_rfl
@[simp] theorem blC2 (s:List Nat):dV C1 100 [(0,.int .i64 2),(2,.str s)]=some (.agg [.int .i64 2,.int .i64 0,.str s,.bool false]):=by kernel_rfl
@[simp] theorem blC3 (b:Bool):dV C1 100 [(0,.int .i64 3),(3,.bool b)]=some (.agg [.int .i64 3,.int .i64 0,.str [],.bool b]):=by kernel_rfl
theorem lt_irr:∀ l:List Nat,nq l l=false
 | []=>rfl
 | a :: l=>by
  show cond (Nat.blt a a) true (cond (Nat.beq a a) (nq l l) false)=false;rw[lt_irr l,gI];simp
theorem eq_refl:∀ l:List Nat,qw l l=true
 | []=>rfl
 | a :: l=>by
  show cond (Nat.beq a a) (qw l l) false=true;rw[eq_refl l,Nat.beq_refl];rfl
theorem oG (a:Int):yT a a=true:=by rw[gN];simp
set_option maxRecDepth 20000 in
theorem ne52 (a:Int) (b:Nat) (c:Bool):bt C1 .neq 52 c (.agg [.int .i64 a,.int .u64 b]) (.agg [.int .i64 a,.int .u64 b])=some (.bool false):=by
 have h:Ae C1 52 c (.agg [.int .i64 a,.int .u64 b]) (.agg [.int .i64 a,.int .u64 b])=(match (some (yT a a):Option Bool) with|some true=>(match (some (yT b b):Option Bool) with|some true=>some true|r=>r)|r=>r):=by kernel_rfl
 show (match Ae C1 52 c _ _ with|some r=>some (AV.bool (!r))|none=>none)=_;rw[h,oG,oG];rfl
theorem m7 {eq:AV→AV→Option Bool} {cx:Cx} {e z:Nat} {xs ys:List AV}:∀ (n i:Nat),(∀ j,i≤j→j<i+n→∃ a b,partOf cx e xs (j*z)=some a∧partOf cx e ys (j*z)=some b∧eq a b=some true)→lg eq cx e z xs ys n i=some true
 | 0,_,_=>rfl
 | n+1,i,h=>by
  obtain ⟨a,b,h1,h2,h3⟩:=h i (Nat.le_refl _) (by omega);show (match partOf cx e xs (Nat.mul i z),partOf cx e ys (Nat.mul i z) with
   | some a,some b=>match eq a b with
    | some true=>lg eq cx e z xs ys n (Nat.succ i)
    | r=>r
   | _,_=>none)=some true
  rw[show Nat.mul i z=i*z from rfl,h1,h2];show (match eq a b with
    | some true=>lg eq cx e z xs ys n (Nat.succ i)
    | r=>r)=some true
  rw[h3];exact m7 n (i+1) fun j h4 h5=>h j (by omega) (by omega)
theorem cur_get {f:Nat→Nat} {j:Nat} (h:j<128):(fO f)[j]?=some (.int .u64 (f j:Nat)):=by
 unfold fO;rw[List.getElem?_map,List.getElem?_range h];rfl
noncomputable abbrev cE:Cx:=lite C1.jW C1.eqs
set_option maxRecDepth 20000 in
theorem eq38 (f:Nat→Nat):sh C1 6 38 (.agg (fO f)) (.agg (fO f))=some true:=by
 have h:sh C1 6 38 (.agg (fO f)) (.agg (fO f))=lg (eqR cE 5 37) cE 37 16 (fO f) (fO f) 8 0:=by kernel_rfl
 rw[h];refine m7 _ _ fun j h1 h2=>?_;have hp:partOf cE 37 (fO f) (j*16)=some (.agg (takeN 16 (jT (j*16) (fO f)))):=by kernel_rfl
 refine ⟨_,_,hp,hp,?_⟩;obtain ⟨L,hL⟩:∃ L,L=takeN 16 (jT (j*16) (fO f)):=⟨_,rfl⟩
 have h3:eqR cE 5 37 (.agg L) (.agg L)=lg (eqR cE 4 27) cE 27 1 L L 16 0:=by kernel_rfl
 rw[←hL,h3];refine m7 _ _ fun m h4 h5=>?_;have hn:nth m L=some (.int .u64 (f (j*16+m):Nat)):=by
  rw[gf,hL,cf,bL,List.getElem?_take_of_lt (by omega),List.getElem?_drop];exact cur_get (by omega)
 have hq:partOf cE 27 L (m*1)=nth (m*1) L:=by kernel_rfl
 rw[Nat.mul_one] at hq ⊢;refine ⟨_,_,hq.trans hn,hq.trans hn,?_⟩;have h6:∀ x:Int,eqR cE 4 27 (.int .u64 x) (.int .u64 x)=some (yT x x):=fun x=>by kernel_rfl
 rw[h6,oG]
set_option maxRecDepth 20000 in
theorem ne38 (f:Nat→Nat) (c:Bool):bt C1 .neq 38 c (.agg (fO f)) (.agg (fO f))=some (.bool false):=by
 show (match Ae C1 38 c _ _ with|some r=>some (AV.bool (!r))|none=>none)=_;rw[show Ae C1 38 c (.agg (fO f)) (.agg (fO f))=sh C1 6 38 (.agg (fO f)) (.agg (fO f)) from rfl,eq38];rfl
section
variable {S T:AS}
theorem BI (a:Val) (S:AS):ai C1 234 [.agg (encV a),.agg (encV a)] S fun r T=>Sub S T∧r=.int .i64 0:=by
 refine cp (dJ _) (dM _ rfl) fn234 rfl ok234 (by simp) fun F hn kR=>?_;have s0:=kR 0;have s1:=kR 1;clear kR;simp only[List.getElem?_cons_zero,List.getElem?_cons_succ,Option.getD_some,encV] at s0 s1;by_cases k1:a.kind=1
 ·simp[s0,s1,k1,mod.yC]
 by_cases k2:a.kind=2
 ·simp[s0,s1,k1,k2,mod.yC,lt_irr]
 by_cases k3:a.kind=3
 ·cases hb:a.bool<;>simp[s0,s1,k1,k2,k3,hb,mod.yC]
 simp[s0,s1,k1,k2,k3,mod.yC]
theorem Cu (a:Val) (S:AS):ai C1 187 [.agg (encV a),.agg (encV a)] S fun r T=>Sub S T∧r=.int .i64 0:=by
 have h0:Sub S ⟨(S.h.set S.next (.row (encV a) 0 0 false 100)).set (S.next+1) (.row (encV a) 0 0 false 100),S.next+2⟩:=mod.yC;have lk:∀ T:AS,Sub ⟨(S.h.set S.next (.row (encV a) 0 0 false 100)).set (S.next+1) (.row (encV a) 0 0 false 100),S.next+2⟩ T→T.h.get S.next=some (.row (encV a) 0 0 false 100)∧T.h.get (S.next+1)=some (.row (encV a) 0 0 false 100):=fun T hT=>
  ⟨(hT.h _ (by show S.next<S.next+2;omega)).trans ((ae _ _ (by omega)).trans (aa _ _ _)),(hT.h _ (by show S.next+1<S.next+2;omega)).trans (aa _ _ _)⟩
 obtain ⟨_,T1,⟨t1,rfl⟩,e1⟩:=(BI a ⟨(S.h.set S.next (.row (encV a) 0 0 false 100)).set (S.next+1) (.row (encV a) 0 0 false 100),S.next+2⟩).ex;obtain ⟨_,T2,⟨t2,rfl⟩,e2⟩:=(BI ⟨1,a.num,[],false⟩ T1).ex;obtain ⟨_,T3,⟨t3,rfl⟩,e3⟩:=(BI ⟨2,0,a.str,false⟩ T2).ex;obtain ⟨_,T4,⟨t4,rfl⟩,e4⟩:=(BI ⟨3,0,[],a.bool⟩ T3).ex;obtain ⟨g1,g1'⟩:=lk _ t1;obtain ⟨g2,g2'⟩:=lk _ (t1.trans t2);obtain ⟨g3,g3'⟩:=lk _ ((t1.trans t2).trans t3);simp only[encV] at *;refine cp (dJ _) (dM _ rfl) fn187 rfl ok187 (by simp) fun F hn kR=>?_;have s0:=kR 0;have s1:=kR 1;clear kR;simp only[List.getElem?_cons_zero,List.getElem?_cons_succ,Option.getD_some,encV] at s0 s1;simp[s0,s1,bN,e1,e2,e3,e4,g1,g1',g2,g2',g3,g3'];exact (((h0.trans t1).trans t2).trans t3).trans t4
theorem nt147:Tryz.f147.ntmps=77:=by kernel_rfl
theorem nt95:Tryz.f95.ntmps=41:=by kernel_rfl
theorem nt47:Tryz.f47.ntmps=26:=by kernel_rfl
theorem bare_eqs {a b:Con} (h:bare a=bare b):b.name=a.name∧b.op=a.op∧b.val=a.val∧b.bX=a.bX:=by
 have h1:=congrArg Con.name h;have h2:=congrArg Con.op h;have h3:=congrArg Con.val h;have h4:=congrArg Con.bX h;exact ⟨h1.symm,h2.symm,h3.symm,h4.symm⟩
def ordH (S:AS) (a:Con) (u v:AV) (k:Nat) (F':Fr) (S':AS):Prop:=
 ∃ i:Nat,Sub S S'∧sl F' 2=u∧sl F' 3=v∧sl F' 6=.int .i64 i∧i≤a.bX.length∧F'.n=77∧k=a.bX.length-i
theorem ordH_mk {a:Con} {u v:AV} {k:Nat} {F':Fr} (i:Nat) (h1:Sub S T) (h4:sl F' 2=u) (h5:sl F' 3=v) (h6:sl F' 6=.int .i64 i) (h7:i≤a.bX.length) (h8:F'.n=77) (h9:k=a.bX.length-i):ordH S a u v k F' T:=
 ⟨i,h1,h4,h5,h6,h7,h8,h9⟩
theorem ord147 {a b:Con} (ha:ConOk S a) (hb:ConOk S b) (he:bare a=bare b):ai C1 147 [.agg (encC a),.agg (encC b)] S fun r T=>Sub S T∧r=.int .i64 0:=by
 obtain ⟨S1,dL⟩:∃ S1:AS,S1=⟨(S.h.set S.next (.row (encC a) 0 0 false 103)).set (S.next+1) (.row (encC b) 0 0 false 103),S.next+2⟩:=⟨_,rfl⟩
 have h0:Sub S S1:=by rw[dL];exact mod.yC
 have g0:S1.h.get S.next=some (.row (encC a) 0 0 false 103):=by rw[dL];exact (ae _ _ (by omega)).trans (aa _ _ _)
 have g0':S1.h.get (S.next+1)=some (.row (encC b) 0 0 false 103):=by rw[dL];exact aa _ _ _
 have nS1:S1.next=S.next+2:=by rw[dL]
 have jD:=dL.symm;clear dL;obtain ⟨e1,e2,e3,e4⟩:=bare_eqs he;have h6:=ha.le;obtain ⟨_,T1,⟨t1,rfl⟩,w1⟩:=(Cu a.val S1).ex;have g1:=(t1.h _ (by omega)).trans g0;have g1':=(t1.h _ (by omega)).trans g0';have u1:=ha.sl.sl;have u2:=ha.sl.aU encV_len (by omega);have v1:=hb.sl.sl;have v2:=hb.sl.aU encV_len (by omega);rw[e4] at v2;have ok1:=aq ha.sl;have ok2:=aq hb.sl;have yx:=hb.sl;rw[e4] at yx;simp only[encC,e1,e2,e3] at jD g0 g0' g1 g1';simp only[encV] at w1;refine cp (dJ _) (dM _ rfl) fn147 rfl ok147 (by simp) fun F hn kR=>?_;rw[nt147] at hn;have s0:=kR 0;have s1:=kR 1;clear kR;simp only[List.getElem?_cons_zero,List.getElem?_cons_succ,Option.getD_some,encC,e1,e2,e3] at s0 s1;simp[s0,s1,bN,jD,g0,g0',w1,g1,g1',eq_refl];refine av (ordH S1 a (.ptr S.next 0 0 7) (.ptr (S.next+1) 0 0 7)) a.bX.length (ordH_mk 0 t1 (by simp) (by simp) (by simp) (by omega) (by simp[hn]) rfl) ?_;clear s0 s1 hn g1 g1' w1 t1 jD;rintro k F' S'-⟨i,hS,t2,t3,t6,hi,hn,hk⟩;have g1:=(hS.h _ (by omega)).trans g0;have g1':=(hS.h _ (by omega)).trans g0';by_cases cW:i<a.bX.length
 ·obtain ⟨t,hx⟩:∃ t,a.bX[i]?=some t:=⟨_,List.getElem?_eq_getElem cW⟩
  have l1:=cJ (cx:=C1) (e:=100) (ha.sl.toSub (h0.trans hS)) encV_len (by omega) hx ag100 CD;have l2:=cJ (cx:=C1) (e:=100) (yx.toSub (h0.trans hS)) encV_len (by omega) hx ag100 CD;have kF:(i:Int)<a.bX.length:=by omega
  obtain ⟨_,U,⟨q1,rfl⟩,w1⟩:=(Cu t S').ex;have gY:=cd (i:=i) (by omega);simp[t2,t3,t6,g1,g1',u1,u2,v1,v2,cW,kF];refine aK [.p,.r 0 0,.p,.p,.r 0 0,.p,.r 0 0,.p,.p,.r 0 0,.e [],.p] (n:=77) (by kernel_rfl) (by simp[hn]) ?_;simp[t2,t3,t6,g1,g1',u1,u2,v1,v2,cW,kF,l1,l2,bN,w1,gY,ok1,ok2];exact ⟨a.bX.length-(i+1),by omega,ordH_mk (i+1) (hS.trans q1) (by simp[t2]) (by simp[t3]) (by simp) (by omega) (by simp[hn]) rfl⟩
 ·obtain rfl:i=a.bX.length:=by omega
  simp[t2,t3,t6,g1,g1',u1,u2,v1,v2,cW,ok1,ok2];exact h0.trans hS
def cmpH (S:AS) (n:Nat) (u v:AV) (k:Nat) (F':Fr) (S':AS):Prop:=
 ∃ i:Nat,Sub S S'∧sl F' 0=u∧sl F' 1=v∧sl F' 5=.int .i64 i∧i≤n∧F'.n=41∧k=n-i
theorem cmpH_mk {n:Nat} {u v:AV} {k:Nat} {F':Fr} (i:Nat) (h1:Sub S T) (h4:sl F' 0=u) (h5:sl F' 1=v) (h6:sl F' 5=.int .i64 i) (h7:i≤n) (h8:F'.n=41) (h9:k=n-i):cmpH S n u v k F' T:=
 ⟨i,h1,h4,h5,h6,h7,h8,h9⟩
theorem Bg {α β:Type} {f:α→β} {l l':List α} (h:l.map f=l'.map f) {i:Nat} {x:α} (hx:l[i]?=some x):∃ y,l'[i]?=some y∧f x=f y:=by
 have:=congrArg (·[i]?) h;simp only[List.getElem?_map,hx,Option.map_some] at this;cases hy:l'[i]? with
 | none=>rw[hy] at this;cases this
 | some y=>rw[hy] at this;exact ⟨y,rfl,Option.some.inj this⟩
theorem cmp95 {p q:AV} {ks ls:List Con} (hp:PredAt S p ks) (hq:PredAt S q ls) (he:ks.map bare=ls.map bare):ai C1 95 [p,q] S fun r T=>Sub S T∧r=.int .i64 0:=by
 have el:ls.length=ks.length:=by have:=congrArg List.length he;simpa using this.symm
 have h6:=hp.le;have u1:=hp.sl.sl;have u2:=hp.sl.aU encC_len (by omega);have v1:=hq.sl.sl;have v2:=hq.sl.aU encC_len (by omega);rw[el] at v2;refine bC (dJ _) (dM _ rfl) fn95 rfl ok95 (by simp) fun F hn s0 s1=>?_;rw[nt95] at hn;simp[s0,s1];refine av (cmpH S ks.length p q) ks.length (cmpH_mk 0 (Sub.refl S) (by simp[s0]) (by simp[s1]) (by simp) (by omega) (by simp[hn]) rfl) ?_;clear s0 s1 hn;rintro k F' S'-⟨i,hS,t0,t1,t5,hi,hn,hk⟩;by_cases cW:i<ks.length
 ·obtain ⟨a,hx⟩:∃ t,ks[i]?=some t:=⟨_,List.getElem?_eq_getElem cW⟩
  obtain ⟨b,hy,yQ⟩:=Bg he hx;have l1:=cJ (cx:=C1) (e:=103) (hp.sl.toSub hS) encC_len (by omega) hx ag103 zp;have l2:=cJ (cx:=C1) (e:=103) (hq.sl.toSub hS) encC_len (by omega) hy ag103 zp;have kF:(i:Int)<ks.length:=by omega
  obtain ⟨_,U,⟨q1,rfl⟩,w1⟩:=(ord147 ((hp.yW a (List.mem_of_getElem? hx)).sub hS) ((hq.yW b (List.mem_of_getElem? hy)).sub hS) yQ).ex;have gY:=cd (i:=i) (by omega);have ok1:=aq (hp.yW a (List.mem_of_getElem? hx)).sl;have ok2:=aq (hq.yW b (List.mem_of_getElem? hy)).sl;simp[t0,t1,t5,u1,u2,v1,v2,cW,kF];refine aK [.p,.p,.p,.r 0 0,.p,.p,.p,.r 0 0,.e [],.p] (n:=41) (by kernel_rfl) (by simp[hn]) ?_;simp only[encC] at l1 l2 w1;simp[t0,t1,t5,u1,u2,v1,v2,cW,kF,l1,l2,bN,w1,gY,ok1,ok2];exact ⟨ks.length-(i+1),by omega,cmpH_mk (i+1) (hS.trans q1) (by simp[t0]) (by simp[t1]) (by simp) (by omega) (by simp[hn]) rfl⟩
 ·obtain rfl:i=ks.length:=by omega
  simp[t0,t1,t5,u1,u2,v1,v2,cW];exact hS
theorem same48 {p q:AV} {ks ls:List Con} (hp:PredAt S p ks) (hq:PredAt S q ls) (he:ks.map bare=ls.map bare):ai C1 48 [p,q] S fun r T=>Sub S T∧r=.bool true:=by
 obtain ⟨_,U,⟨q1,rfl⟩,w1⟩:=(cmp95 hp hq he).ex;refine bC (dJ _) (dM _ rfl) fn48 rfl ok48 (by simp) fun F hn s0 s1=>?_;simp[s0,s1,bN,w1];exact q1
def eqlH (S:AS) (n:Nat) (u v:AV) (k:Nat) (F':Fr) (S':AS):Prop:=
 ∃ i:Nat,S'=S∧sl F' 0=u∧sl F' 1=v∧sl F' 5=.int .i64 i∧i≤n∧F'.n=26∧k=n-i
theorem eqlH_mk {n:Nat} {u v:AV} {k:Nat} {F':Fr} (i:Nat) (h1:T=S) (h4:sl F' 0=u) (h5:sl F' 1=v) (h6:sl F' 5=.int .i64 i) (h7:i≤n) (h8:F'.n=26) (h9:k=n-i):eqlH S n u v k F' T:=
 ⟨i,h1,h4,h5,h6,h7,h8,h9⟩
theorem equal47 {u v:AV} {st:List (Int×Nat)} (hu:Sl S u 2 (st.flatMap encT)) (hv:Sl S v 2 (st.flatMap encT)) (h8:st.length≤8):ai C1 47 [u,v] S fun r T=>Sub S T∧r=.bool true:=by
 have u1:=hu.sl;have u2:=hu.aU encT_len (by omega);have v1:=hv.sl;have v2:=hv.aU encT_len (by omega);refine bC (dJ _) (dM _ rfl) fn47 rfl ok47 (by simp) fun F hn s0 s1=>?_;rw[nt47] at hn;simp[s0,s1,u1,u2,v1,v2];refine av (eqlH S st.length u v) st.length (eqlH_mk 0 rfl (by simp[s0]) (by simp[s1]) (by simp) (by omega) (by simp[hn]) rfl) ?_;clear s0 s1 hn;rintro k F' S'-⟨i,rfl,t0,t1,t5,hi,hn,hk⟩;by_cases cW:i<st.length
 ·obtain ⟨t,hx⟩:∃ t,st[i]?=some t:=⟨_,List.getElem?_eq_getElem cW⟩
  have l1:=cJ (cx:=C1) (e:=52) hu encT_len (by omega) hx ag52 sz52;have l2:=cJ (cx:=C1) (e:=52) hv encT_len (by omega) hx ag52 sz52;have kF:(i:Int)<st.length:=by omega
  have gY:=cd (i:=i) (by omega);simp only[encT] at l1 l2;simp[t0,t1,t5,u1,u2,v1,v2,cW,kF];refine eC (n:=26) (by kernel_rfl) (by simp[hn]) ?_;simp[t0,t1,t5,u1,u2,v1,v2,cW,kF,l1,l2,gY,hu.ok,hv.ok,ne52];exact ⟨st.length-(i+1),by omega,eqlH_mk (i+1) rfl (by simp[t0]) (by simp[t1]) (by simp) (by omega) (by simp[hn]) rfl⟩
 ·obtain rfl:i=st.length:=by omega
  simp[t0,t1,t5,u1,u2,v1,v2,cW];exact Sub.refl _
end
open Go.Proofs.YtdknlbnljfdhgaaGreatDoor.mod (Val encV encV_len Con encC encC_len ConOk PredAt mayP mayC mayV setB sameB zeroV mayPred encT encT_len bare encM nget nput mget_encM mput_encM nget_nput nput_mem nget_mem predFoot idxI idx174)
structure Ql {α:Type} (enc:α→List AV) (sz:Nat) (vt:AS→α→Prop) (S:AS) (w:AV) (L:List α):Prop where
 sl:Sl S w sz (L.flatMap enc)
 el:∀ a,a∈L→vt S a
section
variable {S T:AS}
theorem gE.ok.sub {s:gE} (h:gE.ok S s) (hs:Sub S T):gE.ok T s:=⟨h.1.sub hs,h.2.1.toSub hs,h.2.2⟩
theorem Ql.subS {w:AV} {L:List gE} (h:Ql gE.c 3 gE.ok S w L) (hs:Sub S T):Ql gE.c 3 gE.ok T w L:=⟨h.sl.toSub hs,fun a ha=>(h.el a ha).sub hs⟩
theorem dq.ql {α:Type} {enc:α→List AV} {sz e:Nat} {ft:α→Nat→Prop} {vt:AS→α→Prop} {lo:Nat} {w:AV} {L:List α} (h:dq enc sz e ft vt S lo w L):Ql enc sz vt S w L:=⟨h.gw.1,fun a ha=>(h.el a ha).1⟩
section
variable {B:Nat} {a b:AV} {f:Nat→Nat} {fz:Bool}
theorem DR (h:S.h.get B=some (.row (gQ a b f) 0 0 fz 40)):loadT C1 S 35 (.ptr B 0 0 130)=some a:=by
 simp only[gz,iK,ag35,kh,h,bY];rfl
theorem ld_aw (h:S.h.get B=some (.row (gQ a b f) 0 0 fz 40)):loadT C1 S 36 (.ptr B 0 1 130)=some b:=by
 simp only[gz,iK,ag36,kh,h,bY];rfl
theorem ld_cur (h:S.h.get B=some (.row (gQ a b f) 0 0 fz 40)):loadT C1 S 38 (.ptr B 0 2 130)=some (.agg (fO f)):=by
 simp only[gz,iK,ag38,sz38,ph,h,bY];rw[if_pos ⟨Nat.le_refl _,Nat.le_refl _,by omega⟩];rfl
end
theorem nt10:Tryz.f10.ntmps=128:=by kernel_rfl
def aliH (S:AS) (n t:Nat) (u v:AV) (k:Nat) (F':Fr) (S':AS):Prop:=
 ∃ i:Nat,Sub S S'∧sl F' 2=u∧sl F' 3=v∧sl F' t=.int .i64 i∧i≤n∧F'.n=128∧k=n-i
theorem vJ {n t:Nat} {u v:AV} {k:Nat} {F':Fr} (i:Nat) (h1:Sub S T) (h4:sl F' 2=u) (h5:sl F' 3=v) (h6:sl F' t=.int .i64 i) (h7:i≤n) (h8:F'.n=128) (h9:k=n-i):aliH S n t u v k F' T:=
 ⟨i,h1,h4,h5,h6,h7,h8,h9⟩
set_option maxRecDepth 20000 in
theorem B6 {sw sw' aw aw':AV} {L L':List gE} {A A':List jO} {f:Nat→Nat} (h1:Ql gE.c 3 gE.ok S sw L) (uF:Ql gE.c 3 gE.ok S sw' L') (h2:Ql jO.c 4 jO.ok S aw A) (jS:Ql jO.c 4 jO.ok S aw' A')
  (e1:L.map gE.pure=L'.map gE.pure) (e2:A.map jO.pure=A'.map jO.pure) (hl:L.length≤8) (ha:A.length≤4) :
  ai C1 10 [.agg (gQ sw aw f),.agg (gQ sw' aw' f)] S fun r T=>Sub S T∧r=.bool true:=by
 obtain ⟨S1,dL⟩:∃ S1:AS,S1=⟨(S.h.set S.next (.row (gQ sw aw f) 0 0 false 40)).set (S.next+1) (.row (gQ sw' aw' f) 0 0 false 40),S.next+2⟩:=⟨_,rfl⟩
 have h0:Sub S S1:=by rw[dL];exact mod.yC
 have g0:S1.h.get S.next=some (.row (gQ sw aw f) 0 0 false 40):=by rw[dL];exact (ae _ _ (by omega)).trans (aa _ _ _)
 have g0':S1.h.get (S.next+1)=some (.row (gQ sw' aw' f) 0 0 false 40):=by rw[dL];exact aa _ _ _
 have nS1:S1.next=S.next+2:=by rw[dL]
 have jD:=dL.symm;clear dL;have el:L'.length=L.length:=by have:=congrArg List.length e1;simpa using this.symm
 have ea:A'.length=A.length:=by have:=congrArg List.length e2;simpa using this.symm
 have u1:=h1.sl.sl;have u2:=h1.sl.aU gu (by omega);have v1:=uF.sl.sl;have v2:=uF.sl.aU gu (by omega);have x1:=h2.sl.sl;have x2:=h2.sl.aU pI (by omega);have y1:=jS.sl.sl;have y2:=jS.sl.aU pI (by omega);rw[el] at v2;rw[ea] at y2;have uo:=h1.sl.ok;have vo:=uF.sl.ok;have xo:=h2.sl.ok;have yo:=jS.sl.ok;have k1:=aq h1.sl;have k2:=aq uF.sl;have k3:=aq h2.sl;have k4:=aq jS.sl;have lds:∀ T:AS,Sub S1 T→(loadT C1 T 35 (.ptr S.next 0 0 130)=some sw∧loadT C1 T 35 (.ptr (S.next+1) 0 0 130)=some sw')∧(loadT C1 T 36 (.ptr S.next 0 1 130)=some aw∧loadT C1 T 36 (.ptr (S.next+1) 0 1 130)=some aw'):=fun T hT=>by
  have a1:=(hT.h _ (by omega)).trans g0;have a2:=(hT.h _ (by omega)).trans g0';exact ⟨⟨DR a1,DR a2⟩,ld_aw a1,ld_aw a2⟩
 obtain ⟨⟨a1,a2⟩,a3,a4⟩:=lds S1 (Sub.refl _);have a5:=ld_cur g0;have a6:=ld_cur g0';refine bC (dJ _) (dM _ rfl) fn10 rfl ok10 (by simp) fun F hn s0 s1=>?_;rw[nt10] at hn;simp[s0,s1,db,jD,a1,a2,a3,a4,a5,a6,u1,u2,v1,v2,x1,x2,y1,y2,k1,k2,k3,k4,ne38];refine av (aliH S1 L.length 5 (.ptr S.next 0 0 130) (.ptr (S.next+1) 0 0 130)) L.length (vJ 0 (Sub.refl _) (by simp) (by simp) (by simp) (by omega) (by simp[hn]) rfl) ?_;clear s0 s1 hn a1 a2 a3 a4 a5 a6 jD;rintro k F' S'-⟨i,hS,t2,t3,t5,hi,hn,hk⟩;obtain ⟨⟨a1,a2⟩,a3,a4⟩:=lds S' hS;by_cases cW:i<L.length
 ·obtain ⟨a,hx⟩:∃ t,L[i]?=some t:=⟨_,List.getElem?_eq_getElem cW⟩
  obtain ⟨b,hy,yQ⟩:=Bg e1 hx;have am:=h1.el a (List.mem_of_getElem? hx);have bm:=uF.el b (List.mem_of_getElem? hy);have eid:b.id=a.id:=(congrArg PSb.id yQ).symm;have ecs:a.ks.map bare=b.ks.map bare:=congrArg PSb.cs yQ;have est:b.st=a.st:=(congrArg PSb.st yQ).symm;have q1:=h1.sl.toSub (h0.trans hS);have q2:=uF.sl.toSub (h0.trans hS);have l1:=fK (cx:=C1) (e:=3) (o:=0) q1 gu (by omega) hx (y:=.int .i64 a.id) rfl ag3;have l2:=fK (cx:=C1) (e:=3) (o:=0) q2 gu (by omega) hy (y:=.int .i64 b.id) rfl ag3;have l3:=fK (cx:=C1) (e:=48) (o:=2) q1 gu (by omega) hx (y:=a.sv) rfl ag48;have l4:=fK (cx:=C1) (e:=48) (o:=2) q2 gu (by omega) hy (y:=b.sv) rfl ag48;rw[eid] at l2;have p1:=pq (k:=i) u1 (by omega);have p2:=pq (k:=i) v1 (by omega);have f1:jk (jZ sw i) (some 0)=some (pW (jZ sw i) 0):=eQ p1;have f2:jk (jZ sw' i) (some 0)=some (pW (jZ sw' i) 0):=eQ p2;have f3:jk (jZ sw i) (some 2)=some (pW (jZ sw i) 2):=eQ p1;have f4:jk (jZ sw' i) (some 2)=some (pW (jZ sw' i) 2):=eQ p2;have f5:jk (jZ sw i) (some 1)=some (pW (jZ sw i) 1):=eQ p1;have f6:jk (jZ sw' i) (some 1)=some (pW (jZ sw' i) 1):=eQ p2;have kF:(i:Int)<L.length:=by omega
  obtain ⟨_,U,⟨U1,rfl⟩,w1⟩:=(equal47 (am.2.1.toSub (h0.trans hS)) (by have:=bm.2.1.toSub (h0.trans hS);rwa [est] at this) am.2.2.2).ex;obtain ⟨⟨b1,b2⟩,b3,b4⟩:=lds U (hS.trans U1);have q3:=h1.sl.toSub ((h0.trans hS).trans U1);have q4:=uF.sl.toSub ((h0.trans hS).trans U1);have l5:=fK (cx:=C1) (e:=29) (o:=1) q3 gu (by omega) hx (y:=a.p) rfl ag29;have l6:=fK (cx:=C1) (e:=29) (o:=1) q4 gu (by omega) hy (y:=b.p) rfl ag29;obtain ⟨_,V,⟨V1,rfl⟩,w2⟩:=(same48 (am.1.sub ((h0.trans hS).trans U1)) (bm.1.sub ((h0.trans hS).trans U1)) ecs).ex;have gY:=cd (i:=i) (by omega);have c1:=aq am.1.sl;have c2:=aq bm.1.sl;have c3:=aq am.2.1;have c4:=aq bm.2.1;simp[t2,t3,t5,a1,a2,u1,u2,v1,v2,cW,kF,uo,vo,k1,k2];refine aK [.p,.r 0 0,.p,.p,.p,.r 0 0,.p,.r 0 0,.p,.p,.p,.r 0 0,.p,.p,.p,.r 0 0,.p,.p,.p,.r 0 0,.p,.r 0 0,.p,.p,.p,.r 0 0,.e [],.p,.p,.p,.p,.r 0 0,.p,.p,.p,.r 0 0,.p,.r 0 0,.p,.p,.p,.r 0 0,.e [],.p,.p] (n:=128) (by kernel_rfl) (by simp[hn]) ?_;simp[t2,t3,t5,a1,a2,b1,b2,u1,u2,v1,v2,cW,kF,uo,vo,k1,k2,f1,f2,f3,f4,f5,f6,l1,l2,l3,l4,l5,l6,bN,w1,w2,gY,c1,c2,c3,c4,oe];exact ⟨L.length-(i+1),by omega,vJ (i+1) ((hS.trans U1).trans V1) (by simp[t2]) (by simp[t3]) (by simp) (by omega) (by simp[hn]) rfl⟩
 obtain rfl:i=L.length:=by omega
 simp[t2,t3,t5,a1,a2,a3,a4,u1,u2,v1,v2,cW,uo,vo,k1,k2];refine av (aliH S1 A.length 6 (.ptr S.next 0 0 130) (.ptr (S.next+1) 0 0 130)) A.length (vJ 0 hS (by simp[t2]) (by simp[t3]) (by simp) (by omega) (by simp[hn]) rfl) ?_;clear t2 t3 t5 hn a1 a2 a3 a4 hS;rintro k F' S'-⟨i,hS,t2,t3,t6,hi,hn,hk⟩;obtain ⟨⟨a1,a2⟩,a3,a4⟩:=lds S' hS;by_cases cW:i<A.length
 ·obtain ⟨a,hx⟩:∃ t,A[i]?=some t:=⟨_,List.getElem?_eq_getElem cW⟩
  obtain ⟨b,hy,yQ⟩:=Bg e2 hx;have am:=h2.el a (List.mem_of_getElem? hx);have bm:=jS.el b (List.mem_of_getElem? hy);have ek:b.k=a.k:=(congrArg PAd.k yQ).symm;have ev:b.js=a.js:=(congrArg PAd.js yQ).symm;have et:b.there=a.there:=(congrArg PAd.there yQ).symm;have ecs:a.ks.map bare=b.ks.map bare:=congrArg PAd.cs yQ;have w0:Sub S' ⟨S'.h,S'.next+2⟩:=⟨fun _ _=>rfl,Nat.le_add_right _ _⟩
  obtain ⟨_,b3,b4⟩:=lds _ (hS.trans w0);have q1:=h2.sl.toSub ((h0.trans hS).trans w0);have q2:=jS.sl.toSub ((h0.trans hS).trans w0);have l1:=cJ (cx:=C1) (e:=98) q1 pI (by omega) hx ag98 sz98;have l2:=cJ (cx:=C1) (e:=98) q2 pI (by omega) hy ag98 sz98;simp only[jO.c,ek,ev,et] at l1 l2;have kF:(i:Int)<A.length:=by omega
  have gY:=cd (i:=i) (by omega);have c1:=aq am.1.sl;have c2:=aq bm.1.sl;have c3:=am.1.sl.cells;have c4:=bm.1.sl.cells;simp[t2,t3,t6,a1,a2,a3,a4,x1,x2,y1,y2,cW,kF,xo,yo,k3,k4];refine aK [.p,.r 0 0,.p,.p,.r 0 0,.p,.r 0 1,.p,.p,.r 0 1,.f,.f,.e [10,11],.e [10,11]] (n:=128) (by kernel_rfl) (by simp[hn]) ?_;obtain ⟨zc,yu⟩:∃ zc,zc=[AV.int .i64 0,.int .u64 0,.bool false,.ar]:=⟨_,rfl⟩
  obtain ⟨ac,hac⟩:∃ ac,ac=[AV.int .i64 a.k,.int .u64 a.js,.bool a.there,a.p]:=⟨_,rfl⟩
  obtain ⟨bc,hbc⟩:∃ bc,bc=[AV.int .i64 a.k,.int .u64 a.js,.bool a.there,b.p]:=⟨_,rfl⟩
  have w1:Sub S' ⟨((S'.h.set (S'.next+1) (.row zc 0 0 false 98)).set S'.next (.row zc 0 0 false 98)).set S'.next (.row ac 0 0 false 98),S'.next+2⟩:=
   ⟨fun id hi=>(ae _ _ (by omega)).trans ((ae _ _ (by omega)).trans (ae _ _ (by omega))),Nat.le_add_right _ _⟩
  obtain ⟨_,b5,b6⟩:=lds _ (hS.trans w1);have l3:=cJ (cx:=C1) (e:=98) (jS.sl.toSub ((h0.trans hS).trans w1)) pI (by omega) hy ag98 sz98;simp only[jO.c,ek,ev,et] at l3;obtain ⟨S2,fM⟩:∃ S2:AS,S2=⟨(((S'.h.set (S'.next+1) (.row zc 0 0 false 98)).set S'.next (.row zc 0 0 false 98)).set S'.next (.row ac 0 0 false 98)).set (S'.next+1) (.row bc 0 0 false 98),S'.next+2⟩:=⟨_,rfl⟩
  have w2:Sub S' S2:=by rw[fM];exact ⟨fun id hi=>(ae _ _ (by omega)).trans (w1.h id hi),Nat.le_add_right _ _⟩
  have g2:S2.h.get S'.next=some (.row ac 0 0 false 98):=by rw[fM];exact (ae _ _ (by omega)).trans (aa _ _ _)
  have g3:S2.h.get (S'.next+1)=some (.row bc 0 0 false 98):=by rw[fM];exact aa _ _ _
  have pV:=fM.symm;clear fM;rw[hac,yu] at b5 b6 l3;rw[hac,yu,hbc] at pV;rw[hac] at g2;rw[hbc] at g3;have c5:oP b.p=true:=by rcases bm.1.sl.cases with e|⟨_,_,_,_,_,_,e⟩<;>rw[e]<;>rfl
  have nb:∀ (t:Bool) (c:Bool),bt C1 .neq 4 c (.bool t) (.bool t)=some (.bool false):=fun t c=>by cases t<;>kernel_rfl
  obtain ⟨_,V,⟨V1,rfl⟩,e48⟩:=(same48 (am.1.sub ((h0.trans hS).trans w2)) (bm.1.sub ((h0.trans hS).trans w2)) ecs).ex;simp[t2,t3,t6,a1,a2,a3,a4,b3,b4,x1,x2,y1,y2,cW,kF,xo,yo,k3,k4,l1,l2,bN,gY,c1,c2,c3,c4,b5,b6,l3,pV,g2,g3,nb,e48];refine ⟨c5,?_⟩;exact ⟨A.length-(i+1),by omega,vJ (i+1) ((hS.trans w2).trans V1) (by simp[t2]) (by simp[t3]) (by simp) (by omega) (by simp[hn]) rfl⟩
 obtain rfl:i=A.length:=by omega
 simp[t2,t3,t6,a1,a2,a3,a4,x1,x2,y1,y2,cW,xo,yo,k3,k4];exact h0.trans hS
end
open Go.Proofs.YtdknlbnljfdhgaaGreatDoor.mod (Val encV encV_len Con encC encC_len ConOk PredAt mayP mayC mayV setB sameB zeroV mayPred encT encT_len bare encM nget nput mget_encM mput_encM nget_nput nput_mem nget_mem predFoot idxI idx174)
def pN (n:Int) (L:List gE):List gE:=L.filter fun s=>!decide (s.id=n)
section
variable {S T:AS}
theorem othL_succ {n:Int} {L:List gE} {i:Nat} (h:i<L.length):pN n (L.take (i+1))=pN n (L.take i)++(if L[i].id=n then [] else [L[i]]):=by
 unfold pN;rw[List.take_succ_eq_append_getElem h,List.filter_append];by_cases e:L[i].id=n<;>simp[e]
theorem DA (n:Int) (L:List gE):(pN n L).length≤L.length:=List.length_filter_le _ _
theorem nt11:Tryz.f11.ntmps=28:=by kernel_rfl
def othH (S:AS) (w0:AV) (n:Int) (L:List gE) (k:Nat) (F':Fr) (S':AS):Prop:=
 ∃ (i:Nat) (w:AV),Sub S S'∧Gw S' w 3 50 ((pN n (L.take i)).flatMap gE.c)∧jN S.next w∧sl F' 0=w0∧sl F' 1=.int .i64 n∧sl F' 5=w∧sl F' 6=.int .i64 i∧i≤L.length∧F'.n=28∧k=L.length-i
theorem A8 {w0:AV} {n:Int} {L:List gE} {k:Nat} {F':Fr} (i:Nat) (w:AV) (h1:Sub S T) (h2:Gw T w 3 50 ((pN n (L.take i)).flatMap gE.c)) (h3:jN S.next w) (h4:sl F' 0=w0) (h5:sl F' 1=.int .i64 n) (h6:sl F' 5=w) (h7:sl F' 6=.int .i64 i) (h8:i≤L.length) (h9:F'.n=28) (qQ:k=L.length-i):othH S w0 n L k F' T:=
 ⟨i,w,h1,h2,h3,h4,h5,h6,h7,h8,h9,qQ⟩
set_option maxRecDepth 20000 in
theorem Dy {w0:AV} {L:List gE} (n:Int) (h:Sl S w0 3 (L.flatMap gE.c)) (hp:∀ s,s∈L→gE.ok S s) (hb:L.length≤8):ai C1 11 [w0,.int .i64 n] S fun r T=>Sub S T∧Gw T r 3 50 ((pN n L).flatMap gE.c)∧jN S.next r:=by
 have u1:=h.sl;have u2:=h.aU gu (by omega);have uo:=h.ok;have uk:=aq h;refine bC (dJ _) (dM _ rfl) fn11 rfl ok11 (by simp) fun F hn s0 s1=>?_;rw[nt11] at hn;simp;refine av (othH S w0 n L) L.length (A8 0 .ar (Sub.refl S) (by simpa[pN] using (Gw.nil (S:=S) (sz:=3) (e:=50))) (.inl rfl) (by simp[s0]) (by simp[s1]) (by simp) (by simp) (Nat.zero_le _) (by simp[hn]) rfl) ?_;clear s0 s1 hn;rintro k F' S'-⟨i,w,hS,hg,hnw,t0,t1,t5,t6,hi,hn,hk⟩;by_cases cW:i<L.length
 ·obtain ⟨a,hx⟩:∃ t,L[i]?=some t:=⟨_,List.getElem?_eq_getElem cW⟩
  have hxe:L[i]=a:=(List.getElem?_eq_some_iff.1 hx).2;have am:=hp a (List.mem_of_getElem? hx);have yv:=fK (cx:=C1) (e:=3) (o:=0) (h.toSub hS) gu (by omega) hx (y:=.int .i64 a.id) rfl ag3;have p1:=pq (k:=i) u1 (by omega);have f1:jk (jZ w0 i) (some 0)=some (pW (jZ w0 i) 0):=eQ p1;have rp:=cJ (cx:=C1) (e:=50) (h.toSub hS) gu (by omega) hx ag50 sz50;have kF:(i:Int)<L.length:=by omega
  have hwl:sLen w≤8:=by
   have:=hg.1.aU gu (by omega);have h2:=DA n (L.take i);rw[List.length_take] at h2;omega
  have eX:=othL_succ (n:=n) cW;rw[hxe] at eX;have gY:=cd (i:=i) (by omega);have kw:=aq hg.1;have kn:=hg.1.np;have c1:=am.1.sl.cells;have c2:=am.2.1.cells;have d1:=aq am.1.sl;have d2:=aq am.2.1;by_cases e:a.id=n
  ·rw[if_pos e,List.append_nil] at eX;simp[t0,t1,t5,t6,u1,u2,uo,uk,cW,kF,f1,yv,gY,oe,e];exact ⟨L.length-(i+1),by omega,A8 (i+1) w hS (by rw[eX];exact hg) hnw (by simp[t0]) (by simp[t1]) (by simp[t5]) (by simp) (by omega) (by simp[hn]) rfl⟩
  ·rw[if_neg e] at eX;obtain ⟨w',U,e1,g1,g2,g3,g4,g5,g6,g7⟩:=AZ (lo:=S.next) (t:=35) (e:=50) (sz:=3) (bs:=56) (x:=a.c) st35 un35 hg hnw hS.next rfl (by simp[fits,cn];omega)
   have mE:∀ (F:Fr) (B:Nat) (y:Tmp),sl F y=.agg a.c→aC C1 F B (.buildSlice 35 1 #[(0,.tmp y)])=some (.slice B 0 0 1 3 3 (some 1),.row a.c 0 0 false 50):=fun F B y a0=>by
    have:=c9 (cx:=C1) (F:=F) (t:=35) (p:=(50,3,56)) (id:=B) (n:=1) (a:=#[(0,.tmp y)]) [a.c] st35 rfl (by simp[a0,cellsOf]) (by simp[gE.c]) (by decide);rw[this];simp[gE.c]
   have hSU:Sub S U:=⟨fun id ck=>(g3 id ck).trans (hS.h id ck),Nat.le_trans hS.next g4⟩
   have g1':Gw U w' 3 50 ((pN n (L.take (i+1))).flatMap gE.c):=by rw[eX,List.flatMap_append];simpa using g1
   have kn':=g1.1.np;simp only[gE.c] at rp mE e1;simp[t0,t1,t5,t6,u1,u2,uo,uk,cW,kF,f1,yv,rp,mE,e1,gY,oe,e,kw,kn,kn',c1,c2,d1,d2];exact ⟨L.length-(i+1),by omega,A8 (i+1) w' hSU g1' g2 (by simp[t0]) (by simp[t1]) (by simp) (by simp) (by omega) (by simp[hn]) rfl⟩
 ·have:i=L.length:=by omega
  subst this;rw[List.take_length] at hg;simp[t0,t1,t5,t6,u1,u2,uo,uk,hg.1.np,aq hg.1];exact ⟨hS,hg,hnw⟩
end
end Go.Proofs.YtdknlbnljfdhgaaGreatDoor.bk
