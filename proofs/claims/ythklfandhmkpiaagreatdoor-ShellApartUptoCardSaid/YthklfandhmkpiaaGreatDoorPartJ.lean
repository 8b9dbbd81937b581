/-
  ShellApart, as it runs.
-/
import Derived.Test.YthklfandhmkpiaaGreatDoorPartI
import Derived.Test.YthklfandhmkpiaaGreatDoorAmHanded
import Derived.Test.YthklfandhmkpiaaGreatDoorAmRow
import Derived.Test.YthklfandhmkpiaaGreatDoorRows
import Derived.JoinedCond
open Nat renaming le_refl->zza,le_trans->zzc
open Bool renaming and_eq_true->zzb
open List renaming getElem?_eq_getElem->zzd,mem_map_of_mem->zze,length_take->zzf,getElem_mem->zzg,map_cons->zzh
open Array renaming getElem?_toList->zzi
set_option linter.unusedVariables false
set_option linter.unusedSimpArgs false
set_option maxRecDepth 20000
namespace Go.Proofs.YthklfandhmkpiaaGreatDoor.sh
open Go Go.Am Go.Proofs.YthklfandhmkpiaaGreatDoor.dk
theorem eqb(c b:Bool):bI C0 .eql 4 c (.bool b) (.bool b)=some (.bool true):=by cases c<;>cases b<;>kernel_rfl
theorem neb(c b:Bool):bI C0 .neq 4 c (.bool b) (.bool b)=some (.bool false):=by cases c<;>cases b<;>kernel_rfl
theorem zn4:Tryz.f4.ntmps=80:=by kernel_rfl
theorem BS{x:Ev}{s:List Nat}(h:Wrtn [x] s 0):x.nS/\s=x.text:=by
 obtain⟨h1,h2,h3⟩:=h;by_cases hm:∀y,y∈[x]->y.nS
 .by_cases hl:([x].flatMap Ev.text).length<=131072
  .refine⟨hm x (by simp),?_⟩;rw[(h1 hm hl).1];simp
  .exact absurd (h2 hm hl).2 (by decide)
 .exact absurd (h3 hm).2 (by decide)
theorem oh{S:AS}{x:dY}(h:jG S x):x.row.E3:=⟨h.err,h.n,fun o ho=>by
 obtain⟨y,hy,rfl⟩:=List.mem_map.1 (show o∈x.l.map aE.o from ho);exact (h.at_ y hy).dK⟩
theorem yq:∀{l m:List aE},(l.map fun o=>o.o.au)=(m.map fun o=>o.o.au)->l.map aE.strip=m.map aE.strip->l.map aE.o=m.map aE.o
 |[],[],_,_=>rfl
 |[],_::_,h,_=>by cases h
 |_::_,[],h,_=>by cases h
 |a::l,b::m,h1,h2=>by
  simp only[zzh,List.cons.injEq]at h1 h2⊢;refine⟨?_,yq h1.2 h2.2⟩;have h3:=h2.1;have h4:=h1.1;unfold aE.strip at h3;obtain⟨⟨ab,ak,ap,asu,at_,an,aN,aT,ae,aa,aF,aG,ay⟩,aav,abv⟩:=a;obtain⟨⟨bb,bk,bp,bs,bt,bn,bN,bT,be,ba,bF,bG,by_⟩,bav,bbv⟩:=b;simp only[iB.mk.injEq,true_and]at h3 h4⊢;exact⟨h4,h3⟩
theorem qG{x y:dY}{a b c d:AV}:(⟨x.kind,x.err,x.n,x.l.map fun o=>o.o.au,x.l,a,b⟩:de).same ⟨y.kind,y.err,y.n,y.l.map fun o=>o.o.au,y.l,c,d⟩↔x.row=y.row:=by
 unfold de.same dY.row;simp only[Row.mk.injEq];constructor
 .rintro⟨h1,h2,h3,h4,h5⟩;exact⟨h1,h2,h3,yq h4 h5⟩
 .rintro⟨h1,h2,h3,h4⟩;refine⟨h1,h2,h3,?_,?_⟩
  .have:=congrArg (List.map iB.au) h4;simpa[List.map_map,Function.comp_def]using this
  .have:=congrArg (List.map fun o:iB=>{o with au:=0}) h4;have e:aE.strip=fun o:aE=>({o.o with au:=0}:iB):=rfl;rw[e];simpa[List.map_map,Function.comp_def]using this
def L5(S:AS)(x y:dY)(F:Fr)(T:AS):Prop:=∃v w,Sub S T/\sl F 13=v/\sl F 14=w/\F.n=80/\Sl T v 4 x.c/\Sl T w 4 y.c/\jG T x/\jG T y
section
variable{S:AS}
theorem one15{T:AS}(x:cy):Sl (⟨T.h.set T.nx (.row x.c 0 0 false 50),T.nx+1⟩:AS) (.slice T.nx 0 0 1 15 15 (some 1)) 15 x.c:=by
 refine⟨by simp[isSl,eS],?_,by simp[sLen,cy.dm],by simp[aV]⟩;show rd _ _ _ _ (1*15) 15=_;rw[dP,get_set_same,cr,if_pos ⟨zza _,zza _,by omega⟩];rfl
theorem one5{A:AS}{id n:Nat}(x:de)(hn:id<n):Sl (⟨A.h.set id (.row x.c 0 0 false 54),n⟩:AS) (.slice id 0 0 1 5 5 (some 1)) 5 x.c:=by
 refine⟨by simp[isSl,eS],?_,by simp[sLen,de.dm],by simp[aV];omega⟩;show rd _ _ _ _ (1*5) 5=_;rw[dP,get_set_same,cr,if_pos ⟨zza _,zza _,by omega⟩];rfl
set_option maxHeartbeats 8000000 in
theorem law4(hA:EI)(hN:Names){a b:cy}{r q:de}(ha:jz S a)(hb:jz S b)(hr:iC S r)(hq:iC S q):az C0 4 [.agg a.c,.agg b.c,.agg r.c,.agg q.c] S fun v _=>v=.bool true:=by
 have aw:=fun (S:AS) (Q:AV->AS->Prop)=>awake15 hA (S:=S) (Q:=Q);obtain⟨S1,dZ⟩:∃S1:AS,S1=⟨(((S.h.set S.nx (.row a.c 0 0 false 50)).set (S.nx+1) (.row b.c 0 0 false 50)).set (S.nx+2) (.row r.c 0 0 false 54)).set (S.nx+3) (.row q.c 0 0 false 54),S.nx+4⟩:=⟨_,rfl⟩
 have h0:Sub S S1:=by
  rw[dZ];exact⟨fun id cw=>by show (Am.T.set _ _ _).get _=_;rw[ah _ _ (by omega),ah _ _ (by omega),ah _ _ (by omega),ah _ _ (by omega)],by show S.nx<=S.nx+4;omega⟩
 have g4:S1.h.get S.nx=some (.row a.c 0 0 false 50):=by rw[dZ];show (Am.T.set _ _ _).get _=_;rw[ah _ _ (by omega),ah _ _ (by omega),ah _ _ (by omega),get_set_same]
 have g5:S1.h.get (S.nx+1)=some (.row b.c 0 0 false 50):=by rw[dZ];show (Am.T.set _ _ _).get _=_;rw[ah _ _ (by omega),ah _ _ (by omega),get_set_same]
 have g6:S1.h.get (S.nx+2)=some (.row r.c 0 0 false 54):=by rw[dZ];show (Am.T.set _ _ _).get _=_;rw[ah _ _ (by omega),get_set_same]
 have g7:S1.h.get (S.nx+3)=some (.row q.c 0 0 false 54):=by rw[dZ];exact get_set_same _ _ _
 have nS1:S1.nx=S.nx+4:=by rw[dZ]
 have fR:=dZ.symm;clear dZ;obtain⟨A1,hA1⟩:∃A:AS,A=⟨S1.h.set S1.nx (.row a.c 0 0 false 50),S1.nx+1⟩:=⟨_,rfl⟩
 have s1:Sub S1 A1:=by rw[hA1];exact Go.Proofs.YthklfandhmkpiaaGreatDoor.val.dc
 have i1:Sl A1 (.slice S1.nx 0 0 1 15 15 (some 1)) 15 a.c:=by rw[hA1];exact one15 a
 have bA1:=hA1.symm;clear hA1;obtain⟨v1,T1,⟨t1,y1,y0,hz1,he1⟩,c1⟩:=(ours9 i1 (ha.sub (h0.trans s1))).ex;obtain⟨_,T2,⟨t2,w1,e1,rfl,hw1⟩,c2⟩:=(text8 hN (l:=[y1]) (by simpa using y0) (fun x hx=>by rw[List.mem_singleton.1 hx];exact hz1) (by simp) (by simp)).ex;have m1:=s1.nx;have m2:=t1.nx;have m3:=t2.nx;have kW:=((s1.trans t1).trans t2)
 have k4:=(kW.h _ (by omega)).trans g4;have k5:=(kW.h _ (by omega)).trans g5;have k6:=(kW.h _ (by omega)).trans g6;have k7:=(kW.h _ (by omega)).trans g7;obtain⟨A2,hA2⟩:∃A:AS,A=⟨T2.h.set T2.nx (.row b.c 0 0 false 50),T2.nx+1⟩:=⟨_,rfl⟩
 have s2:Sub T2 A2:=by rw[hA2];exact Go.Proofs.YthklfandhmkpiaaGreatDoor.val.dc
 have i2:Sl A2 (.slice T2.nx 0 0 1 15 15 (some 1)) 15 b.c:=by rw[hA2];exact one15 b
 have bA2:=hA2.symm;clear hA2;obtain⟨v2,T3,⟨t3,y2,hy2,hz2,he2⟩,c3⟩:=(ours9 i2 (hb.sub (((h0.trans kW)).trans s2))).ex;obtain⟨_,T4,⟨t4,w2,e2,rfl,hw2⟩,c4⟩:=(text8 hN (l:=[y2]) (by simpa using hy2) (fun x hx=>by rw[List.mem_singleton.1 hx];exact hz2) (by simp) (by simp)).ex;have m4:=s2.nx;have m5:=t3.nx;have m6:=t4.nx;have hT4:=((s2.trans t3).trans t4)
 have l4:=(hT4.h _ (by omega)).trans k4;have l5:=(hT4.h _ (by omega)).trans k5;have l6:=(hT4.h _ (by omega)).trans k6;have l7:=(hT4.h _ (by omega)).trans k7;have hST4:=(h0.trans kW).trans hT4;obtain⟨_,T5,⟨t5,bs,rfl,hbs⟩,c5⟩:=(same16 (ha.sub hST4) (hb.sub hST4)).ex;have n6:=(t5.h _ (by omega)).trans l6;have n7:=(t5.h _ (by omega)).trans l7;have m7:=t5.nx;rw[zzh,List.map_nil,he1]at hw1;rw[zzh,List.map_nil,he2]at hw2;have evs:e1=0->e2=0->bs=decide (w1=w2):=fun h1 h2=>by
  rw[h1]at hw1;rw[h2]at hw2;obtain⟨ma,ta⟩:=BS hw1;obtain⟨mb,tb⟩:=BS hw2;have:=text_iff ha.dK hb.dK ma mb;rw[<-ta,<-tb,<-hbs]at this;rcases bs with _|_
  .simpa using this
  .simpa using this
 clear hw1 hw2 hbs he1 he2 hz1 hz2;have p1:=aj y0;have p2:=aj hy2;have a1:=aj ha.pred.sl;have a2:=aj ha.aR.sl;have a3:=aj ha.aS;have a4:=aj ha.bX;have a5:=aj ha.eH;have a6:=ha.aR.sl.ok;have a7:=ha.aR.sl.base;have b1:=aj hb.pred.sl;have b2:=aj hb.aR.sl;have b3:=aj hb.aS;have b4:=aj hb.bX;have b5:=aj hb.eH;have b6:=hb.aR.sl.ok;have b7:=hb.aR.sl.base;have r1:=aj hr.ws;have r2:=aj hr.os;have r3:=hr.ws.ok;have r4:=hr.os.ok;have q1:=aj hq.ws;have q2:=aj hq.os;have q3:=hq.ws.ok;have q4:=hq.os.ok;have mk:∀{v:AV},xY v->(match v with | .bool b=>true | .int k n=>true | .str s=>true | .cT=>true | .ptr id gen off aM=>true | .ar=>true | .slice id gen off len aM sz cap=>true | .jb=>true | .map id=>true | .kI=>true | .bS=>true|_=>false)=true:=fun h=>by
  rcases h with rfl|⟨_,_,_,_,_,_,_,rfl⟩<;>rfl
 have mq1 := mk (xY.of hq.ws);have mq2 := mk (xY.of hq.os);have fva := fun (F : Fr) (id : Nat) (t : Tmp) (h : sl F t = .agg a.c) => bA (cx := C0) (F := F) (t := 22) (p := (50, 15, 208)) (id := id) (n := 1) (a := #[(0, .tmp t)]) [a.c] z_st22 rfl (by simp [aA, h, cellsOf]) (by simp [cy.dm]) (by decide);have fvb := fun (F : Fr) (id : Nat) (t : Tmp) (h : sl F t = .agg b.c) => bA (cx := C0) (F := F) (t := 22) (p := (50, 15, 208)) (id := id) (n := 1) (a := #[(0, .tmp t)]) [b.c] z_st22 rfl (by simp [aA, h, cellsOf]) (by simp [cy.dm]) (by decide);have fvr := fun (F : Fr) (id : Nat) (t : Tmp) (h : sl F t = .agg r.c) => bA (cx := C0) (F := F) (t := 58) (p := (54, 5, 72)) (id := id) (n := 1) (a := #[(0, .tmp t)]) [r.c] zP rfl (by simp [aA, h, cellsOf]) (by simp [de.dm]) (by decide);have fvq := fun (F : Fr) (id : Nat) (t : Tmp) (h : sl F t = .agg q.c) => bA (cx := C0) (F := F) (t := 58) (p := (54, 5, 72)) (id := id) (n := 1) (a := #[(0, .tmp t)]) [q.c] zP rfl (by simp [aA, h, cellsOf]) (by simp [de.dm]) (by decide);have half : ∀ W : AS, Sub S W → W.h.get (S.nx + 2) = some (.row r.c 0 0 false 54) → W.h.get (S.nx + 3) = some (.row q.c 0 0 false 54) → S.nx + 4 ≤ W.nx →
   ∃(x y:dY)(U1 U2:AS)(v w:AV),(∀Q,az C0 17 [.slice W.nx 0 0 1 5 5 (some 1)] ⟨W.h.set W.nx (.row r.c 0 0 false 54),W.nx+2⟩ Q=Q v U1)/\(∀Q,az C0 17 [.slice (W.nx+1) 0 0 1 5 5 (some 1)] ⟨U1.h.set (W.nx+1) (.row q.c 0 0 false 54),U1.nx⟩ Q=Q w U2) /\
    Sub S U2/\Sl U2 v 4 x.c/\Sl U2 w 4 y.c/\jG U2 x/\jG U2 y/\U1.h.get (S.nx+3)=some (.row q.c 0 0 false 54)/\U1.h.get (S.nx+2)=some (.row r.c 0 0 false 54)/\U2.h.get (S.nx+3)=some (.row q.c 0 0 false 54)/\U2.h.get (S.nx+2)=some (.row r.c 0 0 false 54)/\okW v=true/\okW w=true/\x.row=r.row/\y.row=q.row:=fun W hW g6 g7 hn=>by
  have z1:Sub W ⟨W.h.set W.nx (.row r.c 0 0 false 54),W.nx+2⟩:=⟨fun id cw=>ah _ _ (by omega),by show W.nx<=W.nx+2;omega⟩
  obtain⟨v,U1,⟨u1,x,Dn,hx2,hx3,hx4,hx5,hx6⟩,d1⟩:=(rows17 (one5 (A:=W) (id:=W.nx) (n:=W.nx+2) r (by omega)) (hr.sub (hW.trans z1))).ex;have nU1:W.nx+2<=U1.nx:=u1.nx;have hWU1:∀id,id<W.nx->U1.h.get id=W.h.get id:=fun id cw=>(u1.h id (by show id<W.nx+2;omega)).trans (ah _ _ (by omega));have zB:∀id,id<W.nx->(⟨U1.h.set (W.nx+1) (.row q.c 0 0 false 54),U1.nx⟩:AS).h.get id=W.h.get id:=fun id cw=>(ah _ _ (by omega)).trans (hWU1 id cw);have zW:Sub W ⟨U1.h.set (W.nx+1) (.row q.c 0 0 false 54),U1.nx⟩:=⟨zB,by show W.nx<=U1.nx;omega⟩
  obtain⟨w,U2,⟨u2,y,y0,hy2,hy3,hy4,hy5,hy6⟩,d2⟩:=(rows17 (one5 (A:=U1) (id:=W.nx+1) (n:=U1.nx) q (by omega)) (hq.sub (hW.trans zW))).ex;have hx5':aV v=0\/W.nx+2<aV v:=hx5;have hx6':aV x.sv=0\/W.nx+2<aV x.sv:=hx6;have ag:∀id,id<U1.nx->id≠W.nx+1->U2.h.get id=U1.h.get id:=fun id h1 h2=>(u2.h id h1).trans (ah _ _ h2);have hU2:Sub W U2:=zW.trans u2;refine⟨x,y,U1,U2,v,w,d1,d2,hW.trans hU2,?_,y0,⟨?_,fun o ho=>?_,hx2.kind,hx2.err,hx2.n,hx2.len⟩,hy2,(hWU1 _ (by omega)).trans g7,(hWU1 _ (by omega)).trans g6,(hU2.h _ (by omega)).trans g7,(hU2.h _ (by omega)).trans g6,aj Dn,aj y0,hx3,hy3⟩
  .exact Dn.cE (fun id e=>ag id (by have:=Dn.old;omega) (by omega)) u2.nx
  .exact hx2.sl.cE (fun id e=>ag id (by have:=hx2.sl.old;omega) (by omega)) u2.nx
  .rw[hx4]at ho;exact zip_mem (hr.sub (hW.trans hU2)) o ho
 simp only[cy.c,de.c]at fR g4 g5 k4 k5 l4 l5 bA1 bA2 c5;simp only[List.flatten_cons,List.flatten_nil,List.append_nil,Nat.one_mul,cy.c,de.c]at fva fvb fvr fvq;refine ej (dL _) (dF _ rfl) zf4 rfl zo4 (by simp) fun F hn hs=>?_;rw[zn4]at hn;have s0:=hs 0;have s1:=hs 1;have s2:=hs 2;have s3:=hs 3;clear hs;simp only[List.getElem?_cons_zero,List.getElem?_cons_succ,Option.getD_some,cy.c,de.c]at s0 s1 s2 s3;by_cases k1:e1=0
 case neg=>
  simp[s0,s1,s2,s3,fR,g4,g5,fva,fvb,bA1,bA2,c1,c2,c3,c4,aK,k4,k5,l4,l5,p1,p2,a1,a2,a3,a4,a5,a6,a7,b1,b2,b3,b4,b5,b6,b7,r1,r2,r3,r4,q1,q2,q3,q4,aZ,neb,k1];obtain⟨x,y,U1,U2,v,w,d1,d2,pO,hv,hw,hx,hy,gU,gU6,gV,gV6,fE,sa,ex,ey⟩:=half T4 hST4 l6 l7 (by omega);have j6:=l6;have jn:¬S.nx+3=T4.nx:=by omega
  have jn2:¬S.nx+2=T4.nx:=by omega
  have jn3:¬S.nx+1=T4.nx:=by omega
  have j7:=l7;simp only[de.c]at j6 j7 gU gU6 gV gV6 d1 d2;refine aJ (L5 S x y) ?_ ?_
  .refine bg [.r 0 0,.f,.e [1],.r 1 0,.f,.e [1,4],.p,.p] (n:=80) (by kernel_rfl) (by simp[hn]) ?_;simp[s0,s1,s2,s3,fR,g4,g5,fva,fvb,bA1,bA2,c1,c2,c3,c4,aK,k4,k5,l4,l5,p1,p2,a1,a2,a3,a4,a5,a6,a7,b1,b2,b3,b4,b5,b6,b7,r1,r2,r3,r4,q1,q2,q3,q4,aZ,neb,j6,j7,gU,gU6,gV,gV6,fvr,fvq,d1,d2,fE,sa,jn,jn2,jn3];refine⟨⟨mq1,mq2⟩,?_⟩;exact⟨v,w,pO,by simp,by simp,by simp[hn],hv,hw,hx,hy⟩
  rintro G T ⟨v,w,hS,f13,f14,fn,hv,hw,hx,hy⟩;have fE:=aj hv;have sa:=aj hw;obtain⟨_,R1,⟨r1,s,e,rfl,hse⟩,d3⟩:=(og hN hv hx).ex;obtain⟨_,R2,⟨r2,s',e',rfl,hse'⟩,d4⟩:=(og hN (hw.toSub r1) (hy.sub r1)).ex;by_cases k1:e=0
  case neg=>simp[f13,f14,d3,d4,aK,aw,k1,fE,sa]
  by_cases k2:e'=0
  case neg=>simp[f13,f14,d3,d4,aK,aw,k1,k2,fE,sa]
  have CI:=r1.trans r2;obtain⟨z,R3,⟨r3,zx,z1,z2,hz,uf,hzr⟩,d5⟩:=(nX (hv.toSub CI) (hx.sub CI)).ex;have r13:=CI.trans r3;obtain⟨z',R4,⟨r4,zy,z3,z4,hz',vB,hzr'⟩,d6⟩:=(nX (hw.toSub r13) (hy.sub r13)).ex;obtain⟨_,R5,⟨r5,bb,rfl,jQ⟩,d7⟩:=(Ao (uf.toSub r4) vB (hzr.sub r4) hzr').ex;rw[hz,hz',qG]at jQ;obtain⟨mx,tx⟩:=hse k1;obtain⟨my,ty⟩:=hse' k2;have hi:=tZ (oh hx) (oh hy) mx my;rw[<-tx,<-ty,<-jQ]at hi;have hb:bb=decide (s=s'):=by
   rcases bb with _|_
   .simpa using hi
   .simpa using hi
  have CV:=aj uf;have CU:=aj vB;rw[hb]at d7;by_cases w1:s=s'
  .simp[w1]at d7;simp[f13,f14,d3,d4,d5,d6,d7,aK,aw,k1,k2,fE,sa,CV,CU,aZ,w1,eqb]
  .simp[w1]at d7;simp[f13,f14,d3,d4,d5,d6,d7,aK,aw,k1,k2,fE,sa,CV,CU,aZ,w1,eqb]
 by_cases k2:e2=0
 case neg=>
  simp[s0,s1,s2,s3,fR,g4,g5,fva,fvb,bA1,bA2,c1,c2,c3,c4,aK,k4,k5,l4,l5,p1,p2,a1,a2,a3,a4,a5,a6,a7,b1,b2,b3,b4,b5,b6,b7,r1,r2,r3,r4,q1,q2,q3,q4,aZ,neb,k1,k2];obtain⟨x,y,U1,U2,v,w,d1,d2,pO,hv,hw,hx,hy,gU,gU6,gV,gV6,fE,sa,ex,ey⟩:=half T4 hST4 l6 l7 (by omega);have j6:=l6;have jn:¬S.nx+3=T4.nx:=by omega
  have jn2:¬S.nx+2=T4.nx:=by omega
  have jn3:¬S.nx+1=T4.nx:=by omega
  have j7:=l7;simp only[de.c]at j6 j7 gU gU6 gV gV6 d1 d2;refine aJ (L5 S x y) ?_ ?_
  .refine bg [.r 0 0,.f,.e [1],.r 1 0,.f,.e [1,4],.p,.p] (n:=80) (by kernel_rfl) (by simp[hn]) ?_;simp[s0,s1,s2,s3,fR,g4,g5,fva,fvb,bA1,bA2,c1,c2,c3,c4,aK,k4,k5,l4,l5,p1,p2,a1,a2,a3,a4,a5,a6,a7,b1,b2,b3,b4,b5,b6,b7,r1,r2,r3,r4,q1,q2,q3,q4,aZ,neb,j6,j7,gU,gU6,gV,gV6,fvr,fvq,d1,d2,fE,sa,jn,jn2,jn3];refine⟨⟨mq1,mq2⟩,?_⟩;exact⟨v,w,pO,by simp,by simp,by simp[hn],hv,hw,hx,hy⟩
  rintro G T ⟨v,w,hS,f13,f14,fn,hv,hw,hx,hy⟩;have fE:=aj hv;have sa:=aj hw;obtain⟨_,R1,⟨r1,s,e,rfl,hse⟩,d3⟩:=(og hN hv hx).ex;obtain⟨_,R2,⟨r2,s',e',rfl,hse'⟩,d4⟩:=(og hN (hw.toSub r1) (hy.sub r1)).ex;by_cases k1:e=0
  case neg=>simp[f13,f14,d3,d4,aK,aw,k1,fE,sa]
  by_cases k2:e'=0
  case neg=>simp[f13,f14,d3,d4,aK,aw,k1,k2,fE,sa]
  have CI:=r1.trans r2;obtain⟨z,R3,⟨r3,zx,z1,z2,hz,uf,hzr⟩,d5⟩:=(nX (hv.toSub CI) (hx.sub CI)).ex;have r13:=CI.trans r3;obtain⟨z',R4,⟨r4,zy,z3,z4,hz',vB,hzr'⟩,d6⟩:=(nX (hw.toSub r13) (hy.sub r13)).ex;obtain⟨_,R5,⟨r5,bb,rfl,jQ⟩,d7⟩:=(Ao (uf.toSub r4) vB (hzr.sub r4) hzr').ex;rw[hz,hz',qG]at jQ;obtain⟨mx,tx⟩:=hse k1;obtain⟨my,ty⟩:=hse' k2;have hi:=tZ (oh hx) (oh hy) mx my;rw[<-tx,<-ty,<-jQ]at hi;have hb:bb=decide (s=s'):=by
   rcases bb with _|_
   .simpa using hi
   .simpa using hi
  have CV:=aj uf;have CU:=aj vB;rw[hb]at d7;by_cases w1:s=s'
  .simp[w1]at d7;simp[f13,f14,d3,d4,d5,d6,d7,aK,aw,k1,k2,fE,sa,CV,CU,aZ,w1,eqb]
  .simp[w1]at d7;simp[f13,f14,d3,d4,d5,d6,d7,aK,aw,k1,k2,fE,sa,CV,CU,aZ,w1,eqb]
 have hev:=evs k1 k2;subst hev;by_cases w0:w1=w2
 .simp[w0]at c5;simp[s0,s1,s2,s3,fR,g4,g5,fva,fvb,bA1,bA2,c1,c2,c3,c4,aK,k4,k5,l4,l5,p1,p2,a1,a2,a3,a4,a5,a6,a7,b1,b2,b3,b4,b5,b6,b7,r1,r2,r3,r4,q1,q2,q3,q4,aZ,neb,k1,k2,c5,w0];obtain⟨x,y,U1,U2,v,w,d1,d2,pO,hv,hw,hx,hy,gU,gU6,gV,gV6,fE,sa,ex,ey⟩:=half T5 (hST4.trans t5) n6 n7 (by omega);have j6:=n6;have jn:¬S.nx+3=T5.nx:=by omega
  have jn2:¬S.nx+2=T5.nx:=by omega
  have jn3:¬S.nx+1=T5.nx:=by omega
  have j7:=n7;simp only[de.c]at j6 j7 gU gU6 gV gV6 d1 d2;refine aJ (L5 S x y) ?_ ?_
  .refine bg [.r 0 0,.f,.e [1],.r 1 0,.f,.e [1,4],.p,.p] (n:=80) (by kernel_rfl) (by simp[hn]) ?_;simp[s0,s1,s2,s3,fR,g4,g5,fva,fvb,bA1,bA2,c1,c2,c3,c4,aK,k4,k5,l4,l5,p1,p2,a1,a2,a3,a4,a5,a6,a7,b1,b2,b3,b4,b5,b6,b7,r1,r2,r3,r4,q1,q2,q3,q4,aZ,neb,j6,j7,gU,gU6,gV,gV6,fvr,fvq,d1,d2,fE,sa,jn,jn2,jn3];refine⟨⟨mq1,mq2⟩,?_⟩;exact⟨v,w,pO,by simp,by simp,by simp[hn],hv,hw,hx,hy⟩
  rintro G T ⟨v,w,hS,f13,f14,fn,hv,hw,hx,hy⟩;have fE:=aj hv;have sa:=aj hw;obtain⟨_,R1,⟨r1,s,e,rfl,hse⟩,d3⟩:=(og hN hv hx).ex;obtain⟨_,R2,⟨r2,s',e',rfl,hse'⟩,d4⟩:=(og hN (hw.toSub r1) (hy.sub r1)).ex;by_cases k1:e=0
  case neg=>simp[f13,f14,d3,d4,aK,aw,k1,fE,sa]
  by_cases k2:e'=0
  case neg=>simp[f13,f14,d3,d4,aK,aw,k1,k2,fE,sa]
  have CI:=r1.trans r2;obtain⟨z,R3,⟨r3,zx,z1,z2,hz,uf,hzr⟩,d5⟩:=(nX (hv.toSub CI) (hx.sub CI)).ex;have r13:=CI.trans r3;obtain⟨z',R4,⟨r4,zy,z3,z4,hz',vB,hzr'⟩,d6⟩:=(nX (hw.toSub r13) (hy.sub r13)).ex;obtain⟨_,R5,⟨r5,bb,rfl,jQ⟩,d7⟩:=(Ao (uf.toSub r4) vB (hzr.sub r4) hzr').ex;rw[hz,hz',qG]at jQ;obtain⟨mx,tx⟩:=hse k1;obtain⟨my,ty⟩:=hse' k2;have hi:=tZ (oh hx) (oh hy) mx my;rw[<-tx,<-ty,<-jQ]at hi;have hb:bb=decide (s=s'):=by
   rcases bb with _|_
   .simpa using hi
   .simpa using hi
  have CV:=aj uf;have CU:=aj vB;rw[hb]at d7;by_cases w1:s=s'
  .simp[w1]at d7;simp[f13,f14,d3,d4,d5,d6,d7,aK,aw,k1,k2,fE,sa,CV,CU,aZ,w1,eqb]
  .simp[w1]at d7;simp[f13,f14,d3,d4,d5,d6,d7,aK,aw,k1,k2,fE,sa,CV,CU,aZ,w1,eqb]
 .simp[w0]at c5;simp[s0,s1,s2,s3,fR,g4,g5,fva,fvb,bA1,bA2,c1,c2,c3,c4,aK,k4,k5,l4,l5,p1,p2,a1,a2,a3,a4,a5,a6,a7,b1,b2,b3,b4,b5,b6,b7,r1,r2,r3,r4,q1,q2,q3,q4,aZ,neb,k1,k2,c5,w0];obtain⟨x,y,U1,U2,v,w,d1,d2,pO,hv,hw,hx,hy,gU,gU6,gV,gV6,fE,sa,ex,ey⟩:=half T5 (hST4.trans t5) n6 n7 (by omega);have j6:=n6;have jn:¬S.nx+3=T5.nx:=by omega
  have jn2:¬S.nx+2=T5.nx:=by omega
  have jn3:¬S.nx+1=T5.nx:=by omega
  have j7:=n7;simp only[de.c]at j6 j7 gU gU6 gV gV6 d1 d2;refine aJ (L5 S x y) ?_ ?_
  .refine bg [.r 0 0,.f,.e [1],.r 1 0,.f,.e [1,4],.p,.p] (n:=80) (by kernel_rfl) (by simp[hn]) ?_;simp[s0,s1,s2,s3,fR,g4,g5,fva,fvb,bA1,bA2,c1,c2,c3,c4,aK,k4,k5,l4,l5,p1,p2,a1,a2,a3,a4,a5,a6,a7,b1,b2,b3,b4,b5,b6,b7,r1,r2,r3,r4,q1,q2,q3,q4,aZ,neb,j6,j7,gU,gU6,gV,gV6,fvr,fvq,d1,d2,fE,sa,jn,jn2,jn3];refine⟨⟨mq1,mq2⟩,?_⟩;exact⟨v,w,pO,by simp,by simp,by simp[hn],hv,hw,hx,hy⟩
  rintro G T ⟨v,w,hS,f13,f14,fn,hv,hw,hx,hy⟩;have fE:=aj hv;have sa:=aj hw;obtain⟨_,R1,⟨r1,s,e,rfl,hse⟩,d3⟩:=(og hN hv hx).ex;obtain⟨_,R2,⟨r2,s',e',rfl,hse'⟩,d4⟩:=(og hN (hw.toSub r1) (hy.sub r1)).ex;by_cases k1:e=0
  case neg=>simp[f13,f14,d3,d4,aK,aw,k1,fE,sa]
  by_cases k2:e'=0
  case neg=>simp[f13,f14,d3,d4,aK,aw,k1,k2,fE,sa]
  have CI:=r1.trans r2;obtain⟨z,R3,⟨r3,zx,z1,z2,hz,uf,hzr⟩,d5⟩:=(nX (hv.toSub CI) (hx.sub CI)).ex;have r13:=CI.trans r3;obtain⟨z',R4,⟨r4,zy,z3,z4,hz',vB,hzr'⟩,d6⟩:=(nX (hw.toSub r13) (hy.sub r13)).ex;obtain⟨_,R5,⟨r5,bb,rfl,jQ⟩,d7⟩:=(Ao (uf.toSub r4) vB (hzr.sub r4) hzr').ex;rw[hz,hz',qG]at jQ;obtain⟨mx,tx⟩:=hse k1;obtain⟨my,ty⟩:=hse' k2;have hi:=tZ (oh hx) (oh hy) mx my;rw[<-tx,<-ty,<-jQ]at hi;have hb:bb=decide (s=s'):=by
   rcases bb with _|_
   .simpa using hi
   .simpa using hi
  have CV:=aj uf;have CU:=aj vB;rw[hb]at d7;by_cases w1:s=s'
  .simp[w1]at d7;simp[f13,f14,d3,d4,d5,d6,d7,aK,aw,k1,k2,fE,sa,CV,CU,aZ,w1,eqb]
  .simp[w1]at d7;simp[f13,f14,d3,d4,d5,d6,d7,aK,aw,k1,k2,fE,sa,CV,CU,aZ,w1,eqb]
end
end Go.Proofs.YthklfandhmkpiaaGreatDoor.sh
namespace Go.Proofs.YthklfandhmkpiaaGreatDoor.upto
open Go Go.Am Go.RowKit Go.ChangeShapes Go.WideShapes Go.ChangeAt
noncomputable def cO(cx:Am.Cx)(S:AS)(N:Nat):Nat->TypeId->List AV->Prop
 |0,_,_=>False
 |m+1,t,l=>match bJ cx t with
  |some (.int k)=>∃n,l=[.int k n]/\k.min<=n/\n<=k.max
  |some .bool=>∃b,l=[.bool b]
  |some .string=>∃s:List Nat,l=[.str s]/\s.length<=N/\∀c,c∈s->c<256
  | some (.slice e)=>l=[.ar]∨∃ id len cap sz,l=[.slice id 1 0 len (cap*sz) sz (some cap)]∧aH cx e=some sz∧0<sz∧len≤cap∧cap≤N∧id<S.nx ∧
    (cap=0\/∃cells ty,S.h.get id=some (.row cells 1 1 true ty)/\cells.length=cap*sz/\∀i,i<cap->cO cx S N m e ((cells.drop (i*sz)).take sz))
  |some (.struct fs)=>jL (aH cx) (cO cx S N m) (fs.toList.map (·.type)) l
  |_=>False
noncomputable def jV(cx:Am.Cx)(S:AS)(N m:Nat):List TypeId->List AV->Prop
 |[],l=>l=[]
 |t::ts,l=>∃jF r,l=argA cx t jF::r/\cO cx S N m t jF/\jV cx S N m ts r
theorem bulk_pos{H:Type}(d:DataW H):1<=Rows.uptoBulk d:=by
 cases d with
 |lit l=>cases l<;>simp[Rows.uptoBulk]
 |_=>simp[Rows.uptoBulk]
theorem wa{H:Type}:∀l:List (DataW H),l.length<=Rows.uptoBulkAll l
 |[]=>Nat.zero_le _
 |d::l=>by
  have:=wa l;have:=bulk_pos d;simp only[Rows.uptoBulkAll,List.length_cons];omega
theorem rD{H:Type}{d:DataW H}:∀{l:List (DataW H)},d∈l->Rows.uptoBulk d<=Rows.uptoBulkAll l
 |[],h=>by cases h
 |a::l,h=>by
  simp only[Rows.uptoBulkAll];rcases List.mem_cons.1 h with rfl|h
  .omega
  .have:=rD h;omega
theorem Cc{cx:Am.Cx}{N:Nat}:∀(l:List Field)(o:Nat),iE cx l o N=true->o<=N
 | [], o, h => by have : o = N := by simpa [iE, bC] using h
                  omega
 |g::l,o,h=>by
  unfold iE at h;rw[zzb]at h;cases hg:aH cx g.type with
  |none=>rw[hg]at h;cases h.2
  |some zg=>rw[hg]at h;have:=Cc l _ h.2;omega
section
variable{H:Type}{enc:TypeId×Value->H}{P:Program}{W:World}{Λ:LB}{cx:Am.Cx}{base N:Nat}{held:Bool}
theorem uK(aI:cU Λ P cx){ρ:bf}{S:AS}(hR:R Λ ρ S W):∀(m:Nat)(t:TypeId)(l:List AV)(cs:List Value)(n:Nat)(y:DataW H×List MemPlace),jr cx m t=true->aD ρ l cs->eB cx S m t l ->
  DataW.trod enc P W base (fun _=>true) held n t cs=some y->Rows.uptoBulk y.1<=N->cO cx S N m t l
 |0,_,_,_,_,_,_,_,h,_,_=>h
 |m+1,t,l,cs,n,y,hp,hl,h,ht,hb=>by
  unfold eB at h;unfold jr at hp;unfold cO;split at h
  .rename_i hu;simp only[hu];exact h
  .rename_i hu;simp only[hu];exact h
  .rename_i hu;simp only[hu]at hp⊢;obtain⟨s,rfl,_,h2⟩:=h;obtain⟨b,rfl,rfl,_⟩:=DataW.trod_string (cJ aI hu) ht;refine⟨s,rfl,?_,h2⟩;simp only[aD,aq]at hl;obtain⟨_,_,e,⟨b',e',rfl⟩,_⟩:=hl;cases e;cases e';simp only[Rows.uptoBulk]at hb;rw[List.length_map];omega
  .rename_i e hu;simp only[hu]at hp⊢;rw[zzb]at hp;rcases h with rfl|⟨id,len,cap,sz,rfl,h1,h2,h3,h4,_,h5,h6⟩
   .exact .inl rfl
   .refine .inr ⟨id,len,cap,sz,rfl,h1,h2,h3,?_,h5,?_⟩
    all_goals
     simp only[aD]at hl;obtain⟨v,vs,rfl,hv,hvs⟩:=hl;simp only[aq]at hv;obtain⟨pl,c,p1,p2,p3,p4,p5,hv⟩:=hv
    .rcases hv with⟨rfl,_,hk⟩|⟨_,_,hk,_⟩
     .obtain⟨hk,_⟩:=hk cap rfl;subst hk;rcases DataW.trod_slice (cJ aI hu) ht with⟨e,_⟩|⟨a,len',xL,elems,rest,n',rfl,e,rfl,_,_,_,hel,_,hrr,_⟩
      .cases e
      .cases e;obtain⟨hrl,_⟩:=hrr rfl;have k1:=wa (elems.map (·.1));have k2:=wa (rest.map (·.1));simp only[Rows.uptoBulk]at hb;rw[List.length_map]at k1 k2;omega
     .have:=hk cap rfl;omega
    .rcases h6 with h6|⟨cells,ty,q1,q2,q3⟩
     .exact .inl h6
     .by_cases ni:cap=0
      .exact .inl ni
      .refine .inr ⟨cells,ty,q1,q2,fun i hi=>?_⟩;rcases hv with⟨rfl,_,hk⟩|⟨_,_,hk,_⟩
       .obtain⟨hk,_⟩:=hk cap rfl;subst hk;rcases DataW.trod_slice (cJ aI hu) ht with⟨e,_⟩|⟨a,len',xL,elems,rest,n',rfl,e,rfl,_,_,_,hel,hE,hrr,_⟩
        .cases e
        .cases e;obtain⟨hrl,hRs⟩:=hrr rfl;have hce:=fP aI h1;simp only[Rows.uptoBulk]at hb;have each:∃y',(W.cells? base ((⟨pl.b,pl.base+0,none⟩:Addr).add (i*P.cellsOf e)) (P.cellsOf e)).bind (DataW.trod enc P W base (fun _=>true) held n' e)=some y'/\Rows.uptoBulk y'.1<=N:=by
          by_cases cR:i<len
          .refine⟨elems[i],by rw[hE i cR];exact zzd (by omega),?_⟩;have:=rD (zze (f:=fun z:DataW H×List MemPlace=>z.1) (zzg (l:=elems) (n:=i) (by omega)));omega
          .refine⟨rest[i-len]'(by omega),?_,?_⟩
           .have:=hRs (i-len) (by omega);rw[show len+(i-len)=i by omega]at this;rw[this];exact zzd (by omega)
           .have:=rD (zze (f:=fun z:DataW H×List MemPlace=>z.1) (zzg (l:=rest) (n:=i-len) (by omega)));omega
         obtain⟨y',hy,EU⟩:=each;rw[hce]at hy;obtain⟨vs',v1,v2⟩:=Option.bind_eq_some_iff.1 hy;obtain⟨_,c2,c3⟩:=World.cells?_some v1;refine uK aI hR m e _ vs' n' y' hp.1 ?_ (q3 i hi) v2 EU;obtain⟨_,hg,_⟩:=hR.ja _ _ q1;obtain⟨dT,C,fr,r1,r2,r3,r4,r5,r6,r7,_⟩:=hg 1 (zza _) (zza _);rw[p1]at r1;cases r1;have r7:=r7 rfl;have hle:i*sz+sz<=c*sz:=by rw[<-Nat.succ_mul];exact Nat.mul_le_mul_right _ hi
         refine aD.iff.2 ⟨by rw[zzf,List.length_drop,c2,q2];omega,fun j x v hx hv=>?_⟩;have hj:j<sz:=by have:=(List.getElem?_eq_some_iff.1 hv).1;omega
         rw[List.getElem?_take,if_pos hj,List.getElem?_drop]at hx;obtain⟨x',v',s1,s2,s3,_⟩:=r6 (i*sz+j) (by omega);rw[hx]at s1;cases s1;have hc:=c3 j hj;rw[hv,rG]at hc;have:W.cell? ((⟨pl.b,pl.base+0,none⟩:Addr).add (i*sz+j))=C[pl.base+(i*sz+j)]?:=by
          unfold World.cell?;rw[ChangeShapes.block_add,r2];by_cases h0:i*sz+j=0
          .rw[h0];simp only[Addr.add];rfl
          .simp only[Addr.add,if_neg h0];rfl
         rw[this,s2]at hc;cases hc;exact s3
       .have:=hk cap rfl;omega
  .rename_i fs hu;simp only[hu]at hp⊢;rw[zzb,List.all_eq_true]at hp;obtain⟨hpf,htl⟩:=hp;cases hs:aH cx t with
   |none=>rw[hs]at htl;cases htl
   |some M=>
    rw[hs]at htl;simp only[]at htl;obtain⟨xs,n',rfl,rfl,sB,hxl,hF⟩:=DataW.trod_struct (cJ aI hu) ht;rw[fP aI hs]at sB;simp only[Rows.uptoBulk]at hb;have go:∀(q:List Field)(i off:Nat),(∀j f,q[j]?=some f->fs[i+j]?=some f)->iE cx q off M=true->off<=M->∀jF,aD ρ jF (cs.drop off)->jL (aH cx) (eB cx S m) (q.map (·.type)) jF->jL (aH cx) (cO cx S N m) (q.map (·.type)) jF:=by
     intro q
     induction q with
     |nil=>intro i off _ _ _ jF _ h;exact h
     |cons f q ih=>
      intro i off hq y8 hoff jF hr h;obtain⟨a,b,rfl,z1,z2,z3⟩:=h;unfold iE at y8;rw[zzb,bC,decide_eq_true_eq]at y8;obtain⟨hfo,y8⟩:=y8;rw[z1]at y8;simp only[]at y8;have hfi:fs[i]?=some f:=by have:=hq 0 f rfl;simpa using this
      have hi:i<xs.length:=by
       have:=(Array.getElem?_eq_some_iff.1 hfi).1;omega
      have htr:=hF i f hfi;rw[zzd hi,fP aI z1,hfo]at htr;have hmem:f∈fs.toList:=by rw[Array.mem_toList_iff];exact Array.mem_of_getElem? hfi
      have hA:aD ρ a ((cs.drop off).take a.length):=by have:=hr.take a.length;rwa [List.take_left]at this
      have hB:aD ρ b (cs.drop (off+a.length)):=by have:=hr.drop a.length;rwa [List.drop_left,List.drop_drop]at this
      have hbi:=rD (zze (f:=fun z:DataW H×List MemPlace=>z.1) (zzg (l:=xs) (n:=i) hi));exact⟨a,b,rfl,z1,uK aI hR m f.type a _ n' _ (hpf f hmem) hA z2 htr (by omega),ih (i+1) (off+a.length) (fun j f' hj=>by have:=hq (j+1) f' (by simpa using hj);rw[<-this];congr 1;omega) y8 (Cc _ _ y8) b hB z3⟩
    exact go fs.toList 0 0 (fun j f hj=>by rw[Nat.zero_add,<-zzi];exact hj) htl (Nat.zero_le _) l (by simpa using hl) h
  .exact h.elim
theorem short_arg(aI:cU Λ P cx){ρ:bf}{S:AS}(hR:R Λ ρ S W){m:Nat}{t:TypeId}{jF:List AV}{v:Value}{d:DataW H}{ps:List MemPlace}(hp:jr cx m t=true)(hl:aq ρ (argA cx t jF) v)(h:eB cx S m t jF)
  (ht:DataW.Trod enc P W base (fun _=>true) held t v d ps) (hb:Rows.uptoBulk d<=N):cO cx S N m t jF:=by
 obtain⟨fuel,ht⟩:=ht;refine uK aI hR m t jF _ fuel _ hp ?_ h ht hb;cases m with
 |zero=>exact h.elim
 |succ m=>
  unfold eB at h;unfold argA aX at hl;split at h<;>(try (exact h.elim))<;>rename_i hu<;>simp only[hu]at hl
  .obtain⟨n,rfl,_⟩:=h;simp only[qD,aq]at hl;subst hl;exact aD.cons (by simp[aq]) aD.nil
  .obtain⟨n,rfl⟩:=h;simp only[qD,aq]at hl;subst hl;exact aD.cons (by simp[aq]) aD.nil
  .obtain⟨n,rfl,_⟩:=h;simp only[qD]at hl;have pM:=hl;simp only[aq]at hl;obtain⟨b,rfl,_⟩:=hl;exact aD.cons pM aD.nil
  .rcases h with rfl|⟨id,len,cap,sz,rfl,_⟩
   .simp only[qD,aq]at hl;subst hl;exact aD.cons (by simp[aq]) aD.nil
   .simp only[qD]at hl;have pM:=hl;simp only[aq]at hl;obtain⟨pl,c,_,_,_,_,_,⟨rfl,_⟩|⟨_,_,_,a,rfl⟩⟩:=hl
    .exact aD.cons pM aD.nil
    .exact aD.cons pM aD.nil
  .simp only[aq]at hl;obtain⟨a,rfl,hl,_⟩:=hl;exact hl
theorem yz(aI:cU Λ P cx){ρ:bf}{S:AS}(hR:R Λ ρ S W){m:Nat}:∀(ts:List TypeId)(vs:List Value)(ds:List (DataW H))(p:List MemPlace)(l:List AV),ts.all (jr cx m)=true->aD ρ l vs->rM cx S m ts l ->
  DataW.TrodAll enc P W base (fun _=>true) held ts vs ds p->Rows.uptoBulkAll ds<=N->jV cx S N m ts l
 |[],vs,ds,p,l,_,_,h,_,_=>h
 |t::ts,vs,ds,p,l,hp,hl,h,ht,hb=>by
  obtain⟨jF,r,rfl,h1,h2⟩:=h;cases vs with
  |nil=>cases ds<;>exact ht.elim
  |cons v vs=>
   cases ds with
   |nil=>exact ht.elim
   |cons d ds=>
    obtain⟨p1,p2,t1,t2,_⟩:=ht;simp only[List.all_cons,zzb]at hp;simp only[Rows.uptoBulkAll]at hb;simp only[aD]at hl;obtain⟨y,ys,e,q1,q2⟩:=hl;cases e;exact⟨jF,r,rfl,short_arg aI hR hp.1 q1 h1 t1 (by omega),yz aI hR ts vs ds p2 r hp.2 q2 h2 t2 (by omega)⟩
end
theorem wY{H:Type}{enc:TypeId×Value->H}{P:Program}{A:Am.Ask}{W:World}{base:Nat}{held:Bool}{B:Nat->Prop}(hB:∀b,B b->b<W.heap.size)(hr:zJ P A)(hp:∀x,x∈A.fi->kD ⟨W,fun b=>b<W.heap.size⟩ P x.1 x.2)
  (hg:∀x,x∈A.eZ->gu W B x.1 x.2) {f:FuncId} {args:Array Value} {ts:List TypeId} {ds:List (DataW H)} {p:List MemPlace} {r:Reach} {b0 N:Nat} (m:Nat) (ht:ts.all (jr (sd P A) m)=true)
  (hv:∀(j:Nat)t v,ts[j]?=some t->args[j]?=some v->Value.okWide P W r b0 t v) (h:DataW.TrodAll enc P W base (fun _=>true) held ts args.toList ds p) (hW:∀n,n∈DataW.weightsEach P ts ds->n<=reachBytes)
  (hN:Rows.uptoBulkAll ds<=N)
  (hc:∀(S:AS)(cF:List AV),(∀id,S.nx<=id->S.h.get id=none)->jV (sd P A) S N m ts cF->az (sd P A) f cF S fun v _=>v=.bool true) :
  Calls P f args W fun e w'=>e=.returned (.bool true)/\Below W.heap.size W w':=by
 have hg':∀x,x∈A.eZ->gu W (fun b=>b<W.heap.size) x.1 x.2:=fun x hx=>let ⟨a,b⟩:=hg x hx;⟨hB _ a,b⟩
 have aI:=cx_ok (Λ:=⟨W,fun b=>b<W.heap.size⟩) hr hp hg';have hR0:=Bd (Λ:=⟨W,fun b=>b<W.heap.size⟩) W (zza _) (fun b hb=>⟨hb,rfl⟩);obtain⟨S,ρ,l,_,_,hR,hl,hty⟩:=wB aI (r:=r) (b0:=b0) ts args.toList ds p ⟨.leaf,0⟩ _ ht (fun j t v h1 h2=>hv j t v h1 (by rw[<-zzi];exact h2)) (fun id o ho=>by cases ho) hR0 h hW;have hdom:∀id,S.nx<=id->S.h.get id=none:=by
  intro id hi;cases ho:S.h.get id with
  |none=>rfl
  |some o=>have:=hR.xD id o ho;omega
 refine (Eh hr hp hg' hR hl (hc S l hdom (yz aI hR ts _ ds p l ht hl hty h hN))).2.mono ?_;rintro e w' ⟨x,v,S',ρ',rfl,h1,rfl,h3,h4⟩;simp only[aq]at h1;refine⟨by rw[h1],h4.os,h4.tape,h4.output,h4.size,fun k hk=>(h3.base k hk).2.1⟩
end Go.Proofs.YthklfandhmkpiaaGreatDoor.upto
namespace Go.Proofs.YthklfandhmkpiaaGreatDoor.sh
open Go Go.Am Go.Proofs.YthklfandhmkpiaaGreatDoor.dk Go.Proofs.YthklfandhmkpiaaGreatDoor.upto
open Go.Proofs.YthklfandhmkpiaaGreatDoor.val (ew fU gB en CT okE)
open Go.Proofs.YthklfandhmkpiaaGreatDoor.bk (eW oP)
open Go.Proofs.YthklfandhmkpiaaGreatDoor.mod (kH bq dJ gY ek dj jm df)
noncomputable def flT(cx:Am.Cx)(t:TypeId):Option (List TypeId):=match bJ cx t with|some (.struct fs)=>some (fs.toList.map (·.type))|_=>none
section
variable{cx:Am.Cx}{S:AS}{N m:Nat}{t:TypeId}
theorem iJ{l:List TypeId}{x:List AV}(h:flT cx t=some l)(hx:cO cx S N (m+1) t x):jL (aH cx) (cO cx S N m) l x:=by
 unfold flT at h;split at h
 .rename_i fs hu;cases h;unfold cO at hx;simp only[hu]at hx;exact hx
 .cases h
theorem chunks{α:Type}{sz:Nat}{enc:α->List AV}{G:α->Prop}:∀(k:Nat)(cells:List AV),cells.length=k*sz->(∀i,i<k->∃a,(cells.drop (i*sz)).take sz=enc a/\G a)->∃l:List α,l.length=k/\cells=l.flatMap enc/\∀a,a∈l->G a
 |0,cells,h,_=>by
  rw[Nat.zero_mul]at h;exact⟨[],rfl,by rw[List.length_eq_zero_iff.1 h];rfl,fun a ha=>by cases ha⟩
 |k+1,cells,h,hc=>by
  obtain⟨a,e,g⟩:=hc 0 (by omega);rw[Nat.succ_mul]at h;obtain⟨l,h1,h2,h3⟩:=chunks (sz:=sz) (enc:=enc) (G:=G) k (cells.drop sz) (by rw[List.length_drop];omega) (fun i hi=>by
   obtain⟨b,e,g⟩:=hc (i+1) (by omega);refine⟨b,?_,g⟩;rw[<-e,List.drop_drop];congr 2;rw[Nat.succ_mul,Nat.add_comm])
  refine⟨a::l,by rw[List.length_cons,h1],?_,fun b hb=>?_⟩
  .rw[List.flatMap_cons,<-h2,<-e,Nat.zero_mul,List.drop_zero,List.take_append_drop]
  .rcases List.mem_cons.1 hb with rfl|hb
   .exact g
   .exact h3 b hb
theorem qE{e sz:Nat}{jF:List AV}(hu:bJ cx t=some (.slice e))(hs:aH cx e=some sz)(h:cO cx S N (m+1) t jF){α:Type}{enc:α->List AV}{G:α->Prop}(hz:∀a,(enc a).length=sz)
  (hel:∀x,cO cx S N m e x->∃a,x=enc a/\G a):∃(u:AV)(l:List α),jF=[u]/\Sl S u sz (l.flatMap enc)/\(∀a,a∈l->G a)/\l.length<=N:=by
 unfold cO at h;simp only[hu]at h;rcases h with rfl|⟨id,len,cap,sz',rfl,h1,h2,h3,h4,h5,h6⟩
 .exact⟨_,[],rfl,Sl.nil,fun a ha=>(by cases ha),by simp⟩
 .rw[hs]at h1;cases h1;rcases h6 with rfl|⟨cells,ty,g1,g2,g3⟩
  .obtain rfl:len=0:=by omega
   exact⟨_,[],rfl,⟨by simp[isSl,eS],rfl,by simp[sLen],h5⟩,fun a ha=>(by cases ha),by simp⟩
  .obtain⟨l,k1,k2,k3⟩:=chunks cap cells g2 fun i hi=>hel _ (g3 i hi);subst k2;refine⟨_,l.take len,rfl,⟨by simp[isSl,eS,h3],?_,by rw[fm_len hz,zzf];simp only[sLen];congr 1;omega,h5⟩,fun a ha=>k3 a (List.mem_of_mem_take ha),by rw[zzf];omega⟩;cases len with
   |zero=>simp[lY]
   |succ len=>
    simp only[lY,dP,g1,cr];rw[if_pos ⟨zza _,zza _,by rw[Nat.zero_add];exact Nat.mul_le_mul_right _ h3⟩,List.drop_zero,fm_take hz]
theorem argU{k:IntKind}{M:Nat}{jF:List AV}(hu:bJ cx t=some (.int k))(hmin:k.min=0)(xg:k.max<M)(h:cO cx S N (m+1) t jF):∃n:Nat,jF=[.int k n]/\n<M:=by
 unfold cO at h;simp only[hu]at h;obtain⟨n,e,k1,k2⟩:=h;rw[hmin]at k1;exact⟨n.toNat,by rw[e,Int.toNat_of_nonneg k1],by omega⟩
theorem eV{jF:List AV}(hu:bJ cx t=some (.int .i64))(h:cO cx S N (m+1) t jF):∃n:Int,jF=[.int .i64 n]/\pq n:=by
 unfold cO at h;simp only[hu]at h;obtain⟨n,e,k1,k2⟩:=h;have xg:IntKind.i64.max=9223372036854775807:=rfl;have hmin:IntKind.i64.min=-9223372036854775808:=rfl;rw[hmin]at k1;rw[xg]at k2;exact⟨n,e,k1,by omega⟩
theorem oL{jF:List AV}(hu:bJ cx t=some (.int .u64))(h:cO cx S N (m+1) t jF):∃n:Nat,jF=[.int .u64 n]/\n<18446744073709551616:=argU hu rfl (by decide) h
theorem argBool{jF:List AV}(hu:bJ cx t=some .bool)(h:cO cx S N (m+1) t jF):∃b:Bool,jF=[.bool b]:=by
 unfold cO at h;simp only[hu]at h;exact h
theorem wq{jF:List AV}(hu:bJ cx t=some .string)(h:cO cx S N (m+1) t jF):∃s:List Nat,jF=[.str s]/\s.length<=N/\∀c,c∈s->c<256:=by
 unfold cO at h;simp only[hu]at h;exact h
structure ShFacts(cx:Am.Cx):Prop where
 un2:bJ cx 2=some (.int .i64)
 zY:bJ cx 3=some (.int .i64)
 un4:bJ cx 4=some .bool
 un5:bJ cx 5=some (.int .u8)
 wP:bJ cx 9=some .string
 B7:bJ cx 38=some (.int .u64)
 un112:bJ cx 112=some (.int .u16)
 un40:bJ cx 40=some (.slice 98)
 un41:bJ cx 41=some (.slice 95)
 un96:bJ cx 96=some (.slice 92)
 un46:bJ cx 46=some (.slice 78)
 un47:bJ cx 47=some (.slice 112)
 un48:bJ cx 48=some (.slice 5)
 un51:bJ cx 51=some (.slice 3)
 un52:bJ cx 52=some (.slice 117)
 sz98:aH cx 98=some 7
 sz95:aH cx 95=some 5
 sz92:aH cx 92=some 4
 sz78:aH cx 78=some 2
 sz112:aH cx 112=some 1
 sz5:aH cx 5=some 1
 sz3:aH cx 3=some 1
 sz117:aH cx 117=some 12
 fl50:flT cx 50=some [3,3,3,3,3,38,40,43,45,46,47,48]
 fl54:flT cx 54=some [3,3,38,51,52]
 fl117:flT cx 117=some [3,3,3,3,38,115,48]
 fl115:flT cx 115=some [102,100]
 fl102:flT cx 102=some [38,38,43]
 fl100:flT cx 100=some [38,38]
 fl43:flT cx 43=some [9,41]
 fl95:flT cx 95=some [9,92]
 fl98:flT cx 98=some [9,3,92,96]
 fl92:flT cx 92=some [3,2,9,4]
 fl45:flT cx 45=some [3,3,3]
 fl78:flT cx 78=some [3,38]
 ag50:aX cx 50=some true
 ag54:aX cx 54=some true
variable(K:ShFacts cx)
include K
theorem val_of{x:List AV}(h:cO cx S N (m+2) 92 x):∃v:kH,x=bq v/\oP v:=by
 obtain⟨a,_,rfl,_,h1,b,_,rfl,_,h2,c,_,rfl,_,h3,d,_,rfl,_,h4,rfl⟩:=iJ K.fl92 h;obtain⟨k,rfl,_⟩:=eV K.zY h1;obtain⟨n,rfl,n1⟩:=eV K.un2 h2;obtain⟨s,rfl,s1,s2⟩:=wq K.wP h3;obtain⟨b,rfl⟩:=argBool K.un4 h4;exact⟨⟨k,n,s,b⟩,rfl,n1.1,n1.2,s2⟩
theorem con_of(hN:N<=1048576){x:List AV}(h:cO cx S N (m+4) 98 x):∃c:gY,x=ek c/\jm S c/\eW c:=by
 obtain⟨a,_,rfl,_,h1,b,_,rfl,_,h2,c,_,rfl,_,h3,d,_,rfl,_,h4,rfl⟩:=iJ K.fl98 h;obtain⟨s,rfl,s1,s2⟩:=wq K.wP h1;obtain⟨k,rfl,_⟩:=eV K.zY h2;obtain⟨v,rfl,v1⟩:=val_of K h3;obtain⟨u,l,rfl,g1,g0,g3⟩:=qE (enc:=bq) (G:=oP) K.un96 K.sz92 h4 dJ (fun x hx=>val_of K hx);exact⟨⟨s,k,v,u,l⟩,rfl,⟨g1,by show l.length<=_;omega⟩,v1,g0,s2⟩
theorem att_of(hN:N<=1048576){x:List AV}(h:cO cx S N (m+3) 95 x):∃a:fU,x=gB a/\CT a:=by
 obtain⟨a,_,rfl,_,h1,b,_,rfl,_,h2,rfl⟩:=iJ K.fl95 h;obtain⟨s,rfl,s1,s2⟩:=wq K.wP h1;obtain⟨a',_,rfl,_,g1,b',_,rfl,_,g2,c',_,rfl,_,g3,d',_,rfl,_,g4,rfl⟩:=iJ K.fl92 h2;obtain⟨k,rfl,_⟩:=eV K.zY g1;obtain⟨n,rfl,n1⟩:=eV K.un2 g2;obtain⟨w,rfl,w1,w2⟩:=wq K.wP g3;obtain⟨b,rfl⟩:=argBool K.un4 g4;exact⟨⟨s,⟨k,n,w,b⟩⟩,rfl,s2,by show s.length<=_;omega,w2,n1.1,n1.2⟩
theorem pub_of(hN:N<=1048576){x:List AV}(h:cO cx S N (m+6) 43 x):∃(key:List Nat)(u:AV)(l:List fU),x=[.str key,u]/\ew S u l/\okE key l:=by
 obtain⟨a,_,rfl,_,h1,b,_,rfl,_,h2,rfl⟩:=iJ K.fl43 h;obtain⟨s,rfl,s1,s2⟩:=wq K.wP h1;obtain⟨u,l,rfl,g1,g0,g3⟩:=qE (enc:=gB) (G:=CT) K.un41 K.sz95 h2 en (fun x hx=>att_of K hN hx);exact⟨s,u,l,rfl,⟨g1,by omega,g0⟩,s2,g0⟩
theorem start_of{x:List AV}(h:cO cx S N (m+2) 78 x):∃s:Int×Nat,x=iy s/\pq s.1/\s.2<18446744073709551616:=by
 obtain⟨a,_,rfl,_,h1,b,_,rfl,_,h2,rfl⟩:=iJ K.fl78 h;obtain⟨k,rfl,k1⟩:=eV K.zY h1;obtain⟨n,rfl,n1⟩:=oL K.B7 h2;exact⟨(k,n),rfl,k1,n1⟩
omit K in
theorem A5{α:Type}(f:α->AV):∀l:List α,l.flatMap (fun a=>[f a])=l.map f
 |[]=>rfl
 |a::l=>by rw[List.flatMap_cons,A5 f l];rfl
theorem ev_of(hN:N<=1048576){x:List AV}(h:cO cx S N (m+8) 50 x):∃e:cy,x=e.c/\jz S e:=by
 obtain⟨a,_,rfl,_,h1,b,_,rfl,_,h2,c,_,rfl,_,h3,d,_,rfl,_,h4,e,_,rfl,_,h5,f,_,rfl,_,h6,g,_,rfl,_,h7,i,_,rfl,_,h8,j,_,rfl,_,h9,k,_,rfl,_,cM,l,_,rfl,_,fC,n,_,rfl,_,jK,rfl⟩:=iJ K.fl50 h;obtain⟨kd,rfl,r1⟩:=eV K.zY h1;obtain⟨br,rfl,r2⟩:=eV K.zY h2;obtain⟨pl,rfl,r3⟩:=eV K.zY h3;obtain⟨id,rfl,r4⟩:=eV K.zY h4;obtain⟨pb,rfl,r5⟩:=eV K.zY h5;obtain⟨nn,rfl,r6⟩:=oL K.B7 h6;obtain⟨pv,cs,rfl,p1,p2,p3⟩:=qE (enc:=ek) (G:=fun c=>jm S c/\eW c) K.un40 K.sz98 h7 dj (fun x hx=>con_of K hN hx);obtain⟨key,av,at_,rfl,a1,a2⟩:=pub_of K hN h8;obtain⟨a',_,rfl,_,g1,b',_,rfl,_,g2,c',_,rfl,_,g3,rfl⟩:=iJ K.fl45 h9;obtain⟨ag,rfl,r7⟩:=eV K.zY g1;obtain⟨by_,rfl,r8⟩:=eV K.zY g2;obtain⟨ct,rfl,r9⟩:=eV K.zY g3;obtain⟨sv,st,rfl,s1,s2,s3⟩:=qE (enc:=iy) (G:=fun s=>pq s.1/\s.2<18446744073709551616) K.un46 K.sz78 cM eK (fun x hx=>start_of K hx);obtain⟨kv,pk,rfl,k1,k2,k3⟩:=qE (enc:=fun n:Nat=>[AV.int .u16 n]) (G:=fun n=>n<65536) K.un47 K.sz112 fC (fun _=>rfl) (fun x hx=>argU K.un112 rfl (by decide) hx);obtain⟨tv,tn,rfl,t1,t2,t3⟩:=qE (enc:=fun n:Nat=>[AV.int .u8 n]) (G:=fun n=>n<256) K.un48 K.sz5 jK (fun _=>rfl) (fun x hx=>argU K.un5 rfl (by decide) hx);rw[A5]at k1 t1;exact⟨⟨⟨kd,br,pl,id,pb,nn,cs,key,at_,st,ag,by_,ct,pk,tn⟩,pv,av,sv,kv,tv⟩,rfl,⟨p1,fun c hc=>(p2 c hc).1,by show cs.length<=_;omega⟩,a1,s1,k1,t1,⟨r1,r2,r3,r4,r5,r6,fun c hc=>(p2 c hc).2,a2,s2,r7,r8,r9,k2,t2⟩,zzc s3 hN,zzc k3 hN,zzc t3 hN⟩
theorem out_of(hN:N<=1048576){x:List AV}(h:cO cx S N (m+9) 117 x):∃o:aE,x=o.u/\jl S o:=by
 obtain⟨a,_,rfl,_,h1,b,_,rfl,_,h2,c,_,rfl,_,h3,d,_,rfl,_,h4,e,_,rfl,_,h5,f,_,rfl,_,h6,g,_,rfl,_,h7,rfl⟩:=iJ K.fl117 h;obtain⟨kd,rfl,r1⟩:=eV K.zY h1;obtain⟨pb,rfl,r2⟩:=eV K.zY h2;obtain⟨sb,rfl,r3⟩:=eV K.zY h3;obtain⟨to,rfl,r4⟩:=eV K.zY h4;obtain⟨nn,rfl,r5⟩:=oL K.B7 h5;obtain⟨a',_,rfl,_,g1,b',_,rfl,_,g2,rfl⟩:=iJ K.fl115 h6;obtain⟨c',_,rfl,_,g3,d',_,rfl,_,g4,e',_,rfl,_,g5,rfl⟩:=iJ K.fl102 g1;obtain⟨iN,rfl,r6⟩:=oL K.B7 g3;obtain⟨iT,rfl,r7⟩:=oL K.B7 g4;obtain⟨key,av,at_,rfl,a1,a2⟩:=pub_of K hN g5;obtain⟨c'',_,rfl,_,k3,d'',_,rfl,_,k4,rfl⟩:=iJ K.fl100 g2;obtain⟨gF,rfl,r8⟩:=oL K.B7 k3;obtain⟨gT,rfl,r9⟩:=oL K.B7 k4;obtain⟨tv,tn,rfl,t1,t2,t3⟩:=qE (enc:=fun n:Nat=>[AV.int .u8 n]) (G:=fun n=>n<256) K.un48 K.sz5 h7 (fun _=>rfl) (fun x hx=>argU K.un5 rfl (by decide) hx);rw[A5]at t1;exact⟨⟨⟨0,kd,pb,sb,to,nn,iN,iT,key,at_,gF,gT,tn⟩,av,tv⟩,rfl,a1,t1,⟨ti,r2,r3,r5,r6,r7,r8,r9,a2⟩,r1,r4,t2,zzc t3 hN⟩
theorem ref_of(hN:N<=1048576){x:List AV}(h:cO cx S N (m+11) 54 x):∃r:de,x=r.c/\iC S r:=by
 obtain⟨a,_,rfl,_,h1,b,_,rfl,_,h2,c,_,rfl,_,h3,d,_,rfl,_,h4,e,_,rfl,_,h5,rfl⟩:=iJ K.fl54 h;obtain⟨kd,rfl,r1⟩:=eV K.zY h1;obtain⟨er,rfl,r2⟩:=eV K.zY h2;obtain⟨nn,rfl,r3⟩:=oL K.B7 h3;obtain⟨wv,wl,rfl,w1,w2,w3⟩:=qE (enc:=fun n:Int=>[AV.int .i64 n]) (G:=pq) K.un51 K.sz3 h4 (fun _=>rfl) (fun x hx=>eV K.zY hx);obtain⟨ov,ol,rfl,o1,o2,o3⟩:=qE (enc:=aE.u) (G:=jl S) K.un52 K.sz117 h5 aE.jA (fun x hx=>out_of K hN hx);rw[A5]at w1;exact⟨⟨kd,er,nn,wl,ol,wv,ov⟩,rfl,w1,o1,o2,w2,r1,r2,r3,zzc w3 hN,zzc o3 hN⟩
theorem args4(hN:N<=1048576){cF:List AV}(h:jV cx S N (m+12) [50,50,54,54] cF):∃(a b:cy)(r q:de),cF=[.agg a.c,.agg b.c,.agg r.c,.agg q.c]/\jz S a/\jz S b/\iC S r/\iC S q:=by
 obtain⟨a1,r1,rfl,h1,a2,r2,rfl,h2,a3,r3,rfl,h3,a4,r4,rfl,h4,rfl⟩:=h;obtain⟨a,rfl,ha⟩:=ev_of (m:=m+4) K hN h1;obtain⟨b,rfl,hb⟩:=ev_of (m:=m+4) K hN h2;obtain⟨r,rfl,hr⟩:=ref_of (m:=m+1) K hN h3;obtain⟨q,rfl,hq⟩:=ref_of (m:=m+1) K hN h4;exact⟨a,b,r,q,by simp only[argA,K.ag50,K.ag54],ha,hb,hr,hq⟩
end
theorem shFacts:ShFacts C0:=by constructor<;>kernel_rfl
end Go.Proofs.YthklfandhmkpiaaGreatDoor.sh
