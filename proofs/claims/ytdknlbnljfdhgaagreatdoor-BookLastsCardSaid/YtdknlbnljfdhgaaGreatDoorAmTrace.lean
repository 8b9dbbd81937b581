/-
  The abstract machine: the run of a region that draws its order, step by step; blocks that are laid and wait to be known.
-/
import Derived.Test.YtdknlbnljfdhgaaGreatDoorAmPlan
open Nat renaming lt_of_lt_of_le->zza
namespace Go.Am
open Go
variable{Λ:LB}
structure Fq where
 F:Fr
 S:AS
 ps:List fk
 cH:List AS
 id:Nat
def mY(cx:Cx)(K:fK)(ops:List Oper)(r:Row)(c c':Fq):Prop:=
 (r.cls=.fresh/\((wanted ops c.F r.o=some true/\∃v x,aD cx c.F c.id r.o.op=some (v,x)/\c'=⟨bQ c.F r.o.dst v,c.S,⟨r.i,c.id,x⟩::c.ps,c.cH,c.id+1⟩) \/
  (wanted ops c.F r.o=some false/\c'=⟨bQ c.F r.o.dst .undef,c.S,c.ps,c.cH,c.id⟩))) \/
 (r.cls=.BS/\∃v S2,one cx K ops r.o c.F (bE (fun p=>bit r.eG p.i) c.ps c.S)=.ok (false,v,S2) [] /\
  c'=⟨bQ c.F r.o.dst v,S2,c.ps.filter (fun p=>!bit r.eG p.i),c.S::c.cH,c.id⟩) \/
 ((r.cls=.pure\/r.cls=.read)/\∃v,gy cx ops c.F c.S r.o=some v/\c'=⟨bQ c.F r.o.dst v,c.S,c.ps,c.cH,c.id⟩)
theorem XV{α:Type}{r:az α}{x:α}{xs:List α}(h:az.BA r=.ok x xs):r=.ok x []/\xs=[]:=by
 cases r with
 |err n=>cases h
 |ok y ys=>cases ys with
  |nil=>cases h;exact⟨rfl,rfl⟩
  |cons _ _=>cases h
def Bc(cx:Cx)(K:fK)(ops:List Oper)(l:List Row)(c:Nat->Fq)(p:Option (Nat×AV×AS)×Fr×AS×List AS->Prop):Prop:=
 ((∀(i:Nat)(r:Row),l[i]?=some r->mY cx K ops r (c i) (c (i+1)))/\p (none,(c l.length).F,bE (fun _=>true) (c l.length).ps (c l.length).S,(c l.length).S::(c l.length).cH)) \/
 ∃(n:Nat)(r:Row)(v:AV)(S2:AS),l[n]?=some r/\r.cls=.BS/\(∀(i:Nat)(r:Row),i<n->l[i]?=some r->mY cx K ops r (c i) (c (i+1))) /\
  one cx K ops r.o (c n).F (bE (fun p=>bit r.eG p.i) (c n).ps (c n).S)=.ok (true,v,S2) []/\(∀(j:Nat)(q:Row),n<j->l[j]?=some q->bit q.eG r.i=true) /\
  p (some (r.i,v,S2),(c n).F,(c n).S,(c n).S::(c n).cH)
theorem trace(cx:Cx)(K:fK)(ops:List Oper):∀(l:List Row)(c0:Fq)(p:Option (Nat×AV×AS)×Fr×AS×List AS->Prop),(db cx K ops l c0.F c0.S c0.ps c0.cH c0.id).kQ p ->
  ∃c:Nat->Fq,c 0=c0/\Bc cx K ops l c p:=by
 intro l
 induction l with
 |nil=>intro c0 p h;exact⟨fun _=>c0,rfl,.inl ⟨fun i r hr=>by simp at hr,h.1⟩⟩
 |cons r l ih=>
  intro c0 p h;have go:∀c1:Fq,mY cx K ops r c0 c1->(db cx K ops l c1.F c1.S c1.ps c1.cH c1.id).kQ p ->
    ∃c:Nat->Fq,c 0=c0/\Bc cx K ops (r::l) c p:=by
   intro c1 hs h1;obtain⟨c,pP,Ng⟩:=ih c1 p h1;refine⟨fun i=>match i with|0=>c0|i+1=>c i,rfl,?_⟩;rcases Ng with⟨Ng,Vg⟩|⟨n,q,v,S2,e1,e2,e3,e4,e5,e6⟩
   .refine .inl ⟨fun i r' hr=>?_,Vg⟩;cases i with
    |zero=>simp at hr;subst hr;show mY cx K ops r c0 (c 0);rw[pP];exact hs
    |succ i=>exact Ng i r' (by simpa using hr)
   .refine .inr ⟨n+1,q,v,S2,by simpa using e1,e2,fun i r' hi hr=>?_,e4,fun j q' hj hq=>?_,e6⟩
    .cases i with
     |zero=>simp at hr;subst hr;show mY cx K ops r c0 (c 0);rw[pP];exact hs
     |succ i=>exact e3 i r' (by omega) (by simpa using hr)
    .cases j with
     |zero=>omega
     |succ j=>exact e5 j q' (by omega) (by simpa using hq)
  have yB:db cx K ops (r::l) c0.F c0.S c0.ps c0.cH c0.id=(match r.cls with
   | .fresh=>match wanted ops c0.F r.o with
    |some true=>match aD cx c0.F c0.id r.o.op with
     |some (v,x)=>db cx K ops l (bQ c0.F r.o.dst v) c0.S (⟨r.i,c0.id,x⟩::c0.ps) c0.cH (Nat.succ c0.id)
     |none=>.err 1001
    |some false=>db cx K ops l (bQ c0.F r.o.dst .undef) c0.S c0.ps c0.cH c0.id
    |none=>.err 1002
   | .BS=>az.bind (az.BA (one cx K ops r.o c0.F (bE (fun p=>bit r.eG p.i) c0.ps c0.S))) fun q=>cond q.1 (cond (js (fun q=>bit q.eG r.i) l) (.ok (some (r.i,q.2.1,q.2.2),c0.F,c0.S,c0.S::c0.cH) []) (.err 1007)) (db cx K ops l (bQ c0.F r.o.dst q.2.1) q.2.2 (kH (fun p=>!bit r.eG p.i) c0.ps) (c0.S::c0.cH) c0.id)
   |_=>match gy cx ops c0.F c0.S r.o with
    |some v=>db cx K ops l (bQ c0.F r.o.dst v) c0.S c0.ps c0.cH c0.id
    |none=>.err 1006):=rfl
  rw[yB]at h;have val:(match gy cx ops c0.F c0.S r.o with
    |some v=>db cx K ops l (bQ c0.F r.o.dst v) c0.S c0.ps c0.cH c0.id
    |none=>.err 1006).kQ p->(r.cls=.pure\/r.cls=.read)->∃c:Nat->Fq,c 0=c0/\Bc cx K ops (r::l) c p:=fun h hc=>by
   cases hv:gy cx ops c0.F c0.S r.o with
   |none=>rw[hv]at h;exact h.elim
   |some v=>
    rw[hv]at h;exact go ⟨bQ c0.F r.o.dst v,c0.S,c0.ps,c0.cH,c0.id⟩ (.inr (.inr ⟨hc,v,hv,rfl⟩)) h
  cases hc:r.cls with
  |pure=>rw[hc]at h;exact val h (.inl hc)
  |read=>rw[hc]at h;exact val h (.inr hc)
  |fresh=>
   rw[hc]at h;simp only[]at h;cases hw:wanted ops c0.F r.o with
   |none=>rw[hw]at h;exact h.elim
   |some b=>
    rw[hw]at h;cases b with
    |false=>exact go ⟨bQ c0.F r.o.dst .undef,c0.S,c0.ps,c0.cH,c0.id⟩ (.inl ⟨hc,.inr ⟨hw,rfl⟩⟩) h
    |true=>
     simp only[]at h;cases hf:aD cx c0.F c0.id r.o.op with
     |none=>rw[hf]at h;exact h.elim
     |some vx=>
      rw[hf]at h;exact go ⟨bQ c0.F r.o.dst vx.1,c0.S,⟨r.i,c0.id,vx.2⟩::c0.ps,c0.cH,c0.id+1⟩ (.inl ⟨hc,.inl ⟨hw,vx.1,vx.2,hf,rfl⟩⟩) h
  |BS=>
   rw[hc]at h;simp only[]at h;cases hs:az.BA (one cx K ops r.o c0.F (bE (fun p=>bit r.eG p.i) c0.ps c0.S))with
   |err n=>rw[hs]at h;exact h.elim
   |ok q qs=>
    obtain⟨h1,rfl⟩:=XV hs;rw[hs]at h;obtain⟨b,v,S2⟩:=q;cases b with
    |true=>
     cases ha:js (fun q=>bit q.eG r.i) l with
     |false=>
      have h3:(cond (js (fun q=>bit q.eG r.i) l) (.ok (some (r.i,v,S2),c0.F,c0.S,c0.S::c0.cH) []) (.err 1007):az (Option (Nat×AV×AS)×Fr×AS×List AS)).kQ p:=h;rw[ha]at h3;exact h3.elim
     |true=>
      have h3:(cond (js (fun q=>bit q.eG r.i) l) (.ok (some (r.i,v,S2),c0.F,c0.S,c0.S::c0.cH) []) (.err 1007):az (Option (Nat×AV×AS)×Fr×AS×List AS)).kQ p:=h;rw[ha]at h3;rw[kV,List.all_eq_true]at ha;refine⟨fun _=>c0,rfl,.inr ⟨0,r,v,S2,rfl,hc,fun i _ hi=>by omega,h1,fun j q hj hq=>?_,h3.1⟩⟩;cases j with
      |zero=>omega
      |succ j=>exact ha q (List.mem_of_getElem? (by simpa using hq))
    |false=>
     have h3:(db cx K ops l (bQ c0.F r.o.dst v) S2 (kH (fun p=>!bit r.eG p.i) c0.ps) (c0.S::c0.cH) c0.id).kQ p:=h;rw[pR]at h3;exact go ⟨bQ c0.F r.o.dst v,S2,c0.ps.filter (fun p=>!bit r.eG p.i),c0.S::c0.cH,c0.id⟩ (.inr (.inl ⟨hc,v,S2,h1,rfl⟩)) h3
structure ik(ρ:aY)(S:AS)(w:World)(B:Nat)(q:fk):Prop where
 none:S.h.get q.id=none
 lt:q.id<S.nx
 laid:∃pl o',ρ q.id 0=some pl/\(∀g,g≠0->ρ q.id g=.none)/\Dm pl.b pl q.obj o'/\w.heap[pl.b]?=some o'/\rQ ρ q.obj o'/\¬Rc ρ S pl.b/\B<=pl.b
theorem R.bE{ρ:aY}{S:AS}{w:World}{B:Nat}{q:fk}(h:R Λ ρ S w)(hq:ik ρ S w B q)(hB:Λ.w.heap.size<=B):R Λ ρ ⟨S.h.set q.id q.obj,S.nx⟩ w:=by
 obtain⟨hn,cQ,pl,o',p1,p2,p3,p4,p5,p6,p7⟩:=hq;have jm:∀i,i≠q.id->(S.h.set q.id q.obj).get i=S.h.get i:=fun i hi=>ae _ _ hi;have sO:xe ρ w q.id q.obj:=by
  obtain⟨qi,qid,qo⟩:=q;cases qo with
  |row cells low top frz ty=>
   obtain⟨rfl,rfl,rfl,C,rfl,r2,r3,r3o⟩:=p5;obtain⟨_,e2,e3,e4⟩:=p3;refine⟨Nat.le_refl _,fun g _ hg=>?_,fun g k a b _ hg _ hk ha hb _=>by
    obtain rfl:g=0:=by omega
    obtain rfl:k=0:=by omega
    rw[ha]at hb;cases hb;rfl⟩
   obtain rfl:g=0:=by omega
   refine⟨pl,C,(0,0),p1,p4,e4.symm,pl.le,by rw[e3];exact Nat.le_refl _,fun i hi=>?_,fun _=>e3,fun _ i _=>by simp[EB],fun _=>e2,fun _=>r3o⟩;rw[e3]at hi;obtain⟨x,hx⟩:∃x,cells[i]?=some x:=⟨cells[i],List.getElem?_eq_getElem hi⟩
   obtain⟨v,hv,hr⟩:=r3.1.get hx;refine⟨x,v,hx,?_,hr,r3.2 v (List.mem_of_getElem? hv)⟩;rw[List.getElem?_take,if_pos hi]at hv;rw[e2,Nat.zero_add,<-Array.getElem?_toList];exact hv
  |map es clock=>
   obtain⟨ES,rfl,r2⟩:=p5;exact⟨pl,ES,p1,p4,r2⟩
  |j6 x=>exact⟨pl,o',p1,p4,p5,p3.2⟩
 refine⟨?_,?_,h.fresh,?_,?_,?_,h.start,?_⟩
 rotate_right
 .intro b hb;obtain⟨d1,d2,d3⟩:=h.base b hb;refine⟨d1,d2,?_⟩;rintro⟨i,o,g,eA,ho,hz,hp,rfl⟩;by_cases hi:i=q.id
  .subst hi;by_cases hg:g=0
   .subst hg;rw[p1]at hp;cases hp;omega
   .rw[p2 g hg]at hp;cases hp
  .have uw:S.h.get i=some o:=by rw[<-jm i hi];exact ho
   exact d3 ⟨i,o,g,eA,uw,hz,hp,rfl⟩
 .intro i o ho;by_cases hi:i=q.id
  .subst hi;rw[aa]at ho;cases ho;exact sO
  .rw[jm i hi]at ho;exact h.jE i o ho
 .intro i o ho;by_cases hi:i=q.id
  .subst hi;exact cQ
  .rw[jm i hi]at ho;exact h.vm i o ho
 .intro i cells low top frz ty ho g hg;by_cases hi:i=q.id
  .subst hi;exact p2 g (by omega)
  .rw[jm i hi]at ho;exact h.sJ i cells low top frz ty ho g hg
 .intro i o g eA ho hp;by_cases hi:i=q.id
  .subst hi;by_cases hg:g=0
   .subst hg;rw[p1]at hp;cases hp;exact (Array.getElem?_eq_some_iff.1 p4).1
   .rw[p2 g hg]at hp;cases hp
  .rw[jm i hi]at ho;exact h.lt i o g eA ho hp
 .intro i j o oj g gj Mt Rj sj ho Fz hp yC;by_cases hi:i=q.id
  .subst hi;have hj:j≠q.id:=fun e=>sj e.symm;rw[jm j hj]at Fz;by_cases hg:g=0
   .subst hg;rw[p1]at hp;cases hp;exact .inl fun hb=>p6 ⟨j,oj,gj,Rj,Fz,yC,hb.symm⟩
   .rw[p2 g hg]at hp;cases hp
  .rw[jm i hi]at ho;by_cases hj:j=q.id
   .subst hj;by_cases hg:gj=0
    .subst hg;rw[p1]at yC;cases yC;exact .inl fun hb=>p6 ⟨i,o,g,Mt,ho,hp,hb⟩
    .rw[p2 gj hg]at yC;cases yC
   .rw[jm j hj]at Fz;exact h.apart i j o oj g gj Mt Rj sj ho Fz hp yC
theorem Kp.bE{ρ0 ρ:aY}{S0 S:AS}{w0 w:World}{q:fk}(h:Kp ρ0 S0 w0 ρ S w)(hq:ik ρ S w w0.heap.size q)(cD:S0.nx<=q.id):
  Kp ρ0 S0 w0 ρ ⟨S.h.set q.id q.obj,S.nx⟩ w:=by
 obtain⟨hn,cQ,pl,o',p1,p2,p3,p4,p5,p6,p7⟩:=hq;refine⟨h.ext,h.os,h.tape,h.output,h.size,h.ca,?_,?_,h.nx,?_⟩
 .rintro b ⟨i,o,g,eA,ho,hp,rfl⟩;by_cases hi:i=q.id
  .subst hi;by_cases hg:g=0
   .subst hg;rw[p1]at hp;cases hp;exact .inr p7
   .rw[p2 g hg]at hp;cases hp
  .rw[ae _ _ hi]at ho;exact h.D8 _ ⟨i,o,g,eA,ho,hp,rfl⟩
 .rintro b ⟨i,o,g,eA,ho,hz,hp,rfl⟩;by_cases hi:i=q.id
  .subst hi;by_cases hg:g=0
   .subst hg;rw[p1]at hp;cases hp;exact .inr p7
   .rw[p2 g hg]at hp;cases hp
  .rw[ae _ _ hi]at ho;exact h.wrt _ ⟨i,o,g,eA,ho,hz,hp,rfl⟩
 .intro i g hi Br;obtain⟨e1,e2⟩:=h.tG i g hi Br;exact⟨e1,by show (S.h.set q.id q.obj).get i=Option.none;rw[ae _ _ (by omega)];exact e2⟩
theorem ik.bE{ρ:aY}{S:AS}{w:World}{B:Nat}{q p:fk}(hp:ik ρ S w B p)(hq:ik ρ S w B q)(cD:p.id≠q.id)
  (hb:∀a b,ρ p.id 0=some a->ρ q.id 0=some b->a.b≠b.b):ik ρ ⟨S.h.set q.id q.obj,S.nx⟩ w B p:=by
 obtain⟨hn,cQ,pl,o',p1,p2,p3,p4,p5,p6,p7⟩:=hp;obtain⟨qn,qlt,qpl,qo',q1,q2,_⟩:=hq;refine⟨by show (S.h.set q.id q.obj).get p.id=Option.none;rw[ae _ _ cD];exact hn,cQ,pl,o',p1,p2,p3,p4,p5,?_,p7⟩;rintro⟨i,o,g,eA,ho,lB,he⟩;by_cases hi:i=q.id
 .subst hi;by_cases hg:g=0
  .subst hg;rw[q1]at lB;cases lB;exact hb pl qpl p1 q1 he.symm
  .rw[q2 g hg]at lB;cases lB
 .rw[ae _ _ hi]at ho;exact p6 ⟨i,o,g,eA,ho,lB,he⟩
theorem R.uI{ρ:aY}{S:AS}{w w':World}{id:Nat}{o':Obj}{pl:Pl}(h:R Λ ρ S w)(hg:kP o' w w')(hr:∀g,ρ id g=none)(hn:S.h.get id=none)(cQ:id<S.nx):
  R Λ (put ρ id 0 pl) S w':=by
 have hx:=gH pl (hr 0);have ct:∀i o,S.h.get i=some o->i≠id:=fun i o ho e=>by subst e;rw[hn]at ho;cases ho
 have hpe:∀i o g,S.h.get i=some o->put ρ id 0 pl i g=ρ i g:=fun i o g ho=>b9 _ _ (fun e=>ct i o ho e.1);refine⟨fun i o ho=>?_,h.vm,fun i g hi=>?_,fun i cells low top frz ty ho g Zw=>?_,fun i o g p ho hp=>?_,fun i j o oj g gj Mt Rj sj ho Fz hp yC=>?_,by rw[hg.size];have:=h.start;omega,fun b hb=>?_⟩
 .exact (h.jE i o ho).ca hx fun g p hp=>hg.old p.b (h.lt i o g p ho hp)
 .rw[b9 _ _ (by omega)];exact h.fresh i g hi
 .rw[hpe i _ g ho];exact h.sJ i cells low top frz ty ho g Zw
 .rw[hpe i o g ho]at hp;have:=h.lt i o g p ho hp;rw[hg.size];omega
 .rw[hpe i o g ho]at hp;rw[hpe j oj gj Fz]at yC;exact h.apart i j o oj g gj Mt Rj sj ho Fz hp yC
 .obtain⟨d1,d2,d3⟩:=h.base b hb;refine⟨d1,(hg.old b (zza d1 h.start)).trans d2,?_⟩;rintro⟨i,o,g,p,ho,hz,hp,rfl⟩;rw[hpe i o g ho]at hp;exact d3 ⟨i,o,g,p,ho,hz,hp,rfl⟩
theorem Kp.uI{ρ0 ρ:aY}{S0 S:AS}{w0 w w':World}{id:Nat}{o':Obj}{pl:Pl}(h:Kp ρ0 S0 w0 ρ S w)(hg:kP o' w w')(hr:∀g,ρ id g=none)(hn:S.h.get id=none)(cD:S0.nx<=id):
  Kp ρ0 S0 w0 (put ρ id 0 pl) S w':=by
 refine⟨h.ext.trans (gH pl (hr 0)),hg.os.trans h.os,hg.tape.trans h.tape,hg.output.trans h.output,by rw[hg.size];have:=h.size;omega,fun b hb hm=>?_,?_,?_,h.nx,fun i g hi Br=>?_⟩
 .exact (hg.old b (zza hb h.size)).trans (h.ca b hb hm)
 .rintro b ⟨i,o,g,p,ho,hp,rfl⟩;have ct:i≠id:=fun e=>by subst e;rw[hn]at ho;cases ho
  rw[b9 _ _ (fun e=>ct e.1)]at hp;exact h.D8 _ ⟨i,o,g,p,ho,hp,rfl⟩
 .rintro b ⟨i,o,g,p,ho,hz,hp,rfl⟩;have ct:i≠id:=fun e=>by subst e;rw[hn]at ho;cases ho
  rw[b9 _ _ (fun e=>ct e.1)]at hp;exact h.wrt _ ⟨i,o,g,p,ho,hz,hp,rfl⟩
 .obtain⟨e1,e2⟩:=h.tG i g hi Br;exact⟨by rw[b9 _ _ (by omega)];exact e1,e2⟩
theorem ik.carry{ρ ρ':aY}{S S':AS}{w w':World}{B:Nat}{p:fk}(hp:ik ρ S w B p)(hk:Kp ρ S w ρ' S' w'):ik ρ' S' w' B p:=by
 obtain⟨hn,cQ,pl,o',p1,p2,p3,p4,p5,p6,p7⟩:=hp;have hs:pl.b<w.heap.size:=(Array.getElem?_eq_some_iff.1 p4).1;have hr:∀g,ρ' p.id g=ρ p.id g:=fun g=>(hk.tG p.id g cQ hn).1;refine⟨(hk.tG p.id 0 cQ hn).2,zza cQ hk.nx,pl,o',by rw[hr];exact p1,fun g hg=>by rw[hr];exact p2 g hg,p3,(hk.ca pl.b hs (fun h=>p6 h.D8)).trans p4,p5.mono hk.ext,fun hm=>?_,p7⟩;rcases hk.D8 _ hm with h1|h1
 .exact p6 h1
 .omega
theorem QB{ρ0 ρ:aY}{S0:AS}{w0 w:World}(hB:Λ.w.heap.size<=w0.heap.size)(pr:fk->Bool):∀(ps:List fk)(S:AS),R Λ ρ S w->Kp ρ0 S0 w0 ρ S w ->
  (∀q,q∈ps->pr q=true->ik ρ S w w0.heap.size q/\S0.nx<=q.id) ->
  ps.Pairwise (fun p q=>p.id≠q.id)->(∀p q a b,p∈ps->pr p=true->q∈ps->pr q=true->p.id≠q.id->ρ p.id 0=some a->ρ q.id 0=some b->a.b≠b.b) ->
  R Λ ρ (bE pr ps S) w/\Kp ρ0 S0 w0 ρ (bE pr ps S) w/\(bE pr ps S).nx=S.nx /\
   ∀p,ik ρ S w w0.heap.size p->(∀q,q∈ps->pr q=true->p.id≠q.id/\∀a b,ρ p.id 0=some a->ρ q.id 0=some b->a.b≠b.b)->ik ρ (bE pr ps S) w w0.heap.size p:=by
 intro ps
 induction ps with
 |nil=>intro S h1 h2 _ _ _;exact⟨h1,h2,rfl,fun p hp _=>hp⟩
 |cons x ps ih=>
  intro S h1 h2 h3 h4 h5;have yB:bE pr (x::ps) S=bE pr ps (cond (pr x) ⟨S.h.set x.id x.obj,S.nx⟩ S):=rfl;rw[yB];obtain⟨h4a,h4b⟩:=List.pairwise_cons.1 h4;cases hx:pr x with
  |false=>
   simp only[cond_false];obtain⟨r1,r2,r3,r4⟩:=ih S h1 h2 (fun q hq=>h3 q (by simp[hq])) h4b (fun p q a b hp h hq h'=>h5 p q a b (by simp[hp]) h (by simp[hq]) h');exact⟨r1,r2,r3,fun p hp hq=>r4 p hp fun q hm=>hq q (by simp[hm])⟩
  |true=>
   simp only[cond_true];obtain⟨UA,hx2⟩:=h3 x (by simp) hx;obtain⟨r1,r2,r3,r4⟩:=ih ⟨S.h.set x.id x.obj,S.nx⟩ (h1.bE UA hB) (h2.bE UA hx2) (fun q hq hp=>by
    obtain⟨a,b⟩:=h3 q (by simp[hq]) hp;exact⟨a.bE UA (fun e=>h4a q hq e.symm) (fun u v hu hv=>h5 q x u v (by simp[hq]) hp (by simp) hx (fun e=>h4a q hq e.symm) hu hv),b⟩) h4b
    (fun p q a b hp h hq h'=>h5 p q a b (by simp[hp]) h (by simp[hq]) h')
   refine⟨r1,r2,r3,fun p hp hq=>r4 p ?_ fun q hm=>hq q (by simp[hm])⟩;obtain⟨a,b⟩:=hq x (by simp) hx;exact hp.bE UA a b
end Go.Am
