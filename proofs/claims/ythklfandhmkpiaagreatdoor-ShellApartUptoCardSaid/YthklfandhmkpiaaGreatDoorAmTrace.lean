/-
  The abstract machine: the run of a region that draws its order, step by step; blocks that are laid and wait to be known.
-/
import Derived.Test.YthklfandhmkpiaaGreatDoorAmCongr
open Nat renaming le_refl->zza,le_of_lt->zzc,zero_le->zze,lt_of_lt_of_le->zzf,blt->zzh
open List renaming take_of_length_le->zzb,length_reverse->zzd,getElem?_eq_getElem->zzg
namespace Go.Am
open Go
variable{Λ:LB}
structure BJ where
 F:Fr
 S:AS
 ps:List dD
 aL:List AS
 id:Nat
def tF(cx:Cx)(K:bO)(ops:List Oper)(r:Row)(c c':BJ):Prop:=
 (r.cls=.fresh/\((wanted ops c.F r.o=some true/\∃v x,aO cx c.F c.id r.o.op=some (v,x)/\c'=⟨bw c.F r.o.dst v,c.S,⟨r.i,c.id,x⟩::c.ps,c.aL,c.id+1⟩) \/
  (wanted ops c.F r.o=some false/\c'=⟨bw c.F r.o.dst .undef,c.S,c.ps,c.aL,c.id⟩))) \/
 (r.cls=.vU/\∃v S2,one cx K ops r.o c.F (bB (fun p=>bit r.dy p.i) c.ps c.S)=.ok (false,v,S2) [] /\
  c'=⟨bw c.F r.o.dst v,S2,c.ps.filter (fun p=>!bit r.dy p.i),c.S::c.aL,c.id⟩) \/
 ((r.cls=.pure\/r.cls=.read)/\∃v,fa cx ops c.F c.S r.o=some v/\c'=⟨bw c.F r.o.dst v,c.S,c.ps,c.aL,c.id⟩)
theorem sole_ok{α:Type}{r:aC α}{x:α}{xs:List α}(h:aC.tI r=.ok x xs):r=.ok x []/\xs=[]:=by
 cases r with
 |err n=>cases h
 |ok y ys=>cases ys with
  |nil=>cases h;exact⟨rfl,rfl⟩
  |cons _ _=>cases h
def wD(cx:Cx)(K:bO)(ops:List Oper)(l:List Row)(c:Nat->BJ)(p:Option (Nat×AV×AS)×Fr×AS×List AS->Prop):Prop:=
 ((∀(i:Nat)(r:Row),l[i]?=some r->tF cx K ops r (c i) (c (i+1)))/\p (none,(c l.length).F,bB (fun _=>true) (c l.length).ps (c l.length).S,(c l.length).S::(c l.length).aL)) \/
 ∃(n:Nat)(r:Row)(v:AV)(S2:AS),l[n]?=some r/\r.cls=.vU/\(∀(i:Nat)(r:Row),i<n->l[i]?=some r->tF cx K ops r (c i) (c (i+1))) /\
  one cx K ops r.o (c n).F (bB (fun p=>bit r.dy p.i) (c n).ps (c n).S)=.ok (true,v,S2) []/\(∀(j:Nat)(q:Row),n<j->l[j]?=some q->bit q.dy r.i=true) /\
  p (some (r.i,v,S2),(c n).F,(c n).S,(c n).S::(c n).aL)
theorem trace(cx:Cx)(K:bO)(ops:List Oper):∀(l:List Row)(c0:BJ)(p:Option (Nat×AV×AS)×Fr×AS×List AS->Prop),(bz cx K ops l c0.F c0.S c0.ps c0.aL c0.id).iQ p ->
  ∃c:Nat->BJ,c 0=c0/\wD cx K ops l c p:=by
 intro l
 induction l with
 |nil=>intro c0 p h;exact⟨fun _=>c0,rfl,.inl ⟨fun i r hr=>by simp at hr,h.1⟩⟩
 |cons r l ih=>
  intro c0 p h;have go:∀c1:BJ,tF cx K ops r c0 c1->(bz cx K ops l c1.F c1.S c1.ps c1.aL c1.id).iQ p ->
    ∃c:Nat->BJ,c 0=c0/\wD cx K ops (r::l) c p:=by
   intro c1 hs h1;obtain⟨c,ni,hc1⟩:=ih c1 p h1;refine⟨fun i=>match i with|0=>c0|i+1=>c i,rfl,?_⟩;rcases hc1 with⟨hc1,hc2⟩|⟨n,q,v,S2,e1,e2,e3,e4,e5,e6⟩
   .refine .inl ⟨fun i r' hr=>?_,hc2⟩;cases i with
    |zero=>simp at hr;subst hr;show tF cx K ops r c0 (c 0);rw[ni];exact hs
    |succ i=>exact hc1 i r' (by simpa using hr)
   .refine .inr ⟨n+1,q,v,S2,by simpa using e1,e2,fun i r' hi hr=>?_,e4,fun j q' hj hq=>?_,e6⟩
    .cases i with
     |zero=>simp at hr;subst hr;show tF cx K ops r c0 (c 0);rw[ni];exact hs
     |succ i=>exact e3 i r' (by omega) (by simpa using hr)
    .cases j with
     |zero=>omega
     |succ j=>exact e5 j q' (by omega) (by simpa using hq)
  have hun:bz cx K ops (r::l) c0.F c0.S c0.ps c0.aL c0.id=(match r.cls with
   | .fresh=>match wanted ops c0.F r.o with
    |some true=>match aO cx c0.F c0.id r.o.op with
     |some (v,x)=>bz cx K ops l (bw c0.F r.o.dst v) c0.S (⟨r.i,c0.id,x⟩::c0.ps) c0.aL (Nat.succ c0.id)
     |none=>.err 1001
    |some false=>bz cx K ops l (bw c0.F r.o.dst .undef) c0.S c0.ps c0.aL c0.id
    |none=>.err 1002
   | .vU=>aC.bind (aC.tI (one cx K ops r.o c0.F (bB (fun p=>bit r.dy p.i) c0.ps c0.S))) fun q=>cond q.1 (cond (gS (fun q=>bit q.dy r.i) l) (.ok (some (r.i,q.2.1,q.2.2),c0.F,c0.S,c0.S::c0.aL) []) (.err 1007)) (bz cx K ops l (bw c0.F r.o.dst q.2.1) q.2.2 (gr (fun p=>!bit r.dy p.i) c0.ps) (c0.S::c0.aL) c0.id)
   |_=>match fa cx ops c0.F c0.S r.o with
    |some v=>bz cx K ops l (bw c0.F r.o.dst v) c0.S c0.ps c0.aL c0.id
    |none=>.err 1006):=rfl
  rw[hun]at h;have val:(match fa cx ops c0.F c0.S r.o with
    |some v=>bz cx K ops l (bw c0.F r.o.dst v) c0.S c0.ps c0.aL c0.id
    |none=>.err 1006).iQ p->(r.cls=.pure\/r.cls=.read)->∃c:Nat->BJ,c 0=c0/\wD cx K ops (r::l) c p:=fun h hc=>by
   cases hv:fa cx ops c0.F c0.S r.o with
   |none=>rw[hv]at h;exact h.elim
   |some v=>
    rw[hv]at h;exact go ⟨bw c0.F r.o.dst v,c0.S,c0.ps,c0.aL,c0.id⟩ (.inr (.inr ⟨hc,v,hv,rfl⟩)) h
  cases hc:r.cls with
  |pure=>rw[hc]at h;exact val h (.inl hc)
  |read=>rw[hc]at h;exact val h (.inr hc)
  |fresh=>
   rw[hc]at h;simp only[]at h;cases hw:wanted ops c0.F r.o with
   |none=>rw[hw]at h;exact h.elim
   |some b=>
    rw[hw]at h;cases b with
    |false=>exact go ⟨bw c0.F r.o.dst .undef,c0.S,c0.ps,c0.aL,c0.id⟩ (.inl ⟨hc,.inr ⟨hw,rfl⟩⟩) h
    |true=>
     simp only[]at h;cases hf:aO cx c0.F c0.id r.o.op with
     |none=>rw[hf]at h;exact h.elim
     |some vx=>
      rw[hf]at h;exact go ⟨bw c0.F r.o.dst vx.1,c0.S,⟨r.i,c0.id,vx.2⟩::c0.ps,c0.aL,c0.id+1⟩ (.inl ⟨hc,.inl ⟨hw,vx.1,vx.2,hf,rfl⟩⟩) h
  |vU=>
   rw[hc]at h;simp only[]at h;cases hs:aC.tI (one cx K ops r.o c0.F (bB (fun p=>bit r.dy p.i) c0.ps c0.S))with
   |err n=>rw[hs]at h;exact h.elim
   |ok q qs=>
    obtain⟨h1,rfl⟩:=sole_ok hs;rw[hs]at h;obtain⟨b,v,S2⟩:=q;cases b with
    |true=>
     cases ha:gS (fun q=>bit q.dy r.i) l with
     |false=>
      have h3:(cond (gS (fun q=>bit q.dy r.i) l) (.ok (some (r.i,v,S2),c0.F,c0.S,c0.S::c0.aL) []) (.err 1007):aC (Option (Nat×AV×AS)×Fr×AS×List AS)).iQ p:=h;rw[ha]at h3;exact h3.elim
     |true=>
      have h3:(cond (gS (fun q=>bit q.dy r.i) l) (.ok (some (r.i,v,S2),c0.F,c0.S,c0.S::c0.aL) []) (.err 1007):aC (Option (Nat×AV×AS)×Fr×AS×List AS)).iQ p:=h;rw[ha]at h3;rw[iU,List.all_eq_true]at ha;refine⟨fun _=>c0,rfl,.inr ⟨0,r,v,S2,rfl,hc,fun i _ hi=>by omega,h1,fun j q hj hq=>?_,h3.1⟩⟩;cases j with
      |zero=>omega
      |succ j=>exact ha q (List.mem_of_getElem? (by simpa using hq))
    |false=>
     have h3:(bz cx K ops l (bw c0.F r.o.dst v) S2 (gr (fun p=>!bit r.dy p.i) c0.ps) (c0.S::c0.aL) c0.id).iQ p:=h;rw[nj]at h3;exact go ⟨bw c0.F r.o.dst v,S2,c0.ps.filter (fun p=>!bit r.dy p.i),c0.S::c0.aL,c0.id⟩ (.inr (.inl ⟨hc,v,S2,h1,rfl⟩)) h3
structure fT(ρ:bf)(S:AS)(w:World)(B:Nat)(q:dD):Prop where
 none:S.h.get q.id=none
 lt:q.id<S.nx
 laid:∃pl o',ρ q.id 0=some pl/\(∀g,g≠0->ρ q.id g=.none)/\zK pl.b pl q.obj o'/\w.heap[pl.b]?=some o'/\oO ρ q.obj o'/\¬Mine ρ S pl.b/\B<=pl.b
theorem R.bB{ρ:bf}{S:AS}{w:World}{B:Nat}{q:dD}(h:R Λ ρ S w)(hq:fT ρ S w B q)(hB:Λ.w.heap.size<=B):R Λ ρ ⟨S.h.set q.id q.obj,S.nx⟩ w:=by
 obtain⟨hn,cR,pl,o',p1,p2,p3,p4,p5,p6,p7⟩:=hq;have gM:∀i,i≠q.id->(S.h.set q.id q.obj).get i=S.h.get i:=fun i hi=>ah _ _ hi;have kV:ORel ρ w q.id q.obj:=by
  obtain⟨qi,qid,qo⟩:=q;cases qo with
  |row cells low top frz ty=>
   obtain⟨rfl,rfl,rfl,C,rfl,r2,r3,r3o⟩:=p5;obtain⟨_,e2,e3,e4⟩:=p3;refine⟨zza _,fun g _ hg=>?_,fun g k a b _ hg _ hk ha hb _=>by
    obtain rfl:g=0:=by omega
    obtain rfl:k=0:=by omega
    rw[ha]at hb;cases hb;rfl⟩
   obtain rfl:g=0:=by omega
   refine⟨pl,C,(0,0),p1,p4,e4.symm,pl.le,by rw[e3];exact zza _,fun i hi=>?_,fun _=>e3,fun _ i _=>by simp[A3],fun _=>e2,fun _=>r3o⟩;rw[e3]at hi;obtain⟨x,hx⟩:∃x,cells[i]?=some x:=⟨cells[i],zzg hi⟩
   obtain⟨v,hv,hr⟩:=r3.1.get hx;refine⟨x,v,hx,?_,hr,r3.2 v (List.mem_of_getElem? hv)⟩;rw[List.getElem?_take,if_pos hi]at hv;rw[e2,Nat.zero_add,<-Array.getElem?_toList];exact hv
  |map es clock=>
   obtain⟨ES,rfl,r2⟩:=p5;exact⟨pl,ES,p1,p4,r2⟩
  |nR x=>exact⟨pl,o',p1,p4,p5,p3.2⟩
 refine⟨?_,?_,h.fresh,?_,?_,?_,h.start,?_⟩
 rotate_right
 .intro b hb;obtain⟨d1,d2,d3⟩:=h.base b hb;refine⟨d1,d2,?_⟩;rintro⟨i,o,g,dT,ho,hz,hp,rfl⟩;by_cases hi:i=q.id
  .subst hi;by_cases hg:g=0
   .subst hg;rw[p1]at hp;cases hp;omega
   .rw[p2 g hg]at hp;cases hp
  .have qu:S.h.get i=some o:=by rw[<-gM i hi];exact ho
   exact d3 ⟨i,o,g,dT,qu,hz,hp,rfl⟩
 .intro i o ho;by_cases hi:i=q.id
  .subst hi;rw[get_set_same]at ho;cases ho;exact kV
  .rw[gM i hi]at ho;exact h.ja i o ho
 .intro i o ho;by_cases hi:i=q.id
  .subst hi;exact cR
  .rw[gM i hi]at ho;exact h.xD i o ho
 .intro i cells low top frz ty ho g hg;by_cases hi:i=q.id
  .subst hi;exact p2 g (by omega)
  .rw[gM i hi]at ho;exact h.pW i cells low top frz ty ho g hg
 .intro i o g dT ho hp;by_cases hi:i=q.id
  .subst hi;by_cases hg:g=0
   .subst hg;rw[p1]at hp;cases hp;exact (Array.getElem?_eq_some_iff.1 p4).1
   .rw[p2 g hg]at hp;cases hp
  .rw[gM i hi]at ho;exact h.lt i o g dT ho hp
 .intro i j o oj g gj pli plj sx ho BN hp Dt;by_cases hi:i=q.id
  .subst hi;have hj:j≠q.id:=fun e=>sx e.symm;rw[gM j hj]at BN;by_cases hg:g=0
   .subst hg;rw[p1]at hp;cases hp;exact .inl fun hb=>p6 ⟨j,oj,gj,plj,BN,Dt,hb.symm⟩
   .rw[p2 g hg]at hp;cases hp
  .rw[gM i hi]at ho;by_cases hj:j=q.id
   .subst hj;by_cases hg:gj=0
    .subst hg;rw[p1]at Dt;cases Dt;exact .inl fun hb=>p6 ⟨i,o,g,pli,ho,hp,hb⟩
    .rw[p2 gj hg]at Dt;cases Dt
   .rw[gM j hj]at BN;exact h.apart i j o oj g gj pli plj sx ho BN hp Dt
theorem Kp.bB{ρ0 ρ:bf}{S0 S:AS}{w0 w:World}{q:dD}(h:Kp ρ0 S0 w0 ρ S w)(hq:fT ρ S w w0.heap.size q)(cw:S0.nx<=q.id):
  Kp ρ0 S0 w0 ρ ⟨S.h.set q.id q.obj,S.nx⟩ w:=by
 obtain⟨hn,cR,pl,o',p1,p2,p3,p4,p5,p6,p7⟩:=hq;refine⟨h.ext,h.os,h.tape,h.output,h.size,h.fM,?_,?_,h.nx,?_⟩
 .rintro b ⟨i,o,g,dT,ho,hp,rfl⟩;by_cases hi:i=q.id
  .subst hi;by_cases hg:g=0
   .subst hg;rw[p1]at hp;cases hp;exact .inr p7
   .rw[p2 g hg]at hp;cases hp
  .rw[ah _ _ hi]at ho;exact h.CZ _ ⟨i,o,g,dT,ho,hp,rfl⟩
 .rintro b ⟨i,o,g,dT,ho,hz,hp,rfl⟩;by_cases hi:i=q.id
  .subst hi;by_cases hg:g=0
   .subst hg;rw[p1]at hp;cases hp;exact .inr p7
   .rw[p2 g hg]at hp;cases hp
  .rw[ah _ _ hi]at ho;exact h.wrt _ ⟨i,o,g,dT,ho,hz,hp,rfl⟩
 .intro i g hi EX;obtain⟨e1,e2⟩:=h.qJ i g hi EX;exact⟨e1,by show (S.h.set q.id q.obj).get i=Option.none;rw[ah _ _ (by omega)];exact e2⟩
theorem fT.bB{ρ:bf}{S:AS}{w:World}{B:Nat}{q p:dD}(hp:fT ρ S w B p)(hq:fT ρ S w B q)(cw:p.id≠q.id)
  (hb:∀a b,ρ p.id 0=some a->ρ q.id 0=some b->a.b≠b.b):fT ρ ⟨S.h.set q.id q.obj,S.nx⟩ w B p:=by
 obtain⟨hn,cR,pl,o',p1,p2,p3,p4,p5,p6,p7⟩:=hp;obtain⟨qn,qlt,qpl,qo',q1,q2,_⟩:=hq;refine⟨by show (S.h.set q.id q.obj).get p.id=Option.none;rw[ah _ _ cw];exact hn,cR,pl,o',p1,p2,p3,p4,p5,?_,p7⟩;rintro⟨i,o,g,dT,ho,kF,he⟩;by_cases hi:i=q.id
 .subst hi;by_cases hg:g=0
  .subst hg;rw[q1]at kF;cases kF;exact hb pl qpl p1 q1 he.symm
  .rw[q2 g hg]at kF;cases kF
 .rw[ah _ _ hi]at ho;exact p6 ⟨i,o,g,dT,ho,kF,he⟩
theorem R.qL{ρ:bf}{S:AS}{w w':World}{id:Nat}{o':Obj}{pl:Pl}(h:R Λ ρ S w)(hg:iz o' w w')(hr:∀g,ρ id g=none)(hn:S.h.get id=none)(cR:id<S.nx):
  R Λ (put ρ id 0 pl) S w':=by
 have hx:=fY pl (hr 0);have cl:∀i o,S.h.get i=some o->i≠id:=fun i o ho e=>by subst e;rw[hn]at ho;cases ho
 have hpe:∀i o g,S.h.get i=some o->put ρ id 0 pl i g=ρ i g:=fun i o g ho=>cq _ _ (fun e=>cl i o ho e.1);refine⟨fun i o ho=>?_,h.xD,fun i g hi=>?_,fun i cells low top frz ty ho g EZ=>?_,fun i o g p ho hp=>?_,fun i j o oj g gj pli plj sx ho BN hp Dt=>?_,by rw[hg.size];have:=h.start;omega,fun b hb=>?_⟩
 .exact (h.ja i o ho).fM hx fun g p hp=>hg.old p.b (h.lt i o g p ho hp)
 .rw[cq _ _ (by omega)];exact h.fresh i g hi
 .rw[hpe i _ g ho];exact h.pW i cells low top frz ty ho g EZ
 .rw[hpe i o g ho]at hp;have:=h.lt i o g p ho hp;rw[hg.size];omega
 .rw[hpe i o g ho]at hp;rw[hpe j oj gj BN]at Dt;exact h.apart i j o oj g gj pli plj sx ho BN hp Dt
 .obtain⟨d1,d2,d3⟩:=h.base b hb;refine⟨d1,(hg.old b (zzf d1 h.start)).trans d2,?_⟩;rintro⟨i,o,g,p,ho,hz,hp,rfl⟩;rw[hpe i o g ho]at hp;exact d3 ⟨i,o,g,p,ho,hz,hp,rfl⟩
theorem Kp.qL{ρ0 ρ:bf}{S0 S:AS}{w0 w w':World}{id:Nat}{o':Obj}{pl:Pl}(h:Kp ρ0 S0 w0 ρ S w)(hg:iz o' w w')(hr:∀g,ρ id g=none)(hn:S.h.get id=none)(cw:S0.nx<=id):
  Kp ρ0 S0 w0 (put ρ id 0 pl) S w':=by
 refine⟨h.ext.trans (fY pl (hr 0)),hg.os.trans h.os,hg.tape.trans h.tape,hg.output.trans h.output,by rw[hg.size];have:=h.size;omega,fun b hb hm=>?_,?_,?_,h.nx,fun i g hi EX=>?_⟩
 .exact (hg.old b (zzf hb h.size)).trans (h.fM b hb hm)
 .rintro b ⟨i,o,g,p,ho,hp,rfl⟩;have cl:i≠id:=fun e=>by subst e;rw[hn]at ho;cases ho
  rw[cq _ _ (fun e=>cl e.1)]at hp;exact h.CZ _ ⟨i,o,g,p,ho,hp,rfl⟩
 .rintro b ⟨i,o,g,p,ho,hz,hp,rfl⟩;have cl:i≠id:=fun e=>by subst e;rw[hn]at ho;cases ho
  rw[cq _ _ (fun e=>cl e.1)]at hp;exact h.wrt _ ⟨i,o,g,p,ho,hz,hp,rfl⟩
 .obtain⟨e1,e2⟩:=h.qJ i g hi EX;exact⟨by rw[cq _ _ (by omega)];exact e1,e2⟩
theorem fT.carry{ρ ρ':bf}{S S':AS}{w w':World}{B:Nat}{p:dD}(hp:fT ρ S w B p)(hk:Kp ρ S w ρ' S' w'):fT ρ' S' w' B p:=by
 obtain⟨hn,cR,pl,o',p1,p2,p3,p4,p5,p6,p7⟩:=hp;have hs:pl.b<w.heap.size:=(Array.getElem?_eq_some_iff.1 p4).1;have hr:∀g,ρ' p.id g=ρ p.id g:=fun g=>(hk.qJ p.id g cR hn).1;refine⟨(hk.qJ p.id 0 cR hn).2,zzf cR hk.nx,pl,o',by rw[hr];exact p1,fun g hg=>by rw[hr];exact p2 g hg,p3,(hk.fM pl.b hs (fun h=>p6 h.CZ)).trans p4,p5.mono hk.ext,fun hm=>?_,p7⟩;rcases hk.CZ _ hm with h1|h1
 .exact p6 h1
 .omega
theorem commit_ok{ρ0 ρ:bf}{S0:AS}{w0 w:World}(hB:Λ.w.heap.size<=w0.heap.size)(pr:dD->Bool):∀(ps:List dD)(S:AS),R Λ ρ S w->Kp ρ0 S0 w0 ρ S w ->
  (∀q,q∈ps->pr q=true->fT ρ S w w0.heap.size q/\S0.nx<=q.id) ->
  ps.Pairwise (fun p q=>p.id≠q.id)->(∀p q a b,p∈ps->pr p=true->q∈ps->pr q=true->p.id≠q.id->ρ p.id 0=some a->ρ q.id 0=some b->a.b≠b.b) ->
  R Λ ρ (bB pr ps S) w/\Kp ρ0 S0 w0 ρ (bB pr ps S) w/\(bB pr ps S).nx=S.nx /\
   ∀p,fT ρ S w w0.heap.size p->(∀q,q∈ps->pr q=true->p.id≠q.id/\∀a b,ρ p.id 0=some a->ρ q.id 0=some b->a.b≠b.b)->fT ρ (bB pr ps S) w w0.heap.size p:=by
 intro ps
 induction ps with
 |nil=>intro S h1 h2 _ _ _;exact⟨h1,h2,rfl,fun p hp _=>hp⟩
 |cons x ps ih=>
  intro S h1 h2 h3 h4 h5;have hun:bB pr (x::ps) S=bB pr ps (cond (pr x) ⟨S.h.set x.id x.obj,S.nx⟩ S):=rfl;rw[hun];obtain⟨h4a,h4b⟩:=List.pairwise_cons.1 h4;cases hx:pr x with
  |false=>
   simp only[cond_false];obtain⟨r1,r2,r3,r4⟩:=ih S h1 h2 (fun q hq=>h3 q (by simp[hq])) h4b (fun p q a b hp h hq h'=>h5 p q a b (by simp[hp]) h (by simp[hq]) h');exact⟨r1,r2,r3,fun p hp hq=>r4 p hp fun q hm=>hq q (by simp[hm])⟩
  |true=>
   simp only[cond_true];obtain⟨Dn,hx2⟩:=h3 x (by simp) hx;obtain⟨r1,r2,r3,r4⟩:=ih ⟨S.h.set x.id x.obj,S.nx⟩ (h1.bB Dn hB) (h2.bB Dn hx2) (fun q hq hp=>by
    obtain⟨a,b⟩:=h3 q (by simp[hq]) hp;exact⟨a.bB Dn (fun e=>h4a q hq e.symm) (fun u v hu hv=>h5 q x u v (by simp[hq]) hp (by simp) hx (fun e=>h4a q hq e.symm) hu hv),b⟩) h4b
    (fun p q a b hp h hq h'=>h5 p q a b (by simp[hp]) h (by simp[hq]) h')
   refine⟨r1,r2,r3,fun p hp hq=>r4 p ?_ fun q hm=>hq q (by simp[hm])⟩;obtain⟨a,b⟩:=hq x (by simp) hx;exact hp.bB Dn a b
end Go.Am
namespace Go.Am
open Go
structure nH(cx:Cx)(K:bO)(ops:List Oper)(rows:List Row)(c:Nat->BJ):Prop where
 step:∀(i:Nat)(r:Row),rows[i]?=some r->tF cx K ops r (c i) (c (i+1))
 num:∀(i:Nat)(r:Row),rows[i]?=some r->r.i=i
 lt:∀(i:Nat)(r:Row),rows[i]?=some r->r.dy<2 ^ i
 tot:∀(i j:Nat)(r q:Row),rows[i]?=some r->rows[j]?=some q->bR r.cls=true->bR q.cls=true->i<j->bit q.dy i=true
 Ak:∀(i j:Nat)(r q:Row)(d:Nat),rows[i]?=some r->rows[j]?=some q->r.o.dst=some d->d∈gh ops q.o->bit q.dy i=true\/(bit r.dy j=true/\eC q.cls=false)
 single:∀(i j:Nat)(r q:Row)(d:Nat),rows[i]?=some r->rows[j]?=some q->r.o.dst=some d->q.o.dst=some d->i=j
theorem isEff_iff{c:Cls}:bR c=true↔c=.vU:=by cases c<;>simp[bR]
theorem FK(F:Fr)(dst:Option Tmp)(v:AV):(bw F dst v).n=F.n:=by
 cases dst with
 |none=>rfl
 |some d=>rw[jP];cases zzh d F.n<;>rfl
theorem At(F:Fr)(dst:Option Tmp)(v:AV):(bw F dst v).ds=F.ds:=by
 cases dst with
 |none=>rfl
 |some d=>rw[jP];cases zzh d F.n<;>rfl
theorem qQ{F:Fr}{dst:Option Tmp}{v:AV}{t:Nat}(h:dst≠some t):(bw F dst v).t.get t=F.t.get t:=by
 cases dst with
 |none=>rfl
 |some d=>
  rw[jP];cases zzh d F.n with
  |false=>rfl
  |true=>exact ah _ _ (fun e=>h (by rw[e]))
theorem mc{F:Fr}{v:AV}{t:Nat}:(bw F (some t) v).t.get t=if t<F.n then some v else F.t.get t:=by
 rw[jP];by_cases h:t<F.n
 .have:zzh t F.n=true:=by simpa using h
  rw[this,if_pos h];exact get_set_same _ _ _
 .have:zzh t F.n=false:=by
   cases hb:zzh t F.n with
   |false=>rfl
   |true=>exact absurd (by simpa using hb) h
  rw[this,if_neg h];rfl
theorem stepF{cx:Cx}{K:bO}{ops:List Oper}{r:Row}{c c':BJ}(h:tF cx K ops r c c'):∃v,c'.F=bw c.F r.o.dst v:=by
 rcases h with⟨_,⟨_,v,x,_,rfl⟩|⟨_,rfl⟩⟩|⟨_,v,S2,_,rfl⟩|⟨_,v,_,rfl⟩<;>exact⟨_,rfl⟩
section
variable{cx:Cx}{K:bO}{ops:List Oper}{rows:List Row}{c:Nat->BJ}
theorem gG{i:Nat}(h:i<rows.length):∃r,rows[i]?=some r:=⟨rows[i],zzg h⟩
theorem jZ{i:Nat}{r:Row}(h:rows[i]?=some r):i<rows.length:=by
 rcases Nat.lt_or_ge i rows.length with h1|h1
 .exact h1
 .rw[List.getElem?_eq_none h1]at h;cases h
theorem nH.n(h:nH cx K ops rows c):∀i,i<=rows.length->(c i).F.n=(c 0).F.n:=by
 intro i
 induction i with
 |zero=>intro _;rfl
 |succ i ih=>
  intro hi;obtain⟨r,hr⟩:=gG hi;obtain⟨v,hv⟩:=stepF (h.step i r hr);rw[hv,FK];exact ih (by omega)
theorem nH.ds(h:nH cx K ops rows c):∀i,i<=rows.length->(c i).F.ds=(c 0).F.ds:=by
 intro i
 induction i with
 |zero=>intro _;rfl
 |succ i ih=>
  intro hi;obtain⟨r,hr⟩:=gG hi;obtain⟨v,hv⟩:=stepF (h.step i r hr);rw[hv,At];exact ih (by omega)
theorem nH.fM(h:nH cx K ops rows c){t:Nat}{i:Nat}:∀j,i<=j->j<=rows.length->(∀(k:Nat)(r:Row),i<=k->k<j->rows[k]?=some r->r.o.dst≠some t)->(c j).F.t.get t=(c i).F.t.get t:=by
 intro j
 induction j with
 | zero => intro h1 _ _; have : i = 0 := by omega
           subst this;rfl
 |succ j ih=>
  intro h1 h2 h3;by_cases sx:i=j+1
  .subst sx;rfl
  .obtain⟨r,hr⟩:=gG (rows:=rows) h2;obtain⟨v,hv⟩:=stepF (h.step j r hr);rw[hv,qQ (h3 j r (by omega) (by omega) hr)];exact ih (by omega) (by omega) fun k r hk1 wN=>h3 k r hk1 (by omega)
def sS(rows:List Row)(t i:Nat):Prop:=∃r,rows[i]?=some r/\r.o.dst=some t
structure zM(rows:List Row)(c:Nat->BJ)(L:Nat->Prop)(F:Fr):Prop where
 n:F.n=(c 0).F.n
 ds:F.ds=(c 0).F.ds
 yes:∀t i,sS rows t i->L i->F.t.get t=(c rows.length).F.t.get t
 no:∀t,(∀i,sS rows t i->¬L i)->F.t.get t=(c 0).F.t.get t
theorem nH.now(h:nH cx K ops rows c){L:Nat->Prop}{F:Fr}(ha:zM rows c L F){i:Nat}{r:Row}(hr:rows[i]?=some r)(hL:∀j,bit r.dy j=true->L j)(hno:eC r.cls=true\/∀(k:Nat)(q:Row),rows[k]?=some q->bit q.dy i=true->¬L k){t:Nat}(ht:t∈gh ops r.o):
  F.t.get t=(c i).F.t.get t:=by
 have hi:=jZ hr;by_cases hw:∃j,sS rows t j
 .obtain⟨j,q,hq,hd⟩:=hw;rcases h.Ak j i q r t hq hr hd ht with hb|⟨hb,vE⟩
  .have hj:=oI (h.lt i r hr) hb;rw[ha.yes t j ⟨q,hq,hd⟩ (hL j hb)];refine h.fM _ (zzc hi) (zza _) fun k q' hk1 _ hk mF=>?_;have:=h.single j k q q' t hq hk hd mF;omega
  .have hj:=oI (h.lt j q hq) hb;have hnj:¬L j:=by
    rcases hno with h1|h1
    .rw[h1]at vE;cases vE
    .exact h1 j q hq hb
   rw[ha.no t fun k hk hLk=>by
    obtain⟨q',hq',mF⟩:=hk;have:=h.single j k q q' t hq hq' hd mF;subst this;exact hnj hLk]
   exact (h.fM i (zze _) (zzc hi) fun k q' _ wN hk mF=>by
    have:=h.single j k q q' t hq hk hd mF;omega).symm
 .rw[ha.no t fun j hj _=>hw ⟨j,hj⟩];exact (h.fM i (zze _) (zzc hi) fun k q' _ _ hk mF=>hw ⟨k,q',hk,mF⟩).symm
theorem nH.all(h:nH cx K ops rows c):zM rows c (fun _=>True) (c rows.length).F:=
 ⟨h.n _ (zza _),h.ds _ (zza _),fun _ _ _ _=>rfl,fun _ hw=>h.fM _ (zze _) (zza _) fun k q' _ _ hk mF=>hw k ⟨q',hk,mF⟩ trivial⟩
theorem nH.put(h:nH cx K ops rows c){L L':Nat->Prop}{F:Fr}(ha:zM rows c L F){i:Nat}{r:Row}(hr:rows[i]?=some r)(hn:¬L i){v:AV}(hv:(c (i+1)).F=bw (c i).F r.o.dst v)
  (hL:∀j,L' j↔L j\/j=i):zM rows c L' (bw F r.o.dst v):=by
 have hi:=jZ hr;have me:∀t,r.o.dst=some t->(bw F r.o.dst v).t.get t=(c rows.length).F.t.get t:=by
  intro t hd;have h1:(c rows.length).F.t.get t=(c (i+1)).F.t.get t:=h.fM _ hi (zza _) fun k q hk _ hq mF=>by
   have:=h.single i k r q t hr hq hd mF;omega
  rw[h1,hv,hd,mc,mc,ha.n,h.n i (zzc hi)];split
  .rfl
  .rw[ha.no t fun j hj hLj=>by
    obtain⟨q,hq,mF⟩:=hj;have:=h.single i j r q t hr hq hd mF;subst this;exact hn hLj]
   exact (h.fM i (zze _) (zzc hi) fun k q _ hk hq mF=>by
    have:=h.single i k r q t hr hq hd mF;omega).symm
 refine⟨by rw[FK];exact ha.n,by rw[At];exact ha.ds,fun t j hj hLj=>?_,fun t hw=>?_⟩
 .by_cases hd:r.o.dst=some t
  .exact me t hd
  .rw[qQ hd];rcases (hL j).1 hLj with h1|h1
   .exact ha.yes t j hj h1
   .subst h1;obtain⟨q,hq,mF⟩:=hj;rw[hr]at hq;cases hq;exact absurd mF hd
 .have hd:r.o.dst≠some t:=fun hd=>hw i ⟨r,hr,hd⟩ ((hL i).2 (.inr rfl));rw[qQ hd];exact ha.no t fun j hj hLj=>hw j hj ((hL j).2 (.inl hLj))
def jD(rows:List Row)(i:Nat):Nat:=(rows.take i).countP fun r=>bR r.cls
theorem kh{i:Nat}{r:Row}(h:rows[i]?=some r):jD rows (i+1)=jD rows i+(if bR r.cls then 1 else 0):=by
 unfold jD;rw[List.take_add_one,h,List.countP_append];simp[List.countP_cons]
theorem vm{i:Nat}:∀{j:Nat},i<=j->jD rows i<=jD rows j:=by
 intro j sx
 induction j with
 | zero => have : i = 0 := by omega
           subst this;exact zza _
 |succ j ih=>
  by_cases h:i=j+1
  .subst h;exact zza _
  .have h1:=ih (by omega);by_cases hj:j<rows.length
   .obtain⟨r,hr⟩:=gG hj;rw[kh hr];omega
   .have:jD rows (j+1)=jD rows j:=by
     unfold jD;rw[zzb (by omega),zzb (by omega)]
    omega
theorem vn{e i:Nat}{r:Row}(h:rows[e]?=some r)(he:bR r.cls=true):e<i↔jD rows e<jD rows i:=by
 constructor
 .intro cR;have:=vm (rows:=rows) (i:=e+1) (j:=i) cR;rw[kh h,if_pos he]at this;omega
 .intro cR;rcases Nat.lt_or_ge e i with h1|h1
  .exact h1
  .have:=vm (rows:=rows) h1;omega
theorem vp:∀i,jD rows i=0\/∃(e:Nat)(r:Row),e<i/\rows[e]?=some r/\bR r.cls=true/\jD rows i=jD rows e+1:=by
 intro i
 induction i with
 |zero=>left;rfl
 |succ i ih=>
  by_cases hi:i<rows.length
  .obtain⟨r,hr⟩:=gG hi;rw[kh hr];cases he:bR r.cls with
   |true=>exact .inr ⟨i,r,by omega,hr,he,by simp⟩
   |false=>
    rcases ih with h|⟨e,q,h1,h2,h3,h4⟩
    .left;simpa using h
    .exact .inr ⟨e,q,by omega,h2,h3,by simpa using h4⟩
  .have:jD rows (i+1)=jD rows i:=by
    unfold jD;rw[zzb (by omega),zzb (by omega)]
   rw[this];rcases ih with h|⟨e,q,h1,h2⟩
   .exact .inl h
   .exact .inr ⟨e,q,by omega,h2⟩
def full(c:Nat->BJ)(i:Nat):List AS:=(c i).S::(c i).aL
theorem nH.DI(h:nH cx K ops rows c)(h0:(c 0).aL=[]):∀i,i<=rows.length->(full c i).length=jD rows i+1:=by
 intro i
 induction i with
 |zero=>intro _;simp[full,h0,jD]
 |succ i ih=>
  intro hi;obtain⟨r,hr⟩:=gG hi;have h1:=ih (by omega);rw[kh hr];rcases h.step i r hr with⟨hc,⟨_,v,x,_,e⟩|⟨_,e⟩⟩|⟨hc,v,S2,_,e⟩|⟨hc,v,_,e⟩
  .simp only[full,e,hc,bR]at h1⊢;simpa using h1
  .simp only[full,e,hc,bR]at h1⊢;simpa using h1
  .simp only[full,e,hc,bR]at h1⊢;simpa using h1
  .rcases hc with hc|hc<;>(simp only[full,e,hc,bR]at h1⊢;simpa using h1)
theorem nH.full_suf(h:nH cx K ops rows c){i:Nat}:∀j,i<=j->j<=rows.length->∃pre,full c j=pre++full c i:=by
 intro j
 induction j with
 | zero => intro h1 _; have : i = 0 := by omega
           subst this;exact⟨[],rfl⟩
 |succ j ih=>
  intro h1 h2;by_cases sx:i=j+1
  .subst sx;exact⟨[],rfl⟩
  .obtain⟨pre,hp⟩:=ih (by omega) (by omega);obtain⟨r,hr⟩:=gG (rows:=rows) h2;rcases h.step j r hr with⟨hc,⟨_,v,x,_,e⟩|⟨_,e⟩⟩|⟨hc,v,S2,_,e⟩|⟨hc,v,_,e⟩
   .exact⟨pre,by rw[<-hp];simp[full,e]⟩
   .exact⟨pre,by rw[<-hp];simp[full,e]⟩
   .exact⟨S2::pre,by rw[List.cons_append,<-hp];simp[full,e]⟩
   .exact⟨pre,by rw[<-hp];simp[full,e]⟩
def eN(rows:List Row)(c:Nat->BJ):List AS:=(full c rows.length).reverse
theorem nH.snap(h:nH cx K ops rows c)(h0:(c 0).aL=[]){i:Nat}(hi:i<=rows.length):(eN rows c)[jD rows i]?=some (c i).S:=by
 obtain⟨pre,hp⟩:=h.full_suf rows.length hi (zza _);have hl:=h.DI h0 i hi;unfold eN;rw[hp,List.reverse_append,List.getElem?_append_left (by rw[zzd,hl];omega)];have:(full c i).reverse=(c i).aL.reverse++[(c i).S]:=by simp[full]
 rw[this];have hl2:(c i).aL.reverse.length=jD rows i:=by
  simp only[full,List.length_cons]at hl;rw[zzd];omega
 rw[<-hl2];simp
theorem nH.uG(h:nH cx K ops rows c)(h0:(c 0).aL=[]):(eN rows c).length=jD rows rows.length+1:=by
 unfold eN;rw[zzd];exact h.DI h0 _ (zza _)
structure Laid(cx:Cx)(ops:List Oper)(rows:List Row)(c:Nat->BJ)(j:Nat)(q:dD):Prop where
 row:∃r v,rows[j]?=some r/\r.cls=.fresh/\wanted ops (c j).F r.o=some true/\aO cx (c j).F q.id r.o.op=some (v,q.obj)
 i:q.i=j
 id:q.id=(c j).id
theorem nH.id_le(h:nH cx K ops rows c){i:Nat}:∀j,i<=j->j<=rows.length->(c i).id<=(c j).id:=by
 intro j
 induction j with
 | zero => intro h1 _; have : i = 0 := by omega
           subst this;exact zza _
 |succ j ih=>
  intro h1 h2;by_cases sx:i=j+1
  .subst sx;exact zza _
  .have:=ih (by omega) (by omega);obtain⟨r,hr⟩:=gG (rows:=rows) h2;rcases h.step j r hr with⟨hc,⟨_,v,x,_,e⟩|⟨_,e⟩⟩|⟨hc,v,S2,_,e⟩|⟨hc,v,_,e⟩<;>(rw[e];simp only[];omega)
theorem Laid.nx(h:nH cx K ops rows c){j:Nat}{q:dD}(hl:Laid cx ops rows c j q):(c (j+1)).id=(c j).id+1/\j<rows.length/\∃x,(c (j+1)).ps=q::(c j).ps/\x=q:=by
 obtain⟨⟨r,v,hr,hc,hw,hf⟩,hi,cw⟩:=hl;rcases h.step j r hr with⟨_,⟨_,v',x,Dz,e⟩|⟨EV,e⟩⟩|⟨kK,_⟩|⟨kK,_⟩
 .rw[cw,Dz]at hf;cases hf;refine⟨by rw[e],jZ hr,q,?_,rfl⟩;rw[e];obtain⟨qi,qid,qo⟩:=q;simp only at hi cw;subst hi cw;rw[h.num _ r hr]
 .rw[hw]at EV;cases EV
 .rw[hc]at kK;cases kK
 .rw[hc]at kK;rcases kK with kK|kK<;>cases kK
theorem Laid.apart(h:nH cx K ops rows c){j j':Nat}{q q':dD}(hl:Laid cx ops rows c j q)(pM:Laid cx ops rows c j' q')(cl:j≠j'):q.id≠q'.id:=by
 have h1:=hl.nx h;have h2:=pM.nx h;rw[hl.id,pM.id];rcases Nat.lt_or_ge j j' with cR|BP
 .have:=h.id_le (i:=j+1) j' cR (by omega);omega
 .have:=h.id_le (i:=j'+1) j (by omega) (by omega);omega
theorem nH.id_top(h:nH cx K ops rows c):∀i,i<=rows.length->(c i).id<=(c 0).id+(rows.take i).countP (fun r=>bU r.cls):=by
 intro i
 induction i with
 |zero=>intro _;simp
 |succ i ih=>
  intro hi;have:=ih (by omega);obtain⟨r,hr⟩:=gG (rows:=rows) hi;rw[List.take_add_one,hr,List.countP_append];rcases h.step i r hr with⟨hc,⟨_,v,x,_,e⟩|⟨_,e⟩⟩|⟨hc,v,S2,_,e⟩|⟨hc,v,_,e⟩
  .have h1:List.countP (fun r:Row=>bU r.cls) (some r).toList=1:=by simp[hc,bU]
   rw[e,h1];simp only[];omega
  .rw[e];simp only[];omega
  .rw[e];simp only[];omega
  .rw[e];simp only[];omega
theorem Laid.top(h:nH cx K ops rows c){j:Nat}{q:dD}(hl:Laid cx ops rows c j q):(c 0).id<=q.id/\q.id<(c 0).id+rows.countP (fun r=>bU r.cls):=by
 obtain⟨h1,h2,_⟩:=hl.nx h;have h3:=h.id_le (i:=0) j (zze _) (by omega);have h4:=h.id_top (j+1) h2;have h5:(rows.take (j+1)).countP (fun r=>bU r.cls)<=rows.countP (fun r=>bU r.cls):=List.Sublist.countP_le (List.take_sublist _ _);rw[hl.id];omega
theorem nH.waits(h:nH cx K ops rows c)(h0:(c 0).ps=[]):∀i,i<=rows.length->(∀q,q∈(c i).ps↔∃j,j<i/\Laid cx ops rows c j q/\∀(e:Nat)(r:Row),e<i->rows[e]?=some r->bR r.cls=true->bit r.dy j=false) /\
  (c i).ps.Pairwise fun p q=>p.id≠q.id:=by
 intro i
 induction i with
 |zero=>intro _;rw[h0];exact⟨fun q=>⟨fun hq=>(by cases hq),fun⟨j,hj,_⟩=>(by omega)⟩,.nil⟩
 |succ i ih=>
  intro hi;obtain ⟨h1, h2⟩ := ih (by omega);obtain ⟨r, hr⟩ := gG (rows := rows) hi;have same : (c (i + 1)).ps = (c i).ps → r.cls ≠ .vU → (∀ q, ¬ Laid cx ops rows c i q) → (∀ q, q ∈ (c (i + 1)).ps ↔ ∃ j, j < i + 1 ∧ Laid cx ops rows c j q ∧ ∀ (e : Nat) (r : Row), e < i + 1 → rows[e]? = some r → bR r.cls = true → bit r.dy j = false) ∧
    (c (i+1)).ps.Pairwise fun p q=>p.id≠q.id:=by
   intro e hc hno;rw[e];refine⟨fun q=>(h1 q).trans ⟨?_,?_⟩,h2⟩
   .rintro⟨j,hj,hl,hq⟩;refine⟨j,by omega,hl,fun e' r' he ij kK=>?_⟩;by_cases hei:e'=i
    .subst hei;rw[hr]at ij;cases ij;exact absurd (isEff_iff.1 kK) hc
    .exact hq e' r' (by omega) ij kK
   .rintro⟨j,hj,hl,hq⟩;have:j≠i:=fun e=>by subst e;exact hno q hl
    exact⟨j,by omega,hl,fun e' r' he=>hq e' r' (by omega)⟩
  rcases h.step i r hr with⟨hc,⟨hw,v,x,hf,e⟩|⟨hw,e⟩⟩|⟨hc,v,S2,_,e⟩|⟨hc,v,_,e⟩
  .have Dx:Laid cx ops rows c i ⟨r.i,(c i).id,x⟩:=⟨⟨r,v,hr,hc,hw,hf⟩,h.num i r hr,rfl⟩
   have hps:(c (i+1)).ps=⟨r.i,(c i).id,x⟩::(c i).ps:=by rw[e]
   rw[hps];refine⟨fun q=>?_,?_⟩
   .rw[List.mem_cons,h1];constructor
    .rintro (rfl|⟨j,hj,hl,hq⟩)
     .refine⟨i,by omega,Dx,fun e' r' he ij kK=>?_⟩;cases hb:bit r'.dy i with
      |false=>rfl
      |true=>have:=oI (h.lt e' r' ij) hb;omega
     .refine⟨j,by omega,hl,fun e' r' he ij kK=>?_⟩;by_cases hei:e'=i
      .subst hei;rw[hr]at ij;cases ij;rw[hc]at kK;cases kK
      .exact hq e' r' (by omega) ij kK
    .rintro⟨j,hj,hl,hq⟩;by_cases Dy:j=i
     .subst Dy;left;obtain⟨_,_,_,hps',_⟩:=hl.nx h;rw[hps]at hps';exact (List.cons.inj hps').1.symm
     .exact .inr ⟨j,by omega,hl,fun e' r' he=>hq e' r' (by omega)⟩
   .refine List.pairwise_cons.2 ⟨fun q hq=>?_,h2⟩;obtain⟨j,hj,hl,_⟩:=(h1 q).1 hq;exact Dx.apart h hl (by omega)
  .exact same (by rw[e]) (by rw[hc];simp) fun q hl=>by
    obtain⟨⟨r',v,ij,_,EV,_⟩,_⟩:=hl;rw[hr]at ij;cases ij;rw[hw]at EV;cases EV
  .have hps:(c (i+1)).ps=(c i).ps.filter (fun p=>!bit r.dy p.i):=by rw[e]
   rw[hps];refine⟨fun q=>?_,h2.filter _⟩;rw[List.mem_filter,h1];constructor
   .rintro⟨⟨j,hj,hl,hq⟩,hb⟩;refine⟨j,by omega,hl,fun e' r' he ij kK=>?_⟩;by_cases hei:e'=i
    .subst hei;rw[hr]at ij;cases ij;rw[hl.i]at hb;simpa using hb
    .exact hq e' r' (by omega) ij kK
   .rintro⟨j,hj,hl,hq⟩;have Dy:j≠i:=fun e=>by
     subst e;obtain⟨⟨r',v,ij,kK,_⟩,_⟩:=hl;rw[hr]at ij;cases ij;rw[hc]at kK;cases kK
    refine⟨⟨j,by omega,hl,fun e' r' he=>hq e' r' (by omega)⟩,?_⟩;rw[hl.i];have:=hq i r (by omega) hr (by rw[hc];rfl);simpa using this
  .exact same (by rw[e]) (by rcases hc with hc|hc<;>(rw[hc];simp)) fun q hl=>by
    obtain⟨⟨r',v,ij,kK,_⟩,_⟩:=hl;rw[hr]at ij;cases ij;rw[kK]at hc;rcases hc with hc|hc<;>cases hc
end
end Go.Am
