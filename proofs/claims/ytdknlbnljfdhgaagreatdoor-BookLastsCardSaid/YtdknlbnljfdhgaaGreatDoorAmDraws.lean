/-
  The abstract machine: a region that draws its order, whole.
-/
import Derived.Test.YtdknlbnljfdhgaaGreatDoorAmDrawn
open List renaming mem_of_getElem?->zza,take_of_length_le->zzb,countP_cons->zzc,all_eq_true->zzd,countP_nil->zzf,getElem?_eq_none->zzi,getElem?_take->zzl,range->zzp
open Nat renaming le_refl->zze,lt_or_ge->zzj,le_of_lt->zzk,le_add_right->zzm
open Option renaming toList->zzg
open Bool renaming and_eq_true->zzh
open Array renaming getD_eq_getD_getElem?->zzn,getElem?_replicate->zzo
namespace Go.Am
open Go
variable{Λ:LB}
theorem jh{cx:Cx}{ops:List Oper}{F F':Fr}{S:AS}{o:Oper}(h:∀t,t∈iG ops o->F.t.get t=F'.t.get t):gy cx ops F S o=gy cx ops F' S o:=by
 unfold gy;rw[lV h,Dg (vO h)]
theorem CC{cx:Cx}{K:fK}{ops:List Oper}{F F':Fr}{S:AS}{o:Oper}(h:∀t,t∈iG ops o->F.t.get t=F'.t.get t):one cx K ops o F S=one cx K ops o F' S:=by
 unfold one;rw[lV h,Dg (vO h)]
theorem Tc{cx:Cx}{K:fK}{ops:List Oper}{F:Fr}{S:AS}{o:Oper}{v:AV}(hc:ie cx o=.pure\/ie cx o=.read)(h:gy cx ops F S o=some v):one cx K ops o F S=.ok (false,v,S) []:=by
 unfold gy at h;unfold one;cases hw:wanted ops F o with
 |none=>rw[hw]at h;cases h
 |some b=>
  rw[hw]at h;cases b with
  |false=>cases h;rfl
  |true=>
   simp only[]at h⊢;cases ha:bF cx F S o with
   |err n=>rw[ha]at h;cases h
   |round f as S'=>rw[ha]at h;cases h
   |eO u S'=>rw[ha]at h;cases h
   |many l=>rw[ha]at h;cases h
   |enter f as S'=>rw[ha]at h;cases h
   |val u S'=>
    rw[ha]at h;cases h;rw[IJ hc ha]
theorem Ph{cx:Cx}{ops:List Oper}{F:Fr}{S S2:AS}{o:Oper}{v:AV}(hc:ie cx o=.pure)(h:gy cx ops F S o=some v):gy cx ops F S2 o=some v:=by
 unfold gy at h⊢;cases hw:wanted ops F o with
 |none=>rw[hw]at h;cases h
 |some b=>
  rw[hw]at h;cases b with
  |false=>exact h
  |true=>
   simp only[]at h⊢;cases ha:bF cx F S o with
   |err n=>rw[ha]at h;cases h
   |round f as S'=>rw[ha]at h;cases h
   |eO u S'=>rw[ha]at h;cases h
   |many l=>rw[ha]at h;cases h
   |enter f as S'=>rw[ha]at h;cases h
   |val u S'=>
    rw[ha]at h;cases h;have:=IJ (.inl hc) ha;subst this;rw[WK (S2:=S2) hc ha]
theorem uL{ops:Array Oper}{rows:List Row}(hp:Rb ops rows)(hk:jf ops.toList rows=true){i:Nat}{r:Row}(h:rows[i]?=some r):r.eG<2 ^ i:=by
 unfold jf at hk;simp only[zzh,kV,pR,zzd]at hk;have h':=hk.1.1 r (zza h);rw[(hp.row i r h).1]at h';simpa using h'
theorem GU{ops:Array Oper}{rows:List Row}(hp:Rb ops rows)(hk:jf ops.toList rows=true){i j:Nat}{r q:Row}(hr:rows[i]?=some r)(hq:rows[j]?=some q)(he:bY r.cls=true)(he':bY q.cls=true)(sj:i<j):bit q.eG i=true:=by
 have cQ:=uL hp hk hr;unfold jf at hk;simp only[zzh,kV,pR,zzd]at hk;have:=hk.1.2 r (List.mem_filter.2 ⟨zza hr,he⟩) q (List.mem_filter.2 ⟨zza hq,he'⟩);unfold ordered at this;rw[(hp.row i r hr).1,(hp.row j q hq).1]at this;simp only[Bool.or_eq_true,bO,decide_eq_true_eq]at this;rcases this with (h|h)|h
 .omega
 .have:=rJ cQ h;omega
 .exact h
theorem Cw{ops:Array Oper}{rows:List Row}(hp:Rb ops rows)(hk:jf ops.toList rows=true){i j:Nat}{r q:Row}{d:Nat}(hr:rows[i]?=some r)(hq:rows[j]?=some q)(hd:r.o.dst=some d)(j7:d∈iG ops.toList q.o):
  bit q.eG i=true\/(bit r.eG j=true/\fE q.cls=false):=by
 unfold jf at hk;simp only[zzh,kV,pR,zzd]at hk;have:=hk.2 r (zza hr);rw[hd]at this;simp only[zzd,zzh]at this;have:=(this q (zza hq)).1;rw[Y1]at this;have hc:(iG ops.toList q.o).contains d=true:=by simpa using j7
 rw[hc,(hp.row i r hr).1,(hp.row j q hq).1]at this;simpa using this
theorem Sk{cx:Cx}{K:fK}{ops:Array Oper}{lN rows:List Row}{c:Nat->Fq}(M4:Rb ops lN)(hk:jf ops.toList lN=true)(aR:∀(i:Nat)(r:Row),rows[i]?=some r->lN[i]?=some r)
  (hs:∀(i:Nat)(r:Row),rows[i]?=some r->mY cx K ops.toList r (c i) (c (i+1))):qq cx K ops.toList rows c:=by
 have hk0:=hk;unfold jf at hk;simp only[zzh,kV,pR,zzd]at hk;obtain⟨⟨h1,h2⟩,h3⟩:=hk;have num:∀(i:Nat)(r:Row),rows[i]?=some r->r.i=i:=fun i r h=>(M4.row i r (aR i r h)).1;have lt:∀(i:Nat)(r:Row),rows[i]?=some r->r.eG<2 ^ i:=fun i r h=>uL M4 hk0 (aR i r h);refine⟨hs,num,lt,fun i j r q hr hq he he' sj=>GU M4 hk0 (aR i r hr) (aR j q hq) he he' sj,fun i j r q d hr hq hd j7=>Cw M4 hk0 (aR i r hr) (aR j q hq) hd j7,fun i j r q d hr hq hd j7=>?_⟩
 .have:=h3 r (zza (aR i r hr));rw[hd]at this;simp only[zzd,zzh]at this;have:=(this q (zza (aR j q hq))).2;rw[j7,num i r hr,num j q hq]at this;simp only[bO,Bool.or_eq_true,decide_eq_true_eq]at this;rcases this with h|h
  .exact h.symm
  .simp at h
theorem Wg{rows:List Row}{p:Row->Bool}{m:Nat}(h:∀(e:Nat)(r:Row),rows[e]?=some r->bY r.cls=true->p r=true->lO rows e<m):
  ∀k,(rows.take k).countP (fun r=>p r&&bY r.cls)<=m/\(rows.take k).countP (fun r=>p r&&bY r.cls)<=lO rows k:=by
 intro k
 induction k with
 |zero=>simp
 |succ k ih=>
  by_cases hk:k<rows.length
  .obtain⟨r,hr⟩:=jd hk;have h1:=h k r hr;rw[mM hr,List.take_add_one,hr,List.countP_append];cases he:bY r.cls<;>cases hp:p r
   .simp only[zzg,zzc,zzf,he,hp];simp;omega
   .simp only[zzg,zzc,zzf,he,hp];simp;omega
   .simp only[zzg,zzc,zzf,he,hp];simp;omega
   .have:=h1 he hp;simp only[zzg,zzc,zzf,he,hp];simp;omega
  .have e1:lO rows (k+1)=lO rows k:=by
    unfold lO;rw[zzb (by omega),zzb (by omega)]
   have e2:rows.take (k+1)=rows.take k:=by rw[zzb (by omega),zzb (by omega)]
   rw[e1,e2];exact ih
theorem Wh{rows:List Row}{p:Row->Bool}{m:Nat}(h:∀(e:Nat)(r:Row),rows[e]?=some r->bY r.cls=true->lO rows e<m->p r=true):
  ∀k,m<=(rows.take k).countP (fun r=>p r&&bY r.cls)\/lO rows k<=(rows.take k).countP (fun r=>p r&&bY r.cls):=by
 intro k
 induction k with
 |zero=>simp[lO]
 |succ k ih=>
  by_cases hk:k<rows.length
  .obtain⟨r,hr⟩:=jd hk;have h1:=h k r hr;rw[mM hr,List.take_add_one,hr,List.countP_append];cases he:bY r.cls<;>cases hp:p r
   .simp only[zzg,zzc,zzf,he,hp];simp;omega
   .simp only[zzg,zzc,zzf,he,hp];simp;omega
   .have h2:¬lO rows k<m:=fun h2=>by rw[h1 he h2]at hp;cases hp
    simp only[zzg,zzc,zzf,he,hp];simp;omega
   .simp only[zzg,zzc,zzf,he,hp];simp;omega
  .have e1:lO rows (k+1)=lO rows k:=by
    unfold lO;rw[zzb (by omega),zzb (by omega)]
   have e2:rows.take (k+1)=rows.take k:=by rw[zzb (by omega),zzb (by omega)]
   rw[e1,e2];exact ih
section
variable{cx:Cx}{K:fK}{ops:List Oper}{rows:List Row}{c:Nat->Fq}
theorem qq.jcg(h:qq cx K ops rows c)(BK:(c 0).cH=[]){i:Nat}{r:Row}(hr:rows[i]?=some r){v:AV}(hv:gy cx ops (c i).F (c i).S r.o=some v)(hF:(c (i+1)).F=bQ (c i).F r.o.dst v)
  (hw:mr cx ops rows (c rows.length).F (fC rows c) r=true) {L:Nat->Prop} {m:Nat} {Fs:Fr} (ha:Dp rows c L Fs) {S:AS} (hS:(fC rows c)[m]?=some S)
  (M6:∀(i:Nat)(r:Row),rows[i]?=some r->bY r.cls=true->(L i↔lO rows i<m)) (jiP:∀(i:Nat)(r:Row)(j:Nat),rows[i]?=some r->L i->bit r.eG j=true->L j)
  (hn:¬L i) (hb:∀j,bit r.eG j=true->L j) (xv:fE r.cls=true):gy cx ops Fs S r.o=some v:=by
 have hi:=mE hr;have qz:m<(fC rows c).length:=by
  rcases zzj m (fC rows c).length with h1|h1
  .exact h1
  .rw[zzi h1]at hS;cases hS
 have hmM:m<=lO rows rows.length:=by rw[h.zb BK]at qz;omega
 have tk:rows.take rows.length=rows:=List.take_length;have lo1:=(Wg (rows:=rows) (p:=fun e=>bit r.eG e.i) (m:=m) (fun e q hq he hp=>(M6 e q hq he).1 (hb e (by rw[<-h.num e q hq];exact hp))) rows.length).1;have Ep:=Wh (rows:=rows) (p:=fun e=>!bit e.eG r.i) (m:=m) (fun e q hq he hp=>by
  cases hbq:bit q.eG r.i with
  |false=>rfl
  |true=>rw[h.num i r hr]at hbq;exact absurd (jiP e q i hq ((M6 e q hq he).2 hp) hbq) hn) rows.length
 have lo2:=(Wg (rows:=rows) (p:=fun e=>bit r.eG e.i) (m:=lO rows i) (fun e q hq he hp=>(zT hq he).1 (by
  rw[h.num e q hq]at hp;exact rJ (h.lt i r hr) hp)) rows.length).1
 have hi2:=Wh (rows:=rows) (p:=fun e=>!bit e.eG r.i) (m:=lO rows i) (fun e q hq he hp=>by
  cases hbq:bit q.eG r.i with
  |false=>rfl
  |true=>
   rw[h.num i r hr]at hbq;have h1:=rJ (h.lt e q hq) hbq;have h2:=(zT (i:=i) hq he).2 hp;omega) rows.length
 have hmi:lO rows i<=lO rows rows.length:=zS (zzk hi);rw[tk]at lo1 Ep lo2 hi2;unfold mr at hw;simp only[Da,pR,List.countP_filter,cR,cF]at hw;generalize List.countP (fun e:Row=>bit r.eG e.i&&bY e.cls) rows=lo at *;generalize List.countP (fun e:Row=>!bit e.eG r.i&&bY e.cls) rows=hh at *;have at1:∀k S',lo<=k->k<=hh->(fC rows c)[k]?=some S'->(((fC rows c).drop lo).take (Nat.succ (Nat.sub hh lo)))[k-lo]?=some S':=by
  intro k S' h1 h2 h3;rw[zzl,if_pos (by show k-lo<hh-lo+1;omega),List.getElem?_drop,Nat.add_sub_cancel' h1];exact h3
 have m1:=at1 m S lo1 (by omega) hS;have m2:=at1 (lO rows i) (c i).S lo2 (by omega) (h.snap BK (zzk hi));generalize ((fC rows c).drop lo).take (Nat.succ (Nat.sub hh lo))=may at *;have one':may.length=1->gy cx ops Fs S r.o=some v:=by
  intro hl;have e:∀(k:Nat)(S':AS),may[k]?=some S'->k=0:=fun k S' hk=>by
   rcases zzj k may.length with h1|h1
   .omega
   .rw[zzi h1]at hk;cases hk
  rw[e _ _ m1]at m1;rw[e _ _ m2,m1]at m2;cases m2;rw[jh (fun t ht=>h.now ha hr hb (.inl xv) ht)];exact hv
 have many:(match r.o.dst with
  |some d=>cond (Nat.blt d (c rows.length).F.n) (match (c rows.length).F.t.get d with
   |some v=>js (fun S=>match gy cx ops (c rows.length).F S r.o with
    |some u=>fL 8 v u
    |none=>false) may
   |none=>false) false
  |none=>false)=true->gy cx ops Fs S r.o=some v:=by
  intro hw;cases hd:r.o.dst with
  |none=>rw[hd]at hw;cases hw
  |some d=>
   rw[hd]at hw;simp only[]at hw;cases cQ:Nat.blt d (c rows.length).F.n with
   |false=>rw[cQ]at hw;cases hw
   |true=>
    rw[cQ]at hw;simp only[cond_true]at hw;have oJ:(c rows.length).F.t.get d=some v:=by
     have h1:(c rows.length).F.t.get d=(c (i+1)).F.t.get d:=h.ca _ hi (zze _) fun k q hk _ hq j7=>by
      have:=h.single i k r q d hr hq hd j7;omega
     rw[h1,hF,hd,ot,if_pos];rw[h.n i (zzk hi),<-h.n rows.length (zze _)];simpa using cQ
    rw[oJ]at hw;simp only[kV,zzd]at hw;have:=hw S (zza m1);rw[jh (F':=Fs) (fun t ht=>by
     rw[h.now h.all hr (fun _ _=>trivial) (.inl xv) ht,h.now ha hr hb (.inl xv) ht])]at this
    cases hu:gy cx ops Fs S r.o with
    |none=>rw[hu]at this;cases this
    |some u=>rw[hu]at this;rw[OO 8 v u this]
 cases Zq:may with
 |nil=>rw[Zq]at m1;simp at m1
 |cons x xs=>
  cases xs with
  |nil=>exact one' (by rw[Zq];rfl)
  |cons y ys=>
   rw[Zq]at hw;exact many (by rw[Zq];exact hw)
end
theorem jfa{α:Type}{p p':α->Bool}:∀(l:List α)(x:α),(∀y,p' y=true->p y=true)->x∈l->p x=true->p' x=false->l.countP p'<l.countP p:=by
 intro l
 induction l with
 |nil=>intro x _ hx;cases hx
 |cons z l ih=>
  intro x h hx h1 h2;have le:l.countP p'<=l.countP p:=List.countP_mono_left fun y _=>h y;rw[zzc,zzc];cases hx with
  |head=>rw[h1,h2];simp;omega
  |tail _ hx=>
   have:=ih x h hx h1 h2;have hz:=h z;cases e1:p' z<;>cases e2:p z<;>simp<;>first|omega|(rw[e1,e2]at hz;simp at hz)
theorem SW{P:Program}{cx:Cx}(aF:dQ Λ P cx)(hm:P.follows .mixedOrders=true){ro:Option Nat}{K:fK}(hK:Bf Λ P K){ops:Array Oper}{rid:Nat}{Q:Exit->Act->World->Prop}{ρ:aY}{F:Fr}{S:AS}{w:World}{a:Act}
  (hR:R Λ ρ S w) (hF:eY ρ F a) {lN rows:List Row} {c:Nat->Fq} (jQ:Rb ops lN) (rv:∀(i:Nat)(r:Row),lN[i]?=some r->r.cls=.pure\/r.cls=.read->ie cx r.o=r.cls)
  (hlt0:∀(i:Nat)(r:Row),lN[i]?=some r->r.eG<2 ^ i) (BN:∀(i:Nat)(r:Row),i<rows.length->lN[i]?=some r->rows[i]?=some r) (hle:rows.length<=lN.length)
  (jeg:rows.countP (fun r=>cl r.cls)<=lN.countP (fun r=>cl r.cls)) (h:qq cx K ops.toList rows c) (pP:c 0=⟨F,⟨S.h,Nat.add S.nx (fZ (fun r=>cl r.cls) lN)⟩,[],[],S.nx⟩)
  (wA:∀q,q∈rows->cond (fE q.cls) (mr cx ops.toList rows (c rows.length).F (fC rows c) q) true=true)
  (jek:∀(j:Nat)(r:Row),rows.length<j->lN[j]?=some r->bit r.eG rows.length=true)
  (Va:rows.length=lN.length->∀(L:Nat->Prop)(m:Nat)(Fs:Fr)(ρ':aY)(S':AS)(w':World)(a':Act),Inv Λ cx ops.toList rows c ρ S w L m Fs ρ' S' w' a'->(∀i,i<rows.length->L i)->Q .normal a' w')
  (jib:∀r,lN[rows.length]?=some r->∀(L:Nat->Prop)(m:Nat)(Fs:Fr)(ρ':aY)(S':AS)(w':World)(a':Act)(nx:Act->World->Prop),Inv Λ cx ops.toList rows c ρ S w L m Fs ρ' S' w' a'->(∀j,bit r.eG j=true->L j)->wpOpIn (GF ro) 0 P ops Q rows.length nx a' w') :
  (Code.region rid ops true).wpIn (GF ro) 0 P Q a w:=by
 have BK:(c 0).cH=[]:=by rw[pP]
 have M4:(c 0).ps=[]:=by rw[pP]
 have cD:(c 0).id=S.nx:=by rw[pP]
 have hlen:=jQ.len;have main:∀(fuel:Nat)(listed:Array Bool)(m:Nat)(Fs:Fr)(ρ':aY)(S':AS)(w':World)(a':Act),listed.size=ops.size->(∀j,rows.length<=j->listed.getD j false=false) ->
   Inv Λ cx ops.toList rows c ρ S w (fun j=>listed.getD j false=true) m Fs ρ' S' w' a'->(zzp ops.size).countP (fun i=>!listed.getD i false)<=fuel ->
   wpAnyIn (GF ro) 0 P .any ops Q fuel listed a' w':=by
  have done:∀(listed:Array Bool)(m:Nat)(Fs:Fr)(ρ':aY)(S':AS)(w':World)(a':Act),listed.size=ops.size->(∀j,rows.length<=j->listed.getD j false=false) ->
    Inv Λ cx ops.toList rows c ρ S w (fun j=>listed.getD j false=true) m Fs ρ' S' w' a'->Region.ready .any ops listed=[]->Q .normal a' w':=by
   intro listed m Fs ρ' S' w' a' nf oK hv jdQ;have jii:∀i,i<ops.size->(∀k,k<i->listed.getD k false=true)->listed.getD i false=true:=by
    intro i hi ih;cases hli:listed.getD i false with
    |true=>rfl
    |false=>
     exfalso;obtain⟨r,hr⟩:=jd (rows:=lN) (i:=i) (by omega);have Rs:=(jQ.row i r hr).2;have:i∈Region.ready .any ops listed:=by
      rw[mem_ready];refine⟨?_,r.o,Rs,fun e he hb=>?_⟩
      .have:i<listed.size:=by omega
       simpa[Array.getD,this]using hli
      .have hbit:=jQ.edge i r e hr (by simpa using he) hb;have cQ:=rJ (hlt0 i r hr) hbit;exact ih e.on cQ
     rw[jdQ]at this;cases this
   have lr:∀i,i<rows.length->listed.getD i false=true:=by
    intro i
    induction i using Nat.strongRecOn with
    |_ i ih=>exact fun hi=>jii i (by omega) fun k hk=>ih k hk (by omega)
   rcases zzj rows.length ops.size with cQ|CU
   .have h1:=jii rows.length cQ lr;rw[oK _ (zze _)]at h1;cases h1
   .exact Va (by omega) _ m Fs ρ' S' w' a' hv lr
  intro fuel
  induction fuel with
  |zero=>
   intro listed m Fs ρ' S' w' a' nf oK hv jiI;have hr:Region.ready .any ops listed=[]:=by
    cases xv:Region.ready .any ops listed with
    |nil=>rfl
    |cons i l=>
     exfalso;have hi:i∈Region.ready .any ops listed:=by rw[xv];simp
     obtain⟨h1,o,ho,_⟩:=mem_ready.1 hi;have cQ:i<ops.size:=(Array.getElem?_eq_some_iff.1 ho).1;have h2:listed.getD i false=false:=by
      have:i<listed.size:=by omega
      simpa[Array.getD,this]using h1
     have:0<(zzp ops.size).countP (fun i=>!listed.getD i false):=List.countP_pos_iff.2 ⟨i,by simpa using cQ,by rw[h2];rfl⟩;omega
   exact⟨hr,done listed m Fs ρ' S' w' a' nf oK hv hr⟩
  |succ fuel ih=>
   intro listed m Fs ρ' S' w' a' nf oK hv jiI;refine⟨fun hr=>done listed m Fs ρ' S' w' a' nf oK hv hr,fun i hi=>?_⟩;obtain⟨h1,o,ho,jed⟩:=mem_ready.1 hi;have cQ:i<ops.size:=(Array.getElem?_eq_some_iff.1 ho).1;have hli:listed.getD i false=false:=by
    have:i<listed.size:=by omega
    simpa[Array.getD,this]using h1
   have hn:¬listed.getD i false=true:=by rw[hli];simp
   obtain⟨r,BL⟩:=jd (rows:=lN) (i:=i) (by omega);have Rs:=(jQ.row i r BL).2;rw[ho]at Rs;obtain rfl:o=r.o:=Option.some.inj Rs;have hb:∀j,bit r.eG j=true->listed.getD j false=true:=by
    intro j hj;obtain⟨e,he,wD,h2⟩:=jQ.down i r j BL hj;have hL:=jed e (by simpa using he) wD;rcases h2 with rfl|⟨r',fi,hj'⟩
    .exact hL
    .have hel:e.on<rows.length:=by
      rcases zzj e.on rows.length with h1|h1
      .exact h1
      .rw[oK _ h1]at hL;cases hL
     exact hv.down e.on r' j (BN _ _ hel fi) hL hj'
   rcases Nat.lt_trichotomy i rows.length with KV|rfl|KV
   rotate_left
   .exact jib r BL _ m Fs ρ' S' w' a' _ hv hb
   .have h1:=hb _ (jek i r KV BL);rw[oK _ (zze _)]at h1;cases h1
   have hr:=BN i r KV BL;have hL':∀j,((listed.setIfInBounds i true).getD j false=true)↔(listed.getD j false=true)\/j=i:=by
    intro j;by_cases wB:i=j
    .subst wB;have:i<listed.size:=by omega
     simp[this]
    .rw[getD_set_ne false wB];simp[Ne.symm wB]
   have jeh:(zzp ops.size).countP (fun j=>!(listed.setIfInBounds i true).getD j false)<=fuel:=by
    have:=jfa (p:=fun j=>!listed.getD j false) (p':=fun j=>!(listed.setIfInBounds i true).getD j false) (zzp ops.size) i (fun y hy=>by
     cases hy0:listed.getD y false with
     |false=>rfl
     |true=>rw[(hL' y).2 (.inl hy0)]at hy;cases hy) (by simpa using cQ) (by rw[hli];rfl) (by rw[(hL' i).2 (.inr rfl)];rfl)
    omega
   have jdM:(listed.setIfInBounds i true).size=ops.size:=by simpa using nf
   have Vf:∀j,rows.length<=j->(listed.setIfInBounds i true).getD j false=false:=fun j hj=>by
    cases hq:(listed.setIfInBounds i true).getD j false with
    |false=>rfl
    |true=>
     rcases (hL' j).1 hq with h1|h1
     .rw[oK j hj]at h1;cases h1
     .omega
   have DD:=fun t ht=>h.now hv.ag hr hb (.inr fun k q hk Zz hLk=>hn (hv.down k q i hk hLk Zz)) (t:=t) ht;have value:∀v,bY r.cls=false->(∀q,¬Laid cx ops.toList rows c i q)->(c (i+1)).F=bQ (c i).F r.o.dst v->one cx K ops.toList r.o Fs S'=.ok (false,v,S') [] ->
     wpOpIn (GF ro) 0 P ops Q i (wpAnyIn (GF ro) 0 P .any ops Q fuel (listed.setIfInBounds i true)) a' w':=by
    intro v he lR hFv u4;refine DQ aF hK hv.R hv.F ho ?_;rw[u4];refine⟨fun ρ2 e w2 hx hR2 xZ=>?_,fun y hy=>by cases hy⟩;obtain⟨x,rfl,hx2⟩:=hx.val;exact ih _ m _ ρ2 S' w2 _ jdM Vf (hv.value h hr hn hb hL' he lR hFv hx2 hR2 xZ) jeh
   rcases h.step i r hr with⟨hc,⟨hw,v,x,hf,e⟩|⟨hw,e⟩⟩|⟨hc,v,S2,u4,e⟩|⟨hc,v,u4,e⟩
   ·-- a block is laid
    have Ah:Laid cx ops.toList rows c i ⟨r.i,(c i).id,x⟩:=⟨⟨r,v,hr,hc,hw,hf⟩,h.num i r hr,rfl⟩
    have hFv:(c (i+1)).F=bQ (c i).F r.o.dst v:=by rw[e]
    have Jd:wanted ops.toList Fs r.o=some true:=by rw[lV DD];exact hw
    have Es:aD cx Fs (c i).id r.o.op=some (v,x):=by rw[jU (vO DD)];exact hf
    obtain⟨s,jl,y,o',w2,m7,hg,sO,BI⟩:=CX (P:=P) aF hv.F Es w';unfold wpOpIn;simp only[ho];rw[nX hv.F Jd];simp only[if_true];refine⟨fun f _=>Dn ro f,?_⟩;have BO:∀c,r.o.op≠.defer c:=by
     intro c e;rw[e]at Es;cases Es
    rw[Oper.semAt_eq _ _ _ BO];have jie:(execOp a'.eval r.o).run P w'=.ok (.value y) w2:=by
     rw[jl];simp only[Sem.run_bind,m7,Result.andThen_ok,Sem.run_pure]
    rw[jie];show wpAnyIn (GF ro) 0 P .any ops Q fuel (listed.setIfInBounds i true) (a'.put r.o.dst y) w2;obtain⟨pl,kS,UJ⟩:∃pl:Pl,Dm pl.b pl x o'/\pl.b=w'.heap.size:=by
     cases x with
     |row cells low top frz ty=>
      obtain⟨rfl,rfl,rfl,C,rfl,r2,r3⟩:=sO;exact⟨⟨w'.heap.size,0,cells.length,C.size,by omega⟩,⟨rfl,rfl,rfl,rfl⟩,rfl⟩
     |map es clock=>
      obtain⟨ES,rfl,r2⟩:=sO;exact⟨⟨w'.heap.size,0,0,0,by omega⟩,rfl,rfl⟩
     |j6 y=>exact⟨⟨w'.heap.size,0,0,0,by omega⟩,⟨rfl,rfl⟩,rfl⟩
    exact ih _ m _ _ S' w2 _ jdM Vf (hv.lay h hr hn hb hL' (by rw[hc];rfl) Ah (by rw[<-cD];exact (Ah.top h).1) hFv hg sO BI kS UJ) jeh
   .refine value .undef (by rw[hc];rfl) (fun q hl=>?_) (by rw[e]) ?_
    .obtain⟨⟨r',v,fi,_,Jd,_⟩,_⟩:=hl;rw[hr]at fi;cases fi;rw[hw]at Jd;cases Jd
    .unfold one;rw[lV DD,hw]
   ·-- it jlp
    have he:bY r.cls=true:=by rw[hc];rfl
    have iR:=hv.level h hr hn hb he;have hS:S'=(c i).S:=by
     have h2:=hv.st;rw[<-iR,h.snap BK (zzk (mE hr))]at h2;exact (Option.some.inj h2).symm
    obtain⟨c1,c2,c3,c4⟩:=hv.bE h M4 cD (zzk (mE hr)) iR (fun p=>bit r.eG p.i) (fun j q e hp _=>by subst e;exact hb _ hp);refine DQ aF hK c1 hv.F ho ?_;rw[CC DD,hS,u4];refine⟨fun ρ2 ed w2 hx hR2 xZ=>?_,fun y hy=>by cases hy⟩;obtain⟨x,rfl,hx2⟩:=hx.val;have dD:S2=(c (i+1)).S:=by rw[e]
    simp only[dD]at hR2 xZ;rw[<-hS]at xZ;exact ih _ (m+1) _ ρ2 _ w2 _ jdM Vf (hv.act h BK M4 cD hr hn hb hL' he (by rw[e]) hx2 hR2 xZ) jeh
   ·-- it only jmB
    have ry:=rv i r BL hc;have jF:ie cx r.o=.pure\/ie cx r.o=.read:=by rw[ry];exact hc
    have hFv:(c (i+1)).F=bQ (c i).F r.o.dst v:=by rw[e]
    have hov:gy cx ops.toList Fs S' r.o=some v:=by
     rcases hc with hc|hc
     .rw[jh DD];exact Ph (ry.trans hc) u4
     .have oI:=wA r (zza hr);rw[hc]at oI;exact h.jcg BK hr u4 hFv oI hv.ag hv.st hv.lv hv.down hn hb (by rw[hc];rfl)
    refine value v (by rcases hc with hc|hc<;>rw[hc]<;>rfl) (fun q hl=>?_) hFv (Tc jF hov);obtain⟨⟨r',v,fi,Vg,_⟩,_⟩:=hl;rw[hr]at fi;cases fi;rw[Vg]at hc;rcases hc with hc|hc<;>cases hc
 refine wpIn_region_any hm ?_;refine main ops.size _ 0 F ρ (c 0).S _ a (by simp) (fun j _=>by simp only[zzn,zzo];split<;>simp) ?_ (Nat.le_trans (List.countP_le_length) (by simp));have jiD:lO rows 0=0:=rfl;have hR0:R Λ ρ (c 0).S {w with drawn:=w.drawn+1}:=by
  rw[pP];have h2:=hR.drawn (w.drawn+1);exact⟨h2.jE,fun i o ho=>Nat.lt_of_lt_of_le (h2.vm i o ho) (zzm _ _),fun i g hi=>h2.fresh i g (Nat.le_trans (zzm _ _) hi),h2.sJ,h2.lt,h2.apart,h2.start,h2.base⟩
 have empty:∀j,¬(Array.replicate ops.size false).getD j false=true:=by
  intro j;simp only[zzn,zzo];split<;>simp
 have KU:Kp ρ S w ρ (c 0).S {w with drawn:=w.drawn+1}:=by
  rw[pP];exact⟨Ext.refl _,rfl,rfl,rfl,zze _,fun _ _ _=>rfl,fun _ h=>.inl h,fun _ h=>.inl h,zzm _ _,fun _ _ _ h=>⟨rfl,h⟩⟩
 refine⟨hR.start,by rw[<-jiD];exact h.snap BK (Nat.zero_le _),fun i r hr he=>⟨fun h1=>absurd h1 (empty i),fun h1=>by omega⟩,fun i r j _ h1=>absurd h1 (empty i),hR0,hF,⟨by rw[pP],by rw[pP],fun t i _ h1=>absurd h1 (empty i),fun t _=>by rw[pP]⟩,KU,fun j q hl _=>?_,fun j j' q q' x y _ hl _ _ _ h1 _=>?_⟩
 .have ht:=hl.top h;rw[cD]at ht;have UR:S.h.get q.id=none:=by
   cases hg:S.h.get q.id with
   |none=>rfl
   |some o=>have:=hR.vm _ _ hg;omega
  refine⟨by rw[pP];exact UR,?_,fun h1=>absurd h1 (empty j),fun _ g=>hR.fresh _ g ht.1⟩;rw[pP,Da];exact Nat.lt_of_lt_of_le ht.2 (Nat.add_le_add_left jeg _)
 .have ht:=hl.top h;rw[cD]at ht;rw[hR.fresh _ 0 ht.1]at h1;cases h1
theorem uz(F:Fr)(t:Nat):∀(rows:List Row),(Jy rows F).n=F.n/\(Jy rows F).ds=F.ds/\((Jy rows F).t.get t=some .top\/((Jy rows F).t.get t=F.t.get t/\∀r,r∈rows->r.o.dst=some t->¬t<F.n))
 |[]=>⟨rfl,rfl,.inr ⟨rfl,fun r hr=>by cases hr⟩⟩
 |r::rows=>by
  obtain⟨h1,h2,h3⟩:=uz F t rows;have e:Jy (r::rows) F=bQ (Jy rows F) r.o.dst .top:=rfl;rw[e,J6,DK];refine⟨h1,h2,?_⟩;by_cases hd:r.o.dst=some t
  .rw[hd,ot,h1];by_cases ht:t<F.n
   .rw[if_pos ht];exact .inl rfl
   .rw[if_neg ht];rcases h3 with h3|⟨h3,h4⟩
    .exact .inl h3
    .refine .inr ⟨h3,fun q hq BM=>?_⟩;rcases List.mem_cons.1 hq with rfl|hq
     .exact ht
     .exact h4 q hq BM
  .rw[uK hd];rcases h3 with h3|⟨h3,h4⟩
   .exact .inl h3
   .refine .inr ⟨h3,fun q hq BM=>?_⟩;rcases List.mem_cons.1 hq with rfl|hq
    .exact absurd BM hd
    .exact h4 q hq BM
theorem H6{P:Program}{cx:Cx}(aF:dQ Λ P cx)(hm:P.follows .mixedOrders=true):N6 Λ P cx:=by
 intro ro K hK ops rid Q ρ F S w a hR hF qv;unfold fM at qv;obtain⟨jQ,rv⟩:=vS cx ops;generalize settle (dW cx ops.toList)=rows at jQ rv qv;cases UK:jf ops.toList rows with
 |false=>simp only[UK,cond_false]at qv;exact qv.elim
 |true=>
 simp only[UK,cond_true]at qv;obtain⟨c,pP,hend⟩:=trace cx K ops.toList rows ⟨F,⟨S.h,Nat.add S.nx (fZ (fun r=>cl r.cls) rows)⟩,[],[],S.nx⟩ _ (az.all_bind qv);have hlen:=jQ.len;have BK:(c 0).cH=[]:=by rw[pP]
 have M4:(c 0).ps=[]:=by rw[pP]
 have cD:(c 0).id=S.nx:=by rw[pP]
 rcases hend with⟨zZ,oJ⟩|⟨n,r,v,S2,hrn,Fy,zZ,u4,jdW,oJ⟩
 .have h:=Sk jQ UK (fun i r hr=>hr) zZ;unfold sC at oJ;simp only[]at oJ;have jdP:zn ((c rows.length).S::(c rows.length).cH)=fC rows c:=yi _;rw[jdP]at oJ;cases wA:qB cx ops.toList rows (c rows.length).F (fC rows c)with
  |false=>rw[wA]at oJ;exact oJ.elim
  |true=>
  rw[wA]at oJ;have hQ:=oJ.1;simp only[]at hQ;unfold qB at wA;rw[kV,zzd]at wA;refine SW aF hm hK hR hF jQ rv (fun i r hr=>uL jQ UK hr) (fun i r _ hr=>hr) (zze _) (zze _) h pP wA (fun j r hj hr=>absurd (mE hr) (by omega)) ?_ (fun r hr=>absurd (mE hr) (by omega));intro _ L m Fs ρ' S' w' a' hv lr;have hmM:m=lO rows rows.length:=by
   have h1:m<(fC rows c).length:=by
    rcases zzj m (fC rows c).length with h1|h1
    .exact h1
    .have:=hv.st;rw[zzi h1]at this;cases this
   rw[h.zb BK]at h1;rcases zU (rows:=rows) rows.length with h2|⟨e,q,h2,h3,h4,h5⟩
   .omega
   .have:=(hv.lv e q h3 h4).1 (lr e h2);omega
  have hS:S'=(c rows.length).S:=by
   have h1:=hv.st;rw[hmM,h.snap BK (zze _)]at h1;exact (Option.some.inj h1).symm
  obtain⟨c1,c2,_⟩:=hv.bE h M4 cD (zze _) hmM.symm (fun _=>true) (fun j q _ _ hl=>lr j (hl.nx h).2.1);rw[hS]at c1 c2;refine hQ ρ' .normal a' w' rfl c1 ⟨fun t=>?_,?_,by rw[h.ds _ (zze _),<-hv.ag.ds];exact hv.F.defers⟩ c2
  .have e:(c rows.length).F.t.get t=Fs.t.get t:=by
    by_cases hw:∃i,xc rows t i
    .obtain⟨i,hi⟩:=hw;obtain⟨q,hq,_⟩:=id hi;exact (hv.ag.yes t i hi (lr i (mE hq))).symm
    .rw[hv.ag.no t fun i hi _=>hw ⟨i,hi⟩];exact h.all.no t fun i hi _=>hw ⟨i,hi⟩
   rw[e];exact hv.F.slot t
  .rw[hv.F.size,hv.ag.n,h.n _ (zze _)]
 .have El:=mE hrn;have hri:=(jQ.row n r hrn).1;obtain⟨pre,BN⟩:∃pre,pre=rows.take n:=⟨_,rfl⟩
  have kS:pre.length=n:=by rw[BN,List.length_take];omega
  have aR:∀(i:Nat)(q:Row),pre[i]?=some q->rows[i]?=some q/\i<n:=fun i q hq=>by
   rw[BN,zzl]at hq;split at hq
   .rename_i hi;exact⟨hq,hi⟩
   .cases hq
  have hinv:∀(i:Nat)(q:Row),i<n->rows[i]?=some q->pre[i]?=some q:=fun i q hi hq=>by
   rw[BN,zzl,if_pos hi];exact hq
  have h:=Sk (rows:=pre) jQ UK (fun i q hq=>(aR i q hq).1) (fun i q hq=>zZ i q (aR i q hq).2 (aR i q hq).1);unfold sC at oJ;simp only[hri,cR,<-BN]at oJ;have jdP:zn ((c n).S::(c n).cH)=fC pre c:=by rw[<-kS];exact yi _
  rw[jdP]at oJ;cases wA:qB cx ops.toList pre (c n).F (fC pre c)with
  |false=>rw[wA]at oJ;exact oJ.elim
  |true=>
  rw[wA]at oJ;have hQ:=oJ.1;simp only[]at hQ;unfold qB at wA;rw[kV,zzd]at wA;refine SW (rows:=pre) aF hm hK hR hF jQ rv (fun i r hr=>uL jQ UK hr) (fun i q hi hq=>hinv i q (by omega) hq) (by omega) ?_ h pP (by rw[kS];exact wA)
   (fun j q hj hq=>by rw[kS]at hj⊢;rw[<-hri];exact jdW j q hj hq) (fun e=>by omega) ?_
  .rw[BN];exact (List.take_sublist n rows).countP_le
  intro q hq L m Fs ρ' S' w' a' nx hv hb;rw[kS,hrn]at hq;cases hq;have hrn':=hrn;have heff:∀(e:Nat)(q:Row),pre[e]?=some q->bY q.cls=true->L e:=fun e q he hq=>hb e (by
   obtain⟨h1,h2⟩:=aR e q he;exact GU jQ UK h1 hrn hq (by rw[Fy];rfl) h2)
  have hmM:m=lO pre pre.length:=by
   have h1:m<(fC pre c).length:=by
    rcases zzj m (fC pre c).length with h1|h1
    .exact h1
    .have:=hv.st;rw[zzi h1]at this;cases this
   rw[h.zb BK]at h1;rcases zU (rows:=pre) pre.length with h2|⟨e,q,h2,h3,h4,h5⟩
   .omega
   .have:=(hv.lv e q h3 h4).1 (heff e q h3 h4);omega
  have hS:S'=(c n).S:=by
   have h1:=hv.st;rw[hmM,h.snap BK (zze _),kS]at h1;exact (Option.some.inj h1).symm
  obtain⟨c1,c2,c3,c4⟩:=hv.bE h M4 cD (zze _) hmM.symm (fun p=>bit r.eG p.i) (fun j q e hp _=>by subst e;exact hb _ hp);rw[kS]at c1 c2⊢;have DD:∀t,t∈iG ops.toList r.o->Fs.t.get t=(c n).F.t.get t:=by
   intro t ht;by_cases hw:∃i,xc pre t i
   .obtain⟨i,q,hq,hd⟩:=hw;obtain⟨h1,h2⟩:=aR i q hq;have hbi:bit r.eG i=true:=by
     rcases Cw jQ UK h1 hrn hd ht with sU|⟨sU,_⟩
     .exact sU
     .have:=rJ (uL jQ UK h1) sU;omega
    have:=hv.ag.yes t i ⟨q,hq,hd⟩ (hb i hbi)
    rwa [kS]at this
   .rw[hv.ag.no t fun i hi _=>hw ⟨i,hi⟩];have:=h.all.no t fun i hi _=>hw ⟨i,hi⟩;rw[kS]at this;exact this.symm
  refine DQ aF hK c1 hv.F (jQ.row n r hrn).2 ?_;rw[CC DD,hS,u4];refine⟨fun ρ2 ed w2 hx hR2 xZ=>?_,fun y hy=>by cases hy⟩;obtain⟨x,rfl,hx2⟩:=hx.eO;rw[hS]at c2;refine hQ ρ2 _ a' w2 ⟨x,rfl,hx2⟩ hR2 ⟨fun t=>?_,?_,?_⟩ (c2.trans xZ)
  .obtain⟨e1,e2,e3⟩:=uz (c n).F t rows;rcases e3 with e3|⟨e3,e4⟩
   .rw[e3];simp only[ai]
   .rw[e3];have lR:(c n).F.t.get t=Fs.t.get t:=by
     by_cases hw:∃i,xc pre t i
     .obtain⟨i,q,hq,hd⟩:=hw;have hnt:¬t<(c n).F.n:=e4 q (zza (aR i q hq).1) hd;have a1:∀k,k<=n->(c k).F.t.get t=(c 0).F.t.get t:=by
       intro k hk
       induction k with
       |zero=>rfl
       |succ k ih=>
        obtain⟨q',hq'⟩:=jd (rows:=pre) (i:=k) (by omega);obtain⟨u,hu⟩:=eK (h.step k q' hq');rw[hu];by_cases j7:q'.o.dst=some t
        .rw[j7,ot,if_neg (by rw[h.n k (by omega),<-h.n n (by omega)];exact hnt)];exact ih (by omega)
        .rw[uK j7];exact ih (by omega)
      by_cases hLi:L i
      .have:=hv.ag.yes t i ⟨q,hq,hd⟩ hLi;rw[kS]at this;exact this.symm
      .rw[hv.ag.no t fun k hk hLk=>by
        obtain⟨q',hq',j7⟩:=hk;have:=h.single i k q q' t hq hq' hd j7;subst this;exact hLi hLk]
       exact a1 n (zze _)
     .rw[hv.ag.no t fun i hi _=>hw ⟨i,hi⟩];have:=h.all.no t fun i hi _=>hw ⟨i,hi⟩;rw[kS]at this;exact this
    rw[lR];exact (hv.F.mono xZ.ext).slot t
  .obtain⟨e1,e2,e3⟩:=uz (c n).F 0 rows;rw[e1,hv.F.size,hv.ag.n,h.n n (by omega)]
  .obtain⟨e1,e2,e3⟩:=uz (c n).F 0 rows;rw[e2,h.ds n (by omega),<-hv.ag.ds];exact (hv.F.mono xZ.ext).defers
end Go.Am
