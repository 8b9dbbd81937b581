/-
  The abstract machine: a region that draws its order, whole.
-/
import Derived.Test.YthklfandhmkpiaaGreatDoorAmDrawn
open List renaming mem_of_getElem?->zza,take_of_length_le->zzb,countP_cons->zzc,all_eq_true->zzd,countP_nil->zzf,getElem?_eq_none->zzi,getElem?_take->zzl,range->zzp
open Nat renaming le_refl->zze,lt_or_ge->zzj,le_of_lt->zzk,le_add_right->zzm
open Option renaming toList->zzg
open Bool renaming and_eq_true->zzh
open Array renaming getD_eq_getD_getElem?->zzn,getElem?_replicate->zzo
namespace Go.Am
open Go
variable{Λ:LB}
theorem gI{cx:Cx}{ops:List Oper}{F F':Fr}{S:AS}{o:Oper}(h:∀t,t∈gh ops o->F.t.get t=F'.t.get t):fa cx ops F S o=fa cx ops F' S o:=by
 unfold fa;rw[jH h,zF (rQ h)]
theorem yJ{cx:Cx}{K:bO}{ops:List Oper}{F F':Fr}{S:AS}{o:Oper}(h:∀t,t∈gh ops o->F.t.get t=F'.t.get t):one cx K ops o F S=one cx K ops o F' S:=by
 unfold one;rw[jH h,zF (rQ h)]
theorem oneV_one{cx:Cx}{K:bO}{ops:List Oper}{F:Fr}{S:AS}{o:Oper}{v:AV}(hc:fN cx o=.pure\/fN cx o=.read)(h:fa cx ops F S o=some v):one cx K ops o F S=.ok (false,v,S) []:=by
 unfold fa at h;unfold one;cases hw:wanted ops F o with
 |none=>rw[hw]at h;cases h
 |some b=>
  rw[hw]at h;cases b with
  |false=>cases h;rfl
  |true=>
   simp only[]at h⊢;cases ha:bE cx F S o with
   |err n=>rw[ha]at h;cases h
   |round f as S'=>rw[ha]at h;cases h
   |eQ u S'=>rw[ha]at h;cases h
   |many l=>rw[ha]at h;cases h
   |enter f as S'=>rw[ha]at h;cases h
   |val u S'=>
    rw[ha]at h;cases h;rw[Ey hc ha]
theorem oneV_pure{cx:Cx}{ops:List Oper}{F:Fr}{S S2:AS}{o:Oper}{v:AV}(hc:fN cx o=.pure)(h:fa cx ops F S o=some v):fa cx ops F S2 o=some v:=by
 unfold fa at h⊢;cases hw:wanted ops F o with
 |none=>rw[hw]at h;cases h
 |some b=>
  rw[hw]at h;cases b with
  |false=>exact h
  |true=>
   simp only[]at h⊢;cases ha:bE cx F S o with
   |err n=>rw[ha]at h;cases h
   |round f as S'=>rw[ha]at h;cases h
   |eQ u S'=>rw[ha]at h;cases h
   |many l=>rw[ha]at h;cases h
   |enter f as S'=>rw[ha]at h;cases h
   |val u S'=>
    rw[ha]at h;cases h;have:=Ey (.inl hc) ha;subst this;rw[aop_pure (S2:=S2) hc ha]
theorem qR{ops:Array Oper}{rows:List Row}(hp:Plan ops rows)(hk:gp ops.toList rows=true){i:Nat}{r:Row}(h:rows[i]?=some r):r.dy<2 ^ i:=by
 unfold gp at hk;simp only[zzh,iU,nj,zzd]at hk;have h':=hk.1.1 r (zza h);rw[(hp.row i r h).1]at h';simpa using h'
theorem CL{ops:Array Oper}{rows:List Row}(hp:Plan ops rows)(hk:gp ops.toList rows=true){i j:Nat}{r q:Row}(hr:rows[i]?=some r)(hq:rows[j]?=some q)(he:bR r.cls=true)(he':bR q.cls=true)(sx:i<j):bit q.dy i=true:=by
 have cR:=qR hp hk hr;unfold gp at hk;simp only[zzh,iU,nj,zzd]at hk;have:=hk.1.2 r (List.mem_filter.2 ⟨zza hr,he⟩) q (List.mem_filter.2 ⟨zza hq,he'⟩);unfold ordered at this;rw[(hp.row i r hr).1,(hp.row j q hq).1]at this;simp only[Bool.or_eq_true,bC,decide_eq_true_eq]at this;rcases this with (h|h)|h
 .omega
 .have:=oI cR h;omega
 .exact h
theorem yE{ops:Array Oper}{rows:List Row}(hp:Plan ops rows)(hk:gp ops.toList rows=true){i j:Nat}{r q:Row}{d:Nat}(hr:rows[i]?=some r)(hq:rows[j]?=some q)(hd:r.o.dst=some d)(mF:d∈gh ops.toList q.o):
  bit q.dy i=true\/(bit r.dy j=true/\eC q.cls=false):=by
 unfold gp at hk;simp only[zzh,iU,nj,zzd]at hk;have:=hk.2 r (zza hr);rw[hd]at this;simp only[zzd,zzh]at this;have:=(this q (zza hq)).1;rw[memN_eq]at this;have hc:(gh ops.toList q.o).contains d=true:=by simpa using mF
 rw[hc,(hp.row i r hr).1,(hp.row j q hq).1]at this;simpa using this
theorem run_ok{cx:Cx}{K:bO}{ops:Array Oper}{jB rows:List Row}{c:Nat->BJ}(hp0:Plan ops jB)(hk:gp ops.toList jB=true)(ez:∀(i:Nat)(r:Row),rows[i]?=some r->jB[i]?=some r)
  (hs:∀(i:Nat)(r:Row),rows[i]?=some r->tF cx K ops.toList r (c i) (c (i+1))):nH cx K ops.toList rows c:=by
 have hk0:=hk;unfold gp at hk;simp only[zzh,iU,nj,zzd]at hk;obtain⟨⟨h1,h2⟩,h3⟩:=hk;have num:∀(i:Nat)(r:Row),rows[i]?=some r->r.i=i:=fun i r h=>(hp0.row i r (ez i r h)).1;have lt:∀(i:Nat)(r:Row),rows[i]?=some r->r.dy<2 ^ i:=fun i r h=>qR hp0 hk0 (ez i r h);refine⟨hs,num,lt,fun i j r q hr hq he he' sx=>CL hp0 hk0 (ez i r hr) (ez j q hq) he he' sx,fun i j r q d hr hq hd mF=>yE hp0 hk0 (ez i r hr) (ez j q hq) hd mF,fun i j r q d hr hq hd mF=>?_⟩
 .have:=h3 r (zza (ez i r hr));rw[hd]at this;simp only[zzd,zzh]at this;have:=(this q (zza (ez j q hq))).2;rw[mF,num i r hr,num j q hq]at this;simp only[bC,Bool.or_eq_true,decide_eq_true_eq]at this;rcases this with h|h
  .exact h.symm
  .simp at h
theorem cnt_le{rows:List Row}{p:Row->Bool}{m:Nat}(h:∀(e:Nat)(r:Row),rows[e]?=some r->bR r.cls=true->p r=true->jD rows e<m):
  ∀k,(rows.take k).countP (fun r=>p r&&bR r.cls)<=m/\(rows.take k).countP (fun r=>p r&&bR r.cls)<=jD rows k:=by
 intro k
 induction k with
 |zero=>simp
 |succ k ih=>
  by_cases hk:k<rows.length
  .obtain⟨r,hr⟩:=gG hk;have h1:=h k r hr;rw[kh hr,List.take_add_one,hr,List.countP_append];cases he:bR r.cls<;>cases hp:p r
   .simp only[zzg,zzc,zzf,he,hp];simp;omega
   .simp only[zzg,zzc,zzf,he,hp];simp;omega
   .simp only[zzg,zzc,zzf,he,hp];simp;omega
   .have:=h1 he hp;simp only[zzg,zzc,zzf,he,hp];simp;omega
  .have e1:jD rows (k+1)=jD rows k:=by
    unfold jD;rw[zzb (by omega),zzb (by omega)]
   have e2:rows.take (k+1)=rows.take k:=by rw[zzb (by omega),zzb (by omega)]
   rw[e1,e2];exact ih
theorem cnt_ge{rows:List Row}{p:Row->Bool}{m:Nat}(h:∀(e:Nat)(r:Row),rows[e]?=some r->bR r.cls=true->jD rows e<m->p r=true):
  ∀k,m<=(rows.take k).countP (fun r=>p r&&bR r.cls)\/jD rows k<=(rows.take k).countP (fun r=>p r&&bR r.cls):=by
 intro k
 induction k with
 |zero=>simp[jD]
 |succ k ih=>
  by_cases hk:k<rows.length
  .obtain⟨r,hr⟩:=gG hk;have h1:=h k r hr;rw[kh hr,List.take_add_one,hr,List.countP_append];cases he:bR r.cls<;>cases hp:p r
   .simp only[zzg,zzc,zzf,he,hp];simp;omega
   .simp only[zzg,zzc,zzf,he,hp];simp;omega
   .have h2:¬jD rows k<m:=fun h2=>by rw[h1 he h2]at hp;cases hp
    simp only[zzg,zzc,zzf,he,hp];simp;omega
   .simp only[zzg,zzc,zzf,he,hp];simp;omega
  .have e1:jD rows (k+1)=jD rows k:=by
    unfold jD;rw[zzb (by omega),zzb (by omega)]
   have e2:rows.take (k+1)=rows.take k:=by rw[zzb (by omega),zzb (by omega)]
   rw[e1,e2];exact ih
section
variable{cx:Cx}{K:bO}{ops:List Oper}{rows:List Row}{c:Nat->BJ}
theorem nH.window(h:nH cx K ops rows c)(hs0:(c 0).aL=[]){i:Nat}{r:Row}(hr:rows[i]?=some r){v:AV}(hv:fa cx ops (c i).F (c i).S r.o=some v)(hF:(c (i+1)).F=bw (c i).F r.o.dst v)
  (hw:hX cx ops rows (c rows.length).F (eN rows c) r=true) {L:Nat->Prop} {m:Nat} {Fs:Fr} (ha:zM rows c L Fs) {S:AS} (hS:(eN rows c)[m]?=some S)
  (hlv:∀(i:Nat)(r:Row),rows[i]?=some r->bR r.cls=true->(L i↔jD rows i<m)) (hdown:∀(i:Nat)(r:Row)(j:Nat),rows[i]?=some r->L i->bit r.dy j=true->L j)
  (hn:¬L i) (hb:∀j,bit r.dy j=true->L j) (vE:eC r.cls=true):fa cx ops Fs S r.o=some v:=by
 have hi:=jZ hr;have hml:m<(eN rows c).length:=by
  rcases zzj m (eN rows c).length with h1|h1
  .exact h1
  .rw[zzi h1]at hS;cases hS
 have hmM:m<=jD rows rows.length:=by rw[h.uG hs0]at hml;omega
 have tk:rows.take rows.length=rows:=List.take_length;have lo1:=(cnt_le (rows:=rows) (p:=fun e=>bit r.dy e.i) (m:=m) (fun e q hq he hp=>(hlv e q hq he).1 (hb e (by rw[<-h.num e q hq];exact hp))) rows.length).1;have hi1:=cnt_ge (rows:=rows) (p:=fun e=>!bit e.dy r.i) (m:=m) (fun e q hq he hp=>by
  cases hbq:bit q.dy r.i with
  |false=>rfl
  |true=>rw[h.num i r hr]at hbq;exact absurd (hdown e q i hq ((hlv e q hq he).2 hp) hbq) hn) rows.length
 have lo2:=(cnt_le (rows:=rows) (p:=fun e=>bit r.dy e.i) (m:=jD rows i) (fun e q hq he hp=>(vn hq he).1 (by
  rw[h.num e q hq]at hp;exact oI (h.lt i r hr) hp)) rows.length).1
 have BO:=cnt_ge (rows:=rows) (p:=fun e=>!bit e.dy r.i) (m:=jD rows i) (fun e q hq he hp=>by
  cases hbq:bit q.dy r.i with
  |false=>rfl
  |true=>
   rw[h.num i r hr]at hbq;have h1:=oI (h.lt e q hq) hbq;have h2:=(vn (i:=i) hq he).2 hp;omega) rows.length
 have hmi:jD rows i<=jD rows rows.length:=vm (zzk hi);rw[tk]at lo1 hi1 lo2 BO;unfold hX at hw;simp only[zu,nj,List.countP_filter,cK,cY]at hw;generalize List.countP (fun e:Row=>bit r.dy e.i&&bR e.cls) rows=lo at *;generalize List.countP (fun e:Row=>!bit e.dy r.i&&bR e.cls) rows=hh at *;have at1:∀k S',lo<=k->k<=hh->(eN rows c)[k]?=some S'->(((eN rows c).drop lo).take (Nat.succ (Nat.sub hh lo)))[k-lo]?=some S':=by
  intro k S' h1 h2 h3;rw[zzl,if_pos (by show k-lo<hh-lo+1;omega),List.getElem?_drop,Nat.add_sub_cancel' h1];exact h3
 have m1:=at1 m S lo1 (by omega) hS;have m2:=at1 (jD rows i) (c i).S lo2 (by omega) (h.snap hs0 (zzk hi));generalize ((eN rows c).drop lo).take (Nat.succ (Nat.sub hh lo))=may at *;have one':may.length=1->fa cx ops Fs S r.o=some v:=by
  intro hl;have e:∀(k:Nat)(S':AS),may[k]?=some S'->k=0:=fun k S' hk=>by
   rcases zzj k may.length with h1|h1
   .omega
   .rw[zzi h1]at hk;cases hk
  rw[e _ _ m1]at m1;rw[e _ _ m2,m1]at m2;cases m2;rw[gI (fun t ht=>h.now ha hr hb (.inl vE) ht)];exact hv
 have many:(match r.o.dst with
  |some d=>cond (Nat.blt d (c rows.length).F.n) (match (c rows.length).F.t.get d with
   |some v=>gS (fun S=>match fa cx ops (c rows.length).F S r.o with
    |some u=>eO 8 v u
    |none=>false) may
   |none=>false) false
  |none=>false)=true->fa cx ops Fs S r.o=some v:=by
  intro hw;cases hd:r.o.dst with
  |none=>rw[hd]at hw;cases hw
  |some d=>
   rw[hd]at hw;simp only[]at hw;cases cR:Nat.blt d (c rows.length).F.n with
   |false=>rw[cR]at hw;cases hw
   |true=>
    rw[cR]at hw;simp only[cond_true]at hw;have mm:(c rows.length).F.t.get d=some v:=by
     have h1:(c rows.length).F.t.get d=(c (i+1)).F.t.get d:=h.fM _ hi (zze _) fun k q hk _ hq mF=>by
      have:=h.single i k r q d hr hq hd mF;omega
     rw[h1,hF,hd,mc,if_pos];rw[h.n i (zzk hi),<-h.n rows.length (zze _)];simpa using cR
    rw[mm]at hw;simp only[iU,zzd]at hw;have:=hw S (zza m1);rw[gI (F':=Fs) (fun t ht=>by
     rw[h.now h.all hr (fun _ _=>trivial) (.inl vE) ht,h.now ha hr hb (.inl vE) ht])]at this
    cases hu:fa cx ops Fs S r.o with
    |none=>rw[hu]at this;cases this
    |some u=>rw[hu]at this;rw[sameVF_eq 8 v u this]
 cases hmay:may with
 |nil=>rw[hmay]at m1;simp at m1
 |cons x xs=>
  cases xs with
  |nil=>exact one' (by rw[hmay];rfl)
  |cons y ys=>
   rw[hmay]at hw;exact many (by rw[hmay];exact hw)
end
theorem cnt_lt{α:Type}{p p':α->Bool}:∀(l:List α)(x:α),(∀y,p' y=true->p y=true)->x∈l->p x=true->p' x=false->l.countP p'<l.countP p:=by
 intro l
 induction l with
 |nil=>intro x _ hx;cases hx
 |cons z l ih=>
  intro x h hx h1 h2;have le:l.countP p'<=l.countP p:=List.countP_mono_left fun y _=>h y;rw[zzc,zzc];cases hx with
  |head=>rw[h1,h2];simp;omega
  |tail _ hx=>
   have:=ih x h hx h1 h2;have hz:=h z;cases e1:p' z<;>cases e2:p z<;>simp<;>first|omega|(rw[e1,e2]at hz;simp at hz)
theorem orders{P:Program}{cx:Cx}(aI:cU Λ P cx)(hm:P.follows .mixedOrders=true){ro:Option Nat}{K:bO}(hK:wH Λ P K){ops:Array Oper}{rid:Nat}{Q:Exit->Act->World->Prop}{ρ:bf}{F:Fr}{S:AS}{w:World}{a:Act}
  (hR:R Λ ρ S w) (hF:eA ρ F a) {jB rows:List Row} {c:Nat->BJ} (ik:Plan ops jB) (oA:∀(i:Nat)(r:Row),jB[i]?=some r->r.cls=.pure\/r.cls=.read->fN cx r.o=r.cls)
  (hlt0:∀(i:Nat)(r:Row),jB[i]?=some r->r.dy<2 ^ i) (Ds:∀(i:Nat)(r:Row),i<rows.length->jB[i]?=some r->rows[i]?=some r) (hle:rows.length<=jB.length)
  (hcount:rows.countP (fun r=>bU r.cls)<=jB.countP (fun r=>bU r.cls)) (h:nH cx K ops.toList rows c) (ni:c 0=⟨F,⟨S.h,Nat.add S.nx (eD (fun r=>bU r.cls) jB)⟩,[],[],S.nx⟩)
  (sw:∀q,q∈rows->cond (eC q.cls) (hX cx ops.toList rows (c rows.length).F (eN rows c) q) true=true)
  (hblock:∀(j:Nat)(r:Row),rows.length<j->jB[j]?=some r->bit r.dy rows.length=true)
  (hdone:rows.length=jB.length->∀(L:Nat->Prop)(m:Nat)(Fs:Fr)(ρ':bf)(S':AS)(w':World)(a':Act),Inv Λ cx ops.toList rows c ρ S w L m Fs ρ' S' w' a'->(∀i,i<rows.length->L i)->Q .normal a' w')
  (hstop:∀r,jB[rows.length]?=some r->∀(L:Nat->Prop)(m:Nat)(Fs:Fr)(ρ':bf)(S':AS)(w':World)(a':Act)(nx:Act->World->Prop),Inv Λ cx ops.toList rows c ρ S w L m Fs ρ' S' w' a'->(∀j,bit r.dy j=true->L j)->wpOpIn (GF ro) 0 P ops Q rows.length nx a' w') :
  (Code.region rid ops true).wpIn (GF ro) 0 P Q a w:=by
 have hs0:(c 0).aL=[]:=by rw[ni]
 have hp0:(c 0).ps=[]:=by rw[ni]
 have cw:(c 0).id=S.nx:=by rw[ni]
 have hlen:=ik.len;have main:∀(fuel:Nat)(listed:Array Bool)(m:Nat)(Fs:Fr)(ρ':bf)(S':AS)(w':World)(a':Act),listed.size=ops.size->(∀j,rows.length<=j->listed.getD j false=false) ->
   Inv Λ cx ops.toList rows c ρ S w (fun j=>listed.getD j false=true) m Fs ρ' S' w' a'->(zzp ops.size).countP (fun i=>!listed.getD i false)<=fuel ->
   wpAnyIn (GF ro) 0 P .any ops Q fuel listed a' w':=by
  have done:∀(listed:Array Bool)(m:Nat)(Fs:Fr)(ρ':bf)(S':AS)(w':World)(a':Act),listed.size=ops.size->(∀j,rows.length<=j->listed.getD j false=false) ->
    Inv Λ cx ops.toList rows c ρ S w (fun j=>listed.getD j false=true) m Fs ρ' S' w' a'->Region.ready .any ops listed=[]->Q .normal a' w':=by
   intro listed m Fs ρ' S' w' a' nf mn hv hready;have hrdy:∀i,i<ops.size->(∀k,k<i->listed.getD k false=true)->listed.getD i false=true:=by
    intro i hi ih;cases hli:listed.getD i false with
    |true=>rfl
    |false=>
     exfalso;obtain⟨r,hr⟩:=gG (rows:=jB) (i:=i) (by omega);have hio:=(ik.row i r hr).2;have:i∈Region.ready .any ops listed:=by
      rw[mem_ready];refine⟨?_,r.o,hio,fun e he hb=>?_⟩
      .have:i<listed.size:=by omega
       simpa[Array.getD,this]using hli
      .have hbit:=ik.edge i r e hr (by simpa using he) hb;have cR:=oI (hlt0 i r hr) hbit;exact ih e.on cR
     rw[hready]at this;cases this
   have kL:∀i,i<rows.length->listed.getD i false=true:=by
    intro i
    induction i using Nat.strongRecOn with
    |_ i ih=>exact fun hi=>hrdy i (by omega) fun k hk=>ih k hk (by omega)
   rcases zzj rows.length ops.size with cR|BP
   .have h1:=hrdy rows.length cR kL;rw[mn _ (zze _)]at h1;cases h1
   .exact hdone (by omega) _ m Fs ρ' S' w' a' hv kL
  intro fuel
  induction fuel with
  |zero=>
   intro listed m Fs ρ' S' w' a' nf mn hv hfuel;have hr:Region.ready .any ops listed=[]:=by
    cases vE:Region.ready .any ops listed with
    |nil=>rfl
    |cons i l=>
     exfalso;have hi:i∈Region.ready .any ops listed:=by rw[vE];simp
     obtain⟨h1,o,ho,_⟩:=mem_ready.1 hi;have cR:i<ops.size:=(Array.getElem?_eq_some_iff.1 ho).1;have h2:listed.getD i false=false:=by
      have:i<listed.size:=by omega
      simpa[Array.getD,this]using h1
     have:0<(zzp ops.size).countP (fun i=>!listed.getD i false):=List.countP_pos_iff.2 ⟨i,by simpa using cR,by rw[h2];rfl⟩;omega
   exact⟨hr,done listed m Fs ρ' S' w' a' nf mn hv hr⟩
  |succ fuel ih=>
   intro listed m Fs ρ' S' w' a' nf mn hv hfuel;refine⟨fun hr=>done listed m Fs ρ' S' w' a' nf mn hv hr,fun i hi=>?_⟩;obtain⟨h1,o,ho,hedges⟩:=mem_ready.1 hi;have cR:i<ops.size:=(Array.getElem?_eq_some_iff.1 ho).1;have hli:listed.getD i false=false:=by
    have:i<listed.size:=by omega
    simpa[Array.getD,this]using h1
   have hn:¬listed.getD i false=true:=by rw[hli];simp
   obtain⟨r,hr0⟩:=gG (rows:=jB) (i:=i) (by omega);have hio:=(ik.row i r hr0).2;rw[ho]at hio;obtain rfl:o=r.o:=Option.some.inj hio;have hb:∀j,bit r.dy j=true->listed.getD j false=true:=by
    intro j hj;obtain⟨e,he,AQ,h2⟩:=ik.down i r j hr0 hj;have hL:=hedges e (by simpa using he) AQ;rcases h2 with rfl|⟨r',ij,hj'⟩
    .exact hL
    .have hel:e.on<rows.length:=by
      rcases zzj e.on rows.length with h1|h1
      .exact h1
      .rw[mn _ h1]at hL;cases hL
     exact hv.down e.on r' j (Ds _ _ hel ij) hL hj'
   rcases Nat.lt_trichotomy i rows.length with hil|rfl|hil
   rotate_left
   .exact hstop r hr0 _ m Fs ρ' S' w' a' _ hv hb
   .have h1:=hb _ (hblock i r hil hr0);rw[mn _ (zze _)]at h1;cases h1
   have hr:=Ds i r hil hr0;have hL':∀j,((listed.setIfInBounds i true).getD j false=true)↔(listed.getD j false=true)\/j=i:=by
    intro j;by_cases Dy:i=j
    .subst Dy;have:i<listed.size:=by omega
     simp[this]
    .rw[getD_set_ne false Dy];simp[Ne.symm Dy]
   have hcnt:(zzp ops.size).countP (fun j=>!(listed.setIfInBounds i true).getD j false)<=fuel:=by
    have:=cnt_lt (p:=fun j=>!listed.getD j false) (p':=fun j=>!(listed.setIfInBounds i true).getD j false) (zzp ops.size) i (fun y hy=>by
     cases hy0:listed.getD y false with
     |false=>rfl
     |true=>rw[(hL' y).2 (.inl hy0)]at hy;cases hy) (by simpa using cR) (by rw[hli];rfl) (by rw[(hL' i).2 (.inr rfl)];rfl)
    omega
   have hsz':(listed.setIfInBounds i true).size=ops.size:=by simpa using nf
   have hcap':∀j,rows.length<=j->(listed.setIfInBounds i true).getD j false=false:=fun j hj=>by
    cases hq:(listed.setIfInBounds i true).getD j false with
    |false=>rfl
    |true=>
     rcases (hL' j).1 hq with h1|h1
     .rw[mn j hj]at h1;cases h1
     .omega
   have Ak:=fun t ht=>h.now hv.ag hr hb (.inr fun k q hk hbk hLk=>hn (hv.down k q i hk hLk hbk)) (t:=t) ht;have value:∀v,bR r.cls=false->(∀q,¬Laid cx ops.toList rows c i q)->(c (i+1)).F=bw (c i).F r.o.dst v->one cx K ops.toList r.o Fs S'=.ok (false,v,S') [] ->
     wpOpIn (GF ro) 0 P ops Q i (wpAnyIn (GF ro) 0 P .any ops Q fuel (listed.setIfInBounds i true)) a' w':=by
    intro v he hno hFv rj;refine Au aI hK hv.R hv.F ho ?_;rw[rj];refine⟨fun ρ2 e w2 hx hR2 wN=>?_,fun y hy=>by cases hy⟩;obtain⟨x,rfl,hx2⟩:=hx.val;exact ih _ m _ ρ2 S' w2 _ hsz' hcap' (hv.value h hr hn hb hL' he hno hFv hx2 hR2 wN) hcnt
   rcases h.step i r hr with⟨hc,⟨hw,v,x,hf,e⟩|⟨hw,e⟩⟩|⟨hc,v,S2,rj,e⟩|⟨hc,v,rj,e⟩
   ·-- a block is laid
    have Dx:Laid cx ops.toList rows c i ⟨r.i,(c i).id,x⟩:=⟨⟨r,v,hr,hc,hw,hf⟩,h.num i r hr,rfl⟩
    have hFv:(c (i+1)).F=bw (c i).F r.o.dst v:=by rw[e]
    have EV:wanted ops.toList Fs r.o=some true:=by rw[jH Ak];exact hw
    have Dz:aO cx Fs (c i).id r.o.op=some (v,x):=by rw[im (rQ Ak)];exact hf
    obtain⟨s,BM,y,o',w2,hs2,hg,kV,hval⟩:=zh (P:=P) aI hv.F Dz w';unfold wpOpIn;simp only[ho];rw[lO hv.F EV];simp only[if_true];refine⟨fun f _=>zL ro f,?_⟩;have zb:∀c,r.o.op≠.defer c:=by
     intro c e;rw[e]at Dz;cases Dz
    rw[Oper.semAt_eq _ _ _ zb];have hrun2:(execOp a'.eval r.o).run P w'=.ok (.value y) w2:=by
     rw[BM];simp only[Sem.run_bind,hs2,Result.andThen_ok,Sem.run_pure]
    rw[hrun2];show wpAnyIn (GF ro) 0 P .any ops Q fuel (listed.setIfInBounds i true) (a'.put r.o.dst y) w2;obtain⟨pl,oZ,hplb⟩:∃pl:Pl,zK pl.b pl x o'/\pl.b=w'.heap.size:=by
     cases x with
     |row cells low top frz ty=>
      obtain⟨rfl,rfl,rfl,C,rfl,r2,r3⟩:=kV;exact⟨⟨w'.heap.size,0,cells.length,C.size,by omega⟩,⟨rfl,rfl,rfl,rfl⟩,rfl⟩
     |map es clock=>
      obtain⟨ES,rfl,r2⟩:=kV;exact⟨⟨w'.heap.size,0,0,0,by omega⟩,rfl,rfl⟩
     |nR y=>exact⟨⟨w'.heap.size,0,0,0,by omega⟩,⟨rfl,rfl⟩,rfl⟩
    exact ih _ m _ _ S' w2 _ hsz' hcap' (hv.lay h hr hn hb hL' (by rw[hc];rfl) Dx (by rw[<-cw];exact (Dx.top h).1) hFv hg kV hval oZ hplb) hcnt
   .refine value .undef (by rw[hc];rfl) (fun q hl=>?_) (by rw[e]) ?_
    .obtain⟨⟨r',v,ij,_,EV,_⟩,_⟩:=hl;rw[hr]at ij;cases ij;rw[hw]at EV;cases EV
    .unfold one;rw[jH Ak,hw]
   ·-- it acts
    have he:bR r.cls=true:=by rw[hc];rfl
    have gf:=hv.level h hr hn hb he;have hS:S'=(c i).S:=by
     have h2:=hv.st;rw[<-gf,h.snap hs0 (zzk (jZ hr))]at h2;exact (Option.some.inj h2).symm
    obtain⟨c1,c2,c3,c4⟩:=hv.bB h hp0 cw (zzk (jZ hr)) gf (fun p=>bit r.dy p.i) (fun j q e hp _=>by subst e;exact hb _ hp);refine Au aI hK c1 hv.F ho ?_;rw[yJ Ak,hS,rj];refine⟨fun ρ2 ed w2 hx hR2 wN=>?_,fun y hy=>by cases hy⟩;obtain⟨x,rfl,hx2⟩:=hx.val;have pO:S2=(c (i+1)).S:=by rw[e]
    simp only[pO]at hR2 wN;rw[<-hS]at wN;exact ih _ (m+1) _ ρ2 _ w2 _ hsz' hcap' (hv.act h hs0 hp0 cw hr hn hb hL' he (by rw[e]) hx2 hR2 wN) hcnt
   ·-- it only gives
    have sB:=oA i r hr0 hc;have kK:fN cx r.o=.pure\/fN cx r.o=.read:=by rw[sB];exact hc
    have hFv:(c (i+1)).F=bw (c i).F r.o.dst v:=by rw[e]
    have hov:fa cx ops.toList Fs S' r.o=some v:=by
     rcases hc with hc|hc
     .rw[gI Ak];exact oneV_pure (sB.trans hc) rj
     .have Dp:=sw r (zza hr);rw[hc]at Dp;exact h.window hs0 hr rj hFv Dp hv.ag hv.st hv.lv hv.down hn hb (by rw[hc];rfl)
    refine value v (by rcases hc with hc|hc<;>rw[hc]<;>rfl) (fun q hl=>?_) hFv (oneV_one kK hov);obtain⟨⟨r',v,ij,hc2,_⟩,_⟩:=hl;rw[hr]at ij;cases ij;rw[hc2]at hc;rcases hc with hc|hc<;>cases hc
 refine wpIn_region_any hm ?_;refine main ops.size _ 0 F ρ (c 0).S _ a (by simp) (fun j _=>by simp only[zzn,zzo];split<;>simp) ?_ (Nat.le_trans (List.countP_le_length) (by simp));have hlev0:jD rows 0=0:=rfl;have hR0:R Λ ρ (c 0).S {w with drawn:=w.drawn+1}:=by
  rw[ni];have h2:=hR.drawn (w.drawn+1);exact⟨h2.ja,fun i o ho=>Nat.lt_of_lt_of_le (h2.xD i o ho) (zzm _ _),fun i g hi=>h2.fresh i g (Nat.le_trans (zzm _ _) hi),h2.pW,h2.lt,h2.apart,h2.start,h2.base⟩
 have empty:∀j,¬(Array.replicate ops.size false).getD j false=true:=by
  intro j;simp only[zzn,zzo];split<;>simp
 have hkp:Kp ρ S w ρ (c 0).S {w with drawn:=w.drawn+1}:=by
  rw[ni];exact⟨Ext.refl _,rfl,rfl,rfl,zze _,fun _ _ _=>rfl,fun _ h=>.inl h,fun _ h=>.inl h,zzm _ _,fun _ _ _ h=>⟨rfl,h⟩⟩
 refine⟨hR.start,by rw[<-hlev0];exact h.snap hs0 (Nat.zero_le _),fun i r hr he=>⟨fun h1=>absurd h1 (empty i),fun h1=>by omega⟩,fun i r j _ h1=>absurd h1 (empty i),hR0,hF,⟨by rw[ni],by rw[ni],fun t i _ h1=>absurd h1 (empty i),fun t _=>by rw[ni]⟩,hkp,fun j q hl _=>?_,fun j j' q q' x y _ hl _ _ _ h1 _=>?_⟩
 .have ht:=hl.top h;rw[cw]at ht;have hnone:S.h.get q.id=none:=by
   cases hg:S.h.get q.id with
   |none=>rfl
   |some o=>have:=hR.xD _ _ hg;omega
  refine⟨by rw[ni];exact hnone,?_,fun h1=>absurd h1 (empty j),fun _ g=>hR.fresh _ g ht.1⟩;rw[ni,zu];exact Nat.lt_of_lt_of_le ht.2 (Nat.add_le_add_left hcount _)
 .have ht:=hl.top h;rw[cw]at ht;rw[hR.fresh _ 0 ht.1]at h1;cases h1
theorem qz(F:Fr)(t:Nat):∀(rows:List Row),(Ca rows F).n=F.n/\(Ca rows F).ds=F.ds/\((Ca rows F).t.get t=some .top\/((Ca rows F).t.get t=F.t.get t/\∀r,r∈rows->r.o.dst=some t->¬t<F.n))
 |[]=>⟨rfl,rfl,.inr ⟨rfl,fun r hr=>by cases hr⟩⟩
 |r::rows=>by
  obtain⟨h1,h2,h3⟩:=qz F t rows;have e:Ca (r::rows) F=bw (Ca rows F) r.o.dst .top:=rfl;rw[e,FK,At];refine⟨h1,h2,?_⟩;by_cases hd:r.o.dst=some t
  .rw[hd,mc,h1];by_cases ht:t<F.n
   .rw[if_pos ht];exact .inl rfl
   .rw[if_neg ht];rcases h3 with h3|⟨h3,h4⟩
    .exact .inl h3
    .refine .inr ⟨h3,fun q hq hq2=>?_⟩;rcases List.mem_cons.1 hq with rfl|hq
     .exact ht
     .exact h4 q hq hq2
  .rw[qQ hd];rcases h3 with h3|⟨h3,h4⟩
   .exact .inl h3
   .refine .inr ⟨h3,fun q hq hq2=>?_⟩;rcases List.mem_cons.1 hq with rfl|hq
    .exact absurd hq2 hd
    .exact h4 q hq hq2
theorem D0{P:Program}{cx:Cx}(aI:cU Λ P cx)(hm:P.follows .mixedOrders=true):DrawnOk Λ P cx:=by
 intro ro K hK ops rid Q ρ F S w a hR hF py;unfold eg at py;obtain⟨ik,oA⟩:=rV cx ops;generalize settle (dw cx ops.toList)=rows at ik oA py;cases hpk:gp ops.toList rows with
 |false=>simp only[hpk,cond_false]at py;exact py.elim
 |true=>
 simp only[hpk,cond_true]at py;obtain⟨c,ni,hend⟩:=trace cx K ops.toList rows ⟨F,⟨S.h,Nat.add S.nx (eD (fun r=>bU r.cls) rows)⟩,[],[],S.nx⟩ _ (aC.all_bind py);have hlen:=ik.len;have hs0:(c 0).aL=[]:=by rw[ni]
 have hp0:(c 0).ps=[]:=by rw[ni]
 have cw:(c 0).id=S.nx:=by rw[ni]
 rcases hend with⟨hstep,mm⟩|⟨n,r,v,S2,hrn,hrc,hstep,rj,hlater,mm⟩
 .have h:=run_ok ik hpk (fun i r hr=>hr) hstep;unfold kY at mm;simp only[]at mm;have hrev:rT ((c rows.length).S::(c rows.length).aL)=eN rows c:=ua _;rw[hrev]at mm;cases sw:lj cx ops.toList rows (c rows.length).F (eN rows c)with
  |false=>rw[sw]at mm;exact mm.elim
  |true=>
  rw[sw]at mm;have hQ:=mm.1;simp only[]at hQ;unfold lj at sw;rw[iU,zzd]at sw;refine orders aI hm hK hR hF ik oA (fun i r hr=>qR ik hpk hr) (fun i r _ hr=>hr) (zze _) (zze _) h ni sw (fun j r hj hr=>absurd (jZ hr) (by omega)) ?_ (fun r hr=>absurd (jZ hr) (by omega));intro _ L m Fs ρ' S' w' a' hv kL;have hmM:m=jD rows rows.length:=by
   have h1:m<(eN rows c).length:=by
    rcases zzj m (eN rows c).length with h1|h1
    .exact h1
    .have:=hv.st;rw[zzi h1]at this;cases this
   rw[h.uG hs0]at h1;rcases vp (rows:=rows) rows.length with h2|⟨e,q,h2,h3,h4,h5⟩
   .omega
   .have:=(hv.lv e q h3 h4).1 (kL e h2);omega
  have hS:S'=(c rows.length).S:=by
   have h1:=hv.st;rw[hmM,h.snap hs0 (zze _)]at h1;exact (Option.some.inj h1).symm
  obtain⟨c1,c2,_⟩:=hv.bB h hp0 cw (zze _) hmM.symm (fun _=>true) (fun j q _ _ hl=>kL j (hl.nx h).2.1);rw[hS]at c1 c2;refine hQ ρ' .normal a' w' rfl c1 ⟨fun t=>?_,?_,by rw[h.ds _ (zze _),<-hv.ag.ds];exact hv.F.defers⟩ c2
  .have e:(c rows.length).F.t.get t=Fs.t.get t:=by
    by_cases hw:∃i,sS rows t i
    .obtain⟨i,hi⟩:=hw;obtain⟨q,hq,_⟩:=id hi;exact (hv.ag.yes t i hi (kL i (jZ hq))).symm
    .rw[hv.ag.no t fun i hi _=>hw ⟨i,hi⟩];exact h.all.no t fun i hi _=>hw ⟨i,hi⟩
   rw[e];exact hv.F.slot t
  .rw[hv.F.size,hv.ag.n,h.n _ (zze _)]
 .have hnl:=jZ hrn;have hri:=(ik.row n r hrn).1;obtain⟨pre,Ds⟩:∃pre,pre=rows.take n:=⟨_,rfl⟩
  have oZ:pre.length=n:=by rw[Ds,List.length_take];omega
  have ez:∀(i:Nat)(q:Row),pre[i]?=some q->rows[i]?=some q/\i<n:=fun i q hq=>by
   rw[Ds,zzl]at hq;split at hq
   .rename_i hi;exact⟨hq,hi⟩
   .cases hq
  have hinv:∀(i:Nat)(q:Row),i<n->rows[i]?=some q->pre[i]?=some q:=fun i q hi hq=>by
   rw[Ds,zzl,if_pos hi];exact hq
  have h:=run_ok (rows:=pre) ik hpk (fun i q hq=>(ez i q hq).1) (fun i q hq=>hstep i q (ez i q hq).2 (ez i q hq).1);unfold kY at mm;simp only[hri,cK,<-Ds]at mm;have hrev:rT ((c n).S::(c n).aL)=eN pre c:=by rw[<-oZ];exact ua _
  rw[hrev]at mm;cases sw:lj cx ops.toList pre (c n).F (eN pre c)with
  |false=>rw[sw]at mm;exact mm.elim
  |true=>
  rw[sw]at mm;have hQ:=mm.1;simp only[]at hQ;unfold lj at sw;rw[iU,zzd]at sw;refine orders (rows:=pre) aI hm hK hR hF ik oA (fun i r hr=>qR ik hpk hr) (fun i q hi hq=>hinv i q (by omega) hq) (by omega) ?_ h ni (by rw[oZ];exact sw)
   (fun j q hj hq=>by rw[oZ]at hj⊢;rw[<-hri];exact hlater j q hj hq) (fun e=>by omega) ?_
  .rw[Ds];exact (List.take_sublist n rows).countP_le
  intro q hq L m Fs ρ' S' w' a' nx hv hb;rw[oZ,hrn]at hq;cases hq;have hrn':=hrn;have heff:∀(e:Nat)(q:Row),pre[e]?=some q->bR q.cls=true->L e:=fun e q he hq=>hb e (by
   obtain⟨h1,h2⟩:=ez e q he;exact CL ik hpk h1 hrn hq (by rw[hrc];rfl) h2)
  have hmM:m=jD pre pre.length:=by
   have h1:m<(eN pre c).length:=by
    rcases zzj m (eN pre c).length with h1|h1
    .exact h1
    .have:=hv.st;rw[zzi h1]at this;cases this
   rw[h.uG hs0]at h1;rcases vp (rows:=pre) pre.length with h2|⟨e,q,h2,h3,h4,h5⟩
   .omega
   .have:=(hv.lv e q h3 h4).1 (heff e q h3 h4);omega
  have hS:S'=(c n).S:=by
   have h1:=hv.st;rw[hmM,h.snap hs0 (zze _),oZ]at h1;exact (Option.some.inj h1).symm
  obtain⟨c1,c2,c3,c4⟩:=hv.bB h hp0 cw (zze _) hmM.symm (fun p=>bit r.dy p.i) (fun j q e hp _=>by subst e;exact hb _ hp);rw[oZ]at c1 c2⊢;have Ak:∀t,t∈gh ops.toList r.o->Fs.t.get t=(c n).F.t.get t:=by
   intro t ht;by_cases hw:∃i,sS pre t i
   .obtain⟨i,q,hq,hd⟩:=hw;obtain⟨h1,h2⟩:=ez i q hq;have hbi:bit r.dy i=true:=by
     rcases yE ik hpk h1 hrn hd ht with hb'|⟨hb',_⟩
     .exact hb'
     .have:=oI (qR ik hpk h1) hb';omega
    have:=hv.ag.yes t i ⟨q,hq,hd⟩ (hb i hbi)
    rwa [oZ]at this
   .rw[hv.ag.no t fun i hi _=>hw ⟨i,hi⟩];have:=h.all.no t fun i hi _=>hw ⟨i,hi⟩;rw[oZ]at this;exact this.symm
  refine Au aI hK c1 hv.F (ik.row n r hrn).2 ?_;rw[yJ Ak,hS,rj];refine⟨fun ρ2 ed w2 hx hR2 wN=>?_,fun y hy=>by cases hy⟩;obtain⟨x,rfl,hx2⟩:=hx.eQ;rw[hS]at c2;refine hQ ρ2 _ a' w2 ⟨x,rfl,hx2⟩ hR2 ⟨fun t=>?_,?_,?_⟩ (c2.trans wN)
  .obtain⟨e1,e2,e3⟩:=qz (c n).F t rows;rcases e3 with e3|⟨e3,e4⟩
   .rw[e3];simp only[aq]
   .rw[e3];have hno:(c n).F.t.get t=Fs.t.get t:=by
     by_cases hw:∃i,sS pre t i
     .obtain⟨i,q,hq,hd⟩:=hw;have hnt:¬t<(c n).F.n:=e4 q (zza (ez i q hq).1) hd;have a1:∀k,k<=n->(c k).F.t.get t=(c 0).F.t.get t:=by
       intro k hk
       induction k with
       |zero=>rfl
       |succ k ih=>
        obtain⟨q',hq'⟩:=gG (rows:=pre) (i:=k) (by omega);obtain⟨u,hu⟩:=stepF (h.step k q' hq');rw[hu];by_cases mF:q'.o.dst=some t
        .rw[mF,mc,if_neg (by rw[h.n k (by omega),<-h.n n (by omega)];exact hnt)];exact ih (by omega)
        .rw[qQ mF];exact ih (by omega)
      by_cases hLi:L i
      .have:=hv.ag.yes t i ⟨q,hq,hd⟩ hLi;rw[oZ]at this;exact this.symm
      .rw[hv.ag.no t fun k hk hLk=>by
        obtain⟨q',hq',mF⟩:=hk;have:=h.single i k q q' t hq hq' hd mF;subst this;exact hLi hLk]
       exact a1 n (zze _)
     .rw[hv.ag.no t fun i hi _=>hw ⟨i,hi⟩];have:=h.all.no t fun i hi _=>hw ⟨i,hi⟩;rw[oZ]at this;exact this
    rw[hno];exact (hv.F.mono wN.ext).slot t
  .obtain⟨e1,e2,e3⟩:=qz (c n).F 0 rows;rw[e1,hv.F.size,hv.ag.n,h.n n (by omega)]
  .obtain⟨e1,e2,e3⟩:=qz (c n).F 0 rows;rw[e2,h.ds n (by omega),<-hv.ag.ds];exact (hv.F.mono wN.ext).defers
end Go.Am
