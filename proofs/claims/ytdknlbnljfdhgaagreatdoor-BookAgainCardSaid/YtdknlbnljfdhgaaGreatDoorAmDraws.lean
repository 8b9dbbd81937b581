/-
  The abstract machine: a region that draws its order, whole.
-/
import Derived.Test.YtdknlbnljfdhgaaGreatDoorAmDrawn
namespace Go.Am
open Go
variable{Λ:LB}
theorem iv{cx:Cx}{ops:List Oper}{F F':Fr}{S:AS}{o:Oper}(h:∀t,t∈gF ops o->F.t.get t=F'.t.get t):fG cx ops F S o=fG cx ops F' S o:=by
 unfold fG;rw[kI h,AB (tH h)]
theorem zO{cx:Cx}{K:eW}{ops:List Oper}{F F':Fr}{S:AS}{o:Oper}(h:∀t,t∈gF ops o->F.t.get t=F'.t.get t):one cx K ops o F S=one cx K ops o F' S:=by
 unfold one;rw[kI h,AB (tH h)]
theorem oneV_one{cx:Cx}{K:eW}{ops:List Oper}{F:Fr}{S:AS}{o:Oper}{v:AV}(hc:fY cx o=.pure\/fY cx o=.read)(h:fG cx ops F S o=some v):one cx K ops o F S=.ok (false,v,S) []:=by
 unfold fG at h;unfold one;cases hw:wanted ops F o with
 |none=>rw[hw]at h;cases h
 |some b=>
  rw[hw]at h;cases b with
  |false=>cases h;rfl
  |true=>
   simp only[]at h⊢;cases ha:bj cx F S o with
   |err n=>rw[ha]at h;cases h
   |round f as S'=>rw[ha]at h;cases h
   |dP u S'=>rw[ha]at h;cases h
   |many l=>rw[ha]at h;cases h
   |enter f as S'=>rw[ha]at h;cases h
   |val u S'=>
    rw[ha]at h;cases h;rw[FO hc ha]
theorem oneV_pure{cx:Cx}{ops:List Oper}{F:Fr}{S S2:AS}{o:Oper}{v:AV}(hc:fY cx o=.pure)(h:fG cx ops F S o=some v):fG cx ops F S2 o=some v:=by
 unfold fG at h⊢;cases hw:wanted ops F o with
 |none=>rw[hw]at h;cases h
 |some b=>
  rw[hw]at h;cases b with
  |false=>exact h
  |true=>
   simp only[]at h⊢;cases ha:bj cx F S o with
   |err n=>rw[ha]at h;cases h
   |round f as S'=>rw[ha]at h;cases h
   |dP u S'=>rw[ha]at h;cases h
   |many l=>rw[ha]at h;cases h
   |enter f as S'=>rw[ha]at h;cases h
   |val u S'=>
    rw[ha]at h;cases h;have:=FO (.inl hc) ha;subst this;rw[aop_pure (S2:=S2) hc ha]
theorem sB{ops:Array Oper}{rows:List Row}(hp:Plan ops rows)(hk:ir ops.toList rows=true){i:Nat}{r:Row}(h:rows[i]?=some r):r.dL<2 ^ i:=by
 unfold ir at hk;simp only[Bool.and_eq_true,jN,nL,List.all_eq_true]at hk;have h':=hk.1.1 r (List.mem_of_getElem? h);rw[(hp.row i r h).1]at h';simpa using h'
theorem DZ{ops:Array Oper}{rows:List Row}(hp:Plan ops rows)(hk:ir ops.toList rows=true){i j:Nat}{r q:Row}(hr:rows[i]?=some r)(hq:rows[j]?=some q)(he:bK r.cls=true)(he':bK q.cls=true)(pD:i<j):bit q.dL i=true:=by
 have cq:=sB hp hk hr;unfold ir at hk;simp only[Bool.and_eq_true,jN,nL,List.all_eq_true]at hk;have:=hk.1.2 r (List.mem_filter.2 ⟨List.mem_of_getElem? hr,he⟩) q (List.mem_filter.2 ⟨List.mem_of_getElem? hq,he'⟩);unfold ordered at this;rw[(hp.row i r hr).1,(hp.row j q hq).1]at this;simp only[Bool.or_eq_true,bF,decide_eq_true_eq]at this;rcases this with (h|h)|h
 .omega
 .have:=pP cq h;omega
 .exact h
theorem zJ{ops:Array Oper}{rows:List Row}(hp:Plan ops rows)(hk:ir ops.toList rows=true){i j:Nat}{r q:Row}{d:Nat}(hr:rows[i]?=some r)(hq:rows[j]?=some q)(hd:r.o.dst=some d)(jq:d∈gF ops.toList q.o):
  bit q.dL i=true\/(bit r.dL j=true/\eO q.cls=false):=by
 unfold ir at hk;simp only[Bool.and_eq_true,jN,nL,List.all_eq_true]at hk;have:=hk.2 r (List.mem_of_getElem? hr);rw[hd]at this;simp only[List.all_eq_true,Bool.and_eq_true]at this;have:=(this q (List.mem_of_getElem? hq)).1;rw[memN_eq]at this;have hc:(gF ops.toList q.o).contains d=true:=by simpa using jq
 rw[hc,(hp.row i r hr).1,(hp.row j q hq).1]at this;simpa using this
theorem run_ok{cx:Cx}{K:eW}{ops:Array Oper}{ky rows:List Row}{c:Nat->CK}(hp0:Plan ops ky)(hk:ir ops.toList ky=true)(aP:∀(i:Nat)(r:Row),rows[i]?=some r->ky[i]?=some r)
  (hs:∀(i:Nat)(r:Row),rows[i]?=some r->vb cx K ops.toList r (c i) (c (i+1))):ov cx K ops.toList rows c:=by
 have hk0:=hk;unfold ir at hk;simp only[Bool.and_eq_true,jN,nL,List.all_eq_true]at hk;obtain⟨⟨h1,h2⟩,h3⟩:=hk;have num:∀(i:Nat)(r:Row),rows[i]?=some r->r.i=i:=fun i r h=>(hp0.row i r (aP i r h)).1;have lt:∀(i:Nat)(r:Row),rows[i]?=some r->r.dL<2 ^ i:=fun i r h=>sB hp0 hk0 (aP i r h);refine⟨hs,num,lt,fun i j r q hr hq he he' pD=>DZ hp0 hk0 (aP i r hr) (aP j q hq) he he' pD,fun i j r q d hr hq hd jq=>zJ hp0 hk0 (aP i r hr) (aP j q hq) hd jq,fun i j r q d hr hq hd jq=>?_⟩
 .have:=h3 r (List.mem_of_getElem? (aP i r hr));rw[hd]at this;simp only[List.all_eq_true,Bool.and_eq_true]at this;have:=(this q (List.mem_of_getElem? (aP j q hq))).2;rw[jq,num i r hr,num j q hq]at this;simp only[bF,Bool.or_eq_true,decide_eq_true_eq]at this;rcases this with h|h
  .exact h.symm
  .simp at h
theorem cnt_le{rows:List Row}{p:Row->Bool}{m:Nat}(h:∀(e:Nat)(r:Row),rows[e]?=some r->bK r.cls=true->p r=true->kz rows e<m):
  ∀k,(rows.take k).countP (fun r=>p r&&bK r.cls)<=m/\(rows.take k).countP (fun r=>p r&&bK r.cls)<=kz rows k:=by
 intro k
 induction k with
 |zero=>simp
 |succ k ih=>
  by_cases hk:k<rows.length
  .obtain⟨r,hr⟩:=iq hk;have h1:=h k r hr;rw[lD hr,List.take_add_one,hr,List.countP_append];cases he:bK r.cls<;>cases hp:p r
   .simp only[Option.toList,List.countP_cons,List.countP_nil,he,hp];simp;omega
   .simp only[Option.toList,List.countP_cons,List.countP_nil,he,hp];simp;omega
   .simp only[Option.toList,List.countP_cons,List.countP_nil,he,hp];simp;omega
   .have:=h1 he hp;simp only[Option.toList,List.countP_cons,List.countP_nil,he,hp];simp;omega
  .have e1:kz rows (k+1)=kz rows k:=by
    unfold kz;rw[List.take_of_length_le (by omega),List.take_of_length_le (by omega)]
   have e2:rows.take (k+1)=rows.take k:=by rw[List.take_of_length_le (by omega),List.take_of_length_le (by omega)]
   rw[e1,e2];exact ih
theorem cnt_ge{rows:List Row}{p:Row->Bool}{m:Nat}(h:∀(e:Nat)(r:Row),rows[e]?=some r->bK r.cls=true->kz rows e<m->p r=true):
  ∀k,m<=(rows.take k).countP (fun r=>p r&&bK r.cls)\/kz rows k<=(rows.take k).countP (fun r=>p r&&bK r.cls):=by
 intro k
 induction k with
 |zero=>simp[kz]
 |succ k ih=>
  by_cases hk:k<rows.length
  .obtain⟨r,hr⟩:=iq hk;have h1:=h k r hr;rw[lD hr,List.take_add_one,hr,List.countP_append];cases he:bK r.cls<;>cases hp:p r
   .simp only[Option.toList,List.countP_cons,List.countP_nil,he,hp];simp;omega
   .simp only[Option.toList,List.countP_cons,List.countP_nil,he,hp];simp;omega
   .have h2:¬kz rows k<m:=fun h2=>by rw[h1 he h2]at hp;cases hp
    simp only[Option.toList,List.countP_cons,List.countP_nil,he,hp];simp;omega
   .simp only[Option.toList,List.countP_cons,List.countP_nil,he,hp];simp;omega
  .have e1:kz rows (k+1)=kz rows k:=by
    unfold kz;rw[List.take_of_length_le (by omega),List.take_of_length_le (by omega)]
   have e2:rows.take (k+1)=rows.take k:=by rw[List.take_of_length_le (by omega),List.take_of_length_le (by omega)]
   rw[e1,e2];exact ih
section
variable{cx:Cx}{K:eW}{ops:List Oper}{rows:List Row}{c:Nat->CK}
theorem ov.window(h:ov cx K ops rows c)(yN:(c 0).cd=[]){i:Nat}{r:Row}(hr:rows[i]?=some r){v:AV}(hv:fG cx ops (c i).F (c i).S r.o=some v)(hF:(c (i+1)).F=bG (c i).F r.o.dst v)
  (hw:kX cx ops rows (c rows.length).F (eJ rows c) r=true) {L:Nat->Prop} {m:Nat} {Fs:Fr} (ha:AL rows c L Fs) {S:AS} (hS:(eJ rows c)[m]?=some S)
  (hlv:∀(i:Nat)(r:Row),rows[i]?=some r->bK r.cls=true->(L i↔kz rows i<m)) (hdown:∀(i:Nat)(r:Row)(j:Nat),rows[i]?=some r->L i->bit r.dL j=true->L j)
  (hn:¬L i) (hb:∀j,bit r.dL j=true->L j) (vJ:eO r.cls=true):fG cx ops Fs S r.o=some v:=by
 have hi:=ll hr;have se:m<(eJ rows c).length:=by
  rcases Nat.lt_or_ge m (eJ rows c).length with h1|h1
  .exact h1
  .rw[List.getElem?_eq_none h1]at hS;cases hS
 have hmM:m<=kz rows rows.length:=by rw[h.wh yN]at se;omega
 have tk:rows.take rows.length=rows:=List.take_length;have lo1:=(cnt_le (rows:=rows) (p:=fun e=>bit r.dL e.i) (m:=m) (fun e q hq he hp=>(hlv e q hq he).1 (hb e (by rw[<-h.num e q hq];exact hp))) rows.length).1;have BP:=cnt_ge (rows:=rows) (p:=fun e=>!bit e.dL r.i) (m:=m) (fun e q hq he hp=>by
  cases hbq:bit q.dL r.i with
  |false=>rfl
  |true=>rw[h.num i r hr]at hbq;exact absurd (hdown e q i hq ((hlv e q hq he).2 hp) hbq) hn) rows.length
 have lo2:=(cnt_le (rows:=rows) (p:=fun e=>bit r.dL e.i) (m:=kz rows i) (fun e q hq he hp=>(xa hq he).1 (by
  rw[h.num e q hq]at hp;exact pP (h.lt i r hr) hp)) rows.length).1
 have hi2:=cnt_ge (rows:=rows) (p:=fun e=>!bit e.dL r.i) (m:=kz rows i) (fun e q hq he hp=>by
  cases hbq:bit q.dL r.i with
  |false=>rfl
  |true=>
   rw[h.num i r hr]at hbq;have h1:=pP (h.lt e q hq) hbq;have h2:=(xa (i:=i) hq he).2 hp;omega) rows.length
 have hmi:kz rows i<=kz rows rows.length:=w9 (Nat.le_of_lt hi);rw[tk]at lo1 BP lo2 hi2;unfold kX at hw;simp only[Au,nL,List.countP_filter,ct,ca]at hw;generalize List.countP (fun e:Row=>bit r.dL e.i&&bK e.cls) rows=lo at *;generalize List.countP (fun e:Row=>!bit e.dL r.i&&bK e.cls) rows=hh at *;have at1:∀k S',lo<=k->k<=hh->(eJ rows c)[k]?=some S'->(((eJ rows c).drop lo).take (Nat.succ (Nat.sub hh lo)))[k-lo]?=some S':=by
  intro k S' h1 h2 h3;rw[List.getElem?_take,if_pos (by show k-lo<hh-lo+1;omega),List.getElem?_drop,Nat.add_sub_cancel' h1];exact h3
 have m1:=at1 m S lo1 (by omega) hS;have m2:=at1 (kz rows i) (c i).S lo2 (by omega) (h.snap yN (Nat.le_of_lt hi));generalize ((eJ rows c).drop lo).take (Nat.succ (Nat.sub hh lo))=may at *;have one':may.length=1->fG cx ops Fs S r.o=some v:=by
  intro hl;have e:∀(k:Nat)(S':AS),may[k]?=some S'->k=0:=fun k S' hk=>by
   rcases Nat.lt_or_ge k may.length with h1|h1
   .omega
   .rw[List.getElem?_eq_none h1]at hk;cases hk
  rw[e _ _ m1]at m1;rw[e _ _ m2,m1]at m2;cases m2;rw[iv (fun t ht=>h.now ha hr hb (.inl vJ) ht)];exact hv
 have many:(match r.o.dst with
  |some d=>cond (Nat.blt d (c rows.length).F.n) (match (c rows.length).F.t.get d with
   |some v=>ew (fun S=>match fG cx ops (c rows.length).F S r.o with
    |some u=>fa 8 v u
    |none=>false) may
   |none=>false) false
  |none=>false)=true->fG cx ops Fs S r.o=some v:=by
  intro hw;cases hd:r.o.dst with
  |none=>rw[hd]at hw;cases hw
  |some d=>
   rw[hd]at hw;simp only[]at hw;cases cq:Nat.blt d (c rows.length).F.n with
   |false=>rw[cq]at hw;cases hw
   |true=>
    rw[cq]at hw;simp only[cond_true]at hw;have mV:(c rows.length).F.t.get d=some v:=by
     have h1:(c rows.length).F.t.get d=(c (i+1)).F.t.get d:=h.cg _ hi (Nat.le_refl _) fun k q hk _ hq jq=>by
      have:=h.single i k r q d hr hq hd jq;omega
     rw[h1,hF,hd,mM,if_pos];rw[h.n i (Nat.le_of_lt hi),<-h.n rows.length (Nat.le_refl _)];simpa using cq
    rw[mV]at hw;simp only[jN,List.all_eq_true]at hw;have:=hw S (List.mem_of_getElem? m1);rw[iv (F':=Fs) (fun t ht=>by
     rw[h.now h.all hr (fun _ _=>trivial) (.inl vJ) ht,h.now ha hr hb (.inl vJ) ht])]at this
    cases hu:fG cx ops Fs S r.o with
    |none=>rw[hu]at this;cases this
    |some u=>rw[hu]at this;rw[sameVF_eq 8 v u this]
 cases hmay:may with
 |nil=>rw[hmay]at m1;simp at m1
 |cons x xs=>
  cases xs with
  |nil=>exact one' (by rw[hmay];rfl)
  |cons y ys=>
   rw[hmay]at hw;exact many (by rw[hmay];exact hw)
end
theorem cnt_lt{α:Type}{p p':α->Bool}:∀(l:List α)(x:α),(∀y,p' y=true->p y=true)->x∈l->p x=true->p' x=false->l.countP p'<l.countP p:=by
 intro l
 induction l with
 |nil=>intro x _ hx;cases hx
 |cons z l ih=>
  intro x h hx h1 h2;have le:l.countP p'<=l.countP p:=List.countP_mono_left fun y _=>h y;rw[List.countP_cons,List.countP_cons];cases hx with
  |head=>rw[h1,h2];simp;omega
  |tail _ hx=>
   have:=ih x h hx h1 h2;have hz:=h z;cases e1:p' z<;>cases e2:p z<;>simp<;>first|omega|(rw[e1,e2]at hz;simp at hz)
theorem orders{P:Program}{cx:Cx}(aC:dq Λ P cx)(hm:P.follows .mixedOrders=true){ro:Option Nat}{K:eW}(hK:yh Λ P K){ops:Array Oper}{rid:Nat}{Q:Exit->Act->World->Prop}{ρ:aO}{F:Fr}{S:AS}{w:World}{a:Act}
  (hR:R Λ ρ S w) (hF:dT ρ F a) {ky rows:List Row} {c:Nat->CK} (iX:Plan ops ky) (pF:∀(i:Nat)(r:Row),ky[i]?=some r->r.cls=.pure\/r.cls=.read->fY cx r.o=r.cls)
  (hlt0:∀(i:Nat)(r:Row),ky[i]?=some r->r.dL<2 ^ i) (EE:∀(i:Nat)(r:Row),i<rows.length->ky[i]?=some r->rows[i]?=some r) (hle:rows.length<=ky.length)
  (hcount:rows.countP (fun r=>bQ r.cls)<=ky.countP (fun r=>bQ r.cls)) (h:ov cx K ops.toList rows c) (pG:c 0=⟨F,⟨S.h,Nat.add S.next (fp (fun r=>bQ r.cls) ky)⟩,[],[],S.next⟩)
  (tZ:∀q,q∈rows->cond (eO q.cls) (kX cx ops.toList rows (c rows.length).F (eJ rows c) q) true=true)
  (hblock:∀(j:Nat)(r:Row),rows.length<j->ky[j]?=some r->bit r.dL rows.length=true)
  (hdone:rows.length=ky.length->∀(L:Nat->Prop)(m:Nat)(Fs:Fr)(ρ':aO)(S':AS)(w':World)(a':Act),Inv Λ cx ops.toList rows c ρ S w L m Fs ρ' S' w' a'->(∀i,i<rows.length->L i)->Q .normal a' w')
  (hstop:∀r,ky[rows.length]?=some r->∀(L:Nat->Prop)(m:Nat)(Fs:Fr)(ρ':aO)(S':AS)(w':World)(a':Act)(next:Act->World->Prop),Inv Λ cx ops.toList rows c ρ S w L m Fs ρ' S' w' a'->(∀j,bit r.dL j=true->L j)->wpOpIn (GF ro) 0 P ops Q rows.length next a' w') :
  (Code.region rid ops true).wpIn (GF ro) 0 P Q a w:=by
 have yN:(c 0).cd=[]:=by rw[pG]
 have hp0:(c 0).ps=[]:=by rw[pG]
 have bY:(c 0).id=S.next:=by rw[pG]
 have hlen:=iX.len;have main:∀(fuel:Nat)(listed:Array Bool)(m:Nat)(Fs:Fr)(ρ':aO)(S':AS)(w':World)(a':Act),listed.size=ops.size->(∀j,rows.length<=j->listed.getD j false=false) ->
   Inv Λ cx ops.toList rows c ρ S w (fun j=>listed.getD j false=true) m Fs ρ' S' w' a'->(List.range ops.size).countP (fun i=>!listed.getD i false)<=fuel ->
   wpAnyIn (GF ro) 0 P .any ops Q fuel listed a' w':=by
  have done:∀(listed:Array Bool)(m:Nat)(Fs:Fr)(ρ':aO)(S':AS)(w':World)(a':Act),listed.size=ops.size->(∀j,rows.length<=j->listed.getD j false=false) ->
    Inv Λ cx ops.toList rows c ρ S w (fun j=>listed.getD j false=true) m Fs ρ' S' w' a'->Region.ready .any ops listed=[]->Q .normal a' w':=by
   intro listed m Fs ρ' S' w' a' lT mW hv hready;have hrdy:∀i,i<ops.size->(∀k,k<i->listed.getD k false=true)->listed.getD i false=true:=by
    intro i hi ih;cases hli:listed.getD i false with
    |true=>rfl
    |false=>
     exfalso;obtain⟨r,hr⟩:=iq (rows:=ky) (i:=i) (by omega);have hio:=(iX.row i r hr).2;have:i∈Region.ready .any ops listed:=by
      rw[mem_ready];refine⟨?_,r.o,hio,fun e he hb=>?_⟩
      .have:i<listed.size:=by omega
       simpa[Array.getD,this]using hli
      .have hbit:=iX.edge i r e hr (by simpa using he) hb;have cq:=pP (hlt0 i r hr) hbit;exact ih e.on cq
     rw[hready]at this;cases this
   have jW:∀i,i<rows.length->listed.getD i false=true:=by
    intro i
    induction i using Nat.strongRecOn with
    |_ i ih=>exact fun hi=>hrdy i (by omega) fun k hk=>ih k hk (by omega)
   rcases Nat.lt_or_ge rows.length ops.size with cq|Ag
   .have h1:=hrdy rows.length cq jW;rw[mW _ (Nat.le_refl _)]at h1;cases h1
   .exact hdone (by omega) _ m Fs ρ' S' w' a' hv jW
  intro fuel
  induction fuel with
  |zero=>
   intro listed m Fs ρ' S' w' a' lT mW hv hfuel;have hr:Region.ready .any ops listed=[]:=by
    cases vJ:Region.ready .any ops listed with
    |nil=>rfl
    |cons i l=>
     exfalso;have hi:i∈Region.ready .any ops listed:=by rw[vJ];simp
     obtain⟨h1,o,ho,_⟩:=mem_ready.1 hi;have cq:i<ops.size:=(Array.getElem?_eq_some_iff.1 ho).1;have h2:listed.getD i false=false:=by
      have:i<listed.size:=by omega
      simpa[Array.getD,this]using h1
     have:0<(List.range ops.size).countP (fun i=>!listed.getD i false):=List.countP_pos_iff.2 ⟨i,by simpa using cq,by rw[h2];rfl⟩;omega
   exact⟨hr,done listed m Fs ρ' S' w' a' lT mW hv hr⟩
  |succ fuel ih=>
   intro listed m Fs ρ' S' w' a' lT mW hv hfuel;refine⟨fun hr=>done listed m Fs ρ' S' w' a' lT mW hv hr,fun i hi=>?_⟩;obtain⟨h1,o,ho,hedges⟩:=mem_ready.1 hi;have cq:i<ops.size:=(Array.getElem?_eq_some_iff.1 ho).1;have hli:listed.getD i false=false:=by
    have:i<listed.size:=by omega
    simpa[Array.getD,this]using h1
   have hn:¬listed.getD i false=true:=by rw[hli];simp
   obtain⟨r,CN⟩:=iq (rows:=ky) (i:=i) (by omega);have hio:=(iX.row i r CN).2;rw[ho]at hio;obtain rfl:o=r.o:=Option.some.inj hio;have hb:∀j,bit r.dL j=true->listed.getD j false=true:=by
    intro j hj;obtain⟨e,he,ue,h2⟩:=iX.down i r j CN hj;have hL:=hedges e (by simpa using he) ue;rcases h2 with rfl|⟨r',eS,hj'⟩
    .exact hL
    .have hel:e.on<rows.length:=by
      rcases Nat.lt_or_ge e.on rows.length with h1|h1
      .exact h1
      .rw[mW _ h1]at hL;cases hL
     exact hv.down e.on r' j (EE _ _ hel eS) hL hj'
   rcases Nat.lt_trichotomy i rows.length with hil|rfl|hil
   rotate_left
   .exact hstop r CN _ m Fs ρ' S' w' a' _ hv hb
   .have h1:=hb _ (hblock i r hil CN);rw[mW _ (Nat.le_refl _)]at h1;cases h1
   have hr:=EE i r hil CN;have hL':∀j,((listed.setIfInBounds i true).getD j false=true)↔(listed.getD j false=true)\/j=i:=by
    intro j;by_cases uU:i=j
    .subst uU;have:i<listed.size:=by omega
     simp[this]
    .rw[getD_set_ne false uU];simp[Ne.symm uU]
   have hcnt:(List.range ops.size).countP (fun j=>!(listed.setIfInBounds i true).getD j false)<=fuel:=by
    have:=cnt_lt (p:=fun j=>!listed.getD j false) (p':=fun j=>!(listed.setIfInBounds i true).getD j false) (List.range ops.size) i (fun y hy=>by
     cases hy0:listed.getD y false with
     |false=>rfl
     |true=>rw[(hL' y).2 (.inl hy0)]at hy;cases hy) (by simpa using cq) (by rw[hli];rfl) (by rw[(hL' i).2 (.inr rfl)];rfl)
    omega
   have hsz':(listed.setIfInBounds i true).size=ops.size:=by simpa using lT
   have hcap':∀j,rows.length<=j->(listed.setIfInBounds i true).getD j false=false:=fun j hj=>by
    cases hq:(listed.setIfInBounds i true).getD j false with
    |false=>rfl
    |true=>
     rcases (hL' j).1 hq with h1|h1
     .rw[mW j hj]at h1;cases h1
     .omega
   have A8:=fun t ht=>h.now hv.ag hr hb (.inr fun k q hk hbk hLk=>hn (hv.down k q i hk hLk hbk)) (t:=t) ht;have value:∀v,bK r.cls=false->(∀q,¬Laid cx ops.toList rows c i q)->(c (i+1)).F=bG (c i).F r.o.dst v->one cx K ops.toList r.o Fs S'=.ok (false,v,S') [] ->
     wpOpIn (GF ro) 0 P ops Q i (wpAnyIn (GF ro) 0 P .any ops Q fuel (listed.setIfInBounds i true)) a' w':=by
    intro v he jL hFv sM;refine Br aC hK hv.R hv.F ho ?_;rw[sM];refine⟨fun ρ2 e w2 hx hR2 vl=>?_,fun y hy=>by cases hy⟩;obtain⟨x,rfl,hx2⟩:=hx.val;exact ih _ m _ ρ2 S' w2 _ hsz' hcap' (hv.value h hr hn hb hL' he jL hFv hx2 hR2 vl) hcnt
   rcases h.step i r hr with⟨hc,⟨hw,v,x,hf,e⟩|⟨hw,e⟩⟩|⟨hc,v,S2,sM,e⟩|⟨hc,v,sM,e⟩
   ·-- a block is laid
    have xu:Laid cx ops.toList rows c i ⟨r.i,(c i).id,x⟩:=⟨⟨r,v,hr,hc,hw,hf⟩,h.num i r hr,rfl⟩
    have hFv:(c (i+1)).F=bG (c i).F r.o.dst v:=by rw[e]
    have hw':wanted ops.toList Fs r.o=some true:=by rw[kI A8];exact hw
    have EJ:aA cx Fs (c i).id r.o.op=some (v,x):=by rw[jb (tH A8)];exact hf
    obtain⟨s,gA,y,o',w2,lE,hg,qK,yL⟩:=Ai (P:=P) aC hv.F EJ w';unfold wpOpIn;simp only[ho];rw[mC hv.F hw'];simp only[if_true];refine⟨fun f _=>AK ro f,?_⟩;have BN:∀c,r.o.op≠.defer c:=by
     intro c e;rw[e]at EJ;cases EJ
    rw[Oper.semAt_eq _ _ _ BN];have hrun2:(execOp a'.eval r.o).run P w'=.ok (.value y) w2:=by
     rw[gA];simp only[Sem.run_bind,lE,Result.andThen_ok,Sem.run_pure]
    rw[hrun2];show wpAnyIn (GF ro) 0 P .any ops Q fuel (listed.setIfInBounds i true) (a'.put r.o.dst y) w2;obtain⟨pl,lV,hplb⟩:∃pl:Pl,AJ pl.b pl x o'/\pl.b=w'.heap.size:=by
     cases x with
     |row cells low top frz ty=>
      obtain⟨rfl,rfl,rfl,C,rfl,r2,r3⟩:=qK;exact⟨⟨w'.heap.size,0,cells.length,C.size,by omega⟩,⟨rfl,rfl,rfl,rfl⟩,rfl⟩
     |map es clock=>
      obtain⟨ES,rfl,r2⟩:=qK;exact⟨⟨w'.heap.size,0,0,0,by omega⟩,rfl,rfl⟩
     |jk y=>exact⟨⟨w'.heap.size,0,0,0,by omega⟩,⟨rfl,rfl⟩,rfl⟩
    exact ih _ m _ _ S' w2 _ hsz' hcap' (hv.lay h hr hn hb hL' (by rw[hc];rfl) xu (by rw[<-bY];exact (xu.top h).1) hFv hg qK yL lV hplb) hcnt
   .refine value .undef (by rw[hc];rfl) (fun q hl=>?_) (by rw[e]) ?_
    .obtain⟨⟨r',v,eS,_,hw',_⟩,_⟩:=hl;rw[hr]at eS;cases eS;rw[hw]at hw';cases hw'
    .unfold one;rw[kI A8,hw]
   ·-- it acts
    have he:bK r.cls=true:=by rw[hc];rfl
    have gN:=hv.level h hr hn hb he;have hS:S'=(c i).S:=by
     have h2:=hv.st;rw[<-gN,h.snap yN (Nat.le_of_lt (ll hr))]at h2;exact (Option.some.inj h2).symm
    obtain⟨c1,c2,c3,c4⟩:=hv.bf h hp0 bY (Nat.le_of_lt (ll hr)) gN (fun p=>bit r.dL p.i) (fun j q e hp _=>by subst e;exact hb _ hp);refine Br aC hK c1 hv.F ho ?_;rw[zO A8,hS,sM];refine⟨fun ρ2 ed w2 hx hR2 vl=>?_,fun y hy=>by cases hy⟩;obtain⟨x,rfl,hx2⟩:=hx.val;have c7:S2=(c (i+1)).S:=by rw[e]
    simp only[c7]at hR2 vl;rw[<-hS]at vl;exact ih _ (m+1) _ ρ2 _ w2 _ hsz' hcap' (hv.act h yN hp0 bY hr hn hb hL' he (by rw[e]) hx2 hR2 vl) hcnt
   ·-- it only gives
    have qY:=pF i r CN hc;have iO:fY cx r.o=.pure\/fY cx r.o=.read:=by rw[qY];exact hc
    have hFv:(c (i+1)).F=bG (c i).F r.o.dst v:=by rw[e]
    have hov:fG cx ops.toList Fs S' r.o=some v:=by
     rcases hc with hc|hc
     .rw[iv A8];exact oneV_pure (qY.trans hc) sM
     .have mj:=tZ r (List.mem_of_getElem? hr);rw[hc]at mj;exact h.window yN hr sM hFv mj hv.ag hv.st hv.lv hv.down hn hb (by rw[hc];rfl)
    refine value v (by rcases hc with hc|hc<;>rw[hc]<;>rfl) (fun q hl=>?_) hFv (oneV_one iO hov);obtain⟨⟨r',v,eS,hc2,_⟩,_⟩:=hl;rw[hr]at eS;cases eS;rw[hc2]at hc;rcases hc with hc|hc<;>cases hc
 refine wpIn_region_any hm ?_;refine main ops.size _ 0 F ρ (c 0).S _ a (by simp) (fun j _=>by simp only[Array.getD_eq_getD_getElem?,Array.getElem?_replicate];split<;>simp) ?_ (Nat.le_trans (List.countP_le_length) (by simp));have hlev0:kz rows 0=0:=rfl;have hR0:R Λ ρ (c 0).S {w with drawn:=w.drawn+1}:=by
  rw[pG];have h2:=hR.drawn (w.drawn+1);exact⟨h2.iM,fun i o ho=>Nat.lt_of_lt_of_le (h2.sY i o ho) (Nat.le_add_right _ _),fun i g hi=>h2.fresh i g (Nat.le_trans (Nat.le_add_right _ _) hi),h2.qF,h2.lt,h2.apart,h2.start,h2.base⟩
 have empty:∀j,¬(Array.replicate ops.size false).getD j false=true:=by
  intro j;simp only[Array.getD_eq_getD_getElem?,Array.getElem?_replicate];split<;>simp
 have hkp:Kp ρ S w ρ (c 0).S {w with drawn:=w.drawn+1}:=by
  rw[pG];exact⟨Ext.refl _,rfl,rfl,rfl,Nat.le_refl _,fun _ _ _=>rfl,fun _ h=>.inl h,fun _ h=>.inl h,Nat.le_add_right _ _,fun _ _ _ h=>⟨rfl,h⟩⟩
 refine⟨hR.start,by rw[<-hlev0];exact h.snap yN (Nat.zero_le _),fun i r hr he=>⟨fun h1=>absurd h1 (empty i),fun h1=>by omega⟩,fun i r j _ h1=>absurd h1 (empty i),hR0,hF,⟨by rw[pG],by rw[pG],fun t i _ h1=>absurd h1 (empty i),fun t _=>by rw[pG]⟩,hkp,fun j q hl _=>?_,fun j j' q q' x y _ hl _ _ _ h1 _=>?_⟩
 .have ht:=hl.top h;rw[bY]at ht;have hnone:S.h.get q.id=none:=by
   cases hg:S.h.get q.id with
   |none=>rfl
   |some o=>have:=hR.sY _ _ hg;omega
  refine⟨by rw[pG];exact hnone,?_,fun h1=>absurd h1 (empty j),fun _ g=>hR.fresh _ g ht.1⟩;rw[pG,Au];exact Nat.lt_of_lt_of_le ht.2 (Nat.add_le_add_left hcount _)
 .have ht:=hl.top h;rw[bY]at ht;rw[hR.fresh _ 0 ht.1]at h1;cases h1
theorem si(F:Fr)(t:Nat):∀(rows:List Row),(topF rows F).n=F.n/\(topF rows F).ds=F.ds/\((topF rows F).t.get t=some .top\/((topF rows F).t.get t=F.t.get t/\∀r,r∈rows->r.o.dst=some t->¬t<F.n))
 |[]=>⟨rfl,rfl,.inr ⟨rfl,fun r hr=>by cases hr⟩⟩
 |r::rows=>by
  obtain⟨h1,h2,h3⟩:=si F t rows;have e:topF (r::rows) F=bG (topF rows F) r.o.dst .top:=rfl;rw[e,putD_n,Bg];refine⟨h1,h2,?_⟩;by_cases hd:r.o.dst=some t
  .rw[hd,mM,h1];by_cases ht:t<F.n
   .rw[if_pos ht];exact .inl rfl
   .rw[if_neg ht];rcases h3 with h3|⟨h3,h4⟩
    .exact .inl h3
    .refine .inr ⟨h3,fun q hq BM=>?_⟩;rcases List.mem_cons.1 hq with rfl|hq
     .exact ht
     .exact h4 q hq BM
  .rw[sy hd];rcases h3 with h3|⟨h3,h4⟩
   .exact .inl h3
   .refine .inr ⟨h3,fun q hq BM=>?_⟩;rcases List.mem_cons.1 hq with rfl|hq
    .exact absurd BM hd
    .exact h4 q hq BM
theorem E7{P:Program}{cx:Cx}(aC:dq Λ P cx)(hm:P.follows .mixedOrders=true):DrawnOk Λ P cx:=by
 intro ro K hK ops rid Q ρ F S w a hR hF oB;unfold fb at oB;obtain⟨iX,pF⟩:=tL cx ops;generalize settle (dx cx ops.toList)=rows at iX pF oB;cases hpk:ir ops.toList rows with
 |false=>simp only[hpk,cond_false]at oB;exact oB.elim
 |true=>
 simp only[hpk,cond_true]at oB;obtain⟨c,pG,hend⟩:=trace cx K ops.toList rows ⟨F,⟨S.h,Nat.add S.next (fp (fun r=>bQ r.cls) rows)⟩,[],[],S.next⟩ _ (av.all_bind oB);have hlen:=iX.len;have yN:(c 0).cd=[]:=by rw[pG]
 have hp0:(c 0).ps=[]:=by rw[pG]
 have bY:(c 0).id=S.next:=by rw[pG]
 rcases hend with⟨xk,mV⟩|⟨n,r,v,S2,hrn,hrc,xk,sM,hlater,mV⟩
 .have h:=run_ok iX hpk (fun i r hr=>hr) xk;unfold qz at mV;simp only[]at mV;have hrev:wz ((c rows.length).S::(c rows.length).cd)=eJ rows c:=vy _;rw[hrev]at mV;cases tZ:oG cx ops.toList rows (c rows.length).F (eJ rows c)with
  |false=>rw[tZ]at mV;exact mV.elim
  |true=>
  rw[tZ]at mV;have hQ:=mV.1;simp only[]at hQ;unfold oG at tZ;rw[jN,List.all_eq_true]at tZ;refine orders aC hm hK hR hF iX pF (fun i r hr=>sB iX hpk hr) (fun i r _ hr=>hr) (Nat.le_refl _) (Nat.le_refl _) h pG tZ (fun j r hj hr=>absurd (ll hr) (by omega)) ?_ (fun r hr=>absurd (ll hr) (by omega));intro _ L m Fs ρ' S' w' a' hv jW;have hmM:m=kz rows rows.length:=by
   have h1:m<(eJ rows c).length:=by
    rcases Nat.lt_or_ge m (eJ rows c).length with h1|h1
    .exact h1
    .have:=hv.st;rw[List.getElem?_eq_none h1]at this;cases this
   rw[h.wh yN]at h1;rcases xc (rows:=rows) rows.length with h2|⟨e,q,h2,h3,h4,h5⟩
   .omega
   .have:=(hv.lv e q h3 h4).1 (jW e h2);omega
  have hS:S'=(c rows.length).S:=by
   have h1:=hv.st;rw[hmM,h.snap yN (Nat.le_refl _)]at h1;exact (Option.some.inj h1).symm
  obtain⟨c1,c2,_⟩:=hv.bf h hp0 bY (Nat.le_refl _) hmM.symm (fun _=>true) (fun j q _ _ hl=>jW j (hl.next h).2.1);rw[hS]at c1 c2;refine hQ ρ' .normal a' w' rfl c1 ⟨fun t=>?_,?_,by rw[h.ds _ (Nat.le_refl _),<-hv.ag.ds];exact hv.F.defers⟩ c2
  .have e:(c rows.length).F.t.get t=Fs.t.get t:=by
    by_cases hw:∃i,uG rows t i
    .obtain⟨i,hi⟩:=hw;obtain⟨q,hq,_⟩:=id hi;exact (hv.ag.yes t i hi (jW i (ll hq))).symm
    .rw[hv.ag.no t fun i hi _=>hw ⟨i,hi⟩];exact h.all.no t fun i hi _=>hw ⟨i,hi⟩
   rw[e];exact hv.F.slot t
  .rw[hv.F.size,hv.ag.n,h.n _ (Nat.le_refl _)]
 .have yu:=ll hrn;have hri:=(iX.row n r hrn).1;obtain⟨pre,EE⟩:∃pre,pre=rows.take n:=⟨_,rfl⟩
  have lV:pre.length=n:=by rw[EE,List.length_take];omega
  have aP:∀(i:Nat)(q:Row),pre[i]?=some q->rows[i]?=some q/\i<n:=fun i q hq=>by
   rw[EE,List.getElem?_take]at hq;split at hq
   .rename_i hi;exact⟨hq,hi⟩
   .cases hq
  have hinv:∀(i:Nat)(q:Row),i<n->rows[i]?=some q->pre[i]?=some q:=fun i q hi hq=>by
   rw[EE,List.getElem?_take,if_pos hi];exact hq
  have h:=run_ok (rows:=pre) iX hpk (fun i q hq=>(aP i q hq).1) (fun i q hq=>xk i q (aP i q hq).2 (aP i q hq).1);unfold qz at mV;simp only[hri,ct,<-EE]at mV;have hrev:wz ((c n).S::(c n).cd)=eJ pre c:=by rw[<-lV];exact vy _
  rw[hrev]at mV;cases tZ:oG cx ops.toList pre (c n).F (eJ pre c)with
  |false=>rw[tZ]at mV;exact mV.elim
  |true=>
  rw[tZ]at mV;have hQ:=mV.1;simp only[]at hQ;unfold oG at tZ;rw[jN,List.all_eq_true]at tZ;refine orders (rows:=pre) aC hm hK hR hF iX pF (fun i r hr=>sB iX hpk hr) (fun i q hi hq=>hinv i q (by omega) hq) (by omega) ?_ h pG (by rw[lV];exact tZ)
   (fun j q hj hq=>by rw[lV]at hj⊢;rw[<-hri];exact hlater j q hj hq) (fun e=>by omega) ?_
  .rw[EE];exact (List.take_sublist n rows).countP_le
  intro q hq L m Fs ρ' S' w' a' next hv hb
  rw[lV,hrn]at hq;cases hq;have hrn':=hrn;have heff:∀(e:Nat)(q:Row),pre[e]?=some q->bK q.cls=true->L e:=fun e q he hq=>hb e (by
   obtain⟨h1,h2⟩:=aP e q he;exact DZ iX hpk h1 hrn hq (by rw[hrc];rfl) h2)
  have hmM:m=kz pre pre.length:=by
   have h1:m<(eJ pre c).length:=by
    rcases Nat.lt_or_ge m (eJ pre c).length with h1|h1
    .exact h1
    .have:=hv.st;rw[List.getElem?_eq_none h1]at this;cases this
   rw[h.wh yN]at h1;rcases xc (rows:=pre) pre.length with h2|⟨e,q,h2,h3,h4,h5⟩
   .omega
   .have:=(hv.lv e q h3 h4).1 (heff e q h3 h4);omega
  have hS:S'=(c n).S:=by
   have h1:=hv.st;rw[hmM,h.snap yN (Nat.le_refl _),lV]at h1;exact (Option.some.inj h1).symm
  obtain⟨c1,c2,c3,c4⟩:=hv.bf h hp0 bY (Nat.le_refl _) hmM.symm (fun p=>bit r.dL p.i) (fun j q e hp _=>by subst e;exact hb _ hp);rw[lV]at c1 c2⊢;have A8:∀t,t∈gF ops.toList r.o->Fs.t.get t=(c n).F.t.get t:=by
   intro t ht;by_cases hw:∃i,uG pre t i
   .obtain⟨i,q,hq,hd⟩:=hw;obtain⟨h1,h2⟩:=aP i q hq;have hbi:bit r.dL i=true:=by
     rcases zJ iX hpk h1 hrn hd ht with sQ|⟨sQ,_⟩
     .exact sQ
     .have:=pP (sB iX hpk h1) sQ;omega
    have:=hv.ag.yes t i ⟨q,hq,hd⟩ (hb i hbi)
    rwa [lV]at this
   .rw[hv.ag.no t fun i hi _=>hw ⟨i,hi⟩];have:=h.all.no t fun i hi _=>hw ⟨i,hi⟩;rw[lV]at this;exact this.symm
  refine Br aC hK c1 hv.F (iX.row n r hrn).2 ?_;rw[zO A8,hS,sM];refine⟨fun ρ2 ed w2 hx hR2 vl=>?_,fun y hy=>by cases hy⟩;obtain⟨x,rfl,hx2⟩:=hx.dP;rw[hS]at c2;refine hQ ρ2 _ a' w2 ⟨x,rfl,hx2⟩ hR2 ⟨fun t=>?_,?_,?_⟩ (c2.trans vl)
  .obtain⟨e1,e2,e3⟩:=si (c n).F t rows;rcases e3 with e3|⟨e3,e4⟩
   .rw[e3];simp only[ah]
   .rw[e3];have jL:(c n).F.t.get t=Fs.t.get t:=by
     by_cases hw:∃i,uG pre t i
     .obtain⟨i,q,hq,hd⟩:=hw;have hnt:¬t<(c n).F.n:=e4 q (List.mem_of_getElem? (aP i q hq).1) hd;have a1:∀k,k<=n->(c k).F.t.get t=(c 0).F.t.get t:=by
       intro k hk
       induction k with
       |zero=>rfl
       |succ k ih=>
        obtain⟨q',hq'⟩:=iq (rows:=pre) (i:=k) (by omega);obtain⟨u,hu⟩:=cW (h.step k q' hq');rw[hu];by_cases jq:q'.o.dst=some t
        .rw[jq,mM,if_neg (by rw[h.n k (by omega),<-h.n n (by omega)];exact hnt)];exact ih (by omega)
        .rw[sy jq];exact ih (by omega)
      by_cases hLi:L i
      .have:=hv.ag.yes t i ⟨q,hq,hd⟩ hLi;rw[lV]at this;exact this.symm
      .rw[hv.ag.no t fun k hk hLk=>by
        obtain⟨q',hq',jq⟩:=hk;have:=h.single i k q q' t hq hq' hd jq;subst this;exact hLi hLk]
       exact a1 n (Nat.le_refl _)
     .rw[hv.ag.no t fun i hi _=>hw ⟨i,hi⟩];have:=h.all.no t fun i hi _=>hw ⟨i,hi⟩;rw[lV]at this;exact this
    rw[jL];exact (hv.F.mono vl.ext).slot t
  .obtain⟨e1,e2,e3⟩:=si (c n).F 0 rows;rw[e1,hv.F.size,hv.ag.n,h.n n (by omega)]
  .obtain⟨e1,e2,e3⟩:=si (c n).F 0 rows;rw[e2,h.ds n (by omega),<-hv.ag.ds];exact (hv.F.mono vl.ext).defers
end Go.Am
