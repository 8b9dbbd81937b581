/-
  The abstract machine: the run of a region that draws its order. Frames, levels, numbers: plain facts.
-/
import Derived.Test.YtdknlbnljfdhgaaGreatDoorAmTrace
namespace Go.Am
open Go
structure ov(cx:Cx)(K:eW)(ops:List Oper)(rows:List Row)(c:Nat->CK):Prop where
 step:∀(i:Nat)(r:Row),rows[i]?=some r->vb cx K ops r (c i) (c (i+1))
 num:∀(i:Nat)(r:Row),rows[i]?=some r->r.i=i
 lt:∀(i:Nat)(r:Row),rows[i]?=some r->r.dL<2 ^ i
 tot:∀(i j:Nat)(r q:Row),rows[i]?=some r->rows[j]?=some q->bK r.cls=true->bK q.cls=true->i<j->bit q.dL i=true
 A8:∀(i j:Nat)(r q:Row)(d:Nat),rows[i]?=some r->rows[j]?=some q->r.o.dst=some d->d∈gF ops q.o->bit q.dL i=true\/(bit r.dL j=true/\eO q.cls=false)
 single:∀(i j:Nat)(r q:Row)(d:Nat),rows[i]?=some r->rows[j]?=some q->r.o.dst=some d->q.o.dst=some d->i=j
theorem isEff_iff{c:Cls}:bK c=true↔c=.yV:=by cases c<;>simp[bK]
theorem putD_n(F:Fr)(dst:Option Tmp)(v:AV):(bG F dst v).n=F.n:=by
 cases dst with
 |none=>rfl
 |some d=>rw[jz];cases Nat.blt d F.n<;>rfl
theorem Bg(F:Fr)(dst:Option Tmp)(v:AV):(bG F dst v).ds=F.ds:=by
 cases dst with
 |none=>rfl
 |some d=>rw[jz];cases Nat.blt d F.n<;>rfl
theorem sy{F:Fr}{dst:Option Tmp}{v:AV}{t:Nat}(h:dst≠some t):(bG F dst v).t.get t=F.t.get t:=by
 cases dst with
 |none=>rfl
 |some d=>
  rw[jz];cases Nat.blt d F.n with
  |false=>rfl
  |true=>exact ae _ _ (fun e=>h (by rw[e]))
theorem mM{F:Fr}{v:AV}{t:Nat}:(bG F (some t) v).t.get t=if t<F.n then some v else F.t.get t:=by
 rw[jz];by_cases h:t<F.n
 .have:Nat.blt t F.n=true:=by simpa using h
  rw[this,if_pos h];exact aa _ _ _
 .have:Nat.blt t F.n=false:=by
   cases hb:Nat.blt t F.n with
   |false=>rfl
   |true=>exact absurd (by simpa using hb) h
  rw[this,if_neg h];rfl
theorem cW{cx:Cx}{K:eW}{ops:List Oper}{r:Row}{c c':CK}(h:vb cx K ops r c c'):∃v,c'.F=bG c.F r.o.dst v:=by
 rcases h with⟨_,⟨_,v,x,_,rfl⟩|⟨_,rfl⟩⟩|⟨_,v,S2,_,rfl⟩|⟨_,v,_,rfl⟩<;>exact⟨_,rfl⟩
section
variable{cx:Cx}{K:eW}{ops:List Oper}{rows:List Row}{c:Nat->CK}
theorem iq{i:Nat}(h:i<rows.length):∃r,rows[i]?=some r:=⟨rows[i],List.getElem?_eq_getElem h⟩
theorem ll{i:Nat}{r:Row}(h:rows[i]?=some r):i<rows.length:=by
 rcases Nat.lt_or_ge i rows.length with h1|h1
 .exact h1
 .rw[List.getElem?_eq_none h1]at h;cases h
theorem ov.n(h:ov cx K ops rows c):∀i,i<=rows.length->(c i).F.n=(c 0).F.n:=by
 intro i
 induction i with
 |zero=>intro _;rfl
 |succ i ih=>
  intro hi;obtain⟨r,hr⟩:=iq hi;obtain⟨v,hv⟩:=cW (h.step i r hr);rw[hv,putD_n];exact ih (by omega)
theorem ov.ds(h:ov cx K ops rows c):∀i,i<=rows.length->(c i).F.ds=(c 0).F.ds:=by
 intro i
 induction i with
 |zero=>intro _;rfl
 |succ i ih=>
  intro hi;obtain⟨r,hr⟩:=iq hi;obtain⟨v,hv⟩:=cW (h.step i r hr);rw[hv,Bg];exact ih (by omega)
theorem ov.cg(h:ov cx K ops rows c){t:Nat}{i:Nat}:∀j,i<=j->j<=rows.length->(∀(k:Nat)(r:Row),i<=k->k<j->rows[k]?=some r->r.o.dst≠some t)->(c j).F.t.get t=(c i).F.t.get t:=by
 intro j
 induction j with
 | zero => intro h1 _ _; have : i = 0 := by omega
           subst this;rfl
 |succ j ih=>
  intro h1 h2 h3;by_cases pD:i=j+1
  .subst pD;rfl
  .obtain⟨r,hr⟩:=iq (rows:=rows) h2;obtain⟨v,hv⟩:=cW (h.step j r hr);rw[hv,sy (h3 j r (by omega) (by omega) hr)];exact ih (by omega) (by omega) fun k r hk1 vl=>h3 k r hk1 (by omega)
def uG(rows:List Row)(t i:Nat):Prop:=∃r,rows[i]?=some r/\r.o.dst=some t
structure AL(rows:List Row)(c:Nat->CK)(L:Nat->Prop)(F:Fr):Prop where
 n:F.n=(c 0).F.n
 ds:F.ds=(c 0).F.ds
 yes:∀t i,uG rows t i->L i->F.t.get t=(c rows.length).F.t.get t
 no:∀t,(∀i,uG rows t i->¬L i)->F.t.get t=(c 0).F.t.get t
theorem ov.now(h:ov cx K ops rows c){L:Nat->Prop}{F:Fr}(ha:AL rows c L F){i:Nat}{r:Row}(hr:rows[i]?=some r)(hL:∀j,bit r.dL j=true->L j)(jL:eO r.cls=true\/∀(k:Nat)(q:Row),rows[k]?=some q->bit q.dL i=true->¬L k){t:Nat}(ht:t∈gF ops r.o):
  F.t.get t=(c i).F.t.get t:=by
 have hi:=ll hr;by_cases hw:∃j,uG rows t j
 .obtain⟨j,q,hq,hd⟩:=hw;rcases h.A8 j i q r t hq hr hd ht with hb|⟨hb,vJ⟩
  .have hj:=pP (h.lt i r hr) hb;rw[ha.yes t j ⟨q,hq,hd⟩ (hL j hb)];refine h.cg _ (Nat.le_of_lt hi) (Nat.le_refl _) fun k q' hk1 _ hk jq=>?_;have:=h.single j k q q' t hq hk hd jq;omega
  .have hj:=pP (h.lt j q hq) hb;have hnj:¬L j:=by
    rcases jL with h1|h1
    .rw[h1]at vJ;cases vJ
    .exact h1 j q hq hb
   rw[ha.no t fun k hk hLk=>by
    obtain⟨q',hq',jq⟩:=hk;have:=h.single j k q q' t hq hq' hd jq;subst this;exact hnj hLk]
   exact (h.cg i (Nat.zero_le _) (Nat.le_of_lt hi) fun k q' _ vl hk jq=>by
    have:=h.single j k q q' t hq hk hd jq;omega).symm
 .rw[ha.no t fun j hj _=>hw ⟨j,hj⟩];exact (h.cg i (Nat.zero_le _) (Nat.le_of_lt hi) fun k q' _ _ hk jq=>hw ⟨k,q',hk,jq⟩).symm
theorem ov.all(h:ov cx K ops rows c):AL rows c (fun _=>True) (c rows.length).F:=
 ⟨h.n _ (Nat.le_refl _),h.ds _ (Nat.le_refl _),fun _ _ _ _=>rfl,fun _ hw=>h.cg _ (Nat.zero_le _) (Nat.le_refl _) fun k q' _ _ hk jq=>hw k ⟨q',hk,jq⟩ trivial⟩
theorem ov.put(h:ov cx K ops rows c){L L':Nat->Prop}{F:Fr}(ha:AL rows c L F){i:Nat}{r:Row}(hr:rows[i]?=some r)(hn:¬L i){v:AV}(hv:(c (i+1)).F=bG (c i).F r.o.dst v)
  (hL:∀j,L' j↔L j\/j=i):AL rows c L' (bG F r.o.dst v):=by
 have hi:=ll hr;have me:∀t,r.o.dst=some t->(bG F r.o.dst v).t.get t=(c rows.length).F.t.get t:=by
  intro t hd;have h1:(c rows.length).F.t.get t=(c (i+1)).F.t.get t:=h.cg _ hi (Nat.le_refl _) fun k q hk _ hq jq=>by
   have:=h.single i k r q t hr hq hd jq;omega
  rw[h1,hv,hd,mM,mM,ha.n,h.n i (Nat.le_of_lt hi)];split
  .rfl
  .rw[ha.no t fun j hj hLj=>by
    obtain⟨q,hq,jq⟩:=hj;have:=h.single i j r q t hr hq hd jq;subst this;exact hn hLj]
   exact (h.cg i (Nat.zero_le _) (Nat.le_of_lt hi) fun k q _ hk hq jq=>by
    have:=h.single i k r q t hr hq hd jq;omega).symm
 refine⟨by rw[putD_n];exact ha.n,by rw[Bg];exact ha.ds,fun t j hj hLj=>?_,fun t hw=>?_⟩
 .by_cases hd:r.o.dst=some t
  .exact me t hd
  .rw[sy hd];rcases (hL j).1 hLj with h1|h1
   .exact ha.yes t j hj h1
   .subst h1;obtain⟨q,hq,jq⟩:=hj;rw[hr]at hq;cases hq;exact absurd jq hd
 .have hd:r.o.dst≠some t:=fun hd=>hw i ⟨r,hr,hd⟩ ((hL i).2 (.inr rfl));rw[sy hd];exact ha.no t fun j hj hLj=>hw j hj ((hL j).2 (.inl hLj))
def kz(rows:List Row)(i:Nat):Nat:=(rows.take i).countP fun r=>bK r.cls
theorem lD{i:Nat}{r:Row}(h:rows[i]?=some r):kz rows (i+1)=kz rows i+(if bK r.cls then 1 else 0):=by
 unfold kz;rw[List.take_add_one,h,List.countP_append];simp[List.countP_cons]
theorem w9{i:Nat}:∀{j:Nat},i<=j->kz rows i<=kz rows j:=by
 intro j pD
 induction j with
 | zero => have : i = 0 := by omega
           subst this;exact Nat.le_refl _
 |succ j ih=>
  by_cases h:i=j+1
  .subst h;exact Nat.le_refl _
  .have h1:=ih (by omega);by_cases hj:j<rows.length
   .obtain⟨r,hr⟩:=iq hj;rw[lD hr];omega
   .have:kz rows (j+1)=kz rows j:=by
     unfold kz;rw[List.take_of_length_le (by omega),List.take_of_length_le (by omega)]
    omega
theorem xa{e i:Nat}{r:Row}(h:rows[e]?=some r)(he:bK r.cls=true):e<i↔kz rows e<kz rows i:=by
 constructor
 .intro cq;have:=w9 (rows:=rows) (i:=e+1) (j:=i) cq;rw[lD h,if_pos he]at this;omega
 .intro cq;rcases Nat.lt_or_ge e i with h1|h1
  .exact h1
  .have:=w9 (rows:=rows) h1;omega
theorem xc:∀i,kz rows i=0\/∃(e:Nat)(r:Row),e<i/\rows[e]?=some r/\bK r.cls=true/\kz rows i=kz rows e+1:=by
 intro i
 induction i with
 |zero=>left;rfl
 |succ i ih=>
  by_cases hi:i<rows.length
  .obtain⟨r,hr⟩:=iq hi;rw[lD hr];cases he:bK r.cls with
   |true=>exact .inr ⟨i,r,by omega,hr,he,by simp⟩
   |false=>
    rcases ih with h|⟨e,q,h1,h2,h3,h4⟩
    .left;simpa using h
    .exact .inr ⟨e,q,by omega,h2,h3,by simpa using h4⟩
  .have:kz rows (i+1)=kz rows i:=by
    unfold kz;rw[List.take_of_length_le (by omega),List.take_of_length_le (by omega)]
   rw[this];rcases ih with h|⟨e,q,h1,h2⟩
   .exact .inl h
   .exact .inr ⟨e,q,by omega,h2⟩
def full(c:Nat->CK)(i:Nat):List AS:=(c i).S::(c i).cd
theorem ov.EN(h:ov cx K ops rows c)(h0:(c 0).cd=[]):∀i,i<=rows.length->(full c i).length=kz rows i+1:=by
 intro i
 induction i with
 |zero=>intro _;simp[full,h0,kz]
 |succ i ih=>
  intro hi;obtain⟨r,hr⟩:=iq hi;have h1:=ih (by omega);rw[lD hr];rcases h.step i r hr with⟨hc,⟨_,v,x,_,e⟩|⟨_,e⟩⟩|⟨hc,v,S2,_,e⟩|⟨hc,v,_,e⟩
  .simp only[full,e,hc,bK]at h1⊢;simpa using h1
  .simp only[full,e,hc,bK]at h1⊢;simpa using h1
  .simp only[full,e,hc,bK]at h1⊢;simpa using h1
  .rcases hc with hc|hc<;>(simp only[full,e,hc,bK]at h1⊢;simpa using h1)
theorem ov.full_suf(h:ov cx K ops rows c){i:Nat}:∀j,i<=j->j<=rows.length->∃pre,full c j=pre++full c i:=by
 intro j
 induction j with
 | zero => intro h1 _; have : i = 0 := by omega
           subst this;exact⟨[],rfl⟩
 |succ j ih=>
  intro h1 h2;by_cases pD:i=j+1
  .subst pD;exact⟨[],rfl⟩
  .obtain⟨pre,hp⟩:=ih (by omega) (by omega);obtain⟨r,hr⟩:=iq (rows:=rows) h2;rcases h.step j r hr with⟨hc,⟨_,v,x,_,e⟩|⟨_,e⟩⟩|⟨hc,v,S2,_,e⟩|⟨hc,v,_,e⟩
   .exact⟨pre,by rw[<-hp];simp[full,e]⟩
   .exact⟨pre,by rw[<-hp];simp[full,e]⟩
   .exact⟨S2::pre,by rw[List.cons_append,<-hp];simp[full,e]⟩
   .exact⟨pre,by rw[<-hp];simp[full,e]⟩
def eJ(rows:List Row)(c:Nat->CK):List AS:=(full c rows.length).reverse
theorem ov.snap(h:ov cx K ops rows c)(h0:(c 0).cd=[]){i:Nat}(hi:i<=rows.length):(eJ rows c)[kz rows i]?=some (c i).S:=by
 obtain⟨pre,hp⟩:=h.full_suf rows.length hi (Nat.le_refl _);have hl:=h.EN h0 i hi;unfold eJ;rw[hp,List.reverse_append,List.getElem?_append_left (by rw[List.length_reverse,hl];omega)];have:(full c i).reverse=(c i).cd.reverse++[(c i).S]:=by simp[full]
 rw[this];have hl2:(c i).cd.reverse.length=kz rows i:=by
  simp only[full,List.length_cons]at hl;rw[List.length_reverse];omega
 rw[<-hl2];simp
theorem ov.wh(h:ov cx K ops rows c)(h0:(c 0).cd=[]):(eJ rows c).length=kz rows rows.length+1:=by
 unfold eJ;rw[List.length_reverse];exact h.EN h0 _ (Nat.le_refl _)
structure Laid(cx:Cx)(ops:List Oper)(rows:List Row)(c:Nat->CK)(j:Nat)(q:ey):Prop where
 row:∃r v,rows[j]?=some r/\r.cls=.fresh/\wanted ops (c j).F r.o=some true/\aA cx (c j).F q.id r.o.op=some (v,q.obj)
 i:q.i=j
 id:q.id=(c j).id
theorem ov.id_le(h:ov cx K ops rows c){i:Nat}:∀j,i<=j->j<=rows.length->(c i).id<=(c j).id:=by
 intro j
 induction j with
 | zero => intro h1 _; have : i = 0 := by omega
           subst this;exact Nat.le_refl _
 |succ j ih=>
  intro h1 h2;by_cases pD:i=j+1
  .subst pD;exact Nat.le_refl _
  .have:=ih (by omega) (by omega);obtain⟨r,hr⟩:=iq (rows:=rows) h2;rcases h.step j r hr with⟨hc,⟨_,v,x,_,e⟩|⟨_,e⟩⟩|⟨hc,v,S2,_,e⟩|⟨hc,v,_,e⟩<;>(rw[e];simp only[];omega)
theorem Laid.next(h:ov cx K ops rows c){j:Nat}{q:ey}(hl:Laid cx ops rows c j q):(c (j+1)).id=(c j).id+1/\j<rows.length/\∃x,(c (j+1)).ps=q::(c j).ps/\x=q:=by
 obtain⟨⟨r,v,hr,hc,hw,hf⟩,hi,bY⟩:=hl;rcases h.step j r hr with⟨_,⟨_,v',x,EJ,e⟩|⟨hw',e⟩⟩|⟨iO,_⟩|⟨iO,_⟩
 .rw[bY,EJ]at hf;cases hf;refine⟨by rw[e],ll hr,q,?_,rfl⟩;rw[e];obtain⟨qi,qid,qo⟩:=q;simp only at hi bY;subst hi bY;rw[h.num _ r hr]
 .rw[hw]at hw';cases hw'
 .rw[hc]at iO;cases iO
 .rw[hc]at iO;rcases iO with iO|iO<;>cases iO
theorem Laid.apart(h:ov cx K ops rows c){j j':Nat}{q q':ey}(hl:Laid cx ops rows c j q)(sO:Laid cx ops rows c j' q')(cS:j≠j'):q.id≠q'.id:=by
 have h1:=hl.next h
 have h2:=sO.next h
 rw[hl.id,sO.id];rcases Nat.lt_or_ge j j' with cq|Ag
 .have:=h.id_le (i:=j+1) j' cq (by omega);omega
 .have:=h.id_le (i:=j'+1) j (by omega) (by omega);omega
theorem ov.id_top(h:ov cx K ops rows c):∀i,i<=rows.length->(c i).id<=(c 0).id+(rows.take i).countP (fun r=>bQ r.cls):=by
 intro i
 induction i with
 |zero=>intro _;simp
 |succ i ih=>
  intro hi;have:=ih (by omega);obtain⟨r,hr⟩:=iq (rows:=rows) hi;rw[List.take_add_one,hr,List.countP_append];rcases h.step i r hr with⟨hc,⟨_,v,x,_,e⟩|⟨_,e⟩⟩|⟨hc,v,S2,_,e⟩|⟨hc,v,_,e⟩
  .have h1:List.countP (fun r:Row=>bQ r.cls) (some r).toList=1:=by simp[hc,bQ]
   rw[e,h1];simp only[];omega
  .rw[e];simp only[];omega
  .rw[e];simp only[];omega
  .rw[e];simp only[];omega
theorem Laid.top(h:ov cx K ops rows c){j:Nat}{q:ey}(hl:Laid cx ops rows c j q):(c 0).id<=q.id/\q.id<(c 0).id+rows.countP (fun r=>bQ r.cls):=by
 obtain⟨h1,h2,_⟩:=hl.next h
 have h3:=h.id_le (i:=0) j (Nat.zero_le _) (by omega);have h4:=h.id_top (j+1) h2;have h5:(rows.take (j+1)).countP (fun r=>bQ r.cls)<=rows.countP (fun r=>bQ r.cls):=List.Sublist.countP_le (List.take_sublist _ _);rw[hl.id];omega
theorem ov.waits(h:ov cx K ops rows c)(h0:(c 0).ps=[]):∀i,i<=rows.length->(∀q,q∈(c i).ps↔∃j,j<i/\Laid cx ops rows c j q/\∀(e:Nat)(r:Row),e<i->rows[e]?=some r->bK r.cls=true->bit r.dL j=false) /\
  (c i).ps.Pairwise fun p q=>p.id≠q.id:=by
 intro i
 induction i with
 |zero=>intro _;rw[h0];exact⟨fun q=>⟨fun hq=>(by cases hq),fun⟨j,hj,_⟩=>(by omega)⟩,.nil⟩
 |succ i ih=>
  intro hi;obtain ⟨h1, h2⟩ := ih (by omega);obtain ⟨r, hr⟩ := iq (rows := rows) hi;have same : (c (i + 1)).ps = (c i).ps → r.cls ≠ .yV → (∀ q, ¬ Laid cx ops rows c i q) → (∀ q, q ∈ (c (i + 1)).ps ↔ ∃ j, j < i + 1 ∧ Laid cx ops rows c j q ∧ ∀ (e : Nat) (r : Row), e < i + 1 → rows[e]? = some r → bK r.cls = true → bit r.dL j = false) ∧
    (c (i+1)).ps.Pairwise fun p q=>p.id≠q.id:=by
   intro e hc jL;rw[e];refine⟨fun q=>(h1 q).trans ⟨?_,?_⟩,h2⟩
   .rintro⟨j,hj,hl,hq⟩;refine⟨j,by omega,hl,fun e' r' he eS iO=>?_⟩;by_cases hei:e'=i
    .subst hei;rw[hr]at eS;cases eS;exact absurd (isEff_iff.1 iO) hc
    .exact hq e' r' (by omega) eS iO
   .rintro⟨j,hj,hl,hq⟩;have:j≠i:=fun e=>by subst e;exact jL q hl
    exact⟨j,by omega,hl,fun e' r' he=>hq e' r' (by omega)⟩
  rcases h.step i r hr with⟨hc,⟨hw,v,x,hf,e⟩|⟨hw,e⟩⟩|⟨hc,v,S2,_,e⟩|⟨hc,v,_,e⟩
  .have xu:Laid cx ops rows c i ⟨r.i,(c i).id,x⟩:=⟨⟨r,v,hr,hc,hw,hf⟩,h.num i r hr,rfl⟩
   have vi:(c (i+1)).ps=⟨r.i,(c i).id,x⟩::(c i).ps:=by rw[e]
   rw[vi];refine⟨fun q=>?_,?_⟩
   .rw[List.mem_cons,h1];constructor
    .rintro (rfl|⟨j,hj,hl,hq⟩)
     .refine⟨i,by omega,xu,fun e' r' he eS iO=>?_⟩;cases hb:bit r'.dL i with
      |false=>rfl
      |true=>have:=pP (h.lt e' r' eS) hb;omega
     .refine⟨j,by omega,hl,fun e' r' he eS iO=>?_⟩;by_cases hei:e'=i
      .subst hei;rw[hr]at eS;cases eS;rw[hc]at iO;cases iO
      .exact hq e' r' (by omega) eS iO
    .rintro⟨j,hj,hl,hq⟩;by_cases uU:j=i
     .subst uU;left;obtain⟨_,_,_,hps',_⟩:=hl.next h
      rw[vi]at hps';exact (List.cons.inj hps').1.symm
     .exact .inr ⟨j,by omega,hl,fun e' r' he=>hq e' r' (by omega)⟩
   .refine List.pairwise_cons.2 ⟨fun q hq=>?_,h2⟩;obtain⟨j,hj,hl,_⟩:=(h1 q).1 hq;exact xu.apart h hl (by omega)
  .exact same (by rw[e]) (by rw[hc];simp) fun q hl=>by
    obtain⟨⟨r',v,eS,_,hw',_⟩,_⟩:=hl;rw[hr]at eS;cases eS;rw[hw]at hw';cases hw'
  .have vi:(c (i+1)).ps=(c i).ps.filter (fun p=>!bit r.dL p.i):=by rw[e]
   rw[vi];refine⟨fun q=>?_,h2.filter _⟩;rw[List.mem_filter,h1];constructor
   .rintro⟨⟨j,hj,hl,hq⟩,hb⟩;refine⟨j,by omega,hl,fun e' r' he eS iO=>?_⟩;by_cases hei:e'=i
    .subst hei;rw[hr]at eS;cases eS;rw[hl.i]at hb;simpa using hb
    .exact hq e' r' (by omega) eS iO
   .rintro⟨j,hj,hl,hq⟩;have uU:j≠i:=fun e=>by
     subst e;obtain⟨⟨r',v,eS,iO,_⟩,_⟩:=hl;rw[hr]at eS;cases eS;rw[hc]at iO;cases iO
    refine⟨⟨j,by omega,hl,fun e' r' he=>hq e' r' (by omega)⟩,?_⟩;rw[hl.i];have:=hq i r (by omega) hr (by rw[hc];rfl);simpa using this
  .exact same (by rw[e]) (by rcases hc with hc|hc<;>(rw[hc];simp)) fun q hl=>by
    obtain⟨⟨r',v,eS,iO,_⟩,_⟩:=hl;rw[hr]at eS;cases eS;rw[iO]at hc;rcases hc with hc|hc<;>cases hc
end
end Go.Am
