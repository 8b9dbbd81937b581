/-
  The abstract machine: the run of a region that draws its order. Frames, levels, numbers: plain facts.
-/
import Derived.Test.YtdknlbnljfdhgaaGreatDoorAmTrace
open Nat renaming le_refl->zza,le_of_lt->zzc,zero_le->zze,blt->zzf
open List renaming take_of_length_le->zzb,length_reverse->zzd
namespace Go.Am
open Go
structure qq(cx:Cx)(K:fK)(ops:List Oper)(rows:List Row)(c:Nat->Fq):Prop where
 step:∀(i:Nat)(r:Row),rows[i]?=some r->mY cx K ops r (c i) (c (i+1))
 num:∀(i:Nat)(r:Row),rows[i]?=some r->r.i=i
 lt:∀(i:Nat)(r:Row),rows[i]?=some r->r.eG<2 ^ i
 tot:∀(i j:Nat)(r q:Row),rows[i]?=some r->rows[j]?=some q->bY r.cls=true->bY q.cls=true->i<j->bit q.eG i=true
 DD:∀(i j:Nat)(r q:Row)(d:Nat),rows[i]?=some r->rows[j]?=some q->r.o.dst=some d->d∈iG ops q.o->bit q.eG i=true\/(bit r.eG j=true/\fE q.cls=false)
 single:∀(i j:Nat)(r q:Row)(d:Nat),rows[i]?=some r->rows[j]?=some q->r.o.dst=some d->q.o.dst=some d->i=j
theorem PS{c:Cls}:bY c=true↔c=.BS:=by cases c<;>simp[bY]
theorem J6(F:Fr)(dst:Option Tmp)(v:AV):(bQ F dst v).n=F.n:=by
 cases dst with
 |none=>rfl
 |some d=>rw[kC];cases zzf d F.n<;>rfl
theorem DK(F:Fr)(dst:Option Tmp)(v:AV):(bQ F dst v).ds=F.ds:=by
 cases dst with
 |none=>rfl
 |some d=>rw[kC];cases zzf d F.n<;>rfl
theorem uK{F:Fr}{dst:Option Tmp}{v:AV}{t:Nat}(h:dst≠some t):(bQ F dst v).t.get t=F.t.get t:=by
 cases dst with
 |none=>rfl
 |some d=>
  rw[kC];cases zzf d F.n with
  |false=>rfl
  |true=>exact ae _ _ (fun e=>h (by rw[e]))
theorem ot{F:Fr}{v:AV}{t:Nat}:(bQ F (some t) v).t.get t=if t<F.n then some v else F.t.get t:=by
 rw[kC];by_cases h:t<F.n
 .have:zzf t F.n=true:=by simpa using h
  rw[this,if_pos h];exact aa _ _ _
 .have:zzf t F.n=false:=by
   cases hb:zzf t F.n with
   |false=>rfl
   |true=>exact absurd (by simpa using hb) h
  rw[this,if_neg h];rfl
theorem eK{cx:Cx}{K:fK}{ops:List Oper}{r:Row}{c c':Fq}(h:mY cx K ops r c c'):∃v,c'.F=bQ c.F r.o.dst v:=by
 rcases h with⟨_,⟨_,v,x,_,rfl⟩|⟨_,rfl⟩⟩|⟨_,v,S2,_,rfl⟩|⟨_,v,_,rfl⟩<;>exact⟨_,rfl⟩
section
variable{cx:Cx}{K:fK}{ops:List Oper}{rows:List Row}{c:Nat->Fq}
theorem jd{i:Nat}(h:i<rows.length):∃r,rows[i]?=some r:=⟨rows[i],List.getElem?_eq_getElem h⟩
theorem mE{i:Nat}{r:Row}(h:rows[i]?=some r):i<rows.length:=by
 rcases Nat.lt_or_ge i rows.length with h1|h1
 .exact h1
 .rw[List.getElem?_eq_none h1]at h;cases h
theorem qq.n(h:qq cx K ops rows c):∀i,i<=rows.length->(c i).F.n=(c 0).F.n:=by
 intro i
 induction i with
 |zero=>intro _;rfl
 |succ i ih=>
  intro hi;obtain⟨r,hr⟩:=jd hi;obtain⟨v,hv⟩:=eK (h.step i r hr);rw[hv,J6];exact ih (by omega)
theorem qq.ds(h:qq cx K ops rows c):∀i,i<=rows.length->(c i).F.ds=(c 0).F.ds:=by
 intro i
 induction i with
 |zero=>intro _;rfl
 |succ i ih=>
  intro hi;obtain⟨r,hr⟩:=jd hi;obtain⟨v,hv⟩:=eK (h.step i r hr);rw[hv,DK];exact ih (by omega)
theorem qq.ca(h:qq cx K ops rows c){t:Nat}{i:Nat}:∀j,i<=j->j<=rows.length->(∀(k:Nat)(r:Row),i<=k->k<j->rows[k]?=some r->r.o.dst≠some t)->(c j).F.t.get t=(c i).F.t.get t:=by
 intro j
 induction j with
 | zero => intro h1 _ _; have : i = 0 := by omega
           subst this;rfl
 |succ j ih=>
  intro h1 h2 h3;by_cases sj:i=j+1
  .subst sj;rfl
  .obtain⟨r,hr⟩:=jd (rows:=rows) h2;obtain⟨v,hv⟩:=eK (h.step j r hr);rw[hv,uK (h3 j r (by omega) (by omega) hr)];exact ih (by omega) (by omega) fun k r Xi xZ=>h3 k r Xi (by omega)
def xc(rows:List Row)(t i:Nat):Prop:=∃r,rows[i]?=some r/\r.o.dst=some t
structure Dp(rows:List Row)(c:Nat->Fq)(L:Nat->Prop)(F:Fr):Prop where
 n:F.n=(c 0).F.n
 ds:F.ds=(c 0).F.ds
 yes:∀t i,xc rows t i->L i->F.t.get t=(c rows.length).F.t.get t
 no:∀t,(∀i,xc rows t i->¬L i)->F.t.get t=(c 0).F.t.get t
theorem qq.now(h:qq cx K ops rows c){L:Nat->Prop}{F:Fr}(ha:Dp rows c L F){i:Nat}{r:Row}(hr:rows[i]?=some r)(hL:∀j,bit r.eG j=true->L j)(lR:fE r.cls=true\/∀(k:Nat)(q:Row),rows[k]?=some q->bit q.eG i=true->¬L k){t:Nat}(ht:t∈iG ops r.o):
  F.t.get t=(c i).F.t.get t:=by
 have hi:=mE hr;by_cases hw:∃j,xc rows t j
 .obtain⟨j,q,hq,hd⟩:=hw;rcases h.DD j i q r t hq hr hd ht with hb|⟨hb,xv⟩
  .have hj:=rJ (h.lt i r hr) hb;rw[ha.yes t j ⟨q,hq,hd⟩ (hL j hb)];refine h.ca _ (zzc hi) (zza _) fun k q' Xi _ hk j7=>?_;have:=h.single j k q q' t hq hk hd j7;omega
  .have hj:=rJ (h.lt j q hq) hb;have hnj:¬L j:=by
    rcases lR with h1|h1
    .rw[h1]at xv;cases xv
    .exact h1 j q hq hb
   rw[ha.no t fun k hk hLk=>by
    obtain⟨q',hq',j7⟩:=hk;have:=h.single j k q q' t hq hq' hd j7;subst this;exact hnj hLk]
   exact (h.ca i (zze _) (zzc hi) fun k q' _ xZ hk j7=>by
    have:=h.single j k q q' t hq hk hd j7;omega).symm
 .rw[ha.no t fun j hj _=>hw ⟨j,hj⟩];exact (h.ca i (zze _) (zzc hi) fun k q' _ _ hk j7=>hw ⟨k,q',hk,j7⟩).symm
theorem qq.all(h:qq cx K ops rows c):Dp rows c (fun _=>True) (c rows.length).F:=
 ⟨h.n _ (zza _),h.ds _ (zza _),fun _ _ _ _=>rfl,fun _ hw=>h.ca _ (zze _) (zza _) fun k q' _ _ hk j7=>hw k ⟨q',hk,j7⟩ trivial⟩
theorem qq.put(h:qq cx K ops rows c){L L':Nat->Prop}{F:Fr}(ha:Dp rows c L F){i:Nat}{r:Row}(hr:rows[i]?=some r)(hn:¬L i){v:AV}(hv:(c (i+1)).F=bQ (c i).F r.o.dst v)
  (hL:∀j,L' j↔L j\/j=i):Dp rows c L' (bQ F r.o.dst v):=by
 have hi:=mE hr;have me:∀t,r.o.dst=some t->(bQ F r.o.dst v).t.get t=(c rows.length).F.t.get t:=by
  intro t hd;have h1:(c rows.length).F.t.get t=(c (i+1)).F.t.get t:=h.ca _ hi (zza _) fun k q hk _ hq j7=>by
   have:=h.single i k r q t hr hq hd j7;omega
  rw[h1,hv,hd,ot,ot,ha.n,h.n i (zzc hi)];split
  .rfl
  .rw[ha.no t fun j hj hLj=>by
    obtain⟨q,hq,j7⟩:=hj;have:=h.single i j r q t hr hq hd j7;subst this;exact hn hLj]
   exact (h.ca i (zze _) (zzc hi) fun k q _ hk hq j7=>by
    have:=h.single i k r q t hr hq hd j7;omega).symm
 refine⟨by rw[J6];exact ha.n,by rw[DK];exact ha.ds,fun t j hj hLj=>?_,fun t hw=>?_⟩
 .by_cases hd:r.o.dst=some t
  .exact me t hd
  .rw[uK hd];rcases (hL j).1 hLj with h1|h1
   .exact ha.yes t j hj h1
   .subst h1;obtain⟨q,hq,j7⟩:=hj;rw[hr]at hq;cases hq;exact absurd j7 hd
 .have hd:r.o.dst≠some t:=fun hd=>hw i ⟨r,hr,hd⟩ ((hL i).2 (.inr rfl));rw[uK hd];exact ha.no t fun j hj hLj=>hw j hj ((hL j).2 (.inl hLj))
def lO(rows:List Row)(i:Nat):Nat:=(rows.take i).countP fun r=>bY r.cls
theorem mM{i:Nat}{r:Row}(h:rows[i]?=some r):lO rows (i+1)=lO rows i+(if bY r.cls then 1 else 0):=by
 unfold lO;rw[List.take_add_one,h,List.countP_append];simp[List.countP_cons]
theorem zS{i:Nat}:∀{j:Nat},i<=j->lO rows i<=lO rows j:=by
 intro j sj
 induction j with
 | zero => have : i = 0 := by omega
           subst this;exact zza _
 |succ j ih=>
  by_cases h:i=j+1
  .subst h;exact zza _
  .have h1:=ih (by omega);by_cases hj:j<rows.length
   .obtain⟨r,hr⟩:=jd hj;rw[mM hr];omega
   .have:lO rows (j+1)=lO rows j:=by
     unfold lO;rw[zzb (by omega),zzb (by omega)]
    omega
theorem zT{e i:Nat}{r:Row}(h:rows[e]?=some r)(he:bY r.cls=true):e<i↔lO rows e<lO rows i:=by
 constructor
 .intro cQ;have:=zS (rows:=rows) (i:=e+1) (j:=i) cQ;rw[mM h,if_pos he]at this;omega
 .intro cQ;rcases Nat.lt_or_ge e i with h1|h1
  .exact h1
  .have:=zS (rows:=rows) h1;omega
theorem zU:∀i,lO rows i=0\/∃(e:Nat)(r:Row),e<i/\rows[e]?=some r/\bY r.cls=true/\lO rows i=lO rows e+1:=by
 intro i
 induction i with
 |zero=>left;rfl
 |succ i ih=>
  by_cases hi:i<rows.length
  .obtain⟨r,hr⟩:=jd hi;rw[mM hr];cases he:bY r.cls with
   |true=>exact .inr ⟨i,r,by omega,hr,he,by simp⟩
   |false=>
    rcases ih with h|⟨e,q,h1,h2,h3,h4⟩
    .left;simpa using h
    .exact .inr ⟨e,q,by omega,h2,h3,by simpa using h4⟩
  .have:lO rows (i+1)=lO rows i:=by
    unfold lO;rw[zzb (by omega),zzb (by omega)]
   rw[this];rcases ih with h|⟨e,q,h1,h2⟩
   .exact .inl h
   .exact .inr ⟨e,q,by omega,h2⟩
def full(c:Nat->Fq)(i:Nat):List AS:=(c i).S::(c i).cH
theorem qq.HE(h:qq cx K ops rows c)(h0:(c 0).cH=[]):∀i,i<=rows.length->(full c i).length=lO rows i+1:=by
 intro i
 induction i with
 |zero=>intro _;simp[full,h0,lO]
 |succ i ih=>
  intro hi;obtain⟨r,hr⟩:=jd hi;have h1:=ih (by omega);rw[mM hr];rcases h.step i r hr with⟨hc,⟨_,v,x,_,e⟩|⟨_,e⟩⟩|⟨hc,v,S2,_,e⟩|⟨hc,v,_,e⟩
  .simp only[full,e,hc,bY]at h1⊢;simpa using h1
  .simp only[full,e,hc,bY]at h1⊢;simpa using h1
  .simp only[full,e,hc,bY]at h1⊢;simpa using h1
  .rcases hc with hc|hc<;>(simp only[full,e,hc,bY]at h1⊢;simpa using h1)
theorem qq.Vs(h:qq cx K ops rows c){i:Nat}:∀j,i<=j->j<=rows.length->∃pre,full c j=pre++full c i:=by
 intro j
 induction j with
 | zero => intro h1 _; have : i = 0 := by omega
           subst this;exact⟨[],rfl⟩
 |succ j ih=>
  intro h1 h2;by_cases sj:i=j+1
  .subst sj;exact⟨[],rfl⟩
  .obtain⟨pre,hp⟩:=ih (by omega) (by omega);obtain⟨r,hr⟩:=jd (rows:=rows) h2;rcases h.step j r hr with⟨hc,⟨_,v,x,_,e⟩|⟨_,e⟩⟩|⟨hc,v,S2,_,e⟩|⟨hc,v,_,e⟩
   .exact⟨pre,by rw[<-hp];simp[full,e]⟩
   .exact⟨pre,by rw[<-hp];simp[full,e]⟩
   .exact⟨S2::pre,by rw[List.cons_append,<-hp];simp[full,e]⟩
   .exact⟨pre,by rw[<-hp];simp[full,e]⟩
def fC(rows:List Row)(c:Nat->Fq):List AS:=(full c rows.length).reverse
theorem qq.snap(h:qq cx K ops rows c)(h0:(c 0).cH=[]){i:Nat}(hi:i<=rows.length):(fC rows c)[lO rows i]?=some (c i).S:=by
 obtain⟨pre,hp⟩:=h.Vs rows.length hi (zza _);have hl:=h.HE h0 i hi;unfold fC;rw[hp,List.reverse_append,List.getElem?_append_left (by rw[zzd,hl];omega)];have:(full c i).reverse=(c i).cH.reverse++[(c i).S]:=by simp[full]
 rw[this];have Rr:(c i).cH.reverse.length=lO rows i:=by
  simp only[full,List.length_cons]at hl;rw[zzd];omega
 rw[<-Rr];simp
theorem qq.zb(h:qq cx K ops rows c)(h0:(c 0).cH=[]):(fC rows c).length=lO rows rows.length+1:=by
 unfold fC;rw[zzd];exact h.HE h0 _ (zza _)
structure Laid(cx:Cx)(ops:List Oper)(rows:List Row)(c:Nat->Fq)(j:Nat)(q:fk):Prop where
 row:∃r v,rows[j]?=some r/\r.cls=.fresh/\wanted ops (c j).F r.o=some true/\aD cx (c j).F q.id r.o.op=some (v,q.obj)
 i:q.i=j
 id:q.id=(c j).id
theorem qq.Uw(h:qq cx K ops rows c){i:Nat}:∀j,i<=j->j<=rows.length->(c i).id<=(c j).id:=by
 intro j
 induction j with
 | zero => intro h1 _; have : i = 0 := by omega
           subst this;exact zza _
 |succ j ih=>
  intro h1 h2;by_cases sj:i=j+1
  .subst sj;exact zza _
  .have:=ih (by omega) (by omega);obtain⟨r,hr⟩:=jd (rows:=rows) h2;rcases h.step j r hr with⟨hc,⟨_,v,x,_,e⟩|⟨_,e⟩⟩|⟨hc,v,S2,_,e⟩|⟨hc,v,_,e⟩<;>(rw[e];simp only[];omega)
theorem Laid.nx(h:qq cx K ops rows c){j:Nat}{q:fk}(hl:Laid cx ops rows c j q):(c (j+1)).id=(c j).id+1/\j<rows.length/\∃x,(c (j+1)).ps=q::(c j).ps/\x=q:=by
 obtain⟨⟨r,v,hr,hc,hw,hf⟩,hi,cD⟩:=hl;rcases h.step j r hr with⟨_,⟨_,v',x,Es,e⟩|⟨Jd,e⟩⟩|⟨jF,_⟩|⟨jF,_⟩
 .rw[cD,Es]at hf;cases hf;refine⟨by rw[e],mE hr,q,?_,rfl⟩;rw[e];obtain⟨qi,qid,qo⟩:=q;simp only at hi cD;subst hi cD;rw[h.num _ r hr]
 .rw[hw]at Jd;cases Jd
 .rw[hc]at jF;cases jF
 .rw[hc]at jF;rcases jF with jF|jF<;>cases jF
theorem Laid.apart(h:qq cx K ops rows c){j j':Nat}{q q':fk}(hl:Laid cx ops rows c j q)(va:Laid cx ops rows c j' q')(ct:j≠j'):q.id≠q'.id:=by
 have h1:=hl.nx h;have h2:=va.nx h;rw[hl.id,va.id];rcases Nat.lt_or_ge j j' with cQ|CU
 .have:=h.Uw (i:=j+1) j' cQ (by omega);omega
 .have:=h.Uw (i:=j'+1) j (by omega) (by omega);omega
theorem qq.jdJ(h:qq cx K ops rows c):∀i,i<=rows.length->(c i).id<=(c 0).id+(rows.take i).countP (fun r=>cl r.cls):=by
 intro i
 induction i with
 |zero=>intro _;simp
 |succ i ih=>
  intro hi;have:=ih (by omega);obtain⟨r,hr⟩:=jd (rows:=rows) hi;rw[List.take_add_one,hr,List.countP_append];rcases h.step i r hr with⟨hc,⟨_,v,x,_,e⟩|⟨_,e⟩⟩|⟨hc,v,S2,_,e⟩|⟨hc,v,_,e⟩
  .have h1:List.countP (fun r:Row=>cl r.cls) (some r).toList=1:=by simp[hc,cl]
   rw[e,h1];simp only[];omega
  .rw[e];simp only[];omega
  .rw[e];simp only[];omega
  .rw[e];simp only[];omega
theorem Laid.top(h:qq cx K ops rows c){j:Nat}{q:fk}(hl:Laid cx ops rows c j q):(c 0).id<=q.id/\q.id<(c 0).id+rows.countP (fun r=>cl r.cls):=by
 obtain⟨h1,h2,_⟩:=hl.nx h;have h3:=h.Uw (i:=0) j (zze _) (by omega);have h4:=h.jdJ (j+1) h2;have h5:(rows.take (j+1)).countP (fun r=>cl r.cls)<=rows.countP (fun r=>cl r.cls):=List.Sublist.countP_le (List.take_sublist _ _);rw[hl.id];omega
theorem qq.waits(h:qq cx K ops rows c)(h0:(c 0).ps=[]):∀i,i<=rows.length->(∀q,q∈(c i).ps↔∃j,j<i/\Laid cx ops rows c j q/\∀(e:Nat)(r:Row),e<i->rows[e]?=some r->bY r.cls=true->bit r.eG j=false) /\
  (c i).ps.Pairwise fun p q=>p.id≠q.id:=by
 intro i
 induction i with
 |zero=>intro _;rw[h0];exact⟨fun q=>⟨fun hq=>(by cases hq),fun⟨j,hj,_⟩=>(by omega)⟩,.nil⟩
 |succ i ih=>
  intro hi;obtain ⟨h1, h2⟩ := ih (by omega);obtain ⟨r, hr⟩ := jd (rows := rows) hi;have same : (c (i + 1)).ps = (c i).ps → r.cls ≠ .BS → (∀ q, ¬ Laid cx ops rows c i q) → (∀ q, q ∈ (c (i + 1)).ps ↔ ∃ j, j < i + 1 ∧ Laid cx ops rows c j q ∧ ∀ (e : Nat) (r : Row), e < i + 1 → rows[e]? = some r → bY r.cls = true → bit r.eG j = false) ∧
    (c (i+1)).ps.Pairwise fun p q=>p.id≠q.id:=by
   intro e hc lR;rw[e];refine⟨fun q=>(h1 q).trans ⟨?_,?_⟩,h2⟩
   .rintro⟨j,hj,hl,hq⟩;refine⟨j,by omega,hl,fun e' r' he fi jF=>?_⟩;by_cases hei:e'=i
    .subst hei;rw[hr]at fi;cases fi;exact absurd (PS.1 jF) hc
    .exact hq e' r' (by omega) fi jF
   .rintro⟨j,hj,hl,hq⟩;have:j≠i:=fun e=>by subst e;exact lR q hl
    exact⟨j,by omega,hl,fun e' r' he=>hq e' r' (by omega)⟩
  rcases h.step i r hr with⟨hc,⟨hw,v,x,hf,e⟩|⟨hw,e⟩⟩|⟨hc,v,S2,_,e⟩|⟨hc,v,_,e⟩
  .have Ah:Laid cx ops rows c i ⟨r.i,(c i).id,x⟩:=⟨⟨r,v,hr,hc,hw,hf⟩,h.num i r hr,rfl⟩
   have xY:(c (i+1)).ps=⟨r.i,(c i).id,x⟩::(c i).ps:=by rw[e]
   rw[xY];refine⟨fun q=>?_,?_⟩
   .rw[List.mem_cons,h1];constructor
    .rintro (rfl|⟨j,hj,hl,hq⟩)
     .refine⟨i,by omega,Ah,fun e' r' he fi jF=>?_⟩;cases hb:bit r'.eG i with
      |false=>rfl
      |true=>have:=rJ (h.lt e' r' fi) hb;omega
     .refine⟨j,by omega,hl,fun e' r' he fi jF=>?_⟩;by_cases hei:e'=i
      .subst hei;rw[hr]at fi;cases fi;rw[hc]at jF;cases jF
      .exact hq e' r' (by omega) fi jF
    .rintro⟨j,hj,hl,hq⟩;by_cases wB:j=i
     .subst wB;left;obtain⟨_,_,_,jik,_⟩:=hl.nx h;rw[xY]at jik;exact (List.cons.inj jik).1.symm
     .exact .inr ⟨j,by omega,hl,fun e' r' he=>hq e' r' (by omega)⟩
   .refine List.pairwise_cons.2 ⟨fun q hq=>?_,h2⟩;obtain⟨j,hj,hl,_⟩:=(h1 q).1 hq;exact Ah.apart h hl (by omega)
  .exact same (by rw[e]) (by rw[hc];simp) fun q hl=>by
    obtain⟨⟨r',v,fi,_,Jd,_⟩,_⟩:=hl;rw[hr]at fi;cases fi;rw[hw]at Jd;cases Jd
  .have xY:(c (i+1)).ps=(c i).ps.filter (fun p=>!bit r.eG p.i):=by rw[e]
   rw[xY];refine⟨fun q=>?_,h2.filter _⟩;rw[List.mem_filter,h1];constructor
   .rintro⟨⟨j,hj,hl,hq⟩,hb⟩;refine⟨j,by omega,hl,fun e' r' he fi jF=>?_⟩;by_cases hei:e'=i
    .subst hei;rw[hr]at fi;cases fi;rw[hl.i]at hb;simpa using hb
    .exact hq e' r' (by omega) fi jF
   .rintro⟨j,hj,hl,hq⟩;have wB:j≠i:=fun e=>by
     subst e;obtain⟨⟨r',v,fi,jF,_⟩,_⟩:=hl;rw[hr]at fi;cases fi;rw[hc]at jF;cases jF
    refine⟨⟨j,by omega,hl,fun e' r' he=>hq e' r' (by omega)⟩,?_⟩;rw[hl.i];have:=hq i r (by omega) hr (by rw[hc];rfl);simpa using this
  .exact same (by rw[e]) (by rcases hc with hc|hc<;>(rw[hc];simp)) fun q hl=>by
    obtain⟨⟨r',v,fi,jF,_⟩,_⟩:=hl;rw[hr]at fi;cases fi;rw[jF]at hc;rcases hc with hc|hc<;>cases hc
end
end Go.Am
