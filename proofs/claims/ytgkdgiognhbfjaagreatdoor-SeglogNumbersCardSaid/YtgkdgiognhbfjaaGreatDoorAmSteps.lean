/-
  The abstract machine: the run of a region that draws its order. Frames, levels, numbers: plain facts.
-/
import Derived.Test.YtgkdgiognhbfjaaGreatDoorAmTrace
namespace Go.Am
open Go
structure nd (cx:Cx) (K:bh) (ops:List Oper) (rows:List Row) (c:Nat→BE):Prop where
 step:∀ (i:Nat) (r:Row),rows[i]?=some r→uc cx K ops r (c i) (c (i+1))
 num:∀ (i:Nat) (r:Row),rows[i]?=some r→r.i=i
 lt:∀ (i:Nat) (r:Row),rows[i]?=some r→r.cN<2 ^ i
 tot:∀ (i j:Nat) (r q:Row),rows[i]?=some r→rows[j]?=some q→bo r.cls=true→bo q.cls=true→i<j→bit q.cN i=true
 z9:∀ (i j:Nat) (r q:Row) (d:Nat),rows[i]?=some r→rows[j]?=some q→r.o.dst=some d→d∈fU ops q.o→bit q.cN i=true∨(bit r.cN j=true∧dC q.cls=false)
 single:∀ (i j:Nat) (r q:Row) (d:Nat),rows[i]?=some r→rows[j]?=some q→r.o.dst=some d→q.o.dst=some d→i=j
theorem isEff_iff {c:Cls}:bo c=true↔c=.wT:=by cases c<;>simp[bo]
theorem putD_n (F:Fr) (dst:Option Tmp) (v:AV):(aK F dst v).n=F.n:=by
 cases dst with
 | none=>rfl
 | some d=>rw[gR];cases Nat.blt d F.n<;>rfl
theorem Af (F:Fr) (dst:Option Tmp) (v:AV):(aK F dst v).ds=F.ds:=by
 cases dst with
 | none=>rfl
 | some d=>rw[gR];cases Nat.blt d F.n<;>rfl
theorem qT {F:Fr} {dst:Option Tmp} {v:AV} {t:Nat} (h:dst≠some t):(aK F dst v).t.get t=F.t.get t:=by
 cases dst with
 | none=>rfl
 | some d=>
  rw[gR];cases Nat.blt d F.n with
  | false=>rfl
  | true=>exact ae _ _ (fun e=>h (by rw[e]))
theorem lD {F:Fr} {v:AV} {t:Nat}:(aK F (some t) v).t.get t=if t<F.n then some v else F.t.get t:=by
 rw[gR];by_cases h:t<F.n
 ·have:Nat.blt t F.n=true:=by simpa using h
  rw[this,if_pos h];exact aa _ _ _
 ·have:Nat.blt t F.n=false:=by
   cases hb:Nat.blt t F.n with
   | false=>rfl
   | true=>exact absurd (by simpa using hb) h
  rw[this,if_neg h];rfl
theorem stepF {cx:Cx} {K:bh} {ops:List Oper} {r:Row} {c c':BE} (h:uc cx K ops r c c'):∃ v,c'.F=aK c.F r.o.dst v:=by
 rcases h with ⟨_,⟨_,v,x,_,rfl⟩|⟨_,rfl⟩⟩|⟨_,v,S2,_,rfl⟩|⟨_,v,_,rfl⟩<;>exact ⟨_,rfl⟩
section
variable {cx:Cx} {K:bh} {ops:List Oper} {rows:List Row} {c:Nat→BE}
theorem gD {i:Nat} (h:i<rows.length):∃ r,rows[i]?=some r:=⟨rows[i],List.getElem?_eq_getElem h⟩
theorem jT {i:Nat} {r:Row} (h:rows[i]?=some r):i<rows.length:=by
 rcases Nat.lt_or_ge i rows.length with h1|h1
 ·exact h1
 ·rw[List.getElem?_eq_none h1] at h;cases h
theorem nd.n (h:nd cx K ops rows c):∀ i,i≤rows.length→(c i).F.n=(c 0).F.n:=by
 intro i
 induction i with
 | zero=>intro _;rfl
 | succ i ih=>
  intro hi;obtain ⟨r,hr⟩:=gD hi;obtain ⟨v,hv⟩:=stepF (h.step i r hr);rw[hv,putD_n];exact ih (by omega)
theorem nd.ds (h:nd cx K ops rows c):∀ i,i≤rows.length→(c i).F.ds=(c 0).F.ds:=by
 intro i
 induction i with
 | zero=>intro _;rfl
 | succ i ih=>
  intro hi;obtain ⟨r,hr⟩:=gD hi;obtain ⟨v,hv⟩:=stepF (h.step i r hr);rw[hv,Af];exact ih (by omega)
theorem nd.b6 (h:nd cx K ops rows c) {t:Nat} {i:Nat}:∀ j,i≤j→j≤rows.length→(∀ (k:Nat) (r:Row),i≤k→k<j→rows[k]?=some r→r.o.dst≠some t)→(c j).F.t.get t=(c i).F.t.get t:=by
 intro j
 induction j with
 | zero => intro h1 _ _; have : i = 0 := by omega
           subst this;rfl
 | succ j ih=>
  intro h1 h2 h3;by_cases gJ:i=j+1
  ·subst gJ;rfl
  ·obtain ⟨r,hr⟩:=gD (rows:=rows) h2;obtain ⟨v,hv⟩:=stepF (h.step j r hr);rw[hv,qT (h3 j r (by omega) (by omega) hr)];exact ih (by omega) (by omega) fun k r hk1 sQ=>h3 k r hk1 (by omega)
def tv (rows:List Row) (t i:Nat):Prop:=∃ r,rows[i]?=some r∧r.o.dst=some t
structure zK (rows:List Row) (c:Nat→BE) (L:Nat→Prop) (F:Fr):Prop where
 n:F.n=(c 0).F.n
 ds:F.ds=(c 0).F.ds
 yes:∀ t i,tv rows t i→L i→F.t.get t=(c rows.length).F.t.get t
 no:∀ t,(∀ i,tv rows t i→¬L i)→F.t.get t=(c 0).F.t.get t
theorem nd.now (h:nd cx K ops rows c) {L:Nat→Prop} {F:Fr} (ha:zK rows c L F) {i:Nat} {r:Row} (hr:rows[i]?=some r) (hL:∀ j,bit r.cN j=true→L j) (Db:dC r.cls=true∨∀ (k:Nat) (q:Row),rows[k]?=some q→bit q.cN i=true→¬L k) {t:Nat} (ht:t∈fU ops r.o) :
  F.t.get t=(c i).F.t.get t:=by
 have hi:=jT hr;by_cases hw:∃ j,tv rows t j
 ·obtain ⟨j,q,hq,hd⟩:=hw;rcases h.z9 j i q r t hq hr hd ht with hb|⟨hb,wq⟩
  ·have hj:=oz (h.lt i r hr) hb;rw[ha.yes t j ⟨q,hq,hd⟩ (hL j hb)];refine h.b6 _ (Nat.le_of_lt hi) (Nat.le_refl _) fun k q' hk1 _ hk jt=>?_;have:=h.single j k q q' t hq hk hd jt;omega
  ·have hj:=oz (h.lt j q hq) hb;have hnj:¬L j:=by
    rcases Db with h1|h1
    ·rw[h1] at wq;cases wq
    ·exact h1 j q hq hb
   rw[ha.no t fun k hk hLk=>by
    obtain ⟨q',hq',jt⟩:=hk;have:=h.single j k q q' t hq hq' hd jt;subst this;exact hnj hLk]
   exact (h.b6 i (Nat.zero_le _) (Nat.le_of_lt hi) fun k q' _ sQ hk jt=>by
    have:=h.single j k q q' t hq hk hd jt;omega).symm
 ·rw[ha.no t fun j hj _=>hw ⟨j,hj⟩];exact (h.b6 i (Nat.zero_le _) (Nat.le_of_lt hi) fun k q' _ _ hk jt=>hw ⟨k,q',hk,jt⟩).symm
theorem nd.all (h:nd cx K ops rows c):zK rows c (fun _=>True) (c rows.length).F:=
 ⟨h.n _ (Nat.le_refl _),h.ds _ (Nat.le_refl _),fun _ _ _ _=>rfl,fun _ hw=>h.b6 _ (Nat.zero_le _) (Nat.le_refl _) fun k q' _ _ hk jt=>hw k ⟨q',hk,jt⟩ trivial⟩
theorem nd.put (h:nd cx K ops rows c) {L L':Nat→Prop} {F:Fr} (ha:zK rows c L F) {i:Nat} {r:Row} (hr:rows[i]?=some r) (hn:¬L i) {v:AV} (hv:(c (i+1)).F=aK (c i).F r.o.dst v)
  (hL:∀ j,L' j↔L j∨j=i):zK rows c L' (aK F r.o.dst v):=by
 have hi:=jT hr;have me:∀ t,r.o.dst=some t→(aK F r.o.dst v).t.get t=(c rows.length).F.t.get t:=by
  intro t hd;have h1:(c rows.length).F.t.get t=(c (i+1)).F.t.get t:=h.b6 _ hi (Nat.le_refl _) fun k q hk _ hq jt=>by
   have:=h.single i k r q t hr hq hd jt;omega
  rw[h1,hv,hd,lD,lD,ha.n,h.n i (Nat.le_of_lt hi)];split
  ·rfl
  ·rw[ha.no t fun j hj hLj=>by
    obtain ⟨q,hq,jt⟩:=hj;have:=h.single i j r q t hr hq hd jt;subst this;exact hn hLj]
   exact (h.b6 i (Nat.zero_le _) (Nat.le_of_lt hi) fun k q _ hk hq jt=>by
    have:=h.single i k r q t hr hq hd jt;omega).symm
 refine ⟨by rw[putD_n];exact ha.n,by rw[Af];exact ha.ds,fun t j hj hLj=>?_,fun t hw=>?_⟩
 ·by_cases hd:r.o.dst=some t
  ·exact me t hd
  ·rw[qT hd];rcases (hL j).1 hLj with h1|h1
   ·exact ha.yes t j hj h1
   ·subst h1;obtain ⟨q,hq,jt⟩:=hj;rw[hr] at hq;cases hq;exact absurd jt hd
 ·have hd:r.o.dst≠some t:=fun hd=>hw i ⟨r,hr,hd⟩ ((hL i).2 (.inr rfl));rw[qT hd];exact ha.no t fun j hj hLj=>hw j hj ((hL j).2 (.inl hLj))
def js (rows:List Row) (i:Nat):Nat:=(rows.take i).countP fun r=>bo r.cls
theorem jY {i:Nat} {r:Row} (h:rows[i]?=some r):js rows (i+1)=js rows i+(if bo r.cls then 1 else 0):=by
 unfold js;rw[List.take_add_one,h,List.countP_append];simp[List.countP_cons]
theorem vV {i:Nat}:∀ {j:Nat},i≤j→js rows i≤js rows j:=by
 intro j gJ
 induction j with
 | zero => have : i = 0 := by omega
           subst this;exact Nat.le_refl _
 | succ j ih=>
  by_cases h:i=j+1
  ·subst h;exact Nat.le_refl _
  ·have h1:=ih (by omega);by_cases hj:j<rows.length
   ·obtain ⟨r,hr⟩:=gD hj;rw[jY hr];omega
   ·have:js rows (j+1)=js rows j:=by
     unfold js;rw[List.take_of_length_le (by omega),List.take_of_length_le (by omega)]
    omega
theorem vW {e i:Nat} {r:Row} (h:rows[e]?=some r) (he:bo r.cls=true):e<i↔js rows e<js rows i:=by
 constructor
 ·intro bF;have:=vV (rows:=rows) (i:=e+1) (j:=i) bF;rw[jY h,if_pos he] at this;omega
 ·intro bF;rcases Nat.lt_or_ge e i with h1|h1
  ·exact h1
  ·have:=vV (rows:=rows) h1;omega
theorem vX:∀ i,js rows i=0∨∃ (e:Nat) (r:Row),e<i∧rows[e]?=some r∧bo r.cls=true∧js rows i=js rows e+1:=by
 intro i
 induction i with
 | zero=>left;rfl
 | succ i ih=>
  by_cases hi:i<rows.length
  ·obtain ⟨r,hr⟩:=gD hi;rw[jY hr];cases he:bo r.cls with
   | true=>exact .inr ⟨i,r,by omega,hr,he,by simp⟩
   | false=>
    rcases ih with h|⟨e,q,h1,h2,h3,h4⟩
    ·left;simpa using h
    ·exact .inr ⟨e,q,by omega,h2,h3,by simpa using h4⟩
  ·have:js rows (i+1)=js rows i:=by
    unfold js;rw[List.take_of_length_le (by omega),List.take_of_length_le (by omega)]
   rw[this];rcases ih with h|⟨e,q,h1,h2⟩
   ·exact .inl h
   ·exact .inr ⟨e,q,by omega,h2⟩
def full (c:Nat→BE) (i:Nat):List AS:=(c i).S :: (c i).ax
theorem nd.Dp (h:nd cx K ops rows c) (h0:(c 0).ax=[]):∀ i,i≤rows.length→(full c i).length=js rows i+1:=by
 intro i
 induction i with
 | zero=>intro _;simp[full,h0,js]
 | succ i ih=>
  intro hi;obtain ⟨r,hr⟩:=gD hi;have h1:=ih (by omega);rw[jY hr];rcases h.step i r hr with ⟨hc,⟨_,v,x,_,e⟩|⟨_,e⟩⟩|⟨hc,v,S2,_,e⟩|⟨hc,v,_,e⟩
  ·simp only[full,e,hc,bo] at h1 ⊢;simpa using h1
  ·simp only[full,e,hc,bo] at h1 ⊢;simpa using h1
  ·simp only[full,e,hc,bo] at h1 ⊢;simpa using h1
  ·rcases hc with hc|hc<;>(simp only[full,e,hc,bo] at h1 ⊢;simpa using h1)
theorem nd.full_suf (h:nd cx K ops rows c) {i:Nat}:∀ j,i≤j→j≤rows.length→∃ pre,full c j=pre++full c i:=by
 intro j
 induction j with
 | zero => intro h1 _; have : i = 0 := by omega
           subst this;exact ⟨[],rfl⟩
 | succ j ih=>
  intro h1 h2;by_cases gJ:i=j+1
  ·subst gJ;exact ⟨[],rfl⟩
  ·obtain ⟨pre,hp⟩:=ih (by omega) (by omega);obtain ⟨r,hr⟩:=gD (rows:=rows) h2;rcases h.step j r hr with ⟨hc,⟨_,v,x,_,e⟩|⟨_,e⟩⟩|⟨hc,v,S2,_,e⟩|⟨hc,v,_,e⟩
   ·exact ⟨pre,by rw[←hp];simp[full,e]⟩
   ·exact ⟨pre,by rw[←hp];simp[full,e]⟩
   ·exact ⟨S2 :: pre,by rw[List.cons_append,←hp];simp[full,e]⟩
   ·exact ⟨pre,by rw[←hp];simp[full,e]⟩
def dQ (rows:List Row) (c:Nat→BE):List AS:=(full c rows.length).reverse
theorem nd.snap (h:nd cx K ops rows c) (h0:(c 0).ax=[]) {i:Nat} (hi:i≤rows.length):(dQ rows c)[js rows i]?=some (c i).S:=by
 obtain ⟨pre,hp⟩:=h.full_suf rows.length hi (Nat.le_refl _);have hl:=h.Dp h0 i hi;unfold dQ;rw[hp,List.reverse_append,List.getElem?_append_left (by rw[List.length_reverse,hl];omega)];have:(full c i).reverse=(c i).ax.reverse++[(c i).S]:=by simp[full]
 rw[this];have uW:(c i).ax.reverse.length=js rows i:=by
  simp only[full,List.length_cons] at hl;rw[List.length_reverse];omega
 rw[←uW];simp
theorem nd.vq (h:nd cx K ops rows c) (h0:(c 0).ax=[]):(dQ rows c).length=js rows rows.length+1:=by
 unfold dQ;rw[List.length_reverse];exact h.Dp h0 _ (Nat.le_refl _)
structure Laid (cx:Cx) (ops:List Oper) (rows:List Row) (c:Nat→BE) (j:Nat) (q:cQ):Prop where
 row:∃ r v,rows[j]?=some r∧r.cls=.fresh∧wanted ops (c j).F r.o=some true∧al cx (c j).F q.id r.o.op=some (v,q.obj)
 i:q.i=j
 id:q.id=(c j).id
theorem nd.id_le (h:nd cx K ops rows c) {i:Nat}:∀ j,i≤j→j≤rows.length→(c i).id≤(c j).id:=by
 intro j
 induction j with
 | zero => intro h1 _; have : i = 0 := by omega
           subst this;exact Nat.le_refl _
 | succ j ih=>
  intro h1 h2;by_cases gJ:i=j+1
  ·subst gJ;exact Nat.le_refl _
  ·have:=ih (by omega) (by omega);obtain ⟨r,hr⟩:=gD (rows:=rows) h2;rcases h.step j r hr with ⟨hc,⟨_,v,x,_,e⟩|⟨_,e⟩⟩|⟨hc,v,S2,_,e⟩|⟨hc,v,_,e⟩<;>(rw[e];simp only[];omega)
theorem Laid.next (h:nd cx K ops rows c) {j:Nat} {q:cQ} (hl:Laid cx ops rows c j q):(c (j+1)).id=(c j).id+1∧j<rows.length∧∃ x,(c (j+1)).ps=q :: (c j).ps∧x=q:=by
 obtain ⟨⟨r,v,hr,hc,hw,hf⟩,hi,cY⟩:=hl;rcases h.step j r hr with ⟨_,⟨_,v',x,AN,e⟩|⟨we,e⟩⟩|⟨iK,_⟩|⟨iK,_⟩
 ·rw[cY,AN] at hf;cases hf;refine ⟨by rw[e],jT hr,q,?_,rfl⟩;rw[e];obtain ⟨qi,qid,qo⟩:=q;simp only at hi cY;subst hi cY;rw[h.num _ r hr]
 ·rw[hw] at we;cases we
 ·rw[hc] at iK;cases iK
 ·rw[hc] at iK;rcases iK with iK|iK<;>cases iK
theorem Laid.apart (h:nd cx K ops rows c) {j j':Nat} {q q':cQ} (hl:Laid cx ops rows c j q) (sO:Laid cx ops rows c j' q') (aZ:j≠j'):q.id≠q'.id:=by
 have h1:=hl.next h
 have h2:=sO.next h
 rw[hl.id,sO.id];rcases Nat.lt_or_ge j j' with bF|oW
 ·have:=h.id_le (i:=j+1) j' bF (by omega);omega
 ·have:=h.id_le (i:=j'+1) j (by omega) (by omega);omega
theorem nd.id_top (h:nd cx K ops rows c):∀ i,i≤rows.length→(c i).id≤(c 0).id+(rows.take i).countP (fun r=>bz r.cls):=by
 intro i
 induction i with
 | zero=>intro _;simp
 | succ i ih=>
  intro hi;have:=ih (by omega);obtain ⟨r,hr⟩:=gD (rows:=rows) hi;rw[List.take_add_one,hr,List.countP_append];rcases h.step i r hr with ⟨hc,⟨_,v,x,_,e⟩|⟨_,e⟩⟩|⟨hc,v,S2,_,e⟩|⟨hc,v,_,e⟩
  ·have h1:List.countP (fun r:Row=>bz r.cls) (some r).toList=1:=by simp[hc,bz]
   rw[e,h1];simp only[];omega
  ·rw[e];simp only[];omega
  ·rw[e];simp only[];omega
  ·rw[e];simp only[];omega
theorem Laid.top (h:nd cx K ops rows c) {j:Nat} {q:cQ} (hl:Laid cx ops rows c j q):(c 0).id≤q.id∧q.id<(c 0).id+rows.countP (fun r=>bz r.cls):=by
 obtain ⟨h1,h2,_⟩:=hl.next h
 have h3:=h.id_le (i:=0) j (Nat.zero_le _) (by omega);have h4:=h.id_top (j+1) h2;have h5:(rows.take (j+1)).countP (fun r=>bz r.cls)≤rows.countP (fun r=>bz r.cls):=List.Sublist.countP_le (List.take_sublist _ _);rw[hl.id];omega
theorem nd.waits (h:nd cx K ops rows c) (h0:(c 0).ps=[]):∀ i,i≤rows.length→(∀ q,q∈(c i).ps↔∃ j,j<i∧Laid cx ops rows c j q∧∀ (e:Nat) (r:Row),e<i→rows[e]?=some r→bo r.cls=true→bit r.cN j=false) ∧
  (c i).ps.Pairwise fun p q=>p.id≠q.id:=by
 intro i
 induction i with
 | zero=>intro _;rw[h0];exact ⟨fun q=>⟨fun hq=>(by cases hq),fun ⟨j,hj,_⟩=>(by omega)⟩,.nil⟩
 | succ i ih=>
  intro hi;obtain ⟨h1, h2⟩ := ih (by omega);obtain ⟨r, hr⟩ := gD (rows := rows) hi;have same : (c (i + 1)).ps = (c i).ps → r.cls ≠ .wT → (∀ q, ¬ Laid cx ops rows c i q) → (∀ q, q ∈ (c (i + 1)).ps ↔ ∃ j, j < i + 1 ∧ Laid cx ops rows c j q ∧ ∀ (e : Nat) (r : Row), e < i + 1 → rows[e]? = some r → bo r.cls = true → bit r.cN j = false) ∧
    (c (i+1)).ps.Pairwise fun p q=>p.id≠q.id:=by
   intro e hc Db;rw[e];refine ⟨fun q=>(h1 q).trans ⟨?_,?_⟩,h2⟩
   ·rintro ⟨j,hj,hl,hq⟩;refine ⟨j,by omega,hl,fun e' r' he fJ iK=>?_⟩;by_cases hei:e'=i
    ·subst hei;rw[hr] at fJ;cases fJ;exact absurd (isEff_iff.1 iK) hc
    ·exact hq e' r' (by omega) fJ iK
   ·rintro ⟨j,hj,hl,hq⟩;have:j≠i:=fun e=>by subst e;exact Db q hl
    exact ⟨j,by omega,hl,fun e' r' he=>hq e' r' (by omega)⟩
  rcases h.step i r hr with ⟨hc,⟨hw,v,x,hf,e⟩|⟨hw,e⟩⟩|⟨hc,v,S2,_,e⟩|⟨hc,v,_,e⟩
  ·have wB:Laid cx ops rows c i ⟨r.i,(c i).id,x⟩:=⟨⟨r,v,hr,hc,hw,hf⟩,h.num i r hr,rfl⟩
   have gI:(c (i+1)).ps=⟨r.i,(c i).id,x⟩ :: (c i).ps:=by rw[e]
   rw[gI];refine ⟨fun q=>?_,?_⟩
   ·rw[List.mem_cons,h1];constructor
    ·rintro (rfl|⟨j,hj,hl,hq⟩)
     ·refine ⟨i,by omega,wB,fun e' r' he fJ iK=>?_⟩;cases hb:bit r'.cN i with
      | false=>rfl
      | true=>have:=oz (h.lt e' r' fJ) hb;omega
     ·refine ⟨j,by omega,hl,fun e' r' he fJ iK=>?_⟩;by_cases hei:e'=i
      ·subst hei;rw[hr] at fJ;cases fJ;rw[hc] at iK;cases iK
      ·exact hq e' r' (by omega) fJ iK
    ·rintro ⟨j,hj,hl,hq⟩;by_cases Dd:j=i
     ·subst Dd;left;obtain ⟨_,_,_,hps',_⟩:=hl.next h
      rw[gI] at hps';exact (List.cons.inj hps').1.symm
     ·exact .inr ⟨j,by omega,hl,fun e' r' he=>hq e' r' (by omega)⟩
   ·refine List.pairwise_cons.2 ⟨fun q hq=>?_,h2⟩;obtain ⟨j,hj,hl,_⟩:=(h1 q).1 hq;exact wB.apart h hl (by omega)
  ·exact same (by rw[e]) (by rw[hc];simp) fun q hl=>by
    obtain ⟨⟨r',v,fJ,_,we,_⟩,_⟩:=hl;rw[hr] at fJ;cases fJ;rw[hw] at we;cases we
  ·have gI:(c (i+1)).ps=(c i).ps.filter (fun p=>!bit r.cN p.i):=by rw[e]
   rw[gI];refine ⟨fun q=>?_,h2.filter _⟩;rw[List.mem_filter,h1];constructor
   ·rintro ⟨⟨j,hj,hl,hq⟩,hb⟩;refine ⟨j,by omega,hl,fun e' r' he fJ iK=>?_⟩;by_cases hei:e'=i
    ·subst hei;rw[hr] at fJ;cases fJ;rw[hl.i] at hb;simpa using hb
    ·exact hq e' r' (by omega) fJ iK
   ·rintro ⟨j,hj,hl,hq⟩;have Dd:j≠i:=fun e=>by
     subst e;obtain ⟨⟨r',v,fJ,iK,_⟩,_⟩:=hl;rw[hr] at fJ;cases fJ;rw[hc] at iK;cases iK
    refine ⟨⟨j,by omega,hl,fun e' r' he=>hq e' r' (by omega)⟩,?_⟩;rw[hl.i];have:=hq i r (by omega) hr (by rw[hc];rfl);simpa using this
  ·exact same (by rw[e]) (by rcases hc with hc|hc<;>(rw[hc];simp)) fun q hl=>by
    obtain ⟨⟨r',v,fJ,iK,_⟩,_⟩:=hl;rw[hr] at fJ;cases fJ;rw[iK] at hc;rcases hc with hc|hc<;>cases hc
end
end Go.Am
