/-
  The abstract machine: the run of a region that draws its order. Frames, levels, numbers: plain facts.
-/
import Derived.Test.YtdknlbnljfdhgaaGreatDoorAmTrace
namespace Go.Am
open Go
structure nB (cx:Cx) (K:bg) (ops:List Oper) (rows:List Row) (c:Nat→Cc):Prop where
 step:∀ (i:Nat) (r:Row),rows[i]?=some r→uV cx K ops r (c i) (c (i+1))
 num:∀ (i:Nat) (r:Row),rows[i]?=some r→r.i=i
 lt:∀ (i:Nat) (r:Row),rows[i]?=some r→r.c7<2 ^ i
 tot:∀ (i j:Nat) (r q:Row),rows[i]?=some r→rows[j]?=some q→bB r.cls=true→bB q.cls=true→i<j→bit q.c7 i=true
 AN:∀ (i j:Nat) (r q:Row) (d:Nat),rows[i]?=some r→rows[j]?=some q→r.o.dst=some d→d∈gG ops q.o→bit q.c7 i=true∨(bit r.c7 j=true∧eu q.cls=false)
 single:∀ (i j:Nat) (r q:Row) (d:Nat),rows[i]?=some r→rows[j]?=some q→r.o.dst=some d→q.o.dst=some d→i=j
theorem isEff_iff {c:Cls}:bB c=true↔c=.vG:=by cases c<;>simp[bB]
theorem putD_n (F:Fr) (dst:Option Tmp) (v:AV):(aO F dst v).n=F.n:=by
 cases dst with
 | none=>rfl
 | some d=>rw[jh];cases Nat.blt d F.n<;>rfl
theorem AY (F:Fr) (dst:Option Tmp) (v:AV):(aO F dst v).ds=F.ds:=by
 cases dst with
 | none=>rfl
 | some d=>rw[jh];cases Nat.blt d F.n<;>rfl
theorem rM {F:Fr} {dst:Option Tmp} {v:AV} {t:Nat} (h:dst≠some t):(aO F dst v).t.get t=F.t.get t:=by
 cases dst with
 | none=>rfl
 | some d=>
  rw[jh];cases Nat.blt d F.n with
  | false=>rfl
  | true=>exact ae _ _ (fun e=>h (by rw[e]))
theorem lR {F:Fr} {v:AV} {t:Nat}:(aO F (some t) v).t.get t=if t<F.n then some v else F.t.get t:=by
 rw[jh];by_cases h:t<F.n
 ·have:Nat.blt t F.n=true:=by simpa using h
  rw[this,if_pos h];exact aa _ _ _
 ·have:Nat.blt t F.n=false:=by
   cases hb:Nat.blt t F.n with
   | false=>rfl
   | true=>exact absurd (by simpa using hb) h
  rw[this,if_neg h];rfl
theorem cO {cx:Cx} {K:bg} {ops:List Oper} {r:Row} {c c':Cc} (h:uV cx K ops r c c'):∃ v,c'.F=aO c.F r.o.dst v:=by
 rcases h with ⟨_,⟨_,v,x,_,rfl⟩|⟨_,rfl⟩⟩|⟨_,v,S2,_,rfl⟩|⟨_,v,_,rfl⟩<;>exact ⟨_,rfl⟩
section
variable {cx:Cx} {K:bg} {ops:List Oper} {rows:List Row} {c:Nat→Cc}
theorem ig {i:Nat} (h:i<rows.length):∃ r,rows[i]?=some r:=⟨rows[i],List.getElem?_eq_getElem h⟩
theorem ky {i:Nat} {r:Row} (h:rows[i]?=some r):i<rows.length:=by
 rcases Nat.lt_or_ge i rows.length with h1|h1
 ·exact h1
 ·rw[List.getElem?_eq_none h1] at h;cases h
theorem nB.n (h:nB cx K ops rows c):∀ i,i≤rows.length→(c i).F.n=(c 0).F.n:=by
 intro i
 induction i with
 | zero=>intro _;rfl
 | succ i ih=>
  intro hi;obtain ⟨r,hr⟩:=ig hi;obtain ⟨v,hv⟩:=cO (h.step i r hr);rw[hv,putD_n];exact ih (by omega)
theorem nB.ds (h:nB cx K ops rows c):∀ i,i≤rows.length→(c i).F.ds=(c 0).F.ds:=by
 intro i
 induction i with
 | zero=>intro _;rfl
 | succ i ih=>
  intro hi;obtain ⟨r,hr⟩:=ig hi;obtain ⟨v,hv⟩:=cO (h.step i r hr);rw[hv,AY];exact ih (by omega)
theorem nB.bH (h:nB cx K ops rows c) {t:Nat} {i:Nat}:∀ j,i≤j→j≤rows.length→(∀ (k:Nat) (r:Row),i≤k→k<j→rows[k]?=some r→r.o.dst≠some t)→(c j).F.t.get t=(c i).F.t.get t:=by
 intro j
 induction j with
 | zero => intro h1 _ _; have : i = 0 := by omega
           subst this;rfl
 | succ j ih=>
  intro h1 h2 h3;by_cases gO:i=j+1
  ·subst gO;rfl
  ·obtain ⟨r,hr⟩:=ig (rows:=rows) h2;obtain ⟨v,hv⟩:=cO (h.step j r hr);rw[hv,rM (h3 j r (by omega) (by omega) hr)];exact ih (by omega) (by omega) fun k r hk1 va=>h3 k r hk1 (by omega)
def ue (rows:List Row) (t i:Nat):Prop:=∃ r,rows[i]?=some r∧r.o.dst=some t
structure Ax (rows:List Row) (c:Nat→Cc) (L:Nat→Prop) (F:Fr):Prop where
 n:F.n=(c 0).F.n
 ds:F.ds=(c 0).F.ds
 yes:∀ t i,ue rows t i→L i→F.t.get t=(c rows.length).F.t.get t
 no:∀ t,(∀ i,ue rows t i→¬L i)→F.t.get t=(c 0).F.t.get t
theorem nB.now (h:nB cx K ops rows c) {L:Nat→Prop} {F:Fr} (ha:Ax rows c L F) {i:Nat} {r:Row} (hr:rows[i]?=some r) (hL:∀ j,bit r.c7 j=true→L j) (uB:eu r.cls=true∨∀ (k:Nat) (q:Row),rows[k]?=some q→bit q.c7 i=true→¬L k) {t:Nat} (ht:t∈gG ops r.o) :
  F.t.get t=(c i).F.t.get t:=by
 have hi:=ky hr;by_cases hw:∃ j,ue rows t j
 ·obtain ⟨j,q,hq,hd⟩:=hw;rcases h.AN j i q r t hq hr hd ht with hb|⟨hb,zU⟩
  ·have hj:=oO (h.lt i r hr) hb;rw[ha.yes t j ⟨q,hq,hd⟩ (hL j hb)];refine h.bH _ (Nat.le_of_lt hi) (Nat.le_refl _) fun k q' hk1 _ hk ki=>?_;have:=h.single j k q q' t hq hk hd ki;omega
  ·have hj:=oO (h.lt j q hq) hb;have hnj:¬L j:=by
    rcases uB with h1|h1
    ·rw[h1] at zU;cases zU
    ·exact h1 j q hq hb
   rw[ha.no t fun k hk hLk=>by
    obtain ⟨q',hq',ki⟩:=hk;have:=h.single j k q q' t hq hq' hd ki;subst this;exact hnj hLk]
   exact (h.bH i (Nat.zero_le _) (Nat.le_of_lt hi) fun k q' _ va hk ki=>by
    have:=h.single j k q q' t hq hk hd ki;omega).symm
 ·rw[ha.no t fun j hj _=>hw ⟨j,hj⟩];exact (h.bH i (Nat.zero_le _) (Nat.le_of_lt hi) fun k q' _ _ hk ki=>hw ⟨k,q',hk,ki⟩).symm
theorem nB.all (h:nB cx K ops rows c):Ax rows c (fun _=>True) (c rows.length).F:=
 ⟨h.n _ (Nat.le_refl _),h.ds _ (Nat.le_refl _),fun _ _ _ _=>rfl,fun _ hw=>h.bH _ (Nat.zero_le _) (Nat.le_refl _) fun k q' _ _ hk ki=>hw k ⟨q',hk,ki⟩ trivial⟩
theorem nB.put (h:nB cx K ops rows c) {L L':Nat→Prop} {F:Fr} (ha:Ax rows c L F) {i:Nat} {r:Row} (hr:rows[i]?=some r) (hn:¬L i) {v:AV} (hv:(c (i+1)).F=aO (c i).F r.o.dst v)
  (hL:∀ j,L' j↔L j∨j=i):Ax rows c L' (aO F r.o.dst v):=by
 have hi:=ky hr;have me:∀ t,r.o.dst=some t→(aO F r.o.dst v).t.get t=(c rows.length).F.t.get t:=by
  intro t hd;have h1:(c rows.length).F.t.get t=(c (i+1)).F.t.get t:=h.bH _ hi (Nat.le_refl _) fun k q hk _ hq ki=>by
   have:=h.single i k r q t hr hq hd ki;omega
  rw[h1,hv,hd,lR,lR,ha.n,h.n i (Nat.le_of_lt hi)];split
  ·rfl
  ·rw[ha.no t fun j hj hLj=>by
    obtain ⟨q,hq,ki⟩:=hj;have:=h.single i j r q t hr hq hd ki;subst this;exact hn hLj]
   exact (h.bH i (Nat.zero_le _) (Nat.le_of_lt hi) fun k q _ hk hq ki=>by
    have:=h.single i k r q t hr hq hd ki;omega).symm
 refine ⟨by rw[putD_n];exact ha.n,by rw[AY];exact ha.ds,fun t j hj hLj=>?_,fun t hw=>?_⟩
 ·by_cases hd:r.o.dst=some t
  ·exact me t hd
  ·rw[rM hd];rcases (hL j).1 hLj with h1|h1
   ·exact ha.yes t j hj h1
   ·subst h1;obtain ⟨q,hq,ki⟩:=hj;rw[hr] at hq;cases hq;exact absurd ki hd
 ·have hd:r.o.dst≠some t:=fun hd=>hw i ⟨r,hr,hd⟩ ((hL i).2 (.inr rfl));rw[rM hd];exact ha.no t fun j hj hLj=>hw j hj ((hL j).2 (.inl hLj))
def jR (rows:List Row) (i:Nat):Nat:=(rows.take i).countP fun r=>bB r.cls
theorem kE {i:Nat} {r:Row} (h:rows[i]?=some r):jR rows (i+1)=jR rows i+(if bB r.cls then 1 else 0):=by
 unfold jR;rw[List.take_add_one,h,List.countP_append];simp[List.countP_cons]
theorem xc {i:Nat}:∀ {j:Nat},i≤j→jR rows i≤jR rows j:=by
 intro j gO
 induction j with
 | zero => have : i = 0 := by omega
           subst this;exact Nat.le_refl _
 | succ j ih=>
  by_cases h:i=j+1
  ·subst h;exact Nat.le_refl _
  ·have h1:=ih (by omega);by_cases hj:j<rows.length
   ·obtain ⟨r,hr⟩:=ig hj;rw[kE hr];omega
   ·have:jR rows (j+1)=jR rows j:=by
     unfold jR;rw[List.take_of_length_le (by omega),List.take_of_length_le (by omega)]
    omega
theorem xd {e i:Nat} {r:Row} (h:rows[e]?=some r) (he:bB r.cls=true):e<i↔jR rows e<jR rows i:=by
 constructor
 ·intro bK;have:=xc (rows:=rows) (i:=e+1) (j:=i) bK;rw[kE h,if_pos he] at this;omega
 ·intro bK;rcases Nat.lt_or_ge e i with h1|h1
  ·exact h1
  ·have:=xc (rows:=rows) h1;omega
theorem xe:∀ i,jR rows i=0∨∃ (e:Nat) (r:Row),e<i∧rows[e]?=some r∧bB r.cls=true∧jR rows i=jR rows e+1:=by
 intro i
 induction i with
 | zero=>left;rfl
 | succ i ih=>
  by_cases hi:i<rows.length
  ·obtain ⟨r,hr⟩:=ig hi;rw[kE hr];cases he:bB r.cls with
   | true=>exact .inr ⟨i,r,by omega,hr,he,by simp⟩
   | false=>
    rcases ih with h|⟨e,q,h1,h2,h3,h4⟩
    ·left;simpa using h
    ·exact .inr ⟨e,q,by omega,h2,h3,by simpa using h4⟩
  ·have:jR rows (i+1)=jR rows i:=by
    unfold jR;rw[List.take_of_length_le (by omega),List.take_of_length_le (by omega)]
   rw[this];rcases ih with h|⟨e,q,h1,h2⟩
   ·exact .inl h
   ·exact .inr ⟨e,q,by omega,h2⟩
def full (c:Nat→Cc) (i:Nat):List AS:=(c i).S :: (c i).aE
theorem nB.Eo (h:nB cx K ops rows c) (h0:(c 0).aE=[]):∀ i,i≤rows.length→(full c i).length=jR rows i+1:=by
 intro i
 induction i with
 | zero=>intro _;simp[full,h0,jR]
 | succ i ih=>
  intro hi;obtain ⟨r,hr⟩:=ig hi;have h1:=ih (by omega);rw[kE hr];rcases h.step i r hr with ⟨hc,⟨_,v,x,_,e⟩|⟨_,e⟩⟩|⟨hc,v,S2,_,e⟩|⟨hc,v,_,e⟩
  ·simp only[full,e,hc,bB] at h1 ⊢;simpa using h1
  ·simp only[full,e,hc,bB] at h1 ⊢;simpa using h1
  ·simp only[full,e,hc,bB] at h1 ⊢;simpa using h1
  ·rcases hc with hc|hc<;>(simp only[full,e,hc,bB] at h1 ⊢;simpa using h1)
theorem nB.full_suf (h:nB cx K ops rows c) {i:Nat}:∀ j,i≤j→j≤rows.length→∃ pre,full c j=pre++full c i:=by
 intro j
 induction j with
 | zero => intro h1 _; have : i = 0 := by omega
           subst this;exact ⟨[],rfl⟩
 | succ j ih=>
  intro h1 h2;by_cases gO:i=j+1
  ·subst gO;exact ⟨[],rfl⟩
  ·obtain ⟨pre,hp⟩:=ih (by omega) (by omega);obtain ⟨r,hr⟩:=ig (rows:=rows) h2;rcases h.step j r hr with ⟨hc,⟨_,v,x,_,e⟩|⟨_,e⟩⟩|⟨hc,v,S2,_,e⟩|⟨hc,v,_,e⟩
   ·exact ⟨pre,by rw[←hp];simp[full,e]⟩
   ·exact ⟨pre,by rw[←hp];simp[full,e]⟩
   ·exact ⟨S2 :: pre,by rw[List.cons_append,←hp];simp[full,e]⟩
   ·exact ⟨pre,by rw[←hp];simp[full,e]⟩
def eI (rows:List Row) (c:Nat→Cc):List AS:=(full c rows.length).reverse
theorem nB.snap (h:nB cx K ops rows c) (h0:(c 0).aE=[]) {i:Nat} (hi:i≤rows.length):(eI rows c)[jR rows i]?=some (c i).S:=by
 obtain ⟨pre,hp⟩:=h.full_suf rows.length hi (Nat.le_refl _);have hl:=h.Eo h0 i hi;unfold eI;rw[hp,List.reverse_append,List.getElem?_append_left (by rw[List.length_reverse,hl];omega)];have:(full c i).reverse=(c i).aE.reverse++[(c i).S]:=by simp[full]
 rw[this];have tD:(c i).aE.reverse.length=jR rows i:=by
  simp only[full,List.length_cons] at hl;rw[List.length_reverse];omega
 rw[←tD];simp
theorem nB.v7 (h:nB cx K ops rows c) (h0:(c 0).aE=[]):(eI rows c).length=jR rows rows.length+1:=by
 unfold eI;rw[List.length_reverse];exact h.Eo h0 _ (Nat.le_refl _)
structure Laid (cx:Cx) (ops:List Oper) (rows:List Row) (c:Nat→Cc) (j:Nat) (q:da):Prop where
 row:∃ r v,rows[j]?=some r∧r.cls=.fresh∧wanted ops (c j).F r.o=some true∧aC cx (c j).F q.id r.o.op=some (v,q.obj)
 i:q.i=j
 id:q.id=(c j).id
theorem nB.id_le (h:nB cx K ops rows c) {i:Nat}:∀ j,i≤j→j≤rows.length→(c i).id≤(c j).id:=by
 intro j
 induction j with
 | zero => intro h1 _; have : i = 0 := by omega
           subst this;exact Nat.le_refl _
 | succ j ih=>
  intro h1 h2;by_cases gO:i=j+1
  ·subst gO;exact Nat.le_refl _
  ·have:=ih (by omega) (by omega);obtain ⟨r,hr⟩:=ig (rows:=rows) h2;rcases h.step j r hr with ⟨hc,⟨_,v,x,_,e⟩|⟨_,e⟩⟩|⟨hc,v,S2,_,e⟩|⟨hc,v,_,e⟩<;>(rw[e];simp only[];omega)
theorem Laid.next (h:nB cx K ops rows c) {j:Nat} {q:da} (hl:Laid cx ops rows c j q):(c (j+1)).id=(c j).id+1∧j<rows.length∧∃ x,(c (j+1)).ps=q :: (c j).ps∧x=q:=by
 obtain ⟨⟨r,v,hr,hc,hw,hf⟩,hi,ck⟩:=hl;rcases h.step j r hr with ⟨_,⟨_,v',x,Bu,e⟩|⟨uz,e⟩⟩|⟨jj,_⟩|⟨jj,_⟩
 ·rw[ck,Bu] at hf;cases hf;refine ⟨by rw[e],ky hr,q,?_,rfl⟩;rw[e];obtain ⟨qi,qid,qo⟩:=q;simp only at hi ck;subst hi ck;rw[h.num _ r hr]
 ·rw[hw] at uz;cases uz
 ·rw[hc] at jj;cases jj
 ·rw[hc] at jj;rcases jj with jj|jj<;>cases jj
theorem Laid.apart (h:nB cx K ops rows c) {j j':Nat} {q q':da} (hl:Laid cx ops rows c j q) (rW:Laid cx ops rows c j' q') (cN:j≠j'):q.id≠q'.id:=by
 have h1:=hl.next h
 have h2:=rW.next h
 rw[hl.id,rW.id];rcases Nat.lt_or_ge j j' with bK|nJ
 ·have:=h.id_le (i:=j+1) j' bK (by omega);omega
 ·have:=h.id_le (i:=j'+1) j (by omega) (by omega);omega
theorem nB.id_top (h:nB cx K ops rows c):∀ i,i≤rows.length→(c i).id≤(c 0).id+(rows.take i).countP (fun r=>bM r.cls):=by
 intro i
 induction i with
 | zero=>intro _;simp
 | succ i ih=>
  intro hi;have:=ih (by omega);obtain ⟨r,hr⟩:=ig (rows:=rows) hi;rw[List.take_add_one,hr,List.countP_append];rcases h.step i r hr with ⟨hc,⟨_,v,x,_,e⟩|⟨_,e⟩⟩|⟨hc,v,S2,_,e⟩|⟨hc,v,_,e⟩
  ·have h1:List.countP (fun r:Row=>bM r.cls) (some r).toList=1:=by simp[hc,bM]
   rw[e,h1];simp only[];omega
  ·rw[e];simp only[];omega
  ·rw[e];simp only[];omega
  ·rw[e];simp only[];omega
theorem Laid.top (h:nB cx K ops rows c) {j:Nat} {q:da} (hl:Laid cx ops rows c j q):(c 0).id≤q.id∧q.id<(c 0).id+rows.countP (fun r=>bM r.cls):=by
 obtain ⟨h1,h2,_⟩:=hl.next h
 have h3:=h.id_le (i:=0) j (Nat.zero_le _) (by omega);have h4:=h.id_top (j+1) h2;have h5:(rows.take (j+1)).countP (fun r=>bM r.cls)≤rows.countP (fun r=>bM r.cls):=List.Sublist.countP_le (List.take_sublist _ _);rw[hl.id];omega
theorem nB.waits (h:nB cx K ops rows c) (h0:(c 0).ps=[]):∀ i,i≤rows.length→(∀ q,q∈(c i).ps↔∃ j,j<i∧Laid cx ops rows c j q∧∀ (e:Nat) (r:Row),e<i→rows[e]?=some r→bB r.cls=true→bit r.c7 j=false) ∧
  (c i).ps.Pairwise fun p q=>p.id≠q.id:=by
 intro i
 induction i with
 | zero=>intro _;rw[h0];exact ⟨fun q=>⟨fun hq=>(by cases hq),fun ⟨j,hj,_⟩=>(by omega)⟩,.nil⟩
 | succ i ih=>
  intro hi;obtain ⟨h1, h2⟩ := ih (by omega);obtain ⟨r, hr⟩ := ig (rows := rows) hi;have same : (c (i + 1)).ps = (c i).ps → r.cls ≠ .vG → (∀ q, ¬ Laid cx ops rows c i q) → (∀ q, q ∈ (c (i + 1)).ps ↔ ∃ j, j < i + 1 ∧ Laid cx ops rows c j q ∧ ∀ (e : Nat) (r : Row), e < i + 1 → rows[e]? = some r → bB r.cls = true → bit r.c7 j = false) ∧
    (c (i+1)).ps.Pairwise fun p q=>p.id≠q.id:=by
   intro e hc uB;rw[e];refine ⟨fun q=>(h1 q).trans ⟨?_,?_⟩,h2⟩
   ·rintro ⟨j,hj,hl,hq⟩;refine ⟨j,by omega,hl,fun e' r' he fk jj=>?_⟩;by_cases hei:e'=i
    ·subst hei;rw[hr] at fk;cases fk;exact absurd (isEff_iff.1 jj) hc
    ·exact hq e' r' (by omega) fk jj
   ·rintro ⟨j,hj,hl,hq⟩;have:j≠i:=fun e=>by subst e;exact uB q hl
    exact ⟨j,by omega,hl,fun e' r' he=>hq e' r' (by omega)⟩
  rcases h.step i r hr with ⟨hc,⟨hw,v,x,hf,e⟩|⟨hw,e⟩⟩|⟨hc,v,S2,_,e⟩|⟨hc,v,_,e⟩
  ·have xw:Laid cx ops rows c i ⟨r.i,(c i).id,x⟩:=⟨⟨r,v,hr,hc,hw,hf⟩,h.num i r hr,rfl⟩
   have yN:(c (i+1)).ps=⟨r.i,(c i).id,x⟩ :: (c i).ps:=by rw[e]
   rw[yN];refine ⟨fun q=>?_,?_⟩
   ·rw[List.mem_cons,h1];constructor
    ·rintro (rfl|⟨j,hj,hl,hq⟩)
     ·refine ⟨i,by omega,xw,fun e' r' he fk jj=>?_⟩;cases hb:bit r'.c7 i with
      | false=>rfl
      | true=>have:=oO (h.lt e' r' fk) hb;omega
     ·refine ⟨j,by omega,hl,fun e' r' he fk jj=>?_⟩;by_cases hei:e'=i
      ·subst hei;rw[hr] at fk;cases fk;rw[hc] at jj;cases jj
      ·exact hq e' r' (by omega) fk jj
    ·rintro ⟨j,hj,hl,hq⟩;by_cases uE:j=i
     ·subst uE;left;obtain ⟨_,_,_,hps',_⟩:=hl.next h
      rw[yN] at hps';exact (List.cons.inj hps').1.symm
     ·exact .inr ⟨j,by omega,hl,fun e' r' he=>hq e' r' (by omega)⟩
   ·refine List.pairwise_cons.2 ⟨fun q hq=>?_,h2⟩;obtain ⟨j,hj,hl,_⟩:=(h1 q).1 hq;exact xw.apart h hl (by omega)
  ·exact same (by rw[e]) (by rw[hc];simp) fun q hl=>by
    obtain ⟨⟨r',v,fk,_,uz,_⟩,_⟩:=hl;rw[hr] at fk;cases fk;rw[hw] at uz;cases uz
  ·have yN:(c (i+1)).ps=(c i).ps.filter (fun p=>!bit r.c7 p.i):=by rw[e]
   rw[yN];refine ⟨fun q=>?_,h2.filter _⟩;rw[List.mem_filter,h1];constructor
   ·rintro ⟨⟨j,hj,hl,hq⟩,hb⟩;refine ⟨j,by omega,hl,fun e' r' he fk jj=>?_⟩;by_cases hei:e'=i
    ·subst hei;rw[hr] at fk;cases fk;rw[hl.i] at hb;simpa using hb
    ·exact hq e' r' (by omega) fk jj
   ·rintro ⟨j,hj,hl,hq⟩;have uE:j≠i:=fun e=>by
     subst e;obtain ⟨⟨r',v,fk,jj,_⟩,_⟩:=hl;rw[hr] at fk;cases fk;rw[hc] at jj;cases jj
    refine ⟨⟨j,by omega,hl,fun e' r' he=>hq e' r' (by omega)⟩,?_⟩;rw[hl.i];have:=hq i r (by omega) hr (by rw[hc];rfl);simpa using this
  ·exact same (by rw[e]) (by rcases hc with hc|hc<;>(rw[hc];simp)) fun q hl=>by
    obtain ⟨⟨r',v,fk,jj,_⟩,_⟩:=hl;rw[hr] at fk;cases fk;rw[jj] at hc;rcases hc with hc|hc<;>cases hc
end
end Go.Am
