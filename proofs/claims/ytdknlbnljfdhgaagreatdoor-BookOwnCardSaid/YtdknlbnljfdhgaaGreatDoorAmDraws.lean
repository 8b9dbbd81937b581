/-
  The abstract machine: a region that draws its order, whole.
-/
import Derived.Test.YtdknlbnljfdhgaaGreatDoorAmDrawn
namespace Go.Am
open Go
variable {Λ:LB}
theorem ik {cx:Cx} {ops:List Oper} {F F':Fr} {S:AS} {o:Oper} (h:∀ t,t∈gG ops o→F.t.get t=F'.t.get t):ej cx ops F S o=ej cx ops F' S o:=by
 unfold ej;rw[jU h,Ar (sY h)]
theorem zI {cx:Cx} {K:bg} {ops:List Oper} {F F':Fr} {S:AS} {o:Oper} (h:∀ t,t∈gG ops o→F.t.get t=F'.t.get t):one cx K ops o F S=one cx K ops o F' S:=by
 unfold one;rw[jU h,Ar (sY h)]
theorem oneV_one {cx:Cx} {K:bg} {ops:List Oper} {F:Fr} {S:AS} {o:Oper} {v:AV} (hc:gk cx o=.pure∨gk cx o=.read) (h:ej cx ops F S o=some v):one cx K ops o F S=.ok (false,v,S) []:=by
 unfold ej at h;unfold one;cases hw:wanted ops F o with
 | none=>rw[hw] at h;cases h
 | some b=>
  rw[hw] at h;cases b with
  | false=>cases h;rfl
  | true=>
   simp only[] at h ⊢;cases ha:bo cx F S o with
   | err n=>rw[ha] at h;cases h
   | round f as S'=>rw[ha] at h;cases h
   | dN u S'=>rw[ha] at h;cases h
   | many l=>rw[ha] at h;cases h
   | enter f as S'=>rw[ha] at h;cases h
   | val u S'=>
    rw[ha] at h;cases h;rw[Fi hc ha]
theorem oneV_pure {cx:Cx} {ops:List Oper} {F:Fr} {S S2:AS} {o:Oper} {v:AV} (hc:gk cx o=.pure) (h:ej cx ops F S o=some v):ej cx ops F S2 o=some v:=by
 unfold ej at h ⊢;cases hw:wanted ops F o with
 | none=>rw[hw] at h;cases h
 | some b=>
  rw[hw] at h;cases b with
  | false=>exact h
  | true=>
   simp only[] at h ⊢;cases ha:bo cx F S o with
   | err n=>rw[ha] at h;cases h
   | round f as S'=>rw[ha] at h;cases h
   | dN u S'=>rw[ha] at h;cases h
   | many l=>rw[ha] at h;cases h
   | enter f as S'=>rw[ha] at h;cases h
   | val u S'=>
    rw[ha] at h;cases h;have:=Fi (.inl hc) ha;subst this;rw[aop_pure (S2:=S2) hc ha]
theorem rN {ops:Array Oper} {rows:List Row} (hp:Plan ops rows) (hk:gH ops.toList rows=true) {i:Nat} {r:Row} (h:rows[i]?=some r):r.c7<2 ^ i:=by
 unfold gH at hk;simp only[Bool.and_eq_true,fS,j7,List.all_eq_true] at hk;have h':=hk.1.1 r (List.mem_of_getElem? h);rw[(hp.row i r h).1] at h';simpa using h'
theorem Dr {ops:Array Oper} {rows:List Row} (hp:Plan ops rows) (hk:gH ops.toList rows=true) {i j:Nat} {r q:Row} (hr:rows[i]?=some r) (hq:rows[j]?=some q) (he:bB r.cls=true) (he':bB q.cls=true) (gO:i<j):bit q.c7 i=true:=by
 have bK:=rN hp hk hr;unfold gH at hk;simp only[Bool.and_eq_true,fS,j7,List.all_eq_true] at hk;have:=hk.1.2 r (List.mem_filter.2 ⟨List.mem_of_getElem? hr,he⟩) q (List.mem_filter.2 ⟨List.mem_of_getElem? hq,he'⟩);unfold ordered at this;rw[(hp.row i r hr).1,(hp.row j q hq).1] at this;simp only[Bool.or_eq_true,bf,decide_eq_true_eq] at this;rcases this with (h|h)|h
 ·omega
 ·have:=oO bK h;omega
 ·exact h
theorem zF {ops:Array Oper} {rows:List Row} (hp:Plan ops rows) (hk:gH ops.toList rows=true) {i j:Nat} {r q:Row} {d:Nat} (hr:rows[i]?=some r) (hq:rows[j]?=some q) (hd:r.o.dst=some d) (ki:d∈gG ops.toList q.o) :
  bit q.c7 i=true∨(bit r.c7 j=true∧eu q.cls=false):=by
 unfold gH at hk;simp only[Bool.and_eq_true,fS,j7,List.all_eq_true] at hk;have:=hk.2 r (List.mem_of_getElem? hr);rw[hd] at this;simp only[List.all_eq_true,Bool.and_eq_true] at this;have:=(this q (List.mem_of_getElem? hq)).1;rw[vu] at this;have hc:(gG ops.toList q.o).contains d=true:=by simpa using ki
 rw[hc,(hp.row i r hr).1,(hp.row j q hq).1] at this;simpa using this
theorem run_ok {cx:Cx} {K:bg} {ops:Array Oper} {jQ rows:List Row} {c:Nat→Cc} (hp0:Plan ops jQ) (hk:gH ops.toList jQ=true) (aQ:∀ (i:Nat) (r:Row),rows[i]?=some r→jQ[i]?=some r)
  (hs:∀ (i:Nat) (r:Row),rows[i]?=some r→uV cx K ops.toList r (c i) (c (i+1))):nB cx K ops.toList rows c:=by
 have hk0:=hk;unfold gH at hk;simp only[Bool.and_eq_true,fS,j7,List.all_eq_true] at hk;obtain ⟨⟨h1,h2⟩,h3⟩:=hk;have num:∀ (i:Nat) (r:Row),rows[i]?=some r→r.i=i:=fun i r h=>(hp0.row i r (aQ i r h)).1;have lt:∀ (i:Nat) (r:Row),rows[i]?=some r→r.c7<2 ^ i:=fun i r h=>rN hp0 hk0 (aQ i r h);refine ⟨hs,num,lt,fun i j r q hr hq he he' gO=>Dr hp0 hk0 (aQ i r hr) (aQ j q hq) he he' gO,fun i j r q d hr hq hd ki=>zF hp0 hk0 (aQ i r hr) (aQ j q hq) hd ki,fun i j r q d hr hq hd ki=>?_⟩
 ·have:=h3 r (List.mem_of_getElem? (aQ i r hr));rw[hd] at this;simp only[List.all_eq_true,Bool.and_eq_true] at this;have:=(this q (List.mem_of_getElem? (aQ j q hq))).2;rw[ki,num i r hr,num j q hq] at this;simp only[bf,Bool.or_eq_true,decide_eq_true_eq] at this;rcases this with h|h
  ·exact h.symm
  ·simp at h
theorem cnt_le {rows:List Row} {p:Row→Bool} {m:Nat} (h:∀ (e:Nat) (r:Row),rows[e]?=some r→bB r.cls=true→p r=true→jR rows e<m) :
  ∀ k,(rows.take k).countP (fun r=>p r&&bB r.cls)≤m∧(rows.take k).countP (fun r=>p r&&bB r.cls)≤jR rows k:=by
 intro k
 induction k with
 | zero=>simp
 | succ k ih=>
  by_cases hk:k<rows.length
  ·obtain ⟨r,hr⟩:=ig hk;have h1:=h k r hr;rw[kE hr,List.take_add_one,hr,List.countP_append];cases he:bB r.cls<;>cases hp:p r
   ·simp only[Option.toList,List.countP_cons,List.countP_nil,he,hp];simp;omega
   ·simp only[Option.toList,List.countP_cons,List.countP_nil,he,hp];simp;omega
   ·simp only[Option.toList,List.countP_cons,List.countP_nil,he,hp];simp;omega
   ·have:=h1 he hp;simp only[Option.toList,List.countP_cons,List.countP_nil,he,hp];simp;omega
  ·have e1:jR rows (k+1)=jR rows k:=by
    unfold jR;rw[List.take_of_length_le (by omega),List.take_of_length_le (by omega)]
   have e2:rows.take (k+1)=rows.take k:=by rw[List.take_of_length_le (by omega),List.take_of_length_le (by omega)]
   rw[e1,e2];exact ih
theorem cnt_ge {rows:List Row} {p:Row→Bool} {m:Nat} (h:∀ (e:Nat) (r:Row),rows[e]?=some r→bB r.cls=true→jR rows e<m→p r=true) :
  ∀ k,m≤(rows.take k).countP (fun r=>p r&&bB r.cls)∨jR rows k≤(rows.take k).countP (fun r=>p r&&bB r.cls):=by
 intro k
 induction k with
 | zero=>simp[jR]
 | succ k ih=>
  by_cases hk:k<rows.length
  ·obtain ⟨r,hr⟩:=ig hk;have h1:=h k r hr;rw[kE hr,List.take_add_one,hr,List.countP_append];cases he:bB r.cls<;>cases hp:p r
   ·simp only[Option.toList,List.countP_cons,List.countP_nil,he,hp];simp;omega
   ·simp only[Option.toList,List.countP_cons,List.countP_nil,he,hp];simp;omega
   ·have h2:¬jR rows k<m:=fun h2=>by rw[h1 he h2] at hp;cases hp
    simp only[Option.toList,List.countP_cons,List.countP_nil,he,hp];simp;omega
   ·simp only[Option.toList,List.countP_cons,List.countP_nil,he,hp];simp;omega
  ·have e1:jR rows (k+1)=jR rows k:=by
    unfold jR;rw[List.take_of_length_le (by omega),List.take_of_length_le (by omega)]
   have e2:rows.take (k+1)=rows.take k:=by rw[List.take_of_length_le (by omega),List.take_of_length_le (by omega)]
   rw[e1,e2];exact ih
section
variable {cx:Cx} {K:bg} {ops:List Oper} {rows:List Row} {c:Nat→Cc}
theorem nB.window (h:nB cx K ops rows c) (yM:(c 0).aE=[]) {i:Nat} {r:Row} (hr:rows[i]?=some r) {v:AV} (hv:ej cx ops (c i).F (c i).S r.o=some v) (hF:(c (i+1)).F=aO (c i).F r.o.dst v)
  (hw:iH cx ops rows (c rows.length).F (eI rows c) r=true) {L:Nat→Prop} {m:Nat} {Fs:Fr} (ha:Ax rows c L Fs) {S:AS} (hS:(eI rows c)[m]?=some S)
  (hlv:∀ (i:Nat) (r:Row),rows[i]?=some r→bB r.cls=true→(L i↔jR rows i<m)) (hdown:∀ (i:Nat) (r:Row) (j:Nat),rows[i]?=some r→L i→bit r.c7 j=true→L j)
  (hn:¬L i) (hb:∀ j,bit r.c7 j=true→L j) (zU:eu r.cls=true):ej cx ops Fs S r.o=some v:=by
 have hi:=ky hr;have tC:m<(eI rows c).length:=by
  rcases Nat.lt_or_ge m (eI rows c).length with h1|h1
  ·exact h1
  ·rw[List.getElem?_eq_none h1] at hS;cases hS
 have hmM:m≤jR rows rows.length:=by rw[h.v7 yM] at tC;omega
 have tk:rows.take rows.length=rows:=List.take_length;have lo1:=(cnt_le (rows:=rows) (p:=fun e=>bit r.c7 e.i) (m:=m) (fun e q hq he hp=>(hlv e q hq he).1 (hb e (by rw[←h.num e q hq];exact hp))) rows.length).1;have Ci:=cnt_ge (rows:=rows) (p:=fun e=>!bit e.c7 r.i) (m:=m) (fun e q hq he hp=>by
  cases hbq:bit q.c7 r.i with
  | false=>rfl
  | true=>rw[h.num i r hr] at hbq;exact absurd (hdown e q i hq ((hlv e q hq he).2 hp) hbq) hn) rows.length
 have lo2:=(cnt_le (rows:=rows) (p:=fun e=>bit r.c7 e.i) (m:=jR rows i) (fun e q hq he hp=>(xd hq he).1 (by
  rw[h.num e q hq] at hp;exact oO (h.lt i r hr) hp)) rows.length).1
 have hi2:=cnt_ge (rows:=rows) (p:=fun e=>!bit e.c7 r.i) (m:=jR rows i) (fun e q hq he hp=>by
  cases hbq:bit q.c7 r.i with
  | false=>rfl
  | true=>
   rw[h.num i r hr] at hbq;have h1:=oO (h.lt e q hq) hbq;have h2:=(xd (i:=i) hq he).2 hp;omega) rows.length
 have hmi:jR rows i≤jR rows rows.length:=xc (Nat.le_of_lt hi);rw[tk] at lo1 Ci lo2 hi2;unfold iH at hw;simp only[Ah,j7,List.countP_filter,cf,bL] at hw;generalize List.countP (fun e:Row=>bit r.c7 e.i&&bB e.cls) rows=lo at *;generalize List.countP (fun e:Row=>!bit e.c7 r.i&&bB e.cls) rows=hh at *;have at1:∀ k S',lo≤k→k≤hh→(eI rows c)[k]?=some S'→(((eI rows c).drop lo).take (Nat.succ (Nat.sub hh lo)))[k-lo]?=some S':=by
  intro k S' h1 h2 h3;rw[List.getElem?_take,if_pos (by show k-lo<hh-lo+1;omega),List.getElem?_drop,Nat.add_sub_cancel' h1];exact h3
 have m1:=at1 m S lo1 (by omega) hS;have m2:=at1 (jR rows i) (c i).S lo2 (by omega) (h.snap yM (Nat.le_of_lt hi));generalize ((eI rows c).drop lo).take (Nat.succ (Nat.sub hh lo))=may at *;have one':may.length=1→ej cx ops Fs S r.o=some v:=by
  intro hl;have e:∀ (k:Nat) (S':AS),may[k]?=some S'→k=0:=fun k S' hk=>by
   rcases Nat.lt_or_ge k may.length with h1|h1
   ·omega
   ·rw[List.getElem?_eq_none h1] at hk;cases hk
  rw[e _ _ m1] at m1;rw[e _ _ m2,m1] at m2;cases m2;rw[ik (fun t ht=>h.now ha hr hb (.inl zU) ht)];exact hv
 have many:(match r.o.dst with
  | some d=>cond (Nat.blt d (c rows.length).F.n) (match (c rows.length).F.t.get d with
   | some v=>eY (fun S=>match ej cx ops (c rows.length).F S r.o with
    | some u=>cM 8 v u
    | none=>false) may
   | none=>false) false
  | none=>false)=true→ej cx ops Fs S r.o=some v:=by
  intro hw;cases hd:r.o.dst with
  | none=>rw[hd] at hw;cases hw
  | some d=>
   rw[hd] at hw;simp only[] at hw;cases bK:Nat.blt d (c rows.length).F.n with
   | false=>rw[bK] at hw;cases hw
   | true=>
    rw[bK] at hw;simp only[cond_true] at hw;have mf:(c rows.length).F.t.get d=some v:=by
     have h1:(c rows.length).F.t.get d=(c (i+1)).F.t.get d:=h.bH _ hi (Nat.le_refl _) fun k q hk _ hq ki=>by
      have:=h.single i k r q d hr hq hd ki;omega
     rw[h1,hF,hd,lR,if_pos];rw[h.n i (Nat.le_of_lt hi),←h.n rows.length (Nat.le_refl _)];simpa using bK
    rw[mf] at hw;simp only[fS,List.all_eq_true] at hw;have:=hw S (List.mem_of_getElem? m1);rw[ik (F':=Fs) (fun t ht=>by
     rw[h.now h.all hr (fun _ _=>trivial) (.inl zU) ht,h.now ha hr hb (.inl zU) ht])] at this
    cases hu:ej cx ops Fs S r.o with
    | none=>rw[hu] at this;cases this
    | some u=>rw[hu] at this;rw[lN 8 v u this]
 cases hmay:may with
 | nil=>rw[hmay] at m1;simp at m1
 | cons x xs=>
  cases xs with
  | nil=>exact one' (by rw[hmay];rfl)
  | cons y ys=>
   rw[hmay] at hw;exact many (by rw[hmay];exact hw)
end
theorem cnt_lt {α:Type} {p p':α→Bool}:∀ (l:List α) (x:α),(∀ y,p' y=true→p y=true)→x∈l→p x=true→p' x=false→l.countP p'<l.countP p:=by
 intro l
 induction l with
 | nil=>intro x _ hx;cases hx
 | cons z l ih=>
  intro x h hx h1 h2;have le:l.countP p'≤l.countP p:=List.countP_mono_left fun y _=>h y;rw[List.countP_cons,List.countP_cons];cases hx with
  | head=>rw[h1,h2];simp;omega
  | tail _ hx=>
   have:=ih x h hx h1 h2;have hz:=h z;cases e1:p' z<;>cases e2:p z<;>simp<;>first|omega|(rw[e1,e2] at hz;simp at hz)
theorem orders {P:Program} {cx:Cx} (az:cX Λ P cx) (hm:P.follows .mixedOrders=true) {ro:Option Nat} {K:bg} (hK:ym Λ P K) {ops:Array Oper} {rid:Nat} {Q:Exit→Act→World→Prop} {ρ:aI} {F:Fr} {S:AS} {w:World} {a:Act}
  (hR:R Λ ρ S w) (hF:eh ρ F a) {jQ rows:List Row} {c:Nat→Cc} (iM:Plan ops jQ) (oC:∀ (i:Nat) (r:Row),jQ[i]?=some r→r.cls=.pure∨r.cls=.read→gk cx r.o=r.cls)
  (hlt0:∀ (i:Nat) (r:Row),jQ[i]?=some r→r.c7<2 ^ i) (D9:∀ (i:Nat) (r:Row),i<rows.length→jQ[i]?=some r→rows[i]?=some r) (hle:rows.length≤jQ.length)
  (hcount:rows.countP (fun r=>bM r.cls)≤jQ.countP (fun r=>bM r.cls)) (h:nB cx K ops.toList rows c) (rY:c 0=⟨F,⟨S.h,Nat.add S.next (ew (fun r=>bM r.cls) jQ)⟩,[],[],S.next⟩)
  (tA:∀ q,q∈rows→cond (eu q.cls) (iH cx ops.toList rows (c rows.length).F (eI rows c) q) true=true)
  (hblock:∀ (j:Nat) (r:Row),rows.length<j→jQ[j]?=some r→bit r.c7 rows.length=true)
  (hdone:rows.length=jQ.length→∀ (L:Nat→Prop) (m:Nat) (Fs:Fr) (ρ':aI) (S':AS) (w':World) (a':Act),Inv Λ cx ops.toList rows c ρ S w L m Fs ρ' S' w' a'→(∀ i,i<rows.length→L i)→Q .normal a' w')
  (hstop:∀ r,jQ[rows.length]?=some r→∀ (L:Nat→Prop) (m:Nat) (Fs:Fr) (ρ':aI) (S':AS) (w':World) (a':Act) (next:Act→World→Prop),Inv Λ cx ops.toList rows c ρ S w L m Fs ρ' S' w' a'→(∀ j,bit r.c7 j=true→L j)→wpOpIn (GF ro) 0 P ops Q rows.length next a' w') :
  (Code.region rid ops true).wpIn (GF ro) 0 P Q a w:=by
 have yM:(c 0).aE=[]:=by rw[rY]
 have hp0:(c 0).ps=[]:=by rw[rY]
 have ck:(c 0).id=S.next:=by rw[rY]
 have hlen:=iM.len;have main:∀ (fuel:Nat) (listed:Array Bool) (m:Nat) (Fs:Fr) (ρ':aI) (S':AS) (w':World) (a':Act),listed.size=ops.size→(∀ j,rows.length≤j→listed.getD j false=false) →
   Inv Λ cx ops.toList rows c ρ S w (fun j=>listed.getD j false=true) m Fs ρ' S' w' a'→(List.range ops.size).countP (fun i=>!listed.getD i false)≤fuel →
   wpAnyIn (GF ro) 0 P .any ops Q fuel listed a' w':=by
  have done:∀ (listed:Array Bool) (m:Nat) (Fs:Fr) (ρ':aI) (S':AS) (w':World) (a':Act),listed.size=ops.size→(∀ j,rows.length≤j→listed.getD j false=false) →
    Inv Λ cx ops.toList rows c ρ S w (fun j=>listed.getD j false=true) m Fs ρ' S' w' a'→Region.ready .any ops listed=[]→Q .normal a' w':=by
   intro listed m Fs ρ' S' w' a' gp mg hv hready;have hrdy:∀ i,i<ops.size→(∀ k,k<i→listed.getD k false=true)→listed.getD i false=true:=by
    intro i hi ih;cases hli:listed.getD i false with
    | true=>rfl
    | false=>
     exfalso;obtain ⟨r,hr⟩:=ig (rows:=jQ) (i:=i) (by omega);have hio:=(iM.row i r hr).2;have:i∈Region.ready .any ops listed:=by
      rw[mem_ready];refine ⟨?_,r.o,hio,fun e he hb=>?_⟩
      ·have:i<listed.size:=by omega
       simpa[Array.getD,this] using hli
      ·have hbit:=iM.edge i r e hr (by simpa using he) hb;have bK:=oO (hlt0 i r hr) hbit;exact ih e.on bK
     rw[hready] at this;cases this
   have iN:∀ i,i<rows.length→listed.getD i false=true:=by
    intro i
    induction i using Nat.strongRecOn with
    | _ i ih=>exact fun hi=>hrdy i (by omega) fun k hk=>ih k hk (by omega)
   rcases Nat.lt_or_ge rows.length ops.size with bK|nJ
   ·have h1:=hrdy rows.length bK iN;rw[mg _ (Nat.le_refl _)] at h1;cases h1
   ·exact hdone (by omega) _ m Fs ρ' S' w' a' hv iN
  intro fuel
  induction fuel with
  | zero=>
   intro listed m Fs ρ' S' w' a' gp mg hv hfuel;have hr:Region.ready .any ops listed=[]:=by
    cases zU:Region.ready .any ops listed with
    | nil=>rfl
    | cons i l=>
     exfalso;have hi:i∈Region.ready .any ops listed:=by rw[zU];simp
     obtain ⟨h1,o,ho,_⟩:=mem_ready.1 hi;have bK:i<ops.size:=(Array.getElem?_eq_some_iff.1 ho).1;have h2:listed.getD i false=false:=by
      have:i<listed.size:=by omega
      simpa[Array.getD,this] using h1
     have:0<(List.range ops.size).countP (fun i=>!listed.getD i false):=List.countP_pos_iff.2 ⟨i,by simpa using bK,by rw[h2];rfl⟩;omega
   exact ⟨hr,done listed m Fs ρ' S' w' a' gp mg hv hr⟩
  | succ fuel ih=>
   intro listed m Fs ρ' S' w' a' gp mg hv hfuel;refine ⟨fun hr=>done listed m Fs ρ' S' w' a' gp mg hv hr,fun i hi=>?_⟩;obtain ⟨h1,o,ho,hedges⟩:=mem_ready.1 hi;have bK:i<ops.size:=(Array.getElem?_eq_some_iff.1 ho).1;have hli:listed.getD i false=false:=by
    have:i<listed.size:=by omega
    simpa[Array.getD,this] using h1
   have hn:¬listed.getD i false=true:=by rw[hli];simp
   obtain ⟨r,hr0⟩:=ig (rows:=jQ) (i:=i) (by omega);have hio:=(iM.row i r hr0).2;rw[ho] at hio;obtain rfl:o=r.o:=Option.some.inj hio;have hb:∀ j,bit r.c7 j=true→listed.getD j false=true:=by
    intro j hj;obtain ⟨e,he,tE,h2⟩:=iM.down i r j hr0 hj;have hL:=hedges e (by simpa using he) tE;rcases h2 with rfl|⟨r',fk,hj'⟩
    ·exact hL
    ·have hel:e.on<rows.length:=by
      rcases Nat.lt_or_ge e.on rows.length with h1|h1
      ·exact h1
      ·rw[mg _ h1] at hL;cases hL
     exact hv.down e.on r' j (D9 _ _ hel fk) hL hj'
   rcases Nat.lt_trichotomy i rows.length with hil|rfl|hil
   rotate_left
   ·exact hstop r hr0 _ m Fs ρ' S' w' a' _ hv hb
   ·have h1:=hb _ (hblock i r hil hr0);rw[mg _ (Nat.le_refl _)] at h1;cases h1
   have hr:=D9 i r hil hr0;have hL':∀ j,((listed.setIfInBounds i true).getD j false=true)↔(listed.getD j false=true)∨j=i:=by
    intro j;by_cases uE:i=j
    ·subst uE;have:i<listed.size:=by omega
     simp[this]
    ·rw[getD_set_ne false uE];simp[Ne.symm uE]
   have hcnt:(List.range ops.size).countP (fun j=>!(listed.setIfInBounds i true).getD j false)≤fuel:=by
    have:=cnt_lt (p:=fun j=>!listed.getD j false) (p':=fun j=>!(listed.setIfInBounds i true).getD j false) (List.range ops.size) i (fun y hy=>by
     cases hy0:listed.getD y false with
     | false=>rfl
     | true=>rw[(hL' y).2 (.inl hy0)] at hy;cases hy) (by simpa using bK) (by rw[hli];rfl) (by rw[(hL' i).2 (.inr rfl)];rfl)
    omega
   have hsz':(listed.setIfInBounds i true).size=ops.size:=by simpa using gp
   have hcap':∀ j,rows.length≤j→(listed.setIfInBounds i true).getD j false=false:=fun j hj=>by
    cases hq:(listed.setIfInBounds i true).getD j false with
    | false=>rfl
    | true=>
     rcases (hL' j).1 hq with h1|h1
     ·rw[mg j hj] at h1;cases h1
     ·omega
   have AN:=fun t ht=>h.now hv.ag hr hb (.inr fun k q hk hbk hLk=>hn (hv.down k q i hk hLk hbk)) (t:=t) ht;have value:∀ v,bB r.cls=false→(∀ q,¬Laid cx ops.toList rows c i q)→(c (i+1)).F=aO (c i).F r.o.dst v→one cx K ops.toList r.o Fs S'=.ok (false,v,S') [] →
     wpOpIn (GF ro) 0 P ops Q i (wpAnyIn (GF ro) 0 P .any ops Q fuel (listed.setIfInBounds i true)) a' w':=by
    intro v he uB hFv rV;refine Ba az hK hv.R hv.F ho ?_;rw[rV];refine ⟨fun ρ2 e w2 hx hR2 va=>?_,fun y hy=>by cases hy⟩;obtain ⟨x,rfl,hx2⟩:=hx.val;exact ih _ m _ ρ2 S' w2 _ hsz' hcap' (hv.value h hr hn hb hL' he uB hFv hx2 hR2 va) hcnt
   rcases h.step i r hr with ⟨hc,⟨hw,v,x,hf,e⟩|⟨hw,e⟩⟩|⟨hc,v,S2,rV,e⟩|⟨hc,v,rV,e⟩
   ·-- a block is laid
    have xw:Laid cx ops.toList rows c i ⟨r.i,(c i).id,x⟩:=⟨⟨r,v,hr,hc,hw,hf⟩,h.num i r hr,rfl⟩
    have hFv:(c (i+1)).F=aO (c i).F r.o.dst v:=by rw[e]
    have uz:wanted ops.toList Fs r.o=some true:=by rw[jU AN];exact hw
    have Bu:aC cx Fs (c i).id r.o.op=some (v,x):=by rw[iO (sY AN)];exact hf
    obtain ⟨s,lZ,y,o',w2,sJ,hg,pR,hval⟩:=z7 (P:=P) az hv.F Bu w';unfold wpOpIn;simp only[ho];rw[lI hv.F uz];simp only[if_true];refine ⟨fun f _=>Av ro f,?_⟩;have hnd:∀ c,r.o.op≠.defer c:=by
     intro c e;rw[e] at Bu;cases Bu
    rw[Oper.semAt_eq _ _ _ hnd];have hrun2:(execOp a'.eval r.o).run P w'=.ok (.value y) w2:=by
     rw[lZ];simp only[Sem.run_bind,sJ,Result.andThen_ok,Sem.run_pure]
    rw[hrun2];show wpAnyIn (GF ro) 0 P .any ops Q fuel (listed.setIfInBounds i true) (a'.put r.o.dst y) w2;obtain ⟨pl,lf,hplb⟩:∃ pl:Pl,Au pl.b pl x o'∧pl.b=w'.heap.size:=by
     cases x with
     | row cells low top frz ty=>
      obtain ⟨rfl,rfl,rfl,C,rfl,r2,r3⟩:=pR;exact ⟨⟨w'.heap.size,0,cells.length,C.size,by omega⟩,⟨rfl,rfl,rfl,rfl⟩,rfl⟩
     | map es clock=>
      obtain ⟨ES,rfl,r2⟩:=pR;exact ⟨⟨w'.heap.size,0,0,0,by omega⟩,rfl,rfl⟩
     | dO y=>exact ⟨⟨w'.heap.size,0,0,0,by omega⟩,⟨rfl,rfl⟩,rfl⟩
    exact ih _ m _ _ S' w2 _ hsz' hcap' (hv.lay h hr hn hb hL' (by rw[hc];rfl) xw (by rw[←ck];exact (xw.top h).1) hFv hg pR hval lf hplb) hcnt
   ·refine value .undef (by rw[hc];rfl) (fun q hl=>?_) (by rw[e]) ?_
    ·obtain ⟨⟨r',v,fk,_,uz,_⟩,_⟩:=hl;rw[hr] at fk;cases fk;rw[hw] at uz;cases uz
    ·unfold one;rw[jU AN,hw]
   ·-- it acts
    have he:bB r.cls=true:=by rw[hc];rfl
    have fg:=hv.level h hr hn hb he;have hS:S'=(c i).S:=by
     have h2:=hv.st;rw[←fg,h.snap yM (Nat.le_of_lt (ky hr))] at h2;exact (Option.some.inj h2).symm
    obtain ⟨c1,c2,c3,c4⟩:=hv.aX h hp0 ck (Nat.le_of_lt (ky hr)) fg (fun p=>bit r.c7 p.i) (fun j q e hp _=>by subst e;exact hb _ hp);refine Ba az hK c1 hv.F ho ?_;rw[zI AN,hS,rV];refine ⟨fun ρ2 ed w2 hx hR2 va=>?_,fun y hy=>by cases hy⟩;obtain ⟨x,rfl,hx2⟩:=hx.val;have fM:S2=(c (i+1)).S:=by rw[e]
    simp only[fM] at hR2 va;rw[←hS] at va;exact ih _ (m+1) _ ρ2 _ w2 _ hsz' hcap' (hv.act h yM hp0 ck hr hn hb hL' he (by rw[e]) hx2 hR2 va) hcnt
   ·-- it only gives
    have pS:=oC i r hr0 hc;have jj:gk cx r.o=.pure∨gk cx r.o=.read:=by rw[pS];exact hc
    have hFv:(c (i+1)).F=aO (c i).F r.o.dst v:=by rw[e]
    have hov:ej cx ops.toList Fs S' r.o=some v:=by
     rcases hc with hc|hc
     ·rw[ik AN];exact oneV_pure (pS.trans hc) rV
     ·have oy:=tA r (List.mem_of_getElem? hr);rw[hc] at oy;exact h.window yM hr rV hFv oy hv.ag hv.st hv.lv hv.down hn hb (by rw[hc];rfl)
    refine value v (by rcases hc with hc|hc<;>rw[hc]<;>rfl) (fun q hl=>?_) hFv (oneV_one jj hov);obtain ⟨⟨r',v,fk,hc2,_⟩,_⟩:=hl;rw[hr] at fk;cases fk;rw[hc2] at hc;rcases hc with hc|hc<;>cases hc
 refine wpIn_region_any hm ?_;refine main ops.size _ 0 F ρ (c 0).S _ a (by simp) (fun j _=>by simp only[Array.getD_eq_getD_getElem?,Array.getElem?_replicate];split<;>simp) ?_ (Nat.le_trans (List.countP_le_length) (by simp));have hlev0:jR rows 0=0:=rfl;have hR0:R Λ ρ (c 0).S { w with drawn:=w.drawn+1 }:=by
  rw[rY];have h2:=hR.drawn (w.drawn+1);exact ⟨h2.fi,fun i o ho=>Nat.lt_of_lt_of_le (h2.sM i o ho) (Nat.le_add_right _ _),fun i g hi=>h2.fresh i g (Nat.le_trans (Nat.le_add_right _ _) hi),h2.mI,h2.lt,h2.apart,h2.start,h2.base⟩
 have empty:∀ j,¬(Array.replicate ops.size false).getD j false=true:=by
  intro j;simp only[Array.getD_eq_getD_getElem?,Array.getElem?_replicate];split<;>simp
 have hkp:Kp ρ S w ρ (c 0).S { w with drawn:=w.drawn+1 }:=by
  rw[rY];exact ⟨Ext.refl _,rfl,rfl,rfl,Nat.le_refl _,fun _ _ _=>rfl,fun _ h=>.inl h,fun _ h=>.inl h,Nat.le_add_right _ _,fun _ _ _ h=>⟨rfl,h⟩⟩
 refine ⟨hR.start,by rw[←hlev0];exact h.snap yM (Nat.zero_le _),fun i r hr he=>⟨fun h1=>absurd h1 (empty i),fun h1=>by omega⟩,fun i r j _ h1=>absurd h1 (empty i),hR0,hF,⟨by rw[rY],by rw[rY],fun t i _ h1=>absurd h1 (empty i),fun t _=>by rw[rY]⟩,hkp,fun j q hl _=>?_,fun j j' q q' x y _ hl _ _ _ h1 _=>?_⟩
 ·have ht:=hl.top h;rw[ck] at ht;have hnone:S.h.get q.id=none:=by
   cases hg:S.h.get q.id with
   | none=>rfl
   | some o=>have:=hR.sM _ _ hg;omega
  refine ⟨by rw[rY];exact hnone,?_,fun h1=>absurd h1 (empty j),fun _ g=>hR.fresh _ g ht.1⟩;rw[rY,Ah];exact Nat.lt_of_lt_of_le ht.2 (Nat.add_le_add_left hcount _)
 ·have ht:=hl.top h;rw[ck] at ht;rw[hR.fresh _ 0 ht.1] at h1;cases h1
theorem ry (F:Fr) (t:Nat):∀ (rows:List Row),(CC rows F).n=F.n∧(CC rows F).ds=F.ds∧((CC rows F).t.get t=some .top∨((CC rows F).t.get t=F.t.get t∧∀ r,r∈rows→r.o.dst=some t→¬t<F.n))
 | []=>⟨rfl,rfl,.inr ⟨rfl,fun r hr=>by cases hr⟩⟩
 | r :: rows=>by
  obtain ⟨h1,h2,h3⟩:=ry F t rows;have e:CC (r :: rows) F=aO (CC rows F) r.o.dst .top:=rfl;rw[e,putD_n,AY];refine ⟨h1,h2,?_⟩;by_cases hd:r.o.dst=some t
  ·rw[hd,lR,h1];by_cases ht:t<F.n
   ·rw[if_pos ht];exact .inl rfl
   ·rw[if_neg ht];rcases h3 with h3|⟨h3,h4⟩
    ·exact .inl h3
    ·refine .inr ⟨h3,fun q hq Bs=>?_⟩;rcases List.mem_cons.1 hq with rfl|hq
     ·exact ht
     ·exact h4 q hq Bs
  ·rw[rM hd];rcases h3 with h3|⟨h3,h4⟩
   ·exact .inl h3
   ·refine .inr ⟨h3,fun q hq Bs=>?_⟩;rcases List.mem_cons.1 hq with rfl|hq
    ·exact absurd Bs hd
    ·exact h4 q hq Bs
theorem xO {P:Program} {cx:Cx} (az:cX Λ P cx) (hm:P.follows .mixedOrders=true):DrawnOk Λ P cx:=by
 intro ro K hK ops rid Q ρ F S w a hR hF ma;unfold cC at ma;obtain ⟨iM,oC⟩:=tf cx ops;generalize settle (cT cx ops.toList)=rows at iM oC ma;cases hpk:gH ops.toList rows with
 | false=>simp only[hpk,cond_false] at ma;exact ma.elim
 | true=>
 simp only[hpk,cond_true] at ma;obtain ⟨c,rY,hend⟩:=trace cx K ops.toList rows ⟨F,⟨S.h,Nat.add S.next (ew (fun r=>bM r.cls) rows)⟩,[],[],S.next⟩ _ (aj.all_bind ma);have hlen:=iM.len;have yM:(c 0).aE=[]:=by rw[rY]
 have hp0:(c 0).ps=[]:=by rw[rY]
 have ck:(c 0).id=S.next:=by rw[rY]
 rcases hend with ⟨xk,mf⟩|⟨n,r,v,S2,hrn,hrc,xk,rV,hlater,mf⟩
 ·have h:=run_ok iM hpk (fun i r hr=>hr) xk;unfold lh at mf;simp only[] at mf;have hrev:tc ((c rows.length).S :: (c rows.length).aE)=eI rows c:=vl _;rw[hrev] at mf;cases tA:lq cx ops.toList rows (c rows.length).F (eI rows c) with
  | false=>rw[tA] at mf;exact mf.elim
  | true=>
  rw[tA] at mf;have hQ:=mf.1;simp only[] at hQ;unfold lq at tA;rw[fS,List.all_eq_true] at tA;refine orders az hm hK hR hF iM oC (fun i r hr=>rN iM hpk hr) (fun i r _ hr=>hr) (Nat.le_refl _) (Nat.le_refl _) h rY tA (fun j r hj hr=>absurd (ky hr) (by omega)) ?_ (fun r hr=>absurd (ky hr) (by omega));intro _ L m Fs ρ' S' w' a' hv iN;have hmM:m=jR rows rows.length:=by
   have h1:m<(eI rows c).length:=by
    rcases Nat.lt_or_ge m (eI rows c).length with h1|h1
    ·exact h1
    ·have:=hv.st;rw[List.getElem?_eq_none h1] at this;cases this
   rw[h.v7 yM] at h1;rcases xe (rows:=rows) rows.length with h2|⟨e,q,h2,h3,h4,h5⟩
   ·omega
   ·have:=(hv.lv e q h3 h4).1 (iN e h2);omega
  have hS:S'=(c rows.length).S:=by
   have h1:=hv.st;rw[hmM,h.snap yM (Nat.le_refl _)] at h1;exact (Option.some.inj h1).symm
  obtain ⟨c1,c2,_⟩:=hv.aX h hp0 ck (Nat.le_refl _) hmM.symm (fun _=>true) (fun j q _ _ hl=>iN j (hl.next h).2.1);rw[hS] at c1 c2;refine hQ ρ' .normal a' w' rfl c1 ⟨fun t=>?_,?_,by rw[h.ds _ (Nat.le_refl _),←hv.ag.ds];exact hv.F.defers⟩ c2
  ·have e:(c rows.length).F.t.get t=Fs.t.get t:=by
    by_cases hw:∃ i,ue rows t i
    ·obtain ⟨i,hi⟩:=hw;obtain ⟨q,hq,_⟩:=id hi;exact (hv.ag.yes t i hi (iN i (ky hq))).symm
    ·rw[hv.ag.no t fun i hi _=>hw ⟨i,hi⟩];exact h.all.no t fun i hi _=>hw ⟨i,hi⟩
   rw[e];exact hv.F.slot t
  ·rw[hv.F.size,hv.ag.n,h.n _ (Nat.le_refl _)]
 ·have hnl:=ky hrn;have hri:=(iM.row n r hrn).1;obtain ⟨pre,D9⟩:∃ pre,pre=rows.take n:=⟨_,rfl⟩
  have lf:pre.length=n:=by rw[D9,List.length_take];omega
  have aQ:∀ (i:Nat) (q:Row),pre[i]?=some q→rows[i]?=some q∧i<n:=fun i q hq=>by
   rw[D9,List.getElem?_take] at hq;split at hq
   ·rename_i hi;exact ⟨hq,hi⟩
   ·cases hq
  have hinv:∀ (i:Nat) (q:Row),i<n→rows[i]?=some q→pre[i]?=some q:=fun i q hi hq=>by
   rw[D9,List.getElem?_take,if_pos hi];exact hq
  have h:=run_ok (rows:=pre) iM hpk (fun i q hq=>(aQ i q hq).1) (fun i q hq=>xk i q (aQ i q hq).2 (aQ i q hq).1);unfold lh at mf;simp only[hri,cf,←D9] at mf;have hrev:tc ((c n).S :: (c n).aE)=eI pre c:=by rw[←lf];exact vl _
  rw[hrev] at mf;cases tA:lq cx ops.toList pre (c n).F (eI pre c) with
  | false=>rw[tA] at mf;exact mf.elim
  | true=>
  rw[tA] at mf;have hQ:=mf.1;simp only[] at hQ;unfold lq at tA;rw[fS,List.all_eq_true] at tA;refine orders (rows:=pre) az hm hK hR hF iM oC (fun i r hr=>rN iM hpk hr) (fun i q hi hq=>hinv i q (by omega) hq) (by omega) ?_ h rY (by rw[lf];exact tA)
   (fun j q hj hq=>by rw[lf] at hj ⊢;rw[←hri];exact hlater j q hj hq) (fun e=>by omega) ?_
  ·rw[D9];exact (List.take_sublist n rows).countP_le
  intro q hq L m Fs ρ' S' w' a' next hv hb
  rw[lf,hrn] at hq;cases hq;have hrn':=hrn;have heff:∀ (e:Nat) (q:Row),pre[e]?=some q→bB q.cls=true→L e:=fun e q he hq=>hb e (by
   obtain ⟨h1,h2⟩:=aQ e q he;exact Dr iM hpk h1 hrn hq (by rw[hrc];rfl) h2)
  have hmM:m=jR pre pre.length:=by
   have h1:m<(eI pre c).length:=by
    rcases Nat.lt_or_ge m (eI pre c).length with h1|h1
    ·exact h1
    ·have:=hv.st;rw[List.getElem?_eq_none h1] at this;cases this
   rw[h.v7 yM] at h1;rcases xe (rows:=pre) pre.length with h2|⟨e,q,h2,h3,h4,h5⟩
   ·omega
   ·have:=(hv.lv e q h3 h4).1 (heff e q h3 h4);omega
  have hS:S'=(c n).S:=by
   have h1:=hv.st;rw[hmM,h.snap yM (Nat.le_refl _),lf] at h1;exact (Option.some.inj h1).symm
  obtain ⟨c1,c2,c3,c4⟩:=hv.aX h hp0 ck (Nat.le_refl _) hmM.symm (fun p=>bit r.c7 p.i) (fun j q e hp _=>by subst e;exact hb _ hp);rw[lf] at c1 c2 ⊢;have AN:∀ t,t∈gG ops.toList r.o→Fs.t.get t=(c n).F.t.get t:=by
   intro t ht;by_cases hw:∃ i,ue pre t i
   ·obtain ⟨i,q,hq,hd⟩:=hw;obtain ⟨h1,h2⟩:=aQ i q hq;have hbi:bit r.c7 i=true:=by
     rcases zF iM hpk h1 hrn hd ht with rZ|⟨rZ,_⟩
     ·exact rZ
     ·have:=oO (rN iM hpk h1) rZ;omega
    have:=hv.ag.yes t i ⟨q,hq,hd⟩ (hb i hbi)
    rwa [lf] at this
   ·rw[hv.ag.no t fun i hi _=>hw ⟨i,hi⟩];have:=h.all.no t fun i hi _=>hw ⟨i,hi⟩;rw[lf] at this;exact this.symm
  refine Ba az hK c1 hv.F (iM.row n r hrn).2 ?_;rw[zI AN,hS,rV];refine ⟨fun ρ2 ed w2 hx hR2 va=>?_,fun y hy=>by cases hy⟩;obtain ⟨x,rfl,hx2⟩:=hx.dN;rw[hS] at c2;refine hQ ρ2 _ a' w2 ⟨x,rfl,hx2⟩ hR2 ⟨fun t=>?_,?_,?_⟩ (c2.trans va)
  ·obtain ⟨e1,e2,e3⟩:=ry (c n).F t rows;rcases e3 with e3|⟨e3,e4⟩
   ·rw[e3];simp only[ah]
   ·rw[e3];have uB:(c n).F.t.get t=Fs.t.get t:=by
     by_cases hw:∃ i,ue pre t i
     ·obtain ⟨i,q,hq,hd⟩:=hw;have hnt:¬t<(c n).F.n:=e4 q (List.mem_of_getElem? (aQ i q hq).1) hd;have a1:∀ k,k≤n→(c k).F.t.get t=(c 0).F.t.get t:=by
       intro k hk
       induction k with
       | zero=>rfl
       | succ k ih=>
        obtain ⟨q',hq'⟩:=ig (rows:=pre) (i:=k) (by omega);obtain ⟨u,hu⟩:=cO (h.step k q' hq');rw[hu];by_cases ki:q'.o.dst=some t
        ·rw[ki,lR,if_neg (by rw[h.n k (by omega),←h.n n (by omega)];exact hnt)];exact ih (by omega)
        ·rw[rM ki];exact ih (by omega)
      by_cases hLi:L i
      ·have:=hv.ag.yes t i ⟨q,hq,hd⟩ hLi;rw[lf] at this;exact this.symm
      ·rw[hv.ag.no t fun k hk hLk=>by
        obtain ⟨q',hq',ki⟩:=hk;have:=h.single i k q q' t hq hq' hd ki;subst this;exact hLi hLk]
       exact a1 n (Nat.le_refl _)
     ·rw[hv.ag.no t fun i hi _=>hw ⟨i,hi⟩];have:=h.all.no t fun i hi _=>hw ⟨i,hi⟩;rw[lf] at this;exact this
    rw[uB];exact (hv.F.mono va.ext).slot t
  ·obtain ⟨e1,e2,e3⟩:=ry (c n).F 0 rows;rw[e1,hv.F.size,hv.ag.n,h.n n (by omega)]
  ·obtain ⟨e1,e2,e3⟩:=ry (c n).F 0 rows;rw[e2,h.ds n (by omega),←hv.ag.ds];exact (hv.F.mono va.ext).defers
end Go.Am
