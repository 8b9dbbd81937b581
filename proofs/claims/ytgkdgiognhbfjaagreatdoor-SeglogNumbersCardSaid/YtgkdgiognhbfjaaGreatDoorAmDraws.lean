/-
  The abstract machine: a region that draws its order, whole.
-/
import Derived.Test.YtgkdgiognhbfjaaGreatDoorAmDrawn
namespace Go.Am
open Go
variable {Λ:LB}
theorem gG {cx:Cx} {ops:List Oper} {F F':Fr} {S:AS} {o:Oper} (h:∀ t,t∈fU ops o→F.t.get t=F'.t.get t):dZ cx ops F S o=dZ cx ops F' S o:=by
 unfold dZ;rw[jy h,zF (sf h)]
theorem yO {cx:Cx} {K:bh} {ops:List Oper} {F F':Fr} {S:AS} {o:Oper} (h:∀ t,t∈fU ops o→F.t.get t=F'.t.get t):one cx K ops o F S=one cx K ops o F' S:=by
 unfold one;rw[jy h,zF (sf h)]
theorem oneV_one {cx:Cx} {K:bh} {ops:List Oper} {F:Fr} {S:AS} {o:Oper} {v:AV} (hc:fN cx o=.pure∨fN cx o=.read) (h:dZ cx ops F S o=some v):one cx K ops o F S=.ok (false,v,S) []:=by
 unfold dZ at h;unfold one;cases hw:wanted ops F o with
 | none=>rw[hw] at h;cases h
 | some b=>
  rw[hw] at h;cases b with
  | false=>cases h;rfl
  | true=>
   simp only[] at h ⊢;cases ha:bj cx F S o with
   | err n=>rw[ha] at h;cases h
   | round f as S'=>rw[ha] at h;cases h
   | dj u S'=>rw[ha] at h;cases h
   | many l=>rw[ha] at h;cases h
   | enter f as S'=>rw[ha] at h;cases h
   | val u S'=>
    rw[ha] at h;cases h;rw[D6 hc ha]
theorem oneV_pure {cx:Cx} {ops:List Oper} {F:Fr} {S S2:AS} {o:Oper} {v:AV} (hc:fN cx o=.pure) (h:dZ cx ops F S o=some v):dZ cx ops F S2 o=some v:=by
 unfold dZ at h ⊢;cases hw:wanted ops F o with
 | none=>rw[hw] at h;cases h
 | some b=>
  rw[hw] at h;cases b with
  | false=>exact h
  | true=>
   simp only[] at h ⊢;cases ha:bj cx F S o with
   | err n=>rw[ha] at h;cases h
   | round f as S'=>rw[ha] at h;cases h
   | dj u S'=>rw[ha] at h;cases h
   | many l=>rw[ha] at h;cases h
   | enter f as S'=>rw[ha] at h;cases h
   | val u S'=>
    rw[ha] at h;cases h;have:=D6 (.inl hc) ha;subst this;rw[aop_pure (S2:=S2) hc ha]
theorem qV {ops:Array Oper} {rows:List Row} (hp:Plan ops rows) (hk:fV ops.toList rows=true) {i:Nat} {r:Row} (h:rows[i]?=some r):r.cN<2 ^ i:=by
 unfold fV at hk;simp only[Bool.and_eq_true,fu,jD,List.all_eq_true] at hk;have h':=hk.1.1 r (List.mem_of_getElem? h);rw[(hp.row i r h).1] at h';simpa using h'
theorem CB {ops:Array Oper} {rows:List Row} (hp:Plan ops rows) (hk:fV ops.toList rows=true) {i j:Nat} {r q:Row} (hr:rows[i]?=some r) (hq:rows[j]?=some q) (he:bo r.cls=true) (he':bo q.cls=true) (gJ:i<j):bit q.cN i=true:=by
 have bF:=qV hp hk hr;unfold fV at hk;simp only[Bool.and_eq_true,fu,jD,List.all_eq_true] at hk;have:=hk.1.2 r (List.mem_filter.2 ⟨List.mem_of_getElem? hr,he⟩) q (List.mem_filter.2 ⟨List.mem_of_getElem? hq,he'⟩);unfold ordered at this;rw[(hp.row i r hr).1,(hp.row j q hq).1] at this;simp only[Bool.or_eq_true,aT,decide_eq_true_eq] at this;rcases this with (h|h)|h
 ·omega
 ·have:=oz bF h;omega
 ·exact h
theorem yK {ops:Array Oper} {rows:List Row} (hp:Plan ops rows) (hk:fV ops.toList rows=true) {i j:Nat} {r q:Row} {d:Nat} (hr:rows[i]?=some r) (hq:rows[j]?=some q) (hd:r.o.dst=some d) (jt:d∈fU ops.toList q.o) :
  bit q.cN i=true∨(bit r.cN j=true∧dC q.cls=false):=by
 unfold fV at hk;simp only[Bool.and_eq_true,fu,jD,List.all_eq_true] at hk;have:=hk.2 r (List.mem_of_getElem? hr);rw[hd] at this;simp only[List.all_eq_true,Bool.and_eq_true] at this;have:=(this q (List.mem_of_getElem? hq)).1;rw[uS] at this;have hc:(fU ops.toList q.o).contains d=true:=by simpa using jt
 rw[hc,(hp.row i r hr).1,(hp.row j q hq).1] at this;simpa using this
theorem run_ok {cx:Cx} {K:bh} {ops:Array Oper} {jq rows:List Row} {c:Nat→BE} (hp0:Plan ops jq) (hk:fV ops.toList jq=true) (aW:∀ (i:Nat) (r:Row),rows[i]?=some r→jq[i]?=some r)
  (hs:∀ (i:Nat) (r:Row),rows[i]?=some r→uc cx K ops.toList r (c i) (c (i+1))):nd cx K ops.toList rows c:=by
 have hk0:=hk;unfold fV at hk;simp only[Bool.and_eq_true,fu,jD,List.all_eq_true] at hk;obtain ⟨⟨h1,h2⟩,h3⟩:=hk;have num:∀ (i:Nat) (r:Row),rows[i]?=some r→r.i=i:=fun i r h=>(hp0.row i r (aW i r h)).1;have lt:∀ (i:Nat) (r:Row),rows[i]?=some r→r.cN<2 ^ i:=fun i r h=>qV hp0 hk0 (aW i r h);refine ⟨hs,num,lt,fun i j r q hr hq he he' gJ=>CB hp0 hk0 (aW i r hr) (aW j q hq) he he' gJ,fun i j r q d hr hq hd jt=>yK hp0 hk0 (aW i r hr) (aW j q hq) hd jt,fun i j r q d hr hq hd jt=>?_⟩
 ·have:=h3 r (List.mem_of_getElem? (aW i r hr));rw[hd] at this;simp only[List.all_eq_true,Bool.and_eq_true] at this;have:=(this q (List.mem_of_getElem? (aW j q hq))).2;rw[jt,num i r hr,num j q hq] at this;simp only[aT,Bool.or_eq_true,decide_eq_true_eq] at this;rcases this with h|h
  ·exact h.symm
  ·simp at h
theorem cnt_le {rows:List Row} {p:Row→Bool} {m:Nat} (h:∀ (e:Nat) (r:Row),rows[e]?=some r→bo r.cls=true→p r=true→js rows e<m) :
  ∀ k,(rows.take k).countP (fun r=>p r&&bo r.cls)≤m∧(rows.take k).countP (fun r=>p r&&bo r.cls)≤js rows k:=by
 intro k
 induction k with
 | zero=>simp
 | succ k ih=>
  by_cases hk:k<rows.length
  ·obtain ⟨r,hr⟩:=gD hk;have h1:=h k r hr;rw[jY hr,List.take_add_one,hr,List.countP_append];cases he:bo r.cls<;>cases hp:p r
   ·simp only[Option.toList,List.countP_cons,List.countP_nil,he,hp];simp;omega
   ·simp only[Option.toList,List.countP_cons,List.countP_nil,he,hp];simp;omega
   ·simp only[Option.toList,List.countP_cons,List.countP_nil,he,hp];simp;omega
   ·have:=h1 he hp;simp only[Option.toList,List.countP_cons,List.countP_nil,he,hp];simp;omega
  ·have e1:js rows (k+1)=js rows k:=by
    unfold js;rw[List.take_of_length_le (by omega),List.take_of_length_le (by omega)]
   have e2:rows.take (k+1)=rows.take k:=by rw[List.take_of_length_le (by omega),List.take_of_length_le (by omega)]
   rw[e1,e2];exact ih
theorem cnt_ge {rows:List Row} {p:Row→Bool} {m:Nat} (h:∀ (e:Nat) (r:Row),rows[e]?=some r→bo r.cls=true→js rows e<m→p r=true) :
  ∀ k,m≤(rows.take k).countP (fun r=>p r&&bo r.cls)∨js rows k≤(rows.take k).countP (fun r=>p r&&bo r.cls):=by
 intro k
 induction k with
 | zero=>simp[js]
 | succ k ih=>
  by_cases hk:k<rows.length
  ·obtain ⟨r,hr⟩:=gD hk;have h1:=h k r hr;rw[jY hr,List.take_add_one,hr,List.countP_append];cases he:bo r.cls<;>cases hp:p r
   ·simp only[Option.toList,List.countP_cons,List.countP_nil,he,hp];simp;omega
   ·simp only[Option.toList,List.countP_cons,List.countP_nil,he,hp];simp;omega
   ·have h2:¬js rows k<m:=fun h2=>by rw[h1 he h2] at hp;cases hp
    simp only[Option.toList,List.countP_cons,List.countP_nil,he,hp];simp;omega
   ·simp only[Option.toList,List.countP_cons,List.countP_nil,he,hp];simp;omega
  ·have e1:js rows (k+1)=js rows k:=by
    unfold js;rw[List.take_of_length_le (by omega),List.take_of_length_le (by omega)]
   have e2:rows.take (k+1)=rows.take k:=by rw[List.take_of_length_le (by omega),List.take_of_length_le (by omega)]
   rw[e1,e2];exact ih
section
variable {cx:Cx} {K:bh} {ops:List Oper} {rows:List Row} {c:Nat→BE}
theorem nd.window (h:nd cx K ops rows c) (x5:(c 0).ax=[]) {i:Nat} {r:Row} (hr:rows[i]?=some r) {v:AV} (hv:dZ cx ops (c i).F (c i).S r.o=some v) (hF:(c (i+1)).F=aK (c i).F r.o.dst v)
  (hw:hZ cx ops rows (c rows.length).F (dQ rows c) r=true) {L:Nat→Prop} {m:Nat} {Fs:Fr} (ha:zK rows c L Fs) {S:AS} (hS:(dQ rows c)[m]?=some S)
  (hlv:∀ (i:Nat) (r:Row),rows[i]?=some r→bo r.cls=true→(L i↔js rows i<m)) (hdown:∀ (i:Nat) (r:Row) (j:Nat),rows[i]?=some r→L i→bit r.cN j=true→L j)
  (hn:¬L i) (hb:∀ j,bit r.cN j=true→L j) (wq:dC r.cls=true):dZ cx ops Fs S r.o=some v:=by
 have hi:=jT hr;have pI:m<(dQ rows c).length:=by
  rcases Nat.lt_or_ge m (dQ rows c).length with h1|h1
  ·exact h1
  ·rw[List.getElem?_eq_none h1] at hS;cases hS
 have hmM:m≤js rows rows.length:=by rw[h.vq x5] at pI;omega
 have tk:rows.take rows.length=rows:=List.take_length;have lo1:=(cnt_le (rows:=rows) (p:=fun e=>bit r.cN e.i) (m:=m) (fun e q hq he hp=>(hlv e q hq he).1 (hb e (by rw[←h.num e q hq];exact hp))) rows.length).1;have Eu:=cnt_ge (rows:=rows) (p:=fun e=>!bit e.cN r.i) (m:=m) (fun e q hq he hp=>by
  cases hbq:bit q.cN r.i with
  | false=>rfl
  | true=>rw[h.num i r hr] at hbq;exact absurd (hdown e q i hq ((hlv e q hq he).2 hp) hbq) hn) rows.length
 have lo2:=(cnt_le (rows:=rows) (p:=fun e=>bit r.cN e.i) (m:=js rows i) (fun e q hq he hp=>(vW hq he).1 (by
  rw[h.num e q hq] at hp;exact oz (h.lt i r hr) hp)) rows.length).1
 have hi2:=cnt_ge (rows:=rows) (p:=fun e=>!bit e.cN r.i) (m:=js rows i) (fun e q hq he hp=>by
  cases hbq:bit q.cN r.i with
  | false=>rfl
  | true=>
   rw[h.num i r hr] at hbq;have h1:=oz (h.lt e q hq) hbq;have h2:=(vW (i:=i) hq he).2 hp;omega) rows.length
 have hmi:js rows i≤js rows rows.length:=vV (Nat.le_of_lt hi);rw[tk] at lo1 Eu lo2 hi2;unfold hZ at hw;simp only[zx,jD,List.countP_filter,cl,cC] at hw;generalize List.countP (fun e:Row=>bit r.cN e.i&&bo e.cls) rows=lo at *;generalize List.countP (fun e:Row=>!bit e.cN r.i&&bo e.cls) rows=hh at *;have at1:∀ k S',lo≤k→k≤hh→(dQ rows c)[k]?=some S'→(((dQ rows c).drop lo).take (Nat.succ (Nat.sub hh lo)))[k-lo]?=some S':=by
  intro k S' h1 h2 h3;rw[List.getElem?_take,if_pos (by show k-lo<hh-lo+1;omega),List.getElem?_drop,Nat.add_sub_cancel' h1];exact h3
 have m1:=at1 m S lo1 (by omega) hS;have m2:=at1 (js rows i) (c i).S lo2 (by omega) (h.snap x5 (Nat.le_of_lt hi));generalize ((dQ rows c).drop lo).take (Nat.succ (Nat.sub hh lo))=may at *;have one':may.length=1→dZ cx ops Fs S r.o=some v:=by
  intro hl;have e:∀ (k:Nat) (S':AS),may[k]?=some S'→k=0:=fun k S' hk=>by
   rcases Nat.lt_or_ge k may.length with h1|h1
   ·omega
   ·rw[List.getElem?_eq_none h1] at hk;cases hk
  rw[e _ _ m1] at m1;rw[e _ _ m2,m1] at m2;cases m2;rw[gG (fun t ht=>h.now ha hr hb (.inl wq) ht)];exact hv
 have many:(match r.o.dst with
  | some d=>cond (Nat.blt d (c rows.length).F.n) (match (c rows.length).F.t.get d with
   | some v=>eA (fun S=>match dZ cx ops (c rows.length).F S r.o with
    | some u=>cq 8 v u
    | none=>false) may
   | none=>false) false
  | none=>false)=true→dZ cx ops Fs S r.o=some v:=by
  intro hw;cases hd:r.o.dst with
  | none=>rw[hd] at hw;cases hw
  | some d=>
   rw[hd] at hw;simp only[] at hw;cases bF:Nat.blt d (c rows.length).F.n with
   | false=>rw[bF] at hw;cases hw
   | true=>
    rw[bF] at hw;simp only[cond_true] at hw;have iJ:(c rows.length).F.t.get d=some v:=by
     have h1:(c rows.length).F.t.get d=(c (i+1)).F.t.get d:=h.b6 _ hi (Nat.le_refl _) fun k q hk _ hq jt=>by
      have:=h.single i k r q d hr hq hd jt;omega
     rw[h1,hF,hd,lD,if_pos];rw[h.n i (Nat.le_of_lt hi),←h.n rows.length (Nat.le_refl _)];simpa using bF
    rw[iJ] at hw;simp only[fu,List.all_eq_true] at hw;have:=hw S (List.mem_of_getElem? m1);rw[gG (F':=Fs) (fun t ht=>by
     rw[h.now h.all hr (fun _ _=>trivial) (.inl wq) ht,h.now ha hr hb (.inl wq) ht])] at this
    cases hu:dZ cx ops Fs S r.o with
    | none=>rw[hu] at this;cases this
    | some u=>rw[hu] at this;rw[lA 8 v u this]
 cases hmay:may with
 | nil=>rw[hmay] at m1;simp at m1
 | cons x xs=>
  cases xs with
  | nil=>exact one' (by rw[hmay];rfl)
  | cons y ys=>
   rw[hmay] at hw;exact many (by rw[hmay];exact hw)
end
theorem cnt_lt {α:Type} {p p':α→Bool}:∀ (l:List α) (x:α),(∀ y,p' y=true→p y=true)→x∈l→p x=true→p' x=false→l.countP p'<l.countP p:=by
 intro l
 induction l with
 | nil=>intro x _ hx;cases hx
 | cons z l ih=>
  intro x h hx h1 h2;have le:l.countP p'≤l.countP p:=List.countP_mono_left fun y _=>h y;rw[List.countP_cons,List.countP_cons];cases hx with
  | head=>rw[h1,h2];simp;omega
  | tail _ hx=>
   have:=ih x h hx h1 h2;have hz:=h z;cases e1:p' z<;>cases e2:p z<;>simp<;>first|omega|(rw[e1,e2] at hz;simp at hz)
theorem orders {P:Program} {cx:Cx} (au:cI Λ P cx) (hm:P.follows .mixedOrders=true) {ro:Option Nat} {K:bh} (hK:xD Λ P K) {ops:Array Oper} {rid:Nat} {Q:Exit→Act→World→Prop} {ρ:aB} {F:Fr} {S:AS} {w:World} {a:Act}
  (hR:R Λ ρ S w) (hF:dy ρ F a) {jq rows:List Row} {c:Nat→BE} (ik:Plan ops jq) (od:∀ (i:Nat) (r:Row),jq[i]?=some r→r.cls=.pure∨r.cls=.read→fN cx r.o=r.cls)
  (hlt0:∀ (i:Nat) (r:Row),jq[i]?=some r→r.cN<2 ^ i) (qc:∀ (i:Nat) (r:Row),i<rows.length→jq[i]?=some r→rows[i]?=some r) (hle:rows.length≤jq.length)
  (hcount:rows.countP (fun r=>bz r.cls)≤jq.countP (fun r=>bz r.cls)) (h:nd cx K ops.toList rows c) (rn:c 0=⟨F,⟨S.h,Nat.add S.next (dD (fun r=>bz r.cls) jq)⟩,[],[],S.next⟩)
  (sL:∀ q,q∈rows→cond (dC q.cls) (hZ cx ops.toList rows (c rows.length).F (dQ rows c) q) true=true)
  (hblock:∀ (j:Nat) (r:Row),rows.length<j→jq[j]?=some r→bit r.cN rows.length=true)
  (hdone:rows.length=jq.length→∀ (L:Nat→Prop) (m:Nat) (Fs:Fr) (ρ':aB) (S':AS) (w':World) (a':Act),Inv Λ cx ops.toList rows c ρ S w L m Fs ρ' S' w' a'→(∀ i,i<rows.length→L i)→Q .normal a' w')
  (nX:∀ r,jq[rows.length]?=some r→∀ (L:Nat→Prop) (m:Nat) (Fs:Fr) (ρ':aB) (S':AS) (w':World) (a':Act) (next:Act→World→Prop),Inv Λ cx ops.toList rows c ρ S w L m Fs ρ' S' w' a'→(∀ j,bit r.cN j=true→L j)→wpOpIn (GF ro) 0 P ops Q rows.length next a' w') :
  (Code.region rid ops true).wpIn (GF ro) 0 P Q a w:=by
 have x5:(c 0).ax=[]:=by rw[rn]
 have hp0:(c 0).ps=[]:=by rw[rn]
 have cY:(c 0).id=S.next:=by rw[rn]
 have hlen:=ik.len;have main:∀ (fuel:Nat) (listed:Array Bool) (m:Nat) (Fs:Fr) (ρ':aB) (S':AS) (w':World) (a':Act),listed.size=ops.size→(∀ j,rows.length≤j→listed.getD j false=false) →
   Inv Λ cx ops.toList rows c ρ S w (fun j=>listed.getD j false=true) m Fs ρ' S' w' a'→(List.range ops.size).countP (fun i=>!listed.getD i false)≤fuel →
   wpAnyIn (GF ro) 0 P .any ops Q fuel listed a' w':=by
  have done:∀ (listed:Array Bool) (m:Nat) (Fs:Fr) (ρ':aB) (S':AS) (w':World) (a':Act),listed.size=ops.size→(∀ j,rows.length≤j→listed.getD j false=false) →
    Inv Λ cx ops.toList rows c ρ S w (fun j=>listed.getD j false=true) m Fs ρ' S' w' a'→Region.ready .any ops listed=[]→Q .normal a' w':=by
   intro listed m Fs ρ' S' w' a' eJ jB hv hready;have hrdy:∀ i,i<ops.size→(∀ k,k<i→listed.getD k false=true)→listed.getD i false=true:=by
    intro i hi ih;cases hli:listed.getD i false with
    | true=>rfl
    | false=>
     exfalso;obtain ⟨r,hr⟩:=gD (rows:=jq) (i:=i) (by omega);have hio:=(ik.row i r hr).2;have:i∈Region.ready .any ops listed:=by
      rw[mem_ready];refine ⟨?_,r.o,hio,fun e he hb=>?_⟩
      ·have:i<listed.size:=by omega
       simpa[Array.getD,this] using hli
      ·have hbit:=ik.edge i r e hr (by simpa using he) hb;have bF:=oz (hlt0 i r hr) hbit;exact ih e.on bF
     rw[hready] at this;cases this
   have dv:∀ i,i<rows.length→listed.getD i false=true:=by
    intro i
    induction i using Nat.strongRecOn with
    | _ i ih=>exact fun hi=>hrdy i (by omega) fun k hk=>ih k hk (by omega)
   rcases Nat.lt_or_ge rows.length ops.size with bF|oW
   ·have h1:=hrdy rows.length bF dv;rw[jB _ (Nat.le_refl _)] at h1;cases h1
   ·exact hdone (by omega) _ m Fs ρ' S' w' a' hv dv
  intro fuel
  induction fuel with
  | zero=>
   intro listed m Fs ρ' S' w' a' eJ jB hv hfuel;have hr:Region.ready .any ops listed=[]:=by
    cases wq:Region.ready .any ops listed with
    | nil=>rfl
    | cons i l=>
     exfalso;have hi:i∈Region.ready .any ops listed:=by rw[wq];simp
     obtain ⟨h1,o,ho,_⟩:=mem_ready.1 hi;have bF:i<ops.size:=(Array.getElem?_eq_some_iff.1 ho).1;have h2:listed.getD i false=false:=by
      have:i<listed.size:=by omega
      simpa[Array.getD,this] using h1
     have:0<(List.range ops.size).countP (fun i=>!listed.getD i false):=List.countP_pos_iff.2 ⟨i,by simpa using bF,by rw[h2];rfl⟩;omega
   exact ⟨hr,done listed m Fs ρ' S' w' a' eJ jB hv hr⟩
  | succ fuel ih=>
   intro listed m Fs ρ' S' w' a' eJ jB hv hfuel;refine ⟨fun hr=>done listed m Fs ρ' S' w' a' eJ jB hv hr,fun i hi=>?_⟩;obtain ⟨h1,o,ho,hedges⟩:=mem_ready.1 hi;have bF:i<ops.size:=(Array.getElem?_eq_some_iff.1 ho).1;have hli:listed.getD i false=false:=by
    have:i<listed.size:=by omega
    simpa[Array.getD,this] using h1
   have hn:¬listed.getD i false=true:=by rw[hli];simp
   obtain ⟨r,uy⟩:=gD (rows:=jq) (i:=i) (by omega);have hio:=(ik.row i r uy).2;rw[ho] at hio;obtain rfl:o=r.o:=Option.some.inj hio;have hb:∀ j,bit r.cN j=true→listed.getD j false=true:=by
    intro j hj;obtain ⟨e,he,wF,h2⟩:=ik.down i r j uy hj;have hL:=hedges e (by simpa using he) wF;rcases h2 with rfl|⟨r',fJ,hj'⟩
    ·exact hL
    ·have hel:e.on<rows.length:=by
      rcases Nat.lt_or_ge e.on rows.length with h1|h1
      ·exact h1
      ·rw[jB _ h1] at hL;cases hL
     exact hv.down e.on r' j (qc _ _ hel fJ) hL hj'
   rcases Nat.lt_trichotomy i rows.length with uA|rfl|uA
   rotate_left
   ·exact nX r uy _ m Fs ρ' S' w' a' _ hv hb
   ·have h1:=hb _ (hblock i r uA uy);rw[jB _ (Nat.le_refl _)] at h1;cases h1
   have hr:=qc i r uA uy;have hL':∀ j,((listed.setIfInBounds i true).getD j false=true)↔(listed.getD j false=true)∨j=i:=by
    intro j;by_cases Dd:i=j
    ·subst Dd;have:i<listed.size:=by omega
     simp[this]
    ·rw[getD_set_ne false Dd];simp[Ne.symm Dd]
   have hcnt:(List.range ops.size).countP (fun j=>!(listed.setIfInBounds i true).getD j false)≤fuel:=by
    have:=cnt_lt (p:=fun j=>!listed.getD j false) (p':=fun j=>!(listed.setIfInBounds i true).getD j false) (List.range ops.size) i (fun y hy=>by
     cases hy0:listed.getD y false with
     | false=>rfl
     | true=>rw[(hL' y).2 (.inl hy0)] at hy;cases hy) (by simpa using bF) (by rw[hli];rfl) (by rw[(hL' i).2 (.inr rfl)];rfl)
    omega
   have hsz':(listed.setIfInBounds i true).size=ops.size:=by simpa using eJ
   have hcap':∀ j,rows.length≤j→(listed.setIfInBounds i true).getD j false=false:=fun j hj=>by
    cases hq:(listed.setIfInBounds i true).getD j false with
    | false=>rfl
    | true=>
     rcases (hL' j).1 hq with h1|h1
     ·rw[jB j hj] at h1;cases h1
     ·omega
   have z9:=fun t ht=>h.now hv.ag hr hb (.inr fun k q hk hbk hLk=>hn (hv.down k q i hk hLk hbk)) (t:=t) ht;have value:∀ v,bo r.cls=false→(∀ q,¬Laid cx ops.toList rows c i q)→(c (i+1)).F=aK (c i).F r.o.dst v→one cx K ops.toList r.o Fs S'=.ok (false,v,S') [] →
     wpOpIn (GF ro) 0 P ops Q i (wpAnyIn (GF ro) 0 P .any ops Q fuel (listed.setIfInBounds i true)) a' w':=by
    intro v he Db hFv mO;refine Al au hK hv.R hv.F ho ?_;rw[mO];refine ⟨fun ρ2 e w2 hx hR2 sQ=>?_,fun y hy=>by cases hy⟩;obtain ⟨x,rfl,hx2⟩:=hx.val;exact ih _ m _ ρ2 S' w2 _ hsz' hcap' (hv.value h hr hn hb hL' he Db hFv hx2 hR2 sQ) hcnt
   rcases h.step i r hr with ⟨hc,⟨hw,v,x,hf,e⟩|⟨hw,e⟩⟩|⟨hc,v,S2,mO,e⟩|⟨hc,v,mO,e⟩
   ·-- a block is laid
    have wB:Laid cx ops.toList rows c i ⟨r.i,(c i).id,x⟩:=⟨⟨r,v,hr,hc,hw,hf⟩,h.num i r hr,rfl⟩
    have hFv:(c (i+1)).F=aK (c i).F r.o.dst v:=by rw[e]
    have we:wanted ops.toList Fs r.o=some true:=by rw[jy z9];exact hw
    have AN:al cx Fs (c i).id r.o.op=some (v,x):=by rw[iq (sf z9)];exact hf
    obtain ⟨s,mM,y,o',w2,xI,hg,pg,hval⟩:=zk (P:=P) au hv.F AN w';unfold wpOpIn;simp only[ho];rw[lf hv.F we];simp only[if_true];refine ⟨fun f _=>zJ ro f,?_⟩;have sM:∀ c,r.o.op≠.defer c:=by
     intro c e;rw[e] at AN;cases AN
    rw[Oper.semAt_eq _ _ _ sM];have hrun2:(execOp a'.eval r.o).run P w'=.ok (.value y) w2:=by
     rw[mM];simp only[Sem.run_bind,xI,Result.andThen_ok,Sem.run_pure]
    rw[hrun2];show wpAnyIn (GF ro) 0 P .any ops Q fuel (listed.setIfInBounds i true) (a'.put r.o.dst y) w2;obtain ⟨pl,eV,hplb⟩:∃ pl:Pl,zI pl.b pl x o'∧pl.b=w'.heap.size:=by
     cases x with
     | row cells low top frz ty=>
      obtain ⟨rfl,rfl,rfl,C,rfl,r2,r3⟩:=pg;exact ⟨⟨w'.heap.size,0,cells.length,C.size,by omega⟩,⟨rfl,rfl,rfl,rfl⟩,rfl⟩
     | map es clock=>
      obtain ⟨ES,rfl,r2⟩:=pg;exact ⟨⟨w'.heap.size,0,0,0,by omega⟩,rfl,rfl⟩
     | cK y=>exact ⟨⟨w'.heap.size,0,0,0,by omega⟩,⟨rfl,rfl⟩,rfl⟩
    exact ih _ m _ _ S' w2 _ hsz' hcap' (hv.lay h hr hn hb hL' (by rw[hc];rfl) wB (by rw[←cY];exact (wB.top h).1) hFv hg pg hval eV hplb) hcnt
   ·refine value .undef (by rw[hc];rfl) (fun q hl=>?_) (by rw[e]) ?_
    ·obtain ⟨⟨r',v,fJ,_,we,_⟩,_⟩:=hl;rw[hr] at fJ;cases fJ;rw[hw] at we;cases we
    ·unfold one;rw[jy z9,hw]
   ·-- it fj
    have he:bo r.cls=true:=by rw[hc];rfl
    have eW:=hv.level h hr hn hb he;have hS:S'=(c i).S:=by
     have h2:=hv.st;rw[←eW,h.snap x5 (Nat.le_of_lt (jT hr))] at h2;exact (Option.some.inj h2).symm
    obtain ⟨c1,c2,c3,c4⟩:=hv.aU h hp0 cY (Nat.le_of_lt (jT hr)) eW (fun p=>bit r.cN p.i) (fun j q e hp _=>by subst e;exact hb _ hp);refine Al au hK c1 hv.F ho ?_;rw[yO z9,hS,mO];refine ⟨fun ρ2 ed w2 hx hR2 sQ=>?_,fun y hy=>by cases hy⟩;obtain ⟨x,rfl,hx2⟩:=hx.val;have dW:S2=(c (i+1)).S:=by rw[e]
    simp only[dW] at hR2 sQ;rw[←hS] at sQ;exact ih _ (m+1) _ ρ2 _ w2 _ hsz' hcap' (hv.act h x5 hp0 cY hr hn hb hL' he (by rw[e]) hx2 hR2 sQ) hcnt
   ·-- it only gives
    have nA:=od i r uy hc;have iK:fN cx r.o=.pure∨fN cx r.o=.read:=by rw[nA];exact hc
    have hFv:(c (i+1)).F=aK (c i).F r.o.dst v:=by rw[e]
    have kB:dZ cx ops.toList Fs S' r.o=some v:=by
     rcases hc with hc|hc
     ·rw[gG z9];exact oneV_pure (nA.trans hc) mO
     ·have wc:=sL r (List.mem_of_getElem? hr);rw[hc] at wc;exact h.window x5 hr mO hFv wc hv.ag hv.st hv.lv hv.down hn hb (by rw[hc];rfl)
    refine value v (by rcases hc with hc|hc<;>rw[hc]<;>rfl) (fun q hl=>?_) hFv (oneV_one iK kB);obtain ⟨⟨r',v,fJ,hc2,_⟩,_⟩:=hl;rw[hr] at fJ;cases fJ;rw[hc2] at hc;rcases hc with hc|hc<;>cases hc
 refine wpIn_region_any hm ?_;refine main ops.size _ 0 F ρ (c 0).S _ a (by simp) (fun j _=>by simp only[Array.getD_eq_getD_getElem?,Array.getElem?_replicate];split<;>simp) ?_ (Nat.le_trans (List.countP_le_length) (by simp));have hlev0:js rows 0=0:=rfl;have hR0:R Λ ρ (c 0).S { w with drawn:=w.drawn+1 }:=by
  rw[rn];have h2:=hR.drawn (w.drawn+1);exact ⟨h2.eC,fun i o ho=>Nat.lt_of_lt_of_le (h2.rX i o ho) (Nat.le_add_right _ _),fun i g hi=>h2.fresh i g (Nat.le_trans (Nat.le_add_right _ _) hi),h2.mh,h2.lt,h2.apart,h2.start,h2.base⟩
 have empty:∀ j,¬(Array.replicate ops.size false).getD j false=true:=by
  intro j;simp only[Array.getD_eq_getD_getElem?,Array.getElem?_replicate];split<;>simp
 have hkp:Kp ρ S w ρ (c 0).S { w with drawn:=w.drawn+1 }:=by
  rw[rn];exact ⟨Ext.refl _,rfl,rfl,rfl,Nat.le_refl _,fun _ _ _=>rfl,fun _ h=>.inl h,fun _ h=>.inl h,Nat.le_add_right _ _,fun _ _ _ h=>⟨rfl,h⟩⟩
 refine ⟨hR.start,by rw[←hlev0];exact h.snap x5 (Nat.zero_le _),fun i r hr he=>⟨fun h1=>absurd h1 (empty i),fun h1=>by omega⟩,fun i r j _ h1=>absurd h1 (empty i),hR0,hF,⟨by rw[rn],by rw[rn],fun t i _ h1=>absurd h1 (empty i),fun t _=>by rw[rn]⟩,hkp,fun j q hl _=>?_,fun j j' q q' x y _ hl _ _ _ h1 _=>?_⟩
 ·have ht:=hl.top h;rw[cY] at ht;have hnone:S.h.get q.id=none:=by
   cases hg:S.h.get q.id with
   | none=>rfl
   | some o=>have:=hR.rX _ _ hg;omega
  refine ⟨by rw[rn];exact hnone,?_,fun h1=>absurd h1 (empty j),fun _ g=>hR.fresh _ g ht.1⟩;rw[rn,zx];exact Nat.lt_of_lt_of_le ht.2 (Nat.add_le_add_left hcount _)
 ·have ht:=hl.top h;rw[cY] at ht;rw[hR.fresh _ 0 ht.1] at h1;cases h1
theorem qG (F:Fr) (t:Nat):∀ (rows:List Row),(BX rows F).n=F.n∧(BX rows F).ds=F.ds∧((BX rows F).t.get t=some .top∨((BX rows F).t.get t=F.t.get t∧∀ r,r∈rows→r.o.dst=some t→¬t<F.n))
 | []=>⟨rfl,rfl,.inr ⟨rfl,fun r hr=>by cases hr⟩⟩
 | r :: rows=>by
  obtain ⟨h1,h2,h3⟩:=qG F t rows;have e:BX (r :: rows) F=aK (BX rows F) r.o.dst .top:=rfl;rw[e,putD_n,Af];refine ⟨h1,h2,?_⟩;by_cases hd:r.o.dst=some t
  ·rw[hd,lD,h1];by_cases ht:t<F.n
   ·rw[if_pos ht];exact .inl rfl
   ·rw[if_neg ht];rcases h3 with h3|⟨h3,h4⟩
    ·exact .inl h3
    ·refine .inr ⟨h3,fun q hq Er=>?_⟩;rcases List.mem_cons.1 hq with rfl|hq
     ·exact ht
     ·exact h4 q hq Er
  ·rw[qT hd];rcases h3 with h3|⟨h3,h4⟩
   ·exact .inl h3
   ·refine .inr ⟨h3,fun q hq Er=>?_⟩;rcases List.mem_cons.1 hq with rfl|hq
    ·exact absurd Er hd
    ·exact h4 q hq Er
theorem wX {P:Program} {cx:Cx} (au:cI Λ P cx) (hm:P.follows .mixedOrders=true):DrawnOk Λ P cx:=by
 intro ro K hK ops rid Q ρ F S w a hR hF lL;unfold c9 at lL;obtain ⟨ik,od⟩:=su cx ops;generalize settle (cM cx ops.toList)=rows at ik od lL;cases hpk:fV ops.toList rows with
 | false=>simp only[hpk,cond_false] at lL;exact lL.elim
 | true=>
 simp only[hpk,cond_true] at lL;obtain ⟨c,rn,hend⟩:=trace cx K ops.toList rows ⟨F,⟨S.h,Nat.add S.next (dD (fun r=>bz r.cls) rows)⟩,[],[],S.next⟩ _ (aj.all_bind lL);have hlen:=ik.len;have x5:(c 0).ax=[]:=by rw[rn]
 have hp0:(c 0).ps=[]:=by rw[rn]
 have cY:(c 0).id=S.next:=by rw[rn]
 rcases hend with ⟨wg,iJ⟩|⟨n,r,v,S2,hrn,hrc,wg,mO,hlater,iJ⟩
 ·have h:=run_ok ik hpk (fun i r hr=>hr) wg;unfold kE at iJ;simp only[] at iJ;have hrev:sk ((c rows.length).S :: (c rows.length).ax)=dQ rows c:=uN _;rw[hrev] at iJ;cases sL:kJ cx ops.toList rows (c rows.length).F (dQ rows c) with
  | false=>rw[sL] at iJ;exact iJ.elim
  | true=>
  rw[sL] at iJ;have hQ:=iJ.1;simp only[] at hQ;unfold kJ at sL;rw[fu,List.all_eq_true] at sL;refine orders au hm hK hR hF ik od (fun i r hr=>qV ik hpk hr) (fun i r _ hr=>hr) (Nat.le_refl _) (Nat.le_refl _) h rn sL (fun j r hj hr=>absurd (jT hr) (by omega)) ?_ (fun r hr=>absurd (jT hr) (by omega));intro _ L m Fs ρ' S' w' a' hv dv;have hmM:m=js rows rows.length:=by
   have h1:m<(dQ rows c).length:=by
    rcases Nat.lt_or_ge m (dQ rows c).length with h1|h1
    ·exact h1
    ·have:=hv.st;rw[List.getElem?_eq_none h1] at this;cases this
   rw[h.vq x5] at h1;rcases vX (rows:=rows) rows.length with h2|⟨e,q,h2,h3,h4,h5⟩
   ·omega
   ·have:=(hv.lv e q h3 h4).1 (dv e h2);omega
  have hS:S'=(c rows.length).S:=by
   have h1:=hv.st;rw[hmM,h.snap x5 (Nat.le_refl _)] at h1;exact (Option.some.inj h1).symm
  obtain ⟨c1,c2,_⟩:=hv.aU h hp0 cY (Nat.le_refl _) hmM.symm (fun _=>true) (fun j q _ _ hl=>dv j (hl.next h).2.1);rw[hS] at c1 c2;refine hQ ρ' .normal a' w' rfl c1 ⟨fun t=>?_,?_,by rw[h.ds _ (Nat.le_refl _),←hv.ag.ds];exact hv.F.defers⟩ c2
  ·have e:(c rows.length).F.t.get t=Fs.t.get t:=by
    by_cases hw:∃ i,tv rows t i
    ·obtain ⟨i,hi⟩:=hw;obtain ⟨q,hq,_⟩:=id hi;exact (hv.ag.yes t i hi (dv i (jT hq))).symm
    ·rw[hv.ag.no t fun i hi _=>hw ⟨i,hi⟩];exact h.all.no t fun i hi _=>hw ⟨i,hi⟩
   rw[e];exact hv.F.slot t
  ·rw[hv.F.size,hv.ag.n,h.n _ (Nat.le_refl _)]
 ·have hnl:=jT hrn;have hri:=(ik.row n r hrn).1;obtain ⟨pre,qc⟩:∃ pre,pre=rows.take n:=⟨_,rfl⟩
  have eV:pre.length=n:=by rw[qc,List.length_take];omega
  have aW:∀ (i:Nat) (q:Row),pre[i]?=some q→rows[i]?=some q∧i<n:=fun i q hq=>by
   rw[qc,List.getElem?_take] at hq;split at hq
   ·rename_i hi;exact ⟨hq,hi⟩
   ·cases hq
  have hinv:∀ (i:Nat) (q:Row),i<n→rows[i]?=some q→pre[i]?=some q:=fun i q hi hq=>by
   rw[qc,List.getElem?_take,if_pos hi];exact hq
  have h:=run_ok (rows:=pre) ik hpk (fun i q hq=>(aW i q hq).1) (fun i q hq=>wg i q (aW i q hq).2 (aW i q hq).1);unfold kE at iJ;simp only[hri,cl,←qc] at iJ;have hrev:sk ((c n).S :: (c n).ax)=dQ pre c:=by rw[←eV];exact uN _
  rw[hrev] at iJ;cases sL:kJ cx ops.toList pre (c n).F (dQ pre c) with
  | false=>rw[sL] at iJ;exact iJ.elim
  | true=>
  rw[sL] at iJ;have hQ:=iJ.1;simp only[] at hQ;unfold kJ at sL;rw[fu,List.all_eq_true] at sL;refine orders (rows:=pre) au hm hK hR hF ik od (fun i r hr=>qV ik hpk hr) (fun i q hi hq=>hinv i q (by omega) hq) (by omega) ?_ h rn (by rw[eV];exact sL)
   (fun j q hj hq=>by rw[eV] at hj ⊢;rw[←hri];exact hlater j q hj hq) (fun e=>by omega) ?_
  ·rw[qc];exact (List.take_sublist n rows).countP_le
  intro q hq L m Fs ρ' S' w' a' next hv hb
  rw[eV,hrn] at hq;cases hq;have hrn':=hrn;have heff:∀ (e:Nat) (q:Row),pre[e]?=some q→bo q.cls=true→L e:=fun e q he hq=>hb e (by
   obtain ⟨h1,h2⟩:=aW e q he;exact CB ik hpk h1 hrn hq (by rw[hrc];rfl) h2)
  have hmM:m=js pre pre.length:=by
   have h1:m<(dQ pre c).length:=by
    rcases Nat.lt_or_ge m (dQ pre c).length with h1|h1
    ·exact h1
    ·have:=hv.st;rw[List.getElem?_eq_none h1] at this;cases this
   rw[h.vq x5] at h1;rcases vX (rows:=pre) pre.length with h2|⟨e,q,h2,h3,h4,h5⟩
   ·omega
   ·have:=(hv.lv e q h3 h4).1 (heff e q h3 h4);omega
  have hS:S'=(c n).S:=by
   have h1:=hv.st;rw[hmM,h.snap x5 (Nat.le_refl _),eV] at h1;exact (Option.some.inj h1).symm
  obtain ⟨c1,c2,c3,c4⟩:=hv.aU h hp0 cY (Nat.le_refl _) hmM.symm (fun p=>bit r.cN p.i) (fun j q e hp _=>by subst e;exact hb _ hp);rw[eV] at c1 c2 ⊢;have z9:∀ t,t∈fU ops.toList r.o→Fs.t.get t=(c n).F.t.get t:=by
   intro t ht;by_cases hw:∃ i,tv pre t i
   ·obtain ⟨i,q,hq,hd⟩:=hw;obtain ⟨h1,h2⟩:=aW i q hq;have hbi:bit r.cN i=true:=by
     rcases yK ik hpk h1 hrn hd ht with uB|⟨uB,_⟩
     ·exact uB
     ·have:=oz (qV ik hpk h1) uB;omega
    have:=hv.ag.yes t i ⟨q,hq,hd⟩ (hb i hbi)
    rwa [eV] at this
   ·rw[hv.ag.no t fun i hi _=>hw ⟨i,hi⟩];have:=h.all.no t fun i hi _=>hw ⟨i,hi⟩;rw[eV] at this;exact this.symm
  refine Al au hK c1 hv.F (ik.row n r hrn).2 ?_;rw[yO z9,hS,mO];refine ⟨fun ρ2 ed w2 hx hR2 sQ=>?_,fun y hy=>by cases hy⟩;obtain ⟨x,rfl,hx2⟩:=hx.dj;rw[hS] at c2;refine hQ ρ2 _ a' w2 ⟨x,rfl,hx2⟩ hR2 ⟨fun t=>?_,?_,?_⟩ (c2.trans sQ)
  ·obtain ⟨e1,e2,e3⟩:=qG (c n).F t rows;rcases e3 with e3|⟨e3,e4⟩
   ·rw[e3];simp only[ah]
   ·rw[e3];have Db:(c n).F.t.get t=Fs.t.get t:=by
     by_cases hw:∃ i,tv pre t i
     ·obtain ⟨i,q,hq,hd⟩:=hw;have hnt:¬t<(c n).F.n:=e4 q (List.mem_of_getElem? (aW i q hq).1) hd;have a1:∀ k,k≤n→(c k).F.t.get t=(c 0).F.t.get t:=by
       intro k hk
       induction k with
       | zero=>rfl
       | succ k ih=>
        obtain ⟨q',hq'⟩:=gD (rows:=pre) (i:=k) (by omega);obtain ⟨u,hu⟩:=stepF (h.step k q' hq');rw[hu];by_cases jt:q'.o.dst=some t
        ·rw[jt,lD,if_neg (by rw[h.n k (by omega),←h.n n (by omega)];exact hnt)];exact ih (by omega)
        ·rw[qT jt];exact ih (by omega)
      by_cases hLi:L i
      ·have:=hv.ag.yes t i ⟨q,hq,hd⟩ hLi;rw[eV] at this;exact this.symm
      ·rw[hv.ag.no t fun k hk hLk=>by
        obtain ⟨q',hq',jt⟩:=hk;have:=h.single i k q q' t hq hq' hd jt;subst this;exact hLi hLk]
       exact a1 n (Nat.le_refl _)
     ·rw[hv.ag.no t fun i hi _=>hw ⟨i,hi⟩];have:=h.all.no t fun i hi _=>hw ⟨i,hi⟩;rw[eV] at this;exact this
    rw[Db];exact (hv.F.mono sQ.ext).slot t
  ·obtain ⟨e1,e2,e3⟩:=qG (c n).F 0 rows;rw[e1,hv.F.size,hv.ag.n,h.n n (by omega)]
  ·obtain ⟨e1,e2,e3⟩:=qG (c n).F 0 rows;rw[e2,h.ds n (by omega),←hv.ag.ds];exact (hv.F.mono sQ.ext).defers
end Go.Am
