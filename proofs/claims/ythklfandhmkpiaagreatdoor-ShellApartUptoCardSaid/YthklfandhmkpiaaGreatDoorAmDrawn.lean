/-
  The abstract machine: a region that draws its order bears what its text's order gives.
-/
import Derived.Test.YthklfandhmkpiaaGreatDoorAmTrace
namespace Go.Am
open Go
variable{Λ:LB}
theorem commit_get(pr:dD->Bool)(id:Nat):∀(ps:List dD)(S:AS),(∀q,q∈ps->pr q=true->q.id≠id)->(bB pr ps S).h.get id=S.h.get id:=by
 intro ps
 induction ps with
 |nil=>intro S _;rfl
 |cons x ps ih=>
  intro S h;have hun:bB pr (x::ps) S=bB pr ps (cond (pr x) ⟨S.h.set x.id x.obj,S.nx⟩ S):=rfl;rw[hun,ih _ (fun q hq=>h q (by simp[hq]))];cases hx:pr x with
  |false=>rfl
  |true=>
   simp only[cond_true];exact ah _ _ (fun e=>h x (by simp) hx e.symm)
theorem zu{α:Type}(p:α->Bool):∀(l:List α),eD p l=l.countP p:=by
 intro l
 induction l with
 |nil=>rfl
 |cons x l ih=>
  show cond (p x) (Nat.succ (eD p l)) (eD p l)=_;rw[List.countP_cons,ih];cases p x<;>simp
theorem ua{α:Type}(l:List α):rT l=l.reverse:=by
 have gen:∀(l a:List α),(List.rec (motive:=fun _=>List α->List α) (fun a=>a) (fun x _ ih a=>ih (x::a)) l) a=l.reverse++a:=by
  intro l
  induction l with
  |nil=>intro a;rfl
  |cons x l ih=>intro a;refine (ih _).trans ?_;simp
 exact (gen l []).trans (by simp)
theorem fT.qL{ρ:bf}{S:AS}{w w':World}{B id:Nat}{o':Obj}{pl:Pl}{p:dD}(hp:fT ρ S w B p)(_hR:R Λ ρ S w)(hg:iz o' w w')(hr:∀g,ρ id g=Option.none)(hn:S.h.get id=Option.none)(cl:p.id≠id):
  fT (put ρ id 0 pl) S w' B p:=by
 obtain⟨EX,cR,pl0,o0,p1,p2,p3,p4,p5,p6,p7⟩:=hp;have hs:pl0.b<w.heap.size:=(Array.getElem?_eq_some_iff.1 p4).1;refine⟨EX,cR,pl0,o0,by rw[cq _ _ (fun e=>cl e.1)];exact p1,fun g hg'=>by rw[cq _ _ (fun e=>cl e.1)];exact p2 g hg',p3,(hg.old _ hs).trans p4,p5.mono (fY pl (hr 0)),?_,p7⟩;rintro⟨i,o,g,p',ho,kF,he⟩;have hi:i≠id:=fun e=>by subst e;rw[hn]at ho;cases ho
 rw[cq _ _ (fun e=>hi e.1)]at kF;exact p6 ⟨i,o,g,p',ho,kF,he⟩
def Comm(rows:List Row)(j m:Nat):Prop:=∃(e:Nat)(r:Row),rows[e]?=some r/\bR r.cls=true/\jD rows e<m/\bit r.dy j=true
theorem Comm.mono{rows:List Row}{j m m':Nat}(h:Comm rows j m)(hm:m<=m'):Comm rows j m':=by
 obtain⟨e,r,h1,h2,h3,h4⟩:=h;exact⟨e,r,h1,h2,by omega,h4⟩
structure Inv(Λ:LB)(cx:Cx)(ops:List Oper)(rows:List Row)(c:Nat->BJ)(ρ0:bf)(S0:AS)(w0:World)(L:Nat->Prop)(m:Nat)(Fs:Fr)(ρ:bf)(S:AS)(w:World)(a:Act):Prop where
 lo:Λ.w.heap.size<=w0.heap.size
 st:(eN rows c)[m]?=some S
 lv:∀(i:Nat)(r:Row),rows[i]?=some r->bR r.cls=true->(L i↔jD rows i<m)
 down:∀(i:Nat)(r:Row)(j:Nat),rows[i]?=some r->L i->bit r.dy j=true->L j
 R:R Λ ρ S w
 F:eA ρ Fs a
 ag:zM rows c L Fs
 kp:Kp ρ0 S0 w0 ρ S w
 u6:∀(j:Nat)(q:dD),Laid cx ops rows c j q->¬Comm rows j m->S.h.get q.id=none/\q.id<S.nx/\(L j->fT ρ S w w0.heap.size q)/\(¬L j->∀g,ρ q.id g=none)
 sep:∀(j j':Nat)(q q':dD)(x y:Pl),j≠j'->Laid cx ops rows c j q->Laid cx ops rows c j' q'->¬Comm rows j m->¬Comm rows j' m->ρ q.id 0=some x->ρ q'.id 0=some y->x.b≠y.b
section
variable{cx:Cx}{K:bO}{ops:List Oper}{rows:List Row}{c:Nat->BJ}{ρ0:bf}{S0:AS}{w0:World}{L L':Nat->Prop}{m:Nat}{Fs:Fr}{ρ:bf}{S:AS}{w:World}{a:Act}
theorem Inv.value(h:nH cx K ops rows c)(hv:Inv Λ cx ops rows c ρ0 S0 w0 L m Fs ρ S w a){i:Nat}{r:Row}(hr:rows[i]?=some r)(hn:¬L i)(hb:∀j,bit r.dy j=true->L j)
  (hL:∀j,L' j↔L j\/j=i) (he:bR r.cls=false) (hno:∀q,¬Laid cx ops rows c i q) {v:AV} (hF:(c (i+1)).F=bw (c i).F r.o.dst v) {ρ':bf} {w':World} {x:Value}
  (hx:aq ρ' v x) (hR:Go.Am.R Λ ρ' S w') (hk:Kp ρ S w ρ' S w'):Inv Λ cx ops rows c ρ0 S0 w0 L' m (bw Fs r.o.dst v) ρ' S w' (a.put r.o.dst x):=by
 refine⟨hv.lo,hv.st,fun j q hq hj=>?_,fun j q k hq hj hb'=>?_,hR,(hv.F.mono hk.ext).put _ hx,h.put hv.ag hr hn hF hL,hv.kp.trans hk,fun j q hl hc=>?_,fun j j' q q' x y cl hl pM hc kK h1 h2=>?_⟩
 .rw[hL,<-hv.lv j q hq hj];constructor
  .rintro (h1|rfl)
   .exact h1
   .rw[hr]at hq;cases hq;rw[he]at hj;cases hj
  .exact .inl
 .rw[hL]at hj⊢;rcases hj with hj|rfl
  .exact .inl (hv.down j q k hq hj hb')
  .rw[hr]at hq;cases hq;exact .inl (hb k hb')
 .obtain⟨p1,p2,p3,p4⟩:=hv.u6 j q hl hc;have Dy:j≠i:=fun e=>by subst e;exact hno q hl
  refine⟨p1,p2,fun hj=>?_,fun hj g=>?_⟩
  .rw[hL]at hj;exact (p3 (hj.resolve_right Dy)).carry hk
  .rw[(hk.qJ q.id g p2 p1).1];exact p4 (fun h1=>hj ((hL j).2 (.inl h1))) g
 .obtain⟨p1,p2,_⟩:=hv.u6 j q hl hc;obtain⟨p1',p2',_⟩:=hv.u6 j' q' pM kK;rw[(hk.qJ q.id 0 p2 p1).1]at h1;rw[(hk.qJ q'.id 0 p2' p1').1]at h2;exact hv.sep j j' q q' x y cl hl pM hc kK h1 h2
theorem Inv.lay(h:nH cx K ops rows c)(hv:Inv Λ cx ops rows c ρ0 S0 w0 L m Fs ρ S w a){i:Nat}{r:Row}(hr:rows[i]?=some r)(hn:¬L i)(hb:∀j,bit r.dy j=true->L j)
  (hL:∀j,L' j↔L j\/j=i) (he:bR r.cls=false) {p:dD} (hp:Laid cx ops rows c i p) (cw:S0.nx<=p.id) {v:AV} (hF:(c (i+1)).F=bw (c i).F r.o.dst v) {w':World} {o':Obj} {x:Value} (hg:iz o' w w') (ho:oO ρ p.obj o')
  (hx:∀ρ' pl,ρ' p.id 0=some pl->zK w.heap.size pl p.obj o'->aq ρ' v x) {pl:Pl} (oZ:zK pl.b pl p.obj o') (hplb:pl.b=w.heap.size) :
  Inv Λ cx ops rows c ρ0 S0 w0 L' m (bw Fs r.o.dst v) (put ρ p.id 0 pl) S w' (a.put r.o.dst x):=by
 have hnc:¬Comm rows i m:=by
  rintro⟨e,q,h1,h2,h3,h4⟩;exact hn (hv.down e q i h1 ((hv.lv e q h1 h2).2 h3) h4)
 obtain⟨p1,p2,_,p4'⟩:=hv.u6 i p hp hnc;have p5:=p4' hn;clear p4';have hext:=fY pl (p5 0);refine⟨hv.lo,hv.st,fun j q hq hj=>?_,fun j q k hq hj hb'=>?_,hv.R.qL hg p5 p1 p2,(hv.F.mono hext).put _ (hx _ pl (bV _ _ _ _) (hplb▸oZ)),h.put hv.ag hr hn hF hL,hv.kp.qL hg p5 p1 cw,fun j q hl hc=>?_,fun j j' q q' y z cl hl pM hc kK h1 h2=>?_⟩
 .rw[hL,<-hv.lv j q hq hj];constructor
  .rintro (h1|rfl)
   .exact h1
   .rw[hr]at hq;cases hq;rw[he]at hj;cases hj
  .exact .inl
 .rw[hL]at hj⊢;rcases hj with hj|rfl
  .exact .inl (hv.down j q k hq hj hb')
  .rw[hr]at hq;cases hq;exact .inl (hb k hb')
 .by_cases Dy:j=i
  .subst Dy;obtain rfl:q=p:=by
    obtain⟨_,_,_,e1,_⟩:=hl.nx h;obtain⟨_,_,_,e2,_⟩:=hp.nx h;rw[e1]at e2;exact (List.cons.inj e2).1
   refine⟨p1,p2,fun _=>⟨p1,p2,pl,o',bV _ _ _ _,fun g hg'=>by rw[cq _ _ (fun e=>hg' e.2)];exact p5 g,oZ,by rw[hplb];exact hg.at,ho.mono hext,?_,by rw[hplb];exact hv.kp.size⟩,fun hj=>absurd ((hL j).2 (.inr rfl)) hj⟩;rintro⟨k,o,g,dT,hk,kF,he'⟩;have hki:k≠q.id:=fun e=>by subst e;rw[p1]at hk;cases hk
   rw[cq _ _ (fun e=>hki e.1)]at kF;have:=hv.R.lt k o g dT hk kF;omega
  .obtain⟨q1,q2,q3,q4⟩:=hv.u6 j q hl hc;have cl:=hl.apart h hp Dy;refine⟨q1,q2,fun hj=>?_,fun hj g=>?_⟩
   .rw[hL]at hj;exact (q3 (hj.resolve_right Dy)).qL hv.R hg p5 p1 cl
   .rw[cq _ _ (fun e=>cl e.1)];exact q4 (fun h1=>hj ((hL j).2 (.inl h1))) g
 .have old:∀(k:Nat)(q:dD)(y:Pl),Laid cx ops rows c k q->¬Comm rows k m->ρ q.id 0=some y->y.b<w.heap.size:=by
   intro k q y hl hc h1;obtain⟨_,_,q3,q4⟩:=hv.u6 k q hl hc;by_cases hk:L k
   .obtain⟨_,_,pl0,o0,e1,_,_,e4,_⟩:=q3 hk;rw[e1]at h1;cases h1;exact (Array.getElem?_eq_some_iff.1 e4).1
   .rw[q4 hk 0]at h1;cases h1
  by_cases Dy:j=i
  .subst Dy;have e1:q=p:=by
    obtain⟨_,_,_,e1,_⟩:=hl.nx h;obtain⟨_,_,_,e2,_⟩:=hp.nx h;rw[e1]at e2;exact (List.cons.inj e2).1
   subst e1;rw[bV]at h1;cases h1;have hne':=pM.apart h hl (fun e=>cl e.symm);rw[cq _ _ (fun e=>hne' e.1)]at h2;have:=old j' q' z pM kK h2;omega
  .have hne1:=hl.apart h hp Dy;rw[cq _ _ (fun e=>hne1 e.1)]at h1;by_cases hji':j'=i
   .subst hji';have e1:q'=p:=by
     obtain⟨_,_,_,e1,_⟩:=pM.nx h;obtain⟨_,_,_,e2,_⟩:=hp.nx h;rw[e1]at e2;exact (List.cons.inj e2).1
    subst e1;rw[bV]at h2;cases h2;have:=old j q y hl hc h1;omega
   .have hne2:=pM.apart h hp hji';rw[cq _ _ (fun e=>hne2 e.1)]at h2;exact hv.sep j j' q q' y z cl hl pM hc kK h1 h2
theorem Inv.level(h:nH cx K ops rows c)(hv:Inv Λ cx ops rows c ρ0 S0 w0 L m Fs ρ S w a){i:Nat}{r:Row}(hr:rows[i]?=some r)(hn:¬L i)(hb:∀j,bit r.dy j=true->L j)(he:bR r.cls=true):jD rows i=m:=by
 have h1:¬jD rows i<m:=fun h1=>hn ((hv.lv i r hr he).2 h1);rcases vp (rows:=rows) i with h2|⟨e,q,h2,h3,h4,h5⟩
 .omega
 .have:=(hv.lv e q h3 h4).1 (hb e (h.tot e i q r h3 hr h4 he h2));omega
theorem Inv.bB(h:nH cx K ops rows c)(hp0:(c 0).ps=[])(cw:(c 0).id=S0.nx)(hv:Inv Λ cx ops rows c ρ0 S0 w0 L m Fs ρ S w a){i:Nat}(hi:i<=rows.length)(hm:jD rows i=m)(pr:dD->Bool)
  (hpr:∀(j:Nat)(q:dD),q.i=j->pr q=true->Laid cx ops rows c j q->L j) :
  Go.Am.R Λ ρ (bB pr (c i).ps S) w/\Kp ρ0 S0 w0 ρ (bB pr (c i).ps S) w/\(Go.Am.bB pr (c i).ps S).nx=S.nx /\
   (∀(j:Nat)(p:dD),Laid cx ops rows c j p->¬Comm rows j m->pr p=false->(Go.Am.bB pr (c i).ps S).h.get p.id=none/\(L j->fT ρ (Go.Am.bB pr (c i).ps S) w w0.heap.size p)):=by
 obtain⟨hw1,hw2⟩:=h.waits hp0 i hi;have unc:∀q,q∈(c i).ps->∃j,Laid cx ops rows c j q/\¬Comm rows j m:=by
  intro q hq;obtain⟨j,hj,hl,hn⟩:=(hw1 q).1 hq;refine⟨j,hl,?_⟩;rintro⟨e,r,h1,h2,h3,h4⟩;rw[<-hm]at h3;have:=hn e r ((vn h1 h2).2 h3) h1 h2;rw[this]at h4;cases h4
 obtain⟨c1,c2,c3,c4⟩:=commit_ok (ρ0:=ρ0) (S0:=S0) (w0:=w0) hv.lo pr (c i).ps S hv.R hv.kp (fun q hq hp=>by
   obtain⟨j,hl,hn⟩:=unc q hq;obtain⟨_,_,p3,_⟩:=hv.u6 j q hl hn;exact⟨p3 (hpr j q hl.i hp hl),by rw[<-cw];exact (hl.top h).1⟩) hw2 (fun p q x y hp _ hq _ cl h1 h2=>by
   obtain⟨j,hl,hn⟩:=unc p hp;obtain⟨j',pM,ng⟩:=unc q hq;exact hv.sep j j' p q x y (fun e=>cl (by rw[hl.id,pM.id,e])) hl pM hn ng h1 h2)
 refine⟨c1,c2,c3,fun j p hl hn hpf=>?_⟩;obtain⟨p1,p2,p3,p4⟩:=hv.u6 j p hl hn;have cl:∀q,q∈(c i).ps->pr q=true->q.id≠p.id:=by
  intro q hq hpq e;obtain⟨j',pM,ng⟩:=unc q hq;by_cases hjj:j'=j
  .subst hjj;obtain⟨_,_,_,e1,_⟩:=pM.nx h;obtain⟨_,_,_,e2,_⟩:=hl.nx h;rw[e1]at e2;have:=(List.cons.inj e2).1;subst this;rw[hpf]at hpq;cases hpq
  .exact pM.apart h hl hjj e
 refine⟨by rw[commit_get _ _ _ _ cl];exact p1,fun hj=>c4 p (p3 hj) fun q hq hpq=>⟨fun e=>cl q hq hpq e.symm,fun x y h1 h2=>?_⟩⟩;obtain⟨j',pM,ng⟩:=unc q hq;exact hv.sep j j' p q x y (fun e=>cl q hq hpq (by rw[hl.id,pM.id,e])) hl pM hn ng h1 h2
theorem Inv.act(h:nH cx K ops rows c)(hs0:(c 0).aL=[])(hp0:(c 0).ps=[])(cw:(c 0).id=S0.nx)(hv:Inv Λ cx ops rows c ρ0 S0 w0 L m Fs ρ S w a){i:Nat}{r:Row}(hr:rows[i]?=some r)(hn:¬L i)(hb:∀j,bit r.dy j=true->L j)
  (hL:∀j,L' j↔L j\/j=i) (he:bR r.cls=true) {v:AV} (hF:(c (i+1)).F=bw (c i).F r.o.dst v) {ρ':bf} {w':World} {x:Value}
  (hx:aq ρ' v x) (hR:Go.Am.R Λ ρ' (c (i+1)).S w') (hk:Kp ρ (Go.Am.bB (fun p=>bit r.dy p.i) (c i).ps S) w ρ' (c (i+1)).S w') :
  Inv Λ cx ops rows c ρ0 S0 w0 L' (m+1) (bw Fs r.o.dst v) ρ' (c (i+1)).S w' (a.put r.o.dst x):=by
 have hm:=hv.level h hr hn hb he;have hi:=jZ hr;obtain⟨c1,c2,c3,c4⟩:=hv.bB h hp0 cw (Nat.le_of_lt hi) hm (fun p=>bit r.dy p.i) (fun j q e hp _=>by subst e;exact hb _ hp);have hlev:jD rows (i+1)=m+1:=by rw[kh hr,if_pos he,hm]
 have out:∀(j:Nat)(q:dD),Laid cx ops rows c j q->¬Comm rows j (m+1)->¬Comm rows j m/\bit r.dy q.i=false:=by
  intro j q hl hc;refine⟨fun h1=>hc (h1.mono (Nat.le_succ _)),?_⟩;cases hbq:bit r.dy q.i with
  |false=>rfl
  |true=>exact absurd ⟨i,r,hr,he,by omega,by rw[<-hl.i];exact hbq⟩ hc
 refine⟨hv.lo,by rw[<-hlev];exact h.snap hs0 hi,fun j q hq hj=>?_,fun j q k hq hj hb'=>?_,hR,(hv.F.mono hk.ext).put _ hx,h.put hv.ag hr hn hF hL,c2.trans hk,fun j q hl hc=>?_,fun j j' q q' x y cl hl pM hc kK h1 h2=>?_⟩
 .rw[hL,hv.lv j q hq hj];constructor
  .rintro (h1|rfl)<;>omega
  .intro h1;by_cases h2:jD rows j<m
   .exact .inl h2
   .right;rcases Nat.lt_trichotomy j i with h3|h3|h3
    .have:=(vn (i:=i) hq hj).1 h3;omega
    .exact h3
    .have:=(vn (i:=j) hr he).1 h3;omega
 .rw[hL]at hj⊢;rcases hj with hj|rfl
  .exact .inl (hv.down j q k hq hj hb')
  .rw[hr]at hq;cases hq;exact .inl (hb k hb')
 .obtain⟨o1,o2⟩:=out j q hl hc;obtain⟨p1,p2,p3,p4⟩:=hv.u6 j q hl o1;obtain⟨q1,q2⟩:=c4 j q hl o1 o2;have Dy:j≠i:=fun e=>by
   subst e;obtain⟨⟨r',v',ij,kK,_⟩,_⟩:=hl;rw[hr]at ij;cases ij;rw[kK]at he;cases he
  have cR:q.id<(Go.Am.bB (fun p=>bit r.dy p.i) (c i).ps S).nx:=by rw[c3];exact p2
  refine⟨(hk.qJ q.id 0 cR q1).2,Nat.lt_of_lt_of_le cR hk.nx,fun hj=>?_,fun hj g=>?_⟩
  .rw[hL]at hj;exact (q2 (hj.resolve_right Dy)).carry hk
  .rw[(hk.qJ q.id g cR q1).1];exact p4 (fun h1=>hj ((hL j).2 (.inl h1))) g
 .obtain⟨o1,o2⟩:=out j q hl hc;obtain⟨o1',o2'⟩:=out j' q' pM kK;obtain⟨_,p2,_⟩:=hv.u6 j q hl o1;obtain⟨_,p2',_⟩:=hv.u6 j' q' pM o1';obtain⟨q1,_⟩:=c4 j q hl o1 o2;obtain⟨BK,_⟩:=c4 j' q' pM o1' o2';rw[(hk.qJ q.id 0 (by rw[c3];exact p2) q1).1]at h1;rw[(hk.qJ q'.id 0 (by rw[c3];exact p2') BK).1]at h2;exact hv.sep j j' q q' x y cl hl pM o1 o1' h1 h2
end
end Go.Am
