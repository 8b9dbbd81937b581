/-
  The abstract machine: a region that draws its order bears what its text's order gives.
-/
import Derived.Test.YtdknlbnljfdhgaaGreatDoorAmSteps
namespace Go.Am
open Go
variable{Λ:LB}
theorem commit_get(pr:ey->Bool)(id:Nat):∀(ps:List ey)(S:AS),(∀q,q∈ps->pr q=true->q.id≠id)->(bf pr ps S).h.get id=S.h.get id:=by
 intro ps
 induction ps with
 |nil=>intro S _;rfl
 |cons x ps ih=>
  intro S h;have vI:bf pr (x::ps) S=bf pr ps (cond (pr x) ⟨S.h.set x.id x.obj,S.next⟩ S):=rfl;rw[vI,ih _ (fun q hq=>h q (by simp[hq]))];cases hx:pr x with
  |false=>rfl
  |true=>
   simp only[cond_true];exact ae _ _ (fun e=>h x (by simp) hx e.symm)
theorem Au{α:Type}(p:α->Bool):∀(l:List α),fp p l=l.countP p:=by
 intro l
 induction l with
 |nil=>rfl
 |cons x l ih=>
  show cond (p x) (Nat.succ (fp p l)) (fp p l)=_;rw[List.countP_cons,ih];cases p x<;>simp
theorem vy{α:Type}(l:List α):wz l=l.reverse:=by
 have gen:∀(l a:List α),(List.rec (motive:=fun _=>List α->List α) (fun a=>a) (fun x _ ih a=>ih (x::a)) l) a=l.reverse++a:=by
  intro l
  induction l with
  |nil=>intro a;rfl
  |cons x l ih=>intro a;refine (ih _).trans ?_;simp
 exact (gen l []).trans (by simp)
theorem gf.su{ρ:aO}{S:AS}{w w':World}{B id:Nat}{o':Obj}{pl:Pl}{p:ey}(hp:gf ρ S w B p)(_hR:R Λ ρ S w)(hg:jJ o' w w')(hr:∀g,ρ id g=Option.none)(hn:S.h.get id=Option.none)(cS:p.id≠id):
  gf (put ρ id 0 pl) S w' B p:=by
 obtain⟨yv,cq,pl0,o0,p1,p2,p3,p4,p5,p6,p7⟩:=hp;have hs:pl0.b<w.heap.size:=(Array.getElem?_eq_some_iff.1 p4).1;refine⟨yv,cq,pl0,o0,by rw[bL _ _ (fun e=>cS e.1)];exact p1,fun g xv=>by rw[bL _ _ (fun e=>cS e.1)];exact p2 g xv,p3,(hg.old _ hs).trans p4,p5.mono (fJ pl (hr 0)),?_,p7⟩;rintro⟨i,o,g,p',ho,j6,he⟩;have hi:i≠id:=fun e=>by subst e;rw[hn]at ho;cases ho
 rw[bL _ _ (fun e=>hi e.1)]at j6;exact p6 ⟨i,o,g,p',ho,j6,he⟩
def Comm(rows:List Row)(j m:Nat):Prop:=∃(e:Nat)(r:Row),rows[e]?=some r/\bK r.cls=true/\kz rows e<m/\bit r.dL j=true
theorem Comm.mono{rows:List Row}{j m m':Nat}(h:Comm rows j m)(hm:m<=m'):Comm rows j m':=by
 obtain⟨e,r,h1,h2,h3,h4⟩:=h;exact⟨e,r,h1,h2,by omega,h4⟩
structure Inv(Λ:LB)(cx:Cx)(ops:List Oper)(rows:List Row)(c:Nat->CK)(ρ0:aO)(S0:AS)(w0:World)(L:Nat->Prop)(m:Nat)(Fs:Fr)(ρ:aO)(S:AS)(w:World)(a:Act):Prop where
 lo:Λ.w.heap.size<=w0.heap.size
 st:(eJ rows c)[m]?=some S
 lv:∀(i:Nat)(r:Row),rows[i]?=some r->bK r.cls=true->(L i↔kz rows i<m)
 down:∀(i:Nat)(r:Row)(j:Nat),rows[i]?=some r->L i->bit r.dL j=true->L j
 R:R Λ ρ S w
 F:dT ρ Fs a
 ag:AL rows c L Fs
 kp:Kp ρ0 S0 w0 ρ S w
 wK:∀(j:Nat)(q:ey),Laid cx ops rows c j q->¬Comm rows j m->S.h.get q.id=none/\q.id<S.next/\(L j->gf ρ S w w0.heap.size q)/\(¬L j->∀g,ρ q.id g=none)
 sep:∀(j j':Nat)(q q':ey)(x y:Pl),j≠j'->Laid cx ops rows c j q->Laid cx ops rows c j' q'->¬Comm rows j m->¬Comm rows j' m->ρ q.id 0=some x->ρ q'.id 0=some y->x.b≠y.b
section
variable{cx:Cx}{K:eW}{ops:List Oper}{rows:List Row}{c:Nat->CK}{ρ0:aO}{S0:AS}{w0:World}{L L':Nat->Prop}{m:Nat}{Fs:Fr}{ρ:aO}{S:AS}{w:World}{a:Act}
theorem Inv.value(h:ov cx K ops rows c)(hv:Inv Λ cx ops rows c ρ0 S0 w0 L m Fs ρ S w a){i:Nat}{r:Row}(hr:rows[i]?=some r)(hn:¬L i)(hb:∀j,bit r.dL j=true->L j)
  (hL:∀j,L' j↔L j\/j=i) (he:bK r.cls=false) (jL:∀q,¬Laid cx ops rows c i q) {v:AV} (hF:(c (i+1)).F=bG (c i).F r.o.dst v) {ρ':aO} {w':World} {x:Value}
  (hx:ah ρ' v x) (hR:Go.Am.R Λ ρ' S w') (hk:Kp ρ S w ρ' S w'):Inv Λ cx ops rows c ρ0 S0 w0 L' m (bG Fs r.o.dst v) ρ' S w' (a.put r.o.dst x):=by
 refine⟨hv.lo,hv.st,fun j q hq hj=>?_,fun j q k hq hj sQ=>?_,hR,(hv.F.mono hk.ext).put _ hx,h.put hv.ag hr hn hF hL,hv.kp.trans hk,fun j q hl hc=>?_,fun j j' q q' x y cS hl sO hc iO h1 h2=>?_⟩
 .rw[hL,<-hv.lv j q hq hj];constructor
  .rintro (h1|rfl)
   .exact h1
   .rw[hr]at hq;cases hq;rw[he]at hj;cases hj
  .exact .inl
 .rw[hL]at hj⊢;rcases hj with hj|rfl
  .exact .inl (hv.down j q k hq hj sQ)
  .rw[hr]at hq;cases hq;exact .inl (hb k sQ)
 .obtain⟨p1,p2,p3,p4⟩:=hv.wK j q hl hc;have uU:j≠i:=fun e=>by subst e;exact jL q hl
  refine⟨p1,p2,fun hj=>?_,fun hj g=>?_⟩
  .rw[hL]at hj;exact (p3 (hj.resolve_right uU)).carry hk
  .rw[(hk.rA q.id g p2 p1).1];exact p4 (fun h1=>hj ((hL j).2 (.inl h1))) g
 .obtain⟨p1,p2,_⟩:=hv.wK j q hl hc;obtain⟨p1',p2',_⟩:=hv.wK j' q' sO iO;rw[(hk.rA q.id 0 p2 p1).1]at h1;rw[(hk.rA q'.id 0 p2' p1').1]at h2;exact hv.sep j j' q q' x y cS hl sO hc iO h1 h2
theorem Inv.lay(h:ov cx K ops rows c)(hv:Inv Λ cx ops rows c ρ0 S0 w0 L m Fs ρ S w a){i:Nat}{r:Row}(hr:rows[i]?=some r)(hn:¬L i)(hb:∀j,bit r.dL j=true->L j)
  (hL:∀j,L' j↔L j\/j=i) (he:bK r.cls=false) {p:ey} (hp:Laid cx ops rows c i p) (bY:S0.next<=p.id) {v:AV} (hF:(c (i+1)).F=bG (c i).F r.o.dst v) {w':World} {o':Obj} {x:Value} (hg:jJ o' w w') (ho:pT ρ p.obj o')
  (hx:∀ρ' pl,ρ' p.id 0=some pl->AJ w.heap.size pl p.obj o'->ah ρ' v x) {pl:Pl} (lV:AJ pl.b pl p.obj o') (hplb:pl.b=w.heap.size) :
  Inv Λ cx ops rows c ρ0 S0 w0 L' m (bG Fs r.o.dst v) (put ρ p.id 0 pl) S w' (a.put r.o.dst x):=by
 have hnc:¬Comm rows i m:=by
  rintro⟨e,q,h1,h2,h3,h4⟩;exact hn (hv.down e q i h1 ((hv.lv e q h1 h2).2 h3) h4)
 obtain⟨p1,p2,_,p4'⟩:=hv.wK i p hp hnc;have p5:=p4' hn;clear p4';have hext:=fJ pl (p5 0);refine⟨hv.lo,hv.st,fun j q hq hj=>?_,fun j q k hq hj sQ=>?_,hv.R.su hg p5 p1 p2,(hv.F.mono hext).put _ (hx _ pl (bA _ _ _ _) (hplb▸lV)),h.put hv.ag hr hn hF hL,hv.kp.su hg p5 p1 bY,fun j q hl hc=>?_,fun j j' q q' y z cS hl sO hc iO h1 h2=>?_⟩
 .rw[hL,<-hv.lv j q hq hj];constructor
  .rintro (h1|rfl)
   .exact h1
   .rw[hr]at hq;cases hq;rw[he]at hj;cases hj
  .exact .inl
 .rw[hL]at hj⊢;rcases hj with hj|rfl
  .exact .inl (hv.down j q k hq hj sQ)
  .rw[hr]at hq;cases hq;exact .inl (hb k sQ)
 .by_cases uU:j=i
  .subst uU;obtain rfl:q=p:=by
    obtain⟨_,_,_,e1,_⟩:=hl.next h
    obtain⟨_,_,_,e2,_⟩:=hp.next h
    rw[e1]at e2;exact (List.cons.inj e2).1
   refine⟨p1,p2,fun _=>⟨p1,p2,pl,o',bA _ _ _ _,fun g xv=>by rw[bL _ _ (fun e=>xv e.2)];exact p5 g,lV,by rw[hplb];exact hg.at,ho.mono hext,?_,by rw[hplb];exact hv.kp.size⟩,fun hj=>absurd ((hL j).2 (.inr rfl)) hj⟩;rintro⟨k,o,g,dK,hk,j6,he'⟩;have hki:k≠q.id:=fun e=>by subst e;rw[p1]at hk;cases hk
   rw[bL _ _ (fun e=>hki e.1)]at j6;have:=hv.R.lt k o g dK hk j6;omega
  .obtain⟨q1,q2,q3,q4⟩:=hv.wK j q hl hc;have cS:=hl.apart h hp uU;refine⟨q1,q2,fun hj=>?_,fun hj g=>?_⟩
   .rw[hL]at hj;exact (q3 (hj.resolve_right uU)).su hv.R hg p5 p1 cS
   .rw[bL _ _ (fun e=>cS e.1)];exact q4 (fun h1=>hj ((hL j).2 (.inl h1))) g
 .have old:∀(k:Nat)(q:ey)(y:Pl),Laid cx ops rows c k q->¬Comm rows k m->ρ q.id 0=some y->y.b<w.heap.size:=by
   intro k q y hl hc h1;obtain⟨_,_,q3,q4⟩:=hv.wK k q hl hc;by_cases hk:L k
   .obtain⟨_,_,pl0,o0,e1,_,_,e4,_⟩:=q3 hk;rw[e1]at h1;cases h1;exact (Array.getElem?_eq_some_iff.1 e4).1
   .rw[q4 hk 0]at h1;cases h1
  by_cases uU:j=i
  .subst uU;have e1:q=p:=by
    obtain⟨_,_,_,e1,_⟩:=hl.next h
    obtain⟨_,_,_,e2,_⟩:=hp.next h
    rw[e1]at e2;exact (List.cons.inj e2).1
   subst e1;rw[bA]at h1;cases h1;have hne':=sO.apart h hl (fun e=>cS e.symm);rw[bL _ _ (fun e=>hne' e.1)]at h2;have:=old j' q' z sO iO h2;omega
  .have hne1:=hl.apart h hp uU;rw[bL _ _ (fun e=>hne1 e.1)]at h1;by_cases hji':j'=i
   .subst hji';have e1:q'=p:=by
     obtain⟨_,_,_,e1,_⟩:=sO.next h
     obtain⟨_,_,_,e2,_⟩:=hp.next h
     rw[e1]at e2;exact (List.cons.inj e2).1
    subst e1;rw[bA]at h2;cases h2;have:=old j q y hl hc h1;omega
   .have hne2:=sO.apart h hp hji';rw[bL _ _ (fun e=>hne2 e.1)]at h2;exact hv.sep j j' q q' y z cS hl sO hc iO h1 h2
theorem Inv.level(h:ov cx K ops rows c)(hv:Inv Λ cx ops rows c ρ0 S0 w0 L m Fs ρ S w a){i:Nat}{r:Row}(hr:rows[i]?=some r)(hn:¬L i)(hb:∀j,bit r.dL j=true->L j)(he:bK r.cls=true):kz rows i=m:=by
 have h1:¬kz rows i<m:=fun h1=>hn ((hv.lv i r hr he).2 h1);rcases xc (rows:=rows) i with h2|⟨e,q,h2,h3,h4,h5⟩
 .omega
 .have:=(hv.lv e q h3 h4).1 (hb e (h.tot e i q r h3 hr h4 he h2));omega
theorem Inv.bf(h:ov cx K ops rows c)(hp0:(c 0).ps=[])(bY:(c 0).id=S0.next)(hv:Inv Λ cx ops rows c ρ0 S0 w0 L m Fs ρ S w a){i:Nat}(hi:i<=rows.length)(hm:kz rows i=m)(pr:ey->Bool)
  (hpr:∀(j:Nat)(q:ey),q.i=j->pr q=true->Laid cx ops rows c j q->L j) :
  Go.Am.R Λ ρ (bf pr (c i).ps S) w/\Kp ρ0 S0 w0 ρ (bf pr (c i).ps S) w/\(Go.Am.bf pr (c i).ps S).next=S.next /\
   (∀(j:Nat)(p:ey),Laid cx ops rows c j p->¬Comm rows j m->pr p=false->(Go.Am.bf pr (c i).ps S).h.get p.id=none/\(L j->gf ρ (Go.Am.bf pr (c i).ps S) w w0.heap.size p)):=by
 obtain⟨xj,BJ⟩:=h.waits hp0 i hi;have unc:∀q,q∈(c i).ps->∃j,Laid cx ops rows c j q/\¬Comm rows j m:=by
  intro q hq;obtain⟨j,hj,hl,hn⟩:=(xj q).1 hq;refine⟨j,hl,?_⟩;rintro⟨e,r,h1,h2,h3,h4⟩;rw[<-hm]at h3;have:=hn e r ((xa h1 h2).2 h3) h1 h2;rw[this]at h4;cases h4
 obtain⟨c1,c2,c3,c4⟩:=commit_ok (ρ0:=ρ0) (S0:=S0) (w0:=w0) hv.lo pr (c i).ps S hv.R hv.kp (fun q hq hp=>by
   obtain⟨j,hl,hn⟩:=unc q hq;obtain⟨_,_,p3,_⟩:=hv.wK j q hl hn;exact⟨p3 (hpr j q hl.i hp hl),by rw[<-bY];exact (hl.top h).1⟩) BJ (fun p q x y hp _ hq _ cS h1 h2=>by
   obtain⟨j,hl,hn⟩:=unc p hp;obtain⟨j',sO,fL⟩:=unc q hq;exact hv.sep j j' p q x y (fun e=>cS (by rw[hl.id,sO.id,e])) hl sO hn fL h1 h2)
 refine⟨c1,c2,c3,fun j p hl hn hpf=>?_⟩;obtain⟨p1,p2,p3,p4⟩:=hv.wK j p hl hn;have cS:∀q,q∈(c i).ps->pr q=true->q.id≠p.id:=by
  intro q hq hpq e;obtain⟨j',sO,fL⟩:=unc q hq;by_cases hjj:j'=j
  .subst hjj;obtain⟨_,_,_,e1,_⟩:=sO.next h
   obtain⟨_,_,_,e2,_⟩:=hl.next h
   rw[e1]at e2;have:=(List.cons.inj e2).1;subst this;rw[hpf]at hpq;cases hpq
  .exact sO.apart h hl hjj e
 refine⟨by rw[commit_get _ _ _ _ cS];exact p1,fun hj=>c4 p (p3 hj) fun q hq hpq=>⟨fun e=>cS q hq hpq e.symm,fun x y h1 h2=>?_⟩⟩;obtain⟨j',sO,fL⟩:=unc q hq;exact hv.sep j j' p q x y (fun e=>cS q hq hpq (by rw[hl.id,sO.id,e])) hl sO hn fL h1 h2
theorem Inv.act(h:ov cx K ops rows c)(yN:(c 0).cd=[])(hp0:(c 0).ps=[])(bY:(c 0).id=S0.next)(hv:Inv Λ cx ops rows c ρ0 S0 w0 L m Fs ρ S w a){i:Nat}{r:Row}(hr:rows[i]?=some r)(hn:¬L i)(hb:∀j,bit r.dL j=true->L j)
  (hL:∀j,L' j↔L j\/j=i) (he:bK r.cls=true) {v:AV} (hF:(c (i+1)).F=bG (c i).F r.o.dst v) {ρ':aO} {w':World} {x:Value}
  (hx:ah ρ' v x) (hR:Go.Am.R Λ ρ' (c (i+1)).S w') (hk:Kp ρ (Go.Am.bf (fun p=>bit r.dL p.i) (c i).ps S) w ρ' (c (i+1)).S w') :
  Inv Λ cx ops rows c ρ0 S0 w0 L' (m+1) (bG Fs r.o.dst v) ρ' (c (i+1)).S w' (a.put r.o.dst x):=by
 have hm:=hv.level h hr hn hb he;have hi:=ll hr;obtain⟨c1,c2,c3,c4⟩:=hv.bf h hp0 bY (Nat.le_of_lt hi) hm (fun p=>bit r.dL p.i) (fun j q e hp _=>by subst e;exact hb _ hp);have hlev:kz rows (i+1)=m+1:=by rw[lD hr,if_pos he,hm]
 have out:∀(j:Nat)(q:ey),Laid cx ops rows c j q->¬Comm rows j (m+1)->¬Comm rows j m/\bit r.dL q.i=false:=by
  intro j q hl hc;refine⟨fun h1=>hc (h1.mono (Nat.le_succ _)),?_⟩;cases hbq:bit r.dL q.i with
  |false=>rfl
  |true=>exact absurd ⟨i,r,hr,he,by omega,by rw[<-hl.i];exact hbq⟩ hc
 refine⟨hv.lo,by rw[<-hlev];exact h.snap yN hi,fun j q hq hj=>?_,fun j q k hq hj sQ=>?_,hR,(hv.F.mono hk.ext).put _ hx,h.put hv.ag hr hn hF hL,c2.trans hk,fun j q hl hc=>?_,fun j j' q q' x y cS hl sO hc iO h1 h2=>?_⟩
 .rw[hL,hv.lv j q hq hj];constructor
  .rintro (h1|rfl)<;>omega
  .intro h1;by_cases h2:kz rows j<m
   .exact .inl h2
   .right;rcases Nat.lt_trichotomy j i with h3|h3|h3
    .have:=(xa (i:=i) hq hj).1 h3;omega
    .exact h3
    .have:=(xa (i:=j) hr he).1 h3;omega
 .rw[hL]at hj⊢;rcases hj with hj|rfl
  .exact .inl (hv.down j q k hq hj sQ)
  .rw[hr]at hq;cases hq;exact .inl (hb k sQ)
 .obtain⟨o1,o2⟩:=out j q hl hc;obtain⟨p1,p2,p3,p4⟩:=hv.wK j q hl o1;obtain⟨q1,q2⟩:=c4 j q hl o1 o2;have uU:j≠i:=fun e=>by
   subst e;obtain⟨⟨r',v',eS,iO,_⟩,_⟩:=hl;rw[hr]at eS;cases eS;rw[iO]at he;cases he
  have cq:q.id<(Go.Am.bf (fun p=>bit r.dL p.i) (c i).ps S).next:=by rw[c3];exact p2
  refine⟨(hk.rA q.id 0 cq q1).2,Nat.lt_of_lt_of_le cq hk.next,fun hj=>?_,fun hj g=>?_⟩
  .rw[hL]at hj;exact (q2 (hj.resolve_right uU)).carry hk
  .rw[(hk.rA q.id g cq q1).1];exact p4 (fun h1=>hj ((hL j).2 (.inl h1))) g
 .obtain⟨o1,o2⟩:=out j q hl hc;obtain⟨o1',o2'⟩:=out j' q' sO iO;obtain⟨_,p2,_⟩:=hv.wK j q hl o1;obtain⟨_,p2',_⟩:=hv.wK j' q' sO o1';obtain⟨q1,_⟩:=c4 j q hl o1 o2;obtain⟨q1',_⟩:=c4 j' q' sO o1' o2';rw[(hk.rA q.id 0 (by rw[c3];exact p2) q1).1]at h1;rw[(hk.rA q'.id 0 (by rw[c3];exact p2') q1').1]at h2;exact hv.sep j j' q q' x y cS hl sO o1 o1' h1 h2
end
end Go.Am
