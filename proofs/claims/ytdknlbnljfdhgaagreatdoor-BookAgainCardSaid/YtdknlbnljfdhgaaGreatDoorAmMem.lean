/-
  The abstract machine against the model: memory. What a step does to one object, the relation bears.
-/
import Derived.Test.YtdknlbnljfdhgaaGreatDoorAmRel
import Derived.Laws.Cells
namespace Go.Am
open Go
variable{Λ:LB}
structure Outer(w w':World):Prop where
 os:w'.os=w.os
 tape:w'.tape=w.tape
 output:w'.output=w.output
theorem Outer.refl(w:World):Outer w w:=⟨rfl,rfl,rfl⟩
theorem Outer.trans{a b c:World}(h:Outer a b)(k:Outer b c):Outer a c:=⟨k.os.trans h.os,k.tape.trans h.tape,k.output.trans h.output⟩
structure But(b:Nat)(w w':World):Prop extends Outer w w' where
 size:w'.heap.size=w.heap.size
 same:∀k,k≠b->w'.heap[k]?=w.heap[k]?
theorem But.refl(b:Nat)(w:World):But b w w:=⟨Outer.refl w,rfl,fun _ _=>rfl⟩
theorem But.trans{n:Nat}{a b c:World}(h:But n a b)(k:But n b c):But n a c:=
 ⟨h.toOuter.trans k.toOuter,k.size.trans h.size,fun i hi=>(k.same i hi).trans (h.same i hi)⟩
structure jJ(o:Obj)(w w':World):Prop extends Outer w w' where
 heap:w'.heap=w.heap.push o
theorem jJ.size{o:Obj}{w w':World}(h:jJ o w w'):w'.heap.size=w.heap.size+1:=by rw[h.heap];simp
theorem jJ.at{o:Obj}{w w':World}(h:jJ o w w'):w'.heap[w.heap.size]?=some o:=by rw[h.heap];simp
theorem jJ.old{o:Obj}{w w':World}(h:jJ o w w')(k:Nat)(hk:k<w.heap.size):w'.heap[k]?=w.heap[k]?:=by
 rw[h.heap,Array.getElem?_push,if_neg (by omega)]
theorem zw.cg{ρ ρ':aO}{w w':World}{cells:List AV}{top:Nat}{frz:Bool}{ty:TypeId}{id g:Nat}(hx:Ext ρ ρ')
  (hk:∀pl,ρ id g=some pl->w'.heap[pl.b]?=w.heap[pl.b]?) (h:zw ρ w cells top frz ty id g):zw ρ' w' cells top frz ty id g:=by
 obtain⟨pl,C,fr,h1,h2,h3,h4,h5,h6,h7,h8⟩:=h;refine⟨pl,C,fr,hx _ _ _ h1,(hk pl h1).trans h2,h3,h4,h5,fun i hi=>?_,h7,h8⟩;obtain⟨x,v,a,b,c,d⟩:=h6 i hi;exact⟨x,v,a,b,c.mono hx _ _,d⟩
theorem uI.cg{ρ ρ':aO}{w w':World}{id:Nat}{o:dr}(hx:Ext ρ ρ')
  (hk:∀g pl,ρ id g=some pl->w'.heap[pl.b]?=w.heap[pl.b]?) (h:uI ρ w id o):uI ρ' w' id o:=by
 cases o with
 |row cells low top frz ty=>
  refine⟨h.1,fun g h1 h2=>(h.2.1 g h1 h2).cg hx (hk g),fun g k p q a1 a2 a3 a4 hp hq hb=>?_⟩;obtain⟨p',_,_,e1,_⟩:=h.2.1 g a1 a2;obtain⟨q',_,_,e2,_⟩:=h.2.1 k a3 a4;have f1:=hx _ _ _ e1;have f2:=hx _ _ _ e2;rw[hp]at f1;rw[hq]at f2;cases f1;cases f2;exact h.2.2 g k _ _ a1 a2 a3 a4 e1 e2 hb
 |map es clock=>
  obtain⟨pl,ES,h1,h2,h3⟩:=h;exact⟨pl,ES,hx _ _ _ h1,(hk 0 pl h1).trans h2,h3.mono hx⟩
 |jk x=>
  obtain⟨pl,o,h1,h2,h3,h4⟩:=h;exact⟨pl,o,hx _ _ _ h1,(hk 0 pl h1).trans h2,h3.mono hx,h4⟩
theorem ui{o:dr}(h:∀a b c d t,o≠.row a b c d t):¬Frz o:=fun⟨_,_,_,_,e⟩=>h _ _ _ _ _ e
theorem mX{c:List AV}{l t:Nat}{ty:TypeId}:¬Frz (.row c l t false ty):=fun⟨_,_,_,_,e⟩=>by cases e
theorem R.change{ρ ρ':aO}{S:AS}{w w':World}{id:Nat}{o':dr}{next':Nat}(h:R Λ ρ S w)(B:Nat->Prop)
  (hext:Ext ρ ρ') (EF:∀i g,i≠id->ρ' i g=ρ i g) (sL:Outer w w')
  (lT:w.heap.size<=w'.heap.size) (pC:∀k,k<w.heap.size->¬B k->w'.heap[k]?=w.heap[k]?)
  (hB:∀k,k<w.heap.size->B k->∃o g pl,S.h.get id=some o/\¬Frz o/\ρ id g=some pl/\pl.b=k)
  (hfz:∀o,S.h.get id=some o->Frz o->Frz o')
  (hB':∀i o g pl,i≠id->S.h.get i=some o->ρ i g=some pl->¬B pl.b)
  (hobj:uI ρ' w' id o') (htop:∀cells low top frz ty,o'=.row cells low top frz ty->∀g,top<g->ρ' id g=none)
  (cq:∀g pl,ρ' id g=some pl->pl.b<w'.heap.size/\((∃o g',S.h.get id=some o/\∃dK,ρ id g'=some dK/\dK.b=pl.b)\/w.heap.size<=pl.b))
  (hnext:S.next<=next') (bY:id<next') (iY:∀g i,next'<=i->ρ' i g=none)
  (hpres:(∃o,S.h.get id=some o)\/S.next<=id) :
  R Λ ρ' ⟨S.h.set id o',next'⟩ w'/\Kp ρ S w ρ' ⟨S.h.set id o',next'⟩ w':=by
 have hap:∀i o g g' pl dK,i≠id->S.h.get i=some o->ρ i g=some pl->ρ' id g'=some dK->pl.b≠dK.b\/(Frz o/\Frz o'):=by
  intro i o g g' pl dK cS ho hp j6;rcases (cq g' dK j6).2 with⟨o2,g2,qL,pl2,hp2,e2⟩|Ag
  .rcases h.apart i id o o2 g g2 pl pl2 cS ho qL hp hp2 with h1|h1
   .exact .inl (by rw[<-e2];exact h1)
   .exact .inr ⟨h1.1,hfz o2 qL h1.2⟩
  .have:=h.lt i o g pl ho hp;exact .inl (by omega)
 have iA:∀i,i≠id->(S.h.set id o').get i=S.h.get i:=fun i hi=>ae _ _ hi;have hmine:∀b,Mine ρ' ⟨S.h.set id o',next'⟩ b->Mine ρ S b\/w.heap.size<=b:=by
  rintro b ⟨i,o,g,pl,ho,hp,rfl⟩;by_cases hi:i=id
  .subst hi;rcases (cq g pl hp).2 with⟨o2,g2,qL,pl2,hp2,e2⟩|Ag
   .exact .inl ⟨i,o2,g2,pl2,qL,hp2,e2⟩
   .exact .inr Ag
  .have sd:S.h.get i=some o:=by rw[<-iA i hi];exact ho
   rw[EF i g hi]at hp;exact .inl ⟨i,o,g,pl,sd,hp,rfl⟩
 have hwrt:∀b,Wrt ρ' ⟨S.h.set id o',next'⟩ b->Wrt ρ S b\/w.heap.size<=b:=by
  rintro b ⟨i,o,g,pl,ho,hnf,hp,rfl⟩;by_cases hi:i=id
  .subst hi;rcases (cq g pl hp).2 with⟨o2,g2,qL,pl2,hp2,e2⟩|Ag
   .refine .inl ⟨i,o2,g2,pl2,qL,fun hf=>hnf ?_,hp2,e2⟩;have hg:(S.h.set i o').get i=some o:=ho;rw[aa]at hg;cases hg;exact hfz o2 qL hf
   .exact .inr Ag
  .have sd:S.h.get i=some o:=by rw[<-iA i hi];exact ho
   rw[EF i g hi]at hp;exact .inl ⟨i,o,g,pl,sd,hnf,hp,rfl⟩
 refine⟨⟨?_,?_,fun i g=>iY g i,?_,?_,?_,Nat.le_trans h.start lT,?_⟩,⟨hext,sL.os,sL.tape,sL.output,lT,?_,hmine,hwrt,hnext,?_⟩⟩
 .intro i o ho;by_cases hi:i=id
  .subst hi;rw[aa]at ho;cases ho;exact hobj
  .rw[iA i hi]at ho;refine (h.iM i o ho).cg hext fun g pl hp=>pC _ (h.lt i o g pl ho hp) (hB' i o g pl hi ho hp)
 .intro i o ho;by_cases hi:i=id
  .subst hi;exact bY
  .rw[iA i hi]at ho;exact Nat.lt_of_lt_of_le (h.sY i o ho) hnext
 .intro i cells low top frz ty ho g hg;by_cases hi:i=id
  .subst hi;rw[aa]at ho;cases ho;exact htop _ _ _ _ _ rfl g hg
  .rw[iA i hi]at ho;rw[EF i g hi];exact h.qF i cells low top frz ty ho g hg
 .intro i o g pl ho hp;by_cases hi:i=id
  .subst hi;exact (cq g pl hp).1
  .rw[iA i hi]at ho;rw[EF i g hi]at hp;exact Nat.lt_of_lt_of_le (h.lt i o g pl ho hp) lT
 .intro i j o oj g gj pl plj pD ho CO hp Ac;by_cases hi:i=id
  .subst hi;have hj:j≠i:=fun e=>pD e.symm;rw[iA j hj]at CO;rw[EF j gj hj]at Ac;rw[aa]at ho;cases ho;rcases hap j oj gj g plj pl hj CO Ac hp with h1|h1
   .exact .inl fun e=>h1 e.symm
   .exact .inr ⟨h1.2,h1.1⟩
  .rw[iA i hi]at ho;rw[EF i g hi]at hp;by_cases hj:j=id
   .subst hj;rw[aa]at CO;cases CO;exact hap i o g gj pl plj hi ho hp Ac
   .rw[iA j hj]at CO;rw[EF j gj hj]at Ac;exact h.apart i j o oj g gj pl plj pD ho CO hp Ac
 .intro b hb;obtain⟨d1,d2,d3⟩:=h.base b hb;have d1':=Nat.lt_of_lt_of_le d1 h.start;exact⟨d1,(pC b d1' fun hBb=>d3 (let ⟨o,g,pl,x1,x2,x3,x4⟩:=hB b d1' hBb;⟨id,o,g,pl,x1,x2,x3,x4⟩)).trans d2,fun hm=>(hwrt b hm).elim d3 fun Ag=>absurd d1' (Nat.not_lt.2 Ag)⟩
 .intro b hb hm;exact pC b hb fun hBb=>hm (let ⟨o,g,pl,x1,x2,x3,x4⟩:=hB b hb hBb;⟨id,o,g,pl,x1,x2,x3,x4⟩)
 .intro i g hi hn;have cS:i≠id:=by
   rintro rfl;rcases hpres with⟨o,ho⟩|Ag
   .rw[ho]at hn;cases hn
   .omega
  exact⟨EF i g cS,by rw[iA i cS];exact hn⟩
def put(ρ:aO)(id g:Nat)(pl:Pl):aO:=fun i j=>if i=id/\j=g then some pl else ρ i j
theorem bA(ρ:aO)(id g:Nat)(pl:Pl):put ρ id g pl id g=some pl:=by simp[put]
theorem bL(ρ:aO){id g i j:Nat}(pl:Pl)(h:¬(i=id/\j=g)):put ρ id g pl i j=ρ i j:=by simp only[put,if_neg h]
theorem fJ{ρ:aO}{id g:Nat}(pl:Pl)(h:ρ id g=none):Ext ρ (put ρ id g pl):=by
 intro i j p hp;rw[bL _ _ (by rintro⟨rfl,rfl⟩;rw[h]at hp;cases hp)];exact hp
theorem R.newRowF{ρ:aO}{S:AS}{w w':World}{cells:List AV}{C:Array Value}{e:TypeId}{fr:Nat×Nat}{frz:Bool}(h:R Λ ρ S w)(hg:jJ (.cells C e fr) w w')(iY:frz=false->∀i,i<=C.size->B1 fr i=false)
  (hl:au ρ cells (C.toList.take cells.length)) (hC:cells.length<=C.size) (h1:dX C) :
  ∃ρ' pl,ρ' S.next 0=some pl/\pl.b=w.heap.size/\pl.base=0/\pl.n=cells.length/\pl.N=C.size /\
   R Λ ρ' ⟨S.h.set S.next (.row cells 0 0 frz e),S.next+1⟩ w'/\Kp ρ S w ρ' ⟨S.h.set S.next (.row cells 0 0 frz e),S.next+1⟩ w':=by
 have hx:=fJ (ρ:=ρ) (id:=S.next) (g:=0) ⟨w.heap.size,0,cells.length,C.size,by simpa using hC⟩ (h.fresh _ _ (Nat.le_refl _));refine⟨put ρ S.next 0 ⟨w.heap.size,0,cells.length,C.size,by simpa using hC⟩,_,bA _ _ _ _,rfl,rfl,rfl,rfl,?_⟩;refine h.change (fun _=>False) hx ?_ hg.toOuter ?_ ?_ ?_ ?_ ?_ ?_ ?_ ?_ ?_ ?_ ?_ ?_
 .exact fun i g hi=>bL _ _ (fun e=>hi e.1)
 .rw[hg.size];omega
 .exact fun k hk _=>hg.old k hk
 .exact fun _ _ hf=>hf.elim
 .exact fun o ho _=>absurd (h.sY _ o ho) (Nat.lt_irrefl _)
 .exact fun _ _ _ _ _ _ _ hf=>hf
 .refine⟨Nat.le_refl _,fun g _ hg0=>?_,fun g k p q _ a2 _ a4 hp1 hq1 _=>by
   obtain rfl:g=0:=by omega
   obtain rfl:k=0:=by omega
   rw[hp1]at hq1;cases hq1;rfl⟩
  obtain rfl:g=0:=by omega
  refine⟨_,C,fr,bA _ _ _ _,hg.at,rfl,by simpa using hC,Nat.le_refl _,fun i hi=>?_,fun _=>rfl,iY,fun _=>rfl,fun _=>h1⟩;dsimp only at hi⊢;obtain⟨x,hxx⟩:∃x,cells[i]?=some x:=⟨cells[i],by simp[List.getElem?_eq_getElem hi]⟩
  obtain⟨v,hv,hr⟩:=hl.get hxx;rw[List.getElem?_take,if_pos hi]at hv;exact⟨x,v,hxx,by simpa using hv,hr.mono hx _ _,h1 i v (by simpa using hv)⟩
 .intro cells' low top frz ty he g hgt;cases he;rw[bL _ _ (by omega)];exact h.fresh _ _ (Nat.le_refl _)
 .intro g pl hp;by_cases hg0:g=0
  .subst hg0;rw[bA]at hp;cases hp;exact⟨by rw[hg.size];simp,.inr (Nat.le_refl _)⟩
  .rw[bL _ _ (by omega),h.fresh _ _ (Nat.le_refl _)]at hp;cases hp
 .omega
 .omega
 .intro g i hi;rw[bL _ _ (by omega)];exact h.fresh _ _ (by omega)
 .exact .inr (Nat.le_refl _)
theorem R.newRow{ρ:aO}{S:AS}{w w':World}{cells:List AV}{C:Array Value}{e:TypeId}(h:R Λ ρ S w)(hg:jJ (.cells C e) w w')
  (hl:au ρ cells (C.toList.take cells.length)) (hC:cells.length<=C.size) (h1:dX C) :
  ∃ρ' pl,ρ' S.next 0=some pl/\pl.b=w.heap.size/\pl.base=0/\pl.n=cells.length/\pl.N=C.size /\
   R Λ ρ' ⟨S.h.set S.next (.row cells 0 0 false e),S.next+1⟩ w'/\Kp ρ S w ρ' ⟨S.h.set S.next (.row cells 0 0 false e),S.next+1⟩ w':=
 h.newRowF hg (fun _ i _=>by simp[B1]) hl hC h1
theorem R.newMap{ρ:aO}{S:AS}{w w':World}{es:List dg}{clock:Nat}{ES:Array MapEntry}(h:R Λ ρ S w)(hg:jJ (.map ES clock) w w')(hl:yj ρ es ES.toList):
  ∃ρ' pl,ρ' S.next 0=some pl/\pl.b=w.heap.size/\R Λ ρ' ⟨S.h.set S.next (.map es clock),S.next+1⟩ w'/\Kp ρ S w ρ' ⟨S.h.set S.next (.map es clock),S.next+1⟩ w':=by
 have hx:=fJ (ρ:=ρ) (id:=S.next) (g:=0) ⟨w.heap.size,0,0,0,Nat.le_refl _⟩ (h.fresh _ _ (Nat.le_refl _));refine⟨put ρ S.next 0 ⟨w.heap.size,0,0,0,Nat.le_refl _⟩,_,bA _ _ _ _,rfl,?_⟩;refine h.change (fun _=>False) hx ?_ hg.toOuter ?_ ?_ ?_ ?_ ?_ ?_ ?_ ?_ ?_ ?_ ?_ ?_
 .exact fun i g hi=>bL _ _ (fun e=>hi e.1)
 .rw[hg.size];omega
 .exact fun k hk _=>hg.old k hk
 .exact fun _ _ hf=>hf.elim
 .exact fun o ho _=>absurd (h.sY _ o ho) (Nat.lt_irrefl _)
 .exact fun _ _ _ _ _ _ _ hf=>hf
 .exact⟨_,ES,bA _ _ _ _,hg.at,hl.mono hx⟩
 .intro cells' low top frz ty he;cases he
 .intro g pl hp;by_cases hg0:g=0
  .subst hg0;rw[bA]at hp;cases hp;exact⟨by rw[hg.size];simp,.inr (Nat.le_refl _)⟩
  .rw[bL _ _ (by omega),h.fresh _ _ (Nat.le_refl _)]at hp;cases hp
 .omega
 .omega
 .intro g i hi;rw[bL _ _ (by omega)];exact h.fresh _ _ (by omega)
 .exact .inr (Nat.le_refl _)
theorem R.A6{ρ:aO}{S:AS}{w w':World}{id:Nat}{o:dr}{pl:Pl}{es:List dg}{clock:Nat}{ES:Array MapEntry}(h:R Λ ρ S w)
  (ho:S.h.get id=some o) (hnr:∀a b c d t,o≠.row a b c d t) (hp:ρ id 0=some pl) (hb:But pl.b w w') (hw:w'.heap[pl.b]?=some (.map ES clock)) (hl:yj ρ es ES.toList) :
  R Λ ρ ⟨S.h.set id (.map es clock),S.next⟩ w'/\Kp ρ S w ρ ⟨S.h.set id (.map es clock),S.next⟩ w':=by
 refine h.change (fun k=>k=pl.b) (Ext.refl _) (fun _ _ _=>rfl) hb.toOuter (Nat.le_of_eq hb.size.symm) (fun k _ hk=>hb.same k hk) ?_ ?_ ?_ ?_ ?_ ?_ (Nat.le_refl _) (h.sY id o ho) (fun g i hi=>h.fresh i g hi) (.inl ⟨o,ho⟩)
 .rintro k _ rfl;exact⟨o,0,pl,ho,ui hnr,hp,rfl⟩
 .intro o2 qL hf;rw[ho]at qL;cases qL;exact (ui hnr hf).elim
 .intro i oi g pli hi hoi hpi he;exact (h.apart i id oi o g 0 pli pl hi hoi ho hpi hp).elim (fun h1=>h1 he) (fun h1=>ui hnr h1.2)
 .exact⟨pl,ES,hp,hw,hl⟩
 .intro a b c d t he;cases he
 .intro g dK j6;exact⟨by rw[hb.size];exact h.lt id o g dK ho j6,.inl ⟨o,g,ho,dK,j6,rfl⟩⟩
theorem R.newOth{ρ:aO}{S:AS}{w w':World}{x:AOth}{o:Obj}(h:R Λ ρ S w)(hg:jJ o w w')(hl:jI ρ x o):
  ∃ρ' pl,ρ' S.next 0=some pl/\pl.b=w.heap.size/\pl.base=0/\R Λ ρ' ⟨S.h.set S.next (.jk x),S.next+1⟩ w'/\Kp ρ S w ρ' ⟨S.h.set S.next (.jk x),S.next+1⟩ w':=by
 have hx:=fJ (ρ:=ρ) (id:=S.next) (g:=0) ⟨w.heap.size,0,0,0,Nat.le_refl _⟩ (h.fresh _ _ (Nat.le_refl _));refine⟨put ρ S.next 0 ⟨w.heap.size,0,0,0,Nat.le_refl _⟩,_,bA _ _ _ _,rfl,rfl,?_⟩;refine h.change (fun _=>False) hx ?_ hg.toOuter ?_ ?_ ?_ ?_ ?_ ?_ ?_ ?_ ?_ ?_ ?_ ?_
 .exact fun i g hi=>bL _ _ (fun e=>hi e.1)
 .rw[hg.size];omega
 .exact fun k hk _=>hg.old k hk
 .exact fun _ _ hf=>hf.elim
 .exact fun o ho _=>absurd (h.sY _ o ho) (Nat.lt_irrefl _)
 .exact fun _ _ _ _ _ _ _ hf=>hf
 .exact⟨_,o,bA _ _ _ _,hg.at,hl.mono hx,rfl⟩
 .intro cells' low top frz ty he;cases he
 .intro g pl hp;by_cases hg0:g=0
  .subst hg0;rw[bA]at hp;cases hp;exact⟨by rw[hg.size];simp,.inr (Nat.le_refl _)⟩
  .rw[bL _ _ (by omega),h.fresh _ _ (Nat.le_refl _)]at hp;cases hp
 .omega
 .omega
 .intro g i hi;rw[bL _ _ (by omega)];exact h.fresh _ _ (by omega)
 .exact .inr (Nat.le_refl _)
theorem R.setOth{ρ:aO}{S:AS}{w w':World}{id:Nat}{o:dr}{pl:Pl}{x:AOth}{O:Obj}(h:R Λ ρ S w)
  (ho:S.h.get id=some o) (hnr:∀a b c d t,o≠.row a b c d t) (hp:ρ id 0=some pl) (hb:But pl.b w w') (hw:w'.heap[pl.b]?=some O) (hl:jI ρ x O) (hb0:pl.base=0) :
  R Λ ρ ⟨S.h.set id (.jk x),S.next⟩ w'/\Kp ρ S w ρ ⟨S.h.set id (.jk x),S.next⟩ w':=by
 refine h.change (fun k=>k=pl.b) (Ext.refl _) (fun _ _ _=>rfl) hb.toOuter (Nat.le_of_eq hb.size.symm) (fun k _ hk=>hb.same k hk) ?_ ?_ ?_ ?_ ?_ ?_ (Nat.le_refl _) (h.sY id o ho) (fun g i hi=>h.fresh i g hi) (.inl ⟨o,ho⟩)
 .rintro k _ rfl;exact⟨o,0,pl,ho,ui hnr,hp,rfl⟩
 .intro o2 qL hf;rw[ho]at qL;cases qL;exact (ui hnr hf).elim
 .intro i oi g pli hi hoi hpi he;exact (h.apart i id oi o g 0 pli pl hi hoi ho hpi hp).elim (fun h1=>h1 he) (fun h1=>ui hnr h1.2)
 .exact⟨pl,O,hp,hw,hl,hb0⟩
 .intro a b c d t he;cases he
 .intro g dK j6;exact⟨by rw[hb.size];exact h.lt id o g dK ho j6,.inl ⟨o,g,ho,dK,j6,rfl⟩⟩
theorem R.write{ρ:aO}{S:AS}{w w':World}{id low top:Nat}{cells cells':List AV}{pl:Pl}{C C':Array Value}{e:TypeId}{fr:Nat×Nat}(h:R Λ ρ S w)
  (ho:S.h.get id=some (.row cells low top false e)) (hp:ρ id top=some pl) (hw:w.heap[pl.b]?=some (.cells C e fr))
  (hb:But pl.b w w') (hw':w'.heap[pl.b]?=some (.cells C' e fr)) (hC:C'.size=C.size) (hc:cells'.length=cells.length)
  (sM:dX C->dX C')
  (hpt:∀i,i<cells.length->∃x v,cells'[i]?=some x/\C'[pl.base+i]?=some v/\ah ρ x v/\v.oneCell'=true) :
  R Λ ρ ⟨S.h.set id (.row cells' top top false e),S.next⟩ w'/\Kp ρ S w ρ ⟨S.h.set id (.row cells' top top false e),S.next⟩ w':=by
 obtain⟨cq,hgs,_⟩:=h.iM id _ ho;obtain⟨dK,D,fr',g1,g2,g3,g4,g5,g6,g7,g8,g9⟩:=hgs top cq (Nat.le_refl _);rw[hp]at g1;cases g1;rw[hw]at g2;cases g2;refine h.change (fun k=>k=pl.b) (Ext.refl _) (fun _ _ _=>rfl) hb.toOuter (Nat.le_of_eq hb.size.symm) (fun k _ hk=>hb.same k hk) ?_ ?_ ?_ ?_ ?_ ?_ (Nat.le_refl _) (h.sY id _ ho) (fun g i hi=>h.fresh i g hi) (.inl ⟨_,ho⟩)
 .rintro k _ rfl;exact⟨_,top,pl,ho,mX,hp,rfl⟩
 .intro o2 qL hf;rw[ho]at qL;cases qL;exact (mX hf).elim
 .intro i oi g pli hi hoi hpi he;exact (h.apart i id oi _ g top pli pl hi hoi ho hpi hp).elim (fun h1=>h1 he) (fun h1=>mX h1.2)
 .refine⟨Nat.le_refl _,fun g h1 h2=>?_,fun g k p q a1 a2 a3 a4 hp1 hq1 _=>by
   obtain rfl:g=top:=by omega
   obtain rfl:k=g:=by omega
   rw[hp1]at hq1;cases hq1;rfl⟩
  obtain rfl:g=top:=by omega
  refine⟨pl,C',fr,hp,hw',hC.trans g3,g4,by rw[g7 rfl,hc];exact Nat.le_refl _,fun i hi=>hpt i (by rw[g7 rfl]at hi;exact hi),fun _=>by rw[g7 rfl,hc],g8,g9.1,fun h=>sM (g9.2 h)⟩
 .intro a b c d t he g hg;cases he;exact h.qF id _ _ _ _ _ ho g hg
 .intro g dK j6;exact⟨by rw[hb.size];exact h.lt id _ g dK ho j6,.inl ⟨_,g,ho,dK,j6,rfl⟩⟩
theorem R.gen{ρ:aO}{S:AS}{w w':World}{id low top low':Nat}{cells cells':List AV}{frz:Bool}{ty:TypeId}{pl:Pl}(h:R Λ ρ S w)
  (ho:S.h.get id=some (.row cells low top frz ty)) (hlow':low<=low') (hlt':low'<=top+1)
  (sL:Outer w w') (lT:w.heap.size<=w'.heap.size)
  (pC:∀k,k<w.heap.size->k≠pl.b->w'.heap[k]?=w.heap[k]?)
  (lV:(∃g dK,ρ id g=some dK/\dK.b=pl.b)\/w.heap.size<=pl.b) (hpb:pl.b<w'.heap.size)
  (hfalse:frz=false)
  (jB:zw (put ρ id (top+1) pl) w' cells' (top+1) false ty id (top+1))
  (hold:∀g,low'<=g->g<=top->zw (put ρ id (top+1) pl) w' cells' (top+1) false ty id g)
  (hsb:∀g p,low'<=g->g<=top->ρ id g=some p->p.b=pl.b->p.base=pl.base) :
  R Λ (put ρ id (top+1) pl) ⟨S.h.set id (.row cells' low' (top+1) false ty),S.next⟩ w' /\
   Kp ρ S w (put ρ id (top+1) pl) ⟨S.h.set id (.row cells' low' (top+1) false ty),S.next⟩ w':=by
 subst hfalse;have hx:=fJ (ρ:=ρ) (id:=id) (g:=top+1) pl (h.qF id _ _ _ _ _ ho _ (by omega));refine h.change (fun k=>k=pl.b/\k<w.heap.size) hx (fun i g hi=>bL _ _ (fun e=>hi e.1)) sL lT (fun k hk BO=>pC k hk (fun e=>BO ⟨e,hk⟩)) ?_ ?_ ?_ ?_ ?_ ?_ (Nat.le_refl _) (h.sY id _ ho) ?_ (.inl ⟨_,ho⟩)
 .rintro k hk ⟨rfl,_⟩;rcases lV with⟨g,dK,j6,e'⟩|Ag
  .exact⟨_,g,dK,ho,mX,j6,e'⟩
  .omega
 .intro o2 qL hf;rw[ho]at qL;cases qL;exact (mX hf).elim
 .rintro i oi g pli hi hoi hpi ⟨he,cq⟩;rcases lV with⟨g',dK,j6,e'⟩|Ag
  .exact (h.apart i id oi _ g g' pli dK hi hoi ho hpi j6).elim (fun h1=>h1 (by rw[e'];exact he)) (fun h1=>mX h1.2)
  .omega
 .refine⟨hlt',fun g h1 h2=>?_,fun g k p q a1 a2 a3 a4 hp hq hb=>?_⟩
  .by_cases hg:g=top+1
   .subst hg;exact jB
   .exact hold g h1 (by omega)
  .by_cases hg:g=top+1
   .subst hg;rw[bA]at hp;cases hp;by_cases hk:k=top+1
    .subst hk;rw[bA]at hq;cases hq;rfl
    .rw[bL _ _ (by omega)]at hq;exact (hsb k q a3 (by omega) hq hb.symm).symm
   .rw[bL _ _ (by omega)]at hp;by_cases hk:k=top+1
    .subst hk;rw[bA]at hq;cases hq;exact hsb g p a1 (by omega) hp hb
    .rw[bL _ _ (by omega)]at hq;exact (h.iM id _ ho).2.2 g k p q (Nat.le_trans hlow' a1) (by omega) (Nat.le_trans hlow' a3) (by omega) hp hq hb
 .intro a b c d t he g hg;cases he;rw[bL _ _ (by omega)];exact h.qF id _ _ _ _ _ ho g (by omega)
 .intro g dK j6;by_cases hg:g=top+1
  .subst hg;rw[bA]at j6;cases j6;refine⟨hpb,?_⟩;rcases lV with⟨g,dK,j6,e'⟩|Ag
   .exact .inl ⟨_,g,ho,dK,j6,e'⟩
   .exact .inr Ag
  .rw[bL _ _ (by omega)]at j6;exact⟨Nat.lt_of_lt_of_le (h.lt id _ g dK ho j6) lT,.inl ⟨_,g,ho,dK,j6,rfl⟩⟩
 .intro g i hi;rw[bL _ _ (by rintro⟨rfl,_⟩;exact absurd (h.sY _ _ ho) (Nat.not_lt.2 hi))];exact h.fresh i g hi
end Go.Am
