/-
  The abstract machine against the model: memory. What a step does to one object, the relation bears.
-/
import Derived.Test.YtdknlbnljfdhgaaGreatDoorAmRel
import Derived.Laws.Cells
open Nat renaming le_refl->zza,lt_of_lt_of_le->zzb,lt_irrefl->zzc
namespace Go.Am
open Go
variable{Λ:LB}
structure Outer(w w':World):Prop where
 os:w'.os=w.os
 tape:w'.tape=w.tape
 output:w'.output=w.output
theorem Outer.refl(w:World):Outer w w:=⟨rfl,rfl,rfl⟩
theorem Outer.trans{a b c:World}(h:Outer a b)(k:Outer b c):Outer a c:=⟨k.os.trans h.os,k.tape.trans h.tape,k.output.trans h.output⟩
structure N7(b:Nat)(w w':World):Prop extends Outer w w' where
 size:w'.heap.size=w.heap.size
 same:∀k,k≠b->w'.heap[k]?=w.heap[k]?
theorem N7.refl(b:Nat)(w:World):N7 b w w:=⟨Outer.refl w,rfl,fun _ _=>rfl⟩
theorem N7.trans{n:Nat}{a b c:World}(h:N7 n a b)(k:N7 n b c):N7 n a c:=
 ⟨h.toOuter.trans k.toOuter,k.size.trans h.size,fun i hi=>(k.same i hi).trans (h.same i hi)⟩
structure kP(o:Obj)(w w':World):Prop extends Outer w w' where
 heap:w'.heap=w.heap.push o
theorem kP.size{o:Obj}{w w':World}(h:kP o w w'):w'.heap.size=w.heap.size+1:=by rw[h.heap];simp
theorem kP.at{o:Obj}{w w':World}(h:kP o w w'):w'.heap[w.heap.size]?=some o:=by rw[h.heap];simp
theorem kP.old{o:Obj}{w w':World}(h:kP o w w')(k:Nat)(hk:k<w.heap.size):w'.heap[k]?=w.heap[k]?:=by
 rw[h.heap,Array.getElem?_push,if_neg (by omega)]
theorem Cf.ca{ρ ρ':aY}{w w':World}{cells:List AV}{top:Nat}{frz:Bool}{ty:TypeId}{id g:Nat}(hx:Ext ρ ρ')
  (hk:∀pl,ρ id g=some pl->w'.heap[pl.b]?=w.heap[pl.b]?) (h:Cf ρ w cells top frz ty id g):Cf ρ' w' cells top frz ty id g:=by
 obtain⟨pl,C,fr,h1,h2,h3,h4,h5,h6,h7,h8⟩:=h;refine⟨pl,C,fr,hx _ _ _ h1,(hk pl h1).trans h2,h3,h4,h5,fun i hi=>?_,h7,h8⟩;obtain⟨x,v,a,b,c,d⟩:=h6 i hi;exact⟨x,v,a,b,c.mono hx _ _,d⟩
theorem xe.ca{ρ ρ':aY}{w w':World}{id:Nat}{o:dR}(hx:Ext ρ ρ')
  (hk:∀g pl,ρ id g=some pl->w'.heap[pl.b]?=w.heap[pl.b]?) (h:xe ρ w id o):xe ρ' w' id o:=by
 cases o with
 |row cells low top frz ty=>
  refine⟨h.1,fun g h1 h2=>(h.2.1 g h1 h2).ca hx (hk g),fun g k p q a1 a2 a3 a4 hp hq hb=>?_⟩;obtain⟨p',_,_,e1,_⟩:=h.2.1 g a1 a2;obtain⟨q',_,_,e2,_⟩:=h.2.1 k a3 a4;have f1:=hx _ _ _ e1;have f2:=hx _ _ _ e2;rw[hp]at f1;rw[hq]at f2;cases f1;cases f2;exact h.2.2 g k _ _ a1 a2 a3 a4 e1 e2 hb
 |map es clock=>
  obtain⟨pl,ES,h1,h2,h3⟩:=h;exact⟨pl,ES,hx _ _ _ h1,(hk 0 pl h1).trans h2,h3.mono hx⟩
 |j6 x=>
  obtain⟨pl,o,h1,h2,h3,h4⟩:=h;exact⟨pl,o,hx _ _ _ h1,(hk 0 pl h1).trans h2,h3.mono hx,h4⟩
theorem wI{o:dR}(h:∀a b c d t,o≠.row a b c d t):¬Rf o:=fun⟨_,_,_,_,e⟩=>h _ _ _ _ _ e
theorem oL{c:List AV}{l t:Nat}{ty:TypeId}:¬Rf (.row c l t false ty):=fun⟨_,_,_,_,e⟩=>by cases e
theorem R.change{ρ ρ':aY}{S:AS}{w w':World}{id:Nat}{o':dR}{next':Nat}(h:R Λ ρ S w)(B:Nat->Prop)
  (UZ:Ext ρ ρ') (Hr:∀i g,i≠id->ρ' i g=ρ i g) (rn:Outer w w')
  (nf:w.heap.size<=w'.heap.size) (mP:∀k,k<w.heap.size->¬B k->w'.heap[k]?=w.heap[k]?)
  (hB:∀k,k<w.heap.size->B k->∃o g pl,S.h.get id=some o/\¬Rf o/\ρ id g=some pl/\pl.b=k)
  (UY:∀o,S.h.get id=some o->Rf o->Rf o')
  (hB':∀i o g pl,i≠id->S.h.get i=some o->ρ i g=some pl->¬B pl.b)
  (hobj:xe ρ' w' id o') (KO:∀cells low top frz ty,o'=.row cells low top frz ty->∀g,top<g->ρ' id g=none)
  (cQ:∀g pl,ρ' id g=some pl->pl.b<w'.heap.size/\((∃o g',S.h.get id=some o/\∃eA,ρ id g'=some eA/\eA.b=pl.b)\/w.heap.size<=pl.b))
  (Ht:S.nx<=next') (cD:id<next') (jJ:∀g i,next'<=i->ρ' i g=none)
  (jil:(∃o,S.h.get id=some o)\/S.nx<=id) :
  R Λ ρ' ⟨S.h.set id o',next'⟩ w'/\Kp ρ S w ρ' ⟨S.h.set id o',next'⟩ w':=by
 have hap:∀i o g g' pl eA,i≠id->S.h.get i=some o->ρ i g=some pl->ρ' id g'=some eA->pl.b≠eA.b\/(Rf o/\Rf o'):=by
  intro i o g g' pl eA ct ho hp lB;rcases (cQ g' eA lB).2 with⟨o2,g2,sQ,Pd,M3,e2⟩|CU
  .rcases h.apart i id o o2 g g2 pl Pd ct ho sQ hp M3 with h1|h1
   .exact .inl (by rw[<-e2];exact h1)
   .exact .inr ⟨h1.1,UY o2 sQ h1.2⟩
  .have:=h.lt i o g pl ho hp;exact .inl (by omega)
 have jm:∀i,i≠id->(S.h.set id o').get i=S.h.get i:=fun i hi=>ae _ _ hi;have jiA:∀b,Rc ρ' ⟨S.h.set id o',next'⟩ b->Rc ρ S b\/w.heap.size<=b:=by
  rintro b ⟨i,o,g,pl,ho,hp,rfl⟩;by_cases hi:i=id
  .subst hi;rcases (cQ g pl hp).2 with⟨o2,g2,sQ,Pd,M3,e2⟩|CU
   .exact .inl ⟨i,o2,g2,Pd,sQ,M3,e2⟩
   .exact .inr CU
  .have uw:S.h.get i=some o:=by rw[<-jm i hi];exact ho
   rw[Hr i g hi]at hp;exact .inl ⟨i,o,g,pl,uw,hp,rfl⟩
 have jhX:∀b,Wrt ρ' ⟨S.h.set id o',next'⟩ b->Wrt ρ S b\/w.heap.size<=b:=by
  rintro b ⟨i,o,g,pl,ho,Em,hp,rfl⟩;by_cases hi:i=id
  .subst hi;rcases (cQ g pl hp).2 with⟨o2,g2,sQ,Pd,M3,e2⟩|CU
   .refine .inl ⟨i,o2,g2,Pd,sQ,fun hf=>Em ?_,M3,e2⟩;have hg:(S.h.set i o').get i=some o:=ho;rw[aa]at hg;cases hg;exact UY o2 sQ hf
   .exact .inr CU
  .have uw:S.h.get i=some o:=by rw[<-jm i hi];exact ho
   rw[Hr i g hi]at hp;exact .inl ⟨i,o,g,pl,uw,Em,hp,rfl⟩
 refine⟨⟨?_,?_,fun i g=>jJ g i,?_,?_,?_,Nat.le_trans h.start nf,?_⟩,⟨UZ,rn.os,rn.tape,rn.output,nf,?_,jiA,jhX,Ht,?_⟩⟩
 .intro i o ho;by_cases hi:i=id
  .subst hi;rw[aa]at ho;cases ho;exact hobj
  .rw[jm i hi]at ho;refine (h.jE i o ho).ca UZ fun g pl hp=>mP _ (h.lt i o g pl ho hp) (hB' i o g pl hi ho hp)
 .intro i o ho;by_cases hi:i=id
  .subst hi;exact cD
  .rw[jm i hi]at ho;exact zzb (h.vm i o ho) Ht
 .intro i cells low top frz ty ho g hg;by_cases hi:i=id
  .subst hi;rw[aa]at ho;cases ho;exact KO _ _ _ _ _ rfl g hg
  .rw[jm i hi]at ho;rw[Hr i g hi];exact h.sJ i cells low top frz ty ho g hg
 .intro i o g pl ho hp;by_cases hi:i=id
  .subst hi;exact (cQ g pl hp).1
  .rw[jm i hi]at ho;rw[Hr i g hi]at hp;exact zzb (h.lt i o g pl ho hp) nf
 .intro i j o oj g gj pl Rj sj ho Fz hp yC;by_cases hi:i=id
  .subst hi;have hj:j≠i:=fun e=>sj e.symm;rw[jm j hj]at Fz;rw[Hr j gj hj]at yC;rw[aa]at ho;cases ho;rcases hap j oj gj g Rj pl hj Fz yC hp with h1|h1
   .exact .inl fun e=>h1 e.symm
   .exact .inr ⟨h1.2,h1.1⟩
  .rw[jm i hi]at ho;rw[Hr i g hi]at hp;by_cases hj:j=id
   .subst hj;rw[aa]at Fz;cases Fz;exact hap i o g gj pl Rj hi ho hp yC
   .rw[jm j hj]at Fz;rw[Hr j gj hj]at yC;exact h.apart i j o oj g gj pl Rj sj ho Fz hp yC
 .intro b hb;obtain⟨d1,d2,d3⟩:=h.base b hb;have d1':=zzb d1 h.start;exact⟨d1,(mP b d1' fun hBb=>d3 (let ⟨o,g,pl,x1,x2,x3,x4⟩:=hB b d1' hBb;⟨id,o,g,pl,x1,x2,x3,x4⟩)).trans d2,fun hm=>(jhX b hm).elim d3 fun CU=>absurd d1' (Nat.not_lt.2 CU)⟩
 .intro b hb hm;exact mP b hb fun hBb=>hm (let ⟨o,g,pl,x1,x2,x3,x4⟩:=hB b hb hBb;⟨id,o,g,pl,x1,x2,x3,x4⟩)
 .intro i g hi hn;have ct:i≠id:=by
   rintro rfl;rcases jil with⟨o,ho⟩|CU
   .rw[ho]at hn;cases hn
   .omega
  exact⟨Hr i g ct,by rw[jm i ct];exact hn⟩
def put(ρ:aY)(id g:Nat)(pl:Pl):aY:=fun i j=>if i=id/\j=g then some pl else ρ i j
theorem bK(ρ:aY)(id g:Nat)(pl:Pl):put ρ id g pl id g=some pl:=by simp[put]
theorem b9(ρ:aY){id g i j:Nat}(pl:Pl)(h:¬(i=id/\j=g)):put ρ id g pl i j=ρ i j:=by simp only[put,if_neg h]
theorem gH{ρ:aY}{id g:Nat}(pl:Pl)(h:ρ id g=none):Ext ρ (put ρ id g pl):=by
 intro i j p hp;rw[b9 _ _ (by rintro⟨rfl,rfl⟩;rw[h]at hp;cases hp)];exact hp
theorem R.ME{ρ:aY}{S:AS}{w w':World}{cells:List AV}{C:Array Value}{e:TypeId}{fr:Nat×Nat}{frz:Bool}(h:R Λ ρ S w)(hg:kP (.cells C e fr) w w')(jJ:frz=false->∀i,i<=C.size->EB fr i=false)
  (hl:ay ρ cells (C.toList.take cells.length)) (hC:cells.length<=C.size) (h1:fe C) :
  ∃ρ' pl,ρ' S.nx 0=some pl/\pl.b=w.heap.size/\pl.base=0/\pl.n=cells.length/\pl.N=C.size /\
   R Λ ρ' ⟨S.h.set S.nx (.row cells 0 0 frz e),S.nx+1⟩ w'/\Kp ρ S w ρ' ⟨S.h.set S.nx (.row cells 0 0 frz e),S.nx+1⟩ w':=by
 have hx:=gH (ρ:=ρ) (id:=S.nx) (g:=0) ⟨w.heap.size,0,cells.length,C.size,by simpa using hC⟩ (h.fresh _ _ (zza _));refine⟨put ρ S.nx 0 ⟨w.heap.size,0,cells.length,C.size,by simpa using hC⟩,_,bK _ _ _ _,rfl,rfl,rfl,rfl,?_⟩;refine h.change (fun _=>False) hx ?_ hg.toOuter ?_ ?_ ?_ ?_ ?_ ?_ ?_ ?_ ?_ ?_ ?_ ?_
 .exact fun i g hi=>b9 _ _ (fun e=>hi e.1)
 .rw[hg.size];omega
 .exact fun k hk _=>hg.old k hk
 .exact fun _ _ hf=>hf.elim
 .exact fun o ho _=>absurd (h.vm _ o ho) (zzc _)
 .exact fun _ _ _ _ _ _ _ hf=>hf
 .refine⟨zza _,fun g _ P9=>?_,fun g k p q _ a2 _ a4 Rp M1 _=>by
   obtain rfl:g=0:=by omega
   obtain rfl:k=0:=by omega
   rw[Rp]at M1;cases M1;rfl⟩
  obtain rfl:g=0:=by omega
  refine⟨_,C,fr,bK _ _ _ _,hg.at,rfl,by simpa using hC,zza _,fun i hi=>?_,fun _=>rfl,jJ,fun _=>rfl,fun _=>h1⟩;dsimp only at hi⊢;obtain⟨x,hxx⟩:∃x,cells[i]?=some x:=⟨cells[i],by simp[List.getElem?_eq_getElem hi]⟩
  obtain⟨v,hv,hr⟩:=hl.get hxx;rw[List.getElem?_take,if_pos hi]at hv;exact⟨x,v,hxx,by simpa using hv,hr.mono hx _ _,h1 i v (by simpa using hv)⟩
 .intro cells' low top frz ty he g Zw;cases he;rw[b9 _ _ (by omega)];exact h.fresh _ _ (zza _)
 .intro g pl hp;by_cases P9:g=0
  .subst P9;rw[bK]at hp;cases hp;exact⟨by rw[hg.size];simp,.inr (zza _)⟩
  .rw[b9 _ _ (by omega),h.fresh _ _ (zza _)]at hp;cases hp
 .omega
 .omega
 .intro g i hi;rw[b9 _ _ (by omega)];exact h.fresh _ _ (by omega)
 .exact .inr (zza _)
theorem R.newRow{ρ:aY}{S:AS}{w w':World}{cells:List AV}{C:Array Value}{e:TypeId}(h:R Λ ρ S w)(hg:kP (.cells C e) w w')
  (hl:ay ρ cells (C.toList.take cells.length)) (hC:cells.length<=C.size) (h1:fe C) :
  ∃ρ' pl,ρ' S.nx 0=some pl/\pl.b=w.heap.size/\pl.base=0/\pl.n=cells.length/\pl.N=C.size /\
   R Λ ρ' ⟨S.h.set S.nx (.row cells 0 0 false e),S.nx+1⟩ w'/\Kp ρ S w ρ' ⟨S.h.set S.nx (.row cells 0 0 false e),S.nx+1⟩ w':=
 h.ME hg (fun _ i _=>by simp[EB]) hl hC h1
theorem R.jdx{ρ:aY}{S:AS}{w w':World}{es:List dI}{clock:Nat}{ES:Array MapEntry}(h:R Λ ρ S w)(hg:kP (.map ES clock) w w')(hl:Bh ρ es ES.toList):
  ∃ρ' pl,ρ' S.nx 0=some pl/\pl.b=w.heap.size/\R Λ ρ' ⟨S.h.set S.nx (.map es clock),S.nx+1⟩ w'/\Kp ρ S w ρ' ⟨S.h.set S.nx (.map es clock),S.nx+1⟩ w':=by
 have hx:=gH (ρ:=ρ) (id:=S.nx) (g:=0) ⟨w.heap.size,0,0,0,zza _⟩ (h.fresh _ _ (zza _));refine⟨put ρ S.nx 0 ⟨w.heap.size,0,0,0,zza _⟩,_,bK _ _ _ _,rfl,?_⟩;refine h.change (fun _=>False) hx ?_ hg.toOuter ?_ ?_ ?_ ?_ ?_ ?_ ?_ ?_ ?_ ?_ ?_ ?_
 .exact fun i g hi=>b9 _ _ (fun e=>hi e.1)
 .rw[hg.size];omega
 .exact fun k hk _=>hg.old k hk
 .exact fun _ _ hf=>hf.elim
 .exact fun o ho _=>absurd (h.vm _ o ho) (zzc _)
 .exact fun _ _ _ _ _ _ _ hf=>hf
 .exact⟨_,ES,bK _ _ _ _,hg.at,hl.mono hx⟩
 .intro cells' low top frz ty he;cases he
 .intro g pl hp;by_cases P9:g=0
  .subst P9;rw[bK]at hp;cases hp;exact⟨by rw[hg.size];simp,.inr (zza _)⟩
  .rw[b9 _ _ (by omega),h.fresh _ _ (zza _)]at hp;cases hp
 .omega
 .omega
 .intro g i hi;rw[b9 _ _ (by omega)];exact h.fresh _ _ (by omega)
 .exact .inr (zza _)
theorem R.DB{ρ:aY}{S:AS}{w w':World}{id:Nat}{o:dR}{pl:Pl}{es:List dI}{clock:Nat}{ES:Array MapEntry}(h:R Λ ρ S w)
  (ho:S.h.get id=some o) (hnr:∀a b c d t,o≠.row a b c d t) (hp:ρ id 0=some pl) (hb:N7 pl.b w w') (hw:w'.heap[pl.b]?=some (.map ES clock)) (hl:Bh ρ es ES.toList) :
  R Λ ρ ⟨S.h.set id (.map es clock),S.nx⟩ w'/\Kp ρ S w ρ ⟨S.h.set id (.map es clock),S.nx⟩ w':=by
 refine h.change (fun k=>k=pl.b) (Ext.refl _) (fun _ _ _=>rfl) hb.toOuter (Nat.le_of_eq hb.size.symm) (fun k _ hk=>hb.same k hk) ?_ ?_ ?_ ?_ ?_ ?_ (zza _) (h.vm id o ho) (fun g i hi=>h.fresh i g hi) (.inl ⟨o,ho⟩)
 .rintro k _ rfl;exact⟨o,0,pl,ho,wI hnr,hp,rfl⟩
 .intro o2 sQ hf;rw[ho]at sQ;cases sQ;exact (wI hnr hf).elim
 .intro i oi g Mt hi UN KT he;exact (h.apart i id oi o g 0 Mt pl hi UN ho KT hp).elim (fun h1=>h1 he) (fun h1=>wI hnr h1.2)
 .exact⟨pl,ES,hp,hw,hl⟩
 .intro a b c d t he;cases he
 .intro g eA lB;exact⟨by rw[hb.size];exact h.lt id o g eA ho lB,.inl ⟨o,g,ho,eA,lB,rfl⟩⟩
theorem R.Ku{ρ:aY}{S:AS}{w w':World}{x:LW}{o:Obj}(h:R Λ ρ S w)(hg:kP o w w')(hl:kO ρ x o):
  ∃ρ' pl,ρ' S.nx 0=some pl/\pl.b=w.heap.size/\pl.base=0/\R Λ ρ' ⟨S.h.set S.nx (.j6 x),S.nx+1⟩ w'/\Kp ρ S w ρ' ⟨S.h.set S.nx (.j6 x),S.nx+1⟩ w':=by
 have hx:=gH (ρ:=ρ) (id:=S.nx) (g:=0) ⟨w.heap.size,0,0,0,zza _⟩ (h.fresh _ _ (zza _));refine⟨put ρ S.nx 0 ⟨w.heap.size,0,0,0,zza _⟩,_,bK _ _ _ _,rfl,rfl,?_⟩;refine h.change (fun _=>False) hx ?_ hg.toOuter ?_ ?_ ?_ ?_ ?_ ?_ ?_ ?_ ?_ ?_ ?_ ?_
 .exact fun i g hi=>b9 _ _ (fun e=>hi e.1)
 .rw[hg.size];omega
 .exact fun k hk _=>hg.old k hk
 .exact fun _ _ hf=>hf.elim
 .exact fun o ho _=>absurd (h.vm _ o ho) (zzc _)
 .exact fun _ _ _ _ _ _ _ hf=>hf
 .exact⟨_,o,bK _ _ _ _,hg.at,hl.mono hx,rfl⟩
 .intro cells' low top frz ty he;cases he
 .intro g pl hp;by_cases P9:g=0
  .subst P9;rw[bK]at hp;cases hp;exact⟨by rw[hg.size];simp,.inr (zza _)⟩
  .rw[b9 _ _ (by omega),h.fresh _ _ (zza _)]at hp;cases hp
 .omega
 .omega
 .intro g i hi;rw[b9 _ _ (by omega)];exact h.fresh _ _ (by omega)
 .exact .inr (zza _)
theorem R.Sf{ρ:aY}{S:AS}{w w':World}{id:Nat}{o:dR}{pl:Pl}{x:LW}{O:Obj}(h:R Λ ρ S w)
  (ho:S.h.get id=some o) (hnr:∀a b c d t,o≠.row a b c d t) (hp:ρ id 0=some pl) (hb:N7 pl.b w w') (hw:w'.heap[pl.b]?=some O) (hl:kO ρ x O) (K0:pl.base=0) :
  R Λ ρ ⟨S.h.set id (.j6 x),S.nx⟩ w'/\Kp ρ S w ρ ⟨S.h.set id (.j6 x),S.nx⟩ w':=by
 refine h.change (fun k=>k=pl.b) (Ext.refl _) (fun _ _ _=>rfl) hb.toOuter (Nat.le_of_eq hb.size.symm) (fun k _ hk=>hb.same k hk) ?_ ?_ ?_ ?_ ?_ ?_ (zza _) (h.vm id o ho) (fun g i hi=>h.fresh i g hi) (.inl ⟨o,ho⟩)
 .rintro k _ rfl;exact⟨o,0,pl,ho,wI hnr,hp,rfl⟩
 .intro o2 sQ hf;rw[ho]at sQ;cases sQ;exact (wI hnr hf).elim
 .intro i oi g Mt hi UN KT he;exact (h.apart i id oi o g 0 Mt pl hi UN ho KT hp).elim (fun h1=>h1 he) (fun h1=>wI hnr h1.2)
 .exact⟨pl,O,hp,hw,hl,K0⟩
 .intro a b c d t he;cases he
 .intro g eA lB;exact⟨by rw[hb.size];exact h.lt id o g eA ho lB,.inl ⟨o,g,ho,eA,lB,rfl⟩⟩
theorem R.write{ρ:aY}{S:AS}{w w':World}{id low top:Nat}{cells cells':List AV}{pl:Pl}{C C':Array Value}{e:TypeId}{fr:Nat×Nat}(h:R Λ ρ S w)
  (ho:S.h.get id=some (.row cells low top false e)) (hp:ρ id top=some pl) (hw:w.heap[pl.b]?=some (.cells C e fr))
  (hb:N7 pl.b w w') (Jd:w'.heap[pl.b]?=some (.cells C' e fr)) (hC:C'.size=C.size) (hc:cells'.length=cells.length)
  (u4:fe C->fe C')
  (Zo:∀i,i<cells.length->∃x v,cells'[i]?=some x/\C'[pl.base+i]?=some v/\ai ρ x v/\v.oneCell'=true) :
  R Λ ρ ⟨S.h.set id (.row cells' top top false e),S.nx⟩ w'/\Kp ρ S w ρ ⟨S.h.set id (.row cells' top top false e),S.nx⟩ w':=by
 obtain⟨cQ,Rt,_⟩:=h.jE id _ ho;obtain⟨eA,D,fr',g1,g2,g3,g4,g5,g6,g7,g8,g9⟩:=Rt top cQ (zza _);rw[hp]at g1;cases g1;rw[hw]at g2;cases g2;refine h.change (fun k=>k=pl.b) (Ext.refl _) (fun _ _ _=>rfl) hb.toOuter (Nat.le_of_eq hb.size.symm) (fun k _ hk=>hb.same k hk) ?_ ?_ ?_ ?_ ?_ ?_ (zza _) (h.vm id _ ho) (fun g i hi=>h.fresh i g hi) (.inl ⟨_,ho⟩)
 .rintro k _ rfl;exact⟨_,top,pl,ho,oL,hp,rfl⟩
 .intro o2 sQ hf;rw[ho]at sQ;cases sQ;exact (oL hf).elim
 .intro i oi g Mt hi UN KT he;exact (h.apart i id oi _ g top Mt pl hi UN ho KT hp).elim (fun h1=>h1 he) (fun h1=>oL h1.2)
 .refine⟨zza _,fun g h1 h2=>?_,fun g k p q a1 a2 a3 a4 Rp M1 _=>by
   obtain rfl:g=top:=by omega
   obtain rfl:k=g:=by omega
   rw[Rp]at M1;cases M1;rfl⟩
  obtain rfl:g=top:=by omega
  refine⟨pl,C',fr,hp,Jd,hC.trans g3,g4,by rw[g7 rfl,hc];exact zza _,fun i hi=>Zo i (by rw[g7 rfl]at hi;exact hi),fun _=>by rw[g7 rfl,hc],g8,g9.1,fun h=>u4 (g9.2 h)⟩
 .intro a b c d t he g hg;cases he;exact h.sJ id _ _ _ _ _ ho g hg
 .intro g eA lB;exact⟨by rw[hb.size];exact h.lt id _ g eA ho lB,.inl ⟨_,g,ho,eA,lB,rfl⟩⟩
theorem R.gen{ρ:aY}{S:AS}{w w':World}{id low top low':Nat}{cells cells':List AV}{frz:Bool}{ty:TypeId}{pl:Pl}(h:R Λ ρ S w)
  (ho:S.h.get id=some (.row cells low top frz ty)) (jbI:low<=low') (Zr:low'<=top+1)
  (rn:Outer w w') (nf:w.heap.size<=w'.heap.size)
  (mP:∀k,k<w.heap.size->k≠pl.b->w'.heap[k]?=w.heap[k]?)
  (kS:(∃g eA,ρ id g=some eA/\eA.b=pl.b)\/w.heap.size<=pl.b) (hpb:pl.b<w'.heap.size)
  (jec:frz=false)
  (kG:Cf (put ρ id (top+1) pl) w' cells' (top+1) false ty id (top+1))
  (hold:∀g,low'<=g->g<=top->Cf (put ρ id (top+1) pl) w' cells' (top+1) false ty id g)
  (UG:∀g p,low'<=g->g<=top->ρ id g=some p->p.b=pl.b->p.base=pl.base) :
  R Λ (put ρ id (top+1) pl) ⟨S.h.set id (.row cells' low' (top+1) false ty),S.nx⟩ w' /\
   Kp ρ S w (put ρ id (top+1) pl) ⟨S.h.set id (.row cells' low' (top+1) false ty),S.nx⟩ w':=by
 subst jec;have hx:=gH (ρ:=ρ) (id:=id) (g:=top+1) pl (h.sJ id _ _ _ _ _ ho _ (by omega));refine h.change (fun k=>k=pl.b/\k<w.heap.size) hx (fun i g hi=>b9 _ _ (fun e=>hi e.1)) rn nf (fun k hk En=>mP k hk (fun e=>En ⟨e,hk⟩)) ?_ ?_ ?_ ?_ ?_ ?_ (zza _) (h.vm id _ ho) ?_ (.inl ⟨_,ho⟩)
 .rintro k hk ⟨rfl,_⟩;rcases kS with⟨g,eA,lB,e'⟩|CU
  .exact⟨_,g,eA,ho,oL,lB,e'⟩
  .omega
 .intro o2 sQ hf;rw[ho]at sQ;cases sQ;exact (oL hf).elim
 .rintro i oi g Mt hi UN KT ⟨he,cQ⟩;rcases kS with⟨g',eA,lB,e'⟩|CU
  .exact (h.apart i id oi _ g g' Mt eA hi UN ho KT lB).elim (fun h1=>h1 (by rw[e'];exact he)) (fun h1=>oL h1.2)
  .omega
 .refine⟨Zr,fun g h1 h2=>?_,fun g k p q a1 a2 a3 a4 hp hq hb=>?_⟩
  .by_cases hg:g=top+1
   .subst hg;exact kG
   .exact hold g h1 (by omega)
  .by_cases hg:g=top+1
   .subst hg;rw[bK]at hp;cases hp;by_cases hk:k=top+1
    .subst hk;rw[bK]at hq;cases hq;rfl
    .rw[b9 _ _ (by omega)]at hq;exact (UG k q a3 (by omega) hq hb.symm).symm
   .rw[b9 _ _ (by omega)]at hp;by_cases hk:k=top+1
    .subst hk;rw[bK]at hq;cases hq;exact UG g p a1 (by omega) hp hb
    .rw[b9 _ _ (by omega)]at hq;exact (h.jE id _ ho).2.2 g k p q (Nat.le_trans jbI a1) (by omega) (Nat.le_trans jbI a3) (by omega) hp hq hb
 .intro a b c d t he g hg;cases he;rw[b9 _ _ (by omega)];exact h.sJ id _ _ _ _ _ ho g (by omega)
 .intro g eA lB;by_cases hg:g=top+1
  .subst hg;rw[bK]at lB;cases lB;refine⟨hpb,?_⟩;rcases kS with⟨g,eA,lB,e'⟩|CU
   .exact .inl ⟨_,g,ho,eA,lB,e'⟩
   .exact .inr CU
  .rw[b9 _ _ (by omega)]at lB;exact⟨zzb (h.lt id _ g eA ho lB) nf,.inl ⟨_,g,ho,eA,lB,rfl⟩⟩
 .intro g i hi;rw[b9 _ _ (by rintro⟨rfl,_⟩;exact absurd (h.vm _ _ ho) (Nat.not_lt.2 hi))];exact h.fresh i g hi
end Go.Am
