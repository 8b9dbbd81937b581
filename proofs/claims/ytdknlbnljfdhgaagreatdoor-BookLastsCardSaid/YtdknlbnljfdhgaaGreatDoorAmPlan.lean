/-
  The abstract machine: the plan of a region that draws its order. Plain facts.
-/
import Derived.Test.YtdknlbnljfdhgaaGreatDoorAmCongr
open List renaming getElem?_eq_getElem->zza,getElem?_eq_none->zzc
open Nat renaming testBit_or->zzb,lt_or_ge->zzd
namespace Go.Am
open Go
theorem E4(m i:Nat):bit m i=m.testBit i:=by
 unfold bit;rw[bO,Nat.testBit_eq_decide_div_mod_eq];rfl
theorem rJ{m i j:Nat}(h:m<2 ^ i)(hb:bit m j=true):j<i:=by
 rw[E4]at hb;rcases zzd j i with h1|h1
 .exact h1
 .have:=Nat.testBit_lt_two_pow (Nat.lt_of_lt_of_le h (Nat.pow_le_pow_right (by decide) h1));rw[this]at hb;cases hb
noncomputable def C6(acc:List Nat)(s:Nat)(e:Edge):Nat:=
 match e.ground with
 | .textOnly _=>s
 | .gcOnly _=>s
 |_=>gP (Nat.lor s (Nat.lor (Nat.pow 2 e.on) (match nth e.on acc with|some m=>m|none=>0))) fun n=>n
theorem tX{acc:List Nat}{s:Nat}{e:Edge}(h:Region.binds .any e=true):C6 acc s e=s ||| (2 ^ e.on ||| (acc[e.on]?).getD 0):=by
 obtain⟨on,ground⟩:=e;have hn:(match nth on acc with|some m=>m|none=>0)=(acc[on]?).getD 0:=by
  rw[ji];cases acc[on]?<;>rfl
 cases ground<;>simp only[Region.binds]at h<;>(try (cases h;done))<;>(simp only[C6,aQ,hn];rfl)
theorem AA{acc:List Nat}{s:Nat}{e:Edge}(h:Region.binds .any e=false):C6 acc s e=s:=by
 obtain⟨on,ground⟩:=e;cases ground<;>first|(cases h;done)|rfl
noncomputable def xJ(acc:List Nat)(o:Oper):Nat:=o.after.toList.foldl (C6 acc) 0
theorem Qh(acc:List Nat):∀(es:List Edge)(s j:Nat),(es.foldl (C6 acc) s).testBit j=true ->
  s.testBit j=true\/∃e,e∈es/\Region.binds .any e=true/\(e.on=j\/((acc[e.on]?).getD 0).testBit j=true):=by
 intro es
 induction es with
 |nil=>intro s j h;exact .inl h
 |cons e es ih=>
  intro s j h;rcases ih _ _ h with h1|⟨e',h1,h2,h3⟩
  .cases hb:Region.binds .any e with
   |false=>rw[AA hb]at h1;exact .inl h1
   |true=>
    rw[tX hb,zzb,zzb,Nat.testBit_two_pow,Bool.or_eq_true,Bool.or_eq_true]at h1;rcases h1 with h1|h1|h1
    .exact .inl h1
    .exact .inr ⟨e,by simp,hb,.inl (by simpa using h1)⟩
    .exact .inr ⟨e,by simp,hb,.inr h1⟩
  .exact .inr ⟨e',by simp[h1],h2,h3⟩
theorem VA(acc:List Nat):∀(es:List Edge)(s:Nat)(j:Nat),(s.testBit j=true\/∃e,e∈es/\Region.binds .any e=true/\e.on=j)->(es.foldl (C6 acc) s).testBit j=true:=by
 intro es
 induction es with
 |nil=>intro s j h;rcases h with h|⟨e,h,_⟩;exact h;cases h
 |cons e es ih=>
  intro s j h;refine ih _ _ ?_;rcases h with h|⟨e',h,hb,hj⟩
  .left;cases hb:Region.binds .any e with
   |false=>rw[AA hb];exact h
   |true=>rw[tX hb,zzb,h];rfl
  .cases h with
   |head=>
    left;rw[tX hb,zzb,zzb,Nat.testBit_two_pow];simp[hj]
   |tail _ h=>exact .inr ⟨e',h,hb,hj⟩
noncomputable def nB:List Oper->List Nat->List Nat
 |[],acc=>acc
 |o::l,acc=>nB l (acc++[xJ acc o])
theorem jaF(ops:List Oper):jfl ops=nB ops []:=by
 have gen:∀(l:List Oper)(acc:List Nat),(List.rec (motive:=fun _=>List Nat->List Nat) (fun acc=>acc)
  (fun o _ ih acc=>ih (gC acc [List.foldl (fun s (e:Edge)=>match e.ground with
   | .textOnly _=>s
   | .gcOnly _=>s
   |_=>gP (Nat.lor s (Nat.lor (Nat.pow 2 e.on) (match nth e.on acc with|some m=>m|none=>0))) fun n=>n) 0 o.after.toList])) l) acc=nB l acc:=by
  intro l
  induction l with
  |nil=>intro acc;rfl
  |cons o l ih=>
   intro acc;refine (ih _).trans ?_;show nB l _=nB l (acc++[xJ acc o]);rw[bJ];rfl
 exact gen ops []
theorem E8:∀(l:List Oper)(acc:List Nat),∃B,nB l acc=acc++B/\B.length=l.length/\∀(i:Nat)(o:Oper),l[i]?=some o->B[i]?=some (xJ (acc++B.take i) o):=by
 intro l
 induction l with
 |nil=>intro acc;exact⟨[],by simp[nB],rfl,fun i o h=>by simp at h⟩
 |cons o l ih=>
  intro acc;obtain⟨B,h1,h2,h3⟩:=ih (acc++[xJ acc o]);refine⟨xJ acc o::B,by simp[nB,h1],by simp[h2],fun i p hp=>?_⟩;cases i with
  |zero=>simp at hp;subst hp;simp
  |succ i=>
   simp at hp;have:=h3 i p hp;simpa using this
structure Rb(ops:Array Oper)(rows:List Row):Prop where
 len:rows.length=ops.size
 row:∀(i:Nat)(r:Row),rows[i]?=some r->r.i=i/\ops[i]?=some r.o
 down:∀(i:Nat)(r:Row)(j:Nat),rows[i]?=some r->bit r.eG j=true->∃e,e∈r.o.after.toList/\Region.binds .any e=true/\(e.on=j\/∃r':Row,rows[e.on]?=some r'/\bit r'.eG j=true)
 edge:∀(i:Nat)(r:Row)(e:Edge),rows[i]?=some r->e∈r.o.after.toList->Region.binds .any e=true->bit r.eG e.on=true
theorem Rx(cx:Cx):∀(ops:List Oper)(bs:List Nat)(i0:Nat),bs.length=ops.length ->
  ∀(i:Nat)(r:Row),((List.rec (motive:=fun _=>List Nat->Nat->List Row) (fun _ _=>[])
  (fun o _ ih bs i=>List.casesOn (motive:=fun _=>List Row) bs [] fun b bs=>⟨o,b,ie cx o,i⟩::ih bs (Nat.succ i)) ops) bs i0)[i]?=some r ↔
   (∃o b,ops[i]?=some o/\bs[i]?=some b/\r=⟨o,b,ie cx o,i0+i⟩):=by
 intro ops
 induction ops with
 |nil=>intro bs i0 _ i r;simp
 |cons o ops ih=>
  intro bs i0 hl i r;cases bs with
  |nil=>simp at hl
  |cons b bs=>
   cases i with
   |zero=>
    constructor
    .intro h;exact⟨o,b,rfl,rfl,by simpa using (Option.some.inj h).symm⟩
    .rintro⟨o',b',h1,h2,rfl⟩;simp at h1 h2;subst h1 h2;rfl
   |succ i=>
    have:=ih bs (i0+1) (by simpa using hl) i r;constructor
    .intro h;obtain⟨o',b',h1,h2,h3⟩:=this.1 h;exact⟨o',b',by simpa using h1,by simpa using h2,by rw[h3];congr 1;omega⟩
    .rintro⟨o',b',h1,h2,h3⟩;exact this.2 ⟨o',b',by simpa using h1,by simpa using h2,by rw[h3];congr 1;omega⟩
theorem OU(cx:Cx)(ops:List Oper):∃B:List Nat,B.length=ops.length/\(∀(i:Nat)(o:Oper),ops[i]?=some o->B[i]?=some (xJ (B.take i) o)) /\
  ∀(i:Nat)(r:Row),(dW cx ops)[i]?=some r↔∃o b,ops[i]?=some o/\B[i]?=some b/\r=⟨o,b,ie cx o,i⟩:=by
 obtain⟨B,h1,h2,h3⟩:=E8 ops [];refine⟨B,h2,fun i o h=>by simpa using h3 i o h,fun i r=>?_⟩;have hb:jfl ops=B:=by rw[jaF,h1];simp
 have:=Rx cx ops B 0 h2 i r;rw[<-hb]at this⊢;simpa[dW]using this
theorem mA(l:List Row)(i:Nat)(r:Row)(h:(settle l)[i]?=some r):∃r0,l[i]?=some r0/\r.o=r0.o/\r.eG=r0.eG/\r.i=r0.i/\(r.cls=r0.cls\/(r0.cls=.fresh/\r.cls=.BS)):=by
 unfold settle at h;simp only[iw,List.getElem?_map]at h;cases hl:l[i]? with
 |none=>rw[hl]at h;cases h
 |some r0=>
  rw[hl]at h;simp only[Option.map_some,Option.some.injEq]at h;refine⟨r0,rfl,?_⟩;cases hc:(cl r0.cls&&js (ordered r0) (kH (fun r=>bY r.cls||cl r.cls) l))with
  |false=>rw[hc]at h;simp only[cond_false]at h;subst h;exact⟨rfl,rfl,rfl,.inl rfl⟩
  |true=>
   rw[hc]at h;simp only[cond_true]at h;subst h;simp only[Bool.and_eq_true]at hc;refine⟨rfl,rfl,rfl,.inr ⟨?_,rfl⟩⟩;have:=hc.1;cases hk:r0.cls<;>rw[hk]at this<;>first|rfl|cases this
theorem ze(l:List Row):(settle l).length=l.length:=by
 unfold settle;simp only[iw];simp
theorem vS(cx:Cx)(ops:Array Oper):Rb ops (settle (dW cx ops.toList))/\∀(i:Nat)(r:Row),(settle (dW cx ops.toList))[i]?=some r->(r.cls=.pure\/r.cls=.read)->ie cx r.o=r.cls:=by
 obtain⟨B,hl,hB,hr⟩:=OU cx ops.toList;have hlen:(dW cx ops.toList).length=ops.size:=by
  have h1:∀i,i<ops.size↔i<(dW cx ops.toList).length:=by
   intro i;constructor
   .intro h;have ho:ops.toList[i]?=some ops.toList[i]:=zza (by simpa using h);have hiB:i<B.length:=by rw[hl];simpa using h
    have hb:B[i]?=some B[i]:=zza hiB;have:=(hr i _).2 ⟨_,_,ho,hb,rfl⟩;rcases zzd i (dW cx ops.toList).length with h'|h'
    .exact h'
    .rw[zzc h']at this;cases this
   .intro h;obtain⟨o,b,h1,_⟩:=(hr i _).1 (zza h);rcases zzd i ops.size with h'|h'
    .exact h'
    .rw[zzc (by simpa using h')]at h1;cases h1
  have a:=h1 ops.size;have b:=h1 (dW cx ops.toList).length;omega
 refine⟨⟨by rw[ze,hlen],fun i r h=>?_,fun i r j h hb=>?_,fun i r e h he wD=>?_⟩,fun i r h hc=>?_⟩
 .obtain⟨r0,h0,e1,e2,e3,e4⟩:=mA _ _ _ h;obtain⟨o,b,h1,h2,rfl⟩:=(hr i r0).1 h0;exact⟨e3,by rw[<-Array.getElem?_toList,h1,e1]⟩
 .obtain⟨r0,h0,e1,e2,e3,e4⟩:=mA _ _ _ h;obtain⟨o,b,h1,h2,rfl⟩:=(hr i r0).1 h0;rw[e2]at hb;have qA:b=xJ (B.take i) o:=by have:=hB i o h1;rw[h2]at this;exact Option.some.inj this
  simp only[E4]at hb;rw[qA]at hb;rcases Qh _ _ _ _ hb with h3|⟨e,h3,h4,h5⟩
  .simp at h3
  .refine⟨e,by rw[e1];exact h3,h4,?_⟩;rcases h5 with h5|h5
   .exact .inl h5
   .right;rw[List.getElem?_take]at h5;by_cases hei:e.on<i
    .rw[if_pos hei]at h5;cases ZA:B[e.on]? with
     |none=>rw[ZA]at h5;simp at h5
     |some m=>
      rw[ZA]at h5;have Rs:i<ops.toList.length:=by
       rcases zzd i ops.toList.length with h'|h'
       .exact h'
       .rw[zzc h']at h1;cases h1
      have hoe:ops.toList[e.on]?=some ops.toList[e.on]:=zza (by omega);have hre:=(hr e.on _).2 ⟨_,m,hoe,ZA,rfl⟩;have cQ:e.on<(settle (dW cx ops.toList)).length:=by
       rw[ze,hlen];simp at Rs;omega
      obtain⟨r1,Xe,_,f2,_,_⟩:=mA _ e.on _ (zza cQ);rw[hre]at Xe;cases Xe;exact⟨_,zza cQ,by rw[f2,E4];simpa using h5⟩
    .rw[if_neg hei]at h5;simp at h5
 .obtain⟨r0,h0,e1,e2,e3,e4⟩:=mA _ _ _ h;obtain⟨o,b,h1,h2,rfl⟩:=(hr i r0).1 h0;have qA:b=xJ (B.take i) o:=by have:=hB i o h1;rw[h2]at this;exact Option.some.inj this
  rw[e2,E4];show b.testBit e.on=true;rw[qA];rw[e1]at he;exact VA _ _ _ _ (.inr ⟨e,he,wD,rfl⟩)
 .obtain⟨r0,h0,e1,e2,e3,e4⟩:=mA _ _ _ h;obtain⟨o,b,h1,h2,rfl⟩:=(hr i r0).1 h0;rw[e1];rcases e4 with e4|⟨_,e5⟩
  .exact e4.symm
  .rw[e5]at hc;rcases hc with hc|hc<;>cases hc
end Go.Am
