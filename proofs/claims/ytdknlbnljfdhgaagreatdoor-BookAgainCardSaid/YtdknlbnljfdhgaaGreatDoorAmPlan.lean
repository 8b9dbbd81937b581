/-
  The abstract machine: the plan of a region that draws its order. Plain facts.
-/
import Derived.Test.YtdknlbnljfdhgaaGreatDoorAmCongr
namespace Go.Am
open Go
theorem Cp(m i:Nat):bit m i=m.testBit i:=by
 unfold bit;rw[bF,Nat.testBit_eq_decide_div_mod_eq];rfl
theorem pP{m i j:Nat}(h:m<2 ^ i)(hb:bit m j=true):j<i:=by
 rw[Cp]at hb;rcases Nat.lt_or_ge j i with h1|h1
 .exact h1
 .have:=Nat.testBit_lt_two_pow (Nat.lt_of_lt_of_le h (Nat.pow_le_pow_right (by decide) h1));rw[this]at hb;cases hb
noncomputable def Ar(acc:List Nat)(s:Nat)(e:Edge):Nat:=
 match e.ground with
 | .textOnly _=>s
 | .gcOnly _=>s
 |_=>fS (Nat.lor s (Nat.lor (Nat.pow 2 e.on) (match nth e.on acc with|some m=>m|none=>0))) fun n=>n
theorem rN{acc:List Nat}{s:Nat}{e:Edge}(h:Region.binds .any e=true):Ar acc s e=s ||| (2 ^ e.on ||| (acc[e.on]?).getD 0):=by
 obtain⟨on,ground⟩:=e;have hn:(match nth on acc with|some m=>m|none=>0)=(acc[on]?).getD 0:=by
  rw[iw];cases acc[on]?<;>rfl
 cases ground<;>simp only[Region.binds]at h<;>(try (cases h;done))<;>(simp only[Ar,aN,hn];rfl)
theorem xL{acc:List Nat}{s:Nat}{e:Edge}(h:Region.binds .any e=false):Ar acc s e=s:=by
 obtain⟨on,ground⟩:=e;cases ground<;>first|(cases h;done)|rfl
noncomputable def u7(acc:List Nat)(o:Oper):Nat:=o.after.toList.foldl (Ar acc) 0
theorem fold_bits(acc:List Nat):∀(es:List Edge)(s j:Nat),(es.foldl (Ar acc) s).testBit j=true ->
  s.testBit j=true\/∃e,e∈es/\Region.binds .any e=true/\(e.on=j\/((acc[e.on]?).getD 0).testBit j=true):=by
 intro es
 induction es with
 |nil=>intro s j h;exact .inl h
 |cons e es ih=>
  intro s j h;rcases ih _ _ h with h1|⟨e',h1,h2,h3⟩
  .cases hb:Region.binds .any e with
   |false=>rw[xL hb]at h1;exact .inl h1
   |true=>
    rw[rN hb,Nat.testBit_or,Nat.testBit_or,Nat.testBit_two_pow,Bool.or_eq_true,Bool.or_eq_true]at h1;rcases h1 with h1|h1|h1
    .exact .inl h1
    .exact .inr ⟨e,by simp,hb,.inl (by simpa using h1)⟩
    .exact .inr ⟨e,by simp,hb,.inr h1⟩
  .exact .inr ⟨e',by simp[h1],h2,h3⟩
theorem fold_has(acc:List Nat):∀(es:List Edge)(s:Nat)(j:Nat),(s.testBit j=true\/∃e,e∈es/\Region.binds .any e=true/\e.on=j)->(es.foldl (Ar acc) s).testBit j=true:=by
 intro es
 induction es with
 |nil=>intro s j h;rcases h with h|⟨e,h,_⟩;exact h;cases h
 |cons e es ih=>
  intro s j h;refine ih _ _ ?_;rcases h with h|⟨e',h,hb,hj⟩
  .left;cases hb:Region.binds .any e with
   |false=>rw[xL hb];exact h
   |true=>rw[rN hb,Nat.testBit_or,h];rfl
  .cases h with
   |head=>
    left;rw[rN hb,Nat.testBit_or,Nat.testBit_or,Nat.testBit_two_pow];simp[hj]
   |tail _ h=>exact .inr ⟨e',h,hb,hj⟩
noncomputable def mc:List Oper->List Nat->List Nat
 |[],acc=>acc
 |o::l,acc=>mc l (acc++[u7 acc o])
theorem befL_eq(ops:List Oper):befL ops=mc ops []:=by
 have gen:∀(l:List Oper)(acc:List Nat),(List.rec (motive:=fun _=>List Nat->List Nat) (fun acc=>acc)
  (fun o _ ih acc=>ih (fH acc [List.foldl (fun s (e:Edge)=>match e.ground with
   | .textOnly _=>s
   | .gcOnly _=>s
   |_=>fS (Nat.lor s (Nat.lor (Nat.pow 2 e.on) (match nth e.on acc with|some m=>m|none=>0))) fun n=>n) 0 o.after.toList])) l) acc=mc l acc:=by
  intro l
  induction l with
  |nil=>intro acc;rfl
  |cons o l ih=>
   intro acc;refine (ih _).trans ?_;show mc l _=mc l (acc++[u7 acc o]);rw[bz];rfl
 exact gen ops []
theorem Ct:∀(l:List Oper)(acc:List Nat),∃B,mc l acc=acc++B/\B.length=l.length/\∀(i:Nat)(o:Oper),l[i]?=some o->B[i]?=some (u7 (acc++B.take i) o):=by
 intro l
 induction l with
 |nil=>intro acc;exact⟨[],by simp[mc],rfl,fun i o h=>by simp at h⟩
 |cons o l ih=>
  intro acc;obtain⟨B,h1,h2,h3⟩:=ih (acc++[u7 acc o]);refine⟨u7 acc o::B,by simp[mc,h1],by simp[h2],fun i p hp=>?_⟩;cases i with
  |zero=>simp at hp;subst hp;simp
  |succ i=>
   simp at hp;have:=h3 i p hp;simpa using this
structure Plan(ops:Array Oper)(rows:List Row):Prop where
 len:rows.length=ops.size
 row:∀(i:Nat)(r:Row),rows[i]?=some r->r.i=i/\ops[i]?=some r.o
 down:∀(i:Nat)(r:Row)(j:Nat),rows[i]?=some r->bit r.dL j=true->∃e,e∈r.o.after.toList/\Region.binds .any e=true/\(e.on=j\/∃r':Row,rows[e.on]?=some r'/\bit r'.dL j=true)
 edge:∀(i:Nat)(r:Row)(e:Edge),rows[i]?=some r->e∈r.o.after.toList->Region.binds .any e=true->bit r.dL e.on=true
theorem zip_rows(cx:Cx):∀(ops:List Oper)(bs:List Nat)(i0:Nat),bs.length=ops.length ->
  ∀(i:Nat)(r:Row),((List.rec (motive:=fun _=>List Nat->Nat->List Row) (fun _ _=>[])
  (fun o _ ih bs i=>List.casesOn (motive:=fun _=>List Row) bs [] fun b bs=>⟨o,b,fY cx o,i⟩::ih bs (Nat.succ i)) ops) bs i0)[i]?=some r ↔
   (∃o b,ops[i]?=some o/\bs[i]?=some b/\r=⟨o,b,fY cx o,i0+i⟩):=by
 intro ops
 induction ops with
 |nil=>intro bs i0 _ i r;simp
 |cons o ops ih=>
  intro bs i0 hl i r;cases bs with
  |nil=>simp at hl
  |cons b bs=>
   cases i with
   |zero=>
    constructor
    .intro h;exact⟨o,b,rfl,rfl,by simpa using (Option.some.inj h).symm⟩
    .rintro⟨o',b',h1,h2,rfl⟩;simp at h1 h2;subst h1 h2;rfl
   |succ i=>
    have:=ih bs (i0+1) (by simpa using hl) i r;constructor
    .intro h;obtain⟨o',b',h1,h2,h3⟩:=this.1 h;exact⟨o',b',by simpa using h1,by simpa using h2,by rw[h3];congr 1;omega⟩
    .rintro⟨o',b',h1,h2,h3⟩;exact this.2 ⟨o',b',by simpa using h1,by simpa using h2,by rw[h3];congr 1;omega⟩
theorem rowsL_get(cx:Cx)(ops:List Oper):∃B:List Nat,B.length=ops.length/\(∀(i:Nat)(o:Oper),ops[i]?=some o->B[i]?=some (u7 (B.take i) o)) /\
  ∀(i:Nat)(r:Row),(dx cx ops)[i]?=some r↔∃o b,ops[i]?=some o/\B[i]?=some b/\r=⟨o,b,fY cx o,i⟩:=by
 obtain⟨B,h1,h2,h3⟩:=Ct ops [];refine⟨B,h2,fun i o h=>by simpa using h3 i o h,fun i r=>?_⟩;have hb:befL ops=B:=by rw[befL_eq,h1];simp
 have:=zip_rows cx ops B 0 h2 i r;rw[<-hb]at this⊢;simpa[dx]using this
theorem lg(l:List Row)(i:Nat)(r:Row)(h:(settle l)[i]?=some r):∃r0,l[i]?=some r0/\r.o=r0.o/\r.dL=r0.dL/\r.i=r0.i/\(r.cls=r0.cls\/(r0.cls=.fresh/\r.cls=.yV)):=by
 unfold settle at h;simp only[gu,List.getElem?_map]at h;cases hl:l[i]? with
 |none=>rw[hl]at h;cases h
 |some r0=>
  rw[hl]at h;simp only[Option.map_some,Option.some.injEq]at h;refine⟨r0,rfl,?_⟩;cases hc:(bQ r0.cls&&ew (ordered r0) (jE (fun r=>bK r.cls||bQ r.cls) l))with
  |false=>rw[hc]at h;simp only[cond_false]at h;subst h;exact⟨rfl,rfl,rfl,.inl rfl⟩
  |true=>
   rw[hc]at h;simp only[cond_true]at h;subst h;simp only[Bool.and_eq_true]at hc;refine⟨rfl,rfl,rfl,.inr ⟨?_,rfl⟩⟩;have:=hc.1;cases hk:r0.cls<;>rw[hk]at this<;>first|rfl|cases this
theorem wq(l:List Row):(settle l).length=l.length:=by
 unfold settle;simp only[gu];simp
theorem tL(cx:Cx)(ops:Array Oper):Plan ops (settle (dx cx ops.toList))/\∀(i:Nat)(r:Row),(settle (dx cx ops.toList))[i]?=some r->(r.cls=.pure\/r.cls=.read)->fY cx r.o=r.cls:=by
 obtain⟨B,hl,hB,hr⟩:=rowsL_get cx ops.toList;have hlen:(dx cx ops.toList).length=ops.size:=by
  have h1:∀i,i<ops.size↔i<(dx cx ops.toList).length:=by
   intro i;constructor
   .intro h;have ho:ops.toList[i]?=some ops.toList[i]:=List.getElem?_eq_getElem (by simpa using h);have hiB:i<B.length:=by rw[hl];simpa using h
    have hb:B[i]?=some B[i]:=List.getElem?_eq_getElem hiB;have:=(hr i _).2 ⟨_,_,ho,hb,rfl⟩;rcases Nat.lt_or_ge i (dx cx ops.toList).length with h'|h'
    .exact h'
    .rw[List.getElem?_eq_none h']at this;cases this
   .intro h;obtain⟨o,b,h1,_⟩:=(hr i _).1 (List.getElem?_eq_getElem h);rcases Nat.lt_or_ge i ops.size with h'|h'
    .exact h'
    .rw[List.getElem?_eq_none (by simpa using h')]at h1;cases h1
  have a:=h1 ops.size;have b:=h1 (dx cx ops.toList).length;omega
 refine⟨⟨by rw[wq,hlen],fun i r h=>?_,fun i r j h hb=>?_,fun i r e h he ue=>?_⟩,fun i r h hc=>?_⟩
 .obtain⟨r0,h0,e1,e2,e3,e4⟩:=lg _ _ _ h;obtain⟨o,b,h1,h2,rfl⟩:=(hr i r0).1 h0;exact⟨e3,by rw[<-Array.getElem?_toList,h1,e1]⟩
 .obtain⟨r0,h0,e1,e2,e3,e4⟩:=lg _ _ _ h;obtain⟨o,b,h1,h2,rfl⟩:=(hr i r0).1 h0;rw[e2]at hb;have sf:b=u7 (B.take i) o:=by have:=hB i o h1;rw[h2]at this;exact Option.some.inj this
  simp only[Cp]at hb;rw[sf]at hb;rcases fold_bits _ _ _ _ hb with h3|⟨e,h3,h4,h5⟩
  .simp at h3
  .refine⟨e,by rw[e1];exact h3,h4,?_⟩;rcases h5 with h5|h5
   .exact .inl h5
   .right;rw[List.getElem?_take]at h5;by_cases hei:e.on<i
    .rw[if_pos hei]at h5;cases hbe:B[e.on]? with
     |none=>rw[hbe]at h5;simp at h5
     |some m=>
      rw[hbe]at h5;have hio:i<ops.toList.length:=by
       rcases Nat.lt_or_ge i ops.toList.length with h'|h'
       .exact h'
       .rw[List.getElem?_eq_none h']at h1;cases h1
      have hoe:ops.toList[e.on]?=some ops.toList[e.on]:=List.getElem?_eq_getElem (by omega);have hre:=(hr e.on _).2 ⟨_,m,hoe,hbe,rfl⟩;have cq:e.on<(settle (dx cx ops.toList)).length:=by
       rw[wq,hlen];simp at hio;omega
      obtain⟨r1,hr1,_,f2,_,_⟩:=lg _ e.on _ (List.getElem?_eq_getElem cq);rw[hre]at hr1;cases hr1;exact⟨_,List.getElem?_eq_getElem cq,by rw[f2,Cp];simpa using h5⟩
    .rw[if_neg hei]at h5;simp at h5
 .obtain⟨r0,h0,e1,e2,e3,e4⟩:=lg _ _ _ h;obtain⟨o,b,h1,h2,rfl⟩:=(hr i r0).1 h0;have sf:b=u7 (B.take i) o:=by have:=hB i o h1;rw[h2]at this;exact Option.some.inj this
  rw[e2,Cp];show b.testBit e.on=true;rw[sf];rw[e1]at he;exact fold_has _ _ _ _ (.inr ⟨e,he,ue,rfl⟩)
 .obtain⟨r0,h0,e1,e2,e3,e4⟩:=lg _ _ _ h;obtain⟨o,b,h1,h2,rfl⟩:=(hr i r0).1 h0;rw[e1];rcases e4 with e4|⟨_,e5⟩
  .exact e4.symm
  .rw[e5]at hc;rcases hc with hc|hc<;>cases hc
end Go.Am
