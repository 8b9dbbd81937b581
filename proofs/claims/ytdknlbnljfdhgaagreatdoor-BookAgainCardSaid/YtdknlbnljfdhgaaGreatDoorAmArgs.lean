/-
  The abstract machine: arguments that lie in memory. What a reading of integers, truths, texts, records and slices of them tells, laid as rows from outside.
-/
import Derived.Test.YtdknlbnljfdhgaaGreatDoorAmHeap
import Derived.ChangeSlices
import Derived.ChangeArms
import Derived.DataReads
import Derived.SizedLaws
import Derived.Test.YtdknlbnljfdhgaaGreatDoorAmWide
noncomputable section
namespace Go.Am
open Go Go.RowKit
variable{Λ:LB}
def tt(S:AS):Prop:=∀id o,S.h.get id=some o->Frz o
structure iL(S:AS)(ρ:aO)(S':AS)(ρ':aO):Prop where
 ext:Ext ρ ρ'
 h:∀id o,S.h.get id=some o->S'.h.get id=some o
 next:S.next<=S'.next
theorem iL.refl(S:AS)(ρ:aO):iL S ρ S ρ:=⟨Ext.refl _,fun _ _ h=>h,Nat.le_refl _⟩
theorem iL.trans{A B C:AS}{a b c:aO}(h:iL A a B b)(k:iL B b C c):iL A a C c:=⟨h.ext.trans k.ext,fun id o x=>k.h id o (h.h id o x),Nat.le_trans h.next k.next⟩
theorem R.outRow{ρ:aO}{S:AS}{w:World}(h:R Λ ρ S w)(hz:tt S){b off:Nat}{C:Array Value}{ty:TypeId}{fr:Nat×Nat}{cells:List AV}(hw:w.heap[b]?=some (.cells C ty fr))(hle:off+cells.length<=C.size)
  (hpt:∀i,i<cells.length->∃x v,cells[i]?=some x/\C[off+i]?=some v/\ah ρ x v/\v.oneCell'=true) :
  ∃ρ' pl,ρ' S.next 1=some pl/\pl.b=b/\pl.base=off/\pl.n=cells.length/\pl.N=C.size/\R Λ ρ' ⟨S.h.set S.next (.row cells 1 1 true ty),S.next+1⟩ w /\
   iL S ρ ⟨S.h.set S.next (.row cells 1 1 true ty),S.next+1⟩ ρ'/\tt ⟨S.h.set S.next (.row cells 1 1 true ty),S.next+1⟩:=by
 have hx:=fJ (ρ:=ρ) (id:=S.next) (g:=1) ⟨b,off,cells.length,C.size,hle⟩ (h.fresh _ _ (Nat.le_refl _));have cS:∀id o,S.h.get id=some o->id≠S.next:=fun id o ho e=>by subst e;exact absurd (h.sY _ _ ho) (Nat.lt_irrefl _)
 have iA:∀id,id≠S.next->(S.h.set S.next (.row cells 1 1 true ty)).get id=S.h.get id:=fun id hi=>ae _ _ hi
 have hrho:∀id g,id≠S.next->put ρ S.next 1 ⟨b,off,cells.length,C.size,hle⟩ id g=ρ id g:=fun id g hi=>bL _ _ (fun e=>hi e.1)
 have sL:tt ⟨S.h.set S.next (.row cells 1 1 true ty),S.next+1⟩:=by
  intro id o ho;by_cases hi:id=S.next
  .subst hi;have sd:(S.h.set S.next (.row cells 1 1 true ty)).get S.next=some o:=ho
   rw[aa]at sd;cases sd;exact⟨_,_,_,_,rfl⟩
  .exact hz id o (by rw[<-iA id hi];exact ho)
 refine⟨put ρ S.next 1 ⟨b,off,cells.length,C.size,hle⟩,_,bA _ _ _ _,rfl,rfl,rfl,rfl,?_,⟨hx,fun id o ho=>?_,Nat.le_succ _⟩,sL⟩
 .refine⟨fun id o ho=>?_,fun id o ho=>?_,fun id g hi=>?_,fun id c l t f y ho g hg=>?_,fun id o g pl ho hp=>?_,fun i j o oj g gj pl plj pD ho CO hp Ac=>.inr ⟨sL i o ho,sL j oj CO⟩,h.start,fun b' hb=>?_⟩
  .by_cases hi:id=S.next
   .subst hi;have sd:(S.h.set S.next (.row cells 1 1 true ty)).get S.next=some o:=ho
    rw[aa]at sd;cases sd;refine⟨Nat.le_refl _,fun g h1 h2=>?_,fun g k p q h1 h2 h3 h4 hp hq _=>?_⟩
    .obtain rfl:g=1:=by omega
     refine⟨_,C,fr,bA _ _ _ _,hw,rfl,hle,Nat.le_refl _,fun i hi=>?_,fun _=>rfl,fun e=>by (cases e),fun e=>by (cases e),fun e=>by (cases e)⟩;obtain⟨x,v,a1,a2,a3,a4⟩:=hpt i hi;exact⟨x,v,a1,a2,a3.mono hx _ _,a4⟩
    .obtain rfl:g=1:=by omega
     obtain rfl:k=1:=by omega
     rw[hp]at hq;cases hq;rfl
   .have sd:S.h.get id=some o:=by rw[<-iA id hi];exact ho
    exact (h.iM id o sd).cg hx fun g pl _=>rfl
  .by_cases hi:id=S.next
   .subst hi;exact Nat.lt_succ_self _
   .exact Nat.lt_succ_of_lt (h.sY id o (by rw[<-iA id hi];exact ho))
  .have:S.next+1<=id:=hi
   rw[hrho id g (by omega)];exact h.fresh id g (by omega)
  .by_cases hi:id=S.next
   .subst hi;have sd:(S.h.set S.next (.row cells 1 1 true ty)).get S.next=some (.row c l t f y):=ho
    rw[aa]at sd;cases sd;rw[bL _ _ (by omega)];exact h.fresh _ _ (Nat.le_refl _)
   .rw[hrho id g hi];exact h.qF id c l t f y (by rw[<-iA id hi];exact ho) g hg
  .by_cases hi:id=S.next
   .subst hi;by_cases hg:g=1
    .subst hg;rw[bA]at hp;cases hp;exact (Array.getElem?_eq_some_iff.1 hw).1
    .rw[bL _ _ (by omega),h.fresh _ _ (Nat.le_refl _)]at hp;cases hp
   .rw[hrho id g hi]at hp;exact h.lt id o g pl (by rw[<-iA id hi];exact ho) hp
  .obtain⟨d1,d2,_⟩:=h.base b' hb;exact⟨d1,d2,fun⟨i,o,g,pl,ho,hnf,_⟩=>hnf (sL i o ho)⟩
 .show (S.h.set S.next (.row cells 1 1 true ty)).get id=some o;rw[iA id (cS id o ho)];exact ho
theorem R.outNone{ρ:aO}{S:AS}{w:World}(h:R Λ ρ S w)(hz:tt S):
  ∃ρ' pl,ρ' S.next 1=some pl/\R Λ ρ' ⟨S.h,S.next+1⟩ w/\iL S ρ ⟨S.h,S.next+1⟩ ρ'/\tt ⟨S.h,S.next+1⟩:=by
 have hx:=fJ (ρ:=ρ) (id:=S.next) (g:=1) ⟨0,0,0,0,Nat.le_refl _⟩ (h.fresh _ _ (Nat.le_refl _));have cS:∀id o,S.h.get id=some o->id≠S.next:=fun id o ho e=>by subst e;exact absurd (h.sY _ _ ho) (Nat.lt_irrefl _)
 have hrho:∀id g,id≠S.next->put ρ S.next 1 ⟨0,0,0,0,Nat.le_refl _⟩ id g=ρ id g:=fun id g hi=>bL _ _ (fun e=>hi e.1)
 refine⟨put ρ S.next 1 ⟨0,0,0,0,Nat.le_refl _⟩,_,bA _ _ _ _,?_,⟨hx,fun id o ho=>ho,Nat.le_succ _⟩,hz⟩;refine⟨fun id o ho=>(h.iM id o ho).cg hx fun g pl _=>rfl,fun id o ho=>Nat.lt_succ_of_lt (h.sY id o ho),fun id g hi=>?_,fun id c l t f y ho g hg=>?_,fun id o g pl ho hp=>?_,fun i j o oj g gj pl plj pD ho CO hp Ac=>.inr ⟨hz i o ho,hz j oj CO⟩,h.start,fun b' hb=>?_⟩
 .have:S.next+1<=id:=hi
  rw[hrho id g (by omega)];exact h.fresh id g (by omega)
 .rw[hrho id g (cS id _ ho)];exact h.qF id c l t f y ho g hg
 .rw[hrho id g (cS id _ ho)]at hp;exact h.lt id o g pl ho hp
 .obtain⟨d1,d2,_⟩:=h.base b' hb;exact⟨d1,d2,fun⟨i,o,g,pl,ho,hnf,_⟩=>hnf (hz i o ho)⟩
def qx(sz:TypeId->Option Nat)(T:TypeId->List AV->Prop):List TypeId->List AV->Prop
 |[],l=>l=[]
 |t::ts,l=>∃a b,l=a++b/\sz t=some a.length/\T t a/\qx sz T ts b
def bO(cx:Cx)(S:AS):Nat->TypeId->List AV->Prop
 |0,_,_=>False
 |m+1,t,l=>match bC cx t with
  |some (.int k)=>∃n,l=[.int k n]/\k.min<=n/\n<=k.max
  |some .bool=>∃b,l=[.bool b]
  |some .string=>∃s:List Nat,l=[.str s]/\s.length<=reachBytes/\∀c,c∈s->c<256
  | some (.slice e)=>l=[.aq]∨∃ id len cap sz,l=[.slice id 1 0 len (cap*sz) sz (some cap)]∧aE cx e=some sz∧0<sz∧len≤cap∧cap≤maxLen∧(∀ bs,bytesOf cx e=some bs→cap*bs≤reachBytes)∧id<S.next ∧
    (cap=0\/∃cells ty,S.h.get id=some (.row cells 1 1 true ty)/\cells.length=cap*sz/\∀i,i<cap->bO cx S m e ((cells.drop (i*sz)).take sz))
  |some (.struct fs)=>qx (aE cx) (bO cx S m) (fs.toList.map (·.type)) l
  |_=>False
def oI(cx:Cx):List Field->Nat->Nat->Bool
 |[],off,n=>Nat.beq off n
 |f::fs,off,n=>Nat.beq f.offset off&&(match aE cx f.type with|some z=>oI cx fs (off+z) n|none=>false)
def pj(cx:Cx):Nat->TypeId->Bool
 |0,_=>false
 |m+1,t=>match bC cx t with
  |some (.int _)=>true
  |some .bool=>true
  |some .string=>true
  |some (.slice e)=>pj cx m e&&(match aE cx e with|some (_+1)=>true|_=>false)
  |some (.struct fs)=>fs.toList.all (fun f=>pj cx m f.type)&&(match aE cx t with|some n=>oI cx fs.toList 0 n|none=>false)
  |_=>false
theorem sV{sz:TypeId->Option Nat}{T T':TypeId->List AV->Prop}(h:∀t l,T t l->T' t l):∀(ts:List TypeId)(l:List AV),qx sz T ts l->qx sz T' ts l
 |[],_,k=>k
 |_::ts,_,⟨a,b,e,s,x,y⟩=>⟨a,b,e,s,h _ _ x,sV h ts _ y⟩
theorem iG{cx:Cx}{S S':AS}(hh:∀id o,S.h.get id=some o->S'.h.get id=some o)(hn:S.next<=S'.next):∀(m:Nat)(t:TypeId)(l:List AV),bO cx S m t l->bO cx S' m t l
 |0,_,_,k=>k
 |m+1,t,l,k=>by
  unfold bO at k⊢;cases hu:bC cx t with
  |none=>rw[hu]at k;exact k.elim
  |some d=>
   rw[hu]at k;cases d<;>simp only[]at k⊢ <;> (try exact k)
   .rcases k with k|⟨id,len,cap,sz,k1,k2,k3,k4,k5,kb,k6,k7⟩
    .exact .inl k
    .refine .inr ⟨id,len,cap,sz,k1,k2,k3,k4,k5,kb,Nat.lt_of_lt_of_le k6 hn,?_⟩;rcases k7 with k7|⟨cells,ty,k7,k8,k9⟩
     .exact .inl k7
     .exact .inr ⟨cells,ty,hh _ _ k7,k8,fun i hi=>iG hh hn m _ _ (k9 i hi)⟩
   .exact sV (iG hh hn m) _ _ k
theorem CH(a:Addr)(x y:Nat):(a.add x).add y=a.add (x+y):=by
 unfold Addr.add;by_cases hx:x=0<;>by_cases hy:y=0<;>simp[hx,hy,Nat.add_assoc]
theorem lz{H:Type}{P:Program}{e:TypeId}{d:DataW H}{n:Nat}:∀{l:List (DataW H)},d∈l->n∈d.weights P e->n∈DataW.weightsAll P e l
 |x::l,h,hn=>by
  simp only[DataW.weightsAll];rcases List.mem_cons.1 h with rfl|h
  .exact List.mem_append_left _ hn
  .exact List.mem_append_right _ (lz h hn)
theorem bytesOf_ok{P:Program}{cx:Cx}(aC:dq Λ P cx){t:TypeId}{n:Nat}(h:bytesOf cx t=some n):P.bytesOf t=n:=by
 unfold bytesOf at h;cases hi:cx.kR.get t with
 |none=>simp[hi]at h
 |some i=>
  simp only[hi,Option.some.injEq]at h;simp[Program.bytesOf,aC.kR t i hi,h]
section
variable{H:Type}{enc:TypeId×Value->H}{P:Program}{W:World}{base:Nat}{held:Bool}{cx:Cx}
theorem absorb(aC:dq Λ P cx):∀(m:Nat)(t:TypeId),pj cx m t=true->∀(fuel:Nat)(cs:List Value)(x:DataW H×List MemPlace)(S:AS)(ρ:aO),tt S->R Λ ρ S W ->
  DataW.trod enc P W base (fun _=>true) held fuel t cs=some x->(∀n,n∈x.1.weights P t->n<=reachBytes) ->
  ∃S' ρ' oC,iL S ρ S' ρ'/\tt S'/\R Λ ρ' S' W/\au ρ' oC cs/\(∀v,v∈cs->v.oneCell'=true)/\bO cx S' m t oC
 |0,_,hp,_,_,_,_,_,_,_,_,_=>by cases hp
 |m+1,t,hp,fuel,cs,x,S,ρ,hz,hR,h,hW=>by
  unfold pj at hp;split at hp<;>(try (cases hp;done))
  ·-- integers
   rename_i k hu;obtain⟨n,rfl,rfl,hw⟩:=DataW.trod_int (dh aC hu) h;refine⟨S,ρ,[.int k n],iL.refl _ _,hz,hR,au.cons (by simp[ah]) au.nil,fun v hv=>?_,?_⟩
   .simp at hv;subst hv;rfl
   .unfold bO;simp only[hu];refine⟨n,rfl,?_⟩;simpa[Lit.wf]using hw
  .rename_i hu;obtain⟨b,rfl,rfl⟩:=DataW.trod_bool (dh aC hu) h;refine⟨S,ρ,[.bool b],iL.refl _ _,hz,hR,au.cons (by simp[ah]) au.nil,fun v hv=>?_,?_⟩
   .simp at hv;subst hv;rfl
   .unfold bO;simp only[hu];exact⟨b,rfl⟩
  .rename_i hu;obtain⟨s,rfl,rfl,hs⟩:=DataW.trod_string (dh aC hu) h;refine⟨S,ρ,[.str (s.data.toList.map UInt8.toNat)],iL.refl _ _,hz,hR,au.cons (by simp[ah]) au.nil,fun v hv=>?_,?_⟩
   .simp at hv;subst hv;rfl
   .unfold bO;simp only[hu];refine⟨_,rfl,by have:=hW s.data.toList.length (by simp[DataW.weights]);simpa using this,fun c hc=>?_⟩;obtain⟨u,_,rfl⟩:=List.mem_map.1 hc;exact u.toNat_lt
  ·-- slices
   rename_i e hu;rw[Bool.and_eq_true]at hp;obtain⟨hpe,lT⟩:=hp;cases hs:aE cx e with
   |none=>rw[hs]at lT;cases lT
   |some sz=>
    cases sz with
    |zero=>rw[hs]at lT;cases lT
    |succ z=>
     have hce:=lG aC hs;rcases DataW.trod_slice (dh aC hu) h with⟨rfl,rfl⟩|⟨a,len,cap,elems,rest,n,rfl,rfl,hxe,hb,hlen,mW,hel,hE,hRr,_⟩
     .refine⟨S,ρ,[.aq],iL.refl _ _,hz,hR,au.cons (by simp[ah]) au.nil,fun v hv=>?_,?_⟩
      .simp at hv;subst hv;rfl
      .unfold bO;simp only[hu];exact .inl trivial
     .obtain⟨ml,hRs⟩:=hRr rfl;have hwt:DataW.weights P t (.slice (elems.map (·.1)) (rest.map (·.1)))=((elems.map (·.1)).length+(rest.map (·.1)).length)*P.bytesOf e::(DataW.weightsAll P e (elems.map (·.1))++DataW.weightsAll P e (rest.map (·.1))):=by
       simp only[DataW.weights,dh aC hu]
      subst hxe;replace hW:∀n,n∈DataW.weights P t (.slice (elems.map (·.1)) (rest.map (·.1)))->n<=reachBytes:=hW;rw[hwt]at hW;have hcapB:∀bs,bytesOf cx e=some bs->cap*bs<=reachBytes:=fun bs oo=>by
       have:=hW _ (List.mem_cons_self ..);rw[List.length_map,List.length_map,hel,ml,show len+(cap-len)=cap by omega,bytesOf_ok aC oo]at this;exact this
      have each:∀i,i<cap->∃y vs,W.cells? base (a.add (i*(z+1))) (z+1)=some vs/\DataW.trod enc P W base (fun _=>true) held n e vs=some y/\∀n,n∈y.1.weights P e->n<=reachBytes:=by
       intro i hi;have:∃y,(W.cells? base (a.add (i*P.cellsOf e)) (P.cellsOf e)).bind (DataW.trod enc P W base (fun _=>true) held n e)=some y/\∀n,n∈y.1.weights P e->n<=reachBytes:=by
        by_cases h1:i<len
        .exact⟨elems[i],by rw[hE i h1];exact List.getElem?_eq_getElem (by omega),fun n hn=>hW n (List.mem_cons_of_mem _ (List.mem_append_left _ (lz (List.mem_map_of_mem (List.getElem_mem (by omega))) hn)))⟩
        .refine⟨rest[i-len]'(by omega),?_,fun n hn=>hW n (List.mem_cons_of_mem _ (List.mem_append_right _ (lz (List.mem_map_of_mem (List.getElem_mem (by omega))) hn)))⟩;have:=hRs (i-len) (by omega);rw[show len+(i-len)=i by omega]at this;rw[this];exact List.getElem?_eq_getElem (by omega)
       obtain⟨y,hy,hyw⟩:=this;rw[hce]at hy;obtain⟨vs,v1,v2⟩:=Option.bind_eq_some_iff.1 hy;exact⟨y,vs,v1,v2,hyw⟩
      have rows:∀k,k<=cap->∃(S':AS)(ρ':aO)(oC:List AV),iL S ρ S' ρ'/\tt S'/\R Λ ρ' S' W/\oC.length=k*(z+1)/\(∀i,i<oC.length->∃x v,oC[i]?=some x/\W.cell? (a.add i)=some v/\ah ρ' x v/\v.oneCell'=true) /\
        ∀i,i<k->bO cx S' m e ((oC.drop (i*(z+1))).take (z+1)):=by
       intro k
       induction k with
       |zero=>intro _;exact⟨S,ρ,[],iL.refl _ _,hz,hR,by simp,fun i hi=>by simp at hi,fun i hi=>by omega⟩
       |succ k ih=>
        intro hk;obtain⟨S1,ρ1,l1,g1,z1,r1,e1,p1,t1⟩:=ih (by omega);obtain⟨y,vs,v1,v2,v3⟩:=each k (by omega);obtain⟨S2,ρ2,l2,g2,z2,r2,e2,p2,t2⟩:=absorb aC m e hpe n vs y S1 ρ1 z1 r1 v2 v3;obtain⟨_,c2,c3⟩:=World.cells?_some v1;have l2l:l2.length=z+1:=by rw[e2.length,c2]
        refine⟨S2,ρ2,l1++l2,g1.trans g2,z2,r2,by simp[e1,l2l,Nat.succ_mul],fun i hi=>?_,fun i hi=>?_⟩
        .by_cases h1:i<l1.length
         .obtain⟨x,v,a1,a2,a3,a4⟩:=p1 i h1;exact⟨x,v,by rw[List.getElem?_append_left h1];exact a1,a2,a3.mono g2.ext _ _,a4⟩
         .have hi2:i-l1.length<l2.length:=by simp at hi;omega
          have hx:l2[i-l1.length]?=some l2[i-l1.length]:=List.getElem?_eq_getElem hi2;obtain⟨v,w1,w2⟩:=e2.get hx;refine⟨_,v,by rw[List.getElem?_append_right (by omega)];exact hx,?_,w2,p2 v (List.mem_of_getElem? w1)⟩;have:=c3 (i-l1.length) (by omega);rw[CH,w1]at this;rw[<-this];congr 1;congr 1;omega
        .by_cases h1:i<k
         .have hle:i*(z+1)+(z+1)<=l1.length:=by
           rw[e1,<-Nat.succ_mul];exact Nat.mul_le_mul_right _ h1
          have:((l1++l2).drop (i*(z+1))).take (z+1)=(l1.drop (i*(z+1))).take (z+1):=by
           rw[List.drop_append_of_le_length (by omega),List.take_append_of_le_length (by simp;omega)]
          rw[this];exact iG g2.h g2.next _ _ _ (t1 i h1)
         .obtain rfl:i=k:=by omega
          have:((l1++l2).drop (i*(z+1))).take (z+1)=l2:=by
           rw[<-e1,List.drop_left,List.take_of_length_le (Nat.le_of_eq l2l)]
          rw[this];exact t2
      obtain⟨S1,ρ1,l1,g1,z1,r1,e1,p1,t1⟩:=rows cap (Nat.le_refl _);by_cases pG:cap=0
      .subst pG;obtain rfl:len=0:=by omega
       obtain⟨ρ2,pl,q1,q2,q3,q4⟩:=r1.outNone z1;refine⟨_,ρ2,[.slice S1.next 1 0 0 (0*(z+1)) (z+1) (some 0)],g1.trans q3,q4,q2,au.cons ?_ au.nil,fun v hv=>?_,?_⟩
       .simp only[ah];exact⟨pl,0,q1,by simp,by simp,Nat.succ_pos _,Nat.le_refl _,.inr ⟨by trivial,by trivial,fun k hk=>by cases hk;rfl,a,by rfl⟩⟩
       .simp at hv;subst hv;rfl
       .unfold bO;simp only[hu];exact .inr ⟨S1.next,0,0,z+1,rfl,hs,Nat.succ_pos _,Nat.le_refl _,Nat.zero_le _,fun bs _=>by rw[Nat.zero_mul];exact Nat.zero_le _,Nat.lt_succ_self _,.inl rfl⟩
      .have hpos:0<l1.length:=by rw[e1];exact Nat.mul_pos (by omega) (Nat.succ_pos _)
       obtain⟨x0,v0,_,b2,_,_⟩:=p1 0 hpos;have b2':W.cell? a=some v0:=by simpa[Addr.add]using b2
       unfold World.cell? at b2';cases hbk:W.heap[a.block]? with
       |none=>rw[hbk]at b2';cases b2'
       |some o=>
        rw[hbk]at b2';cases o<;>simp only[reduceCtorEq]at b2';rename_i C ty fr;have hspot:a.spot=none:=by
         cases hsp:a.spot with
         |none=>rfl
         |some s=>rw[hsp]at b2';simp at b2'
        have kD:∀i v,W.cell? (a.add i)=some v->C[a.off+i]?=some v:=by
         intro i v hv;unfold World.cell? at hv;rw[ChangeShapes.block_add,hbk]at hv;simp only[]at hv;split at hv
         .cases hv
         .rw[<-hv];by_cases hi:i=0
          .subst hi;simp[Addr.add]
          .simp[Addr.add,hi]
        have hpt:∀i,i<l1.length->∃x v,l1[i]?=some x/\C[a.off+i]?=some v/\ah ρ1 x v/\v.oneCell'=true:=by
         intro i hi;obtain⟨x,v,a1,a2,a3,a4⟩:=p1 i hi;exact⟨x,v,a1,kD i v a2,a3,a4⟩
        have hle:a.off+l1.length<=C.size:=by
         obtain⟨x,v,_,a2,_⟩:=hpt (l1.length-1) (by omega);have:=(Array.getElem?_eq_some_iff.1 a2).1;omega
        obtain⟨ρ2,pl,q1,q2,q3,q4,q5,q6,q7,q8⟩:=r1.outRow z1 hbk hle hpt;refine⟨_,ρ2,[.slice S1.next 1 0 len (cap*(z+1)) (z+1) (some cap)],g1.trans q7,q8,q6,au.cons ?_ au.nil,fun v hv=>?_,?_⟩
        .simp only[ah];have hN:a.off+cap*(z+1)<=C.size:=by rw[<-e1];exact hle
         refine⟨pl,cap,q1,by rw[q4,e1];exact Nat.le_refl _,by rw[Nat.zero_add];exact Nat.mul_le_mul_right _ hlen,Nat.succ_pos _,hlen,.inl ⟨?_,by rw[q3,q5];exact hN,fun k hk=>by cases hk;exact⟨rfl,by omega⟩⟩⟩;obtain⟨ab,ao,asp⟩:=a;simp only at hspot q2 q3;subst hspot;rw[q2,q3];rfl
        .simp at hv;subst hv;rfl
        .unfold bO;simp only[hu];refine .inr ⟨S1.next,len,cap,z+1,rfl,hs,Nat.succ_pos _,hlen,mW,hcapB,Nat.lt_succ_self _,.inr ⟨l1,ty,aa _ _ _,e1,fun i hi=>?_⟩⟩;exact iG q7.h q7.next _ _ _ (t1 i hi)
  ·-- records
   rename_i fs hu;rw[Bool.and_eq_true,List.all_eq_true]at hp;obtain⟨hpf,htl⟩:=hp;cases hs:aE cx t with
   |none=>rw[hs]at htl;cases htl
   |some N=>
    rw[hs]at htl;simp only[]at htl;obtain⟨xs,n,rfl,hxe,qY,hxl,hF⟩:=DataW.trod_struct (dh aC hu) h;rw[lG aC hs]at qY;have hwt:DataW.weights P t (.agg (xs.map (·.1)))=DataW.weightsEach P (fs.toList.map (·.type)) (xs.map (·.1)):=by
     simp only[DataW.weights,dh aC hu]
    subst hxe;replace hW:∀n,n∈DataW.weights P t (.agg (xs.map (·.1)))->n<=reachBytes:=hW;rw[hwt]at hW;have go:∀(l:List Field)(i off:Nat),(∀j f,l[j]?=some f->fs[i+j]?=some f)->oI cx l off N=true->off<=N->∀(S:AS)(ρ:aO),tt S->R Λ ρ S W ->
      ∃S' ρ' oC,iL S ρ S' ρ'/\tt S'/\R Λ ρ' S' W/\au ρ' oC (cs.drop off)/\(∀v,v∈cs.drop off->v.oneCell'=true)/\qx (aE cx) (bO cx S' m) (l.map (·.type)) oC:=by
     intro l
     induction l with
     |nil=>
      intro i off _ ht _ S ρ hz hR;have:off=N:=by simpa[oI,bF]using ht
      subst this;have hd:cs.drop off=[]:=List.drop_eq_nil_of_le (by omega);refine⟨S,ρ,[],iL.refl _ _,hz,hR,by rw[hd];exact au.nil,?_,rfl⟩;intro v hv;rw[hd]at hv;cases hv
     |cons f l ih=>
      intro i off hl ht yO S ρ hz hR;unfold oI at ht;rw[Bool.and_eq_true,bF,decide_eq_true_eq]at ht;obtain⟨hfo,ht⟩:=ht;cases hsf:aE cx f.type with
      |none=>rw[hsf]at ht;cases ht
      |some zf=>
       rw[hsf]at ht;simp only[]at ht;have hfi:fs[i]?=some f:=by have:=hl 0 f rfl;simpa using this
       have hi:i<xs.length:=by
        have:=(Array.getElem?_eq_some_iff.1 hfi).1;omega
       have htr:=hF i f hfi;rw[List.getElem?_eq_getElem hi,lG aC hsf,hfo]at htr;have vj:f∈fs.toList:=by rw[Array.mem_toList_iff];exact Array.mem_of_getElem? hfi
       obtain⟨S1,ρ1,l1,g1,z1,r1,e1,o1,t1⟩:=absorb aC m f.type (hpf f vj) n _ _ S ρ hz hR htr (fun n hn=>hW n (DataW.weights_mem_each (j:=i) (by rw[List.getElem?_map,Array.getElem?_toList,hfi];rfl) (by rw[List.getElem?_map,List.getElem?_eq_getElem hi];rfl) n hn));have hle:off+zf<=N:=by
        have mono:∀(l:List Field)(o:Nat),oI cx l o N=true->o<=N:=by
         intro l
         induction l with
         | nil => intro o h; have : o = N := by simpa [oI, bF] using h
                  omega
         |cons g l ih=>
          intro o h;unfold oI at h;rw[Bool.and_eq_true]at h;cases hg:aE cx g.type with
          |none=>rw[hg]at h;cases h.2
          |some zg=>rw[hg]at h;have:=ih _ h.2;omega
        exact mono l _ ht
       obtain⟨S2,ρ2,l2,g2,z2,r2,e2,o2,t2⟩:=ih (i+1) (off+zf) (fun j f' hj=>by have:=hl (j+1) f' (by simpa using hj);rw[<-this];congr 1;omega) ht hle S1 ρ1 z1 r1;have hsp:cs.drop off=(cs.drop off).take zf++cs.drop (off+zf):=by
        rw[<-List.drop_drop];exact (List.take_append_drop zf (cs.drop off)).symm
       have hl1:l1.length=zf:=by rw[e1.length];simp;omega
       refine⟨S2,ρ2,l1++l2,g1.trans g2,z2,r2,by rw[hsp];exact (e1.mono g2.ext).append e2,fun v hv=>?_,l1,l2,rfl,by rw[hl1];exact hsf,iG g2.h g2.next _ _ _ t1,t2⟩;rw[hsp]at hv;rcases List.mem_append.1 hv with hv|hv
       .exact o1 v hv
       .exact o2 v hv
    obtain⟨S1,ρ1,l1,g1,z1,r1,e1,o1,t1⟩:=go fs.toList 0 0 (fun j f hj=>by rw[Nat.zero_add,<-Array.getElem?_toList];exact hj) htl (Nat.zero_le _) S ρ hz hR;refine⟨S1,ρ1,l1,g1,z1,r1,by simpa using e1,fun v hv=>o1 v (by simpa using hv),?_⟩;unfold bO;simp only[hu];exact t1
termination_by m=>m
def Dz(l:List AV):AV:=match l with|[v]=>v|_=>.top
def argA(cx:Cx)(t:TypeId)(l:List AV):AV:=match aG cx t with|some true=>.agg l|_=>Dz l
def mE(cx:Cx)(S:AS)(m:Nat):List TypeId->List AV->Prop
 |[],l=>l=[]
 |t::ts,l=>∃oC r,l=argA cx t oC::r/\bO cx S m t oC/\mE cx S m ts r
theorem absorb_arg(aC:dq Λ P cx){m:Nat}{t:TypeId}(hp:pj cx m t=true){v:Value}{d:DataW H}{ps:List MemPlace}{r:Reach}{b0:Nat}(hv:Value.okWide P W r b0 t v)(S:AS)(ρ:aO)(hz:tt S)(hR:R Λ ρ S W)
  (h:DataW.Trod enc P W base (fun _=>true) held t v d ps) (hW:∀n,n∈d.weights P t->n<=reachBytes):∃S' ρ' oC,iL S ρ S' ρ'/\tt S'/\R Λ ρ' S' W/\ah ρ' (argA cx t oC) v/\bO cx S' m t oC:=by
 obtain⟨fuel,h⟩:=h;obtain⟨S1,ρ1,l1,g1,z1,r1,e1,o1,t1⟩:=absorb aC m t hp fuel _ _ S ρ hz hR h hW;refine⟨S1,ρ1,l1,g1,z1,r1,?_,t1⟩;cases m with
 |zero=>exact t1.elim
 |succ m=>
  unfold pj at hp;unfold argA aG;unfold Value.okWide at hv;have flat:v.cells.toList.length=1->(∀cs,v≠.agg cs)->ah ρ1 (Dz l1) v:=by
   intro _ cS;have hc:v.cells.toList=[v]:=by cases v<;>first|rfl|exact absurd rfl (cS _)
   rw[hc]at e1;cases l1 with
   |nil=>simp only[Dz,ah]
   |cons x l=>
    simp only[au]at e1;obtain⟨y,ys,ee,q1,q2⟩:=e1;cases ee;cases l with
    |nil=>exact q1
    |cons z l=>simp only[Dz,ah]
  have Bw:(∀fs,P.underlying t≠some (.struct fs))->(∀n e,P.underlying t≠some (.array n e))->∀cs,v≠.agg cs:=by
   intro h1 h2 cs e;subst e;have hv':Cell.okWide P W r b0 t (.agg cs):=by
    split at hv
    .rename_i fs hu;exact absurd hu (h1 fs)
    .rename_i n e hu;exact absurd hu (h2 n e)
    .exact hv
   unfold Cell.okWide at hv';cases hu:P.underlying t with
   |none=>rw[hu]at hv';simp[Cell.ok,hu]at hv'
   |some dd=>
    rw[hu]at hv';cases dd<;>simp[Cell.ok,hu]at hv'
  have one:(∀cs,v≠.agg cs)->v.cells.toList.length=1:=by
   intro cS;cases v<;>first|rfl|exact absurd rfl (cS _)
  split at hp<;>(try (cases hp;done))<;>rename_i hu<;>simp only[hu]
  .have cS:=Bw (fun fs e=>by rw[dh aC hu]at e;cases e) (fun n e e'=>by rw[dh aC hu]at e';cases e');exact flat (one cS) cS
  .have cS:=Bw (fun fs e=>by rw[dh aC hu]at e;cases e) (fun n e e'=>by rw[dh aC hu]at e';cases e');exact flat (one cS) cS
  .have cS:=Bw (fun fs e=>by rw[dh aC hu]at e;cases e) (fun n e e'=>by rw[dh aC hu]at e';cases e');exact flat (one cS) cS
  .have cS:=Bw (fun fs e=>by rw[dh aC hu]at e;cases e) (fun n e e'=>by rw[dh aC hu]at e';cases e');exact flat (one cS) cS
  .rw[dh aC hu]at hv;simp only[]at hv;obtain⟨cs,rfl,_⟩:=hv;simp only[ah];exact⟨cs,rfl,e1,o1⟩
theorem yb(aC:dq Λ P cx){m:Nat}{r:Reach}{b0:Nat}:∀(ts:List TypeId)(vs:List Value)(ds:List (DataW H))(p:List MemPlace)(S:AS)(ρ:aO),ts.all (pj cx m)=true ->
  (∀(j:Nat)t v,ts[j]?=some t->vs[j]?=some v->Value.okWide P W r b0 t v)->tt S->R Λ ρ S W->DataW.TrodAll enc P W base (fun _=>true) held ts vs ds p->(∀n,n∈DataW.weightsEach P ts ds->n<=reachBytes) ->
  ∃S' ρ' l,iL S ρ S' ρ'/\tt S'/\R Λ ρ' S' W/\au ρ' l vs/\mE cx S' m ts l
 |[],vs,ds,p,S,ρ,_,_,hz,hR,h,_=>by
  cases vs with
  |nil=>exact⟨S,ρ,[],iL.refl _ _,hz,hR,au.nil,rfl⟩
  |cons v vs=>cases ds<;>exact h.elim
 |t::ts,vs,ds,p,S,ρ,hp,hv,hz,hR,h,hW=>by
  cases vs with
  |nil=>cases ds<;>exact h.elim
  |cons v vs=>
   cases ds with
   |nil=>exact h.elim
   |cons d ds=>
    obtain⟨p1,p2,h1,h2,_⟩:=h;simp only[List.all_cons,Bool.and_eq_true]at hp;obtain⟨S1,ρ1,a1,g1,z1,r1,e1,t1⟩:=absorb_arg aC hp.1 (hv 0 t v rfl rfl) S ρ hz hR h1 (fun n hn=>hW n (by simp only[DataW.weightsEach];exact List.mem_append_left _ hn));obtain⟨S2,ρ2,l2,g2,z2,r2,e2,t2⟩:=yb aC ts vs ds p2 S1 ρ1 hp.2 (fun j t' v' h1 h2=>hv (j+1) t' v' (by simpa using h1) (by simpa using h2)) z1 r1 h2 (fun n hn=>hW n (by simp only[DataW.weightsEach];exact List.mem_append_right _ hn));exact⟨S2,ρ2,_,g1.trans g2,z2,r2,au.cons (e1.mono g2.ext _ _) e2,a1,l2,rfl,iG g2.h g2.next _ _ _ t1,t2⟩
end
theorem law_args{H:Type}{enc:TypeId×Value->H}{P:Program}{A:Ask}{W:World}{base:Nat}{held:Bool}{B:Nat->Prop}(hB:∀b,B b->b<W.heap.size)(hr:vd P A)(hp:∀x,x∈A.dE->fw ⟨W,fun b=>b<W.heap.size⟩ P x.1 x.2)
  (hg:∀x,x∈A.kE->rY W B x.1 x.2) {f:FuncId} {args:Array Value} {ts:List TypeId} {ds:List (DataW H)} {p:List MemPlace} {r:Reach} {b0:Nat} (m:Nat) (ht:ts.all (pj (vf P A) m)=true)
  (hv:∀(j:Nat)t v,ts[j]?=some t->args[j]?=some v->Value.okWide P W r b0 t v) (h:DataW.TrodAll enc P W base (fun _=>true) held ts args.toList ds p) (hW:∀n,n∈DataW.weightsEach P ts ds->n<=reachBytes)
  (hc:∀(S:AS)(aY:List AV),(∀id,S.next<=id->S.h.get id=none)->mE (vf P A) S m ts aY->ai (vf P A) f aY S fun v _=>v=.bool true) :
  Calls P f args W fun e w'=>e=.returned (.bool true)/\Below W.heap.size W w':=by
 have xv:∀x,x∈A.kE->rY W (fun b=>b<W.heap.size) x.1 x.2:=fun x hx=>let ⟨a,b⟩:=hg x hx;⟨hB _ a,b⟩
 have aC:=cx_ok (Λ:=⟨W,fun b=>b<W.heap.size⟩) hr hp xv;have hR0:=empty_R (Λ:=⟨W,fun b=>b<W.heap.size⟩) W (Nat.le_refl _) (fun b hb=>⟨hb,rfl⟩);obtain⟨S,ρ,l,_,_,hR,hl,hty⟩:=yb aC (r:=r) (b0:=b0) ts args.toList ds p ⟨.leaf,0⟩ _ ht (fun j t v h1 h2=>hv j t v h1 (by rw[<-Array.getElem?_toList];exact h2)) (fun id o ho=>by cases ho) hR0 h hW;have hdom:∀id,S.next<=id->S.h.get id=none:=by
  intro id hi;cases ho:S.h.get id with
  |none=>rfl
  |some o=>have:=hR.sY id o ho;omega
 refine (Fw hr hp xv hR hl (hc S l hdom hty)).2.mono ?_;rintro e w' ⟨x,v,S',ρ',rfl,h1,rfl,h3,h4⟩;simp only[ah]at h1;refine⟨by rw[h1],h4.os,h4.tape,h4.output,h4.size,fun k hk=>(h3.base k hk).2.1⟩
end Go.Am
end
namespace Go.Am
open Go
set_option linter.unusedVariables false
set_option linter.unusedSimpArgs false
theorem rW{cx:Cx}{S:AS}{t u:Nat}{ts:List TypeId}{p:Nat×Nat×Nat}{v x:AV}{cs ds:List AV}{d:TypeDesc}(h:oz cx t=some p)(hu:bC cx u=some d)(hd:Bv d=true)
  (ho:Gw S v p.2.1 p.1 cs) {nx:Nat} (ht:taken S p.2.1 x=some (nx,ds)) (hlen:ds.length=nx*p.2.1) (hf:fits (sLen v+nx) p.2.2=true) :
  ∃v' T,bg cx S .append (t::u::ts) [v,x]=.val v' T/\Gw T v' p.2.1 p.1 (cs++ds)/\(∀id,id<S.next->id+1≠aB v->T.h.get id=S.h.get id)/\S.next<=T.next/\sLen v'=sLen v+nx/\(isNil v'=(isNil v&&decide (nx=0))) /\
   (aB v'=aB v\/S.next<aB v')/\(nx≠0->capNo v'=true):=by
 rw[rV h hu hd];obtain⟨ho1,qL⟩:=ho;cases hn:nx with
 |zero=>
  rw[hn]at ht hlen;have qv:ds=[]:=by rw[Nat.zero_mul]at hlen;exact List.length_eq_zero_iff.1 hlen
  subst qv;refine⟨v,S,?_,by rw[List.append_nil];exact⟨ho1,qL⟩,fun _ _ _=>rfl,Nat.le_refl _,rfl,by simp,.inl rfl,fun h=>absurd rfl h⟩;unfold fu;rcases qL with rfl|⟨id,g,off,n,lim,cap,rfl,_⟩
  .simp[ht,dN]
  .simp[ht,bF,dN]
 |succ m=>
  rw[hn]at ht hlen hf;rcases qL with rfl|⟨id,g,off,n,lim,cap,rfl,hc,cq,cells,low,top,hg,hl,htq⟩
  .have hcs:cs=[]:=by have:=ho1.rd;simp only[jR,Option.some.injEq]at this;exact this.symm
   subst hcs;have jm:Own (⟨S.h.set S.next (.row ds 0 0 false p.1),S.next+1⟩:AS) S.next (.slice S.next 0 0 (m+1) ((m+1)*p.2.1) p.2.1 none) p.2.1 p.1 ds:=
    .inr ⟨S.next,0,0,m+1,rfl,Nat.le_refl _,Nat.lt_succ_self _,aa _ _ _,Nat.le_refl _,hlen⟩
   refine⟨.slice S.next 0 0 (m+1) ((m+1)*p.2.1) p.2.1 none,⟨S.h.set S.next (.row ds 0 0 false p.1),S.next+1⟩,?_,jm.gw,fun i hi _=>ae _ _ (by omega),Nat.le_succ _,by simp[sLen],by simp[isNil],.inr (by simp[aB]),fun _=>rfl⟩;unfold fu;have EJ:fits (m+1) p.2.2=true:=by simpa[sLen]using hf
   simp only[ht,EJ,cond_true,grown];simp[dN]
  .have htop:g<=top:=Nat.le_of_eq htq;have qY:(cells.drop off).take (n*p.2.1)=cs/\cs.length=n*p.2.1:=by
    have h1:=ho1.rd;have h2:=ho1.len;simp only[sLen]at h2;refine⟨?_,h2⟩;cases n with
    |zero=>simp only[jR,Option.some.injEq]at h1;subst h1;simp
    |succ n=>
     simp only[jR,dJ,hg,bt]at h1;split at h1
     .simpa using h1
     .cases h1
   obtain⟨qY,hcn⟩:=qY;have xr:(cs++ds).length=(n+(m+1))*p.2.1:=by rw[List.length_append,hcn,hlen];exact (Nat.add_mul n (m+1) p.2.1).symm
   simp only[sLen]at hf;have e1:Nat.add n (m+1)=n+(m+1):=rfl;have e2:Nat.mul n p.2.1=n*p.2.1:=rfl;have e3:Nat.mul (n+(m+1)) p.2.1=(n+(m+1))*p.2.1:=rfl;cases cap with
   |some c=>
    simp only[Fu,decide_eq_true_eq]at hc;subst hc;have jm:Own (⟨S.h.set S.next (.row (cs++ds) 0 0 false p.1),S.next+1⟩:AS) S.next (.slice S.next 0 0 (c+(m+1)) ((c+(m+1))*p.2.1) p.2.1 none) p.2.1 p.1 (cs++ds):=
     .inr ⟨S.next,0,0,c+(m+1),rfl,Nat.le_refl _,Nat.lt_succ_self _,aa _ _ _,Nat.le_refl _,xr⟩
    refine⟨.slice S.next 0 0 (c+(m+1)) ((c+(m+1))*p.2.1) p.2.1 none,_,?_,jm.gw,fun i hi _=>ae _ _ (by omega),Nat.le_succ _,rfl,by simp[isNil],.inr (by simp[aB]),fun _=>rfl⟩;unfold fu;have e4:decide (c+(m+1)<=c)=false:=by simp
    simp only[ht,bF,decide_true,cond_true,hg,cH,hl,htop,Bool.and_self,aN,e1,hf,e2,e4,cond_false,grown,ct,ca,bz,e3,qY];rfl
   |none=>
    unfold fu;by_cases hw:(decide (off=0)&&decide (g=top)&&decide (cells.length=n*p.2.1))=true
    .simp only[Bool.and_eq_true,decide_eq_true_eq]at hw;obtain⟨⟨rfl,rfl⟩,hw⟩:=hw;have qM:cells=cs:=by rw[<-qY,List.drop_zero,<-hw,List.take_length]
     subst qM;refine⟨.slice id (g+1) 0 (n+(m+1)) ((n+(m+1))*p.2.1) p.2.1 none,⟨S.h.set id (.row (cells++ds) low (g+1) false p.1),S.next⟩,?_,?_,fun i hi cS=>ae _ _ (fun e=>cS (by simp[aB,e])),Nat.le_refl _,rfl,by simp[isNil],.inl rfl,fun _=>rfl⟩
     .simp only[ht,bF,decide_true,cond_true,hg,cH,hl,Nat.le_refl,Bool.and_self,aN,e1,hf,Bool.not_true,Bool.or_false,cond_false,bJ,hcn,e2,e3,bz];rfl
     .have jm:Own (⟨S.h.set id (.row (cells++ds) low (g+1) false p.1),S.next⟩:AS) 0 (.slice id (g+1) 0 (n+(m+1)) ((n+(m+1))*p.2.1) p.2.1 none) p.2.1 p.1 (cells++ds):=
       .inr ⟨id,g+1,low,n+(m+1),rfl,Nat.zero_le _,cq,aa _ _ _,Nat.le_succ_of_le hl,xr⟩
      exact jm.gw
    .have hw':(decide (off=0)&&decide (g=top)&&decide (cells.length=n*p.2.1))=false:=by simpa using hw
     refine⟨.slice id (top+1) 0 (n+(m+1)) ((n+(m+1))*p.2.1) p.2.1 none,⟨S.h.set id (.row (cs++ds) (top+1) (top+1) false p.1),S.next⟩,?_,?_,fun i hi cS=>ae _ _ (fun e=>cS (by simp[aB,e])),Nat.le_refl _,rfl,by simp[isNil],.inl rfl,fun _=>rfl⟩
     .simp only[ht,bF,decide_true,cond_true,hg,cH,hl,htop,Bool.and_self,aN,e1,hf,Bool.not_true,Bool.or_false,cond_false,bJ,e2,e3,bz,ct,ca,qY,hw'];rfl
     .have jm:Own (⟨S.h.set id (.row (cs++ds) (top+1) (top+1) false p.1),S.next⟩:AS) 0 (.slice id (top+1) 0 (n+(m+1)) ((n+(m+1))*p.2.1) p.2.1 none) p.2.1 p.1 (cs++ds):=
       .inr ⟨id,top+1,top+1,n+(m+1),rfl,Nat.zero_le _,cq,aa _ _ _,Nat.le_refl _,xr⟩
      exact jm.gw
def az(l:List Nat):List AV:=l.map fun n:Nat=>AV.int .u8 (n:Int)
theorem aD(l:List Nat):(az l).length=l.length:=by simp[az]
theorem fE(l m:List Nat):az l++az m=az (l++m):=by simp[az]
theorem mapL_bytA(s:List Nat):mS (fun n=>AV.int .u8 (.ofNat n)) s=az s:=by
 induction s with
 |nil=>rfl
 |cons x s ih=>show AV.int .u8 (.ofNat x)::mS _ s=AV.int .u8 (x:Int)::az s;rw[ih];rfl
theorem u6:∀(s:List Nat),(∀c,c∈s->c<256)->rP (az s)=some s
 |[],_=>rfl
 |x::s,h=>by
  show qB (.int .u8 (x:Int)) (rP (az s))=_;rw[u6 s fun c hc=>h c (List.mem_cons_of_mem _ hc)];have hx:=h x (List.mem_cons_self ..);show cond (Nat.blt x 256) (some (x::s)) none=_;rw[gH];simp[hx]
noncomputable def strT(cx:Cx)(t:TypeId):Bool:=match bC cx t with|some .string=>true|_=>false
theorem mG{cx:Cx}{t:TypeId}(h:strT cx t=true):bC cx t=some .string:=by
 unfold strT at h;split at h
 .assumption
 .cases h
noncomputable def bytE(cx:Cx)(t:TypeId):Option TypeId:=match bC cx t with|some (.slice e)=>(match bC cx e with|some (.int .u8)=>some e|_=>none)|_=>none
theorem FE{cx:Cx}{t e:TypeId}(h:bytE cx t=some e):bC cx t=some (.slice e)/\bC cx e=some (.int .u8):=by
 unfold bytE at h;split at h
 .rename_i e' h1;split at h
  .rename_i h2;cases h;exact⟨h1,h2⟩
  .cases h
 .cases h
def strOf:AV->Option (List Nat) | .str s=>some s|_=>none
theorem strOf_str{s:List Nat}:strOf (.str s)=some s:=rfl
section
variable{cx:Cx}{F:Fr}{S:AS}{dst:Option Tmp}{ty:TypeId}{pos:String}{af:Array Edge}{gd:Option (Nat×Bool)}
theorem lL{t:TypeId}{x ix:Operand}{v w:AV}{s:List Nat}{i c:Nat}(hx:eval F x=v)(hv:strOf v=some s)(hi:eval F ix=w)(hw:eR w=some i)(h:strT cx t=true)(hc:s[i]?=some c):
  bj cx F S ⟨dst,.index t x ix,ty,pos,af,gd⟩=.val (.int .u8 c) S:=by
 subst hx hi;have hu:=mG h;cases hx:eval F x<;>rw[hx]at hv<;>simp only[strOf]at hv<;>cases hv;have iO:nth i s=some c:=by rw[iw];exact hc
 simp only[bj,hu,hx,hw,iO];rfl
theorem uQ{t:TypeId}{s:List Nat}{lo hi:Option Operand}{l k:Nat}(h:strT cx t=true)(hl:bound F lo 0=some l)(hh:bound F hi s.length=some k)(h1:l<=k)(h2:k<=s.length):
  eK cx F t (.str s) lo hi none=some (.str ((s.drop l).take (k-l))):=by
 have hb:bounds F s.length s.length lo hi none=some (l,k,s.length):=by
  unfold bounds;rw[hl,hh];have e:bound F none s.length=some s.length:=rfl;rw[e];simp[cH,h1,h2,yp]
 unfold eK;simp only[mG h,hb,ct,ca];rfl
theorem aop_bytes{a b e:TypeId}{x:Operand}{v:AV}{s:List Nat}(hx:eval F x=v)(hv:strOf v=some s)(ha:strT cx a=true)(hb:bytE cx b=some e):
  bj cx F S ⟨dst,.convert a b x,ty,pos,af,gd⟩=.val (.slice S.next 0 0 s.length s.length 1 none) ⟨S.h.set S.next (.row (az s) 0 0 true e),S.next+1⟩:=by
 subst hx;cases hx:eval F x<;>rw[hx]at hv<;>simp only[strOf]at hv<;>cases hv;obtain⟨h1,h2⟩:=FE hb;simp only[bj,mG ha,h1,h2,hx,mapL_bytA]
theorem jZ{a b e:TypeId}{x:Operand}{v:AV}{s:List Nat}(h:Sl S v 1 (az s))(hs:∀c,c∈s->c<256)(hx:eval F x=v)(ha:bytE cx a=some e)(hb:strT cx b=true):
  bj cx F S ⟨dst,.convert a b x,ty,pos,af,gd⟩=.val (.str s) S:=by
 obtain⟨h1,h2⟩:=FE ha;have hlen:=h.len;rw[aD,Nat.mul_one]at hlen;rcases h.cases with rfl|⟨id,g,off,n,lim,cap,rfl⟩
 .have:s=[]:=List.length_eq_zero_iff.1 (by rw[hlen];rfl);subst this;simp only[bj,h1,mG hb,hx,h2]
 .have vJ:=h.rd;simp only[sLen]at hlen;cases n with
  |zero=>
   have:s=[]:=List.length_eq_zero_iff.1 hlen;subst this;simp only[bj,h1,mG hb,hx,h2]
  |succ n=>
   simp only[jR,Nat.mul_one]at vJ;simp only[bj,h1,mG hb,hx,h2];rw[vJ];simp only[u6 s hs]
end
end Go.Am
