/-
  The abstract machine: arguments that lie in memory. What a reading of integers, truths, texts, records and slices of them tells, laid as rows from outside.
-/
import Derived.Test.YtdknlbnljfdhgaaGreatDoorAmHeap
import Derived.ChangeSlices
import Derived.ChangeArms
import Derived.DataReads
import Derived.SizedLaws
import Derived.Test.YtdknlbnljfdhgaaGreatDoorAmWide
open Nat renaming le_refl->zza,lt_succ_self->zzd,succ_pos->zzh,zero_le->zzk,le_succ->zzl
open List renaming getElem?_eq_getElem->zzb,mem_append_right->zzf,mem_cons_of_mem->zzi,mem_append_left->zzj
open Bool renaming and_eq_true->zzc,and_self->zzm
open Array renaming getElem?_toList->zze
open Option.some renaming injEq->zzg
set_option linter.unusedVariables false
set_option linter.unusedSimpArgs false
noncomputable section
namespace Go.Am
open Go Go.RowKit
variable{Λ:LB}
def vC(S:AS):Prop:=∀id o,S.h.get id=some o->Rf o
structure jD(S:AS)(ρ:aY)(S':AS)(ρ':aY):Prop where
 ext:Ext ρ ρ'
 h:∀id o,S.h.get id=some o->S'.h.get id=some o
 nx:S.nx<=S'.nx
theorem jD.refl(S:AS)(ρ:aY):jD S ρ S ρ:=⟨Ext.refl _,fun _ _ h=>h,zza _⟩
theorem jD.trans{A B C:AS}{a b c:aY}(h:jD A a B b)(k:jD B b C c):jD A a C c:=⟨h.ext.trans k.ext,fun id o x=>k.h id o (h.h id o x),Nat.le_trans h.nx k.nx⟩
theorem R.jcU{ρ:aY}{S:AS}{w:World}(h:R Λ ρ S w)(hz:vC S){b off:Nat}{C:Array Value}{ty:TypeId}{fr:Nat×Nat}{cells:List AV}(hw:w.heap[b]?=some (.cells C ty fr))(hle:off+cells.length<=C.size)
  (Zo:∀i,i<cells.length->∃x v,cells[i]?=some x/\C[off+i]?=some v/\ai ρ x v/\v.oneCell'=true) :
  ∃ρ' pl,ρ' S.nx 1=some pl/\pl.b=b/\pl.base=off/\pl.n=cells.length/\pl.N=C.size/\R Λ ρ' ⟨S.h.set S.nx (.row cells 1 1 true ty),S.nx+1⟩ w /\
   jD S ρ ⟨S.h.set S.nx (.row cells 1 1 true ty),S.nx+1⟩ ρ'/\vC ⟨S.h.set S.nx (.row cells 1 1 true ty),S.nx+1⟩:=by
 have hx:=gH (ρ:=ρ) (id:=S.nx) (g:=1) ⟨b,off,cells.length,C.size,hle⟩ (h.fresh _ _ (zza _));have ct:∀id o,S.h.get id=some o->id≠S.nx:=fun id o ho e=>by subst e;exact absurd (h.vm _ _ ho) (Nat.lt_irrefl _)
 have jm:∀id,id≠S.nx->(S.h.set S.nx (.row cells 1 1 true ty)).get id=S.h.get id:=fun id hi=>ae _ _ hi;have KR:∀id g,id≠S.nx->put ρ S.nx 1 ⟨b,off,cells.length,C.size,hle⟩ id g=ρ id g:=fun id g hi=>b9 _ _ (fun e=>hi e.1);have rn:vC ⟨S.h.set S.nx (.row cells 1 1 true ty),S.nx+1⟩:=by
  intro id o ho;by_cases hi:id=S.nx
  .subst hi;have uw:(S.h.set S.nx (.row cells 1 1 true ty)).get S.nx=some o:=ho;rw[aa]at uw;cases uw;exact⟨_,_,_,_,rfl⟩
  .exact hz id o (by rw[<-jm id hi];exact ho)
 refine⟨put ρ S.nx 1 ⟨b,off,cells.length,C.size,hle⟩,_,bK _ _ _ _,rfl,rfl,rfl,rfl,?_,⟨hx,fun id o ho=>?_,zzl _⟩,rn⟩
 .refine⟨fun id o ho=>?_,fun id o ho=>?_,fun id g hi=>?_,fun id c l t f y ho g hg=>?_,fun id o g pl ho hp=>?_,fun i j o oj g gj pl Rj sj ho Fz hp yC=>.inr ⟨rn i o ho,rn j oj Fz⟩,h.start,fun b' hb=>?_⟩
  .by_cases hi:id=S.nx
   .subst hi;have uw:(S.h.set S.nx (.row cells 1 1 true ty)).get S.nx=some o:=ho;rw[aa]at uw;cases uw;refine⟨zza _,fun g h1 h2=>?_,fun g k p q h1 h2 h3 h4 hp hq _=>?_⟩
    .obtain rfl:g=1:=by omega
     refine⟨_,C,fr,bK _ _ _ _,hw,rfl,hle,zza _,fun i hi=>?_,fun _=>rfl,fun e=>by (cases e),fun e=>by (cases e),fun e=>by (cases e)⟩;obtain⟨x,v,a1,a2,a3,a4⟩:=Zo i hi;exact⟨x,v,a1,a2,a3.mono hx _ _,a4⟩
    .obtain rfl:g=1:=by omega
     obtain rfl:k=1:=by omega
     rw[hp]at hq;cases hq;rfl
   .have uw:S.h.get id=some o:=by rw[<-jm id hi];exact ho
    exact (h.jE id o uw).ca hx fun g pl _=>rfl
  .by_cases hi:id=S.nx
   .subst hi;exact zzd _
   .exact Nat.lt_succ_of_lt (h.vm id o (by rw[<-jm id hi];exact ho))
  .have:S.nx+1<=id:=hi;rw[KR id g (by omega)];exact h.fresh id g (by omega)
  .by_cases hi:id=S.nx
   .subst hi;have uw:(S.h.set S.nx (.row cells 1 1 true ty)).get S.nx=some (.row c l t f y):=ho;rw[aa]at uw;cases uw;rw[b9 _ _ (by omega)];exact h.fresh _ _ (zza _)
   .rw[KR id g hi];exact h.sJ id c l t f y (by rw[<-jm id hi];exact ho) g hg
  .by_cases hi:id=S.nx
   .subst hi;by_cases hg:g=1
    .subst hg;rw[bK]at hp;cases hp;exact (Array.getElem?_eq_some_iff.1 hw).1
    .rw[b9 _ _ (by omega),h.fresh _ _ (zza _)]at hp;cases hp
   .rw[KR id g hi]at hp;exact h.lt id o g pl (by rw[<-jm id hi];exact ho) hp
  .obtain⟨d1,d2,_⟩:=h.base b' hb;exact⟨d1,d2,fun⟨i,o,g,pl,ho,Em,_⟩=>Em (rn i o ho)⟩
 .show (S.h.set S.nx (.row cells 1 1 true ty)).get id=some o;rw[jm id (ct id o ho)];exact ho
theorem R.Yn{ρ:aY}{S:AS}{w:World}(h:R Λ ρ S w)(hz:vC S):
  ∃ρ' pl,ρ' S.nx 1=some pl/\R Λ ρ' ⟨S.h,S.nx+1⟩ w/\jD S ρ ⟨S.h,S.nx+1⟩ ρ'/\vC ⟨S.h,S.nx+1⟩:=by
 have hx:=gH (ρ:=ρ) (id:=S.nx) (g:=1) ⟨0,0,0,0,zza _⟩ (h.fresh _ _ (zza _));have ct:∀id o,S.h.get id=some o->id≠S.nx:=fun id o ho e=>by subst e;exact absurd (h.vm _ _ ho) (Nat.lt_irrefl _)
 have KR:∀id g,id≠S.nx->put ρ S.nx 1 ⟨0,0,0,0,zza _⟩ id g=ρ id g:=fun id g hi=>b9 _ _ (fun e=>hi e.1);refine⟨put ρ S.nx 1 ⟨0,0,0,0,zza _⟩,_,bK _ _ _ _,?_,⟨hx,fun id o ho=>ho,zzl _⟩,hz⟩;refine⟨fun id o ho=>(h.jE id o ho).ca hx fun g pl _=>rfl,fun id o ho=>Nat.lt_succ_of_lt (h.vm id o ho),fun id g hi=>?_,fun id c l t f y ho g hg=>?_,fun id o g pl ho hp=>?_,fun i j o oj g gj pl Rj sj ho Fz hp yC=>.inr ⟨hz i o ho,hz j oj Fz⟩,h.start,fun b' hb=>?_⟩
 .have:S.nx+1<=id:=hi;rw[KR id g (by omega)];exact h.fresh id g (by omega)
 .rw[KR id g (ct id _ ho)];exact h.sJ id c l t f y ho g hg
 .rw[KR id g (ct id _ ho)]at hp;exact h.lt id o g pl ho hp
 .obtain⟨d1,d2,_⟩:=h.base b' hb;exact⟨d1,d2,fun⟨i,o,g,pl,ho,Em,_⟩=>Em (hz i o ho)⟩
def sy(sz:TypeId->Option Nat)(T:TypeId->List AV->Prop):List TypeId->List AV->Prop
 |[],l=>l=[]
 |t::ts,l=>∃a b,l=a++b/\sz t=some a.length/\T t a/\sy sz T ts b
def cf(cx:Cx)(S:AS):Nat->TypeId->List AV->Prop
 |0,_,_=>False
 |m+1,t,l=>match bN cx t with
  |some (.int k)=>∃n,l=[.int k n]/\k.min<=n/\n<=k.max
  |some .bool=>∃b,l=[.bool b]
  |some .string=>∃s:List Nat,l=[.str s]/\s.length<=reachBytes/\∀c,c∈s->c<256
  | some (.slice e)=>l=[.ar]∨∃ id len cap sz,l=[.slice id 1 0 len (cap*sz) sz (some cap)]∧aG cx e=some sz∧0<sz∧len≤cap∧cap≤maxLen∧(∀ bs,bytesOf cx e=some bs→cap*bs≤reachBytes)∧id<S.nx ∧
    (cap=0\/∃cells ty,S.h.get id=some (.row cells 1 1 true ty)/\cells.length=cap*sz/\∀i,i<cap->cf cx S m e ((cells.drop (i*sz)).take sz))
  |some (.struct fs)=>sy (aG cx) (cf cx S m) (fs.toList.map (·.type)) l
  |_=>False
def qD(cx:Cx):List Field->Nat->Nat->Bool
 |[],off,n=>Nat.beq off n
 |f::fs,off,n=>Nat.beq f.offset off&&(match aG cx f.type with|some z=>qD cx fs (off+z) n|none=>false)
def qV(cx:Cx):Nat->TypeId->Bool
 |0,_=>false
 |m+1,t=>match bN cx t with
  |some (.int _)=>true
  |some .bool=>true
  |some .string=>true
  |some (.slice e)=>qV cx m e&&(match aG cx e with|some (_+1)=>true|_=>false)
  |some (.struct fs)=>fs.toList.all (fun f=>qV cx m f.type)&&(match aG cx t with|some n=>qD cx fs.toList 0 n|none=>false)
  |_=>false
theorem vi{sz:TypeId->Option Nat}{T T':TypeId->List AV->Prop}(h:∀t l,T t l->T' t l):∀(ts:List TypeId)(l:List AV),sy sz T ts l->sy sz T' ts l
 |[],_,k=>k
 |_::ts,_,⟨a,b,e,s,x,y⟩=>⟨a,b,e,s,h _ _ x,vi h ts _ y⟩
theorem ju{cx:Cx}{S S':AS}(hh:∀id o,S.h.get id=some o->S'.h.get id=some o)(hn:S.nx<=S'.nx):∀(m:Nat)(t:TypeId)(l:List AV),cf cx S m t l->cf cx S' m t l
 |0,_,_,k=>k
 |m+1,t,l,k=>by
  unfold cf at k⊢;cases hu:bN cx t with
  |none=>rw[hu]at k;exact k.elim
  |some d=>
   rw[hu]at k;cases d<;>simp only[]at k⊢ <;> (try exact k)
   .rcases k with k|⟨id,len,cap,sz,k1,k2,k3,k4,k5,kb,k6,k7⟩
    .exact .inl k
    .refine .inr ⟨id,len,cap,sz,k1,k2,k3,k4,k5,kb,Nat.lt_of_lt_of_le k6 hn,?_⟩;rcases k7 with k7|⟨cells,ty,k7,k8,k9⟩
     .exact .inl k7
     .exact .inr ⟨cells,ty,hh _ _ k7,k8,fun i hi=>ju hh hn m _ _ (k9 i hi)⟩
   .exact vi (ju hh hn m) _ _ k
theorem Fk(a:Addr)(x y:Nat):(a.add x).add y=a.add (x+y):=by
 unfold Addr.add;by_cases hx:x=0<;>by_cases hy:y=0<;>simp[hx,hy,Nat.add_assoc]
theorem mI{H:Type}{P:Program}{e:TypeId}{d:DataW H}{n:Nat}:∀{l:List (DataW H)},d∈l->n∈d.weights P e->n∈DataW.weightsAll P e l
 |x::l,h,hn=>by
  simp only[DataW.weightsAll];rcases List.mem_cons.1 h with rfl|h
  .exact zzj _ hn
  .exact zzf _ (mI h hn)
theorem Lv{P:Program}{cx:Cx}(aF:dQ Λ P cx){t:TypeId}{n:Nat}(h:bytesOf cx t=some n):P.bytesOf t=n:=by
 unfold bytesOf at h;cases hi:cx.mf.get t with
 |none=>simp[hi]at h
 |some i=>
  simp only[hi,zzg]at h;simp[Program.bytesOf,aF.mf t i hi,h]
section
variable{H:Type}{enc:TypeId×Value->H}{P:Program}{W:World}{base:Nat}{held:Bool}{cx:Cx}
theorem LL(aF:dQ Λ P cx):∀(m:Nat)(t:TypeId),qV cx m t=true->∀(fuel:Nat)(cs:List Value)(x:DataW H×List MemPlace)(S:AS)(ρ:aY),vC S->R Λ ρ S W ->
  DataW.trod enc P W base (fun _=>true) held fuel t cs=some x->(∀n,n∈x.1.weights P t->n<=reachBytes) ->
  ∃S' ρ' qx,jD S ρ S' ρ'/\vC S'/\R Λ ρ' S' W/\ay ρ' qx cs/\(∀v,v∈cs->v.oneCell'=true)/\cf cx S' m t qx
 |0,_,hp,_,_,_,_,_,_,_,_,_=>by cases hp
 |m+1,t,hp,fuel,cs,x,S,ρ,hz,hR,h,hW=>by
  unfold qV at hp;split at hp<;>(try (cases hp;done))
  ·-- integers
   rename_i k hu;obtain⟨n,rfl,rfl,hw⟩:=DataW.trod_int (dK aF hu) h;refine⟨S,ρ,[.int k n],jD.refl _ _,hz,hR,ay.cons (by simp[ai]) ay.nil,fun v hv=>?_,?_⟩
   .simp at hv;subst hv;rfl
   .unfold cf;simp only[hu];refine⟨n,rfl,?_⟩;simpa[Lit.wf]using hw
  .rename_i hu;obtain⟨b,rfl,rfl⟩:=DataW.trod_bool (dK aF hu) h;refine⟨S,ρ,[.bool b],jD.refl _ _,hz,hR,ay.cons (by simp[ai]) ay.nil,fun v hv=>?_,?_⟩
   .simp at hv;subst hv;rfl
   .unfold cf;simp only[hu];exact⟨b,rfl⟩
  .rename_i hu;obtain⟨s,rfl,rfl,hs⟩:=DataW.trod_string (dK aF hu) h;refine⟨S,ρ,[.str (s.data.toList.map UInt8.toNat)],jD.refl _ _,hz,hR,ay.cons (by simp[ai]) ay.nil,fun v hv=>?_,?_⟩
   .simp at hv;subst hv;rfl
   .unfold cf;simp only[hu];refine⟨_,rfl,by have:=hW s.data.toList.length (by simp[DataW.weights]);simpa using this,fun c hc=>?_⟩;obtain⟨u,_,rfl⟩:=List.mem_map.1 hc;exact u.toNat_lt
  ·-- jlP
   rename_i e hu;rw[zzc]at hp;obtain⟨hpe,nf⟩:=hp;cases hs:aG cx e with
   |none=>rw[hs]at nf;cases nf
   |some sz=>
    cases sz with
    |zero=>rw[hs]at nf;cases nf
    |succ z=>
     have hce:=mS aF hs;rcases DataW.trod_slice (dK aF hu) h with⟨rfl,rfl⟩|⟨a,len,cap,elems,rest,n,rfl,rfl,hxe,hb,hlen,oK,hel,hE,hRr,_⟩
     .refine⟨S,ρ,[.ar],jD.refl _ _,hz,hR,ay.cons (by simp[ai]) ay.nil,fun v hv=>?_,?_⟩
      .simp at hv;subst hv;rfl
      .unfold cf;simp only[hu];exact .inl trivial
     .obtain⟨mO,hRs⟩:=hRr rfl;have hwt:DataW.weights P t (.slice (elems.map (·.1)) (rest.map (·.1)))=((elems.map (·.1)).length+(rest.map (·.1)).length)*P.bytesOf e::(DataW.weightsAll P e (elems.map (·.1))++DataW.weightsAll P e (rest.map (·.1))):=by
       simp only[DataW.weights,dK aF hu]
      subst hxe;replace hW:∀n,n∈DataW.weights P t (.slice (elems.map (·.1)) (rest.map (·.1)))->n<=reachBytes:=hW;rw[hwt]at hW;have jiQ:∀bs,bytesOf cx e=some bs->cap*bs<=reachBytes:=fun bs nI=>by
       have:=hW _ (List.mem_cons_self ..);rw[List.length_map,List.length_map,hel,mO,show len+(cap-len)=cap by omega,Lv aF nI]at this;exact this
      have each:∀i,i<cap->∃y vs,W.cells? base (a.add (i*(z+1))) (z+1)=some vs/\DataW.trod enc P W base (fun _=>true) held n e vs=some y/\∀n,n∈y.1.weights P e->n<=reachBytes:=by
       intro i hi;have:∃y,(W.cells? base (a.add (i*P.cellsOf e)) (P.cellsOf e)).bind (DataW.trod enc P W base (fun _=>true) held n e)=some y/\∀n,n∈y.1.weights P e->n<=reachBytes:=by
        by_cases h1:i<len
        .exact⟨elems[i],by rw[hE i h1];exact zzb (by omega),fun n hn=>hW n (zzi _ (zzj _ (mI (List.mem_map_of_mem (List.getElem_mem (by omega))) hn)))⟩
        .refine⟨rest[i-len]'(by omega),?_,fun n hn=>hW n (zzi _ (zzf _ (mI (List.mem_map_of_mem (List.getElem_mem (by omega))) hn)))⟩;have:=hRs (i-len) (by omega);rw[show len+(i-len)=i by omega]at this;rw[this];exact zzb (by omega)
       obtain⟨y,hy,hyw⟩:=this;rw[hce]at hy;obtain⟨vs,v1,v2⟩:=Option.bind_eq_some_iff.1 hy;exact⟨y,vs,v1,v2,hyw⟩
      have rows:∀k,k<=cap->∃(S':AS)(ρ':aY)(qx:List AV),jD S ρ S' ρ'/\vC S'/\R Λ ρ' S' W/\qx.length=k*(z+1)/\(∀i,i<qx.length->∃x v,qx[i]?=some x/\W.cell? (a.add i)=some v/\ai ρ' x v/\v.oneCell'=true) /\
        ∀i,i<k->cf cx S' m e ((qx.drop (i*(z+1))).take (z+1)):=by
       intro k
       induction k with
       |zero=>intro _;exact⟨S,ρ,[],jD.refl _ _,hz,hR,by simp,fun i hi=>by simp at hi,fun i hi=>by omega⟩
       |succ k ih=>
        intro hk;obtain⟨S1,ρ1,l1,g1,z1,r1,e1,p1,t1⟩:=ih (by omega);obtain⟨y,vs,v1,v2,v3⟩:=each k (by omega);obtain⟨S2,ρ2,l2,g2,z2,r2,e2,p2,t2⟩:=LL aF m e hpe n vs y S1 ρ1 z1 r1 v2 v3;obtain⟨_,c2,c3⟩:=World.cells?_some v1;have l2l:l2.length=z+1:=by rw[e2.length,c2]
        refine⟨S2,ρ2,l1++l2,g1.trans g2,z2,r2,by simp[e1,l2l,Nat.succ_mul],fun i hi=>?_,fun i hi=>?_⟩
        .by_cases h1:i<l1.length
         .obtain⟨x,v,a1,a2,a3,a4⟩:=p1 i h1;exact⟨x,v,by rw[List.getElem?_append_left h1];exact a1,a2,a3.mono g2.ext _ _,a4⟩
         .have hi2:i-l1.length<l2.length:=by simp at hi;omega
          have hx:l2[i-l1.length]?=some l2[i-l1.length]:=zzb hi2;obtain⟨v,w1,w2⟩:=e2.get hx;refine⟨_,v,by rw[List.getElem?_append_right (by omega)];exact hx,?_,w2,p2 v (List.mem_of_getElem? w1)⟩;have:=c3 (i-l1.length) (by omega);rw[Fk,w1]at this;rw[<-this];congr 1;congr 1;omega
        .by_cases h1:i<k
         .have hle:i*(z+1)+(z+1)<=l1.length:=by
           rw[e1,<-Nat.succ_mul];exact Nat.mul_le_mul_right _ h1
          have:((l1++l2).drop (i*(z+1))).take (z+1)=(l1.drop (i*(z+1))).take (z+1):=by
           rw[List.drop_append_of_le_length (by omega),List.take_append_of_le_length (by simp;omega)]
          rw[this];exact ju g2.h g2.nx _ _ _ (t1 i h1)
         .obtain rfl:i=k:=by omega
          have:((l1++l2).drop (i*(z+1))).take (z+1)=l2:=by
           rw[<-e1,List.drop_left,List.take_of_length_le (Nat.le_of_eq l2l)]
          rw[this];exact t2
      obtain⟨S1,ρ1,l1,g1,z1,r1,e1,p1,t1⟩:=rows cap (zza _);by_cases pP:cap=0
      .subst pP;obtain rfl:len=0:=by omega
       obtain⟨ρ2,pl,q1,q2,q3,q4⟩:=r1.Yn z1;refine⟨_,ρ2,[.slice S1.nx 1 0 0 (0*(z+1)) (z+1) (some 0)],g1.trans q3,q4,q2,ay.cons ?_ ay.nil,fun v hv=>?_,?_⟩
       .simp only[ai];exact⟨pl,0,q1,by simp,by simp,zzh _,zza _,.inr ⟨by trivial,by trivial,fun k hk=>by cases hk;rfl,a,by rfl⟩⟩
       .simp at hv;subst hv;rfl
       .unfold cf;simp only[hu];exact .inr ⟨S1.nx,0,0,z+1,rfl,hs,zzh _,zza _,zzk _,fun bs _=>by rw[Nat.zero_mul];exact zzk _,zzd _,.inl rfl⟩
      .have hpos:0<l1.length:=by rw[e1];exact Nat.mul_pos (by omega) (zzh _)
       obtain⟨x0,v0,_,b2,_,_⟩:=p1 0 hpos;have b2':W.cell? a=some v0:=by simpa[Addr.add]using b2
       unfold World.cell? at b2';cases Zz:W.heap[a.block]? with
       |none=>rw[Zz]at b2';cases b2'
       |some o=>
        rw[Zz]at b2';cases o<;>simp only[reduceCtorEq]at b2';rename_i C ty fr;have jbF:a.spot=none:=by
         cases hsp:a.spot with
         |none=>rfl
         |some s=>rw[hsp]at b2';simp at b2'
        have nk:∀i v,W.cell? (a.add i)=some v->C[a.off+i]?=some v:=by
         intro i v hv;unfold World.cell? at hv;rw[ChangeShapes.block_add,Zz]at hv;simp only[]at hv;split at hv
         .cases hv
         .rw[<-hv];by_cases hi:i=0
          .subst hi;simp[Addr.add]
          .simp[Addr.add,hi]
        have Zo:∀i,i<l1.length->∃x v,l1[i]?=some x/\C[a.off+i]?=some v/\ai ρ1 x v/\v.oneCell'=true:=by
         intro i hi;obtain⟨x,v,a1,a2,a3,a4⟩:=p1 i hi;exact⟨x,v,a1,nk i v a2,a3,a4⟩
        have hle:a.off+l1.length<=C.size:=by
         obtain⟨x,v,_,a2,_⟩:=Zo (l1.length-1) (by omega);have:=(Array.getElem?_eq_some_iff.1 a2).1;omega
        obtain⟨ρ2,pl,q1,q2,q3,q4,q5,q6,q7,q8⟩:=r1.jcU z1 Zz hle Zo;refine⟨_,ρ2,[.slice S1.nx 1 0 len (cap*(z+1)) (z+1) (some cap)],g1.trans q7,q8,q6,ay.cons ?_ ay.nil,fun v hv=>?_,?_⟩
        .simp only[ai];have hN:a.off+cap*(z+1)<=C.size:=by rw[<-e1];exact hle
         refine⟨pl,cap,q1,by rw[q4,e1];exact zza _,by rw[Nat.zero_add];exact Nat.mul_le_mul_right _ hlen,zzh _,hlen,.inl ⟨?_,by rw[q3,q5];exact hN,fun k hk=>by cases hk;exact⟨rfl,by omega⟩⟩⟩;obtain⟨ab,ao,asp⟩:=a;simp only at jbF q2 q3;subst jbF;rw[q2,q3];rfl
        .simp at hv;subst hv;rfl
        .unfold cf;simp only[hu];refine .inr ⟨S1.nx,len,cap,z+1,rfl,hs,zzh _,hlen,oK,jiQ,zzd _,.inr ⟨l1,ty,aa _ _ _,e1,fun i hi=>?_⟩⟩;exact ju q7.h q7.nx _ _ _ (t1 i hi)
  ·-- records
   rename_i fs hu;rw[zzc,List.all_eq_true]at hp;obtain⟨hpf,KP⟩:=hp;cases hs:aG cx t with
   |none=>rw[hs]at KP;cases KP
   |some N=>
    rw[hs]at KP;simp only[]at KP;obtain⟨xs,n,rfl,hxe,ry,Uz,hF⟩:=DataW.trod_struct (dK aF hu) h;rw[mS aF hs]at ry;have hwt:DataW.weights P t (.agg (xs.map (·.1)))=DataW.weightsEach P (fs.toList.map (·.type)) (xs.map (·.1)):=by
     simp only[DataW.weights,dK aF hu]
    subst hxe;replace hW:∀n,n∈DataW.weights P t (.agg (xs.map (·.1)))->n<=reachBytes:=hW;rw[hwt]at hW;have go:∀(l:List Field)(i off:Nat),(∀j f,l[j]?=some f->fs[i+j]?=some f)->qD cx l off N=true->off<=N->∀(S:AS)(ρ:aY),vC S->R Λ ρ S W ->
      ∃S' ρ' qx,jD S ρ S' ρ'/\vC S'/\R Λ ρ' S' W/\ay ρ' qx (cs.drop off)/\(∀v,v∈cs.drop off->v.oneCell'=true)/\sy (aG cx) (cf cx S' m) (l.map (·.type)) qx:=by
     intro l
     induction l with
     |nil=>
      intro i off _ ht _ S ρ hz hR;have:off=N:=by simpa[qD,bO]using ht
      subst this;have hd:cs.drop off=[]:=List.drop_eq_nil_of_le (by omega);refine⟨S,ρ,[],jD.refl _ _,hz,hR,by rw[hd];exact ay.nil,?_,rfl⟩;intro v hv;rw[hd]at hv;cases hv
     |cons f l ih=>
      intro i off hl ht dL S ρ hz hR;unfold qD at ht;rw[zzc,bO,decide_eq_true_eq]at ht;obtain⟨hfo,ht⟩:=ht;cases hsf:aG cx f.type with
      |none=>rw[hsf]at ht;cases ht
      |some zf=>
       rw[hsf]at ht;simp only[]at ht;have hfi:fs[i]?=some f:=by have:=hl 0 f rfl;simpa using this
       have hi:i<xs.length:=by
        have:=(Array.getElem?_eq_some_iff.1 hfi).1;omega
       have htr:=hF i f hfi;rw[zzb hi,mS aF hsf,hfo]at htr;have u9:f∈fs.toList:=by rw[Array.mem_toList_iff];exact Array.mem_of_getElem? hfi
       obtain⟨S1,ρ1,l1,g1,z1,r1,e1,o1,t1⟩:=LL aF m f.type (hpf f u9) n _ _ S ρ hz hR htr (fun n hn=>hW n (DataW.weights_mem_each (j:=i) (by rw[List.getElem?_map,zze,hfi];rfl) (by rw[List.getElem?_map,zzb hi];rfl) n hn));have hle:off+zf<=N:=by
        have mono:∀(l:List Field)(o:Nat),qD cx l o N=true->o<=N:=by
         intro l
         induction l with
         | nil => intro o h; have : o = N := by simpa [qD, bO] using h
                  omega
         |cons g l ih=>
          intro o h;unfold qD at h;rw[zzc]at h;cases hg:aG cx g.type with
          |none=>rw[hg]at h;cases h.2
          |some zg=>rw[hg]at h;have:=ih _ h.2;omega
        exact mono l _ ht
       obtain⟨S2,ρ2,l2,g2,z2,r2,e2,o2,t2⟩:=ih (i+1) (off+zf) (fun j f' hj=>by have:=hl (j+1) f' (by simpa using hj);rw[<-this];congr 1;omega) ht hle S1 ρ1 z1 r1;have hsp:cs.drop off=(cs.drop off).take zf++cs.drop (off+zf):=by
        rw[<-List.drop_drop];exact (List.take_append_drop zf (cs.drop off)).symm
       have P6:l1.length=zf:=by rw[e1.length];simp;omega
       refine⟨S2,ρ2,l1++l2,g1.trans g2,z2,r2,by rw[hsp];exact (e1.mono g2.ext).append e2,fun v hv=>?_,l1,l2,rfl,by rw[P6];exact hsf,ju g2.h g2.nx _ _ _ t1,t2⟩;rw[hsp]at hv;rcases List.mem_append.1 hv with hv|hv
       .exact o1 v hv
       .exact o2 v hv
    obtain⟨S1,ρ1,l1,g1,z1,r1,e1,o1,t1⟩:=go fs.toList 0 0 (fun j f hj=>by rw[Nat.zero_add,<-zze];exact hj) KP (zzk _) S ρ hz hR;refine⟨S1,ρ1,l1,g1,z1,r1,by simpa using e1,fun v hv=>o1 v (by simpa using hv),?_⟩;unfold cf;simp only[hu];exact t1
termination_by m=>m
def Gr(l:List AV):AV:=match l with|[v]=>v|_=>.top
def jaJ(cx:Cx)(t:TypeId)(l:List AV):AV:=match aN cx t with|some true=>.agg l|_=>Gr l
def nY(cx:Cx)(S:AS)(m:Nat):List TypeId->List AV->Prop
 |[],l=>l=[]
 |t::ts,l=>∃qx r,l=jaJ cx t qx::r/\cf cx S m t qx/\nY cx S m ts r
theorem LK(aF:dQ Λ P cx){m:Nat}{t:TypeId}(hp:qV cx m t=true){v:Value}{d:DataW H}{ps:List MemPlace}{r:Reach}{b0:Nat}(hv:Value.okWide P W r b0 t v)(S:AS)(ρ:aY)(hz:vC S)(hR:R Λ ρ S W)
  (h:DataW.Trod enc P W base (fun _=>true) held t v d ps) (hW:∀n,n∈d.weights P t->n<=reachBytes):∃S' ρ' qx,jD S ρ S' ρ'/\vC S'/\R Λ ρ' S' W/\ai ρ' (jaJ cx t qx) v/\cf cx S' m t qx:=by
 obtain⟨fuel,h⟩:=h;obtain⟨S1,ρ1,l1,g1,z1,r1,e1,o1,t1⟩:=LL aF m t hp fuel _ _ S ρ hz hR h hW;refine⟨S1,ρ1,l1,g1,z1,r1,?_,t1⟩;cases m with
 |zero=>exact t1.elim
 |succ m=>
  unfold qV at hp;unfold jaJ aN;unfold Value.okWide at hv;have flat:v.cells.toList.length=1->(∀cs,v≠.agg cs)->ai ρ1 (Gr l1) v:=by
   intro _ ct;have hc:v.cells.toList=[v]:=by cases v<;>first|rfl|exact absurd rfl (ct _)
   rw[hc]at e1;cases l1 with
   |nil=>simp only[Gr,ai]
   |cons x l=>
    simp only[ay]at e1;obtain⟨y,ys,ee,q1,q2⟩:=e1;cases ee;cases l with
    |nil=>exact q1
    |cons z l=>simp only[Gr,ai]
  have DW:(∀fs,P.underlying t≠some (.struct fs))->(∀n e,P.underlying t≠some (.array n e))->∀cs,v≠.agg cs:=by
   intro h1 h2 cs e;subst e;have hv':Cell.okWide P W r b0 t (.agg cs):=by
    split at hv
    .rename_i fs hu;exact absurd hu (h1 fs)
    .rename_i n e hu;exact absurd hu (h2 n e)
    .exact hv
   unfold Cell.okWide at hv';cases hu:P.underlying t with
   |none=>rw[hu]at hv';simp[Cell.ok,hu]at hv'
   |some dd=>
    rw[hu]at hv';cases dd<;>simp[Cell.ok,hu]at hv'
  have one:(∀cs,v≠.agg cs)->v.cells.toList.length=1:=by
   intro ct;cases v<;>first|rfl|exact absurd rfl (ct _)
  split at hp<;>(try (cases hp;done))<;>rename_i hu<;>simp only[hu]
  .have ct:=DW (fun fs e=>by rw[dK aF hu]at e;cases e) (fun n e e'=>by rw[dK aF hu]at e';cases e');exact flat (one ct) ct
  .have ct:=DW (fun fs e=>by rw[dK aF hu]at e;cases e) (fun n e e'=>by rw[dK aF hu]at e';cases e');exact flat (one ct) ct
  .have ct:=DW (fun fs e=>by rw[dK aF hu]at e;cases e) (fun n e e'=>by rw[dK aF hu]at e';cases e');exact flat (one ct) ct
  .have ct:=DW (fun fs e=>by rw[dK aF hu]at e;cases e) (fun n e e'=>by rw[dK aF hu]at e';cases e');exact flat (one ct) ct
  .rw[dK aF hu]at hv;simp only[]at hv;obtain⟨cs,rfl,_⟩:=hv;simp only[ai];exact⟨cs,rfl,e1,o1⟩
theorem Ba(aF:dQ Λ P cx){m:Nat}{r:Reach}{b0:Nat}:∀(ts:List TypeId)(vs:List Value)(ds:List (DataW H))(p:List MemPlace)(S:AS)(ρ:aY),ts.all (qV cx m)=true ->
  (∀(j:Nat)t v,ts[j]?=some t->vs[j]?=some v->Value.okWide P W r b0 t v)->vC S->R Λ ρ S W->DataW.TrodAll enc P W base (fun _=>true) held ts vs ds p->(∀n,n∈DataW.weightsEach P ts ds->n<=reachBytes) ->
  ∃S' ρ' l,jD S ρ S' ρ'/\vC S'/\R Λ ρ' S' W/\ay ρ' l vs/\nY cx S' m ts l
 |[],vs,ds,p,S,ρ,_,_,hz,hR,h,_=>by
  cases vs with
  |nil=>exact⟨S,ρ,[],jD.refl _ _,hz,hR,ay.nil,rfl⟩
  |cons v vs=>cases ds<;>exact h.elim
 |t::ts,vs,ds,p,S,ρ,hp,hv,hz,hR,h,hW=>by
  cases vs with
  |nil=>cases ds<;>exact h.elim
  |cons v vs=>
   cases ds with
   |nil=>exact h.elim
   |cons d ds=>
    obtain⟨p1,p2,h1,h2,_⟩:=h;simp only[List.all_cons,zzc]at hp;obtain⟨S1,ρ1,a1,g1,z1,r1,e1,t1⟩:=LK aF hp.1 (hv 0 t v rfl rfl) S ρ hz hR h1 (fun n hn=>hW n (by simp only[DataW.weightsEach];exact zzj _ hn));obtain⟨S2,ρ2,l2,g2,z2,r2,e2,t2⟩:=Ba aF ts vs ds p2 S1 ρ1 hp.2 (fun j t' v' h1 h2=>hv (j+1) t' v' (by simpa using h1) (by simpa using h2)) z1 r1 h2 (fun n hn=>hW n (by simp only[DataW.weightsEach];exact zzf _ hn));exact⟨S2,ρ2,_,g1.trans g2,z2,r2,ay.cons (e1.mono g2.ext _ _) e2,a1,l2,rfl,ju g2.h g2.nx _ _ _ t1,t2⟩
end
theorem Uo{H:Type}{enc:TypeId×Value->H}{P:Program}{A:Ask}{W:World}{base:Nat}{held:Bool}{B:Nat->Prop}(hB:∀b,B b->b<W.heap.size)(hr:xM P A)(hp:∀x,x∈A.ei->gg ⟨W,fun b=>b<W.heap.size⟩ P x.1 x.2)
  (hg:∀x,x∈A.lS->uj W B x.1 x.2) {f:FuncId} {args:Array Value} {ts:List TypeId} {ds:List (DataW H)} {p:List MemPlace} {r:Reach} {b0:Nat} (m:Nat) (ht:ts.all (qV (xS P A) m)=true)
  (hv:∀(j:Nat)t v,ts[j]?=some t->args[j]?=some v->Value.okWide P W r b0 t v) (h:DataW.TrodAll enc P W base (fun _=>true) held ts args.toList ds p) (hW:∀n,n∈DataW.weightsEach P ts ds->n<=reachBytes)
  (hc:∀(S:AS)(bA:List AV),(∀id,S.nx<=id->S.h.get id=none)->nY (xS P A) S m ts bA->ah (xS P A) f bA S fun v _=>v=.bool true) :
  Calls P f args W fun e w'=>e=.returned (.bool true)/\Below W.heap.size W w':=by
 have Ai:∀x,x∈A.lS->uj W (fun b=>b<W.heap.size) x.1 x.2:=fun x hx=>let ⟨a,b⟩:=hg x hx;⟨hB _ a,b⟩
 have aF:=Wa (Λ:=⟨W,fun b=>b<W.heap.size⟩) hr hp Ai;have hR0:=Nz (Λ:=⟨W,fun b=>b<W.heap.size⟩) W (zza _) (fun b hb=>⟨hb,rfl⟩);obtain⟨S,ρ,l,_,_,hR,hl,hty⟩:=Ba aF (r:=r) (b0:=b0) ts args.toList ds p ⟨.leaf,0⟩ _ ht (fun j t v h1 h2=>hv j t v h1 (by rw[<-zze];exact h2)) (fun id o ho=>by cases ho) hR0 h hW;have hdom:∀id,S.nx<=id->S.h.get id=none:=by
  intro id hi;cases ho:S.h.get id with
  |none=>rfl
  |some o=>have:=hR.vm id o ho;omega
 refine (Ir hr hp Ai hR hl (hc S l hdom hty)).2.mono ?_;rintro e w' ⟨x,v,S',ρ',rfl,h1,rfl,h3,h4⟩;simp only[ai]at h1;refine⟨by rw[h1],h4.os,h4.tape,h4.output,h4.size,fun k hk=>(h3.base k hk).2.1⟩
end Go.Am
end
namespace Go.Am
open Go
theorem uf{cx:Cx}{S:AS}{t u:Nat}{ts:List TypeId}{p:Nat×Nat×Nat}{v x:AV}{cs ds:List AV}{d:TypeDesc}(h:qh cx t=some p)(hu:bN cx u=some d)(hd:DV d=true)
  (ho:Gw S v p.2.1 p.1 cs) {nx:Nat} (ht:taken S p.2.1 x=some (nx,ds)) (hlen:ds.length=nx*p.2.1) (hf:fits (sLen v+nx) p.2.2=true) :
  ∃v' T,bh cx S .append (t::u::ts) [v,x]=.val v' T/\Gw T v' p.2.1 p.1 (cs++ds)/\(∀id,id<S.nx->id+1≠aE v->T.h.get id=S.h.get id)/\S.nx<=T.nx/\sLen v'=sLen v+nx/\(isNil v'=(isNil v&&decide (nx=0))) /\
   (aE v'=aE v\/S.nx<aE v')/\(nx≠0->jbT v'=true):=by
 rw[ue h hu hd];obtain⟨Hs,sQ⟩:=ho;cases hn:nx with
 |zero=>
  rw[hn]at ht hlen;have sq:ds=[]:=by rw[Nat.zero_mul]at hlen;exact List.length_eq_zero_iff.1 hlen
  subst sq;refine⟨v,S,?_,by rw[List.append_nil];exact⟨Hs,sQ⟩,fun _ _ _=>rfl,zza _,rfl,by simp,.inl rfl,fun h=>absurd rfl h⟩;unfold gf;rcases sQ with rfl|⟨id,g,off,n,lim,cap,rfl,_⟩
  .simp[ht,ey]
  .simp[ht,bO,ey]
 |succ m=>
  rw[hn]at ht hlen hf;rcases sQ with rfl|⟨id,g,off,n,lim,cap,rfl,hc,cQ,cells,low,top,hg,hl,htq⟩
  .have KY:cs=[]:=by have:=Hs.rd;simp only[kR,zzg]at this;exact this.symm
   subst KY;have j9:Own (⟨S.h.set S.nx (.row ds 0 0 false p.1),S.nx+1⟩:AS) S.nx (.slice S.nx 0 0 (m+1) ((m+1)*p.2.1) p.2.1 none) p.2.1 p.1 ds:=
    .inr ⟨S.nx,0,0,m+1,rfl,zza _,zzd _,aa _ _ _,zza _,hlen⟩
   refine⟨.slice S.nx 0 0 (m+1) ((m+1)*p.2.1) p.2.1 none,⟨S.h.set S.nx (.row ds 0 0 false p.1),S.nx+1⟩,?_,j9.gw,fun i hi _=>ae _ _ (by omega),zzl _,by simp[sLen],by simp[isNil],.inr (by simp[aE]),fun _=>rfl⟩;unfold gf;have Es:fits (m+1) p.2.2=true:=by simpa[sLen]using hf
   simp only[ht,Es,cond_true,grown];simp[ey]
  .have KO:g<=top:=Nat.le_of_eq htq;have ry:(cells.drop off).take (n*p.2.1)=cs/\cs.length=n*p.2.1:=by
    have h1:=Hs.rd;have h2:=Hs.len;simp only[sLen]at h2;refine⟨?_,h2⟩;cases n with
    |zero=>simp only[kR,zzg]at h1;subst h1;simp
    |succ n=>
     simp only[kR,dN,hg,bB]at h1;split at h1
     .simpa using h1
     .cases h1
   obtain⟨ry,Vd⟩:=ry;have Ag:(cs++ds).length=(n+(m+1))*p.2.1:=by rw[List.length_append,Vd,hlen];exact (Nat.add_mul n (m+1) p.2.1).symm
   simp only[sLen]at hf;have e1:Nat.add n (m+1)=n+(m+1):=rfl;have e2:Nat.mul n p.2.1=n*p.2.1:=rfl;have e3:Nat.mul (n+(m+1)) p.2.1=(n+(m+1))*p.2.1:=rfl;cases cap with
   |some c=>
    simp only[Ip,decide_eq_true_eq]at hc;subst hc;have j9:Own (⟨S.h.set S.nx (.row (cs++ds) 0 0 false p.1),S.nx+1⟩:AS) S.nx (.slice S.nx 0 0 (c+(m+1)) ((c+(m+1))*p.2.1) p.2.1 none) p.2.1 p.1 (cs++ds):=
     .inr ⟨S.nx,0,0,c+(m+1),rfl,zza _,zzd _,aa _ _ _,zza _,Ag⟩
    refine⟨.slice S.nx 0 0 (c+(m+1)) ((c+(m+1))*p.2.1) p.2.1 none,_,?_,j9.gw,fun i hi _=>ae _ _ (by omega),zzl _,rfl,by simp[isNil],.inr (by simp[aE]),fun _=>rfl⟩;unfold gf;have e4:decide (c+(m+1)<=c)=false:=by simp
    simp only[ht,bO,decide_true,cond_true,hg,cY,hl,KO,zzm,aQ,e1,hf,e2,e4,cond_false,grown,cR,cF,bJ,e3,ry];rfl
   |none=>
    unfold gf;by_cases hw:(decide (off=0)&&decide (g=top)&&decide (cells.length=n*p.2.1))=true
    .simp only[zzc,decide_eq_true_eq]at hw;obtain⟨⟨rfl,rfl⟩,hw⟩:=hw;have sS:cells=cs:=by rw[<-ry,List.drop_zero,<-hw,List.take_length]
     subst sS;refine⟨.slice id (g+1) 0 (n+(m+1)) ((n+(m+1))*p.2.1) p.2.1 none,⟨S.h.set id (.row (cells++ds) low (g+1) false p.1),S.nx⟩,?_,?_,fun i hi ct=>ae _ _ (fun e=>ct (by simp[aE,e])),zza _,rfl,by simp[isNil],.inl rfl,fun _=>rfl⟩
     .simp only[ht,bO,decide_true,cond_true,hg,cY,hl,zza,zzm,aQ,e1,hf,Bool.not_true,Bool.or_false,cond_false,bX,Vd,e2,e3,bJ];rfl
     .have j9:Own (⟨S.h.set id (.row (cells++ds) low (g+1) false p.1),S.nx⟩:AS) 0 (.slice id (g+1) 0 (n+(m+1)) ((n+(m+1))*p.2.1) p.2.1 none) p.2.1 p.1 (cells++ds):=
       .inr ⟨id,g+1,low,n+(m+1),rfl,zzk _,cQ,aa _ _ _,Nat.le_succ_of_le hl,Ag⟩
      exact j9.gw
    .have Jd:(decide (off=0)&&decide (g=top)&&decide (cells.length=n*p.2.1))=false:=by simpa using hw
     refine⟨.slice id (top+1) 0 (n+(m+1)) ((n+(m+1))*p.2.1) p.2.1 none,⟨S.h.set id (.row (cs++ds) (top+1) (top+1) false p.1),S.nx⟩,?_,?_,fun i hi ct=>ae _ _ (fun e=>ct (by simp[aE,e])),zza _,rfl,by simp[isNil],.inl rfl,fun _=>rfl⟩
     .simp only[ht,bO,decide_true,cond_true,hg,cY,hl,KO,zzm,aQ,e1,hf,Bool.not_true,Bool.or_false,cond_false,bX,e2,e3,bJ,cR,cF,ry,Jd];rfl
     .have j9:Own (⟨S.h.set id (.row (cs++ds) (top+1) (top+1) false p.1),S.nx⟩:AS) 0 (.slice id (top+1) 0 (n+(m+1)) ((n+(m+1))*p.2.1) p.2.1 none) p.2.1 p.1 (cs++ds):=
       .inr ⟨id,top+1,top+1,n+(m+1),rfl,zzk _,cQ,aa _ _ _,zza _,Ag⟩
      exact j9.gw
def aq(l:List Nat):List AV:=l.map fun n:Nat=>AV.int .u8 (n:Int)
theorem aA(l:List Nat):(aq l).length=l.length:=by simp[aq]
theorem ig(l m:List Nat):aq l++aq m=aq (l++m):=by simp[aq]
theorem PG(s:List Nat):oD (fun n=>AV.int .u8 (.ofNat n)) s=aq s:=by
 induction s with
 |nil=>rfl
 |cons x s ih=>show AV.int .u8 (.ofNat x)::oD _ s=AV.int .u8 (x:Int)::aq s;rw[ih];rfl
theorem xH:∀(s:List Nat),(∀c,c∈s->c<256)->tZ (aq s)=some s
 |[],_=>rfl
 |x::s,h=>by
  show sF (.int .u8 (x:Int)) (tZ (aq s))=_;rw[xH s fun c hc=>h c (zzi _ hc)];have hx:=h x (List.mem_cons_self ..);show cond (Nat.blt x 256) (some (x::s)) none=_;rw[iJ];simp[hx]
noncomputable def JB(cx:Cx)(t:TypeId):Bool:=match bN cx t with|some .string=>true|_=>false
theorem oc{cx:Cx}{t:TypeId}(h:JB cx t=true):bN cx t=some .string:=by
 unfold JB at h;split at h
 .assumption
 .cases h
noncomputable def Wm(cx:Cx)(t:TypeId):Option TypeId:=match bN cx t with|some (.slice e)=>(match bN cx e with|some (.int .u8)=>some e|_=>none)|_=>none
theorem Iy{cx:Cx}{t e:TypeId}(h:Wm cx t=some e):bN cx t=some (.slice e)/\bN cx e=some (.int .u8):=by
 unfold Wm at h;split at h
 .rename_i e' h1;split at h
  .rename_i h2;cases h;exact⟨h1,h2⟩
  .cases h
 .cases h
def strOf:AV->Option (List Nat) | .str s=>some s|_=>none
theorem Ov{s:List Nat}:strOf (.str s)=some s:=rfl
section
variable{cx:Cx}{F:Fr}{S:AS}{dst:Option Tmp}{ty:TypeId}{pos:String}{af:Array Edge}{gd:Option (Nat×Bool)}
theorem mX{t:TypeId}{x ix:Operand}{v w:AV}{s:List Nat}{i c:Nat}(hx:eval F x=v)(hv:strOf v=some s)(hi:eval F ix=w)(hw:fH w=some i)(h:JB cx t=true)(hc:s[i]?=some c):
  bF cx F S ⟨dst,.index t x ix,ty,pos,af,gd⟩=.val (.int .u8 c) S:=by
 subst hx hi;have hu:=oc h;cases hx:eval F x<;>rw[hx]at hv<;>simp only[strOf]at hv<;>cases hv;have jF:nth i s=some c:=by rw[ji];exact hc
 simp only[bF,hu,hx,hw,jF];rfl
theorem xn{t:TypeId}{s:List Nat}{lo hi:Option Operand}{l k:Nat}(h:JB cx t=true)(hl:bound F lo 0=some l)(hh:bound F hi s.length=some k)(h1:l<=k)(h2:k<=s.length):
  dT cx F t (.str s) lo hi none=some (.str ((s.drop l).take (k-l))):=by
 have hb:bounds F s.length s.length lo hi none=some (l,k,s.length):=by
  unfold bounds;rw[hl,hh];have e:bound F none s.length=some s.length:=rfl;rw[e];simp[cY,h1,h2,Bk]
 unfold dT;simp only[oc h,hb,cR,cF];rfl
theorem Q4{a b e:TypeId}{x:Operand}{v:AV}{s:List Nat}(hx:eval F x=v)(hv:strOf v=some s)(ha:JB cx a=true)(hb:Wm cx b=some e):
  bF cx F S ⟨dst,.convert a b x,ty,pos,af,gd⟩=.val (.slice S.nx 0 0 s.length s.length 1 none) ⟨S.h.set S.nx (.row (aq s) 0 0 true e),S.nx+1⟩:=by
 subst hx;cases hx:eval F x<;>rw[hx]at hv<;>simp only[strOf]at hv<;>cases hv;obtain⟨h1,h2⟩:=Iy hb;simp only[bF,oc ha,h1,h2,hx,PG]
theorem ly{a b e:TypeId}{x:Operand}{v:AV}{s:List Nat}(h:Sl S v 1 (aq s))(hs:∀c,c∈s->c<256)(hx:eval F x=v)(ha:Wm cx a=some e)(hb:JB cx b=true):
  bF cx F S ⟨dst,.convert a b x,ty,pos,af,gd⟩=.val (.str s) S:=by
 obtain⟨h1,h2⟩:=Iy ha;have hlen:=h.len;rw[aA,Nat.mul_one]at hlen;rcases h.cases with rfl|⟨id,g,off,n,lim,cap,rfl⟩
 .have:s=[]:=List.length_eq_zero_iff.1 (by rw[hlen];rfl);subst this;simp only[bF,h1,oc hb,hx,h2]
 .have xv:=h.rd;simp only[sLen]at hlen;cases n with
  |zero=>
   have:s=[]:=List.length_eq_zero_iff.1 hlen;subst this;simp only[bF,h1,oc hb,hx,h2]
  |succ n=>
   simp only[kR,Nat.mul_one]at xv;simp only[bF,h1,oc hb,hx,h2];rw[xv];simp only[xH s hs]
end
end Go.Am
