/-
  The abstract machine: arguments that lie in memory. What a reading of integers, truths, texts, records and slices of them tells, laid as rows from outside.
-/
import Derived.Test.YthklfandhmkpiaaGreatDoorAmHeap
import Derived.ChangeSlices
import Derived.ChangeArms
import Derived.DataReads
import Derived.SizedLaws
import Derived.Test.YthklfandhmkpiaaGreatDoorAmWide
open Nat renaming le_refl->zza,lt_succ_self->zzd,succ_pos->zzg,zero_le->zzj,le_succ->zzk
open List renaming getElem?_eq_getElem->zzb,mem_append_right->zze,mem_cons_of_mem->zzh,mem_append_left->zzi
open Bool renaming and_eq_true->zzc,and_self->zzl
open Option.some renaming injEq->zzf
open Array renaming getElem?_toList->zzm
set_option linter.unusedVariables false
set_option linter.unusedSimpArgs false
noncomputable section
namespace Go.Am
open Go Go.RowKit
variable{Λ:LB}
def rI(S:AS):Prop:=∀id o,S.h.get id=some o->Frz o
structure hO(S:AS)(ρ:bf)(S':AS)(ρ':bf):Prop where
 ext:Ext ρ ρ'
 h:∀id o,S.h.get id=some o->S'.h.get id=some o
 nx:S.nx<=S'.nx
theorem hO.refl(S:AS)(ρ:bf):hO S ρ S ρ:=⟨Ext.refl _,fun _ _ h=>h,zza _⟩
theorem hO.trans{A B C:AS}{a b c:bf}(h:hO A a B b)(k:hO B b C c):hO A a C c:=⟨h.ext.trans k.ext,fun id o x=>k.h id o (h.h id o x),Nat.le_trans h.nx k.nx⟩
theorem R.outRow{ρ:bf}{S:AS}{w:World}(h:R Λ ρ S w)(hz:rI S){b off:Nat}{C:Array Value}{ty:TypeId}{fr:Nat×Nat}{cells:List AV}(hw:w.heap[b]?=some (.cells C ty fr))(hle:off+cells.length<=C.size)
  (hpt:∀i,i<cells.length->∃x v,cells[i]?=some x/\C[off+i]?=some v/\aq ρ x v/\v.oneCell'=true) :
  ∃ρ' pl,ρ' S.nx 1=some pl/\pl.b=b/\pl.base=off/\pl.n=cells.length/\pl.N=C.size/\R Λ ρ' ⟨S.h.set S.nx (.row cells 1 1 true ty),S.nx+1⟩ w /\
   hO S ρ ⟨S.h.set S.nx (.row cells 1 1 true ty),S.nx+1⟩ ρ'/\rI ⟨S.h.set S.nx (.row cells 1 1 true ty),S.nx+1⟩:=by
 have hx:=fY (ρ:=ρ) (id:=S.nx) (g:=1) ⟨b,off,cells.length,C.size,hle⟩ (h.fresh _ _ (zza _));have cl:∀id o,S.h.get id=some o->id≠S.nx:=fun id o ho e=>by subst e;exact absurd (h.xD _ _ ho) (Nat.lt_irrefl _)
 have gM:∀id,id≠S.nx->(S.h.set S.nx (.row cells 1 1 true ty)).get id=S.h.get id:=fun id hi=>ah _ _ hi;have hrho:∀id g,id≠S.nx->put ρ S.nx 1 ⟨b,off,cells.length,C.size,hle⟩ id g=ρ id g:=fun id g hi=>cq _ _ (fun e=>hi e.1);have tN:rI ⟨S.h.set S.nx (.row cells 1 1 true ty),S.nx+1⟩:=by
  intro id o ho;by_cases hi:id=S.nx
  .subst hi;have qu:(S.h.set S.nx (.row cells 1 1 true ty)).get S.nx=some o:=ho;rw[get_set_same]at qu;cases qu;exact⟨_,_,_,_,rfl⟩
  .exact hz id o (by rw[<-gM id hi];exact ho)
 refine⟨put ρ S.nx 1 ⟨b,off,cells.length,C.size,hle⟩,_,bV _ _ _ _,rfl,rfl,rfl,rfl,?_,⟨hx,fun id o ho=>?_,zzk _⟩,tN⟩
 .refine⟨fun id o ho=>?_,fun id o ho=>?_,fun id g hi=>?_,fun id c l t f y ho g hg=>?_,fun id o g pl ho hp=>?_,fun i j o oj g gj pl plj sx ho BN hp Dt=>.inr ⟨tN i o ho,tN j oj BN⟩,h.start,fun b' hb=>?_⟩
  .by_cases hi:id=S.nx
   .subst hi;have qu:(S.h.set S.nx (.row cells 1 1 true ty)).get S.nx=some o:=ho;rw[get_set_same]at qu;cases qu;refine⟨zza _,fun g h1 h2=>?_,fun g k p q h1 h2 h3 h4 hp hq _=>?_⟩
    .obtain rfl:g=1:=by omega
     refine⟨_,C,fr,bV _ _ _ _,hw,rfl,hle,zza _,fun i hi=>?_,fun _=>rfl,fun e=>by (cases e),fun e=>by (cases e),fun e=>by (cases e)⟩;obtain⟨x,v,a1,a2,a3,a4⟩:=hpt i hi;exact⟨x,v,a1,a2,a3.mono hx _ _,a4⟩
    .obtain rfl:g=1:=by omega
     obtain rfl:k=1:=by omega
     rw[hp]at hq;cases hq;rfl
   .have qu:S.h.get id=some o:=by rw[<-gM id hi];exact ho
    exact (h.ja id o qu).fM hx fun g pl _=>rfl
  .by_cases hi:id=S.nx
   .subst hi;exact zzd _
   .exact Nat.lt_succ_of_lt (h.xD id o (by rw[<-gM id hi];exact ho))
  .have:S.nx+1<=id:=hi;rw[hrho id g (by omega)];exact h.fresh id g (by omega)
  .by_cases hi:id=S.nx
   .subst hi;have qu:(S.h.set S.nx (.row cells 1 1 true ty)).get S.nx=some (.row c l t f y):=ho;rw[get_set_same]at qu;cases qu;rw[cq _ _ (by omega)];exact h.fresh _ _ (zza _)
   .rw[hrho id g hi];exact h.pW id c l t f y (by rw[<-gM id hi];exact ho) g hg
  .by_cases hi:id=S.nx
   .subst hi;by_cases hg:g=1
    .subst hg;rw[bV]at hp;cases hp;exact (Array.getElem?_eq_some_iff.1 hw).1
    .rw[cq _ _ (by omega),h.fresh _ _ (zza _)]at hp;cases hp
   .rw[hrho id g hi]at hp;exact h.lt id o g pl (by rw[<-gM id hi];exact ho) hp
  .obtain⟨d1,d2,_⟩:=h.base b' hb;exact⟨d1,d2,fun⟨i,o,g,pl,ho,hnf,_⟩=>hnf (tN i o ho)⟩
 .show (S.h.set S.nx (.row cells 1 1 true ty)).get id=some o;rw[gM id (cl id o ho)];exact ho
theorem R.outNone{ρ:bf}{S:AS}{w:World}(h:R Λ ρ S w)(hz:rI S):
  ∃ρ' pl,ρ' S.nx 1=some pl/\R Λ ρ' ⟨S.h,S.nx+1⟩ w/\hO S ρ ⟨S.h,S.nx+1⟩ ρ'/\rI ⟨S.h,S.nx+1⟩:=by
 have hx:=fY (ρ:=ρ) (id:=S.nx) (g:=1) ⟨0,0,0,0,zza _⟩ (h.fresh _ _ (zza _));have cl:∀id o,S.h.get id=some o->id≠S.nx:=fun id o ho e=>by subst e;exact absurd (h.xD _ _ ho) (Nat.lt_irrefl _)
 have hrho:∀id g,id≠S.nx->put ρ S.nx 1 ⟨0,0,0,0,zza _⟩ id g=ρ id g:=fun id g hi=>cq _ _ (fun e=>hi e.1);refine⟨put ρ S.nx 1 ⟨0,0,0,0,zza _⟩,_,bV _ _ _ _,?_,⟨hx,fun id o ho=>ho,zzk _⟩,hz⟩;refine⟨fun id o ho=>(h.ja id o ho).fM hx fun g pl _=>rfl,fun id o ho=>Nat.lt_succ_of_lt (h.xD id o ho),fun id g hi=>?_,fun id c l t f y ho g hg=>?_,fun id o g pl ho hp=>?_,fun i j o oj g gj pl plj sx ho BN hp Dt=>.inr ⟨hz i o ho,hz j oj BN⟩,h.start,fun b' hb=>?_⟩
 .have:S.nx+1<=id:=hi;rw[hrho id g (by omega)];exact h.fresh id g (by omega)
 .rw[hrho id g (cl id _ ho)];exact h.pW id c l t f y ho g hg
 .rw[hrho id g (cl id _ ho)]at hp;exact h.lt id o g pl ho hp
 .obtain⟨d1,d2,_⟩:=h.base b' hb;exact⟨d1,d2,fun⟨i,o,g,pl,ho,hnf,_⟩=>hnf (hz i o ho)⟩
def jL(sz:TypeId->Option Nat)(T:TypeId->List AV->Prop):List TypeId->List AV->Prop
 |[],l=>l=[]
 |t::ts,l=>∃a b,l=a++b/\sz t=some a.length/\T t a/\jL sz T ts b
def eB(cx:Cx)(S:AS):Nat->TypeId->List AV->Prop
 |0,_,_=>False
 |m+1,t,l=>match bJ cx t with
  |some (.int k)=>∃n,l=[.int k n]/\k.min<=n/\n<=k.max
  |some .bool=>∃b,l=[.bool b]
  |some .string=>∃s:List Nat,l=[.str s]/\s.length<=reachBytes/\∀c,c∈s->c<256
  | some (.slice e)=>l=[.ar]∨∃ id len cap sz,l=[.slice id 1 0 len (cap*sz) sz (some cap)]∧aH cx e=some sz∧0<sz∧len≤cap∧cap≤maxLen∧(∀ bs,bytesOf cx e=some bs→cap*bs≤reachBytes)∧id<S.nx ∧
    (cap=0\/∃cells ty,S.h.get id=some (.row cells 1 1 true ty)/\cells.length=cap*sz/\∀i,i<cap->eB cx S m e ((cells.drop (i*sz)).take sz))
  |some (.struct fs)=>jL (aH cx) (eB cx S m) (fs.toList.map (·.type)) l
  |_=>False
def iE(cx:Cx):List Field->Nat->Nat->Bool
 |[],off,n=>Nat.beq off n
 |f::fs,off,n=>Nat.beq f.offset off&&(match aH cx f.type with|some z=>iE cx fs (off+z) n|none=>false)
def jr(cx:Cx):Nat->TypeId->Bool
 |0,_=>false
 |m+1,t=>match bJ cx t with
  |some (.int _)=>true
  |some .bool=>true
  |some .string=>true
  |some (.slice e)=>jr cx m e&&(match aH cx e with|some (_+1)=>true|_=>false)
  |some (.struct fs)=>fs.toList.all (fun f=>jr cx m f.type)&&(match aH cx t with|some n=>iE cx fs.toList 0 n|none=>false)
  |_=>false
theorem rq{sz:TypeId->Option Nat}{T T':TypeId->List AV->Prop}(h:∀t l,T t l->T' t l):∀(ts:List TypeId)(l:List AV),jL sz T ts l->jL sz T' ts l
 |[],_,k=>k
 |_::ts,_,⟨a,b,e,s,x,y⟩=>⟨a,b,e,s,h _ _ x,rq h ts _ y⟩
theorem gZ{cx:Cx}{S S':AS}(hh:∀id o,S.h.get id=some o->S'.h.get id=some o)(hn:S.nx<=S'.nx):∀(m:Nat)(t:TypeId)(l:List AV),eB cx S m t l->eB cx S' m t l
 |0,_,_,k=>k
 |m+1,t,l,k=>by
  unfold eB at k⊢;cases hu:bJ cx t with
  |none=>rw[hu]at k;exact k.elim
  |some d=>
   rw[hu]at k;cases d<;>simp only[]at k⊢ <;> (try exact k)
   .rcases k with k|⟨id,len,cap,sz,k1,k2,k3,k4,k5,kb,k6,k7⟩
    .exact .inl k
    .refine .inr ⟨id,len,cap,sz,k1,k2,k3,k4,k5,kb,Nat.lt_of_lt_of_le k6 hn,?_⟩;rcases k7 with k7|⟨cells,ty,k7,k8,k9⟩
     .exact .inl k7
     .exact .inr ⟨cells,ty,hh _ _ k7,k8,fun i hi=>gZ hh hn m _ _ (k9 i hi)⟩
   .exact rq (gZ hh hn m) _ _ k
theorem rG(a:Addr)(x y:Nat):(a.add x).add y=a.add (x+y):=by
 unfold Addr.add;by_cases hx:x=0<;>by_cases hy:y=0<;>simp[hx,hy,Nat.add_assoc]
theorem ke{H:Type}{P:Program}{e:TypeId}{d:DataW H}{n:Nat}:∀{l:List (DataW H)},d∈l->n∈d.weights P e->n∈DataW.weightsAll P e l
 |x::l,h,hn=>by
  simp only[DataW.weightsAll];rcases List.mem_cons.1 h with rfl|h
  .exact zzi _ hn
  .exact zze _ (ke h hn)
theorem bytesOf_ok{P:Program}{cx:Cx}(aI:cU Λ P cx){t:TypeId}{n:Nat}(h:bytesOf cx t=some n):P.bytesOf t=n:=by
 unfold bytesOf at h;cases hi:cx.jU.get t with
 |none=>simp[hi]at h
 |some i=>
  simp only[hi,zzf]at h;simp[Program.bytesOf,aI.jU t i hi,h]
section
variable{H:Type}{enc:TypeId×Value->H}{P:Program}{W:World}{base:Nat}{held:Bool}{cx:Cx}
theorem absorb(aI:cU Λ P cx):∀(m:Nat)(t:TypeId),jr cx m t=true->∀(fuel:Nat)(cs:List Value)(x:DataW H×List MemPlace)(S:AS)(ρ:bf),rI S->R Λ ρ S W ->
  DataW.trod enc P W base (fun _=>true) held fuel t cs=some x->(∀n,n∈x.1.weights P t->n<=reachBytes) ->
  ∃S' ρ' jF,hO S ρ S' ρ'/\rI S'/\R Λ ρ' S' W/\aD ρ' jF cs/\(∀v,v∈cs->v.oneCell'=true)/\eB cx S' m t jF
 |0,_,hp,_,_,_,_,_,_,_,_,_=>by cases hp
 |m+1,t,hp,fuel,cs,x,S,ρ,hz,hR,h,hW=>by
  unfold jr at hp;split at hp<;>(try (cases hp;done))
  ·-- integers
   rename_i k hu;obtain⟨n,rfl,rfl,hw⟩:=DataW.trod_int (cJ aI hu) h;refine⟨S,ρ,[.int k n],hO.refl _ _,hz,hR,aD.cons (by simp[aq]) aD.nil,fun v hv=>?_,?_⟩
   .simp at hv;subst hv;rfl
   .unfold eB;simp only[hu];refine⟨n,rfl,?_⟩;simpa[Lit.wf]using hw
  .rename_i hu;obtain⟨b,rfl,rfl⟩:=DataW.trod_bool (cJ aI hu) h;refine⟨S,ρ,[.bool b],hO.refl _ _,hz,hR,aD.cons (by simp[aq]) aD.nil,fun v hv=>?_,?_⟩
   .simp at hv;subst hv;rfl
   .unfold eB;simp only[hu];exact⟨b,rfl⟩
  .rename_i hu;obtain⟨s,rfl,rfl,hs⟩:=DataW.trod_string (cJ aI hu) h;refine⟨S,ρ,[.str (s.data.toList.map UInt8.toNat)],hO.refl _ _,hz,hR,aD.cons (by simp[aq]) aD.nil,fun v hv=>?_,?_⟩
   .simp at hv;subst hv;rfl
   .unfold eB;simp only[hu];refine⟨_,rfl,by have:=hW s.data.toList.length (by simp[DataW.weights]);simpa using this,fun c hc=>?_⟩;obtain⟨u,_,rfl⟩:=List.mem_map.1 hc;exact u.toNat_lt
  ·-- slices
   rename_i e hu;rw[zzc]at hp;obtain⟨hpe,nf⟩:=hp;cases hs:aH cx e with
   |none=>rw[hs]at nf;cases nf
   |some sz=>
    cases sz with
    |zero=>rw[hs]at nf;cases nf
    |succ z=>
     have hce:=fP aI hs;rcases DataW.trod_slice (cJ aI hu) h with⟨rfl,rfl⟩|⟨a,len,cap,elems,rest,n,rfl,rfl,hxe,hb,hlen,mn,hel,hE,hRr,_⟩
     .refine⟨S,ρ,[.ar],hO.refl _ _,hz,hR,aD.cons (by simp[aq]) aD.nil,fun v hv=>?_,?_⟩
      .simp at hv;subst hv;rfl
      .unfold eB;simp only[hu];exact .inl trivial
     .obtain⟨hrl,hRs⟩:=hRr rfl;have hwt:DataW.weights P t (.slice (elems.map (·.1)) (rest.map (·.1)))=((elems.map (·.1)).length+(rest.map (·.1)).length)*P.bytesOf e::(DataW.weightsAll P e (elems.map (·.1))++DataW.weightsAll P e (rest.map (·.1))):=by
       simp only[DataW.weights,cJ aI hu]
      subst hxe;replace hW:∀n,n∈DataW.weights P t (.slice (elems.map (·.1)) (rest.map (·.1)))->n<=reachBytes:=hW;rw[hwt]at hW;have hcapB:∀bs,bytesOf cx e=some bs->cap*bs<=reachBytes:=fun bs hbs=>by
       have:=hW _ (List.mem_cons_self ..);rw[List.length_map,List.length_map,hel,hrl,show len+(cap-len)=cap by omega,bytesOf_ok aI hbs]at this;exact this
      have each:∀i,i<cap->∃y vs,W.cells? base (a.add (i*(z+1))) (z+1)=some vs/\DataW.trod enc P W base (fun _=>true) held n e vs=some y/\∀n,n∈y.1.weights P e->n<=reachBytes:=by
       intro i hi;have:∃y,(W.cells? base (a.add (i*P.cellsOf e)) (P.cellsOf e)).bind (DataW.trod enc P W base (fun _=>true) held n e)=some y/\∀n,n∈y.1.weights P e->n<=reachBytes:=by
        by_cases h1:i<len
        .exact⟨elems[i],by rw[hE i h1];exact zzb (by omega),fun n hn=>hW n (zzh _ (zzi _ (ke (List.mem_map_of_mem (List.getElem_mem (by omega))) hn)))⟩
        .refine⟨rest[i-len]'(by omega),?_,fun n hn=>hW n (zzh _ (zze _ (ke (List.mem_map_of_mem (List.getElem_mem (by omega))) hn)))⟩;have:=hRs (i-len) (by omega);rw[show len+(i-len)=i by omega]at this;rw[this];exact zzb (by omega)
       obtain⟨y,hy,hyw⟩:=this;rw[hce]at hy;obtain⟨vs,v1,v2⟩:=Option.bind_eq_some_iff.1 hy;exact⟨y,vs,v1,v2,hyw⟩
      have rows:∀k,k<=cap->∃(S':AS)(ρ':bf)(jF:List AV),hO S ρ S' ρ'/\rI S'/\R Λ ρ' S' W/\jF.length=k*(z+1)/\(∀i,i<jF.length->∃x v,jF[i]?=some x/\W.cell? (a.add i)=some v/\aq ρ' x v/\v.oneCell'=true) /\
        ∀i,i<k->eB cx S' m e ((jF.drop (i*(z+1))).take (z+1)):=by
       intro k
       induction k with
       |zero=>intro _;exact⟨S,ρ,[],hO.refl _ _,hz,hR,by simp,fun i hi=>by simp at hi,fun i hi=>by omega⟩
       |succ k ih=>
        intro hk;obtain⟨S1,ρ1,l1,g1,z1,r1,e1,p1,t1⟩:=ih (by omega);obtain⟨y,vs,v1,v2,v3⟩:=each k (by omega);obtain⟨S2,ρ2,l2,g2,z2,r2,e2,p2,t2⟩:=absorb aI m e hpe n vs y S1 ρ1 z1 r1 v2 v3;obtain⟨_,c2,c3⟩:=World.cells?_some v1;have l2l:l2.length=z+1:=by rw[e2.length,c2]
        refine⟨S2,ρ2,l1++l2,g1.trans g2,z2,r2,by simp[e1,l2l,Nat.succ_mul],fun i hi=>?_,fun i hi=>?_⟩
        .by_cases h1:i<l1.length
         .obtain⟨x,v,a1,a2,a3,a4⟩:=p1 i h1;exact⟨x,v,by rw[List.getElem?_append_left h1];exact a1,a2,a3.mono g2.ext _ _,a4⟩
         .have BO:i-l1.length<l2.length:=by simp at hi;omega
          have hx:l2[i-l1.length]?=some l2[i-l1.length]:=zzb BO;obtain⟨v,w1,w2⟩:=e2.get hx;refine⟨_,v,by rw[List.getElem?_append_right (by omega)];exact hx,?_,w2,p2 v (List.mem_of_getElem? w1)⟩;have:=c3 (i-l1.length) (by omega);rw[rG,w1]at this;rw[<-this];congr 1;congr 1;omega
        .by_cases h1:i<k
         .have hle:i*(z+1)+(z+1)<=l1.length:=by
           rw[e1,<-Nat.succ_mul];exact Nat.mul_le_mul_right _ h1
          have:((l1++l2).drop (i*(z+1))).take (z+1)=(l1.drop (i*(z+1))).take (z+1):=by
           rw[List.drop_append_of_le_length (by omega),List.take_append_of_le_length (by simp;omega)]
          rw[this];exact gZ g2.h g2.nx _ _ _ (t1 i h1)
         .obtain rfl:i=k:=by omega
          have:((l1++l2).drop (i*(z+1))).take (z+1)=l2:=by
           rw[<-e1,List.drop_left,List.take_of_length_le (Nat.le_of_eq l2l)]
          rw[this];exact t2
      obtain⟨S1,ρ1,l1,g1,z1,r1,e1,p1,t1⟩:=rows cap (zza _);by_cases ni:cap=0
      .subst ni;obtain rfl:len=0:=by omega
       obtain⟨ρ2,pl,q1,q2,q3,q4⟩:=r1.outNone z1;refine⟨_,ρ2,[.slice S1.nx 1 0 0 (0*(z+1)) (z+1) (some 0)],g1.trans q3,q4,q2,aD.cons ?_ aD.nil,fun v hv=>?_,?_⟩
       .simp only[aq];exact⟨pl,0,q1,by simp,by simp,zzg _,zza _,.inr ⟨by trivial,by trivial,fun k hk=>by cases hk;rfl,a,by rfl⟩⟩
       .simp at hv;subst hv;rfl
       .unfold eB;simp only[hu];exact .inr ⟨S1.nx,0,0,z+1,rfl,hs,zzg _,zza _,zzj _,fun bs _=>by rw[Nat.zero_mul];exact zzj _,zzd _,.inl rfl⟩
      .have hpos:0<l1.length:=by rw[e1];exact Nat.mul_pos (by omega) (zzg _)
       obtain⟨x0,v0,_,b2,_,_⟩:=p1 0 hpos;have b2':W.cell? a=some v0:=by simpa[Addr.add]using b2
       unfold World.cell? at b2';cases hbk:W.heap[a.block]? with
       |none=>rw[hbk]at b2';cases b2'
       |some o=>
        rw[hbk]at b2';cases o<;>simp only[reduceCtorEq]at b2';rename_i C ty fr;have hspot:a.spot=none:=by
         cases hsp:a.spot with
         |none=>rfl
         |some s=>rw[hsp]at b2';simp at b2'
        have pN:∀i v,W.cell? (a.add i)=some v->C[a.off+i]?=some v:=by
         intro i v hv;unfold World.cell? at hv;rw[ChangeShapes.block_add,hbk]at hv;simp only[]at hv;split at hv
         .cases hv
         .rw[<-hv];by_cases hi:i=0
          .subst hi;simp[Addr.add]
          .simp[Addr.add,hi]
        have hpt:∀i,i<l1.length->∃x v,l1[i]?=some x/\C[a.off+i]?=some v/\aq ρ1 x v/\v.oneCell'=true:=by
         intro i hi;obtain⟨x,v,a1,a2,a3,a4⟩:=p1 i hi;exact⟨x,v,a1,pN i v a2,a3,a4⟩
        have hle:a.off+l1.length<=C.size:=by
         obtain⟨x,v,_,a2,_⟩:=hpt (l1.length-1) (by omega);have:=(Array.getElem?_eq_some_iff.1 a2).1;omega
        obtain⟨ρ2,pl,q1,q2,q3,q4,q5,q6,q7,q8⟩:=r1.outRow z1 hbk hle hpt;refine⟨_,ρ2,[.slice S1.nx 1 0 len (cap*(z+1)) (z+1) (some cap)],g1.trans q7,q8,q6,aD.cons ?_ aD.nil,fun v hv=>?_,?_⟩
        .simp only[aq];have hN:a.off+cap*(z+1)<=C.size:=by rw[<-e1];exact hle
         refine⟨pl,cap,q1,by rw[q4,e1];exact zza _,by rw[Nat.zero_add];exact Nat.mul_le_mul_right _ hlen,zzg _,hlen,.inl ⟨?_,by rw[q3,q5];exact hN,fun k hk=>by cases hk;exact⟨rfl,by omega⟩⟩⟩;obtain⟨ab,ao,asp⟩:=a;simp only at hspot q2 q3;subst hspot;rw[q2,q3];rfl
        .simp at hv;subst hv;rfl
        .unfold eB;simp only[hu];refine .inr ⟨S1.nx,len,cap,z+1,rfl,hs,zzg _,hlen,mn,hcapB,zzd _,.inr ⟨l1,ty,get_set_same _ _ _,e1,fun i hi=>?_⟩⟩;exact gZ q7.h q7.nx _ _ _ (t1 i hi)
  ·-- records
   rename_i fs hu;rw[zzc,List.all_eq_true]at hp;obtain⟨hpf,htl⟩:=hp;cases hs:aH cx t with
   |none=>rw[hs]at htl;cases htl
   |some N=>
    rw[hs]at htl;simp only[]at htl;obtain⟨xs,n,rfl,hxe,sB,hxl,hF⟩:=DataW.trod_struct (cJ aI hu) h;rw[fP aI hs]at sB;have hwt:DataW.weights P t (.agg (xs.map (·.1)))=DataW.weightsEach P (fs.toList.map (·.type)) (xs.map (·.1)):=by
     simp only[DataW.weights,cJ aI hu]
    subst hxe;replace hW:∀n,n∈DataW.weights P t (.agg (xs.map (·.1)))->n<=reachBytes:=hW;rw[hwt]at hW;have go:∀(l:List Field)(i off:Nat),(∀j f,l[j]?=some f->fs[i+j]?=some f)->iE cx l off N=true->off<=N->∀(S:AS)(ρ:bf),rI S->R Λ ρ S W ->
      ∃S' ρ' jF,hO S ρ S' ρ'/\rI S'/\R Λ ρ' S' W/\aD ρ' jF (cs.drop off)/\(∀v,v∈cs.drop off->v.oneCell'=true)/\jL (aH cx) (eB cx S' m) (l.map (·.type)) jF:=by
     intro l
     induction l with
     |nil=>
      intro i off _ ht _ S ρ hz hR;have:off=N:=by simpa[iE,bC]using ht
      subst this;have hd:cs.drop off=[]:=List.drop_eq_nil_of_le (by omega);refine⟨S,ρ,[],hO.refl _ _,hz,hR,by rw[hd];exact aD.nil,?_,rfl⟩;intro v hv;rw[hd]at hv;cases hv
     |cons f l ih=>
      intro i off hl ht hoff S ρ hz hR;unfold iE at ht;rw[zzc,bC,decide_eq_true_eq]at ht;obtain⟨hfo,ht⟩:=ht;cases hsf:aH cx f.type with
      |none=>rw[hsf]at ht;cases ht
      |some zf=>
       rw[hsf]at ht;simp only[]at ht;have hfi:fs[i]?=some f:=by have:=hl 0 f rfl;simpa using this
       have hi:i<xs.length:=by
        have:=(Array.getElem?_eq_some_iff.1 hfi).1;omega
       have htr:=hF i f hfi;rw[zzb hi,fP aI hsf,hfo]at htr;have hmem:f∈fs.toList:=by rw[Array.mem_toList_iff];exact Array.mem_of_getElem? hfi
       obtain⟨S1,ρ1,l1,g1,z1,r1,e1,o1,t1⟩:=absorb aI m f.type (hpf f hmem) n _ _ S ρ hz hR htr (fun n hn=>hW n (DataW.weights_mem_each (j:=i) (by rw[List.getElem?_map,zzm,hfi];rfl) (by rw[List.getElem?_map,zzb hi];rfl) n hn));have hle:off+zf<=N:=by
        have mono:∀(l:List Field)(o:Nat),iE cx l o N=true->o<=N:=by
         intro l
         induction l with
         | nil => intro o h; have : o = N := by simpa [iE, bC] using h
                  omega
         |cons g l ih=>
          intro o h;unfold iE at h;rw[zzc]at h;cases hg:aH cx g.type with
          |none=>rw[hg]at h;cases h.2
          |some zg=>rw[hg]at h;have:=ih _ h.2;omega
        exact mono l _ ht
       obtain⟨S2,ρ2,l2,g2,z2,r2,e2,o2,t2⟩:=ih (i+1) (off+zf) (fun j f' hj=>by have:=hl (j+1) f' (by simpa using hj);rw[<-this];congr 1;omega) ht hle S1 ρ1 z1 r1;have hsp:cs.drop off=(cs.drop off).take zf++cs.drop (off+zf):=by
        rw[<-List.drop_drop];exact (List.take_append_drop zf (cs.drop off)).symm
       have hl1:l1.length=zf:=by rw[e1.length];simp;omega
       refine⟨S2,ρ2,l1++l2,g1.trans g2,z2,r2,by rw[hsp];exact (e1.mono g2.ext).append e2,fun v hv=>?_,l1,l2,rfl,by rw[hl1];exact hsf,gZ g2.h g2.nx _ _ _ t1,t2⟩;rw[hsp]at hv;rcases List.mem_append.1 hv with hv|hv
       .exact o1 v hv
       .exact o2 v hv
    obtain⟨S1,ρ1,l1,g1,z1,r1,e1,o1,t1⟩:=go fs.toList 0 0 (fun j f hj=>by rw[Nat.zero_add,<-zzm];exact hj) htl (zzj _) S ρ hz hR;refine⟨S1,ρ1,l1,g1,z1,r1,by simpa using e1,fun v hv=>o1 v (by simpa using hv),?_⟩;unfold eB;simp only[hu];exact t1
termination_by m=>m
def qD(l:List AV):AV:=match l with|[v]=>v|_=>.top
def argA(cx:Cx)(t:TypeId)(l:List AV):AV:=match aX cx t with|some true=>.agg l|_=>qD l
def rM(cx:Cx)(S:AS)(m:Nat):List TypeId->List AV->Prop
 |[],l=>l=[]
 |t::ts,l=>∃jF r,l=argA cx t jF::r/\eB cx S m t jF/\rM cx S m ts r
theorem absorb_arg(aI:cU Λ P cx){m:Nat}{t:TypeId}(hp:jr cx m t=true){v:Value}{d:DataW H}{ps:List MemPlace}{r:Reach}{b0:Nat}(hv:Value.okWide P W r b0 t v)(S:AS)(ρ:bf)(hz:rI S)(hR:R Λ ρ S W)
  (h:DataW.Trod enc P W base (fun _=>true) held t v d ps) (hW:∀n,n∈d.weights P t->n<=reachBytes):∃S' ρ' jF,hO S ρ S' ρ'/\rI S'/\R Λ ρ' S' W/\aq ρ' (argA cx t jF) v/\eB cx S' m t jF:=by
 obtain⟨fuel,h⟩:=h;obtain⟨S1,ρ1,l1,g1,z1,r1,e1,o1,t1⟩:=absorb aI m t hp fuel _ _ S ρ hz hR h hW;refine⟨S1,ρ1,l1,g1,z1,r1,?_,t1⟩;cases m with
 |zero=>exact t1.elim
 |succ m=>
  unfold jr at hp;unfold argA aX;unfold Value.okWide at hv;have flat:v.cells.toList.length=1->(∀cs,v≠.agg cs)->aq ρ1 (qD l1) v:=by
   intro _ cl;have hc:v.cells.toList=[v]:=by cases v<;>first|rfl|exact absurd rfl (cl _)
   rw[hc]at e1;cases l1 with
   |nil=>simp only[qD,aq]
   |cons x l=>
    simp only[aD]at e1;obtain⟨y,ys,ee,q1,q2⟩:=e1;cases ee;cases l with
    |nil=>exact q1
    |cons z l=>simp only[qD,aq]
  have Aw:(∀fs,P.underlying t≠some (.struct fs))->(∀n e,P.underlying t≠some (.array n e))->∀cs,v≠.agg cs:=by
   intro h1 h2 cs e;subst e;have BL:Cell.okWide P W r b0 t (.agg cs):=by
    split at hv
    .rename_i fs hu;exact absurd hu (h1 fs)
    .rename_i n e hu;exact absurd hu (h2 n e)
    .exact hv
   unfold Cell.okWide at BL;cases hu:P.underlying t with
   |none=>rw[hu]at BL;simp[Cell.ok,hu]at BL
   |some dd=>
    rw[hu]at BL;cases dd<;>simp[Cell.ok,hu]at BL
  have one:(∀cs,v≠.agg cs)->v.cells.toList.length=1:=by
   intro cl;cases v<;>first|rfl|exact absurd rfl (cl _)
  split at hp<;>(try (cases hp;done))<;>rename_i hu<;>simp only[hu]
  .have cl:=Aw (fun fs e=>by rw[cJ aI hu]at e;cases e) (fun n e e'=>by rw[cJ aI hu]at e';cases e');exact flat (one cl) cl
  .have cl:=Aw (fun fs e=>by rw[cJ aI hu]at e;cases e) (fun n e e'=>by rw[cJ aI hu]at e';cases e');exact flat (one cl) cl
  .have cl:=Aw (fun fs e=>by rw[cJ aI hu]at e;cases e) (fun n e e'=>by rw[cJ aI hu]at e';cases e');exact flat (one cl) cl
  .have cl:=Aw (fun fs e=>by rw[cJ aI hu]at e;cases e) (fun n e e'=>by rw[cJ aI hu]at e';cases e');exact flat (one cl) cl
  .rw[cJ aI hu]at hv;simp only[]at hv;obtain⟨cs,rfl,_⟩:=hv;simp only[aq];exact⟨cs,rfl,e1,o1⟩
theorem wB(aI:cU Λ P cx){m:Nat}{r:Reach}{b0:Nat}:∀(ts:List TypeId)(vs:List Value)(ds:List (DataW H))(p:List MemPlace)(S:AS)(ρ:bf),ts.all (jr cx m)=true ->
  (∀(j:Nat)t v,ts[j]?=some t->vs[j]?=some v->Value.okWide P W r b0 t v)->rI S->R Λ ρ S W->DataW.TrodAll enc P W base (fun _=>true) held ts vs ds p->(∀n,n∈DataW.weightsEach P ts ds->n<=reachBytes) ->
  ∃S' ρ' l,hO S ρ S' ρ'/\rI S'/\R Λ ρ' S' W/\aD ρ' l vs/\rM cx S' m ts l
 |[],vs,ds,p,S,ρ,_,_,hz,hR,h,_=>by
  cases vs with
  |nil=>exact⟨S,ρ,[],hO.refl _ _,hz,hR,aD.nil,rfl⟩
  |cons v vs=>cases ds<;>exact h.elim
 |t::ts,vs,ds,p,S,ρ,hp,hv,hz,hR,h,hW=>by
  cases vs with
  |nil=>cases ds<;>exact h.elim
  |cons v vs=>
   cases ds with
   |nil=>exact h.elim
   |cons d ds=>
    obtain⟨p1,p2,h1,h2,_⟩:=h;simp only[List.all_cons,zzc]at hp;obtain⟨S1,ρ1,a1,g1,z1,r1,e1,t1⟩:=absorb_arg aI hp.1 (hv 0 t v rfl rfl) S ρ hz hR h1 (fun n hn=>hW n (by simp only[DataW.weightsEach];exact zzi _ hn));obtain⟨S2,ρ2,l2,g2,z2,r2,e2,t2⟩:=wB aI ts vs ds p2 S1 ρ1 hp.2 (fun j t' v' h1 h2=>hv (j+1) t' v' (by simpa using h1) (by simpa using h2)) z1 r1 h2 (fun n hn=>hW n (by simp only[DataW.weightsEach];exact zze _ hn));exact⟨S2,ρ2,_,g1.trans g2,z2,r2,aD.cons (e1.mono g2.ext _ _) e2,a1,l2,rfl,gZ g2.h g2.nx _ _ _ t1,t2⟩
end
end Go.Am
end
namespace Go.Am
open Go
theorem append_gwt{cx:Cx}{S:AS}{t u:Nat}{ts:List TypeId}{p:Nat×Nat×Nat}{v x:AV}{cs ds:List AV}{d:TypeDesc}(h:n9 cx t=some p)(hu:bJ cx u=some d)(hd:notInt d=true)
  (ho:Gw S v p.2.1 p.1 cs) {nx:Nat} (ht:taken S p.2.1 x=some (nx,ds)) (hlen:ds.length=nx*p.2.1) (hf:fits (sLen v+nx) p.2.2=true) :
  ∃v' T,aY cx S .append (t::u::ts) [v,x]=.val v' T/\Gw T v' p.2.1 p.1 (cs++ds)/\(∀id,id<S.nx->id+1≠aV v->T.h.get id=S.h.get id)/\S.nx<=T.nx/\sLen v'=sLen v+nx/\(isNil v'=(isNil v&&decide (nx=0))) /\
   (aV v'=aV v\/S.nx<aV v')/\(nx≠0->capNo v'=true):=by
 rw[wu h hu hd];obtain⟨ho1,pz⟩:=ho;cases hn:nx with
 |zero=>
  rw[hn]at ht hlen;have hds:ds=[]:=by rw[Nat.zero_mul]at hlen;exact List.length_eq_zero_iff.1 hlen
  subst hds;refine⟨v,S,?_,by rw[List.append_nil];exact⟨ho1,pz⟩,fun _ _ _=>rfl,zza _,rfl,by simp,.inl rfl,fun h=>absurd rfl h⟩;unfold gg;rcases pz with rfl|⟨id,g,off,n,aM,cap,rfl,_⟩
  .simp[ht,dO]
  .simp[ht,bC,dO]
 |succ m=>
  rw[hn]at ht hlen hf;rcases pz with rfl|⟨id,g,off,n,aM,cap,rfl,hc,cR,cells,low,top,hg,hl,htq⟩
  .have hcs:cs=[]:=by have:=ho1.rd;simp only[lY,zzf]at this;exact this.symm
   subst hcs;have qf:Own (⟨S.h.set S.nx (.row ds 0 0 false p.1),S.nx+1⟩:AS) S.nx (.slice S.nx 0 0 (m+1) ((m+1)*p.2.1) p.2.1 none) p.2.1 p.1 ds:=
    .inr ⟨S.nx,0,0,m+1,rfl,zza _,zzd _,get_set_same _ _ _,zza _,hlen⟩
   refine⟨.slice S.nx 0 0 (m+1) ((m+1)*p.2.1) p.2.1 none,⟨S.h.set S.nx (.row ds 0 0 false p.1),S.nx+1⟩,?_,qf.gw,fun i hi _=>ah _ _ (by omega),zzk _,by simp[sLen],by simp[isNil],.inr (by simp[aV]),fun _=>rfl⟩;unfold gg;have Dz:fits (m+1) p.2.2=true:=by simpa[sLen]using hf
   simp only[ht,Dz,cond_true,grown];simp[dO]
  .have Dq:g<=top:=Nat.le_of_eq htq;have sB:(cells.drop off).take (n*p.2.1)=cs/\cs.length=n*p.2.1:=by
    have h1:=ho1.rd;have h2:=ho1.len;simp only[sLen]at h2;refine⟨?_,h2⟩;cases n with
    |zero=>simp only[lY,zzf]at h1;subst h1;simp
    |succ n=>
     simp only[lY,dP,hg,cr]at h1;split at h1
     .simpa using h1
     .cases h1
   obtain⟨sB,hcn⟩:=sB;have kk:(cs++ds).length=(n+(m+1))*p.2.1:=by rw[List.length_append,hcn,hlen];exact (Nat.add_mul n (m+1) p.2.1).symm
   simp only[sLen]at hf;have e1:Nat.add n (m+1)=n+(m+1):=rfl;have e2:Nat.mul n p.2.1=n*p.2.1:=rfl;have e3:Nat.mul (n+(m+1)) p.2.1=(n+(m+1))*p.2.1:=rfl;cases cap with
   |some c=>
    simp only[capN,decide_eq_true_eq]at hc;subst hc;have qf:Own (⟨S.h.set S.nx (.row (cs++ds) 0 0 false p.1),S.nx+1⟩:AS) S.nx (.slice S.nx 0 0 (c+(m+1)) ((c+(m+1))*p.2.1) p.2.1 none) p.2.1 p.1 (cs++ds):=
     .inr ⟨S.nx,0,0,c+(m+1),rfl,zza _,zzd _,get_set_same _ _ _,zza _,kk⟩
    refine⟨.slice S.nx 0 0 (c+(m+1)) ((c+(m+1))*p.2.1) p.2.1 none,_,?_,qf.gw,fun i hi _=>ah _ _ (by omega),zzk _,rfl,by simp[isNil],.inr (by simp[aV]),fun _=>rfl⟩;unfold gg;have e4:decide (c+(m+1)<=c)=false:=by simp
    simp only[ht,bC,decide_true,cond_true,hg,cG,hl,Dq,zzl,aQ,e1,hf,e2,e4,cond_false,grown,cK,cY,cA,e3,sB];rfl
   |none=>
    unfold gg;by_cases hw:(decide (off=0)&&decide (g=top)&&decide (cells.length=n*p.2.1))=true
    .simp only[zzc,decide_eq_true_eq]at hw;obtain⟨⟨rfl,rfl⟩,hw⟩:=hw;have sC:cells=cs:=by rw[<-sB,List.drop_zero,<-hw,List.take_length]
     subst sC;refine⟨.slice id (g+1) 0 (n+(m+1)) ((n+(m+1))*p.2.1) p.2.1 none,⟨S.h.set id (.row (cells++ds) low (g+1) false p.1),S.nx⟩,?_,?_,fun i hi cl=>ah _ _ (fun e=>cl (by simp[aV,e])),zza _,rfl,by simp[isNil],.inl rfl,fun _=>rfl⟩
     .simp only[ht,bC,decide_true,cond_true,hg,cG,hl,zza,zzl,aQ,e1,hf,Bool.not_true,Bool.or_false,cond_false,bL,hcn,e2,e3,cA];rfl
     .have qf:Own (⟨S.h.set id (.row (cells++ds) low (g+1) false p.1),S.nx⟩:AS) 0 (.slice id (g+1) 0 (n+(m+1)) ((n+(m+1))*p.2.1) p.2.1 none) p.2.1 p.1 (cells++ds):=
       .inr ⟨id,g+1,low,n+(m+1),rfl,zzj _,cR,get_set_same _ _ _,Nat.le_succ_of_le hl,kk⟩
      exact qf.gw
    .have EV:(decide (off=0)&&decide (g=top)&&decide (cells.length=n*p.2.1))=false:=by simpa using hw
     refine⟨.slice id (top+1) 0 (n+(m+1)) ((n+(m+1))*p.2.1) p.2.1 none,⟨S.h.set id (.row (cs++ds) (top+1) (top+1) false p.1),S.nx⟩,?_,?_,fun i hi cl=>ah _ _ (fun e=>cl (by simp[aV,e])),zza _,rfl,by simp[isNil],.inl rfl,fun _=>rfl⟩
     .simp only[ht,bC,decide_true,cond_true,hg,cG,hl,Dq,zzl,aQ,e1,hf,Bool.not_true,Bool.or_false,cond_false,bL,e2,e3,cA,cK,cY,sB,EV];rfl
     .have qf:Own (⟨S.h.set id (.row (cs++ds) (top+1) (top+1) false p.1),S.nx⟩:AS) 0 (.slice id (top+1) 0 (n+(m+1)) ((n+(m+1))*p.2.1) p.2.1 none) p.2.1 p.1 (cs++ds):=
       .inr ⟨id,top+1,top+1,n+(m+1),rfl,zzj _,cR,get_set_same _ _ _,zza _,kk⟩
      exact qf.gw
def bH(l:List Nat):List AV:=l.map fun n:Nat=>AV.int .u8 (n:Int)
theorem bM(l:List Nat):(bH l).length=l.length:=by simp[bH]
theorem mA(l m:List Nat):bH l++bH m=bH (l++m):=by simp[bH]
theorem bytA_one(n:Nat):[AV.int .u8 (n:Int)]=bH [n]:=rfl
theorem yQ(s:List Nat):jt (fun n=>AV.int .u8 (.ofNat n)) s=bH s:=by
 induction s with
 |nil=>rfl
 |cons x s ih=>show AV.int .u8 (.ofNat x)::jt _ s=AV.int .u8 (x:Int)::bH s;rw[ih];rfl
theorem oD:∀(s:List Nat),(∀c,c∈s->c<256)->oE (bH s)=some s
 |[],_=>rfl
 |x::s,h=>by
  show pj (.int .u8 (x:Int)) (oE (bH s))=_;rw[oD s fun c hc=>h c (zzh _ hc)];have hx:=h x (List.mem_cons_self ..);show cond (Nat.blt x 256) (some (x::s)) none=_;rw[gJ];simp[hx]
noncomputable def Fi(cx:Cx)(t:TypeId):Bool:=match bJ cx t with|some .string=>true|_=>false
theorem lS{cx:Cx}{t:TypeId}(h:Fi cx t=true):bJ cx t=some .string:=by
 unfold Fi at h;split at h
 .assumption
 .cases h
noncomputable def bytE(cx:Cx)(t:TypeId):Option TypeId:=match bJ cx t with|some (.slice e)=>(match bJ cx e with|some (.int .u8)=>some e|_=>none)|_=>none
theorem Ei{cx:Cx}{t e:TypeId}(h:bytE cx t=some e):bJ cx t=some (.slice e)/\bJ cx e=some (.int .u8):=by
 unfold bytE at h;split at h
 .rename_i e' h1;split at h
  .rename_i h2;cases h;exact⟨h1,h2⟩
  .cases h
 .cases h
def strOf:AV->Option (List Nat) | .str s=>some s|_=>none
theorem yr{s:List Nat}:strOf (.str s)=some s:=rfl
section
variable{cx:Cx}{F:Fr}{S:AS}{dst:Option Tmp}{ty:TypeId}{pos:String}{af:Array Edge}{gd:Option (Nat×Bool)}
theorem ep{t:TypeId}{x ix:Operand}{v w:AV}{s:List Nat}{i c:Nat}(hx:eval F x=v)(hv:strOf v=some s)(hi:eval F ix=w)(hw:eY w=some i)(h:Fi cx t=true)(hc:s[i]?=some c):
  bE cx F S ⟨dst,.index t x ix,ty,pos,af,gd⟩=.val (.int .u8 c) S:=by
 subst hx hi;have hu:=lS h;cases hx:eval F x<;>rw[hx]at hv<;>simp only[strOf]at hv<;>cases hv;have kK:nth i s=some c:=by rw[gq];exact hc
 simp only[bE,hu,hx,hw,kK];rfl
theorem sZ{t:TypeId}{s:List Nat}{lo hi:Option Operand}{l k:Nat}(h:Fi cx t=true)(hl:bound F lo 0=some l)(hh:bound F hi s.length=some k)(h1:l<=k)(h2:k<=s.length):
  fL cx F t (.str s) lo hi none=some (.str ((s.drop l).take (k-l))):=by
 have hb:bounds F s.length s.length lo hi none=some (l,k,s.length):=by
  unfold bounds;rw[hl,hh];have e:bound F none s.length=some s.length:=rfl;rw[e];simp[cG,h1,h2,vu]
 unfold fL;simp only[lS h,hb,cK,cY];rfl
theorem zG{a b e:TypeId}{x:Operand}{v:AV}{s:List Nat}(hx:eval F x=v)(hv:strOf v=some s)(ha:Fi cx a=true)(hb:bytE cx b=some e):
  bE cx F S ⟨dst,.convert a b x,ty,pos,af,gd⟩=.val (.slice S.nx 0 0 s.length s.length 1 none) ⟨S.h.set S.nx (.row (bH s) 0 0 true e),S.nx+1⟩:=by
 subst hx;cases hx:eval F x<;>rw[hx]at hv<;>simp only[strOf]at hv<;>cases hv;obtain⟨h1,h2⟩:=Ei hb;simp only[bE,lS ha,h1,h2,hx,yQ]
theorem gC{a b e:TypeId}{x:Operand}{v:AV}{s:List Nat}(h:Sl S v 1 (bH s))(hs:∀c,c∈s->c<256)(hx:eval F x=v)(ha:bytE cx a=some e)(hb:Fi cx b=true):
  bE cx F S ⟨dst,.convert a b x,ty,pos,af,gd⟩=.val (.str s) S:=by
 obtain⟨h1,h2⟩:=Ei ha;have hlen:=h.len;rw[bM,Nat.mul_one]at hlen;rcases h.cases with rfl|⟨id,g,off,n,aM,cap,rfl⟩
 .have:s=[]:=List.length_eq_zero_iff.1 (by rw[hlen];rfl);subst this;simp only[bE,h1,lS hb,hx,h2]
 .have vE:=h.rd;simp only[sLen]at hlen;cases n with
  |zero=>
   have:s=[]:=List.length_eq_zero_iff.1 hlen;subst this;simp only[bE,h1,lS hb,hx,h2]
  |succ n=>
   simp only[lY,Nat.mul_one]at vE;simp only[bE,h1,lS hb,hx,h2];rw[vE];simp only[oD s hs]
end
theorem ustr_text{cx:Cx}{S:AS}{t e id g off n aM low top:Nat}{frz:Bool}{ts:List TypeId}{k:IntKind}{s:List Nat}{cells:List AV}(hu:bJ cx t=some (.pointer e))(he:bJ cx e=some (.int .u8))(hz:aH cx e=some 1)(hn:0<n)(hl:n<=4611686018427387904)
  (h:S.h.get id=some (.row cells low top frz e)) (hf:mY frz low=true) (hr:rd S id g off n aM=some (bH s)) (hs:∀c,c∈s->c<256) :
  aY cx S .unsafeString (t::ts) [.ptr id g off aM,.int k (n:Int)]=.val (.str s) ⟨S.h.set id (.row cells low top true e),S.nx⟩:=by
 obtain⟨m,rfl⟩:∃m,n=m+1:=⟨n-1,by omega⟩
 show dO (B6 cx S t (.ptr id g off aM) (m+1)) 15=_;unfold B6;simp only[hu,he,hz,h];have e1:(Nat.beq e e&&Nat.ble (m+1) 4611686018427387904&&mY frz low)=true:=by rw[hf,bC,cG];simp[hl]
 rw[e1];simp only[cond_true,hr,oD s hs];rfl
end Go.Am
