/-
  The abstract machine against the model: one operation.
-/
import Derived.Test.YtdknlbnljfdhgaaGreatDoorAmRange
import Derived.Laws.BytesString
import Derived.Laws.BytesArg
open Go.Result renaming andThen_ok->zza
open Go.Sem renaming run_bind->zzb,run_pure->zzd
open Array renaming getElem?_toList->zzc,ext'->zzg,toList_append->zzh
open Bool renaming and_eq_true->zze
open Option.some renaming injEq->zzf
open Nat renaming succ_ne_zero->zzi,mod_eq_of_lt->zzk,add_assoc->zzl
open List renaming map_map->zzj
set_option linter.unusedVariables false
set_option linter.unusedSimpArgs false
namespace Go.Am
open Go
variable{Λ:LB}
def cU(Λ:LB)(P:Program)(ρ:aY)(S:AS)(w:World)(s:Sem Next)(v:AV)(S':AS):Prop:=
 ∃nx x ρ' w',s.run P w=.ok nx w'/\DY nx=some x/\ai ρ' v x/\R Λ ρ' S' w'/\Kp ρ S w ρ' S' w'
theorem cU.I7{P:Program}{ρ:aY}{S S':AS}{w:World}{s:Sem Value}{v:AV}(h:tp Λ P ρ S w s v S'):cU Λ P ρ S w (do pure (.value (<-s))) v S':=by
 obtain⟨x,ρ',w',r1,r2,r3,r4⟩:=h;exact⟨.value x,x,ρ',w',by simp only[zzb,r1,zza,zzd],rfl,r2,r3,r4⟩
theorem cU.still{P:Program}{ρ:aY}{S:AS}{w:World}{s:Sem Value}{v:AV}(hR:R Λ ρ S w)(h:∃z,s.run P w=.ok z w/\ai ρ v z):cU Λ P ρ S w (do pure (.value (<-s))) v S:=by
 obtain⟨z,r1,r2⟩:=h;exact cU.I7 ⟨z,ρ,w,r1,r2,hR,Kp.refl _ _ _⟩
theorem cU.val{P:Program}{ρ:aY}{S:AS}{w:World}{x:Value}{v:AV}(hR:R Λ ρ S w)(h:ai ρ v x):cU Λ P ρ S w (pure (.value x)) v S:=
 ⟨.value x,x,ρ,w,rfl,rfl,h,hR,Kp.refl _ _ _⟩
theorem cV{v:Option AV}{S S':AS}{n:Nat}{u:AV}(h:val? v S n=.val u S'):v=some u/\S'=S:=by
 cases v with
 |none=>simp[val?]at h
 |some x=>simp only[val?,AR.val.injEq]at h;exact⟨by rw[h.1],h.2.symm⟩
theorem gh{v:Option (AV×AS)}{S':AS}{n:Nat}{u:AV}(h:ey v n=.val u S'):v=some (u,S'):=by
 cases v with
 |none=>simp[ey]at h
 |some x=>obtain⟨a,b⟩:=x;simp only[ey,AR.val.injEq]at h;rw[h.1,h.2]
theorem IA{ρ:aY}{x:AV}{v:Value}{b:Bool}(h:x=.bool b)(hv:ai ρ x v):v=.bool b:=by subst h;simpa[ai]using hv
theorem Uj{P:Program}{cx:Cx}(aF:dQ Λ P cx){ρ:aY}{S:AS}{w:World}(hR:R Λ ρ S w){t:TypeId}{id g off lim:Nat}{x':Value}(hx:ai ρ (.ptr id g off lim) x'):
  (∀n cs,aN cx t=some true->aG cx t=some n->rd S id g off n lim=some cs->∃z,(Instr.loadAt t x').run P w=.ok z w/\ai ρ (.agg cs) z) /\
  (∀v,aN cx t=some false->rd S id g off 1 lim=some [v]->∃z,(Instr.loadAt t x').run P w=.ok z w/\ai ρ v z):=by
 simp only[ai]at hx;obtain⟨pl,p1,p2,rfl⟩:=hx;constructor
 .intro n cs ha hs hr;obtain⟨arr,q1,q2,q3,q4,_⟩:=lj (P:=P) hR hr p1 p2;exact⟨.agg arr,by simp only[Instr.loadAt,Instr.sureAddr,loadVar,zzb,zzd,zza,rV aF ha,if_true,fg aF hs,q1],by simp only[ai];exact⟨arr,rfl,q3,q4⟩⟩
 .intro v ha hr;obtain⟨arr,q1,q2,q3,q4,q5,q6⟩:=lj (P:=P) hR hr p1 p2;obtain⟨z,hz,PV⟩:=q6 0 (by omega);refine⟨z,?_,?_⟩
  .simp only[Nat.add_zero]at hz;simp only[Instr.loadAt,Instr.sureAddr,loadVar,zzb,zzd,zza,rV aF ha,Bool.false_eq_true,if_false,run_load,hz]
  .obtain⟨y,hy,fi⟩:=q3.get (i:=0) (x:=v) rfl;rw[PV]at hy;cases hy;exact fi
theorem AO:∀(cs:List AV)(l:List Nat)(arr:List Value)(ρ:aY),tZ cs=some l->ay ρ cs arr ->
  arr=(l.map Int.ofNat).map (Value.int .u8)/\∀n,n∈l->n<256:=by
 intro cs
 induction cs with
 |nil=>intro l arr ρ h hr;simp only[ay]at hr;have h':some []=some l:=h;cases h';exact⟨hr,fun n hn=>by cases hn⟩
 |cons c cs ih=>
  intro l arr ρ h hr;simp only[ay]at hr;obtain⟨y,ys,rfl,hy,hys⟩:=hr;have h':sF c (tZ cs)=some l:=h;unfold sF at h';split at h'
  .rename_i n l' va;rw[iJ]at h';by_cases hn:n<256
   .rw[decide_eq_true hn]at h';simp only[cond_true,zzf]at h';subst h';obtain⟨i1,i2⟩:=ih l' ys ρ va hys;simp only[ai]at hy;rw[i1,hy];exact⟨rfl,fun m hm=>by cases hm with|head=>exact hn|tail _ h=>exact i2 m h⟩
   .rw[decide_eq_false hn]at h';cases h'
  .cases h'
theorem Dw(l:List Nat)(h:∀n,n∈l->n<256):((l.map Int.ofNat).foldl (fun r n=>r.push (UInt8.ofNat n.toNat)) ByteArray.empty).data.toList.map UInt8.toNat=l:=by
 rw[foldl_push_bytes];simp only[zzj];have e:(ByteArray.empty.data++(l.map ((fun n:Int=>UInt8.ofNat n.toNat)∘Int.ofNat)).toArray).toList=l.map fun n=>UInt8.ofNat n:=by
  simp[Function.comp]
 rw[e,zzj];have:∀n,n∈l->(UInt8.toNat∘fun n=>UInt8.ofNat n) n=n:=fun n hn=>by
  simp only[Function.comp,UInt8.toNat_ofNat'];exact zzk (h n hn)
 rw[List.map_congr_left this];simp
theorem XZ{P:Program}{ρ:aY}{S:AS}{w:World}(hR:R Λ ρ S w){e:TypeId}{b:ByteArray}{s:List Nat}(hb:b.data.toList.map UInt8.toNat=s):
  tp Λ P ρ S w (Conv.stringToBytes e b) (.slice S.nx 0 0 s.length s.length 1 none) ⟨S.h.set S.nx (.row (oD (fun n=>AV.int .u8 (.ofNat n)) s) 0 0 true e),Nat.succ S.nx⟩:=by
 let q:Question:=.appendCap b.size 0 e
 let c:=q.cut (w.tape w.drawn q)
 have CU:b.size<=c:=Nat.le_add_right _ _
 let C:Array Value:=b.data.map (fun x=>Value.int .u8 x.toNat)++Array.replicate (c-b.size) (.int .u8 0)
 have hCs:C.size=c:=by simp[C];have:b.data.size=b.size:=rfl;omega
 let w':World:={w with drawn:=w.drawn+1,heap:=w.heap.push (.cells C e (c,c+1))}
 have nf:=oh hb;have pO:oD (fun n=>AV.int .u8 (.ofNat n)) s=b.data.toList.map fun x=>AV.int .u8 (x.toNat:Int):=by
  rw[iw,<-hb,zzj];rfl
 have hlen:(oD (fun n=>AV.int .u8 (.ofNat n)) s).length=s.length:=by rw[iw];simp
 have KS:Cells ρ (oD (fun n=>AV.int .u8 (.ofNat n)) s) (C.toList.take (oD (fun n=>AV.int .u8 (.ofNat n)) s).length):=by
  have e1:C.toList.take (oD (fun n=>AV.int .u8 (.ofNat n)) s).length=b.data.toList.map fun x=>Value.int .u8 (x.toNat:Int):=by
   rw[hlen,<-nf];simp only[C,zzh,Array.toList_map];rw[List.take_append_of_le_length (by simp),List.take_of_length_le (by simp)]
  rw[e1,pO];refine⟨ay.map _ _ (fun x=>by simp[ai]) _,fun x hx=>?_⟩;obtain⟨y,_,rfl⟩:=List.mem_map.1 hx;rfl
 have jiG:kP (.cells C e (c,c+1)) w w':=⟨⟨rfl,rfl,rfl⟩,rfl⟩
 have jir:fe C:=by
  refine fe.of fun v hv=>?_;simp only[C,zzh,Array.toList_map,List.mem_append,List.mem_map,Array.toList_replicate,List.mem_replicate]at hv;rcases hv with⟨x,_,rfl⟩|hv
  .rfl
  .obtain⟨_,rfl⟩:=hv;rfl
 obtain⟨ρ',pl,p1,p2,p3,p4,p5,p6,p7⟩:=hR.ME (frz:=true) jiG (fun h=>by cases h) KS.1 (by rw[hlen,hCs];omega) jir;refine⟨.slice (some ⟨w.heap.size,0,none⟩) s.length c,ρ',w',?_,?_,p6,p7⟩
 .have hch:(choose (.appendCap b.size 0 e)).run P w=.ok c {w with drawn:=w.drawn+1}:=by rw[run_choose];rfl
  unfold Conv.stringToBytes;simp only[zzb,hch,zza,Go.newRow,run_newObj,zzd,markStringish,run_shape];have Bq:({w with drawn:=w.drawn+1,heap:=w.heap.push (.cells C e)}:World).shape? w.heap.size=some (e,c):=by
   simp[World.shape?,hCs]
  have UY:({w with drawn:=w.drawn+1,heap:=w.heap.push (.cells C e)}:World).freeze {block:=w.heap.size,off:=c} 1=w':=by
   simp only[World.freeze,Nat.one_ne_zero,if_false,w'];congr 1;apply Array.ext_getElem?;intro i;rw[Array.getElem?_modify];by_cases hi:w.heap.size=i
   .subst hi;simp
   .rw[if_neg hi,Array.getElem?_push,Array.getElem?_push,if_neg (Ne.symm hi),if_neg (Ne.symm hi)]
  simp only[C]at Bq UY;rw[Bq];simp only[run_freeze,zza];rw[UY,nf]
 .exact ai.gL pl c p1 (by rw[p4,hlen];exact Nat.le_refl _) (by omega) (by decide) (by omega) (.inl ⟨by rw[p2,p3],by rw[p3,p5,hCs];omega,fun k hk=>by cases hk⟩)
theorem zX{cx:Cx}{t:TypeId}{n:Nat}(h:aG cx t=some n):∃i,cx.mf.get t=some i/\i.size=n:=by
 unfold aG at h;cases hi:cx.mf.get t with
 |none=>simp[hi]at h
 |some i=>simp only[hi,zzf]at h;exact⟨i,rfl,h⟩
theorem QH(l:List Nat)(h:∀n,n∈l->n<256):(l.map fun n=>UInt8.ofNat n).map UInt8.toNat=l:=by
 rw[zzj];have:∀n,n∈l->(UInt8.toNat∘fun n=>UInt8.ofNat n) n=n:=fun n hn=>by
  simp only[Function.comp,UInt8.toNat_ofNat'];exact zzk (h n hn)
 rw[List.map_congr_left this];simp
theorem RO (ts : Array TypeId) (ty : TypeId) : ∃ m1 m2 m3 m4 m5 : String, ∀ (p : Option Addr) (len : Value), Builtin.unsafeString_ ts ty #[.pointer p, len] = (do
      let n <-asInt len
      let some pt:=ts[0]?|stuck m1
      if n<0 then runtimePanic (.error m2)
      if n > IntKind.i64.max then unsupported (.unsafePointer m3)
      match p with
      |none=>
       if n=0 then pure (.string .empty)
       else runtimePanic (.error m4)
      |some a=>
       if n=0 then pure (.string .empty)
       else if <-variablesAt a (<-elemOf pt) n.toNat then do
        let s <-loadBytes a .empty n.toNat
        freeze a n.toNat
        pure (.string s)
       else unsupported (.unsafePointer m5)):=⟨_,_,_,_,_,fun _ _=>rfl⟩
theorem Pb{ρ:aY}{S:AS}{w:World}(hR:R Λ ρ S w){id g off lim:Nat}{cells:List AV}{low top:Nat}{frz:Bool}{ty:TypeId}(sO:S.h.get id=some (.row cells low top frz ty))
  (h1:low<=g) (h2:g<=top) {pl:Pl} (hp:ρ id g=some pl) (hl:lim<=pl.n) (ho:off<lim):∃N,w.shape? pl.b=some (ty,N)/\pl.base+off<N:=by
 obtain⟨_,h3,_⟩:=hR.jE id _ sO;obtain⟨eA,C,fr,g1,g2,g3,g4,g5,g6,g7,g8,g9⟩:=h3 g h1 h2;rw[hp]at g1;cases g1;exact⟨C.size,by simp[World.shape?,g2],by omega⟩
theorem On{P:Program}{cx:Cx}(aF:dQ Λ P cx){ρ:aY}{S S':AS}{w:World}(hR:R Λ ρ S w){ts:Array TypeId}{t ty:TypeId}{p v:AV}{p':Value}{n:Nat}{k:IntKind}
  (h:RP cx S t p n=some (v,S')) (ht:ts[0]?=some t) (hp:ai ρ p p') :
  ∃z w',(Builtin.unsafeString_ ts ty #[p',.int k (.ofNat n)]).run P w=.ok z w'/\ai ρ v z/\R Λ ρ S' w'/\Kp ρ S w ρ S' w':=by
 have nH:IntKind.i64.max=9223372036854775807:=rfl;obtain⟨m1,m2,m3,m4,m5,jch⟩:=RO ts ty;unfold RP at h;cases n with
 |zero=>
  simp only[]at h;cases p<;>simp only[reduceCtorEq]at h
  case ck=>
   cases h;simp only[ai]at hp;subst hp;refine⟨.string .empty,w,?_,by simp only[ai];exact⟨_,rfl,rfl⟩,hR,Kp.refl _ _ _⟩;rw[jch];simp[asInt,asIntOf,ht,nH]
  case ptr id g off lim=>
   cases h;simp only[ai]at hp;obtain⟨pl,p1,p2,rfl⟩:=hp;refine⟨.string .empty,w,?_,by simp only[ai];exact⟨_,rfl,rfl⟩,hR,Kp.refl _ _ _⟩;rw[jch];simp[asInt,asIntOf,ht,nH]
 |succ m=>
  simp only[]at h;split at h
  .rename_i e id g off lim hu;split at h
   .rename_i cells low top frz GC hue hs sO;rw[bO,cY]at h;cases qA:(decide (GC=e)&&decide (m+1<=4611686018427387904)&&wi frz low)with
    |false=>rw[qA]at h;cases h
    |true=>
     rw[qA]at h;simp only[zze,decide_eq_true_eq]at qA;obtain⟨⟨hte,h63'⟩,hmf⟩:=qA;subst hte;simp only[cond_true]at h;cases hr:rd S id g off (m+1) lim with
     |none=>rw[hr]at h;cases h
     |some cs=>
      rw[hr]at h;simp only[]at h;cases hb:tZ cs with
      |none=>rw[hb]at h;cases h
      |some l=>
       rw[hb]at h;simp only[zzf,Prod.mk.injEq]at h;obtain⟨rfl,rfl⟩:=h;simp only[ai]at hp;obtain⟨pl,p1,p2,rfl⟩:=hp;obtain⟨arr,q1,q2,q3,q4,q5,q6⟩:=lj (P:=P) hR hr p1 p2;obtain⟨b1,b2⟩:=AO cs l arr.toList ρ hb q3;have Xg:l.length=m+1:=by
        have:=congrArg List.length b1;simp at this;omega
       have xv:=hr;unfold rd at xv;rw[sO]at xv;simp only[cY,Nat.add_eq]at xv;cases sS:(decide (low<=g)&&decide (g<=top)&&decide (off+(m+1)<=lim))with
       |false=>rw[sS]at xv;cases xv
       |true=>
        simp only[zze,decide_eq_true_eq]at sS;obtain⟨⟨c1,c2⟩,c3⟩:=sS;obtain⟨_,h2,_⟩:=hR.jE id _ sO;obtain⟨eA,C,fr,g1,g2,g3,g4,g5,g6,g7,g8,g9⟩:=h2 g c1 c2;rw[p1]at g1;cases g1;have Bq:w.shape? pl.b=some (GC,C.size):=by simp[World.shape?,g2]
        have nk:=mS aF hs
        let L:List UInt8:=l.map fun n=>UInt8.ofNat n
        have hLl:L.length=m+1:=by simp[L,Xg]
        have cJ:∀j x,L[j]?=some x->w.cell? ((⟨pl.b,pl.base+off,none⟩:Addr).add j)=some (.int .u8 x.toNat):=by
         intro j x hx;have hj:j<m+1:=by
          rcases Nat.lt_or_ge j (m+1)with h0|h0
          .exact h0
          .rw[List.getElem?_eq_none (by omega)]at hx;cases hx
         obtain⟨v,v1,v2⟩:=q6 j hj;rw[iq,v1,<-v2,b1];simp only[L,List.getElem?_map]at hx⊢;cases hlj:l[j]? with
         |none=>rw[hlj]at hx;cases hx
         |some y=>
          rw[hlj]at hx;simp only[Option.map_some,zzf]at hx⊢;subst hx;have:=b2 y (List.mem_of_getElem? hlj);simp only[UInt8.toNat_ofNat',zzk this];rfl
        have FB:=Lib.run_loadBytes (P:=P) w L ⟨pl.b,pl.base+off,none⟩ .empty cJ;have jiC:=KD (P:=P) nk C.size (pl.base+off) (m+1) (by omega);obtain⟨f1,f2⟩:=hR.freeze sO p1 (off:=pl.base+off) (zzi m) (CF hmf);refine⟨.string ⟨L.toArray⟩,_,?_,?_,f1,f2⟩
        .rw[hLl]at FB;rw[jch];have h63:¬((m:Int)+1 > 9223372036854775807):=by omega
         have jdT:¬((m:Int)+1<0):=by omega
         have hz:¬((m:Int)+1=0):=by omega
         have htn:((m:Int)+1).toNat=m+1:=by omega
         simp only[asInt,asIntOf,zzb,zzd,zza,ht,nH,Int.ofNat_eq_natCast,Int.natCast_add,Int.cast_ofNat_Int,if_neg jdT,if_neg h63,if_neg hz,htn];simp only[elemOf,aH aF hu,zzb,zzd,zza,variablesAt,run_program,run_shape,Bq];rw[nk,Nat.div_one,jiC];simp only[if_true,zzb,FB,zza,run_freeze,zzd];simp
        .simp only[ai];exact⟨_,rfl,QH l b2⟩
   .cases h
  .cases h
theorem Df{P:Program}{cx:Cx}(aF:dQ Λ P cx){ρ:aY}{F:Fr}{S S':AS}{w:World}{a:Act}(hR:R Λ ρ S w)(hF:eY ρ F a){o:Oper}{v:AV}
  (h:bF cx F S o=.val v S'):cU Λ P ρ S w (execOp a.eval o) v S':=by
 obtain⟨dst,op,ty,pos,after,guard⟩:=o;have fr:∀n,iL (aD cx F S.nx op) S n=.val v S'->cU Λ P ρ S w (execOp a.eval ⟨dst,op,ty,pos,after,guard⟩) v S':=by
  intro n hh;cases hf:aD cx F S.nx op with
  |none=>simp[iL,hf]at hh
  |some vo=>
   obtain⟨u,obj⟩:=vo;simp only[iL,hf,AR.val.injEq]at hh;obtain⟨rfl,rfl⟩:=hh;obtain⟨s,e,hfo⟩:=CX (P:=P) aF hF (o:=⟨dst,op,ty,pos,after,guard⟩) hf w;rw[e];exact cU.I7 (hfo.I7 hR)
 cases op<;>simp only[bF,reduceCtorEq]at h
 case move x=>cases h;exact cU.val hR (hF.eval x)
 case assign x=>cases h;exact cU.val hR (hF.eval x)
 case pick c x y=>
  split at h
  .rename_i hc;cases h;have:=IA hc (hF.eval c);exact⟨.value (a.eval x),a.eval x,ρ,w,by simp[execOp,this,asBool],rfl,hF.eval x,hR,Kp.refl _ _ _⟩
  .rename_i hc;cases h;have:=IA hc (hF.eval c);exact⟨.value (a.eval y),a.eval y,ρ,w,by simp[execOp,this,asBool],rfl,hF.eval y,hR,Kp.refl _ _ _⟩
  .cases h
 case alloc e=>exact fr _ h
 case box t x=>exact fr _ h
 case buildSlice t n parts=>exact fr _ h
 case makeMap t r=>exact fr _ h
 case makeSlice t l c=>exact fr _ h
 case build t parts=>
  obtain⟨h1,rfl⟩:=cV h;exact cU.still hR (Lw aF hF h1 w)
 case load t x=>
  split at h
  .rename_i id g off lim he;have hx:=hF.eval x;rw[he]at hx;obtain⟨l1,l2⟩:=Uj (t:=t) aF hR hx;split at h
   .rename_i ha;split at h
    .rename_i n hs;split at h
     .rename_i cs hr;cases h;exact cU.still hR (l1 n cs ha hs hr)
     .cases h
    .cases h
   .rename_i ha;split at h
    .rename_i u hr;cases h;exact cU.still hR (l2 _ ha hr)
    .cases h
   .cases h
  .rename_i g off he;have hx:=hF.eval x;rw[he]at hx;simp only[ai]at hx;cases hg:cx.lS.get g with
   |none=>rw[hg]at h;cases h
   |some cs=>
    rw[hg]at h;obtain⟨h1,rfl⟩:=cV h;have:=Qc (P:=P) aF hR hg h1;rw[<-hx]at this;exact cU.still hR this
  .cases h
 case store t x y=>
  split at h
  .rename_i id g off lim cs n he hc hs;rw[bO,bX]at h;by_cases hn:cs.length=n
   .rw[decide_eq_true hn]at h;simp only[cond_true]at h;split at h
    .rename_i S1 oI;cases h;have hx:=hF.eval x;rw[he]at hx;simp only[ai]at hx;obtain⟨pl,p1,p2,hxe⟩:=hx;have pO:=eH hc (hF.eval y);obtain⟨w',r1,r2,r3⟩:=vK (P:=P) hR oI p1 p2 pO.1 pO.2;have nf:(a.eval y).cells.size=n:=by have:=pO.length;simp at this;omega
     refine⟨.skip,undef,ρ,w',?_,rfl,fm ρ,r2,r3⟩;simp only[execOp,Instr.storeAt,hxe,Instr.sureAddr,storeVar,zzb,zzd,zza,fg aF hs];rw[if_neg (by simp[nf])];simp only[r1,zza]
    .cases h
   .rw[decide_eq_false hn]at h;cases h
  .cases h
 case nilCheck x=>
  have hx:=hF.eval x;split at h<;>(try (cases h;done))<;>rename_i he<;>cases h<;>rw[he]at hx
  .obtain⟨pl,p1,p2,e⟩:=(by simpa only[ai]using hx:∃pl,_)
   have:execOp a.eval ⟨dst,.nilCheck x,ty,pos,after,guard⟩=pure (.value (a.eval x)):=by simp only[execOp,e]
   rw[this];exact cU.val hR hx
  .have e:=(by simpa only[ai]using hx:a.eval x=_)
   have:execOp a.eval ⟨dst,.nilCheck x,ty,pos,after,guard⟩=pure (.value (a.eval x)):=by simp only[execOp,e]
   rw[this];exact cU.val hR hx
  .obtain⟨p,q,e,_⟩:=(by simpa only[ai]using hx:∃p q,_)
   have:execOp a.eval ⟨dst,.nilCheck x,ty,pos,after,guard⟩=pure (.value (a.eval x)):=by simp only[execOp,e]
   rw[this];exact cU.val hR hx
  .obtain⟨p,q,e,_⟩:=iv hx;have:execOp a.eval ⟨dst,.nilCheck x,ty,pos,after,guard⟩=pure (.value (a.eval x)):=by simp only[execOp,e]
   rw[this];exact cU.val hR hx
  .obtain⟨p,q,e⟩:=(by simpa only[ai]using hx:∃p,_)
   have:execOp a.eval ⟨dst,.nilCheck x,ty,pos,after,guard⟩=pure (.value (a.eval x)):=by simp only[execOp,e]
   rw[this];exact cU.val hR hx
  .rename_i k i;obtain⟨p,q,e⟩:=(by simpa only[ai]using hx:∃p,_)
   have:execOp a.eval ⟨dst,.nilCheck x,ty,pos,after,guard⟩=pure (.value (a.eval x)):=by cases k<;>simp only[execOp,e,OK.val]
   rw[this];exact cU.val hR hx
 case binOp op t x y yt=>
  obtain⟨h1,rfl⟩:=cV h;refine cU.still (s:=do eqGuard op t x y (a.eval x) (a.eval y);binOp op t (a.eval x) (a.eval y)) hR (Wu aF h1 ?_ (hF.eval x) (hF.eval y) w);cases x<;>cases y<;>rfl
 case unOp op t x=>
  obtain⟨h1,rfl⟩:=cV h;exact cU.still hR (XH h1 (hF.eval x) w)
 case convert src dst x=>
  have hx:=hF.eval x;split at h
  .rename_i ds k k0 n sN sh he;cases h;rw[he]at hx;simp only[ai]at hx;refine cU.still hR ⟨.int k (k.wrap n),?_,by rw[jj];simp[ai]⟩;simp only[convert,zzb,aH aF sN,aH aF sh,zza,hx];rfl
  .rename_i ds s sN sh he;cases h;rw[he]at hx;have oH:=hx;simp only[ai]at oH;obtain⟨b,hb,_⟩:=oH;refine cU.still hR ⟨a.eval x,?_,hx⟩;simp only[convert,zzb,aH aF sN,aH aF sh,zza,hb];rfl
  .rename_i ds e s sN sh he;split at h
   .rename_i Xd;cases h;rw[he]at hx;simp only[ai]at hx;obtain⟨b,hb,nI⟩:=hx;refine cU.I7 ?_;obtain⟨z,ρ',w',r1,r2,r3,r4⟩:=XZ (P:=P) (e:=e) hR nI;refine⟨z,ρ',w',?_,r2,r3,r4⟩;simp only[convert,zzb,aH aF sN,aH aF sh,zza,hb];simp only[aH aF Xd,zza];exact r1
   .cases h
  .rename_i xx e sN sh lR;have Vb:∀(ad:Option Addr)(l c:Nat),bN cx e=some (.int .u8)->(convert src dst (.slice ad l c)).run P w=(Conv.bytesToString (.slice ad l c)).run P w:=
    fun ad l c Xd=>run_convert_bytes_string w src dst e ad l c (dK aF sN) (dK aF Xd) (dK aF sh)
   split at h
   .rename_i Xd he;cases h;rw[he]at hx;simp only[ai]at hx;refine cU.still hR ⟨.string .empty,?_,by simp only[ai];exact⟨_,rfl,rfl⟩⟩;rw[hx,Vb _ _ _ Xd];rfl
   .rename_i id g off len lim cap Xd he;rw[he]at hx;obtain⟨ad,c,e1,UT,_⟩:=iv hx;cases len with
    |zero=>
     cases h;refine cU.still hR ⟨.string .empty,?_,by simp only[ai];exact⟨_,rfl,rfl⟩⟩;rw[e1,Vb _ _ _ Xd,run_bytesToString w ad 0 c [] rfl];rfl
    |succ l=>
     simp only[]at h;split at h
     .rename_i cs hr;split at h
      .rename_i bs nI;cases h;simp only[ai]at hx;obtain⟨pl,c',p1,p2,p3,p4,p5,hh⟩:=hx;rcases hh with⟨e2,_⟩|⟨e2,_⟩
       .rw[e1]at e2;cases e2;obtain⟨arr,q1,q2,q3,q4,_⟩:=lj (P:=P) hR hr p1 p2;obtain⟨b1,b2⟩:=AO cs bs arr.toList ρ nI q3;have gK:arr=((bs.map Int.ofNat).map (Value.int .u8)).toArray:=zzg (by simpa using b1);rw[gK]at q1;refine cU.still hR ⟨.string ((bs.map Int.ofNat).foldl (fun r n=>r.push (UInt8.ofNat n.toNat)) ByteArray.empty),?_,?_⟩
        .rw[e1,Vb _ _ _ Xd];exact run_bytesToString w _ (l+1) c _ q1
        .simp only[ai];exact⟨_,rfl,Dw bs b2⟩
       .omega
      .cases h
     .cases h
   .cases h
  .rename_i e0 e id g off len lim sz cap sN sh he;rw[bO,iJ]at h;cases pP:(decide (src=dst)&&decide (0<len))with
   |false=>rw[pP]at h;cases h
   |true=>
   rw[pP]at h;simp only[cond_true]at h;simp only[zze,decide_eq_true_eq]at pP;obtain⟨hsd,hlen⟩:=pP;split at h
   .rename_i cells low top frz GC Xd sO;rw[cY,cY]at h;cases hc:(decide (low<=g)&&decide (g<=top)&&wi frz low)with
    |false=>rw[hc]at h;cases h
    |true=>
     rw[hc]at h;simp only[cond_true,AR.val.injEq]at h;obtain⟨rfl,rfl⟩:=h;simp only[zze,decide_eq_true_eq]at hc;obtain⟨hc,hmf⟩:=hc;rw[he]at hx;have oH:=hx;simp only[ai]at oH;obtain⟨pl,c,p1,p2,p3,p4,p5,hh⟩:=oH;rcases hh with⟨e2,_⟩|⟨e2,_⟩
     .obtain⟨_,Rt,_⟩:=hR.jE id _ sO;obtain⟨eA,C,fr,g1,g2,_⟩:=Rt g hc.1 hc.2;rw[p1]at g1;cases g1;have Bq:w.shape? pl.b=some (GC,C.size):=by simp[World.shape?,g2]
      obtain⟨t1,t2⟩:=hR.freeze (off:=C.size) (n:=1) sO p1 (by omega) (CF hmf);refine cU.I7 ⟨a.eval x,ρ,_,?_,hx,t1,t2⟩;rw[e2];simp only[convert,zzb,aH aF sN,aH aF sh,zza];simp only[aH aF Xd,zza,hsd,beq_self_eq_true,markStringish,zzb,run_shape,Bq,run_freeze,zzd]
     .omega
   .cases h
  .rename_i e id g off lim sN sh he;split at h
   .rename_i z cells low top frz GC hs sO;rw[iJ,cY,cY]at h;cases hc:(decide (off<lim)&&decide (low<=g)&&decide (g<=top))with
    |false=>rw[hc]at h;cases h
    |true=>
     rw[hc]at h;simp only[cond_true,AR.val.injEq]at h;obtain⟨rfl,rfl⟩:=h;simp only[zze,decide_eq_true_eq]at hc;obtain⟨⟨cQ,Ng⟩,Vg⟩:=hc;rw[he]at hx;have oH:=hx;simp only[ai]at oH;obtain⟨pl,p1,p2,e1⟩:=oH;obtain⟨N,Bq,hof⟩:=Pb hR sO Ng Vg p1 p2 cQ;refine cU.still hR ⟨a.eval x,?_,hx⟩;obtain⟨i,hi,hiz⟩:=zX hs;rw[e1];exact Lib.run_to_unsafe w ⟨pl.b,pl.base+off,none⟩ (dK aF sN) (dK aF sh) (aF.mf _ _ hi) (by rw[hiz];exact zzi _) Bq hof
   .cases h
  .rename_i u id g off lim sN sh he;split at h
   .rename_i z cells low top frz GC hs sO;rw[bO,cY,bO]at h;cases hc:(decide (GC=u)&&decide (Nat.succ z<=lim)&&decide (low=0))with
    |false=>rw[hc]at h;cases h
    |true=>
     rw[hc]at h;simp only[cond_true,AR.val.injEq]at h;obtain⟨rfl,rfl⟩:=h;simp only[zze,decide_eq_true_eq]at hc;obtain⟨⟨rfl,Zd⟩,rfl⟩:=hc;rw[he]at hx;have oH:=hx;simp only[ai]at oH;obtain⟨pl,p1,p2,e1⟩:=oH;obtain⟨_,h2,_⟩:=hR.jE id _ sO;obtain⟨eA,C,fr,g1,g2,g3,g4,g5,g6,g7,g8,g9⟩:=h2 0 (Nat.le_refl _) (Nat.zero_le _);rw[p1]at g1;cases g1;obtain⟨i,hi,hiz⟩:=zX hs;have Bq:w.shape? pl.b=some (GC,C.size):=by simp[World.shape?,g2]
     have nk:=mS aF hs;refine cU.still hR ⟨a.eval x,?_,hx⟩;rw[e1];refine Lib.run_from_unsafe w ⟨pl.b,pl.base+0,none⟩ (dK aF sN) (dK aF sh) (aF.mf _ _ hi) Bq ?_;rw[g9.1 rfl];refine He nk (zzi _) _ ?_;rw[nk];exact (Nat.le_div_iff_mul_le (Nat.succ_pos _)).2 (by omega)
   .cases h
  .cases h
 case makeInterface t x=>
  split at h
  .cases h
  .rename_i d hu hd;cases h;refine cU.still hR ⟨.iface t (a.eval x),?_,by simp only[ai];exact⟨_,rfl,hF.eval x⟩⟩;simp only[Instr.makeInterface,zzb,aH aF hd,zza];cases d<;>first|rfl|exact absurd rfl (hu _)
  .cases h
 case makeFunc fn first captured=>
  cases h;refine cU.still hR ⟨.func fn (first.map a.eval) (captured.map a.eval),rfl,?_⟩;simp only[ai];exact⟨_,_,rfl,mW hF first,mW hF captured⟩
 case slice t x lo hi mx=>
  obtain⟨h1,rfl⟩:=cV h;exact cU.still hR (JO aF hF h1 (hF.eval x) w)
 case fieldAddr s x f=>
  split at h
  .rename_i fs id g off lim hu he;rw[ji]at h;split at h
   .rename_i fd hf;split at h
    .rename_i z hs;rw[aQ]at h;cases h;have hx:=hF.eval x;rw[he]at hx;simp only[ai]at hx;obtain⟨pl,p1,p2,e⟩:=hx;have Es:fs[f]?=some fd:=by rw[<-zzc];exact hf
     refine cU.still hR ⟨.pointer (some ⟨pl.b,pl.base+(off+fd.offset),none⟩),?_,by simp only[ai];exact⟨pl,p1,p2,rfl⟩⟩;simp only[Instr.fieldAt,zzb,aH aF hu,zza,Es,e,Instr.sureAddr,zzd,fieldPlace,fg aF hs];rw[if_neg (zzi z),iq,zzl];rfl
    .cases h
   .cases h
  .cases h
 case field t x f=>
  split at h
  .rename_i fs cs hu he;rw[ji]at h;split at h
   .rename_i fd hf;obtain⟨h1,rfl⟩:=cV h;have hx:=hF.eval x;rw[he]at hx;simp only[ai]at hx;obtain⟨arr,e,p,q⟩:=hx;have Es:fs[f]?=some fd:=by rw[<-zzc];exact hf
    obtain⟨z,r1,r2⟩:=ov aF h1 p q w;refine cU.still hR ⟨z,?_,r2⟩;simp only[Instr.field,zzb,aH aF hu,zza,Es,e,asAgg,zzd,r1]
   .cases h
  .cases h
 case indexAddr t x ix=>
  split at h
  .rename_i e id g off len lim sz cap i hu he hi;split at h
   .rename_i z hs;rw[bO,iJ,aQ]at h;cases hc:(decide (z=sz)&&decide (i<len))with
    |false=>simp[hc]at h
    |true=>
     simp only[hc,cond_true,AR.val.injEq]at h;obtain⟨rfl,rfl⟩:=h;simp only[zze,decide_eq_true_eq]at hc;obtain⟨rfl,cQ⟩:=hc;have hx:=hF.eval x;rw[he]at hx;simp only[ai]at hx;obtain⟨pl,c,p1,p2,p3,p4,p5,hh⟩:=hx;obtain⟨k,hk⟩:=gu hi (hF.eval ix);rcases hh with⟨e1,_⟩|⟨e1,_⟩
     .refine cU.still hR ⟨.pointer (some ⟨pl.b,pl.base+(off+i*z),none⟩),?_,by simp only[ai];exact⟨pl,p1,p2,rfl⟩⟩;have FC:(0:Int)<=(i:Int)/\(i:Int)<(len:Int):=by omega
      simp only[Instr.indexAt,hk,asIntOf,zzb,zzd,aH aF hu,zza,e1,if_pos FC,fg aF hs,Int.toNat_natCast,iq,zzl]
     .omega
   .cases h
  .rename_i n e id g off lim i hu he hi;split at h
   .rename_i z hs;rw[iJ,aQ]at h;by_cases cQ:i<n
    .rw[decide_eq_true cQ]at h;simp only[cond_true,AR.val.injEq]at h;obtain⟨rfl,rfl⟩:=h;have hx:=hF.eval x;rw[he]at hx;simp only[ai]at hx;obtain⟨pl,p1,p2,e1⟩:=hx;obtain⟨k,hk⟩:=gu hi (hF.eval ix);refine cU.still hR ⟨.pointer (some ⟨pl.b,pl.base+(off+i*z),none⟩),?_,by simp only[ai];exact⟨pl,p1,p2,rfl⟩⟩;have FC:(0:Int)<=(i:Int)/\(i:Int)<(n:Int):=by omega
     simp only[Instr.indexAt,hk,asIntOf,zzb,zzd,aH aF hu,zza,e1,Instr.sureAddr,if_pos FC,fg aF hs,Int.toNat_natCast,iq,zzl]
    .rw[decide_eq_false cQ]at h;cases h
   .cases h
  .rename_i n e g off i hu he hi;split at h
   .rename_i z hs;rw[iJ,aQ]at h;by_cases cQ:i<n
    .rw[decide_eq_true cQ]at h;simp only[cond_true,AR.val.injEq]at h;obtain⟨rfl,rfl⟩:=h;have hx:=hF.eval x;rw[he]at hx;simp only[ai]at hx;obtain⟨k,hk⟩:=gu hi (hF.eval ix);refine cU.still hR ⟨.pointer (some ⟨g,off+i*z,none⟩),?_,by simp only[ai];rfl⟩;have FC:(0:Int)<=(i:Int)/\(i:Int)<(n:Int):=by omega
     simp only[Instr.indexAt,hk,asIntOf,zzb,zzd,aH aF hu,zza,hx,Instr.sureAddr,if_pos FC,fg aF hs,Int.toNat_natCast,iq]
    .rw[decide_eq_false cQ]at h;cases h
   .cases h
  .cases h
 case index t x ix=>
  split at h
  .rename_i s i hu he hi;rw[ji]at h;split at h
   .rename_i n hn;cases h;have hx:=hF.eval x;rw[he]at hx;simp only[ai]at hx;obtain⟨b,e,hb⟩:=hx;obtain⟨k,hk⟩:=gu hi (hF.eval ix);rw[<-hb,List.getElem?_map]at hn;cases hbi:b.data.toList[i]? with
    |none=>rw[hbi]at hn;cases hn
    |some c=>
     rw[hbi]at hn;simp only[Option.map_some,zzf]at hn;subst hn;have cQ:i<b.size:=by
      rcases Nat.lt_or_ge i b.size with h0|h0
      .exact h0
      .rw[List.getElem?_eq_none (show b.data.toList.length<=i from h0)]at hbi;cases hbi
     refine cU.still hR ⟨.int .u8 (c.toNat:Int),?_,by simp[ai]⟩;have h0:(0:Int)<=(i:Int):=by omega
     have hg:b[i]?=some c:=by
      rw[ByteArray.getElem?_lt' b i cQ];have:b.data.toList[i]?=some (b[i]):=by
       rw[List.getElem?_eq_getElem (show i<b.data.toList.length from cQ)];rfl
      rw[hbi]at this;exact this.symm
     simp only[Instr.index,hk,asIntOf,zzb,zzd,aH aF hu,zza,e,if_pos h0,Int.toNat_natCast,hg]
   .cases h
  .rename_i n e cs i hu he hi;split at h
   .rename_i z hs;rw[iJ]at h;by_cases cQ:i<n
    .rw[decide_eq_true cQ]at h;simp only[cond_true]at h;obtain⟨h1,rfl⟩:=cV h;have hx:=hF.eval x;rw[he]at hx;simp only[ai]at hx;obtain⟨arr,e1,p,q⟩:=hx;obtain⟨k,hk⟩:=gu hi (hF.eval ix);obtain⟨zv,r1,r2⟩:=ov aF h1 p q w;refine cU.still hR ⟨zv,?_,r2⟩;have FC:(0:Int)<=(i:Int)/\(i:Int)<(n:Int):=by omega
     simp only[Nat.mul_eq]at r1;simp only[Instr.index,hk,asIntOf,zzb,zzd,aH aF hu,zza,e1,if_pos FC,fg aF hs,Int.toNat_natCast,r1]
    .rw[decide_eq_false cQ]at h;cases h
   .cases h
  .cases h
 case lookup t x ix ok=>
  obtain⟨h1,rfl⟩:=cV h;exact cU.still hR (Hc aF hR h1 (hF.eval x) (hF.eval ix))
 case mapUpdate t m k x=>
  obtain⟨w',r1,rfl,r3,r4⟩:=xh aF hR (gh h) (hF.eval m) (hF.eval k) (hF.eval x);exact⟨.skip,undef,ρ,w',by simp only[execOp,zzb,r1,zza,zzd],rfl,fm ρ,r3,r4⟩
 case insert t m k x=>
  obtain⟨w',r1,rfl,r3,r4⟩:=xh aF hR (gh h) (hF.eval m) (hF.eval k) (hF.eval x);exact⟨.skip,undef,ρ,w',by simp only[execOp,zzb,r1,zza,zzd],rfl,fm ρ,r3,r4⟩
 case mapEntry t m k=>exact cU.I7 (HX aF hR (gh h) (hF.eval m) (hF.eval k))
 case entryStore t m k x=>
  obtain⟨w',r1,rfl,r3,r4⟩:=HW (P:=P) (t:=t) hR (gh h) (hF.eval m) (hF.eval k) (hF.eval x);exact⟨.skip,undef,ρ,w',by simp only[execOp,zzb,r1,zza,zzd],rfl,fm ρ,r3,r4⟩
 case range t x=>exact cU.I7 (J2 aF hR (gh h) (hF.eval x))
 case next x str=>exact cU.I7 (Py (P:=P) hR h (hF.eval x))
 case entry x=>
  obtain⟨h1,rfl⟩:=cV h;exact cU.still hR (Lg hR h1 (hF.eval x))
 case panic x=>split at h<;>cases h
 case typeAssert x xt t ok=>
  obtain⟨h1,rfl⟩:=cV h;exact cU.still hR (IF aF h1 (hF.eval x))
 case extract x i=>
  split at h
  .rename_i vs he;obtain⟨h1,rfl⟩:=cV h;have hx:=hF.eval x;rw[he]at hx;simp only[ai]at hx;obtain⟨arr,e,hl⟩:=hx;rw[ji]at h1;obtain⟨y,hy,qu⟩:=hl.get h1;refine cU.still hR ⟨y,?_,qu⟩;have hy':arr[i]?=some y:=by rw[<-zzc];exact hy
   simp only[Instr.extract,e,hy',zzd]
  .cases h
 case call c=>
  obtain⟨callee,as,nN⟩:=c;cases callee with
  |value f=>
   simp only[]at h;unfold qm at h;split at h
   .rename_i g first captured he
    cases Zf:cx.exts.get g with
    |none=>rw[Zf]at h;cases h
    |some xt=>
     rw[Zf]at h;have h1:=gh h;have hf:=hF.eval f;rw[he]at hf;simp only[ai]at hf;obtain⟨p,q,e,hp,hq⟩:=hf;simp only[bJ]at h1;obtain⟨z,ρ2,w2,r1,r2,r3,r4⟩:=VV hR aF Zf h1 (args:=p++as.map a.eval++q) (by
      simp only[zzh,List.append_assoc];exact hp.append ((mW hF as).append hq))
     refine⟨.value z,z,ρ2,w2,?_,rfl,r2,r3,r4⟩;have hex:execOp a.eval ⟨dst,.call ⟨.value f,as,nN⟩,ty,pos,after,guard⟩=callFunc g (p++as.map a.eval++q):=by
      simp only[execOp,resolve,e,Deferred.ofValue];rfl
     rw[hex];exact r1
   .cases h
   .cases h
  |invoke r m=>cases h
  |builtin b=>
   simp only[]at h;have dY:=mW hF as;have hex:execOp a.eval ⟨dst,.call ⟨.builtin b,as,nN⟩,ty,pos,after,guard⟩=builtin b nN ty (as.map fun | .const _=>true|_=>false) (as.map a.eval):=by
    simp only[execOp,resolve];rfl
   rw[hex];unfold bh at h;split at h
   .rename_i t ts' x xs ht ha;split at h
    .rename_i n hn;rw[aQ]at h;cases h;rw[ha]at dY;simp only[ay]at dY;obtain⟨y,ys,hy,qu,_⟩:=dY;have h0:(as.map a.eval)[0]?=some y:=by rw[<-zzc,hy];rfl
     have t0:nN[0]?=some t:=by rw[<-zzc,ht];rfl
     exact cU.still hR ⟨goInt n,Um aF hR hn t0 h0 qu,by simp[ai,goInt]⟩
    .cases h
   .rename_i t ts' x xs ht ha;have t0:nN[0]?=some t:=by rw[<-zzc,ht];rfl
    rw[ha]at dY;simp only[ay]at dY;obtain⟨y,ys,hy,qu,_⟩:=dY;have h0:(as.map a.eval)[0]?=some y:=by rw[<-zzc,hy];rfl
    have mk:∀(n:Nat),(Builtin.cap_ nN ty (as.map a.eval)).run P w=.ok (goInt n) w->cU Λ P ρ S w (builtin .cap nN ty (as.map fun | .const _=>true|_=>false) (as.map a.eval)) (.int .i64 (.ofNat n)) S:=
     fun n hr=>cU.still hR ⟨goInt n,hr,by simp[ai,goInt]⟩
    split at h
    .rename_i e hu;cases h;simp only[ai]at qu;refine mk 0 ?_;unfold Builtin.cap_;simp only[t0,h0,zzb,aH aF hu,zza,qu,zzd]
    .rename_i e id g off len lim sz c hu;cases h;obtain⟨ad,c',e1,_,hc⟩:=iv qu;obtain rfl:=hc c rfl;refine mk c' ?_;unfold Builtin.cap_;simp only[t0,h0,zzb,aH aF hu,zza,e1,zzd]
    .rename_i n e hu;cases h;refine mk n ?_;unfold Builtin.cap_;simp only[t0,h0,zzb,aH aF hu,zza];cases y<;>rfl
    .cases h
   .rename_i t u ts' sA xA ht ha;have t0:nN[0]?=some t:=by rw[<-zzc,ht];rfl
    have t1:nN[1]?=some u:=by rw[<-zzc,ht];rfl
    rw[ha]at dY;simp only[ay]at dY;obtain⟨y,_,hy,qu,y2,_,rfl,Eh,rfl⟩:=dY;have Nh:as.map a.eval=#[y,y2]:=zzg (by rw[hy]);split at h
    .rename_i e ku hu sN;rw[Nh];exact cU.I7 (WJ aF hR (gh h) t0 t1 hu sN qu Eh)
    .rename_i e du hnu hu sN;split at h
     .rename_i z bs hs hb;cases hz:lC cx e (Nat.succ z)with
      |false=>simp[hz]at h
      |true=>
       simp only[hz,cond_true]at h;rw[Nh];exact cU.I7 (IH aF hR (gh h) t0 t1 hu sN hnu hs (Nat.succ_pos _) hb hz qu Eh)
     .cases h
    .cases h
   .rename_i t ts' dA xA ht ha;have t0:nN[0]?=some t:=by rw[<-zzc,ht];rfl
    rw[ha]at dY;simp only[ay]at dY;obtain⟨y,_,hy,qu,y2,_,rfl,Eh,rfl⟩:=dY;have Nh:as.map a.eval=#[y,y2]:=zzg (by rw[hy]);split at h
    .rename_i e hu;split at h
     .rename_i z hs;rw[Nh];exact cU.I7 (Qz aF hR (gh h) t0 hu hs qu Eh)
     .cases h
    .cases h
   .rename_i ha;cases h;rw[ha]at dY;simp only[ay]at dY;obtain⟨y,_,hy,qu,rfl⟩:=dY;have Nh:as.map a.eval=#[y]:=zzg (by rw[hy]);simp only[ai]at qu;subst qu;rw[Nh];exact cU.still hR (s:=Builtin.unsafeSliceData_ nN ty #[.slice none 0 0]) ⟨.pointer none,Lib.run_unsafeSliceData_nil w nN ty 0 0,by simp[ai]⟩
   .rename_i id g off len lim sz cap ha;rw[iJ]at h;by_cases hl:0<len
    .rw[decide_eq_true hl]at h;simp only[cond_true,AR.val.injEq]at h;obtain⟨rfl,rfl⟩:=h;rw[ha]at dY;simp only[ay]at dY;obtain⟨y,_,hy,qu,rfl⟩:=dY;have Nh:as.map a.eval=#[y]:=zzg (by rw[hy]);simp only[ai]at qu;obtain⟨pl,c,p1,p2,p3,p4,p5,hh⟩:=qu;rcases hh with⟨rfl,_⟩|⟨e2,_⟩
     .rw[Nh];exact cU.still hR (s:=Builtin.unsafeSliceData_ nN ty #[.slice (some ⟨pl.b,pl.base+off,none⟩) len c]) ⟨_,Lib.run_unsafeSliceData_row w nN ty _ len c (by omega),by simp only[ai];exact⟨pl,p1,p2,rfl⟩⟩
     .omega
    .rw[decide_eq_false hl]at h;cases h
   .rename_i t ts' p k n ht ha;have t0:nN[0]?=some t:=by rw[<-zzc,ht];rfl
    rw[ha]at dY;simp only[ay]at dY;obtain⟨y,_,hy,qu,y2,_,rfl,Eh,rfl⟩:=dY;have Nh:as.map a.eval=#[y,y2]:=zzg (by rw[hy]);simp only[ai]at Eh;subst Eh;rw[Nh];obtain⟨z,w',r1,r2,r3,r4⟩:=On (P:=P) (ty:=ty) (k:=k) aF hR (gh h) t0 qu;exact cU.I7 (s:=Builtin.unsafeString_ nN ty #[y,.int k (.ofNat n)]) ⟨z,ρ,w',r1,r2,r3,r4⟩
   .rename_i t ts' x k ht ha;have t0:nN[0]?=some t:=by rw[<-zzc,ht];rfl
    rw[ha]at dY;simp only[ay]at dY;obtain⟨y,_,hy,qu,y2,_,rfl,Eh,rfl⟩:=dY;have Nh:as.map a.eval=#[y,y2]:=zzg (by rw[hy]);rw[Nh];obtain⟨w',r1,rfl,r3,r4⟩:=Ic (P:=P) (ty:=ty) aF hR (gh h) t0 qu Eh;exact cU.I7 (s:=Builtin.delete_ nN ty #[y,y2]) ⟨undef,ρ,w',r1,fm ρ,r3,r4⟩
   .rename_i t ts' x ht ha;have t0:nN[0]?=some t:=by rw[<-zzc,ht];rfl
    rw[ha]at dY;simp only[ay]at dY;obtain⟨y,_,hy,qu,rfl⟩:=dY;have Nh:as.map a.eval=#[y]:=zzg (by rw[hy]);rw[Nh];obtain⟨w',r1,rfl,r3,r4⟩:=Lq (P:=P) (ty:=ty) aF hR (gh h) t0 qu;exact cU.I7 (s:=Builtin.clear_ nN ty #[y]) ⟨undef,ρ,w',r1,fm ρ,r3,r4⟩
   .rename_i k n l ha;obtain⟨h1,rfl⟩:=cV h;rw[ha]at dY;simp only[ay]at dY;obtain⟨y,ys,hy,qu,hys⟩:=dY;simp only[ai]at qu;subst qu;obtain⟨z,r1,r2⟩:=CY (P:=P) false l ρ k n v ys (by simpa using h1) hys w;refine cU.still hR ⟨z,?_,r2⟩;simp only[Builtin.min_,hy];simpa using r1
   .rename_i k n l ha;obtain⟨h1,rfl⟩:=cV h;rw[ha]at dY;simp only[ay]at dY;obtain⟨y,ys,hy,qu,hys⟩:=dY;simp only[ai]at qu;subst qu;obtain⟨z,r1,r2⟩:=CY (P:=P) true l ρ k n v ys (by simpa using h1) hys w;refine cU.still hR ⟨z,?_,r2⟩;simp only[Builtin.max_,hy];simpa using r1
   .cases h
def kD:AR->Bool
 | .val ..=>true
 | .err _=>true
 |_=>false
theorem jg(v:Option AV)(S:AS)(n:Nat):kD (val? v S n)=true:=by cases v<;>rfl
theorem dX(v:Option (AV×AS))(n:Nat):kD (ey v n)=true:=by cases v<;>rfl
theorem GW(r:Option (AV×dR))(S:AS)(n:Nat):kD (iL r S n)=true:=by cases r<;>rfl
theorem eN{c:Bool}{a b:AR}(ha:kD a=true)(hb:kD b=true):kD (cond c a b)=true:=by cases c<;>assumption
theorem BE(cx:Cx)(S:AS)(b:Builtin)(ts:List TypeId)(as:List AV):kD (bh cx S b ts as)=true:=by
 unfold bh;split
 .split<;>rfl
 .split<;>rfl
 .split
  .exact dX _ _
  .split
   .exact eN (dX _ _) rfl
   .rfl
  .rfl
 .split
  .split
   .exact dX _ _
   .rfl
  .rfl
 .rfl
 .exact eN rfl rfl
 .exact dX _ _
 .exact dX _ _
 .exact dX _ _
 .exact jg _ _ _
 .exact jg _ _ _
 .rfl
theorem QY{cx:Cx}{F:Fr}{S:AS}{o:Oper}(h1:∀f args nN,o.op≠.call ⟨.value f,args,nN⟩)(h2:∀x s,o.op≠.next x s)(h3:∀x,o.op≠.panic x):kD (bF cx F S o)=true:=by
 obtain⟨dst,op,ty,pos,after,guard⟩:=o;cases op<;>simp only[bF]<;>(try rfl)<;>(try exact jg _ _ _)<;>(try exact dX _ _)<;>(try exact GW _ _ _)
 case pick c x y=>split<;>rfl
 case load t x=>
  split
  .split
   .split
    .split<;>rfl
    .rfl
   .split<;>rfl
   .rfl
  .split
   .exact jg _ _ _
   .rfl
  .rfl
 case store t x y=>
  split
  .exact eN (by split<;>rfl) rfl
  .rfl
 case nilCheck x=>split<;>rfl
 case convert src dst x=>
  split
  .rfl
  .rfl
  .split<;>rfl
  .split
   .rfl
   .split
    .rfl
    .split
     .split<;>rfl
     .rfl
   .rfl
  .refine eN ?_ rfl;split
   .exact eN rfl rfl
   .rfl
  .split
   .exact eN rfl rfl
   .rfl
  .split
   .exact eN rfl rfl
   .rfl
  .rfl
 case makeInterface t x=>split<;>rfl
 case fieldAddr s x g=>
  split
  .split
   .split<;>rfl
   .rfl
  .rfl
 case field t x g=>
  split
  .split
   .exact jg _ _ _
   .rfl
  .rfl
 case indexAddr t x ix=>
  split
  .split
   .exact eN rfl rfl
   .rfl
  .split
   .exact eN rfl rfl
   .rfl
  .split
   .exact eN rfl rfl
   .rfl
  .rfl
 case index t x ix=>
  split
  .split<;>rfl
  .split
   .exact eN (jg _ _ _) rfl
   .rfl
  .rfl
 case panic x=>exact absurd rfl (h3 x)
 case extract x i=>
  split
  .exact jg _ _ _
  .rfl
 case call c=>
  obtain⟨callee,xs,nN⟩:=c;cases callee with
  |value f=>exact absurd rfl (h1 f xs nN)
  |invoke r m=>rfl
  |builtin b=>exact BE _ _ _ _ _
theorem vz{cx:Cx}{F:Fr}{S:AS}{o:Oper}(h:kD (bF cx F S o)=false):
  (∃f args nN,o.op=.call ⟨.value f,args,nN⟩)\/(∃x s,o.op=.next x s)\/∃x,o.op=.panic x:=by
 by_cases h1:∃f args nN,o.op=.call ⟨.value f,args,nN⟩
 .exact .inl h1
 by_cases h2:∃x s,o.op=.next x s
 .exact .inr (.inl h2)
 by_cases h3:∃x,o.op=.panic x
 .exact .inr (.inr h3)
 rw[QY (fun f a b e=>h1 ⟨f,a,b,e⟩) (fun x s e=>h2 ⟨x,s,e⟩) (fun x e=>h3 ⟨x,e⟩)]at h;cases h
theorem IL{P:Program}{cx:Cx}{ρ:aY}{F:Fr}{S:AS}{w:World}{a:Act}(hR:R Λ ρ S w)(hF:eY ρ F a){o:Oper}{l:List (AV×AS)}
  (h:bF cx F S o=.many l) (ct:l≠[]):∃r,r∈l/\cU Λ P ρ S w (execOp a.eval o) r.1 r.2:=by
 obtain⟨dst,op,ty,pos,after,guard⟩:=o;rcases vz (by rw[h];rfl)with⟨f,xs,nN,rfl⟩|⟨x,s,rfl⟩|⟨x,rfl⟩
 .simp only[bF]at h;unfold qm at h;split at h
  .split at h
   .exact absurd (dX _ _) (by rw[h];simp[kD])
   .cases h
  .cases h
  .cases h
 .simp only[bF]at h;obtain⟨r,hr,hs⟩:=Kt (P:=P) (ty:=ty) hR h ct (hF.eval x);exact⟨r,hr,cU.I7 hs⟩
 .simp only[bF]at h;split at h<;>cases h
theorem zK{S S':AS}{x:AV}{s:Bool}:(∀f as,uV S x s≠.enter f as S')/\(∀i as,uV S x s≠.round i as S')/\(∀v,uV S x s≠.eO v S'):=by
 unfold uV;exact⟨fun f as h=>by (cases h),fun i as h=>by (cases h),fun v h=>by (cases h)⟩
theorem NT{P:Program}{cx:Cx}{ρ:aY}{F:Fr}{S S':AS}{w:World}{a:Act}(hF:eY ρ F a){o:Oper}{v:AV}
  (h:bF cx F S o=.eO v S'):S'=S/\(∃x,o.op=.panic x)/\∃x,(execOp a.eval o).run P w=.halt (.panic x) w/\ai ρ v x:=by
 obtain⟨dst,op,ty,pos,after,guard⟩:=o;rcases vz (by rw[h];rfl)with⟨f,xs,nN,rfl⟩|⟨x,s,rfl⟩|⟨x,rfl⟩
 .simp only[bF]at h;unfold qm at h;split at h
  .split at h
   .exact absurd (dX _ _) (by rw[h];simp[kD])
   .cases h
  .cases h
  .cases h
 .simp only[bF]at h;exact absurd h (zK.2.2 v)
 .simp only[bF]at h;split at h
  .rename_i t u he;cases h;have hx:=hF.eval x;rw[he]at hx;refine⟨rfl,⟨x,rfl⟩,a.eval x,?_,hx⟩;obtain⟨y,e,_⟩:=(by simpa only[ai]using hx:∃y,a.eval x=.iface t y/\ai ρ u y)
   simp only[execOp,e,Instr.panic,goPanic,zzb];rfl
  .cases h
theorem Q2{P:Program}{cx:Cx}{ρ:aY}{F:Fr}{S S':AS}{a:Act}(hF:eY ρ F a){o:Oper}{f:FuncId}{as:List AV}
  (h:bF cx F S o=.enter f as S'):S'=S/\∃args,(∀w:World,(execOp a.eval o).run P w=(callFunc f args).run P w)/\ay ρ as args.toList:=by
 obtain⟨dst,op,ty,pos,after,guard⟩:=o;rcases vz (by rw[h];rfl)with⟨fx,xs,nN,rfl⟩|⟨x,s,rfl⟩|⟨x,rfl⟩
 .simp only[bF]at h;unfold qm at h;split at h
  .rename_i g first captured he
   cases Zf:cx.exts.get g with
   |some xt=>
    rw[Zf]at h;simp only[]at h;exact absurd (dX _ _) (by rw[h];simp[kD])
   |none=>
    rw[Zf]at h;simp only[AR.enter.injEq,bJ]at h;obtain⟨rfl,rfl,rfl⟩:=h;have hf:=hF.eval fx;rw[he]at hf;simp only[ai]at hf;obtain⟨p,q,e,hp,hq⟩:=hf;refine⟨rfl,p++xs.map a.eval++q,fun w=>?_,?_⟩
    .simp only[execOp,resolve,e,Deferred.ofValue];rfl
    .simp only[zzh,List.append_assoc];exact hp.append ((mW hF xs).append hq)
  .cases h
  .cases h
 .simp only[bF]at h;exact absurd h (zK.1 f as)
 .simp only[bF]at h;split at h<;>cases h
theorem QX{P:Program}{cx:Cx}{ρ:aY}{F:Fr}{S S':AS}{a:Act}(hF:eY ρ F a){o:Oper}{id:Nat}{as:List AV}
  (h:bF cx F S o=.round id as S'):S'=S/\∃pl args,ρ id 0=some pl/\(∀w:World,(execOp a.eval o).run P w=(Instr.yield pl.b args).run P w)/\ay ρ as args.toList:=by
 obtain⟨dst,op,ty,pos,after,guard⟩:=o;rcases vz (by rw[h];rfl)with⟨fx,xs,nN,rfl⟩|⟨x,s,rfl⟩|⟨x,rfl⟩
 .simp only[bF]at h;unfold qm at h;split at h
  .split at h
   .exact absurd (dX _ _) (by rw[h];simp[kD])
   .cases h
  .rename_i i he;cases h;have hf:=hF.eval fx;rw[he]at hf;simp only[ai]at hf;obtain⟨pl,p1,e⟩:=hf;refine⟨rfl,pl,xs.map a.eval,p1,fun w=>?_,mW hF xs⟩;simp only[OK.val]at e;simp only[execOp,resolve,e,Deferred.ofValue,invoke,zzb,zzd,zza,Array.empty_append]
  .cases h
 .simp only[bF]at h;exact absurd h (zK.2.1 id as)
 .simp only[bF]at h;split at h<;>cases h
end Go.Am
