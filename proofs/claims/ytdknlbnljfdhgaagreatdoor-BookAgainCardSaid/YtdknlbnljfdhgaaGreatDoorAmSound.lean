/-
  The abstract machine against the model: one operation.
-/
import Derived.Test.YtdknlbnljfdhgaaGreatDoorAmRange
import Derived.Laws.BytesString
import Derived.Laws.BytesArg
namespace Go.Am
open Go
set_option linter.unusedSimpArgs false
set_option linter.unusedVariables false
variable{Λ:LB}
def cz(Λ:LB)(P:Program)(ρ:aO)(S:AS)(w:World)(s:Sem Next)(v:AV)(S':AS):Prop:=
 ∃nx x ρ' w',s.run P w=.ok nx w'/\Bz nx=some x/\ah ρ' v x/\R Λ ρ' S' w'/\Kp ρ S w ρ' S' w'
theorem cz.sem{P:Program}{ρ:aO}{S S':AS}{w:World}{s:Sem Value}{v:AV}(h:rj Λ P ρ S w s v S'):cz Λ P ρ S w (do pure (.value (<-s))) v S':=by
 obtain⟨x,ρ',w',r1,r2,r3,r4⟩:=h;exact⟨.value x,x,ρ',w',by simp only[Sem.run_bind,r1,Result.andThen_ok,Sem.run_pure],rfl,r2,r3,r4⟩
theorem cz.still{P:Program}{ρ:aO}{S:AS}{w:World}{s:Sem Value}{v:AV}(hR:R Λ ρ S w)(h:∃z,s.run P w=.ok z w/\ah ρ v z):cz Λ P ρ S w (do pure (.value (<-s))) v S:=by
 obtain⟨z,r1,r2⟩:=h;exact cz.sem ⟨z,ρ,w,r1,r2,hR,Kp.refl _ _ _⟩
theorem cz.val{P:Program}{ρ:aO}{S:AS}{w:World}{x:Value}{v:AV}(hR:R Λ ρ S w)(h:ah ρ v x):cz Λ P ρ S w (pure (.value x)) v S:=
 ⟨.value x,x,ρ,w,rfl,rfl,h,hR,Kp.refl _ _ _⟩
theorem cC{v:Option AV}{S S':AS}{n:Nat}{u:AV}(h:val? v S n=.val u S'):v=some u/\S'=S:=by
 cases v with
 |none=>simp[val?]at h
 |some x=>simp only[val?,AR.val.injEq]at h;exact⟨by rw[h.1],h.2.symm⟩
theorem fA{v:Option (AV×AS)}{S':AS}{n:Nat}{u:AV}(h:dN v n=.val u S'):v=some (u,S'):=by
 cases v with
 |none=>simp[dN]at h
 |some x=>obtain⟨a,b⟩:=x;simp only[dN,AR.val.injEq]at h;rw[h.1,h.2]
theorem FF{ρ:aO}{x:AV}{v:Value}{b:Bool}(h:x=.bool b)(hv:ah ρ x v):v=.bool b:=by subst h;simpa[ah]using hv
theorem load_var{P:Program}{cx:Cx}(aC:dq Λ P cx){ρ:aO}{S:AS}{w:World}(hR:R Λ ρ S w){t:TypeId}{id g off lim:Nat}{x':Value}(hx:ah ρ (.ptr id g off lim) x'):
  (∀n cs,aG cx t=some true->aE cx t=some n->rd S id g off n lim=some cs->∃z,(Instr.loadAt t x').run P w=.ok z w/\ah ρ (.agg cs) z) /\
  (∀v,aG cx t=some false->rd S id g off 1 lim=some [v]->∃z,(Instr.loadAt t x').run P w=.ok z w/\ah ρ v z):=by
 simp only[ah]at hx;obtain⟨pl,p1,p2,rfl⟩:=hx;constructor
 .intro n cs ha hs hr;obtain⟨arr,q1,q2,q3,q4,_⟩:=jU (P:=P) hR hr p1 p2;exact⟨.agg arr,by simp only[Instr.loadAt,Instr.sureAddr,loadVar,Sem.run_bind,Sem.run_pure,Result.andThen_ok,pY aC ha,if_true,dZ aC hs,q1],by simp only[ah];exact⟨arr,rfl,q3,q4⟩⟩
 .intro v ha hr;obtain⟨arr,q1,q2,q3,q4,q5,q6⟩:=jU (P:=P) hR hr p1 p2;obtain⟨z,hz,hz2⟩:=q6 0 (by omega);refine⟨z,?_,?_⟩
  .simp only[Nat.add_zero]at hz;simp only[Instr.loadAt,Instr.sureAddr,loadVar,Sem.run_bind,Sem.run_pure,Result.andThen_ok,pY aC ha,Bool.false_eq_true,if_false,run_load,hz]
  .obtain⟨y,hy,eS⟩:=q3.get (i:=0) (x:=v) rfl;rw[hz2]at hy;cases hy;exact eS
theorem xS:∀(cs:List AV)(l:List Nat)(arr:List Value)(ρ:aO),rP cs=some l->au ρ cs arr ->
  arr=(l.map Int.ofNat).map (Value.int .u8)/\∀n,n∈l->n<256:=by
 intro cs
 induction cs with
 |nil=>intro l arr ρ h hr;simp only[au]at hr;have h':some []=some l:=h;cases h';exact⟨hr,fun n hn=>by cases hn⟩
 |cons c cs ih=>
  intro l arr ρ h hr;simp only[au]at hr;obtain⟨y,ys,rfl,hy,hys⟩:=hr;have h':qB c (rP cs)=some l:=h;unfold qB at h';split at h'
  .rename_i n l' sO;rw[gH]at h';by_cases hn:n<256
   .rw[decide_eq_true hn]at h';simp only[cond_true,Option.some.injEq]at h';subst h';obtain⟨i1,i2⟩:=ih l' ys ρ sO hys;simp only[ah]at hy;rw[i1,hy];exact⟨rfl,fun m hm=>by cases hm with|head=>exact hn|tail _ h=>exact i2 m h⟩
   .rw[decide_eq_false hn]at h';cases h'
  .cases h'
theorem AU(l:List Nat)(h:∀n,n∈l->n<256):((l.map Int.ofNat).foldl (fun r n=>r.push (UInt8.ofNat n.toNat)) ByteArray.empty).data.toList.map UInt8.toNat=l:=by
 rw[foldl_push_bytes];simp only[List.map_map];have e:(ByteArray.empty.data++(l.map ((fun n:Int=>UInt8.ofNat n.toNat)∘Int.ofNat)).toArray).toList=l.map fun n=>UInt8.ofNat n:=by
  simp[Function.comp]
 rw[e,List.map_map];have:∀n,n∈l->(UInt8.toNat∘fun n=>UInt8.ofNat n) n=n:=fun n hn=>by
  simp only[Function.comp,UInt8.toNat_ofNat'];exact Nat.mod_eq_of_lt (h n hn)
 rw[List.map_congr_left this];simp
theorem s2b_run{P:Program}{ρ:aO}{S:AS}{w:World}(hR:R Λ ρ S w){e:TypeId}{b:ByteArray}{s:List Nat}(hb:b.data.toList.map UInt8.toNat=s):
  rj Λ P ρ S w (Conv.stringToBytes e b) (.slice S.next 0 0 s.length s.length 1 none) ⟨S.h.set S.next (.row (mS (fun n=>AV.int .u8 (.ofNat n)) s) 0 0 true e),Nat.succ S.next⟩:=by
 let q:Question:=.appendCap b.size 0 e
 let c:=q.cut (w.tape w.drawn q)
 have Ag:b.size<=c:=Nat.le_add_right _ _
 let C:Array Value:=b.data.map (fun x=>Value.int .u8 x.toNat)++Array.replicate (c-b.size) (.int .u8 0)
 have hCs:C.size=c:=by simp[C];have:b.data.size=b.size:=rfl;omega
 let w':World:={w with drawn:=w.drawn+1,heap:=w.heap.push (.cells C e (c,c+1))}
 have lT:=mJ hb;have nK:mS (fun n=>AV.int .u8 (.ofNat n)) s=b.data.toList.map fun x=>AV.int .u8 (x.toNat:Int):=by
  rw[gu,<-hb,List.map_map];rfl
 have hlen:(mS (fun n=>AV.int .u8 (.ofNat n)) s).length=s.length:=by rw[gu];simp
 have hrel:Cells ρ (mS (fun n=>AV.int .u8 (.ofNat n)) s) (C.toList.take (mS (fun n=>AV.int .u8 (.ofNat n)) s).length):=by
  have e1:C.toList.take (mS (fun n=>AV.int .u8 (.ofNat n)) s).length=b.data.toList.map fun x=>Value.int .u8 (x.toNat:Int):=by
   rw[hlen,<-lT];simp only[C,Array.toList_append,Array.toList_map];rw[List.take_append_of_le_length (by simp),List.take_of_length_le (by simp)]
  rw[e1,nK];refine⟨au.map _ _ (fun x=>by simp[ah]) _,fun x hx=>?_⟩;obtain⟨y,_,rfl⟩:=List.mem_map.1 hx;rfl
 have hgrew:jJ (.cells C e (c,c+1)) w w':=⟨⟨rfl,rfl,rfl⟩,rfl⟩
 have hones:dX C:=by
  refine dX.of fun v hv=>?_;simp only[C,Array.toList_append,Array.toList_map,List.mem_append,List.mem_map,Array.toList_replicate,List.mem_replicate]at hv;rcases hv with⟨x,_,rfl⟩|hv
  .rfl
  .obtain⟨_,rfl⟩:=hv;rfl
 obtain⟨ρ',pl,p1,p2,p3,p4,p5,p6,p7⟩:=hR.newRowF (frz:=true) hgrew (fun h=>by cases h) hrel.1 (by rw[hlen,hCs];omega) hones;refine⟨.slice (some ⟨w.heap.size,0,none⟩) s.length c,ρ',w',?_,?_,p6,p7⟩
 .have hch:(choose (.appendCap b.size 0 e)).run P w=.ok c {w with drawn:=w.drawn+1}:=by rw[run_choose];rfl
  unfold Conv.stringToBytes;simp only[Sem.run_bind,hch,Result.andThen_ok,Go.newRow,run_newObj,Sem.run_pure,markStringish,run_shape];have yr:({w with drawn:=w.drawn+1,heap:=w.heap.push (.cells C e)}:World).shape? w.heap.size=some (e,c):=by
   simp[World.shape?,hCs]
  have hfz:({w with drawn:=w.drawn+1,heap:=w.heap.push (.cells C e)}:World).freeze {block:=w.heap.size,off:=c} 1=w':=by
   simp only[World.freeze,Nat.one_ne_zero,if_false,w'];congr 1;apply Array.ext_getElem?;intro i;rw[Array.getElem?_modify];by_cases hi:w.heap.size=i
   .subst hi;simp
   .rw[if_neg hi,Array.getElem?_push,Array.getElem?_push,if_neg (Ne.symm hi),if_neg (Ne.symm hi)]
  simp only[C]at yr hfz;rw[yr];simp only[run_freeze,Result.andThen_ok];rw[hfz,lT]
 .exact ah.fP pl c p1 (by rw[p4,hlen];exact Nat.le_refl _) (by omega) (by decide) (by omega) (.inl ⟨by rw[p2,p3],by rw[p3,p5,hCs];omega,fun k hk=>by cases hk⟩)
theorem xh{cx:Cx}{t:TypeId}{n:Nat}(h:aE cx t=some n):∃i,cx.kR.get t=some i/\i.size=n:=by
 unfold aE at h;cases hi:cx.kR.get t with
 |none=>simp[hi]at h
 |some i=>simp only[hi,Option.some.injEq]at h;exact⟨i,rfl,h⟩
theorem bytes_str(l:List Nat)(h:∀n,n∈l->n<256):(l.map fun n=>UInt8.ofNat n).map UInt8.toNat=l:=by
 rw[List.map_map];have:∀n,n∈l->(UInt8.toNat∘fun n=>UInt8.ofNat n) n=n:=fun n hn=>by
  simp only[Function.comp,UInt8.toNat_ofNat'];exact Nat.mod_eq_of_lt (h n hn)
 rw[List.map_congr_left this];simp
theorem ustr_def (ts : Array TypeId) (ty : TypeId) : ∃ m1 m2 m3 m4 m5 : String, ∀ (p : Option Addr) (len : Value), Builtin.unsafeString_ ts ty #[.pointer p, len] = (do
      let n <-asInt len
      let some pt:=ts[0]?|stuck m1
      if n<0 then runtimePanic (.error m2)
      if n > IntKind.i64.max then unsupported (.unsafePointer m3)
      match p with
      |none=>
       if n=0 then pure (.string .empty)
       else runtimePanic (.error m4)
      |some a=>
       if n=0 then pure (.string .empty)
       else if <-variablesAt a (<-elemOf pt) n.toNat then do
        let s <-loadBytes a .empty n.toNat
        freeze a n.toNat
        pure (.string s)
       else unsupported (.unsafePointer m5)):=⟨_,_,_,_,_,fun _ _=>rfl⟩
theorem ptr_shape{ρ:aO}{S:AS}{w:World}(hR:R Λ ρ S w){id g off lim:Nat}{cells:List AV}{low top:Nat}{frz:Bool}{ty:TypeId}(qK:S.h.get id=some (.row cells low top frz ty))
  (h1:low<=g) (h2:g<=top) {pl:Pl} (hp:ρ id g=some pl) (hl:lim<=pl.n) (ho:off<lim):∃N,w.shape? pl.b=some (ty,N)/\pl.base+off<N:=by
 obtain⟨_,h3,_⟩:=hR.iM id _ qK;obtain⟨dK,C,fr,g1,g2,g3,g4,g5,g6,g7,g8,g9⟩:=h3 g h1 h2;rw[hp]at g1;cases g1;exact⟨C.size,by simp[World.shape?,g2],by omega⟩
theorem ustrV_run{P:Program}{cx:Cx}(aC:dq Λ P cx){ρ:aO}{S S':AS}{w:World}(hR:R Λ ρ S w){ts:Array TypeId}{t ty:TypeId}{p v:AV}{p':Value}{n:Nat}{k:IntKind}
  (h:ustrV cx S t p n=some (v,S')) (ht:ts[0]?=some t) (hp:ah ρ p p') :
  ∃z w',(Builtin.unsafeString_ ts ty #[p',.int k (.ofNat n)]).run P w=.ok z w'/\ah ρ v z/\R Λ ρ S' w'/\Kp ρ S w ρ S' w':=by
 have nJ:IntKind.i64.max=9223372036854775807:=rfl;obtain⟨m1,m2,m3,m4,m5,ustr⟩:=ustr_def ts ty;unfold ustrV at h;cases n with
 |zero=>
  simp only[]at h;cases p<;>simp only[reduceCtorEq]at h
  case bM=>
   cases h;simp only[ah]at hp;subst hp;refine⟨.string .empty,w,?_,by simp only[ah];exact⟨_,rfl,rfl⟩,hR,Kp.refl _ _ _⟩;rw[ustr];simp[asInt,asIntOf,ht,nJ]
  case ptr id g off lim=>
   cases h;simp only[ah]at hp;obtain⟨pl,p1,p2,rfl⟩:=hp;refine⟨.string .empty,w,?_,by simp only[ah];exact⟨_,rfl,rfl⟩,hR,Kp.refl _ _ _⟩;rw[ustr];simp[asInt,asIntOf,ht,nJ]
 |succ m=>
  simp only[]at h;split at h
  .rename_i e id g off lim hu;split at h
   .rename_i cells low top frz DH hue hs qK;rw[bF,cH]at h;cases sf:(decide (DH=e)&&decide (m+1<=4611686018427387904)&&tU frz low)with
    |false=>rw[sf]at h;cases h
    |true=>
     rw[sf]at h;simp only[Bool.and_eq_true,decide_eq_true_eq]at sf;obtain⟨⟨hte,h63'⟩,hmf⟩:=sf;subst hte;simp only[cond_true]at h;cases hr:rd S id g off (m+1) lim with
     |none=>rw[hr]at h;cases h
     |some cs=>
      rw[hr]at h;simp only[]at h;cases hb:rP cs with
      |none=>rw[hb]at h;cases h
      |some l=>
       rw[hb]at h;simp only[Option.some.injEq,Prod.mk.injEq]at h;obtain⟨rfl,rfl⟩:=h;simp only[ah]at hp;obtain⟨pl,p1,p2,rfl⟩:=hp;obtain⟨arr,q1,q2,q3,q4,q5,q6⟩:=jU (P:=P) hR hr p1 p2;obtain⟨b1,b2⟩:=xS cs l arr.toList ρ hb q3;have hll:l.length=m+1:=by
        have:=congrArg List.length b1;simp at this;omega
       have vJ:=hr;unfold rd at vJ;rw[qK]at vJ;simp only[cH,Nat.add_eq]at vJ;cases qM:(decide (low<=g)&&decide (g<=top)&&decide (off+(m+1)<=lim))with
       |false=>rw[qM]at vJ;cases vJ
       |true=>
        simp only[Bool.and_eq_true,decide_eq_true_eq]at qM;obtain⟨⟨c1,c2⟩,c3⟩:=qM;obtain⟨_,h2,_⟩:=hR.iM id _ qK;obtain⟨dK,C,fr,g1,g2,g3,g4,g5,g6,g7,g8,g9⟩:=h2 g c1 c2;rw[p1]at g1;cases g1;have yr:w.shape? pl.b=some (DH,C.size):=by simp[World.shape?,g2]
        have kD:=lG aC hs
        let L:List UInt8:=l.map fun n=>UInt8.ofNat n
        have hLl:L.length=m+1:=by simp[L,hll]
        have cJ:∀j x,L[j]?=some x->w.cell? ((⟨pl.b,pl.base+off,none⟩:Addr).add j)=some (.int .u8 x.toNat):=by
         intro j x hx;have hj:j<m+1:=by
          rcases Nat.lt_or_ge j (m+1)with h0|h0
          .exact h0
          .rw[List.getElem?_eq_none (by omega)]at hx;cases hx
         obtain⟨v,v1,v2⟩:=q6 j hj;rw[gg,v1,<-v2,b1];simp only[L,List.getElem?_map]at hx⊢;cases hlj:l[j]? with
         |none=>rw[hlj]at hx;cases hx
         |some y=>
          rw[hlj]at hx;simp only[Option.map_some,Option.some.injEq]at hx⊢;subst hx;have:=b2 y (List.mem_of_getElem? hlj);simp only[UInt8.toNat_ofNat',Nat.mod_eq_of_lt this];rfl
        have hlb:=Lib.run_loadBytes (P:=P) w L ⟨pl.b,pl.base+off,none⟩ .empty cJ;have hlies:=liesAt_one (P:=P) kD C.size (pl.base+off) (m+1) (by omega);obtain⟨f1,f2⟩:=hR.freeze qK p1 (off:=pl.base+off) (Nat.succ_ne_zero m) (zQ hmf);refine⟨.string ⟨L.toArray⟩,_,?_,?_,f1,f2⟩
        .rw[hLl]at hlb;rw[ustr];have h63:¬((m:Int)+1 > 9223372036854775807):=by omega
         have hneg:¬((m:Int)+1<0):=by omega
         have hz:¬((m:Int)+1=0):=by omega
         have htn:((m:Int)+1).toNat=m+1:=by omega
         simp only[asInt,asIntOf,Sem.run_bind,Sem.run_pure,Result.andThen_ok,ht,nJ,Int.ofNat_eq_natCast,Int.natCast_add,Int.cast_ofNat_Int,if_neg hneg,if_neg h63,if_neg hz,htn];simp only[elemOf,aF aC hu,Sem.run_bind,Sem.run_pure,Result.andThen_ok,variablesAt,run_program,run_shape,yr];rw[kD,Nat.div_one,hlies];simp only[if_true,Sem.run_bind,hlb,Result.andThen_ok,run_freeze,Sem.run_pure];simp
        .simp only[ah];exact⟨_,rfl,bytes_str l b2⟩
   .cases h
  .cases h
theorem AA{P:Program}{cx:Cx}(aC:dq Λ P cx){ρ:aO}{F:Fr}{S S':AS}{w:World}{a:Act}(hR:R Λ ρ S w)(hF:dT ρ F a){o:Oper}{v:AV}
  (h:bj cx F S o=.val v S'):cz Λ P ρ S w (execOp a.eval o) v S':=by
 obtain⟨dst,op,ty,pos,after,guard⟩:=o;have fr:∀n,gJ (aA cx F S.next op) S n=.val v S'->cz Λ P ρ S w (execOp a.eval ⟨dst,op,ty,pos,after,guard⟩) v S':=by
  intro n hh;cases hf:aA cx F S.next op with
  |none=>simp[gJ,hf]at hh
  |some vo=>
   obtain⟨u,obj⟩:=vo;simp only[gJ,hf,AR.val.injEq]at hh;obtain⟨rfl,rfl⟩:=hh;obtain⟨s,e,hfo⟩:=Ai (P:=P) aC hF (o:=⟨dst,op,ty,pos,after,guard⟩) hf w;rw[e];exact cz.sem (hfo.sem hR)
 cases op<;>simp only[bj,reduceCtorEq]at h
 case move x=>cases h;exact cz.val hR (hF.eval x)
 case assign x=>cases h;exact cz.val hR (hF.eval x)
 case pick c x y=>
  split at h
  .rename_i hc;cases h;have:=FF hc (hF.eval c);exact⟨.value (a.eval x),a.eval x,ρ,w,by simp[execOp,this,asBool],rfl,hF.eval x,hR,Kp.refl _ _ _⟩
  .rename_i hc;cases h;have:=FF hc (hF.eval c);exact⟨.value (a.eval y),a.eval y,ρ,w,by simp[execOp,this,asBool],rfl,hF.eval y,hR,Kp.refl _ _ _⟩
  .cases h
 case alloc e=>exact fr _ h
 case box t x=>exact fr _ h
 case buildSlice t n parts=>exact fr _ h
 case makeMap t r=>exact fr _ h
 case makeSlice t l c=>exact fr _ h
 case build t parts=>
  obtain⟨h1,rfl⟩:=cC h;exact cz.still hR (buildV_run aC hF h1 w)
 case load t x=>
  split at h
  .rename_i id g off lim he;have hx:=hF.eval x;rw[he]at hx;obtain⟨l1,l2⟩:=load_var (t:=t) aC hR hx;split at h
   .rename_i ha;split at h
    .rename_i n hs;split at h
     .rename_i cs hr;cases h;exact cz.still hR (l1 n cs ha hs hr)
     .cases h
    .cases h
   .rename_i ha;split at h
    .rename_i u hr;cases h;exact cz.still hR (l2 _ ha hr)
    .cases h
   .cases h
  .rename_i g off he;have hx:=hF.eval x;rw[he]at hx;simp only[ah]at hx;cases hg:cx.kE.get g with
   |none=>rw[hg]at h;cases h
   |some cs=>
    rw[hg]at h;obtain⟨h1,rfl⟩:=cC h;have:=glob_load (P:=P) aC hR hg h1;rw[<-hx]at this;exact cz.still hR this
  .cases h
 case store t x y=>
  split at h
  .rename_i id g off lim cs n he hc hs;rw[bF,bJ]at h;by_cases hn:cs.length=n
   .rw[decide_eq_true hn]at h;simp only[cond_true]at h;split at h
    .rename_i S1 mj;cases h;have hx:=hF.eval x;rw[he]at hx;simp only[ah]at hx;obtain⟨pl,p1,p2,hxe⟩:=hx;have nK:=dM hc (hF.eval y);obtain⟨w',r1,r2,r3⟩:=tD (P:=P) hR mj p1 p2 nK.1 nK.2;have lT:(a.eval y).cells.size=n:=by have:=nK.length;simp at this;omega
     refine⟨.skip,undef,ρ,w',?_,rfl,ez ρ,r2,r3⟩;simp only[execOp,Instr.storeAt,hxe,Instr.sureAddr,storeVar,Sem.run_bind,Sem.run_pure,Result.andThen_ok,dZ aC hs];rw[if_neg (by simp[lT])];simp only[r1,Result.andThen_ok]
    .cases h
   .rw[decide_eq_false hn]at h;cases h
  .cases h
 case nilCheck x=>
  have hx:=hF.eval x;split at h<;>(try (cases h;done))<;>rename_i he<;>cases h<;>rw[he]at hx
  .obtain⟨pl,p1,p2,e⟩:=(by simpa only[ah]using hx:∃pl,_)
   have:execOp a.eval ⟨dst,.nilCheck x,ty,pos,after,guard⟩=pure (.value (a.eval x)):=by simp only[execOp,e]
   rw[this];exact cz.val hR hx
  .have e:=(by simpa only[ah]using hx:a.eval x=_)
   have:execOp a.eval ⟨dst,.nilCheck x,ty,pos,after,guard⟩=pure (.value (a.eval x)):=by simp only[execOp,e]
   rw[this];exact cz.val hR hx
  .obtain⟨p,q,e,_⟩:=(by simpa only[ah]using hx:∃p q,_)
   have:execOp a.eval ⟨dst,.nilCheck x,ty,pos,after,guard⟩=pure (.value (a.eval x)):=by simp only[execOp,e]
   rw[this];exact cz.val hR hx
  .obtain⟨p,q,e,_⟩:=gq hx;have:execOp a.eval ⟨dst,.nilCheck x,ty,pos,after,guard⟩=pure (.value (a.eval x)):=by simp only[execOp,e]
   rw[this];exact cz.val hR hx
  .obtain⟨p,q,e⟩:=(by simpa only[ah]using hx:∃p,_)
   have:execOp a.eval ⟨dst,.nilCheck x,ty,pos,after,guard⟩=pure (.value (a.eval x)):=by simp only[execOp,e]
   rw[this];exact cz.val hR hx
  .rename_i k i;obtain⟨p,q,e⟩:=(by simpa only[ah]using hx:∃p,_)
   have:execOp a.eval ⟨dst,.nilCheck x,ty,pos,after,guard⟩=pure (.value (a.eval x)):=by cases k<;>simp only[execOp,e,OK.val]
   rw[this];exact cz.val hR hx
 case binOp op t x y yt=>
  obtain⟨h1,rfl⟩:=cC h;refine cz.still (s:=do eqGuard op t x y (a.eval x) (a.eval y);binOp op t (a.eval x) (a.eval y)) hR (binV_run aC h1 ?_ (hF.eval x) (hF.eval y) w);cases x<;>cases y<;>rfl
 case unOp op t x=>
  obtain⟨h1,rfl⟩:=cC h;exact cz.still hR (unV_run h1 (hF.eval x) w)
 case convert src dst x=>
  have hx:=hF.eval x;split at h
  .rename_i ds k k0 n rF qJ he;cases h;rw[he]at hx;simp only[ah]at hx;refine cz.still hR ⟨.int k (k.wrap n),?_,by rw[iy];simp[ah]⟩;simp only[convert,Sem.run_bind,aF aC rF,aF aC qJ,Result.andThen_ok,hx];rfl
  .rename_i ds s rF qJ he;cases h;rw[he]at hx;have oA:=hx;simp only[ah]at oA;obtain⟨b,hb,_⟩:=oA;refine cz.still hR ⟨a.eval x,?_,hx⟩;simp only[convert,Sem.run_bind,aF aC rF,aF aC qJ,Result.andThen_ok,hb];rfl
  .rename_i ds e s rF qJ he;split at h
   .rename_i hu3;cases h;rw[he]at hx;simp only[ah]at hx;obtain⟨b,hb,oo⟩:=hx;refine cz.sem ?_;obtain⟨z,ρ',w',r1,r2,r3,r4⟩:=s2b_run (P:=P) (e:=e) hR oo;refine⟨z,ρ',w',?_,r2,r3,r4⟩;simp only[convert,Sem.run_bind,aF aC rF,aF aC qJ,Result.andThen_ok,hb];simp only[aF aC hu3,Result.andThen_ok];exact r1
   .cases h
  .rename_i xx e rF qJ jL;have hconv:∀(ad:Option Addr)(l c:Nat),bC cx e=some (.int .u8)->(convert src dst (.slice ad l c)).run P w=(Conv.bytesToString (.slice ad l c)).run P w:=
    fun ad l c hu3=>run_convert_bytes_string w src dst e ad l c (dh aC rF) (dh aC hu3) (dh aC qJ)
   split at h
   .rename_i hu3 he;cases h;rw[he]at hx;simp only[ah]at hx;refine cz.still hR ⟨.string .empty,?_,by simp only[ah];exact⟨_,rfl,rfl⟩⟩;rw[hx,hconv _ _ _ hu3];rfl
   .rename_i id g off len lim cap hu3 he;rw[he]at hx;obtain⟨ad,c,e1,hlc,_⟩:=gq hx;cases len with
    |zero=>
     cases h;refine cz.still hR ⟨.string .empty,?_,by simp only[ah];exact⟨_,rfl,rfl⟩⟩;rw[e1,hconv _ _ _ hu3,run_bytesToString w ad 0 c [] rfl];rfl
    |succ l=>
     simp only[]at h;split at h
     .rename_i cs hr;split at h
      .rename_i bs oo;cases h;simp only[ah]at hx;obtain⟨pl,c',p1,p2,p3,p4,p5,hh⟩:=hx;rcases hh with⟨e2,_⟩|⟨e2,_⟩
       .rw[e1]at e2;cases e2;obtain⟨arr,q1,q2,q3,q4,_⟩:=jU (P:=P) hR hr p1 p2;obtain⟨b1,b2⟩:=xS cs bs arr.toList ρ oo q3;have fM:arr=((bs.map Int.ofNat).map (Value.int .u8)).toArray:=Array.ext' (by simpa using b1);rw[fM]at q1;refine cz.still hR ⟨.string ((bs.map Int.ofNat).foldl (fun r n=>r.push (UInt8.ofNat n.toNat)) ByteArray.empty),?_,?_⟩
        .rw[e1,hconv _ _ _ hu3];exact run_bytesToString w _ (l+1) c _ q1
        .simp only[ah];exact⟨_,rfl,AU bs b2⟩
       .omega
      .cases h
     .cases h
   .cases h
  .rename_i e0 e id g off len lim sz cap rF qJ he;rw[bF,gH]at h;cases pG:(decide (src=dst)&&decide (0<len))with
   |false=>rw[pG]at h;cases h
   |true=>
   rw[pG]at h;simp only[cond_true]at h;simp only[Bool.and_eq_true,decide_eq_true_eq]at pG;obtain⟨hsd,hlen⟩:=pG;split at h
   .rename_i cells low top frz DH hu3 qK;rw[cH,cH]at h;cases hc:(decide (low<=g)&&decide (g<=top)&&tU frz low)with
    |false=>rw[hc]at h;cases h
    |true=>
     rw[hc]at h;simp only[cond_true,AR.val.injEq]at h;obtain⟨rfl,rfl⟩:=h;simp only[Bool.and_eq_true,decide_eq_true_eq]at hc;obtain⟨hc,hmf⟩:=hc;rw[he]at hx;have oA:=hx;simp only[ah]at oA;obtain⟨pl,c,p1,p2,p3,p4,p5,hh⟩:=oA;rcases hh with⟨e2,_⟩|⟨e2,_⟩
     .obtain⟨_,hgs,_⟩:=hR.iM id _ qK;obtain⟨dK,C,fr,g1,g2,_⟩:=hgs g hc.1 hc.2;rw[p1]at g1;cases g1;have yr:w.shape? pl.b=some (DH,C.size):=by simp[World.shape?,g2]
      obtain⟨t1,t2⟩:=hR.freeze (off:=C.size) (n:=1) qK p1 (by omega) (zQ hmf);refine cz.sem ⟨a.eval x,ρ,_,?_,hx,t1,t2⟩;rw[e2];simp only[convert,Sem.run_bind,aF aC rF,aF aC qJ,Result.andThen_ok];simp only[aF aC hu3,Result.andThen_ok,hsd,beq_self_eq_true,markStringish,Sem.run_bind,run_shape,yr,run_freeze,Sem.run_pure]
     .omega
   .cases h
  .rename_i e id g off lim rF qJ he;split at h
   .rename_i z cells low top frz DH hs qK;rw[gH,cH,cH]at h;cases hc:(decide (off<lim)&&decide (low<=g)&&decide (g<=top))with
    |false=>rw[hc]at h;cases h
    |true=>
     rw[hc]at h;simp only[cond_true,AR.val.injEq]at h;obtain⟨rfl,rfl⟩:=h;simp only[Bool.and_eq_true,decide_eq_true_eq]at hc;obtain⟨⟨cq,hc1⟩,hc2⟩:=hc;rw[he]at hx;have oA:=hx;simp only[ah]at oA;obtain⟨pl,p1,p2,e1⟩:=oA;obtain⟨N,yr,hof⟩:=ptr_shape hR qK hc1 hc2 p1 p2 cq;refine cz.still hR ⟨a.eval x,?_,hx⟩;obtain⟨i,hi,hiz⟩:=xh hs;rw[e1];exact Lib.run_to_unsafe w ⟨pl.b,pl.base+off,none⟩ (dh aC rF) (dh aC qJ) (aC.kR _ _ hi) (by rw[hiz];exact Nat.succ_ne_zero _) yr hof
   .cases h
  .rename_i u id g off lim rF qJ he;split at h
   .rename_i z cells low top frz DH hs qK;rw[bF,cH,bF]at h;cases hc:(decide (DH=u)&&decide (Nat.succ z<=lim)&&decide (low=0))with
    |false=>rw[hc]at h;cases h
    |true=>
     rw[hc]at h;simp only[cond_true,AR.val.injEq]at h;obtain⟨rfl,rfl⟩:=h;simp only[Bool.and_eq_true,decide_eq_true_eq]at hc;obtain⟨⟨rfl,hzl⟩,rfl⟩:=hc;rw[he]at hx;have oA:=hx;simp only[ah]at oA;obtain⟨pl,p1,p2,e1⟩:=oA;obtain⟨_,h2,_⟩:=hR.iM id _ qK;obtain⟨dK,C,fr,g1,g2,g3,g4,g5,g6,g7,g8,g9⟩:=h2 0 (Nat.le_refl _) (Nat.zero_le _);rw[p1]at g1;cases g1;obtain⟨i,hi,hiz⟩:=xh hs;have yr:w.shape? pl.b=some (DH,C.size):=by simp[World.shape?,g2]
     have kD:=lG aC hs;refine cz.still hR ⟨a.eval x,?_,hx⟩;rw[e1];refine Lib.run_from_unsafe w ⟨pl.b,pl.base+0,none⟩ (dh aC rF) (dh aC qJ) (aC.kR _ _ hi) yr ?_;rw[g9.1 rfl];refine Ep kD (Nat.succ_ne_zero _) _ ?_;rw[kD];exact (Nat.le_div_iff_mul_le (Nat.succ_pos _)).2 (by omega)
   .cases h
  .cases h
 case makeInterface t x=>
  split at h
  .cases h
  .rename_i d hu hd;cases h;refine cz.still hR ⟨.iface t (a.eval x),?_,by simp only[ah];exact⟨_,rfl,hF.eval x⟩⟩;simp only[Instr.makeInterface,Sem.run_bind,aF aC hd,Result.andThen_ok];cases d<;>first|rfl|exact absurd rfl (hu _)
  .cases h
 case makeFunc fn first captured=>
  cases h;refine cz.still hR ⟨.func fn (first.map a.eval) (captured.map a.eval),rfl,?_⟩;simp only[ah];exact⟨_,_,rfl,lK hF first,lK hF captured⟩
 case slice t x lo hi mx=>
  obtain⟨h1,rfl⟩:=cC h;exact cz.still hR (sliceV_run aC hF h1 (hF.eval x) w)
 case fieldAddr s x f=>
  split at h
  .rename_i fs id g off lim hu he;rw[iw]at h;split at h
   .rename_i fd hf;split at h
    .rename_i z hs;rw[aN]at h;cases h;have hx:=hF.eval x;rw[he]at hx;simp only[ah]at hx;obtain⟨pl,p1,p2,e⟩:=hx;have EJ:fs[f]?=some fd:=by rw[<-Array.getElem?_toList];exact hf
     refine cz.still hR ⟨.pointer (some ⟨pl.b,pl.base+(off+fd.offset),none⟩),?_,by simp only[ah];exact⟨pl,p1,p2,rfl⟩⟩;simp only[Instr.fieldAt,Sem.run_bind,aF aC hu,Result.andThen_ok,EJ,e,Instr.sureAddr,Sem.run_pure,fieldPlace,dZ aC hs];rw[if_neg (Nat.succ_ne_zero z),gg,Nat.add_assoc];rfl
    .cases h
   .cases h
  .cases h
 case field t x f=>
  split at h
  .rename_i fs cs hu he;rw[iw]at h;split at h
   .rename_i fd hf;obtain⟨h1,rfl⟩:=cC h;have hx:=hF.eval x;rw[he]at hx;simp only[ah]at hx;obtain⟨arr,e,p,q⟩:=hx;have EJ:fs[f]?=some fd:=by rw[<-Array.getElem?_toList];exact hf
    obtain⟨z,r1,r2⟩:=mN aC h1 p q w;refine cz.still hR ⟨z,?_,r2⟩;simp only[Instr.field,Sem.run_bind,aF aC hu,Result.andThen_ok,EJ,e,asAgg,Sem.run_pure,r1]
   .cases h
  .cases h
 case indexAddr t x ix=>
  split at h
  .rename_i e id g off len lim sz cap i hu he hi;split at h
   .rename_i z hs;rw[bF,gH,aN]at h;cases hc:(decide (z=sz)&&decide (i<len))with
    |false=>simp[hc]at h
    |true=>
     simp only[hc,cond_true,AR.val.injEq]at h;obtain⟨rfl,rfl⟩:=h;simp only[Bool.and_eq_true,decide_eq_true_eq]at hc;obtain⟨rfl,cq⟩:=hc;have hx:=hF.eval x;rw[he]at hx;simp only[ah]at hx;obtain⟨pl,c,p1,p2,p3,p4,p5,hh⟩:=hx;obtain⟨k,hk⟩:=fF hi (hF.eval ix);rcases hh with⟨e1,_⟩|⟨e1,_⟩
     .refine cz.still hR ⟨.pointer (some ⟨pl.b,pl.base+(off+i*z),none⟩),?_,by simp only[ah];exact⟨pl,p1,p2,rfl⟩⟩;have CR:(0:Int)<=(i:Int)/\(i:Int)<(len:Int):=by omega
      simp only[Instr.indexAt,hk,asIntOf,Sem.run_bind,Sem.run_pure,aF aC hu,Result.andThen_ok,e1,if_pos CR,dZ aC hs,Int.toNat_natCast,gg,Nat.add_assoc]
     .omega
   .cases h
  .rename_i n e id g off lim i hu he hi;split at h
   .rename_i z hs;rw[gH,aN]at h;by_cases cq:i<n
    .rw[decide_eq_true cq]at h;simp only[cond_true,AR.val.injEq]at h;obtain⟨rfl,rfl⟩:=h;have hx:=hF.eval x;rw[he]at hx;simp only[ah]at hx;obtain⟨pl,p1,p2,e1⟩:=hx;obtain⟨k,hk⟩:=fF hi (hF.eval ix);refine cz.still hR ⟨.pointer (some ⟨pl.b,pl.base+(off+i*z),none⟩),?_,by simp only[ah];exact⟨pl,p1,p2,rfl⟩⟩;have CR:(0:Int)<=(i:Int)/\(i:Int)<(n:Int):=by omega
     simp only[Instr.indexAt,hk,asIntOf,Sem.run_bind,Sem.run_pure,aF aC hu,Result.andThen_ok,e1,Instr.sureAddr,if_pos CR,dZ aC hs,Int.toNat_natCast,gg,Nat.add_assoc]
    .rw[decide_eq_false cq]at h;cases h
   .cases h
  .rename_i n e g off i hu he hi;split at h
   .rename_i z hs;rw[gH,aN]at h;by_cases cq:i<n
    .rw[decide_eq_true cq]at h;simp only[cond_true,AR.val.injEq]at h;obtain⟨rfl,rfl⟩:=h;have hx:=hF.eval x;rw[he]at hx;simp only[ah]at hx;obtain⟨k,hk⟩:=fF hi (hF.eval ix);refine cz.still hR ⟨.pointer (some ⟨g,off+i*z,none⟩),?_,by simp only[ah];rfl⟩;have CR:(0:Int)<=(i:Int)/\(i:Int)<(n:Int):=by omega
     simp only[Instr.indexAt,hk,asIntOf,Sem.run_bind,Sem.run_pure,aF aC hu,Result.andThen_ok,hx,Instr.sureAddr,if_pos CR,dZ aC hs,Int.toNat_natCast,gg]
    .rw[decide_eq_false cq]at h;cases h
   .cases h
  .cases h
 case index t x ix=>
  split at h
  .rename_i s i hu he hi;rw[iw]at h;split at h
   .rename_i n hn;cases h;have hx:=hF.eval x;rw[he]at hx;simp only[ah]at hx;obtain⟨b,e,hb⟩:=hx;obtain⟨k,hk⟩:=fF hi (hF.eval ix);rw[<-hb,List.getElem?_map]at hn;cases hbi:b.data.toList[i]? with
    |none=>rw[hbi]at hn;cases hn
    |some c=>
     rw[hbi]at hn;simp only[Option.map_some,Option.some.injEq]at hn;subst hn;have cq:i<b.size:=by
      rcases Nat.lt_or_ge i b.size with h0|h0
      .exact h0
      .rw[List.getElem?_eq_none (show b.data.toList.length<=i from h0)]at hbi;cases hbi
     refine cz.still hR ⟨.int .u8 (c.toNat:Int),?_,by simp[ah]⟩;have h0:(0:Int)<=(i:Int):=by omega
     have hg:b[i]?=some c:=by
      rw[ByteArray.getElem?_lt' b i cq];have:b.data.toList[i]?=some (b[i]):=by
       rw[List.getElem?_eq_getElem (show i<b.data.toList.length from cq)];rfl
      rw[hbi]at this;exact this.symm
     simp only[Instr.index,hk,asIntOf,Sem.run_bind,Sem.run_pure,aF aC hu,Result.andThen_ok,e,if_pos h0,Int.toNat_natCast,hg]
   .cases h
  .rename_i n e cs i hu he hi;split at h
   .rename_i z hs;rw[gH]at h;by_cases cq:i<n
    .rw[decide_eq_true cq]at h;simp only[cond_true]at h;obtain⟨h1,rfl⟩:=cC h;have hx:=hF.eval x;rw[he]at hx;simp only[ah]at hx;obtain⟨arr,e1,p,q⟩:=hx;obtain⟨k,hk⟩:=fF hi (hF.eval ix);obtain⟨zv,r1,r2⟩:=mN aC h1 p q w;refine cz.still hR ⟨zv,?_,r2⟩;have CR:(0:Int)<=(i:Int)/\(i:Int)<(n:Int):=by omega
     simp only[Nat.mul_eq]at r1;simp only[Instr.index,hk,asIntOf,Sem.run_bind,Sem.run_pure,aF aC hu,Result.andThen_ok,e1,if_pos CR,dZ aC hs,Int.toNat_natCast,r1]
    .rw[decide_eq_false cq]at h;cases h
   .cases h
  .cases h
 case lookup t x ix ok=>
  obtain⟨h1,rfl⟩:=cC h;exact cz.still hR (En aC hR h1 (hF.eval x) (hF.eval ix))
 case mapUpdate t m k x=>
  obtain⟨w',r1,rfl,r3,r4⟩:=uK aC hR (fA h) (hF.eval m) (hF.eval k) (hF.eval x);exact⟨.skip,undef,ρ,w',by simp only[execOp,Sem.run_bind,r1,Result.andThen_ok,Sem.run_pure],rfl,ez ρ,r3,r4⟩
 case insert t m k x=>
  obtain⟨w',r1,rfl,r3,r4⟩:=uK aC hR (fA h) (hF.eval m) (hF.eval k) (hF.eval x);exact⟨.skip,undef,ρ,w',by simp only[execOp,Sem.run_bind,r1,Result.andThen_ok,Sem.run_pure],rfl,ez ρ,r3,r4⟩
 case mapEntry t m k=>exact cz.sem (E4 aC hR (fA h) (hF.eval m) (hF.eval k))
 case entryStore t m k x=>
  obtain⟨w',r1,rfl,r3,r4⟩:=E3 (P:=P) (t:=t) hR (fA h) (hF.eval m) (hF.eval k) (hF.eval x);exact⟨.skip,undef,ρ,w',by simp only[execOp,Sem.run_bind,r1,Result.andThen_ok,Sem.run_pure],rfl,ez ρ,r3,r4⟩
 case range t x=>exact cz.sem (rangeV_run aC hR (fA h) (hF.eval x))
 case next x str=>exact cz.sem (nextV_val (P:=P) hR h (hF.eval x))
 case entry x=>
  obtain⟨h1,rfl⟩:=cC h;exact cz.still hR (entryV_run hR h1 (hF.eval x))
 case panic x=>split at h<;>cases h
 case typeAssert x xt t ok=>
  obtain⟨h1,rfl⟩:=cC h;exact cz.still hR (FK aC h1 (hF.eval x))
 case extract x i=>
  split at h
  .rename_i vs he;obtain⟨h1,rfl⟩:=cC h;have hx:=hF.eval x;rw[he]at hx;simp only[ah]at hx;obtain⟨arr,e,hl⟩:=hx;rw[iw]at h1;obtain⟨y,hy,oD⟩:=hl.get h1;refine cz.still hR ⟨y,?_,oD⟩;have hy':arr[i]?=some y:=by rw[<-Array.getElem?_toList];exact hy
   simp only[Instr.extract,e,hy',Sem.run_pure]
  .cases h
 case call c=>
  obtain⟨callee,as,mr⟩:=c;cases callee with
  |value f=>
   simp only[]at h;unfold ot at h;split at h
   .rename_i g first captured he
    cases hxt:cx.exts.get g with
    |none=>rw[hxt]at h;cases h
    |some xt=>
     rw[hxt]at h;have h1:=fA h;have hf:=hF.eval f;rw[he]at hf;simp only[ah]at hf;obtain⟨p,q,e,hp,hq⟩:=hf;simp only[bz]at h1;obtain⟨z,ρ2,w2,r1,r2,r3,r4⟩:=extM_run hR aC hxt h1 (args:=p++as.map a.eval++q) (by
      simp only[Array.toList_append,List.append_assoc];exact hp.append ((lK hF as).append hq))
     refine⟨.value z,z,ρ2,w2,?_,rfl,r2,r3,r4⟩;have hex:execOp a.eval ⟨dst,.call ⟨.value f,as,mr⟩,ty,pos,after,guard⟩=callFunc g (p++as.map a.eval++q):=by
      simp only[execOp,resolve,e,Deferred.ofValue];rfl
     rw[hex];exact r1
   .cases h
   .cases h
  |invoke r m=>cases h
  |builtin b=>
   simp only[]at h;have dz:=lK hF as;have hex:execOp a.eval ⟨dst,.call ⟨.builtin b,as,mr⟩,ty,pos,after,guard⟩=builtin b mr ty (as.map fun | .const _=>true|_=>false) (as.map a.eval):=by
    simp only[execOp,resolve];rfl
   rw[hex];unfold bg at h;split at h
   .rename_i t ts' x xs ht ha;split at h
    .rename_i n hn;rw[aN]at h;cases h;rw[ha]at dz;simp only[au]at dz;obtain⟨y,ys,hy,oD,_⟩:=dz;have h0:(as.map a.eval)[0]?=some y:=by rw[<-Array.getElem?_toList,hy];rfl
     have t0:mr[0]?=some t:=by rw[<-Array.getElem?_toList,ht];rfl
     exact cz.still hR ⟨goInt n,lenV_run aC hR hn t0 h0 oD,by simp[ah,goInt]⟩
    .cases h
   .rename_i t ts' x xs ht ha;have t0:mr[0]?=some t:=by rw[<-Array.getElem?_toList,ht];rfl
    rw[ha]at dz;simp only[au]at dz;obtain⟨y,ys,hy,oD,_⟩:=dz;have h0:(as.map a.eval)[0]?=some y:=by rw[<-Array.getElem?_toList,hy];rfl
    have mk:∀(n:Nat),(Builtin.cap_ mr ty (as.map a.eval)).run P w=.ok (goInt n) w->cz Λ P ρ S w (builtin .cap mr ty (as.map fun | .const _=>true|_=>false) (as.map a.eval)) (.int .i64 (.ofNat n)) S:=
     fun n hr=>cz.still hR ⟨goInt n,hr,by simp[ah,goInt]⟩
    split at h
    .rename_i e hu;cases h;simp only[ah]at oD;refine mk 0 ?_;unfold Builtin.cap_;simp only[t0,h0,Sem.run_bind,aF aC hu,Result.andThen_ok,oD,Sem.run_pure]
    .rename_i e id g off len lim sz c hu;cases h;obtain⟨ad,c',e1,_,hc⟩:=gq oD;obtain rfl:=hc c rfl;refine mk c' ?_;unfold Builtin.cap_;simp only[t0,h0,Sem.run_bind,aF aC hu,Result.andThen_ok,e1,Sem.run_pure]
    .rename_i n e hu;cases h;refine mk n ?_;unfold Builtin.cap_;simp only[t0,h0,Sem.run_bind,aF aC hu,Result.andThen_ok];cases y<;>rfl
    .cases h
   .rename_i t u ts' sA xA ht ha;have t0:mr[0]?=some t:=by rw[<-Array.getElem?_toList,ht];rfl
    have t1:mr[1]?=some u:=by rw[<-Array.getElem?_toList,ht];rfl
    rw[ha]at dz;simp only[au]at dz;obtain⟨y,_,hy,oD,y2,_,rfl,BI,rfl⟩:=dz;have hav:as.map a.eval=#[y,y2]:=Array.ext' (by rw[hy]);split at h
    .rename_i e ku hu rF;rw[hav];exact cz.sem (appZ_run aC hR (fA h) t0 t1 hu rF oD BI)
    .rename_i e du hnu hu rF;split at h
     .rename_i z bs hs hb;cases hz:j7 cx e (Nat.succ z)with
      |false=>simp[hz]at h
      |true=>
       simp only[hz,cond_true]at h;rw[hav];exact cz.sem (FM aC hR (fA h) t0 t1 hu rF hnu hs (Nat.succ_pos _) hb hz oD BI)
     .cases h
    .cases h
   .rename_i t ts' dA xA ht ha;have t0:mr[0]?=some t:=by rw[<-Array.getElem?_toList,ht];rfl
    rw[ha]at dz;simp only[au]at dz;obtain⟨y,_,hy,oD,y2,_,rfl,BI,rfl⟩:=dz;have hav:as.map a.eval=#[y,y2]:=Array.ext' (by rw[hy]);split at h
    .rename_i e hu;split at h
     .rename_i z hs;rw[hav];exact cz.sem (copyV_run aC hR (fA h) t0 hu hs oD BI)
     .cases h
    .cases h
   .rename_i ha;cases h;rw[ha]at dz;simp only[au]at dz;obtain⟨y,_,hy,oD,rfl⟩:=dz;have hav:as.map a.eval=#[y]:=Array.ext' (by rw[hy]);simp only[ah]at oD;subst oD;rw[hav];exact cz.still hR (s:=Builtin.unsafeSliceData_ mr ty #[.slice none 0 0]) ⟨.pointer none,Lib.run_unsafeSliceData_nil w mr ty 0 0,by simp[ah]⟩
   .rename_i id g off len lim sz cap ha;rw[gH]at h;by_cases hl:0<len
    .rw[decide_eq_true hl]at h;simp only[cond_true,AR.val.injEq]at h;obtain⟨rfl,rfl⟩:=h;rw[ha]at dz;simp only[au]at dz;obtain⟨y,_,hy,oD,rfl⟩:=dz;have hav:as.map a.eval=#[y]:=Array.ext' (by rw[hy]);simp only[ah]at oD;obtain⟨pl,c,p1,p2,p3,p4,p5,hh⟩:=oD;rcases hh with⟨rfl,_⟩|⟨e2,_⟩
     .rw[hav];exact cz.still hR (s:=Builtin.unsafeSliceData_ mr ty #[.slice (some ⟨pl.b,pl.base+off,none⟩) len c]) ⟨_,Lib.run_unsafeSliceData_row w mr ty _ len c (by omega),by simp only[ah];exact⟨pl,p1,p2,rfl⟩⟩
     .omega
    .rw[decide_eq_false hl]at h;cases h
   .rename_i t ts' p k n ht ha;have t0:mr[0]?=some t:=by rw[<-Array.getElem?_toList,ht];rfl
    rw[ha]at dz;simp only[au]at dz;obtain⟨y,_,hy,oD,y2,_,rfl,BI,rfl⟩:=dz;have hav:as.map a.eval=#[y,y2]:=Array.ext' (by rw[hy]);simp only[ah]at BI;subst BI;rw[hav];obtain⟨z,w',r1,r2,r3,r4⟩:=ustrV_run (P:=P) (ty:=ty) (k:=k) aC hR (fA h) t0 oD;exact cz.sem (s:=Builtin.unsafeString_ mr ty #[y,.int k (.ofNat n)]) ⟨z,ρ,w',r1,r2,r3,r4⟩
   .rename_i t ts' x k ht ha;have t0:mr[0]?=some t:=by rw[<-Array.getElem?_toList,ht];rfl
    rw[ha]at dz;simp only[au]at dz;obtain⟨y,_,hy,oD,y2,_,rfl,BI,rfl⟩:=dz;have hav:as.map a.eval=#[y,y2]:=Array.ext' (by rw[hy]);rw[hav];obtain⟨w',r1,rfl,r3,r4⟩:=Fc (P:=P) (ty:=ty) aC hR (fA h) t0 oD BI;exact cz.sem (s:=Builtin.delete_ mr ty #[y,y2]) ⟨undef,ρ,w',r1,ez ρ,r3,r4⟩
   .rename_i t ts' x ht ha;have t0:mr[0]?=some t:=by rw[<-Array.getElem?_toList,ht];rfl
    rw[ha]at dz;simp only[au]at dz;obtain⟨y,_,hy,oD,rfl⟩:=dz;have hav:as.map a.eval=#[y]:=Array.ext' (by rw[hy]);rw[hav];obtain⟨w',r1,rfl,r3,r4⟩:=clearV_run (P:=P) (ty:=ty) aC hR (fA h) t0 oD;exact cz.sem (s:=Builtin.clear_ mr ty #[y]) ⟨undef,ρ,w',r1,ez ρ,r3,r4⟩
   .rename_i k n l ha;obtain⟨h1,rfl⟩:=cC h;rw[ha]at dz;simp only[au]at dz;obtain⟨y,ys,hy,oD,hys⟩:=dz;simp only[ah]at oD;subst oD;obtain⟨z,r1,r2⟩:=Aj (P:=P) false l ρ k n v ys (by simpa using h1) hys w;refine cz.still hR ⟨z,?_,r2⟩;simp only[Builtin.min_,hy];simpa using r1
   .rename_i k n l ha;obtain⟨h1,rfl⟩:=cC h;rw[ha]at dz;simp only[au]at dz;obtain⟨y,ys,hy,oD,hys⟩:=dz;simp only[ah]at oD;subst oD;obtain⟨z,r1,r2⟩:=Aj (P:=P) true l ρ k n v ys (by simpa using h1) hys w;refine cz.still hR ⟨z,?_,r2⟩;simp only[Builtin.max_,hy];simpa using r1
   .cases h
def jA:AR->Bool
 | .val ..=>true
 | .err _=>true
 |_=>false
theorem iu(v:Option AV)(S:AS)(n:Nat):jA (val? v S n)=true:=by cases v<;>rfl
theorem dy(v:Option (AV×AS))(n:Nat):jA (dN v n)=true:=by cases v<;>rfl
theorem D7(r:Option (AV×dr))(S:AS)(n:Nat):jA (gJ r S n)=true:=by cases r<;>rfl
theorem dO{c:Bool}{a b:AR}(ha:jA a=true)(hb:jA b=true):jA (cond c a b)=true:=by cases c<;>assumption
theorem yH(cx:Cx)(S:AS)(b:Builtin)(ts:List TypeId)(as:List AV):jA (bg cx S b ts as)=true:=by
 unfold bg;split
 .split<;>rfl
 .split<;>rfl
 .split
  .exact dy _ _
  .split
   .exact dO (dy _ _) rfl
   .rfl
  .rfl
 .split
  .split
   .exact dy _ _
   .rfl
  .rfl
 .rfl
 .exact dO rfl rfl
 .exact dy _ _
 .exact dy _ _
 .exact dy _ _
 .exact iu _ _ _
 .exact iu _ _ _
 .rfl
theorem aop_plain{cx:Cx}{F:Fr}{S:AS}{o:Oper}(h1:∀f args mr,o.op≠.call ⟨.value f,args,mr⟩)(h2:∀x s,o.op≠.next x s)(h3:∀x,o.op≠.panic x):jA (bj cx F S o)=true:=by
 obtain⟨dst,op,ty,pos,after,guard⟩:=o;cases op<;>simp only[bj]<;>(try rfl)<;>(try exact iu _ _ _)<;>(try exact dy _ _)<;>(try exact D7 _ _ _)
 case pick c x y=>split<;>rfl
 case load t x=>
  split
  .split
   .split
    .split<;>rfl
    .rfl
   .split<;>rfl
   .rfl
  .split
   .exact iu _ _ _
   .rfl
  .rfl
 case store t x y=>
  split
  .exact dO (by split<;>rfl) rfl
  .rfl
 case nilCheck x=>split<;>rfl
 case convert src dst x=>
  split
  .rfl
  .rfl
  .split<;>rfl
  .split
   .rfl
   .split
    .rfl
    .split
     .split<;>rfl
     .rfl
   .rfl
  .refine dO ?_ rfl;split
   .exact dO rfl rfl
   .rfl
  .split
   .exact dO rfl rfl
   .rfl
  .split
   .exact dO rfl rfl
   .rfl
  .rfl
 case makeInterface t x=>split<;>rfl
 case fieldAddr s x g=>
  split
  .split
   .split<;>rfl
   .rfl
  .rfl
 case field t x g=>
  split
  .split
   .exact iu _ _ _
   .rfl
  .rfl
 case indexAddr t x ix=>
  split
  .split
   .exact dO rfl rfl
   .rfl
  .split
   .exact dO rfl rfl
   .rfl
  .split
   .exact dO rfl rfl
   .rfl
  .rfl
 case index t x ix=>
  split
  .split<;>rfl
  .split
   .exact dO (iu _ _ _) rfl
   .rfl
  .rfl
 case panic x=>exact absurd rfl (h3 x)
 case extract x i=>
  split
  .exact iu _ _ _
  .rfl
 case call c=>
  obtain⟨callee,xs,mr⟩:=c;cases callee with
  |value f=>exact absurd rfl (h1 f xs mr)
  |invoke r m=>rfl
  |builtin b=>exact yH _ _ _ _ _
theorem tl{cx:Cx}{F:Fr}{S:AS}{o:Oper}(h:jA (bj cx F S o)=false):
  (∃f args mr,o.op=.call ⟨.value f,args,mr⟩)\/(∃x s,o.op=.next x s)\/∃x,o.op=.panic x:=by
 by_cases h1:∃f args mr,o.op=.call ⟨.value f,args,mr⟩
 .exact .inl h1
 by_cases h2:∃x s,o.op=.next x s
 .exact .inr (.inl h2)
 by_cases h3:∃x,o.op=.panic x
 .exact .inr (.inr h3)
 rw[aop_plain (fun f a b e=>h1 ⟨f,a,b,e⟩) (fun x s e=>h2 ⟨x,s,e⟩) (fun x e=>h3 ⟨x,e⟩)]at h;cases h
theorem FQ{P:Program}{cx:Cx}{ρ:aO}{F:Fr}{S:AS}{w:World}{a:Act}(hR:R Λ ρ S w)(hF:dT ρ F a){o:Oper}{l:List (AV×AS)}
  (h:bj cx F S o=.many l) (cS:l≠[]):∃r,r∈l/\cz Λ P ρ S w (execOp a.eval o) r.1 r.2:=by
 obtain⟨dst,op,ty,pos,after,guard⟩:=o;rcases tl (by rw[h];rfl)with⟨f,xs,mr,rfl⟩|⟨x,s,rfl⟩|⟨x,rfl⟩
 .simp only[bj]at h;unfold ot at h;split at h
  .split at h
   .exact absurd (dy _ _) (by rw[h];simp[jA])
   .cases h
  .cases h
  .cases h
 .simp only[bj]at h;obtain⟨r,hr,hs⟩:=nextV_many (P:=P) (ty:=ty) hR h cS (hF.eval x);exact⟨r,hr,cz.sem hs⟩
 .simp only[bj]at h;split at h<;>cases h
theorem wR{S S':AS}{x:AV}{s:Bool}:(∀f as,sG S x s≠.enter f as S')/\(∀i as,sG S x s≠.round i as S')/\(∀v,sG S x s≠.dP v S'):=by
 unfold sG;exact⟨fun f as h=>by (cases h),fun i as h=>by (cases h),fun v h=>by (cases h)⟩
theorem aop_pan{P:Program}{cx:Cx}{ρ:aO}{F:Fr}{S S':AS}{w:World}{a:Act}(hF:dT ρ F a){o:Oper}{v:AV}
  (h:bj cx F S o=.dP v S'):S'=S/\(∃x,o.op=.panic x)/\∃x,(execOp a.eval o).run P w=.halt (.panic x) w/\ah ρ v x:=by
 obtain⟨dst,op,ty,pos,after,guard⟩:=o;rcases tl (by rw[h];rfl)with⟨f,xs,mr,rfl⟩|⟨x,s,rfl⟩|⟨x,rfl⟩
 .simp only[bj]at h;unfold ot at h;split at h
  .split at h
   .exact absurd (dy _ _) (by rw[h];simp[jA])
   .cases h
  .cases h
  .cases h
 .simp only[bj]at h;exact absurd h (wR.2.2 v)
 .simp only[bj]at h;split at h
  .rename_i t u he;cases h;have hx:=hF.eval x;rw[he]at hx;refine⟨rfl,⟨x,rfl⟩,a.eval x,?_,hx⟩;obtain⟨y,e,_⟩:=(by simpa only[ah]using hx:∃y,a.eval x=.iface t y/\ah ρ u y)
   simp only[execOp,e,Instr.panic,goPanic,Sem.run_bind];rfl
  .cases h
theorem aop_enter{P:Program}{cx:Cx}{ρ:aO}{F:Fr}{S S':AS}{a:Act}(hF:dT ρ F a){o:Oper}{f:FuncId}{as:List AV}
  (h:bj cx F S o=.enter f as S'):S'=S/\∃args,(∀w:World,(execOp a.eval o).run P w=(callFunc f args).run P w)/\au ρ as args.toList:=by
 obtain⟨dst,op,ty,pos,after,guard⟩:=o;rcases tl (by rw[h];rfl)with⟨fx,xs,mr,rfl⟩|⟨x,s,rfl⟩|⟨x,rfl⟩
 .simp only[bj]at h;unfold ot at h;split at h
  .rename_i g first captured he
   cases hxt:cx.exts.get g with
   |some xt=>
    rw[hxt]at h;simp only[]at h;exact absurd (dy _ _) (by rw[h];simp[jA])
   |none=>
    rw[hxt]at h;simp only[AR.enter.injEq,bz]at h;obtain⟨rfl,rfl,rfl⟩:=h;have hf:=hF.eval fx;rw[he]at hf;simp only[ah]at hf;obtain⟨p,q,e,hp,hq⟩:=hf;refine⟨rfl,p++xs.map a.eval++q,fun w=>?_,?_⟩
    .simp only[execOp,resolve,e,Deferred.ofValue];rfl
    .simp only[Array.toList_append,List.append_assoc];exact hp.append ((lK hF xs).append hq)
  .cases h
  .cases h
 .simp only[bj]at h;exact absurd h (wR.1 f as)
 .simp only[bj]at h;split at h<;>cases h
theorem aop_round{P:Program}{cx:Cx}{ρ:aO}{F:Fr}{S S':AS}{a:Act}(hF:dT ρ F a){o:Oper}{id:Nat}{as:List AV}
  (h:bj cx F S o=.round id as S'):S'=S/\∃pl args,ρ id 0=some pl/\(∀w:World,(execOp a.eval o).run P w=(Instr.yield pl.b args).run P w)/\au ρ as args.toList:=by
 obtain⟨dst,op,ty,pos,after,guard⟩:=o;rcases tl (by rw[h];rfl)with⟨fx,xs,mr,rfl⟩|⟨x,s,rfl⟩|⟨x,rfl⟩
 .simp only[bj]at h;unfold ot at h;split at h
  .split at h
   .exact absurd (dy _ _) (by rw[h];simp[jA])
   .cases h
  .rename_i i he;cases h;have hf:=hF.eval fx;rw[he]at hf;simp only[ah]at hf;obtain⟨pl,p1,e⟩:=hf;refine⟨rfl,pl,xs.map a.eval,p1,fun w=>?_,lK hF xs⟩;simp only[OK.val]at e;simp only[execOp,resolve,e,Deferred.ofValue,invoke,Sem.run_bind,Sem.run_pure,Result.andThen_ok,Array.empty_append]
  .cases h
 .simp only[bj]at h;exact absurd h (wR.2.1 id as)
 .simp only[bj]at h;split at h<;>cases h
end Go.Am
