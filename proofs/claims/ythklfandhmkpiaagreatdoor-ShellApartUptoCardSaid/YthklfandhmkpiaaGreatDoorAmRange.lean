/-
  The abstract machine against the model: entries by their stamps, iterators.
-/
import Derived.Test.YthklfandhmkpiaaGreatDoorAmMore
import Derived.Laws.BytesString
import Derived.Laws.BytesArg
open Go.Result renaming andThen_ok->zza
open Array renaming getElem?_toList->zzb,ext'->zzg,toList_append->zzh,getElem?_modify->zzq
open Go.Sem renaming run_bind->zzc,run_pure->zzd
open Bool renaming and_eq_true->zze
open Option.some renaming injEq->zzf
open List renaming getElem?_eq_getElem->zzi,getElem?_eq_none->zzk,map_map->zzl,filter_cons_of_pos->zzn,filter_cons_of_neg->zzo
open Nat renaming succ_ne_zero->zzj,mod_eq_of_lt->zzm,add_assoc->zzp
set_option linter.unusedVariables false
set_option linter.unusedSimpArgs false
namespace Go.Am
open Go
variable{Λ:LB}
theorem fp.nil{ρ:bf}:fp ρ [] []:=⟨rfl,fun i e m h=>by simp at h⟩
theorem fp.cons{ρ:bf}{e:jo}{m:MapEntry}{es:List jo}{ms:List MapEntry}(h:aq ρ e.key m.key/\aq ρ e.val m.val/\e.born=m.born)(t:fp ρ es ms):fp ρ (e::es) (m::ms):=by
 refine⟨by simp[t.1],fun i x y hx hy=>?_⟩;cases i with
 |zero=>simp at hx hy;subst hx hy;exact h
 |succ i=>exact t.2 i x y (by simpa using hx) (by simpa using hy)
theorem fp.Fc{ρ:bf}{e:jo}{es:List jo}{l:List MapEntry}(h:fp ρ (e::es) l):∃m ms,l=m::ms/\(aq ρ e.key m.key/\aq ρ e.val m.val/\e.born=m.born)/\fp ρ es ms:=by
 obtain⟨h1,h2⟩:=h;cases l with
 |nil=>simp at h1
 |cons m ms=>exact⟨m,ms,rfl,h2 0 e m rfl rfl,by simpa using h1,fun i x y hx hy=>h2 (i+1) x y (by simpa using hx) (by simpa using hy)⟩
theorem fp.empty{ρ:bf}{l:List MapEntry}(h:fp ρ [] l):l=[]:=by
 obtain⟨h1,_⟩:=h;cases l with
 |nil=>rfl
 |cons m ms=>simp at h1
theorem fp.filter{ρ:bf}{p:jo->Bool}{q:MapEntry->Bool}(hpq:∀e m,e.born=m.born->p e=q m):∀{es:List jo}{ms:List MapEntry},fp ρ es ms->fp ρ (es.filter p) (ms.filter q)
 |[],ms,h=>by rw[h.empty];exact .nil
 |e::es,l,h=>by
  obtain⟨m,ms,rfl,h1,h2⟩:=h.Fc;have ih:=fp.filter hpq h2;have hb:=hpq e m h1.2.2;cases hp:p e with
  |true=>rw[zzn hp,zzn (by rw[<-hb];exact hp)];exact .cons h1 ih
  |false=>rw[zzo (by simp[hp]),zzo (by rw[<-hb,hp];simp)];exact ih
theorem fp.append{ρ:bf}:∀{es:List jo}{ms:List MapEntry}{es':List jo}{ms':List MapEntry},fp ρ es ms->fp ρ es' ms'->fp ρ (es++es') (ms++ms')
 |[],ms,es',ms',h,h'=>by rw[h.empty];simpa using h'
 |e::es,l,es',ms',h,h'=>by
  obtain⟨m,ms,rfl,h1,h2⟩:=h.Fc;exact .cons h1 (fp.append h2 h')
theorem fp.all{ρ:bf}{p:jo->Bool}{q:MapEntry->Bool}(hpq:∀e m,e.born=m.born->p e=q m):∀{es:List jo}{ms:List MapEntry},fp ρ es ms->es.all p=ms.all q
 |[],ms,h=>by rw[h.empty];rfl
 |e::es,l,h=>by
  obtain⟨m,ms,rfl,h1,h2⟩:=h.Fc;simp only[List.all_cons,hpq e m h1.2.2,fp.all hpq h2]
theorem fp.get{ρ:bf}{es:List jo}{ms:List MapEntry}(h:fp ρ es ms){i:Nat}{m:MapEntry}(hm:ms[i]?=some m):∃e,es[i]?=some e/\aq ρ e.key m.key/\aq ρ e.val m.val/\e.born=m.born:=by
 have hi:i<es.length:=by
  rw[h.1];rcases Nat.lt_or_ge i ms.length with h1|h1
  .exact h1
  .rw[zzk h1]at hm;cases hm
 exact⟨es[i],zzi hi,h.2 i _ m (zzi hi) hm⟩
theorem fp.set{ρ:bf}{es:List jo}{ES:Array MapEntry}(h:fp ρ es ES.toList){j:Nat}{e:jo}(hj:j<es.length){f:MapEntry->MapEntry}
  (hf:∀m,ES.toList[j]?=some m->aq ρ e.key (f m).key/\aq ρ e.val (f m).val/\e.born=(f m).born):fp ρ (es.set j e) (ES.modify j f).toList:=by
 refine⟨by simpa using h.1,fun i x y hx hy=>?_⟩;rw[zzb,zzq]at hy;by_cases sx:j=i
 .subst sx;rw[List.getElem?_set_self hj]at hx;cases hx;rw[if_pos rfl,<-zzb]at hy;cases hm:ES.toList[j]? with
  |none=>rw[hm]at hy;cases hy
  |some m=>rw[hm]at hy;cases hy;exact hf m hm
 .rw[List.getElem?_set_ne sx]at hx;rw[if_neg sx,<-zzb]at hy;exact h.2 i x y hx hy
theorem fp.push{ρ:bf}{es:List jo}{ES:Array MapEntry}(h:fp ρ es ES.toList){e:jo}{m:MapEntry}(hm:aq ρ e.key m.key/\aq ρ e.val m.val/\e.born=m.born):fp ρ (es++[e]) (ES.push m).toList:=by
 rw[Array.toList_push];exact h.append (.cons hm .nil)
theorem DX{P:Program}{cx:Cx}(aI:cU Λ P cx){ρ:bf}{S S':AS}{w:World}(hR:R Λ ρ S w){t:TypeId}{x k u:AV}{x' k':Value}
  (h:uo cx S t x k=some (u,S')) (hx:aq ρ x x') (hk:aq ρ k k'):pR Λ P ρ S w (Instr.mapEntry t x' k') u S':=by
 unfold uo at h;cases h
theorem DW{P:Program}{ρ:bf}{S S':AS}{w:World}(hR:R Λ ρ S w){t:TypeId}{x k v u:AV}{x' k' v':Value}
  (h:um S x k v=some (u,S')) (hx:aq ρ x x') (hk:aq ρ k k') (hv:aq ρ v v') :
  ∃w',(Instr.entryStore t x' k' v').run P w=.ok () w'/\u=.undef/\R Λ ρ S' w'/\Kp ρ S w ρ S' w':=by
 unfold um at h;cases h
theorem FH{P:Program}{cx:Cx}(aI:cU Λ P cx){ρ:bf}{S S':AS}{w:World}(hR:R Λ ρ S w){t:TypeId}{x u:AV}{x':Value}
  (h:Ar cx S t x=some (u,S')) (hx:aq ρ x x'):pR Λ P ρ S w (Instr.range t x') u S':=by
 unfold Ar at h;cases h
theorem nextV_val{P:Program}{ρ:bf}{S S':AS}{w:World}(hR:R Λ ρ S w){x u:AV}{x':Value}{str:Bool}{ty:TypeId}(h:pG S x str=.val u S')(hx:aq ρ x x'):
  pR Λ P ρ S w (Instr.next x' str ty) u S':=by
 unfold pG at h;cases h
theorem nextV_many{P:Program}{ρ:bf}{S:AS}{w:World}(hR:R Λ ρ S w){x:AV}{x':Value}{str:Bool}{ty:TypeId}{l:List (AV×AS)}(h:pG S x str=.many l)(cl:l≠[])(hx:aq ρ x x'):
  ∃r,r∈l/\pR Λ P ρ S w (Instr.next x' str ty) r.1 r.2:=by
 unfold pG at h;cases h
theorem entryV_run{P:Program}{ρ:bf}{S:AS}{w:World}(hR:R Λ ρ S w){x u:AV}{x':Value}(h:Bc S x=some u)(hx:aq ρ x x'):
  ∃z,(Instr.entry x').run P w=.ok z w/\aq ρ u z:=by
 unfold Bc at h;cases h
end Go.Am
namespace Go.Am
open Go
variable{Λ:LB}
def cB(Λ:LB)(P:Program)(ρ:bf)(S:AS)(w:World)(s:Sem Next)(v:AV)(S':AS):Prop:=
 ∃nx x ρ' w',s.run P w=.ok nx w'/\Ax nx=some x/\aq ρ' v x/\R Λ ρ' S' w'/\Kp ρ S w ρ' S' w'
theorem cB.EN{P:Program}{ρ:bf}{S S':AS}{w:World}{s:Sem Value}{v:AV}(h:pR Λ P ρ S w s v S'):cB Λ P ρ S w (do pure (.value (<-s))) v S':=by
 obtain⟨x,ρ',w',r1,r2,r3,r4⟩:=h;exact⟨.value x,x,ρ',w',by simp only[zzc,r1,zza,zzd],rfl,r2,r3,r4⟩
theorem cB.still{P:Program}{ρ:bf}{S:AS}{w:World}{s:Sem Value}{v:AV}(hR:R Λ ρ S w)(h:∃z,s.run P w=.ok z w/\aq ρ v z):cB Λ P ρ S w (do pure (.value (<-s))) v S:=by
 obtain⟨z,r1,r2⟩:=h;exact cB.EN ⟨z,ρ,w,r1,r2,hR,Kp.refl _ _ _⟩
theorem cB.val{P:Program}{ρ:bf}{S:AS}{w:World}{x:Value}{v:AV}(hR:R Λ ρ S w)(h:aq ρ v x):cB Λ P ρ S w (pure (.value x)) v S:=
 ⟨.value x,x,ρ,w,rfl,rfl,h,hR,Kp.refl _ _ _⟩
theorem cC{v:Option AV}{S S':AS}{n:Nat}{u:AV}(h:val? v S n=.val u S'):v=some u/\S'=S:=by
 cases v with
 |none=>simp[val?]at h
 |some x=>simp only[val?,AR.val.injEq]at h;exact⟨by rw[h.1],h.2.symm⟩
theorem ft{v:Option (AV×AS)}{S':AS}{n:Nat}{u:AV}(h:dO v n=.val u S'):v=some (u,S'):=by
 cases v with
 |none=>simp[dO]at h
 |some x=>obtain⟨a,b⟩:=x;simp only[dO,AR.val.injEq]at h;rw[h.1,h.2]
theorem Ej{ρ:bf}{x:AV}{v:Value}{b:Bool}(h:x=.bool b)(hv:aq ρ x v):v=.bool b:=by subst h;simpa[aq]using hv
theorem load_var{P:Program}{cx:Cx}(aI:cU Λ P cx){ρ:bf}{S:AS}{w:World}(hR:R Λ ρ S w){t:TypeId}{id g off aM:Nat}{x':Value}(hx:aq ρ (.ptr id g off aM) x'):
  (∀n cs,aX cx t=some true->aH cx t=some n->rd S id g off n aM=some cs->∃z,(Instr.loadAt t x').run P w=.ok z w/\aq ρ (.agg cs) z) /\
  (∀v,aX cx t=some false->rd S id g off 1 aM=some [v]->∃z,(Instr.loadAt t x').run P w=.ok z w/\aq ρ v z):=by
 simp only[aq]at hx;obtain⟨pl,p1,p2,rfl⟩:=hx;constructor
 .intro n cs ha hs hr;obtain⟨arr,q1,q2,q3,q4,_⟩:=jd (P:=P) hR hr p1 p2;exact⟨.agg arr,by simp only[Instr.loadAt,Instr.sureAddr,loadVar,zzc,zzd,zza,kS aI ha,if_true,ef aI hs,q1],by simp only[aq];exact⟨arr,rfl,q3,q4⟩⟩
 .intro v ha hr;obtain⟨arr,q1,q2,q3,q4,q5,q6⟩:=jd (P:=P) hR hr p1 p2;obtain⟨z,hz,hz2⟩:=q6 0 (by omega);refine⟨z,?_,?_⟩
  .simp only[Nat.add_zero]at hz;simp only[Instr.loadAt,Instr.sureAddr,loadVar,zzc,zzd,zza,kS aI ha,Bool.false_eq_true,if_false,run_load,hz]
  .obtain⟨y,hy,ij⟩:=q3.get (i:=0) (x:=v) rfl;rw[hz2]at hy;cases hy;exact ij
theorem v9:∀(cs:List AV)(l:List Nat)(arr:List Value)(ρ:bf),oE cs=some l->aD ρ cs arr ->
  arr=(l.map Int.ofNat).map (Value.int .u8)/\∀n,n∈l->n<256:=by
 intro cs
 induction cs with
 |nil=>intro l arr ρ h hr;simp only[aD]at hr;have h':some []=some l:=h;cases h';exact⟨hr,fun n hn=>by cases hn⟩
 |cons c cs ih=>
  intro l arr ρ h hr;simp only[aD]at hr;obtain⟨y,ys,rfl,hy,hys⟩:=hr;have h':pj c (oE cs)=some l:=h;unfold pj at h';split at h'
  .rename_i n l' pM;rw[gJ]at h';by_cases hn:n<256
   .rw[decide_eq_true hn]at h';simp only[cond_true,zzf]at h';subst h';obtain⟨i1,i2⟩:=ih l' ys ρ pM hys;simp only[aq]at hy;rw[i1,hy];exact⟨rfl,fun m hm=>by cases hm with|head=>exact hn|tail _ h=>exact i2 m h⟩
   .rw[decide_eq_false hn]at h';cases h'
  .cases h'
theorem Ad(l:List Nat)(h:∀n,n∈l->n<256):((l.map Int.ofNat).foldl (fun r n=>r.push (UInt8.ofNat n.toNat)) ByteArray.empty).data.toList.map UInt8.toNat=l:=by
 rw[foldl_push_bytes];simp only[zzl];have e:(ByteArray.empty.data++(l.map ((fun n:Int=>UInt8.ofNat n.toNat)∘Int.ofNat)).toArray).toList=l.map fun n=>UInt8.ofNat n:=by
  simp[Function.comp]
 rw[e,zzl];have:∀n,n∈l->(UInt8.toNat∘fun n=>UInt8.ofNat n) n=n:=fun n hn=>by
  simp only[Function.comp,UInt8.toNat_ofNat'];exact zzm (h n hn)
 rw[List.map_congr_left this];simp
theorem s2b_run{P:Program}{ρ:bf}{S:AS}{w:World}(hR:R Λ ρ S w){e:TypeId}{b:ByteArray}{s:List Nat}(hb:b.data.toList.map UInt8.toNat=s):
  pR Λ P ρ S w (Conv.stringToBytes e b) (.slice S.nx 0 0 s.length s.length 1 none) ⟨S.h.set S.nx (.row (jt (fun n=>AV.int .u8 (.ofNat n)) s) 0 0 true e),Nat.succ S.nx⟩:=by
 let q:Question:=.appendCap b.size 0 e
 let c:=q.cut (w.tape w.drawn q)
 have BP:b.size<=c:=Nat.le_add_right _ _
 let C:Array Value:=b.data.map (fun x=>Value.int .u8 x.toNat)++Array.replicate (c-b.size) (.int .u8 0)
 have hCs:C.size=c:=by simp[C];have:b.data.size=b.size:=rfl;omega
 let w':World:={w with drawn:=w.drawn+1,heap:=w.heap.push (.cells C e (c,c+1))}
 have nf:=lU hb;have nh:jt (fun n=>AV.int .u8 (.ofNat n)) s=b.data.toList.map fun x=>AV.int .u8 (x.toNat:Int):=by
  rw[fZ,<-hb,zzl];rfl
 have hlen:(jt (fun n=>AV.int .u8 (.ofNat n)) s).length=s.length:=by rw[fZ];simp
 have hrel:Cells ρ (jt (fun n=>AV.int .u8 (.ofNat n)) s) (C.toList.take (jt (fun n=>AV.int .u8 (.ofNat n)) s).length):=by
  have e1:C.toList.take (jt (fun n=>AV.int .u8 (.ofNat n)) s).length=b.data.toList.map fun x=>Value.int .u8 (x.toNat:Int):=by
   rw[hlen,<-nf];simp only[C,zzh,Array.toList_map];rw[List.take_append_of_le_length (by simp),List.take_of_length_le (by simp)]
  rw[e1,nh];refine⟨aD.map _ _ (fun x=>by simp[aq]) _,fun x hx=>?_⟩;obtain⟨y,_,rfl⟩:=List.mem_map.1 hx;rfl
 have hgrew:iz (.cells C e (c,c+1)) w w':=⟨⟨rfl,rfl,rfl⟩,rfl⟩
 have hones:eu C:=by
  refine eu.of fun v hv=>?_;simp only[C,zzh,Array.toList_map,List.mem_append,List.mem_map,Array.toList_replicate,List.mem_replicate]at hv;rcases hv with⟨x,_,rfl⟩|hv
  .rfl
  .obtain⟨_,rfl⟩:=hv;rfl
 obtain⟨ρ',pl,p1,p2,p3,p4,p5,p6,p7⟩:=hR.newRowF (frz:=true) hgrew (fun h=>by cases h) hrel.1 (by rw[hlen,hCs];omega) hones;refine⟨.slice (some ⟨w.heap.size,0,none⟩) s.length c,ρ',w',?_,?_,p6,p7⟩
 .have hch:(choose (.appendCap b.size 0 e)).run P w=.ok c {w with drawn:=w.drawn+1}:=by rw[run_choose];rfl
  unfold Conv.stringToBytes;simp only[zzc,hch,zza,Go.newRow,run_newObj,zzd,markStringish,run_shape];have hsh:({w with drawn:=w.drawn+1,heap:=w.heap.push (.cells C e)}:World).shape? w.heap.size=some (e,c):=by
   simp[World.shape?,hCs]
  have hfz:({w with drawn:=w.drawn+1,heap:=w.heap.push (.cells C e)}:World).freeze {block:=w.heap.size,off:=c} 1=w':=by
   simp only[World.freeze,Nat.one_ne_zero,if_false,w'];congr 1;apply Array.ext_getElem?;intro i;rw[zzq];by_cases hi:w.heap.size=i
   .subst hi;simp
   .rw[if_neg hi,Array.getElem?_push,Array.getElem?_push,if_neg (Ne.symm hi),if_neg (Ne.symm hi)]
  simp only[C]at hsh hfz;rw[hsh];simp only[run_freeze,zza];rw[hfz,nf]
 .exact aq.fK pl c p1 (by rw[p4,hlen];exact Nat.le_refl _) (by omega) (by decide) (by omega) (.inl ⟨by rw[p2,p3],by rw[p3,p5,hCs];omega,fun k hk=>by cases hk⟩)
theorem vz{cx:Cx}{t:TypeId}{n:Nat}(h:aH cx t=some n):∃i,cx.jU.get t=some i/\i.size=n:=by
 unfold aH at h;cases hi:cx.jU.get t with
 |none=>simp[hi]at h
 |some i=>simp only[hi,zzf]at h;exact⟨i,rfl,h⟩
theorem bytes_str(l:List Nat)(h:∀n,n∈l->n<256):(l.map fun n=>UInt8.ofNat n).map UInt8.toNat=l:=by
 rw[zzl];have:∀n,n∈l->(UInt8.toNat∘fun n=>UInt8.ofNat n) n=n:=fun n hn=>by
  simp only[Function.comp,UInt8.toNat_ofNat'];exact zzm (h n hn)
 rw[List.map_congr_left this];simp
theorem ustr_def (ts : Array TypeId) (ty : TypeId) : ∃ m1 m2 m3 m4 m5 : String, ∀ (p : Option Addr) (len : Value), Builtin.unsafeString_ ts ty #[.pointer p, len] = (do
      let n <-asInt len
      let some pt:=ts[0]?|stuck m1
      if n<0 then runtimePanic (.error m2)
      if n > IntKind.i64.max then unsupported (.unsafePointer m3)
      match p with
      |none=>
       if n=0 then pure (.string .empty)
       else runtimePanic (.error m4)
      |some a=>
       if n=0 then pure (.string .empty)
       else if <-variablesAt a (<-elemOf pt) n.toNat then do
        let s <-loadBytes a .empty n.toNat
        freeze a n.toNat
        pure (.string s)
       else unsupported (.unsafePointer m5)):=⟨_,_,_,_,_,fun _ _=>rfl⟩
theorem ptr_shape{ρ:bf}{S:AS}{w:World}(hR:R Λ ρ S w){id g off aM:Nat}{cells:List AV}{low top:Nat}{frz:Bool}{ty:TypeId}(kV:S.h.get id=some (.row cells low top frz ty))
  (h1:low<=g) (h2:g<=top) {pl:Pl} (hp:ρ id g=some pl) (hl:aM<=pl.n) (ho:off<aM):∃N,w.shape? pl.b=some (ty,N)/\pl.base+off<N:=by
 obtain⟨_,h3,_⟩:=hR.ja id _ kV;obtain⟨dT,C,fr,g1,g2,g3,g4,g5,g6,g7,g8,g9⟩:=h3 g h1 h2;rw[hp]at g1;cases g1;exact⟨C.size,by simp[World.shape?,g2],by omega⟩
theorem ustrV_run{P:Program}{cx:Cx}(aI:cU Λ P cx){ρ:bf}{S S':AS}{w:World}(hR:R Λ ρ S w){ts:Array TypeId}{t ty:TypeId}{p v:AV}{p':Value}{n:Nat}{k:IntKind}
  (h:B6 cx S t p n=some (v,S')) (ht:ts[0]?=some t) (hp:aq ρ p p') :
  ∃z w',(Builtin.unsafeString_ ts ty #[p',.int k (.ofNat n)]).run P w=.ok z w'/\aq ρ v z/\R Λ ρ S' w'/\Kp ρ S w ρ S' w':=by
 have xg:IntKind.i64.max=9223372036854775807:=rfl;obtain⟨m1,m2,m3,m4,m5,ustr⟩:=ustr_def ts ty;unfold B6 at h;cases n with
 |zero=>
  simp only[]at h;cases p<;>simp only[reduceCtorEq]at h
  case cT=>
   cases h;simp only[aq]at hp;subst hp;refine⟨.string .empty,w,?_,by simp only[aq];exact⟨_,rfl,rfl⟩,hR,Kp.refl _ _ _⟩;rw[ustr];simp[asInt,asIntOf,ht,xg]
  case ptr id g off aM=>
   cases h;simp only[aq]at hp;obtain⟨pl,p1,p2,rfl⟩:=hp;refine⟨.string .empty,w,?_,by simp only[aq];exact⟨_,rfl,rfl⟩,hR,Kp.refl _ _ _⟩;rw[ustr];simp[asInt,asIntOf,ht,xg]
 |succ m=>
  simp only[]at h;split at h
  .rename_i e id g off aM hu;split at h
   .rename_i cells low top frz Cy hue hs kV;rw[bC,cG]at h;cases jQ:(decide (Cy=e)&&decide (m+1<=4611686018427387904)&&mY frz low)with
    |false=>rw[jQ]at h;cases h
    |true=>
     rw[jQ]at h;simp only[zze,decide_eq_true_eq]at jQ;obtain⟨⟨hte,h63'⟩,hmf⟩:=jQ;subst hte;simp only[cond_true]at h;cases hr:rd S id g off (m+1) aM with
     |none=>rw[hr]at h;cases h
     |some cs=>
      rw[hr]at h;simp only[]at h;cases hb:oE cs with
      |none=>rw[hb]at h;cases h
      |some l=>
       rw[hb]at h;simp only[zzf,Prod.mk.injEq]at h;obtain⟨rfl,rfl⟩:=h;simp only[aq]at hp;obtain⟨pl,p1,p2,rfl⟩:=hp;obtain⟨arr,q1,q2,q3,q4,q5,q6⟩:=jd (P:=P) hR hr p1 p2;obtain⟨b1,b2⟩:=v9 cs l arr.toList ρ hb q3;have AP:l.length=m+1:=by
        have:=congrArg List.length b1;simp at this;omega
       have vE:=hr;unfold rd at vE;rw[kV]at vE;simp only[cG,Nat.add_eq]at vE;cases sC:(decide (low<=g)&&decide (g<=top)&&decide (off+(m+1)<=aM))with
       |false=>rw[sC]at vE;cases vE
       |true=>
        simp only[zze,decide_eq_true_eq]at sC;obtain⟨⟨c1,c2⟩,c3⟩:=sC;obtain⟨_,h2,_⟩:=hR.ja id _ kV;obtain⟨dT,C,fr,g1,g2,g3,g4,g5,g6,g7,g8,g9⟩:=h2 g c1 c2;rw[p1]at g1;cases g1;have hsh:w.shape? pl.b=some (Cy,C.size):=by simp[World.shape?,g2]
        have pN:=fP aI hs
        let L:List UInt8:=l.map fun n=>UInt8.ofNat n
        have hLl:L.length=m+1:=by simp[L,AP]
        have hat:∀j x,L[j]?=some x->w.cell? ((⟨pl.b,pl.base+off,none⟩:Addr).add j)=some (.int .u8 x.toNat):=by
         intro j x hx;have hj:j<m+1:=by
          rcases Nat.lt_or_ge j (m+1)with h0|h0
          .exact h0
          .rw[zzk (by omega)]at hx;cases hx
         obtain⟨v,v1,v2⟩:=q6 j hj;rw[fw,v1,<-v2,b1];simp only[L,List.getElem?_map]at hx⊢;cases hlj:l[j]? with
         |none=>rw[hlj]at hx;cases hx
         |some y=>
          rw[hlj]at hx;simp only[Option.map_some,zzf]at hx⊢;subst hx;have:=b2 y (List.mem_of_getElem? hlj);simp only[UInt8.toNat_ofNat',zzm this];rfl
        have hlb:=Lib.run_loadBytes (P:=P) w L ⟨pl.b,pl.base+off,none⟩ .empty hat;have hlies:=liesAt_one (P:=P) pN C.size (pl.base+off) (m+1) (by omega);obtain⟨f1,f2⟩:=hR.freeze kV p1 (off:=pl.base+off) (zzj m) (yP hmf);refine⟨.string ⟨L.toArray⟩,_,?_,?_,f1,f2⟩
        .rw[hLl]at hlb;rw[ustr];have h63:¬((m:Int)+1 > 9223372036854775807):=by omega
         have xf:¬((m:Int)+1<0):=by omega
         have hz:¬((m:Int)+1=0):=by omega
         have htn:((m:Int)+1).toNat=m+1:=by omega
         simp only[asInt,asIntOf,zzc,zzd,zza,ht,xg,Int.ofNat_eq_natCast,Int.natCast_add,Int.cast_ofNat_Int,if_neg xf,if_neg h63,if_neg hz,htn];simp only[elemOf,aP aI hu,zzc,zzd,zza,variablesAt,run_program,run_shape,hsh];rw[pN,Nat.div_one,hlies];simp only[if_true,zzc,hlb,zza,run_freeze,zzd];simp
        .simp only[aq];exact⟨_,rfl,bytes_str l b2⟩
   .cases h
  .cases h
theorem zE{P:Program}{cx:Cx}(aI:cU Λ P cx){ρ:bf}{F:Fr}{S S':AS}{w:World}{a:Act}(hR:R Λ ρ S w)(hF:eA ρ F a){o:Oper}{v:AV}
  (h:bE cx F S o=.val v S'):cB Λ P ρ S w (execOp a.eval o) v S':=by
 obtain⟨dst,op,ty,pos,after,guard⟩:=o;have fr:∀n,eR (aO cx F S.nx op) S n=.val v S'->cB Λ P ρ S w (execOp a.eval ⟨dst,op,ty,pos,after,guard⟩) v S':=by
  intro n hh;cases hf:aO cx F S.nx op with
  |none=>simp[eR,hf]at hh
  |some vo=>
   obtain⟨u,obj⟩:=vo;simp only[eR,hf,AR.val.injEq]at hh;obtain⟨rfl,rfl⟩:=hh;obtain⟨s,e,hfo⟩:=zh (P:=P) aI hF (o:=⟨dst,op,ty,pos,after,guard⟩) hf w;rw[e];exact cB.EN (hfo.EN hR)
 cases op<;>simp only[bE,reduceCtorEq]at h
 case move x=>cases h;exact cB.val hR (hF.eval x)
 case assign x=>cases h;exact cB.val hR (hF.eval x)
 case pick c x y=>
  split at h
  .rename_i hc;cases h;have:=Ej hc (hF.eval c);exact⟨.value (a.eval x),a.eval x,ρ,w,by simp[execOp,this,asBool],rfl,hF.eval x,hR,Kp.refl _ _ _⟩
  .rename_i hc;cases h;have:=Ej hc (hF.eval c);exact⟨.value (a.eval y),a.eval y,ρ,w,by simp[execOp,this,asBool],rfl,hF.eval y,hR,Kp.refl _ _ _⟩
  .cases h
 case alloc e=>exact fr _ h
 case box t x=>exact fr _ h
 case buildSlice t n parts=>exact fr _ h
 case makeMap t r=>exact fr _ h
 case makeSlice t l c=>exact fr _ h
 case build t parts=>
  obtain⟨h1,rfl⟩:=cC h;exact cB.still hR (buildV_run aI hF h1 w)
 case load t x=>
  split at h
  .rename_i id g off aM he;have hx:=hF.eval x;rw[he]at hx;obtain⟨l1,l2⟩:=load_var (t:=t) aI hR hx;split at h
   .rename_i ha;split at h
    .rename_i n hs;split at h
     .rename_i cs hr;cases h;exact cB.still hR (l1 n cs ha hs hr)
     .cases h
    .cases h
   .rename_i ha;split at h
    .rename_i u hr;cases h;exact cB.still hR (l2 _ ha hr)
    .cases h
   .cases h
  .rename_i g off he;have hx:=hF.eval x;rw[he]at hx;simp only[aq]at hx;cases hg:cx.eZ.get g with
   |none=>rw[hg]at h;cases h
   |some cs=>
    rw[hg]at h;obtain⟨h1,rfl⟩:=cC h;have:=glob_load (P:=P) aI hR hg h1;rw[<-hx]at this;exact cB.still hR this
  .cases h
 case store t x y=>
  split at h
  .rename_i id g off aM cs n he hc hs;rw[bC,bL]at h;by_cases hn:cs.length=n
   .rw[decide_eq_true hn]at h;simp only[cond_true]at h;split at h
    .rename_i S1 Dp;cases h;have hx:=hF.eval x;rw[he]at hx;simp only[aq]at hx;obtain⟨pl,p1,p2,hxe⟩:=hx;have nh:=dX hc (hF.eval y);obtain⟨w',r1,r2,r3⟩:=rO (P:=P) hR Dp p1 p2 nh.1 nh.2;have nf:(a.eval y).cells.size=n:=by have:=nh.length;simp at this;omega
     refine⟨.skip,undef,ρ,w',?_,rfl,eE ρ,r2,r3⟩;simp only[execOp,Instr.storeAt,hxe,Instr.sureAddr,storeVar,zzc,zzd,zza,ef aI hs];rw[if_neg (by simp[nf])];simp only[r1,zza]
    .cases h
   .rw[decide_eq_false hn]at h;cases h
  .cases h
 case nilCheck x=>
  have hx:=hF.eval x;split at h<;>(try (cases h;done))<;>rename_i he<;>cases h<;>rw[he]at hx
  .obtain⟨pl,p1,p2,e⟩:=(by simpa only[aq]using hx:∃pl,_)
   have:execOp a.eval ⟨dst,.nilCheck x,ty,pos,after,guard⟩=pure (.value (a.eval x)):=by simp only[execOp,e]
   rw[this];exact cB.val hR hx
  .have e:=(by simpa only[aq]using hx:a.eval x=_)
   have:execOp a.eval ⟨dst,.nilCheck x,ty,pos,after,guard⟩=pure (.value (a.eval x)):=by simp only[execOp,e]
   rw[this];exact cB.val hR hx
  .obtain⟨p,q,e,_⟩:=(by simpa only[aq]using hx:∃p q,_)
   have:execOp a.eval ⟨dst,.nilCheck x,ty,pos,after,guard⟩=pure (.value (a.eval x)):=by simp only[execOp,e]
   rw[this];exact cB.val hR hx
  .obtain⟨p,q,e,_⟩:=fX hx;have:execOp a.eval ⟨dst,.nilCheck x,ty,pos,after,guard⟩=pure (.value (a.eval x)):=by simp only[execOp,e]
   rw[this];exact cB.val hR hx
  .obtain⟨p,q,e⟩:=(by simpa only[aq]using hx:∃p,_)
   have:execOp a.eval ⟨dst,.nilCheck x,ty,pos,after,guard⟩=pure (.value (a.eval x)):=by simp only[execOp,e]
   rw[this];exact cB.val hR hx
  .obtain⟨p,q,e⟩:=(by simpa only[aq]using hx:∃p,_)
   have:execOp a.eval ⟨dst,.nilCheck x,ty,pos,after,guard⟩=pure (.value (a.eval x)):=by simp only[execOp,e,OK.val]
   rw[this];exact cB.val hR hx
  .obtain⟨p,q,e⟩:=(by simpa only[aq]using hx:∃p,_)
   have:execOp a.eval ⟨dst,.nilCheck x,ty,pos,after,guard⟩=pure (.value (a.eval x)):=by simp only[execOp,e,OK.val]
   rw[this];exact cB.val hR hx
 case binOp op t x y yt=>
  obtain⟨h1,rfl⟩:=cC h;refine cB.still (s:=do eqGuard op t x y (a.eval x) (a.eval y);binOp op t (a.eval x) (a.eval y)) hR (binV_run aI h1 ?_ (hF.eval x) (hF.eval y) w);cases x<;>cases y<;>rfl
 case unOp op t x=>
  obtain⟨h1,rfl⟩:=cC h;exact cB.still hR (unV_run h1 (hF.eval x) w)
 case convert src dst x=>
  have hx:=hF.eval x;split at h
  .rename_i ds k k0 n qd nM he;cases h;rw[he]at hx;simp only[aq]at hx;refine cB.still hR ⟨.int k (k.wrap n),?_,by rw[iM];simp[aq]⟩;simp only[convert,zzc,aP aI qd,aP aI nM,zza,hx];rfl
  .rename_i ds s qd nM he;cases h;rw[he]at hx;have kJ:=hx;simp only[aq]at kJ;obtain⟨b,hb,_⟩:=kJ;refine cB.still hR ⟨a.eval x,?_,hx⟩;simp only[convert,zzc,aP aI qd,aP aI nM,zza,hb];rfl
  .rename_i ds e s qd nM he;split at h
   .rename_i hu3;cases h;rw[he]at hx;simp only[aq]at hx;obtain⟨b,hb,hbs⟩:=hx;refine cB.EN ?_;obtain⟨z,ρ',w',r1,r2,r3,r4⟩:=s2b_run (P:=P) (e:=e) hR hbs;refine⟨z,ρ',w',?_,r2,r3,r4⟩;simp only[convert,zzc,aP aI qd,aP aI nM,zza,hb];simp only[aP aI hu3,zza];exact r1
   .cases h
  .rename_i xx e qd nM hno;have hconv:∀(ad:Option Addr)(l c:Nat),bJ cx e=some (.int .u8)->(convert src dst (.slice ad l c)).run P w=(Conv.bytesToString (.slice ad l c)).run P w:=
    fun ad l c hu3=>run_convert_bytes_string w src dst e ad l c (cJ aI qd) (cJ aI hu3) (cJ aI nM)
   split at h
   .rename_i hu3 he;cases h;rw[he]at hx;simp only[aq]at hx;refine cB.still hR ⟨.string .empty,?_,by simp only[aq];exact⟨_,rfl,rfl⟩⟩;rw[hx,hconv _ _ _ hu3];rfl
   .rename_i id g off len aM cap hu3 he;rw[he]at hx;obtain⟨ad,c,e1,hlc,_⟩:=fX hx;cases len with
    |zero=>
     cases h;refine cB.still hR ⟨.string .empty,?_,by simp only[aq];exact⟨_,rfl,rfl⟩⟩;rw[e1,hconv _ _ _ hu3,run_bytesToString w ad 0 c [] rfl];rfl
    |succ l=>
     simp only[]at h;split at h
     .rename_i cs hr;split at h
      .rename_i bs hbs;cases h;simp only[aq]at hx;obtain⟨pl,c',p1,p2,p3,p4,p5,hh⟩:=hx;rcases hh with⟨e2,_⟩|⟨e2,_⟩
       .rw[e1]at e2;cases e2;obtain⟨arr,q1,q2,q3,q4,_⟩:=jd (P:=P) hR hr p1 p2;obtain⟨b1,b2⟩:=v9 cs bs arr.toList ρ hbs q3;have fG:arr=((bs.map Int.ofNat).map (Value.int .u8)).toArray:=zzg (by simpa using b1);rw[fG]at q1;refine cB.still hR ⟨.string ((bs.map Int.ofNat).foldl (fun r n=>r.push (UInt8.ofNat n.toNat)) ByteArray.empty),?_,?_⟩
        .rw[e1,hconv _ _ _ hu3];exact run_bytesToString w _ (l+1) c _ q1
        .simp only[aq];exact⟨_,rfl,Ad bs b2⟩
       .omega
      .cases h
     .cases h
   .cases h
  .rename_i e0 e id g off len aM sz cap qd nM he;rw[bC,gJ]at h;cases ni:(decide (src=dst)&&decide (0<len))with
   |false=>rw[ni]at h;cases h
   |true=>
   rw[ni]at h;simp only[cond_true]at h;simp only[zze,decide_eq_true_eq]at ni;obtain⟨hsd,hlen⟩:=ni;split at h
   .rename_i cells low top frz Cy hu3 kV;rw[cG,cG]at h;cases hc:(decide (low<=g)&&decide (g<=top)&&mY frz low)with
    |false=>rw[hc]at h;cases h
    |true=>
     rw[hc]at h;simp only[cond_true,AR.val.injEq]at h;obtain⟨rfl,rfl⟩:=h;simp only[zze,decide_eq_true_eq]at hc;obtain⟨hc,hmf⟩:=hc;rw[he]at hx;have kJ:=hx;simp only[aq]at kJ;obtain⟨pl,c,p1,p2,p3,p4,p5,hh⟩:=kJ;rcases hh with⟨e2,_⟩|⟨e2,_⟩
     .obtain⟨_,hgs,_⟩:=hR.ja id _ kV;obtain⟨dT,C,fr,g1,g2,_⟩:=hgs g hc.1 hc.2;rw[p1]at g1;cases g1;have hsh:w.shape? pl.b=some (Cy,C.size):=by simp[World.shape?,g2]
      obtain⟨t1,t2⟩:=hR.freeze (off:=C.size) (n:=1) kV p1 (by omega) (yP hmf);refine cB.EN ⟨a.eval x,ρ,_,?_,hx,t1,t2⟩;rw[e2];simp only[convert,zzc,aP aI qd,aP aI nM,zza];simp only[aP aI hu3,zza,hsd,beq_self_eq_true,markStringish,zzc,run_shape,hsh,run_freeze,zzd]
     .omega
   .cases h
  .rename_i e id g off aM qd nM he;split at h
   .rename_i z cells low top frz Cy hs kV;rw[gJ,cG,cG]at h;cases hc:(decide (off<aM)&&decide (low<=g)&&decide (g<=top))with
    |false=>rw[hc]at h;cases h
    |true=>
     rw[hc]at h;simp only[cond_true,AR.val.injEq]at h;obtain⟨rfl,rfl⟩:=h;simp only[zze,decide_eq_true_eq]at hc;obtain⟨⟨cR,hc1⟩,hc2⟩:=hc;rw[he]at hx;have kJ:=hx;simp only[aq]at kJ;obtain⟨pl,p1,p2,e1⟩:=kJ;obtain⟨N,hsh,hof⟩:=ptr_shape hR kV hc1 hc2 p1 p2 cR;refine cB.still hR ⟨a.eval x,?_,hx⟩;obtain⟨i,hi,hiz⟩:=vz hs;rw[e1];exact Lib.run_to_unsafe w ⟨pl.b,pl.base+off,none⟩ (cJ aI qd) (cJ aI nM) (aI.jU _ _ hi) (by rw[hiz];exact zzj _) hsh hof
   .cases h
  .rename_i u id g off aM qd nM he;split at h
   .rename_i z cells low top frz Cy hs kV;rw[bC,cG,bC]at h;cases hc:(decide (Cy=u)&&decide (Nat.succ z<=aM)&&decide (low=0))with
    |false=>rw[hc]at h;cases h
    |true=>
     rw[hc]at h;simp only[cond_true,AR.val.injEq]at h;obtain⟨rfl,rfl⟩:=h;simp only[zze,decide_eq_true_eq]at hc;obtain⟨⟨rfl,hzl⟩,rfl⟩:=hc;rw[he]at hx;have kJ:=hx;simp only[aq]at kJ;obtain⟨pl,p1,p2,e1⟩:=kJ;obtain⟨_,h2,_⟩:=hR.ja id _ kV;obtain⟨dT,C,fr,g1,g2,g3,g4,g5,g6,g7,g8,g9⟩:=h2 0 (Nat.le_refl _) (Nat.zero_le _);rw[p1]at g1;cases g1;obtain⟨i,hi,hiz⟩:=vz hs;have hsh:w.shape? pl.b=some (Cy,C.size):=by simp[World.shape?,g2]
     have pN:=fP aI hs;refine cB.still hR ⟨a.eval x,?_,hx⟩;rw[e1];refine Lib.run_from_unsafe w ⟨pl.b,pl.base+0,none⟩ (cJ aI qd) (cJ aI nM) (aI.jU _ _ hi) hsh ?_;rw[g9.1 rfl];refine Db pN (zzj _) _ ?_;rw[pN];exact (Nat.le_div_iff_mul_le (Nat.succ_pos _)).2 (by omega)
   .cases h
  .cases h
 case makeInterface t x=>
  split at h
  .cases h
  .rename_i d hu hd;cases h;refine cB.still hR ⟨.iface t (a.eval x),?_,by simp only[aq];exact⟨_,rfl,hF.eval x⟩⟩;simp only[Instr.makeInterface,zzc,aP aI hd,zza];cases d<;>first|rfl|exact absurd rfl (hu _)
  .cases h
 case makeFunc fn first captured=>
  cases h;refine cB.still hR ⟨.func fn (first.map a.eval) (captured.map a.eval),rfl,?_⟩;simp only[aq];exact⟨_,_,rfl,kz hF first,kz hF captured⟩
 case slice t x lo hi mx=>
  obtain⟨h1,rfl⟩:=cC h;exact cB.still hR (Fv aI hF h1 (hF.eval x) w)
 case fieldAddr s x f=>
  split at h
  .rename_i fs id g off aM hu he;rw[gq]at h;split at h
   .rename_i fd hf;split at h
    .rename_i z hs;rw[aQ]at h;cases h;have hx:=hF.eval x;rw[he]at hx;simp only[aq]at hx;obtain⟨pl,p1,p2,e⟩:=hx;have Dz:fs[f]?=some fd:=by rw[<-zzb];exact hf
     refine cB.still hR ⟨.pointer (some ⟨pl.b,pl.base+(off+fd.offset),none⟩),?_,by simp only[aq];exact⟨pl,p1,p2,rfl⟩⟩;simp only[Instr.fieldAt,zzc,aP aI hu,zza,Dz,e,Instr.sureAddr,zzd,fieldPlace,ef aI hs];rw[if_neg (zzj z),fw,zzp];rfl
    .cases h
   .cases h
  .cases h
 case field t x f=>
  split at h
  .rename_i fs cs hu he;rw[gq]at h;split at h
   .rename_i fd hf;obtain⟨h1,rfl⟩:=cC h;have hx:=hF.eval x;rw[he]at hx;simp only[aq]at hx;obtain⟨arr,e,p,q⟩:=hx;have Dz:fs[f]?=some fd:=by rw[<-zzb];exact hf
    obtain⟨z,r1,r2⟩:=mg aI h1 p q w;refine cB.still hR ⟨z,?_,r2⟩;simp only[Instr.field,zzc,aP aI hu,zza,Dz,e,asAgg,zzd,r1]
   .cases h
  .cases h
 case indexAddr t x ix=>
  split at h
  .rename_i e id g off len aM sz cap i hu he hi;split at h
   .rename_i z hs;rw[bC,gJ,aQ]at h;cases hc:(decide (z=sz)&&decide (i<len))with
    |false=>simp[hc]at h
    |true=>
     simp only[hc,cond_true,AR.val.injEq]at h;obtain⟨rfl,rfl⟩:=h;simp only[zze,decide_eq_true_eq]at hc;obtain⟨rfl,cR⟩:=hc;have hx:=hF.eval x;rw[he]at hx;simp only[aq]at hx;obtain⟨pl,c,p1,p2,p3,p4,p5,hh⟩:=hx;obtain⟨k,hk⟩:=fz hi (hF.eval ix);rcases hh with⟨e1,_⟩|⟨e1,_⟩
     .refine cB.still hR ⟨.pointer (some ⟨pl.b,pl.base+(off+i*z),none⟩),?_,by simp only[aq];exact⟨pl,p1,p2,rfl⟩⟩;have hin:(0:Int)<=(i:Int)/\(i:Int)<(len:Int):=by omega
      simp only[Instr.indexAt,hk,asIntOf,zzc,zzd,aP aI hu,zza,e1,if_pos hin,ef aI hs,Int.toNat_natCast,fw,zzp]
     .omega
   .cases h
  .rename_i n e id g off aM i hu he hi;split at h
   .rename_i z hs;rw[gJ,aQ]at h;by_cases cR:i<n
    .rw[decide_eq_true cR]at h;simp only[cond_true,AR.val.injEq]at h;obtain⟨rfl,rfl⟩:=h;have hx:=hF.eval x;rw[he]at hx;simp only[aq]at hx;obtain⟨pl,p1,p2,e1⟩:=hx;obtain⟨k,hk⟩:=fz hi (hF.eval ix);refine cB.still hR ⟨.pointer (some ⟨pl.b,pl.base+(off+i*z),none⟩),?_,by simp only[aq];exact⟨pl,p1,p2,rfl⟩⟩;have hin:(0:Int)<=(i:Int)/\(i:Int)<(n:Int):=by omega
     simp only[Instr.indexAt,hk,asIntOf,zzc,zzd,aP aI hu,zza,e1,Instr.sureAddr,if_pos hin,ef aI hs,Int.toNat_natCast,fw,zzp]
    .rw[decide_eq_false cR]at h;cases h
   .cases h
  .rename_i n e g off i hu he hi;split at h
   .rename_i z hs;rw[gJ,aQ]at h;by_cases cR:i<n
    .rw[decide_eq_true cR]at h;simp only[cond_true,AR.val.injEq]at h;obtain⟨rfl,rfl⟩:=h;have hx:=hF.eval x;rw[he]at hx;simp only[aq]at hx;obtain⟨k,hk⟩:=fz hi (hF.eval ix);refine cB.still hR ⟨.pointer (some ⟨g,off+i*z,none⟩),?_,by simp only[aq];rfl⟩;have hin:(0:Int)<=(i:Int)/\(i:Int)<(n:Int):=by omega
     simp only[Instr.indexAt,hk,asIntOf,zzc,zzd,aP aI hu,zza,hx,Instr.sureAddr,if_pos hin,ef aI hs,Int.toNat_natCast,fw]
    .rw[decide_eq_false cR]at h;cases h
   .cases h
  .cases h
 case index t x ix=>
  split at h
  .rename_i s i hu he hi;rw[gq]at h;split at h
   .rename_i n hn;cases h;have hx:=hF.eval x;rw[he]at hx;simp only[aq]at hx;obtain⟨b,e,hb⟩:=hx;obtain⟨k,hk⟩:=fz hi (hF.eval ix);rw[<-hb,List.getElem?_map]at hn;cases hbi:b.data.toList[i]? with
    |none=>rw[hbi]at hn;cases hn
    |some c=>
     rw[hbi]at hn;simp only[Option.map_some,zzf]at hn;subst hn;have cR:i<b.size:=by
      rcases Nat.lt_or_ge i b.size with h0|h0
      .exact h0
      .rw[zzk (show b.data.toList.length<=i from h0)]at hbi;cases hbi
     refine cB.still hR ⟨.int .u8 (c.toNat:Int),?_,by simp[aq]⟩;have h0:(0:Int)<=(i:Int):=by omega
     have hg:b[i]?=some c:=by
      rw[ByteArray.getElem?_lt' b i cR];have:b.data.toList[i]?=some (b[i]):=by
       rw[zzi (show i<b.data.toList.length from cR)];rfl
      rw[hbi]at this;exact this.symm
     simp only[Instr.index,hk,asIntOf,zzc,zzd,aP aI hu,zza,e,if_pos h0,Int.toNat_natCast,hg]
   .cases h
  .rename_i n e cs i hu he hi;split at h
   .rename_i z hs;rw[gJ]at h;by_cases cR:i<n
    .rw[decide_eq_true cR]at h;simp only[cond_true]at h;obtain⟨h1,rfl⟩:=cC h;have hx:=hF.eval x;rw[he]at hx;simp only[aq]at hx;obtain⟨arr,e1,p,q⟩:=hx;obtain⟨k,hk⟩:=fz hi (hF.eval ix);obtain⟨zv,r1,r2⟩:=mg aI h1 p q w;refine cB.still hR ⟨zv,?_,r2⟩;have hin:(0:Int)<=(i:Int)/\(i:Int)<(n:Int):=by omega
     simp only[Nat.mul_eq]at r1;simp only[Instr.index,hk,asIntOf,zzc,zzd,aP aI hu,zza,e1,if_pos hin,ef aI hs,Int.toNat_natCast,r1]
    .rw[decide_eq_false cR]at h;cases h
   .cases h
  .cases h
 case lookup t x ix ok=>
  obtain⟨h1,rfl⟩:=cC h;exact cB.still hR (C9 aI hR h1 (hF.eval x) (hF.eval ix))
 case mapUpdate t m k x=>
  obtain⟨w',r1,rfl,r3,r4⟩:=sW aI hR (ft h) (hF.eval m) (hF.eval k) (hF.eval x);exact⟨.skip,undef,ρ,w',by simp only[execOp,zzc,r1,zza,zzd],rfl,eE ρ,r3,r4⟩
 case insert t m k x=>
  obtain⟨w',r1,rfl,r3,r4⟩:=sW aI hR (ft h) (hF.eval m) (hF.eval k) (hF.eval x);exact⟨.skip,undef,ρ,w',by simp only[execOp,zzc,r1,zza,zzd],rfl,eE ρ,r3,r4⟩
 case mapEntry t m k=>exact cB.EN (DX aI hR (ft h) (hF.eval m) (hF.eval k))
 case entryStore t m k x=>
  obtain⟨w',r1,rfl,r3,r4⟩:=DW (P:=P) (t:=t) hR (ft h) (hF.eval m) (hF.eval k) (hF.eval x);exact⟨.skip,undef,ρ,w',by simp only[execOp,zzc,r1,zza,zzd],rfl,eE ρ,r3,r4⟩
 case range t x=>exact cB.EN (FH aI hR (ft h) (hF.eval x))
 case next x str=>exact cB.EN (nextV_val (P:=P) hR h (hF.eval x))
 case entry x=>
  obtain⟨h1,rfl⟩:=cC h;exact cB.still hR (entryV_run hR h1 (hF.eval x))
 case panic x=>split at h<;>cases h
 case typeAssert x xt t ok=>
  obtain⟨h1,rfl⟩:=cC h;exact cB.still hR (Eu aI h1 (hF.eval x))
 case extract x i=>
  split at h
  .rename_i vs he;obtain⟨h1,rfl⟩:=cC h;have hx:=hF.eval x;rw[he]at hx;simp only[aq]at hx;obtain⟨arr,e,hl⟩:=hx;rw[gq]at h1;obtain⟨y,hy,ow⟩:=hl.get h1;refine cB.still hR ⟨y,?_,ow⟩;have hy':arr[i]?=some y:=by rw[<-zzb];exact hy
   simp only[Instr.extract,e,hy',zzd]
  .cases h
 case call c=>
  obtain⟨callee,as,lG⟩:=c;cases callee with
  |value f=>
   simp only[]at h;unfold nF at h;split at h
   .rename_i g first captured he
    cases hxt:cx.exts.get g with
    |none=>rw[hxt]at h;cases h
    |some xt=>
     rw[hxt]at h;have h1:=ft h;have hf:=hF.eval f;rw[he]at hf;simp only[aq]at hf;obtain⟨p,q,e,hp,hq⟩:=hf;simp only[cA]at h1;obtain⟨z,ρ2,w2,r1,r2,r3,r4⟩:=extM_run hR aI hxt h1 (args:=p++as.map a.eval++q) (by
      simp only[zzh,List.append_assoc];exact hp.append ((kz hF as).append hq))
     refine⟨.value z,z,ρ2,w2,?_,rfl,r2,r3,r4⟩;have hex:execOp a.eval ⟨dst,.call ⟨.value f,as,lG⟩,ty,pos,after,guard⟩=callFunc g (p++as.map a.eval++q):=by
      simp only[execOp,resolve,e,Deferred.ofValue];rfl
     rw[hex];exact r1
   .cases h
   .cases h
  |invoke r m=>cases h
  |builtin b=>
   simp only[]at h;have dI:=kz hF as;have hex:execOp a.eval ⟨dst,.call ⟨.builtin b,as,lG⟩,ty,pos,after,guard⟩=builtin b lG ty (as.map fun | .const _=>true|_=>false) (as.map a.eval):=by
    simp only[execOp,resolve];rfl
   rw[hex];unfold aY at h;split at h
   .rename_i t ts' x xs ht ha;split at h
    .rename_i n hn;rw[aQ]at h;cases h;rw[ha]at dI;simp only[aD]at dI;obtain⟨y,ys,hy,ow,_⟩:=dI;have h0:(as.map a.eval)[0]?=some y:=by rw[<-zzb,hy];rfl
     have t0:lG[0]?=some t:=by rw[<-zzb,ht];rfl
     exact cB.still hR ⟨goInt n,lenV_run aI hR hn t0 h0 ow,by simp[aq,goInt]⟩
    .cases h
   .rename_i t ts' x xs ht ha;have t0:lG[0]?=some t:=by rw[<-zzb,ht];rfl
    rw[ha]at dI;simp only[aD]at dI;obtain⟨y,ys,hy,ow,_⟩:=dI;have h0:(as.map a.eval)[0]?=some y:=by rw[<-zzb,hy];rfl
    have mk:∀(n:Nat),(Builtin.cap_ lG ty (as.map a.eval)).run P w=.ok (goInt n) w->cB Λ P ρ S w (builtin .cap lG ty (as.map fun | .const _=>true|_=>false) (as.map a.eval)) (.int .i64 (.ofNat n)) S:=
     fun n hr=>cB.still hR ⟨goInt n,hr,by simp[aq,goInt]⟩
    split at h
    .rename_i e hu;cases h;simp only[aq]at ow;refine mk 0 ?_;unfold Builtin.cap_;simp only[t0,h0,zzc,aP aI hu,zza,ow,zzd]
    .rename_i e id g off len aM sz c hu;cases h;obtain⟨ad,c',e1,_,hc⟩:=fX ow;obtain rfl:=hc c rfl;refine mk c' ?_;unfold Builtin.cap_;simp only[t0,h0,zzc,aP aI hu,zza,e1,zzd]
    .rename_i n e hu;cases h;refine mk n ?_;unfold Builtin.cap_;simp only[t0,h0,zzc,aP aI hu,zza];cases y<;>rfl
    .cases h
   .rename_i t u ts' sA xA ht ha;have t0:lG[0]?=some t:=by rw[<-zzb,ht];rfl
    have t1:lG[1]?=some u:=by rw[<-zzb,ht];rfl
    rw[ha]at dI;simp only[aD]at dI;obtain⟨y,_,hy,ow,y2,_,rfl,tM,rfl⟩:=dI;have hav:as.map a.eval=#[y,y2]:=zzg (by rw[hy]);split at h
    .rename_i e ku hu qd;rw[hav];exact cB.EN (appZ_run aI hR (ft h) t0 t1 hu qd ow tM)
    .rename_i e du hnu hu qd;split at h
     .rename_i z bs hs hb;cases hz:jq cx e (Nat.succ z)with
      |false=>simp[hz]at h
      |true=>
       simp only[hz,cond_true]at h;rw[hav];exact cB.EN (Ew aI hR (ft h) t0 t1 hu qd hnu hs (Nat.succ_pos _) hb hz ow tM)
     .cases h
    .cases h
   .rename_i t ts' dA xA ht ha;have t0:lG[0]?=some t:=by rw[<-zzb,ht];rfl
    rw[ha]at dI;simp only[aD]at dI;obtain⟨y,_,hy,ow,y2,_,rfl,tM,rfl⟩:=dI;have hav:as.map a.eval=#[y,y2]:=zzg (by rw[hy]);split at h
    .rename_i e hu;split at h
     .rename_i z hs;rw[hav];exact cB.EN (copyV_run aI hR (ft h) t0 hu hs ow tM)
     .cases h
    .cases h
   .rename_i ha;cases h;rw[ha]at dI;simp only[aD]at dI;obtain⟨y,_,hy,ow,rfl⟩:=dI;have hav:as.map a.eval=#[y]:=zzg (by rw[hy]);simp only[aq]at ow;subst ow;rw[hav];exact cB.still hR (s:=Builtin.unsafeSliceData_ lG ty #[.slice none 0 0]) ⟨.pointer none,Lib.run_unsafeSliceData_nil w lG ty 0 0,by simp[aq]⟩
   .rename_i id g off len aM sz cap ha;rw[gJ]at h;by_cases hl:0<len
    .rw[decide_eq_true hl]at h;simp only[cond_true,AR.val.injEq]at h;obtain⟨rfl,rfl⟩:=h;rw[ha]at dI;simp only[aD]at dI;obtain⟨y,_,hy,ow,rfl⟩:=dI;have hav:as.map a.eval=#[y]:=zzg (by rw[hy]);simp only[aq]at ow;obtain⟨pl,c,p1,p2,p3,p4,p5,hh⟩:=ow;rcases hh with⟨rfl,_⟩|⟨e2,_⟩
     .rw[hav];exact cB.still hR (s:=Builtin.unsafeSliceData_ lG ty #[.slice (some ⟨pl.b,pl.base+off,none⟩) len c]) ⟨_,Lib.run_unsafeSliceData_row w lG ty _ len c (by omega),by simp only[aq];exact⟨pl,p1,p2,rfl⟩⟩
     .omega
    .rw[decide_eq_false hl]at h;cases h
   .rename_i t ts' p k n ht ha;have t0:lG[0]?=some t:=by rw[<-zzb,ht];rfl
    rw[ha]at dI;simp only[aD]at dI;obtain⟨y,_,hy,ow,y2,_,rfl,tM,rfl⟩:=dI;have hav:as.map a.eval=#[y,y2]:=zzg (by rw[hy]);simp only[aq]at tM;subst tM;rw[hav];obtain⟨z,w',r1,r2,r3,r4⟩:=ustrV_run (P:=P) (ty:=ty) (k:=k) aI hR (ft h) t0 ow;exact cB.EN (s:=Builtin.unsafeString_ lG ty #[y,.int k (.ofNat n)]) ⟨z,ρ,w',r1,r2,r3,r4⟩
   .rename_i t ts' x k ht ha;have t0:lG[0]?=some t:=by rw[<-zzb,ht];rfl
    rw[ha]at dI;simp only[aD]at dI;obtain⟨y,_,hy,ow,y2,_,rfl,tM,rfl⟩:=dI;have hav:as.map a.eval=#[y,y2]:=zzg (by rw[hy]);rw[hav];obtain⟨w',r1,rfl,r3,r4⟩:=D2 (P:=P) (ty:=ty) aI hR (ft h) t0 ow tM;exact cB.EN (s:=Builtin.delete_ lG ty #[y,y2]) ⟨undef,ρ,w',r1,eE ρ,r3,r4⟩
   .rename_i t ts' x ht ha;have t0:lG[0]?=some t:=by rw[<-zzb,ht];rfl
    rw[ha]at dI;simp only[aD]at dI;obtain⟨y,_,hy,ow,rfl⟩:=dI;have hav:as.map a.eval=#[y]:=zzg (by rw[hy]);rw[hav];obtain⟨w',r1,rfl,r3,r4⟩:=clearV_run (P:=P) (ty:=ty) aI hR (ft h) t0 ow;exact cB.EN (s:=Builtin.clear_ lG ty #[y]) ⟨undef,ρ,w',r1,eE ρ,r3,r4⟩
   .rename_i k n l ha;obtain⟨h1,rfl⟩:=cC h;rw[ha]at dI;simp only[aD]at dI;obtain⟨y,ys,hy,ow,hys⟩:=dI;simp only[aq]at ow;subst ow;obtain⟨z,r1,r2⟩:=zi (P:=P) false l ρ k n v ys (by simpa using h1) hys w;refine cB.still hR ⟨z,?_,r2⟩;simp only[Builtin.min_,hy];simpa using r1
   .rename_i k n l ha;obtain⟨h1,rfl⟩:=cC h;rw[ha]at dI;simp only[aD]at dI;obtain⟨y,ys,hy,ow,hys⟩:=dI;simp only[aq]at ow;subst ow;obtain⟨z,r1,r2⟩:=zi (P:=P) true l ρ k n v ys (by simpa using h1) hys w;refine cB.still hR ⟨z,?_,r2⟩;simp only[Builtin.max_,hy];simpa using r1
   .cases h
def iK:AR->Bool
 | .val ..=>true
 | .err _=>true
 |_=>false
theorem gH(v:Option AV)(S:AS)(n:Nat):iK (val? v S n)=true:=by cases v<;>rfl
theorem dG(v:Option (AV×AS))(n:Nat):iK (dO v n)=true:=by cases v<;>rfl
theorem CN(r:Option (AV×dp))(S:AS)(n:Nat):iK (eR r S n)=true:=by cases r<;>rfl
theorem eh{c:Bool}{a b:AR}(ha:iK a=true)(hb:iK b=true):iK (cond c a b)=true:=by cases c<;>assumption
theorem wU(cx:Cx)(S:AS)(b:Builtin)(ts:List TypeId)(as:List AV):iK (aY cx S b ts as)=true:=by
 unfold aY;split
 .split<;>rfl
 .split<;>rfl
 .split
  .exact dG _ _
  .split
   .exact eh (dG _ _) rfl
   .rfl
  .rfl
 .split
  .split
   .exact dG _ _
   .rfl
  .rfl
 .rfl
 .exact eh rfl rfl
 .exact dG _ _
 .exact dG _ _
 .exact dG _ _
 .exact gH _ _ _
 .exact gH _ _ _
 .rfl
theorem aop_plain{cx:Cx}{F:Fr}{S:AS}{o:Oper}(h1:∀f args lG,o.op≠.call ⟨.value f,args,lG⟩)(h2:∀x s,o.op≠.next x s)(h3:∀x,o.op≠.panic x):iK (bE cx F S o)=true:=by
 obtain⟨dst,op,ty,pos,after,guard⟩:=o;cases op<;>simp only[bE]<;>(try rfl)<;>(try exact gH _ _ _)<;>(try exact dG _ _)<;>(try exact CN _ _ _)
 case pick c x y=>split<;>rfl
 case load t x=>
  split
  .split
   .split
    .split<;>rfl
    .rfl
   .split<;>rfl
   .rfl
  .split
   .exact gH _ _ _
   .rfl
  .rfl
 case store t x y=>
  split
  .exact eh (by split<;>rfl) rfl
  .rfl
 case nilCheck x=>split<;>rfl
 case convert src dst x=>
  split
  .rfl
  .rfl
  .split<;>rfl
  .split
   .rfl
   .split
    .rfl
    .split
     .split<;>rfl
     .rfl
   .rfl
  .refine eh ?_ rfl;split
   .exact eh rfl rfl
   .rfl
  .split
   .exact eh rfl rfl
   .rfl
  .split
   .exact eh rfl rfl
   .rfl
  .rfl
 case makeInterface t x=>split<;>rfl
 case fieldAddr s x g=>
  split
  .split
   .split<;>rfl
   .rfl
  .rfl
 case field t x g=>
  split
  .split
   .exact gH _ _ _
   .rfl
  .rfl
 case indexAddr t x ix=>
  split
  .split
   .exact eh rfl rfl
   .rfl
  .split
   .exact eh rfl rfl
   .rfl
  .split
   .exact eh rfl rfl
   .rfl
  .rfl
 case index t x ix=>
  split
  .split<;>rfl
  .split
   .exact eh (gH _ _ _) rfl
   .rfl
  .rfl
 case panic x=>exact absurd rfl (h3 x)
 case extract x i=>
  split
  .exact gH _ _ _
  .rfl
 case call c=>
  obtain⟨callee,xs,lG⟩:=c;cases callee with
  |value f=>exact absurd rfl (h1 f xs lG)
  |invoke r m=>rfl
  |builtin b=>exact wU _ _ _ _ _
theorem rF{cx:Cx}{F:Fr}{S:AS}{o:Oper}(h:iK (bE cx F S o)=false):
  (∃f args lG,o.op=.call ⟨.value f,args,lG⟩)\/(∃x s,o.op=.next x s)\/∃x,o.op=.panic x:=by
 by_cases h1:∃f args lG,o.op=.call ⟨.value f,args,lG⟩
 .exact .inl h1
 by_cases h2:∃x s,o.op=.next x s
 .exact .inr (.inl h2)
 by_cases h3:∃x,o.op=.panic x
 .exact .inr (.inr h3)
 rw[aop_plain (fun f a b e=>h1 ⟨f,a,b,e⟩) (fun x s e=>h2 ⟨x,s,e⟩) (fun x e=>h3 ⟨x,e⟩)]at h;cases h
theorem EA{P:Program}{cx:Cx}{ρ:bf}{F:Fr}{S:AS}{w:World}{a:Act}(hR:R Λ ρ S w)(hF:eA ρ F a){o:Oper}{l:List (AV×AS)}
  (h:bE cx F S o=.many l) (cl:l≠[]):∃r,r∈l/\cB Λ P ρ S w (execOp a.eval o) r.1 r.2:=by
 obtain⟨dst,op,ty,pos,after,guard⟩:=o;rcases rF (by rw[h];rfl)with⟨f,xs,lG,rfl⟩|⟨x,s,rfl⟩|⟨x,rfl⟩
 .simp only[bE]at h;unfold nF at h;split at h
  .split at h
   .exact absurd (dG _ _) (by rw[h];simp[iK])
   .cases h
  .cases h
  .cases h
 .simp only[bE]at h;obtain⟨r,hr,hs⟩:=nextV_many (P:=P) (ty:=ty) hR h cl (hF.eval x);exact⟨r,hr,cB.EN hs⟩
 .simp only[bE]at h;split at h<;>cases h
theorem vf{S S':AS}{x:AV}{s:Bool}:(∀f as,pG S x s≠.enter f as S')/\(∀i as,pG S x s≠.round i as S')/\(∀v,pG S x s≠.eQ v S'):=by
 unfold pG;exact⟨fun f as h=>by (cases h),fun i as h=>by (cases h),fun v h=>by (cases h)⟩
theorem aop_pan{P:Program}{cx:Cx}{ρ:bf}{F:Fr}{S S':AS}{w:World}{a:Act}(hF:eA ρ F a){o:Oper}{v:AV}
  (h:bE cx F S o=.eQ v S'):S'=S/\(∃x,o.op=.panic x)/\∃x,(execOp a.eval o).run P w=.halt (.panic x) w/\aq ρ v x:=by
 obtain⟨dst,op,ty,pos,after,guard⟩:=o;rcases rF (by rw[h];rfl)with⟨f,xs,lG,rfl⟩|⟨x,s,rfl⟩|⟨x,rfl⟩
 .simp only[bE]at h;unfold nF at h;split at h
  .split at h
   .exact absurd (dG _ _) (by rw[h];simp[iK])
   .cases h
  .cases h
  .cases h
 .simp only[bE]at h;exact absurd h (vf.2.2 v)
 .simp only[bE]at h;split at h
  .rename_i t u he;cases h;have hx:=hF.eval x;rw[he]at hx;refine⟨rfl,⟨x,rfl⟩,a.eval x,?_,hx⟩;obtain⟨y,e,_⟩:=(by simpa only[aq]using hx:∃y,a.eval x=.iface t y/\aq ρ u y)
   simp only[execOp,e,Instr.panic,goPanic,zzc];rfl
  .cases h
theorem aop_enter{P:Program}{cx:Cx}{ρ:bf}{F:Fr}{S S':AS}{a:Act}(hF:eA ρ F a){o:Oper}{f:FuncId}{as:List AV}
  (h:bE cx F S o=.enter f as S'):S'=S/\∃args,(∀w:World,(execOp a.eval o).run P w=(callFunc f args).run P w)/\aD ρ as args.toList:=by
 obtain⟨dst,op,ty,pos,after,guard⟩:=o;rcases rF (by rw[h];rfl)with⟨fx,xs,lG,rfl⟩|⟨x,s,rfl⟩|⟨x,rfl⟩
 .simp only[bE]at h;unfold nF at h;split at h
  .rename_i g first captured he
   cases hxt:cx.exts.get g with
   |some xt=>
    rw[hxt]at h;simp only[]at h;exact absurd (dG _ _) (by rw[h];simp[iK])
   |none=>
    rw[hxt]at h;simp only[AR.enter.injEq,cA]at h;obtain⟨rfl,rfl,rfl⟩:=h;have hf:=hF.eval fx;rw[he]at hf;simp only[aq]at hf;obtain⟨p,q,e,hp,hq⟩:=hf;refine⟨rfl,p++xs.map a.eval++q,fun w=>?_,?_⟩
    .simp only[execOp,resolve,e,Deferred.ofValue];rfl
    .simp only[zzh,List.append_assoc];exact hp.append ((kz hF xs).append hq)
  .cases h
  .cases h
 .simp only[bE]at h;exact absurd h (vf.1 f as)
 .simp only[bE]at h;split at h<;>cases h
theorem aop_round{P:Program}{cx:Cx}{ρ:bf}{F:Fr}{S S':AS}{a:Act}(hF:eA ρ F a){o:Oper}{id:Nat}{as:List AV}
  (h:bE cx F S o=.round id as S'):S'=S/\∃pl args,ρ id 0=some pl/\(∀w:World,(execOp a.eval o).run P w=(Instr.yield pl.b args).run P w)/\aD ρ as args.toList:=by
 obtain⟨dst,op,ty,pos,after,guard⟩:=o;rcases rF (by rw[h];rfl)with⟨fx,xs,lG,rfl⟩|⟨x,s,rfl⟩|⟨x,rfl⟩
 .simp only[bE]at h;unfold nF at h;split at h
  .split at h
   .exact absurd (dG _ _) (by rw[h];simp[iK])
   .cases h
  .rename_i i he;cases h;have hf:=hF.eval fx;rw[he]at hf;simp only[aq]at hf;obtain⟨pl,p1,e⟩:=hf;refine⟨rfl,pl,xs.map a.eval,p1,fun w=>?_,kz hF xs⟩;simp only[OK.val]at e;simp only[execOp,resolve,e,Deferred.ofValue,invoke,zzc,zzd,zza,Array.empty_append]
  .cases h
 .simp only[bE]at h;exact absurd h (vf.2.1 id as)
 .simp only[bE]at h;split at h<;>cases h
end Go.Am
