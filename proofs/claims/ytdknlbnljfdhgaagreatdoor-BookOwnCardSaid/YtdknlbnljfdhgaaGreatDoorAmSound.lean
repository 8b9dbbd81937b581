/-
  The abstract machine against the model: one operation.
-/
import Derived.Test.YtdknlbnljfdhgaaGreatDoorAmRange
import Derived.Laws.BytesString
import Derived.Laws.BytesArg
namespace Go.Am
open Go
variable {Λ:LB}
def cr (Λ:LB) (P:Program) (ρ:aI) (S:AS) (w:World) (s:Sem Next) (v:AV) (S':AS):Prop:=
 ∃ nx x ρ' w',s.run P w=.ok nx w'∧Bd nx=some x∧ah ρ' v x∧R Λ ρ' S' w'∧Kp ρ S w ρ' S' w'
theorem cr.sem {P:Program} {ρ:aI} {S S':AS} {w:World} {s:Sem Value} {v:AV} (h:oS Λ P ρ S w s v S'):cr Λ P ρ S w (do pure (.value (←s))) v S':=by
 obtain ⟨x,ρ',w',r1,r2,r3,r4⟩:=h;exact ⟨.value x,x,ρ',w',by simp only[Sem.run_bind,r1,Result.andThen_ok,Sem.run_pure],rfl,r2,r3,r4⟩
theorem cr.still {P:Program} {ρ:aI} {S:AS} {w:World} {s:Sem Value} {v:AV} (hR:R Λ ρ S w) (h:∃ z,s.run P w=.ok z w∧ah ρ v z):cr Λ P ρ S w (do pure (.value (←s))) v S:=by
 obtain ⟨z,r1,r2⟩:=h;exact cr.sem ⟨z,ρ,w,r1,r2,hR,Kp.refl _ _ _⟩
theorem cr.val {P:Program} {ρ:aI} {S:AS} {w:World} {x:Value} {v:AV} (hR:R Λ ρ S w) (h:ah ρ v x):cr Λ P ρ S w (pure (.value x)) v S:=
 ⟨.value x,x,ρ,w,rfl,rfl,h,hR,Kp.refl _ _ _⟩
theorem cu {v:Option AV} {S S':AS} {n:Nat} {u:AV} (h:val? v S n=.val u S'):v=some u∧S'=S:=by
 cases v with
 | none=>simp[val?] at h
 | some x=>simp only[val?,AR.val.injEq] at h;exact ⟨by rw[h.1],h.2.symm⟩
theorem fC {v:Option (AV×AS)} {S':AS} {n:Nat} {u:AV} (h:cG v n=.val u S'):v=some (u,S'):=by
 cases v with
 | none=>simp[cG] at h
 | some x=>obtain ⟨a,b⟩:=x;simp only[cG,AR.val.injEq] at h;rw[h.1,h.2]
theorem E7 {ρ:aI} {x:AV} {v:Value} {b:Bool} (h:x=.bool b) (hv:ah ρ x v):v=.bool b:=by subst h;simpa[ah] using hv
theorem load_var {P:Program} {cx:Cx} (az:cX Λ P cx) {ρ:aI} {S:AS} {w:World} (hR:R Λ ρ S w) {t:TypeId} {id g off ay:Nat} {x':Value} (hx:ah ρ (.ptr id g off ay) x') :
  (∀ n cs,aD cx t=some true→aA cx t=some n→rd S id g off n ay=some cs→∃ z,(Instr.loadAt t x').run P w=.ok z w∧ah ρ (.agg cs) z) ∧
  (∀ v,aD cx t=some false→rd S id g off 1 ay=some [v]→∃ z,(Instr.loadAt t x').run P w=.ok z w∧ah ρ v z):=by
 simp only[ah] at hx;obtain ⟨pl,p1,p2,rfl⟩:=hx;constructor
 ·intro n cs ha hs hr;obtain ⟨arr,q1,q2,q3,q4,_⟩:=jA (P:=P) hR hr p1 p2;exact ⟨.agg arr,by simp only[Instr.loadAt,Instr.sureAddr,loadVar,Sem.run_bind,Sem.run_pure,Result.andThen_ok,kW az ha,if_true,dP az hs,q1],by simp only[ah];exact ⟨arr,rfl,q3,q4⟩⟩
 ·intro v ha hr;obtain ⟨arr,q1,q2,q3,q4,q5,q6⟩:=jA (P:=P) hR hr p1 p2;obtain ⟨z,hz,hz2⟩:=q6 0 (by omega);refine ⟨z,?_,?_⟩
  ·simp only[Nat.add_zero] at hz;simp only[Instr.loadAt,Instr.sureAddr,loadVar,Sem.run_bind,Sem.run_pure,Result.andThen_ok,kW az ha,Bool.false_eq_true,if_false,run_load,hz]
  ·obtain ⟨y,hy,fk⟩:=q3.get (i:=0) (x:=v) rfl;rw[hz2] at hy;cases hy;exact fk
theorem xX:∀ (cs:List AV) (l:List Nat) (arr:List Value) (ρ:aI),tU cs=some l→au ρ cs arr →
  arr=(l.map Int.ofNat).map (Value.int .u8)∧∀ n,n∈l→n<256:=by
 intro cs
 induction cs with
 | nil=>intro l arr ρ h hr;simp only[au] at hr;have h':some []=some l:=h;cases h';exact ⟨hr,fun n hn=>by cases hn⟩
 | cons c cs ih=>
  intro l arr ρ h hr;simp only[au] at hr;obtain ⟨y,ys,rfl,hy,hys⟩:=hr;have h':tT c (tU cs)=some l:=h;unfold tT at h';split at h'
  ·rename_i n l' rW;rw[gI] at h';by_cases hn:n<256
   ·rw[decide_eq_true hn] at h';simp only[cond_true,Option.some.injEq] at h';subst h';obtain ⟨i1,i2⟩:=ih l' ys ρ rW hys;simp only[ah] at hy;rw[i1,hy];exact ⟨rfl,fun m hm=>by cases hm with|head=>exact hn|tail _ h=>exact i2 m h⟩
   ·rw[decide_eq_false hn] at h';cases h'
  ·cases h'
theorem AF (l:List Nat) (h:∀ n,n∈l→n<256):((l.map Int.ofNat).foldl (fun r n=>r.push (UInt8.ofNat n.toNat)) ByteArray.empty).data.toList.map UInt8.toNat=l:=by
 rw[foldl_push_bytes];simp only[List.map_map];have e:(ByteArray.empty.data++(l.map ((fun n:Int=>UInt8.ofNat n.toNat)∘Int.ofNat)).toArray).toList=l.map fun n=>UInt8.ofNat n:=by
  simp[Function.comp]
 rw[e,List.map_map];have:∀ n,n∈l→(UInt8.toNat∘fun n=>UInt8.ofNat n) n=n:=fun n hn=>by
  simp only[Function.comp,UInt8.toNat_ofNat'];exact Nat.mod_eq_of_lt (h n hn)
 rw[List.map_congr_left this];simp
theorem s2b_run {P:Program} {ρ:aI} {S:AS} {w:World} (hR:R Λ ρ S w) {e:TypeId} {b:ByteArray} {s:List Nat} (hb:b.data.toList.map UInt8.toNat=s) :
  oS Λ P ρ S w (Conv.stringToBytes e b) (.slice S.next 0 0 s.length s.length 1 none) ⟨S.h.set S.next (.row (jH (fun n=>AV.int .u8 (.ofNat n)) s) 0 0 true e),Nat.succ S.next⟩:=by
 let q:Question:=.appendCap b.size 0 e
 let c:=q.cut (w.tape w.drawn q)
 have nJ:b.size≤c:=Nat.le_add_right _ _
 let C:Array Value:=b.data.map (fun x=>Value.int .u8 x.toNat)++Array.replicate (c-b.size) (.int .u8 0)
 have hCs:C.size=c:=by simp[C];have:b.data.size=b.size:=rfl;omega
 let w':World:={ w with drawn:=w.drawn+1,heap:=w.heap.push (.cells C e (c,c+1)) }
 have gp:=lM hb;have kH:jH (fun n=>AV.int .u8 (.ofNat n)) s=b.data.toList.map fun x=>AV.int .u8 (x.toNat:Int):=by
  rw[fu,←hb,List.map_map];rfl
 have hlen:(jH (fun n=>AV.int .u8 (.ofNat n)) s).length=s.length:=by rw[fu];simp
 have hrel:Cells ρ (jH (fun n=>AV.int .u8 (.ofNat n)) s) (C.toList.take (jH (fun n=>AV.int .u8 (.ofNat n)) s).length):=by
  have e1:C.toList.take (jH (fun n=>AV.int .u8 (.ofNat n)) s).length=b.data.toList.map fun x=>Value.int .u8 (x.toNat:Int):=by
   rw[hlen,←gp];simp only[C,Array.toList_append,Array.toList_map];rw[List.take_append_of_le_length (by simp),List.take_of_length_le (by simp)]
  rw[e1,kH];refine ⟨au.map _ _ (fun x=>by simp[ah]) _,fun x hx=>?_⟩;obtain ⟨y,_,rfl⟩:=List.mem_map.1 hx;rfl
 have hgrew:iT (.cells C e (c,c+1)) w w':=⟨⟨rfl,rfl,rfl⟩,rfl⟩
 have hones:dW C:=by
  refine dW.of fun v hv=>?_;simp only[C,Array.toList_append,Array.toList_map,List.mem_append,List.mem_map,Array.toList_replicate,List.mem_replicate] at hv;rcases hv with ⟨x,_,rfl⟩|hv
  ·rfl
  ·obtain ⟨_,rfl⟩:=hv;rfl
 obtain ⟨ρ',pl,p1,p2,p3,p4,p5,p6,p7⟩:=hR.newRowF (frz:=true) hgrew (fun h=>by cases h) hrel.1 (by rw[hlen,hCs];omega) hones;refine ⟨.slice (some ⟨w.heap.size,0,none⟩) s.length c,ρ',w',?_,?_,p6,p7⟩
 ·have hch:(choose (.appendCap b.size 0 e)).run P w=.ok c { w with drawn:=w.drawn+1 }:=by rw[run_choose];rfl
  unfold Conv.stringToBytes;simp only[Sem.run_bind,hch,Result.andThen_ok,Go.newRow,run_newObj,Sem.run_pure,markStringish,run_shape];have hsh:({ w with drawn:=w.drawn+1,heap:=w.heap.push (.cells C e) }:World).shape? w.heap.size=some (e,c):=by
   simp[World.shape?,hCs]
  have hfz:({ w with drawn:=w.drawn+1,heap:=w.heap.push (.cells C e) }:World).freeze { block:=w.heap.size,off:=c } 1=w':=by
   simp only[World.freeze,Nat.one_ne_zero,if_false,w'];congr 1;apply Array.ext_getElem?;intro i;rw[Array.getElem?_modify];by_cases hi:w.heap.size=i
   ·subst hi;simp
   ·rw[if_neg hi,Array.getElem?_push,Array.getElem?_push,if_neg (Ne.symm hi),if_neg (Ne.symm hi)]
  simp only[C] at hsh hfz;rw[hsh];simp only[run_freeze,Result.andThen_ok];rw[hfz,gp]
 ·exact ah.fY pl c p1 (by rw[p4,hlen];exact Nat.le_refl _) (by omega) (by decide) (by omega) (.inl ⟨by rw[p2,p3],by rw[p3,p5,hCs];omega,fun k hk=>by cases hk⟩)
theorem xi {cx:Cx} {t:TypeId} {n:Nat} (h:aA cx t=some n):∃ i,cx.jW.get t=some i∧i.size=n:=by
 unfold aA at h;cases hi:cx.jW.get t with
 | none=>simp[hi] at h
 | some i=>simp only[hi,Option.some.injEq] at h;exact ⟨i,rfl,h⟩
theorem bytes_str (l:List Nat) (h:∀ n,n∈l→n<256):(l.map fun n=>UInt8.ofNat n).map UInt8.toNat=l:=by
 rw[List.map_map];have:∀ n,n∈l→(UInt8.toNat∘fun n=>UInt8.ofNat n) n=n:=fun n hn=>by
  simp only[Function.comp,UInt8.toNat_ofNat'];exact Nat.mod_eq_of_lt (h n hn)
 rw[List.map_congr_left this];simp
theorem ustr_def (ts : Array TypeId) (ty : TypeId) : ∃ m1 m2 m3 m4 m5 : String, ∀ (p : Option Addr) (len : Value), Builtin.unsafeString_ ts ty #[.pointer p, len] = (do
      let n ←asInt len
      let some pt:=ts[0]?|stuck m1
      if n<0 then runtimePanic (.error m2)
      if n > IntKind.i64.max then unsupported (.unsafePointer m3)
      match p with
      | none=>
       if n=0 then pure (.string .empty)
       else runtimePanic (.error m4)
      | some a=>
       if n=0 then pure (.string .empty)
       else if ←variablesAt a (←elemOf pt) n.toNat then do
        let s ←loadBytes a .empty n.toNat
        freeze a n.toNat
        pure (.string s)
       else unsupported (.unsafePointer m5)):=⟨_,_,_,_,_,fun _ _=>rfl⟩
theorem ptr_shape {ρ:aI} {S:AS} {w:World} (hR:R Λ ρ S w) {id g off ay:Nat} {cells:List AV} {low top:Nat} {frz:Bool} {ty:TypeId} (pR:S.h.get id=some (.row cells low top frz ty))
  (h1:low≤g) (h2:g≤top) {pl:Pl} (hp:ρ id g=some pl) (hl:ay≤pl.n) (ho:off<ay):∃ N,w.shape? pl.b=some (ty,N)∧pl.base+off<N:=by
 obtain ⟨_,h3,_⟩:=hR.fi id _ pR;obtain ⟨df,C,fr,g1,g2,g3,g4,g5,g6,g7,g8,g9⟩:=h3 g h1 h2;rw[hp] at g1;cases g1;exact ⟨C.size,by simp[World.shape?,g2],by omega⟩
theorem ustrV_run {P:Program} {cx:Cx} (az:cX Λ P cx) {ρ:aI} {S S':AS} {w:World} (hR:R Λ ρ S w) {ts:Array TypeId} {t ty:TypeId} {p v:AV} {p':Value} {n:Nat} {k:IntKind}
  (h:ustrV cx S t p n=some (v,S')) (ht:ts[0]?=some t) (hp:ah ρ p p') :
  ∃ z w',(Builtin.unsafeString_ ts ty #[p',.int k (.ofNat n)]).run P w=.ok z w'∧ah ρ v z∧R Λ ρ S' w'∧Kp ρ S w ρ S' w':=by
 have xu:IntKind.i64.max=9223372036854775807:=rfl;obtain ⟨m1,m2,m3,m4,m5,ustr⟩:=ustr_def ts ty;unfold ustrV at h;cases n with
 | zero=>
  simp only[] at h;cases p<;>simp only[reduceCtorEq] at h
  case bd=>
   cases h;simp only[ah] at hp;subst hp;refine ⟨.string .empty,w,?_,by simp only[ah];exact ⟨_,rfl,rfl⟩,hR,Kp.refl _ _ _⟩;rw[ustr];simp[asInt,asIntOf,ht,xu]
  case ptr id g off ay=>
   cases h;simp only[ah] at hp;obtain ⟨pl,p1,p2,rfl⟩:=hp;refine ⟨.string .empty,w,?_,by simp only[ah];exact ⟨_,rfl,rfl⟩,hR,Kp.refl _ _ _⟩;rw[ustr];simp[asInt,asIntOf,ht,xu]
 | succ m=>
  simp only[] at h;split at h
  ·rename_i e id g off ay hu;split at h
   ·rename_i cells low top frz C4 hue hs pR;rw[bf,cn] at h;cases nv:(decide (C4=e)&&decide (m+1≤4611686018427387904)&&qN frz low) with
    | false=>rw[nv] at h;cases h
    | true=>
     rw[nv] at h;simp only[Bool.and_eq_true,decide_eq_true_eq] at nv;obtain ⟨⟨hte,h63'⟩,hmf⟩:=nv;subst hte;simp only[cond_true] at h;cases hr:rd S id g off (m+1) ay with
     | none=>rw[hr] at h;cases h
     | some cs=>
      rw[hr] at h;simp only[] at h;cases hb:tU cs with
      | none=>rw[hb] at h;cases h
      | some l=>
       rw[hb] at h;simp only[Option.some.injEq,Prod.mk.injEq] at h;obtain ⟨rfl,rfl⟩:=h;simp only[ah] at hp;obtain ⟨pl,p1,p2,rfl⟩:=hp;obtain ⟨arr,q1,q2,q3,q4,q5,q6⟩:=jA (P:=P) hR hr p1 p2;obtain ⟨b1,b2⟩:=xX cs l arr.toList ρ hb q3;have hll:l.length=m+1:=by
        have:=congrArg List.length b1;simp at this;omega
       have zU:=hr;unfold rd at zU;rw[pR] at zU;simp only[cn,Nat.add_eq] at zU;cases pT:(decide (low≤g)&&decide (g≤top)&&decide (off+(m+1)≤ay)) with
       | false=>rw[pT] at zU;cases zU
       | true=>
        simp only[Bool.and_eq_true,decide_eq_true_eq] at pT;obtain ⟨⟨c1,c2⟩,c3⟩:=pT;obtain ⟨_,h2,_⟩:=hR.fi id _ pR;obtain ⟨df,C,fr,g1,g2,g3,g4,g5,g6,g7,g8,g9⟩:=h2 g c1 c2;rw[p1] at g1;cases g1;have hsh:w.shape? pl.b=some (C4,C.size):=by simp[World.shape?,g2]
        have qq:=kL az hs
        let L:List UInt8:=l.map fun n=>UInt8.ofNat n
        have hLl:L.length=m+1:=by simp[L,hll]
        have cy:∀ j x,L[j]?=some x→w.cell? ((⟨pl.b,pl.base+off,none⟩:Addr).add j)=some (.int .u8 x.toNat):=by
         intro j x hx;have hj:j<m+1:=by
          rcases Nat.lt_or_ge j (m+1) with h0|h0
          ·exact h0
          ·rw[List.getElem?_eq_none (by omega)] at hx;cases hx
         obtain ⟨v,v1,v2⟩:=q6 j hj;rw[fG,v1,←v2,b1];simp only[L,List.getElem?_map] at hx ⊢;cases hlj:l[j]? with
         | none=>rw[hlj] at hx;cases hx
         | some y=>
          rw[hlj] at hx;simp only[Option.map_some,Option.some.injEq] at hx ⊢;subst hx;have:=b2 y (List.mem_of_getElem? hlj);simp only[UInt8.toNat_ofNat',Nat.mod_eq_of_lt this];rfl
        have hlb:=Lib.run_loadBytes (P:=P) w L ⟨pl.b,pl.base+off,none⟩ .empty cy;have hlies:=liesAt_one (P:=P) qq C.size (pl.base+off) (m+1) (by omega);obtain ⟨f1,f2⟩:=hR.freeze pR p1 (off:=pl.base+off) (Nat.succ_ne_zero m) (zM hmf);refine ⟨.string ⟨L.toArray⟩,_,?_,?_,f1,f2⟩
        ·rw[hLl] at hlb;rw[ustr];have h63:¬((m:Int)+1 > 9223372036854775807):=by omega
         have hneg:¬((m:Int)+1<0):=by omega
         have hz:¬((m:Int)+1=0):=by omega
         have htn:((m:Int)+1).toNat=m+1:=by omega
         simp only[asInt,asIntOf,Sem.run_bind,Sem.run_pure,Result.andThen_ok,ht,xu,Int.ofNat_eq_natCast,Int.natCast_add,Int.cast_ofNat_Int,if_neg hneg,if_neg h63,if_neg hz,htn];simp only[elemOf,aB az hu,Sem.run_bind,Sem.run_pure,Result.andThen_ok,variablesAt,run_program,run_shape,hsh];rw[qq,Nat.div_one,hlies];simp only[if_true,Sem.run_bind,hlb,Result.andThen_ok,run_freeze,Sem.run_pure];simp
        ·simp only[ah];exact ⟨_,rfl,bytes_str l b2⟩
   ·cases h
  ·cases h
theorem Ap {P:Program} {cx:Cx} (az:cX Λ P cx) {ρ:aI} {F:Fr} {S S':AS} {w:World} {a:Act} (hR:R Λ ρ S w) (hF:eh ρ F a) {o:Oper} {v:AV}
  (h:bo cx F S o=.val v S'):cr Λ P ρ S w (execOp a.eval o) v S':=by
 obtain ⟨dst,op,ty,pos,after,guard⟩:=o;have fr:∀ n,eK (aC cx F S.next op) S n=.val v S'→cr Λ P ρ S w (execOp a.eval ⟨dst,op,ty,pos,after,guard⟩) v S':=by
  intro n hh;cases hf:aC cx F S.next op with
  | none=>simp[eK,hf] at hh
  | some vo=>
   obtain ⟨u,obj⟩:=vo;simp only[eK,hf,AR.val.injEq] at hh;obtain ⟨rfl,rfl⟩:=hh;obtain ⟨s,e,hfo⟩:=z7 (P:=P) az hF (o:=⟨dst,op,ty,pos,after,guard⟩) hf w;rw[e];exact cr.sem (hfo.sem hR)
 cases op<;>simp only[bo,reduceCtorEq] at h
 case move x=>cases h;exact cr.val hR (hF.eval x)
 case assign x=>cases h;exact cr.val hR (hF.eval x)
 case pick c x y=>
  split at h
  ·rename_i hc;cases h;have:=E7 hc (hF.eval c);exact ⟨.value (a.eval x),a.eval x,ρ,w,by simp[execOp,this,asBool],rfl,hF.eval x,hR,Kp.refl _ _ _⟩
  ·rename_i hc;cases h;have:=E7 hc (hF.eval c);exact ⟨.value (a.eval y),a.eval y,ρ,w,by simp[execOp,this,asBool],rfl,hF.eval y,hR,Kp.refl _ _ _⟩
  ·cases h
 case alloc e=>exact fr _ h
 case box t x=>exact fr _ h
 case buildSlice t n parts=>exact fr _ h
 case makeMap t r=>exact fr _ h
 case makeSlice t l c=>exact fr _ h
 case build t parts=>
  obtain ⟨h1,rfl⟩:=cu h;exact cr.still hR (buildV_run az hF h1 w)
 case load t x=>
  split at h
  ·rename_i id g off ay he;have hx:=hF.eval x;rw[he] at hx;obtain ⟨l1,l2⟩:=load_var (t:=t) az hR hx;split at h
   ·rename_i ha;split at h
    ·rename_i n hs;split at h
     ·rename_i cs hr;cases h;exact cr.still hR (l1 n cs ha hs hr)
     ·cases h
    ·cases h
   ·rename_i ha;split at h
    ·rename_i u hr;cases h;exact cr.still hR (l2 _ ha hr)
    ·cases h
   ·cases h
  ·rename_i g off he;have hx:=hF.eval x;rw[he] at hx;simp only[ah] at hx;cases hg:cx.eU.get g with
   | none=>rw[hg] at h;cases h
   | some cs=>
    rw[hg] at h;obtain ⟨h1,rfl⟩:=cu h;have:=glob_load (P:=P) az hR hg h1;rw[←hx] at this;exact cr.still hR this
  ·cases h
 case store t x y=>
  split at h
  ·rename_i id g off ay cs n he hc hs;rw[bf,bp] at h;by_cases hn:cs.length=n
   ·rw[decide_eq_true hn] at h;simp only[cond_true] at h;split at h
    ·rename_i S1 oy;cases h;have hx:=hF.eval x;rw[he] at hx;simp only[ah] at hx;obtain ⟨pl,p1,p2,hxe⟩:=hx;have kH:=dj hc (hF.eval y);obtain ⟨w',r1,r2,r3⟩:=oW (P:=P) hR oy p1 p2 kH.1 kH.2;have gp:(a.eval y).cells.size=n:=by have:=kH.length;simp at this;omega
     refine ⟨.skip,undef,ρ,w',?_,rfl,eA ρ,r2,r3⟩;simp only[execOp,Instr.storeAt,hxe,Instr.sureAddr,storeVar,Sem.run_bind,Sem.run_pure,Result.andThen_ok,dP az hs];rw[if_neg (by simp[gp])];simp only[r1,Result.andThen_ok]
    ·cases h
   ·rw[decide_eq_false hn] at h;cases h
  ·cases h
 case nilCheck x=>
  have hx:=hF.eval x;split at h<;>(try (cases h;done))<;>rename_i he<;>cases h<;>rw[he] at hx
  ·obtain ⟨pl,p1,p2,e⟩:=(by simpa only[ah] using hx:∃ pl,_)
   have:execOp a.eval ⟨dst,.nilCheck x,ty,pos,after,guard⟩=pure (.value (a.eval x)):=by simp only[execOp,e]
   rw[this];exact cr.val hR hx
  ·have e:=(by simpa only[ah] using hx:a.eval x=_)
   have:execOp a.eval ⟨dst,.nilCheck x,ty,pos,after,guard⟩=pure (.value (a.eval x)):=by simp only[execOp,e]
   rw[this];exact cr.val hR hx
  ·obtain ⟨p,q,e,_⟩:=(by simpa only[ah] using hx:∃ p q,_)
   have:execOp a.eval ⟨dst,.nilCheck x,ty,pos,after,guard⟩=pure (.value (a.eval x)):=by simp only[execOp,e]
   rw[this];exact cr.val hR hx
  ·obtain ⟨p,q,e,_⟩:=fI hx;have:execOp a.eval ⟨dst,.nilCheck x,ty,pos,after,guard⟩=pure (.value (a.eval x)):=by simp only[execOp,e]
   rw[this];exact cr.val hR hx
  ·obtain ⟨p,q,e⟩:=(by simpa only[ah] using hx:∃ p,_)
   have:execOp a.eval ⟨dst,.nilCheck x,ty,pos,after,guard⟩=pure (.value (a.eval x)):=by simp only[execOp,e]
   rw[this];exact cr.val hR hx
  ·rename_i k i;obtain ⟨p,q,e⟩:=(by simpa only[ah] using hx:∃ p,_)
   have:execOp a.eval ⟨dst,.nilCheck x,ty,pos,after,guard⟩=pure (.value (a.eval x)):=by cases k<;>simp only[execOp,e,OK.val]
   rw[this];exact cr.val hR hx
 case binOp op t x y yt=>
  obtain ⟨h1,rfl⟩:=cu h;refine cr.still (s:=do eqGuard op t x y (a.eval x) (a.eval y);binOp op t (a.eval x) (a.eval y)) hR (binV_run az h1 ?_ (hF.eval x) (hF.eval y) w);cases x<;>cases y<;>rfl
 case unOp op t x=>
  obtain ⟨h1,rfl⟩:=cu h;exact cr.still hR (unV_run h1 (hF.eval x) w)
 case convert src dst x=>
  have hx:=hF.eval x;split at h
  ·rename_i ds k k0 n qO pP he;cases h;rw[he] at hx;simp only[ah] at hx;refine cr.still hR ⟨.int k (k.wrap n),?_,by rw[iq];simp[ah]⟩;simp only[convert,Sem.run_bind,aB az qO,aB az pP,Result.andThen_ok,hx];rfl
  ·rename_i ds s qO pP he;cases h;rw[he] at hx;have nG:=hx;simp only[ah] at nG;obtain ⟨b,hb,_⟩:=nG;refine cr.still hR ⟨a.eval x,?_,hx⟩;simp only[convert,Sem.run_bind,aB az qO,aB az pP,Result.andThen_ok,hb];rfl
  ·rename_i ds e s qO pP he;split at h
   ·rename_i hu3;cases h;rw[he] at hx;simp only[ah] at hx;obtain ⟨b,hb,yx⟩:=hx;refine cr.sem ?_;obtain ⟨z,ρ',w',r1,r2,r3,r4⟩:=s2b_run (P:=P) (e:=e) hR yx;refine ⟨z,ρ',w',?_,r2,r3,r4⟩;simp only[convert,Sem.run_bind,aB az qO,aB az pP,Result.andThen_ok,hb];simp only[aB az hu3,Result.andThen_ok];exact r1
   ·cases h
  ·rename_i xx e qO pP uB;have hconv:∀ (ad:Option Addr) (l c:Nat),aY cx e=some (.int .u8)→(convert src dst (.slice ad l c)).run P w=(Conv.bytesToString (.slice ad l c)).run P w:=
    fun ad l c hu3=>run_convert_bytes_string w src dst e ad l c (c8 az qO) (c8 az hu3) (c8 az pP)
   split at h
   ·rename_i hu3 he;cases h;rw[he] at hx;simp only[ah] at hx;refine cr.still hR ⟨.string .empty,?_,by simp only[ah];exact ⟨_,rfl,rfl⟩⟩;rw[hx,hconv _ _ _ hu3];rfl
   ·rename_i id g off len ay cap hu3 he;rw[he] at hx;obtain ⟨ad,c,e1,hlc,_⟩:=fI hx;cases len with
    | zero=>
     cases h;refine cr.still hR ⟨.string .empty,?_,by simp only[ah];exact ⟨_,rfl,rfl⟩⟩;rw[e1,hconv _ _ _ hu3,run_bytesToString w ad 0 c [] rfl];rfl
    | succ l=>
     simp only[] at h;split at h
     ·rename_i cs hr;split at h
      ·rename_i bs yx;cases h;simp only[ah] at hx;obtain ⟨pl,c',p1,p2,p3,p4,p5,hh⟩:=hx;rcases hh with ⟨e2,_⟩|⟨e2,_⟩
       ·rw[e1] at e2;cases e2;obtain ⟨arr,q1,q2,q3,q4,_⟩:=jA (P:=P) hR hr p1 p2;obtain ⟨b1,b2⟩:=xX cs bs arr.toList ρ yx q3;have fV:arr=((bs.map Int.ofNat).map (Value.int .u8)).toArray:=Array.ext' (by simpa using b1);rw[fV] at q1;refine cr.still hR ⟨.string ((bs.map Int.ofNat).foldl (fun r n=>r.push (UInt8.ofNat n.toNat)) ByteArray.empty),?_,?_⟩
        ·rw[e1,hconv _ _ _ hu3];exact run_bytesToString w _ (l+1) c _ q1
        ·simp only[ah];exact ⟨_,rfl,AF bs b2⟩
       ·omega
      ·cases h
     ·cases h
   ·cases h
  ·rename_i e0 e id g off len ay sz cap qO pP he;rw[bf,gI] at h;cases rY:(decide (src=dst)&&decide (0<len)) with
   | false=>rw[rY] at h;cases h
   | true=>
   rw[rY] at h;simp only[cond_true] at h;simp only[Bool.and_eq_true,decide_eq_true_eq] at rY;obtain ⟨hsd,hlen⟩:=rY;split at h
   ·rename_i cells low top frz C4 hu3 pR;rw[cn,cn] at h;cases hc:(decide (low≤g)&&decide (g≤top)&&qN frz low) with
    | false=>rw[hc] at h;cases h
    | true=>
     rw[hc] at h;simp only[cond_true,AR.val.injEq] at h;obtain ⟨rfl,rfl⟩:=h;simp only[Bool.and_eq_true,decide_eq_true_eq] at hc;obtain ⟨hc,hmf⟩:=hc;rw[he] at hx;have nG:=hx;simp only[ah] at nG;obtain ⟨pl,c,p1,p2,p3,p4,p5,hh⟩:=nG;rcases hh with ⟨e2,_⟩|⟨e2,_⟩
     ·obtain ⟨_,hgs,_⟩:=hR.fi id _ pR;obtain ⟨df,C,fr,g1,g2,_⟩:=hgs g hc.1 hc.2;rw[p1] at g1;cases g1;have hsh:w.shape? pl.b=some (C4,C.size):=by simp[World.shape?,g2]
      obtain ⟨t1,t2⟩:=hR.freeze (off:=C.size) (n:=1) pR p1 (by omega) (zM hmf);refine cr.sem ⟨a.eval x,ρ,_,?_,hx,t1,t2⟩;rw[e2];simp only[convert,Sem.run_bind,aB az qO,aB az pP,Result.andThen_ok];simp only[aB az hu3,Result.andThen_ok,hsd,beq_self_eq_true,markStringish,Sem.run_bind,run_shape,hsh,run_freeze,Sem.run_pure]
     ·omega
   ·cases h
  ·rename_i e id g off ay qO pP he;split at h
   ·rename_i z cells low top frz C4 hs pR;rw[gI,cn,cn] at h;cases hc:(decide (off<ay)&&decide (low≤g)&&decide (g≤top)) with
    | false=>rw[hc] at h;cases h
    | true=>
     rw[hc] at h;simp only[cond_true,AR.val.injEq] at h;obtain ⟨rfl,rfl⟩:=h;simp only[Bool.and_eq_true,decide_eq_true_eq] at hc;obtain ⟨⟨bK,hc1⟩,hc2⟩:=hc;rw[he] at hx;have nG:=hx;simp only[ah] at nG;obtain ⟨pl,p1,p2,e1⟩:=nG;obtain ⟨N,hsh,hof⟩:=ptr_shape hR pR hc1 hc2 p1 p2 bK;refine cr.still hR ⟨a.eval x,?_,hx⟩;obtain ⟨i,hi,hiz⟩:=xi hs;rw[e1];exact Lib.run_to_unsafe w ⟨pl.b,pl.base+off,none⟩ (c8 az qO) (c8 az pP) (az.jW _ _ hi) (by rw[hiz];exact Nat.succ_ne_zero _) hsh hof
   ·cases h
  ·rename_i u id g off ay qO pP he;split at h
   ·rename_i z cells low top frz C4 hs pR;rw[bf,cn,bf] at h;cases hc:(decide (C4=u)&&decide (Nat.succ z≤ay)&&decide (low=0)) with
    | false=>rw[hc] at h;cases h
    | true=>
     rw[hc] at h;simp only[cond_true,AR.val.injEq] at h;obtain ⟨rfl,rfl⟩:=h;simp only[Bool.and_eq_true,decide_eq_true_eq] at hc;obtain ⟨⟨rfl,hzl⟩,rfl⟩:=hc;rw[he] at hx;have nG:=hx;simp only[ah] at nG;obtain ⟨pl,p1,p2,e1⟩:=nG;obtain ⟨_,h2,_⟩:=hR.fi id _ pR;obtain ⟨df,C,fr,g1,g2,g3,g4,g5,g6,g7,g8,g9⟩:=h2 0 (Nat.le_refl _) (Nat.zero_le _);rw[p1] at g1;cases g1;obtain ⟨i,hi,hiz⟩:=xi hs;have hsh:w.shape? pl.b=some (C4,C.size):=by simp[World.shape?,g2]
     have qq:=kL az hs;refine cr.still hR ⟨a.eval x,?_,hx⟩;rw[e1];refine Lib.run_from_unsafe w ⟨pl.b,pl.base+0,none⟩ (c8 az qO) (c8 az pP) (az.jW _ _ hi) hsh ?_;rw[g9.1 rfl];refine DO qq (Nat.succ_ne_zero _) _ ?_;rw[qq];exact (Nat.le_div_iff_mul_le (Nat.succ_pos _)).2 (by omega)
   ·cases h
  ·cases h
 case makeInterface t x=>
  split at h
  ·cases h
  ·rename_i d hu hd;cases h;refine cr.still hR ⟨.iface t (a.eval x),?_,by simp only[ah];exact ⟨_,rfl,hF.eval x⟩⟩;simp only[Instr.makeInterface,Sem.run_bind,aB az hd,Result.andThen_ok];cases d<;>first|rfl|exact absurd rfl (hu _)
  ·cases h
 case makeFunc fn first captured=>
  cases h;refine cr.still hR ⟨.func fn (first.map a.eval) (captured.map a.eval),rfl,?_⟩;simp only[ah];exact ⟨_,_,rfl,kO hF first,kO hF captured⟩
 case slice t x lo hi mx=>
  obtain ⟨h1,rfl⟩:=cu h;exact cr.still hR (sliceV_run az hF h1 (hF.eval x) w)
 case fieldAddr s x f=>
  split at h
  ·rename_i fs id g off ay hu he;rw[gf] at h;split at h
   ·rename_i fd hf;split at h
    ·rename_i z hs;rw[aH] at h;cases h;have hx:=hF.eval x;rw[he] at hx;simp only[ah] at hx;obtain ⟨pl,p1,p2,e⟩:=hx;have Bu:fs[f]?=some fd:=by rw[←Array.getElem?_toList];exact hf
     refine cr.still hR ⟨.pointer (some ⟨pl.b,pl.base+(off+fd.offset),none⟩),?_,by simp only[ah];exact ⟨pl,p1,p2,rfl⟩⟩;simp only[Instr.fieldAt,Sem.run_bind,aB az hu,Result.andThen_ok,Bu,e,Instr.sureAddr,Sem.run_pure,fieldPlace,dP az hs];rw[if_neg (Nat.succ_ne_zero z),fG,Nat.add_assoc];rfl
    ·cases h
   ·cases h
  ·cases h
 case field t x f=>
  split at h
  ·rename_i fs cs hu he;rw[gf] at h;split at h
   ·rename_i fd hf;obtain ⟨h1,rfl⟩:=cu h;have hx:=hF.eval x;rw[he] at hx;simp only[ah] at hx;obtain ⟨arr,e,p,q⟩:=hx;have Bu:fs[f]?=some fd:=by rw[←Array.getElem?_toList];exact hf
    obtain ⟨z,r1,r2⟩:=lS az h1 p q w;refine cr.still hR ⟨z,?_,r2⟩;simp only[Instr.field,Sem.run_bind,aB az hu,Result.andThen_ok,Bu,e,asAgg,Sem.run_pure,r1]
   ·cases h
  ·cases h
 case indexAddr t x ix=>
  split at h
  ·rename_i e id g off len ay sz cap i hu he hi;split at h
   ·rename_i z hs;rw[bf,gI,aH] at h;cases hc:(decide (z=sz)&&decide (i<len)) with
    | false=>simp[hc] at h
    | true=>
     simp only[hc,cond_true,AR.val.injEq] at h;obtain ⟨rfl,rfl⟩:=h;simp only[Bool.and_eq_true,decide_eq_true_eq] at hc;obtain ⟨rfl,bK⟩:=hc;have hx:=hF.eval x;rw[he] at hx;simp only[ah] at hx;obtain ⟨pl,c,p1,p2,p3,p4,p5,hh⟩:=hx;obtain ⟨k,hk⟩:=fJ hi (hF.eval ix);rcases hh with ⟨e1,_⟩|⟨e1,_⟩
     ·refine cr.still hR ⟨.pointer (some ⟨pl.b,pl.base+(off+i*z),none⟩),?_,by simp only[ah];exact ⟨pl,p1,p2,rfl⟩⟩;have yw:(0:Int)≤(i:Int)∧(i:Int)<(len:Int):=by omega
      simp only[Instr.indexAt,hk,asIntOf,Sem.run_bind,Sem.run_pure,aB az hu,Result.andThen_ok,e1,if_pos yw,dP az hs,Int.toNat_natCast,fG,Nat.add_assoc]
     ·omega
   ·cases h
  ·rename_i n e id g off ay i hu he hi;split at h
   ·rename_i z hs;rw[gI,aH] at h;by_cases bK:i<n
    ·rw[decide_eq_true bK] at h;simp only[cond_true,AR.val.injEq] at h;obtain ⟨rfl,rfl⟩:=h;have hx:=hF.eval x;rw[he] at hx;simp only[ah] at hx;obtain ⟨pl,p1,p2,e1⟩:=hx;obtain ⟨k,hk⟩:=fJ hi (hF.eval ix);refine cr.still hR ⟨.pointer (some ⟨pl.b,pl.base+(off+i*z),none⟩),?_,by simp only[ah];exact ⟨pl,p1,p2,rfl⟩⟩;have yw:(0:Int)≤(i:Int)∧(i:Int)<(n:Int):=by omega
     simp only[Instr.indexAt,hk,asIntOf,Sem.run_bind,Sem.run_pure,aB az hu,Result.andThen_ok,e1,Instr.sureAddr,if_pos yw,dP az hs,Int.toNat_natCast,fG,Nat.add_assoc]
    ·rw[decide_eq_false bK] at h;cases h
   ·cases h
  ·rename_i n e g off i hu he hi;split at h
   ·rename_i z hs;rw[gI,aH] at h;by_cases bK:i<n
    ·rw[decide_eq_true bK] at h;simp only[cond_true,AR.val.injEq] at h;obtain ⟨rfl,rfl⟩:=h;have hx:=hF.eval x;rw[he] at hx;simp only[ah] at hx;obtain ⟨k,hk⟩:=fJ hi (hF.eval ix);refine cr.still hR ⟨.pointer (some ⟨g,off+i*z,none⟩),?_,by simp only[ah];rfl⟩;have yw:(0:Int)≤(i:Int)∧(i:Int)<(n:Int):=by omega
     simp only[Instr.indexAt,hk,asIntOf,Sem.run_bind,Sem.run_pure,aB az hu,Result.andThen_ok,hx,Instr.sureAddr,if_pos yw,dP az hs,Int.toNat_natCast,fG]
    ·rw[decide_eq_false bK] at h;cases h
   ·cases h
  ·cases h
 case index t x ix=>
  split at h
  ·rename_i s i hu he hi;rw[gf] at h;split at h
   ·rename_i n hn;cases h;have hx:=hF.eval x;rw[he] at hx;simp only[ah] at hx;obtain ⟨b,e,hb⟩:=hx;obtain ⟨k,hk⟩:=fJ hi (hF.eval ix);rw[←hb,List.getElem?_map] at hn;cases hbi:b.data.toList[i]? with
    | none=>rw[hbi] at hn;cases hn
    | some c=>
     rw[hbi] at hn;simp only[Option.map_some,Option.some.injEq] at hn;subst hn;have bK:i<b.size:=by
      rcases Nat.lt_or_ge i b.size with h0|h0
      ·exact h0
      ·rw[List.getElem?_eq_none (show b.data.toList.length≤i from h0)] at hbi;cases hbi
     refine cr.still hR ⟨.int .u8 (c.toNat:Int),?_,by simp[ah]⟩;have h0:(0:Int)≤(i:Int):=by omega
     have hg:b[i]?=some c:=by
      rw[ByteArray.getElem?_lt' b i bK];have:b.data.toList[i]?=some (b[i]):=by
       rw[List.getElem?_eq_getElem (show i<b.data.toList.length from bK)];rfl
      rw[hbi] at this;exact this.symm
     simp only[Instr.index,hk,asIntOf,Sem.run_bind,Sem.run_pure,aB az hu,Result.andThen_ok,e,if_pos h0,Int.toNat_natCast,hg]
   ·cases h
  ·rename_i n e cs i hu he hi;split at h
   ·rename_i z hs;rw[gI] at h;by_cases bK:i<n
    ·rw[decide_eq_true bK] at h;simp only[cond_true] at h;obtain ⟨h1,rfl⟩:=cu h;have hx:=hF.eval x;rw[he] at hx;simp only[ah] at hx;obtain ⟨arr,e1,p,q⟩:=hx;obtain ⟨k,hk⟩:=fJ hi (hF.eval ix);obtain ⟨zv,r1,r2⟩:=lS az h1 p q w;refine cr.still hR ⟨zv,?_,r2⟩;have yw:(0:Int)≤(i:Int)∧(i:Int)<(n:Int):=by omega
     simp only[Nat.mul_eq] at r1;simp only[Instr.index,hk,asIntOf,Sem.run_bind,Sem.run_pure,aB az hu,Result.andThen_ok,e1,if_pos yw,dP az hs,Int.toNat_natCast,r1]
    ·rw[decide_eq_false bK] at h;cases h
   ·cases h
  ·cases h
 case lookup t x ix ok=>
  obtain ⟨h1,rfl⟩:=cu h;exact cr.still hR (DM az hR h1 (hF.eval x) (hF.eval ix))
 case mapUpdate t m k x=>
  obtain ⟨w',r1,rfl,r3,r4⟩:=ug az hR (fC h) (hF.eval m) (hF.eval k) (hF.eval x);exact ⟨.skip,undef,ρ,w',by simp only[execOp,Sem.run_bind,r1,Result.andThen_ok,Sem.run_pure],rfl,eA ρ,r3,r4⟩
 case insert t m k x=>
  obtain ⟨w',r1,rfl,r3,r4⟩:=ug az hR (fC h) (hF.eval m) (hF.eval k) (hF.eval x);exact ⟨.skip,undef,ρ,w',by simp only[execOp,Sem.run_bind,r1,Result.andThen_ok,Sem.run_pure],rfl,eA ρ,r3,r4⟩
 case mapEntry t m k=>exact cr.sem (EH az hR (fC h) (hF.eval m) (hF.eval k))
 case entryStore t m k x=>
  obtain ⟨w',r1,rfl,r3,r4⟩:=EG (P:=P) (t:=t) hR (fC h) (hF.eval m) (hF.eval k) (hF.eval x);exact ⟨.skip,undef,ρ,w',by simp only[execOp,Sem.run_bind,r1,Result.andThen_ok,Sem.run_pure],rfl,eA ρ,r3,r4⟩
 case range t x=>exact cr.sem (rangeV_run az hR (fC h) (hF.eval x))
 case next x str=>exact cr.sem (nextV_val (P:=P) hR h (hF.eval x))
 case entry x=>
  obtain ⟨h1,rfl⟩:=cu h;exact cr.still hR (entryV_run hR h1 (hF.eval x))
 case panic x=>split at h<;>cases h
 case typeAssert x xt t ok=>
  obtain ⟨h1,rfl⟩:=cu h;exact cr.still hR (Ff az h1 (hF.eval x))
 case extract x i=>
  split at h
  ·rename_i vs he;obtain ⟨h1,rfl⟩:=cu h;have hx:=hF.eval x;rw[he] at hx;simp only[ah] at hx;obtain ⟨arr,e,hl⟩:=hx;rw[gf] at h1;obtain ⟨y,hy,ox⟩:=hl.get h1;refine cr.still hR ⟨y,?_,ox⟩;have hy':arr[i]?=some y:=by rw[←Array.getElem?_toList];exact hy
   simp only[Instr.extract,e,hy',Sem.run_pure]
  ·cases h
 case call c=>
  obtain ⟨callee,as,lF⟩:=c;cases callee with
  | value f=>
   simp only[] at h;unfold mr at h;split at h
   ·rename_i g first captured he
    cases hxt:cx.exts.get g with
    | none=>rw[hxt] at h;cases h
    | some xt=>
     rw[hxt] at h;have h1:=fC h;have hf:=hF.eval f;rw[he] at hf;simp only[ah] at hf;obtain ⟨p,q,e,hp,hq⟩:=hf;simp only[bw] at h1;obtain ⟨z,ρ2,w2,r1,r2,r3,r4⟩:=extM_run hR az hxt h1 (args:=p++as.map a.eval++q) (by
      simp only[Array.toList_append,List.append_assoc];exact hp.append ((kO hF as).append hq))
     refine ⟨.value z,z,ρ2,w2,?_,rfl,r2,r3,r4⟩;have hex:execOp a.eval ⟨dst,.call ⟨.value f,as,lF⟩,ty,pos,after,guard⟩=callFunc g (p++as.map a.eval++q):=by
      simp only[execOp,resolve,e,Deferred.ofValue];rfl
     rw[hex];exact r1
   ·cases h
   ·cases h
  | invoke r m=>cases h
  | builtin b=>
   simp only[] at h;have dh:=kO hF as;have hex:execOp a.eval ⟨dst,.call ⟨.builtin b,as,lF⟩,ty,pos,after,guard⟩=builtin b lF ty (as.map fun | .const _=>true|_=>false) (as.map a.eval):=by
    simp only[execOp,resolve];rfl
   rw[hex];unfold aZ at h;split at h
   ·rename_i t ts' x xs ht ha;split at h
    ·rename_i n hn;rw[aH] at h;cases h;rw[ha] at dh;simp only[au] at dh;obtain ⟨y,ys,hy,ox,_⟩:=dh;have h0:(as.map a.eval)[0]?=some y:=by rw[←Array.getElem?_toList,hy];rfl
     have t0:lF[0]?=some t:=by rw[←Array.getElem?_toList,ht];rfl
     exact cr.still hR ⟨goInt n,lenV_run az hR hn t0 h0 ox,by simp[ah,goInt]⟩
    ·cases h
   ·rename_i t ts' x xs ht ha;have t0:lF[0]?=some t:=by rw[←Array.getElem?_toList,ht];rfl
    rw[ha] at dh;simp only[au] at dh;obtain ⟨y,ys,hy,ox,_⟩:=dh;have h0:(as.map a.eval)[0]?=some y:=by rw[←Array.getElem?_toList,hy];rfl
    have mk:∀ (n:Nat),(Builtin.cap_ lF ty (as.map a.eval)).run P w=.ok (goInt n) w→cr Λ P ρ S w (builtin .cap lF ty (as.map fun | .const _=>true|_=>false) (as.map a.eval)) (.int .i64 (.ofNat n)) S:=
     fun n hr=>cr.still hR ⟨goInt n,hr,by simp[ah,goInt]⟩
    split at h
    ·rename_i e hu;cases h;simp only[ah] at ox;refine mk 0 ?_;unfold Builtin.cap_;simp only[t0,h0,Sem.run_bind,aB az hu,Result.andThen_ok,ox,Sem.run_pure]
    ·rename_i e id g off len ay sz c hu;cases h;obtain ⟨ad,c',e1,_,hc⟩:=fI ox;obtain rfl:=hc c rfl;refine mk c' ?_;unfold Builtin.cap_;simp only[t0,h0,Sem.run_bind,aB az hu,Result.andThen_ok,e1,Sem.run_pure]
    ·rename_i n e hu;cases h;refine mk n ?_;unfold Builtin.cap_;simp only[t0,h0,Sem.run_bind,aB az hu,Result.andThen_ok];cases y<;>rfl
    ·cases h
   ·rename_i t u ts' sA xA ht ha;have t0:lF[0]?=some t:=by rw[←Array.getElem?_toList,ht];rfl
    have t1:lF[1]?=some u:=by rw[←Array.getElem?_toList,ht];rfl
    rw[ha] at dh;simp only[au] at dh;obtain ⟨y,_,hy,ox,y2,_,rfl,u7,rfl⟩:=dh;have hav:as.map a.eval=#[y,y2]:=Array.ext' (by rw[hy]);split at h
    ·rename_i e ku hu qO;rw[hav];exact cr.sem (appZ_run az hR (fC h) t0 t1 hu qO ox u7)
    ·rename_i e du hnu hu qO;split at h
     ·rename_i z bs hs hb;cases hz:ja cx e (Nat.succ z) with
      | false=>simp[hz] at h
      | true=>
       simp only[hz,cond_true] at h;rw[hav];exact cr.sem (Fg az hR (fC h) t0 t1 hu qO hnu hs (Nat.succ_pos _) hb hz ox u7)
     ·cases h
    ·cases h
   ·rename_i t ts' dA xA ht ha;have t0:lF[0]?=some t:=by rw[←Array.getElem?_toList,ht];rfl
    rw[ha] at dh;simp only[au] at dh;obtain ⟨y,_,hy,ox,y2,_,rfl,u7,rfl⟩:=dh;have hav:as.map a.eval=#[y,y2]:=Array.ext' (by rw[hy]);split at h
    ·rename_i e hu;split at h
     ·rename_i z hs;rw[hav];exact cr.sem (copyV_run az hR (fC h) t0 hu hs ox u7)
     ·cases h
    ·cases h
   ·rename_i ha;cases h;rw[ha] at dh;simp only[au] at dh;obtain ⟨y,_,hy,ox,rfl⟩:=dh;have hav:as.map a.eval=#[y]:=Array.ext' (by rw[hy]);simp only[ah] at ox;subst ox;rw[hav];exact cr.still hR (s:=Builtin.unsafeSliceData_ lF ty #[.slice none 0 0]) ⟨.pointer none,Lib.run_unsafeSliceData_nil w lF ty 0 0,by simp[ah]⟩
   ·rename_i id g off len ay sz cap ha;rw[gI] at h;by_cases hl:0<len
    ·rw[decide_eq_true hl] at h;simp only[cond_true,AR.val.injEq] at h;obtain ⟨rfl,rfl⟩:=h;rw[ha] at dh;simp only[au] at dh;obtain ⟨y,_,hy,ox,rfl⟩:=dh;have hav:as.map a.eval=#[y]:=Array.ext' (by rw[hy]);simp only[ah] at ox;obtain ⟨pl,c,p1,p2,p3,p4,p5,hh⟩:=ox;rcases hh with ⟨rfl,_⟩|⟨e2,_⟩
     ·rw[hav];exact cr.still hR (s:=Builtin.unsafeSliceData_ lF ty #[.slice (some ⟨pl.b,pl.base+off,none⟩) len c]) ⟨_,Lib.run_unsafeSliceData_row w lF ty _ len c (by omega),by simp only[ah];exact ⟨pl,p1,p2,rfl⟩⟩
     ·omega
    ·rw[decide_eq_false hl] at h;cases h
   ·rename_i t ts' p k n ht ha;have t0:lF[0]?=some t:=by rw[←Array.getElem?_toList,ht];rfl
    rw[ha] at dh;simp only[au] at dh;obtain ⟨y,_,hy,ox,y2,_,rfl,u7,rfl⟩:=dh;have hav:as.map a.eval=#[y,y2]:=Array.ext' (by rw[hy]);simp only[ah] at u7;subst u7;rw[hav];obtain ⟨z,w',r1,r2,r3,r4⟩:=ustrV_run (P:=P) (ty:=ty) (k:=k) az hR (fC h) t0 ox;exact cr.sem (s:=Builtin.unsafeString_ lF ty #[y,.int k (.ofNat n)]) ⟨z,ρ,w',r1,r2,r3,r4⟩
   ·rename_i t ts' x k ht ha;have t0:lF[0]?=some t:=by rw[←Array.getElem?_toList,ht];rfl
    rw[ha] at dh;simp only[au] at dh;obtain ⟨y,_,hy,ox,y2,_,rfl,u7,rfl⟩:=dh;have hav:as.map a.eval=#[y,y2]:=Array.ext' (by rw[hy]);rw[hav];obtain ⟨w',r1,rfl,r3,r4⟩:=ER (P:=P) (ty:=ty) az hR (fC h) t0 ox u7;exact cr.sem (s:=Builtin.delete_ lF ty #[y,y2]) ⟨undef,ρ,w',r1,eA ρ,r3,r4⟩
   ·rename_i t ts' x ht ha;have t0:lF[0]?=some t:=by rw[←Array.getElem?_toList,ht];rfl
    rw[ha] at dh;simp only[au] at dh;obtain ⟨y,_,hy,ox,rfl⟩:=dh;have hav:as.map a.eval=#[y]:=Array.ext' (by rw[hy]);rw[hav];obtain ⟨w',r1,rfl,r3,r4⟩:=clearV_run (P:=P) (ty:=ty) az hR (fC h) t0 ox;exact cr.sem (s:=Builtin.clear_ lF ty #[y]) ⟨undef,ρ,w',r1,eA ρ,r3,r4⟩
   ·rename_i k n l ha;obtain ⟨h1,rfl⟩:=cu h;rw[ha] at dh;simp only[au] at dh;obtain ⟨y,ys,hy,ox,hys⟩:=dh;simp only[ah] at ox;subst ox;obtain ⟨z,r1,r2⟩:=z9 (P:=P) false l ρ k n v ys (by simpa using h1) hys w;refine cr.still hR ⟨z,?_,r2⟩;simp only[Builtin.min_,hy];simpa using r1
   ·rename_i k n l ha;obtain ⟨h1,rfl⟩:=cu h;rw[ha] at dh;simp only[au] at dh;obtain ⟨y,ys,hy,ox,hys⟩:=dh;simp only[ah] at ox;subst ox;obtain ⟨z,r1,r2⟩:=z9 (P:=P) true l ρ k n v ys (by simpa using h1) hys w;refine cr.still hR ⟨z,?_,r2⟩;simp only[Builtin.max_,hy];simpa using r1
   ·cases h
def ji:AR→Bool
 | .val ..=>true
 | .err _=>true
 | _=>false
theorem ij (v:Option AV) (S:AS) (n:Nat):ji (val? v S n)=true:=by cases v<;>rfl
theorem dg (v:Option (AV×AS)) (n:Nat):ji (cG v n)=true:=by cases v<;>rfl
theorem Dt (r:Option (AV×bE)) (S:AS) (n:Nat):ji (eK r S n)=true:=by cases r<;>rfl
theorem dQ {c:Bool} {a b:AR} (ha:ji a=true) (hb:ji b=true):ji (cond c a b)=true:=by cases c<;>assumption
theorem yH (cx:Cx) (S:AS) (b:Builtin) (ts:List TypeId) (as:List AV):ji (aZ cx S b ts as)=true:=by
 unfold aZ;split
 ·split<;>rfl
 ·split<;>rfl
 ·split
  ·exact dg _ _
  ·split
   ·exact dQ (dg _ _) rfl
   ·rfl
  ·rfl
 ·split
  ·split
   ·exact dg _ _
   ·rfl
  ·rfl
 ·rfl
 ·exact dQ rfl rfl
 ·exact dg _ _
 ·exact dg _ _
 ·exact dg _ _
 ·exact ij _ _ _
 ·exact ij _ _ _
 ·rfl
theorem aop_plain {cx:Cx} {F:Fr} {S:AS} {o:Oper} (h1:∀ f args lF,o.op≠.call ⟨.value f,args,lF⟩) (h2:∀ x s,o.op≠.next x s) (h3:∀ x,o.op≠.panic x):ji (bo cx F S o)=true:=by
 obtain ⟨dst,op,ty,pos,after,guard⟩:=o;cases op<;>simp only[bo]<;>(try rfl)<;>(try exact ij _ _ _)<;>(try exact dg _ _)<;>(try exact Dt _ _ _)
 case pick c x y=>split<;>rfl
 case load t x=>
  split
  ·split
   ·split
    ·split<;>rfl
    ·rfl
   ·split<;>rfl
   ·rfl
  ·split
   ·exact ij _ _ _
   ·rfl
  ·rfl
 case store t x y=>
  split
  ·exact dQ (by split<;>rfl) rfl
  ·rfl
 case nilCheck x=>split<;>rfl
 case convert src dst x=>
  split
  ·rfl
  ·rfl
  ·split<;>rfl
  ·split
   ·rfl
   ·split
    ·rfl
    ·split
     ·split<;>rfl
     ·rfl
   ·rfl
  ·refine dQ ?_ rfl;split
   ·exact dQ rfl rfl
   ·rfl
  ·split
   ·exact dQ rfl rfl
   ·rfl
  ·split
   ·exact dQ rfl rfl
   ·rfl
  ·rfl
 case makeInterface t x=>split<;>rfl
 case fieldAddr s x g=>
  split
  ·split
   ·split<;>rfl
   ·rfl
  ·rfl
 case field t x g=>
  split
  ·split
   ·exact ij _ _ _
   ·rfl
  ·rfl
 case indexAddr t x ix=>
  split
  ·split
   ·exact dQ rfl rfl
   ·rfl
  ·split
   ·exact dQ rfl rfl
   ·rfl
  ·split
   ·exact dQ rfl rfl
   ·rfl
  ·rfl
 case index t x ix=>
  split
  ·split<;>rfl
  ·split
   ·exact dQ (ij _ _ _) rfl
   ·rfl
  ·rfl
 case next x s=>exact absurd rfl (h2 x s)
 case panic x=>exact absurd rfl (h3 x)
 case extract x i=>
  split
  ·exact ij _ _ _
  ·rfl
 case call c=>
  obtain ⟨callee,xs,lF⟩:=c;cases callee with
  | value f=>exact absurd rfl (h1 f xs lF)
  | invoke r m=>rfl
  | builtin b=>exact yH _ _ _ _ _
theorem sE {cx:Cx} {F:Fr} {S:AS} {o:Oper} (h:ji (bo cx F S o)=false) :
  (∃ f args lF,o.op=.call ⟨.value f,args,lF⟩)∨(∃ x s,o.op=.next x s)∨∃ x,o.op=.panic x:=by
 by_cases h1:∃ f args lF,o.op=.call ⟨.value f,args,lF⟩
 ·exact .inl h1
 by_cases h2:∃ x s,o.op=.next x s
 ·exact .inr (.inl h2)
 by_cases h3:∃ x,o.op=.panic x
 ·exact .inr (.inr h3)
 rw[aop_plain (fun f a b e=>h1 ⟨f,a,b,e⟩) (fun x s e=>h2 ⟨x,s,e⟩) (fun x e=>h3 ⟨x,e⟩)] at h;cases h
theorem aop_many {P:Program} {cx:Cx} {ρ:aI} {F:Fr} {S:AS} {w:World} {a:Act} (hR:R Λ ρ S w) (hF:eh ρ F a) {o:Oper} {l:List (AV×AS)}
  (h:bo cx F S o=.many l) (cN:l≠[]):∃ r,r∈l∧cr Λ P ρ S w (execOp a.eval o) r.1 r.2:=by
 obtain ⟨dst,op,ty,pos,after,guard⟩:=o;rcases sE (by rw[h];rfl) with ⟨f,xs,lF,rfl⟩|⟨x,s,rfl⟩|⟨x,rfl⟩
 ·simp only[bo] at h;unfold mr at h;split at h
  ·split at h
   ·exact absurd (dg _ _) (by rw[h];simp[ji])
   ·cases h
  ·cases h
  ·cases h
 ·simp only[bo] at h;obtain ⟨r,hr,hs⟩:=nextV_many (P:=P) (ty:=ty) hR h cN (hF.eval x);exact ⟨r,hr,cr.sem hs⟩
 ·simp only[bo] at h;split at h<;>cases h
theorem wR {S S':AS} {x:AV} {s:Bool}:(∀ f as,lU S x s≠.enter f as S')∧(∀ i as,lU S x s≠.round i as S')∧(∀ v,lU S x s≠.dN v S'):=by
 unfold lU;refine ⟨fun f as h=>?_,fun i as h=>?_,fun v h=>?_⟩ <;>
 ·split at h
  ·split at h
   ·cases s
    ·cases h
    ·simp only[cond_true] at h;split at h
     ·rename_i b _;cases hb:Nat.blt b 128<;>rw[hb] at h<;>cases h
     ·cases h
   ·cases s<;>cases h
   ·cases s
    ·simp only[cond_false] at h;split at h<;>cases h
    ·cases h
   ·cases h
  ·cases h
theorem aop_pan {P:Program} {cx:Cx} {ρ:aI} {F:Fr} {S S':AS} {w:World} {a:Act} (hF:eh ρ F a) {o:Oper} {v:AV}
  (h:bo cx F S o=.dN v S'):S'=S∧(∃ x,o.op=.panic x)∧∃ x,(execOp a.eval o).run P w=.halt (.panic x) w∧ah ρ v x:=by
 obtain ⟨dst,op,ty,pos,after,guard⟩:=o;rcases sE (by rw[h];rfl) with ⟨f,xs,lF,rfl⟩|⟨x,s,rfl⟩|⟨x,rfl⟩
 ·simp only[bo] at h;unfold mr at h;split at h
  ·split at h
   ·exact absurd (dg _ _) (by rw[h];simp[ji])
   ·cases h
  ·cases h
  ·cases h
 ·simp only[bo] at h;exact absurd h (wR.2.2 v)
 ·simp only[bo] at h;split at h
  ·rename_i t u he;cases h;have hx:=hF.eval x;rw[he] at hx;refine ⟨rfl,⟨x,rfl⟩,a.eval x,?_,hx⟩;obtain ⟨y,e,_⟩:=(by simpa only[ah] using hx:∃ y,a.eval x=.iface t y∧ah ρ u y)
   simp only[execOp,e,Instr.panic,goPanic,Sem.run_bind];rfl
  ·cases h
theorem aop_enter {P:Program} {cx:Cx} {ρ:aI} {F:Fr} {S S':AS} {a:Act} (hF:eh ρ F a) {o:Oper} {f:FuncId} {as:List AV}
  (h:bo cx F S o=.enter f as S'):S'=S∧∃ args,(∀ w:World,(execOp a.eval o).run P w=(callFunc f args).run P w)∧au ρ as args.toList:=by
 obtain ⟨dst,op,ty,pos,after,guard⟩:=o;rcases sE (by rw[h];rfl) with ⟨fx,xs,lF,rfl⟩|⟨x,s,rfl⟩|⟨x,rfl⟩
 ·simp only[bo] at h;unfold mr at h;split at h
  ·rename_i g first captured he
   cases hxt:cx.exts.get g with
   | some xt=>
    rw[hxt] at h;simp only[] at h;exact absurd (dg _ _) (by rw[h];simp[ji])
   | none=>
    rw[hxt] at h;simp only[AR.enter.injEq,bw] at h;obtain ⟨rfl,rfl,rfl⟩:=h;have hf:=hF.eval fx;rw[he] at hf;simp only[ah] at hf;obtain ⟨p,q,e,hp,hq⟩:=hf;refine ⟨rfl,p++xs.map a.eval++q,fun w=>?_,?_⟩
    ·simp only[execOp,resolve,e,Deferred.ofValue];rfl
    ·simp only[Array.toList_append,List.append_assoc];exact hp.append ((kO hF xs).append hq)
  ·cases h
  ·cases h
 ·simp only[bo] at h;exact absurd h (wR.1 f as)
 ·simp only[bo] at h;split at h<;>cases h
theorem aop_round {P:Program} {cx:Cx} {ρ:aI} {F:Fr} {S S':AS} {a:Act} (hF:eh ρ F a) {o:Oper} {id:Nat} {as:List AV}
  (h:bo cx F S o=.round id as S'):S'=S∧∃ pl args,ρ id 0=some pl∧(∀ w:World,(execOp a.eval o).run P w=(Instr.yield pl.b args).run P w)∧au ρ as args.toList:=by
 obtain ⟨dst,op,ty,pos,after,guard⟩:=o;rcases sE (by rw[h];rfl) with ⟨fx,xs,lF,rfl⟩|⟨x,s,rfl⟩|⟨x,rfl⟩
 ·simp only[bo] at h;unfold mr at h;split at h
  ·split at h
   ·exact absurd (dg _ _) (by rw[h];simp[ji])
   ·cases h
  ·rename_i i he;cases h;have hf:=hF.eval fx;rw[he] at hf;simp only[ah] at hf;obtain ⟨pl,p1,e⟩:=hf;refine ⟨rfl,pl,xs.map a.eval,p1,fun w=>?_,kO hF xs⟩;simp only[OK.val] at e;simp only[execOp,resolve,e,Deferred.ofValue,invoke,Sem.run_bind,Sem.run_pure,Result.andThen_ok,Array.empty_append]
  ·cases h
 ·simp only[bo] at h;exact absurd h (wR.2.1 id as)
 ·simp only[bo] at h;split at h<;>cases h
end Go.Am
