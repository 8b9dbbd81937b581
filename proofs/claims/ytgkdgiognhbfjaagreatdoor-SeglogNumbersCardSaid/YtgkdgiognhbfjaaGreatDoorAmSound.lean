/-
  The abstract machine against the model: one operation.
-/
import Derived.Test.YtgkdgiognhbfjaaGreatDoorAmRange
import Derived.Laws.BytesString
import Derived.Laws.BytesArg
namespace Go.Am
open Go
variable {Λ:LB}
def bU (Λ:LB) (P:Program) (ρ:aB) (S:AS) (w:World) (s:Sem Next) (v:AV) (S':AS):Prop:=
 ∃ nx x ρ' w',s.run P w=.ok nx w'∧Ar nx=some x∧ah ρ' v x∧R Λ ρ' S' w'∧Kp ρ S w ρ' S' w'
theorem bU.Em {P:Program} {ρ:aB} {S S':AS} {w:World} {s:Sem Value} {v:AV} (h:oC Λ P ρ S w s v S'):bU Λ P ρ S w (do pure (.value (←s))) v S':=by
 obtain ⟨x,ρ',w',r1,r2,r3,r4⟩:=h;exact ⟨.value x,x,ρ',w',by simp only[Sem.run_bind,r1,Result.andThen_ok,Sem.run_pure],rfl,r2,r3,r4⟩
theorem bU.still {P:Program} {ρ:aB} {S:AS} {w:World} {s:Sem Value} {v:AV} (hR:R Λ ρ S w) (h:∃ z,s.run P w=.ok z w∧ah ρ v z):bU Λ P ρ S w (do pure (.value (←s))) v S:=by
 obtain ⟨z,r1,r2⟩:=h;exact bU.Em ⟨z,ρ,w,r1,r2,hR,Kp.refl _ _ _⟩
theorem bU.val {P:Program} {ρ:aB} {S:AS} {w:World} {x:Value} {v:AV} (hR:R Λ ρ S w) (h:ah ρ v x):bU Λ P ρ S w (pure (.value x)) v S:=
 ⟨.value x,x,ρ,w,rfl,rfl,h,hR,Kp.refl _ _ _⟩
theorem bW {v:Option AV} {S S':AS} {n:Nat} {u:AV} (h:val? v S n=.val u S'):v=some u∧S'=S:=by
 cases v with
 | none=>simp[val?] at h
 | some x=>simp only[val?,AR.val.injEq] at h;exact ⟨by rw[h.1],h.2.symm⟩
theorem eK {v:Option (AV×AS)} {S':AS} {n:Nat} {u:AV} (h:b8 v n=.val u S'):v=some (u,S'):=by
 cases v with
 | none=>simp[b8] at h
 | some x=>obtain ⟨a,b⟩:=x;simp only[b8,AR.val.injEq] at h;rw[h.1,h.2]
theorem DW {ρ:aB} {x:AV} {v:Value} {b:Bool} (h:x=.bool b) (hv:ah ρ x v):v=.bool b:=by subst h;simpa[ah] using hv
theorem load_var {P:Program} {cx:Cx} (au:cI Λ P cx) {ρ:aB} {S:AS} {w:World} (hR:R Λ ρ S w) {t:TypeId} {id g off aq:Nat} {x':Value} (hx:ah ρ (.ptr id g off aq) x') :
  (∀ n cs,bp cx t=some true→aD cx t=some n→rd S id g off n aq=some cs→∃ z,(Instr.loadAt t x').run P w=.ok z w∧ah ρ (.agg cs) z) ∧
  (∀ v,bp cx t=some false→rd S id g off 1 aq=some [v]→∃ z,(Instr.loadAt t x').run P w=.ok z w∧ah ρ v z):=by
 simp only[ah] at hx;obtain ⟨pl,p1,p2,rfl⟩:=hx;constructor
 ·intro n cs ha hs hr;obtain ⟨arr,q1,q2,q3,q4,_⟩:=iX (P:=P) hR hr p1 p2;exact ⟨.agg arr,by simp only[Instr.loadAt,Instr.sureAddr,loadVar,Sem.run_bind,Sem.run_pure,Result.andThen_ok,kz au ha,if_true,dg au hs,q1],by simp only[ah];exact ⟨arr,rfl,q3,q4⟩⟩
 ·intro v ha hr;obtain ⟨arr,q1,q2,q3,q4,q5,q6⟩:=iX (P:=P) hR hr p1 p2;obtain ⟨z,hz,hz2⟩:=q6 0 (by omega);refine ⟨z,?_,?_⟩
  ·simp only[Nat.add_zero] at hz;simp only[Instr.loadAt,Instr.sureAddr,loadVar,Sem.run_bind,Sem.run_pure,Result.andThen_ok,kz au ha,Bool.false_eq_true,if_false,run_load,hz]
  ·obtain ⟨y,hy,fJ⟩:=q3.get (i:=0) (x:=v) rfl;rw[hz2] at hy;cases hy;exact fJ
theorem xj:∀ (cs:List AV) (l:List Nat) (arr:List Value) (ρ:aB),ov cs=some l→ak ρ cs arr →
  arr=(l.map Int.ofNat).map (Value.int .u8)∧∀ n,n∈l→n<256:=by
 intro cs
 induction cs with
 | nil=>intro l arr ρ h hr;simp only[ak] at hr;have h':some []=some l:=h;cases h';exact ⟨hr,fun n hn=>by cases hn⟩
 | cons c cs ih=>
  intro l arr ρ h hr;simp only[ak] at hr;obtain ⟨y,ys,rfl,hy,hys⟩:=hr;have h':o7 c (ov cs)=some l:=h;unfold o7 at h';split at h'
  ·rename_i n l' sO;rw[gW] at h';by_cases hn:n<256
   ·rw[decide_eq_true hn] at h';simp only[cond_true,Option.some.injEq] at h';subst h';obtain ⟨i1,i2⟩:=ih l' ys ρ sO hys;simp only[ah] at hy;rw[i1,hy];exact ⟨rfl,fun m hm=>by cases hm with|head=>exact hn|tail _ h=>exact i2 m h⟩
   ·rw[decide_eq_false hn] at h';cases h'
  ·cases h'
theorem zU (l:List Nat) (h:∀ n,n∈l→n<256):((l.map Int.ofNat).foldl (fun r n=>r.push (UInt8.ofNat n.toNat)) ByteArray.empty).data.toList.map UInt8.toNat=l:=by
 rw[foldl_push_bytes];simp only[List.map_map];have e:(ByteArray.empty.data++(l.map ((fun n:Int=>UInt8.ofNat n.toNat)∘Int.ofNat)).toArray).toList=l.map fun n=>UInt8.ofNat n:=by
  simp[Function.comp]
 rw[e,List.map_map];have:∀ n,n∈l→(UInt8.toNat∘fun n=>UInt8.ofNat n) n=n:=fun n hn=>by
  simp only[Function.comp,UInt8.toNat_ofNat'];exact Nat.mod_eq_of_lt (h n hn)
 rw[List.map_congr_left this];simp
theorem s2b_run {P:Program} {ρ:aB} {S:AS} {w:World} (hR:R Λ ρ S w) {e:TypeId} {b:ByteArray} {s:List Nat} (hb:b.data.toList.map UInt8.toNat=s) :
  oC Λ P ρ S w (Conv.stringToBytes e b) (.slice S.next 0 0 s.length s.length 1 none) ⟨S.h.set S.next (.row (kq (fun n=>AV.int .u8 (.ofNat n)) s) 0 0 true e),Nat.succ S.next⟩:=by
 let q:Question:=.appendCap b.size 0 e
 let c:=q.cut (w.tape w.drawn q)
 have oW:b.size≤c:=Nat.le_add_right _ _
 let C:Array Value:=b.data.map (fun x=>Value.int .u8 x.toNat)++Array.replicate (c-b.size) (.int .u8 0)
 have hCs:C.size=c:=by simp[C];have:b.data.size=b.size:=rfl;omega
 let w':World:={ w with drawn:=w.drawn+1,heap:=w.heap.push (.cells C e (c,c+1)) }
 have eJ:=lu hb;have j7:kq (fun n=>AV.int .u8 (.ofNat n)) s=b.data.toList.map fun x=>AV.int .u8 (x.toNat:Int):=by
  rw[fo,←hb,List.map_map];rfl
 have hlen:(kq (fun n=>AV.int .u8 (.ofNat n)) s).length=s.length:=by rw[fo];simp
 have hrel:Cells ρ (kq (fun n=>AV.int .u8 (.ofNat n)) s) (C.toList.take (kq (fun n=>AV.int .u8 (.ofNat n)) s).length):=by
  have e1:C.toList.take (kq (fun n=>AV.int .u8 (.ofNat n)) s).length=b.data.toList.map fun x=>Value.int .u8 (x.toNat:Int):=by
   rw[hlen,←eJ];simp only[C,Array.toList_append,Array.toList_map];rw[List.take_append_of_le_length (by simp),List.take_of_length_le (by simp)]
  rw[e1,j7];refine ⟨ak.map _ _ (fun x=>by simp[ah]) _,fun x hx=>?_⟩;obtain ⟨y,_,rfl⟩:=List.mem_map.1 hx;rfl
 have hgrew:iy (.cells C e (c,c+1)) w w':=⟨⟨rfl,rfl,rfl⟩,rfl⟩
 have hones:dn C:=by
  refine dn.of fun v hv=>?_;simp only[C,Array.toList_append,Array.toList_map,List.mem_append,List.mem_map,Array.toList_replicate,List.mem_replicate] at hv;rcases hv with ⟨x,_,rfl⟩|hv
  ·rfl
  ·obtain ⟨_,rfl⟩:=hv;rfl
 obtain ⟨ρ',pl,p1,p2,p3,p4,p5,p6,p7⟩:=hR.newRowF (frz:=true) hgrew (fun h=>by cases h) hrel.1 (by rw[hlen,hCs];omega) hones;refine ⟨.slice (some ⟨w.heap.size,0,none⟩) s.length c,ρ',w',?_,?_,p6,p7⟩
 ·have hch:(choose (.appendCap b.size 0 e)).run P w=.ok c { w with drawn:=w.drawn+1 }:=by rw[run_choose];rfl
  unfold Conv.stringToBytes;simp only[Sem.run_bind,hch,Result.andThen_ok,Go.newRow,run_newObj,Sem.run_pure,markStringish,run_shape];have hsh:({ w with drawn:=w.drawn+1,heap:=w.heap.push (.cells C e) }:World).shape? w.heap.size=some (e,c):=by
   simp[World.shape?,hCs]
  have hfz:({ w with drawn:=w.drawn+1,heap:=w.heap.push (.cells C e) }:World).freeze { block:=w.heap.size,off:=c } 1=w':=by
   simp only[World.freeze,Nat.one_ne_zero,if_false,w'];congr 1;apply Array.ext_getElem?;intro i;rw[Array.getElem?_modify];by_cases hi:w.heap.size=i
   ·subst hi;simp
   ·rw[if_neg hi,Array.getElem?_push,Array.getElem?_push,if_neg (Ne.symm hi),if_neg (Ne.symm hi)]
  simp only[C] at hsh hfz;rw[hsh];simp only[run_freeze,Result.andThen_ok];rw[hfz,eJ]
 ·exact ah.fF pl c p1 (by rw[p4,hlen];exact Nat.le_refl _) (by omega) (by decide) (by omega) (.inl ⟨by rw[p2,p3],by rw[p3,p5,hCs];omega,fun k hk=>by cases hk⟩)
theorem wa {cx:Cx} {t:TypeId} {n:Nat} (h:aD cx t=some n):∃ i,cx.kV.get t=some i∧i.size=n:=by
 unfold aD at h;cases hi:cx.kV.get t with
 | none=>simp[hi] at h
 | some i=>simp only[hi,Option.some.injEq] at h;exact ⟨i,rfl,h⟩
theorem bytes_str (l:List Nat) (h:∀ n,n∈l→n<256):(l.map fun n=>UInt8.ofNat n).map UInt8.toNat=l:=by
 rw[List.map_map];have:∀ n,n∈l→(UInt8.toNat∘fun n=>UInt8.ofNat n) n=n:=fun n hn=>by
  simp only[Function.comp,UInt8.toNat_ofNat'];exact Nat.mod_eq_of_lt (h n hn)
 rw[List.map_congr_left this];simp
theorem ustr_def (ts : Array TypeId) (ty : TypeId) : ∃ m1 m2 m3 m4 m5 : String, ∀ (p : Option Addr) (len : Value), Builtin.unsafeString_ ts ty #[.pointer p, len] = (do
      let n ←asInt len
      let some pt:=ts[0]?|stuck m1
      if n<0 then runtimePanic (.error m2)
      if n > IntKind.i64.max then unsupported (.unsafePointer m3)
      match p with
      | none=>
       if n=0 then pure (.string .empty)
       else runtimePanic (.error m4)
      | some a=>
       if n=0 then pure (.string .empty)
       else if ←variablesAt a (←elemOf pt) n.toNat then do
        let s ←loadBytes a .empty n.toNat
        freeze a n.toNat
        pure (.string s)
       else unsupported (.unsafePointer m5)):=⟨_,_,_,_,_,fun _ _=>rfl⟩
theorem ptr_shape {ρ:aB} {S:AS} {w:World} (hR:R Λ ρ S w) {id g off aq:Nat} {cells:List AV} {low top:Nat} {frz:Bool} {ty:TypeId} (pg:S.h.get id=some (.row cells low top frz ty))
  (h1:low≤g) (h2:g≤top) {pl:Pl} (hp:ρ id g=some pl) (hl:aq≤pl.n) (ho:off<aq):∃ N,w.shape? pl.b=some (ty,N)∧pl.base+off<N:=by
 obtain ⟨_,h3,_⟩:=hR.eC id _ pg;obtain ⟨cR,C,fr,g1,g2,g3,g4,g5,g6,g7,g8,g9⟩:=h3 g h1 h2;rw[hp] at g1;cases g1;exact ⟨C.size,by simp[World.shape?,g2],by omega⟩
theorem ustrV_run {P:Program} {cx:Cx} (au:cI Λ P cx) {ρ:aB} {S S':AS} {w:World} (hR:R Λ ρ S w) {ts:Array TypeId} {t ty:TypeId} {p v:AV} {p':Value} {n:Nat} {k:IntKind}
  (h:ustrV cx S t p n=some (v,S')) (ht:ts[0]?=some t) (hp:ah ρ p p') :
  ∃ z w',(Builtin.unsafeString_ ts ty #[p',.int k (.ofNat n)]).run P w=.ok z w'∧ah ρ v z∧R Λ ρ S' w'∧Kp ρ S w ρ S' w':=by
 have sN:IntKind.i64.max=9223372036854775807:=rfl;obtain ⟨m1,m2,m3,m4,m5,ustr⟩:=ustr_def ts ty;unfold ustrV at h;cases n with
 | zero=>
  simp only[] at h;cases p<;>simp only[reduceCtorEq] at h
  case dr=>
   cases h;simp only[ah] at hp;subst hp;refine ⟨.string .empty,w,?_,by simp only[ah];exact ⟨_,rfl,rfl⟩,hR,Kp.refl _ _ _⟩;rw[ustr];simp[asInt,asIntOf,ht,sN]
  case ptr id g off aq=>
   cases h;simp only[ah] at hp;obtain ⟨pl,p1,p2,rfl⟩:=hp;refine ⟨.string .empty,w,?_,by simp only[ah];exact ⟨_,rfl,rfl⟩,hR,Kp.refl _ _ _⟩;rw[ustr];simp[asInt,asIntOf,ht,sN]
 | succ m=>
  simp only[] at h;split at h
  ·rename_i e id g off aq hu;split at h
   ·rename_i cells low top frz Cm hue hs pg;rw[aT,bX] at h;cases lM:(decide (Cm=e)&&decide (m+1≤4611686018427387904)&&pY frz low) with
    | false=>rw[lM] at h;cases h
    | true=>
     rw[lM] at h;simp only[Bool.and_eq_true,decide_eq_true_eq] at lM;obtain ⟨⟨hte,h63'⟩,hmf⟩:=lM;subst hte;simp only[cond_true] at h;cases hr:rd S id g off (m+1) aq with
     | none=>rw[hr] at h;cases h
     | some cs=>
      rw[hr] at h;simp only[] at h;cases hb:ov cs with
      | none=>rw[hb] at h;cases h
      | some l=>
       rw[hb] at h;simp only[Option.some.injEq,Prod.mk.injEq] at h;obtain ⟨rfl,rfl⟩:=h;simp only[ah] at hp;obtain ⟨pl,p1,p2,rfl⟩:=hp;obtain ⟨arr,q1,q2,q3,q4,q5,q6⟩:=iX (P:=P) hR hr p1 p2;obtain ⟨b1,b2⟩:=xj cs l arr.toList ρ hb q3;have hll:l.length=m+1:=by
        have:=congrArg List.length b1;simp at this;omega
       have wq:=hr;unfold rd at wq;rw[pg] at wq;simp only[bX,Nat.add_eq] at wq;cases ph:(decide (low≤g)&&decide (g≤top)&&decide (off+(m+1)≤aq)) with
       | false=>rw[ph] at wq;cases wq
       | true=>
        simp only[Bool.and_eq_true,decide_eq_true_eq] at ph;obtain ⟨⟨c1,c2⟩,c3⟩:=ph;obtain ⟨_,h2,_⟩:=hR.eC id _ pg;obtain ⟨cR,C,fr,g1,g2,g3,g4,g5,g6,g7,g8,g9⟩:=h2 g c1 c2;rw[p1] at g1;cases g1;have hsh:w.shape? pl.b=some (Cm,C.size):=by simp[World.shape?,g2]
        have kD:=ke au hs
        let L:List UInt8:=l.map fun n=>UInt8.ofNat n
        have hLl:L.length=m+1:=by simp[L,hll]
        have hat:∀ j x,L[j]?=some x→w.cell? ((⟨pl.b,pl.base+off,none⟩:Addr).add j)=some (.int .u8 x.toNat):=by
         intro j x hx;have hj:j<m+1:=by
          rcases Nat.lt_or_ge j (m+1) with h0|h0
          ·exact h0
          ·rw[List.getElem?_eq_none (by omega)] at hx;cases hx
         obtain ⟨v,v1,v2⟩:=q6 j hj;rw[eZ,v1,←v2,b1];simp only[L,List.getElem?_map] at hx ⊢;cases hlj:l[j]? with
         | none=>rw[hlj] at hx;cases hx
         | some y=>
          rw[hlj] at hx;simp only[Option.map_some,Option.some.injEq] at hx ⊢;subst hx;have:=b2 y (List.mem_of_getElem? hlj);simp only[UInt8.toNat_ofNat',Nat.mod_eq_of_lt this];rfl
        have Et:=Lib.run_loadBytes (P:=P) w L ⟨pl.b,pl.base+off,none⟩ .empty hat;have hlies:=liesAt_one (P:=P) kD C.size (pl.base+off) (m+1) (by omega);obtain ⟨f1,f2⟩:=hR.freeze pg p1 (off:=pl.base+off) (Nat.succ_ne_zero m) (yS hmf);refine ⟨.string ⟨L.toArray⟩,_,?_,?_,f1,f2⟩
        ·rw[hLl] at Et;rw[ustr];have h63:¬((m:Int)+1 > 9223372036854775807):=by omega
         have hneg:¬((m:Int)+1<0):=by omega
         have hz:¬((m:Int)+1=0):=by omega
         have htn:((m:Int)+1).toNat=m+1:=by omega
         simp only[asInt,asIntOf,Sem.run_bind,Sem.run_pure,Result.andThen_ok,ht,sN,Int.ofNat_eq_natCast,Int.natCast_add,Int.cast_ofNat_Int,if_neg hneg,if_neg h63,if_neg hz,htn];simp only[elemOf,av au hu,Sem.run_bind,Sem.run_pure,Result.andThen_ok,variablesAt,run_program,run_shape,hsh];rw[kD,Nat.div_one,hlies];simp only[if_true,Sem.run_bind,Et,Result.andThen_ok,run_freeze,Sem.run_pure];simp
        ·simp only[ah];exact ⟨_,rfl,bytes_str l b2⟩
   ·cases h
  ·cases h
theorem zD {P:Program} {cx:Cx} (au:cI Λ P cx) {ρ:aB} {F:Fr} {S S':AS} {w:World} {a:Act} (hR:R Λ ρ S w) (hF:dy ρ F a) {o:Oper} {v:AV}
  (h:bj cx F S o=.val v S'):bU Λ P ρ S w (execOp a.eval o) v S':=by
 obtain ⟨dst,op,ty,pos,after,guard⟩:=o;have fr:∀ n,dT (al cx F S.next op) S n=.val v S'→bU Λ P ρ S w (execOp a.eval ⟨dst,op,ty,pos,after,guard⟩) v S':=by
  intro n hh;cases hf:al cx F S.next op with
  | none=>simp[dT,hf] at hh
  | some vo=>
   obtain ⟨u,obj⟩:=vo;simp only[dT,hf,AR.val.injEq] at hh;obtain ⟨rfl,rfl⟩:=hh;obtain ⟨s,e,AM⟩:=zk (P:=P) au hF (o:=⟨dst,op,ty,pos,after,guard⟩) hf w;rw[e];exact bU.Em (AM.Em hR)
 cases op<;>simp only[bj,reduceCtorEq] at h
 case move x=>cases h;exact bU.val hR (hF.eval x)
 case assign x=>cases h;exact bU.val hR (hF.eval x)
 case pick c x y=>
  split at h
  ·rename_i hc;cases h;have:=DW hc (hF.eval c);exact ⟨.value (a.eval x),a.eval x,ρ,w,by simp[execOp,this,asBool],rfl,hF.eval x,hR,Kp.refl _ _ _⟩
  ·rename_i hc;cases h;have:=DW hc (hF.eval c);exact ⟨.value (a.eval y),a.eval y,ρ,w,by simp[execOp,this,asBool],rfl,hF.eval y,hR,Kp.refl _ _ _⟩
  ·cases h
 case alloc e=>exact fr _ h
 case box t x=>exact fr _ h
 case buildSlice t n parts=>exact fr _ h
 case makeMap t r=>exact fr _ h
 case makeSlice t l c=>exact fr _ h
 case build t parts=>
  obtain ⟨h1,rfl⟩:=bW h;exact bU.still hR (buildV_run au hF h1 w)
 case load t x=>
  split at h
  ·rename_i id g off aq he;have hx:=hF.eval x;rw[he] at hx;obtain ⟨l1,l2⟩:=load_var (t:=t) au hR hx;split at h
   ·rename_i ha;split at h
    ·rename_i n hs;split at h
     ·rename_i cs hr;cases h;exact bU.still hR (l1 n cs ha hs hr)
     ·cases h
    ·cases h
   ·rename_i ha;split at h
    ·rename_i u hr;cases h;exact bU.still hR (l2 _ ha hr)
    ·cases h
   ·cases h
  ·rename_i g off he;have hx:=hF.eval x;rw[he] at hx;simp only[ah] at hx;cases hg:cx.fq.get g with
   | none=>rw[hg] at h;cases h
   | some cs=>
    rw[hg] at h;obtain ⟨h1,rfl⟩:=bW h;have:=glob_load (P:=P) au hR hg h1;rw[←hx] at this;exact bU.still hR this
  ·cases h
 case store t x y=>
  split at h
  ·rename_i id g off aq cs n he hc hs;rw[aT,aS] at h;by_cases hn:cs.length=n
   ·rw[decide_eq_true hn] at h;simp only[cond_true] at h;split at h
    ·rename_i S1 wc;cases h;have hx:=hF.eval x;rw[he] at hx;simp only[ah] at hx;obtain ⟨pl,p1,p2,hxe⟩:=hx;have j7:=cW hc (hF.eval y);obtain ⟨w',r1,r2,r3⟩:=oI (P:=P) hR wc p1 p2 j7.1 j7.2;have eJ:(a.eval y).cells.size=n:=by have:=j7.length;simp at this;omega
     refine ⟨.skip,undef,ρ,w',?_,rfl,dG ρ,r2,r3⟩;simp only[execOp,Instr.storeAt,hxe,Instr.sureAddr,storeVar,Sem.run_bind,Sem.run_pure,Result.andThen_ok,dg au hs];rw[if_neg (by simp[eJ])];simp only[r1,Result.andThen_ok]
    ·cases h
   ·rw[decide_eq_false hn] at h;cases h
  ·cases h
 case nilCheck x=>
  have hx:=hF.eval x;split at h<;>(try (cases h;done))<;>rename_i he<;>cases h<;>rw[he] at hx
  ·obtain ⟨pl,p1,p2,e⟩:=(by simpa only[ah] using hx:∃ pl,_)
   have:execOp a.eval ⟨dst,.nilCheck x,ty,pos,after,guard⟩=pure (.value (a.eval x)):=by simp only[execOp,e]
   rw[this];exact bU.val hR hx
  ·have e:=(by simpa only[ah] using hx:a.eval x=_)
   have:execOp a.eval ⟨dst,.nilCheck x,ty,pos,after,guard⟩=pure (.value (a.eval x)):=by simp only[execOp,e]
   rw[this];exact bU.val hR hx
  ·obtain ⟨p,q,e,_⟩:=(by simpa only[ah] using hx:∃ p q,_)
   have:execOp a.eval ⟨dst,.nilCheck x,ty,pos,after,guard⟩=pure (.value (a.eval x)):=by simp only[execOp,e]
   rw[this];exact bU.val hR hx
  ·obtain ⟨p,q,e,_⟩:=fa hx;have:execOp a.eval ⟨dst,.nilCheck x,ty,pos,after,guard⟩=pure (.value (a.eval x)):=by simp only[execOp,e]
   rw[this];exact bU.val hR hx
  ·obtain ⟨p,q,e⟩:=(by simpa only[ah] using hx:∃ p,_)
   have:execOp a.eval ⟨dst,.nilCheck x,ty,pos,after,guard⟩=pure (.value (a.eval x)):=by simp only[execOp,e]
   rw[this];exact bU.val hR hx
  ·rename_i k i;obtain ⟨p,q,e⟩:=(by simpa only[ah] using hx:∃ p,_)
   have:execOp a.eval ⟨dst,.nilCheck x,ty,pos,after,guard⟩=pure (.value (a.eval x)):=by cases k<;>simp only[execOp,e,OK.val]
   rw[this];exact bU.val hR hx
 case binOp op t x y yt=>
  obtain ⟨h1,rfl⟩:=bW h;refine bU.still (s:=do eqGuard op t x y (a.eval x) (a.eval y);binOp op t (a.eval x) (a.eval y)) hR (binV_run au h1 ?_ (hF.eval x) (hF.eval y) w);cases x<;>cases y<;>rfl
 case unOp op t x=>
  obtain ⟨h1,rfl⟩:=bW h;exact bU.still hR (unV_run h1 (hF.eval x) w)
 case convert src dst x=>
  have hx:=hF.eval x;split at h
  ·rename_i ds k k0 n p9 pe he;cases h;rw[he] at hx;simp only[ah] at hx;refine bU.still hR ⟨.int k (k.wrap n),?_,by rw[gH];simp[ah]⟩;simp only[convert,Sem.run_bind,av au p9,av au pe,Result.andThen_ok,hx];rfl
  ·rename_i ds s p9 pe he;cases h;rw[he] at hx;have ma:=hx;simp only[ah] at ma;obtain ⟨b,hb,_⟩:=ma;refine bU.still hR ⟨a.eval x,?_,hx⟩;simp only[convert,Sem.run_bind,av au p9,av au pe,Result.andThen_ok,hb];rfl
  ·rename_i ds e s p9 pe he;split at h
   ·rename_i hu3;cases h;rw[he] at hx;simp only[ah] at hx;obtain ⟨b,hb,hbs⟩:=hx;refine bU.Em ?_;obtain ⟨z,ρ',w',r1,r2,r3,r4⟩:=s2b_run (P:=P) (e:=e) hR hbs;refine ⟨z,ρ',w',?_,r2,r3,r4⟩;simp only[convert,Sem.run_bind,av au p9,av au pe,Result.andThen_ok,hb];simp only[av au hu3,Result.andThen_ok];exact r1
   ·cases h
  ·rename_i xx e p9 pe Db;have hconv:∀ (ad:Option Addr) (l c:Nat),bm cx e=some (.int .u8)→(convert src dst (.slice ad l c)).run P w=(Conv.bytesToString (.slice ad l c)).run P w:=
    fun ad l c hu3=>run_convert_bytes_string w src dst e ad l c (cS au p9) (cS au hu3) (cS au pe)
   split at h
   ·rename_i hu3 he;cases h;rw[he] at hx;simp only[ah] at hx;refine bU.still hR ⟨.string .empty,?_,by simp only[ah];exact ⟨_,rfl,rfl⟩⟩;rw[hx,hconv _ _ _ hu3];rfl
   ·rename_i id g off len aq cap hu3 he;rw[he] at hx;obtain ⟨ad,c,e1,hlc,_⟩:=fa hx;cases len with
    | zero=>
     cases h;refine bU.still hR ⟨.string .empty,?_,by simp only[ah];exact ⟨_,rfl,rfl⟩⟩;rw[e1,hconv _ _ _ hu3,run_bytesToString w ad 0 c [] rfl];rfl
    | succ l=>
     simp only[] at h;split at h
     ·rename_i cs hr;split at h
      ·rename_i bs hbs;cases h;simp only[ah] at hx;obtain ⟨pl,c',p1,p2,p3,p4,p5,hh⟩:=hx;rcases hh with ⟨e2,_⟩|⟨e2,_⟩
       ·rw[e1] at e2;cases e2;obtain ⟨arr,q1,q2,q3,q4,_⟩:=iX (P:=P) hR hr p1 p2;obtain ⟨b1,b2⟩:=xj cs bs arr.toList ρ hbs q3;have fC:arr=((bs.map Int.ofNat).map (Value.int .u8)).toArray:=Array.ext' (by simpa using b1);rw[fC] at q1;refine bU.still hR ⟨.string ((bs.map Int.ofNat).foldl (fun r n=>r.push (UInt8.ofNat n.toNat)) ByteArray.empty),?_,?_⟩
        ·rw[e1,hconv _ _ _ hu3];exact run_bytesToString w _ (l+1) c _ q1
        ·simp only[ah];exact ⟨_,rfl,zU bs b2⟩
       ·omega
      ·cases h
     ·cases h
   ·cases h
  ·rename_i e0 e id g off len aq sz cap p9 pe he;rw[aT,gW] at h;cases rn:(decide (src=dst)&&decide (0<len)) with
   | false=>rw[rn] at h;cases h
   | true=>
   rw[rn] at h;simp only[cond_true] at h;simp only[Bool.and_eq_true,decide_eq_true_eq] at rn;obtain ⟨hsd,hlen⟩:=rn;split at h
   ·rename_i cells low top frz Cm hu3 pg;rw[bX,bX] at h;cases hc:(decide (low≤g)&&decide (g≤top)&&pY frz low) with
    | false=>rw[hc] at h;cases h
    | true=>
     rw[hc] at h;simp only[cond_true,AR.val.injEq] at h;obtain ⟨rfl,rfl⟩:=h;simp only[Bool.and_eq_true,decide_eq_true_eq] at hc;obtain ⟨hc,hmf⟩:=hc;rw[he] at hx;have ma:=hx;simp only[ah] at ma;obtain ⟨pl,c,p1,p2,p3,p4,p5,hh⟩:=ma;rcases hh with ⟨e2,_⟩|⟨e2,_⟩
     ·obtain ⟨_,hgs,_⟩:=hR.eC id _ pg;obtain ⟨cR,C,fr,g1,g2,_⟩:=hgs g hc.1 hc.2;rw[p1] at g1;cases g1;have hsh:w.shape? pl.b=some (Cm,C.size):=by simp[World.shape?,g2]
      obtain ⟨t1,t2⟩:=hR.freeze (off:=C.size) (n:=1) pg p1 (by omega) (yS hmf);refine bU.Em ⟨a.eval x,ρ,_,?_,hx,t1,t2⟩;rw[e2];simp only[convert,Sem.run_bind,av au p9,av au pe,Result.andThen_ok];simp only[av au hu3,Result.andThen_ok,hsd,beq_self_eq_true,markStringish,Sem.run_bind,run_shape,hsh,run_freeze,Sem.run_pure]
     ·omega
   ·cases h
  ·rename_i e id g off aq p9 pe he;split at h
   ·rename_i z cells low top frz Cm hs pg;rw[gW,bX,bX] at h;cases hc:(decide (off<aq)&&decide (low≤g)&&decide (g≤top)) with
    | false=>rw[hc] at h;cases h
    | true=>
     rw[hc] at h;simp only[cond_true,AR.val.injEq] at h;obtain ⟨rfl,rfl⟩:=h;simp only[Bool.and_eq_true,decide_eq_true_eq] at hc;obtain ⟨⟨bF,hc1⟩,hc2⟩:=hc;rw[he] at hx;have ma:=hx;simp only[ah] at ma;obtain ⟨pl,p1,p2,e1⟩:=ma;obtain ⟨N,hsh,hof⟩:=ptr_shape hR pg hc1 hc2 p1 p2 bF;refine bU.still hR ⟨a.eval x,?_,hx⟩;obtain ⟨i,hi,hiz⟩:=wa hs;rw[e1];exact Lib.run_to_unsafe w ⟨pl.b,pl.base+off,none⟩ (cS au p9) (cS au pe) (au.kV _ _ hi) (by rw[hiz];exact Nat.succ_ne_zero _) hsh hof
   ·cases h
  ·rename_i u id g off aq p9 pe he;split at h
   ·rename_i z cells low top frz Cm hs pg;rw[aT,bX,aT] at h;cases hc:(decide (Cm=u)&&decide (Nat.succ z≤aq)&&decide (low=0)) with
    | false=>rw[hc] at h;cases h
    | true=>
     rw[hc] at h;simp only[cond_true,AR.val.injEq] at h;obtain ⟨rfl,rfl⟩:=h;simp only[Bool.and_eq_true,decide_eq_true_eq] at hc;obtain ⟨⟨rfl,hzl⟩,rfl⟩:=hc;rw[he] at hx;have ma:=hx;simp only[ah] at ma;obtain ⟨pl,p1,p2,e1⟩:=ma;obtain ⟨_,h2,_⟩:=hR.eC id _ pg;obtain ⟨cR,C,fr,g1,g2,g3,g4,g5,g6,g7,g8,g9⟩:=h2 0 (Nat.le_refl _) (Nat.zero_le _);rw[p1] at g1;cases g1;obtain ⟨i,hi,hiz⟩:=wa hs;have hsh:w.shape? pl.b=some (Cm,C.size):=by simp[World.shape?,g2]
     have kD:=ke au hs;refine bU.still hR ⟨a.eval x,?_,hx⟩;rw[e1];refine Lib.run_from_unsafe w ⟨pl.b,pl.base+0,none⟩ (cS au p9) (cS au pe) (au.kV _ _ hi) hsh ?_;rw[g9.1 rfl];refine CU kD (Nat.succ_ne_zero _) _ ?_;rw[kD];exact (Nat.le_div_iff_mul_le (Nat.succ_pos _)).2 (by omega)
   ·cases h
  ·cases h
 case makeInterface t x=>
  split at h
  ·cases h
  ·rename_i d hu hd;cases h;refine bU.still hR ⟨.iface t (a.eval x),?_,by simp only[ah];exact ⟨_,rfl,hF.eval x⟩⟩;simp only[Instr.makeInterface,Sem.run_bind,av au hd,Result.andThen_ok];cases d<;>first|rfl|exact absurd rfl (hu _)
  ·cases h
 case makeFunc fn first captured=>
  cases h;refine bU.still hR ⟨.func fn (first.map a.eval) (captured.map a.eval),rfl,?_⟩;simp only[ah];exact ⟨_,_,rfl,ki hF first,ki hF captured⟩
 case slice t x lo hi mx=>
  obtain ⟨h1,rfl⟩:=bW h;exact bU.still hR (sliceV_run au hF h1 (hF.eval x) w)
 case fieldAddr s x f=>
  split at h
  ·rename_i fs id g off aq hu he;rw[fW] at h;split at h
   ·rename_i fd hf;split at h
    ·rename_i z hs;rw[aA] at h;cases h;have hx:=hF.eval x;rw[he] at hx;simp only[ah] at hx;obtain ⟨pl,p1,p2,e⟩:=hx;have AN:fs[f]?=some fd:=by rw[←Array.getElem?_toList];exact hf
     refine bU.still hR ⟨.pointer (some ⟨pl.b,pl.base+(off+fd.offset),none⟩),?_,by simp only[ah];exact ⟨pl,p1,p2,rfl⟩⟩;simp only[Instr.fieldAt,Sem.run_bind,av au hu,Result.andThen_ok,AN,e,Instr.sureAddr,Sem.run_pure,fieldPlace,dg au hs];rw[if_neg (Nat.succ_ne_zero z),eZ,Nat.add_assoc];rfl
    ·cases h
   ·cases h
  ·cases h
 case field t x f=>
  split at h
  ·rename_i fs cs hu he;rw[fW] at h;split at h
   ·rename_i fd hf;obtain ⟨h1,rfl⟩:=bW h;have hx:=hF.eval x;rw[he] at hx;simp only[ah] at hx;obtain ⟨arr,e,p,q⟩:=hx;have AN:fs[f]?=some fd:=by rw[←Array.getElem?_toList];exact hf
    obtain ⟨z,r1,r2⟩:=qX au h1 p q w;refine bU.still hR ⟨z,?_,r2⟩;simp only[Instr.field,Sem.run_bind,av au hu,Result.andThen_ok,AN,e,asAgg,Sem.run_pure,r1]
   ·cases h
  ·cases h
 case indexAddr t x ix=>
  split at h
  ·rename_i e id g off len aq sz cap i hu he hi;split at h
   ·rename_i z hs;rw[aT,gW,aA] at h;cases hc:(decide (z=sz)&&decide (i<len)) with
    | false=>simp[hc] at h
    | true=>
     simp only[hc,cond_true,AR.val.injEq] at h;obtain ⟨rfl,rfl⟩:=h;simp only[Bool.and_eq_true,decide_eq_true_eq] at hc;obtain ⟨rfl,bF⟩:=hc;have hx:=hF.eval x;rw[he] at hx;simp only[ah] at hx;obtain ⟨pl,c,p1,p2,p3,p4,p5,hh⟩:=hx;obtain ⟨k,hk⟩:=fb hi (hF.eval ix);rcases hh with ⟨e1,_⟩|⟨e1,_⟩
     ·refine bU.still hR ⟨.pointer (some ⟨pl.b,pl.base+(off+i*z),none⟩),?_,by simp only[ah];exact ⟨pl,p1,p2,rfl⟩⟩;have AK:(0:Int)≤(i:Int)∧(i:Int)<(len:Int):=by omega
      simp only[Instr.indexAt,hk,asIntOf,Sem.run_bind,Sem.run_pure,av au hu,Result.andThen_ok,e1,if_pos AK,dg au hs,Int.toNat_natCast,eZ,Nat.add_assoc]
     ·omega
   ·cases h
  ·rename_i n e id g off aq i hu he hi;split at h
   ·rename_i z hs;rw[gW,aA] at h;by_cases bF:i<n
    ·rw[decide_eq_true bF] at h;simp only[cond_true,AR.val.injEq] at h;obtain ⟨rfl,rfl⟩:=h;have hx:=hF.eval x;rw[he] at hx;simp only[ah] at hx;obtain ⟨pl,p1,p2,e1⟩:=hx;obtain ⟨k,hk⟩:=fb hi (hF.eval ix);refine bU.still hR ⟨.pointer (some ⟨pl.b,pl.base+(off+i*z),none⟩),?_,by simp only[ah];exact ⟨pl,p1,p2,rfl⟩⟩;have AK:(0:Int)≤(i:Int)∧(i:Int)<(n:Int):=by omega
     simp only[Instr.indexAt,hk,asIntOf,Sem.run_bind,Sem.run_pure,av au hu,Result.andThen_ok,e1,Instr.sureAddr,if_pos AK,dg au hs,Int.toNat_natCast,eZ,Nat.add_assoc]
    ·rw[decide_eq_false bF] at h;cases h
   ·cases h
  ·rename_i n e g off i hu he hi;split at h
   ·rename_i z hs;rw[gW,aA] at h;by_cases bF:i<n
    ·rw[decide_eq_true bF] at h;simp only[cond_true,AR.val.injEq] at h;obtain ⟨rfl,rfl⟩:=h;have hx:=hF.eval x;rw[he] at hx;simp only[ah] at hx;obtain ⟨k,hk⟩:=fb hi (hF.eval ix);refine bU.still hR ⟨.pointer (some ⟨g,off+i*z,none⟩),?_,by simp only[ah];rfl⟩;have AK:(0:Int)≤(i:Int)∧(i:Int)<(n:Int):=by omega
     simp only[Instr.indexAt,hk,asIntOf,Sem.run_bind,Sem.run_pure,av au hu,Result.andThen_ok,hx,Instr.sureAddr,if_pos AK,dg au hs,Int.toNat_natCast,eZ]
    ·rw[decide_eq_false bF] at h;cases h
   ·cases h
  ·cases h
 case index t x ix=>
  split at h
  ·rename_i s i hu he hi;rw[fW] at h;split at h
   ·rename_i n hn;cases h;have hx:=hF.eval x;rw[he] at hx;simp only[ah] at hx;obtain ⟨b,e,hb⟩:=hx;obtain ⟨k,hk⟩:=fb hi (hF.eval ix);rw[←hb,List.getElem?_map] at hn;cases hbi:b.data.toList[i]? with
    | none=>rw[hbi] at hn;cases hn
    | some c=>
     rw[hbi] at hn;simp only[Option.map_some,Option.some.injEq] at hn;subst hn;have bF:i<b.size:=by
      rcases Nat.lt_or_ge i b.size with h0|h0
      ·exact h0
      ·rw[List.getElem?_eq_none (show b.data.toList.length≤i from h0)] at hbi;cases hbi
     refine bU.still hR ⟨.int .u8 (c.toNat:Int),?_,by simp[ah]⟩;have h0:(0:Int)≤(i:Int):=by omega
     have hg:b[i]?=some c:=by
      rw[ByteArray.getElem?_lt' b i bF];have:b.data.toList[i]?=some (b[i]):=by
       rw[List.getElem?_eq_getElem (show i<b.data.toList.length from bF)];rfl
      rw[hbi] at this;exact this.symm
     simp only[Instr.index,hk,asIntOf,Sem.run_bind,Sem.run_pure,av au hu,Result.andThen_ok,e,if_pos h0,Int.toNat_natCast,hg]
   ·cases h
  ·rename_i n e cs i hu he hi;split at h
   ·rename_i z hs;rw[gW] at h;by_cases bF:i<n
    ·rw[decide_eq_true bF] at h;simp only[cond_true] at h;obtain ⟨h1,rfl⟩:=bW h;have hx:=hF.eval x;rw[he] at hx;simp only[ah] at hx;obtain ⟨arr,e1,p,q⟩:=hx;obtain ⟨k,hk⟩:=fb hi (hF.eval ix);obtain ⟨zv,r1,r2⟩:=qX au h1 p q w;refine bU.still hR ⟨zv,?_,r2⟩;have AK:(0:Int)≤(i:Int)∧(i:Int)<(n:Int):=by omega
     simp only[Nat.mul_eq] at r1;simp only[Instr.index,hk,asIntOf,Sem.run_bind,Sem.run_pure,av au hu,Result.andThen_ok,e1,if_pos AK,dg au hs,Int.toNat_natCast,r1]
    ·rw[decide_eq_false bF] at h;cases h
   ·cases h
  ·cases h
 case lookup t x ix ok=>
  obtain ⟨h1,rfl⟩:=bW h;exact bU.still hR (CS au hR h1 (hF.eval x) (hF.eval ix))
 case mapUpdate t m k x=>
  obtain ⟨w',r1,rfl,r3,r4⟩:=tz au hR (eK h) (hF.eval m) (hF.eval k) (hF.eval x);exact ⟨.skip,undef,ρ,w',by simp only[execOp,Sem.run_bind,r1,Result.andThen_ok,Sem.run_pure],rfl,dG ρ,r3,r4⟩
 case insert t m k x=>
  obtain ⟨w',r1,rfl,r3,r4⟩:=tz au hR (eK h) (hF.eval m) (hF.eval k) (hF.eval x);exact ⟨.skip,undef,ρ,w',by simp only[execOp,Sem.run_bind,r1,Result.andThen_ok,Sem.run_pure],rfl,dG ρ,r3,r4⟩
 case mapEntry t m k=>exact bU.Em (Dy au hR (eK h) (hF.eval m) (hF.eval k))
 case entryStore t m k x=>
  obtain ⟨w',r1,rfl,r3,r4⟩:=Dx (P:=P) (t:=t) hR (eK h) (hF.eval m) (hF.eval k) (hF.eval x);exact ⟨.skip,undef,ρ,w',by simp only[execOp,Sem.run_bind,r1,Result.andThen_ok,Sem.run_pure],rfl,dG ρ,r3,r4⟩
 case range t x=>exact bU.Em (rangeV_run au hR (eK h) (hF.eval x))
 case next x str=>exact bU.Em (nextV_val (P:=P) hR h (hF.eval x))
 case entry x=>
  obtain ⟨h1,rfl⟩:=bW h;exact bU.still hR (entryV_run hR h1 (hF.eval x))
 case panic x=>split at h<;>cases h
 case typeAssert x xt t ok=>
  obtain ⟨h1,rfl⟩:=bW h;exact bU.still hR (D3 au h1 (hF.eval x))
 case extract x i=>
  split at h
  ·rename_i vs he;obtain ⟨h1,rfl⟩:=bW h;have hx:=hF.eval x;rw[he] at hx;simp only[ah] at hx;obtain ⟨arr,e,hl⟩:=hx;rw[fW] at h1;obtain ⟨y,hy,nU⟩:=hl.get h1;refine bU.still hR ⟨y,?_,nU⟩;have hy':arr[i]?=some y:=by rw[←Array.getElem?_toList];exact hy
   simp only[Instr.extract,e,hy',Sem.run_pure]
  ·cases h
 case call c=>
  obtain ⟨callee,as,kU⟩:=c;cases callee with
  | value f=>
   simp only[] at h;unfold lS at h;split at h
   ·rename_i g first captured he
    cases hxt:cx.exts.get g with
    | none=>rw[hxt] at h;cases h
    | some xt=>
     rw[hxt] at h;have h1:=eK h;have hf:=hF.eval f;rw[he] at hf;simp only[ah] at hf;obtain ⟨p,q,e,hp,hq⟩:=hf;simp only[bf] at h1;obtain ⟨z,ρ2,w2,r1,r2,r3,r4⟩:=extM_run hR au hxt h1 (args:=p++as.map a.eval++q) (by
      simp only[Array.toList_append,List.append_assoc];exact hp.append ((ki hF as).append hq))
     refine ⟨.value z,z,ρ2,w2,?_,rfl,r2,r3,r4⟩;have hex:execOp a.eval ⟨dst,.call ⟨.value f,as,kU⟩,ty,pos,after,guard⟩=callFunc g (p++as.map a.eval++q):=by
      simp only[execOp,resolve,e,Deferred.ofValue];rfl
     rw[hex];exact r1
   ·cases h
   ·cases h
  | invoke r m=>cases h
  | builtin b=>
   simp only[] at h;have cV:=ki hF as;have hex:execOp a.eval ⟨dst,.call ⟨.builtin b,as,kU⟩,ty,pos,after,guard⟩=builtin b kU ty (as.map fun | .const _=>true|_=>false) (as.map a.eval):=by
    simp only[execOp,resolve];rfl
   rw[hex];unfold aV at h;split at h
   ·rename_i t ts' x xs ht ha;split at h
    ·rename_i n hn;rw[aA] at h;cases h;rw[ha] at cV;simp only[ak] at cV;obtain ⟨y,ys,hy,nU,_⟩:=cV;have h0:(as.map a.eval)[0]?=some y:=by rw[←Array.getElem?_toList,hy];rfl
     have t0:kU[0]?=some t:=by rw[←Array.getElem?_toList,ht];rfl
     exact bU.still hR ⟨goInt n,lenV_run au hR hn t0 h0 nU,by simp[ah,goInt]⟩
    ·cases h
   ·rename_i t ts' x xs ht ha;have t0:kU[0]?=some t:=by rw[←Array.getElem?_toList,ht];rfl
    rw[ha] at cV;simp only[ak] at cV;obtain ⟨y,ys,hy,nU,_⟩:=cV;have h0:(as.map a.eval)[0]?=some y:=by rw[←Array.getElem?_toList,hy];rfl
    have mk:∀ (n:Nat),(Builtin.cap_ kU ty (as.map a.eval)).run P w=.ok (goInt n) w→bU Λ P ρ S w (builtin .cap kU ty (as.map fun | .const _=>true|_=>false) (as.map a.eval)) (.int .i64 (.ofNat n)) S:=
     fun n hr=>bU.still hR ⟨goInt n,hr,by simp[ah,goInt]⟩
    split at h
    ·rename_i e hu;cases h;simp only[ah] at nU;refine mk 0 ?_;unfold Builtin.cap_;simp only[t0,h0,Sem.run_bind,av au hu,Result.andThen_ok,nU,Sem.run_pure]
    ·rename_i e id g off len aq sz c hu;cases h;obtain ⟨ad,c',e1,_,hc⟩:=fa nU;obtain rfl:=hc c rfl;refine mk c' ?_;unfold Builtin.cap_;simp only[t0,h0,Sem.run_bind,av au hu,Result.andThen_ok,e1,Sem.run_pure]
    ·rename_i n e hu;cases h;refine mk n ?_;unfold Builtin.cap_;simp only[t0,h0,Sem.run_bind,av au hu,Result.andThen_ok];cases y<;>rfl
    ·cases h
   ·rename_i t u ts' sA xA ht ha;have t0:kU[0]?=some t:=by rw[←Array.getElem?_toList,ht];rfl
    have t1:kU[1]?=some u:=by rw[←Array.getElem?_toList,ht];rfl
    rw[ha] at cV;simp only[ak] at cV;obtain ⟨y,_,hy,nU,y2,_,rfl,uw,rfl⟩:=cV;have hav:as.map a.eval=#[y,y2]:=Array.ext' (by rw[hy]);split at h
    ·rename_i e ku hu p9;rw[hav];exact bU.Em (appZ_run au hR (eK h) t0 t1 hu p9 nU uw)
    ·rename_i e du hnu hu p9;split at h
     ·rename_i z bs hs hb;cases hz:gZ cx e (Nat.succ z) with
      | false=>simp[hz] at h
      | true=>
       simp only[hz,cond_true] at h;rw[hav];exact bU.Em (D4 au hR (eK h) t0 t1 hu p9 hnu hs (Nat.succ_pos _) hb hz nU uw)
     ·cases h
    ·cases h
   ·rename_i t ts' dA xA ht ha;have t0:kU[0]?=some t:=by rw[←Array.getElem?_toList,ht];rfl
    rw[ha] at cV;simp only[ak] at cV;obtain ⟨y,_,hy,nU,y2,_,rfl,uw,rfl⟩:=cV;have hav:as.map a.eval=#[y,y2]:=Array.ext' (by rw[hy]);split at h
    ·rename_i e hu;split at h
     ·rename_i z hs;rw[hav];exact bU.Em (copyV_run au hR (eK h) t0 hu hs nU uw)
     ·cases h
    ·cases h
   ·rename_i ha;cases h;rw[ha] at cV;simp only[ak] at cV;obtain ⟨y,_,hy,nU,rfl⟩:=cV;have hav:as.map a.eval=#[y]:=Array.ext' (by rw[hy]);simp only[ah] at nU;subst nU;rw[hav];exact bU.still hR (s:=Builtin.unsafeSliceData_ kU ty #[.slice none 0 0]) ⟨.pointer none,Lib.run_unsafeSliceData_nil w kU ty 0 0,by simp[ah]⟩
   ·rename_i id g off len aq sz cap ha;rw[gW] at h;by_cases hl:0<len
    ·rw[decide_eq_true hl] at h;simp only[cond_true,AR.val.injEq] at h;obtain ⟨rfl,rfl⟩:=h;rw[ha] at cV;simp only[ak] at cV;obtain ⟨y,_,hy,nU,rfl⟩:=cV;have hav:as.map a.eval=#[y]:=Array.ext' (by rw[hy]);simp only[ah] at nU;obtain ⟨pl,c,p1,p2,p3,p4,p5,hh⟩:=nU;rcases hh with ⟨rfl,_⟩|⟨e2,_⟩
     ·rw[hav];exact bU.still hR (s:=Builtin.unsafeSliceData_ kU ty #[.slice (some ⟨pl.b,pl.base+off,none⟩) len c]) ⟨_,Lib.run_unsafeSliceData_row w kU ty _ len c (by omega),by simp only[ah];exact ⟨pl,p1,p2,rfl⟩⟩
     ·omega
    ·rw[decide_eq_false hl] at h;cases h
   ·rename_i t ts' p k n ht ha;have t0:kU[0]?=some t:=by rw[←Array.getElem?_toList,ht];rfl
    rw[ha] at cV;simp only[ak] at cV;obtain ⟨y,_,hy,nU,y2,_,rfl,uw,rfl⟩:=cV;have hav:as.map a.eval=#[y,y2]:=Array.ext' (by rw[hy]);simp only[ah] at uw;subst uw;rw[hav];obtain ⟨z,w',r1,r2,r3,r4⟩:=ustrV_run (P:=P) (ty:=ty) (k:=k) au hR (eK h) t0 nU;exact bU.Em (s:=Builtin.unsafeString_ kU ty #[y,.int k (.ofNat n)]) ⟨z,ρ,w',r1,r2,r3,r4⟩
   ·rename_i t ts' x k ht ha;have t0:kU[0]?=some t:=by rw[←Array.getElem?_toList,ht];rfl
    rw[ha] at cV;simp only[ak] at cV;obtain ⟨y,_,hy,nU,y2,_,rfl,uw,rfl⟩:=cV;have hav:as.map a.eval=#[y,y2]:=Array.ext' (by rw[hy]);rw[hav];obtain ⟨w',r1,rfl,r3,r4⟩:=DH (P:=P) (ty:=ty) au hR (eK h) t0 nU uw;exact bU.Em (s:=Builtin.delete_ kU ty #[y,y2]) ⟨undef,ρ,w',r1,dG ρ,r3,r4⟩
   ·rename_i t ts' x ht ha;have t0:kU[0]?=some t:=by rw[←Array.getElem?_toList,ht];rfl
    rw[ha] at cV;simp only[ak] at cV;obtain ⟨y,_,hy,nU,rfl⟩:=cV;have hav:as.map a.eval=#[y]:=Array.ext' (by rw[hy]);rw[hav];obtain ⟨w',r1,rfl,r3,r4⟩:=clearV_run (P:=P) (ty:=ty) au hR (eK h) t0 nU;exact bU.Em (s:=Builtin.clear_ kU ty #[y]) ⟨undef,ρ,w',r1,dG ρ,r3,r4⟩
   ·rename_i k n l ha;obtain ⟨h1,rfl⟩:=bW h;rw[ha] at cV;simp only[ak] at cV;obtain ⟨y,ys,hy,nU,hys⟩:=cV;simp only[ah] at nU;subst nU;obtain ⟨z,r1,r2⟩:=zm (P:=P) false l ρ k n v ys (by simpa using h1) hys w;refine bU.still hR ⟨z,?_,r2⟩;simp only[Builtin.min_,hy];simpa using r1
   ·rename_i k n l ha;obtain ⟨h1,rfl⟩:=bW h;rw[ha] at cV;simp only[ak] at cV;obtain ⟨y,ys,hy,nU,hys⟩:=cV;simp only[ah] at nU;subst nU;obtain ⟨z,r1,r2⟩:=zm (P:=P) true l ρ k n v ys (by simpa using h1) hys w;refine bU.still hR ⟨z,?_,r2⟩;simp only[Builtin.max_,hy];simpa using r1
   ·cases h
def iI:AR→Bool
 | .val ..=>true
 | .err _=>true
 | _=>false
theorem gF (v:Option AV) (S:AS) (n:Nat):iI (val? v S n)=true:=by cases v<;>rfl
theorem cU (v:Option (AV×AS)) (n:Nat):iI (b8 v n)=true:=by cases v<;>rfl
theorem CD (r:Option (AV×bu)) (S:AS) (n:Nat):iI (dT r S n)=true:=by cases r<;>rfl
theorem di {c:Bool} {a b:AR} (ha:iI a=true) (hb:iI b=true):iI (cond c a b)=true:=by cases c<;>assumption
theorem xR (cx:Cx) (S:AS) (b:Builtin) (ts:List TypeId) (as:List AV):iI (aV cx S b ts as)=true:=by
 unfold aV;split
 ·split<;>rfl
 ·split<;>rfl
 ·split
  ·exact cU _ _
  ·split
   ·exact di (cU _ _) rfl
   ·rfl
  ·rfl
 ·split
  ·split
   ·exact cU _ _
   ·rfl
  ·rfl
 ·rfl
 ·exact di rfl rfl
 ·exact cU _ _
 ·exact cU _ _
 ·exact cU _ _
 ·exact gF _ _ _
 ·exact gF _ _ _
 ·rfl
theorem aop_plain {cx:Cx} {F:Fr} {S:AS} {o:Oper} (h1:∀ f args kU,o.op≠.call ⟨.value f,args,kU⟩) (h2:∀ x s,o.op≠.next x s) (h3:∀ x,o.op≠.panic x):iI (bj cx F S o)=true:=by
 obtain ⟨dst,op,ty,pos,after,guard⟩:=o;cases op<;>simp only[bj]<;>(try rfl)<;>(try exact gF _ _ _)<;>(try exact cU _ _)<;>(try exact CD _ _ _)
 case pick c x y=>split<;>rfl
 case load t x=>
  split
  ·split
   ·split
    ·split<;>rfl
    ·rfl
   ·split<;>rfl
   ·rfl
  ·split
   ·exact gF _ _ _
   ·rfl
  ·rfl
 case store t x y=>
  split
  ·exact di (by split<;>rfl) rfl
  ·rfl
 case nilCheck x=>split<;>rfl
 case convert src dst x=>
  split
  ·rfl
  ·rfl
  ·split<;>rfl
  ·split
   ·rfl
   ·split
    ·rfl
    ·split
     ·split<;>rfl
     ·rfl
   ·rfl
  ·refine di ?_ rfl;split
   ·exact di rfl rfl
   ·rfl
  ·split
   ·exact di rfl rfl
   ·rfl
  ·split
   ·exact di rfl rfl
   ·rfl
  ·rfl
 case makeInterface t x=>split<;>rfl
 case fieldAddr s x g=>
  split
  ·split
   ·split<;>rfl
   ·rfl
  ·rfl
 case field t x g=>
  split
  ·split
   ·exact gF _ _ _
   ·rfl
  ·rfl
 case indexAddr t x ix=>
  split
  ·split
   ·exact di rfl rfl
   ·rfl
  ·split
   ·exact di rfl rfl
   ·rfl
  ·split
   ·exact di rfl rfl
   ·rfl
  ·rfl
 case index t x ix=>
  split
  ·split<;>rfl
  ·split
   ·exact di (gF _ _ _) rfl
   ·rfl
  ·rfl
 case next x s=>exact absurd rfl (h2 x s)
 case panic x=>exact absurd rfl (h3 x)
 case extract x i=>
  split
  ·exact gF _ _ _
  ·rfl
 case call c=>
  obtain ⟨callee,xs,kU⟩:=c;cases callee with
  | value f=>exact absurd rfl (h1 f xs kU)
  | invoke r m=>rfl
  | builtin b=>exact xR _ _ _ _ _
theorem rM {cx:Cx} {F:Fr} {S:AS} {o:Oper} (h:iI (bj cx F S o)=false) :
  (∃ f args kU,o.op=.call ⟨.value f,args,kU⟩)∨(∃ x s,o.op=.next x s)∨∃ x,o.op=.panic x:=by
 by_cases h1:∃ f args kU,o.op=.call ⟨.value f,args,kU⟩
 ·exact .inl h1
 by_cases h2:∃ x s,o.op=.next x s
 ·exact .inr (.inl h2)
 by_cases h3:∃ x,o.op=.panic x
 ·exact .inr (.inr h3)
 rw[aop_plain (fun f a b e=>h1 ⟨f,a,b,e⟩) (fun x s e=>h2 ⟨x,s,e⟩) (fun x e=>h3 ⟨x,e⟩)] at h;cases h
theorem D8 {P:Program} {cx:Cx} {ρ:aB} {F:Fr} {S:AS} {w:World} {a:Act} (hR:R Λ ρ S w) (hF:dy ρ F a) {o:Oper} {l:List (AV×AS)}
  (h:bj cx F S o=.many l) (aZ:l≠[]):∃ r,r∈l∧bU Λ P ρ S w (execOp a.eval o) r.1 r.2:=by
 obtain ⟨dst,op,ty,pos,after,guard⟩:=o;rcases rM (by rw[h];rfl) with ⟨f,xs,kU,rfl⟩|⟨x,s,rfl⟩|⟨x,rfl⟩
 ·simp only[bj] at h;unfold lS at h;split at h
  ·split at h
   ·exact absurd (cU _ _) (by rw[h];simp[iI])
   ·cases h
  ·cases h
  ·cases h
 ·simp only[bj] at h;obtain ⟨r,hr,hs⟩:=nextV_many (P:=P) (ty:=ty) hR h aZ (hF.eval x);exact ⟨r,hr,bU.Em hs⟩
 ·simp only[bj] at h;split at h<;>cases h
theorem vM {S S':AS} {x:AV} {s:Bool}:(∀ f as,lH S x s≠.enter f as S')∧(∀ i as,lH S x s≠.round i as S')∧(∀ v,lH S x s≠.dj v S'):=by
 unfold lH;refine ⟨fun f as h=>?_,fun i as h=>?_,fun v h=>?_⟩ <;>
 ·split at h
  ·split at h
   ·cases s
    ·cases h
    ·simp only[cond_true] at h;split at h
     ·rename_i b _;cases hb:Nat.blt b 128<;>rw[hb] at h<;>cases h
     ·cases h
   ·cases s<;>cases h
   ·cases s
    ·simp only[cond_false] at h;split at h<;>cases h
    ·cases h
   ·cases h
  ·cases h
theorem aop_pan {P:Program} {cx:Cx} {ρ:aB} {F:Fr} {S S':AS} {w:World} {a:Act} (hF:dy ρ F a) {o:Oper} {v:AV}
  (h:bj cx F S o=.dj v S'):S'=S∧(∃ x,o.op=.panic x)∧∃ x,(execOp a.eval o).run P w=.halt (.panic x) w∧ah ρ v x:=by
 obtain ⟨dst,op,ty,pos,after,guard⟩:=o;rcases rM (by rw[h];rfl) with ⟨f,xs,kU,rfl⟩|⟨x,s,rfl⟩|⟨x,rfl⟩
 ·simp only[bj] at h;unfold lS at h;split at h
  ·split at h
   ·exact absurd (cU _ _) (by rw[h];simp[iI])
   ·cases h
  ·cases h
  ·cases h
 ·simp only[bj] at h;exact absurd h (vM.2.2 v)
 ·simp only[bj] at h;split at h
  ·rename_i t u he;cases h;have hx:=hF.eval x;rw[he] at hx;refine ⟨rfl,⟨x,rfl⟩,a.eval x,?_,hx⟩;obtain ⟨y,e,_⟩:=(by simpa only[ah] using hx:∃ y,a.eval x=.iface t y∧ah ρ u y)
   simp only[execOp,e,Instr.panic,goPanic,Sem.run_bind];rfl
  ·cases h
theorem aop_enter {P:Program} {cx:Cx} {ρ:aB} {F:Fr} {S S':AS} {a:Act} (hF:dy ρ F a) {o:Oper} {f:FuncId} {as:List AV}
  (h:bj cx F S o=.enter f as S'):S'=S∧∃ args,(∀ w:World,(execOp a.eval o).run P w=(callFunc f args).run P w)∧ak ρ as args.toList:=by
 obtain ⟨dst,op,ty,pos,after,guard⟩:=o;rcases rM (by rw[h];rfl) with ⟨fx,xs,kU,rfl⟩|⟨x,s,rfl⟩|⟨x,rfl⟩
 ·simp only[bj] at h;unfold lS at h;split at h
  ·rename_i g first captured he
   cases hxt:cx.exts.get g with
   | some xt=>
    rw[hxt] at h;simp only[] at h;exact absurd (cU _ _) (by rw[h];simp[iI])
   | none=>
    rw[hxt] at h;simp only[AR.enter.injEq,bf] at h;obtain ⟨rfl,rfl,rfl⟩:=h;have hf:=hF.eval fx;rw[he] at hf;simp only[ah] at hf;obtain ⟨p,q,e,hp,hq⟩:=hf;refine ⟨rfl,p++xs.map a.eval++q,fun w=>?_,?_⟩
    ·simp only[execOp,resolve,e,Deferred.ofValue];rfl
    ·simp only[Array.toList_append,List.append_assoc];exact hp.append ((ki hF xs).append hq)
  ·cases h
  ·cases h
 ·simp only[bj] at h;exact absurd h (vM.1 f as)
 ·simp only[bj] at h;split at h<;>cases h
theorem aop_round {P:Program} {cx:Cx} {ρ:aB} {F:Fr} {S S':AS} {a:Act} (hF:dy ρ F a) {o:Oper} {id:Nat} {as:List AV}
  (h:bj cx F S o=.round id as S'):S'=S∧∃ pl args,ρ id 0=some pl∧(∀ w:World,(execOp a.eval o).run P w=(Instr.yield pl.b args).run P w)∧ak ρ as args.toList:=by
 obtain ⟨dst,op,ty,pos,after,guard⟩:=o;rcases rM (by rw[h];rfl) with ⟨fx,xs,kU,rfl⟩|⟨x,s,rfl⟩|⟨x,rfl⟩
 ·simp only[bj] at h;unfold lS at h;split at h
  ·split at h
   ·exact absurd (cU _ _) (by rw[h];simp[iI])
   ·cases h
  ·rename_i i he;cases h;have hf:=hF.eval fx;rw[he] at hf;simp only[ah] at hf;obtain ⟨pl,p1,e⟩:=hf;refine ⟨rfl,pl,xs.map a.eval,p1,fun w=>?_,ki hF xs⟩;simp only[OK.val] at e;simp only[execOp,resolve,e,Deferred.ofValue,invoke,Sem.run_bind,Sem.run_pure,Result.andThen_ok,Array.empty_append]
  ·cases h
 ·simp only[bj] at h;exact absurd h (vM.2.1 id as)
 ·simp only[bj] at h;split at h<;>cases h
end Go.Am
