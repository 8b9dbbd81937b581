/-
  The abstract machine: a call that answers.
-/
import Derived.Test.YthklfandhmkpiaaGreatDoorAmDraws
import Derived.Test.YthklfandhmkpiaaGreatDoorAmRun
import Derived.Laws.Externs
open Array renaming getElem?_toList->zza
namespace Go.Am
open Go Go.RowKit
variable{Λ:LB}
structure zJ(P:Program)(A:Ask):Prop where
 mixed:P.follows .mixedOrders=true
 stood:∀t,t∈A.eqs->P.stoodInHeld t=false/\P.eqGuardType P.depth t=false/\∀f,f∈(P.fieldsOf t).toList->f.name ≠ "_"
 enters:∀f fn,P.funcs[f]?=some fn->fn.body.isSome=true->∀args w,(callFunc f args).run P w=.ok (.enter f args) w
 exts:∀x,x∈A.exts->ExtOk P x.1 x.2
theorem enters_ok{P:Program}(h:P.funcs.toList.all (fun fn=>!(fn.name == "runtime.NumGoroutine"))=true):∀f fn,P.funcs[f]?=some fn->fn.body.isSome=true->∀args w,(callFunc f args).run P w=.ok (.enter f args) w:=by
 intro f fn hf hb args w;have hn:=List.all_eq_true.1 h fn (List.mem_of_getElem? (by rw[zza];exact hf));have h1:fn.name ≠ "runtime.NumGoroutine":=by simpa using hn
 have h2:fn.body≠none:=by intro e;rw[e]at hb;cases hb
 simp[callFunc,hf,h1,h2]
theorem sG{α:Type}(l:List (Nat×α)):∀(t:T α)(i:Nat)(x:α),(l.foldl (fun t n=>t.set n.1 n.2) t).get i=some x->t.get i=some x\/(i,x)∈l:=by
 induction l with
 |nil=>intro t i x h;exact .inl h
 |cons n l ih=>
  intro t i x h;rcases ih _ i x h with h1|h1
  .by_cases hi:i=n.1
   .subst hi;rw[get_set_same]at h1;cases h1;exact .inr (List.mem_cons_self ..)
   .rw[ah _ _ hi]at h1;exact .inl h1
  .exact .inr (List.mem_cons_of_mem _ h1)
theorem foldl_unit(l:List Nat):∀(t:T Unit)(i:Nat),(l.foldl (fun t n=>t.set n ()) t).get i≠none->t.get i≠none\/i∈l:=by
 induction l with
 |nil=>intro t i h;exact .inl h
 |cons n l ih=>
  intro t i h;rcases ih _ i h with h1|h1
  .by_cases hi:i=n
   .exact .inr (by simp[hi])
   .rw[ah _ _ hi]at h1;exact .inl h1
  .exact .inr (by simp[h1])
theorem cx_ok{P:Program}{A:Ask}(h:zJ P A)(hp:∀x,x∈A.fi->kD Λ P x.1 x.2)(hg:∀x,x∈A.eZ->gu Λ.w Λ.B x.1 x.2):cU Λ P (sd P A):=by
 refine⟨fun t i ht=>?_,fun f fn hf=>?_,fun t ht=>?_,h.enters,fun f x hx=>?_,fun f q hq=>?_,fun g cs hgl=>?_⟩
 .have y8:(T.ofL P.types.toList 0 .leaf).get t=some i:=ht;rw[ui]at y8;split at y8
  .rename_i hb;have h1:P.types[t]?=some i:=by rw[<-zza];simpa using y8
   unfold Tables.info?;rw[if_pos (Array.getElem?_eq_some_iff.1 h1).1];exact h1
  .cases y8
 .have y8:(T.ofL P.funcs.toList 0 .leaf).get f=some fn:=hf;rw[ui]at y8;split at y8
  .rename_i hb;rw[<-zza];simpa using y8
  .cases y8
 .have y8:(A.eqs.foldl (fun t n=>t.set n ()) .leaf:T Unit).get t≠none:=ht;rcases foldl_unit A.eqs _ t y8 with h1|h1
  .exact absurd rfl h1
  .exact h.stood t h1
 .have kJ:(A.exts.foldl (fun t n=>t.set n.1 n.2) .leaf:T Xf).get f=some x:=hx;rcases sG A.exts _ f x kJ with h1|h1
  .cases h1
  .exact h.exts _ h1
 .have kJ:(A.fi.foldl (fun t n=>t.set n.1 n.2) .leaf:T _).get f=some q:=hq;rcases sG A.fi _ f q kJ with h1|h1
  .cases h1
  .exact hp _ h1
 .have kJ:(A.eZ.foldl (fun t n=>t.set n.1 n.2) .leaf:T _).get g=some cs:=hgl;rcases sG A.eZ _ g cs kJ with h1|h1
  .cases h1
  .exact hg _ h1
theorem Bd(w:World)(hs:Λ.w.heap.size<=w.heap.size)(hb:∀b,Λ.B b->b<Λ.w.heap.size/\w.heap[b]?=Λ.w.heap[b]?):R Λ (fun _ _=>none) ⟨.leaf,0⟩ w:=
 have none:∀(i:Nat)(o:dp),¬(T.leaf:T dp).get i=some o:=fun i o h=>by cases h
 ⟨fun i o h=>(none i o h).elim,fun i o h=>(none i o h).elim,fun _ _ _=>rfl,fun i c l t f ty h=>(none i _ h).elim,fun i o _ _ h=>(none i o h).elim,fun i _ o _ _ _ _ _ _ h=>(none i o h).elim,hs,
  fun b h=>⟨(hb b h).1,(hb b h).2,fun⟨i,o,_,_,ho,_⟩=>none i o ho⟩⟩
def isB1(b:Bool)(x:AV×AS):Bool:=match x.1 with | .bool c=>cond b c (!c)|_=>false
noncomputable def isB(b:Bool)(r:aC (AV×AS)):Bool:=
 match r with
 | .ok x xs=>cond (isB1 b x) (gS (isB1 b) xs) false
 | .err _=>false
noncomputable def says(P:Program)(A:Ask)(n:Nat)(f:FuncId)(b:Bool):Bool:=isB b (call (sd P A) n f [] ⟨.leaf,0⟩)
theorem Bt{P:Program}{A:Ask}(h:zJ P A)(hp:∀x,x∈A.fi->kD Λ P x.1 x.2)(hg:∀x,x∈A.eZ->gu Λ.w Λ.B x.1 x.2)(n:Nat)(f:FuncId)(b:Bool)
  (hs:true=says P A n f b) (w:World) (hz:Λ.w.heap.size<=w.heap.size) (hb:∀b,Λ.B b->b<Λ.w.heap.size/\w.heap[b]?=Λ.w.heap[b]?) :
  Calls P f #[] w fun e w'=>e=.returned (.bool b)/\Below w.heap.size w w':=by
 have hc:isB b (call (sd P A) n f [] ⟨.leaf,0⟩)=true:=hs.symm;unfold isB at hc;have aI:=cx_ok h hp hg;have hK:=rC aI (code_ok aI (D0 aI h.mixed) n).1;have one:∀x:AV×AS,isB1 b x=true->∀ρ' e w',hJ ρ' x.1 e->R Λ ρ' x.2 w'->Kp (fun _ _=>none) ⟨.leaf,0⟩ w ρ' x.2 w'->e=.returned (.bool b)/\Below w.heap.size w w':=by
  intro x h1 ρ' e w' h0 hR hk;unfold isB1 at h1;split at h1
  .rename_i c hx;have hbc:c=b:=by cases b<;>cases c<;>first|rfl|(cases h1)
   rw[hx]at h0;obtain⟨y,rfl,hy⟩:=h0;have hy':y=.bool c:=by simpa[aq]using hy
   refine⟨by rw[hy',hbc],hk.os,hk.tape,hk.output,hk.size,fun k hk'=>hk.fM k hk' ?_⟩;rintro⟨i,o,g,pl,ho,_⟩;cases ho
  .cases h1
 refine (hK (fun _ _=>none) (.fn f) [] ⟨.leaf,0⟩ w #[] (fun e w'=>e=.returned (.bool b)/\Below w.heap.size w w') ?_ (Bd w hz hb) (by simp[aD])).2;have sC:cD (sd P A) (exec (sd P A) n) (.fn f) [] ⟨.leaf,0⟩=call (sd P A) n f [] ⟨.leaf,0⟩:=rfl;rw[sC];split at hc
 .rename_i x xs heq;rw[heq];cases h1:isB1 b x with
  |false=>rw[h1]at hc;cases hc
  |true=>
   rw[h1]at hc;simp only[cond_true,iU,List.all_eq_true]at hc;exact⟨one x h1,fun y hy=>one y (hc y hy)⟩
 .cases hc
end Go.Am
namespace Go.Am
open Go Go.RowKit
theorem R.below{Λ:LB}{ρ:bf}{S:AS}{w w':World}(h:R Λ ρ S w)(hb:Below w.heap.size w w'):R Λ ρ S w'/\Kp ρ S w ρ S w':=by
 have hs:∀b,b<w.heap.size->w'.heap[b]?=w.heap[b]?:=fun b AT=>hb.block b AT;refine⟨⟨fun id o ho=>(h.ja id o ho).fM (Ext.refl _) fun g pl hp=>hs _ (h.lt id o g pl ho hp),h.xD,h.fresh,h.pW,fun id o g pl ho hp=>Nat.lt_of_lt_of_le (h.lt id o g pl ho hp) hb.size,h.apart,Nat.le_trans h.start hb.size,fun b hB=>?_⟩,
  ⟨Ext.refl _,hb.os,hb.tape,hb.output,hb.size,fun b hb' _=>hs b hb',fun _ h=>.inl h,fun _ h=>.inl h,Nat.le_refl _,fun _ _ _ h=>⟨rfl,h⟩⟩⟩
 obtain⟨d1,d2,d3⟩:=h.base b hB;exact⟨d1,(hs b (Nat.lt_of_lt_of_le d1 h.start)).trans d2,d3⟩
noncomputable def Ek(b:Bool)(as:List AV)(S:AS):Option (AV×AS):=match as with|[]=>some (.bool b,S)|_=>none
end Go.Am
namespace Go.Am
open Go
theorem find_range{α:Type}(p:α->Bool)(d:α):∀(l:List α)(k:Nat)(g:Nat->α),(∀i,i<l.length->g (i+k)=l.getD i d) ->
  (List.range' k l.length).find? (fun i=>p (g i))=(l.findIdx? p).map (· + k)
 |[],k,g,_=>rfl
 |x::l,k,g,h=>by
  have h0:g k=x:=by simpa using h 0 (by simp)
  rw[List.length_cons,List.range'_succ,List.find?_cons,h0,List.findIdx?_cons];cases p x with
  |true=>simp
  |false=>
   have ih:=find_range p d l (k+1) g (fun i hi=>by
    have:=h (i+1) (by simpa using hi);rw[show i+(k+1)=i+1+k by omega,this];simp)
   simp only[ih,Bool.false_eq_true,if_false,Option.map_map];congr 1;funext j;simp;omega
theorem yZ(c:Nat):∀(l:List UInt8)(i:Nat),tL c (l.map UInt8.toNat) i=(l.findIdx? fun x=>Nat.beq x.toNat c).map (· + i)
 |[],i=>rfl
 |x::l,i=>by
  show cond (Nat.beq x.toNat c) (some i) (tL c (l.map UInt8.toNat) (i+1))=_;rw[yZ c l (i+1),List.findIdx?_cons];cases Nat.beq x.toNat c with
  |true=>simp
  |false=>
   simp only[cond_false,Bool.false_eq_true,if_false,Option.map_map];congr 1;funext j;simp;omega
theorem xj(s:ByteArray)(c:Nat)(hc:c<256):Value.int .i64 (firstIdx s (c:Int).toNat.toUInt8)=(match tL c (s.data.toList.map UInt8.toNat) 0 with|some n=>.int .i64 n|none=>.int .i64 (-1)):=by
 have hp:∀x:UInt8,(x==(c:Int).toNat.toUInt8)=Nat.beq x.toNat c:=by
  intro x;rw[Int.toNat_natCast];have:(c.toUInt8).toNat=c:=by simp[Nat.mod_eq_of_lt hc]
  rw[Bool.eq_iff_iff,beq_iff_eq,Nat.beq_eq,<-UInt8.toNat_inj,this]
 have e:(List.range s.size).find? (fun i=>s[i]! == (c:Int).toNat.toUInt8)=tL c (s.data.toList.map UInt8.toNat) 0:=by
  rw[yZ,<-find_range (fun x:UInt8=>Nat.beq x.toNat c) 0 s.data.toList 0 (fun i=>s[i]!) (fun i hi=>by
   have ck:i<s.size:=by simpa using hi
   simp only[Nat.add_zero];rw[getElem!_pos s i ck,ByteArray.getElem_eq_getElem_data];simp[show s.data[i]?=some s.data[i] from Array.getElem?_eq_getElem ck]),List.range_eq_range']
  simp only[hp];congr 1
 unfold firstIdx;rw[e];cases tL c (s.data.toList.map UInt8.toNat) 0<;>rfl
end Go.Am
