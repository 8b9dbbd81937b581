/-
  The abstract machine: a call that answers.
-/
import Derived.Test.YtdknlbnljfdhgaaGreatDoorAmDraws
namespace Go.Am
open Go Go.RowKit
variable {Λ:LB}
structure nC (P:Program) (A:Ask):Prop where
 mixed:P.follows .mixedOrders=true
 stood:∀ t,t∈A.eqs→P.stoodInHeld t=false∧P.eqGuardType P.depth t=false∧∀ f,f∈(P.fieldsOf t).toList→f.name ≠ "_"
 enters:∀ f fn,P.funcs[f]?=some fn→fn.body.isSome=true→∀ args w,(callFunc f args).run P w=.ok (.enter f args) w
 exts:∀ x,x∈A.exts→ExtOk P x.1 x.2
theorem enters_ok {P:Program} (h:P.funcs.toList.all (fun fn=>!(fn.name == "runtime.NumGoroutine"))=true):∀ f fn,P.funcs[f]?=some fn→fn.body.isSome=true→∀ args w,(callFunc f args).run P w=.ok (.enter f args) w:=by
 intro f fn hf hb args w;have hn:=List.all_eq_true.1 h fn (List.mem_of_getElem? (by rw[Array.getElem?_toList];exact hf));have h1:fn.name ≠ "runtime.NumGoroutine":=by simpa using hn
 have h2:fn.body≠none:=by intro e;rw[e] at hb;cases hb
 simp[callFunc,hf,h1,h2]
theorem tK {α:Type} (l:List (Nat×α)):∀ (t:T α) (i:Nat) (x:α),(l.foldl (fun t n=>t.set n.1 n.2) t).get i=some x→t.get i=some x∨(i,x)∈l:=by
 induction l with
 | nil=>intro t i x h;exact .inl h
 | cons n l ih=>
  intro t i x h;rcases ih _ i x h with h1|h1
  ·by_cases hi:i=n.1
   ·subst hi;rw[aa] at h1;cases h1;exact .inr (List.mem_cons_self ..)
   ·rw[ae _ _ hi] at h1;exact .inl h1
  ·exact .inr (List.mem_cons_of_mem _ h1)
theorem foldl_unit (l:List Nat):∀ (t:T Unit) (i:Nat),(l.foldl (fun t n=>t.set n ()) t).get i≠none→t.get i≠none∨i∈l:=by
 induction l with
 | nil=>intro t i h;exact .inl h
 | cons n l ih=>
  intro t i h;rcases ih _ i h with h1|h1
  ·by_cases hi:i=n
   ·exact .inr (by simp[hi])
   ·rw[ae _ _ hi] at h1;exact .inl h1
  ·exact .inr (by simp[h1])
theorem cx_ok {P:Program} {A:Ask} (h:nC P A) (hp:∀ x,x∈A.bG→fP Λ P x.1 x.2) (hg:∀ x,x∈A.eU→kQ Λ.w Λ.B x.1 x.2):cX Λ P (j4 P A):=by
 refine ⟨fun t i ht=>?_,fun f fn hf=>?_,fun t ht=>?_,h.enters,fun f x hx=>?_,fun f q hq=>?_,fun g cs hgl=>?_⟩
 ·have ht':(T.ofL P.types.toList 0 .leaf).get t=some i:=ht;rw[vD] at ht';split at ht'
  ·rename_i hb;have h1:P.types[t]?=some i:=by rw[←Array.getElem?_toList];simpa using ht'
   unfold Tables.info?;rw[if_pos (Array.getElem?_eq_some_iff.1 h1).1];exact h1
  ·cases ht'
 ·have ht':(T.ofL P.funcs.toList 0 .leaf).get f=some fn:=hf;rw[vD] at ht';split at ht'
  ·rename_i hb;rw[←Array.getElem?_toList];simpa using ht'
  ·cases ht'
 ·have ht':(A.eqs.foldl (fun t n=>t.set n ()) .leaf:T Unit).get t≠none:=ht;rcases foldl_unit A.eqs _ t ht' with h1|h1
  ·exact absurd rfl h1
  ·exact h.stood t h1
 ·have nG:(A.exts.foldl (fun t n=>t.set n.1 n.2) .leaf:T Xf).get f=some x:=hx;rcases tK A.exts _ f x nG with h1|h1
  ·cases h1
  ·exact h.exts _ h1
 ·have nG:(A.bG.foldl (fun t n=>t.set n.1 n.2) .leaf:T _).get f=some q:=hq;rcases tK A.bG _ f q nG with h1|h1
  ·cases h1
  ·exact hp _ h1
 ·have nG:(A.eU.foldl (fun t n=>t.set n.1 n.2) .leaf:T _).get g=some cs:=hgl;rcases tK A.eU _ g cs nG with h1|h1
  ·cases h1
  ·exact hg _ h1
theorem empty_R (w:World) (hs:Λ.w.heap.size≤w.heap.size) (hb:∀ b,Λ.B b→b<Λ.w.heap.size∧w.heap[b]?=Λ.w.heap[b]?):R Λ (fun _ _=>none) ⟨.leaf,0⟩ w:=
 have none:∀ (i:Nat) (o:bE),¬(T.leaf:T bE).get i=some o:=fun i o h=>by cases h
 ⟨fun i o h=>(none i o h).elim,fun i o h=>(none i o h).elim,fun _ _ _=>rfl,fun i c l t f ty h=>(none i _ h).elim,fun i o _ _ h=>(none i o h).elim,fun i _ o _ _ _ _ _ _ h=>(none i o h).elim,hs,
  fun b h=>⟨(hb b h).1,(hb b h).2,fun ⟨i,o,_,_,ho,_⟩=>none i o ho⟩⟩
def isB1 (b:Bool) (x:AV×AS):Bool:=match x.1 with | .bool c=>cond b c (!c)|_=>false
noncomputable def isB (b:Bool) (r:aj (AV×AS)):Bool:=
 match r with
 | .ok x xs=>cond (isB1 b x) (eY (isB1 b) xs) false
 | .err _=>false
noncomputable def says (P:Program) (A:Ask) (n:Nat) (f:FuncId) (b:Bool):Bool:=isB b (call (j4 P A) n f [] ⟨.leaf,0⟩)
theorem BP {P:Program} {A:Ask} (h:nC P A) (hp:∀ x,x∈A.bG→fP Λ P x.1 x.2) (hg:∀ x,x∈A.eU→kQ Λ.w Λ.B x.1 x.2) (n:Nat) (f:FuncId) (b:Bool)
  (hs:true=says P A n f b) (w:World) (hz:Λ.w.heap.size≤w.heap.size) (hb:∀ b,Λ.B b→b<Λ.w.heap.size∧w.heap[b]?=Λ.w.heap[b]?) :
  Calls P f #[] w fun e w'=>e=.returned (.bool b)∧Below w.heap.size w w':=by
 have hc:isB b (call (j4 P A) n f [] ⟨.leaf,0⟩)=true:=hs.symm;unfold isB at hc;have az:=cx_ok h hp hg;have hK:=oK az (BG az (xO az h.mixed) n).1;have one:∀ x:AV×AS,isB1 b x=true→∀ ρ' e w',fT ρ' x.1 e→R Λ ρ' x.2 w'→Kp (fun _ _=>none) ⟨.leaf,0⟩ w ρ' x.2 w'→e=.returned (.bool b)∧Below w.heap.size w w':=by
  intro x h1 ρ' e w' h0 hR hk;unfold isB1 at h1;split at h1
  ·rename_i c hx;have hbc:c=b:=by cases b<;>cases c<;>first|rfl|(cases h1)
   rw[hx] at h0;obtain ⟨y,rfl,hy⟩:=h0;have hy':y=.bool c:=by simpa[ah] using hy
   refine ⟨by rw[hy',hbc],hk.os,hk.tape,hk.output,hk.size,fun k hk'=>hk.bH k hk' ?_⟩;rintro ⟨i,o,g,pl,ho,_⟩;cases ho
  ·cases h1
 refine (hK (fun _ _=>none) (.fn f) [] ⟨.leaf,0⟩ w #[] (fun e w'=>e=.returned (.bool b)∧Below w.heap.size w w') ?_ (empty_R w hz hb) (by simp[au])).2;have pT:bq (j4 P A) (exec (j4 P A) n) (.fn f) [] ⟨.leaf,0⟩=call (j4 P A) n f [] ⟨.leaf,0⟩:=rfl;rw[pT];split at hc
 ·rename_i x xs heq;rw[heq];cases h1:isB1 b x with
  | false=>rw[h1] at hc;cases hc
  | true=>
   rw[h1] at hc;simp only[cond_true,fS,List.all_eq_true] at hc;exact ⟨one x h1,fun y hy=>one y (hc y hy)⟩
 ·cases hc
end Go.Am
