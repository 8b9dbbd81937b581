/-
  The abstract machine: its operations one by one, as rules for simp.
-/
import Derived.Test.YtgkdgiognhbfjaaGreatDoorAmLogic
import Derived.IntWalk
namespace Go.Am
open Go
section
variable {cx:Cx} {ops:List Oper} {o:Oper} {l:List Oper} {F:Fr} {S:AS} {Q:Fr→AS→Prop} {K:AV→AS→Prop}
theorem opsP_nil:qY cx ops [] F S Q=Q F S:=rfl
def kont (cx:Cx) (ops l:List Oper) (F:Fr) (d:Option Nat) (Q:Fr→AS→Prop) (v:AV) (S':AS):Prop:=qY cx ops l (up F d v) S' Q
theorem kont_app {d:Option Nat} {v:AV} {S':AS}:kont cx ops l F d Q v S'=qY cx ops l (up F d v) S' Q:=rfl
theorem opsP_cons:qY cx ops (o :: l) F S Q=dU cx ops o F S (kont cx ops l F o.dst Q):=rfl
theorem stepP_free {dst:Option Tmp} {op:Op} {ty:TypeId} {pos:String} {af:Array Edge}:dU cx ops ⟨dst,op,ty,pos,af,none⟩ F S K=qM cx (bj cx F S ⟨dst,op,ty,pos,af,none⟩) K:=by
 simp[dU,bg]
theorem nF {dst:Option Tmp} {op:Op} {ty:TypeId} {pos:String} {af:Array Edge} {j:Nat} {w:Bool}:dU cx ops ⟨dst,op,ty,pos,af,some (j,w)⟩ F S K =
  (match bg ops F (some (j,w)) with
   | some b=>(b=true→qM cx (bj cx F S ⟨dst,op,ty,pos,af,some (j,w)⟩) K)∧(b=false→K .undef S)
   | none=>False):=rfl
def dz:List Oper→Nat→Option Nat
 | [],_=>none
 | o :: _,0=>o.dst
 | _ :: l,n+1=>dz l n
theorem B8 {o:Oper} {l:List Oper}:dz (o :: l) 0=o.dst:=rfl
theorem B9 {o:Oper} {l:List Oper} {n:Nat}:dz (o :: l) (n+1)=dz l n:=rfl
theorem iG:∀ (l:List Oper) (j d:Nat),dz l j=some d→∃ p,l[j]?=some p∧p.dst=some d
 | [],_,_,h=>by cases h
 | o :: l,0,d,h=>⟨o,rfl,h⟩
 | o :: l,n+1,d,h=>by simpa using iG l n d h
theorem dP {j d:Nat} {w b:Bool} (h1:dz ops j=some d) (h2:sl F d=.bool b):bg ops F (some (j,w))=some (cond w b (!b)):=by
 obtain ⟨p,e1,e2⟩:=iG ops j d h1;simp[bg,e1,e2,h2]
theorem stepP_run {dst:Option Tmp} {op:Op} {ty:TypeId} {pos:String} {af:Array Edge} {j d:Nat} {w b:Bool} (h1:dz ops j=some d) (h2:sl F d=.bool b) (h3:(b == w)=true) :
  dU cx ops ⟨dst,op,ty,pos,af,some (j,w)⟩ F S K=qM cx (bj cx F S ⟨dst,op,ty,pos,af,some (j,w)⟩) K:=by
 have hw:=dP (w:=w) h1 h2;obtain rfl:b=w:=by simpa using h3
 rw[nF,hw];cases b<;>simp
theorem stepP_skip {dst:Option Tmp} {op:Op} {ty:TypeId} {pos:String} {af:Array Edge} {j d:Nat} {w b:Bool} (h1:dz ops j=some d) (h2:sl F d=.bool b) (h3:(b == !w)=true) :
  dU cx ops ⟨dst,op,ty,pos,af,some (j,w)⟩ F S K=K .undef S:=by
 have hw:=dP (w:=w) h1 h2;obtain rfl:b=!w:=by simpa using h3
 rw[nF,hw];cases w<;>simp
theorem B3 {dst:Option Tmp} {op:Op} {ty:TypeId} {pos:String} {af:Array Edge} {j d:Nat} {w:Bool} (h1:dz ops j=some d) (h2:sl F d=.undef) :
  dU cx ops ⟨dst,op,ty,pos,af,some (j,w)⟩ F S K=K .undef S:=by
 obtain ⟨p,e1,e2⟩:=iG ops j d h1;have hw:bg ops F (some (j,w))=some false:=by simp[bg,e1,e2,h2,AV.undef]
 rw[nF,hw];simp
theorem runP_val {v:AV} {S':AS}:qM cx (.val v S') K=K v S':=rfl
theorem runP_enter {f:FuncId} {as:List AV} {S':AS}:qM cx (.enter f as S') K=ai cx f as S' K:=rfl
theorem runP_err {n:Nat}:qM cx (.err n) K=False:=rfl
variable {dst:Option Tmp} {ty:TypeId} {pos:String} {af:Array Edge} {g:Option (Nat×Bool)}
theorem aop_move {x:Operand}:bj cx F S ⟨dst,.move x,ty,pos,af,g⟩=.val (eval F x) S:=rfl
theorem aop_assign {x:Operand}:bj cx F S ⟨dst,.assign x,ty,pos,af,g⟩=.val (eval F x) S:=rfl
def pickR (c a b:AV) (S:AS):AR:=match c with | .bool true=>.val a S | .bool false=>.val b S|_=>.err 20
theorem aop_pick {c a b:Operand}:bj cx F S ⟨dst,.pick c a b,ty,pos,af,g⟩=pickR (eval F c) (eval F a) (eval F b) S:=rfl
theorem pickR_true {a b:AV}:pickR (.bool true) a b S=.val a S:=rfl
theorem CG {a b:AV}:pickR (.bool false) a b S=.val b S:=rfl
theorem aop_bin {op:BinOp} {t u:TypeId} {x y:Operand}:bj cx F S ⟨dst,.binOp op t x y u,ty,pos,af,g⟩=val? (br cx op t ((x matches .const _)||(y matches .const _)) (eval F x) (eval F y)) S 40:=rfl
theorem aop_un {op:UnOp} {t:TypeId} {x:Operand}:bj cx F S ⟨dst,.unOp op t x,ty,pos,af,g⟩=val? (unV op (eval F x)) S 41:=rfl
theorem val?_some {v:AV} {n:Nat}:val? (some v) S n=.val v S:=rfl
theorem vals?_some {v:AV} {S':AS} {n:Nat}:b8 (some (v,S')) n=.val v S':=rfl
theorem oB {x:Operand} {i:Nat}:bj cx F S ⟨dst,.extract x i,ty,pos,af,g⟩=(match eval F x with | .tuple vs=>val? (nth i vs) S 82|_=>.err 83):=rfl
theorem aop_call {f:Operand} {as:Array Operand} {kU:Array TypeId}:bj cx F S ⟨dst,.call ⟨.value f,as,kU⟩,ty,pos,af,g⟩=lS cx S (eval F f) (args F as):=rfl
theorem Eb {b:Builtin} {as:Array Operand} {kU:Array TypeId}:bj cx F S ⟨dst,.call ⟨.builtin b,as,kU⟩,ty,pos,af,g⟩=aV cx S b kU.toList (args F as):=rfl
theorem args_eq {as:Array Operand}:args F as=as.toList.map (eval F):=by unfold args;rw[fo]
theorem callV_func {f:FuncId} {first captured as:List AV} (h:cx.exts.get f=none):lS cx S (.func (.func f) first captured) as=.enter f (first++(as++captured)) S:=by
 simp only[lS,h,bf]
theorem aop_alloc {e:TypeId}:bj cx F S ⟨dst,.alloc e,ty,pos,af,g⟩=dT (al cx F S.next (.alloc e)) S 21:=rfl
theorem aop_box {t:TypeId} {x:Operand}:bj cx F S ⟨dst,.box t x,ty,pos,af,g⟩=dT (al cx F S.next (.box t x)) S 23:=rfl
theorem aop_build {t:TypeId} {ps:Array (Nat×Operand)}:bj cx F S ⟨dst,.build t ps,ty,pos,af,g⟩=val? (kS cx F t ps.toList) S 24:=rfl
theorem xw {t:TypeId} {n:Nat} {ps:Array (Nat×Operand)}:bj cx F S ⟨dst,.buildSlice t n ps,ty,pos,af,g⟩=dT (al cx F S.next (.buildSlice t n ps)) S 25:=rfl
theorem D9 {t:TypeId} {r:Option Operand}:bj cx F S ⟨dst,.makeMap t r,ty,pos,af,g⟩=dT (al cx F S.next (.makeMap t r)) S 48:=rfl
theorem yp {t:TypeId} {a b:Operand}:bj cx F S ⟨dst,.makeSlice t a b,ty,pos,af,g⟩=dT (al cx F S.next (.makeSlice t a b)) S 49:=rfl
theorem Dr {v:AV} {o:bu} {n:Nat}:dT (some (v,o)) S n=.val v ⟨S.h.set S.next o,S.next+1⟩:=rfl
theorem Bt {fn:Fn} {a b:Array Operand}:bj cx F S ⟨dst,.makeFunc fn a b,ty,pos,af,g⟩=.val (.func fn (args F a) (args F b)) S:=rfl
theorem aop_lookup {t:TypeId} {x i:Operand} {ok:Bool}:bj cx F S ⟨dst,.lookup t x i ok,ty,pos,af,g⟩=val? (ig cx S t (eval F x) (eval F i) ok) S 71:=rfl
theorem yn {t:TypeId} {m k v:Operand}:bj cx F S ⟨dst,.mapUpdate t m k v,ty,pos,af,g⟩=b8 (iQ cx S t (eval F m) (eval F k) (eval F v)) 78:=rfl
theorem aop_assert {x:Operand} {t u:TypeId} {ok:Bool}:bj cx F S ⟨dst,.typeAssert x t u ok,ty,pos,af,g⟩=val? (iw cx (eval F x) u ok) S 85:=rfl
theorem aop_slice {t:TypeId} {x:Operand} {a b c:Option Operand}:bj cx F S ⟨dst,.slice t x a b c,ty,pos,af,g⟩=val? (ek cx F t (eval F x) a b c) S 53:=rfl
theorem aop_load {t:TypeId} {x:Operand} {id gn off aq:Nat} {v:AV} (hx:eval F x=.ptr id gn off aq) (h:m9 cx S t (.ptr id gn off aq)=some v):bj cx F S ⟨dst,.load t x,ty,pos,af,g⟩=.val v S:=by
 unfold m9 at h;simp only[bj,hx];simp only at h;cases ha:bp cx t with
 | none=>simp[ha] at h
 | some b=>
  cases b with
  | true=>
   simp only[ha] at h ⊢;cases hs:aD cx t with
   | none=>simp[hs] at h
   | some n=>
    simp only[hs] at h ⊢;cases hr:rd S id gn off n aq with
    | none=>simp[hr] at h
    | some cs=>simp only[hr,Option.some.injEq] at h ⊢;rw[h]
  | false=>
   simp only[ha] at h ⊢;split at h
   ·rename_i u hr;simp only[Option.some.injEq] at h;subst h;rw[hr]
   ·cases h
theorem aop_store {t:TypeId} {x y:Operand} {id gn off aq n:Nat} {cs:List AV} {S':AS} (hx:eval F x=.ptr id gn off aq) (hy:cellsOf (eval F y)=some cs) (hs:aD cx t=some n) (hl:cs.length=n)
  (hw:wr S id gn off aq cs=some S'):bj cx F S ⟨dst,.store t x y,ty,pos,af,g⟩=.val .undef S':=by
 simp only[bj,hx,hy,hs,hw,aT,aS,hl,decide_true,cond_true]
theorem lX {x:Operand} {i gn o l:Nat} (hx:eval F x=.ptr i gn o l):bj cx F S ⟨dst,.nilCheck x,ty,pos,af,g⟩=.val (.ptr i gn o l) S:=by simp only[bj,hx]
theorem rL {x:Operand} {f:FuncId} {a b:List AV} (hx:eval F x=.func (.func f) a b):bj cx F S ⟨dst,.nilCheck x,ty,pos,af,g⟩=.val (.func (.func f) a b) S:=by simp only[bj,hx]
theorem D7 {t:TypeId} {x:Operand} {d:TypeDesc} (h:bm cx t=some d) (hn:(match d with | .interface _=>false|_=>true)=true):bj cx F S ⟨dst,.makeInterface t x,ty,pos,af,g⟩=.val (.iface t (eval F x)) S:=by
 simp only[bj,h];cases d<;>first|rfl|cases hn
theorem yr {s:TypeId} {x:Operand} {f id gn off aq z:Nat} {fs:Array Field} {fd:Field} (hx:eval F x=.ptr id gn off aq) (hu:bm cx s=some (.struct fs)) (hf:fs[f]?=some fd) (hz:aD cx fd.type=some (z+1)) :
  bj cx F S ⟨dst,.fieldAddr s x f,ty,pos,af,g⟩=.val (.ptr id gn (off+fd.offset) aq) S:=by
 have AN:nth f fs.toList=some fd:=by rw[fW,Array.getElem?_toList];exact hf
 simp only[bj,hu,hx,AN,hz,aA];rfl
theorem aop_field {t:TypeId} {x:Operand} {f:Nat} {cs:List AV} {fs:Array Field} {fd:Field} (hx:eval F x=.agg cs) (hu:bm cx t=some (.struct fs)) (hf:fs[f]?=some fd) :
  bj cx F S ⟨dst,.field t x f,ty,pos,af,g⟩=val? (partOf cx fd.type cs fd.offset) S 57:=by
 have AN:nth f fs.toList=some fd:=by rw[fW,Array.getElem?_toList];exact hf
 simp only[bj,hu,hx,AN]
theorem pM {t e:TypeId} {x ix:Operand} {id gn off len aq z i:Nat} {cap:Option Nat} {k:IntKind} {n:Int} (hx:eval F x=.slice id gn off len aq z cap) (hu:bm cx t=some (.slice e)) (hz:aD cx e=some z)
  (hi:eval F ix=.int k n) (hn:n=(i:Int)) (hl:i<len):bj cx F S ⟨dst,.indexAddr t x ix,ty,pos,af,g⟩=.val (.ptr id gn (off+i*z) aq) S:=by
 subst hn;simp only[bj,hu,hx,hi,dV,hz,aT,gW,hl,decide_true,Bool.and_self,cond_true,aA];rfl
theorem Bx {s d:TypeId} {x:Operand} {k j:IntKind} {n:Int} {e:TypeDesc} (hs:bm cx s=some e) (hd:bm cx d=some (.int k)) (hx:eval F x=.int j n):bj cx F S ⟨dst,.convert s d x,ty,pos,af,g⟩=.val (.int k (k.wrap n)) S:=by
 simp only[bj,hs,hd,hx,gH]
theorem len_slice {t:TypeId} {ts:List TypeId} {e:TypeId} {as:List AV} {id gn off len aq z:Nat} {cap:Option Nat} (hu:bm cx t=some (.slice e)):aV cx S .len (t :: ts) (.slice id gn off len aq z cap :: as)=.val (.int .i64 len) S:=by
 simp only[aV,lenV,hu,aA];rfl
theorem len_nils {t:TypeId} {ts:List TypeId} {e:TypeId} {as:List AV} (hu:bm cx t=some (.slice e)):aV cx S .len (t :: ts) (.az :: as)=.val (.int .i64 0) S:=by
 simp only[aV,lenV,hu,aA];rfl
theorem gz {t:TypeId} {ts:List TypeId} {as:List AV} {s:List Nat} (hu:bm cx t=some .string):aV cx S .len (t :: ts) (.str s :: as)=.val (.int .i64 s.length) S:=by
 simp only[aV,lenV,hu,aA];rfl
end
section
variable {cx:Cx} {t:TypeId} {c:Bool} {k:IntKind} {a b:Int}
theorem bin_add:br cx .add t c (.int k a) (.int k b)=some (.int k (k.wrap (a+b))):=by simp[br,cn,pk,gH]
theorem bin_sub:br cx .sub t c (.int k a) (.int k b)=some (.int k (k.wrap (a-b))):=by simp[br,cn,pk,gH];rfl
theorem bin_mul:br cx .mul t c (.int k a) (.int k b)=some (.int k (k.wrap (a*b))):=by simp[br,cn,pk,gH]
theorem bin_quo (h:b≠0):br cx .quo t c (.int k a) (.int k b)=some (.int k (k.wrap (a.tdiv b))):=by
 have:eqI b 0=false:=by rw[iM];simpa using h
 simp[br,cn,pk,gH,this]
theorem bin_rem (h:b≠0):br cx .rem t c (.int k a) (.int k b)=some (.int k (a.tmod b)):=by
 have:eqI b 0=false:=by rw[iM];simpa using h
 simp[br,cn,pk,ev,this]
theorem bin_eql:br cx .eql t c (.int k a) (.int k b)=some (.bool (decide (a=b))):=by simp[br,cn,pk,iM]
theorem bin_neq:br cx .neq t c (.int k a) (.int k b)=some (.bool (!decide (a=b))):=by simp[br,cn,pk,iM]
theorem bin_lss:br cx .lss t c (.int k a) (.int k b)=some (.bool (decide (a<b))):=by simp[br,cn,pk,jX]
theorem bin_leq:br cx .leq t c (.int k a) (.int k b)=some (.bool (decide (a≤b))):=by
 simp only[br,cn,pk,jX,decide_true,cond_true,Option.some.injEq,AV.bool.injEq];by_cases h:a≤b<;>simp[h]<;>omega
theorem bin_gtr:br cx .gtr t c (.int k a) (.int k b)=some (.bool (decide (b<a))):=by simp[br,cn,pk,jX]
theorem bin_geq:br cx .geq t c (.int k a) (.int k b)=some (.bool (decide (b≤a))):=by
 simp only[br,cn,pk,jX,decide_true,cond_true,Option.some.injEq,AV.bool.injEq];by_cases h:b≤a<;>simp[h]<;>omega
theorem Bp {x y:Bool} (h:bm cx t=some .bool):br cx .eql t c (.bool x) (.bool y)=some (.bool (x == y)):=by
 have e:tj cx 6 t (.bool x) (.bool y)=some (x == y):=by
  show (match bm cx t with|none=>none|some d=>gK cx (tj cx 5) t d (.bool x) (.bool y))=_;rw[h];rfl
 simp[br,eqV,pW,e]
theorem Bo {x y:Bool} (h:bm cx t=some .bool):br cx .neq t c (.bool x) (.bool y)=some (.bool (!(x == y))):=by
 have e:tj cx 6 t (.bool x) (.bool y)=some (x == y):=by
  show (match bm cx t with|none=>none|some d=>gK cx (tj cx 5) t d (.bool x) (.bool y))=_;rw[h];rfl
 simp[br,eqV,pW,e]
theorem un_not {x:Bool}:unV .not (.bool x)=some (.bool (!x)):=rfl
end
theorem runP_mono {cx:Cx} {r:AR} {K K':AV→AS→Prop} (h:qM cx r K) (k:∀ v S',K v S'→K' v S'):qM cx r K':=by
 unfold qM at h ⊢;cases r with
 | val v S'=>exact k _ _ h
 | enter f as S'=>exact h.mono k
 | err n=>exact h
 | round f as S'=>exact h
 | dj v S'=>exact h
 | many l=>exact h
theorem mn {cx:Cx} {ops:List Oper} {o:Oper} {F:Fr} {S:AS} {K K':AV→AS→Prop} (h:dU cx ops o F S K) (k:∀ v S',K v S'→K' v S'):dU cx ops o F S K':=by
 unfold dU at h ⊢;cases hw:bg ops F o.guard with
 | none=>rw[hw] at h;exact h
 | some b=>rw[hw] at h;exact ⟨fun hb=>runP_mono (h.1 hb) k,fun hb=>k _ _ (h.2 hb)⟩
theorem yN {cx:Cx} {ops:List Oper} {Q Q':Fr→AS→Prop}:∀ {l:List Oper} {F:Fr} {S:AS},qY cx ops l F S Q→(∀ F' S',Q F' S'→Q' F' S')→qY cx ops l F S Q'
 | [],_,_,h,k=>k _ _ h
 | _ :: _,_,_,h,k=>mn h fun _ _ h'=>yN h' k
section
variable {cx:Cx} {F:Fr} {S:AS} {Q:Ex→Fr→AS→Prop}
end
def aY:List Nat→Fr→Fr→Prop
 | [],_,_=>True
 | t :: l,F,G=>sl F t=sl G t∧aY l F G
theorem agree_nil (F G:Fr):aY [] F G=True:=rfl
theorem agree_cons (t:Nat) (l:List Nat) (F G:Fr):aY (t :: l) F G=(sl F t=sl G t∧aY l F G):=rfl
theorem wpP_congr {cx:Cx} {c:Code} {F F':Fr} {S S':AS} {Q:Ex→Fr→AS→Prop} (h1:F=F') (h2:S=S'):jE cx c F S Q=jE cx c F' S' Q:=by rw[h1,h2]
theorem A8 {cx:Cx} {ops:List Oper} {F F':Fr} {S S':AS} {Q:Fr→AS→Prop} (h1:F=F') (h2:S=S'):jl cx ops F S Q=jl cx ops F' S' Q:=by rw[h1,h2]
theorem Ei {cx:Cx} {b:Code} {F F':Fr} {S S':AS} {Q:Ex→Fr→AS→Prop} (h1:F=F') (h2:S=S'):ue cx b F S Q=ue cx b F' S' Q:=by rw[h1,h2]
theorem DO {x x':AV} {A B:Prop} (h:x=x'):iC x A B=iC x' A B:=by rw[h]
section
variable {cx:Cx} {F:Fr} {S:AS} {Q:Ex→Fr→AS→Prop}
theorem wpP_skip:jE cx .skip F S Q=Q .normal F S:=rfl
theorem wpP_ret:jE cx .ret F S Q=Q .ret F S:=rfl
theorem wpP_exit {id:Nat}:jE cx (.exit id) F S Q=Q (.exit id) F S:=rfl
theorem Ew {id:Nat} {l:List Oper}:jE cx (.region id l.toArray false) F S Q=qY cx l l F S (Q .normal):=rfl
theorem wpP_drawn {id:Nat} {l:List Oper}:jE cx (.region id l.toArray true) F S Q=jl cx l F S (Q .normal):=rfl
def kcode (cx:Cx) (b:Code) (Q:Ex→Fr→AS→Prop) (F':Fr) (S':AS):Prop:=jE cx b F' S' Q
theorem aJ {b:Code} {F':Fr} {S':AS}:kcode cx b Q F' S'=jE cx b F' S' Q:=rfl
theorem ks {a b:Code}:jE cx (.seq a b) F S Q=jE cx a F S (jP (kcode cx b Q) Q):=rfl
theorem bA {x:Operand} {a b:Code}:jE cx (.cond x a b) F S Q=iC (eval F x) (jE cx a F S Q) (jE cx b F S Q):=rfl
theorem wpP_scope {b:Code}:jE cx (.scope b) F S Q=jE cx b F S (nI Q):=rfl
theorem wpP_label {l:Nat}:jE cx (.label l) F S Q=Q .normal F S:=rfl
theorem ck {id:Nat} {b:Code}:jE cx (.block id b) F S Q=jE cx b F S (kT id Q):=rfl
theorem iT {b:Code}:jE cx (.loop b) F S Q=ue cx b F S Q:=rfl
theorem condP_true {A B:Prop}:iC (.bool true) A B=A:=by simp[iC]
theorem DN {A B:Prop}:iC (.bool false) A B=B:=by simp[iC]
theorem bodyP_ret {fn:Func} {K:AV→AS→Prop}:tY cx fn K .ret F S=uD (jU cx F S fn.results.toList |>.map fun vs=>match vs with|[v]=>v|vs=>.tuple vs) S K:=rfl
theorem Bm {fn:Func} {K:AV→AS→Prop}:tY cx fn K .normal F S=uD (jU cx F S fn.results.toList |>.map fun vs=>match vs with|[v]=>v|vs=>.tuple vs) S K:=rfl
theorem endP_some {v:AV} {K:AV→AS→Prop}:uD (some v) S K=(bD v=false∧K v S):=rfl
theorem np_undef  : bD (.undef:AV)=false:=rfl
theorem np_bool {b:Bool}:bD (.bool b)=false:=rfl
theorem np_int {k:IntKind} {n:Int}:bD (.int k n)=false:=rfl
theorem np_str {l:List Nat}:bD (.str l)=false:=rfl
theorem np_nilp  : bD .dr=false:=rfl
theorem np_ptr {a b c d:Nat}:bD (.ptr a b c d)=false:=rfl
theorem np_glob {a b:Nat}:bD (.mS a b)=false:=rfl
theorem np_nils  : bD .az=false:=rfl
theorem np_slice {a b c d e f:Nat} {g:Option Nat}:bD (.slice a b c d e f g)=false:=rfl
theorem np_nilm  : bD .gV=false:=rfl
theorem np_map {a:Nat}:bD (.map a)=false:=rfl
theorem np_func {f:Fn} {a b:List AV}:bD (.func f a b)=false:=rfl
theorem np_nilf  : bD .ko=false:=rfl
theorem np_niface  : bD .bN=false:=rfl
theorem np_iface {t:TypeId} {v:AV}:bD (.iface t v)=false:=rfl
theorem np_agg {l:List AV}:bD (.agg l)=false:=rfl
theorem np_tuple {l:List AV}:bD (.tuple l)=false:=rfl
theorem np_obj {o:OK} {i:Nat}:bD (.obj o i)=false:=rfl
theorem qQ:jU cx F S []=some []:=rfl
theorem qP {t:Nat} {l:List ResultVar}:jU cx F S (.tmp t :: l)=(jU cx F S l).map (sl F t :: ·):=by
 show mB cx F S (.tmp t) (jU cx F S l)=_;cases jU cx F S l with
 | none=>rfl
 | some vs=>simp only[mB,aE,Option.map_some]
theorem resL_cell {t:Nat} {ty:TypeId} {l:List ResultVar}:jU cx F S (.cell t ty :: l)=(jU cx F S l).bind fun vs=>(m9 cx S ty (sl F t)).map (· :: vs):=by
 show mB cx F S (.cell t ty) (jU cx F S l)=_;cases jU cx F S l with
 | none=>rfl
 | some vs=>
  simp only[mB,aE,Option.bind_some];cases m9 cx S ty (sl F t)<;>rfl
end
theorem Ek {cx:Cx} {f:FuncId} {as as':List AV} {S S':AS} {Q:AV→AS→Prop} (h1:as=as') (h2:S=S'):ai cx f as S Q=ai cx f as' S' Q:=by rw[h1,h2]
theorem zO {R:Fr→AS→Prop} {Q:Ex→Fr→AS→Prop} {F:Fr} {S:AS}:jP R Q .normal F S=R F S:=rfl
theorem thenP_exit {R:Fr→AS→Prop} {Q:Ex→Fr→AS→Prop} {F:Fr} {S:AS} {i:Nat}:jP R Q (.exit i) F S=Q (.exit i) F S:=rfl
theorem thenP_ret {R:Fr→AS→Prop} {Q:Ex→Fr→AS→Prop} {F:Fr} {S:AS}:jP R Q .ret F S=Q .ret F S:=rfl
theorem xN {Q:Ex→Fr→AS→Prop} {F:Fr} {S:AS}:nI Q .normal F S=Q .normal F S:=rfl
theorem scopeP_ret {Q:Ex→Fr→AS→Prop} {F:Fr} {S:AS}:nI Q .ret F S=Q .ret F S:=rfl
theorem Cg {Q:Ex→Fr→AS→Prop} {F:Fr} {S:AS} {i:Nat}:nI Q (.exit i) F S=Q (.exit i) F S:=rfl
theorem yh {id:Nat} {Q:Ex→Fr→AS→Prop} {F:Fr} {S:AS}:kT id Q .normal F S=Q .normal F S:=rfl
theorem blockP_ret {id:Nat} {Q:Ex→Fr→AS→Prop} {F:Fr} {S:AS}:kT id Q .ret F S=Q .ret F S:=rfl
theorem DY {id j:Nat} {Q:Ex→Fr→AS→Prop} {F:Fr} {S:AS}:kT id Q (.exit j) F S=if j=id then Q .normal F S else Q (.exit j) F S:=rfl
theorem nth_lit {α:Type} (n:Nat) (l:List α):nth n l=l[n]?:=fW n l
theorem opsP_congr {cx:Cx} {ops l:List Oper} {F F':Fr} {S S':AS} {Q:Fr→AS→Prop} (h1:F=F') (h2:S=S'):qY cx ops l F S Q=qY cx ops l F' S' Q:=by rw[h1,h2]
theorem B4 {cx:Cx} {ops:List Oper} {o:Oper} {F F':Fr} {S S':AS} {K:AV→AS→Prop} (h1:F=F') (h2:S=S'):dU cx ops o F S K=dU cx ops o F' S' K:=by rw[h1,h2]
theorem runP_congr {cx:Cx} {r r':AR} {K:AV→AS→Prop} (h1:r=r'):qM cx r K=qM cx r' K:=by rw[h1]
theorem BS {ops:List Oper} {F F':Fr} {g:Option (Nat×Bool)} (h:F=F'):bg ops F g=bg ops F' g:=by rw[h]
theorem zV {ops:List Oper} {n m:Nat} (h:n=m):dz ops n=dz ops m:=by rw[h]
attribute [congr] BS zV wpP_congr A8 Ei DO Ek opsP_congr B4 runP_congr
attribute [simp] kont_app aJ agree_nil agree_cons wpP_skip wpP_ret wpP_exit Ew wpP_drawn ks bA ck wpP_scope wpP_label xN scopeP_ret Cg iT condP_true DN bodyP_ret Bm endP_some qQ qP resL_cell mV np_undef np_bool np_int np_str np_nilp np_ptr np_glob np_nils np_slice np_nilm np_map np_func np_nilf np_niface np_iface np_agg np_tuple np_obj
 sl_up up_none kN aE eval_const eval_func eval_global ofV_bool ofV_int ofV_string ofV_nilp ofV_nils ofV_nilm ofV_nilf ofV_niface
 opsP_nil opsP_cons stepP_free stepP_run stepP_skip B3 B8 B9 runP_val runP_enter runP_err aop_move aop_assign aop_pick pickR_true CG aop_bin aop_un val?_some vals?_some oB
 aop_call Eb args_eq callV_func aop_alloc aop_box aop_build xw D9 yp Dr Bt aop_lookup yn aop_assert aop_slice
 bin_add bin_sub bin_mul bin_eql bin_neq bin_lss bin_leq bin_gtr bin_geq bin_quo bin_rem Bp Bo un_not zO thenP_exit thenP_ret yh blockP_ret DY nth_lit
end Go.Am
namespace Go.Am
open Go Go.RowKit
structure Sub (S T:AS):Prop where
 h:∀ id,id<S.next→T.h.get id=S.h.get id
 next:S.next≤T.next
theorem Sub.refl (S:AS):Sub S S:=⟨fun _ _=>rfl,Nat.le_refl _⟩
theorem Sub.trans {A B C:AS} (h:Sub A B) (k:Sub B C):Sub A C:=⟨fun id hi=>(k.h id (Nat.lt_of_lt_of_le hi h.next)).trans (h.h id hi),Nat.le_trans h.next k.next⟩
theorem Sub.set {A S:AS} (h:Sub A S) (id:Nat) (o:bu) (hi:A.next≤id) (n:Nat) (hn:S.next≤n):Sub A ⟨S.h.set id o,n⟩:=
 ⟨fun i bF=>by show (S.h.set id o).get i=_;rw[ae _ _ (by omega)];exact h.h i bF,Nat.le_trans h.next hn⟩
theorem R.drop {Λ:LB} {ρ:aB} {S T:AS} {w:World} (h:R Λ ρ T w) (hs:Sub S T) (hd:∀ id o,S.h.get id=some o→id<S.next)
  (ho:∀ id o,S.h.get id=some o→qz (fun i g=>if i<S.next then ρ i g else none) w id o):R Λ (fun i g=>if i<S.next then ρ i g else none) S w:=by
 have hT:∀ id o,S.h.get id=some o→T.h.get id=some o:=fun id o hi=>by rw[hs.h id (hd id o hi)];exact hi
 refine ⟨ho,hd,fun id g hi=>by simp only[if_neg (Nat.not_lt.2 hi)],fun id c l t f ty hi g hg=>?_,fun id o g pl hi hp=>?_,fun i j o oj g gj pl pa gJ hi hj hp qC=>?_,h.start,fun b hb=>?_⟩
 ·simp only[if_pos (hd id _ hi)];exact h.mh id c l t f ty (hT id _ hi) g hg
 ·simp only[if_pos (hd id _ hi)] at hp;exact h.lt id o g pl (hT id _ hi) hp
 ·simp only[if_pos (hd i _ hi)] at hp;simp only[if_pos (hd j _ hj)] at qC;exact h.apart i j o oj g gj pl pa gJ (hT i _ hi) (hT j _ hj) hp qC
 ·obtain ⟨d1,d2,d3⟩:=h.base b hb;refine ⟨d1,d2,?_⟩;rintro ⟨i,o,g,pl,hi,hz,hp,rfl⟩;simp only[if_pos (hd i _ hi)] at hp;exact d3 ⟨i,o,g,pl,hT i _ hi,hz,hp,rfl⟩
end Go.Am
