/-
  The abstract machine: its operations one by one, as rules for simp.
-/
import Derived.Test.YtdknlbnljfdhgaaGreatDoorAmLogic
import Derived.IntWalk
namespace Go.Am
open Go
section
variable {cx:Cx} {ops:List Oper} {o:Oper} {l:List Oper} {F:Fr} {S:AS} {Q:Fr→AS→Prop} {K:AV→AS→Prop}
theorem opsP_nil:rO cx ops [] F S Q=Q F S:=rfl
def kont (cx:Cx) (ops l:List Oper) (F:Fr) (d:Option Nat) (Q:Fr→AS→Prop) (v:AV) (S':AS):Prop:=rO cx ops l (up F d v) S' Q
theorem kont_app {d:Option Nat} {v:AV} {S':AS}:kont cx ops l F d Q v S'=rO cx ops l (up F d v) S' Q:=rfl
theorem opsP_cons:rO cx ops (o :: l) F S Q=eR cx ops o F S (kont cx ops l F o.dst Q):=rfl
theorem stepP_free {dst:Option Tmp} {op:Op} {ty:TypeId} {pos:String} {af:Array Edge}:eR cx ops ⟨dst,op,ty,pos,af,none⟩ F S K=rG cx (bo cx F S ⟨dst,op,ty,pos,af,none⟩) K:=by
 simp[eR,bz]
theorem nN {dst:Option Tmp} {op:Op} {ty:TypeId} {pos:String} {af:Array Edge} {j:Nat} {w:Bool}:eR cx ops ⟨dst,op,ty,pos,af,some (j,w)⟩ F S K =
  (match bz ops F (some (j,w)) with
   | some b=>(b=true→rG cx (bo cx F S ⟨dst,op,ty,pos,af,some (j,w)⟩) K)∧(b=false→K .undef S)
   | none=>False):=rfl
def ei:List Oper→Nat→Option Nat
 | [],_=>none
 | o :: _,0=>o.dst
 | _ :: l,n+1=>ei l n
theorem CP {o:Oper} {l:List Oper}:ei (o :: l) 0=o.dst:=rfl
theorem CQ {o:Oper} {l:List Oper} {n:Nat}:ei (o :: l) (n+1)=ei l n:=rfl
theorem jd:∀ (l:List Oper) (j d:Nat),ei l j=some d→∃ p,l[j]?=some p∧p.dst=some d
 | [],_,_,h=>by cases h
 | o :: l,0,d,h=>⟨o,rfl,h⟩
 | o :: l,n+1,d,h=>by simpa using jd l n d h
theorem eH {j d:Nat} {w b:Bool} (h1:ei ops j=some d) (h2:sl F d=.bool b):bz ops F (some (j,w))=some (cond w b (!b)):=by
 obtain ⟨p,e1,e2⟩:=jd ops j d h1;simp[bz,e1,e2,h2]
theorem stepP_run {dst:Option Tmp} {op:Op} {ty:TypeId} {pos:String} {af:Array Edge} {j d:Nat} {w b:Bool} (h1:ei ops j=some d) (h2:sl F d=.bool b) (h3:(b == w)=true) :
  eR cx ops ⟨dst,op,ty,pos,af,some (j,w)⟩ F S K=rG cx (bo cx F S ⟨dst,op,ty,pos,af,some (j,w)⟩) K:=by
 have hw:=eH (w:=w) h1 h2;obtain rfl:b=w:=by simpa using h3
 rw[nN,hw];cases b<;>simp
theorem stepP_skip {dst:Option Tmp} {op:Op} {ty:TypeId} {pos:String} {af:Array Edge} {j d:Nat} {w b:Bool} (h1:ei ops j=some d) (h2:sl F d=.bool b) (h3:(b == !w)=true) :
  eR cx ops ⟨dst,op,ty,pos,af,some (j,w)⟩ F S K=K .undef S:=by
 have hw:=eH (w:=w) h1 h2;obtain rfl:b=!w:=by simpa using h3
 rw[nN,hw];cases w<;>simp
theorem CJ {dst:Option Tmp} {op:Op} {ty:TypeId} {pos:String} {af:Array Edge} {j d:Nat} {w:Bool} (h1:ei ops j=some d) (h2:sl F d=.undef) :
  eR cx ops ⟨dst,op,ty,pos,af,some (j,w)⟩ F S K=K .undef S:=by
 obtain ⟨p,e1,e2⟩:=jd ops j d h1;have hw:bz ops F (some (j,w))=some false:=by simp[bz,e1,e2,h2,AV.undef]
 rw[nN,hw];simp
theorem runP_val {v:AV} {S':AS}:rG cx (.val v S') K=K v S':=rfl
theorem runP_enter {f:FuncId} {as:List AV} {S':AS}:rG cx (.enter f as S') K=ai cx f as S' K:=rfl
theorem runP_err {n:Nat}:rG cx (.err n) K=False:=rfl
variable {dst:Option Tmp} {ty:TypeId} {pos:String} {af:Array Edge} {g:Option (Nat×Bool)}
theorem aop_move {x:Operand}:bo cx F S ⟨dst,.move x,ty,pos,af,g⟩=.val (eval F x) S:=rfl
theorem aop_assign {x:Operand}:bo cx F S ⟨dst,.assign x,ty,pos,af,g⟩=.val (eval F x) S:=rfl
def pickR (c a b:AV) (S:AS):AR:=match c with | .bool true=>.val a S | .bool false=>.val b S|_=>.err 20
theorem aop_pick {c a b:Operand}:bo cx F S ⟨dst,.pick c a b,ty,pos,af,g⟩=pickR (eval F c) (eval F a) (eval F b) S:=rfl
theorem pickR_true {a b:AV}:pickR (.bool true) a b S=.val a S:=rfl
theorem Dw {a b:AV}:pickR (.bool false) a b S=.val b S:=rfl
theorem aop_bin {op:BinOp} {t u:TypeId} {x y:Operand}:bo cx F S ⟨dst,.binOp op t x y u,ty,pos,af,g⟩=val? (bt cx op t ((x matches .const _)||(y matches .const _)) (eval F x) (eval F y)) S 40:=rfl
theorem aop_un {op:UnOp} {t:TypeId} {x:Operand}:bo cx F S ⟨dst,.unOp op t x,ty,pos,af,g⟩=val? (unV op (eval F x)) S 41:=rfl
theorem val?_some {v:AV} {n:Nat}:val? (some v) S n=.val v S:=rfl
theorem vals?_some {v:AV} {S':AS} {n:Nat}:cG (some (v,S')) n=.val v S':=rfl
theorem oR {x:Operand} {i:Nat}:bo cx F S ⟨dst,.extract x i,ty,pos,af,g⟩=(match eval F x with | .tuple vs=>val? (nth i vs) S 82|_=>.err 83):=rfl
theorem aop_call {f:Operand} {as:Array Operand} {lF:Array TypeId}:bo cx F S ⟨dst,.call ⟨.value f,as,lF⟩,ty,pos,af,g⟩=mr cx S (eval F f) (args F as):=rfl
theorem aop_builtin {b:Builtin} {as:Array Operand} {lF:Array TypeId}:bo cx F S ⟨dst,.call ⟨.builtin b,as,lF⟩,ty,pos,af,g⟩=aZ cx S b lF.toList (args F as):=rfl
theorem args_eq {as:Array Operand}:args F as=as.toList.map (eval F):=by unfold args;rw[fu]
theorem callV_func {f:FuncId} {first captured as:List AV} (h:cx.exts.get f=none):mr cx S (.func (.func f) first captured) as=.enter f (first++(as++captured)) S:=by
 simp only[mr,h,bw]
theorem aop_alloc {e:TypeId}:bo cx F S ⟨dst,.alloc e,ty,pos,af,g⟩=eK (aC cx F S.next (.alloc e)) S 21:=rfl
theorem aop_box {t:TypeId} {x:Operand}:bo cx F S ⟨dst,.box t x,ty,pos,af,g⟩=eK (aC cx F S.next (.box t x)) S 23:=rfl
theorem aop_build {t:TypeId} {ps:Array (Nat×Operand)}:bo cx F S ⟨dst,.build t ps,ty,pos,af,g⟩=val? (lD cx F t ps.toList) S 24:=rfl
theorem yf {t:TypeId} {n:Nat} {ps:Array (Nat×Operand)}:bo cx F S ⟨dst,.buildSlice t n ps,ty,pos,af,g⟩=eK (aC cx F S.next (.buildSlice t n ps)) S 25:=rfl
theorem aop_makeMap {t:TypeId} {r:Option Operand}:bo cx F S ⟨dst,.makeMap t r,ty,pos,af,g⟩=eK (aC cx F S.next (.makeMap t r)) S 48:=rfl
theorem zh {t:TypeId} {a b:Operand}:bo cx F S ⟨dst,.makeSlice t a b,ty,pos,af,g⟩=eK (aC cx F S.next (.makeSlice t a b)) S 49:=rfl
theorem Et {v:AV} {o:bE} {n:Nat}:eK (some (v,o)) S n=.val v ⟨S.h.set S.next o,S.next+1⟩:=rfl
theorem BZ {fn:Fn} {a b:Array Operand}:bo cx F S ⟨dst,.makeFunc fn a b,ty,pos,af,g⟩=.val (.func fn (args F a) (args F b)) S:=rfl
theorem aop_lookup {t:TypeId} {x i:Operand} {ok:Bool}:bo cx F S ⟨dst,.lookup t x i ok,ty,pos,af,g⟩=val? (j6 cx S t (eval F x) (eval F i) ok) S 71:=rfl
theorem ze {t:TypeId} {m k v:Operand}:bo cx F S ⟨dst,.mapUpdate t m k v,ty,pos,af,g⟩=cG (jV cx S t (eval F m) (eval F k) (eval F v)) 78:=rfl
theorem aop_assert {x:Operand} {t u:TypeId} {ok:Bool}:bo cx F S ⟨dst,.typeAssert x t u ok,ty,pos,af,g⟩=val? (iS cx (eval F x) u ok) S 85:=rfl
theorem aop_slice {t:TypeId} {x:Operand} {a b c:Option Operand}:bo cx F S ⟨dst,.slice t x a b c,ty,pos,af,g⟩=val? (iJ cx F t (eval F x) a b c) S 53:=rfl
theorem aop_load {t:TypeId} {x:Operand} {id gn off ay:Nat} {v:AV} (hx:eval F x=.ptr id gn off ay) (h:nr cx S t (.ptr id gn off ay)=some v):bo cx F S ⟨dst,.load t x,ty,pos,af,g⟩=.val v S:=by
 unfold nr at h;simp only[bo,hx];simp only at h;cases ha:aD cx t with
 | none=>simp[ha] at h
 | some b=>
  cases b with
  | true=>
   simp only[ha] at h ⊢;cases hs:aA cx t with
   | none=>simp[hs] at h
   | some n=>
    simp only[hs] at h ⊢;cases hr:rd S id gn off n ay with
    | none=>simp[hr] at h
    | some cs=>simp only[hr,Option.some.injEq] at h ⊢;rw[h]
  | false=>
   simp only[ha] at h ⊢;split at h
   ·rename_i u hr;simp only[Option.some.injEq] at h;subst h;rw[hr]
   ·cases h
theorem aop_store {t:TypeId} {x y:Operand} {id gn off ay n:Nat} {cs:List AV} {S':AS} (hx:eval F x=.ptr id gn off ay) (hy:cellsOf (eval F y)=some cs) (hs:aA cx t=some n) (hl:cs.length=n)
  (hw:wr S id gn off ay cs=some S'):bo cx F S ⟨dst,.store t x y,ty,pos,af,g⟩=.val .undef S':=by
 simp only[bo,hx,hy,hs,hw,bf,bp,hl,decide_true,cond_true]
theorem ub {x:Operand} {i gn o l:Nat} (hx:eval F x=.ptr i gn o l):bo cx F S ⟨dst,.nilCheck x,ty,pos,af,g⟩=.val (.ptr i gn o l) S:=by simp only[bo,hx]
theorem sD {x:Operand} {f:FuncId} {a b:List AV} (hx:eval F x=.func (.func f) a b):bo cx F S ⟨dst,.nilCheck x,ty,pos,af,g⟩=.val (.func (.func f) a b) S:=by simp only[bo,hx]
theorem Fj {t:TypeId} {x:Operand} {d:TypeDesc} (h:aY cx t=some d) (hn:(match d with | .interface _=>false|_=>true)=true):bo cx F S ⟨dst,.makeInterface t x,ty,pos,af,g⟩=.val (.iface t (eval F x)) S:=by
 simp only[bo,h];cases d<;>first|rfl|cases hn
theorem zk {s:TypeId} {x:Operand} {f id gn off ay z:Nat} {fs:Array Field} {fd:Field} (hx:eval F x=.ptr id gn off ay) (hu:aY cx s=some (.struct fs)) (hf:fs[f]?=some fd) (hz:aA cx fd.type=some (z+1)) :
  bo cx F S ⟨dst,.fieldAddr s x f,ty,pos,af,g⟩=.val (.ptr id gn (off+fd.offset) ay) S:=by
 have Bu:nth f fs.toList=some fd:=by rw[gf,Array.getElem?_toList];exact hf
 simp only[bo,hu,hx,Bu,hz,aH];rfl
theorem aop_field {t:TypeId} {x:Operand} {f:Nat} {cs:List AV} {fs:Array Field} {fd:Field} (hx:eval F x=.agg cs) (hu:aY cx t=some (.struct fs)) (hf:fs[f]?=some fd) :
  bo cx F S ⟨dst,.field t x f,ty,pos,af,g⟩=val? (partOf cx fd.type cs fd.offset) S 57:=by
 have Bu:nth f fs.toList=some fd:=by rw[gf,Array.getElem?_toList];exact hf
 simp only[bo,hu,hx,Bu]
theorem qA {t e:TypeId} {x ix:Operand} {id gn off len ay z i:Nat} {cap:Option Nat} {k:IntKind} {n:Int} (hx:eval F x=.slice id gn off len ay z cap) (hu:aY cx t=some (.slice e)) (hz:aA cx e=some z)
  (hi:eval F ix=.int k n) (hn:n=(i:Int)) (hl:i<len):bo cx F S ⟨dst,.indexAddr t x ix,ty,pos,af,g⟩=.val (.ptr id gn (off+i*z) ay) S:=by
 subst hn;simp only[bo,hu,hx,hi,dS,hz,bf,gI,hl,decide_true,Bool.and_self,cond_true,aH];rfl
theorem B4 {s d:TypeId} {x:Operand} {k j:IntKind} {n:Int} {e:TypeDesc} (hs:aY cx s=some e) (hd:aY cx d=some (.int k)) (hx:eval F x=.int j n):bo cx F S ⟨dst,.convert s d x,ty,pos,af,g⟩=.val (.int k (k.wrap n)) S:=by
 simp only[bo,hs,hd,hx,iq]
theorem len_slice {t:TypeId} {ts:List TypeId} {e:TypeId} {as:List AV} {id gn off len ay z:Nat} {cap:Option Nat} (hu:aY cx t=some (.slice e)):aZ cx S .len (t :: ts) (.slice id gn off len ay z cap :: as)=.val (.int .i64 len) S:=by
 simp only[aZ,lenV,hu,aH];rfl
theorem len_nils {t:TypeId} {ts:List TypeId} {e:TypeId} {as:List AV} (hu:aY cx t=some (.slice e)):aZ cx S .len (t :: ts) (.ar :: as)=.val (.int .i64 0) S:=by
 simp only[aZ,lenV,hu,aH];rfl
theorem cw {t:TypeId} {ts:List TypeId} {as:List AV} {s:List Nat} (hu:aY cx t=some .string):aZ cx S .len (t :: ts) (.str s :: as)=.val (.int .i64 s.length) S:=by
 simp only[aZ,lenV,hu,aH];rfl
end
section
variable {cx:Cx} {t:TypeId} {c:Bool} {k:IntKind} {a b:Int}
theorem bin_add:bt cx .add t c (.int k a) (.int k b)=some (.int k (k.wrap (a+b))):=by simp[bt,cK,pU,iq]
theorem bin_sub:bt cx .sub t c (.int k a) (.int k b)=some (.int k (k.wrap (a-b))):=by simp[bt,cK,pU,iq];rfl
theorem bin_mul:bt cx .mul t c (.int k a) (.int k b)=some (.int k (k.wrap (a*b))):=by simp[bt,cK,pU,iq]
theorem bin_quo (h:b≠0):bt cx .quo t c (.int k a) (.int k b)=some (.int k (k.wrap (a.tdiv b))):=by
 have:yT b 0=false:=by rw[gN];simpa using h
 simp[bt,cK,pU,iq,this]
theorem bin_rem (h:b≠0):bt cx .rem t c (.int k a) (.int k b)=some (.int k (a.tmod b)):=by
 have:yT b 0=false:=by rw[gN];simpa using h
 simp[bt,cK,pU,cS,this]
theorem bin_eql:bt cx .eql t c (.int k a) (.int k b)=some (.bool (decide (a=b))):=by simp[bt,cK,pU,gN]
theorem bin_neq:bt cx .neq t c (.int k a) (.int k b)=some (.bool (!decide (a=b))):=by simp[bt,cK,pU,gN]
theorem bin_lss:bt cx .lss t c (.int k a) (.int k b)=some (.bool (decide (a<b))):=by simp[bt,cK,pU,kD]
theorem bin_leq:bt cx .leq t c (.int k a) (.int k b)=some (.bool (decide (a≤b))):=by
 simp only[bt,cK,pU,kD,decide_true,cond_true,Option.some.injEq,AV.bool.injEq];by_cases h:a≤b<;>simp[h]<;>omega
theorem bin_gtr:bt cx .gtr t c (.int k a) (.int k b)=some (.bool (decide (b<a))):=by simp[bt,cK,pU,kD]
theorem bin_geq:bt cx .geq t c (.int k a) (.int k b)=some (.bool (decide (b≤a))):=by
 simp only[bt,cK,pU,kD,decide_true,cond_true,Option.some.injEq,AV.bool.injEq];by_cases h:b≤a<;>simp[h]<;>omega
theorem BV {x y:Bool} (h:aY cx t=some .bool):bt cx .eql t c (.bool x) (.bool y)=some (.bool (x == y)):=by
 have e:sh cx 6 t (.bool x) (.bool y)=some (x == y):=by
  show (match aY cx t with|none=>none|some d=>iu cx (sh cx 5) t d (.bool x) (.bool y))=_;rw[h];rfl
 simp[bt,Ae,qM,e]
theorem BU {x y:Bool} (h:aY cx t=some .bool):bt cx .neq t c (.bool x) (.bool y)=some (.bool (!(x == y))):=by
 have e:sh cx 6 t (.bool x) (.bool y)=some (x == y):=by
  show (match aY cx t with|none=>none|some d=>iu cx (sh cx 5) t d (.bool x) (.bool y))=_;rw[h];rfl
 simp[bt,Ae,qM,e]
theorem un_not {x:Bool}:unV .not (.bool x)=some (.bool (!x)):=rfl
end
theorem runP_mono {cx:Cx} {r:AR} {K K':AV→AS→Prop} (h:rG cx r K) (k:∀ v S',K v S'→K' v S'):rG cx r K':=by
 unfold rG at h ⊢;cases r with
 | val v S'=>exact k _ _ h
 | enter f as S'=>exact h.mono k
 | err n=>exact h
 | round f as S'=>exact h
 | dN v S'=>exact h
 | many l=>exact h
theorem mK {cx:Cx} {ops:List Oper} {o:Oper} {F:Fr} {S:AS} {K K':AV→AS→Prop} (h:eR cx ops o F S K) (k:∀ v S',K v S'→K' v S'):eR cx ops o F S K':=by
 unfold eR at h ⊢;cases hw:bz ops F o.guard with
 | none=>rw[hw] at h;exact h
 | some b=>rw[hw] at h;exact ⟨fun hb=>runP_mono (h.1 hb) k,fun hb=>k _ _ (h.2 hb)⟩
theorem zG {cx:Cx} {ops:List Oper} {Q Q':Fr→AS→Prop}:∀ {l:List Oper} {F:Fr} {S:AS},rO cx ops l F S Q→(∀ F' S',Q F' S'→Q' F' S')→rO cx ops l F S Q'
 | [],_,_,h,k=>k _ _ h
 | _ :: _,_,_,h,k=>mK h fun _ _ h'=>zG h' k
section
variable {cx:Cx} {F:Fr} {S:AS} {Q:Ex→Fr→AS→Prop}
end
def aF:List Nat→Fr→Fr→Prop
 | [],_,_=>True
 | t :: l,F,G=>sl F t=sl G t∧aF l F G
theorem agree_nil (F G:Fr):aF [] F G=True:=rfl
theorem agree_cons (t:Nat) (l:List Nat) (F G:Fr):aF (t :: l) F G=(sl F t=sl G t∧aF l F G):=rfl
theorem wpP_congr {cx:Cx} {c:Code} {F F':Fr} {S S':AS} {Q:Ex→Fr→AS→Prop} (h1:F=F') (h2:S=S'):j9 cx c F S Q=j9 cx c F' S' Q:=by rw[h1,h2]
theorem BF {cx:Cx} {ops:List Oper} {F F':Fr} {S S':AS} {Q:Fr→AS→Prop} (h1:F=F') (h2:S=S'):jJ cx ops F S Q=jJ cx ops F' S' Q:=by rw[h1,h2]
theorem LoopP_congr {cx:Cx} {b:Code} {F F':Fr} {S S':AS} {Q:Ex→Fr→AS→Prop} (h1:F=F') (h2:S=S'):uW cx b F S Q=uW cx b F' S' Q:=by rw[h1,h2]
theorem EY {x x':AV} {A B:Prop} (h:x=x'):iY x A B=iY x' A B:=by rw[h]
section
variable {cx:Cx} {F:Fr} {S:AS} {Q:Ex→Fr→AS→Prop}
theorem wpP_skip:j9 cx .skip F S Q=Q .normal F S:=rfl
theorem wpP_ret:j9 cx .ret F S Q=Q .ret F S:=rfl
theorem wpP_exit {id:Nat}:j9 cx (.exit id) F S Q=Q (.exit id) F S:=rfl
theorem wpP_region {id:Nat} {l:List Oper}:j9 cx (.region id l.toArray false) F S Q=rO cx l l F S (Q .normal):=rfl
theorem wpP_drawn {id:Nat} {l:List Oper}:j9 cx (.region id l.toArray true) F S Q=jJ cx l F S (Q .normal):=rfl
def kcode (cx:Cx) (b:Code) (Q:Ex→Fr→AS→Prop) (F':Fr) (S':AS):Prop:=j9 cx b F' S' Q
theorem aR {b:Code} {F':Fr} {S':AS}:kcode cx b Q F' S'=j9 cx b F' S' Q:=rfl
theorem mG {a b:Code}:j9 cx (.seq a b) F S Q=j9 cx a F S (ko (kcode cx b Q) Q):=rfl
theorem bF {x:Operand} {a b:Code}:j9 cx (.cond x a b) F S Q=iY (eval F x) (j9 cx a F S Q) (j9 cx b F S Q):=rfl
theorem wpP_scope {b:Code}:j9 cx (.scope b) F S Q=j9 cx b F S (nW Q):=rfl
theorem wpP_label {l:Nat}:j9 cx (.label l) F S Q=Q .normal F S:=rfl
theorem cH {id:Nat} {b:Code}:j9 cx (.block id b) F S Q=j9 cx b F S (lE id Q):=rfl
theorem ju {b:Code}:j9 cx (.loop b) F S Q=uW cx b F S Q:=rfl
theorem condP_true {A B:Prop}:iY (.bool true) A B=A:=by simp[iY]
theorem EX {A B:Prop}:iY (.bool false) A B=B:=by simp[iY]
theorem bodyP_ret {fn:Func} {K:AV→AS→Prop}:uR cx fn K .ret F S=xM (kA cx F S fn.results.toList |>.map fun vs=>match vs with|[v]=>v|vs=>.tuple vs) S K:=rfl
theorem BS {fn:Func} {K:AV→AS→Prop}:uR cx fn K .normal F S=xM (kA cx F S fn.results.toList |>.map fun vs=>match vs with|[v]=>v|vs=>.tuple vs) S K:=rfl
theorem endP_some {v:AV} {K:AV→AS→Prop}:xM (some v) S K=(bh v=false∧K v S):=rfl
theorem np_undef  : bh (.undef:AV)=false:=rfl
theorem np_bool {b:Bool}:bh (.bool b)=false:=rfl
theorem np_int {k:IntKind} {n:Int}:bh (.int k n)=false:=rfl
theorem np_str {l:List Nat}:bh (.str l)=false:=rfl
theorem np_nilp  : bh .bd=false:=rfl
theorem np_ptr {a b c d:Nat}:bh (.ptr a b c d)=false:=rfl
theorem np_glob {a b:Nat}:bh (.mY a b)=false:=rfl
theorem np_nils  : bh .ar=false:=rfl
theorem np_slice {a b c d e f:Nat} {g:Option Nat}:bh (.slice a b c d e f g)=false:=rfl
theorem np_nilm  : bh .iF=false:=rfl
theorem np_map {a:Nat}:bh (.map a)=false:=rfl
theorem np_func {f:Fn} {a b:List AV}:bh (.func f a b)=false:=rfl
theorem np_nilf  : bh .kB=false:=rfl
theorem np_niface  : bh .b8=false:=rfl
theorem np_iface {t:TypeId} {v:AV}:bh (.iface t v)=false:=rfl
theorem np_agg {l:List AV}:bh (.agg l)=false:=rfl
theorem np_tuple {l:List AV}:bh (.tuple l)=false:=rfl
theorem np_obj {o:OK} {i:Nat}:bh (.obj o i)=false:=rfl
theorem rK:kA cx F S []=some []:=rfl
theorem rJ {t:Nat} {l:List ResultVar}:kA cx F S (.tmp t :: l)=(kA cx F S l).map (sl F t :: ·):=by
 show mQ cx F S (.tmp t) (kA cx F S l)=_;cases kA cx F S l with
 | none=>rfl
 | some vs=>simp only[mQ,aP,Option.map_some]
theorem resL_cell {t:Nat} {ty:TypeId} {l:List ResultVar}:kA cx F S (.cell t ty :: l)=(kA cx F S l).bind fun vs=>(nr cx S ty (sl F t)).map (· :: vs):=by
 show mQ cx F S (.cell t ty) (kA cx F S l)=_;cases kA cx F S l with
 | none=>rfl
 | some vs=>
  simp only[mQ,aP,Option.bind_some];cases nr cx S ty (sl F t)<;>rfl
end
theorem CallW_congr {cx:Cx} {f:FuncId} {as as':List AV} {S S':AS} {Q:AV→AS→Prop} (h1:as=as') (h2:S=S'):ai cx f as S Q=ai cx f as' S' Q:=by rw[h1,h2]
theorem AE {R:Fr→AS→Prop} {Q:Ex→Fr→AS→Prop} {F:Fr} {S:AS}:ko R Q .normal F S=R F S:=rfl
theorem thenP_exit {R:Fr→AS→Prop} {Q:Ex→Fr→AS→Prop} {F:Fr} {S:AS} {i:Nat}:ko R Q (.exit i) F S=Q (.exit i) F S:=rfl
theorem thenP_ret {R:Fr→AS→Prop} {Q:Ex→Fr→AS→Prop} {F:Fr} {S:AS}:ko R Q .ret F S=Q .ret F S:=rfl
theorem yE {Q:Ex→Fr→AS→Prop} {F:Fr} {S:AS}:nW Q .normal F S=Q .normal F S:=rfl
theorem scopeP_ret {Q:Ex→Fr→AS→Prop} {F:Fr} {S:AS}:nW Q .ret F S=Q .ret F S:=rfl
theorem CV {Q:Ex→Fr→AS→Prop} {F:Fr} {S:AS} {i:Nat}:nW Q (.exit i) F S=Q (.exit i) F S:=rfl
theorem y5 {id:Nat} {Q:Ex→Fr→AS→Prop} {F:Fr} {S:AS}:lE id Q .normal F S=Q .normal F S:=rfl
theorem blockP_ret {id:Nat} {Q:Ex→Fr→AS→Prop} {F:Fr} {S:AS}:lE id Q .ret F S=Q .ret F S:=rfl
theorem E9 {id j:Nat} {Q:Ex→Fr→AS→Prop} {F:Fr} {S:AS}:lE id Q (.exit j) F S=if j=id then Q .normal F S else Q (.exit j) F S:=rfl
theorem nth_lit {α:Type} (n:Nat) (l:List α):nth n l=l[n]?:=gf n l
theorem opsP_congr {cx:Cx} {ops l:List Oper} {F F':Fr} {S S':AS} {Q:Fr→AS→Prop} (h1:F=F') (h2:S=S'):rO cx ops l F S Q=rO cx ops l F' S' Q:=by rw[h1,h2]
theorem CK {cx:Cx} {ops:List Oper} {o:Oper} {F F':Fr} {S S':AS} {K:AV→AS→Prop} (h1:F=F') (h2:S=S'):eR cx ops o F S K=eR cx ops o F' S' K:=by rw[h1,h2]
theorem runP_congr {cx:Cx} {r r':AR} {K:AV→AS→Prop} (h1:r=r'):rG cx r K=rG cx r' K:=by rw[h1]
theorem Cv {ops:List Oper} {F F':Fr} {g:Option (Nat×Bool)} (h:F=F'):bz ops F g=bz ops F' g:=by rw[h]
theorem AG {ops:List Oper} {n m:Nat} (h:n=m):ei ops n=ei ops m:=by rw[h]
attribute [congr] Cv AG wpP_congr BF LoopP_congr EY CallW_congr opsP_congr CK runP_congr
attribute [simp] kont_app aR agree_nil agree_cons wpP_skip wpP_ret wpP_exit wpP_region wpP_drawn mG bF cH wpP_scope wpP_label yE scopeP_ret CV ju condP_true EX bodyP_ret BS endP_some rK rJ resL_cell nc np_undef np_bool np_int np_str np_nilp np_ptr np_glob np_nils np_slice np_nilm np_map np_func np_nilf np_niface np_iface np_agg np_tuple np_obj
 sl_up up_none oq aP eval_const eval_func eval_global ofV_bool ofV_int ofV_string ofV_nilp ofV_nils ofV_nilm ofV_nilf ofV_niface
 opsP_nil opsP_cons stepP_free stepP_run stepP_skip CJ CP CQ runP_val runP_enter runP_err aop_move aop_assign aop_pick pickR_true Dw aop_bin aop_un val?_some vals?_some oR
 aop_call aop_builtin args_eq callV_func aop_alloc aop_box aop_build yf aop_makeMap zh Et BZ aop_lookup ze aop_assert aop_slice
 bin_add bin_sub bin_mul bin_eql bin_neq bin_lss bin_leq bin_gtr bin_geq bin_quo bin_rem BV BU un_not AE thenP_exit thenP_ret y5 blockP_ret E9 nth_lit
end Go.Am
namespace Go.Am
open Go Go.RowKit
structure Sub (S T:AS):Prop where
 h:∀ id,id<S.next→T.h.get id=S.h.get id
 next:S.next≤T.next
theorem Sub.refl (S:AS):Sub S S:=⟨fun _ _=>rfl,Nat.le_refl _⟩
theorem Sub.trans {A B C:AS} (h:Sub A B) (k:Sub B C):Sub A C:=⟨fun id hi=>(k.h id (Nat.lt_of_lt_of_le hi h.next)).trans (h.h id hi),Nat.le_trans h.next k.next⟩
theorem Sub.set {A S:AS} (h:Sub A S) (id:Nat) (o:bE) (hi:A.next≤id) (n:Nat) (hn:S.next≤n):Sub A ⟨S.h.set id o,n⟩:=
 ⟨fun i bK=>by show (S.h.set id o).get i=_;rw[ae _ _ (by omega)];exact h.h i bK,Nat.le_trans h.next hn⟩
theorem R.drop {Λ:LB} {ρ:aI} {S T:AS} {w:World} (h:R Λ ρ T w) (hs:Sub S T) (hd:∀ id o,S.h.get id=some o→id<S.next)
  (ho:∀ id o,S.h.get id=some o→rh (fun i g=>if i<S.next then ρ i g else none) w id o):R Λ (fun i g=>if i<S.next then ρ i g else none) S w:=by
 have hT:∀ id o,S.h.get id=some o→T.h.get id=some o:=fun id o hi=>by rw[hs.h id (hd id o hi)];exact hi
 refine ⟨ho,hd,fun id g hi=>by simp only[if_neg (Nat.not_lt.2 hi)],fun id c l t f ty hi g hg=>?_,fun id o g pl hi hp=>?_,fun i j o oj g gj pl pM gO hi hj hp rm=>?_,h.start,fun b hb=>?_⟩
 ·simp only[if_pos (hd id _ hi)];exact h.mI id c l t f ty (hT id _ hi) g hg
 ·simp only[if_pos (hd id _ hi)] at hp;exact h.lt id o g pl (hT id _ hi) hp
 ·simp only[if_pos (hd i _ hi)] at hp;simp only[if_pos (hd j _ hj)] at rm;exact h.apart i j o oj g gj pl pM gO (hT i _ hi) (hT j _ hj) hp rm
 ·obtain ⟨d1,d2,d3⟩:=h.base b hb;refine ⟨d1,d2,?_⟩;rintro ⟨i,o,g,pl,hi,hz,hp,rfl⟩;simp only[if_pos (hd i _ hi)] at hp;exact d3 ⟨i,o,g,pl,hT i _ hi,hz,hp,rfl⟩
end Go.Am
