/-
  The abstract machine: its operations one by one, as rules for simp.
-/
import Derived.Test.YtdknlbnljfdhgaaGreatDoorAmLogic
import Derived.IntWalk
namespace Go.Am
open Go
section
variable{cx:Cx}{ops:List Oper}{o:Oper}{l:List Oper}{F:Fr}{S:AS}{Q:Fr->AS->Prop}{K:AV->AS->Prop}
theorem opsP_nil:sD cx ops [] F S Q=Q F S:=rfl
def kont(cx:Cx)(ops l:List Oper)(F:Fr)(d:Option Nat)(Q:Fr->AS->Prop)(v:AV)(S':AS):Prop:=sD cx ops l (up F d v) S' Q
theorem kont_app{d:Option Nat}{v:AV}{S':AS}:kont cx ops l F d Q v S'=sD cx ops l (up F d v) S' Q:=rfl
theorem opsP_cons:sD cx ops (o::l) F S Q=eQ cx ops o F S (kont cx ops l F o.dst Q):=rfl
theorem stepP_free{dst:Option Tmp}{op:Op}{ty:TypeId}{pos:String}{af:Array Edge}:eQ cx ops ⟨dst,op,ty,pos,af,none⟩ F S K=lQ cx (bj cx F S ⟨dst,op,ty,pos,af,none⟩) K:=by
 simp[eQ,aQ]
theorem oL{dst:Option Tmp}{op:Op}{ty:TypeId}{pos:String}{af:Array Edge}{j:Nat}{w:Bool}:eQ cx ops ⟨dst,op,ty,pos,af,some (j,w)⟩ F S K =
  (match aQ ops F (some (j,w))with
   |some b=>(b=true->lQ cx (bj cx F S ⟨dst,op,ty,pos,af,some (j,w)⟩) K)/\(b=false->K .undef S)
   |none=>False):=rfl
def dY:List Oper->Nat->Option Nat
 |[],_=>none
 |o::_,0=>o.dst
 |_::l,n+1=>dY l n
theorem DA{o:Oper}{l:List Oper}:dY (o::l) 0=o.dst:=rfl
theorem DB{o:Oper}{l:List Oper}{n:Nat}:dY (o::l) (n+1)=dY l n:=rfl
theorem jy:∀(l:List Oper)(j d:Nat),dY l j=some d->∃p,l[j]?=some p/\p.dst=some d
 |[],_,_,h=>by cases h
 |o::l,0,d,h=>⟨o,rfl,h⟩
 |o::l,n+1,d,h=>by simpa using jy l n d h
theorem eH{j d:Nat}{w b:Bool}(h1:dY ops j=some d)(h2:sl F d=.bool b):aQ ops F (some (j,w))=some (cond w b (!b)):=by
 obtain⟨p,e1,e2⟩:=jy ops j d h1;simp[aQ,e1,e2,h2]
theorem stepP_run{dst:Option Tmp}{op:Op}{ty:TypeId}{pos:String}{af:Array Edge}{j d:Nat}{w b:Bool}(h1:dY ops j=some d)(h2:sl F d=.bool b)(h3:(b==w)=true):
  eQ cx ops ⟨dst,op,ty,pos,af,some (j,w)⟩ F S K=lQ cx (bj cx F S ⟨dst,op,ty,pos,af,some (j,w)⟩) K:=by
 have hw:=eH (w:=w) h1 h2;obtain rfl:b=w:=by simpa using h3
 rw[oL,hw];cases b<;>simp
theorem stepP_skip{dst:Option Tmp}{op:Op}{ty:TypeId}{pos:String}{af:Array Edge}{j d:Nat}{w b:Bool}(h1:dY ops j=some d)(h2:sl F d=.bool b)(h3:(b == !w)=true):
  eQ cx ops ⟨dst,op,ty,pos,af,some (j,w)⟩ F S K=K .undef S:=by
 have hw:=eH (w:=w) h1 h2;obtain rfl:b=!w:=by simpa using h3
 rw[oL,hw];cases w<;>simp
theorem Ds{dst:Option Tmp}{op:Op}{ty:TypeId}{pos:String}{af:Array Edge}{j d:Nat}{w:Bool}(h1:dY ops j=some d)(h2:sl F d=.undef):
  eQ cx ops ⟨dst,op,ty,pos,af,some (j,w)⟩ F S K=K .undef S:=by
 obtain⟨p,e1,e2⟩:=jy ops j d h1;have hw:aQ ops F (some (j,w))=some false:=by simp[aQ,e1,e2,h2,AV.undef]
 rw[oL,hw];simp
theorem runP_val{v:AV}{S':AS}:lQ cx (.val v S') K=K v S':=rfl
theorem runP_enter{f:FuncId}{as:List AV}{S':AS}:lQ cx (.enter f as S') K=ai cx f as S' K:=rfl
theorem runP_err{n:Nat}:lQ cx (.err n) K=False:=rfl
variable{dst:Option Tmp}{ty:TypeId}{pos:String}{af:Array Edge}{g:Option (Nat×Bool)}
theorem aop_move{x:Operand}:bj cx F S ⟨dst,.move x,ty,pos,af,g⟩=.val (eval F x) S:=rfl
theorem aop_assign{x:Operand}:bj cx F S ⟨dst,.assign x,ty,pos,af,g⟩=.val (eval F x) S:=rfl
def pickR(c a b:AV)(S:AS):AR:=match c with | .bool true=>.val a S | .bool false=>.val b S|_=>.err 20
theorem aop_pick{c a b:Operand}:bj cx F S ⟨dst,.pick c a b,ty,pos,af,g⟩=pickR (eval F c) (eval F a) (eval F b) S:=rfl
theorem pickR_true{a b:AV}:pickR (.bool true) a b S=.val a S:=rfl
theorem Ea{a b:AV}:pickR (.bool false) a b S=.val b S:=rfl
theorem aop_bin{op:BinOp}{t u:TypeId}{x y:Operand}:bj cx F S ⟨dst,.binOp op t x y u,ty,pos,af,g⟩=val? (aS cx op t ((x matches .const _)||(y matches .const _)) (eval F x) (eval F y)) S 40:=rfl
theorem aop_un{op:UnOp}{t:TypeId}{x:Operand}:bj cx F S ⟨dst,.unOp op t x,ty,pos,af,g⟩=val? (unV op (eval F x)) S 41:=rfl
theorem val?_some{v:AV}{n:Nat}:val? (some v) S n=.val v S:=rfl
theorem vals?_some{v:AV}{S':AS}{n:Nat}:dN (some (v,S')) n=.val v S':=rfl
theorem pR{x:Operand}{i:Nat}:bj cx F S ⟨dst,.extract x i,ty,pos,af,g⟩=(match eval F x with | .tuple vs=>val? (nth i vs) S 82|_=>.err 83):=rfl
theorem aop_call{f:Operand}{as:Array Operand}{mr:Array TypeId}:bj cx F S ⟨dst,.call ⟨.value f,as,mr⟩,ty,pos,af,g⟩=ot cx S (eval F f) (args F as):=rfl
theorem FU{b:Builtin}{as:Array Operand}{mr:Array TypeId}:bj cx F S ⟨dst,.call ⟨.builtin b,as,mr⟩,ty,pos,af,g⟩=bg cx S b mr.toList (args F as):=rfl
theorem vR{as:Array Operand}:args F as=as.toList.map (eval F):=by unfold args;rw[gu]
theorem callV_func{f:FuncId}{first captured as:List AV}(h:cx.exts.get f=none):ot cx S (.func (.func f) first captured) as=.enter f (first++(as++captured)) S:=by
 simp only[ot,h,bz]
theorem aop_alloc{e:TypeId}:bj cx F S ⟨dst,.alloc e,ty,pos,af,g⟩=gJ (aA cx F S.next (.alloc e)) S 21:=rfl
theorem aop_box{t:TypeId}{x:Operand}:bj cx F S ⟨dst,.box t x,ty,pos,af,g⟩=gJ (aA cx F S.next (.box t x)) S 23:=rfl
theorem aop_build{t:TypeId}{ps:Array (Nat×Operand)}:bj cx F S ⟨dst,.build t ps,ty,pos,af,g⟩=val? (nR cx F t ps.toList) S 24:=rfl
theorem x9{t:TypeId}{n:Nat}{ps:Array (Nat×Operand)}:bj cx F S ⟨dst,.buildSlice t n ps,ty,pos,af,g⟩=gJ (aA cx F S.next (.buildSlice t n ps)) S 25:=rfl
theorem FR{t:TypeId}{r:Option Operand}:bj cx F S ⟨dst,.makeMap t r,ty,pos,af,g⟩=gJ (aA cx F S.next (.makeMap t r)) S 48:=rfl
theorem zm{t:TypeId}{a b:Operand}:bj cx F S ⟨dst,.makeSlice t a b,ty,pos,af,g⟩=gJ (aA cx F S.next (.makeSlice t a b)) S 49:=rfl
theorem EP{v:AV}{o:dr}{n:Nat}:gJ (some (v,o)) S n=.val v ⟨S.h.set S.next o,S.next+1⟩:=rfl
theorem Cv{fn:Fn}{a b:Array Operand}:bj cx F S ⟨dst,.makeFunc fn a b,ty,pos,af,g⟩=.val (.func fn (args F a) (args F b)) S:=rfl
theorem aop_lookup{t:TypeId}{x i:Operand}{ok:Bool}:bj cx F S ⟨dst,.lookup t x i ok,ty,pos,af,g⟩=val? (kN cx S t (eval F x) (eval F i) ok) S 71:=rfl
theorem zk{t:TypeId}{m k v:Operand}:bj cx F S ⟨dst,.mapUpdate t m k v,ty,pos,af,g⟩=dN (nh cx S t (eval F m) (eval F k) (eval F v)) 78:=rfl
theorem aop_assert{x:Operand}{t u:TypeId}{ok:Bool}:bj cx F S ⟨dst,.typeAssert x t u ok,ty,pos,af,g⟩=val? (jM cx (eval F x) u ok) S 85:=rfl
theorem aop_slice{t:TypeId}{x:Operand}{a b c:Option Operand}:bj cx F S ⟨dst,.slice t x a b c,ty,pos,af,g⟩=val? (eK cx F t (eval F x) a b c) S 53:=rfl
theorem aop_load{t:TypeId}{x:Operand}{id gn off lim:Nat}{v:AV}(hx:eval F x=.ptr id gn off lim)(h:oh cx S t (.ptr id gn off lim)=some v):bj cx F S ⟨dst,.load t x,ty,pos,af,g⟩=.val v S:=by
 unfold oh at h;simp only[bj,hx];simp only at h;cases ha:aG cx t with
 |none=>simp[ha]at h
 |some b=>
  cases b with
  |true=>
   simp only[ha]at h⊢;cases hs:aE cx t with
   |none=>simp[hs]at h
   |some n=>
    simp only[hs]at h⊢;cases hr:rd S id gn off n lim with
    |none=>simp[hr]at h
    |some cs=>simp only[hr,Option.some.injEq]at h⊢;rw[h]
  |false=>
   simp only[ha]at h⊢;split at h
   .rename_i u hr;simp only[Option.some.injEq]at h;subst h;rw[hr]
   .cases h
theorem aop_store{t:TypeId}{x y:Operand}{id gn off lim n:Nat}{cs:List AV}{S':AS}(hx:eval F x=.ptr id gn off lim)(hy:cellsOf (eval F y)=some cs)(hs:aE cx t=some n)(hl:cs.length=n)
  (hw:wr S id gn off lim cs=some S'):bj cx F S ⟨dst,.store t x y,ty,pos,af,g⟩=.val .undef S':=by
 simp only[bj,hx,hy,hs,hw,bF,bJ,hl,decide_true,cond_true]
theorem uF{x:Operand}{i gn o l:Nat}(hx:eval F x=.ptr i gn o l):bj cx F S ⟨dst,.nilCheck x,ty,pos,af,g⟩=.val (.ptr i gn o l) S:=by simp only[bj,hx]
theorem tj{x:Operand}{f:FuncId}{a b:List AV}(hx:eval F x=.func (.func f) a b):bj cx F S ⟨dst,.nilCheck x,ty,pos,af,g⟩=.val (.func (.func f) a b) S:=by simp only[bj,hx]
theorem FP{t:TypeId}{x:Operand}{d:TypeDesc}(h:bC cx t=some d)(hn:(match d with | .interface _=>false|_=>true)=true):bj cx F S ⟨dst,.makeInterface t x,ty,pos,af,g⟩=.val (.iface t (eval F x)) S:=by
 simp only[bj,h];cases d<;>first|rfl|cases hn
theorem zp{s:TypeId}{x:Operand}{f id gn off lim z:Nat}{fs:Array Field}{fd:Field}(hx:eval F x=.ptr id gn off lim)(hu:bC cx s=some (.struct fs))(hf:fs[f]?=some fd)(hz:aE cx fd.type=some (z+1)):
  bj cx F S ⟨dst,.fieldAddr s x f,ty,pos,af,g⟩=.val (.ptr id gn (off+fd.offset) lim) S:=by
 have EJ:nth f fs.toList=some fd:=by rw[iw,Array.getElem?_toList];exact hf
 simp only[bj,hu,hx,EJ,hz,aN];rfl
theorem aop_field{t:TypeId}{x:Operand}{f:Nat}{cs:List AV}{fs:Array Field}{fd:Field}(hx:eval F x=.agg cs)(hu:bC cx t=some (.struct fs))(hf:fs[f]?=some fd):
  bj cx F S ⟨dst,.field t x f,ty,pos,af,g⟩=val? (partOf cx fd.type cs fd.offset) S 57:=by
 have EJ:nth f fs.toList=some fd:=by rw[iw,Array.getElem?_toList];exact hf
 simp only[bj,hu,hx,EJ]
theorem ri{t e:TypeId}{x ix:Operand}{id gn off len lim z i:Nat}{cap:Option Nat}{k:IntKind}{n:Int}(hx:eval F x=.slice id gn off len lim z cap)(hu:bC cx t=some (.slice e))(hz:aE cx e=some z)
  (hi:eval F ix=.int k n) (hn:n=(i:Int)) (hl:i<len):bj cx F S ⟨dst,.indexAddr t x ix,ty,pos,af,g⟩=.val (.ptr id gn (off+i*z) lim) S:=by
 subst hn;simp only[bj,hu,hx,hi,eR,hz,bF,gH,hl,decide_true,Bool.and_self,cond_true,aN];rfl
theorem CA{s d:TypeId}{x:Operand}{k j:IntKind}{n:Int}{e:TypeDesc}(hs:bC cx s=some e)(hd:bC cx d=some (.int k))(hx:eval F x=.int j n):bj cx F S ⟨dst,.convert s d x,ty,pos,af,g⟩=.val (.int k (k.wrap n)) S:=by
 simp only[bj,hs,hd,hx,iy]
theorem len_slice{t:TypeId}{ts:List TypeId}{e:TypeId}{as:List AV}{id gn off len lim z:Nat}{cap:Option Nat}(hu:bC cx t=some (.slice e)):bg cx S .len (t::ts) (.slice id gn off len lim z cap::as)=.val (.int .i64 len) S:=by
 simp only[bg,lenV,hu,aN];rfl
theorem len_nils{t:TypeId}{ts:List TypeId}{e:TypeId}{as:List AV}(hu:bC cx t=some (.slice e)):bg cx S .len (t::ts) (.aq::as)=.val (.int .i64 0) S:=by
 simp only[bg,lenV,hu,aN];rfl
theorem cF{t:TypeId}{ts:List TypeId}{as:List AV}{s:List Nat}(hu:bC cx t=some .string):bg cx S .len (t::ts) (.str s::as)=.val (.int .i64 s.length) S:=by
 simp only[bg,lenV,hu,aN];rfl
end
section
variable{cx:Cx}{t:TypeId}{c:Bool}{k:IntKind}{a b:Int}
theorem bin_add:aS cx .add t c (.int k a) (.int k b)=some (.int k (k.wrap (a+b))):=by simp[aS,cR,qN,iy]
theorem bin_sub:aS cx .sub t c (.int k a) (.int k b)=some (.int k (k.wrap (a-b))):=by simp[aS,cR,qN,iy];rfl
theorem bin_mul:aS cx .mul t c (.int k a) (.int k b)=some (.int k (k.wrap (a*b))):=by simp[aS,cR,qN,iy]
theorem bin_quo(h:b≠0):aS cx .quo t c (.int k a) (.int k b)=some (.int k (k.wrap (a.tdiv b))):=by
 have:yU b 0=false:=by rw[gK];simpa using h
 simp[aS,cR,qN,iy,this]
theorem bin_rem(h:b≠0):aS cx .rem t c (.int k a) (.int k b)=some (.int k (a.tmod b)):=by
 have:yU b 0=false:=by rw[gK];simpa using h
 simp[aS,cR,qN,dG,this]
theorem bin_eql:aS cx .eql t c (.int k a) (.int k b)=some (.bool (decide (a=b))):=by simp[aS,cR,qN,gK]
theorem bin_neq:aS cx .neq t c (.int k a) (.int k b)=some (.bool (!decide (a=b))):=by simp[aS,cR,qN,gK]
theorem bin_lss:aS cx .lss t c (.int k a) (.int k b)=some (.bool (decide (a<b))):=by simp[aS,cR,qN,lC]
theorem bin_leq:aS cx .leq t c (.int k a) (.int k b)=some (.bool (decide (a<=b))):=by
 simp only[aS,cR,qN,lC,decide_true,cond_true,Option.some.injEq,AV.bool.injEq];by_cases h:a<=b<;>simp[h]<;>omega
theorem bin_gtr:aS cx .gtr t c (.int k a) (.int k b)=some (.bool (decide (b<a))):=by simp[aS,cR,qN,lC]
theorem bin_geq:aS cx .geq t c (.int k a) (.int k b)=some (.bool (decide (b<=a))):=by
 simp only[aS,cR,qN,lC,decide_true,cond_true,Option.some.injEq,AV.bool.injEq];by_cases h:b<=a<;>simp[h]<;>omega
theorem Cs{x y:Bool}(h:bC cx t=some .bool):aS cx .eql t c (.bool x) (.bool y)=some (.bool (x==y)):=by
 have e:sW cx 6 t (.bool x) (.bool y)=some (x==y):=by
  show (match bC cx t with|none=>none|some d=>iD cx (sW cx 5) t d (.bool x) (.bool y))=_;rw[h];rfl
 simp[aS,Aq,rC,e]
theorem Cr{x y:Bool}(h:bC cx t=some .bool):aS cx .neq t c (.bool x) (.bool y)=some (.bool (!(x==y))):=by
 have e:sW cx 6 t (.bool x) (.bool y)=some (x==y):=by
  show (match bC cx t with|none=>none|some d=>iD cx (sW cx 5) t d (.bool x) (.bool y))=_;rw[h];rfl
 simp[aS,Aq,rC,e]
theorem un_not{x:Bool}:unV .not (.bool x)=some (.bool (!x)):=rfl
end
theorem runP_mono{cx:Cx}{r:AR}{K K':AV->AS->Prop}(h:lQ cx r K)(k:∀v S',K v S'->K' v S'):lQ cx r K':=by
 unfold lQ at h⊢;cases r with
 |val v S'=>exact k _ _ h
 |enter f as S'=>exact h.mono k
 |err n=>exact h
 |round f as S'=>exact h
 |dP v S'=>exact h
 |many l=>exact h
theorem nq{cx:Cx}{ops:List Oper}{o:Oper}{F:Fr}{S:AS}{K K':AV->AS->Prop}(h:eQ cx ops o F S K)(k:∀v S',K v S'->K' v S'):eQ cx ops o F S K':=by
 unfold eQ at h⊢;cases hw:aQ ops F o.guard with
 |none=>rw[hw]at h;exact h
 |some b=>rw[hw]at h;exact⟨fun hb=>runP_mono (h.1 hb) k,fun hb=>k _ _ (h.2 hb)⟩
theorem zM{cx:Cx}{ops:List Oper}{Q Q':Fr->AS->Prop}:∀{l:List Oper}{F:Fr}{S:AS},sD cx ops l F S Q->(∀F' S',Q F' S'->Q' F' S')->sD cx ops l F S Q'
 |[],_,_,h,k=>k _ _ h
 |_::_,_,_,h,k=>nq h fun _ _ h'=>zM h' k
section
variable{cx:Cx}{F:Fr}{S:AS}{Q:Ex->Fr->AS->Prop}
end
def agree:List Nat->Fr->Fr->Prop
 |[],_,_=>True
 |t::l,F,G=>sl F t=sl G t/\agree l F G
theorem agree_nil(F G:Fr):agree [] F G=True:=rfl
theorem agree_cons(t:Nat)(l:List Nat)(F G:Fr):agree (t::l) F G=(sl F t=sl G t/\agree l F G):=rfl
theorem wpP_congr{cx:Cx}{c:Code}{F F':Fr}{S S':AS}{Q:Ex->Fr->AS->Prop}(h1:F=F')(h2:S=S'):kQ cx c F S Q=kQ cx c F' S' Q:=by rw[h1,h2]
theorem B9{cx:Cx}{ops:List Oper}{F F':Fr}{S S':AS}{Q:Fr->AS->Prop}(h1:F=F')(h2:S=S'):ko cx ops F S Q=ko cx ops F' S' Q:=by rw[h1,h2]
theorem F9{cx:Cx}{b:Code}{F F':Fr}{S S':AS}{Q:Ex->Fr->AS->Prop}(h1:F=F')(h2:S=S'):pU cx b F S Q=pU cx b F' S' Q:=by rw[h1,h2]
theorem Fh{x x':AV}{A B:Prop}(h:x=x'):gG x A B=gG x' A B:=by rw[h]
section
variable{cx:Cx}{F:Fr}{S:AS}{Q:Ex->Fr->AS->Prop}
theorem wpP_skip:kQ cx .skip F S Q=Q .normal F S:=rfl
theorem wpP_ret:kQ cx .ret F S Q=Q .ret F S:=rfl
theorem wpP_exit{id:Nat}:kQ cx (.exit id) F S Q=Q (.exit id) F S:=rfl
theorem wpP_region{id:Nat}{l:List Oper}:kQ cx (.region id l.toArray false) F S Q=sD cx l l F S (Q .normal):=rfl
theorem wpP_drawn{id:Nat}{l:List Oper}:kQ cx (.region id l.toArray true) F S Q=ko cx l F S (Q .normal):=rfl
def kcode(cx:Cx)(b:Code)(Q:Ex->Fr->AS->Prop)(F':Fr)(S':AS):Prop:=kQ cx b F' S' Q
theorem qp{b:Code}{F':Fr}{S':AS}:kcode cx b Q F' S'=kQ cx b F' S' Q:=rfl
theorem wpP_seq{a b:Code}:kQ cx (.seq a b) F S Q=kQ cx a F S (jo (kcode cx b Q) Q):=rfl
theorem eZ{x:Operand}{a b:Code}:kQ cx (.cond x a b) F S Q=gG (eval F x) (kQ cx a F S Q) (kQ cx b F S Q):=rfl
theorem wpP_scope{b:Code}:kQ cx (.scope b) F S Q=kQ cx b F S (oO Q):=rfl
theorem wpP_label{l:Nat}:kQ cx (.label l) F S Q=Q .normal F S:=rfl
theorem mB{id:Nat}{b:Code}:kQ cx (.block id b) F S Q=kQ cx b F S (jh id Q):=rfl
theorem wpP_loop{b:Code}:kQ cx (.loop b) F S Q=pU cx b F S Q:=rfl
theorem condP_true{A B:Prop}:gG (.bool true) A B=A:=by simp[gG]
theorem Fg{A B:Prop}:gG (.bool false) A B=B:=by simp[gG]
theorem bodyP_ret{fn:Func}{K:AV->AS->Prop}:xU cx fn K .ret F S=E5 (j9 cx F S fn.results.toList |>.map fun vs=>match vs with|[v]=>v|vs=>.tuple vs) S K:=rfl
theorem Cn{fn:Func}{K:AV->AS->Prop}:xU cx fn K .normal F S=E5 (j9 cx F S fn.results.toList |>.map fun vs=>match vs with|[v]=>v|vs=>.tuple vs) S K:=rfl
theorem endP_some{v:AV}{K:AV->AS->Prop}:E5 (some v) S K=(bE v=false/\K v S):=rfl
theorem np_undef  : bE (.undef:AV)=false:=rfl
theorem np_bool{b:Bool}:bE (.bool b)=false:=rfl
theorem np_int{k:IntKind}{n:Int}:bE (.int k n)=false:=rfl
theorem np_str{l:List Nat}:bE (.str l)=false:=rfl
theorem np_nilp  : bE .bM=false:=rfl
theorem np_ptr{a b c d:Nat}:bE (.ptr a b c d)=false:=rfl
theorem np_glob{a b:Nat}:bE (.uh a b)=false:=rfl
theorem np_nils  : bE .aq=false:=rfl
theorem np_slice{a b c d e f:Nat}{g:Option Nat}:bE (.slice a b c d e f g)=false:=rfl
theorem np_nilm  : bE .jl=false:=rfl
theorem np_map{a:Nat}:bE (.map a)=false:=rfl
theorem np_func{f:Fn}{a b:List AV}:bE (.func f a b)=false:=rfl
theorem np_nilf  : bE .kM=false:=rfl
theorem np_niface  : bE .bH=false:=rfl
theorem np_iface{t:TypeId}{v:AV}:bE (.iface t v)=false:=rfl
theorem np_agg{l:List AV}:bE (.agg l)=false:=rfl
theorem np_tuple{l:List AV}:bE (.tuple l)=false:=rfl
theorem np_obj{o:OK}{i:Nat}:bE (.obj o i)=false:=rfl
theorem resL_nil:j9 cx F S []=some []:=rfl
theorem resL_tmp{t:Nat}{l:List ResultVar}:j9 cx F S (.tmp t::l)=(j9 cx F S l).map (sl F t :: ·):=by
 show nB cx F S (.tmp t) (j9 cx F S l)=_;cases j9 cx F S l with
 |none=>rfl
 |some vs=>simp only[nB,aJ,Option.map_some]
theorem resL_cell{t:Nat}{ty:TypeId}{l:List ResultVar}:j9 cx F S (.cell t ty::l)=(j9 cx F S l).bind fun vs=>(oh cx S ty (sl F t)).map (· :: vs):=by
 show nB cx F S (.cell t ty) (j9 cx F S l)=_;cases j9 cx F S l with
 |none=>rfl
 |some vs=>
  simp only[nB,aJ,Option.bind_some];cases oh cx S ty (sl F t)<;>rfl
end
theorem Gd{cx:Cx}{f:FuncId}{as as':List AV}{S S':AS}{Q:AV->AS->Prop}(h1:as=as')(h2:S=S'):ai cx f as S Q=ai cx f as' S' Q:=by rw[h1,h2]
theorem AP{R:Fr->AS->Prop}{Q:Ex->Fr->AS->Prop}{F:Fr}{S:AS}:jo R Q .normal F S=R F S:=rfl
theorem thenP_exit{R:Fr->AS->Prop}{Q:Ex->Fr->AS->Prop}{F:Fr}{S:AS}{i:Nat}:jo R Q (.exit i) F S=Q (.exit i) F S:=rfl
theorem thenP_ret{R:Fr->AS->Prop}{Q:Ex->Fr->AS->Prop}{F:Fr}{S:AS}:jo R Q .ret F S=Q .ret F S:=rfl
theorem yE{Q:Ex->Fr->AS->Prop}{F:Fr}{S:AS}:oO Q .normal F S=Q .normal F S:=rfl
theorem scopeP_ret{Q:Ex->Fr->AS->Prop}{F:Fr}{S:AS}:oO Q .ret F S=Q .ret F S:=rfl
theorem DF{Q:Ex->Fr->AS->Prop}{F:Fr}{S:AS}{i:Nat}:oO Q (.exit i) F S=Q (.exit i) F S:=rfl
theorem za{id:Nat}{Q:Ex->Fr->AS->Prop}{F:Fr}{S:AS}:jh id Q .normal F S=Q .normal F S:=rfl
theorem blockP_ret{id:Nat}{Q:Ex->Fr->AS->Prop}{F:Fr}{S:AS}:jh id Q .ret F S=Q .ret F S:=rfl
theorem FH{id j:Nat}{Q:Ex->Fr->AS->Prop}{F:Fr}{S:AS}:jh id Q (.exit j) F S=if j=id then Q .normal F S else Q (.exit j) F S:=rfl
theorem nth_lit{α:Type}(n:Nat)(l:List α):nth n l=l[n]?:=iw n l
theorem opsP_congr{cx:Cx}{ops l:List Oper}{F F':Fr}{S S':AS}{Q:Fr->AS->Prop}(h1:F=F')(h2:S=S'):sD cx ops l F S Q=sD cx ops l F' S' Q:=by rw[h1,h2]
theorem Dt{cx:Cx}{ops:List Oper}{o:Oper}{F F':Fr}{S S':AS}{K:AV->AS->Prop}(h1:F=F')(h2:S=S'):eQ cx ops o F S K=eQ cx ops o F' S' K:=by rw[h1,h2]
theorem runP_congr{cx:Cx}{r r':AR}{K:AV->AS->Prop}(h1:r=r'):lQ cx r K=lQ cx r' K:=by rw[h1]
theorem C6{ops:List Oper}{F F':Fr}{g:Option (Nat×Bool)}(h:F=F'):aQ ops F g=aQ ops F' g:=by rw[h]
theorem AW{ops:List Oper}{n m:Nat}(h:n=m):dY ops n=dY ops m:=by rw[h]
attribute [congr] C6 AW wpP_congr B9 F9 Fh Gd opsP_congr Dt runP_congr
attribute [simp] kont_app qp agree_nil agree_cons wpP_skip wpP_ret wpP_exit wpP_region wpP_drawn wpP_seq eZ mB wpP_scope wpP_label yE scopeP_ret DF wpP_loop condP_true Fg bodyP_ret Cn endP_some resL_nil resL_tmp resL_cell lH np_undef np_bool np_int np_str np_nilp np_ptr np_glob np_nils np_slice np_nilm np_map np_func np_nilf np_niface np_iface np_agg np_tuple np_obj
 sl_up up_none lS aJ eval_const eval_func eval_global ofV_bool Bs ofV_string ofV_nilp ofV_nils ofV_nilm ofV_nilf ofV_niface
 opsP_nil opsP_cons stepP_free stepP_run stepP_skip Ds DA DB runP_val runP_enter runP_err aop_move aop_assign aop_pick pickR_true Ea aop_bin aop_un val?_some vals?_some pR
 aop_call FU vR callV_func aop_alloc aop_box aop_build x9 FR zm EP Cv aop_lookup zk aop_assert aop_slice
 bin_add bin_sub bin_mul bin_eql bin_neq bin_lss bin_leq bin_gtr bin_geq bin_quo bin_rem Cs Cr un_not AP thenP_exit thenP_ret za blockP_ret FH nth_lit
end Go.Am
namespace Go.Am
open Go Go.RowKit
structure Sub(S T:AS):Prop where
 h:∀id,id<S.next->T.h.get id=S.h.get id
 next:S.next<=T.next
theorem Sub.refl(S:AS):Sub S S:=⟨fun _ _=>rfl,Nat.le_refl _⟩
theorem Sub.trans{A B C:AS}(h:Sub A B)(k:Sub B C):Sub A C:=⟨fun id hi=>(k.h id (Nat.lt_of_lt_of_le hi h.next)).trans (h.h id hi),Nat.le_trans h.next k.next⟩
theorem Sub.set{A S:AS}(h:Sub A S)(id:Nat)(o:dr)(hi:A.next<=id)(n:Nat)(hn:S.next<=n):Sub A ⟨S.h.set id o,n⟩:=
 ⟨fun i cq=>by show (S.h.set id o).get i=_;rw[ae _ _ (by omega)];exact h.h i cq,Nat.le_trans h.next hn⟩
theorem R.drop{Λ:LB}{ρ:aO}{S T:AS}{w:World}(h:R Λ ρ T w)(hs:Sub S T)(hd:∀id o,S.h.get id=some o->id<S.next)
  (ho:∀id o,S.h.get id=some o->uI (fun i g=>if i<S.next then ρ i g else none) w id o):R Λ (fun i g=>if i<S.next then ρ i g else none) S w:=by
 have hT:∀id o,S.h.get id=some o->T.h.get id=some o:=fun id o hi=>by rw[hs.h id (hd id o hi)];exact hi
 refine⟨ho,hd,fun id g hi=>by simp only[if_neg (Nat.not_lt.2 hi)],fun id c l t f ty hi g hg=>?_,fun id o g pl hi hp=>?_,fun i j o oj g gj pl plj pD hi hj hp Ac=>?_,h.start,fun b hb=>?_⟩
 .simp only[if_pos (hd id _ hi)];exact h.qF id c l t f ty (hT id _ hi) g hg
 .simp only[if_pos (hd id _ hi)]at hp;exact h.lt id o g pl (hT id _ hi) hp
 .simp only[if_pos (hd i _ hi)]at hp;simp only[if_pos (hd j _ hj)]at Ac;exact h.apart i j o oj g gj pl plj pD (hT i _ hi) (hT j _ hj) hp Ac
 .obtain⟨d1,d2,d3⟩:=h.base b hb;refine⟨d1,d2,?_⟩;rintro⟨i,o,g,pl,hi,hz,hp,rfl⟩;simp only[if_pos (hd i _ hi)]at hp;exact d3 ⟨i,o,g,pl,hT i _ hi,hz,hp,rfl⟩
theorem zG{Λ:LB}{P:Program}{A:Ask}(hr:vd P A)(hp:∀x,x∈A.dE->fw Λ P x.1 x.2)(hg:∀x,x∈A.kE->rY Λ.w Λ.B x.1 x.2){f:FuncId}{q:List AV->AS->Option (AV×AS)}(n:Nat)
  (h:∀as S v S',q as S=some (v,S')->S'=S/\xG n v=true/\ai (vf P A) f as S fun v' T=>v'=v/\Sub S T):fw Λ P f q:=by
 intro ρ as S w args v S' hR hl hq;obtain⟨rfl,hf,hc⟩:=h as S v S' hq;obtain⟨k1,k2⟩:=Fw hr hp hg hR hl hc;refine⟨k1,k2.mono ?_⟩;rintro e w' ⟨x,v',T,ρ',rfl,h1,⟨rfl,h2⟩,h3,h4⟩;have hx:Ext ρ (fun i g=>if i<S'.next then ρ' i g else none):=by
  intro i g pl lV;have hi:i<S'.next:=by
   rcases Nat.lt_or_ge i S'.next with hh|hh
   .exact hh
   .rw[hR.fresh i g hh]at lV;cases lV
  simp only[if_pos hi];exact h4.ext i g pl lV
 have hO:∀id o,S'.h.get id=some o->uI (fun i g=>if i<S'.next then ρ' i g else none) w' id o:=by
  intro id o ho;have hT:T.h.get id=some o:=by rw[h2.h id (hR.sY id o ho)];exact ho
  exact uI.restrict hx h4.ext (fun g=>by simp only[if_pos (hR.sY id o ho)]) (hR.iM id o ho) (h3.iM id o hT)
 refine⟨x,_,rfl,flat_rel n v' x ρ' _ hf h1,h3.drop h2 hR.sY hO,⟨hx,h4.os,h4.tape,h4.output,h4.size,h4.cg,fun b hb=>?_,fun b hb=>?_,Nat.le_refl _,fun id g hi hn=>⟨by simp only[if_pos hi];exact (h4.rA id g hi hn).1,hn⟩⟩⟩
 .obtain⟨i,o,g,pl,hi,j6,rfl⟩:=hb;simp only[if_pos (hR.sY i o hi)]at j6;exact h4.BC _ ⟨i,o,g,pl,by rw[h2.h i (hR.sY i o hi)];exact hi,j6,rfl⟩
 .obtain⟨i,o,g,pl,hi,hz,j6,rfl⟩:=hb;simp only[if_pos (hR.sY i o hi)]at j6;exact h4.wrt _ ⟨i,o,g,pl,by rw[h2.h i (hR.sY i o hi)];exact hi,hz,j6,rfl⟩
end Go.Am
