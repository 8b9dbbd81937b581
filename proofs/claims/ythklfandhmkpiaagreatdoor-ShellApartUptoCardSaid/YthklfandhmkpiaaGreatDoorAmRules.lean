/-
  The abstract machine: its operations one by one, as rules for simp.
-/
import Derived.Test.YthklfandhmkpiaaGreatDoorAmLogic
import Derived.IntWalk
open Option.some renaming injEq->zza
open Array renaming getElem?_toList->zzb
namespace Go.Am
open Go
section
variable{cx:Cx}{ops:List Oper}{o:Oper}{l:List Oper}{F:Fr}{S:AS}{Q:Fr->AS->Prop}{K:AV->AS->Prop}
theorem opsP_nil:qU cx ops [] F S Q=Q F S:=rfl
def kont(cx:Cx)(ops l:List Oper)(F:Fr)(d:Option Nat)(Q:Fr->AS->Prop)(v:AV)(S':AS):Prop:=qU cx ops l (up F d v) S' Q
theorem kont_app{d:Option Nat}{v:AV}{S':AS}:kont cx ops l F d Q v S'=qU cx ops l (up F d v) S' Q:=rfl
theorem opsP_cons:qU cx ops (o::l) F S Q=eX cx ops o F S (kont cx ops l F o.dst Q):=rfl
theorem Fo{dst:Option Tmp}{op:Op}{ty:TypeId}{pos:String}{af:Array Edge}:eX cx ops ⟨dst,op,ty,pos,af,none⟩ F S K=qI cx (bE cx F S ⟨dst,op,ty,pos,af,none⟩) K:=by
 simp[eX,bQ]
theorem n8{dst:Option Tmp}{op:Op}{ty:TypeId}{pos:String}{af:Array Edge}{j:Nat}{w:Bool}:eX cx ops ⟨dst,op,ty,pos,af,some (j,w)⟩ F S K =
  (match bQ ops F (some (j,w))with
   |some b=>(b=true->qI cx (bE cx F S ⟨dst,op,ty,pos,af,some (j,w)⟩) K)/\(b=false->K .undef S)
   |none=>False):=rfl
def fg:List Oper->Nat->Option Nat
 |[],_=>none
 |o::_,0=>o.dst
 |_::l,n+1=>fg l n
theorem Cn{o:Oper}{l:List Oper}:fg (o::l) 0=o.dst:=rfl
theorem Co{o:Oper}{l:List Oper}{n:Nat}:fg (o::l) (n+1)=fg l n:=rfl
theorem iH:∀(l:List Oper)(j d:Nat),fg l j=some d->∃p,l[j]?=some p/\p.dst=some d
 |[],_,_,h=>by cases h
 |o::l,0,d,h=>⟨o,rfl,h⟩
 |o::l,n+1,d,h=>by simpa using iH l n d h
theorem fI{j d:Nat}{w b:Bool}(h1:fg ops j=some d)(h2:sl F d=.bool b):bQ ops F (some (j,w))=some (cond w b (!b)):=by
 obtain⟨p,e1,e2⟩:=iH ops j d h1;simp[bQ,e1,e2,h2]
theorem stepP_run{dst:Option Tmp}{op:Op}{ty:TypeId}{pos:String}{af:Array Edge}{j d:Nat}{w b:Bool}(h1:fg ops j=some d)(h2:sl F d=.bool b)(h3:(b==w)=true):
  eX cx ops ⟨dst,op,ty,pos,af,some (j,w)⟩ F S K=qI cx (bE cx F S ⟨dst,op,ty,pos,af,some (j,w)⟩) K:=by
 have hw:=fI (w:=w) h1 h2;obtain rfl:b=w:=by simpa using h3
 rw[n8,hw];cases b<;>simp
theorem Fm{dst:Option Tmp}{op:Op}{ty:TypeId}{pos:String}{af:Array Edge}{j d:Nat}{w b:Bool}(h1:fg ops j=some d)(h2:sl F d=.bool b)(h3:(b == !w)=true):
  eX cx ops ⟨dst,op,ty,pos,af,some (j,w)⟩ F S K=K .undef S:=by
 have hw:=fI (w:=w) h1 h2;obtain rfl:b=!w:=by simpa using h3
 rw[n8,hw];cases w<;>simp
theorem Cj{dst:Option Tmp}{op:Op}{ty:TypeId}{pos:String}{af:Array Edge}{j d:Nat}{w:Bool}(h1:fg ops j=some d)(h2:sl F d=.undef):
  eX cx ops ⟨dst,op,ty,pos,af,some (j,w)⟩ F S K=K .undef S:=by
 obtain⟨p,e1,e2⟩:=iH ops j d h1;have hw:bQ ops F (some (j,w))=some false:=by simp[bQ,e1,e2,h2,AV.undef]
 rw[n8,hw];simp
theorem runP_val{v:AV}{S':AS}:qI cx (.val v S') K=K v S':=rfl
theorem FA{f:FuncId}{as:List AV}{S':AS}:qI cx (.enter f as S') K=az cx f as S' K:=rfl
theorem runP_err{n:Nat}:qI cx (.err n) K=False:=rfl
variable{dst:Option Tmp}{ty:TypeId}{pos:String}{af:Array Edge}{g:Option (Nat×Bool)}
theorem aop_move{x:Operand}:bE cx F S ⟨dst,.move x,ty,pos,af,g⟩=.val (eval F x) S:=rfl
theorem aop_assign{x:Operand}:bE cx F S ⟨dst,.assign x,ty,pos,af,g⟩=.val (eval F x) S:=rfl
def pickR(c a b:AV)(S:AS):AR:=match c with | .bool true=>.val a S | .bool false=>.val b S|_=>.err 20
theorem aop_pick{c a b:Operand}:bE cx F S ⟨dst,.pick c a b,ty,pos,af,g⟩=pickR (eval F c) (eval F a) (eval F b) S:=rfl
theorem pickR_true{a b:AV}:pickR (.bool true) a b S=.val a S:=rfl
theorem CQ{a b:AV}:pickR (.bool false) a b S=.val b S:=rfl
theorem aop_bin{op:BinOp}{t u:TypeId}{x y:Operand}:bE cx F S ⟨dst,.binOp op t x y u,ty,pos,af,g⟩=val? (bI cx op t ((x matches .const _)||(y matches .const _)) (eval F x) (eval F y)) S 40:=rfl
theorem aop_un{op:UnOp}{t:TypeId}{x:Operand}:bE cx F S ⟨dst,.unOp op t x,ty,pos,af,g⟩=val? (unV op (eval F x)) S 41:=rfl
theorem val?_some{v:AV}{n:Nat}:val? (some v) S n=.val v S:=rfl
theorem Fb{v:AV}{S':AS}{n:Nat}:dO (some (v,S')) n=.val v S':=rfl
theorem oM{x:Operand}{i:Nat}:bE cx F S ⟨dst,.extract x i,ty,pos,af,g⟩=(match eval F x with | .tuple vs=>val? (nth i vs) S 82|_=>.err 83):=rfl
theorem aop_call{f:Operand}{as:Array Operand}{lG:Array TypeId}:bE cx F S ⟨dst,.call ⟨.value f,as,lG⟩,ty,pos,af,g⟩=nF cx S (eval F f) (args F as):=rfl
theorem ED{b:Builtin}{as:Array Operand}{lG:Array TypeId}:bE cx F S ⟨dst,.call ⟨.builtin b,as,lG⟩,ty,pos,af,g⟩=aY cx S b lG.toList (args F as):=rfl
theorem args_eq{as:Array Operand}:args F as=as.toList.map (eval F):=by unfold args;rw[fZ]
theorem callV_func{f:FuncId}{first captured as:List AV}(h:cx.exts.get f=none):nF cx S (.func (.func f) first captured) as=.enter f (first++(as++captured)) S:=by
 simp only[nF,h,cA]
theorem aop_alloc{e:TypeId}:bE cx F S ⟨dst,.alloc e,ty,pos,af,g⟩=eR (aO cx F S.nx (.alloc e)) S 21:=rfl
theorem aop_box{t:TypeId}{x:Operand}:bE cx F S ⟨dst,.box t x,ty,pos,af,g⟩=eR (aO cx F S.nx (.box t x)) S 23:=rfl
theorem aop_build{t:TypeId}{ps:Array (Nat×Operand)}:bE cx F S ⟨dst,.build t ps,ty,pos,af,g⟩=val? (lF cx F t ps.toList) S 24:=rfl
theorem wA{t:TypeId}{n:Nat}{ps:Array (Nat×Operand)}:bE cx F S ⟨dst,.buildSlice t n ps,ty,pos,af,g⟩=eR (aO cx F S.nx (.buildSlice t n ps)) S 25:=rfl
theorem EB{t:TypeId}{r:Option Operand}:bE cx F S ⟨dst,.makeMap t r,ty,pos,af,g⟩=eR (aO cx F S.nx (.makeMap t r)) S 48:=rfl
theorem xV{t:TypeId}{a b:Operand}:bE cx F S ⟨dst,.makeSlice t a b,ty,pos,af,g⟩=eR (aO cx F S.nx (.makeSlice t a b)) S 49:=rfl
theorem DK{v:AV}{o:dp}{n:Nat}:eR (some (v,o)) S n=.val v ⟨S.h.set S.nx o,S.nx+1⟩:=rfl
theorem BC{fn:Fn}{a b:Array Operand}:bE cx F S ⟨dst,.makeFunc fn a b,ty,pos,af,g⟩=.val (.func fn (args F a) (args F b)) S:=rfl
theorem aop_lookup{t:TypeId}{x i:Operand}{ok:Bool}:bE cx F S ⟨dst,.lookup t x i ok,ty,pos,af,g⟩=val? (q9 cx S t (eval F x) (eval F i) ok) S 71:=rfl
theorem xU{t:TypeId}{m k v:Operand}:bE cx F S ⟨dst,.mapUpdate t m k v,ty,pos,af,g⟩=dO (mH cx S t (eval F m) (eval F k) (eval F v)) 78:=rfl
theorem aop_assert{x:Operand}{t u:TypeId}{ok:Bool}:bE cx F S ⟨dst,.typeAssert x t u ok,ty,pos,af,g⟩=val? (iu cx (eval F x) u ok) S 85:=rfl
theorem aop_slice{t:TypeId}{x:Operand}{a b c:Option Operand}:bE cx F S ⟨dst,.slice t x a b c,ty,pos,af,g⟩=val? (fL cx F t (eval F x) a b c) S 53:=rfl
theorem aop_load{t:TypeId}{x:Operand}{id gn off aM:Nat}{v:AV}(hx:eval F x=.ptr id gn off aM)(h:nD cx S t (.ptr id gn off aM)=some v):bE cx F S ⟨dst,.load t x,ty,pos,af,g⟩=.val v S:=by
 unfold nD at h;simp only[bE,hx];simp only at h;cases ha:aX cx t with
 |none=>simp[ha]at h
 |some b=>
  cases b with
  |true=>
   simp only[ha]at h⊢;cases hs:aH cx t with
   |none=>simp[hs]at h
   |some n=>
    simp only[hs]at h⊢;cases hr:rd S id gn off n aM with
    |none=>simp[hr]at h
    |some cs=>simp only[hr,zza]at h⊢;rw[h]
  |false=>
   simp only[ha]at h⊢;split at h
   .rename_i u hr;simp only[zza]at h;subst h;rw[hr]
   .cases h
theorem aop_store{t:TypeId}{x y:Operand}{id gn off aM n:Nat}{cs:List AV}{S':AS}(hx:eval F x=.ptr id gn off aM)(hy:cellsOf (eval F y)=some cs)(hs:aH cx t=some n)(hl:cs.length=n)
  (hw:wr S id gn off aM cs=some S'):bE cx F S ⟨dst,.store t x y,ty,pos,af,g⟩=.val .undef S':=by
 simp only[bE,hx,hy,hs,hw,bC,bL,hl,decide_true,cond_true]
theorem sR{x:Operand}{i gn o l:Nat}(hx:eval F x=.ptr i gn o l):bE cx F S ⟨dst,.nilCheck x,ty,pos,af,g⟩=.val (.ptr i gn o l) S:=by simp only[bE,hx]
theorem rE{x:Operand}{f:FuncId}{a b:List AV}(hx:eval F x=.func (.func f) a b):bE cx F S ⟨dst,.nilCheck x,ty,pos,af,g⟩=.val (.func (.func f) a b) S:=by simp only[bE,hx]
theorem Ez{t:TypeId}{x:Operand}{d:TypeDesc}(h:bJ cx t=some d)(hn:(match d with | .interface _=>false|_=>true)=true):bE cx F S ⟨dst,.makeInterface t x,ty,pos,af,g⟩=.val (.iface t (eval F x)) S:=by
 simp only[bE,h];cases d<;>first|rfl|cases hn
theorem xX{s:TypeId}{x:Operand}{f id gn off aM z:Nat}{fs:Array Field}{fd:Field}(hx:eval F x=.ptr id gn off aM)(hu:bJ cx s=some (.struct fs))(hf:fs[f]?=some fd)(hz:aH cx fd.type=some (z+1)):
  bE cx F S ⟨dst,.fieldAddr s x f,ty,pos,af,g⟩=.val (.ptr id gn (off+fd.offset) aM) S:=by
 have Dz:nth f fs.toList=some fd:=by rw[gq,zzb];exact hf
 simp only[bE,hu,hx,Dz,hz,aQ];rfl
theorem aop_field{t:TypeId}{x:Operand}{f:Nat}{cs:List AV}{fs:Array Field}{fd:Field}(hx:eval F x=.agg cs)(hu:bJ cx t=some (.struct fs))(hf:fs[f]?=some fd):
  bE cx F S ⟨dst,.field t x f,ty,pos,af,g⟩=val? (partOf cx fd.type cs fd.offset) S 57:=by
 have Dz:nth f fs.toList=some fd:=by rw[gq,zzb];exact hf
 simp only[bE,hu,hx,Dz]
theorem gD{t e:TypeId}{x ix:Operand}{id gn off len aM z i:Nat}{cap:Option Nat}{k:IntKind}{n:Int}(hx:eval F x=.slice id gn off len aM z cap)(hu:bJ cx t=some (.slice e))(hz:aH cx e=some z)
  (hi:eval F ix=.int k n) (hn:n=(i:Int)) (hl:i<len):bE cx F S ⟨dst,.indexAddr t x ix,ty,pos,af,g⟩=.val (.ptr id gn (off+i*z) aM) S:=by
 subst hn;simp only[bE,hu,hx,hi,eY,hz,bC,gJ,hl,decide_true,Bool.and_self,cond_true,aQ];rfl
theorem BG{s d:TypeId}{x:Operand}{k j:IntKind}{n:Int}{e:TypeDesc}(hs:bJ cx s=some e)(hd:bJ cx d=some (.int k))(hx:eval F x=.int j n):bE cx F S ⟨dst,.convert s d x,ty,pos,af,g⟩=.val (.int k (k.wrap n)) S:=by
 simp only[bE,hs,hd,hx,iM]
theorem sj{t:TypeId}{ts:List TypeId}{e:TypeId}{as:List AV}{id gn off len aM z:Nat}{cap:Option Nat}(hu:bJ cx t=some (.slice e)):aY cx S .len (t::ts) (.slice id gn off len aM z cap::as)=.val (.int .i64 len) S:=by
 simp only[aY,lenV,hu,aQ];rfl
theorem len_nils{t:TypeId}{ts:List TypeId}{e:TypeId}{as:List AV}(hu:bJ cx t=some (.slice e)):aY cx S .len (t::ts) (.ar::as)=.val (.int .i64 0) S:=by
 simp only[aY,lenV,hu,aQ];rfl
theorem cI{t:TypeId}{ts:List TypeId}{as:List AV}{s:List Nat}(hu:bJ cx t=some .string):aY cx S .len (t::ts) (.str s::as)=.val (.int .i64 s.length) S:=by
 simp only[aY,lenV,hu,aQ];rfl
variable{t:TypeId}{c:Bool}{k:IntKind}{a b:Int}
theorem bin_add:bI cx .add t c (.int k a) (.int k b)=some (.int k (k.wrap (a+b))):=by simp[bI,cL,pB,iM]
theorem bin_sub:bI cx .sub t c (.int k a) (.int k b)=some (.int k (k.wrap (a-b))):=by simp[bI,cL,pB,iM];rfl
theorem bin_mul:bI cx .mul t c (.int k a) (.int k b)=some (.int k (k.wrap (a*b))):=by simp[bI,cL,pB,iM]
theorem bin_quo(h:b≠0):bI cx .quo t c (.int k a) (.int k b)=some (.int k (k.wrap (a.tdiv b))):=by
 have:pP b 0=false:=by rw[cQ];simpa using h
 simp[bI,cL,pB,iM,this]
theorem bin_rem(h:b≠0):bI cx .rem t c (.int k a) (.int k b)=some (.int k (a.tmod b)):=by
 have:pP b 0=false:=by rw[cQ];simpa using h
 simp[bI,cL,pB,eG,this]
theorem bin_eql:bI cx .eql t c (.int k a) (.int k b)=some (.bool (decide (a=b))):=by simp[bI,cL,pB,cQ]
theorem bin_neq:bI cx .neq t c (.int k a) (.int k b)=some (.bool (!decide (a=b))):=by simp[bI,cL,pB,cQ]
theorem bin_lss:bI cx .lss t c (.int k a) (.int k b)=some (.bool (decide (a<b))):=by simp[bI,cL,pB,kf]
theorem bin_leq:bI cx .leq t c (.int k a) (.int k b)=some (.bool (decide (a<=b))):=by
 simp only[bI,cL,pB,kf,decide_true,cond_true,zza,AV.bool.injEq];by_cases h:a<=b<;>simp[h]<;>omega
theorem bin_gtr:bI cx .gtr t c (.int k a) (.int k b)=some (.bool (decide (b<a))):=by simp[bI,cL,pB,kf]
theorem bin_geq:bI cx .geq t c (.int k a) (.int k b)=some (.bool (decide (b<=a))):=by
 simp only[bI,cL,pB,kf,decide_true,cond_true,zza,AV.bool.injEq];by_cases h:b<=a<;>simp[h]<;>omega
theorem Bz{x y:Bool}(h:bJ cx t=some .bool):bI cx .eql t c (.bool x) (.bool y)=some (.bool (x==y)):=by
 have e:tA cx 6 t (.bool x) (.bool y)=some (x==y):=by
  show (match bJ cx t with|none=>none|some d=>gP cx (tA cx 5) t d (.bool x) (.bool y))=_;rw[h];rfl
 simp[bI,qh,mh,e]
theorem By{x y:Bool}(h:bJ cx t=some .bool):bI cx .neq t c (.bool x) (.bool y)=some (.bool (!(x==y))):=by
 have e:tA cx 6 t (.bool x) (.bool y)=some (x==y):=by
  show (match bJ cx t with|none=>none|some d=>gP cx (tA cx 5) t d (.bool x) (.bool y))=_;rw[h];rfl
 simp[bI,qh,mh,e]
theorem un_not{x:Bool}:unV .not (.bool x)=some (.bool (!x)):=rfl
end
theorem runP_mono{cx:Cx}{r:AR}{K K':AV->AS->Prop}(h:qI cx r K)(k:∀v S',K v S'->K' v S'):qI cx r K':=by
 unfold qI at h⊢;cases r with
 |val v S'=>exact k _ _ h
 |enter f as S'=>exact h.mono k
 |err n=>exact h
 |round f as S'=>exact h
 |eQ v S'=>exact h
 |many l=>exact h
theorem mK{cx:Cx}{ops:List Oper}{o:Oper}{F:Fr}{S:AS}{K K':AV->AS->Prop}(h:eX cx ops o F S K)(k:∀v S',K v S'->K' v S'):eX cx ops o F S K':=by
 unfold eX at h⊢;cases hw:bQ ops F o.guard with
 |none=>rw[hw]at h;exact h
 |some b=>rw[hw]at h;exact⟨fun hb=>runP_mono (h.1 hb) k,fun hb=>k _ _ (h.2 hb)⟩
theorem yI{cx:Cx}{ops:List Oper}{Q Q':Fr->AS->Prop}:∀{l:List Oper}{F:Fr}{S:AS},qU cx ops l F S Q->(∀F' S',Q F' S'->Q' F' S')->qU cx ops l F S Q'
 |[],_,_,h,k=>k _ _ h
 |_::_,_,_,h,k=>mK h fun _ _ h'=>yI h' k
section
variable{cx:Cx}{F:Fr}{S:AS}{Q:Ex->Fr->AS->Prop}
end
def cE:List Nat->Fr->Fr->Prop
 |[],_,_=>True
 |t::l,F,G=>sl F t=sl G t/\cE l F G
theorem agree_nil(F G:Fr):cE [] F G=True:=rfl
theorem agree_cons(t:Nat)(l:List Nat)(F G:Fr):cE (t::l) F G=(sl F t=sl G t/\cE l F G):=rfl
theorem wpP_congr{cx:Cx}{c:Code}{F F':Fr}{S S':AS}{Q:Ex->Fr->AS->Prop}(h1:F=F')(h2:S=S'):kE cx c F S Q=kE cx c F' S' Q:=by rw[h1,h2]
theorem Be{cx:Cx}{ops:List Oper}{F F':Fr}{S S':AS}{Q:Fr->AS->Prop}(h1:F=F')(h2:S=S'):lD cx ops F S Q=lD cx ops F' S' Q:=by rw[h1,h2]
theorem EK{cx:Cx}{b:Code}{F F':Fr}{S S':AS}{Q:Ex->Fr->AS->Prop}(h1:F=F')(h2:S=S'):tG cx b F S Q=tG cx b F' S' Q:=by rw[h1,h2]
theorem Ea{x x':AV}{A B:Prop}(h:x=x'):jE x A B=jE x' A B:=by rw[h]
section
variable{cx:Cx}{F:Fr}{S:AS}{Q:Ex->Fr->AS->Prop}
theorem wpP_skip:kE cx .skip F S Q=Q .normal F S:=rfl
theorem wpP_ret:kE cx .ret F S Q=Q .ret F S:=rfl
theorem wpP_exit{id:Nat}:kE cx (.exit id) F S Q=Q (.exit id) F S:=rfl
theorem E7{id:Nat}{l:List Oper}:kE cx (.region id l.toArray false) F S Q=qU cx l l F S (Q .normal):=rfl
theorem wpP_drawn{id:Nat}{l:List Oper}:kE cx (.region id l.toArray true) F S Q=lD cx l F S (Q .normal):=rfl
def kcode(cx:Cx)(b:Code)(Q:Ex->Fr->AS->Prop)(F':Fr)(S':AS):Prop:=kE cx b F' S' Q
theorem hG{b:Code}{F':Fr}{S':AS}:kcode cx b Q F' S'=kE cx b F' S' Q:=rfl
theorem wpP_seq{a b:Code}:kE cx (.seq a b) F S Q=kE cx a F S (n0 (kcode cx b Q) Q):=rfl
theorem iW{x:Operand}{a b:Code}:kE cx (.cond x a b) F S Q=jE (eval F x) (kE cx a F S Q) (kE cx b F S Q):=rfl
theorem wpP_scope{b:Code}:kE cx (.scope b) F S Q=kE cx b F S (od Q):=rfl
theorem wpP_label{l:Nat}:kE cx (.label l) F S Q=Q .normal F S:=rfl
theorem wpP_block{id:Nat}{b:Code}:kE cx (.block id b) F S Q=kE cx b F S (oG id Q):=rfl
theorem wpP_loop{b:Code}:kE cx (.loop b) F S Q=tG cx b F S Q:=rfl
theorem condP_true{A B:Prop}:jE (.bool true) A B=A:=by simp[jE]
theorem D9{A B:Prop}:jE (.bool false) A B=B:=by simp[jE]
theorem bodyP_ret{fn:Func}{K:AV->AS->Prop}:zA cx fn K .ret F S=endP (nI cx F S fn.results.toList |>.map fun vs=>match vs with|[v]=>v|vs=>.tuple vs) S K:=rfl
theorem Bv{fn:Func}{K:AV->AS->Prop}:zA cx fn K .normal F S=endP (nI cx F S fn.results.toList |>.map fun vs=>match vs with|[v]=>v|vs=>.tuple vs) S K:=rfl
theorem endP_some{v:AV}{K:AV->AS->Prop}:endP (some v) S K=(dH v=false/\K v S):=rfl
theorem np_undef  : dH (.undef:AV)=false:=rfl
theorem np_bool{b:Bool}:dH (.bool b)=false:=rfl
theorem np_int{k:IntKind}{n:Int}:dH (.int k n)=false:=rfl
theorem np_str{l:List Nat}:dH (.str l)=false:=rfl
theorem np_nilp  : dH .cT=false:=rfl
theorem np_ptr{a b c d:Nat}:dH (.ptr a b c d)=false:=rfl
theorem np_glob{a b:Nat}:dH (.kM a b)=false:=rfl
theorem np_nils  : dH .ar=false:=rfl
theorem np_slice{a b c d e f:Nat}{g:Option Nat}:dH (.slice a b c d e f g)=false:=rfl
theorem np_nilm  : dH .jb=false:=rfl
theorem np_map{a:Nat}:dH (.map a)=false:=rfl
theorem np_func{f:Fn}{a b:List AV}:dH (.func f a b)=false:=rfl
theorem np_nilf  : dH .kI=false:=rfl
theorem np_niface  : dH .bS=false:=rfl
theorem np_iface{t:TypeId}{v:AV}:dH (.iface t v)=false:=rfl
theorem np_agg{l:List AV}:dH (.agg l)=false:=rfl
theorem np_tuple{l:List AV}:dH (.tuple l)=false:=rfl
theorem np_obj{o:OK}{i:Nat}:dH (.obj o i)=false:=rfl
theorem resL_nil:nI cx F S []=some []:=rfl
theorem resL_tmp{t:Nat}{l:List ResultVar}:nI cx F S (.tmp t::l)=(nI cx F S l).map (sl F t :: ·):=by
 show mR cx F S (.tmp t) (nI cx F S l)=_;cases nI cx F S l with
 |none=>rfl
 |some vs=>simp only[mR,aA,Option.map_some]
theorem resL_cell{t:Nat}{ty:TypeId}{l:List ResultVar}:nI cx F S (.cell t ty::l)=(nI cx F S l).bind fun vs=>(nD cx S ty (sl F t)).map (· :: vs):=by
 show mR cx F S (.cell t ty) (nI cx F S l)=_;cases nI cx F S l with
 |none=>rfl
 |some vs=>
  simp only[mR,aA,Option.bind_some];cases nD cx S ty (sl F t)<;>rfl
end
theorem EM{cx:Cx}{f:FuncId}{as as':List AV}{S S':AS}{Q:AV->AS->Prop}(h1:as=as')(h2:S=S'):az cx f as S Q=az cx f as' S' Q:=by rw[h1,h2]
theorem Ab{R:Fr->AS->Prop}{Q:Ex->Fr->AS->Prop}{F:Fr}{S:AS}:n0 R Q .normal F S=R F S:=rfl
theorem Fh{R:Fr->AS->Prop}{Q:Ex->Fr->AS->Prop}{F:Fr}{S:AS}{i:Nat}:n0 R Q (.exit i) F S=Q (.exit i) F S:=rfl
theorem thenP_ret{R:Fr->AS->Prop}{Q:Ex->Fr->AS->Prop}{F:Fr}{S:AS}:n0 R Q .ret F S=Q .ret F S:=rfl
theorem wR{Q:Ex->Fr->AS->Prop}{F:Fr}{S:AS}:od Q .normal F S=Q .normal F S:=rfl
theorem Fz{Q:Ex->Fr->AS->Prop}{F:Fr}{S:AS}:od Q .ret F S=Q .ret F S:=rfl
theorem Ct{Q:Ex->Fr->AS->Prop}{F:Fr}{S:AS}{i:Nat}:od Q (.exit i) F S=Q (.exit i) F S:=rfl
theorem xO{id:Nat}{Q:Ex->Fr->AS->Prop}{F:Fr}{S:AS}:oG id Q .normal F S=Q .normal F S:=rfl
theorem blockP_ret{id:Nat}{Q:Ex->Fr->AS->Prop}{F:Fr}{S:AS}:oG id Q .ret F S=Q .ret F S:=rfl
theorem Eo{id j:Nat}{Q:Ex->Fr->AS->Prop}{F:Fr}{S:AS}:oG id Q (.exit j) F S=if j=id then Q .normal F S else Q (.exit j) F S:=rfl
theorem nth_lit{α:Type}(n:Nat)(l:List α):nth n l=l[n]?:=gq n l
theorem opsP_congr{cx:Cx}{ops l:List Oper}{F F':Fr}{S S':AS}{Q:Fr->AS->Prop}(h1:F=F')(h2:S=S'):qU cx ops l F S Q=qU cx ops l F' S' Q:=by rw[h1,h2]
theorem Ck{cx:Cx}{ops:List Oper}{o:Oper}{F F':Fr}{S S':AS}{K:AV->AS->Prop}(h1:F=F')(h2:S=S'):eX cx ops o F S K=eX cx ops o F' S' K:=by rw[h1,h2]
theorem FB{cx:Cx}{r r':AR}{K:AV->AS->Prop}(h1:r=r'):qI cx r K=qI cx r' K:=by rw[h1]
theorem BZ{ops:List Oper}{F F':Fr}{g:Option (Nat×Bool)}(h:F=F'):bQ ops F g=bQ ops F' g:=by rw[h]
theorem Ag{ops:List Oper}{n m:Nat}(h:n=m):fg ops n=fg ops m:=by rw[h]
attribute [congr] BZ Ag wpP_congr Be EK Ea EM opsP_congr Ck FB
attribute [simp] kont_app hG agree_nil agree_cons wpP_skip wpP_ret wpP_exit E7 wpP_drawn wpP_seq iW wpP_block wpP_scope wpP_label wR Fz Ct wpP_loop condP_true D9 bodyP_ret Bv endP_some resL_nil resL_tmp resL_cell ql np_undef np_bool np_int np_str np_nilp np_ptr np_glob np_nils np_slice np_nilm np_map np_func np_nilf np_niface np_iface np_agg np_tuple np_obj
 sl_up up_none vh aA eval_const eval_func eval_global ofV_bool ofV_int ofV_string ofV_nilp ofV_nils ofV_nilm ofV_nilf ofV_niface
 opsP_nil opsP_cons Fo stepP_run Fm Cj Cn Co runP_val FA runP_err aop_move aop_assign aop_pick pickR_true CQ aop_bin aop_un val?_some Fb oM
 aop_call ED args_eq callV_func aop_alloc aop_box aop_build wA EB xV DK BC aop_lookup xU aop_assert aop_slice
 bin_add bin_sub bin_mul bin_eql bin_neq bin_lss bin_leq bin_gtr bin_geq bin_quo bin_rem Bz By un_not Ab Fh thenP_ret xO blockP_ret Eo nth_lit
end Go.Am
namespace Go.Am
open Go Go.RowKit
structure Sub(S T:AS):Prop where
 h:∀id,id<S.nx->T.h.get id=S.h.get id
 nx:S.nx<=T.nx
theorem Sub.refl(S:AS):Sub S S:=⟨fun _ _=>rfl,Nat.le_refl _⟩
theorem Sub.trans{A B C:AS}(h:Sub A B)(k:Sub B C):Sub A C:=⟨fun id hi=>(k.h id (Nat.lt_of_lt_of_le hi h.nx)).trans (h.h id hi),Nat.le_trans h.nx k.nx⟩
theorem Sub.set{A S:AS}(h:Sub A S)(id:Nat)(o:dp)(hi:A.nx<=id)(n:Nat)(hn:S.nx<=n):Sub A ⟨S.h.set id o,n⟩:=
 ⟨fun i cR=>by show (S.h.set id o).get i=_;rw[ah _ _ (by omega)];exact h.h i cR,Nat.le_trans h.nx hn⟩
theorem below_of{w w':World}{ρ':bf}{S':AS}(h:Kp (fun _ _=>none) ⟨.leaf,0⟩ w ρ' S' w'):Below w.heap.size w w':=
 ⟨h.os,h.tape,h.output,h.size,fun k hk=>h.fM k hk (by rintro⟨i,o,g,pl,ho,_⟩;cases ho)⟩
end Go.Am
