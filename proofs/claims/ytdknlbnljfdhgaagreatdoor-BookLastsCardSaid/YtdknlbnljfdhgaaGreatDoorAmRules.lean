/-
  The abstract machine: its operations one by one, as rules for simp.
-/
import Derived.Test.YtdknlbnljfdhgaaGreatDoorAmLogic
import Derived.IntWalk
open Option.some renaming injEq->zza
open Array renaming getElem?_toList->zzb
namespace Go.Am
open Go
section
variable{cx:Cx}{ops:List Oper}{o:Oper}{l:List Oper}{F:Fr}{S:AS}{Q:Fr->AS->Prop}{K:AV->AS->Prop}
theorem SY:uQ cx ops [] F S Q=Q F S:=rfl
def jhR(cx:Cx)(ops l:List Oper)(F:Fr)(d:Option Nat)(Q:Fr->AS->Prop)(v:AV)(S':AS):Prop:=uQ cx ops l (up F d v) S' Q
theorem Uq{d:Option Nat}{v:AV}{S':AS}:jhR cx ops l F d Q v S'=uQ cx ops l (up F d v) S' Q:=rfl
theorem Pe:uQ cx ops (o::l) F S Q=fG cx ops o F S (jhR cx ops l F o.dst Q):=rfl
theorem JG{dst:Option Tmp}{op:Op}{ty:TypeId}{pos:String}{af:Array Edge}:fG cx ops ⟨dst,op,ty,pos,af,none⟩ F S K=iV cx (bF cx F S ⟨dst,op,ty,pos,af,none⟩) K:=by
 simp[fG,bj]
theorem qG{dst:Option Tmp}{op:Op}{ty:TypeId}{pos:String}{af:Array Edge}{j:Nat}{w:Bool}:fG cx ops ⟨dst,op,ty,pos,af,some (j,w)⟩ F S K =
  (match bj ops F (some (j,w))with
   |some b=>(b=true->iV cx (bF cx F S ⟨dst,op,ty,pos,af,some (j,w)⟩) K)/\(b=false->K .undef S)
   |none=>False):=rfl
def ff:List Oper->Nat->Option Nat
 |[],_=>none
 |o::_,0=>o.dst
 |_::l,n+1=>ff l n
theorem Gs{o:Oper}{l:List Oper}:ff (o::l) 0=o.dst:=rfl
theorem Gt{o:Oper}{l:List Oper}{n:Nat}:ff (o::l) (n+1)=ff l n:=rfl
theorem kz:∀(l:List Oper)(j d:Nat),ff l j=some d->∃p,l[j]?=some p/\p.dst=some d
 |[],_,_,h=>by cases h
 |o::l,0,d,h=>⟨o,rfl,h⟩
 |o::l,n+1,d,h=>by simpa using kz l n d h
theorem fA{j d:Nat}{w b:Bool}(h1:ff ops j=some d)(h2:sl F d=.bool b):bj ops F (some (j,w))=some (cond w b (!b)):=by
 obtain⟨p,e1,e2⟩:=kz ops j d h1;simp[bj,e1,e2,h2]
theorem Ox{dst:Option Tmp}{op:Op}{ty:TypeId}{pos:String}{af:Array Edge}{j d:Nat}{w b:Bool}(h1:ff ops j=some d)(h2:sl F d=.bool b)(h3:(b==w)=true):
  fG cx ops ⟨dst,op,ty,pos,af,some (j,w)⟩ F S K=iV cx (bF cx F S ⟨dst,op,ty,pos,af,some (j,w)⟩) K:=by
 have hw:=fA (w:=w) h1 h2;obtain rfl:b=w:=by simpa using h3
 rw[qG,hw];cases b<;>simp
theorem JF{dst:Option Tmp}{op:Op}{ty:TypeId}{pos:String}{af:Array Edge}{j d:Nat}{w b:Bool}(h1:ff ops j=some d)(h2:sl F d=.bool b)(h3:(b == !w)=true):
  fG cx ops ⟨dst,op,ty,pos,af,some (j,w)⟩ F S K=K .undef S:=by
 have hw:=fA (w:=w) h1 h2;obtain rfl:b=!w:=by simpa using h3
 rw[qG,hw];cases w<;>simp
theorem Gj{dst:Option Tmp}{op:Op}{ty:TypeId}{pos:String}{af:Array Edge}{j d:Nat}{w:Bool}(h1:ff ops j=some d)(h2:sl F d=.undef):
  fG cx ops ⟨dst,op,ty,pos,af,some (j,w)⟩ F S K=K .undef S:=by
 obtain⟨p,e1,e2⟩:=kz ops j d h1;have hw:bj ops F (some (j,w))=some false:=by simp[bj,e1,e2,h2,AV.undef]
 rw[qG,hw];simp
theorem Sm{v:AV}{S':AS}:iV cx (.val v S') K=K v S':=rfl
theorem JS{f:FuncId}{as:List AV}{S':AS}:iV cx (.enter f as S') K=ah cx f as S' K:=rfl
theorem Sn{n:Nat}:iV cx (.err n) K=False:=rfl
variable{dst:Option Tmp}{ty:TypeId}{pos:String}{af:Array Edge}{g:Option (Nat×Bool)}
theorem WM{x:Operand}:bF cx F S ⟨dst,.move x,ty,pos,af,g⟩=.val (eval F x) S:=rfl
theorem LD{x:Operand}:bF cx F S ⟨dst,.assign x,ty,pos,af,g⟩=.val (eval F x) S:=rfl
def SQ(c a b:AV)(S:AS):AR:=match c with | .bool true=>.val a S | .bool false=>.val b S|_=>.err 20
theorem WL{c a b:Operand}:bF cx F S ⟨dst,.pick c a b,ty,pos,af,g⟩=SQ (eval F c) (eval F a) (eval F b) S:=rfl
theorem Kc{a b:AV}:SQ (.bool true) a b S=.val a S:=rfl
theorem GZ{a b:AV}:SQ (.bool false) a b S=.val b S:=rfl
theorem jaM{op:BinOp}{t u:TypeId}{x y:Operand}:bF cx F S ⟨dst,.binOp op t x y u,ty,pos,af,g⟩=val? (aZ cx op t ((x matches .const _)||(y matches .const _)) (eval F x) (eval F y)) S 40:=rfl
theorem jfq{op:UnOp}{t:TypeId}{x:Operand}:bF cx F S ⟨dst,.unOp op t x,ty,pos,af,g⟩=val? (unV op (eval F x)) S 41:=rfl
theorem Om{v:AV}{n:Nat}:val? (some v) S n=.val v S:=rfl
theorem Jt{v:AV}{S':AS}{n:Nat}:ey (some (v,S')) n=.val v S':=rfl
theorem rM{x:Operand}{i:Nat}:bF cx F S ⟨dst,.extract x i,ty,pos,af,g⟩=(match eval F x with | .tuple vs=>val? (nth i vs) S 82|_=>.err 83):=rfl
theorem WQ{f:Operand}{as:Array Operand}{nN:Array TypeId}:bF cx F S ⟨dst,.call ⟨.value f,as,nN⟩,ty,pos,af,g⟩=qm cx S (eval F f) (args F as):=rfl
theorem IP{b:Builtin}{as:Array Operand}{nN:Array TypeId}:bF cx F S ⟨dst,.call ⟨.builtin b,as,nN⟩,ty,pos,af,g⟩=bh cx S b nN.toList (args F as):=rfl
theorem yJ{as:Array Operand}:args F as=as.toList.map (eval F):=by unfold args;rw[iw]
theorem Lt{f:FuncId}{first captured as:List AV}(h:cx.exts.get f=none):qm cx S (.func (.func f) first captured) as=.enter f (first++(as++captured)) S:=by
 simp only[qm,h,bJ]
theorem Q6{e:TypeId}:bF cx F S ⟨dst,.alloc e,ty,pos,af,g⟩=iL (aD cx F S.nx (.alloc e)) S 21:=rfl
theorem jaL{t:TypeId}{x:Operand}:bF cx F S ⟨dst,.box t x,ty,pos,af,g⟩=iL (aD cx F S.nx (.box t x)) S 23:=rfl
theorem Q5{t:TypeId}{ps:Array (Nat×Operand)}:bF cx F S ⟨dst,.build t ps,ty,pos,af,g⟩=val? (qb cx F t ps.toList) S 24:=rfl
theorem A8{t:TypeId}{n:Nat}{ps:Array (Nat×Operand)}:bF cx F S ⟨dst,.buildSlice t n ps,ty,pos,af,g⟩=iL (aD cx F S.nx (.buildSlice t n ps)) S 25:=rfl
theorem IM{t:TypeId}{r:Option Operand}:bF cx F S ⟨dst,.makeMap t r,ty,pos,af,g⟩=iL (aD cx F S.nx (.makeMap t r)) S 48:=rfl
theorem B9{t:TypeId}{a b:Operand}:bF cx F S ⟨dst,.makeSlice t a b,ty,pos,af,g⟩=iL (aD cx F S.nx (.makeSlice t a b)) S 49:=rfl
theorem HH{v:AV}{o:dR}{n:Nat}:iL (some (v,o)) S n=.val v ⟨S.h.set S.nx o,S.nx+1⟩:=rfl
theorem Fa{fn:Fn}{a b:Array Operand}:bF cx F S ⟨dst,.makeFunc fn a b,ty,pos,af,g⟩=.val (.func fn (args F a) (args F b)) S:=rfl
theorem LC{t:TypeId}{x i:Operand}{ok:Bool}:bF cx F S ⟨dst,.lookup t x i ok,ty,pos,af,g⟩=val? (lY cx S t (eval F x) (eval F i) ok) S 71:=rfl
theorem B8{t:TypeId}{m k v:Operand}:bF cx F S ⟨dst,.mapUpdate t m k v,ty,pos,af,g⟩=ey (ph cx S t (eval F m) (eval F k) (eval F v)) 78:=rfl
theorem LG{x:Operand}{t u:TypeId}{ok:Bool}:bF cx F S ⟨dst,.typeAssert x t u ok,ty,pos,af,g⟩=val? (kU cx (eval F x) u ok) S 85:=rfl
theorem QW{t:TypeId}{x:Operand}{a b c:Option Operand}:bF cx F S ⟨dst,.slice t x a b c,ty,pos,af,g⟩=val? (dT cx F t (eval F x) a b c) S 53:=rfl
theorem WN{t:TypeId}{x:Operand}{id gn off lim:Nat}{v:AV}(hx:eval F x=.ptr id gn off lim)(h:qj cx S t (.ptr id gn off lim)=some v):bF cx F S ⟨dst,.load t x,ty,pos,af,g⟩=.val v S:=by
 unfold qj at h;simp only[bF,hx];simp only at h;cases ha:aN cx t with
 |none=>simp[ha]at h
 |some b=>
  cases b with
  |true=>
   simp only[ha]at h⊢;cases hs:aG cx t with
   |none=>simp[hs]at h
   |some n=>
    simp only[hs]at h⊢;cases hr:rd S id gn off n lim with
    |none=>simp[hr]at h
    |some cs=>simp only[hr,zza]at h⊢;rw[h]
  |false=>
   simp only[ha]at h⊢;split at h
   .rename_i u hr;simp only[zza]at h;subst h;rw[hr]
   .cases h
theorem QU{t:TypeId}{x y:Operand}{id gn off lim n:Nat}{cs:List AV}{S':AS}(hx:eval F x=.ptr id gn off lim)(hy:cellsOf (eval F y)=some cs)(hs:aG cx t=some n)(hl:cs.length=n)
  (hw:wr S id gn off lim cs=some S'):bF cx F S ⟨dst,.store t x y,ty,pos,af,g⟩=.val .undef S':=by
 simp only[bF,hx,hy,hs,hw,bO,bX,hl,decide_true,cond_true]
theorem wY{x:Operand}{i gn o l:Nat}(hx:eval F x=.ptr i gn o l):bF cx F S ⟨dst,.nilCheck x,ty,pos,af,g⟩=.val (.ptr i gn o l) S:=by simp only[bF,hx]
theorem vy{x:Operand}{f:FuncId}{a b:List AV}(hx:eval F x=.func (.func f) a b):bF cx F S ⟨dst,.nilCheck x,ty,pos,af,g⟩=.val (.func (.func f) a b) S:=by simp only[bF,hx]
theorem IK{t:TypeId}{x:Operand}{d:TypeDesc}(h:bN cx t=some d)(hn:(match d with | .interface _=>false|_=>true)=true):bF cx F S ⟨dst,.makeInterface t x,ty,pos,af,g⟩=.val (.iface t (eval F x)) S:=by
 simp only[bF,h];cases d<;>first|rfl|cases hn
theorem Cc{s:TypeId}{x:Operand}{f id gn off lim z:Nat}{fs:Array Field}{fd:Field}(hx:eval F x=.ptr id gn off lim)(hu:bN cx s=some (.struct fs))(hf:fs[f]?=some fd)(hz:aG cx fd.type=some (z+1)):
  bF cx F S ⟨dst,.fieldAddr s x f,ty,pos,af,g⟩=.val (.ptr id gn (off+fd.offset) lim) S:=by
 have Es:nth f fs.toList=some fd:=by rw[ji,zzb];exact hf
 simp only[bF,hu,hx,Es,hz,aQ];rfl
theorem QZ{t:TypeId}{x:Operand}{f:Nat}{cs:List AV}{fs:Array Field}{fd:Field}(hx:eval F x=.agg cs)(hu:bN cx t=some (.struct fs))(hf:fs[f]?=some fd):
  bF cx F S ⟨dst,.field t x f,ty,pos,af,g⟩=val? (partOf cx fd.type cs fd.offset) S 57:=by
 have Es:nth f fs.toList=some fd:=by rw[ji,zzb];exact hf
 simp only[bF,hu,hx,Es]
theorem tn{t e:TypeId}{x ix:Operand}{id gn off len lim z i:Nat}{cap:Option Nat}{k:IntKind}{n:Int}(hx:eval F x=.slice id gn off len lim z cap)(hu:bN cx t=some (.slice e))(hz:aG cx e=some z)
  (hi:eval F ix=.int k n) (hn:n=(i:Int)) (hl:i<len):bF cx F S ⟨dst,.indexAddr t x ix,ty,pos,af,g⟩=.val (.ptr id gn (off+i*z) lim) S:=by
 subst hn;simp only[bF,hu,hx,hi,fH,hz,bO,iJ,hl,decide_true,Bool.and_self,cond_true,aQ];rfl
theorem Ff{s d:TypeId}{x:Operand}{k j:IntKind}{n:Int}{e:TypeDesc}(hs:bN cx s=some e)(hd:bN cx d=some (.int k))(hx:eval F x=.int j n):bF cx F S ⟨dst,.convert s d x,ty,pos,af,g⟩=.val (.int k (k.wrap n)) S:=by
 simp only[bF,hs,hd,hx,jj]
theorem PL{t:TypeId}{ts:List TypeId}{e:TypeId}{as:List AV}{id gn off len lim z:Nat}{cap:Option Nat}(hu:bN cx t=some (.slice e)):bh cx S .len (t::ts) (.slice id gn off len lim z cap::as)=.val (.int .i64 len) S:=by
 simp only[bh,KG,hu,aQ];rfl
theorem Ul{t:TypeId}{ts:List TypeId}{e:TypeId}{as:List AV}(hu:bN cx t=some (.slice e)):bh cx S .len (t::ts) (.ar::as)=.val (.int .i64 0) S:=by
 simp only[bh,KG,hu,aQ];rfl
theorem cW{t:TypeId}{ts:List TypeId}{as:List AV}{s:List Nat}(hu:bN cx t=some .string):bh cx S .len (t::ts) (.str s::as)=.val (.int .i64 s.length) S:=by
 simp only[bh,KG,hu,aQ];rfl
variable{t:TypeId}{c:Bool}{k:IntKind}{a b:Int}
theorem jaE:aZ cx .add t c (.int k a) (.int k b)=some (.int k (k.wrap (a+b))):=by simp[aZ,dn,qw,jj]
theorem jau:aZ cx .sub t c (.int k a) (.int k b)=some (.int k (k.wrap (a-b))):=by simp[aZ,dn,qw,jj];rfl
theorem jay:aZ cx .mul t c (.int k a) (.int k b)=some (.int k (k.wrap (a*b))):=by simp[aZ,dn,qw,jj]
theorem jav(h:b≠0):aZ cx .quo t c (.int k a) (.int k b)=some (.int k (k.wrap (a.tdiv b))):=by
 have:Bs b 0=false:=by rw[gz];simpa using h
 simp[aZ,dn,qw,jj,this]
theorem vu(h:b≠0):aZ cx .rem t c (.int k a) (.int k b)=some (.int k (a.tmod b)):=by
 have:Bs b 0=false:=by rw[gz];simpa using h
 simp[aZ,dn,qw,dM,this]
theorem jaD:aZ cx .eql t c (.int k a) (.int k b)=some (.bool (decide (a=b))):=by simp[aZ,dn,qw,gz]
theorem jax:aZ cx .neq t c (.int k a) (.int k b)=some (.bool (!decide (a=b))):=by simp[aZ,dn,qw,gz]
theorem jaz:aZ cx .lss t c (.int k a) (.int k b)=some (.bool (decide (a<b))):=by simp[aZ,dn,qw,mL]
theorem jaA:aZ cx .leq t c (.int k a) (.int k b)=some (.bool (decide (a<=b))):=by
 simp only[aZ,dn,qw,mL,decide_true,cond_true,zza,AV.bool.injEq];by_cases h:a<=b<;>simp[h]<;>omega
theorem jaB:aZ cx .gtr t c (.int k a) (.int k b)=some (.bool (decide (b<a))):=by simp[aZ,dn,qw,mL]
theorem jaC:aZ cx .geq t c (.int k a) (.int k b)=some (.bool (decide (b<=a))):=by
 simp only[aZ,dn,qw,mL,decide_true,cond_true,zza,AV.bool.injEq];by_cases h:b<=a<;>simp[h]<;>omega
theorem E7{x y:Bool}(h:bN cx t=some .bool):aZ cx .eql t c (.bool x) (.bool y)=some (.bool (x==y)):=by
 have e:vj cx 6 t (.bool x) (.bool y)=some (x==y):=by
  show (match bN cx t with|none=>none|some d=>jo cx (vj cx 5) t d (.bool x) (.bool y))=_;rw[h];rfl
 simp[aZ,C5,tI,e]
theorem E6{x y:Bool}(h:bN cx t=some .bool):aZ cx .neq t c (.bool x) (.bool y)=some (.bool (!(x==y))):=by
 have e:vj cx 6 t (.bool x) (.bool y)=some (x==y):=by
  show (match bN cx t with|none=>none|some d=>jo cx (vj cx 5) t d (.bool x) (.bool y))=_;rw[h];rfl
 simp[aZ,C5,tI,e]
theorem jcj{x:Bool}:unV .not (.bool x)=some (.bool (!x)):=rfl
end
theorem OR{cx:Cx}{r:AR}{K K':AV->AS->Prop}(h:iV cx r K)(k:∀v S',K v S'->K' v S'):iV cx r K':=by
 unfold iV at h⊢;cases r with
 |val v S'=>exact k _ _ h
 |enter f as S'=>exact h.mono k
 |err n=>exact h
 |round f as S'=>exact h
 |eO v S'=>exact h
 |many l=>exact h
theorem pq{cx:Cx}{ops:List Oper}{o:Oper}{F:Fr}{S:AS}{K K':AV->AS->Prop}(h:fG cx ops o F S K)(k:∀v S',K v S'->K' v S'):fG cx ops o F S K':=by
 unfold fG at h⊢;cases hw:bj ops F o.guard with
 |none=>rw[hw]at h;exact h
 |some b=>rw[hw]at h;exact⟨fun hb=>OR (h.1 hb) k,fun hb=>k _ _ (h.2 hb)⟩
theorem CA{cx:Cx}{ops:List Oper}{Q Q':Fr->AS->Prop}:∀{l:List Oper}{F:Fr}{S:AS},uQ cx ops l F S Q->(∀F' S',Q F' S'->Q' F' S')->uQ cx ops l F S Q'
 |[],_,_,h,k=>k _ _ h
 |_::_,_,_,h,k=>pq h fun _ _ h'=>CA h' k
section
variable{cx:Cx}{F:Fr}{S:AS}{Q:Ex->Fr->AS->Prop}
end
def agree:List Nat->Fr->Fr->Prop
 |[],_,_=>True
 |t::l,F,G=>sl F t=sl G t/\agree l F G
theorem Q8(F G:Fr):agree [] F G=True:=rfl
theorem LI(t:Nat)(l:List Nat)(F G:Fr):agree (t::l) F G=(sl F t=sl G t/\agree l F G):=rfl
theorem Od{cx:Cx}{c:Code}{F F':Fr}{S S':AS}{Q:Ex->Fr->AS->Prop}(h1:F=F')(h2:S=S'):mc cx c F S Q=mc cx c F' S' Q:=by rw[h1,h2]
theorem EK{cx:Cx}{ops:List Oper}{F F':Fr}{S S':AS}{Q:Fr->AS->Prop}(h1:F=F')(h2:S=S'):lL cx ops F S Q=lL cx ops F' S' Q:=by rw[h1,h2]
theorem IZ{cx:Cx}{b:Code}{F F':Fr}{S S':AS}{Q:Ex->Fr->AS->Prop}(h1:F=F')(h2:S=S'):rR cx b F S Q=rR cx b F' S' Q:=by rw[h1,h2]
theorem Ih{x x':AV}{A B:Prop}(h:x=x'):iH x A B=iH x' A B:=by rw[h]
section
variable{cx:Cx}{F:Fr}{S:AS}{Q:Ex->Fr->AS->Prop}
theorem RD:mc cx .skip F S Q=Q .normal F S:=rfl
theorem XC:mc cx .ret F S Q=Q .ret F S:=rfl
theorem RG{id:Nat}:mc cx (.exit id) F S Q=Q (.exit id) F S:=rfl
theorem Jn{id:Nat}{l:List Oper}:mc cx (.region id l.toArray false) F S Q=uQ cx l l F S (Q .normal):=rfl
theorem Oc{id:Nat}{l:List Oper}:mc cx (.region id l.toArray true) F S Q=lL cx l F S (Q .normal):=rfl
def jbE(cx:Cx)(b:Code)(Q:Ex->Fr->AS->Prop)(F':Fr)(S':AS):Prop:=mc cx b F' S' Q
theorem iA{b:Code}{F':Fr}{S':AS}:jbE cx b Q F' S'=mc cx b F' S' Q:=rfl
theorem pg{a b:Code}:mc cx (.seq a b) F S Q=mc cx a F S (ke (jbE cx b Q) Q):=rfl
theorem cz{x:Operand}{a b:Code}:mc cx (.cond x a b) F S Q=iH (eval F x) (mc cx a F S Q) (mc cx b F S Q):=rfl
theorem Oa{b:Code}:mc cx (.scope b) F S Q=mc cx b F S (qJ Q):=rfl
theorem Ob{l:Nat}:mc cx (.label l) F S Q=Q .normal F S:=rfl
theorem mb{id:Nat}{b:Code}:mc cx (.block id b) F S Q=mc cx b F S (jZ id Q):=rfl
theorem RF{b:Code}:mc cx (.loop b) F S Q=rR cx b F S Q:=rfl
theorem tY{A B:Prop}:iH (.bool true) A B=A:=by simp[iH]
theorem rD{A B:Prop}:iH (.bool false) A B=B:=by simp[iH]
theorem QK{fn:Func}{K:AV->AS->Prop}:AU cx fn K .ret F S=HY (lD cx F S fn.results.toList |>.map fun vs=>match vs with|[v]=>v|vs=>.tuple vs) S K:=rfl
theorem E2{fn:Func}{K:AV->AS->Prop}:AU cx fn K .normal F S=HY (lD cx F S fn.results.toList |>.map fun vs=>match vs with|[v]=>v|vs=>.tuple vs) S K:=rfl
theorem Qo{v:AV}{K:AV->AS->Prop}:HY (some v) S K=(bL v=false/\K v S):=rfl
theorem TV  : bL (.undef:AV)=false:=rfl
theorem YU{b:Bool}:bL (.bool b)=false:=rfl
theorem jdr{k:IntKind}{n:Int}:bL (.int k n)=false:=rfl
theorem jdn{l:List Nat}:bL (.str l)=false:=rfl
theorem YP  : bL .ck=false:=rfl
theorem jdo{a b c d:Nat}:bL (.ptr a b c d)=false:=rfl
theorem YS{a b:Nat}:bL (.wH a b)=false:=rfl
theorem YO  : bL .ar=false:=rfl
theorem TX{a b c d e f:Nat}{g:Option Nat}:bL (.slice a b c d e f g)=false:=rfl
theorem YQ  : bL .j8=false:=rfl
theorem jdq{a:Nat}:bL (.map a)=false:=rfl
theorem YT{f:Fn}{a b:List AV}:bL (.func f a b)=false:=rfl
theorem YR  : bL .eQ=false:=rfl
theorem Pu  : bL .bR=false:=rfl
theorem TZ{t:TypeId}{v:AV}:bL (.iface t v)=false:=rfl
theorem jds{l:List AV}:bL (.agg l)=false:=rfl
theorem TW{l:List AV}:bL (.tuple l)=false:=rfl
theorem jdp{o:OK}{i:Nat}:bL (.obj o i)=false:=rfl
theorem Sv:lD cx F S []=some []:=rfl
theorem Su{t:Nat}{l:List ResultVar}:lD cx F S (.tmp t::l)=(lD cx F S l).map (sl F t :: ·):=by
 show pE cx F S (.tmp t) (lD cx F S l)=_;cases lD cx F S l with
 |none=>rfl
 |some vs=>simp only[pE,aI,Option.map_some]
theorem OZ{t:Nat}{ty:TypeId}{l:List ResultVar}:lD cx F S (.cell t ty::l)=(lD cx F S l).bind fun vs=>(qj cx S ty (sl F t)).map (· :: vs):=by
 show pE cx F S (.cell t ty) (lD cx F S l)=_;cases lD cx F S l with
 |none=>rfl
 |some vs=>
  simp only[pE,aI,Option.bind_some];cases qj cx S ty (sl F t)<;>rfl
end
theorem I5{cx:Cx}{f:FuncId}{as as':List AV}{S S':AS}{Q:AV->AS->Prop}(h1:as=as')(h2:S=S'):ah cx f as S Q=ah cx f as' S' Q:=by rw[h1,h2]
theorem Dt{R:Fr->AS->Prop}{Q:Ex->Fr->AS->Prop}{F:Fr}{S:AS}:ke R Q .normal F S=R F S:=rfl
theorem Jz{R:Fr->AS->Prop}{Q:Ex->Fr->AS->Prop}{F:Fr}{S:AS}{i:Nat}:ke R Q (.exit i) F S=Q (.exit i) F S:=rfl
theorem Ou{R:Fr->AS->Prop}{Q:Ex->Fr->AS->Prop}{F:Fr}{S:AS}:ke R Q .ret F S=Q .ret F S:=rfl
theorem BB{Q:Ex->Fr->AS->Prop}{F:Fr}{S:AS}:qJ Q .normal F S=Q .normal F S:=rfl
theorem JP{Q:Ex->Fr->AS->Prop}{F:Fr}{S:AS}:qJ Q .ret F S=Q .ret F S:=rfl
theorem Gz{Q:Ex->Fr->AS->Prop}{F:Fr}{S:AS}{i:Nat}:qJ Q (.exit i) F S=Q (.exit i) F S:=rfl
theorem B1{id:Nat}{Q:Ex->Fr->AS->Prop}{F:Fr}{S:AS}:jZ id Q .normal F S=Q .normal F S:=rfl
theorem Lx{id:Nat}{Q:Ex->Fr->AS->Prop}{F:Fr}{S:AS}:jZ id Q .ret F S=Q .ret F S:=rfl
theorem IC{id j:Nat}{Q:Ex->Fr->AS->Prop}{F:Fr}{S:AS}:jZ id Q (.exit j) F S=if j=id then Q .normal F S else Q (.exit j) F S:=rfl
theorem YM{α:Type}(n:Nat)(l:List α):nth n l=l[n]?:=ji n l
theorem Ki{cx:Cx}{ops l:List Oper}{F F':Fr}{S S':AS}{Q:Fr->AS->Prop}(h1:F=F')(h2:S=S'):uQ cx ops l F S Q=uQ cx ops l F' S' Q:=by rw[h1,h2]
theorem Gk{cx:Cx}{ops:List Oper}{o:Oper}{F F':Fr}{S S':AS}{K:AV->AS->Prop}(h1:F=F')(h2:S=S'):fG cx ops o F S K=fG cx ops o F' S' K:=by rw[h1,h2]
theorem JT{cx:Cx}{r r':AR}{K:AV->AS->Prop}(h1:r=r'):iV cx r K=iV cx r' K:=by rw[h1]
theorem FP{ops:List Oper}{F F':Fr}{g:Option (Nat×Bool)}(h:F=F'):bj ops F g=bj ops F' g:=by rw[h]
theorem Dx{ops:List Oper}{n m:Nat}(h:n=m):ff ops n=ff ops m:=by rw[h]
attribute [congr] FP Dx Od EK IZ Ih I5 Ki Gk JT
attribute [simp] Uq iA Q8 LI RD XC RG Jn Oc pg cz mb Oa Ob BB JP Gz RF tY rD QK E2 Qo Sv Su OZ mT TV YU jdr jdn YP jdo YS YO TX YQ jdq YT YR Pu TZ jds TW jdp
 jfV XG nc aI eval_const eval_func eval_global TM DR Kn TJ TI TK TL Ko
 SY Pe JG Ox JF Gj Gs Gt Sm JS Sn WM LD WL Kc GZ jaM jfq Om Jt rM
 WQ IP yJ Lt Q6 jaL Q5 A8 IM B9 HH Fa LC B8 LG QW
 jaE jau jay jaD jax jaz jaA jaB jaC jav vu E7 E6 jcj Dt Jz Ou B1 Lx IC YM
end Go.Am
namespace Go.Am
open Go Go.RowKit
structure Sub(S T:AS):Prop where
 h:∀id,id<S.nx->T.h.get id=S.h.get id
 nx:S.nx<=T.nx
theorem Sub.refl(S:AS):Sub S S:=⟨fun _ _=>rfl,Nat.le_refl _⟩
theorem Sub.trans{A B C:AS}(h:Sub A B)(k:Sub B C):Sub A C:=⟨fun id hi=>(k.h id (Nat.lt_of_lt_of_le hi h.nx)).trans (h.h id hi),Nat.le_trans h.nx k.nx⟩
theorem Sub.set{A S:AS}(h:Sub A S)(id:Nat)(o:dR)(hi:A.nx<=id)(n:Nat)(hn:S.nx<=n):Sub A ⟨S.h.set id o,n⟩:=
 ⟨fun i cQ=>by show (S.h.set id o).get i=_;rw[ae _ _ (by omega)];exact h.h i cQ,Nat.le_trans h.nx hn⟩
theorem R.drop{Λ:LB}{ρ:aY}{S T:AS}{w:World}(h:R Λ ρ T w)(hs:Sub S T)(hd:∀id o,S.h.get id=some o->id<S.nx)
  (ho:∀id o,S.h.get id=some o->xe (fun i g=>if i<S.nx then ρ i g else none) w id o):R Λ (fun i g=>if i<S.nx then ρ i g else none) S w:=by
 have hT:∀id o,S.h.get id=some o->T.h.get id=some o:=fun id o hi=>by rw[hs.h id (hd id o hi)];exact hi
 refine⟨ho,hd,fun id g hi=>by simp only[if_neg (Nat.not_lt.2 hi)],fun id c l t f ty hi g hg=>?_,fun id o g pl hi hp=>?_,fun i j o oj g gj pl Rj sj hi hj hp yC=>?_,h.start,fun b hb=>?_⟩
 .simp only[if_pos (hd id _ hi)];exact h.sJ id c l t f ty (hT id _ hi) g hg
 .simp only[if_pos (hd id _ hi)]at hp;exact h.lt id o g pl (hT id _ hi) hp
 .simp only[if_pos (hd i _ hi)]at hp;simp only[if_pos (hd j _ hj)]at yC;exact h.apart i j o oj g gj pl Rj sj (hT i _ hi) (hT j _ hj) hp yC
 .obtain⟨d1,d2,d3⟩:=h.base b hb;refine⟨d1,d2,?_⟩;rintro⟨i,o,g,pl,hi,hz,hp,rfl⟩;simp only[if_pos (hd i _ hi)]at hp;exact d3 ⟨i,o,g,pl,hT i _ hi,hz,hp,rfl⟩
theorem Cu{Λ:LB}{P:Program}{A:Ask}(hr:xM P A)(hp:∀x,x∈A.ei->gg Λ P x.1 x.2)(hg:∀x,x∈A.lS->uj Λ.w Λ.B x.1 x.2){f:FuncId}{q:List AV->AS->Option (AV×AS)}(n:Nat)
  (h:∀as S v S',q as S=some (v,S')->S'=S/\Au n v=true/\ah (xS P A) f as S fun v' T=>v'=v/\Sub S T):gg Λ P f q:=by
 intro ρ as S w args v S' hR hl hq;obtain⟨rfl,hf,hc⟩:=h as S v S' hq;obtain⟨k1,k2⟩:=Ir hr hp hg hR hl hc;refine⟨k1,k2.mono ?_⟩;rintro e w' ⟨x,v',T,ρ',rfl,h1,⟨rfl,h2⟩,h3,h4⟩;have hx:Ext ρ (fun i g=>if i<S'.nx then ρ' i g else none):=by
  intro i g pl kS;have hi:i<S'.nx:=by
   rcases Nat.lt_or_ge i S'.nx with hh|hh
   .exact hh
   .rw[hR.fresh i g hh]at kS;cases kS
  simp only[if_pos hi];exact h4.ext i g pl kS
 have hO:∀id o,S'.h.get id=some o->xe (fun i g=>if i<S'.nx then ρ' i g else none) w' id o:=by
  intro id o ho;have hT:T.h.get id=some o:=by rw[h2.h id (hR.vm id o ho)];exact ho
  exact xe.restrict hx h4.ext (fun g=>by simp only[if_pos (hR.vm id o ho)]) (hR.jE id o ho) (h3.jE id o hT)
 refine⟨x,_,rfl,VR n v' x ρ' _ hf h1,h3.drop h2 hR.vm hO,⟨hx,h4.os,h4.tape,h4.output,h4.size,h4.ca,fun b hb=>?_,fun b hb=>?_,Nat.le_refl _,fun id g hi hn=>⟨by simp only[if_pos hi];exact (h4.tG id g hi hn).1,hn⟩⟩⟩
 .obtain⟨i,o,g,pl,hi,lB,rfl⟩:=hb;simp only[if_pos (hR.vm i o hi)]at lB;exact h4.D8 _ ⟨i,o,g,pl,by rw[h2.h i (hR.vm i o hi)];exact hi,lB,rfl⟩
 .obtain⟨i,o,g,pl,hi,hz,lB,rfl⟩:=hb;simp only[if_pos (hR.vm i o hi)]at lB;exact h4.wrt _ ⟨i,o,g,pl,by rw[h2.h i (hR.vm i o hi)];exact hi,hz,lB,rfl⟩
end Go.Am
