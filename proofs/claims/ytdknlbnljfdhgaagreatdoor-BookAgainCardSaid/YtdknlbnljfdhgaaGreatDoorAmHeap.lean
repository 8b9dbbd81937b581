/-
  The abstract machine: memory, as rules for simp.
-/
import Derived.Test.YtdknlbnljfdhgaaGreatDoorAmStill
noncomputable section
namespace Go.Am
open Go
set_option linter.unusedVariables false
set_option linter.unusedSimpArgs false
section
variable{cx:Cx}{ops:List Oper}{F:Fr}{S:AS}
variable{dst:Option Tmp}{ty:TypeId}{pos:String}{af:Array Edge}{g:Option (Nat×Bool)}
theorem lenL_lit{α:Type}(l:List α):eG l=l.length:=bJ l
theorem Ft{cs:List AV}:cellsOf (.agg cs)=some cs:=rfl
theorem Fq{k:IntKind}{n:Int}:cellsOf (.int k n)=some [.int k n]:=rfl
theorem Ci{b:Bool}:cellsOf (.bool b)=some [.bool b]:=rfl
theorem Fm{s:List Nat}:cellsOf (.str s)=some [.str s]:=rfl
theorem y9{t:TypeId}{v:AV}:cellsOf (.iface t v)=some [.iface t v]:=rfl
theorem xO:cellsOf .bH=some [.bH]:=rfl
theorem Cd:cellsOf .aq=some [.aq]:=rfl
theorem Ce:cellsOf .bM=some [.bM]:=rfl
theorem Fo{a b c d:Nat}:cellsOf (.ptr a b c d)=some [.ptr a b c d]:=rfl
theorem y8{a b c d e f:Nat}{h:Option Nat}:cellsOf (.slice a b c d e f h)=some [.slice a b c d e f h]:=rfl
def boxV(id:Nat)(t:TypeId)(cs:Option (List AV)):Option (AV×dr):=match cs with|some cs=>some (.ptr id 0 0 cs.length,.row cs 0 0 false t)|none=>none
theorem boxV_some{id:Nat}{t:TypeId}{cs:List AV}:boxV id t (some cs)=some (.ptr id 0 0 cs.length,.row cs 0 0 false t):=rfl
theorem freshV_box{id:Nat}{t:TypeId}{x:Operand}:aA cx F id (.box t x)=boxV id t (cellsOf (eval F x)):=by
 unfold aA boxV;simp only[bJ];cases cellsOf (eval F x)<;>rfl
def allocV(id:Nat)(e:TypeId)(z:Option AV):Option (AV×dr):=match z with|some z=>boxV id e (cellsOf z)|none=>none
theorem FV{id:Nat}{e:TypeId}{z:AV}:allocV id e (some z)=boxV id e (cellsOf z):=rfl
theorem B2{id:Nat}{e:TypeId}:aA cx F id (.alloc e)=allocV id e (zeroOf cx e):=by
 unfold aA allocV boxV;simp only[bJ];cases zeroOf cx e with
 |none=>rfl
 |some z=>simp only[];cases cellsOf z<;>rfl
def rdO(o:Option dr)(gn off n lim:Nat):Option (List AV):=match o with
 |some (.row cells low top _ _)=>if low<=gn/\gn<=top/\off+n<=lim then some ((cells.drop off).take n) else none
 |_=>none
theorem bt{cells:List AV}{low top gn off n lim:Nat}{frz:Bool}{e:TypeId}:rdO (some (.row cells low top frz e)) gn off n lim=if low<=gn/\gn<=top/\off+n<=lim then some ((cells.drop off).take n) else none:=rfl
theorem dJ{id gn off n lim:Nat}:rd S id gn off n lim=rdO (S.h.get id) gn off n lim:=by
 unfold rd rdO;cases S.h.get id with
 |none=>rfl
 |some o=>
  cases o with
  |map es c=>rfl
  |jk x=>rfl
  |row cells low top frz e=>
   simp only[cH,show Nat.add off n=off+n from rfl,ct,ca];by_cases h1:low<=gn<;>by_cases h2:gn<=top<;>by_cases h3:off+n<=lim<;>simp[h1,h2,h3]
def wrO(S:AS)(id:Nat)(o:Option dr)(gn off lim:Nat)(new:List AV):Option AS:=match o with
 |some (.row cells _ top frz e)=>if gn=top/\off+new.length<=lim/\frz=false then some ⟨S.h.set id (.row (cT off cells new) top top false e),S.next⟩ else none
 |_=>none
theorem gk{id:Nat}{cells new:List AV}{low top gn off lim:Nat}{frz:Bool}{e:TypeId}:wrO S id (some (.row cells low top frz e)) gn off lim new=if gn=top/\off+new.length<=lim/\frz=false then some ⟨S.h.set id (.row (cT off cells new) top top false e),S.next⟩ else none:=rfl
theorem mA{id gn off lim:Nat}{new:List AV}:wr S id gn off lim new=wrO S id (S.h.get id) gn off lim new:=by
 unfold wr wrO;cases S.h.get id with
 |none=>rfl
 |some o=>
  cases o with
  |map es c=>rfl
  |jk x=>rfl
  |row cells low top frz e=>
   simp only[bF,cH,bJ,show Nat.add off new.length=off+new.length from rfl];by_cases h1:gn=top<;>by_cases h2:off+new.length<=lim<;>cases frz<;>simp[h1,h2]
theorem wg{off:Nat}{cells new:List AV}(h:off<=cells.length):cT off cells new=cells.take off++new++cells.drop (off+new.length):=gm off cells new h
def loadT(cx:Cx)(S:AS)(t:TypeId)(v:AV):Option AV:=match v with | .ptr a b c d=>oh cx S t (.ptr a b c d)|_=>none
theorem gy{t:TypeId}{a b c d:Nat}:loadT cx S t (.ptr a b c d)=oh cx S t (.ptr a b c d):=rfl
theorem FT{t:TypeId}{x:Tmp}{v u:AV}(hx:sl F x=v)(h:loadT cx S t v=some u):bj cx F S ⟨dst,.load t (.tmp x),ty,pos,af,g⟩=.val u S:=by
 unfold loadT at h;split at h
 .exact aop_load ((aJ F x).trans hx) h
 .cases h
def fieldAt(cx:Cx)(s:TypeId)(f:Nat):Option Nat:=match bC cx s with
 |some (.struct fs)=>match fs[f]? with
  |some fd=>match aE cx fd.type with
   |some (_+1)=>some fd.offset
   |_=>none
  |none=>none
 |_=>none
def fV(v:AV)(o:Option Nat):Option AV:=match v,o with | .ptr id gn off lim,some o=>some (.ptr id gn (off+o) lim)|_,_=>none
theorem fieldP_ptr{id gn off lim o:Nat}:fV (.ptr id gn off lim) (some o)=some (.ptr id gn (off+o) lim):=rfl
theorem Cz{s:TypeId}{x:Tmp}{f:Nat}{v u:AV}(hx:sl F x=v)(h:fV v (fieldAt cx s f)=some u):bj cx F S ⟨dst,.fieldAddr s (.tmp x) f,ty,pos,af,g⟩=.val u S:=by
 unfold fV at h;split at h
 .rename_i id gn off lim o ho;cases h;unfold fieldAt at ho;split at ho
  .rename_i fs hu;split at ho
   .rename_i fd hf;split at ho
    .rename_i z hz;cases ho;exact zp ((aJ F x).trans hx) hu hf hz
    .cases ho
   .cases ho
  .cases ho
 .cases h
def B5(cx:Cx)(s:TypeId)(f:Nat)(cs:List AV):Option AV:=match bC cx s with
 |some (.struct fs)=>match fs[f]? with
  |some fd=>partOf cx fd.type cs fd.offset
  |none=>none
 |_=>none
def fieldV(cx:Cx)(s:TypeId)(f:Nat)(v:AV):Option AV:=match v with | .agg cs=>B5 cx s f cs|_=>none
theorem fieldV_agg{s:TypeId}{f:Nat}{cs:List AV}:fieldV cx s f (.agg cs)=B5 cx s f cs:=rfl
theorem Cy{s:TypeId}{x:Tmp}{f:Nat}{v u:AV}(hx:sl F x=v)(h:fieldV cx s f v=some u):bj cx F S ⟨dst,.field s (.tmp x) f,ty,pos,af,g⟩=.val u S:=by
 unfold fieldV at h;split at h
 .rename_i cs;unfold B5 at h;split at h
  .rename_i fs hu;split at h
   .rename_i fd hf;rw[aop_field ((aJ F x).trans hx) hu hf,h];rfl
   .cases h
  .cases h
 .cases h
def AM(S:AS)(v:AV)(cs:List AV):Option AS:=match v with | .ptr id gn off lim=>wr S id gn off lim cs|_=>none
theorem gh{id gn off lim:Nat}{cs:List AV}:AM S (.ptr id gn off lim) cs=wr S id gn off lim cs:=rfl
theorem Cu{t:TypeId}{x:Tmp}{y:Operand}{v:AV}{n:Nat}{cs:List AV}{S':AS}(hx:sl F x=v)(hy:cellsOf (eval F y)=some cs)(hs:aE cx t=some n)(hl:cs.length=n)
  (hw:AM S v cs=some S'):bj cx F S ⟨dst,.store t (.tmp x) y,ty,pos,af,g⟩=.val .undef S':=by
 unfold AM at hw;split at hw
 .exact aop_store ((aJ F x).trans hx) hy hs hl hw
 .cases hw
def vm(cx:Cx)(t:TypeId):Bool:=match bC cx t with|none=>false|some (.interface _)=>false|some _=>true
theorem zj{t:TypeId}{x:Operand}(h:vm cx t=true):bj cx F S ⟨dst,.makeInterface t x,ty,pos,af,g⟩=.val (.iface t (eval F x)) S:=by
 unfold vm at h;cases hu:bC cx t with
 |none=>rw[hu]at h;cases h
 |some d=>
  rw[hu]at h;refine FP hu ?_;cases d<;>first|rfl|cases h
theorem assert_yes{t:TypeId}{v:AV}(h:vm cx t=true):jM cx (.iface t v) t true=some (.tuple [v,.bool true]):=by
 unfold vm at h;unfold jM;split
 .rename_i hu;rw[hu]at h;cases h
 .rename_i hu;rw[hu]at h;cases h
 .simp[bF]
theorem assert_no{t u:TypeId}{v z:AV}(h:vm cx t=true)(cS:(u==t)=false)(hz:zeroOf cx t=some z):jM cx (.iface u v) t true=some (.tuple [z,.bool false]):=by
 unfold vm at h;unfold jM;split
 .rename_i hu;rw[hu]at h;cases h
 .rename_i hu;rw[hu]at h;cases h
 .have:¬u=t:=by simpa using cS
  simp[bF,this,hz]
theorem assert_nil{t:TypeId}{z:AV}(h:vm cx t=true)(hz:zeroOf cx t=some z):jM cx .bH t true=some (.tuple [z,.bool false]):=by
 unfold vm at h;unfold jM;split
 .rename_i hu;rw[hu]at h;cases h
 .rename_i hu;rw[hu]at h;cases h
 .simp[hz]
def nthT(v:AV)(i:Nat):Option AV:=match v with | .tuple vs=>vs[i]?|_=>none
theorem nthT_tuple{vs:List AV}{i:Nat}:nthT (.tuple vs) i=vs[i]?:=rfl
theorem xZ{x:Tmp}{i:Nat}{v u:AV}(hx:sl F x=v)(h:nthT v i=some u):bj cx F S ⟨dst,.extract (.tmp x) i,ty,pos,af,g⟩=.val u S:=by
 unfold nthT at h;split at h
 .simp only[pR,aJ,hx,iw,h];rfl
 .cases h
theorem Cq{op:BinOp}{t:TypeId}{c:Bool}{a b:List Nat}:aS cx op t c (.str a) (.str b)=zd op a b:=by unfold aS;rfl
theorem binS_lss{a b:List Nat}:zd .lss a b=some (.bool (ltS a b)):=rfl
theorem binS_gtr{a b:List Nat}:zd .gtr a b=some (.bool (ltS b a)):=rfl
theorem binS_eql{a b:List Nat}:zd .eql a b=some (.bool (re a b)):=rfl
theorem binS_neq{a b:List Nat}:zd .neq a b=some (.bool (!re a b)):=rfl
theorem FI{t:TypeId}{c:Bool}{a b:List AV}{r:Bool}(h:Aq cx t c (.agg a) (.agg b)=some r):aS cx .eql t c (.agg a) (.agg b)=some (.bool r):=by
 simp only[aS,h]
theorem un_neg{k:IntKind}{n:Int}:unV .neg (.int k n)=some (.int k (k.wrap (0-n))):=by
 show some (mkI k (Int.sub 0 n))=_;rw[iy];rfl
theorem callV_ext{f:FuncId}{x:Xf}{first captured as:List AV}(h:cx.exts.get f=some x):ot cx S (.func (.func f) first captured) as=dN (extM x S (first++(as++captured))) 101:=by
 simp only[ot,h,bz]
theorem min_two{ts:List TypeId}{k:IntKind}{a b:Int}:bg cx S .min ts [.int k a,.int k b]=.val (.int k (if b<a then b else a)) S:=by
 show val? (bif ej k k then foldI (fun n m=>!ltI m n) k (bif !ltI b a then a else b) [] else none) S 10=_;rw[eA,lC];by_cases h:b<a<;>simp[h,foldI,val?]
def soleL(o:Option (List AV)):Option AV:=match o with|some [v]=>some v|_=>none
theorem soleL_one{v:AV}:soleL (some [v])=some v:=rfl
def aggL(o:Option (List AV)):Option AV:=match o with|some cs=>some (.agg cs)|none=>none
theorem AF{cs:List AV}:aggL (some cs)=some (.agg cs):=rfl
def loadK(S:AS)(a:Option Bool)(z:Option Nat)(id gn off lim:Nat):Option AV:=match a,z with
 |some true,some n=>aggL (rdO (S.h.get id) gn off n lim)
 |some false,_=>soleL (rdO (S.h.get id) gn off 1 lim)
 |_,_=>none
theorem qk{id gn off lim n:Nat}:loadK S (some true) (some n) id gn off lim=aggL (rdO (S.h.get id) gn off n lim):=rfl
theorem kT{id gn off lim:Nat}{z:Option Nat}:loadK S (some false) z id gn off lim=soleL (rdO (S.h.get id) gn off 1 lim):=by cases z<;>rfl
theorem iW{t:TypeId}{id gn off lim:Nat}:oh cx S t (.ptr id gn off lim)=loadK S (aG cx t) (aE cx t) id gn off lim:=by
 unfold oh loadK;cases aG cx t with
 |none=>rfl
 |some b=>
  cases b with
  |true=>
   cases aE cx t with
   |none=>rfl
   |some n=>
    simp only[dJ,aggL];cases rdO (S.h.get id) gn off n lim<;>rfl
  |false=>
   simp only[dJ,soleL];cases aE cx t<;>rfl
def EZ(place:Nat->Option (Nat×Nat)):List (Nat×AV)->List AV->Option (List AV)
 |[],cells=>some cells
 |p::l,cells=>match place p.1,cellsOf p.2 with
  |some (off,size),some new=>cond (Nat.beq (eG new) size&&Nat.ble (Nat.add off size) (eG cells)) (EZ place l (cT off cells new)) none
  |_,_=>none
theorem uY{pl:Nat->Option (Nat×Nat)}:∀(parts:List (Nat×Operand))(cells:List AV),fe cx F pl parts cells=EZ pl (parts.map fun p=>(p.1,eval F p.2)) cells
 |[],_=>rfl
 |p::l,cells=>by
  show (match pl p.1,cellsOf (eval F p.2)with
   |some (off,size),some new=>cond (Nat.beq (eG new) size&&Nat.ble (Nat.add off size) (eG cells)) (fe cx F pl l (cT off cells new)) none
   |_,_=>none)=_
  simp only[List.map_cons,EZ,uY l]
def cU(cx:Cx)(t:TypeId)(parts:List (Nat×AV)):Option AV:=
 match zeroOf cx t with
 |none=>none
 |some z=>match cellsOf z,bC cx t with
  |some zero,some (.struct fs)=>match nF cx fs.toList with
   |some ps=>match EZ (fun i=>nth i ps) parts zero with
    |some cells=>some (.agg cells)
    |none=>none
   |none=>none
  |some zero,some (.array _ e)=>match aE cx e with
   |some sz=>match EZ (fun i=>some (Nat.mul i sz,sz)) parts zero with
    |some cells=>some (.agg cells)
    |none=>none
   |none=>none
  |_,_=>none
theorem buildV_A{t:TypeId}{parts:List (Nat×Operand)}:nR cx F t parts=cU cx t (parts.map fun p=>(p.1,eval F p.2)):=by
 unfold nR cU;simp only[uY];rfl
theorem okV_bool{b:Bool}:qR (.bool b)=true:=rfl
theorem okV_int{k:IntKind}{n:Int}:qR (.int k n)=true:=rfl
theorem okV_str{s:List Nat}:qR (.str s)=true:=rfl
theorem okV_nilp:qR .bM=true:=rfl
theorem okV_ptr{a b c d:Nat}:qR (.ptr a b c d)=true:=rfl
theorem okV_nils:qR .aq=true:=rfl
theorem okV_slice{a b c d e f:Nat}{h:Option Nat}:qR (.slice a b c d e f h)=true:=rfl
theorem okV_nilm:qR .jl=true:=rfl
theorem okV_map{a:Nat}:qR (.map a)=true:=rfl
theorem okV_nilf:qR .kM=true:=rfl
theorem okV_niface:qR .bH=true:=rfl
theorem okV_iface{t:TypeId}{v:AV}:qR (.iface t v)=jr v:=rfl
theorem okV_agg{l:List AV}:qR (.agg l)=jj l:=rfl
theorem okV_tuple{l:List AV}:qR (.tuple l)=jj l:=rfl
theorem nx2(n:Nat):n+1+1=n+2:=rfl
theorem nx3(n:Nat):n+2+1=n+3:=rfl
theorem nx4(n:Nat):n+3+1=n+4:=rfl
theorem nx5(n:Nat):n+4+1=n+5:=rfl
theorem nx6(n:Nat):n+5+1=n+6:=rfl
end
attribute [-simp] pR
attribute [simp] min_two nx2 nx3 nx4 nx5 nx6 buildV_A iW qk kT AF soleL_one lenL_lit Ft Fq Ci Fm y9 xO Cd Ce Fo y8 boxV_some freshV_box FV B2 vO
 dJ bt mA gk wg gy FT fieldP_ptr Cz fieldV_agg Cy gh Cu nthT_tuple xZ zj assert_yes assert_no assert_nil Cq binS_lss binS_gtr binS_eql binS_neq un_neg callV_ext  stillP_nil Dp skont_app okV_undef okV_bool okV_int okV_str okV_nilp okV_ptr okV_nils okV_slice okV_nilm okV_map okV_nilf okV_niface okV_iface okV_agg okV_tuple jr jj
end Go.Am
end
