/-
  The abstract machine: memory, as rules for simp.
-/
import Derived.Test.YthklfandhmkpiaaGreatDoorAmStill
set_option linter.unusedSimpArgs false
noncomputable section
namespace Go.Am
open Go
section
variable{cx:Cx}{ops:List Oper}{F:Fr}{S:AS}
variable{dst:Option Tmp}{ty:TypeId}{pos:String}{af:Array Edge}{g:Option (Nat×Bool)}
theorem lenL_lit{α:Type}(l:List α):dN l=l.length:=bL l
theorem Ef{cs:List AV}:cellsOf (.agg cs)=some cs:=rfl
theorem Ee{k:IntKind}{n:Int}:cellsOf (.int k n)=some [.int k n]:=rfl
theorem Bs{b:Bool}:cellsOf (.bool b)=some [.bool b]:=rfl
theorem Eb{s:List Nat}:cellsOf (.str s)=some [.str s]:=rfl
theorem xK{t:TypeId}{v:AV}:cellsOf (.iface t v)=some [.iface t v]:=rfl
theorem v5:cellsOf .bS=some [.bS]:=rfl
theorem Bn:cellsOf .ar=some [.ar]:=rfl
theorem Bo:cellsOf .cT=some [.cT]:=rfl
theorem Ec{a b c d:Nat}:cellsOf (.ptr a b c d)=some [.ptr a b c d]:=rfl
theorem xJ{a b c d e f:Nat}{h:Option Nat}:cellsOf (.slice a b c d e f h)=some [.slice a b c d e f h]:=rfl
def boxV(id:Nat)(t:TypeId)(cs:Option (List AV)):Option (AV×dp):=match cs with|some cs=>some (.ptr id 0 0 cs.length,.row cs 0 0 false t)|none=>none
theorem boxV_some{id:Nat}{t:TypeId}{cs:List AV}:boxV id t (some cs)=some (.ptr id 0 0 cs.length,.row cs 0 0 false t):=rfl
theorem freshV_box{id:Nat}{t:TypeId}{x:Operand}:aO cx F id (.box t x)=boxV id t (cellsOf (eval F x)):=by
 unfold aO boxV;simp only[bL];cases cellsOf (eval F x)<;>rfl
def allocV(id:Nat)(e:TypeId)(z:Option AV):Option (AV×dp):=match z with|some z=>boxV id e (cellsOf z)|none=>none
theorem EF{id:Nat}{e:TypeId}{z:AV}:allocV id e (some z)=boxV id e (cellsOf z):=rfl
theorem A4{id:Nat}{e:TypeId}:aO cx F id (.alloc e)=allocV id e (zeroOf cx e):=by
 unfold aO allocV boxV;simp only[bL];cases zeroOf cx e with
 |none=>rfl
 |some z=>simp only[];cases cellsOf z<;>rfl
def rdO(o:Option dp)(gn off n aM:Nat):Option (List AV):=match o with
 |some (.row cells low top _ _)=>if low<=gn/\gn<=top/\off+n<=aM then some ((cells.drop off).take n) else none
 |_=>none
theorem cr{cells:List AV}{low top gn off n aM:Nat}{frz:Bool}{e:TypeId}:rdO (some (.row cells low top frz e)) gn off n aM=if low<=gn/\gn<=top/\off+n<=aM then some ((cells.drop off).take n) else none:=rfl
theorem dP{id gn off n aM:Nat}:rd S id gn off n aM=rdO (S.h.get id) gn off n aM:=by
 unfold rd rdO;cases S.h.get id with
 |none=>rfl
 |some o=>
  cases o with
  |map es c=>rfl
  |nR x=>rfl
  |row cells low top frz e=>
   simp only[cG,show Nat.add off n=off+n from rfl,cK,cY];by_cases h1:low<=gn<;>by_cases h2:gn<=top<;>by_cases h3:off+n<=aM<;>simp[h1,h2,h3]
def wrO(S:AS)(id:Nat)(o:Option dp)(gn off aM:Nat)(new:List AV):Option AS:=match o with
 |some (.row cells _ top frz e)=>if gn=top/\off+new.length<=aM/\frz=false then some ⟨S.h.set id (.row (ec off cells new) top top false e),S.nx⟩ else none
 |_=>none
theorem zT{id:Nat}{cells new:List AV}{low top gn off aM:Nat}{frz:Bool}{e:TypeId}:wrO S id (some (.row cells low top frz e)) gn off aM new=if gn=top/\off+new.length<=aM/\frz=false then some ⟨S.h.set id (.row (ec off cells new) top top false e),S.nx⟩ else none:=rfl
theorem wr_at{id gn off aM:Nat}{new:List AV}:wr S id gn off aM new=wrO S id (S.h.get id) gn off aM new:=by
 unfold wr wrO;cases S.h.get id with
 |none=>rfl
 |some o=>
  cases o with
  |map es c=>rfl
  |nR x=>rfl
  |row cells low top frz e=>
   simp only[bC,cG,bL,show Nat.add off new.length=off+new.length from rfl];by_cases h1:gn=top<;>by_cases h2:off+new.length<=aM<;>cases frz<;>simp[h1,h2]
theorem pZ{off:Nat}{cells new:List AV}(h:off<=cells.length):ec off cells new=cells.take off++new++cells.drop (off+new.length):=iG off cells new h
def loadT(cx:Cx)(S:AS)(t:TypeId)(v:AV):Option AV:=match v with | .ptr a b c d=>nD cx S t (.ptr a b c d)|_=>none
theorem oW{t:TypeId}{a b c d:Nat}:loadT cx S t (.ptr a b c d)=nD cx S t (.ptr a b c d):=rfl
theorem EC{t:TypeId}{x:Tmp}{v u:AV}(hx:sl F x=v)(h:loadT cx S t v=some u):bE cx F S ⟨dst,.load t (.tmp x),ty,pos,af,g⟩=.val u S:=by
 unfold loadT at h;split at h
 .exact aop_load ((aA F x).trans hx) h
 .cases h
def fieldAt(cx:Cx)(s:TypeId)(f:Nat):Option Nat:=match bJ cx s with
 |some (.struct fs)=>match fs[f]? with
  |some fd=>match aH cx fd.type with
   |some (_+1)=>some fd.offset
   |_=>none
  |none=>none
 |_=>none
def nk(v:AV)(o:Option Nat):Option AV:=match v,o with | .ptr id gn off aM,some o=>some (.ptr id gn (off+o) aM)|_,_=>none
theorem fieldP_ptr{id gn off aM o:Nat}:nk (.ptr id gn off aM) (some o)=some (.ptr id gn (off+o) aM):=rfl
theorem BF{s:TypeId}{x:Tmp}{f:Nat}{v u:AV}(hx:sl F x=v)(h:nk v (fieldAt cx s f)=some u):bE cx F S ⟨dst,.fieldAddr s (.tmp x) f,ty,pos,af,g⟩=.val u S:=by
 unfold nk at h;split at h
 .rename_i id gn off aM o ho;cases h;unfold fieldAt at ho;split at ho
  .rename_i fs hu;split at ho
   .rename_i fd hf;split at ho
    .rename_i z hz;cases ho;exact xX ((aA F x).trans hx) hu hf hz
    .cases ho
   .cases ho
  .cases ho
 .cases h
def A7(cx:Cx)(s:TypeId)(f:Nat)(cs:List AV):Option AV:=match bJ cx s with
 |some (.struct fs)=>match fs[f]? with
  |some fd=>partOf cx fd.type cs fd.offset
  |none=>none
 |_=>none
def fieldV(cx:Cx)(s:TypeId)(f:Nat)(v:AV):Option AV:=match v with | .agg cs=>A7 cx s f cs|_=>none
theorem fieldV_agg{s:TypeId}{f:Nat}{cs:List AV}:fieldV cx s f (.agg cs)=A7 cx s f cs:=rfl
theorem BE{s:TypeId}{x:Tmp}{f:Nat}{v u:AV}(hx:sl F x=v)(h:fieldV cx s f v=some u):bE cx F S ⟨dst,.field s (.tmp x) f,ty,pos,af,g⟩=.val u S:=by
 unfold fieldV at h;split at h
 .rename_i cs;unfold A7 at h;split at h
  .rename_i fs hu;split at h
   .rename_i fd hf;rw[aop_field ((aA F x).trans hx) hu hf,h];rfl
   .cases h
  .cases h
 .cases h
def wrV(S:AS)(v:AV)(cs:List AV):Option AS:=match v with | .ptr id gn off aM=>wr S id gn off aM cs|_=>none
theorem zS{id gn off aM:Nat}{cs:List AV}:wrV S (.ptr id gn off aM) cs=wr S id gn off aM cs:=rfl
theorem nw{t:TypeId}{x:Tmp}{y:Operand}{v:AV}{n:Nat}{cs:List AV}{S':AS}(hx:sl F x=v)(hy:cellsOf (eval F y)=some cs)(hs:aH cx t=some n)(hl:cs.length=n)
  (hw:wrV S v cs=some S'):bE cx F S ⟨dst,.store t (.tmp x) y,ty,pos,af,g⟩=.val .undef S':=by
 unfold wrV at hw;split at hw
 .exact aop_store ((aA F x).trans hx) hy hs hl hw
 .cases hw
def rA(cx:Cx)(t:TypeId):Bool:=match bJ cx t with|none=>false|some (.interface _)=>false|some _=>true
theorem xS{t:TypeId}{x:Operand}(h:rA cx t=true):bE cx F S ⟨dst,.makeInterface t x,ty,pos,af,g⟩=.val (.iface t (eval F x)) S:=by
 unfold rA at h;cases hu:bJ cx t with
 |none=>rw[hu]at h;cases h
 |some d=>
  rw[hu]at h;refine Ez hu ?_;cases d<;>first|rfl|cases h
theorem assert_yes{t:TypeId}{v:AV}(h:rA cx t=true):iu cx (.iface t v) t true=some (.tuple [v,.bool true]):=by
 unfold rA at h;unfold iu;split
 .rename_i hu;rw[hu]at h;cases h
 .rename_i hu;rw[hu]at h;cases h
 .simp[bC]
theorem assert_no{t u:TypeId}{v z:AV}(h:rA cx t=true)(cl:(u==t)=false)(hz:zeroOf cx t=some z):iu cx (.iface u v) t true=some (.tuple [z,.bool false]):=by
 unfold rA at h;unfold iu;split
 .rename_i hu;rw[hu]at h;cases h
 .rename_i hu;rw[hu]at h;cases h
 .have:¬u=t:=by simpa using cl
  simp[bC,this,hz]
theorem assert_nil{t:TypeId}{z:AV}(h:rA cx t=true)(hz:zeroOf cx t=some z):iu cx .bS t true=some (.tuple [z,.bool false]):=by
 unfold rA at h;unfold iu;split
 .rename_i hu;rw[hu]at h;cases h
 .rename_i hu;rw[hu]at h;cases h
 .simp[hz]
def nthT(v:AV)(i:Nat):Option AV:=match v with | .tuple vs=>vs[i]?|_=>none
theorem nthT_tuple{vs:List AV}{i:Nat}:nthT (.tuple vs) i=vs[i]?:=rfl
theorem wz{x:Tmp}{i:Nat}{v u:AV}(hx:sl F x=v)(h:nthT v i=some u):bE cx F S ⟨dst,.extract (.tmp x) i,ty,pos,af,g⟩=.val u S:=by
 unfold nthT at h;split at h
 .simp only[oM,aA,hx,gq,h];rfl
 .cases h
theorem jM{op:BinOp}{t:TypeId}{c:Bool}{a b:List Nat}:bI cx op t c (.str a) (.str b)=wh op a b:=by unfold bI;rfl
theorem binS_lss{a b:List Nat}:wh .lss a b=some (.bool (nK a b)):=rfl
theorem binS_gtr{a b:List Nat}:wh .gtr a b=some (.bool (nK b a)):=rfl
theorem binS_eql{a b:List Nat}:wh .eql a b=some (.bool (ph a b)):=rfl
theorem binS_neq{a b:List Nat}:wh .neq a b=some (.bool (!ph a b)):=rfl
theorem oJ{t:TypeId}{c:Bool}{a b:List AV}{r:Bool}(h:qh cx t c (.agg a) (.agg b)=some r):bI cx .eql t c (.agg a) (.agg b)=some (.bool r):=by
 simp only[bI,h]
theorem un_neg{k:IntKind}{n:Int}:unV .neg (.int k n)=some (.int k (k.wrap (0-n))):=by
 show some (mkI k (Int.sub 0 n))=_;rw[iM];rfl
theorem callV_ext{f:FuncId}{x:Xf}{first captured as:List AV}(h:cx.exts.get f=some x):nF cx S (.func (.func f) first captured) as=dO (extM x S (first++(as++captured))) 101:=by
 simp only[nF,h,cA]
theorem ext_cmp{a b:List Nat}:extM .kr S [.str a,.str b]=some (cond (nK a b) (.int .i64 (-1)) (cond (ph a b) (.int .i64 0) (.int .i64 1)),S):=rfl
theorem min_two{ts:List TypeId}{k:IntKind}{a b:Int}:aY cx S .min ts [.int k a,.int k b]=.val (.int k (if b<a then b else a)) S:=by
 show val? (bif iO k k then foldI (fun n m=>!ltI m n) k (bif !ltI b a then a else b) [] else none) S 10=_;rw[oX,kf];by_cases h:b<a<;>simp[h,foldI,val?]
def soleL(o:Option (List AV)):Option AV:=match o with|some [v]=>some v|_=>none
theorem soleL_one{v:AV}:soleL (some [v])=some v:=rfl
def aggL(o:Option (List AV)):Option AV:=match o with|some cs=>some (.agg cs)|none=>none
theorem zH{cs:List AV}:aggL (some cs)=some (.agg cs):=rfl
def loadK(S:AS)(a:Option Bool)(z:Option Nat)(id gn off aM:Nat):Option AV:=match a,z with
 |some true,some n=>aggL (rdO (S.h.get id) gn off n aM)
 |some false,_=>soleL (rdO (S.h.get id) gn off 1 aM)
 |_,_=>none
theorem yU{id gn off aM n:Nat}:loadK S (some true) (some n) id gn off aM=aggL (rdO (S.h.get id) gn off n aM):=rfl
theorem sg{id gn off aM:Nat}{z:Option Nat}:loadK S (some false) z id gn off aM=soleL (rdO (S.h.get id) gn off 1 aM):=by cases z<;>rfl
theorem re{t:TypeId}{id gn off aM:Nat}:nD cx S t (.ptr id gn off aM)=loadK S (aX cx t) (aH cx t) id gn off aM:=by
 unfold nD loadK;cases aX cx t with
 |none=>rfl
 |some b=>
  cases b with
  |true=>
   cases aH cx t with
   |none=>rfl
   |some n=>
    simp only[dP,aggL];cases rdO (S.h.get id) gn off n aM<;>rfl
  |false=>
   simp only[dP,soleL];cases aH cx t<;>rfl
def DN(place:Nat->Option (Nat×Nat)):List (Nat×AV)->List AV->Option (List AV)
 |[],cells=>some cells
 |p::l,cells=>match place p.1,cellsOf p.2 with
  |some (off,size),some new=>cond (Nat.beq (dN new) size&&Nat.ble (Nat.add off size) (dN cells)) (DN place l (ec off cells new)) none
  |_,_=>none
theorem tt{pl:Nat->Option (Nat×Nat)}:∀(parts:List (Nat×Operand))(cells:List AV),e9 cx F pl parts cells=DN pl (parts.map fun p=>(p.1,eval F p.2)) cells
 |[],_=>rfl
 |p::l,cells=>by
  show (match pl p.1,cellsOf (eval F p.2)with
   |some (off,size),some new=>cond (Nat.beq (dN new) size&&Nat.ble (Nat.add off size) (dN cells)) (e9 cx F pl l (ec off cells new)) none
   |_,_=>none)=_
  simp only[List.map_cons,DN,tt l]
def eT(cx:Cx)(t:TypeId)(parts:List (Nat×AV)):Option AV:=
 match zeroOf cx t with
 |none=>none
 |some z=>match cellsOf z,bJ cx t with
  |some zero,some (.struct fs)=>match mT cx fs.toList with
   |some ps=>match DN (fun i=>nth i ps) parts zero with
    |some cells=>some (.agg cells)
    |none=>none
   |none=>none
  |some zero,some (.array _ e)=>match aH cx e with
   |some sz=>match DN (fun i=>some (Nat.mul i sz,sz)) parts zero with
    |some cells=>some (.agg cells)
    |none=>none
   |none=>none
  |_,_=>none
theorem buildV_A{t:TypeId}{parts:List (Nat×Operand)}:lF cx F t parts=eT cx t (parts.map fun p=>(p.1,eval F p.2)):=by
 unfold lF eT;simp only[tt];rfl
theorem okV_bool{b:Bool}:qW (.bool b)=true:=rfl
theorem okV_int{k:IntKind}{n:Int}:qW (.int k n)=true:=rfl
theorem okV_str{s:List Nat}:qW (.str s)=true:=rfl
theorem okV_nilp:qW .cT=true:=rfl
theorem okV_ptr{a b c d:Nat}:qW (.ptr a b c d)=true:=rfl
theorem okV_nils:qW .ar=true:=rfl
theorem okV_slice{a b c d e f:Nat}{h:Option Nat}:qW (.slice a b c d e f h)=true:=rfl
theorem okV_nilm:qW .jb=true:=rfl
theorem okV_map{a:Nat}:qW (.map a)=true:=rfl
theorem okV_nilf:qW .kI=true:=rfl
theorem okV_niface:qW .bS=true:=rfl
theorem okV_iface{t:TypeId}{v:AV}:qW (.iface t v)=oK v:=rfl
theorem okV_agg{l:List AV}:qW (.agg l)=fQ l:=rfl
theorem okV_tuple{l:List AV}:qW (.tuple l)=fQ l:=rfl
theorem nx2(n:Nat):n+1+1=n+2:=rfl
theorem nx3(n:Nat):n+2+1=n+3:=rfl
theorem nx4(n:Nat):n+3+1=n+4:=rfl
theorem nx5(n:Nat):n+4+1=n+5:=rfl
theorem nx6(n:Nat):n+5+1=n+6:=rfl
end
attribute [-simp] oM
attribute [simp] min_two nx2 nx3 nx4 nx5 nx6 buildV_A re yU sg zH soleL_one lenL_lit Ef Ee Bs Eb xK v5 Bn Bo Ec xJ boxV_some freshV_box EF A4 uh
 dP cr wr_at zT pZ oW EC fieldP_ptr BF fieldV_agg BE zS nw nthT_tuple wz xS assert_yes assert_no assert_nil jM binS_lss binS_gtr binS_eql binS_neq un_neg callV_ext ext_cmp
 Fj Cg skont_app okV_undef okV_bool okV_int okV_str okV_nilp okV_ptr okV_nils okV_slice okV_nilm okV_map okV_nilf okV_niface okV_iface okV_agg okV_tuple oK fQ
end Go.Am
end
