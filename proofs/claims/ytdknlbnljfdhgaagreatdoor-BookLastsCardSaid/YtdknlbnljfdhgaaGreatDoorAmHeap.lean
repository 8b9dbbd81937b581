/-
  The abstract machine: memory, as rules for simp.
-/
import Derived.Test.YtdknlbnljfdhgaaGreatDoorAmStill
set_option linter.unusedVariables false
set_option linter.unusedSimpArgs false
noncomputable section
namespace Go.Am
open Go
section
variable{cx:Cx}{ops:List Oper}{F:Fr}{S:AS}
variable{dst:Option Tmp}{ty:TypeId}{pos:String}{af:Array Edge}{g:Option (Nat×Bool)}
theorem Un{α:Type}(l:List α):fw l=l.length:=bX l
theorem Io{cs:List AV}:cellsOf (.agg cs)=some cs:=rfl
theorem Im{k:IntKind}{n:Int}:cellsOf (.int k n)=some [.int k n]:=rfl
theorem EW{b:Bool}:cellsOf (.bool b)=some [.bool b]:=rfl
theorem Ij{s:List Nat}:cellsOf (.str s)=some [.str s]:=rfl
theorem BZ{t:TypeId}{v:AV}:cellsOf (.iface t v)=some [.iface t v]:=rfl
theorem AL:cellsOf .bR=some [.bR]:=rfl
theorem EP:cellsOf .ar=some [.ar]:=rfl
theorem ER:cellsOf .ck=some [.ck]:=rfl
theorem Ik{a b c d:Nat}:cellsOf (.ptr a b c d)=some [.ptr a b c d]:=rfl
theorem BY{a b c d e f:Nat}{h:Option Nat}:cellsOf (.slice a b c d e f h)=some [.slice a b c d e f h]:=rfl
def QJ(id:Nat)(t:TypeId)(cs:Option (List AV)):Option (AV×dR):=match cs with|some cs=>some (.ptr id 0 0 cs.length,.row cs 0 0 false t)|none=>none
theorem QI{id:Nat}{t:TypeId}{cs:List AV}:QJ id t (some cs)=some (.ptr id 0 0 cs.length,.row cs 0 0 false t):=rfl
theorem K6{id:Nat}{t:TypeId}{x:Operand}:aD cx F id (.box t x)=QJ id t (cellsOf (eval F x)):=by
 unfold aD QJ;simp only[bX];cases cellsOf (eval F x)<;>rfl
def LH(id:Nat)(e:TypeId)(z:Option AV):Option (AV×dR):=match z with|some z=>QJ id e (cellsOf z)|none=>none
theorem IQ{id:Nat}{e:TypeId}{z:AV}:LH id e (some z)=QJ id e (cellsOf z):=rfl
theorem EC{id:Nat}{e:TypeId}:aD cx F id (.alloc e)=LH id e (zeroOf cx e):=by
 unfold aD LH QJ;simp only[bX];cases zeroOf cx e with
 |none=>rfl
 |some z=>simp only[];cases cellsOf z<;>rfl
def Xb(o:Option dR)(gn off n lim:Nat):Option (List AV):=match o with
 |some (.row cells low top _ _)=>if low<=gn/\gn<=top/\off+n<=lim then some ((cells.drop off).take n) else none
 |_=>none
theorem bB{cells:List AV}{low top gn off n lim:Nat}{frz:Bool}{e:TypeId}:Xb (some (.row cells low top frz e)) gn off n lim=if low<=gn/\gn<=top/\off+n<=lim then some ((cells.drop off).take n) else none:=rfl
theorem dN{id gn off n lim:Nat}:rd S id gn off n lim=Xb (S.h.get id) gn off n lim:=by
 unfold rd Xb;cases S.h.get id with
 |none=>rfl
 |some o=>
  cases o with
  |map es c=>rfl
  |j6 x=>rfl
  |row cells low top frz e=>
   simp only[cY,show Nat.add off n=off+n from rfl,cR,cF];by_cases h1:low<=gn<;>by_cases h2:gn<=top<;>by_cases h3:off+n<=lim<;>simp[h1,h2,h3]
def wrO(S:AS)(id:Nat)(o:Option dR)(gn off lim:Nat)(new:List AV):Option AS:=match o with
 |some (.row cells _ top frz e)=>if gn=top/\off+new.length<=lim/\frz=false then some ⟨S.h.set id (.row (dq off cells new) top top false e),S.nx⟩ else none
 |_=>none
theorem dO{id:Nat}{cells new:List AV}{low top gn off lim:Nat}{frz:Bool}{e:TypeId}:wrO S id (some (.row cells low top frz e)) gn off lim new=if gn=top/\off+new.length<=lim/\frz=false then some ⟨S.h.set id (.row (dq off cells new) top top false e),S.nx⟩ else none:=rfl
theorem iT{id gn off lim:Nat}{new:List AV}:wr S id gn off lim new=wrO S id (S.h.get id) gn off lim new:=by
 unfold wr wrO;cases S.h.get id with
 |none=>rfl
 |some o=>
  cases o with
  |map es c=>rfl
  |j6 x=>rfl
  |row cells low top frz e=>
   simp only[bO,cY,bX,show Nat.add off new.length=off+new.length from rfl];by_cases h1:gn=top<;>by_cases h2:off+new.length<=lim<;>cases frz<;>simp[h1,h2]
theorem za{off:Nat}{cells new:List AV}(h:off<=cells.length):dq off cells new=cells.take off++new++cells.drop (off+new.length):=iu off cells new h
def loadT(cx:Cx)(S:AS)(t:TypeId)(v:AV):Option AV:=match v with | .ptr a b c d=>qj cx S t (.ptr a b c d)|_=>none
theorem jz{t:TypeId}{a b c d:Nat}:loadT cx S t (.ptr a b c d)=qj cx S t (.ptr a b c d):=rfl
theorem IN{t:TypeId}{x:Tmp}{v u:AV}(hx:sl F x=v)(h:loadT cx S t v=some u):bF cx F S ⟨dst,.load t (.tmp x),ty,pos,af,g⟩=.val u S:=by
 unfold loadT at h;split at h
 .exact WN ((aI F x).trans hx) h
 .cases h
def fieldAt(cx:Cx)(s:TypeId)(f:Nat):Option Nat:=match bN cx s with
 |some (.struct fs)=>match fs[f]? with
  |some fd=>match aG cx fd.type with
   |some (_+1)=>some fd.offset
   |_=>none
  |none=>none
 |_=>none
def lJ(v:AV)(o:Option Nat):Option AV:=match v,o with | .ptr id gn off lim,some o=>some (.ptr id gn (off+o) lim)|_,_=>none
theorem Lc{id gn off lim o:Nat}:lJ (.ptr id gn off lim) (some o)=some (.ptr id gn (off+o) lim):=rfl
theorem Fe{s:TypeId}{x:Tmp}{f:Nat}{v u:AV}(hx:sl F x=v)(h:lJ v (fieldAt cx s f)=some u):bF cx F S ⟨dst,.fieldAddr s (.tmp x) f,ty,pos,af,g⟩=.val u S:=by
 unfold lJ at h;split at h
 .rename_i id gn off lim o ho;cases h;unfold fieldAt at ho;split at ho
  .rename_i fs hu;split at ho
   .rename_i fd hf;split at ho
    .rename_i z hz;cases ho;exact Cc ((aI F x).trans hx) hu hf hz
    .cases ho
   .cases ho
  .cases ho
 .cases h
def EG(cx:Cx)(s:TypeId)(f:Nat)(cs:List AV):Option AV:=match bN cx s with
 |some (.struct fs)=>match fs[f]? with
  |some fd=>partOf cx fd.type cs fd.offset
  |none=>none
 |_=>none
def Lb(cx:Cx)(s:TypeId)(f:Nat)(v:AV):Option AV:=match v with | .agg cs=>EG cx s f cs|_=>none
theorem La{s:TypeId}{f:Nat}{cs:List AV}:Lb cx s f (.agg cs)=EG cx s f cs:=rfl
theorem Fc{s:TypeId}{x:Tmp}{f:Nat}{v u:AV}(hx:sl F x=v)(h:Lb cx s f v=some u):bF cx F S ⟨dst,.field s (.tmp x) f,ty,pos,af,g⟩=.val u S:=by
 unfold Lb at h;split at h
 .rename_i cs;unfold EG at h;split at h
  .rename_i fs hu;split at h
   .rename_i fd hf;rw[QZ ((aI F x).trans hx) hu hf,h];rfl
   .cases h
  .cases h
 .cases h
def xQ(S:AS)(v:AV)(cs:List AV):Option AS:=match v with | .ptr id gn off lim=>wr S id gn off lim cs|_=>none
theorem eC{id gn off lim:Nat}{cs:List AV}:xQ S (.ptr id gn off lim) cs=wr S id gn off lim cs:=rfl
theorem E9{t:TypeId}{x:Tmp}{y:Operand}{v:AV}{n:Nat}{cs:List AV}{S':AS}(hx:sl F x=v)(hy:cellsOf (eval F y)=some cs)(hs:aG cx t=some n)(hl:cs.length=n)
  (hw:xQ S v cs=some S'):bF cx F S ⟨dst,.store t (.tmp x) y,ty,pos,af,g⟩=.val .undef S':=by
 unfold xQ at hw;split at hw
 .exact QU ((aI F x).trans hx) hy hs hl hw
 .cases hw
def AJ(cx:Cx)(t:TypeId):Bool:=match bN cx t with|none=>false|some (.interface _)=>false|some _=>true
theorem B7{t:TypeId}{x:Operand}(h:AJ cx t=true):bF cx F S ⟨dst,.makeInterface t x,ty,pos,af,g⟩=.val (.iface t (eval F x)) S:=by
 unfold AJ at h;cases hu:bN cx t with
 |none=>rw[hu]at h;cases h
 |some d=>
  rw[hu]at h;refine IK hu ?_;cases d<;>first|rfl|cases h
theorem Lz{t:TypeId}{v:AV}(h:AJ cx t=true):kU cx (.iface t v) t true=some (.tuple [v,.bool true]):=by
 unfold AJ at h;unfold kU;split
 .rename_i hu;rw[hu]at h;cases h
 .rename_i hu;rw[hu]at h;cases h
 .simp[bO]
theorem QQ{t u:TypeId}{v z:AV}(h:AJ cx t=true)(ct:(u==t)=false)(hz:zeroOf cx t=some z):kU cx (.iface u v) t true=some (.tuple [z,.bool false]):=by
 unfold AJ at h;unfold kU;split
 .rename_i hu;rw[hu]at h;cases h
 .rename_i hu;rw[hu]at h;cases h
 .have:¬u=t:=by simpa using ct
  simp[bO,this,hz]
theorem LA{t:TypeId}{z:AV}(h:AJ cx t=true)(hz:zeroOf cx t=some z):kU cx .bR t true=some (.tuple [z,.bool false]):=by
 unfold AJ at h;unfold kU;split
 .rename_i hu;rw[hu]at h;cases h
 .rename_i hu;rw[hu]at h;cases h
 .simp[hz]
def jdk(v:AV)(i:Nat):Option AV:=match v with | .tuple vs=>vs[i]?|_=>none
theorem Kr{vs:List AV}{i:Nat}:jdk (.tuple vs) i=vs[i]?:=rfl
theorem A7{x:Tmp}{i:Nat}{v u:AV}(hx:sl F x=v)(h:jdk v i=some u):bF cx F S ⟨dst,.extract (.tmp x) i,ty,pos,af,g⟩=.val u S:=by
 unfold jdk at h;split at h
 .simp only[rM,aI,hx,ji,h];rfl
 .cases h
theorem E5{op:BinOp}{t:TypeId}{c:Bool}{a b:List Nat}:aZ cx op t c (.str a) (.str b)=B3 op a b:=by unfold aZ;rfl
theorem Wx{a b:List Nat}:B3 .lss a b=some (.bool (Jb a b)):=rfl
theorem Wy{a b:List Nat}:B3 .gtr a b=some (.bool (Jb b a)):=rfl
theorem Wz{a b:List Nat}:B3 .eql a b=some (.bool (tV a b)):=rfl
theorem Ww{a b:List Nat}:B3 .neq a b=some (.bool (!tV a b)):=rfl
theorem ID{t:TypeId}{c:Bool}{a b:List AV}{r:Bool}(h:C5 cx t c (.agg a) (.agg b)=some r):aZ cx .eql t c (.agg a) (.agg b)=some (.bool r):=by
 simp only[aZ,h]
theorem jck{k:IntKind}{n:Int}:unV .neg (.int k n)=some (.int k (k.wrap (0-n))):=by
 show some (Kw k (Int.sub 0 n))=_;rw[jj];rfl
theorem QG{f:FuncId}{x:Xf}{first captured as:List AV}(h:cx.exts.get f=some x):qm cx S (.func (.func f) first captured) as=ey (Z2 x S (first++(as++captured))) 101:=by
 simp only[qm,h,bJ]
theorem MH{ts:List TypeId}{k:IntKind}{a b:Int}:bh cx S .min ts [.int k a,.int k b]=.val (.int k (if b<a then b else a)) S:=by
 show val? (bif eE k k then foldI (fun n m=>!ML m n) k (bif !ML b a then a else b) [] else none) S 10=_;rw[eu,mL];by_cases h:b<a<;>simp[h,foldI,val?]
def Mh(o:Option (List AV)):Option AV:=match o with|some [v]=>some v|_=>none
theorem OF{v:AV}:Mh (some [v])=some v:=rfl
def WW(o:Option (List AV)):Option AV:=match o with|some cs=>some (.agg cs)|none=>none
theorem Dh{cs:List AV}:WW (some cs)=some (.agg cs):=rfl
def MM(S:AS)(a:Option Bool)(z:Option Nat)(id gn off lim:Nat):Option AV:=match a,z with
 |some true,some n=>WW (Xb (S.h.get id) gn off n lim)
 |some false,_=>Mh (Xb (S.h.get id) gn off 1 lim)
 |_,_=>none
theorem se{id gn off lim n:Nat}:MM S (some true) (some n) id gn off lim=WW (Xb (S.h.get id) gn off n lim):=rfl
theorem oE{id gn off lim:Nat}{z:Option Nat}:MM S (some false) z id gn off lim=Mh (Xb (S.h.get id) gn off 1 lim):=by cases z<;>rfl
theorem ll{t:TypeId}{id gn off lim:Nat}:qj cx S t (.ptr id gn off lim)=MM S (aN cx t) (aG cx t) id gn off lim:=by
 unfold qj MM;cases aN cx t with
 |none=>rfl
 |some b=>
  cases b with
  |true=>
   cases aG cx t with
   |none=>rfl
   |some n=>
    simp only[dN,WW];cases Xb (S.h.get id) gn off n lim<;>rfl
  |false=>
   simp only[dN,Mh];cases aG cx t<;>rfl
def HQ(place:Nat->Option (Nat×Nat)):List (Nat×AV)->List AV->Option (List AV)
 |[],cells=>some cells
 |p::l,cells=>match place p.1,cellsOf p.2 with
  |some (off,size),some new=>cond (Nat.beq (fw new) size&&Nat.ble (Nat.add off size) (fw cells)) (HQ place l (dq off cells new)) none
  |_,_=>none
theorem xB{pl:Nat->Option (Nat×Nat)}:∀(parts:List (Nat×Operand))(cells:List AV),fO cx F pl parts cells=HQ pl (parts.map fun p=>(p.1,eval F p.2)) cells
 |[],_=>rfl
 |p::l,cells=>by
  show (match pl p.1,cellsOf (eval F p.2)with
   |some (off,size),some new=>cond (Nat.beq (fw new) size&&Nat.ble (Nat.add off size) (fw cells)) (fO cx F pl l (dq off cells new)) none
   |_,_=>none)=_
  simp only[List.map_cons,HQ,xB l]
def dr(cx:Cx)(t:TypeId)(parts:List (Nat×AV)):Option AV:=
 match zeroOf cx t with
 |none=>none
 |some z=>match cellsOf z,bN cx t with
  |some zero,some (.struct fs)=>match pJ cx fs.toList with
   |some ps=>match HQ (fun i=>nth i ps) parts zero with
    |some cells=>some (.agg cells)
    |none=>none
   |none=>none
  |some zero,some (.array _ e)=>match aG cx e with
   |some sz=>match HQ (fun i=>some (Nat.mul i sz,sz)) parts zero with
    |some cells=>some (.agg cells)
    |none=>none
   |none=>none
  |_,_=>none
theorem Wo{t:TypeId}{parts:List (Nat×Operand)}:qb cx F t parts=dr cx t (parts.map fun p=>(p.1,eval F p.2)):=by
 unfold qb dr;simp only[xB];rfl
theorem Tp{b:Bool}:sZ (.bool b)=true:=rfl
theorem YF{k:IntKind}{n:Int}:sZ (.int k n)=true:=rfl
theorem YB{s:List Nat}:sZ (.str s)=true:=rfl
theorem Tm:sZ .ck=true:=rfl
theorem YC{a b c d:Nat}:sZ (.ptr a b c d)=true:=rfl
theorem Tl:sZ .ar=true:=rfl
theorem Pp{a b c d e f:Nat}{h:Option Nat}:sZ (.slice a b c d e f h)=true:=rfl
theorem Tn:sZ .j8=true:=rfl
theorem YE{a:Nat}:sZ (.map a)=true:=rfl
theorem To:sZ .eQ=true:=rfl
theorem Km:sZ .bR=true:=rfl
theorem Pq{t:TypeId}{v:AV}:sZ (.iface t v)=kg v:=rfl
theorem YG{l:List AV}:sZ (.agg l)=j5 l:=rfl
theorem Po{l:List AV}:sZ (.tuple l)=j5 l:=rfl
theorem nx2(n:Nat):n+1+1=n+2:=rfl
theorem nx3(n:Nat):n+2+1=n+3:=rfl
theorem nx4(n:Nat):n+3+1=n+4:=rfl
theorem nx5(n:Nat):n+4+1=n+5:=rfl
theorem nx6(n:Nat):n+5+1=n+6:=rfl
end
attribute [-simp] rM
attribute [simp] MH nx2 nx3 nx4 nx5 nx6 Wo ll se oE Dh OF Un Io Im EW Ij BZ AL EP ER Ik BY QI K6 IQ EC yG
 dN bB iT dO za jz IN Lc Fe La Fc eC E9 Kr A7 B7 Lz QQ LA E5 Wx Wy Wz Ww jck QG  JC Gg OG Pn Tp YF YB Tm YC Tl Pp Tn YE To Km Pq YG Po kg j5
end Go.Am
end
