/-
  The abstract machine: memory, as rules for simp.
-/
import Derived.Test.YtgkdgiognhbfjaaGreatDoorAmStill
noncomputable section
namespace Go.Am
open Go
set_option linter.unusedSimpArgs false
section
variable {cx:Cx} {ops:List Oper} {F:Fr} {S:AS}
variable {dst:Option Tmp} {ty:TypeId} {pos:String} {af:Array Edge} {g:Option (Nat×Bool)}
theorem lenL_lit {α:Type} (l:List α):c6 l=l.length:=aS l
theorem DV {cs:List AV}:cellsOf (.agg cs)=some cs:=rfl
theorem DU {k:IntKind} {n:Int}:cellsOf (.int k n)=some [.int k n]:=rfl
theorem Bi {b:Bool}:cellsOf (.bool b)=some [.bool b]:=rfl
theorem DR {s:List Nat}:cellsOf (.str s)=some [.str s]:=rfl
theorem yg {t:TypeId} {v:AV}:cellsOf (.iface t v)=some [.iface t v]:=rfl
theorem xf:cellsOf .bN=some [.bN]:=rfl
theorem Bd:cellsOf .az=some [.az]:=rfl
theorem Be:cellsOf .dr=some [.dr]:=rfl
theorem DS {a b c d:Nat}:cellsOf (.ptr a b c d)=some [.ptr a b c d]:=rfl
theorem yf {a b c d e f:Nat} {h:Option Nat}:cellsOf (.slice a b c d e f h)=some [.slice a b c d e f h]:=rfl
def boxV (id:Nat) (t:TypeId) (cs:Option (List AV)):Option (AV×bu):=match cs with|some cs=>some (.ptr id 0 0 cs.length,.row cs 0 0 false t)|none=>none
theorem boxV_some {id:Nat} {t:TypeId} {cs:List AV}:boxV id t (some cs)=some (.ptr id 0 0 cs.length,.row cs 0 0 false t):=rfl
theorem freshV_box {id:Nat} {t:TypeId} {x:Operand}:al cx F id (.box t x)=boxV id t (cellsOf (eval F x)):=by
 unfold al boxV;simp only[aS];cases cellsOf (eval F x)<;>rfl
def allocV (id:Nat) (e:TypeId) (z:Option AV):Option (AV×bu):=match z with|some z=>boxV id e (cellsOf z)|none=>none
theorem Ed {id:Nat} {e:TypeId} {z:AV}:allocV id e (some z)=boxV id e (cellsOf z):=rfl
theorem AW {id:Nat} {e:TypeId}:al cx F id (.alloc e)=allocV id e (zeroOf cx e):=by
 unfold al allocV boxV;simp only[aS];cases zeroOf cx e with
 | none=>rfl
 | some z=>simp only[];cases cellsOf z<;>rfl
def rdO (o:Option bu) (gn off n aq:Nat):Option (List AV):=match o with
 | some (.row cells low top _ _)=>if low≤gn∧gn≤top∧off+n≤aq then some ((cells.drop off).take n) else none
 | _=>none
theorem bR {cells:List AV} {low top gn off n aq:Nat} {frz:Bool} {e:TypeId}:rdO (some (.row cells low top frz e)) gn off n aq=if low≤gn∧gn≤top∧off+n≤aq then some ((cells.drop off).take n) else none:=rfl
theorem df {id gn off n aq:Nat}:rd S id gn off n aq=rdO (S.h.get id) gn off n aq:=by
 unfold rd rdO;cases S.h.get id with
 | none=>rfl
 | some o=>
  cases o with
  | map es c=>rfl
  | cK x=>rfl
  | row cells low top frz e=>
   simp only[bX,show Nat.add off n=off+n from rfl,cl,cC];by_cases h1:low≤gn<;>by_cases h2:gn≤top<;>by_cases h3:off+n≤aq<;>simp[h1,h2,h3]
def wrO (S:AS) (id:Nat) (o:Option bu) (gn off aq:Nat) (new:List AV):Option AS:=match o with
 | some (.row cells _ top frz e)=>if gn=top∧off+new.length≤aq∧frz=false then some ⟨S.h.set id (.row (cT off cells new) top top false e),S.next⟩ else none
 | _=>none
theorem fm {id:Nat} {cells new:List AV} {low top gn off aq:Nat} {frz:Bool} {e:TypeId}:wrO S id (some (.row cells low top frz e)) gn off aq new=if gn=top∧off+new.length≤aq∧frz=false then some ⟨S.h.set id (.row (cT off cells new) top top false e),S.next⟩ else none:=rfl
theorem kr {id gn off aq:Nat} {new:List AV}:wr S id gn off aq new=wrO S id (S.h.get id) gn off aq new:=by
 unfold wr wrO;cases S.h.get id with
 | none=>rfl
 | some o=>
  cases o with
  | map es c=>rfl
  | cK x=>rfl
  | row cells low top frz e=>
   simp only[aT,bX,aS,show Nat.add off new.length=off+new.length from rfl];by_cases h1:gn=top<;>by_cases h2:off+new.length≤aq<;>cases frz<;>simp[h1,h2]
theorem vp {off:Nat} {cells new:List AV} (h:off≤cells.length):cT off cells new=cells.take off++new++cells.drop (off+new.length):=ej off cells new h
def loadT (cx:Cx) (S:AS) (t:TypeId) (v:AV):Option AV:=match v with | .ptr a b c d=>m9 cx S t (.ptr a b c d)|_=>none
theorem oS {t:TypeId} {a b c d:Nat}:loadT cx S t (.ptr a b c d)=m9 cx S t (.ptr a b c d):=rfl
theorem Ea {t:TypeId} {x:Tmp} {v u:AV} (hx:sl F x=v) (h:loadT cx S t v=some u):bj cx F S ⟨dst,.load t (.tmp x),ty,pos,af,g⟩=.val u S:=by
 unfold loadT at h;split at h
 ·exact aop_load ((aE F x).trans hx) h
 ·cases h
def fieldAt (cx:Cx) (s:TypeId) (f:Nat):Option Nat:=match bm cx s with
 | some (.struct fs)=>match fs[f]? with
  | some fd=>match aD cx fd.type with
   | some (_+1)=>some fd.offset
   | _=>none
  | none=>none
 | _=>none
def eH (v:AV) (o:Option Nat):Option AV:=match v,o with | .ptr id gn off aq,some o=>some (.ptr id gn (off+o) aq)|_,_=>none
theorem fieldP_ptr {id gn off aq o:Nat}:eH (.ptr id gn off aq) (some o)=some (.ptr id gn (off+o) aq):=rfl
theorem Bw {s:TypeId} {x:Tmp} {f:Nat} {v u:AV} (hx:sl F x=v) (h:eH v (fieldAt cx s f)=some u):bj cx F S ⟨dst,.fieldAddr s (.tmp x) f,ty,pos,af,g⟩=.val u S:=by
 unfold eH at h;split at h
 ·rename_i id gn off aq o ho;cases h;unfold fieldAt at ho;split at ho
  ·rename_i fs hu;split at ho
   ·rename_i fd hf;split at ho
    ·rename_i z hz;cases ho;exact yr ((aE F x).trans hx) hu hf hz
    ·cases ho
   ·cases ho
  ·cases ho
 ·cases h
def AZ (cx:Cx) (s:TypeId) (f:Nat) (cs:List AV):Option AV:=match bm cx s with
 | some (.struct fs)=>match fs[f]? with
  | some fd=>partOf cx fd.type cs fd.offset
  | none=>none
 | _=>none
def fieldV (cx:Cx) (s:TypeId) (f:Nat) (v:AV):Option AV:=match v with | .agg cs=>AZ cx s f cs|_=>none
theorem fieldV_agg {s:TypeId} {f:Nat} {cs:List AV}:fieldV cx s f (.agg cs)=AZ cx s f cs:=rfl
theorem Bv {s:TypeId} {x:Tmp} {f:Nat} {v u:AV} (hx:sl F x=v) (h:fieldV cx s f v=some u):bj cx F S ⟨dst,.field s (.tmp x) f,ty,pos,af,g⟩=.val u S:=by
 unfold fieldV at h;split at h
 ·rename_i cs;unfold AZ at h;split at h
  ·rename_i fs hu;split at h
   ·rename_i fd hf;rw[aop_field ((aE F x).trans hx) hu hf,h];rfl
   ·cases h
  ·cases h
 ·cases h
def vc (S:AS) (v:AV) (cs:List AV):Option AS:=match v with | .ptr id gn off aq=>wr S id gn off aq cs|_=>none
theorem fP {id gn off aq:Nat} {cs:List AV}:vc S (.ptr id gn off aq) cs=wr S id gn off aq cs:=rfl
theorem Bs {t:TypeId} {x:Tmp} {y:Operand} {v:AV} {n:Nat} {cs:List AV} {S':AS} (hx:sl F x=v) (hy:cellsOf (eval F y)=some cs) (hs:aD cx t=some n) (hl:cs.length=n)
  (hw:vc S v cs=some S'):bj cx F S ⟨dst,.store t (.tmp x) y,ty,pos,af,g⟩=.val .undef S':=by
 unfold vc at hw;split at hw
 ·exact aop_store ((aE F x).trans hx) hy hs hl hw
 ·cases hw
def DP (cx:Cx) (t:TypeId):Bool:=match bm cx t with|none=>false|some (.interface _)=>false|some _=>true
theorem yl {t:TypeId} {x:Operand} (h:DP cx t=true):bj cx F S ⟨dst,.makeInterface t x,ty,pos,af,g⟩=.val (.iface t (eval F x)) S:=by
 unfold DP at h;cases hu:bm cx t with
 | none=>rw[hu] at h;cases h
 | some d=>
  rw[hu] at h;refine D7 hu ?_;cases d<;>first|rfl|cases h
theorem assert_yes {t:TypeId} {v:AV} (h:DP cx t=true):iw cx (.iface t v) t true=some (.tuple [v,.bool true]):=by
 unfold DP at h;unfold iw;split
 ·rename_i hu;rw[hu] at h;cases h
 ·rename_i hu;rw[hu] at h;cases h
 ·simp[aT]
theorem assert_no {t u:TypeId} {v z:AV} (h:DP cx t=true) (aZ:(u == t)=false) (hz:zeroOf cx t=some z):iw cx (.iface u v) t true=some (.tuple [z,.bool false]):=by
 unfold DP at h;unfold iw;split
 ·rename_i hu;rw[hu] at h;cases h
 ·rename_i hu;rw[hu] at h;cases h
 ·have:¬u=t:=by simpa using aZ
  simp[aT,this,hz]
theorem assert_nil {t:TypeId} {z:AV} (h:DP cx t=true) (hz:zeroOf cx t=some z):iw cx .bN t true=some (.tuple [z,.bool false]):=by
 unfold DP at h;unfold iw;split
 ·rename_i hu;rw[hu] at h;cases h
 ·rename_i hu;rw[hu] at h;cases h
 ·simp[hz]
def nthT (v:AV) (i:Nat):Option AV:=match v with | .tuple vs=>vs[i]?|_=>none
theorem nthT_tuple {vs:List AV} {i:Nat}:nthT (.tuple vs) i=vs[i]?:=rfl
theorem xv {x:Tmp} {i:Nat} {v u:AV} (hx:sl F x=v) (h:nthT v i=some u):bj cx F S ⟨dst,.extract (.tmp x) i,ty,pos,af,g⟩=.val u S:=by
 unfold nthT at h;split at h
 ·simp only[oB,aE,hx,fW,h];rfl
 ·cases h
theorem bin_str {op:BinOp} {t:TypeId} {c:Bool} {a b:List Nat}:br cx op t c (.str a) (.str b)=xl op a b:=by unfold br;rfl
theorem binS_lss {a b:List Nat}:xl .lss a b=some (.bool (ns a b)):=rfl
theorem binS_gtr {a b:List Nat}:xl .gtr a b=some (.bool (ns b a)):=rfl
theorem binS_eql {a b:List Nat}:xl .eql a b=some (.bool (rW a b)):=rfl
theorem binS_neq {a b:List Nat}:xl .neq a b=some (.bool (!rW a b)):=rfl
theorem un_neg {k:IntKind} {n:Int}:unV .neg (.int k n)=some (.int k (k.wrap (0-n))):=by
 show some (mkI k (Int.sub 0 n))=_;rw[gH];rfl
theorem callV_ext {f:FuncId} {x:Xf} {first captured as:List AV} (h:cx.exts.get f=some x):lS cx S (.func (.func f) first captured) as=b8 (extM x S (first++(as++captured))) 101:=by
 simp only[lS,h,bf]
theorem ext_cmp {a b:List Nat}:extM .xe S [.str a,.str b]=some (cond (ns a b) (.int .i64 (-1)) (cond (rW a b) (.int .i64 0) (.int .i64 1)),S):=rfl
theorem min_two {ts:List TypeId} {k:IntKind} {a b:Int}:aV cx S .min ts [.int k a,.int k b]=.val (.int k (if b<a then b else a)) S:=by
 show val? (bif fI k k then foldI (fun n m=>!ltI m n) k (bif !ltI b a then a else b) [] else none) S 10=_;rw[fT,jX];by_cases h:b<a<;>simp[h,foldI,val?]
def soleL (o:Option (List AV)):Option AV:=match o with|some [v]=>some v|_=>none
theorem soleL_one {v:AV}:soleL (some [v])=some v:=rfl
def aggL (o:Option (List AV)):Option AV:=match o with|some cs=>some (.agg cs)|none=>none
theorem zH {cs:List AV}:aggL (some cs)=some (.agg cs):=rfl
def loadK (S:AS) (a:Option Bool) (z:Option Nat) (id gn off aq:Nat):Option AV:=match a,z with
 | some true,some n=>aggL (rdO (S.h.get id) gn off n aq)
 | some false,_=>soleL (rdO (S.h.get id) gn off 1 aq)
 | _,_=>none
theorem yU {id gn off aq n:Nat}:loadK S (some true) (some n) id gn off aq=aggL (rdO (S.h.get id) gn off n aq):=rfl
theorem sG {id gn off aq:Nat} {z:Option Nat}:loadK S (some false) z id gn off aq=soleL (rdO (S.h.get id) gn off 1 aq):=by cases z<;>rfl
theorem rj {t:TypeId} {id gn off aq:Nat}:m9 cx S t (.ptr id gn off aq)=loadK S (bp cx t) (aD cx t) id gn off aq:=by
 unfold m9 loadK;cases bp cx t with
 | none=>rfl
 | some b=>
  cases b with
  | true=>
   cases aD cx t with
   | none=>rfl
   | some n=>
    simp only[df,aggL];cases rdO (S.h.get id) gn off n aq<;>rfl
  | false=>
   simp only[df,soleL];cases aD cx t<;>rfl
def Dw (place:Nat→Option (Nat×Nat)):List (Nat×AV)→List AV→Option (List AV)
 | [],cells=>some cells
 | p :: l,cells=>match place p.1,cellsOf p.2 with
  | some (off,size),some new=>cond (Nat.beq (c6 new) size&&Nat.ble (Nat.add off size) (c6 cells)) (Dw place l (cT off cells new)) none
  | _,_=>none
theorem tQ {pl:Nat→Option (Nat×Nat)}:∀ (parts:List (Nat×Operand)) (cells:List AV),dX cx F pl parts cells=Dw pl (parts.map fun p=>(p.1,eval F p.2)) cells
 | [],_=>rfl
 | p :: l,cells=>by
  show (match pl p.1,cellsOf (eval F p.2) with
   | some (off,size),some new=>cond (Nat.beq (c6 new) size&&Nat.ble (Nat.add off size) (c6 cells)) (dX cx F pl l (cT off cells new)) none
   | _,_=>none)=_
  simp only[List.map_cons,Dw,tQ l]
def mW (cx:Cx) (t:TypeId) (parts:List (Nat×AV)):Option AV:=
 match zeroOf cx t with
 | none=>none
 | some z=>match cellsOf z,bm cx t with
  | some zero,some (.struct fs)=>match mE cx fs.toList with
   | some ps=>match Dw (fun i=>nth i ps) parts zero with
    | some cells=>some (.agg cells)
    | none=>none
   | none=>none
  | some zero,some (.array _ e)=>match aD cx e with
   | some sz=>match Dw (fun i=>some (Nat.mul i sz,sz)) parts zero with
    | some cells=>some (.agg cells)
    | none=>none
   | none=>none
  | _,_=>none
theorem buildV_A {t:TypeId} {parts:List (Nat×Operand)}:kS cx F t parts=mW cx t (parts.map fun p=>(p.1,eval F p.2)):=by
 unfold kS mW;simp only[tQ];rfl
theorem okV_bool {b:Bool}:rb (.bool b)=true:=rfl
theorem okV_int {k:IntKind} {n:Int}:rb (.int k n)=true:=rfl
theorem okV_str {s:List Nat}:rb (.str s)=true:=rfl
theorem okV_nilp:rb .dr=true:=rfl
theorem okV_ptr {a b c d:Nat}:rb (.ptr a b c d)=true:=rfl
theorem okV_nils:rb .az=true:=rfl
theorem okV_slice {a b c d e f:Nat} {h:Option Nat}:rb (.slice a b c d e f h)=true:=rfl
theorem okV_nilm:rb .gV=true:=rfl
theorem okV_map {a:Nat}:rb (.map a)=true:=rfl
theorem okV_nilf:rb .ko=true:=rfl
theorem okV_niface:rb .bN=true:=rfl
theorem okV_iface {t:TypeId} {v:AV}:rb (.iface t v)=pL v:=rfl
theorem okV_agg {l:List AV}:rb (.agg l)=kh l:=rfl
theorem okV_tuple {l:List AV}:rb (.tuple l)=kh l:=rfl
theorem nx2 (n:Nat):n+1+1=n+2:=rfl
theorem nx3 (n:Nat):n+2+1=n+3:=rfl
theorem nx4 (n:Nat):n+3+1=n+4:=rfl
theorem nx5 (n:Nat):n+4+1=n+5:=rfl
theorem nx6 (n:Nat):n+5+1=n+6:=rfl
end
attribute [-simp] oB
attribute [simp] min_two nx2 nx3 nx4 nx5 nx6 buildV_A rj yU sG zH soleL_one lenL_lit DV DU Bi DR yg xf Bd Be DS yf boxV_some freshV_box Ed AW u3
 df bR kr fm vp oS Ea fieldP_ptr Bw fieldV_agg Bv fP Bs nthT_tuple xv yl assert_yes assert_no assert_nil bin_str binS_lss binS_gtr binS_eql binS_neq un_neg callV_ext ext_cmp
 stillP_nil BZ skont_app okV_undef okV_bool okV_int okV_str okV_nilp okV_ptr okV_nils okV_slice okV_nilm okV_map okV_nilf okV_niface okV_iface okV_agg okV_tuple pL kh
end Go.Am
end
