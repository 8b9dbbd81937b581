/-
  The abstract machine: memory, as rules for simp.
-/
import Derived.Test.YtdknlbnljfdhgaaGreatDoorAmStill
noncomputable section
namespace Go.Am
open Go
set_option linter.unusedSimpArgs false
section
variable {cx:Cx} {ops:List Oper} {F:Fr} {S:AS}
variable {dst:Option Tmp} {ty:TypeId} {pos:String} {af:Array Edge} {g:Option (Nat×Bool)}
theorem lenL_lit {α:Type} (l:List α):dv l=l.length:=bp l
theorem E3 {cs:List AV}:cellsOf (.agg cs)=some cs:=rfl
theorem E2 {k:IntKind} {n:Int}:cellsOf (.int k n)=some [.int k n]:=rfl
theorem BO {b:Bool}:cellsOf (.bool b)=some [.bool b]:=rfl
theorem EZ {s:List Nat}:cellsOf (.str s)=some [.str s]:=rfl
theorem yZ {t:TypeId} {v:AV}:cellsOf (.iface t v)=some [.iface t v]:=rfl
theorem xU:cellsOf .b8=some [.b8]:=rfl
theorem BJ:cellsOf .ar=some [.ar]:=rfl
theorem BK:cellsOf .bd=some [.bd]:=rfl
theorem E0 {a b c d:Nat}:cellsOf (.ptr a b c d)=some [.ptr a b c d]:=rfl
theorem yY {a b c d e f:Nat} {h:Option Nat}:cellsOf (.slice a b c d e f h)=some [.slice a b c d e f h]:=rfl
def boxV (id:Nat) (t:TypeId) (cs:Option (List AV)):Option (AV×bE):=match cs with|some cs=>some (.ptr id 0 0 cs.length,.row cs 0 0 false t)|none=>none
theorem boxV_some {id:Nat} {t:TypeId} {cs:List AV}:boxV id t (some cs)=some (.ptr id 0 0 cs.length,.row cs 0 0 false t):=rfl
theorem freshV_box {id:Nat} {t:TypeId} {x:Operand}:aC cx F id (.box t x)=boxV id t (cellsOf (eval F x)):=by
 unfold aC boxV;simp only[bp];cases cellsOf (eval F x)<;>rfl
def allocV (id:Nat) (e:TypeId) (z:Option AV):Option (AV×bE):=match z with|some z=>boxV id e (cellsOf z)|none=>none
theorem allocV_some {id:Nat} {e:TypeId} {z:AV}:allocV id e (some z)=boxV id e (cellsOf z):=rfl
theorem Bz {id:Nat} {e:TypeId}:aC cx F id (.alloc e)=allocV id e (zeroOf cx e):=by
 unfold aC allocV boxV;simp only[bp];cases zeroOf cx e with
 | none=>rfl
 | some z=>simp only[];cases cellsOf z<;>rfl
def rdO (o:Option bE) (gn off n ay:Nat):Option (List AV):=match o with
 | some (.row cells low top _ _)=>if low≤gn∧gn≤top∧off+n≤ay then some ((cells.drop off).take n) else none
 | _=>none
theorem bY {cells:List AV} {low top gn off n ay:Nat} {frz:Bool} {e:TypeId}:rdO (some (.row cells low top frz e)) gn off n ay=if low≤gn∧gn≤top∧off+n≤ay then some ((cells.drop off).take n) else none:=rfl
theorem eS {id gn off n ay:Nat}:rd S id gn off n ay=rdO (S.h.get id) gn off n ay:=by
 unfold rd rdO;cases S.h.get id with
 | none=>rfl
 | some o=>
  cases o with
  | map es c=>rfl
  | dO x=>rfl
  | row cells low top frz e=>
   simp only[cn,show Nat.add off n=off+n from rfl,cf,bL];by_cases h1:low≤gn<;>by_cases h2:gn≤top<;>by_cases h3:off+n≤ay<;>simp[h1,h2,h3]
def wrO (S:AS) (id:Nat) (o:Option bE) (gn off ay:Nat) (new:List AV):Option AS:=match o with
 | some (.row cells _ top frz e)=>if gn=top∧off+new.length≤ay∧frz=false then some ⟨S.h.set id (.row (cz off cells new) top top false e),S.next⟩ else none
 | _=>none
theorem fp {id:Nat} {cells new:List AV} {low top gn off ay:Nat} {frz:Bool} {e:TypeId}:wrO S id (some (.row cells low top frz e)) gn off ay new=if gn=top∧off+new.length≤ay∧frz=false then some ⟨S.h.set id (.row (cz off cells new) top top false e),S.next⟩ else none:=rfl
theorem kk {id gn off ay:Nat} {new:List AV}:wr S id gn off ay new=wrO S id (S.h.get id) gn off ay new:=by
 unfold wr wrO;cases S.h.get id with
 | none=>rfl
 | some o=>
  cases o with
  | map es c=>rfl
  | dO x=>rfl
  | row cells low top frz e=>
   simp only[bf,cn,bp,show Nat.add off new.length=off+new.length from rfl];by_cases h1:gn=top<;>by_cases h2:off+new.length≤ay<;>cases frz<;>simp[h1,h2]
theorem vZ {off:Nat} {cells new:List AV} (h:off≤cells.length):cz off cells new=cells.take off++new++cells.drop (off+new.length):=fH off cells new h
def loadT (cx:Cx) (S:AS) (t:TypeId) (v:AV):Option AV:=match v with | .ptr a b c d=>nr cx S t (.ptr a b c d)|_=>none
theorem gz {t:TypeId} {a b c d:Nat}:loadT cx S t (.ptr a b c d)=nr cx S t (.ptr a b c d):=rfl
theorem aop_load_at {t:TypeId} {x:Tmp} {v u:AV} (hx:sl F x=v) (h:loadT cx S t v=some u):bo cx F S ⟨dst,.load t (.tmp x),ty,pos,af,g⟩=.val u S:=by
 unfold loadT at h;split at h
 ·exact aop_load ((aP F x).trans hx) h
 ·cases h
def fieldAt (cx:Cx) (s:TypeId) (f:Nat):Option Nat:=match aY cx s with
 | some (.struct fs)=>match fs[f]? with
  | some fd=>match aA cx fd.type with
   | some (_+1)=>some fd.offset
   | _=>none
  | none=>none
 | _=>none
def jk (v:AV) (o:Option Nat):Option AV:=match v,o with | .ptr id gn off ay,some o=>some (.ptr id gn (off+o) ay)|_,_=>none
theorem fieldP_ptr {id gn off ay o:Nat}:jk (.ptr id gn off ay) (some o)=some (.ptr id gn (off+o) ay):=rfl
theorem B3 {s:TypeId} {x:Tmp} {f:Nat} {v u:AV} (hx:sl F x=v) (h:jk v (fieldAt cx s f)=some u):bo cx F S ⟨dst,.fieldAddr s (.tmp x) f,ty,pos,af,g⟩=.val u S:=by
 unfold jk at h;split at h
 ·rename_i id gn off ay o ho;cases h;unfold fieldAt at ho;split at ho
  ·rename_i fs hu;split at ho
   ·rename_i fd hf;split at ho
    ·rename_i z hz;cases ho;exact zk ((aP F x).trans hx) hu hf hz
    ·cases ho
   ·cases ho
  ·cases ho
 ·cases h
def BC (cx:Cx) (s:TypeId) (f:Nat) (cs:List AV):Option AV:=match aY cx s with
 | some (.struct fs)=>match fs[f]? with
  | some fd=>partOf cx fd.type cs fd.offset
  | none=>none
 | _=>none
def fieldV (cx:Cx) (s:TypeId) (f:Nat) (v:AV):Option AV:=match v with | .agg cs=>BC cx s f cs|_=>none
theorem fieldV_agg {s:TypeId} {f:Nat} {cs:List AV}:fieldV cx s f (.agg cs)=BC cx s f cs:=rfl
theorem B2 {s:TypeId} {x:Tmp} {f:Nat} {v u:AV} (hx:sl F x=v) (h:fieldV cx s f v=some u):bo cx F S ⟨dst,.field s (.tmp x) f,ty,pos,af,g⟩=.val u S:=by
 unfold fieldV at h;split at h
 ·rename_i cs;unfold BC at h;split at h
  ·rename_i fs hu;split at h
   ·rename_i fd hf;rw[aop_field ((aP F x).trans hx) hu hf,h];rfl
   ·cases h
  ·cases h
 ·cases h
def pL (S:AS) (v:AV) (cs:List AV):Option AS:=match v with | .ptr id gn off ay=>wr S id gn off ay cs|_=>none
theorem fo {id gn off ay:Nat} {cs:List AV}:pL S (.ptr id gn off ay) cs=wr S id gn off ay cs:=rfl
theorem BY {t:TypeId} {x:Tmp} {y:Operand} {v:AV} {n:Nat} {cs:List AV} {S':AS} (hx:sl F x=v) (hy:cellsOf (eval F y)=some cs) (hs:aA cx t=some n) (hl:cs.length=n)
  (hw:pL S v cs=some S'):bo cx F S ⟨dst,.store t (.tmp x) y,ty,pos,af,g⟩=.val .undef S':=by
 unfold pL at hw;split at hw
 ·exact aop_store ((aP F x).trans hx) hy hs hl hw
 ·cases hw
def xS (cx:Cx) (t:TypeId):Bool:=match aY cx t with|none=>false|some (.interface _)=>false|some _=>true
theorem zd {t:TypeId} {x:Operand} (h:xS cx t=true):bo cx F S ⟨dst,.makeInterface t x,ty,pos,af,g⟩=.val (.iface t (eval F x)) S:=by
 unfold xS at h;cases hu:aY cx t with
 | none=>rw[hu] at h;cases h
 | some d=>
  rw[hu] at h;refine Fj hu ?_;cases d<;>first|rfl|cases h
theorem assert_yes {t:TypeId} {v:AV} (h:xS cx t=true):iS cx (.iface t v) t true=some (.tuple [v,.bool true]):=by
 unfold xS at h;unfold iS;split
 ·rename_i hu;rw[hu] at h;cases h
 ·rename_i hu;rw[hu] at h;cases h
 ·simp[bf]
theorem assert_no {t u:TypeId} {v z:AV} (h:xS cx t=true) (cN:(u == t)=false) (hz:zeroOf cx t=some z):iS cx (.iface u v) t true=some (.tuple [z,.bool false]):=by
 unfold xS at h;unfold iS;split
 ·rename_i hu;rw[hu] at h;cases h
 ·rename_i hu;rw[hu] at h;cases h
 ·have:¬u=t:=by simpa using cN
  simp[bf,this,hz]
theorem assert_nil {t:TypeId} {z:AV} (h:xS cx t=true) (hz:zeroOf cx t=some z):iS cx .b8 t true=some (.tuple [z,.bool false]):=by
 unfold xS at h;unfold iS;split
 ·rename_i hu;rw[hu] at h;cases h
 ·rename_i hu;rw[hu] at h;cases h
 ·simp[hz]
def nthT (v:AV) (i:Nat):Option AV:=match v with | .tuple vs=>vs[i]?|_=>none
theorem nthT_tuple {vs:List AV} {i:Nat}:nthT (.tuple vs) i=vs[i]?:=rfl
theorem ye {x:Tmp} {i:Nat} {v u:AV} (hx:sl F x=v) (h:nthT v i=some u):bo cx F S ⟨dst,.extract (.tmp x) i,ty,pos,af,g⟩=.val u S:=by
 unfold nthT at h;split at h
 ·simp only[oR,aP,hx,gf,h];rfl
 ·cases h
theorem bin_str {op:BinOp} {t:TypeId} {c:Bool} {a b:List Nat}:bt cx op t c (.str a) (.str b)=Fe op a b:=by unfold bt;rfl
theorem binS_lss {a b:List Nat}:Fe .lss a b=some (.bool (nq a b)):=rfl
theorem binS_gtr {a b:List Nat}:Fe .gtr a b=some (.bool (nq b a)):=rfl
theorem binS_eql {a b:List Nat}:Fe .eql a b=some (.bool (qw a b)):=rfl
theorem binS_neq {a b:List Nat}:Fe .neq a b=some (.bool (!qw a b)):=rfl
theorem Fc {t:TypeId} {c:Bool} {a b:List AV} {r:Bool} (h:Ae cx t c (.agg a) (.agg b)=some r):bt cx .eql t c (.agg a) (.agg b)=some (.bool r):=by
 simp only[bt,h]
theorem un_neg {k:IntKind} {n:Int}:unV .neg (.int k n)=some (.int k (k.wrap (0-n))):=by
 show some (mkI k (Int.sub 0 n))=_;rw[iq];rfl
theorem callV_ext {f:FuncId} {x:Xf} {first captured as:List AV} (h:cx.exts.get f=some x):mr cx S (.func (.func f) first captured) as=cG (extM x S (first++(as++captured))) 101:=by
 simp only[mr,h,bw]
theorem ext_cmp {a b:List Nat}:extM .xT S [.str a,.str b]=some (cond (nq a b) (.int .i64 (-1)) (cond (qw a b) (.int .i64 0) (.int .i64 1)),S):=rfl
theorem min_two {ts:List TypeId} {k:IntKind} {a b:Int}:aZ cx S .min ts [.int k a,.int k b]=.val (.int k (if b<a then b else a)) S:=by
 show val? (bif fw k k then foldI (fun n m=>!ltI m n) k (bif !ltI b a then a else b) [] else none) S 10=_;rw[gA,kD];by_cases h:b<a<;>simp[h,foldI,val?]
def soleL (o:Option (List AV)):Option AV:=match o with|some [v]=>some v|_=>none
theorem soleL_one {v:AV}:soleL (some [v])=some v:=rfl
def aggL (o:Option (List AV)):Option AV:=match o with|some cs=>some (.agg cs)|none=>none
theorem At {cs:List AV}:aggL (some cs)=some (.agg cs):=rfl
def loadK (S:AS) (a:Option Bool) (z:Option Nat) (id gn off ay:Nat):Option AV:=match a,z with
 | some true,some n=>aggL (rdO (S.h.get id) gn off n ay)
 | some false,_=>soleL (rdO (S.h.get id) gn off 1 ay)
 | _,_=>none
theorem ph {id gn off ay n:Nat}:loadK S (some true) (some n) id gn off ay=aggL (rdO (S.h.get id) gn off n ay):=rfl
theorem kh {id gn off ay:Nat} {z:Option Nat}:loadK S (some false) z id gn off ay=soleL (rdO (S.h.get id) gn off 1 ay):=by cases z<;>rfl
theorem iK {t:TypeId} {id gn off ay:Nat}:nr cx S t (.ptr id gn off ay)=loadK S (aD cx t) (aA cx t) id gn off ay:=by
 unfold nr loadK;cases aD cx t with
 | none=>rfl
 | some b=>
  cases b with
  | true=>
   cases aA cx t with
   | none=>rfl
   | some n=>
    simp only[eS,aggL];cases rdO (S.h.get id) gn off n ay<;>rfl
  | false=>
   simp only[eS,soleL];cases aA cx t<;>rfl
def EE (place:Nat→Option (Nat×Nat)):List (Nat×AV)→List AV→Option (List AV)
 | [],cells=>some cells
 | p :: l,cells=>match place p.1,cellsOf p.2 with
  | some (off,size),some new=>cond (Nat.beq (dv new) size&&Nat.ble (Nat.add off size) (dv cells)) (EE place l (cz off cells new)) none
  | _,_=>none
theorem uJ {pl:Nat→Option (Nat×Nat)}:∀ (parts:List (Nat×Operand)) (cells:List AV),eV cx F pl parts cells=EE pl (parts.map fun p=>(p.1,eval F p.2)) cells
 | [],_=>rfl
 | p :: l,cells=>by
  show (match pl p.1,cellsOf (eval F p.2) with
   | some (off,size),some new=>cond (Nat.beq (dv new) size&&Nat.ble (Nat.add off size) (dv cells)) (eV cx F pl l (cz off cells new)) none
   | _,_=>none)=_
  simp only[List.map_cons,EE,uJ l]
def dV (cx:Cx) (t:TypeId) (parts:List (Nat×AV)):Option AV:=
 match zeroOf cx t with
 | none=>none
 | some z=>match cellsOf z,aY cx t with
  | some zero,some (.struct fs)=>match mS cx fs.toList with
   | some ps=>match EE (fun i=>nth i ps) parts zero with
    | some cells=>some (.agg cells)
    | none=>none
   | none=>none
  | some zero,some (.array _ e)=>match aA cx e with
   | some sz=>match EE (fun i=>some (Nat.mul i sz,sz)) parts zero with
    | some cells=>some (.agg cells)
    | none=>none
   | none=>none
  | _,_=>none
theorem buildV_A {t:TypeId} {parts:List (Nat×Operand)}:lD cx F t parts=dV cx t (parts.map fun p=>(p.1,eval F p.2)):=by
 unfold lD dV;simp only[uJ];rfl
theorem okV_bool {b:Bool}:rk (.bool b)=true:=rfl
theorem okV_int {k:IntKind} {n:Int}:rk (.int k n)=true:=rfl
theorem okV_str {s:List Nat}:rk (.str s)=true:=rfl
theorem okV_nilp:rk .bd=true:=rfl
theorem okV_ptr {a b c d:Nat}:rk (.ptr a b c d)=true:=rfl
theorem okV_nils:rk .ar=true:=rfl
theorem okV_slice {a b c d e f:Nat} {h:Option Nat}:rk (.slice a b c d e f h)=true:=rfl
theorem okV_nilm:rk .iF=true:=rfl
theorem okV_map {a:Nat}:rk (.map a)=true:=rfl
theorem okV_nilf:rk .kB=true:=rfl
theorem okV_niface:rk .b8=true:=rfl
theorem okV_iface {t:TypeId} {v:AV}:rk (.iface t v)=oP v:=rfl
theorem okV_agg {l:List AV}:rk (.agg l)=kN l:=rfl
theorem okV_tuple {l:List AV}:rk (.tuple l)=kN l:=rfl
theorem nx2 (n:Nat):n+1+1=n+2:=rfl
theorem nx3 (n:Nat):n+2+1=n+3:=rfl
theorem nx4 (n:Nat):n+3+1=n+4:=rfl
theorem nx5 (n:Nat):n+4+1=n+5:=rfl
theorem nx6 (n:Nat):n+5+1=n+6:=rfl
end
attribute [-simp] oR
attribute [simp] min_two nx2 nx3 nx4 nx5 nx6 buildV_A iK ph kh At soleL_one lenL_lit E3 E2 BO EZ yZ xU BJ BK E0 yY boxV_some freshV_box allocV_some Bz vC
 eS bY kk fp vZ gz aop_load_at fieldP_ptr B3 fieldV_agg B2 fo BY nthT_tuple ye zd assert_yes assert_no assert_nil bin_str binS_lss binS_gtr binS_eql binS_neq un_neg callV_ext ext_cmp
 stillP_nil CG skont_app okV_undef okV_bool okV_int okV_str okV_nilp okV_ptr okV_nils okV_slice okV_nilm okV_map okV_nilf okV_niface okV_iface okV_agg okV_tuple oP kN
end Go.Am
end
