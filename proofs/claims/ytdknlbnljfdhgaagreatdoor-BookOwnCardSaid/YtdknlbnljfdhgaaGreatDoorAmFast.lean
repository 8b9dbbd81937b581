/-
  The abstract machine, so written that the kernel copies little: each operation's text stands under a name of its own.
-/
import Derived.Test.YtdknlbnljfdhgaaGreatDoorAmTop
import Derived.Test.YtdknlbnljfdhgaaGreatDoorAmRun
import Derived.Laws.Externs
noncomputable section
namespace Go.Am
open Go
set_option linter.unusedVariables false
def bQ (_:Cx) (_:Fr) (_:Nat):Option (AV×bE):=none
def f_alloc (e:TypeId) (cx:Cx) (F:Fr) (id:Nat):Option (AV×bE):=
 match zeroOf cx e with
  | some z=>match cellsOf z with
   | some cs=>some (.ptr id 0 0 (dv cs),.row cs 0 0 false e)
   | none=>none
  | none=>none
def f_box (t:TypeId) (x:Operand) (cx:Cx) (F:Fr) (id:Nat):Option (AV×bE):=
 match cellsOf (eval F x) with
  | some cs=>some (.ptr id 0 0 (dv cs),.row cs 0 0 false t)
  | none=>none
def sg (t:TypeId) (n:Nat) (parts:Array (Nat×Operand)) (cx:Cx) (F:Fr) (id:Nat):Option (AV×bE):=
 match aY cx t with
  | some (.slice e)=>match aA cx e,zeroOf cx e with
   | some (Nat.succ z),some zv=>match cellsOf zv with
    | some zero=>cond (Nat.beq (dv zero) (Nat.succ z)&&Nat.ble (Nat.mul n (Nat.succ z)) 16777216)
     (match eV cx F (fun i=>some (Nat.mul i (Nat.succ z),Nat.succ z)) parts.toList (fZ n zero) with
     | some cells=>some (.slice id 0 0 n (Nat.mul n (Nat.succ z)) (Nat.succ z) (some n),.row cells 0 0 false e)
     | none=>none) none
    | none=>none
   | _,_=>none
  | _=>none
def Ac (t:TypeId) (r:Option Operand) (cx:Cx) (F:Fr) (id:Nat):Option (AV×bE):=
 match aY cx t with
  | some (.map _ _)=>cond (oA F r) (some (.map id,.map [] 0)) none
  | _=>none
def uL (t:TypeId) (l:Operand) (c:Operand) (cx:Cx) (F:Fr) (id:Nat):Option (AV×bE):=
 match aY cx t,dS (eval F l),dS (eval F c) with
  | some (.slice e),some l,some c=>match aA cx e,bytesOf cx e,zeroOf cx e with
   | some (Nat.succ z),some bs,some zv=>match cellsOf zv with
    | some zero=>cond (Nat.beq (dv zero) (Nat.succ z)&&Nat.ble l c&&fits c bs)
     (some (.slice id 0 0 l (Nat.mul c (Nat.succ z)) (Nat.succ z) (some c),.row (fZ c zero) 0 0 false e)) none
    | none=>none
   | _,_,_=>none
  | _,_,_=>none
def freshK (op:Op):Cx→Fr→Nat→Option (AV×bE):=@Op.rec (fun _=>Cx→Fr→Nat→Option (AV×bE)) (fun _=>bQ) (fun _=>bQ) (fun _ _ _=>bQ) f_alloc f_box (fun _ _=>bQ) sg (fun _ _ _ _=>bQ) (fun _ _=>bQ) (fun _ _ _=>bQ) (fun _=>bQ) (fun _=>bQ) (fun _=>bQ) (fun _ _ _ _ _=>bQ) (fun _ _ _=>bQ) (fun _ _ _=>bQ) (fun _ _=>bQ) (fun _ _=>bQ) (fun _ _ _=>bQ) Ac (fun _ _=>bQ) uL (fun _ _ _ _ _=>bQ) (fun _ _ _=>bQ) (fun _ _ _=>bQ) (fun _ _ _=>bQ) (fun _ _ _=>bQ) (fun _ _ _ _=>bQ) (fun _ _ _ _=>bQ) (fun _ _ _=>bQ) (fun _ _ _ _=>bQ) (fun _ _=>bQ) (fun _ _=>bQ) (fun _=>bQ) (fun _ _ _ _=>bQ) (fun _ _=>bQ) (fun _=>bQ) (fun _=>bQ) (fun _=>bQ) (fun _=>bQ) (fun _ _=>bQ) (fun _ _ _=>bQ) (fun _ _=>bQ) op
theorem freshK_eq (op:Op) (cx:Cx) (F:Fr) (id:Nat):freshK op cx F id=aC cx F id op:=by cases op<;>rfl
def k_move (x:Operand) (cx:Cx) (F:Fr) (S:AS):AR:=
 .val (eval F x) S
def k_assign (x:Operand) (cx:Cx) (F:Fr) (S:AS):AR:=
 .val (eval F x) S
def k_pick (c:Operand) (a:Operand) (b:Operand) (cx:Cx) (F:Fr) (S:AS):AR:=
 match eval F c with
  | .bool true=>.val (eval F a) S
  | .bool false=>.val (eval F b) S
  | _=>.err 20
def k_alloc (e:TypeId) (cx:Cx) (F:Fr) (S:AS):AR:=
 eK (f_alloc e cx F S.next) S 21
def k_box (t:TypeId) (x:Operand) (cx:Cx) (F:Fr) (S:AS):AR:=
 eK (f_box t x cx F S.next) S 23
def k_build (t:TypeId) (parts:Array (Nat×Operand)) (cx:Cx) (F:Fr) (S:AS):AR:=
 val? (lD cx F t parts.toList) S 24
def Bl (t:TypeId) (n:Nat) (parts:Array (Nat×Operand)) (cx:Cx) (F:Fr) (S:AS):AR:=
 eK (sg t n parts cx F S.next) S 25
def k_insert (t:TypeId) (m:Operand) (k:Operand) (v:Operand) (cx:Cx) (F:Fr) (S:AS):AR:=
 cG (jV cx S t (eval F m) (eval F k) (eval F v)) 79
def k_load (t:TypeId) (x:Operand) (cx:Cx) (F:Fr) (S:AS):AR:=
 match eval F x with
  | .ptr id g off ay=>match aD cx t with
   | some true=>match aA cx t with
    | some n=>match rd S id g off n ay with
     | some cs=>.val (.agg cs) S
     | none=>.err 30
    | none=>.err 31
   | some false=>match rd S id g off 1 ay with
    | some [v]=>.val v S
    | _=>.err 32
   | none=>.err 33
  | .mY g off=>match cx.eU.get g with
   | some cs=>val? (globV cx t cs off) S 133
   | none=>.err 134
  | _=>.err 34
def k_store (t:TypeId) (x:Operand) (y:Operand) (cx:Cx) (F:Fr) (S:AS):AR:=
 match eval F x,cellsOf (eval F y),aA cx t with
  | .ptr id g off ay,some cs,some n=>cond (Nat.beq (dv cs) n) (match wr S id g off ay cs with
   | some S'=>.val .undef S'
   | none=>.err 35) (.err 36)
  | _,_,_=>.err 37
def k_ready (_:Nat) (_:Cx) (_:Fr) (_:AS):AR:=.err 99
def k_waits (_:Nat) (_:Cx) (_:Fr) (_:AS):AR:=.err 99
def k_nilCheck (x:Operand) (cx:Cx) (F:Fr) (S:AS):AR:=
 match eval F x with
  | .ptr i g o l=>.val (.ptr i g o l) S
  | .mY g o=>.val (.mY g o) S
  | .func (.func f) a b=>.val (.func (.func f) a b) S
  | .slice a b c d e f g=>.val (.slice a b c d e f g) S
  | .map i=>.val (.map i) S
  | .obj k i=>.val (.obj k i) S
  | _=>.err 38
def k_binOp (op:BinOp) (t:TypeId) (x:Operand) (y:Operand) (_x4:TypeId) (cx:Cx) (F:Fr) (S:AS):AR:=
 val? (bt cx op t ((x matches .const _)||(y matches .const _)) (eval F x) (eval F y)) S 40
def k_unOp (op:UnOp) (_x1:TypeId) (x:Operand) (cx:Cx) (F:Fr) (S:AS):AR:=
 val? (unV op (eval F x)) S 41
def k_convert (src:TypeId) (dst:TypeId) (x:Operand) (cx:Cx) (F:Fr) (S:AS):AR:=
 match aY cx src,aY cx dst,eval F x with
  | some _,some (.int k),.int _ n=>.val (mkI k n) S
  | some _,some .string,.str s=>.val (.str s) S
  | some _,some (.slice e),.str s=>match aY cx e with
   | some (.int .u8)=>.val (.slice S.next 0 0 s.length s.length 1 none) ⟨S.h.set S.next (.row (jH (fun n=>AV.int .u8 (.ofNat n)) s) 0 0 true e),Nat.succ S.next⟩
   | _=>.err 42
  | some (.slice e),some .string,x=>match aY cx e,x with
   | some (.int .u8),.ar=>.val (.str []) S
   | some (.int .u8),.slice id g off len ay 1 _=>match len with
    | 0=>.val (.str []) S
    | _=>match rd S id g off len ay with
     | some cs=>match tU cs with
      | some l=>.val (.str l) S
      | none=>.err 43
     | none=>.err 44
   | _,_=>.err 45
  | some (.slice _),some (.slice e),.slice id g off len ay sz cap=>cond (Nat.beq src dst&&Nat.blt 0 len) (match aY cx e,S.h.get id with
   | some (.int .u8),some (.row cells low top frz ty)=>cond (Nat.ble low g&&Nat.ble g top&&qN frz low) (.val (.slice id g off len ay sz cap) ⟨S.h.set id (.row cells low top true ty),S.next⟩) (.err 147)
   | _,_=>.err 145) (.err 146)
  | some (.pointer e),some .unsafePointer,.ptr id g off ay=>match aA cx e,S.h.get id with
   | some (Nat.succ _),some (.row _ low top _ _)=>cond (Nat.blt off ay&&Nat.ble low g&&Nat.ble g top) (.val (.ptr id g off ay) S) (.err 141)
   | _,_=>.err 142
  | some .unsafePointer,some (.pointer u),.ptr id g off ay=>match g,off,aA cx u,S.h.get id with
   | 0,0,some (Nat.succ z),some (.row _ low _ _ ty)=>cond (Nat.beq ty u&&Nat.ble (Nat.succ z) ay&&Nat.beq low 0) (.val (.ptr id 0 0 ay) S) (.err 143)
   | _,_,_,_=>.err 144
  | _,_,_=>.err 46
def nF (_:TypeId) (_:Operand) (_:Cx) (_:Fr) (_:AS):AR:=.err 99
def u4 (t:TypeId) (x:Operand) (cx:Cx) (F:Fr) (S:AS):AR:=
 match aY cx t with
  | some (.interface _)=>.err 47
  | some _=>.val (.iface t (eval F x)) S
  | none=>.err 48
def k_makeFunc (fn:Fn) (first:Array Operand) (captured:Array Operand) (cx:Cx) (F:Fr) (S:AS):AR:=
 .val (.func fn (args F first) (args F captured)) S
def k_makeMap (t:TypeId) (r:Option Operand) (cx:Cx) (F:Fr) (S:AS):AR:=
 eK (Ac t r cx F S.next) S 48
def k_makeChan (_:TypeId) (_:Operand) (_:Cx) (_:Fr) (_:AS):AR:=.err 99
def DU (t:TypeId) (l:Operand) (c:Operand) (cx:Cx) (F:Fr) (S:AS):AR:=
 eK (uL t l c cx F S.next) S 49
def k_slice (t:TypeId) (x:Operand) (lo:Option Operand) (hi:Option Operand) (mx:Option Operand) (cx:Cx) (F:Fr) (S:AS):AR:=
 val? (iJ cx F t (eval F x) lo hi mx) S 53
def DW (s:TypeId) (x:Operand) (f:Nat) (cx:Cx) (F:Fr) (S:AS):AR:=
 match aY cx s,eval F x with
  | some (.struct fs),.ptr id g off ay=>match nth f fs.toList with
   | some fd=>match aA cx fd.type with
    | some (Nat.succ _)=>.val (di (Nat.add off fd.offset) fun o=>.ptr id g o ay) S
    | _=>.err 54
   | none=>.err 55
  | _,_=>.err 56
def k_field (t:TypeId) (x:Operand) (f:Nat) (cx:Cx) (F:Fr) (S:AS):AR:=
 match aY cx t,eval F x with
  | some (.struct fs),.agg cs=>match nth f fs.toList with
   | some fd=>val? (partOf cx fd.type cs fd.offset) S 57
   | none=>.err 58
  | _,_=>.err 59
def DV (t:TypeId) (x:Operand) (ix:Operand) (cx:Cx) (F:Fr) (S:AS):AR:=
 match aY cx t,eval F x,dS (eval F ix) with
  | some (.slice e),.slice id g off len ay sz _,some i=>match aA cx e with
   | some z=>cond (Nat.beq z sz&&Nat.blt i len) (.val (di (Nat.add off (Nat.mul i sz)) fun o=>.ptr id g o ay) S) (.err 60)
   | none=>.err 61
  | some (.array n e),.ptr id g off ay,some i=>match aA cx e with
   | some z=>cond (Nat.blt i n) (.val (di (Nat.add off (Nat.mul i z)) fun o=>.ptr id g o ay) S) (.err 62)
   | none=>.err 63
  | some (.array n e),.mY g off,some i=>match aA cx e with
   | some z=>cond (Nat.blt i n) (.val (di (Nat.add off (Nat.mul i z)) fun o=>.mY g o) S) (.err 162)
   | none=>.err 163
  | _,_,_=>.err 64
def k_index (t:TypeId) (x:Operand) (ix:Operand) (cx:Cx) (F:Fr) (S:AS):AR:=
 match aY cx t,eval F x,dS (eval F ix) with
  | some .string,.str s,some i=>match nth i s with
   | some n=>.val (.int .u8 (.ofNat n)) S
   | none=>.err 65
  | some (.array n e),.agg cs,some i=>match aA cx e with
   | some z=>cond (Nat.blt i n) (val? (partOf cx e cs (Nat.mul i z)) S 66) (.err 67)
   | none=>.err 68
  | _,_,_=>.err 70
def k_lookup (t:TypeId) (x:Operand) (ix:Operand) (ok:Bool) (cx:Cx) (F:Fr) (S:AS):AR:=
 val? (j6 cx S t (eval F x) (eval F ix) ok) S 71
def DT (t:TypeId) (m:Operand) (k:Operand) (v:Operand) (cx:Cx) (F:Fr) (S:AS):AR:=
 cG (jV cx S t (eval F m) (eval F k) (eval F v)) 78
def k_mapEntry (t:TypeId) (m:Operand) (k:Operand) (cx:Cx) (F:Fr) (S:AS):AR:=
 cG (vF cx S t (eval F m) (eval F k)) 86
def Bk (_x0:TypeId) (m:Operand) (k:Operand) (v:Operand) (cx:Cx) (F:Fr) (S:AS):AR:=
 cG (vE S (eval F m) (eval F k) (eval F v)) 87
def k_range (t:TypeId) (x:Operand) (cx:Cx) (F:Fr) (S:AS):AR:=
 cG (qK cx S t (eval F x)) 88
def k_next (x:Operand) (str:Bool) (cx:Cx) (F:Fr) (S:AS):AR:=
 lU S (eval F x) str
def k_entry (x:Operand) (cx:Cx) (F:Fr) (S:AS):AR:=
 val? (qT S (eval F x)) S 89
def Bj (x:Operand) (_x1:TypeId) (t:TypeId) (ok:Bool) (cx:Cx) (F:Fr) (S:AS):AR:=
 val? (iS cx (eval F x) t ok) S 85
def k_extract (x:Operand) (i:Nat) (cx:Cx) (F:Fr) (S:AS):AR:=
 match eval F x with
  | .tuple vs=>val? (nth i vs) S 82
  | _=>.err 83
def k_call (c:Call) (cx:Cx) (F:Fr) (S:AS):AR:=
 match c.callee with
  | .value f=>mr cx S (eval F f) (args F c.args)
  | .builtin b=>aZ cx S b c.argTypes.toList (args F c.args)
  | .invoke _ _=>.err 84
def k_go (_:Call) (_:Cx) (_:Fr) (_:AS):AR:=.err 99
def k_defer (_:Call) (_:Cx) (_:Fr) (_:AS):AR:=.err 99
def k_panic (x:Operand) (cx:Cx) (F:Fr) (S:AS):AR:=
 match eval F x with
  | .iface t v=>.dN (.iface t v) S
  | _=>.err 98
def k_send (_:Operand) (_:Operand) (_:Cx) (_:Fr) (_:AS):AR:=.err 99
def k_recv (_:TypeId) (_:Operand) (_:Bool) (_:Cx) (_:Fr) (_:AS):AR:=.err 99
def k_select (_:Array SelectCase) (_:Bool) (_:Cx) (_:Fr) (_:AS):AR:=.err 99
def aopK (o:Oper):Cx→Fr→AS→AR:=@Op.rec (fun _=>Cx→Fr→AS→AR) k_move k_assign k_pick k_alloc k_box k_build Bl k_insert k_load k_store k_ready k_waits k_nilCheck k_binOp k_unOp k_convert nF u4 k_makeFunc k_makeMap k_makeChan DU k_slice DW k_field DV k_index k_lookup DT k_mapEntry Bk k_range k_next k_entry Bj k_extract k_call k_go k_defer k_panic k_send k_recv k_select o.op
theorem B5 (o:Oper) (cx:Cx) (F:Fr) (S:AS):aopK o cx F S=bo cx F S o:=by
 obtain ⟨dst,op,ty,pos,after,guard⟩:=o;cases op<;>rfl
section
variable {β:Type}
def v_top (k:AV→β) (_:AV→β):β:=k .top
def v_bool (b:Bool) (k:AV→β) (_:AV→β):β:=k (.bool b)
def v_int (t:IntKind) (n:Int) (k:AV→β) (_:AV→β):β:=k (.int t n)
def v_str (s:List Nat) (k:AV→β) (_:AV→β):β:=k (.str s)
def v_nilp (k:AV→β) (_:AV→β):β:=k .bd
def v_ptr (a b c d:Nat) (k:AV→β) (_:AV→β):β:=k (.ptr a b c d)
def v_glob (a b:Nat) (k:AV→β) (_:AV→β):β:=k (.mY a b)
def v_nils (k:AV→β) (_:AV→β):β:=k .ar
def v_slice (a b c d e f:Nat) (g:Option Nat) (k:AV→β) (_:AV→β):β:=k (.slice a b c d e f g)
def v_nilm (k:AV→β) (_:AV→β):β:=k .iF
def v_map (a:Nat) (k:AV→β) (_:AV→β):β:=k (.map a)
def v_func (f:Fn) (a b:List AV) (k:AV→β) (_:AV→β):β:=k (.func f a b)
def v_nilf (k:AV→β) (_:AV→β):β:=k .kB
def v_niface (k:AV→β) (_:AV→β):β:=k .b8
def v_iface (t:TypeId) (v:AV) (k:AV→β) (_:AV→β):β:=k (.iface t v)
def v_agg (l:List AV) (k:AV→β) (_:AV→β):β:=k (.agg l)
def v_tuple (l:List AV) (k:AV→β) (_:AV→β):β:=k (.tuple l)
def v_obj (o:OK) (i:Nat) (k:AV→β) (_:AV→β):β:=k (.obj o i)
def v_nilc (k:AV→β) (_:AV→β):β:=k .nilc
def v_pan (v:AV) (_:AV→β) (p:AV→β):β:=p v
def xz (v:AV):(AV→β)→(AV→β)→β:=
 @AV.casesOn (fun _=>(AV→β)→(AV→β)→β) v v_top v_bool v_int v_str v_nilp v_ptr v_glob v_nils v_slice v_nilm v_map v_func v_nilf v_niface v_iface v_agg v_tuple v_obj v_nilc v_pan
theorem rX (v:AV) (k p:AV→β):xz v k p=lu v p (k v):=by cases v<;>rfl
def Ej (S:AS) (k:AS→β):β:=@AS.rec (fun _=>β) (fun h n=>di n fun n=>k ⟨h,n⟩) S
theorem xB (S:AS) (k:AS→β):Ej S k=k S:=by
 obtain ⟨h,n⟩:=S;exact aH n fun n=>k ⟨h,n⟩
end
abbrev jM:=Fr→AS→aj (Option AV×Fr×AS)
def panK (F:Fr) (S:AS) (x:AV):aj (Option AV×Fr×AS):=.ok (some x,F,S) []
def contK (dst:Option Tmp) (ih:jM) (F:Fr) (v:AV) (S:AS):aj (Option AV×Fr×AS):=Ej S fun S=>xz v (fun v=>ih (aO F dst v) S) (panK F S)
theorem contK_eq (dst:Option Tmp) (ih:jM) (F:Fr) (v:AV) (S:AS):contK dst ih F v S=lu v (fun x=>.ok (some x,F,S) []) (ih (aO F dst v) S):=by
 unfold contK;rw[xB,rX];rfl
def zK (dst:Option Tmp) (ih:jM) (F:Fr) (r:Bool×AV×AS):aj (Option AV×Fr×AS):=cond r.1 (.ok (some r.2.1,F,r.2.2) []) (ih (aO F dst r.2.1) r.2.2)
def contV (dst:Option Tmp) (ih:jM) (F:Fr) (v:AV) (S:AS):aj (Option AV×Fr×AS):=Ej S fun S=>xz v (fun v=>ih (aO F dst v) S) (fun x=>ih (aO F dst (.dN x)) S)
theorem contV_eq (dst:Option Tmp) (ih:jM) (F:Fr) (v:AV) (S:AS):contV dst ih F v S=zK dst ih F (false,v,S):=by
 unfold contV;rw[xB,rX];cases v<;>rfl
def EW (dst:Option Tmp) (ih:jM) (F:Fr) (r:AV×AS):aj (Option AV×Fr×AS):=@Prod.rec AV AS (fun _=>aj (Option AV×Fr×AS)) (contK dst ih F) r
theorem EV (dst:Option Tmp) (ih:jM) (F:Fr):EW dst ih F=fun r=>aj.bind (rH r) (zK dst ih F):=by
 funext r;obtain ⟨v,S⟩:=r;show contK dst ih F v S=_;rw[contK_eq];cases v<;>rfl
def retV (r:AV×AS):Bool×AV×AS:=lu r.1 (fun x=>(true,x,r.2)) (false,r.1,r.2)
theorem retR_eq:rH=fun r=>.ok (retV r) []:=by
 funext r;obtain ⟨v,S⟩:=r;cases v<;>rfl
theorem tV {α β:Type} (x y:α) (ys:List α) (f:α→aj β):aj.bind (.ok x (y :: ys)) f=aj.app (f x) (aj.bind (.ok y ys) f):=by
 cases ys<;>rfl
theorem Fb {α β:Type} (φ:α→β):∀ (xs:List α) (x:α),aj.bind (.ok x xs) (fun x=>.ok (φ x) [])=.ok (φ x) (xs.map φ)
 | [],_=>rfl
 | y :: ys,x=>by rw[tV,Fb φ ys y];rfl
theorem bind_map {α β γ:Type} (φ:α→β) (g:β→aj γ):∀ (xs:List α) (x:α),aj.bind (.ok (φ x) (xs.map φ)) g=aj.bind (.ok x xs) fun x=>g (φ x)
 | [],_=>rfl
 | y :: ys,x=>by rw[List.map_cons,tV,tV,bind_map φ g ys y]
theorem Fa {γ:Type} (r:aj (AV×AS)) (g:Bool×AV×AS→aj γ):aj.bind (aj.bind r rH) g=aj.bind r fun x=>aj.bind (rH x) g:=by
 rw[retR_eq];cases r with
 | err n=>rfl
 | ok x xs=>rw[Fb,bind_map];rfl
def r_err (n:Nat) (_:bg) (_:Option Tmp) (_:jM) (_:Fr):aj (Option AV×Fr×AS):=.err n
def r_val (v:AV) (S:AS) (_:bg) (dst:Option Tmp) (ih:jM) (F:Fr):aj (Option AV×Fr×AS):=contV dst ih F v S
def r_enter (f:FuncId) (as:List AV) (S:AS) (K:bg) (dst:Option Tmp) (ih:jM) (F:Fr):aj (Option AV×Fr×AS):=aj.bind (K (.fn f) as S) (EW dst ih F)
def r_round (f:Nat) (as:List AV) (S:AS) (K:bg) (dst:Option Tmp) (ih:jM) (F:Fr):aj (Option AV×Fr×AS):=aj.bind (K (.round f) as S) (EW dst ih F)
def r_pan (v:AV) (S:AS) (_:bg) (dst:Option Tmp) (ih:jM) (F:Fr):aj (Option AV×Fr×AS):=.ok (some v,F,S) []
def r_many (l:List (AV×AS)) (_:bg) (dst:Option Tmp) (ih:jM) (F:Fr):aj (Option AV×Fr×AS):=aj.bind (manyR l) (zK dst ih F)
def goK (r:AR):bg→Option Tmp→jM→Fr→aj (Option AV×Fr×AS):=
 @AR.rec (fun _=>bg→Option Tmp→jM→Fr→aj (Option AV×Fr×AS)) r_err r_val r_enter r_round r_pan r_many r
def wantK (cx:Cx) (K:bg) (o:Oper) (ih:jM) (F:Fr) (S:AS) (w:Bool):aj (Option AV×Fr×AS):=
 @Bool.rec (fun _=>aj (Option AV×Fr×AS)) (ih (aO F o.dst .undef) S) (goK (aopK o cx F S) K o.dst ih F) w
def guardK (cx:Cx) (K:bg) (o:Oper) (ih:jM) (F:Fr) (S:AS) (w:Option Bool):aj (Option AV×Fr×AS):=
 @Option.rec Bool (fun _=>aj (Option AV×Fr×AS)) (.err 1000) (wantK cx K o ih F S) w
def stepO (cx:Cx) (K:bg) (ops:List Oper) (o:Oper) (ih:jM) (F:Fr) (S:AS):aj (Option AV×Fr×AS):=
 @Option.rec (Nat×Bool) (fun _=>aj (Option AV×Fr×AS)) (goK (aopK o cx F S) K o.dst ih F) (fun _=>guardK cx K o ih F S (wanted ops F o)) o.guard
theorem goK_eq (r:AR) (K:bg) (dst:Option Tmp) (ih:jM) (F:Fr):goK r K dst ih F=aj.bind (match r with
  | .val v S=>.ok (false,v,S) []
  | .enter f as S=>aj.bind (K (.fn f) as S) rH
  | .round id as S=>aj.bind (K (.round id) as S) rH
  | .dN v S=>.ok (true,v,S) []
  | .many l=>manyR l
  | .err n=>.err n) (zK dst ih F):=by
 cases r with
 | err n=>rfl
 | val v S=>exact contV_eq dst ih F v S
 | enter f as S=>show aj.bind _ (EW dst ih F)=_;rw[EV];exact (Fa _ _).symm
 | round f as S=>show aj.bind _ (EW dst ih F)=_;rw[EV];exact (Fa _ _).symm
 | dN v S=>rfl
 | many l=>rfl
theorem stepO_eq (cx:Cx) (K:bg) (ops:List Oper) (o:Oper) (ih:jM) (F:Fr) (S:AS):stepO cx K ops o ih F S=aj.bind (one cx K ops o F S) (zK o.dst ih F):=by
 have key:guardK cx K o ih F S (wanted ops F o)=aj.bind (one cx K ops o F S) (zK o.dst ih F):=by
  unfold one;cases wanted ops F o with
  | none=>rfl
  | some b=>
   cases b with
   | false=>rfl
   | true=>
    show goK (aopK o cx F S) K o.dst ih F=_;rw[goK_eq,B5];rfl
 unfold stepO;cases hg:o.guard with
 | some jw=>exact key
 | none=>
  have hw:wanted ops F o=some true:=by unfold wanted;rw[hg]
  rw[hw] at key;exact key
def deferK (cx : Cx) (ops : List Oper) (o : Oper) (c : Call) (ih : jM) (F : Fr) (S : AS) : aj (Option AV × Fr × AS) := match wanted ops F o with
        | some true=>match kK F c with
         | some d=>ih (aO ⟨F.t,F.n,d :: F.ds⟩ o.dst .undef) S
         | none=>.err 1009
        | some false=>ih (aO F o.dst .undef) S
        | none=>.err 1010
def oX (cx:Cx) (K:bg) (ops:List Oper) (l:List Oper):jM:=
 @List.rec Oper (fun _=>jM) (fun F S=>.ok (none,F,S) [])
  (fun o _ ih=>@Option.rec Call (fun _=>jM) (stepO cx K ops o ih) (fun c=>deferK cx ops o c ih) (dG o)) l
theorem wq (cx:Cx) (K:bg) (ops:List Oper):∀ (l:List Oper) (F:Fr) (S:AS),oX cx K ops l F S=bA cx K ops l F S
 | [],F,S=>rfl
 | o :: l,F,S=>by
  have e:oX cx K ops l=bA cx K ops l:=by funext F S;exact wq cx K ops l F S
  show (@Option.rec Call (fun _=>jM) (stepO cx K ops o (oX cx K ops l)) (fun c=>deferK cx ops o c (oX cx K ops l)) (dG o)) F S=(match dG o with
   | none=>aj.bind (one cx K ops o F S) fun r=>cond r.1 (.ok (some r.2.1,F,r.2.2) []) (bA cx K ops l (aO F o.dst r.2.1) r.2.2)
   | some c=>match wanted ops F o with
    | some true=>match kK F c with
     | some d=>bA cx K ops l (aO ⟨F.t,F.n,d :: F.ds⟩ o.dst .undef) S
     | none=>.err 1009
    | some false=>bA cx K ops l (aO F o.dst .undef) S
    | none=>.err 1010)
  rw[e];cases dG o with
  | none=>exact stepO_eq cx K ops o (bA cx K ops l) F S
  | some c=>rfl
def oneVR (r:AR):Option AV:=@AR.rec (fun _=>Option AV) (fun _=>none) (fun v _=>some v) (fun _ _ _=>none) (fun _ _ _=>none) (fun _ _=>none) (fun _=>none) r
def oneVW (cx:Cx) (o:Oper) (F:Fr) (S:AS) (w:Option Bool):Option AV:=
 @Option.rec Bool (fun _=>Option AV) none (fun b=>@Bool.rec (fun _=>Option AV) (some .undef) (oneVR (aopK o cx F S)) b) w
def oneVK (cx:Cx) (ops:List Oper) (F:Fr) (S:AS) (o:Oper):Option AV:=oneVW cx o F S (wanted ops F o)
theorem DB (cx:Cx) (ops:List Oper) (F:Fr) (S:AS) (o:Oper):oneVK cx ops F S o=ej cx ops F S o:=by
 unfold oneVK ej oneVW;cases wanted ops F o with
 | none=>rfl
 | some b=>
  cases b with
  | false=>rfl
  | true=>
   show oneVR (aopK o cx F S)=_;rw[B5];simp only[];cases bo cx F S o<;>rfl
def oneRK (K:bg) (r:AR):aj (Bool×AV×AS):=
 match r with
 | .val v S=>.ok (false,v,S) []
 | .enter f as S=>aj.bind (K (.fn f) as S) rH
 | .round id as S=>aj.bind (K (.round id) as S) rH
 | .dN v S=>.ok (true,v,S) []
 | .many l=>manyR l
 | .err n=>.err n
def oneW (cx:Cx) (K:bg) (o:Oper) (F:Fr) (S:AS) (w:Option Bool):aj (Bool×AV×AS):=
 @Option.rec Bool (fun _=>aj (Bool×AV×AS)) (.err 1000) (fun b=>@Bool.rec (fun _=>aj (Bool×AV×AS)) (.ok (false,.undef,S) []) (oneRK K (aopK o cx F S)) b) w
def oneK (cx:Cx) (K:bg) (ops:List Oper) (o:Oper) (F:Fr) (S:AS):aj (Bool×AV×AS):=oneW cx K o F S (wanted ops F o)
theorem oneK_eq (cx:Cx) (K:bg) (ops:List Oper) (o:Oper) (F:Fr) (S:AS):oneK cx K ops o F S=one cx K ops o F S:=by
 unfold oneK one oneW;cases wanted ops F o with
 | none=>rfl
 | some b=>
  cases b with
  | false=>rfl
  | true=>
   show oneRK K (aopK o cx F S)=_;rw[B5];rfl
abbrev iD:=Option (Nat×AV×AS)×Fr×AS×List AS
abbrev mB:=Fr→AS→List da→List AS→Nat→aj iD
def rowNil (F:Fr) (S:AS) (ps:List da) (aE:List AS) (_:Nat):aj iD:=.ok (none,F,aX (fun _=>true) ps S,S :: aE) []
def rowValV (dst:Option Tmp) (ih:mB) (F:Fr) (S:AS) (ps:List da) (aE:List AS) (id:Nat) (v:AV):aj iD:=xz v (fun v=>ih (aO F dst v) S ps aE id) (fun x=>ih (aO F dst (.dN x)) S ps aE id)
def AP (cx:Cx) (_:bg) (ops:List Oper) (r:Row) (_:List Row) (ih:mB) (F:Fr) (S:AS) (ps:List da) (aE:List AS) (id:Nat):aj iD:=
 @Option.rec AV (fun _=>aj iD) (.err 1006) (rowValV r.o.dst ih F S ps aE id) (oneVK cx ops F S r.o)
def rowPan (l:List Row) (i:Nat) (F:Fr) (S0:AS) (aE:List AS) (r:AV×AS):aj iD:=cond (eY (fun q=>bit q.c7 i) l) (.ok (some (i,r.1,r.2),F,S0,aE) []) (.err 1007)
def rowEffP (l:List Row) (i:Nat) (S0:AS) (dst:Option Tmp) (ih:mB) (F:Fr) (Ce:List da) (aE:List AS) (id:Nat) (q:Bool×AV×AS):aj iD:=
 @Prod.rec Bool (AV×AS) (fun _=>aj iD) (fun b r=>@Bool.rec (fun _=>aj iD) (@Prod.rec AV AS (fun _=>aj iD) (fun v S=>Ej S fun S=>xz v (fun v=>ih (aO F dst v) S Ce aE id) (fun x=>ih (aO F dst (.dN x)) S Ce aE id)) r) (rowPan l i F S0 aE r) b) q
def rowEff (cx:Cx) (K:bg) (ops:List Oper) (r:Row) (l:List Row) (ih:mB) (F:Fr) (S:AS) (ps:List da) (aE:List AS) (id:Nat):aj iD:=
 aj.bind (aj.sV (oneK cx K ops r.o F (aX (fun p=>bit r.c7 p.i) ps S))) (rowEffP l r.i S r.o.dst ih F (fN (fun p=>!bit r.c7 p.i) ps) (S :: aE) id)
def rowFreshV (dst:Option Tmp) (i:Nat) (ih:mB) (F:Fr) (S:AS) (ps:List da) (aE:List AS) (id:Nat) (x:AV×bE):aj iD:=
 @Prod.rec AV bE (fun _=>aj iD) (fun v o=>ih (aO F dst v) S (⟨i,id,o⟩ :: ps) aE (Nat.succ id)) x
def zz (cx:Cx) (r:Row) (ih:mB) (F:Fr) (S:AS) (ps:List da) (aE:List AS) (id:Nat) (b:Bool):aj iD:=
 @Bool.rec (fun _=>aj iD) (ih (aO F r.o.dst .undef) S ps aE id) (@Option.rec (AV×bE) (fun _=>aj iD) (.err 1001) (rowFreshV r.o.dst r.i ih F S ps aE id) (freshK r.o.op cx F id)) b
def wu (cx:Cx) (_:bg) (ops:List Oper) (r:Row) (_:List Row) (ih:mB) (F:Fr) (S:AS) (ps:List da) (aE:List AS) (id:Nat):aj iD:=
 @Option.rec Bool (fun _=>aj iD) (.err 1002) (zz cx r ih F S ps aE id) (wanted ops F r.o)
def rowStep (c:Cls):Cx→bg→List Oper→Row→List Row→mB→mB:=@Cls.rec (fun _=>Cx→bg→List Oper→Row→List Row→mB→mB) AP AP rowEff wu c
def rF (cx:Cx) (K:bg) (ops:List Oper) (l:List Row):mB:=@List.rec Row (fun _=>mB) rowNil (fun r l ih=>rowStep r.cls cx K ops r l ih) l
theorem uu (cx:Cx) (K:bg) (ops:List Oper):∀ (l:List Row),rF cx K ops l=aL cx K ops l
 | []=>rfl
 | r :: l=>by
  funext F S ps aE id;have e:rF cx K ops l=aL cx K ops l:=uu cx K ops l;show rowStep r.cls cx K ops r l (rF cx K ops l) F S ps aE id=(match r.cls with
   | .fresh=>match wanted ops F r.o with
    | some true=>match aC cx F id r.o.op with
     | some (v,x)=>aL cx K ops l (aO F r.o.dst v) S (⟨r.i,id,x⟩ :: ps) aE (Nat.succ id)
     | none=>.err 1001
    | some false=>aL cx K ops l (aO F r.o.dst .undef) S ps aE id
    | none=>.err 1002
   | .vG=>aj.bind (aj.sV (one cx K ops r.o F (aX (fun p=>bit r.c7 p.i) ps S))) fun q=>cond q.1 (cond (eY (fun q=>bit q.c7 r.i) l) (.ok (some (r.i,q.2.1,q.2.2),F,S,S :: aE) []) (.err 1007)) (aL cx K ops l (aO F r.o.dst q.2.1) q.2.2 (fN (fun p=>!bit r.c7 p.i) ps) (S :: aE) id)
   | _=>match ej cx ops F S r.o with
    | some v=>aL cx K ops l (aO F r.o.dst v) S ps aE id
    | none=>.err 1006)
  rw[e];have val:AP cx K ops r l (aL cx K ops l) F S ps aE id=(match ej cx ops F S r.o with
    | some v=>aL cx K ops l (aO F r.o.dst v) S ps aE id
    | none=>.err 1006):=by
   unfold AP rowValV;rw[DB];cases ej cx ops F S r.o with
   | none=>rfl
   | some v=>
    show xz v _ _=_;rw[rX];cases v<;>rfl
  cases r.cls with
  | pure=>exact val
  | read=>exact val
  | vG=>
   show rowEff cx K ops r l (aL cx K ops l) F S ps aE id=_;unfold rowEff;rw[oneK_eq];congr 1;funext q;obtain ⟨b,v,S'⟩:=q;cases b with
   | true=>rfl
   | false=>
    have h0:rowEffP l r.i S r.o.dst (aL cx K ops l) F (fN (fun p=>!bit r.c7 p.i) ps) (S :: aE) id (false,v,S')=Ej S' (fun S2=>xz v (fun v=>aL cx K ops l (aO F r.o.dst v) S2 (fN (fun p=>!bit r.c7 p.i) ps) (S :: aE) id) (fun x=>aL cx K ops l (aO F r.o.dst (.dN x)) S2 (fN (fun p=>!bit r.c7 p.i) ps) (S :: aE) id)):=rfl;rw[h0,xB,rX];cases v<;>rfl
  | fresh=>
   show wu cx K ops r l (aL cx K ops l) F S ps aE id=_;unfold wu zz;rw[freshK_eq];cases wanted ops F r.o with
   | none=>rfl
   | some b=>
    cases b with
    | false=>rfl
    | true=>cases aC cx F id r.o.op<;>rfl
def sameAt (cx : Cx) (ops : List Oper) (F : Fr) (o : Oper) (v : AV) (S : AS) : Bool := match oneVK cx ops F S o with
        | some u=>cM 8 v u
        | none=>false
def AA (cx:Cx) (ops:List Oper) (rows:List Row) (F:Fr) (aE:List AS) (r:Row):Bool:=
 let EI:=fN (fun e=>bB e.cls) rows
 let lo:=ew (fun e=>bit r.c7 e.i) EI
 let hi:=ew (fun e=>!bit e.c7 r.i) EI
 let may:=takeN (Nat.succ (Nat.sub hi lo)) (jT lo aE)
 match may with
 | [_]=>true
 | _=>match r.o.dst with
  | some d=>cond (Nat.blt d F.n) (match F.t.get d with
   | some v=>eY (sameAt cx ops F r.o v) may
   | none=>false) false
  | none=>false
theorem windowK_eq (cx:Cx) (ops:List Oper) (rows:List Row) (F:Fr) (aE:List AS) (r:Row):AA cx ops rows F aE r=iH cx ops rows F aE r:=by
 unfold AA iH sameAt;simp only[DB];rfl
def vh (cx:Cx) (ops:List Oper) (rows:List Row) (F:Fr) (aE:List AS):Bool:=eY (fun q=>cond (eu q.cls) (AA cx ops rows F aE q) true) rows
theorem vP (cx:Cx) (ops:List Oper) (rows:List Row) (F:Fr) (aE:List AS):vh cx ops rows F aE=lq cx ops rows F aE:=by
 unfold vh lq;simp only[windowK_eq]
def xP (cx:Cx) (ops:List Oper) (rows:List Row) (r:iD):aj (Option AV×Fr×AS):=
 match r.1 with
 | none=>cond (vh cx ops rows r.2.1 (tc r.2.2.2)) (.ok (none,r.2.1,r.2.2.1) []) (.err 1003)
 | some (i,v,S)=>cond (vh cx ops (takeN i rows) r.2.1 (tc r.2.2.2)) (.ok (some v,CC rows r.2.1,S) []) (.err 1003)
theorem EM (cx:Cx) (ops:List Oper) (rows:List Row) (r:iD):xP cx ops rows r=lh cx ops rows r:=by
 unfold xP lh;obtain ⟨o,F,S,sn⟩:=r;cases o with
 | none=>simp only[vP]
 | some p=>simp only[vP]
def drawnGo (cx:Cx) (K:bg) (ops:List Oper) (F:Fr) (S:AS) (rows:List Row):aj (Option AV×Fr×AS):=
 cond (gH ops rows) (aj.bind (rF cx K ops rows F ⟨S.h,Nat.add S.next (ew (fun r=>bM r.cls) rows)⟩ [] [] S.next) (xP cx ops rows)) (.err 1004)
def oY (cx:Cx) (K:bg) (ops:List Oper) (F:Fr) (S:AS):aj (Option AV×Fr×AS):=drawnGo cx K ops F S (settle (cT cx ops))
theorem AO (cx:Cx) (K:bg) (ops:List Oper) (F:Fr) (S:AS):oY cx K ops F S=cC cx K ops F S:=by
 unfold oY drawnGo cC;simp only[uu];congr 2;funext r;exact EM _ _ _ _
abbrev Ih:=Code→Fr→AS→aj Out
def e_region (id:Nat) (ops:Array Oper) (draw:Bool) (cx:Cx) (n:Nat) (ih:Ih) (F:Fr) (S:AS):aj Out:=
 cond draw (aj.bind (oY cx (bq cx ih) ops.toList F S) fun r=>match r.1 with
   | none=>.ok ⟨.normal,r.2.1,r.2.2⟩ []
   | some v=>.ok ⟨.dN v,r.2.1,r.2.2⟩ [])
  (aj.bind (oX cx (bq cx ih) ops.toList ops.toList F S) fun r=>match r.1 with
   | none=>.ok ⟨.normal,r.2.1,r.2.2⟩ []
   | some v=>.ok ⟨.dN v,r.2.1,r.2.2⟩ [])
def e_seq (a b : Code) (cx : Cx) (n : Nat) (ih : Ih) (F : Fr) (S : AS) : aj Out := aj.bind (ih a F S) fun o => match o.ex with
      | .normal=>ih b o.F o.S
      | _=>.ok o []
def e_cond (x : Operand) (a b : Code) (cx : Cx) (n : Nat) (ih : Ih) (F : Fr) (S : AS) : aj Out := match eval F x with
      | .bool true=>ih a F S
      | .bool false=>ih b F S
      | _=>.err 3001
def e_block (id : Nat) (b : Code) (cx : Cx) (n : Nat) (ih : Ih) (F : Fr) (S : AS) : aj Out := aj.bind (ih b F S) fun o => match o.ex with
      | .exit j=>cond (Nat.beq j id) (.ok ⟨.normal,o.F,o.S⟩ []) (.ok o [])
      | _=>.ok o []
def e_loop (b : Code) (cx : Cx) (n : Nat) (ih : Ih) (F : Fr) (S : AS) : aj Out := aj.bind (ih b F S) fun o => match o.ex with
      | .normal=>ih (.loop b) o.F o.S
      | _=>.ok o []
def e_skip (cx:Cx) (n:Nat) (ih:Ih) (F:Fr) (S:AS):aj Out:=.ok ⟨.normal,F,S⟩ []
def e_ret (cx:Cx) (n:Nat) (ih:Ih) (F:Fr) (S:AS):aj Out:=.ok ⟨.ret,F,S⟩ []
def e_exit (id:Nat) (cx:Cx) (n:Nat) (ih:Ih) (F:Fr) (S:AS):aj Out:=.ok ⟨.exit id,F,S⟩ []
def e_scope (b:Code) (cx:Cx) (n:Nat) (ih:Ih) (F:Fr) (S:AS):aj Out:=jf ih b n b F S
def e_label (l:Nat) (cx:Cx) (n:Nat) (ih:Ih) (F:Fr) (S:AS):aj Out:=.ok ⟨.normal,F,S⟩ []
def e_goto (l:Nat) (cx:Cx) (n:Nat) (ih:Ih) (F:Fr) (S:AS):aj Out:=.ok ⟨.goto l,F,S⟩ []
def e_range (x:Operand) (ps:Array Tmp) (a b:Code) (cx:Cx) (n:Nat) (ih:Ih) (F:Fr) (S:AS):aj Out:=jF cx ih x ps a b F S
def e_refuse (s:String) (cx:Cx) (n:Nat) (ih:Ih) (F:Fr) (S:AS):aj Out:=.err 3002
def stepK (c:Code):Cx→Nat→Ih→Fr→AS→aj Out:=
 @Code.casesOn (fun _=>Cx→Nat→Ih→Fr→AS→aj Out) c e_skip e_region e_seq e_cond e_block e_loop e_range e_exit e_scope e_label e_goto e_ret e_refuse
def execK (cx:Cx) (n:Nat):Code→Fr→AS→aj Out:=
 Nat.rec (motive:=fun _=>Code→Fr→AS→aj Out) (fun _ _ _=>.err 3000) (fun n ih c F S=>stepK c cx n ih F S) n
theorem execK_eq (cx:Cx):∀ n,execK cx n=exec cx n:=by
 intro n
 induction n with
 | zero=>rfl
 | succ n ih=>
  funext c F S;have e1:execK cx (n+1) c F S=stepK c cx n (execK cx n) F S:=rfl;rw[e1,ih];cases c with
  | region id ops draw=>
   cases draw with
   | true=>
    show (aj.bind (oY cx (bq cx (exec cx n)) ops.toList F S) _)=aj.bind (cC cx (bq cx (exec cx n)) ops.toList F S) _;rw[AO];rfl
   | false=>
    show (aj.bind (oX cx (bq cx (exec cx n)) ops.toList ops.toList F S) _)=aj.bind (bA cx (bq cx (exec cx n)) ops.toList ops.toList F S) _;rw[wq];rfl
  | _=>rfl
def callK (cx:Cx) (n:Nat) (f:FuncId) (as:List AV) (S:AS):aj (AV×AS):=bq cx (execK cx n) (.fn f) as S
def CX (P:Program) (A:Ask) (n:Nat) (f:FuncId) (b:Bool):Bool:=isB b (callK (j4 P A) n f [] ⟨.leaf,0⟩)
theorem saysK_eq (P:Program) (A:Ask) (n:Nat) (f:FuncId) (b:Bool):CX P A n f b=says P A n f b:=by
 unfold CX callK says call;rw[execK_eq]
end Go.Am
end
namespace Go.Am
open Go Go.RowKit
theorem R.below {Λ:LB} {ρ:aI} {S:AS} {w w':World} (h:R Λ ρ S w) (hb:Below w.heap.size w w'):R Λ ρ S w'∧Kp ρ S w ρ S w':=by
 have hs:∀ b,b<w.heap.size→w'.heap[b]?=w.heap[b]?:=fun b hb2=>hb.block b hb2;refine ⟨⟨fun id o ho=>(h.fi id o ho).bH (Ext.refl _) fun g pl hp=>hs _ (h.lt id o g pl ho hp),h.sM,h.fresh,h.mI,fun id o g pl ho hp=>Nat.lt_of_lt_of_le (h.lt id o g pl ho hp) hb.size,h.apart,Nat.le_trans h.start hb.size,fun b hB=>?_⟩,
  ⟨Ext.refl _,hb.os,hb.tape,hb.output,hb.size,fun b rZ _=>hs b rZ,fun _ h=>.inl h,fun _ h=>.inl h,Nat.le_refl _,fun _ _ _ h=>⟨rfl,h⟩⟩⟩
 obtain ⟨d1,d2,d3⟩:=h.base b hB;exact ⟨d1,(hs b (Nat.lt_of_lt_of_le d1 h.start)).trans d2,d3⟩
noncomputable def mw (b:Bool) (as:List AV) (S:AS):Option (AV×AS):=match as with|[]=>some (.bool b,S)|_=>none
theorem xZ {Λ:LB} {P:Program} {f:FuncId} {fn:Func} {b:Bool} (hf:P.funcs[f]?=some fn) (hb:fn.body.isSome=true)
  (h:∀ w,Calls P f #[] w fun e w'=>e=.returned (.bool b)∧Below w.heap.size w w'):fP Λ P f (mw b):=by
 intro ρ as S w args v S' hR hl hq;cases as with
 | cons x xs=>cases hq
 | nil=>
  cases hq;simp only[au] at hl;have:args=#[]:=Array.ext' (by simpa using hl);subst this;refine ⟨⟨fn,hf,hb⟩,(h w).mono fun e w' he=>?_⟩;obtain ⟨h1,h2⟩:=hR.below he.2;exact ⟨.bool b,ρ,he.1,by simp[ah],h1,h2⟩
theorem call_fast {Λ:LB} {P:Program} {A:Ask} (h:nC P A) (hp:∀ x,x∈A.bG→fP Λ P x.1 x.2) (hg:∀ x,x∈A.eU→kQ Λ.w Λ.B x.1 x.2) (n:Nat) (f:FuncId) (b:Bool)
  (hs:true=CX P A n f b) (w:World) (hz:Λ.w.heap.size≤w.heap.size) (hb:∀ b,Λ.B b→b<Λ.w.heap.size∧w.heap[b]?=Λ.w.heap[b]?) :
  Calls P f #[] w fun e w'=>e=.returned (.bool b)∧Below w.heap.size w w':=
 BP h hp hg n f b (hs.trans (saysK_eq P A n f b)) w hz hb
theorem call_fast0 {P:Program} {A:Ask} (h:nC P A) (hp:∀ Λ:LB,∀ x,x∈A.bG→fP Λ P x.1 x.2) (hg:A.eU=[]) (n:Nat) (f:FuncId) (b:Bool) (hs:true=CX P A n f b) (w:World) :
  Calls P f #[] w fun e w'=>e=.returned (.bool b)∧Below w.heap.size w w':=
 call_fast (Λ:=⟨w,fun _=>False⟩) h (hp _) (by rw[hg];intro x hx;cases hx) n f b hs w (Nat.le_refl _) (fun _ hb=>hb.elim)
end Go.Am
namespace Go.Am
open Go
theorem find_range {α:Type} (p:α→Bool) (d:α):∀ (l:List α) (k:Nat) (g:Nat→α),(∀ i,i<l.length→g (i+k)=l.getD i d) →
  (List.range' k l.length).find? (fun i=>p (g i))=(l.findIdx? p).map (· + k)
 | [],k,g,_=>rfl
 | x :: l,k,g,h=>by
  have h0:g k=x:=by simpa using h 0 (by simp)
  rw[List.length_cons,List.range'_succ,List.find?_cons,h0,List.findIdx?_cons];cases p x with
  | true=>simp
  | false=>
   have ih:=find_range p d l (k+1) g (fun i hi=>by
    have:=h (i+1) (by simpa using hi);rw[show i+(k+1)=i+1+k by omega,this];simp)
   simp only[ih,Bool.false_eq_true,if_false,Option.map_map];congr 1;funext j;simp;omega
theorem zR (c:Nat):∀ (l:List UInt8) (i:Nat),u6 c (l.map UInt8.toNat) i=(l.findIdx? fun x=>Nat.beq x.toNat c).map (· + i)
 | [],i=>rfl
 | x :: l,i=>by
  show cond (Nat.beq x.toNat c) (some i) (u6 c (l.map UInt8.toNat) (i+1))=_;rw[zR c l (i+1),List.findIdx?_cons];cases Nat.beq x.toNat c with
  | true=>simp
  | false=>
   simp only[cond_false,Bool.false_eq_true,if_false,Option.map_map];congr 1;funext j;simp;omega
theorem yS (s:ByteArray) (c:Nat) (hc:c<256):Value.int .i64 (firstIdx s (c:Int).toNat.toUInt8)=(match u6 c (s.data.toList.map UInt8.toNat) 0 with|some n=>.int .i64 n|none=>.int .i64 (-1)):=by
 have hp:∀ x:UInt8,(x == (c:Int).toNat.toUInt8)=Nat.beq x.toNat c:=by
  intro x;rw[Int.toNat_natCast];have:(c.toUInt8).toNat=c:=by simp[Nat.mod_eq_of_lt hc]
  rw[Bool.eq_iff_iff,beq_iff_eq,Nat.beq_eq,←UInt8.toNat_inj,this]
 have e:(List.range s.size).find? (fun i=>s[i]! == (c:Int).toNat.toUInt8)=u6 c (s.data.toList.map UInt8.toNat) 0:=by
  rw[zR,←find_range (fun x:UInt8=>Nat.beq x.toNat c) 0 s.data.toList 0 (fun i=>s[i]!) (fun i hi=>by
   have cW:i<s.size:=by simpa using hi
   simp only[Nat.add_zero];rw[getElem!_pos s i cW,ByteArray.getElem_eq_getElem_data];simp[show s.data[i]?=some s.data[i] from Array.getElem?_eq_getElem cW]),List.range_eq_range']
  simp only[hp];congr 1
 unfold firstIdx;rw[e];cases u6 c (s.data.toList.map UInt8.toNat) 0<;>rfl
end Go.Am
