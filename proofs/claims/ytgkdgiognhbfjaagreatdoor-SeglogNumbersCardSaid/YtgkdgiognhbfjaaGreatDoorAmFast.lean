/-
  The abstract machine, so written that the kernel copies little: each operation's text stands under a name of its own.
-/
import Derived.Test.YtgkdgiognhbfjaaGreatDoorAmTop
noncomputable section
namespace Go.Am
open Go
set_option linter.unusedVariables false
def bE (_:Cx) (_:Fr) (_:Nat):Option (AV×bu):=none
def f_alloc (e:TypeId) (cx:Cx) (F:Fr) (id:Nat):Option (AV×bu):=
 match zeroOf cx e with
  | some z=>match cellsOf z with
   | some cs=>some (.ptr id 0 0 (c6 cs),.row cs 0 0 false e)
   | none=>none
  | none=>none
def f_box (t:TypeId) (x:Operand) (cx:Cx) (F:Fr) (id:Nat):Option (AV×bu):=
 match cellsOf (eval F x) with
  | some cs=>some (.ptr id 0 0 (c6 cs),.row cs 0 0 false t)
  | none=>none
def rD (t:TypeId) (n:Nat) (parts:Array (Nat×Operand)) (cx:Cx) (F:Fr) (id:Nat):Option (AV×bu):=
 match bm cx t with
  | some (.slice e)=>match aD cx e,zeroOf cx e with
   | some (Nat.succ z),some zv=>match cellsOf zv with
    | some zero=>cond (Nat.beq (c6 zero) (Nat.succ z)&&Nat.ble (Nat.mul n (Nat.succ z)) 16777216)
     (match dX cx F (fun i=>some (Nat.mul i (Nat.succ z),Nat.succ z)) parts.toList (fy n zero) with
     | some cells=>some (.slice id 0 0 n (Nat.mul n (Nat.succ z)) (Nat.succ z) (some n),.row cells 0 0 false e)
     | none=>none) none
    | none=>none
   | _,_=>none
  | _=>none
def zp (t:TypeId) (r:Option Operand) (cx:Cx) (F:Fr) (id:Nat):Option (AV×bu):=
 match bm cx t with
  | some (.map _ _)=>cond (n9 F r) (some (.map id,.map [] 0)) none
  | _=>none
def tT (t:TypeId) (l:Operand) (c:Operand) (cx:Cx) (F:Fr) (id:Nat):Option (AV×bu):=
 match bm cx t,dV (eval F l),dV (eval F c) with
  | some (.slice e),some l,some c=>match aD cx e,bytesOf cx e,zeroOf cx e with
   | some (Nat.succ z),some bs,some zv=>match cellsOf zv with
    | some zero=>cond (Nat.beq (c6 zero) (Nat.succ z)&&Nat.ble l c&&fits c bs)
     (some (.slice id 0 0 l (Nat.mul c (Nat.succ z)) (Nat.succ z) (some c),.row (fy c zero) 0 0 false e)) none
    | none=>none
   | _,_,_=>none
  | _,_,_=>none
def freshK (op:Op):Cx→Fr→Nat→Option (AV×bu):=@Op.rec (fun _=>Cx→Fr→Nat→Option (AV×bu)) (fun _=>bE) (fun _=>bE) (fun _ _ _=>bE) f_alloc f_box (fun _ _=>bE) rD (fun _ _ _ _=>bE) (fun _ _=>bE) (fun _ _ _=>bE) (fun _=>bE) (fun _=>bE) (fun _=>bE) (fun _ _ _ _ _=>bE) (fun _ _ _=>bE) (fun _ _ _=>bE) (fun _ _=>bE) (fun _ _=>bE) (fun _ _ _=>bE) zp (fun _ _=>bE) tT (fun _ _ _ _ _=>bE) (fun _ _ _=>bE) (fun _ _ _=>bE) (fun _ _ _=>bE) (fun _ _ _=>bE) (fun _ _ _ _=>bE) (fun _ _ _ _=>bE) (fun _ _ _=>bE) (fun _ _ _ _=>bE) (fun _ _=>bE) (fun _ _=>bE) (fun _=>bE) (fun _ _ _ _=>bE) (fun _ _=>bE) (fun _=>bE) (fun _=>bE) (fun _=>bE) (fun _=>bE) (fun _ _=>bE) (fun _ _ _=>bE) (fun _ _=>bE) op
theorem freshK_eq (op:Op) (cx:Cx) (F:Fr) (id:Nat):freshK op cx F id=al cx F id op:=by cases op<;>rfl
def k_move (x:Operand) (cx:Cx) (F:Fr) (S:AS):AR:=
 .val (eval F x) S
def k_assign (x:Operand) (cx:Cx) (F:Fr) (S:AS):AR:=
 .val (eval F x) S
def k_pick (c:Operand) (a:Operand) (b:Operand) (cx:Cx) (F:Fr) (S:AS):AR:=
 match eval F c with
  | .bool true=>.val (eval F a) S
  | .bool false=>.val (eval F b) S
  | _=>.err 20
def k_alloc (e:TypeId) (cx:Cx) (F:Fr) (S:AS):AR:=
 dT (f_alloc e cx F S.next) S 21
def k_box (t:TypeId) (x:Operand) (cx:Cx) (F:Fr) (S:AS):AR:=
 dT (f_box t x cx F S.next) S 23
def k_build (t:TypeId) (parts:Array (Nat×Operand)) (cx:Cx) (F:Fr) (S:AS):AR:=
 val? (kS cx F t parts.toList) S 24
def Ay (t:TypeId) (n:Nat) (parts:Array (Nat×Operand)) (cx:Cx) (F:Fr) (S:AS):AR:=
 dT (rD t n parts cx F S.next) S 25
def k_insert (t:TypeId) (m:Operand) (k:Operand) (v:Operand) (cx:Cx) (F:Fr) (S:AS):AR:=
 b8 (iQ cx S t (eval F m) (eval F k) (eval F v)) 79
def k_load (t:TypeId) (x:Operand) (cx:Cx) (F:Fr) (S:AS):AR:=
 match eval F x with
  | .ptr id g off aq=>match bp cx t with
   | some true=>match aD cx t with
    | some n=>match rd S id g off n aq with
     | some cs=>.val (.agg cs) S
     | none=>.err 30
    | none=>.err 31
   | some false=>match rd S id g off 1 aq with
    | some [v]=>.val v S
    | _=>.err 32
   | none=>.err 33
  | .mS g off=>match cx.fq.get g with
   | some cs=>val? (globV cx t cs off) S 133
   | none=>.err 134
  | _=>.err 34
def k_store (t:TypeId) (x:Operand) (y:Operand) (cx:Cx) (F:Fr) (S:AS):AR:=
 match eval F x,cellsOf (eval F y),aD cx t with
  | .ptr id g off aq,some cs,some n=>cond (Nat.beq (c6 cs) n) (match wr S id g off aq cs with
   | some S'=>.val .undef S'
   | none=>.err 35) (.err 36)
  | _,_,_=>.err 37
def k_ready (_:Nat) (_:Cx) (_:Fr) (_:AS):AR:=.err 99
def k_waits (_:Nat) (_:Cx) (_:Fr) (_:AS):AR:=.err 99
def k_nilCheck (x:Operand) (cx:Cx) (F:Fr) (S:AS):AR:=
 match eval F x with
  | .ptr i g o l=>.val (.ptr i g o l) S
  | .mS g o=>.val (.mS g o) S
  | .func (.func f) a b=>.val (.func (.func f) a b) S
  | .slice a b c d e f g=>.val (.slice a b c d e f g) S
  | .map i=>.val (.map i) S
  | .obj k i=>.val (.obj k i) S
  | _=>.err 38
def k_binOp (op:BinOp) (t:TypeId) (x:Operand) (y:Operand) (_x4:TypeId) (cx:Cx) (F:Fr) (S:AS):AR:=
 val? (br cx op t ((x matches .const _)||(y matches .const _)) (eval F x) (eval F y)) S 40
def k_unOp (op:UnOp) (_x1:TypeId) (x:Operand) (cx:Cx) (F:Fr) (S:AS):AR:=
 val? (unV op (eval F x)) S 41
def k_convert (src:TypeId) (dst:TypeId) (x:Operand) (cx:Cx) (F:Fr) (S:AS):AR:=
 match bm cx src,bm cx dst,eval F x with
  | some _,some (.int k),.int _ n=>.val (mkI k n) S
  | some _,some .string,.str s=>.val (.str s) S
  | some _,some (.slice e),.str s=>match bm cx e with
   | some (.int .u8)=>.val (.slice S.next 0 0 s.length s.length 1 none) ⟨S.h.set S.next (.row (kq (fun n=>AV.int .u8 (.ofNat n)) s) 0 0 true e),Nat.succ S.next⟩
   | _=>.err 42
  | some (.slice e),some .string,x=>match bm cx e,x with
   | some (.int .u8),.az=>.val (.str []) S
   | some (.int .u8),.slice id g off len aq 1 _=>match len with
    | 0=>.val (.str []) S
    | _=>match rd S id g off len aq with
     | some cs=>match ov cs with
      | some l=>.val (.str l) S
      | none=>.err 43
     | none=>.err 44
   | _,_=>.err 45
  | some (.slice _),some (.slice e),.slice id g off len aq sz cap=>cond (Nat.beq src dst&&Nat.blt 0 len) (match bm cx e,S.h.get id with
   | some (.int .u8),some (.row cells low top frz ty)=>cond (Nat.ble low g&&Nat.ble g top&&pY frz low) (.val (.slice id g off len aq sz cap) ⟨S.h.set id (.row cells low top true ty),S.next⟩) (.err 147)
   | _,_=>.err 145) (.err 146)
  | some (.pointer e),some .unsafePointer,.ptr id g off aq=>match aD cx e,S.h.get id with
   | some (Nat.succ _),some (.row _ low top _ _)=>cond (Nat.blt off aq&&Nat.ble low g&&Nat.ble g top) (.val (.ptr id g off aq) S) (.err 141)
   | _,_=>.err 142
  | some .unsafePointer,some (.pointer u),.ptr id g off aq=>match g,off,aD cx u,S.h.get id with
   | 0,0,some (Nat.succ z),some (.row _ low _ _ ty)=>cond (Nat.beq ty u&&Nat.ble (Nat.succ z) aq&&Nat.beq low 0) (.val (.ptr id 0 0 aq) S) (.err 143)
   | _,_,_,_=>.err 144
  | _,_,_=>.err 46
def nk (_:TypeId) (_:Operand) (_:Cx) (_:Fr) (_:AS):AR:=.err 99
def ur (t:TypeId) (x:Operand) (cx:Cx) (F:Fr) (S:AS):AR:=
 match bm cx t with
  | some (.interface _)=>.err 47
  | some _=>.val (.iface t (eval F x)) S
  | none=>.err 48
def k_makeFunc (fn:Fn) (first:Array Operand) (captured:Array Operand) (cx:Cx) (F:Fr) (S:AS):AR:=
 .val (.func fn (args F first) (args F captured)) S
def k_makeMap (t:TypeId) (r:Option Operand) (cx:Cx) (F:Fr) (S:AS):AR:=
 dT (zp t r cx F S.next) S 48
def k_makeChan (_:TypeId) (_:Operand) (_:Cx) (_:Fr) (_:AS):AR:=.err 99
def CY (t:TypeId) (l:Operand) (c:Operand) (cx:Cx) (F:Fr) (S:AS):AR:=
 dT (tT t l c cx F S.next) S 49
def k_slice (t:TypeId) (x:Operand) (lo:Option Operand) (hi:Option Operand) (mx:Option Operand) (cx:Cx) (F:Fr) (S:AS):AR:=
 val? (ek cx F t (eval F x) lo hi mx) S 53
def C2 (s:TypeId) (x:Operand) (f:Nat) (cx:Cx) (F:Fr) (S:AS):AR:=
 match bm cx s,eval F x with
  | some (.struct fs),.ptr id g off aq=>match nth f fs.toList with
   | some fd=>match aD cx fd.type with
    | some (Nat.succ _)=>.val (de (Nat.add off fd.offset) fun o=>.ptr id g o aq) S
    | _=>.err 54
   | none=>.err 55
  | _,_=>.err 56
def k_field (t:TypeId) (x:Operand) (f:Nat) (cx:Cx) (F:Fr) (S:AS):AR:=
 match bm cx t,eval F x with
  | some (.struct fs),.agg cs=>match nth f fs.toList with
   | some fd=>val? (partOf cx fd.type cs fd.offset) S 57
   | none=>.err 58
  | _,_=>.err 59
def CZ (t:TypeId) (x:Operand) (ix:Operand) (cx:Cx) (F:Fr) (S:AS):AR:=
 match bm cx t,eval F x,dV (eval F ix) with
  | some (.slice e),.slice id g off len aq sz _,some i=>match aD cx e with
   | some z=>cond (Nat.beq z sz&&Nat.blt i len) (.val (de (Nat.add off (Nat.mul i sz)) fun o=>.ptr id g o aq) S) (.err 60)
   | none=>.err 61
  | some (.array n e),.ptr id g off aq,some i=>match aD cx e with
   | some z=>cond (Nat.blt i n) (.val (de (Nat.add off (Nat.mul i z)) fun o=>.ptr id g o aq) S) (.err 62)
   | none=>.err 63
  | some (.array n e),.mS g off,some i=>match aD cx e with
   | some z=>cond (Nat.blt i n) (.val (de (Nat.add off (Nat.mul i z)) fun o=>.mS g o) S) (.err 162)
   | none=>.err 163
  | _,_,_=>.err 64
def k_index (t:TypeId) (x:Operand) (ix:Operand) (cx:Cx) (F:Fr) (S:AS):AR:=
 match bm cx t,eval F x,dV (eval F ix) with
  | some .string,.str s,some i=>match nth i s with
   | some n=>.val (.int .u8 (.ofNat n)) S
   | none=>.err 65
  | some (.array n e),.agg cs,some i=>match aD cx e with
   | some z=>cond (Nat.blt i n) (val? (partOf cx e cs (Nat.mul i z)) S 66) (.err 67)
   | none=>.err 68
  | _,_,_=>.err 70
def k_lookup (t:TypeId) (x:Operand) (ix:Operand) (ok:Bool) (cx:Cx) (F:Fr) (S:AS):AR:=
 val? (ig cx S t (eval F x) (eval F ix) ok) S 71
def CX (t:TypeId) (m:Operand) (k:Operand) (v:Operand) (cx:Cx) (F:Fr) (S:AS):AR:=
 b8 (iQ cx S t (eval F m) (eval F k) (eval F v)) 78
def k_mapEntry (t:TypeId) (m:Operand) (k:Operand) (cx:Cx) (F:Fr) (S:AS):AR:=
 b8 (u7 cx S t (eval F m) (eval F k)) 86
def Ax (_x0:TypeId) (m:Operand) (k:Operand) (v:Operand) (cx:Cx) (F:Fr) (S:AS):AR:=
 b8 (u6 S (eval F m) (eval F k) (eval F v)) 87
def k_range (t:TypeId) (x:Operand) (cx:Cx) (F:Fr) (S:AS):AR:=
 b8 (pU cx S t (eval F x)) 88
def k_next (x:Operand) (str:Bool) (cx:Cx) (F:Fr) (S:AS):AR:=
 lH S (eval F x) str
def k_entry (x:Operand) (cx:Cx) (F:Fr) (S:AS):AR:=
 val? (qh S (eval F x)) S 89
def Aw (x:Operand) (_x1:TypeId) (t:TypeId) (ok:Bool) (cx:Cx) (F:Fr) (S:AS):AR:=
 val? (iw cx (eval F x) t ok) S 85
def k_extract (x:Operand) (i:Nat) (cx:Cx) (F:Fr) (S:AS):AR:=
 match eval F x with
  | .tuple vs=>val? (nth i vs) S 82
  | _=>.err 83
def k_call (c:Call) (cx:Cx) (F:Fr) (S:AS):AR:=
 match c.callee with
  | .value f=>lS cx S (eval F f) (args F c.args)
  | .builtin b=>aV cx S b c.argTypes.toList (args F c.args)
  | .invoke _ _=>.err 84
def k_go (_:Call) (_:Cx) (_:Fr) (_:AS):AR:=.err 99
def k_defer (_:Call) (_:Cx) (_:Fr) (_:AS):AR:=.err 99
def k_panic (x:Operand) (cx:Cx) (F:Fr) (S:AS):AR:=
 match eval F x with
  | .iface t v=>.dj (.iface t v) S
  | _=>.err 98
def k_send (_:Operand) (_:Operand) (_:Cx) (_:Fr) (_:AS):AR:=.err 99
def k_recv (_:TypeId) (_:Operand) (_:Bool) (_:Cx) (_:Fr) (_:AS):AR:=.err 99
def k_select (_:Array SelectCase) (_:Bool) (_:Cx) (_:Fr) (_:AS):AR:=.err 99
def Ec (o:Oper):Cx→Fr→AS→AR:=@Op.rec (fun _=>Cx→Fr→AS→AR) k_move k_assign k_pick k_alloc k_box k_build Ay k_insert k_load k_store k_ready k_waits k_nilCheck k_binOp k_unOp k_convert nk ur k_makeFunc k_makeMap k_makeChan CY k_slice C2 k_field CZ k_index k_lookup CX k_mapEntry Ax k_range k_next k_entry Aw k_extract k_call k_go k_defer k_panic k_send k_recv k_select o.op
theorem By (o:Oper) (cx:Cx) (F:Fr) (S:AS):Ec o cx F S=bj cx F S o:=by
 obtain ⟨dst,op,ty,pos,after,guard⟩:=o;cases op<;>rfl
section
variable {β:Type}
def v_top (k:AV→β) (_:AV→β):β:=k .top
def v_bool (b:Bool) (k:AV→β) (_:AV→β):β:=k (.bool b)
def v_int (t:IntKind) (n:Int) (k:AV→β) (_:AV→β):β:=k (.int t n)
def v_str (s:List Nat) (k:AV→β) (_:AV→β):β:=k (.str s)
def v_nilp (k:AV→β) (_:AV→β):β:=k .dr
def v_ptr (a b c d:Nat) (k:AV→β) (_:AV→β):β:=k (.ptr a b c d)
def v_glob (a b:Nat) (k:AV→β) (_:AV→β):β:=k (.mS a b)
def v_nils (k:AV→β) (_:AV→β):β:=k .az
def v_slice (a b c d e f:Nat) (g:Option Nat) (k:AV→β) (_:AV→β):β:=k (.slice a b c d e f g)
def v_nilm (k:AV→β) (_:AV→β):β:=k .gV
def v_map (a:Nat) (k:AV→β) (_:AV→β):β:=k (.map a)
def v_func (f:Fn) (a b:List AV) (k:AV→β) (_:AV→β):β:=k (.func f a b)
def v_nilf (k:AV→β) (_:AV→β):β:=k .ko
def v_niface (k:AV→β) (_:AV→β):β:=k .bN
def v_iface (t:TypeId) (v:AV) (k:AV→β) (_:AV→β):β:=k (.iface t v)
def v_agg (l:List AV) (k:AV→β) (_:AV→β):β:=k (.agg l)
def v_tuple (l:List AV) (k:AV→β) (_:AV→β):β:=k (.tuple l)
def v_obj (o:OK) (i:Nat) (k:AV→β) (_:AV→β):β:=k (.obj o i)
def v_nilc (k:AV→β) (_:AV→β):β:=k .nilc
def v_pan (v:AV) (_:AV→β) (p:AV→β):β:=p v
def wC (v:AV):(AV→β)→(AV→β)→β:=
 @AV.casesOn (fun _=>(AV→β)→(AV→β)→β) v v_top v_bool v_int v_str v_nilp v_ptr v_glob v_nils v_slice v_nilm v_map v_func v_nilf v_niface v_iface v_agg v_tuple v_obj v_nilc v_pan
theorem rm (v:AV) (k p:AV→β):wC v k p=kM v p (k v):=by cases v<;>rfl
def De (S:AS) (k:AS→β):β:=@AS.rec (fun _=>β) (fun h n=>de n fun n=>k ⟨h,n⟩) S
theorem wD (S:AS) (k:AS→β):De S k=k S:=by
 obtain ⟨h,n⟩:=S;exact aA n fun n=>k ⟨h,n⟩
end
abbrev jo:=Fr→AS→aj (Option AV×Fr×AS)
def panK (F:Fr) (S:AS) (x:AV):aj (Option AV×Fr×AS):=.ok (some x,F,S) []
def contK (dst:Option Tmp) (ih:jo) (F:Fr) (v:AV) (S:AS):aj (Option AV×Fr×AS):=De S fun S=>wC v (fun v=>ih (aK F dst v) S) (panK F S)
theorem contK_eq (dst:Option Tmp) (ih:jo) (F:Fr) (v:AV) (S:AS):contK dst ih F v S=kM v (fun x=>.ok (some x,F,S) []) (ih (aK F dst v) S):=by
 unfold contK;rw[wD,rm];rfl
def yP (dst:Option Tmp) (ih:jo) (F:Fr) (r:Bool×AV×AS):aj (Option AV×Fr×AS):=cond r.1 (.ok (some r.2.1,F,r.2.2) []) (ih (aK F dst r.2.1) r.2.2)
def contV (dst:Option Tmp) (ih:jo) (F:Fr) (v:AV) (S:AS):aj (Option AV×Fr×AS):=De S fun S=>wC v (fun v=>ih (aK F dst v) S) (fun x=>ih (aK F dst (.dj x)) S)
theorem contV_eq (dst:Option Tmp) (ih:jo) (F:Fr) (v:AV) (S:AS):contV dst ih F v S=yP dst ih F (false,v,S):=by
 unfold contV;rw[wD,rm];cases v<;>rfl
def DM (dst:Option Tmp) (ih:jo) (F:Fr) (r:AV×AS):aj (Option AV×Fr×AS):=@Prod.rec AV AS (fun _=>aj (Option AV×Fr×AS)) (contK dst ih F) r
theorem DL (dst:Option Tmp) (ih:jo) (F:Fr):DM dst ih F=fun r=>aj.bind (qN r) (yP dst ih F):=by
 funext r;obtain ⟨v,S⟩:=r;show contK dst ih F v S=_;rw[contK_eq];cases v<;>rfl
def retV (r:AV×AS):Bool×AV×AS:=kM r.1 (fun x=>(true,x,r.2)) (false,r.1,r.2)
theorem retR_eq:qN=fun r=>.ok (retV r) []:=by
 funext r;obtain ⟨v,S⟩:=r;cases v<;>rfl
theorem tq {α β:Type} (x y:α) (ys:List α) (f:α→aj β):aj.bind (.ok x (y :: ys)) f=aj.app (f x) (aj.bind (.ok y ys) f):=by
 cases ys<;>rfl
theorem D0 {α β:Type} (φ:α→β):∀ (xs:List α) (x:α),aj.bind (.ok x xs) (fun x=>.ok (φ x) [])=.ok (φ x) (xs.map φ)
 | [],_=>rfl
 | y :: ys,x=>by rw[tq,D0 φ ys y];rfl
theorem bind_map {α β γ:Type} (φ:α→β) (g:β→aj γ):∀ (xs:List α) (x:α),aj.bind (.ok (φ x) (xs.map φ)) g=aj.bind (.ok x xs) fun x=>g (φ x)
 | [],_=>rfl
 | y :: ys,x=>by rw[List.map_cons,tq,tq,bind_map φ g ys y]
theorem DZ {γ:Type} (r:aj (AV×AS)) (g:Bool×AV×AS→aj γ):aj.bind (aj.bind r qN) g=aj.bind r fun x=>aj.bind (qN x) g:=by
 rw[retR_eq];cases r with
 | err n=>rfl
 | ok x xs=>rw[D0,bind_map];rfl
def r_err (n:Nat) (_:bh) (_:Option Tmp) (_:jo) (_:Fr):aj (Option AV×Fr×AS):=.err n
def r_val (v:AV) (S:AS) (_:bh) (dst:Option Tmp) (ih:jo) (F:Fr):aj (Option AV×Fr×AS):=contV dst ih F v S
def r_enter (f:FuncId) (as:List AV) (S:AS) (K:bh) (dst:Option Tmp) (ih:jo) (F:Fr):aj (Option AV×Fr×AS):=aj.bind (K (.fn f) as S) (DM dst ih F)
def r_round (f:Nat) (as:List AV) (S:AS) (K:bh) (dst:Option Tmp) (ih:jo) (F:Fr):aj (Option AV×Fr×AS):=aj.bind (K (.round f) as S) (DM dst ih F)
def r_pan (v:AV) (S:AS) (_:bh) (dst:Option Tmp) (ih:jo) (F:Fr):aj (Option AV×Fr×AS):=.ok (some v,F,S) []
def r_many (l:List (AV×AS)) (_:bh) (dst:Option Tmp) (ih:jo) (F:Fr):aj (Option AV×Fr×AS):=aj.bind (manyR l) (yP dst ih F)
def goK (r:AR):bh→Option Tmp→jo→Fr→aj (Option AV×Fr×AS):=
 @AR.rec (fun _=>bh→Option Tmp→jo→Fr→aj (Option AV×Fr×AS)) r_err r_val r_enter r_round r_pan r_many r
def wantK (cx:Cx) (K:bh) (o:Oper) (ih:jo) (F:Fr) (S:AS) (w:Bool):aj (Option AV×Fr×AS):=
 @Bool.rec (fun _=>aj (Option AV×Fr×AS)) (ih (aK F o.dst .undef) S) (goK (Ec o cx F S) K o.dst ih F) w
def guardK (cx:Cx) (K:bh) (o:Oper) (ih:jo) (F:Fr) (S:AS) (w:Option Bool):aj (Option AV×Fr×AS):=
 @Option.rec Bool (fun _=>aj (Option AV×Fr×AS)) (.err 1000) (wantK cx K o ih F S) w
def stepO (cx:Cx) (K:bh) (ops:List Oper) (o:Oper) (ih:jo) (F:Fr) (S:AS):aj (Option AV×Fr×AS):=
 @Option.rec (Nat×Bool) (fun _=>aj (Option AV×Fr×AS)) (goK (Ec o cx F S) K o.dst ih F) (fun _=>guardK cx K o ih F S (wanted ops F o)) o.guard
theorem goK_eq (r:AR) (K:bh) (dst:Option Tmp) (ih:jo) (F:Fr):goK r K dst ih F=aj.bind (match r with
  | .val v S=>.ok (false,v,S) []
  | .enter f as S=>aj.bind (K (.fn f) as S) qN
  | .round id as S=>aj.bind (K (.round id) as S) qN
  | .dj v S=>.ok (true,v,S) []
  | .many l=>manyR l
  | .err n=>.err n) (yP dst ih F):=by
 cases r with
 | err n=>rfl
 | val v S=>exact contV_eq dst ih F v S
 | enter f as S=>show aj.bind _ (DM dst ih F)=_;rw[DL];exact (DZ _ _).symm
 | round f as S=>show aj.bind _ (DM dst ih F)=_;rw[DL];exact (DZ _ _).symm
 | dj v S=>rfl
 | many l=>rfl
theorem stepO_eq (cx:Cx) (K:bh) (ops:List Oper) (o:Oper) (ih:jo) (F:Fr) (S:AS):stepO cx K ops o ih F S=aj.bind (one cx K ops o F S) (yP o.dst ih F):=by
 have key:guardK cx K o ih F S (wanted ops F o)=aj.bind (one cx K ops o F S) (yP o.dst ih F):=by
  unfold one;cases wanted ops F o with
  | none=>rfl
  | some b=>
   cases b with
   | false=>rfl
   | true=>
    show goK (Ec o cx F S) K o.dst ih F=_;rw[goK_eq,By];rfl
 unfold stepO;cases hg:o.guard with
 | some jw=>exact key
 | none=>
  have hw:wanted ops F o=some true:=by unfold wanted;rw[hg]
  rw[hw] at key;exact key
def deferK (cx : Cx) (ops : List Oper) (o : Oper) (c : Call) (ih : jo) (F : Fr) (S : AS) : aj (Option AV × Fr × AS) := match wanted ops F o with
        | some true=>match ka F c with
         | some d=>ih (aK ⟨F.t,F.n,d :: F.ds⟩ o.dst .undef) S
         | none=>.err 1009
        | some false=>ih (aK F o.dst .undef) S
        | none=>.err 1010
def oL (cx:Cx) (K:bh) (ops:List Oper) (l:List Oper):jo:=
 @List.rec Oper (fun _=>jo) (fun F S=>.ok (none,F,S) [])
  (fun o _ ih=>@Option.rec Call (fun _=>jo) (stepO cx K ops o ih) (fun c=>deferK cx ops o c ih) (db o)) l
theorem vA (cx:Cx) (K:bh) (ops:List Oper):∀ (l:List Oper) (F:Fr) (S:AS),oL cx K ops l F S=bB cx K ops l F S
 | [],F,S=>rfl
 | o :: l,F,S=>by
  have e:oL cx K ops l=bB cx K ops l:=by funext F S;exact vA cx K ops l F S
  show (@Option.rec Call (fun _=>jo) (stepO cx K ops o (oL cx K ops l)) (fun c=>deferK cx ops o c (oL cx K ops l)) (db o)) F S=(match db o with
   | none=>aj.bind (one cx K ops o F S) fun r=>cond r.1 (.ok (some r.2.1,F,r.2.2) []) (bB cx K ops l (aK F o.dst r.2.1) r.2.2)
   | some c=>match wanted ops F o with
    | some true=>match ka F c with
     | some d=>bB cx K ops l (aK ⟨F.t,F.n,d :: F.ds⟩ o.dst .undef) S
     | none=>.err 1009
    | some false=>bB cx K ops l (aK F o.dst .undef) S
    | none=>.err 1010)
  rw[e];cases db o with
  | none=>exact stepO_eq cx K ops o (bB cx K ops l) F S
  | some c=>rfl
def oneVR (r:AR):Option AV:=@AR.rec (fun _=>Option AV) (fun _=>none) (fun v _=>some v) (fun _ _ _=>none) (fun _ _ _=>none) (fun _ _=>none) (fun _=>none) r
def oneVW (cx:Cx) (o:Oper) (F:Fr) (S:AS) (w:Option Bool):Option AV:=
 @Option.rec Bool (fun _=>Option AV) none (fun b=>@Bool.rec (fun _=>Option AV) (some .undef) (oneVR (Ec o cx F S)) b) w
def oneVK (cx:Cx) (ops:List Oper) (F:Fr) (S:AS) (o:Oper):Option AV:=oneVW cx o F S (wanted ops F o)
theorem CI (cx:Cx) (ops:List Oper) (F:Fr) (S:AS) (o:Oper):oneVK cx ops F S o=dZ cx ops F S o:=by
 unfold oneVK dZ oneVW;cases wanted ops F o with
 | none=>rfl
 | some b=>
  cases b with
  | false=>rfl
  | true=>
   show oneVR (Ec o cx F S)=_;rw[By];simp only[];cases bj cx F S o<;>rfl
def oneRK (K:bh) (r:AR):aj (Bool×AV×AS):=
 match r with
 | .val v S=>.ok (false,v,S) []
 | .enter f as S=>aj.bind (K (.fn f) as S) qN
 | .round id as S=>aj.bind (K (.round id) as S) qN
 | .dj v S=>.ok (true,v,S) []
 | .many l=>manyR l
 | .err n=>.err n
def oneW (cx:Cx) (K:bh) (o:Oper) (F:Fr) (S:AS) (w:Option Bool):aj (Bool×AV×AS):=
 @Option.rec Bool (fun _=>aj (Bool×AV×AS)) (.err 1000) (fun b=>@Bool.rec (fun _=>aj (Bool×AV×AS)) (.ok (false,.undef,S) []) (oneRK K (Ec o cx F S)) b) w
def oneK (cx:Cx) (K:bh) (ops:List Oper) (o:Oper) (F:Fr) (S:AS):aj (Bool×AV×AS):=oneW cx K o F S (wanted ops F o)
theorem oneK_eq (cx:Cx) (K:bh) (ops:List Oper) (o:Oper) (F:Fr) (S:AS):oneK cx K ops o F S=one cx K ops o F S:=by
 unfold oneK one oneW;cases wanted ops F o with
 | none=>rfl
 | some b=>
  cases b with
  | false=>rfl
  | true=>
   show oneRK K (Ec o cx F S)=_;rw[By];rfl
abbrev gT:=Option (Nat×AV×AS)×Fr×AS×List AS
abbrev l5:=Fr→AS→List cQ→List AS→Nat→aj gT
def rowNil (F:Fr) (S:AS) (ps:List cQ) (ax:List AS) (_:Nat):aj gT:=.ok (none,F,aU (fun _=>true) ps S,S :: ax) []
def rowValV (dst:Option Tmp) (ih:l5) (F:Fr) (S:AS) (ps:List cQ) (ax:List AS) (id:Nat) (v:AV):aj gT:=wC v (fun v=>ih (aK F dst v) S ps ax id) (fun x=>ih (aK F dst (.dj x)) S ps ax id)
def Ab (cx:Cx) (_:bh) (ops:List Oper) (r:Row) (_:List Row) (ih:l5) (F:Fr) (S:AS) (ps:List cQ) (ax:List AS) (id:Nat):aj gT:=
 @Option.rec AV (fun _=>aj gT) (.err 1006) (rowValV r.o.dst ih F S ps ax id) (oneVK cx ops F S r.o)
def rowPan (l:List Row) (i:Nat) (F:Fr) (S0:AS) (ax:List AS) (r:AV×AS):aj gT:=cond (eA (fun q=>bit q.cN i) l) (.ok (some (i,r.1,r.2),F,S0,ax) []) (.err 1007)
def rowEffP (l:List Row) (i:Nat) (S0:AS) (dst:Option Tmp) (ih:l5) (F:Fr) (BH:List cQ) (ax:List AS) (id:Nat) (q:Bool×AV×AS):aj gT:=
 @Prod.rec Bool (AV×AS) (fun _=>aj gT) (fun b r=>@Bool.rec (fun _=>aj gT) (@Prod.rec AV AS (fun _=>aj gT) (fun v S=>De S fun S=>wC v (fun v=>ih (aK F dst v) S BH ax id) (fun x=>ih (aK F dst (.dj x)) S BH ax id)) r) (rowPan l i F S0 ax r) b) q
def rowEff (cx:Cx) (K:bh) (ops:List Oper) (r:Row) (l:List Row) (ih:l5) (F:Fr) (S:AS) (ps:List cQ) (ax:List AS) (id:Nat):aj gT:=
 aj.bind (aj.ug (oneK cx K ops r.o F (aU (fun p=>bit r.cN p.i) ps S))) (rowEffP l r.i S r.o.dst ih F (fD (fun p=>!bit r.cN p.i) ps) (S :: ax) id)
def rowFreshV (dst:Option Tmp) (i:Nat) (ih:l5) (F:Fr) (S:AS) (ps:List cQ) (ax:List AS) (id:Nat) (x:AV×bu):aj gT:=
 @Prod.rec AV bu (fun _=>aj gT) (fun v o=>ih (aK F dst v) S (⟨i,id,o⟩ :: ps) ax (Nat.succ id)) x
def yE (cx:Cx) (r:Row) (ih:l5) (F:Fr) (S:AS) (ps:List cQ) (ax:List AS) (id:Nat) (b:Bool):aj gT:=
 @Bool.rec (fun _=>aj gT) (ih (aK F r.o.dst .undef) S ps ax id) (@Option.rec (AV×bu) (fun _=>aj gT) (.err 1001) (rowFreshV r.o.dst r.i ih F S ps ax id) (freshK r.o.op cx F id)) b
def vB (cx:Cx) (_:bh) (ops:List Oper) (r:Row) (_:List Row) (ih:l5) (F:Fr) (S:AS) (ps:List cQ) (ax:List AS) (id:Nat):aj gT:=
 @Option.rec Bool (fun _=>aj gT) (.err 1002) (yE cx r ih F S ps ax id) (wanted ops F r.o)
def rowStep (c:Cls):Cx→bh→List Oper→Row→List Row→l5→l5:=@Cls.rec (fun _=>Cx→bh→List Oper→Row→List Row→l5→l5) Ab Ab rowEff vB c
def qL (cx:Cx) (K:bh) (ops:List Oper) (l:List Row):l5:=@List.rec Row (fun _=>l5) rowNil (fun r l ih=>rowStep r.cls cx K ops r l ih) l
theorem tH (cx:Cx) (K:bh) (ops:List Oper):∀ (l:List Row),qL cx K ops l=aR cx K ops l
 | []=>rfl
 | r :: l=>by
  funext F S ps ax id;have e:qL cx K ops l=aR cx K ops l:=tH cx K ops l;show rowStep r.cls cx K ops r l (qL cx K ops l) F S ps ax id=(match r.cls with
   | .fresh=>match wanted ops F r.o with
    | some true=>match al cx F id r.o.op with
     | some (v,x)=>aR cx K ops l (aK F r.o.dst v) S (⟨r.i,id,x⟩ :: ps) ax (Nat.succ id)
     | none=>.err 1001
    | some false=>aR cx K ops l (aK F r.o.dst .undef) S ps ax id
    | none=>.err 1002
   | .wT=>aj.bind (aj.ug (one cx K ops r.o F (aU (fun p=>bit r.cN p.i) ps S))) fun q=>cond q.1 (cond (eA (fun q=>bit q.cN r.i) l) (.ok (some (r.i,q.2.1,q.2.2),F,S,S :: ax) []) (.err 1007)) (aR cx K ops l (aK F r.o.dst q.2.1) q.2.2 (fD (fun p=>!bit r.cN p.i) ps) (S :: ax) id)
   | _=>match dZ cx ops F S r.o with
    | some v=>aR cx K ops l (aK F r.o.dst v) S ps ax id
    | none=>.err 1006)
  rw[e];have val:Ab cx K ops r l (aR cx K ops l) F S ps ax id=(match dZ cx ops F S r.o with
    | some v=>aR cx K ops l (aK F r.o.dst v) S ps ax id
    | none=>.err 1006):=by
   unfold Ab rowValV;rw[CI];cases dZ cx ops F S r.o with
   | none=>rfl
   | some v=>
    show wC v _ _=_;rw[rm];cases v<;>rfl
  cases r.cls with
  | pure=>exact val
  | read=>exact val
  | wT=>
   show rowEff cx K ops r l (aR cx K ops l) F S ps ax id=_;unfold rowEff;rw[oneK_eq];congr 1;funext q;obtain ⟨b,v,S'⟩:=q;cases b with
   | true=>rfl
   | false=>
    have h0:rowEffP l r.i S r.o.dst (aR cx K ops l) F (fD (fun p=>!bit r.cN p.i) ps) (S :: ax) id (false,v,S')=De S' (fun S2=>wC v (fun v=>aR cx K ops l (aK F r.o.dst v) S2 (fD (fun p=>!bit r.cN p.i) ps) (S :: ax) id) (fun x=>aR cx K ops l (aK F r.o.dst (.dj x)) S2 (fD (fun p=>!bit r.cN p.i) ps) (S :: ax) id)):=rfl;rw[h0,wD,rm];cases v<;>rfl
  | fresh=>
   show vB cx K ops r l (aR cx K ops l) F S ps ax id=_;unfold vB yE;rw[freshK_eq];cases wanted ops F r.o with
   | none=>rfl
   | some b=>
    cases b with
    | false=>rfl
    | true=>cases al cx F id r.o.op<;>rfl
def sameAt (cx : Cx) (ops : List Oper) (F : Fr) (o : Oper) (v : AV) (S : AS) : Bool := match oneVK cx ops F S o with
        | some u=>cq 8 v u
        | none=>false
def zL (cx:Cx) (ops:List Oper) (rows:List Row) (F:Fr) (ax:List AS) (r:Row):Bool:=
 let Dz:=fD (fun e=>bo e.cls) rows
 let lo:=dD (fun e=>bit r.cN e.i) Dz
 let hi:=dD (fun e=>!bit e.cN r.i) Dz
 let may:=takeN (Nat.succ (Nat.sub hi lo)) (kF lo ax)
 match may with
 | [_]=>true
 | _=>match r.o.dst with
  | some d=>cond (Nat.blt d F.n) (match F.t.get d with
   | some v=>eA (sameAt cx ops F r.o v) may
   | none=>false) false
  | none=>false
theorem windowK_eq (cx:Cx) (ops:List Oper) (rows:List Row) (F:Fr) (ax:List AS) (r:Row):zL cx ops rows F ax r=hZ cx ops rows F ax r:=by
 unfold zL hZ sameAt;simp only[CI];rfl
def uI (cx:Cx) (ops:List Oper) (rows:List Row) (F:Fr) (ax:List AS):Bool:=eA (fun q=>cond (dC q.cls) (zL cx ops rows F ax q) true) rows
theorem vd (cx:Cx) (ops:List Oper) (rows:List Row) (F:Fr) (ax:List AS):uI cx ops rows F ax=kJ cx ops rows F ax:=by
 unfold uI kJ;simp only[windowK_eq]
def wY (cx:Cx) (ops:List Oper) (rows:List Row) (r:gT):aj (Option AV×Fr×AS):=
 match r.1 with
 | none=>cond (uI cx ops rows r.2.1 (sk r.2.2.2)) (.ok (none,r.2.1,r.2.2.1) []) (.err 1003)
 | some (i,v,S)=>cond (uI cx ops (takeN i rows) r.2.1 (sk r.2.2.2)) (.ok (some v,BX rows r.2.1,S) []) (.err 1003)
theorem DD (cx:Cx) (ops:List Oper) (rows:List Row) (r:gT):wY cx ops rows r=kE cx ops rows r:=by
 unfold wY kE;obtain ⟨o,F,S,sn⟩:=r;cases o with
 | none=>simp only[vd]
 | some p=>simp only[vd]
def drawnGo (cx:Cx) (K:bh) (ops:List Oper) (F:Fr) (S:AS) (rows:List Row):aj (Option AV×Fr×AS):=
 cond (fV ops rows) (aj.bind (qL cx K ops rows F ⟨S.h,Nat.add S.next (dD (fun r=>bz r.cls) rows)⟩ [] [] S.next) (wY cx ops rows)) (.err 1004)
def oM (cx:Cx) (K:bh) (ops:List Oper) (F:Fr) (S:AS):aj (Option AV×Fr×AS):=drawnGo cx K ops F S (settle (cM cx ops))
theorem Aa (cx:Cx) (K:bh) (ops:List Oper) (F:Fr) (S:AS):oM cx K ops F S=c9 cx K ops F S:=by
 unfold oM drawnGo c9;simp only[tH];congr 2;funext r;exact DD _ _ _ _
abbrev Ih:=Code→Fr→AS→aj Out
def e_region (id:Nat) (ops:Array Oper) (draw:Bool) (cx:Cx) (n:Nat) (ih:Ih) (F:Fr) (S:AS):aj Out:=
 cond draw (aj.bind (oM cx (bt cx ih) ops.toList F S) fun r=>match r.1 with
   | none=>.ok ⟨.normal,r.2.1,r.2.2⟩ []
   | some v=>.ok ⟨.dj v,r.2.1,r.2.2⟩ [])
  (aj.bind (oL cx (bt cx ih) ops.toList ops.toList F S) fun r=>match r.1 with
   | none=>.ok ⟨.normal,r.2.1,r.2.2⟩ []
   | some v=>.ok ⟨.dj v,r.2.1,r.2.2⟩ [])
def e_seq (a b : Code) (cx : Cx) (n : Nat) (ih : Ih) (F : Fr) (S : AS) : aj Out := aj.bind (ih a F S) fun o => match o.ex with
      | .normal=>ih b o.F o.S
      | _=>.ok o []
def e_cond (x : Operand) (a b : Code) (cx : Cx) (n : Nat) (ih : Ih) (F : Fr) (S : AS) : aj Out := match eval F x with
      | .bool true=>ih a F S
      | .bool false=>ih b F S
      | _=>.err 3001
def e_block (id : Nat) (b : Code) (cx : Cx) (n : Nat) (ih : Ih) (F : Fr) (S : AS) : aj Out := aj.bind (ih b F S) fun o => match o.ex with
      | .exit j=>cond (Nat.beq j id) (.ok ⟨.normal,o.F,o.S⟩ []) (.ok o [])
      | _=>.ok o []
def e_loop (b : Code) (cx : Cx) (n : Nat) (ih : Ih) (F : Fr) (S : AS) : aj Out := aj.bind (ih b F S) fun o => match o.ex with
      | .normal=>ih (.loop b) o.F o.S
      | _=>.ok o []
def e_skip (cx:Cx) (n:Nat) (ih:Ih) (F:Fr) (S:AS):aj Out:=.ok ⟨.normal,F,S⟩ []
def e_ret (cx:Cx) (n:Nat) (ih:Ih) (F:Fr) (S:AS):aj Out:=.ok ⟨.ret,F,S⟩ []
def e_exit (id:Nat) (cx:Cx) (n:Nat) (ih:Ih) (F:Fr) (S:AS):aj Out:=.ok ⟨.exit id,F,S⟩ []
def e_scope (b:Code) (cx:Cx) (n:Nat) (ih:Ih) (F:Fr) (S:AS):aj Out:=mr ih b n b F S
def e_label (l:Nat) (cx:Cx) (n:Nat) (ih:Ih) (F:Fr) (S:AS):aj Out:=.ok ⟨.normal,F,S⟩ []
def e_goto (l:Nat) (cx:Cx) (n:Nat) (ih:Ih) (F:Fr) (S:AS):aj Out:=.ok ⟨.goto l,F,S⟩ []
def e_range (x:Operand) (ps:Array Tmp) (a b:Code) (cx:Cx) (n:Nat) (ih:Ih) (F:Fr) (S:AS):aj Out:=mD cx ih x ps a b F S
def e_refuse (s:String) (cx:Cx) (n:Nat) (ih:Ih) (F:Fr) (S:AS):aj Out:=.err 3002
def stepK (c:Code):Cx→Nat→Ih→Fr→AS→aj Out:=
 @Code.casesOn (fun _=>Cx→Nat→Ih→Fr→AS→aj Out) c e_skip e_region e_seq e_cond e_block e_loop e_range e_exit e_scope e_label e_goto e_ret e_refuse
def execK (cx:Cx) (n:Nat):Code→Fr→AS→aj Out:=
 Nat.rec (motive:=fun _=>Code→Fr→AS→aj Out) (fun _ _ _=>.err 3000) (fun n ih c F S=>stepK c cx n ih F S) n
theorem execK_eq (cx:Cx):∀ n,execK cx n=exec cx n:=by
 intro n
 induction n with
 | zero=>rfl
 | succ n ih=>
  funext c F S;have e1:execK cx (n+1) c F S=stepK c cx n (execK cx n) F S:=rfl;rw[e1,ih];cases c with
  | region id ops draw=>
   cases draw with
   | true=>
    show (aj.bind (oM cx (bt cx (exec cx n)) ops.toList F S) _)=aj.bind (c9 cx (bt cx (exec cx n)) ops.toList F S) _;rw[Aa];rfl
   | false=>
    show (aj.bind (oL cx (bt cx (exec cx n)) ops.toList ops.toList F S) _)=aj.bind (bB cx (bt cx (exec cx n)) ops.toList ops.toList F S) _;rw[vA];rfl
  | _=>rfl
def callK (cx:Cx) (n:Nat) (f:FuncId) (as:List AV) (S:AS):aj (AV×AS):=bt cx (execK cx n) (.fn f) as S
def Ch (P:Program) (A:Ask) (n:Nat) (f:FuncId) (b:Bool):Bool:=isB b (callK (pX P A) n f [] ⟨.leaf,0⟩)
theorem saysK_eq (P:Program) (A:Ask) (n:Nat) (f:FuncId) (b:Bool):Ch P A n f b=says P A n f b:=by
 unfold Ch callK says call;rw[execK_eq]
end Go.Am
end
namespace Go.Am
open Go Go.RowKit
theorem R.below {Λ:LB} {ρ:aB} {S:AS} {w w':World} (h:R Λ ρ S w) (hb:Below w.heap.size w w'):R Λ ρ S w'∧Kp ρ S w ρ S w':=by
 have hs:∀ b,b<w.heap.size→w'.heap[b]?=w.heap[b]?:=fun b Dj=>hb.block b Dj;refine ⟨⟨fun id o ho=>(h.eC id o ho).b6 (Ext.refl _) fun g pl hp=>hs _ (h.lt id o g pl ho hp),h.rX,h.fresh,h.mh,fun id o g pl ho hp=>Nat.lt_of_lt_of_le (h.lt id o g pl ho hp) hb.size,h.apart,Nat.le_trans h.start hb.size,fun b hB=>?_⟩,
  ⟨Ext.refl _,hb.os,hb.tape,hb.output,hb.size,fun b uB _=>hs b uB,fun _ h=>.inl h,fun _ h=>.inl h,Nat.le_refl _,fun _ _ _ h=>⟨rfl,h⟩⟩⟩
 obtain ⟨d1,d2,d3⟩:=h.base b hB;exact ⟨d1,(hs b (Nat.lt_of_lt_of_le d1 h.start)).trans d2,d3⟩
noncomputable def ox (b:Bool) (as:List AV) (S:AS):Option (AV×AS):=match as with|[]=>some (.bool b,S)|_=>none
theorem xk {Λ:LB} {P:Program} {f:FuncId} {fn:Func} {b:Bool} (hf:P.funcs[f]?=some fn) (hb:fn.body.isSome=true)
  (h:∀ w,Calls P f #[] w fun e w'=>e=.returned (.bool b)∧Below w.heap.size w w'):fk Λ P f (ox b):=by
 intro ρ as S w args v S' hR hl hq;cases as with
 | cons x xs=>cases hq
 | nil=>
  cases hq;simp only[ak] at hl;have:args=#[]:=Array.ext' (by simpa using hl);subst this;refine ⟨⟨fn,hf,hb⟩,(h w).mono fun e w' he=>?_⟩;obtain ⟨h1,h2⟩:=hR.below he.2;exact ⟨.bool b,ρ,he.1,by simp[ah],h1,h2⟩
theorem call_fast {Λ:LB} {P:Program} {A:Ask} (h:oD P A) (hp:∀ x,x∈A.cy→fk Λ P x.1 x.2) (hg:∀ x,x∈A.fq→kk Λ.w Λ.B x.1 x.2) (n:Nat) (f:FuncId) (b:Bool)
  (hs:true=Ch P A n f b) (w:World) (hz:Λ.w.heap.size≤w.heap.size) (hb:∀ b,Λ.B b→b<Λ.w.heap.size∧w.heap[b]?=Λ.w.heap[b]?) :
  Calls P f #[] w fun e w'=>e=.returned (.bool b)∧Below w.heap.size w w':=
 Bj h hp hg n f b (hs.trans (saysK_eq P A n f b)) w hz hb
theorem call_fast0 {P:Program} {A:Ask} (h:oD P A) (hp:∀ Λ:LB,∀ x,x∈A.cy→fk Λ P x.1 x.2) (hg:A.fq=[]) (n:Nat) (f:FuncId) (b:Bool) (hs:true=Ch P A n f b) (w:World) :
  Calls P f #[] w fun e w'=>e=.returned (.bool b)∧Below w.heap.size w w':=
 call_fast (Λ:=⟨w,fun _=>False⟩) h (hp _) (by rw[hg];intro x hx;cases hx) n f b hs w (Nat.le_refl _) (fun _ hb=>hb.elim)
end Go.Am
