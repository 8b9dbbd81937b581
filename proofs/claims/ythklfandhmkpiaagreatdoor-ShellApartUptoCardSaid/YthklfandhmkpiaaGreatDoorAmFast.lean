/-
  The abstract machine, so written that the kernel copies little: each operation's text stands under a name of its own.
-/
import Derived.Test.YthklfandhmkpiaaGreatDoorAmTop
open Nat renaming mul->zza,beq->zzb,blt->zzc,ble->zzd
set_option linter.unusedVariables false
noncomputable section
namespace Go.Am
open Go
def cf(_:Cx)(_:Fr)(_:Nat):Option (AV×dp):=none
def f_alloc(e:TypeId)(cx:Cx)(F:Fr)(id:Nat):Option (AV×dp):=
 match zeroOf cx e with
  |some z=>match cellsOf z with
   |some cs=>some (.ptr id 0 0 (dN cs),.row cs 0 0 false e)
   |none=>none
  |none=>none
def f_box(t:TypeId)(x:Operand)(cx:Cx)(F:Fr)(id:Nat):Option (AV×dp):=
 match cellsOf (eval F x)with
  |some cs=>some (.ptr id 0 0 (dN cs),.row cs 0 0 false t)
  |none=>none
def rr(t:TypeId)(n:Nat)(parts:Array (Nat×Operand))(cx:Cx)(F:Fr)(id:Nat):Option (AV×dp):=
 match bJ cx t with
  |some (.slice e)=>match aH cx e,zeroOf cx e with
   |some (Nat.succ z),some zv=>match cellsOf zv with
    |some zero=>cond (zzb (dN zero) (Nat.succ z)&&zzd (zza n (Nat.succ z)) 16777216)
     (match e9 cx F (fun i=>some (zza i (Nat.succ z),Nat.succ z)) parts.toList (fD n zero)with
     |some cells=>some (.slice id 0 0 n (zza n (Nat.succ z)) (Nat.succ z) (some n),.row cells 0 0 false e)
     |none=>none) none
    |none=>none
   |_,_=>none
  |_=>none
def zp(t:TypeId)(r:Option Operand)(cx:Cx)(F:Fr)(id:Nat):Option (AV×dp):=
 match bJ cx t with
  |some (.map _ _)=>cond (oz F r) (some (.map id,.map [] 0)) none
  |_=>none
def tz(t:TypeId)(l:Operand)(c:Operand)(cx:Cx)(F:Fr)(id:Nat):Option (AV×dp):=
 match bJ cx t,eY (eval F l),eY (eval F c)with
  |some (.slice e),some l,some c=>match aH cx e,bytesOf cx e,zeroOf cx e with
   |some (Nat.succ z),some bs,some zv=>match cellsOf zv with
    |some zero=>cond (zzb (dN zero) (Nat.succ z)&&zzd l c&&fits c bs)
     (some (.slice id 0 0 l (zza c (Nat.succ z)) (Nat.succ z) (some c),.row (fD c zero) 0 0 false e)) none
    |none=>none
   |_,_,_=>none
  |_,_,_=>none
def freshK(op:Op):Cx->Fr->Nat->Option (AV×dp):=@Op.rec (fun _=>Cx->Fr->Nat->Option (AV×dp)) (fun _=>cf) (fun _=>cf) (fun _ _ _=>cf) f_alloc f_box (fun _ _=>cf) rr (fun _ _ _ _=>cf) (fun _ _=>cf) (fun _ _ _=>cf) (fun _=>cf) (fun _=>cf) (fun _=>cf) (fun _ _ _ _ _=>cf) (fun _ _ _=>cf) (fun _ _ _=>cf) (fun _ _=>cf) (fun _ _=>cf) (fun _ _ _=>cf) zp (fun _ _=>cf) tz (fun _ _ _ _ _=>cf) (fun _ _ _=>cf) (fun _ _ _=>cf) (fun _ _ _=>cf) (fun _ _ _=>cf) (fun _ _ _ _=>cf) (fun _ _ _ _=>cf) (fun _ _ _=>cf) (fun _ _ _ _=>cf) (fun _ _=>cf) (fun _ _=>cf) (fun _=>cf) (fun _ _ _ _=>cf) (fun _ _=>cf) (fun _=>cf) (fun _=>cf) (fun _=>cf) (fun _=>cf) (fun _ _=>cf) (fun _ _ _=>cf) (fun _ _=>cf) op
theorem freshK_eq(op:Op)(cx:Cx)(F:Fr)(id:Nat):freshK op cx F id=aO cx F id op:=by cases op<;>rfl
def k_move(x:Operand)(cx:Cx)(F:Fr)(S:AS):AR:=
 .val (eval F x) S
def k_assign(x:Operand)(cx:Cx)(F:Fr)(S:AS):AR:=
 .val (eval F x) S
def k_pick(c:Operand)(a:Operand)(b:Operand)(cx:Cx)(F:Fr)(S:AS):AR:=
 match eval F c with
  | .bool true=>.val (eval F a) S
  | .bool false=>.val (eval F b) S
  |_=>.err 20
def k_alloc(e:TypeId)(cx:Cx)(F:Fr)(S:AS):AR:=
 eR (f_alloc e cx F S.nx) S 21
def k_box(t:TypeId)(x:Operand)(cx:Cx)(F:Fr)(S:AS):AR:=
 eR (f_box t x cx F S.nx) S 23
def k_build(t:TypeId)(parts:Array (Nat×Operand))(cx:Cx)(F:Fr)(S:AS):AR:=
 val? (lF cx F t parts.toList) S 24
def AJ(t:TypeId)(n:Nat)(parts:Array (Nat×Operand))(cx:Cx)(F:Fr)(S:AS):AR:=
 eR (rr t n parts cx F S.nx) S 25
def k_insert(t:TypeId)(m:Operand)(k:Operand)(v:Operand)(cx:Cx)(F:Fr)(S:AS):AR:=
 dO (mH cx S t (eval F m) (eval F k) (eval F v)) 79
def k_load(t:TypeId)(x:Operand)(cx:Cx)(F:Fr)(S:AS):AR:=
 match eval F x with
  | .ptr id g off aM=>match aX cx t with
   |some true=>match aH cx t with
    |some n=>match rd S id g off n aM with
     |some cs=>.val (.agg cs) S
     |none=>.err 30
    |none=>.err 31
   |some false=>match rd S id g off 1 aM with
    |some [v]=>.val v S
    |_=>.err 32
   |none=>.err 33
  | .kM g off=>match cx.eZ.get g with
   |some cs=>val? (DH cx t cs off) S 133
   |none=>.err 134
  |_=>.err 34
def k_store(t:TypeId)(x:Operand)(y:Operand)(cx:Cx)(F:Fr)(S:AS):AR:=
 match eval F x,cellsOf (eval F y),aH cx t with
  | .ptr id g off aM,some cs,some n=>cond (zzb (dN cs) n) (match wr S id g off aM cs with
   |some S'=>.val .undef S'
   |none=>.err 35) (.err 36)
  |_,_,_=>.err 37
def k_ready(_:Nat)(_:Cx)(_:Fr)(_:AS):AR:=.err 99
def k_waits(_:Nat)(_:Cx)(_:Fr)(_:AS):AR:=.err 99
def k_nilCheck(x:Operand)(cx:Cx)(F:Fr)(S:AS):AR:=
 match eval F x with
  | .ptr i g o l=>.val (.ptr i g o l) S
  | .kM g o=>.val (.kM g o) S
  | .func (.func f) a b=>.val (.func (.func f) a b) S
  | .slice a b c d e f g=>.val (.slice a b c d e f g) S
  | .map i=>.val (.map i) S
  | .obj .yld i=>.val (.obj .yld i) S
  | .obj .chan i=>.val (.obj .chan i) S
  |_=>.err 38
def k_binOp(op:BinOp)(t:TypeId)(x:Operand)(y:Operand)(_x4:TypeId)(cx:Cx)(F:Fr)(S:AS):AR:=
 val? (bI cx op t ((x matches .const _)||(y matches .const _)) (eval F x) (eval F y)) S 40
def k_unOp(op:UnOp)(_x1:TypeId)(x:Operand)(cx:Cx)(F:Fr)(S:AS):AR:=
 val? (unV op (eval F x)) S 41
def k_convert(src:TypeId)(dst:TypeId)(x:Operand)(cx:Cx)(F:Fr)(S:AS):AR:=
 match bJ cx src,bJ cx dst,eval F x with
  |some _,some (.int k),.int _ n=>.val (mkI k n) S
  |some _,some .string,.str s=>.val (.str s) S
  |some _,some (.slice e),.str s=>match bJ cx e with
   |some (.int .u8)=>.val (.slice S.nx 0 0 s.length s.length 1 none) ⟨S.h.set S.nx (.row (jt (fun n=>AV.int .u8 (.ofNat n)) s) 0 0 true e),Nat.succ S.nx⟩
   |_=>.err 42
  |some (.slice e),some .string,x=>match bJ cx e,x with
   |some (.int .u8),.ar=>.val (.str []) S
   |some (.int .u8),.slice id g off len aM 1 _=>match len with
    |0=>.val (.str []) S
    |_=>match rd S id g off len aM with
     |some cs=>match oE cs with
      |some l=>.val (.str l) S
      |none=>.err 43
     |none=>.err 44
   |_,_=>.err 45
  |some (.slice _),some (.slice e),.slice id g off len aM sz cap=>cond (zzb src dst&&zzc 0 len) (match bJ cx e,S.h.get id with
   |some (.int .u8),some (.row cells low top frz ty)=>cond (zzd low g&&zzd g top&&mY frz low) (.val (.slice id g off len aM sz cap) ⟨S.h.set id (.row cells low top true ty),S.nx⟩) (.err 147)
   |_,_=>.err 145) (.err 146)
  |some (.pointer e),some .unsafePointer,.ptr id g off aM=>match aH cx e,S.h.get id with
   |some (Nat.succ _),some (.row _ low top _ _)=>cond (zzc off aM&&zzd low g&&zzd g top) (.val (.ptr id g off aM) S) (.err 141)
   |_,_=>.err 142
  |some .unsafePointer,some (.pointer u),.ptr id g off aM=>match g,off,aH cx u,S.h.get id with
   |0,0,some (Nat.succ z),some (.row _ low _ _ ty)=>cond (zzb ty u&&zzd (Nat.succ z) aM&&zzb low 0) (.val (.ptr id 0 0 aM) S) (.err 143)
   |_,_,_,_=>.err 144
  |_,_,_=>.err 46
def nL(_:TypeId)(_:Operand)(_:Cx)(_:Fr)(_:AS):AR:=.err 99
def tK(t:TypeId)(x:Operand)(cx:Cx)(F:Fr)(S:AS):AR:=
 match bJ cx t with
  |some (.interface _)=>.err 47
  |some _=>.val (.iface t (eval F x)) S
  |none=>.err 48
def k_makeFunc(fn:Fn)(first:Array Operand)(captured:Array Operand)(cx:Cx)(F:Fr)(S:AS):AR:=
 .val (.func fn (args F first) (args F captured)) S
def k_makeMap(t:TypeId)(r:Option Operand)(cx:Cx)(F:Fr)(S:AS):AR:=
 eR (zp t r cx F S.nx) S 48
def k_makeChan(_:TypeId)(_:Operand)(_:Cx)(_:Fr)(_:AS):AR:=.err 99
def Dg(t:TypeId)(l:Operand)(c:Operand)(cx:Cx)(F:Fr)(S:AS):AR:=
 eR (tz t l c cx F S.nx) S 49
def k_slice(t:TypeId)(x:Operand)(lo:Option Operand)(hi:Option Operand)(mx:Option Operand)(cx:Cx)(F:Fr)(S:AS):AR:=
 val? (fL cx F t (eval F x) lo hi mx) S 53
def Di(s:TypeId)(x:Operand)(f:Nat)(cx:Cx)(F:Fr)(S:AS):AR:=
 match bJ cx s,eval F x with
  |some (.struct fs),.ptr id g off aM=>match nth f fs.toList with
   |some fd=>match aH cx fd.type with
    |some (Nat.succ _)=>.val (dS (Nat.add off fd.offset) fun o=>.ptr id g o aM) S
    |_=>.err 54
   |none=>.err 55
  |_,_=>.err 56
def k_field(t:TypeId)(x:Operand)(f:Nat)(cx:Cx)(F:Fr)(S:AS):AR:=
 match bJ cx t,eval F x with
  |some (.struct fs),.agg cs=>match nth f fs.toList with
   |some fd=>val? (partOf cx fd.type cs fd.offset) S 57
   |none=>.err 58
  |_,_=>.err 59
def Dh(t:TypeId)(x:Operand)(ix:Operand)(cx:Cx)(F:Fr)(S:AS):AR:=
 match bJ cx t,eval F x,eY (eval F ix)with
  |some (.slice e),.slice id g off len aM sz _,some i=>match aH cx e with
   |some z=>cond (zzb z sz&&zzc i len) (.val (dS (Nat.add off (zza i sz)) fun o=>.ptr id g o aM) S) (.err 60)
   |none=>.err 61
  |some (.array n e),.ptr id g off aM,some i=>match aH cx e with
   |some z=>cond (zzc i n) (.val (dS (Nat.add off (zza i z)) fun o=>.ptr id g o aM) S) (.err 62)
   |none=>.err 63
  |some (.array n e),.kM g off,some i=>match aH cx e with
   |some z=>cond (zzc i n) (.val (dS (Nat.add off (zza i z)) fun o=>.kM g o) S) (.err 162)
   |none=>.err 163
  |_,_,_=>.err 64
def k_index(t:TypeId)(x:Operand)(ix:Operand)(cx:Cx)(F:Fr)(S:AS):AR:=
 match bJ cx t,eval F x,eY (eval F ix)with
  |some .string,.str s,some i=>match nth i s with
   |some n=>.val (.int .u8 (.ofNat n)) S
   |none=>.err 65
  |some (.array n e),.agg cs,some i=>match aH cx e with
   |some z=>cond (zzc i n) (val? (partOf cx e cs (zza i z)) S 66) (.err 67)
   |none=>.err 68
  |_,_,_=>.err 70
def k_lookup(t:TypeId)(x:Operand)(ix:Operand)(ok:Bool)(cx:Cx)(F:Fr)(S:AS):AR:=
 val? (q9 cx S t (eval F x) (eval F ix) ok) S 71
def Df(t:TypeId)(m:Operand)(k:Operand)(v:Operand)(cx:Cx)(F:Fr)(S:AS):AR:=
 dO (mH cx S t (eval F m) (eval F k) (eval F v)) 78
def k_mapEntry(t:TypeId)(m:Operand)(k:Operand)(cx:Cx)(F:Fr)(S:AS):AR:=
 dO (uo cx S t (eval F m) (eval F k)) 86
def AI(_x0:TypeId)(m:Operand)(k:Operand)(v:Operand)(cx:Cx)(F:Fr)(S:AS):AR:=
 dO (um S (eval F m) (eval F k) (eval F v)) 87
def k_range(t:TypeId)(x:Operand)(cx:Cx)(F:Fr)(S:AS):AR:=
 dO (Ar cx S t (eval F x)) 88
def k_next(x:Operand)(str:Bool)(cx:Cx)(F:Fr)(S:AS):AR:=
 pG S (eval F x) str
def k_entry(x:Operand)(cx:Cx)(F:Fr)(S:AS):AR:=
 val? (Bc S (eval F x)) S 89
def AG(x:Operand)(_x1:TypeId)(t:TypeId)(ok:Bool)(cx:Cx)(F:Fr)(S:AS):AR:=
 val? (iu cx (eval F x) t ok) S 85
def k_extract(x:Operand)(i:Nat)(cx:Cx)(F:Fr)(S:AS):AR:=
 match eval F x with
  | .tuple vs=>val? (nth i vs) S 82
  |_=>.err 83
def k_call(c:Call)(cx:Cx)(F:Fr)(S:AS):AR:=
 match c.callee with
  | .value f=>nF cx S (eval F f) (args F c.args)
  | .builtin b=>aY cx S b c.argTypes.toList (args F c.args)
  | .invoke _ _=>.err 84
def k_go(_:Call)(_:Cx)(_:Fr)(_:AS):AR:=.err 99
def k_defer(_:Call)(_:Cx)(_:Fr)(_:AS):AR:=.err 99
def k_panic(x:Operand)(cx:Cx)(F:Fr)(S:AS):AR:=
 match eval F x with
  | .iface t v=>.eQ (.iface t v) S
  |_=>.err 98
def k_send(_:Operand)(_:Operand)(_:Cx)(_:Fr)(_:AS):AR:=.err 99
def k_recv(_:TypeId)(_:Operand)(_:Bool)(_:Cx)(_:Fr)(_:AS):AR:=.err 99
def k_select(_:Array SelectCase)(_:Bool)(_:Cx)(_:Fr)(_:AS):AR:=.err 99
def EE(o:Oper):Cx->Fr->AS->AR:=@Op.rec (fun _=>Cx->Fr->AS->AR) k_move k_assign k_pick k_alloc k_box k_build AJ k_insert k_load k_store k_ready k_waits k_nilCheck k_binOp k_unOp k_convert nL tK k_makeFunc k_makeMap k_makeChan Dg k_slice Di k_field Dh k_index k_lookup Df k_mapEntry AI k_range k_next k_entry AG k_extract k_call k_go k_defer k_panic k_send k_recv k_select o.op
theorem BH(o:Oper)(cx:Cx)(F:Fr)(S:AS):EE o cx F S=bE cx F S o:=by
 obtain⟨dst,op,ty,pos,after,guard⟩:=o;cases op<;>rfl
section
variable{β:Type}
def v_top(k:AV->β)(_:AV->β):β:=k .top
def v_bool(b:Bool)(k:AV->β)(_:AV->β):β:=k (.bool b)
def v_int(t:IntKind)(n:Int)(k:AV->β)(_:AV->β):β:=k (.int t n)
def v_str(s:List Nat)(k:AV->β)(_:AV->β):β:=k (.str s)
def v_nilp(k:AV->β)(_:AV->β):β:=k .cT
def v_ptr(a b c d:Nat)(k:AV->β)(_:AV->β):β:=k (.ptr a b c d)
def v_glob(a b:Nat)(k:AV->β)(_:AV->β):β:=k (.kM a b)
def v_nils(k:AV->β)(_:AV->β):β:=k .ar
def v_slice(a b c d e f:Nat)(g:Option Nat)(k:AV->β)(_:AV->β):β:=k (.slice a b c d e f g)
def v_nilm(k:AV->β)(_:AV->β):β:=k .jb
def v_map(a:Nat)(k:AV->β)(_:AV->β):β:=k (.map a)
def v_func(f:Fn)(a b:List AV)(k:AV->β)(_:AV->β):β:=k (.func f a b)
def v_nilf(k:AV->β)(_:AV->β):β:=k .kI
def v_niface(k:AV->β)(_:AV->β):β:=k .bS
def v_iface(t:TypeId)(v:AV)(k:AV->β)(_:AV->β):β:=k (.iface t v)
def v_agg(l:List AV)(k:AV->β)(_:AV->β):β:=k (.agg l)
def v_tuple(l:List AV)(k:AV->β)(_:AV->β):β:=k (.tuple l)
def v_obj(o:OK)(i:Nat)(k:AV->β)(_:AV->β):β:=k (.obj o i)
def v_nilc(k:AV->β)(_:AV->β):β:=k .nilc
def v_pan(v:AV)(_:AV->β)(p:AV->β):β:=p v
def vI(v:AV):(AV->β)->(AV->β)->β:=
 @AV.casesOn (fun _=>(AV->β)->(AV->β)->β) v v_top v_bool v_int v_str v_nilp v_ptr v_glob v_nils v_slice v_nilm v_map v_func v_nilf v_niface v_iface v_agg v_tuple v_obj v_nilc v_pan
theorem rm(v:AV)(k p:AV->β):vI v k p=mW v p (k v):=by cases v<;>rfl
def DB(S:AS)(k:AS->β):β:=@AS.rec (fun _=>β) (fun h n=>dS n fun n=>k ⟨h,n⟩) S
theorem vJ(S:AS)(k:AS->β):DB S k=k S:=by
 obtain⟨h,n⟩:=S;exact aQ n fun n=>k ⟨h,n⟩
end
abbrev jy:=Fr->AS->aC (Option AV×Fr×AS)
def panK(F:Fr)(S:AS)(x:AV):aC (Option AV×Fr×AS):=.ok (some x,F,S) []
def contK(dst:Option Tmp)(ih:jy)(F:Fr)(v:AV)(S:AS):aC (Option AV×Fr×AS):=DB S fun S=>vI v (fun v=>ih (bw F dst v) S) (panK F S)
theorem contK_eq(dst:Option Tmp)(ih:jy)(F:Fr)(v:AV)(S:AS):contK dst ih F v S=mW v (fun x=>.ok (some x,F,S) []) (ih (bw F dst v) S):=by
 unfold contK;rw[vJ,rm];rfl
def yK(dst:Option Tmp)(ih:jy)(F:Fr)(r:Bool×AV×AS):aC (Option AV×Fr×AS):=cond r.1 (.ok (some r.2.1,F,r.2.2) []) (ih (bw F dst r.2.1) r.2.2)
def contV(dst:Option Tmp)(ih:jy)(F:Fr)(v:AV)(S:AS):aC (Option AV×Fr×AS):=DB S fun S=>vI v (fun v=>ih (bw F dst v) S) (fun x=>ih (bw F dst (.eQ x)) S)
theorem contV_eq(dst:Option Tmp)(ih:jy)(F:Fr)(v:AV)(S:AS):contV dst ih F v S=yK dst ih F (false,v,S):=by
 unfold contV;rw[vJ,rm];cases v<;>rfl
def D8(dst:Option Tmp)(ih:jy)(F:Fr)(r:AV×AS):aC (Option AV×Fr×AS):=@Prod.rec AV AS (fun _=>aC (Option AV×Fr×AS)) (contK dst ih F) r
theorem D7(dst:Option Tmp)(ih:jy)(F:Fr):D8 dst ih F=fun r=>aC.bind (rU r) (yK dst ih F):=by
 funext r;obtain⟨v,S⟩:=r;show contK dst ih F v S=_;rw[contK_eq];cases v<;>rfl
def retV(r:AV×AS):Bool×AV×AS:=mW r.1 (fun x=>(true,x,r.2)) (false,r.1,r.2)
theorem retR_eq:rU=fun r=>.ok (retV r) []:=by
 funext r;obtain⟨v,S⟩:=r;cases v<;>rfl
theorem sP{α β:Type}(x y:α)(ys:List α)(f:α->aC β):aC.bind (.ok x (y::ys)) f=aC.app (f x) (aC.bind (.ok y ys) f):=by
 cases ys<;>rfl
theorem Es{α β:Type}(φ:α->β):∀(xs:List α)(x:α),aC.bind (.ok x xs) (fun x=>.ok (φ x) [])=.ok (φ x) (xs.map φ)
 |[],_=>rfl
 |y::ys,x=>by rw[sP,Es φ ys y];rfl
theorem bind_map{α β γ:Type}(φ:α->β)(g:β->aC γ):∀(xs:List α)(x:α),aC.bind (.ok (φ x) (xs.map φ)) g=aC.bind (.ok x xs) fun x=>g (φ x)
 |[],_=>rfl
 |y::ys,x=>by rw[List.map_cons,sP,sP,bind_map φ g ys y]
theorem Er{γ:Type}(r:aC (AV×AS))(g:Bool×AV×AS->aC γ):aC.bind (aC.bind r rU) g=aC.bind r fun x=>aC.bind (rU x) g:=by
 rw[retR_eq];cases r with
 |err n=>rfl
 |ok x xs=>rw[Es,bind_map];rfl
def r_err(n:Nat)(_:bO)(_:Option Tmp)(_:jy)(_:Fr):aC (Option AV×Fr×AS):=.err n
def r_val(v:AV)(S:AS)(_:bO)(dst:Option Tmp)(ih:jy)(F:Fr):aC (Option AV×Fr×AS):=contV dst ih F v S
def r_enter(f:FuncId)(as:List AV)(S:AS)(K:bO)(dst:Option Tmp)(ih:jy)(F:Fr):aC (Option AV×Fr×AS):=aC.bind (K (.fn f) as S) (D8 dst ih F)
def r_round(f:Nat)(as:List AV)(S:AS)(K:bO)(dst:Option Tmp)(ih:jy)(F:Fr):aC (Option AV×Fr×AS):=aC.bind (K (.round f) as S) (D8 dst ih F)
def r_pan(v:AV)(S:AS)(_:bO)(dst:Option Tmp)(ih:jy)(F:Fr):aC (Option AV×Fr×AS):=.ok (some v,F,S) []
def r_many(l:List (AV×AS))(_:bO)(dst:Option Tmp)(ih:jy)(F:Fr):aC (Option AV×Fr×AS):=aC.bind (manyR l) (yK dst ih F)
def goK(r:AR):bO->Option Tmp->jy->Fr->aC (Option AV×Fr×AS):=
 @AR.rec (fun _=>bO->Option Tmp->jy->Fr->aC (Option AV×Fr×AS)) r_err r_val r_enter r_round r_pan r_many r
def wantK(cx:Cx)(K:bO)(o:Oper)(ih:jy)(F:Fr)(S:AS)(w:Bool):aC (Option AV×Fr×AS):=
 @Bool.rec (fun _=>aC (Option AV×Fr×AS)) (ih (bw F o.dst .undef) S) (goK (EE o cx F S) K o.dst ih F) w
def guardK(cx:Cx)(K:bO)(o:Oper)(ih:jy)(F:Fr)(S:AS)(w:Option Bool):aC (Option AV×Fr×AS):=
 @Option.rec Bool (fun _=>aC (Option AV×Fr×AS)) (.err 1000) (wantK cx K o ih F S) w
def stepO(cx:Cx)(K:bO)(ops:List Oper)(o:Oper)(ih:jy)(F:Fr)(S:AS):aC (Option AV×Fr×AS):=
 @Option.rec (Nat×Bool) (fun _=>aC (Option AV×Fr×AS)) (goK (EE o cx F S) K o.dst ih F) (fun _=>guardK cx K o ih F S (wanted ops F o)) o.guard
theorem goK_eq(r:AR)(K:bO)(dst:Option Tmp)(ih:jy)(F:Fr):goK r K dst ih F=aC.bind (match r with
  | .val v S=>.ok (false,v,S) []
  | .enter f as S=>aC.bind (K (.fn f) as S) rU
  | .round id as S=>aC.bind (K (.round id) as S) rU
  | .eQ v S=>.ok (true,v,S) []
  | .many l=>manyR l
  | .err n=>.err n) (yK dst ih F):=by
 cases r with
 |err n=>rfl
 |val v S=>exact contV_eq dst ih F v S
 |enter f as S=>show aC.bind _ (D8 dst ih F)=_;rw[D7];exact (Er _ _).symm
 |round f as S=>show aC.bind _ (D8 dst ih F)=_;rw[D7];exact (Er _ _).symm
 |eQ v S=>rfl
 |many l=>rfl
theorem stepO_eq(cx:Cx)(K:bO)(ops:List Oper)(o:Oper)(ih:jy)(F:Fr)(S:AS):stepO cx K ops o ih F S=aC.bind (one cx K ops o F S) (yK o.dst ih F):=by
 have key:guardK cx K o ih F S (wanted ops F o)=aC.bind (one cx K ops o F S) (yK o.dst ih F):=by
  unfold one;cases wanted ops F o with
  |none=>rfl
  |some b=>
   cases b with
   |false=>rfl
   |true=>
    show goK (EE o cx F S) K o.dst ih F=_;rw[goK_eq,BH];rfl
 unfold stepO;cases hg:o.guard with
 |some jw=>exact key
 |none=>
  have hw:wanted ops F o=some true:=by unfold wanted;rw[hg]
  rw[hw]at key;exact key
def deferK (cx : Cx) (ops : List Oper) (o : Oper) (c : Call) (ih : jy) (F : Fr) (S : AS) : aC (Option AV × Fr × AS) := match wanted ops F o with
        |some true=>match lE F c with
         |some d=>ih (bw ⟨F.t,F.n,d::F.ds⟩ o.dst .undef) S
         |none=>.err 1009
        |some false=>ih (bw F o.dst .undef) S
        |none=>.err 1010
def oQ(cx:Cx)(K:bO)(ops:List Oper)(l:List Oper):jy:=
 @List.rec Oper (fun _=>jy) (fun F S=>.ok (none,F,S) [])
  (fun o _ ih=>@Option.rec Call (fun _=>jy) (stepO cx K ops o ih) (fun c=>deferK cx ops o c ih) (dW o)) l
theorem uT(cx:Cx)(K:bO)(ops:List Oper):∀(l:List Oper)(F:Fr)(S:AS),oQ cx K ops l F S=cP cx K ops l F S
 |[],F,S=>rfl
 |o::l,F,S=>by
  have e:oQ cx K ops l=cP cx K ops l:=by funext F S;exact uT cx K ops l F S
  show (@Option.rec Call (fun _=>jy) (stepO cx K ops o (oQ cx K ops l)) (fun c=>deferK cx ops o c (oQ cx K ops l)) (dW o)) F S=(match dW o with
   |none=>aC.bind (one cx K ops o F S) fun r=>cond r.1 (.ok (some r.2.1,F,r.2.2) []) (cP cx K ops l (bw F o.dst r.2.1) r.2.2)
   |some c=>match wanted ops F o with
    |some true=>match lE F c with
     |some d=>cP cx K ops l (bw ⟨F.t,F.n,d::F.ds⟩ o.dst .undef) S
     |none=>.err 1009
    |some false=>cP cx K ops l (bw F o.dst .undef) S
    |none=>.err 1010)
  rw[e];cases dW o with
  |none=>exact stepO_eq cx K ops o (cP cx K ops l) F S
  |some c=>rfl
def oneVR(r:AR):Option AV:=@AR.rec (fun _=>Option AV) (fun _=>none) (fun v _=>some v) (fun _ _ _=>none) (fun _ _ _=>none) (fun _ _=>none) (fun _=>none) r
def oneVW(cx:Cx)(o:Oper)(F:Fr)(S:AS)(w:Option Bool):Option AV:=
 @Option.rec Bool (fun _=>Option AV) none (fun b=>@Bool.rec (fun _=>Option AV) (some .undef) (oneVR (EE o cx F S)) b) w
def oneVK(cx:Cx)(ops:List Oper)(F:Fr)(S:AS)(o:Oper):Option AV:=oneVW cx o F S (wanted ops F o)
theorem CS(cx:Cx)(ops:List Oper)(F:Fr)(S:AS)(o:Oper):oneVK cx ops F S o=fa cx ops F S o:=by
 unfold oneVK fa oneVW;cases wanted ops F o with
 |none=>rfl
 |some b=>
  cases b with
  |false=>rfl
  |true=>
   show oneVR (EE o cx F S)=_;rw[BH];simp only[];cases bE cx F S o<;>rfl
def oneRK(K:bO)(r:AR):aC (Bool×AV×AS):=
 match r with
 | .val v S=>.ok (false,v,S) []
 | .enter f as S=>aC.bind (K (.fn f) as S) rU
 | .round id as S=>aC.bind (K (.round id) as S) rU
 | .eQ v S=>.ok (true,v,S) []
 | .many l=>manyR l
 | .err n=>.err n
def oneW(cx:Cx)(K:bO)(o:Oper)(F:Fr)(S:AS)(w:Option Bool):aC (Bool×AV×AS):=
 @Option.rec Bool (fun _=>aC (Bool×AV×AS)) (.err 1000) (fun b=>@Bool.rec (fun _=>aC (Bool×AV×AS)) (.ok (false,.undef,S) []) (oneRK K (EE o cx F S)) b) w
def oneK(cx:Cx)(K:bO)(ops:List Oper)(o:Oper)(F:Fr)(S:AS):aC (Bool×AV×AS):=oneW cx K o F S (wanted ops F o)
theorem oneK_eq(cx:Cx)(K:bO)(ops:List Oper)(o:Oper)(F:Fr)(S:AS):oneK cx K ops o F S=one cx K ops o F S:=by
 unfold oneK one oneW;cases wanted ops F o with
 |none=>rfl
 |some b=>
  cases b with
  |false=>rfl
  |true=>
   show oneRK K (EE o cx F S)=_;rw[BH];rfl
abbrev hH:=Option (Nat×AV×AS)×Fr×AS×List AS
abbrev mE:=Fr->AS->List dD->List AS->Nat->aC hH
def rowNil(F:Fr)(S:AS)(ps:List dD)(aL:List AS)(_:Nat):aC hH:=.ok (none,F,bB (fun _=>true) ps S,S::aL) []
def rowValV(dst:Option Tmp)(ih:mE)(F:Fr)(S:AS)(ps:List dD)(aL:List AS)(id:Nat)(v:AV):aC hH:=vI v (fun v=>ih (bw F dst v) S ps aL id) (fun x=>ih (bw F dst (.eQ x)) S ps aL id)
def Aq(cx:Cx)(_:bO)(ops:List Oper)(r:Row)(_:List Row)(ih:mE)(F:Fr)(S:AS)(ps:List dD)(aL:List AS)(id:Nat):aC hH:=
 @Option.rec AV (fun _=>aC hH) (.err 1006) (rowValV r.o.dst ih F S ps aL id) (oneVK cx ops F S r.o)
def rowPan(l:List Row)(i:Nat)(F:Fr)(S0:AS)(aL:List AS)(r:AV×AS):aC hH:=cond (gS (fun q=>bit q.dy i) l) (.ok (some (i,r.1,r.2),F,S0,aL) []) (.err 1007)
def rowEffP(l:List Row)(i:Nat)(S0:AS)(dst:Option Tmp)(ih:mE)(F:Fr)(ps':List dD)(aL:List AS)(id:Nat)(q:Bool×AV×AS):aC hH:=
 @Prod.rec Bool (AV×AS) (fun _=>aC hH) (fun b r=>@Bool.rec (fun _=>aC hH) (@Prod.rec AV AS (fun _=>aC hH) (fun v S=>DB S fun S=>vI v (fun v=>ih (bw F dst v) S ps' aL id) (fun x=>ih (bw F dst (.eQ x)) S ps' aL id)) r) (rowPan l i F S0 aL r) b) q
def FD(cx:Cx)(K:bO)(ops:List Oper)(r:Row)(l:List Row)(ih:mE)(F:Fr)(S:AS)(ps:List dD)(aL:List AS)(id:Nat):aC hH:=
 aC.bind (aC.tI (oneK cx K ops r.o F (bB (fun p=>bit r.dy p.i) ps S))) (rowEffP l r.i S r.o.dst ih F (gr (fun p=>!bit r.dy p.i) ps) (S::aL) id)
def rowFreshV(dst:Option Tmp)(i:Nat)(ih:mE)(F:Fr)(S:AS)(ps:List dD)(aL:List AS)(id:Nat)(x:AV×dp):aC hH:=
 @Prod.rec AV dp (fun _=>aC hH) (fun v o=>ih (bw F dst v) S (⟨i,id,o⟩::ps) aL (Nat.succ id)) x
def yC(cx:Cx)(r:Row)(ih:mE)(F:Fr)(S:AS)(ps:List dD)(aL:List AS)(id:Nat)(b:Bool):aC hH:=
 @Bool.rec (fun _=>aC hH) (ih (bw F r.o.dst .undef) S ps aL id) (@Option.rec (AV×dp) (fun _=>aC hH) (.err 1001) (rowFreshV r.o.dst r.i ih F S ps aL id) (freshK r.o.op cx F id)) b
def uU(cx:Cx)(_:bO)(ops:List Oper)(r:Row)(_:List Row)(ih:mE)(F:Fr)(S:AS)(ps:List dD)(aL:List AS)(id:Nat):aC hH:=
 @Option.rec Bool (fun _=>aC hH) (.err 1002) (yC cx r ih F S ps aL id) (wanted ops F r.o)
def rowStep(c:Cls):Cx->bO->List Oper->Row->List Row->mE->mE:=@Cls.rec (fun _=>Cx->bO->List Oper->Row->List Row->mE->mE) Aq Aq FD uU c
def qH(cx:Cx)(K:bO)(ops:List Oper)(l:List Row):mE:=@List.rec Row (fun _=>mE) rowNil (fun r l ih=>rowStep r.cls cx K ops r l ih) l
theorem s6(cx:Cx)(K:bO)(ops:List Oper):∀(l:List Row),qH cx K ops l=bz cx K ops l
 |[]=>rfl
 |r::l=>by
  funext F S ps aL id;have e:qH cx K ops l=bz cx K ops l:=s6 cx K ops l;show rowStep r.cls cx K ops r l (qH cx K ops l) F S ps aL id=(match r.cls with
   | .fresh=>match wanted ops F r.o with
    |some true=>match aO cx F id r.o.op with
     |some (v,x)=>bz cx K ops l (bw F r.o.dst v) S (⟨r.i,id,x⟩::ps) aL (Nat.succ id)
     |none=>.err 1001
    |some false=>bz cx K ops l (bw F r.o.dst .undef) S ps aL id
    |none=>.err 1002
   | .vU=>aC.bind (aC.tI (one cx K ops r.o F (bB (fun p=>bit r.dy p.i) ps S))) fun q=>cond q.1 (cond (gS (fun q=>bit q.dy r.i) l) (.ok (some (r.i,q.2.1,q.2.2),F,S,S::aL) []) (.err 1007)) (bz cx K ops l (bw F r.o.dst q.2.1) q.2.2 (gr (fun p=>!bit r.dy p.i) ps) (S::aL) id)
   |_=>match fa cx ops F S r.o with
    |some v=>bz cx K ops l (bw F r.o.dst v) S ps aL id
    |none=>.err 1006)
  rw[e];have val:Aq cx K ops r l (bz cx K ops l) F S ps aL id=(match fa cx ops F S r.o with
    |some v=>bz cx K ops l (bw F r.o.dst v) S ps aL id
    |none=>.err 1006):=by
   unfold Aq rowValV;rw[CS];cases fa cx ops F S r.o with
   |none=>rfl
   |some v=>
    show vI v _ _=_;rw[rm];cases v<;>rfl
  cases r.cls with
  |pure=>exact val
  |read=>exact val
  |vU=>
   show FD cx K ops r l (bz cx K ops l) F S ps aL id=_;unfold FD;rw[oneK_eq];congr 1;funext q;obtain⟨b,v,S'⟩:=q;cases b with
   |true=>rfl
   |false=>
    have h0:rowEffP l r.i S r.o.dst (bz cx K ops l) F (gr (fun p=>!bit r.dy p.i) ps) (S::aL) id (false,v,S')=DB S' (fun S2=>vI v (fun v=>bz cx K ops l (bw F r.o.dst v) S2 (gr (fun p=>!bit r.dy p.i) ps) (S::aL) id) (fun x=>bz cx K ops l (bw F r.o.dst (.eQ x)) S2 (gr (fun p=>!bit r.dy p.i) ps) (S::aL) id)):=rfl;rw[h0,vJ,rm];cases v<;>rfl
  |fresh=>
   show uU cx K ops r l (bz cx K ops l) F S ps aL id=_;unfold uU yC;rw[freshK_eq];cases wanted ops F r.o with
   |none=>rfl
   |some b=>
    cases b with
    |false=>rfl
    |true=>cases aO cx F id r.o.op<;>rfl
def sameAt (cx : Cx) (ops : List Oper) (F : Fr) (o : Oper) (v : AV) (S : AS) : Bool := match oneVK cx ops F S o with
        |some u=>eO 8 v u
        |none=>false
def zU(cx:Cx)(ops:List Oper)(rows:List Row)(F:Fr)(aL:List AS)(r:Row):Bool:=
 let DY:=gr (fun e=>bR e.cls) rows
 let lo:=eD (fun e=>bit r.dy e.i) DY
 let hi:=eD (fun e=>!bit e.dy r.i) DY
 let may:=takeN (Nat.succ (Nat.sub hi lo)) (kZ lo aL)
 match may with
 |[_]=>true
 |_=>match r.o.dst with
  |some d=>cond (zzc d F.n) (match F.t.get d with
   |some v=>gS (sameAt cx ops F r.o v) may
   |none=>false) false
  |none=>false
theorem E9(cx:Cx)(ops:List Oper)(rows:List Row)(F:Fr)(aL:List AS)(r:Row):zU cx ops rows F aL r=hX cx ops rows F aL r:=by
 unfold zU hX sameAt;simp only[CS];rfl
def tT(cx:Cx)(ops:List Oper)(rows:List Row)(F:Fr)(aL:List AS):Bool:=gS (fun q=>cond (eC q.cls) (zU cx ops rows F aL q) true) rows
theorem uw(cx:Cx)(ops:List Oper)(rows:List Row)(F:Fr)(aL:List AS):tT cx ops rows F aL=lj cx ops rows F aL:=by
 unfold tT lj;simp only[E9]
def vW(cx:Cx)(ops:List Oper)(rows:List Row)(r:hH):aC (Option AV×Fr×AS):=
 match r.1 with
 |none=>cond (tT cx ops rows r.2.1 (rT r.2.2.2)) (.ok (none,r.2.1,r.2.2.1) []) (.err 1003)
 |some (i,v,S)=>cond (tT cx ops (takeN i rows) r.2.1 (rT r.2.2.2)) (.ok (some v,Ca rows r.2.1,S) []) (.err 1003)
theorem D1(cx:Cx)(ops:List Oper)(rows:List Row)(r:hH):vW cx ops rows r=kY cx ops rows r:=by
 unfold vW kY;obtain⟨o,F,S,sn⟩:=r;cases o with
 |none=>simp only[uw]
 |some p=>simp only[uw]
def drawnGo(cx:Cx)(K:bO)(ops:List Oper)(F:Fr)(S:AS)(rows:List Row):aC (Option AV×Fr×AS):=
 cond (gp ops rows) (aC.bind (qH cx K ops rows F ⟨S.h,Nat.add S.nx (eD (fun r=>bU r.cls) rows)⟩ [] [] S.nx) (vW cx ops rows)) (.err 1004)
def oR(cx:Cx)(K:bO)(ops:List Oper)(F:Fr)(S:AS):aC (Option AV×Fr×AS):=drawnGo cx K ops F S (settle (dw cx ops))
theorem Ap(cx:Cx)(K:bO)(ops:List Oper)(F:Fr)(S:AS):oR cx K ops F S=eg cx K ops F S:=by
 unfold oR drawnGo eg;simp only[s6];congr 2;funext r;exact D1 _ _ _ _
abbrev Ih:=Code->Fr->AS->aC Out
def e_region(id:Nat)(ops:Array Oper)(draw:Bool)(cx:Cx)(n:Nat)(ih:Ih)(F:Fr)(S:AS):aC Out:=
 cond draw (aC.bind (oR cx (cD cx ih) ops.toList F S) fun r=>match r.1 with
   |none=>.ok ⟨.normal,r.2.1,r.2.2⟩ []
   |some v=>.ok ⟨.eQ v,r.2.1,r.2.2⟩ [])
  (aC.bind (oQ cx (cD cx ih) ops.toList ops.toList F S) fun r=>match r.1 with
   |none=>.ok ⟨.normal,r.2.1,r.2.2⟩ []
   |some v=>.ok ⟨.eQ v,r.2.1,r.2.2⟩ [])
def e_seq (a b : Code) (cx : Cx) (n : Nat) (ih : Ih) (F : Fr) (S : AS) : aC Out := aC.bind (ih a F S) fun o => match o.ex with
      | .normal=>ih b o.F o.S
      |_=>.ok o []
def e_cond (x : Operand) (a b : Code) (cx : Cx) (n : Nat) (ih : Ih) (F : Fr) (S : AS) : aC Out := match eval F x with
      | .bool true=>ih a F S
      | .bool false=>ih b F S
      |_=>.err 3001
def e_block (id : Nat) (b : Code) (cx : Cx) (n : Nat) (ih : Ih) (F : Fr) (S : AS) : aC Out := aC.bind (ih b F S) fun o => match o.ex with
      | .exit j=>cond (zzb j id) (.ok ⟨.normal,o.F,o.S⟩ []) (.ok o [])
      |_=>.ok o []
def e_loop (b : Code) (cx : Cx) (n : Nat) (ih : Ih) (F : Fr) (S : AS) : aC Out := aC.bind (ih b F S) fun o => match o.ex with
      | .normal=>ih (.loop b) o.F o.S
      |_=>.ok o []
def e_skip(cx:Cx)(n:Nat)(ih:Ih)(F:Fr)(S:AS):aC Out:=.ok ⟨.normal,F,S⟩ []
def e_ret(cx:Cx)(n:Nat)(ih:Ih)(F:Fr)(S:AS):aC Out:=.ok ⟨.ret,F,S⟩ []
def e_exit(id:Nat)(cx:Cx)(n:Nat)(ih:Ih)(F:Fr)(S:AS):aC Out:=.ok ⟨.exit id,F,S⟩ []
def e_scope(b:Code)(cx:Cx)(n:Nat)(ih:Ih)(F:Fr)(S:AS):aC Out:=mO ih b n b F S
def e_label(l:Nat)(cx:Cx)(n:Nat)(ih:Ih)(F:Fr)(S:AS):aC Out:=.ok ⟨.normal,F,S⟩ []
def e_goto(l:Nat)(cx:Cx)(n:Nat)(ih:Ih)(F:Fr)(S:AS):aC Out:=.ok ⟨.goto l,F,S⟩ []
def e_range(x:Operand)(ps:Array Tmp)(a b:Code)(cx:Cx)(n:Nat)(ih:Ih)(F:Fr)(S:AS):aC Out:=qb cx ih x ps a b F S
def e_refuse(s:String)(cx:Cx)(n:Nat)(ih:Ih)(F:Fr)(S:AS):aC Out:=.err 3002
def stepK(c:Code):Cx->Nat->Ih->Fr->AS->aC Out:=
 @Code.casesOn (fun _=>Cx->Nat->Ih->Fr->AS->aC Out) c e_skip e_region e_seq e_cond e_block e_loop e_range e_exit e_scope e_label e_goto e_ret e_refuse
def execK(cx:Cx)(n:Nat):Code->Fr->AS->aC Out:=
 Nat.rec (motive:=fun _=>Code->Fr->AS->aC Out) (fun _ _ _=>.err 3000) (fun n ih c F S=>stepK c cx n ih F S) n
theorem DO(cx:Cx):∀n,execK cx n=exec cx n:=by
 intro n
 induction n with
 |zero=>rfl
 |succ n ih=>
  funext c F S;have e1:execK cx (n+1) c F S=stepK c cx n (execK cx n) F S:=rfl;rw[e1,ih];cases c with
  |region id ops draw=>
   cases draw with
   |true=>
    show (aC.bind (oR cx (cD cx (exec cx n)) ops.toList F S) _)=aC.bind (eg cx (cD cx (exec cx n)) ops.toList F S) _;rw[Ap];rfl
   |false=>
    show (aC.bind (oQ cx (cD cx (exec cx n)) ops.toList ops.toList F S) _)=aC.bind (cP cx (cD cx (exec cx n)) ops.toList ops.toList F S) _;rw[uT];rfl
  |_=>rfl
def callK(cx:Cx)(n:Nat)(f:FuncId)(as:List AV)(S:AS):aC (AV×AS):=cD cx (execK cx n) (.fn f) as S
def saysK(P:Program)(A:Ask)(n:Nat)(f:FuncId)(b:Bool):Bool:=isB b (callK (sd P A) n f [] ⟨.leaf,0⟩)
theorem saysK_eq(P:Program)(A:Ask)(n:Nat)(f:FuncId)(b:Bool):saysK P A n f b=says P A n f b:=by
 unfold saysK callK says call;rw[DO]
end Go.Am
end
