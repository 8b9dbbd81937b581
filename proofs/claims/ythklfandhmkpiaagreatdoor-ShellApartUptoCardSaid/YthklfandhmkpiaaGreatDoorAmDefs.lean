/-
  An abstract machine for the model's code: values and memory with abstract block numbers and no tape. Definitions alone.
  Written so that the kernel runs it: plain recursors, Bool tests, forced numbers.
-/
import Derived.Calls
import Derived.Laws.Sem
open Nat renaming div->zza,beq->zzb
noncomputable section
namespace Go.Am
open Go
inductive T(α:Type) where
 |leaf
 |node (l:T α) (v:Option α) (r:T α)
def T.get{α:Type}(t:T α):Nat->Option α:=
 @T.rec α (fun _=>Nat->Option α) (fun _=>none)
  (fun _ v _ w9 ihr n=>@Nat.rec (fun _=>Option α) v (fun m _=>@Bool.rec (fun _=>Option α) (ihr (zza m 2)) (w9 (zza m 2)) (zzb (Nat.mod m 2) 0)) n) t
def T.mkF{α:Type}(f:Nat):Nat->Option α->T α:=
 @Nat.rec (fun _=>Nat->Option α->T α) (fun _ _=>.leaf)
  (fun _ ih n x=>@Nat.rec (fun _=>T α) (.node .leaf x .leaf) (fun m _=>@Bool.rec (fun _=>T α) (.node .leaf none (ih (zza m 2) x)) (.node (ih (zza m 2) x) none .leaf) (zzb (Nat.mod m 2) 0)) n) f
def T.put{α:Type}(t:T α):Nat->Option α->T α:=
 @T.rec α (fun _=>Nat->Option α->T α) (fun n x=>T.mkF (Nat.succ n) n x)
  (fun l v r w9 ihr n x=>@Nat.rec (fun _=>T α) (.node l x r) (fun m _=>@Bool.rec (fun _=>T α) (.node l v (ihr (zza m 2) x)) (.node (w9 (zza m 2) x) v r) (zzb (Nat.mod m 2) 0)) n) t
def T.set{α:Type}(t:T α)(n:Nat)(x:α):T α:=T.put t n (some x)
def T.ofL{α:Type}(l:List α):Nat->T α->T α:=
 List.foldr (fun x k i t=>k (Nat.succ i) (T.set t i x)) (fun _ t=>t) l
inductive OK where
 |yld|chan|sym|small
inductive AV where
 |top
 |bool (b:Bool)
 |int (k:IntKind) (n:Int)
 |str (s:List Nat)
 |cT
 |ptr (id gen off aM:Nat)
 |kM (g off:Nat)
 |ar
 |slice (id gen off len aM sz:Nat) (cap:Option Nat)
 |jb
 |map (id:Nat)
 |func (fn:Fn) (first captured:List AV)
 |kI
 |bS
 |iface (t:TypeId) (v:AV)
 |agg (cs:List AV)
 |tuple (vs:List AV)
 |obj (k:OK) (id:Nat)
 |nilc
 |eQ (v:AV)
def AV.undef:AV:=.tuple []
structure jo where
 key:AV
 val:AV
 born:Nat
inductive wJ where
 |call (f:FuncId) (args captured:List AV)
 |mark (id:Nat)
structure Fr where
 t:T AV
 n:Nat
 ds:List wJ
inductive AOth where
 |iter (m:Option Nat) (since:Nat) (seen:List Nat) (last:Nat)
 |siter (s:List Nat) (pos:Nat)
 |loop (st:LoopState) (jump:Option Code) (F:Fr) (ps:Array Tmp) (assign body:Code)
 |dfr (op:Bool)
 |chan (cap:Nat) (buf:List AV)
inductive dp where
 |row (cells:List AV) (low top:Nat) (frz:Bool) (ty:Nat)
 |map (es:List jo) (clock:Nat)
 |nR (o:AOth)
structure AS where
 h:T dp
 nx:Nat
inductive aC(α:Type) where
 |err (n:Nat)
 |ok (x:α) (xs:List α)
inductive AR where
 |err (n:Nat)
 |val (v:AV) (s:AS)
 |enter (f:FuncId) (args:List AV) (s:AS)
 |round (id:Nat) (args:List AV) (s:AS)
 |eQ (v:AV) (s:AS)
 |many (l:List (AV×AS))
inductive Xf where
 |ident|kr|m9|AM|apart|qk|mX (e:TypeId)
structure Cx where
 jU:T TypeInfo
 fns:T Func
 eqs:T Unit
 exts:T Xf
 fi:T (List AV->AS->Option (AV×AS))
 eZ:T (List AV)
 kU:T Unit
structure Ask where
 eqs:List Nat:=[]
 exts:List (Nat×Xf):=[]
 fi:List (Nat×(List AV->AS->Option (AV×AS))):=[]
 eZ:List (Nat×List AV):=[]
 kU:List Nat:=[]
def sd(P:Program)(A:Ask):Cx:=
 ⟨T.ofL P.types.toList 0 .leaf,T.ofL P.funcs.toList 0 .leaf,A.eqs.foldl (fun t n=>t.set n ()) .leaf,A.exts.foldl (fun t n=>t.set n.1 n.2) .leaf,A.fi.foldl (fun t n=>t.set n.1 n.2) .leaf,A.eZ.foldl (fun t n=>t.set n.1 n.2) .leaf,A.kU.foldl (fun t n=>t.set n ()) .leaf⟩
def dS{α:Type}(n:Nat)(k:Nat->α):α:=Nat.rec (motive:=fun _=>α) (k 0) (fun m _=>k (Nat.succ m)) n
def ju{α:Type}(n:Int)(k:Int->α):α:=
 Int.casesOn (motive:=fun _=>α) n (fun m=>dS m fun m=>k (Int.ofNat m)) (fun m=>dS m fun m=>k (Int.negSucc m))
def half:IntKind->Nat
 | .i8=>128 | .i16=>32768 | .i32=>2147483648 | .i64=>9223372036854775808
 | .u8=>256 | .u16=>65536 | .u32=>4294967296 | .u64=>18446744073709551616
def sgn:IntKind->Bool
 | .i8=>true | .i16=>true | .i32=>true | .i64=>true
 | .u8=>false | .u16=>false | .u32=>false | .u64=>false
def inR(k:IntKind)(n:Int):Bool:=
 Int.casesOn (motive:=fun _=>Bool) n (fun m=>Nat.blt m (half k)) (fun m=>cond (sgn k) (Nat.blt m (half k)) false)
def wrapF(k:IntKind)(n:Int):Int:=cond (inR k n) n (k.wrap n)
def pP(a b:Int):Bool:=
 Int.casesOn (motive:=fun _=>Bool) a
  (fun m=>Int.casesOn (motive:=fun _=>Bool) b (fun n=>zzb m n) (fun _=>false))
  (fun m=>Int.casesOn (motive:=fun _=>Bool) b (fun _=>false) (fun n=>zzb m n))
def ltI(a b:Int):Bool:=
 Int.casesOn (motive:=fun _=>Bool) a
  (fun m=>Int.casesOn (motive:=fun _=>Bool) b (fun n=>Nat.blt m n) (fun _=>false))
  (fun m=>Int.casesOn (motive:=fun _=>Bool) b (fun _=>true) (fun n=>Nat.blt n m))
def iO(j k:IntKind):Bool:=IntKind.casesOn (motive:=fun _=>Bool) j
 (k matches .i8) (k matches .i16) (k matches .i32) (k matches .i64) (k matches .u8) (k matches .u16) (k matches .u32) (k matches .u64)
def nth{α:Type}(n:Nat):List α->Option α:=
 Nat.rec (motive:=fun _=>List α->Option α) (fun l=>List.casesOn (motive:=fun _=>Option α) l none fun x _=>some x)
  (fun _ ih l=>List.casesOn (motive:=fun _=>Option α) l none fun _ t=>ih t) n
def Fy{α:Type}(n:Nat):List α->α->List α:=
 Nat.rec (motive:=fun _=>List α->α->List α) (fun l x=>List.casesOn (motive:=fun _=>List α) l [] fun _ t=>x::t)
  (fun _ ih l x=>List.casesOn (motive:=fun _=>List α) l [] fun y t=>y::ih t x) n
def kZ{α:Type}(n:Nat):List α->List α:=
 Nat.rec (motive:=fun _=>List α->List α) (fun l=>l) (fun _ ih l=>List.casesOn (motive:=fun _=>List α) l [] fun _ t=>ih t) n
def takeN{α:Type}(n:Nat):List α->List α:=
 Nat.rec (motive:=fun _=>List α->List α) (fun _=>[]) (fun _ ih l=>List.casesOn (motive:=fun _=>List α) l [] fun x t=>x::ih t) n
def dN{α:Type}(l:List α):Nat:=List.rec (motive:=fun _=>Nat) 0 (fun _ _ ih=>Nat.succ ih) l
def gR{α:Type}(l m:List α):List α:=List.rec (motive:=fun _=>List α) m (fun x _ ih=>x::ih) l
def jt{α β:Type}(f:α->β)(l:List α):List β:=List.rec (motive:=fun _=>List β) [] (fun x _ ih=>f x::ih) l
def gS{α:Type}(p:α->Bool)(l:List α):Bool:=List.rec (motive:=fun _=>Bool) true (fun x _ ih=>cond (p x) ih false) l
def gr{α:Type}(p:α->Bool)(l:List α):List α:=List.rec (motive:=fun _=>List α) [] (fun x _ ih=>cond (p x) (x::ih) ih) l
def wX(n:Nat)(l:List Nat):Bool:=List.rec (motive:=fun _=>Bool) false (fun m _ ih=>cond (zzb n m) true ih) l
def spliceL{α:Type}(l new:List α):List α:=List.append new (kZ new.length l)
def ec{α:Type}(off:Nat):List α->List α->List α:=
 Nat.rec (motive:=fun _=>List α->List α->List α)
  (fun l new=>spliceL l new) (fun _ ih l new=>List.casesOn (motive:=fun _=>List α) l [] fun y t=>y::ih t new) off
end Go.Am
end
