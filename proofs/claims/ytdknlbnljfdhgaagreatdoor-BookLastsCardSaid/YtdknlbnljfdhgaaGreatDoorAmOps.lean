/-
  The abstract machine: its operations.
-/
import Derived.Test.YtdknlbnljfdhgaaGreatDoorAmDefs
open Nat renaming beq->zza,mul->zzb,ble->zzc,add->zzd,blt->zze
set_option linter.unusedVariables false
set_option linter.unusedSimpArgs false
noncomputable section
namespace Go.Am
open Go
def Ps(n:Nat):Value->AV:=
 Nat.rec (motive:=fun _=>Value->AV) (fun _=>.top) (fun _ ih v=>
  match v with
  | .bool b=>.bool b
  | .int k n=>.int k n
  | .string s=>.str (oD UInt8.toNat s.data.toList)
  | .pointer none=>.ck
  | .slice none 0 0=>.ar
  | .map none=>.j8
  | .nilFunc=>.eQ
  | .nilIface=>.bR
  | .chan none=>.T7
  | .agg a=>cond (a.toList.all Value.oneCell') (.agg (oD ih a.toList)) .top
  |_=>.top) n
def Rk(v:Value):AV:=Ps 2 v
def jkq(t:Tmp)(F:Fr):AV:=@Option.rec AV (fun _=>AV) .undef (fun v=>v) (F.t.get t)
def Z5(v:Value)(_:Fr):AV:=Rk v
def jeJ(g:Nat)(_:Fr):AV:=.wH g 0
def jeK(f:FuncId)(_:Fr):AV:=.func (.func f) [] []
def eval(F:Fr)(x:Operand):AV:=@Operand.rec (fun _=>Fr->AV) jkq Z5 jeJ jeK x F
def cellsOf(v:AV):Option (List AV):=
 match v with
 | .agg cs=>some cs
 | .top=>none
 | .tuple _=>none
 | .eO _=>none
 |v=>some [v]
def bN(cx:Cx)(t:TypeId):Option TypeDesc:=
 match cx.mf.get t with
 |some i=>match i.desc with
  | .named _ u=>match cx.mf.get u with|some j=>some j.desc|none=>none
  |d=>some d
 |none=>none
def aG(cx:Cx)(t:TypeId):Option Nat:=match cx.mf.get t with|some i=>some i.size|none=>none
def bytesOf(cx:Cx)(t:TypeId):Option Nat:=match cx.mf.get t with|some i=>some i.bytes|none=>none
def zeroOf(cx:Cx)(t:TypeId):Option AV:=
 match cx.mf.get t with
 |some i=>match i.zero with|some z=>some (Rk z)|none=>none
 |none=>none
def aN(cx:Cx)(t:TypeId):Option Bool:=
 match bN cx t with
 |some (.struct _)=>some true
 |some (.array _ _)=>some true
 |some _=>some false
 |none=>none
def partOf(cx:Cx)(t:TypeId)(cs:List AV)(off:Nat):Option AV:=
 match aN cx t with
 |some true=>match aG cx t with
  |some n=>some (.agg (takeN n (lT off cs)))
  |none=>none
 |some false=>nth off cs
 |none=>none
def lE(n:Nat)(l:List AV):List AV:=Nat.rec (motive:=fun _=>List AV) [] (fun _ ih=>gC l ih) n
def Vr(cx:Cx)(t:TypeId)(cs:List AV)(off:Nat):Option AV:=none
def rd(S:AS)(id g off n lim:Nat):Option (List AV):=
 match S.h.get id with
 |some (.row cells low top _ _)=>
  cond (zzc low g&&zzc g top&&zzc (zzd off n) lim) (some (takeN n (lT off cells))) none
 |_=>none
def wr(S:AS)(id g off lim:Nat)(new:List AV):Option AS:=
 match S.h.get id with
 |some (.row cells _ top frz ty)=>
  cond (zza g top&&zzc (zzd off (fw new)) lim && !frz) (some ⟨S.h.set id (.row (dq off cells new) top top false ty),S.nx⟩) none
 |_=>none
def tV(a:List Nat):List Nat->Bool:=
 List.rec (motive:=fun _=>List Nat->Bool) (fun b=>List.casesOn (motive:=fun _=>Bool) b true fun _ _=>false)
  (fun x _ ih b=>List.casesOn (motive:=fun _=>Bool) b false fun y t=>cond (zza x y) (ih t) false) a
def Jb(a:List Nat):List Nat->Bool:=
 List.rec (motive:=fun _=>List Nat->Bool) (fun b=>List.casesOn (motive:=fun _=>Bool) b false fun _ _=>true)
  (fun x _ ih b=>List.casesOn (motive:=fun _=>Bool) b false fun y t=>cond (zze x y) true (cond (zza x y) (ih t) false)) a
def eqFields(eq:TypeId->AV->AV->Option Bool)(cx:Cx)(xs ys:List AV)(fs:List Field):Option Bool:=
 List.rec (motive:=fun _=>Option Bool) (some true) (fun f _ ih=>
  match partOf cx f.type xs f.offset,partOf cx f.type ys f.offset with
  |some a,some b=>match eq f.type a b with
   |some true=>ih
   |r=>r
  |_,_=>none) fs
def nq(eq:AV->AV->Option Bool)(cx:Cx)(e:TypeId)(z:Nat)(xs ys:List AV)(n:Nat):Nat->Option Bool:=
 Nat.rec (motive:=fun _=>Nat->Option Bool) (fun _=>some true) (fun _ ih i=>
  match partOf cx e xs (zzb i z),partOf cx e ys (zzb i z)with
  |some a,some b=>match eq a b with
   |some true=>ih (Nat.succ i)
   |r=>r
  |_,_=>none) n
def jo(cx:Cx)(ih:TypeId->AV->AV->Option Bool)(t:TypeId)(d:TypeDesc)(x y:AV):Option Bool:=
 match d,x,y with
 | .int _,.int j a,.int k b=>cond (eE j k) (some (Bs a b)) none
 | .bool,.bool a,.bool b=>some (a==b)
 | .string,.str a,.str b=>some (tV a b)
 | .pointer _,.ck,.ck=>some true
 | .pointer _,.ck,.ptr ..=>some false
 | .pointer _,.ptr ..,.ck=>some false
 | .pointer e,.ptr i g o _,.ptr j h p _=>match aG cx e with
  |some _=>cond (zza i j&&zza g h&&zza o p) (some true) none
  |none=>none
 | .slice _,.ar,.ar=>some true
 | .slice _,.ar,.slice ..=>some false
 | .slice _,.slice ..,.ar=>some false
 | .map _ _,.j8,.j8=>some true
 | .map _ _,.j8,.map _=>some false
 | .map _ _,.map _,.j8=>some false
 | .func _ _ _,.eQ,.eQ=>some true
 | .func _ _ _,.eQ,.func ..=>some false
 | .func _ _ _,.func ..,.eQ=>some false
 | .interface _,.bR,.bR=>some true
 | .interface _,.bR,.iface ..=>some false
 | .interface _,.iface ..,.bR=>some false
 | .interface _,.iface t a,.iface u b=>cond (zza t u) (match cx.mf.get t with
   |some i=>cond i.comparable (ih t a b) none
   |none=>none) (some false)
 | .struct fs,.agg xs,.agg ys=>match cx.eqs.get t with
  |some _=>eqFields ih cx xs ys fs.toList
  |none=>none
 | .array n e,.agg xs,.agg ys=>match cx.eqs.get t with
  |some _=>match aG cx e with
   |some z=>nq (ih e) cx e z xs ys n 0
   |none=>none
  |none=>none
 |_,_,_=>none
def eqR(cx:Cx)(n:Nat):TypeId->AV->AV->Option Bool:=
 Nat.rec (motive:=fun _=>TypeId->AV->AV->Option Bool) (fun _ _ _=>none) (fun _ ih t x y=>
  match bN cx t with
  |none=>none
  |some d=>jo cx ih t d x y) n
def jhQ(mf:T TypeInfo)(eqs:T Unit):Cx:=⟨mf,.leaf,eqs,.leaf,.leaf,.leaf,.leaf⟩
def vj(cx:Cx)(n:Nat):TypeId->AV->AV->Option Bool:=eqR (jhQ cx.mf cx.eqs) n
def sa(op:BinOp)(a b:Nat):Nat:=
 match op with
 | .and=>Nat.land a b
 | .or=>Nat.lor a b
 | .xor=>Nat.xor a b
 |_=>0
def Kw(k:IntKind)(n:Int):AV:=jW (Rz k n) fun n=>.int k n
def tm(op:BinOp)(k:IntKind)(x y:Int):Int:=
 let a:=BitVec.ofInt k.bits x
 let b:=BitVec.ofInt k.bits y
 match op with
 | .and=>k.wrap (a &&& b).toNat
 | .or=>k.wrap (a ||| b).toNat
 | .xor=>k.wrap (a ^^^ b).toNat
 |_=>k.wrap (a &&& ~~~b).toNat
def fP(op:BinOp)(k:IntKind)(x y:Int):AV:=
 match op,x,y with
 | .andNot,x,y=>jW (tm .andNot k x y) fun n=>.int k n
 |op,.ofNat a,.ofNat b=>cond (zze a (half k)&&zze b (half k)) (gP (sa op a b) fun n=>.int k (.ofNat n)) (jW (tm op k x y) fun n=>.int k n)
 |op,x,y=>jW (tm op k x y) fun n=>.int k n
def qw(op:BinOp)(k:IntKind)(a b:Int):Option AV:=
 match op with
 | .add=>some (Kw k (Int.add a b))
 | .sub=>some (Kw k (Int.sub a b))
 | .mul=>some (Kw k (Int.mul a b))
 | .quo=>cond (Bs b (.ofNat 0)) none (some (Kw k (Int.tdiv a b)))
 | .rem=>cond (Bs b (.ofNat 0)) none (some (jW (Int.tmod a b) fun n=>.int k n))
 | .eql=>some (.bool (Bs a b))
 | .neq=>some (.bool (!Bs a b))
 | .lss=>some (.bool (ML a b))
 | .leq=>some (.bool (!ML b a))
 | .gtr=>some (.bool (ML b a))
 | .geq=>some (.bool (!ML a b))
 | .shl=>match b with
  | .ofNat n=>some (Kw k (Int.mul a (.ofNat (Nat.pow 2 (Nat.min n k.bits)))))
  |_=>none
 | .shr=>match b with
  | .ofNat n=>some (jW (Int.fdiv a (.ofNat (Nat.pow 2 (Nat.min n k.bits)))) fun n=>.int k n)
  |_=>none
 | .and=>some (fP .and k a b)
 | .or=>some (fP .or k a b)
 | .xor=>some (fP .xor k a b)
 | .andNot=>some (fP .andNot k a b)
def B3(op:BinOp)(a b:List Nat):Option AV:=
 match op with
 | .add=>cond (zzc (zzd (fw a) (fw b)) 4611686018427387904) (some (.str (gC a b))) none
 | .eql=>some (.bool (tV a b))
 | .neq=>some (.bool (!tV a b))
 | .lss=>some (.bool (Jb a b))
 | .leq=>some (.bool (!Jb b a))
 | .gtr=>some (.bool (Jb b a))
 | .geq=>some (.bool (!Jb a b))
 |_=>none
def tI(x:AV):Bool:=
 match x with
 | .bool _=>true | .ck=>true | .ptr ..=>true | .ar=>true | .slice ..=>true | .j8=>true | .map _=>true
 | .func ..=>true | .eQ=>true | .bR=>true | .iface ..=>true | .agg _=>true
 |_=>false
def C5(cx:Cx)(t:TypeId)(Qx:Bool)(x y:AV):Option Bool:=
 match x,y with
 | .bR,.bR=>cond Qx (vj cx 6 t .bR .bR) none
 |x,y=>cond (tI x) (vj cx 6 t x y) none
def aZ(cx:Cx)(op:BinOp)(t:TypeId)(Qx:Bool)(x y:AV):Option AV:=
 match x,y with
 | .int j a,.int k b=>match op with
  | .shl=>qw .shl j a b
  | .shr=>qw .shr j a b
  |op=>cond (eE j k) (qw op j a b) none
 | .str a,.str b=>B3 op a b
 |x,y=>match op with
  | .eql=>match C5 cx t Qx x y with|some r=>some (.bool r)|none=>none
  | .neq=>match C5 cx t Qx x y with|some r=>some (.bool (!r))|none=>none
  |_=>none
def unV(op:UnOp)(x:AV):Option AV:=
 match op,x with
 | .not,.bool b=>some (.bool (!b))
 | .neg,.int k n=>some (Kw k (Int.sub (.ofNat 0) n))
 | .xor,.int k n=>some (fP .xor k (cond (sgn k) (.negSucc 0) (.ofNat (Nat.sub (half k) 1))) n)
 |_,_=>none
def KG(cx:Cx)(S:AS)(t:TypeId)(x:AV):Option Nat:=
 match bN cx t,x with
 |some .string,.str s=>some s.length
 |some (.slice _),.ar=>some 0
 |some (.slice _),.slice _ _ _ len _ _ _=>some len
 |some (.map _ _),.j8=>some 0
 |some (.map _ _),.map id=>match S.h.get id with
  |some (.map es _)=>some es.length
  |_=>none
 |some (.array n _),_=>some n
 |some (.pointer e),_=>match bN cx e with
  |some (.array n _)=>some n
  |_=>none
 |_,_=>none
def taken(S:AS)(sz:Nat)(x:AV):Option (Nat×List AV):=
 match x with
 | .ar=>some (0,[])
 | .str s=>cond (zza sz 1) (some (s.length,oD (fun n=>AV.int .u8 (.ofNat n)) s)) none
 | .slice id g off len lim z _=>cond (zza z sz) (match len with
   |0=>some (0,[])
   |_=>match rd S id g off (zzb len sz) lim with
    |some l=>some (len,l)
    |none=>none) none
 |_=>none
def grown(S:AS)(e need sz:Nat)(cells:List AV):AV×AS:=
 (.slice S.nx 0 0 need (zzb need sz) sz none,⟨S.h.set S.nx (.row cells 0 0 false e),Nat.succ S.nx⟩)
def fits(need bs:Nat):Bool:=zzc need 4611686018427387904&&zzc (zzb need bs) 140737488355328
def gf(S:AS)(e sz bs:Nat)(s x:AV):Option (AV×AS):=
 match taken S sz x with
 |none=>none
 |some (n,new)=>
  match n with
  |0=>match s with
   | .ar=>some (s,S)
   | .slice _ _ _ _ _ z _=>cond (zza z sz) (some (s,S)) none
   |_=>none
  |_=>match s with
   | .ar=>cond (fits n bs) (some (grown S e n sz new)) none
   | .slice id g off len lim z cap=>cond (zza z sz)
    (match S.h.get id with
    |some (.row cells low top frz ty)=>
     cond (zzc low g&&zzc g top)
     (gP (zzd len n) fun need=>cond (fits need bs) (
     match cap with
     |some c=>cond (zzc need c)
      (match wr S id g (zzd off (zzb len sz)) lim new with
       |some S'=>some (.slice id g off need lim sz cap,S')
       |none=>none)
      (some (grown S e need sz (gC (takeN (zzb len sz) (lT off cells)) new)))
     |none=>cond (frz || !Nat.beq ty e) none (
      cond (zza off 0&&zza g top&&zza (fw cells) (zzb len sz))
       (some (.slice id (Nat.succ g) 0 need (zzb need sz) sz none,⟨S.h.set id (.row (gC cells new) low (Nat.succ top) false ty),S.nx⟩))
       (some (.slice id (Nat.succ top) 0 need (zzb need sz) sz none,⟨S.h.set id (.row (gC (takeN (zzb len sz) (lT off cells)) new) (Nat.succ top) (Nat.succ top) false ty),S.nx⟩)))) none) none
    |_=>none) none
   |_=>none
def copyV(S:AS)(sz:Nat)(d x:AV):Option (AV×AS):=
 match taken S sz x,d with
 |some _,.ar=>some (.int .i64 0,S)
 |some (n,new),.slice id g off len lim z _=>cond (zza z sz)
  (let m:=Nat.min n len
   match m with
   |0=>some (.int .i64 0,S)
   |m=>match wr S id g off lim (takeN (zzb m sz) new)with
    |some S'=>some (.int .i64 (.ofNat m),S')
    |none=>none) none
 |_,_=>none
def foldI(f:Int->Int->Bool)(k:IntKind)(n:Int):List AV->Option AV
 |[]=>some (.int k n)
 | .int j m::l=>bif eE j k then foldI f k (bif f n m then n else m) l else none
 |_=>none
def om(d:TypeDesc)(x y:AV):Option Bool:=
 match d,x,y with
 | .int _,.int j a,.int k b=>cond (eE j k) (some (Bs a b)) none
 | .string,.str a,.str b=>some (tV a b)
 | .bool,.bool a,.bool b=>some (a==b)
 |_,_,_=>none
def gR(d:TypeDesc)(k:AV)(es:List dI):Nat->Option (Option (Nat×dI)):=
 List.rec (motive:=fun _=>Nat->Option (Option (Nat×dI))) (fun _=>some none)
  (fun e _ ih i=>match om d k e.key with
   |some true=>some (some (i,e))
   |some false=>ih (Nat.succ i)
   |none=>none) es
def plainKey(d:TypeDesc)(k:AV):Bool:=
 match d,k with
 | .int _,.int ..=>true
 | .string,.str _=>true
 | .bool,.bool _=>true
 |_,_=>false
def fH(x:AV):Option Nat:=
 match x with
 | .int _ (.ofNat n)=>some n
 |_=>none
def bound(F:Fr)(x:Option Operand)(d:Nat):Option Nat:=
 match x with
 |some o=>fH (eval F o)
 |none=>some d
def Bk{α:Type}(x:Option α):Bool:=match x with|some _=>true|none=>false
def bounds(F:Fr)(len room:Nat)(lo hi mx:Option Operand):Option (Nat×Nat×Nat):=
 match bound F lo 0,bound F hi len,bound F mx room with
 |some l,some h,some m=>cond (zzc l h&&zzc h m&&zzc m room&&(!Bk mx||Bk hi)) (some (l,h,m)) none
 |_,_,_=>none
def EL(id g off lim sz l h m:Nat):AV:=
 cond (zza m l) (.slice id g off 0 lim sz (some 0)) (gP (zzd off (zzb l sz)) fun o=>.slice id g o (Nat.sub h l) lim sz (some (Nat.sub m l)))
def pB(len:Nat)(cap:Option Nat):Nat:=match cap with|some c=>c|none=>len
def dT(cx:Cx)(F:Fr)(t:TypeId)(x:AV)(lo hi mx:Option Operand):Option AV:=
 match bN cx t,x with
 |some .string,.str s=>match bounds F s.length s.length lo hi mx with
  |some (l,h,_)=>cond (Bk mx) none (some (.str (takeN (Nat.sub h l) (lT l s))))
  |none=>none
 |some (.slice e),.ar=>match aG cx e,bounds F 0 0 lo hi mx with
  |some _,some _=>some .ar
  |_,_=>none
 |some (.slice e),.slice id g off len lim sz cap=>match aG cx e with
  |some z=>cond (zza z sz) (match bounds F len (pB len cap) lo hi mx with
   |some (l,h,m)=>cond (Bk mx||Bk cap) (some (EL id g off lim sz l h m))
    (some (gP (zzd off (zzb l sz)) fun o=>.slice id g o (Nat.sub h l) lim sz none))
   |none=>none) none
  |none=>none
 |some (.array n e),.ptr id g off lim=>match aG cx e with
  |some (Nat.succ z)=>match bounds F n n lo hi mx with
   |some (l,h,m)=>cond (zzc (zzd off (zzb n (Nat.succ z))) lim) (some (EL id g off lim (Nat.succ z) l h m)) none
   |none=>none
  |_=>none
 |_,_=>none
def fO(_cx:Cx)(F:Fr)(place:Nat->Option (Nat×Nat))(parts:List (Nat×Operand)):List AV->Option (List AV):=
 List.rec (motive:=fun _=>List AV->Option (List AV)) (fun cells=>some cells)
  (fun p _ ih cells=>match place p.1,cellsOf (eval F p.2)with
   |some (off,size),some new=>cond (zza (fw new) size&&zzc (zzd off size) (fw cells)) (ih (dq off cells new)) none
   |_,_=>none) parts
def pJ(cx:Cx)(fs:List Field):Option (List (Nat×Nat)):=
 List.rec (motive:=fun _=>Option (List (Nat×Nat))) (some []) (fun f _ ih=>match aG cx f.type,ih with
  |some n,some l=>some ((f.offset,n)::l)
  |_,_=>none) fs
def qb(cx:Cx)(F:Fr)(t:TypeId)(parts:List (Nat×Operand)):Option AV:=
 match zeroOf cx t with
 |none=>none
 |some z=>match cellsOf z,bN cx t with
  |some zero,some (.struct fs)=>match pJ cx fs.toList with
   |some ps=>match fO cx F (fun i=>nth i ps) parts zero with
    |some cells=>some (.agg cells)
    |none=>none
   |none=>none
  |some zero,some (.array _ e)=>match aG cx e with
   |some sz=>match fO cx F (fun i=>some (zzb i sz,sz)) parts zero with
    |some cells=>some (.agg cells)
    |none=>none
   |none=>none
  |_,_=>none
def kU(cx:Cx)(x:AV)(t:TypeId)(ok:Bool):Option AV:=
 match bN cx t with
 |none=>none
 |some (.interface _)=>none
 |some _=>match x with
  | .iface u v=>cond (zza u t) (some (cond ok (.tuple [v,.bool true]) v))
   (cond ok (match zeroOf cx t with|some z=>some (.tuple [z,.bool false])|none=>none) none)
  | .bR=>cond ok (match zeroOf cx t with|some z=>some (.tuple [z,.bool false])|none=>none) none
  |_=>none
def args(F:Fr)(xs:Array Operand):List AV:=oD (eval F) xs.toList
def val?(v:Option AV)(S:AS)(n:Nat):AR:=match v with|some v=>.val v S|none=>.err n
def ey(v:Option (AV×AS))(n:Nat):AR:=match v with|some (v,S)=>.val v S|none=>.err n
def Hm(c:Nat)(s:List Nat):Nat->Option Nat:=
 List.rec (motive:=fun _=>Nat->Option Nat) (fun _=>none) (fun x _ ih i=>cond (zza x c) (some i) (ih (Nat.succ i))) s
def cntB(c:Nat)(s:List Nat):Nat->Nat:=
 List.rec (motive:=fun _=>Nat->Nat) (fun n=>n) (fun x _ ih n=>cond (zza x c) (ih (Nat.succ n)) (ih n)) s
def jgi(p:List Nat):List Nat->Bool:=
 List.rec (motive:=fun _=>List Nat->Bool) (fun _=>true) (fun x _ ih l=>List.casesOn (motive:=fun _=>Bool) l false fun y t=>cond (zza x y) (ih t) false) p
def idxS(p s:List Nat):Nat->Option Nat:=
 List.rec (motive:=fun _=>Nat->Option Nat) (fun i=>cond (jgi p []) (some i) none) (fun x t ih i=>cond (jgi p (x::t)) (some i) (ih (Nat.succ i))) s
def Z2(x:Xf)(S:AS)(as:List AV):Option (AV×AS):=none
def qm(cx:Cx)(S:AS)(fv:AV)(as:List AV):AR:=
 match fv with
 | .func (.func f) first captured=>match cx.exts.get f with
  |some x=>ey (Z2 x S (gC first (gC as captured))) 101
  |none=>.enter f (gC first (gC as captured)) S
 | .obj .LZ id=>.round id as S
 |_=>.err 100
def lC(cx:Cx)(e:TypeId)(sz:Nat):Bool:=
 match zeroOf cx e with
 |some z=>match cellsOf z with
  |some l=>zza (fw l) sz
  |none=>false
 |none=>false
def sF(c:AV)(r:Option (List Nat)):Option (List Nat):=
 match c,r with
 | .int .u8 (.ofNat n),some l=>cond (zze n 256) (some (n::l)) none
 |_,_=>none
def tZ(cs:List AV):Option (List Nat):=
 List.rec (motive:=fun _=>Option (List Nat)) (some []) (fun c _ ih=>sF c ih) cs
def wO{α:Type}(n:Nat):List α->List α:=
 Nat.rec (motive:=fun _=>List α->List α) (fun l=>List.casesOn (motive:=fun _=>List α) l [] fun _ t=>t)
  (fun _ ih l=>List.casesOn (motive:=fun _=>List α) l [] fun y t=>y::ih t) n
def sE(cx:Cx)(S:AS)(t:TypeId)(x k:AV):Option (AV×AS):=
 match bN cx t with
 |some (.map kt _)=>match bN cx kt with
  |some d=>cond (plainKey d k) (match x with
   | .j8=>some (.undef,S)
   | .map id=>match S.h.get id with
    |some (.map es clock)=>match gR d k es 0 with
     |some (some (i,_))=>some (.undef,⟨S.h.set id (.map (wO i es) clock),S.nx⟩)
     |some none=>some (.undef,⟨S.h.set id (.map es clock),S.nx⟩)
     |none=>none
    |_=>none
   |_=>none) none
  |none=>none
 |_=>none
def Lr(cx:Cx)(S:AS)(t:TypeId)(x:AV):Option (AV×AS):=none
def wi(frz:Bool)(low:Nat):Bool:=cond frz (zza low 0) true
def RP(cx:Cx)(S:AS)(t:TypeId)(p:AV)(n:Nat):Option (AV×AS):=
 match n with
 |0=>match p with
  | .ck=>some (.str [],S)
  | .ptr ..=>some (.str [],S)
  |_=>none
 |_=>match bN cx t,p with
  |some (.pointer e),.ptr id g off lim=>match bN cx e,aG cx e,S.h.get id with
   |some (.int .u8),some 1,some (.row cells low top frz ty)=>cond (zza ty e&&zzc n 4611686018427387904&&wi frz low) (match rd S id g off n lim with
    |some cs=>match tZ cs with
     |some l=>some (.str l,⟨S.h.set id (.row cells low top true ty),S.nx⟩)
     |none=>none
    |none=>none) none
   |_,_,_=>none
  |_,_=>none
def jaK(cx:Cx)(S:AS)(e:TypeId)(s x:AV):Option (AV×AS):=
 match aG cx e,bytesOf cx e,zeroOf cx e,s,x with
 |some (Nat.succ z),some bs,some zv,.slice id g off len lim sz (some c),.int _ (.ofNat n)=>match cellsOf zv,taken S (Nat.succ z) (.slice id g off len lim sz (some c))with
  |some zero,some (_,old)=>cond (zza (fw zero) (Nat.succ z)&&zze c (zzd len n)&&fits (zzd len n) bs) (some (grown S e (zzd len n) (Nat.succ z) (gC old (lE n zero)))) none
  |_,_=>none
 |_,_,_,_,_=>none
def bh(cx:Cx)(S:AS)(b:Builtin)(ts:List TypeId)(as:List AV):AR:=
 match b,ts,as with
 | .len,t::_,x::_=>match KG cx S t x with|some n=>.val (gP n fun n=>.int .i64 (.ofNat n)) S|none=>.err 1
 | .cap,t::_,x::_=>match bN cx t,x with
  |some (.slice _),.ar=>.val (.int .i64 0) S
  |some (.slice _),.slice _ _ _ _ _ _ (some c)=>.val (.int .i64 (.ofNat c)) S
  |some (.array n _),_=>.val (.int .i64 (.ofNat n)) S
  |_,_=>.err 2
 | .append,t::u::_,[s,x]=>match bN cx t,bN cx u with
  |some (.slice e),some (.int _)=>ey (jaK cx S e s x) 3
  |some (.slice e),some _=>match aG cx e,bytesOf cx e with
   |some (Nat.succ z),some bs=>cond (lC cx e (Nat.succ z)) (ey (gf S e (Nat.succ z) bs s x) 4) (.err 13)
   |_,_=>.err 5
  |_,_=>.err 6
 | .copy,t::_,[d,x]=>match bN cx t with
  |some (.slice e)=>match aG cx e with
   |some (Nat.succ z)=>ey (copyV S (Nat.succ z) d x) 7
   |_=>.err 8
  |_=>.err 9
 | .unsafeSliceData,_,[.ar]=>.val .ck S
 | .unsafeSliceData,_,[.slice id g off len lim _ _]=>cond (zze 0 len) (.val (.ptr id g off lim) S) (.err 14)
 | .unsafeString,t::_,[p,.int _ (.ofNat n)]=>ey (RP cx S t p n) 15
 | .delete,t::_,[x,k]=>ey (sE cx S t x k) 16
 | .clear,t::_,[x]=>ey (Lr cx S t x) 17
 | .min,_,.int k n::l=>val? (foldI (fun n m=>!ML m n) k n l) S 10
 | .max,_,.int k n::l=>val? (foldI (fun n m=>!ML n m) k n l) S 11
 |_,_,_=>.err 12
def lY(cx:Cx)(S:AS)(t:TypeId)(x k:AV)(ok:Bool):Option AV:=
 match bN cx t with
 |some (.map kt et)=>match bN cx kt,zeroOf cx et with
  |some d,some z=>cond (plainKey d k) (match x with
   | .j8=>some (cond ok (.tuple [z,.bool false]) z)
   | .map id=>match S.h.get id with
    |some (.map es _)=>match gR d k es 0 with
     |some (some (_,e))=>some (cond ok (.tuple [e.val,.bool true]) e.val)
     |some none=>some (cond ok (.tuple [z,.bool false]) z)
     |none=>none
    |_=>none
   |_=>none) none
  |_,_=>none
 |_=>none
def ph(cx:Cx)(S:AS)(t:TypeId)(x k v:AV):Option (AV×AS):=
 match bN cx t,x with
 |some (.map kt _),.map id=>match bN cx kt with
  |some d=>cond (plainKey d k) (match S.h.get id with
   |some (.map es clock)=>match gR d k es 0 with
    |some (some (i,e))=>some (.undef,⟨S.h.set id (.map (tF i es ⟨k,v,e.born⟩) clock),S.nx⟩)
    |some none=>some (.undef,⟨S.h.set id (.map (gC es [⟨k,v,clock⟩]) (Nat.succ clock)),S.nx⟩)
    |none=>none
   |_=>none) none
  |none=>none
 |_,_=>none
def EJ(cx:Cx)(S:AS)(t:TypeId)(x k:AV):Option (AV×AS):=none
def EI(S:AS)(x k v:AV):Option (AV×AS):=none
def J3(cx:Cx)(S:AS)(t:TypeId)(x:AV):Option (AV×AS):=none
def uV(S:AS)(x:AV)(str:Bool):AR:=.err 88
def Lh(S:AS)(x:AV):Option AV:=none
def tO(F:Fr)(r:Option Operand):Bool:=match r with|none=>true|some x=>Bk (fH (eval F x))
def aD(cx:Cx)(F:Fr)(id:Nat)(op:Op):Option (AV×dR):=
 match op with
 | .alloc e=>match zeroOf cx e with
  |some z=>match cellsOf z with
   |some cs=>some (.ptr id 0 0 (fw cs),.row cs 0 0 false e)
   |none=>none
  |none=>none
 | .box t x=>match cellsOf (eval F x)with
  |some cs=>some (.ptr id 0 0 (fw cs),.row cs 0 0 false t)
  |none=>none
 | .buildSlice t n parts=>match bN cx t with
  |some (.slice e)=>match aG cx e,zeroOf cx e with
   |some (Nat.succ z),some zv=>match cellsOf zv with
    |some zero=>cond (zza (fw zero) (Nat.succ z)&&zzc (zzb n (Nat.succ z)) 16777216)
     (match fO cx F (fun i=>some (zzb i (Nat.succ z),Nat.succ z)) parts.toList (lE n zero)with
     |some cells=>some (.slice id 0 0 n (zzb n (Nat.succ z)) (Nat.succ z) (some n),.row cells 0 0 false e)
     |none=>none) none
    |none=>none
   |_,_=>none
  |_=>none
 | .makeMap t r=>match bN cx t with
  |some (.map _ _)=>cond (tO F r) (some (.map id,.map [] 0)) none
  |_=>none
 | .makeSlice t l c=>match bN cx t,fH (eval F l),fH (eval F c)with
  |some (.slice e),some l,some c=>match aG cx e,bytesOf cx e,zeroOf cx e with
   |some (Nat.succ z),some bs,some zv=>match cellsOf zv with
    |some zero=>cond (zza (fw zero) (Nat.succ z)&&zzc l c&&fits c bs)
     (some (.slice id 0 0 l (zzb c (Nat.succ z)) (Nat.succ z) (some c),.row (lE c zero) 0 0 false e)) none
    |none=>none
   |_,_,_=>none
  |_,_,_=>none
 |_=>none
def iL(r:Option (AV×dR))(S:AS)(n:Nat):AR:=
 match r with
 |some (v,o)=>.val v ⟨S.h.set S.nx o,Nat.succ S.nx⟩
 |none=>.err n
def bF(cx:Cx)(F:Fr)(S:AS)(o:Oper):AR:=
 match o.op with
 | .move x=>.val (eval F x) S
 | .assign x=>.val (eval F x) S
 | .pick c a b=>match eval F c with
  | .bool true=>.val (eval F a) S
  | .bool false=>.val (eval F b) S
  |_=>.err 20
 | .alloc e=>iL (aD cx F S.nx (.alloc e)) S 21
 | .box t x=>iL (aD cx F S.nx (.box t x)) S 23
 | .build t parts=>val? (qb cx F t parts.toList) S 24
 | .buildSlice t n parts=>iL (aD cx F S.nx (.buildSlice t n parts)) S 25
 | .load t x=>match eval F x with
  | .ptr id g off lim=>match aN cx t with
   |some true=>match aG cx t with
    |some n=>match rd S id g off n lim with
     |some cs=>.val (.agg cs) S
     |none=>.err 30
    |none=>.err 31
   |some false=>match rd S id g off 1 lim with
    |some [v]=>.val v S
    |_=>.err 32
   |none=>.err 33
  | .wH g off=>match cx.lS.get g with
   |some cs=>val? (Vr cx t cs off) S 133
   |none=>.err 134
  |_=>.err 34
 | .store t x y=>match eval F x,cellsOf (eval F y),aG cx t with
  | .ptr id g off lim,some cs,some n=>cond (zza (fw cs) n) (match wr S id g off lim cs with
   |some S'=>.val .undef S'
   |none=>.err 35) (.err 36)
  |_,_,_=>.err 37
 | .nilCheck x=>match eval F x with
  | .ptr i g o l=>.val (.ptr i g o l) S
  | .wH g o=>.val (.wH g o) S
  | .func (.func f) a b=>.val (.func (.func f) a b) S
  | .slice a b c d e f g=>.val (.slice a b c d e f g) S
  | .map i=>.val (.map i) S
  | .obj k i=>.val (.obj k i) S
  |_=>.err 38
 | .binOp op t x y _=>val? (aZ cx op t ((x matches .const _)||(y matches .const _)) (eval F x) (eval F y)) S 40
 | .unOp op _ x=>val? (unV op (eval F x)) S 41
 | .convert src dst x=>match bN cx src,bN cx dst,eval F x with
  |some _,some (.int k),.int _ n=>.val (Kw k n) S
  |some _,some .string,.str s=>.val (.str s) S
  |some _,some (.slice e),.str s=>match bN cx e with
   |some (.int .u8)=>.val (.slice S.nx 0 0 s.length s.length 1 none) ⟨S.h.set S.nx (.row (oD (fun n=>AV.int .u8 (.ofNat n)) s) 0 0 true e),Nat.succ S.nx⟩
   |_=>.err 42
  |some (.slice e),some .string,x=>match bN cx e,x with
   |some (.int .u8),.ar=>.val (.str []) S
   |some (.int .u8),.slice id g off len lim 1 _=>match len with
    |0=>.val (.str []) S
    |_=>match rd S id g off len lim with
     |some cs=>match tZ cs with
      |some l=>.val (.str l) S
      |none=>.err 43
     |none=>.err 44
   |_,_=>.err 45
  |some (.slice _),some (.slice e),.slice id g off len lim sz cap=>cond (zza src dst&&zze 0 len) (match bN cx e,S.h.get id with
   |some (.int .u8),some (.row cells low top frz ty)=>cond (zzc low g&&zzc g top&&wi frz low) (.val (.slice id g off len lim sz cap) ⟨S.h.set id (.row cells low top true ty),S.nx⟩) (.err 147)
   |_,_=>.err 145) (.err 146)
  |some (.pointer e),some .unsafePointer,.ptr id g off lim=>match aG cx e,S.h.get id with
   |some (Nat.succ _),some (.row _ low top _ _)=>cond (zze off lim&&zzc low g&&zzc g top) (.val (.ptr id g off lim) S) (.err 141)
   |_,_=>.err 142
  |some .unsafePointer,some (.pointer u),.ptr id g off lim=>match g,off,aG cx u,S.h.get id with
   |0,0,some (Nat.succ z),some (.row _ low _ _ ty)=>cond (zza ty u&&zzc (Nat.succ z) lim&&zza low 0) (.val (.ptr id 0 0 lim) S) (.err 143)
   |_,_,_,_=>.err 144
  |_,_,_=>.err 46
 | .makeInterface t x=>match bN cx t with
  |some (.interface _)=>.err 47
  |some _=>.val (.iface t (eval F x)) S
  |none=>.err 48
 | .makeFunc fn first captured=>.val (.func fn (args F first) (args F captured)) S
 | .makeMap t r=>iL (aD cx F S.nx (.makeMap t r)) S 48
 | .makeSlice t l c=>iL (aD cx F S.nx (.makeSlice t l c)) S 49
 | .slice t x lo hi mx=>val? (dT cx F t (eval F x) lo hi mx) S 53
 | .fieldAddr s x f=>match bN cx s,eval F x with
  |some (.struct fs),.ptr id g off lim=>match nth f fs.toList with
   |some fd=>match aG cx fd.type with
    |some (Nat.succ _)=>.val (gP (zzd off fd.offset) fun o=>.ptr id g o lim) S
    |_=>.err 54
   |none=>.err 55
  |_,_=>.err 56
 | .field t x f=>match bN cx t,eval F x with
  |some (.struct fs),.agg cs=>match nth f fs.toList with
   |some fd=>val? (partOf cx fd.type cs fd.offset) S 57
   |none=>.err 58
  |_,_=>.err 59
 | .indexAddr t x ix=>match bN cx t,eval F x,fH (eval F ix)with
  |some (.slice e),.slice id g off len lim sz _,some i=>match aG cx e with
   |some z=>cond (zza z sz&&zze i len) (.val (gP (zzd off (zzb i sz)) fun o=>.ptr id g o lim) S) (.err 60)
   |none=>.err 61
  |some (.array n e),.ptr id g off lim,some i=>match aG cx e with
   |some z=>cond (zze i n) (.val (gP (zzd off (zzb i z)) fun o=>.ptr id g o lim) S) (.err 62)
   |none=>.err 63
  |some (.array n e),.wH g off,some i=>match aG cx e with
   |some z=>cond (zze i n) (.val (gP (zzd off (zzb i z)) fun o=>.wH g o) S) (.err 162)
   |none=>.err 163
  |_,_,_=>.err 64
 | .index t x ix=>match bN cx t,eval F x,fH (eval F ix)with
  |some .string,.str s,some i=>match nth i s with
   |some n=>.val (.int .u8 (.ofNat n)) S
   |none=>.err 65
  |some (.array n e),.agg cs,some i=>match aG cx e with
   |some z=>cond (zze i n) (val? (partOf cx e cs (zzb i z)) S 66) (.err 67)
   |none=>.err 68
  |_,_,_=>.err 70
 | .lookup t x ix ok=>val? (lY cx S t (eval F x) (eval F ix) ok) S 71
 | .mapUpdate t m k v=>ey (ph cx S t (eval F m) (eval F k) (eval F v)) 78
 | .insert t m k v=>ey (ph cx S t (eval F m) (eval F k) (eval F v)) 79
 | .mapEntry t m k=>ey (EJ cx S t (eval F m) (eval F k)) 86
 | .entryStore _ m k v=>ey (EI S (eval F m) (eval F k) (eval F v)) 87
 | .range t x=>ey (J3 cx S t (eval F x)) 88
 | .next x str=>uV S (eval F x) str
 | .entry x=>val? (Lh S (eval F x)) S 89
 | .panic x=>match eval F x with
  | .iface t v=>.eO (.iface t v) S
  |_=>.err 98
 | .typeAssert x _ t ok=>val? (kU cx (eval F x) t ok) S 85
 | .extract x i=>match eval F x with
  | .tuple vs=>val? (nth i vs) S 82
  |_=>.err 83
 | .call c=>match c.callee with
  | .value f=>qm cx S (eval F f) (args F c.args)
  | .builtin b=>bh cx S b c.argTypes.toList (args F c.args)
  | .invoke _ _=>.err 84
 |_=>.err 99
end Go.Am
end
