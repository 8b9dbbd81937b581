/-
  The abstract machine: its operations.
-/
import Derived.Test.YthklfandhmkpiaaGreatDoorAmDefs
open Nat renaming beq->zza,ble->zzb,mul->zzc,add->zzd,blt->zze
set_option linter.unusedVariables false
set_option linter.unusedSimpArgs false
noncomputable section
namespace Go.Am
open Go
def ofVF(n:Nat):Value->AV:=
 Nat.rec (motive:=fun _=>Value->AV) (fun _=>.top) (fun _ ih v=>
  match v with
  | .bool b=>.bool b
  | .int k n=>.int k n
  | .string s=>.str (jt UInt8.toNat s.data.toList)
  | .pointer none=>.cT
  | .slice none 0 0=>.ar
  | .map none=>.jb
  | .nilFunc=>.kI
  | .nilIface=>.bS
  | .chan none=>.nilc
  | .agg a=>cond (a.toList.all Value.oneCell') (.agg (jt ih a.toList)) .top
  |_=>.top) n
def ofV(v:Value):AV:=ofVF 2 v
def evTmp(t:Tmp)(F:Fr):AV:=@Option.rec AV (fun _=>AV) .undef (fun v=>v) (F.t.get t)
def evConst(v:Value)(_:Fr):AV:=ofV v
def evGlob(g:Nat)(_:Fr):AV:=.kM g 0
def evFunc(f:FuncId)(_:Fr):AV:=.func (.func f) [] []
def eval(F:Fr)(x:Operand):AV:=@Operand.rec (fun _=>Fr->AV) evTmp evConst evGlob evFunc x F
def cellsOf(v:AV):Option (List AV):=
 match v with
 | .agg cs=>some cs
 | .top=>none
 | .tuple _=>none
 | .eQ _=>none
 |v=>some [v]
def bJ(cx:Cx)(t:TypeId):Option TypeDesc:=
 match cx.jU.get t with
 |some i=>match i.desc with
  | .named _ u=>match cx.jU.get u with|some j=>some j.desc|none=>none
  |d=>some d
 |none=>none
def aH(cx:Cx)(t:TypeId):Option Nat:=match cx.jU.get t with|some i=>some i.size|none=>none
def bytesOf(cx:Cx)(t:TypeId):Option Nat:=match cx.jU.get t with|some i=>some i.bytes|none=>none
def zeroOf(cx:Cx)(t:TypeId):Option AV:=
 match cx.jU.get t with
 |some i=>match i.zero with|some z=>some (ofV z)|none=>none
 |none=>none
def aX(cx:Cx)(t:TypeId):Option Bool:=
 match bJ cx t with
 |some (.struct _)=>some true
 |some (.array _ _)=>some true
 |some _=>some false
 |none=>none
def partOf(cx:Cx)(t:TypeId)(cs:List AV)(off:Nat):Option AV:=
 match aX cx t with
 |some true=>match aH cx t with
  |some n=>some (.agg (takeN n (kZ off cs)))
  |none=>none
 |some false=>nth off cs
 |none=>none
def fD(n:Nat)(l:List AV):List AV:=Nat.rec (motive:=fun _=>List AV) [] (fun _ ih=>gR l ih) n
def DH(cx:Cx)(t:TypeId)(cs:List AV)(off:Nat):Option AV:=
 match aX cx t with
 |some true=>match aH cx t with
  |some n=>cond (zzb (zzd off n) (dN cs)) (some (.agg (takeN n (kZ off cs)))) none
  |none=>none
 |some false=>nth off cs
 |none=>none
def rd(S:AS)(id g off n aM:Nat):Option (List AV):=
 match S.h.get id with
 |some (.row cells low top _ _)=>
  cond (zzb low g&&zzb g top&&zzb (zzd off n) aM) (some (takeN n (kZ off cells))) none
 |_=>none
def wr(S:AS)(id g off aM:Nat)(new:List AV):Option AS:=
 match S.h.get id with
 |some (.row cells _ top frz ty)=>
  cond (zza g top&&zzb (zzd off (dN new)) aM && !frz) (some ⟨S.h.set id (.row (ec off cells new) top top false ty),S.nx⟩) none
 |_=>none
def ph(a:List Nat):List Nat->Bool:=
 List.rec (motive:=fun _=>List Nat->Bool) (fun b=>List.casesOn (motive:=fun _=>Bool) b true fun _ _=>false)
  (fun x _ ih b=>List.casesOn (motive:=fun _=>Bool) b false fun y t=>cond (zza x y) (ih t) false) a
def nK(a:List Nat):List Nat->Bool:=
 List.rec (motive:=fun _=>List Nat->Bool) (fun b=>List.casesOn (motive:=fun _=>Bool) b false fun _ _=>true)
  (fun x _ ih b=>List.casesOn (motive:=fun _=>Bool) b false fun y t=>cond (zze x y) true (cond (zza x y) (ih t) false)) a
def eqFields(eq:TypeId->AV->AV->Option Bool)(cx:Cx)(xs ys:List AV)(fs:List Field):Option Bool:=
 List.rec (motive:=fun _=>Option Bool) (some true) (fun f _ ih=>
  match partOf cx f.type xs f.offset,partOf cx f.type ys f.offset with
  |some a,some b=>match eq f.type a b with
   |some true=>ih
   |r=>r
  |_,_=>none) fs
def Bb(eq:AV->AV->Option Bool)(cx:Cx)(e:TypeId)(z:Nat)(xs ys:List AV)(n:Nat):Nat->Option Bool:=
 Nat.rec (motive:=fun _=>Nat->Option Bool) (fun _=>some true) (fun _ ih i=>
  match partOf cx e xs (zzc i z),partOf cx e ys (zzc i z)with
  |some a,some b=>match eq a b with
   |some true=>ih (Nat.succ i)
   |r=>r
  |_,_=>none) n
def gP(cx:Cx)(ih:TypeId->AV->AV->Option Bool)(t:TypeId)(d:TypeDesc)(x y:AV):Option Bool:=
 match d,x,y with
 | .int _,.int j a,.int k b=>cond (iO j k) (some (pP a b)) none
 | .int _,.obj .sym i,.obj .sym j=>cond (zza i j) (some true) none
 | .bool,.bool a,.bool b=>some (a==b)
 | .string,.str a,.str b=>some (ph a b)
 | .pointer _,.cT,.cT=>some true
 | .pointer _,.cT,.ptr ..=>some false
 | .pointer _,.ptr ..,.cT=>some false
 | .pointer e,.ptr i g o _,.ptr j h p _=>match aH cx e with
  |some _=>cond (zza i j&&zza g h&&zza o p) (some true) none
  |none=>none
 | .slice _,.ar,.ar=>some true
 | .slice _,.ar,.slice ..=>some false
 | .slice _,.slice ..,.ar=>some false
 | .map _ _,.jb,.jb=>some true
 | .map _ _,.jb,.map _=>some false
 | .map _ _,.map _,.jb=>some false
 | .func _ _ _,.kI,.kI=>some true
 | .func _ _ _,.kI,.func ..=>some false
 | .func _ _ _,.func ..,.kI=>some false
 | .interface _,.bS,.bS=>some true
 | .interface _,.bS,.iface ..=>some false
 | .interface _,.iface ..,.bS=>some false
 | .interface _,.iface t a,.iface u b=>cond (zza t u) (match cx.jU.get t with
   |some i=>cond i.comparable (ih t a b) none
   |none=>none) (some false)
 | .struct fs,.agg xs,.agg ys=>match cx.eqs.get t with
  |some _=>eqFields ih cx xs ys fs.toList
  |none=>none
 | .array n e,.agg xs,.agg ys=>match cx.eqs.get t with
  |some _=>match aH cx e with
   |some z=>Bb (ih e) cx e z xs ys n 0
   |none=>none
  |none=>none
 |_,_,_=>none
def eqR(cx:Cx)(n:Nat):TypeId->AV->AV->Option Bool:=
 Nat.rec (motive:=fun _=>TypeId->AV->AV->Option Bool) (fun _ _ _=>none) (fun _ ih t x y=>
  match bJ cx t with
  |none=>none
  |some d=>gP cx ih t d x y) n
def lite(jU:T TypeInfo)(eqs:T Unit):Cx:=⟨jU,.leaf,eqs,.leaf,.leaf,.leaf,.leaf⟩
def tA(cx:Cx)(n:Nat):TypeId->AV->AV->Option Bool:=eqR (lite cx.jU cx.eqs) n
def oV(op:BinOp)(a b:Nat):Nat:=
 match op with
 | .and=>Nat.land a b
 | .or=>Nat.lor a b
 | .xor=>Nat.xor a b
 |_=>0
def mkI(k:IntKind)(n:Int):AV:=ju (wrapF k n) fun n=>.int k n
def wg(op:BinOp)(k:IntKind)(x y:Int):Int:=
 let a:=BitVec.ofInt k.bits x
 let b:=BitVec.ofInt k.bits y
 match op with
 | .and=>k.wrap (a &&& b).toNat
 | .or=>k.wrap (a ||| b).toNat
 | .xor=>k.wrap (a ^^^ b).toNat
 |_=>k.wrap (a &&& ~~~b).toNat
def lg(op:BinOp)(k:IntKind)(x y:Int):AV:=
 match op,x,y with
 | .andNot,x,y=>ju (wg .andNot k x y) fun n=>.int k n
 |op,.ofNat a,.ofNat b=>cond (zze a (half k)&&zze b (half k)) (dS (oV op a b) fun n=>.int k (.ofNat n)) (ju (wg op k x y) fun n=>.int k n)
 |op,x,y=>ju (wg op k x y) fun n=>.int k n
def pB(op:BinOp)(k:IntKind)(a b:Int):Option AV:=
 match op with
 | .add=>some (mkI k (Int.add a b))
 | .sub=>some (mkI k (Int.sub a b))
 | .mul=>some (mkI k (Int.mul a b))
 | .quo=>cond (pP b (.ofNat 0)) none (some (mkI k (Int.tdiv a b)))
 | .rem=>cond (pP b (.ofNat 0)) none (some (ju (Int.tmod a b) fun n=>.int k n))
 | .eql=>some (.bool (pP a b))
 | .neq=>some (.bool (!pP a b))
 | .lss=>some (.bool (ltI a b))
 | .leq=>some (.bool (!ltI b a))
 | .gtr=>some (.bool (ltI b a))
 | .geq=>some (.bool (!ltI a b))
 | .shl=>match b with
  | .ofNat n=>some (mkI k (Int.mul a (.ofNat (Nat.pow 2 (Nat.min n k.bits)))))
  |_=>none
 | .shr=>match b with
  | .ofNat n=>some (ju (Int.fdiv a (.ofNat (Nat.pow 2 (Nat.min n k.bits)))) fun n=>.int k n)
  |_=>none
 | .and=>some (lg .and k a b)
 | .or=>some (lg .or k a b)
 | .xor=>some (lg .xor k a b)
 | .andNot=>some (lg .andNot k a b)
def wh(op:BinOp)(a b:List Nat):Option AV:=
 match op with
 | .add=>cond (zzb (zzd (dN a) (dN b)) 4611686018427387904) (some (.str (gR a b))) none
 | .eql=>some (.bool (ph a b))
 | .neq=>some (.bool (!ph a b))
 | .lss=>some (.bool (nK a b))
 | .leq=>some (.bool (!nK b a))
 | .gtr=>some (.bool (nK b a))
 | .geq=>some (.bool (!nK a b))
 |_=>none
def mh(x:AV):Bool:=
 match x with
 | .bool _=>true | .cT=>true | .ptr ..=>true | .ar=>true | .slice ..=>true | .jb=>true | .map _=>true
 | .func ..=>true | .kI=>true | .bS=>true | .iface ..=>true | .agg _=>true
 |_=>false
def qh(cx:Cx)(t:TypeId)(cst:Bool)(x y:AV):Option Bool:=
 match x,y with
 | .bS,.bS=>cond cst (tA cx 6 t .bS .bS) none
 |x,y=>cond (mh x) (tA cx 6 t x y) none
def gtrV(x y:AV):Option AV:=
 match x,y with
 | .obj .small _,.int .i64 (.ofNat n)=>cond (zza n 256) (some (.bool false)) none
 |_,_=>none
def bI(cx:Cx)(op:BinOp)(t:TypeId)(cst:Bool)(x y:AV):Option AV:=
 match x,y with
 | .int j a,.int k b=>match op with
  | .shl=>pB .shl j a b
  | .shr=>pB .shr j a b
  |op=>cond (iO j k) (pB op j a b) none
 | .str a,.str b=>wh op a b
 |x,y=>match op with
  | .eql=>match qh cx t cst x y with|some r=>some (.bool r)|none=>none
  | .neq=>match qh cx t cst x y with|some r=>some (.bool (!r))|none=>none
  | .gtr=>gtrV x y
  |_=>none
def unV(op:UnOp)(x:AV):Option AV:=
 match op,x with
 | .not,.bool b=>some (.bool (!b))
 | .neg,.int k n=>some (mkI k (Int.sub (.ofNat 0) n))
 | .xor,.int k n=>some (lg .xor k (cond (sgn k) (.negSucc 0) (.ofNat (Nat.sub (half k) 1))) n)
 |_,_=>none
def lenV(cx:Cx)(S:AS)(t:TypeId)(x:AV):Option Nat:=
 match bJ cx t,x with
 |some .string,.str s=>some s.length
 |some (.slice _),.ar=>some 0
 |some (.slice _),.slice _ _ _ len _ _ _=>some len
 |some (.map _ _),.jb=>some 0
 |some (.map _ _),.map id=>match S.h.get id with
  |some (.map es _)=>some es.length
  |_=>none
 |some (.array n _),_=>some n
 |some (.pointer e),_=>match bJ cx e with
  |some (.array n _)=>some n
  |_=>none
 |_,_=>none
def taken(S:AS)(sz:Nat)(x:AV):Option (Nat×List AV):=
 match x with
 | .ar=>some (0,[])
 | .str s=>cond (zza sz 1) (some (s.length,jt (fun n=>AV.int .u8 (.ofNat n)) s)) none
 | .slice id g off len aM z _=>cond (zza z sz) (match len with
   |0=>some (0,[])
   |_=>match rd S id g off (zzc len sz) aM with
    |some l=>some (len,l)
    |none=>none) none
 |_=>none
def grown(S:AS)(e need sz:Nat)(cells:List AV):AV×AS:=
 (.slice S.nx 0 0 need (zzc need sz) sz none,⟨S.h.set S.nx (.row cells 0 0 false e),Nat.succ S.nx⟩)
def fits(need bs:Nat):Bool:=zzb need 4611686018427387904&&zzb (zzc need bs) 140737488355328
def gg(S:AS)(e sz bs:Nat)(s x:AV):Option (AV×AS):=
 match taken S sz x with
 |none=>none
 |some (n,new)=>
  match n with
  |0=>match s with
   | .ar=>some (s,S)
   | .slice _ _ _ _ _ z _=>cond (zza z sz) (some (s,S)) none
   |_=>none
  |_=>match s with
   | .ar=>cond (fits n bs) (some (grown S e n sz new)) none
   | .slice id g off len aM z cap=>cond (zza z sz)
    (match S.h.get id with
    |some (.row cells low top frz ty)=>
     cond (zzb low g&&zzb g top)
     (dS (zzd len n) fun need=>cond (fits need bs) (
     match cap with
     |some c=>cond (zzb need c)
      (match wr S id g (zzd off (zzc len sz)) aM new with
       |some S'=>some (.slice id g off need aM sz cap,S')
       |none=>none)
      (some (grown S e need sz (gR (takeN (zzc len sz) (kZ off cells)) new)))
     |none=>cond (frz || !Nat.beq ty e) none (
      cond (zza off 0&&zza g top&&zza (dN cells) (zzc len sz))
       (some (.slice id (Nat.succ g) 0 need (zzc need sz) sz none,⟨S.h.set id (.row (gR cells new) low (Nat.succ top) false ty),S.nx⟩))
       (some (.slice id (Nat.succ top) 0 need (zzc need sz) sz none,⟨S.h.set id (.row (gR (takeN (zzc len sz) (kZ off cells)) new) (Nat.succ top) (Nat.succ top) false ty),S.nx⟩)))) none) none
    |_=>none) none
   |_=>none
def copyV(S:AS)(sz:Nat)(d x:AV):Option (AV×AS):=
 match taken S sz x,d with
 |some _,.ar=>some (.int .i64 0,S)
 |some (n,new),.slice id g off len aM z _=>cond (zza z sz)
  (let m:=Nat.min n len
   match m with
   |0=>some (.int .i64 0,S)
   |m=>match wr S id g off aM (takeN (zzc m sz) new)with
    |some S'=>some (.int .i64 (.ofNat m),S')
    |none=>none) none
 |_,_=>none
def foldI(f:Int->Int->Bool)(k:IntKind)(n:Int):List AV->Option AV
 |[]=>some (.int k n)
 | .int j m::l=>bif iO j k then foldI f k (bif f n m then n else m) l else none
 |_=>none
def uQ(d:TypeDesc)(x y:AV):Option Bool:=
 match d,x,y with
 | .int _,.int j a,.int k b=>cond (iO j k) (some (pP a b)) none
 | .string,.str a,.str b=>some (ph a b)
 | .bool,.bool a,.bool b=>some (a==b)
 |_,_,_=>none
def zm(d:TypeDesc)(k:AV)(es:List jo):Nat->Option (Option (Nat×jo)):=
 List.rec (motive:=fun _=>Nat->Option (Option (Nat×jo))) (fun _=>some none)
  (fun e _ ih i=>match uQ d k e.key with
   |some true=>some (some (i,e))
   |some false=>ih (Nat.succ i)
   |none=>none) es
def plainKey(d:TypeDesc)(k:AV):Bool:=
 match d,k with
 | .int _,.int ..=>true
 | .string,.str _=>true
 | .bool,.bool _=>true
 |_,_=>false
def eY(x:AV):Option Nat:=
 match x with
 | .int _ (.ofNat n)=>some n
 |_=>none
def bound(F:Fr)(x:Option Operand)(d:Nat):Option Nat:=
 match x with
 |some o=>eY (eval F o)
 |none=>some d
def vu{α:Type}(x:Option α):Bool:=match x with|some _=>true|none=>false
def bounds(F:Fr)(len room:Nat)(lo hi mx:Option Operand):Option (Nat×Nat×Nat):=
 match bound F lo 0,bound F hi len,bound F mx room with
 |some l,some h,some m=>cond (zzb l h&&zzb h m&&zzb m room&&(!vu mx||vu hi)) (some (l,h,m)) none
 |_,_,_=>none
def Bh(id g off aM sz l h m:Nat):AV:=
 cond (zza m l) (.slice id g off 0 aM sz (some 0)) (dS (zzd off (zzc l sz)) fun o=>.slice id g o (Nat.sub h l) aM sz (some (Nat.sub m l)))
def mP(len:Nat)(cap:Option Nat):Nat:=match cap with|some c=>c|none=>len
def fL(cx:Cx)(F:Fr)(t:TypeId)(x:AV)(lo hi mx:Option Operand):Option AV:=
 match bJ cx t,x with
 |some .string,.str s=>match bounds F s.length s.length lo hi mx with
  |some (l,h,_)=>cond (vu mx) none (some (.str (takeN (Nat.sub h l) (kZ l s))))
  |none=>none
 |some (.slice e),.ar=>match aH cx e,bounds F 0 0 lo hi mx with
  |some _,some _=>some .ar
  |_,_=>none
 |some (.slice e),.slice id g off len aM sz cap=>match aH cx e with
  |some z=>cond (zza z sz) (match bounds F len (mP len cap) lo hi mx with
   |some (l,h,m)=>cond (vu mx||vu cap) (some (Bh id g off aM sz l h m))
    (some (dS (zzd off (zzc l sz)) fun o=>.slice id g o (Nat.sub h l) aM sz none))
   |none=>none) none
  |none=>none
 |some (.array n e),.ptr id g off aM=>match aH cx e with
  |some (Nat.succ z)=>match bounds F n n lo hi mx with
   |some (l,h,m)=>cond (zzb (zzd off (zzc n (Nat.succ z))) aM) (some (Bh id g off aM (Nat.succ z) l h m)) none
   |none=>none
  |_=>none
 |_,_=>none
def e9(_cx:Cx)(F:Fr)(place:Nat->Option (Nat×Nat))(parts:List (Nat×Operand)):List AV->Option (List AV):=
 List.rec (motive:=fun _=>List AV->Option (List AV)) (fun cells=>some cells)
  (fun p _ ih cells=>match place p.1,cellsOf (eval F p.2)with
   |some (off,size),some new=>cond (zza (dN new) size&&zzb (zzd off size) (dN cells)) (ih (ec off cells new)) none
   |_,_=>none) parts
def mT(cx:Cx)(fs:List Field):Option (List (Nat×Nat)):=
 List.rec (motive:=fun _=>Option (List (Nat×Nat))) (some []) (fun f _ ih=>match aH cx f.type,ih with
  |some n,some l=>some ((f.offset,n)::l)
  |_,_=>none) fs
def lF(cx:Cx)(F:Fr)(t:TypeId)(parts:List (Nat×Operand)):Option AV:=
 match zeroOf cx t with
 |none=>none
 |some z=>match cellsOf z,bJ cx t with
  |some zero,some (.struct fs)=>match mT cx fs.toList with
   |some ps=>match e9 cx F (fun i=>nth i ps) parts zero with
    |some cells=>some (.agg cells)
    |none=>none
   |none=>none
  |some zero,some (.array _ e)=>match aH cx e with
   |some sz=>match e9 cx F (fun i=>some (zzc i sz,sz)) parts zero with
    |some cells=>some (.agg cells)
    |none=>none
   |none=>none
  |_,_=>none
def iu(cx:Cx)(x:AV)(t:TypeId)(ok:Bool):Option AV:=
 match bJ cx t with
 |none=>none
 |some (.interface _)=>none
 |some _=>match x with
  | .iface u v=>cond (zza u t) (some (cond ok (.tuple [v,.bool true]) v))
   (cond ok (match zeroOf cx t with|some z=>some (.tuple [z,.bool false])|none=>none) none)
  | .bS=>cond ok (match zeroOf cx t with|some z=>some (.tuple [z,.bool false])|none=>none) none
  |_=>none
def args(F:Fr)(xs:Array Operand):List AV:=jt (eval F) xs.toList
def val?(v:Option AV)(S:AS)(n:Nat):AR:=match v with|some v=>.val v S|none=>.err n
def dO(v:Option (AV×AS))(n:Nat):AR:=match v with|some (v,S)=>.val v S|none=>.err n
def tL(c:Nat)(s:List Nat):Nat->Option Nat:=
 List.rec (motive:=fun _=>Nat->Option Nat) (fun _=>none) (fun x _ ih i=>cond (zza x c) (some i) (ih (Nat.succ i))) s
def Bj(c:Nat)(s:List Nat):Nat->Nat:=
 List.rec (motive:=fun _=>Nat->Nat) (fun n=>n) (fun x _ ih n=>cond (zza x c) (ih (Nat.succ n)) (ih n)) s
def preL(p:List Nat):List Nat->Bool:=
 List.rec (motive:=fun _=>List Nat->Bool) (fun _=>true) (fun x _ ih l=>List.casesOn (motive:=fun _=>Bool) l false fun y t=>cond (zza x y) (ih t) false) p
def idxS(p s:List Nat):Nat->Option Nat:=
 List.rec (motive:=fun _=>Nat->Option Nat) (fun i=>cond (preL p []) (some i) none) (fun x t ih i=>cond (preL p (x::t)) (some i) (ih (Nat.succ i))) s
def rh(r:Option Nat):AV:=match r with|some n=>dS n fun n=>.int .i64 (.ofNat n)|none=>.int .i64 (.negSucc 0)
def extV(x:Xf)(as:List AV):Option AV:=
 match x,as with
 | .ident,[v]=>some v
 | .kr,[.str a,.str b]=>some (cond (nK a b) (.int .i64 (.negSucc 0)) (cond (ph a b) (.int .i64 (.ofNat 0)) (.int .i64 (.ofNat 1))))
 | .m9,[.str s,.int .u8 (.ofNat c)]=>cond (zze c 256) (some (rh (tL c s 0))) none
 | .AM,[.str s,.str p]=>some (rh (idxS p s 0))
 | .qk,[.str s,.int .u8 (.ofNat c)]=>cond (zze c 256) (some (rh (some (Bj c s 0)))) none
 |_,_=>none
def apartV(S:AS)(as:List AV):Option AV:=
 match as with
 |[.slice id g _ _ _ _ _,.slice vA g' _ _ _ _ _]=>cond (zza id vA) none (match S.h.get id,S.h.get vA with
  |some (.row _ low top false _),some (.row _ low' Ff false _)=>cond (zzb low g&&zzb g top&&(zzb low' g'&&zzb g' Ff)) (some (.bool false)) none
  |_,_=>none)
 |_=>none
def extS(x:Xf)(S:AS)(as:List AV):Option AV:=match x with | .apart=>apartV S as|_=>extV x as
def noZeroV(e:TypeId)(S:AS)(as:List AV):Option (AV×AS):=
 match as with
 |[.int .i64 (.ofNat n)]=>cond (zzb 1 n&&zzb n 281474976710656) (some (dS n fun n=>(.slice S.nx 0 0 n n 1 none,⟨S.h.set S.nx (.row (fD n [.top]) 0 0 false e),Nat.succ S.nx⟩))) none
 |_=>none
def extM(x:Xf)(S:AS)(as:List AV):Option (AV×AS):=match x with | .mX e=>noZeroV e S as|_=>match extS x S as with|some v=>some (v,S)|none=>none
def nF(cx:Cx)(S:AS)(fv:AV)(as:List AV):AR:=
 match fv with
 | .func (.func f) first captured=>match cx.exts.get f with
  |some x=>dO (extM x S (gR first (gR as captured))) 101
  |none=>.enter f (gR first (gR as captured)) S
 | .obj .yld id=>.round id as S
 |_=>.err 100
def jq(cx:Cx)(e:TypeId)(sz:Nat):Bool:=
 match zeroOf cx e with
 |some z=>match cellsOf z with
  |some l=>zza (dN l) sz
  |none=>false
 |none=>false
def pj(c:AV)(r:Option (List Nat)):Option (List Nat):=
 match c,r with
 | .int .u8 (.ofNat n),some l=>cond (zze n 256) (some (n::l)) none
 |_,_=>none
def oE(cs:List AV):Option (List Nat):=
 List.rec (motive:=fun _=>Option (List Nat)) (some []) (fun c _ ih=>pj c ih) cs
def Bf(cx:Cx)(S:AS)(t:TypeId)(x k:AV):Option (AV×AS):=none
def clearV(cx:Cx)(S:AS)(t:TypeId)(x:AV):Option (AV×AS):=none
def mY(frz:Bool)(low:Nat):Bool:=cond frz (zza low 0) true
def B6(cx:Cx)(S:AS)(t:TypeId)(p:AV)(n:Nat):Option (AV×AS):=
 match n with
 |0=>match p with
  | .cT=>some (.str [],S)
  | .ptr ..=>some (.str [],S)
  |_=>none
 |_=>match bJ cx t,p with
  |some (.pointer e),.ptr id g off aM=>match bJ cx e,aH cx e,S.h.get id with
   |some (.int .u8),some 1,some (.row cells low top frz ty)=>cond (zza ty e&&zzb n 4611686018427387904&&mY frz low) (match rd S id g off n aM with
    |some cs=>match oE cs with
     |some l=>some (.str l,⟨S.h.set id (.row cells low top true ty),S.nx⟩)
     |none=>none
    |none=>none) none
   |_,_,_=>none
  |_,_=>none
def appZ(cx:Cx)(S:AS)(e:TypeId)(s x:AV):Option (AV×AS):=
 match aH cx e,bytesOf cx e,zeroOf cx e,s,x with
 |some (Nat.succ z),some bs,some zv,.slice id g off len aM sz (some c),.int _ (.ofNat n)=>match cellsOf zv,taken S (Nat.succ z) (.slice id g off len aM sz (some c))with
  |some zero,some (_,old)=>cond (zza (dN zero) (Nat.succ z)&&zze c (zzd len n)&&fits (zzd len n) bs) (some (grown S e (zzd len n) (Nat.succ z) (gR old (fD n zero)))) none
  |_,_=>none
 |_,_,_,_,_=>none
def aY(cx:Cx)(S:AS)(b:Builtin)(ts:List TypeId)(as:List AV):AR:=
 match b,ts,as with
 | .len,t::_,x::_=>match lenV cx S t x with|some n=>.val (dS n fun n=>.int .i64 (.ofNat n)) S|none=>.err 1
 | .cap,t::_,x::_=>match bJ cx t,x with
  |some (.slice _),.ar=>.val (.int .i64 0) S
  |some (.slice _),.slice _ _ _ _ _ _ (some c)=>.val (.int .i64 (.ofNat c)) S
  |some (.array n _),_=>.val (.int .i64 (.ofNat n)) S
  |_,_=>.err 2
 | .append,t::u::_,[s,x]=>match bJ cx t,bJ cx u with
  |some (.slice e),some (.int _)=>dO (appZ cx S e s x) 3
  |some (.slice e),some _=>match aH cx e,bytesOf cx e with
   |some (Nat.succ z),some bs=>cond (jq cx e (Nat.succ z)) (dO (gg S e (Nat.succ z) bs s x) 4) (.err 13)
   |_,_=>.err 5
  |_,_=>.err 6
 | .copy,t::_,[d,x]=>match bJ cx t with
  |some (.slice e)=>match aH cx e with
   |some (Nat.succ z)=>dO (copyV S (Nat.succ z) d x) 7
   |_=>.err 8
  |_=>.err 9
 | .unsafeSliceData,_,[.ar]=>.val .cT S
 | .unsafeSliceData,_,[.slice id g off len aM _ _]=>cond (zze 0 len) (.val (.ptr id g off aM) S) (.err 14)
 | .unsafeString,t::_,[p,.int _ (.ofNat n)]=>dO (B6 cx S t p n) 15
 | .delete,t::_,[x,k]=>dO (Bf cx S t x k) 16
 | .clear,t::_,[x]=>dO (clearV cx S t x) 17
 | .min,_,.int k n::l=>val? (foldI (fun n m=>!ltI m n) k n l) S 10
 | .max,_,.int k n::l=>val? (foldI (fun n m=>!ltI n m) k n l) S 11
 |_,_,_=>.err 12
def q9(cx:Cx)(S:AS)(t:TypeId)(x k:AV)(ok:Bool):Option AV:=
 match bJ cx t with
 |some (.map kt et)=>match bJ cx kt,zeroOf cx et with
  |some d,some z=>cond (plainKey d k) (match x with
   | .jb=>some (cond ok (.tuple [z,.bool false]) z)
   | .map id=>match S.h.get id with
    |some (.map es _)=>match zm d k es 0 with
     |some (some (_,e))=>some (cond ok (.tuple [e.val,.bool true]) e.val)
     |some none=>some (cond ok (.tuple [z,.bool false]) z)
     |none=>none
    |_=>none
   |_=>none) none
  |_,_=>none
 |_=>none
def mH(cx:Cx)(S:AS)(t:TypeId)(x k v:AV):Option (AV×AS):=
 match bJ cx t,x with
 |some (.map kt _),.map id=>match bJ cx kt with
  |some d=>cond (plainKey d k) (match S.h.get id with
   |some (.map es clock)=>match zm d k es 0 with
    |some (some (i,e))=>some (.undef,⟨S.h.set id (.map (Fy i es ⟨k,v,e.born⟩) clock),S.nx⟩)
    |some none=>some (.undef,⟨S.h.set id (.map (gR es [⟨k,v,clock⟩]) (Nat.succ clock)),S.nx⟩)
    |none=>none
   |_=>none) none
  |none=>none
 |_,_=>none
def uo(cx:Cx)(S:AS)(t:TypeId)(x k:AV):Option (AV×AS):=none
def um(S:AS)(x k v:AV):Option (AV×AS):=none
def Ar(cx:Cx)(S:AS)(t:TypeId)(x:AV):Option (AV×AS):=none
def pG(S:AS)(x:AV)(str:Bool):AR:=.err 88
def Bc(S:AS)(x:AV):Option AV:=none
def oz(F:Fr)(r:Option Operand):Bool:=match r with|none=>true|some x=>vu (eY (eval F x))
def aO(cx:Cx)(F:Fr)(id:Nat)(op:Op):Option (AV×dp):=
 match op with
 | .alloc e=>match zeroOf cx e with
  |some z=>match cellsOf z with
   |some cs=>some (.ptr id 0 0 (dN cs),.row cs 0 0 false e)
   |none=>none
  |none=>none
 | .box t x=>match cellsOf (eval F x)with
  |some cs=>some (.ptr id 0 0 (dN cs),.row cs 0 0 false t)
  |none=>none
 | .buildSlice t n parts=>match bJ cx t with
  |some (.slice e)=>match aH cx e,zeroOf cx e with
   |some (Nat.succ z),some zv=>match cellsOf zv with
    |some zero=>cond (zza (dN zero) (Nat.succ z)&&zzb (zzc n (Nat.succ z)) 16777216)
     (match e9 cx F (fun i=>some (zzc i (Nat.succ z),Nat.succ z)) parts.toList (fD n zero)with
     |some cells=>some (.slice id 0 0 n (zzc n (Nat.succ z)) (Nat.succ z) (some n),.row cells 0 0 false e)
     |none=>none) none
    |none=>none
   |_,_=>none
  |_=>none
 | .makeMap t r=>match bJ cx t with
  |some (.map _ _)=>cond (oz F r) (some (.map id,.map [] 0)) none
  |_=>none
 | .makeSlice t l c=>match bJ cx t,eY (eval F l),eY (eval F c)with
  |some (.slice e),some l,some c=>match aH cx e,bytesOf cx e,zeroOf cx e with
   |some (Nat.succ z),some bs,some zv=>match cellsOf zv with
    |some zero=>cond (zza (dN zero) (Nat.succ z)&&zzb l c&&fits c bs)
     (some (.slice id 0 0 l (zzc c (Nat.succ z)) (Nat.succ z) (some c),.row (fD c zero) 0 0 false e)) none
    |none=>none
   |_,_,_=>none
  |_,_,_=>none
 |_=>none
def eR(r:Option (AV×dp))(S:AS)(n:Nat):AR:=
 match r with
 |some (v,o)=>.val v ⟨S.h.set S.nx o,Nat.succ S.nx⟩
 |none=>.err n
def bE(cx:Cx)(F:Fr)(S:AS)(o:Oper):AR:=
 match o.op with
 | .move x=>.val (eval F x) S
 | .assign x=>.val (eval F x) S
 | .pick c a b=>match eval F c with
  | .bool true=>.val (eval F a) S
  | .bool false=>.val (eval F b) S
  |_=>.err 20
 | .alloc e=>eR (aO cx F S.nx (.alloc e)) S 21
 | .box t x=>eR (aO cx F S.nx (.box t x)) S 23
 | .build t parts=>val? (lF cx F t parts.toList) S 24
 | .buildSlice t n parts=>eR (aO cx F S.nx (.buildSlice t n parts)) S 25
 | .load t x=>match eval F x with
  | .ptr id g off aM=>match aX cx t with
   |some true=>match aH cx t with
    |some n=>match rd S id g off n aM with
     |some cs=>.val (.agg cs) S
     |none=>.err 30
    |none=>.err 31
   |some false=>match rd S id g off 1 aM with
    |some [v]=>.val v S
    |_=>.err 32
   |none=>.err 33
  | .kM g off=>match cx.eZ.get g with
   |some cs=>val? (DH cx t cs off) S 133
   |none=>.err 134
  |_=>.err 34
 | .store t x y=>match eval F x,cellsOf (eval F y),aH cx t with
  | .ptr id g off aM,some cs,some n=>cond (zza (dN cs) n) (match wr S id g off aM cs with
   |some S'=>.val .undef S'
   |none=>.err 35) (.err 36)
  |_,_,_=>.err 37
 | .nilCheck x=>match eval F x with
  | .ptr i g o l=>.val (.ptr i g o l) S
  | .kM g o=>.val (.kM g o) S
  | .func (.func f) a b=>.val (.func (.func f) a b) S
  | .slice a b c d e f g=>.val (.slice a b c d e f g) S
  | .map i=>.val (.map i) S
  | .obj .yld i=>.val (.obj .yld i) S
  | .obj .chan i=>.val (.obj .chan i) S
  |_=>.err 38
 | .binOp op t x y _=>val? (bI cx op t ((x matches .const _)||(y matches .const _)) (eval F x) (eval F y)) S 40
 | .unOp op _ x=>val? (unV op (eval F x)) S 41
 | .convert src dst x=>match bJ cx src,bJ cx dst,eval F x with
  |some _,some (.int k),.int _ n=>.val (mkI k n) S
  |some _,some .string,.str s=>.val (.str s) S
  |some _,some (.slice e),.str s=>match bJ cx e with
   |some (.int .u8)=>.val (.slice S.nx 0 0 s.length s.length 1 none) ⟨S.h.set S.nx (.row (jt (fun n=>AV.int .u8 (.ofNat n)) s) 0 0 true e),Nat.succ S.nx⟩
   |_=>.err 42
  |some (.slice e),some .string,x=>match bJ cx e,x with
   |some (.int .u8),.ar=>.val (.str []) S
   |some (.int .u8),.slice id g off len aM 1 _=>match len with
    |0=>.val (.str []) S
    |_=>match rd S id g off len aM with
     |some cs=>match oE cs with
      |some l=>.val (.str l) S
      |none=>.err 43
     |none=>.err 44
   |_,_=>.err 45
  |some (.slice _),some (.slice e),.slice id g off len aM sz cap=>cond (zza src dst&&zze 0 len) (match bJ cx e,S.h.get id with
   |some (.int .u8),some (.row cells low top frz ty)=>cond (zzb low g&&zzb g top&&mY frz low) (.val (.slice id g off len aM sz cap) ⟨S.h.set id (.row cells low top true ty),S.nx⟩) (.err 147)
   |_,_=>.err 145) (.err 146)
  |some (.pointer e),some .unsafePointer,.ptr id g off aM=>match aH cx e,S.h.get id with
   |some (Nat.succ _),some (.row _ low top _ _)=>cond (zze off aM&&zzb low g&&zzb g top) (.val (.ptr id g off aM) S) (.err 141)
   |_,_=>.err 142
  |some .unsafePointer,some (.pointer u),.ptr id g off aM=>match g,off,aH cx u,S.h.get id with
   |0,0,some (Nat.succ z),some (.row _ low _ _ ty)=>cond (zza ty u&&zzb (Nat.succ z) aM&&zza low 0) (.val (.ptr id 0 0 aM) S) (.err 143)
   |_,_,_,_=>.err 144
  |_,_,_=>.err 46
 | .makeInterface t x=>match bJ cx t with
  |some (.interface _)=>.err 47
  |some _=>.val (.iface t (eval F x)) S
  |none=>.err 48
 | .makeFunc fn first captured=>.val (.func fn (args F first) (args F captured)) S
 | .makeMap t r=>eR (aO cx F S.nx (.makeMap t r)) S 48
 | .makeSlice t l c=>eR (aO cx F S.nx (.makeSlice t l c)) S 49
 | .slice t x lo hi mx=>val? (fL cx F t (eval F x) lo hi mx) S 53
 | .fieldAddr s x f=>match bJ cx s,eval F x with
  |some (.struct fs),.ptr id g off aM=>match nth f fs.toList with
   |some fd=>match aH cx fd.type with
    |some (Nat.succ _)=>.val (dS (zzd off fd.offset) fun o=>.ptr id g o aM) S
    |_=>.err 54
   |none=>.err 55
  |_,_=>.err 56
 | .field t x f=>match bJ cx t,eval F x with
  |some (.struct fs),.agg cs=>match nth f fs.toList with
   |some fd=>val? (partOf cx fd.type cs fd.offset) S 57
   |none=>.err 58
  |_,_=>.err 59
 | .indexAddr t x ix=>match bJ cx t,eval F x,eY (eval F ix)with
  |some (.slice e),.slice id g off len aM sz _,some i=>match aH cx e with
   |some z=>cond (zza z sz&&zze i len) (.val (dS (zzd off (zzc i sz)) fun o=>.ptr id g o aM) S) (.err 60)
   |none=>.err 61
  |some (.array n e),.ptr id g off aM,some i=>match aH cx e with
   |some z=>cond (zze i n) (.val (dS (zzd off (zzc i z)) fun o=>.ptr id g o aM) S) (.err 62)
   |none=>.err 63
  |some (.array n e),.kM g off,some i=>match aH cx e with
   |some z=>cond (zze i n) (.val (dS (zzd off (zzc i z)) fun o=>.kM g o) S) (.err 162)
   |none=>.err 163
  |_,_,_=>.err 64
 | .index t x ix=>match bJ cx t,eval F x,eY (eval F ix)with
  |some .string,.str s,some i=>match nth i s with
   |some n=>.val (.int .u8 (.ofNat n)) S
   |none=>.err 65
  |some (.array n e),.agg cs,some i=>match aH cx e with
   |some z=>cond (zze i n) (val? (partOf cx e cs (zzc i z)) S 66) (.err 67)
   |none=>.err 68
  |_,_,_=>.err 70
 | .lookup t x ix ok=>val? (q9 cx S t (eval F x) (eval F ix) ok) S 71
 | .mapUpdate t m k v=>dO (mH cx S t (eval F m) (eval F k) (eval F v)) 78
 | .insert t m k v=>dO (mH cx S t (eval F m) (eval F k) (eval F v)) 79
 | .mapEntry t m k=>dO (uo cx S t (eval F m) (eval F k)) 86
 | .entryStore _ m k v=>dO (um S (eval F m) (eval F k) (eval F v)) 87
 | .range t x=>dO (Ar cx S t (eval F x)) 88
 | .next x str=>pG S (eval F x) str
 | .entry x=>val? (Bc S (eval F x)) S 89
 | .panic x=>match eval F x with
  | .iface t v=>.eQ (.iface t v) S
  |_=>.err 98
 | .typeAssert x _ t ok=>val? (iu cx (eval F x) t ok) S 85
 | .extract x i=>match eval F x with
  | .tuple vs=>val? (nth i vs) S 82
  |_=>.err 83
 | .call c=>match c.callee with
  | .value f=>nF cx S (eval F f) (args F c.args)
  | .builtin b=>aY cx S b c.argTypes.toList (args F c.args)
  | .invoke _ _=>.err 84
 |_=>.err 99
end Go.Am
end
