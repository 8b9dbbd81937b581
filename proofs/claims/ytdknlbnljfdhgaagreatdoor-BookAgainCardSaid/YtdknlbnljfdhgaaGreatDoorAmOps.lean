/-
  The abstract machine: its operations.
-/
import Derived.Test.YtdknlbnljfdhgaaGreatDoorAmDefs
noncomputable section
namespace Go.Am
open Go
set_option linter.unusedSimpArgs false
set_option linter.unusedVariables false
def ofVF(n:Nat):Value->AV:=
 Nat.rec (motive:=fun _=>Value->AV) (fun _=>.top) (fun _ ih v=>
  match v with
  | .bool b=>.bool b
  | .int k n=>.int k n
  | .string s=>.str (mS UInt8.toNat s.data.toList)
  | .pointer none=>.bM
  | .slice none 0 0=>.aq
  | .map none=>.jl
  | .nilFunc=>.kM
  | .nilIface=>.bH
  | .chan none=>.nilc
  | .agg a=>cond (a.toList.all Value.oneCell') (.agg (mS ih a.toList)) .top
  |_=>.top) n
def ofV(v:Value):AV:=ofVF 2 v
def evTmp(t:Tmp)(F:Fr):AV:=@Option.rec AV (fun _=>AV) .undef (fun v=>v) (F.t.get t)
def evConst(v:Value)(_:Fr):AV:=ofV v
def evGlob(g:Nat)(_:Fr):AV:=.uh g 0
def evFunc(f:FuncId)(_:Fr):AV:=.func (.func f) [] []
def eval(F:Fr)(x:Operand):AV:=@Operand.rec (fun _=>Fr->AV) evTmp evConst evGlob evFunc x F
def cellsOf(v:AV):Option (List AV):=
 match v with
 | .agg cs=>some cs
 | .top=>none
 | .tuple _=>none
 | .dP _=>none
 |v=>some [v]
def bC(cx:Cx)(t:TypeId):Option TypeDesc:=
 match cx.kR.get t with
 |some i=>match i.desc with
  | .named _ u=>match cx.kR.get u with|some j=>some j.desc|none=>none
  |d=>some d
 |none=>none
def aE(cx:Cx)(t:TypeId):Option Nat:=match cx.kR.get t with|some i=>some i.size|none=>none
def bytesOf(cx:Cx)(t:TypeId):Option Nat:=match cx.kR.get t with|some i=>some i.bytes|none=>none
def zeroOf(cx:Cx)(t:TypeId):Option AV:=
 match cx.kR.get t with
 |some i=>match i.zero with|some z=>some (ofV z)|none=>none
 |none=>none
def aG(cx:Cx)(t:TypeId):Option Bool:=
 match bC cx t with
 |some (.struct _)=>some true
 |some (.array _ _)=>some true
 |some _=>some false
 |none=>none
def partOf(cx:Cx)(t:TypeId)(cs:List AV)(off:Nat):Option AV:=
 match aG cx t with
 |some true=>match aE cx t with
  |some n=>some (.agg (takeN n (mb off cs)))
  |none=>none
 |some false=>nth off cs
 |none=>none
def ke(n:Nat)(l:List AV):List AV:=Nat.rec (motive:=fun _=>List AV) [] (fun _ ih=>fH l ih) n
def globV(cx:Cx)(t:TypeId)(cs:List AV)(off:Nat):Option AV:=none
def rd(S:AS)(id g off n lim:Nat):Option (List AV):=
 match S.h.get id with
 |some (.row cells low top _ _)=>
  cond (Nat.ble low g&&Nat.ble g top&&Nat.ble (Nat.add off n) lim) (some (takeN n (mb off cells))) none
 |_=>none
def wr(S:AS)(id g off lim:Nat)(new:List AV):Option AS:=
 match S.h.get id with
 |some (.row cells _ top frz ty)=>
  cond (Nat.beq g top&&Nat.ble (Nat.add off (eG new)) lim && !frz) (some ⟨S.h.set id (.row (cT off cells new) top top false ty),S.next⟩) none
 |_=>none
def re(a:List Nat):List Nat->Bool:=
 List.rec (motive:=fun _=>List Nat->Bool) (fun b=>List.casesOn (motive:=fun _=>Bool) b true fun _ _=>false)
  (fun x _ ih b=>List.casesOn (motive:=fun _=>Bool) b false fun y t=>cond (Nat.beq x y) (ih t) false) a
def ltS(a:List Nat):List Nat->Bool:=
 List.rec (motive:=fun _=>List Nat->Bool) (fun b=>List.casesOn (motive:=fun _=>Bool) b false fun _ _=>true)
  (fun x _ ih b=>List.casesOn (motive:=fun _=>Bool) b false fun y t=>cond (Nat.blt x y) true (cond (Nat.beq x y) (ih t) false)) a
def eqFields(eq:TypeId->AV->AV->Option Bool)(cx:Cx)(xs ys:List AV)(fs:List Field):Option Bool:=
 List.rec (motive:=fun _=>Option Bool) (some true) (fun f _ ih=>
  match partOf cx f.type xs f.offset,partOf cx f.type ys f.offset with
  |some a,some b=>match eq f.type a b with
   |some true=>ih
   |r=>r
  |_,_=>none) fs
def l9(eq:AV->AV->Option Bool)(cx:Cx)(e:TypeId)(z:Nat)(xs ys:List AV)(n:Nat):Nat->Option Bool:=
 Nat.rec (motive:=fun _=>Nat->Option Bool) (fun _=>some true) (fun _ ih i=>
  match partOf cx e xs (Nat.mul i z),partOf cx e ys (Nat.mul i z)with
  |some a,some b=>match eq a b with
   |some true=>ih (Nat.succ i)
   |r=>r
  |_,_=>none) n
def iD(cx:Cx)(ih:TypeId->AV->AV->Option Bool)(t:TypeId)(d:TypeDesc)(x y:AV):Option Bool:=
 match d,x,y with
 | .int _,.int j a,.int k b=>cond (ej j k) (some (yU a b)) none
 | .bool,.bool a,.bool b=>some (a==b)
 | .string,.str a,.str b=>some (re a b)
 | .pointer _,.bM,.bM=>some true
 | .pointer _,.bM,.ptr ..=>some false
 | .pointer _,.ptr ..,.bM=>some false
 | .pointer e,.ptr i g o _,.ptr j h p _=>match aE cx e with
  |some _=>cond (Nat.beq i j&&Nat.beq g h&&Nat.beq o p) (some true) none
  |none=>none
 | .slice _,.aq,.aq=>some true
 | .slice _,.aq,.slice ..=>some false
 | .slice _,.slice ..,.aq=>some false
 | .map _ _,.jl,.jl=>some true
 | .map _ _,.jl,.map _=>some false
 | .map _ _,.map _,.jl=>some false
 | .func _ _ _,.kM,.kM=>some true
 | .func _ _ _,.kM,.func ..=>some false
 | .func _ _ _,.func ..,.kM=>some false
 | .interface _,.bH,.bH=>some true
 | .interface _,.bH,.iface ..=>some false
 | .interface _,.iface ..,.bH=>some false
 | .interface _,.iface t a,.iface u b=>cond (Nat.beq t u) (match cx.kR.get t with
   |some i=>cond i.comparable (ih t a b) none
   |none=>none) (some false)
 | .struct fs,.agg xs,.agg ys=>match cx.eqs.get t with
  |some _=>eqFields ih cx xs ys fs.toList
  |none=>none
 | .array n e,.agg xs,.agg ys=>match cx.eqs.get t with
  |some _=>match aE cx e with
   |some z=>l9 (ih e) cx e z xs ys n 0
   |none=>none
  |none=>none
 |_,_,_=>none
def eqR(cx:Cx)(n:Nat):TypeId->AV->AV->Option Bool:=
 Nat.rec (motive:=fun _=>TypeId->AV->AV->Option Bool) (fun _ _ _=>none) (fun _ ih t x y=>
  match bC cx t with
  |none=>none
  |some d=>iD cx ih t d x y) n
def lite(kR:T TypeInfo)(eqs:T Unit):Cx:=⟨kR,.leaf,eqs,.leaf,.leaf,.leaf,.leaf⟩
def sW(cx:Cx)(n:Nat):TypeId->AV->AV->Option Bool:=eqR (lite cx.kR cx.eqs) n
def qg(op:BinOp)(a b:Nat):Nat:=
 match op with
 | .and=>Nat.land a b
 | .or=>Nat.lor a b
 | .xor=>Nat.xor a b
 |_=>0
def mkI(k:IntKind)(n:Int):AV:=jd (wrapF k n) fun n=>.int k n
def rh(op:BinOp)(k:IntKind)(x y:Int):Int:=
 let a:=BitVec.ofInt k.bits x
 let b:=BitVec.ofInt k.bits y
 match op with
 | .and=>k.wrap (a &&& b).toNat
 | .or=>k.wrap (a ||| b).toNat
 | .xor=>k.wrap (a ^^^ b).toNat
 |_=>k.wrap (a &&& ~~~b).toNat
def fk(op:BinOp)(k:IntKind)(x y:Int):AV:=
 match op,x,y with
 | .andNot,x,y=>jd (rh .andNot k x y) fun n=>.int k n
 |op,.ofNat a,.ofNat b=>cond (Nat.blt a (half k)&&Nat.blt b (half k)) (fS (qg op a b) fun n=>.int k (.ofNat n)) (jd (rh op k x y) fun n=>.int k n)
 |op,x,y=>jd (rh op k x y) fun n=>.int k n
def qN(op:BinOp)(k:IntKind)(a b:Int):Option AV:=
 match op with
 | .add=>some (mkI k (Int.add a b))
 | .sub=>some (mkI k (Int.sub a b))
 | .mul=>some (mkI k (Int.mul a b))
 | .quo=>cond (yU b (.ofNat 0)) none (some (mkI k (Int.tdiv a b)))
 | .rem=>cond (yU b (.ofNat 0)) none (some (jd (Int.tmod a b) fun n=>.int k n))
 | .eql=>some (.bool (yU a b))
 | .neq=>some (.bool (!yU a b))
 | .lss=>some (.bool (ltI a b))
 | .leq=>some (.bool (!ltI b a))
 | .gtr=>some (.bool (ltI b a))
 | .geq=>some (.bool (!ltI a b))
 | .shl=>match b with
  | .ofNat n=>some (mkI k (Int.mul a (.ofNat (Nat.pow 2 (Nat.min n k.bits)))))
  |_=>none
 | .shr=>match b with
  | .ofNat n=>some (jd (Int.fdiv a (.ofNat (Nat.pow 2 (Nat.min n k.bits)))) fun n=>.int k n)
  |_=>none
 | .and=>some (fk .and k a b)
 | .or=>some (fk .or k a b)
 | .xor=>some (fk .xor k a b)
 | .andNot=>some (fk .andNot k a b)
def zd(op:BinOp)(a b:List Nat):Option AV:=
 match op with
 | .add=>cond (Nat.ble (Nat.add (eG a) (eG b)) 4611686018427387904) (some (.str (fH a b))) none
 | .eql=>some (.bool (re a b))
 | .neq=>some (.bool (!re a b))
 | .lss=>some (.bool (ltS a b))
 | .leq=>some (.bool (!ltS b a))
 | .gtr=>some (.bool (ltS b a))
 | .geq=>some (.bool (!ltS a b))
 |_=>none
def rC(x:AV):Bool:=
 match x with
 | .bool _=>true | .bM=>true | .ptr ..=>true | .aq=>true | .slice ..=>true | .jl=>true | .map _=>true
 | .func ..=>true | .kM=>true | .bH=>true | .iface ..=>true | .agg _=>true
 |_=>false
def Aq(cx:Cx)(t:TypeId)(cst:Bool)(x y:AV):Option Bool:=
 match x,y with
 | .bH,.bH=>cond cst (sW cx 6 t .bH .bH) none
 |x,y=>cond (rC x) (sW cx 6 t x y) none
def aS(cx:Cx)(op:BinOp)(t:TypeId)(cst:Bool)(x y:AV):Option AV:=
 match x,y with
 | .int j a,.int k b=>match op with
  | .shl=>qN .shl j a b
  | .shr=>qN .shr j a b
  |op=>cond (ej j k) (qN op j a b) none
 | .str a,.str b=>zd op a b
 |x,y=>match op with
  | .eql=>match Aq cx t cst x y with|some r=>some (.bool r)|none=>none
  | .neq=>match Aq cx t cst x y with|some r=>some (.bool (!r))|none=>none
  |_=>none
def unV(op:UnOp)(x:AV):Option AV:=
 match op,x with
 | .not,.bool b=>some (.bool (!b))
 | .neg,.int k n=>some (mkI k (Int.sub (.ofNat 0) n))
 | .xor,.int k n=>some (fk .xor k (cond (sgn k) (.negSucc 0) (.ofNat (Nat.sub (half k) 1))) n)
 |_,_=>none
def lenV(cx:Cx)(S:AS)(t:TypeId)(x:AV):Option Nat:=
 match bC cx t,x with
 |some .string,.str s=>some s.length
 |some (.slice _),.aq=>some 0
 |some (.slice _),.slice _ _ _ len _ _ _=>some len
 |some (.map _ _),.jl=>some 0
 |some (.map _ _),.map id=>match S.h.get id with
  |some (.map es _)=>some es.length
  |_=>none
 |some (.array n _),_=>some n
 |some (.pointer e),_=>match bC cx e with
  |some (.array n _)=>some n
  |_=>none
 |_,_=>none
def taken(S:AS)(sz:Nat)(x:AV):Option (Nat×List AV):=
 match x with
 | .aq=>some (0,[])
 | .str s=>cond (Nat.beq sz 1) (some (s.length,mS (fun n=>AV.int .u8 (.ofNat n)) s)) none
 | .slice id g off len lim z _=>cond (Nat.beq z sz) (match len with
   |0=>some (0,[])
   |_=>match rd S id g off (Nat.mul len sz) lim with
    |some l=>some (len,l)
    |none=>none) none
 |_=>none
def grown(S:AS)(e need sz:Nat)(cells:List AV):AV×AS:=
 (.slice S.next 0 0 need (Nat.mul need sz) sz none,⟨S.h.set S.next (.row cells 0 0 false e),Nat.succ S.next⟩)
def fits(need bs:Nat):Bool:=Nat.ble need 4611686018427387904&&Nat.ble (Nat.mul need bs) 140737488355328
def fu(S:AS)(e sz bs:Nat)(s x:AV):Option (AV×AS):=
 match taken S sz x with
 |none=>none
 |some (n,new)=>
  match n with
  |0=>match s with
   | .aq=>some (s,S)
   | .slice _ _ _ _ _ z _=>cond (Nat.beq z sz) (some (s,S)) none
   |_=>none
  |_=>match s with
   | .aq=>cond (fits n bs) (some (grown S e n sz new)) none
   | .slice id g off len lim z cap=>cond (Nat.beq z sz)
    (match S.h.get id with
    |some (.row cells low top frz ty)=>
     cond (Nat.ble low g&&Nat.ble g top)
     (fS (Nat.add len n) fun need=>cond (fits need bs) (
     match cap with
     |some c=>cond (Nat.ble need c)
      (match wr S id g (Nat.add off (Nat.mul len sz)) lim new with
       |some S'=>some (.slice id g off need lim sz cap,S')
       |none=>none)
      (some (grown S e need sz (fH (takeN (Nat.mul len sz) (mb off cells)) new)))
     |none=>cond (frz || !Nat.beq ty e) none (
      cond (Nat.beq off 0&&Nat.beq g top&&Nat.beq (eG cells) (Nat.mul len sz))
       (some (.slice id (Nat.succ g) 0 need (Nat.mul need sz) sz none,⟨S.h.set id (.row (fH cells new) low (Nat.succ top) false ty),S.next⟩))
       (some (.slice id (Nat.succ top) 0 need (Nat.mul need sz) sz none,⟨S.h.set id (.row (fH (takeN (Nat.mul len sz) (mb off cells)) new) (Nat.succ top) (Nat.succ top) false ty),S.next⟩)))) none) none
    |_=>none) none
   |_=>none
def copyV(S:AS)(sz:Nat)(d x:AV):Option (AV×AS):=
 match taken S sz x,d with
 |some _,.aq=>some (.int .i64 0,S)
 |some (n,new),.slice id g off len lim z _=>cond (Nat.beq z sz)
  (let m:=Nat.min n len
   match m with
   |0=>some (.int .i64 0,S)
   |m=>match wr S id g off lim (takeN (Nat.mul m sz) new)with
    |some S'=>some (.int .i64 (.ofNat m),S')
    |none=>none) none
 |_,_=>none
def foldI(f:Int->Int->Bool)(k:IntKind)(n:Int):List AV->Option AV
 |[]=>some (.int k n)
 | .int j m::l=>bif ej j k then foldI f k (bif f n m then n else m) l else none
 |_=>none
def mK(d:TypeDesc)(x y:AV):Option Bool:=
 match d,x,y with
 | .int _,.int j a,.int k b=>cond (ej j k) (some (yU a b)) none
 | .string,.str a,.str b=>some (re a b)
 | .bool,.bool a,.bool b=>some (a==b)
 |_,_,_=>none
def fU(d:TypeDesc)(k:AV)(es:List dg):Nat->Option (Option (Nat×dg)):=
 List.rec (motive:=fun _=>Nat->Option (Option (Nat×dg))) (fun _=>some none)
  (fun e _ ih i=>match mK d k e.key with
   |some true=>some (some (i,e))
   |some false=>ih (Nat.succ i)
   |none=>none) es
def plainKey(d:TypeDesc)(k:AV):Bool:=
 match d,k with
 | .int _,.int ..=>true
 | .string,.str _=>true
 | .bool,.bool _=>true
 |_,_=>false
def eR(x:AV):Option Nat:=
 match x with
 | .int _ (.ofNat n)=>some n
 |_=>none
def bound(F:Fr)(x:Option Operand)(d:Nat):Option Nat:=
 match x with
 |some o=>eR (eval F o)
 |none=>some d
def yp{α:Type}(x:Option α):Bool:=match x with|some _=>true|none=>false
def bounds(F:Fr)(len room:Nat)(lo hi mx:Option Operand):Option (Nat×Nat×Nat):=
 match bound F lo 0,bound F hi len,bound F mx room with
 |some l,some h,some m=>cond (Nat.ble l h&&Nat.ble h m&&Nat.ble m room&&(!yp mx||yp hi)) (some (l,h,m)) none
 |_,_,_=>none
def Ca(id g off lim sz l h m:Nat):AV:=
 cond (Nat.beq m l) (.slice id g off 0 lim sz (some 0)) (fS (Nat.add off (Nat.mul l sz)) fun o=>.slice id g o (Nat.sub h l) lim sz (some (Nat.sub m l)))
def ny(len:Nat)(cap:Option Nat):Nat:=match cap with|some c=>c|none=>len
def eK(cx:Cx)(F:Fr)(t:TypeId)(x:AV)(lo hi mx:Option Operand):Option AV:=
 match bC cx t,x with
 |some .string,.str s=>match bounds F s.length s.length lo hi mx with
  |some (l,h,_)=>cond (yp mx) none (some (.str (takeN (Nat.sub h l) (mb l s))))
  |none=>none
 |some (.slice e),.aq=>match aE cx e,bounds F 0 0 lo hi mx with
  |some _,some _=>some .aq
  |_,_=>none
 |some (.slice e),.slice id g off len lim sz cap=>match aE cx e with
  |some z=>cond (Nat.beq z sz) (match bounds F len (ny len cap) lo hi mx with
   |some (l,h,m)=>cond (yp mx||yp cap) (some (Ca id g off lim sz l h m))
    (some (fS (Nat.add off (Nat.mul l sz)) fun o=>.slice id g o (Nat.sub h l) lim sz none))
   |none=>none) none
  |none=>none
 |some (.array n e),.ptr id g off lim=>match aE cx e with
  |some (Nat.succ z)=>match bounds F n n lo hi mx with
   |some (l,h,m)=>cond (Nat.ble (Nat.add off (Nat.mul n (Nat.succ z))) lim) (some (Ca id g off lim (Nat.succ z) l h m)) none
   |none=>none
  |_=>none
 |_,_=>none
def fe(_cx:Cx)(F:Fr)(place:Nat->Option (Nat×Nat))(parts:List (Nat×Operand)):List AV->Option (List AV):=
 List.rec (motive:=fun _=>List AV->Option (List AV)) (fun cells=>some cells)
  (fun p _ ih cells=>match place p.1,cellsOf (eval F p.2)with
   |some (off,size),some new=>cond (Nat.beq (eG new) size&&Nat.ble (Nat.add off size) (eG cells)) (ih (cT off cells new)) none
   |_,_=>none) parts
def nF(cx:Cx)(fs:List Field):Option (List (Nat×Nat)):=
 List.rec (motive:=fun _=>Option (List (Nat×Nat))) (some []) (fun f _ ih=>match aE cx f.type,ih with
  |some n,some l=>some ((f.offset,n)::l)
  |_,_=>none) fs
def nR(cx:Cx)(F:Fr)(t:TypeId)(parts:List (Nat×Operand)):Option AV:=
 match zeroOf cx t with
 |none=>none
 |some z=>match cellsOf z,bC cx t with
  |some zero,some (.struct fs)=>match nF cx fs.toList with
   |some ps=>match fe cx F (fun i=>nth i ps) parts zero with
    |some cells=>some (.agg cells)
    |none=>none
   |none=>none
  |some zero,some (.array _ e)=>match aE cx e with
   |some sz=>match fe cx F (fun i=>some (Nat.mul i sz,sz)) parts zero with
    |some cells=>some (.agg cells)
    |none=>none
   |none=>none
  |_,_=>none
def jM(cx:Cx)(x:AV)(t:TypeId)(ok:Bool):Option AV:=
 match bC cx t with
 |none=>none
 |some (.interface _)=>none
 |some _=>match x with
  | .iface u v=>cond (Nat.beq u t) (some (cond ok (.tuple [v,.bool true]) v))
   (cond ok (match zeroOf cx t with|some z=>some (.tuple [z,.bool false])|none=>none) none)
  | .bH=>cond ok (match zeroOf cx t with|some z=>some (.tuple [z,.bool false])|none=>none) none
  |_=>none
def args(F:Fr)(xs:Array Operand):List AV:=mS (eval F) xs.toList
def val?(v:Option AV)(S:AS)(n:Nat):AR:=match v with|some v=>.val v S|none=>.err n
def dN(v:Option (AV×AS))(n:Nat):AR:=match v with|some (v,S)=>.val v S|none=>.err n
def EA(c:Nat)(s:List Nat):Nat->Option Nat:=
 List.rec (motive:=fun _=>Nat->Option Nat) (fun _=>none) (fun x _ ih i=>cond (Nat.beq x c) (some i) (ih (Nat.succ i))) s
def cntB(c:Nat)(s:List Nat):Nat->Nat:=
 List.rec (motive:=fun _=>Nat->Nat) (fun n=>n) (fun x _ ih n=>cond (Nat.beq x c) (ih (Nat.succ n)) (ih n)) s
def preL(p:List Nat):List Nat->Bool:=
 List.rec (motive:=fun _=>List Nat->Bool) (fun _=>true) (fun x _ ih l=>List.casesOn (motive:=fun _=>Bool) l false fun y t=>cond (Nat.beq x y) (ih t) false) p
def idxS(p s:List Nat):Nat->Option Nat:=
 List.rec (motive:=fun _=>Nat->Option Nat) (fun i=>cond (preL p []) (some i) none) (fun x t ih i=>cond (preL p (x::t)) (some i) (ih (Nat.succ i))) s
def extM(x:Xf)(S:AS)(as:List AV):Option (AV×AS):=none
def ot(cx:Cx)(S:AS)(fv:AV)(as:List AV):AR:=
 match fv with
 | .func (.func f) first captured=>match cx.exts.get f with
  |some x=>dN (extM x S (fH first (fH as captured))) 101
  |none=>.enter f (fH first (fH as captured)) S
 | .obj .yld id=>.round id as S
 |_=>.err 100
def j7(cx:Cx)(e:TypeId)(sz:Nat):Bool:=
 match zeroOf cx e with
 |some z=>match cellsOf z with
  |some l=>Nat.beq (eG l) sz
  |none=>false
 |none=>false
def qB(c:AV)(r:Option (List Nat)):Option (List Nat):=
 match c,r with
 | .int .u8 (.ofNat n),some l=>cond (Nat.blt n 256) (some (n::l)) none
 |_,_=>none
def rP(cs:List AV):Option (List Nat):=
 List.rec (motive:=fun _=>Option (List Nat)) (some []) (fun c _ ih=>qB c ih) cs
def uw{α:Type}(n:Nat):List α->List α:=
 Nat.rec (motive:=fun _=>List α->List α) (fun l=>List.casesOn (motive:=fun _=>List α) l [] fun _ t=>t)
  (fun _ ih l=>List.casesOn (motive:=fun _=>List α) l [] fun y t=>y::ih t) n
def qA(cx:Cx)(S:AS)(t:TypeId)(x k:AV):Option (AV×AS):=
 match bC cx t with
 |some (.map kt _)=>match bC cx kt with
  |some d=>cond (plainKey d k) (match x with
   | .jl=>some (.undef,S)
   | .map id=>match S.h.get id with
    |some (.map es clock)=>match fU d k es 0 with
     |some (some (i,_))=>some (.undef,⟨S.h.set id (.map (uw i es) clock),S.next⟩)
     |some none=>some (.undef,⟨S.h.set id (.map es clock),S.next⟩)
     |none=>none
    |_=>none
   |_=>none) none
  |none=>none
 |_=>none
def clearV(cx:Cx)(S:AS)(t:TypeId)(x:AV):Option (AV×AS):=none
def tU(frz:Bool)(low:Nat):Bool:=cond frz (Nat.beq low 0) true
def ustrV(cx:Cx)(S:AS)(t:TypeId)(p:AV)(n:Nat):Option (AV×AS):=
 match n with
 |0=>match p with
  | .bM=>some (.str [],S)
  | .ptr ..=>some (.str [],S)
  |_=>none
 |_=>match bC cx t,p with
  |some (.pointer e),.ptr id g off lim=>match bC cx e,aE cx e,S.h.get id with
   |some (.int .u8),some 1,some (.row cells low top frz ty)=>cond (Nat.beq ty e&&Nat.ble n 4611686018427387904&&tU frz low) (match rd S id g off n lim with
    |some cs=>match rP cs with
     |some l=>some (.str l,⟨S.h.set id (.row cells low top true ty),S.next⟩)
     |none=>none
    |none=>none) none
   |_,_,_=>none
  |_,_=>none
def appZ(cx:Cx)(S:AS)(e:TypeId)(s x:AV):Option (AV×AS):=
 match aE cx e,bytesOf cx e,zeroOf cx e,s,x with
 |some (Nat.succ z),some bs,some zv,.slice id g off len lim sz (some c),.int _ (.ofNat n)=>match cellsOf zv,taken S (Nat.succ z) (.slice id g off len lim sz (some c))with
  |some zero,some (_,old)=>cond (Nat.beq (eG zero) (Nat.succ z)&&Nat.blt c (Nat.add len n)&&fits (Nat.add len n) bs) (some (grown S e (Nat.add len n) (Nat.succ z) (fH old (ke n zero)))) none
  |_,_=>none
 |_,_,_,_,_=>none
def bg(cx:Cx)(S:AS)(b:Builtin)(ts:List TypeId)(as:List AV):AR:=
 match b,ts,as with
 | .len,t::_,x::_=>match lenV cx S t x with|some n=>.val (fS n fun n=>.int .i64 (.ofNat n)) S|none=>.err 1
 | .cap,t::_,x::_=>match bC cx t,x with
  |some (.slice _),.aq=>.val (.int .i64 0) S
  |some (.slice _),.slice _ _ _ _ _ _ (some c)=>.val (.int .i64 (.ofNat c)) S
  |some (.array n _),_=>.val (.int .i64 (.ofNat n)) S
  |_,_=>.err 2
 | .append,t::u::_,[s,x]=>match bC cx t,bC cx u with
  |some (.slice e),some (.int _)=>dN (appZ cx S e s x) 3
  |some (.slice e),some _=>match aE cx e,bytesOf cx e with
   |some (Nat.succ z),some bs=>cond (j7 cx e (Nat.succ z)) (dN (fu S e (Nat.succ z) bs s x) 4) (.err 13)
   |_,_=>.err 5
  |_,_=>.err 6
 | .copy,t::_,[d,x]=>match bC cx t with
  |some (.slice e)=>match aE cx e with
   |some (Nat.succ z)=>dN (copyV S (Nat.succ z) d x) 7
   |_=>.err 8
  |_=>.err 9
 | .unsafeSliceData,_,[.aq]=>.val .bM S
 | .unsafeSliceData,_,[.slice id g off len lim _ _]=>cond (Nat.blt 0 len) (.val (.ptr id g off lim) S) (.err 14)
 | .unsafeString,t::_,[p,.int _ (.ofNat n)]=>dN (ustrV cx S t p n) 15
 | .delete,t::_,[x,k]=>dN (qA cx S t x k) 16
 | .clear,t::_,[x]=>dN (clearV cx S t x) 17
 | .min,_,.int k n::l=>val? (foldI (fun n m=>!ltI m n) k n l) S 10
 | .max,_,.int k n::l=>val? (foldI (fun n m=>!ltI n m) k n l) S 11
 |_,_,_=>.err 12
def kN(cx:Cx)(S:AS)(t:TypeId)(x k:AV)(ok:Bool):Option AV:=
 match bC cx t with
 |some (.map kt et)=>match bC cx kt,zeroOf cx et with
  |some d,some z=>cond (plainKey d k) (match x with
   | .jl=>some (cond ok (.tuple [z,.bool false]) z)
   | .map id=>match S.h.get id with
    |some (.map es _)=>match fU d k es 0 with
     |some (some (_,e))=>some (cond ok (.tuple [e.val,.bool true]) e.val)
     |some none=>some (cond ok (.tuple [z,.bool false]) z)
     |none=>none
    |_=>none
   |_=>none) none
  |_,_=>none
 |_=>none
def nh(cx:Cx)(S:AS)(t:TypeId)(x k v:AV):Option (AV×AS):=
 match bC cx t,x with
 |some (.map kt _),.map id=>match bC cx kt with
  |some d=>cond (plainKey d k) (match S.h.get id with
   |some (.map es clock)=>match fU d k es 0 with
    |some (some (i,e))=>some (.undef,⟨S.h.set id (.map (ry i es ⟨k,v,e.born⟩) clock),S.next⟩)
    |some none=>some (.undef,⟨S.h.set id (.map (fH es [⟨k,v,clock⟩]) (Nat.succ clock)),S.next⟩)
    |none=>none
   |_=>none) none
  |none=>none
 |_,_=>none
def B8(cx:Cx)(S:AS)(t:TypeId)(x k:AV):Option (AV×AS):=none
def B7(S:AS)(x k v:AV):Option (AV×AS):=none
def rangeV(cx:Cx)(S:AS)(t:TypeId)(x:AV):Option (AV×AS):=none
def sG(S:AS)(x:AV)(str:Bool):AR:=.err 88
def entryV(S:AS)(x:AV):Option AV:=none
def rG(F:Fr)(r:Option Operand):Bool:=match r with|none=>true|some x=>yp (eR (eval F x))
def aA(cx:Cx)(F:Fr)(id:Nat)(op:Op):Option (AV×dr):=
 match op with
 | .alloc e=>match zeroOf cx e with
  |some z=>match cellsOf z with
   |some cs=>some (.ptr id 0 0 (eG cs),.row cs 0 0 false e)
   |none=>none
  |none=>none
 | .box t x=>match cellsOf (eval F x)with
  |some cs=>some (.ptr id 0 0 (eG cs),.row cs 0 0 false t)
  |none=>none
 | .buildSlice t n parts=>match bC cx t with
  |some (.slice e)=>match aE cx e,zeroOf cx e with
   |some (Nat.succ z),some zv=>match cellsOf zv with
    |some zero=>cond (Nat.beq (eG zero) (Nat.succ z)&&Nat.ble (Nat.mul n (Nat.succ z)) 16777216)
     (match fe cx F (fun i=>some (Nat.mul i (Nat.succ z),Nat.succ z)) parts.toList (ke n zero)with
     |some cells=>some (.slice id 0 0 n (Nat.mul n (Nat.succ z)) (Nat.succ z) (some n),.row cells 0 0 false e)
     |none=>none) none
    |none=>none
   |_,_=>none
  |_=>none
 | .makeMap t r=>match bC cx t with
  |some (.map _ _)=>cond (rG F r) (some (.map id,.map [] 0)) none
  |_=>none
 | .makeSlice t l c=>match bC cx t,eR (eval F l),eR (eval F c)with
  |some (.slice e),some l,some c=>match aE cx e,bytesOf cx e,zeroOf cx e with
   |some (Nat.succ z),some bs,some zv=>match cellsOf zv with
    |some zero=>cond (Nat.beq (eG zero) (Nat.succ z)&&Nat.ble l c&&fits c bs)
     (some (.slice id 0 0 l (Nat.mul c (Nat.succ z)) (Nat.succ z) (some c),.row (ke c zero) 0 0 false e)) none
    |none=>none
   |_,_,_=>none
  |_,_,_=>none
 |_=>none
def gJ(r:Option (AV×dr))(S:AS)(n:Nat):AR:=
 match r with
 |some (v,o)=>.val v ⟨S.h.set S.next o,Nat.succ S.next⟩
 |none=>.err n
def bj(cx:Cx)(F:Fr)(S:AS)(o:Oper):AR:=
 match o.op with
 | .move x=>.val (eval F x) S
 | .assign x=>.val (eval F x) S
 | .pick c a b=>match eval F c with
  | .bool true=>.val (eval F a) S
  | .bool false=>.val (eval F b) S
  |_=>.err 20
 | .alloc e=>gJ (aA cx F S.next (.alloc e)) S 21
 | .box t x=>gJ (aA cx F S.next (.box t x)) S 23
 | .build t parts=>val? (nR cx F t parts.toList) S 24
 | .buildSlice t n parts=>gJ (aA cx F S.next (.buildSlice t n parts)) S 25
 | .load t x=>match eval F x with
  | .ptr id g off lim=>match aG cx t with
   |some true=>match aE cx t with
    |some n=>match rd S id g off n lim with
     |some cs=>.val (.agg cs) S
     |none=>.err 30
    |none=>.err 31
   |some false=>match rd S id g off 1 lim with
    |some [v]=>.val v S
    |_=>.err 32
   |none=>.err 33
  | .uh g off=>match cx.kE.get g with
   |some cs=>val? (globV cx t cs off) S 133
   |none=>.err 134
  |_=>.err 34
 | .store t x y=>match eval F x,cellsOf (eval F y),aE cx t with
  | .ptr id g off lim,some cs,some n=>cond (Nat.beq (eG cs) n) (match wr S id g off lim cs with
   |some S'=>.val .undef S'
   |none=>.err 35) (.err 36)
  |_,_,_=>.err 37
 | .nilCheck x=>match eval F x with
  | .ptr i g o l=>.val (.ptr i g o l) S
  | .uh g o=>.val (.uh g o) S
  | .func (.func f) a b=>.val (.func (.func f) a b) S
  | .slice a b c d e f g=>.val (.slice a b c d e f g) S
  | .map i=>.val (.map i) S
  | .obj k i=>.val (.obj k i) S
  |_=>.err 38
 | .binOp op t x y _=>val? (aS cx op t ((x matches .const _)||(y matches .const _)) (eval F x) (eval F y)) S 40
 | .unOp op _ x=>val? (unV op (eval F x)) S 41
 | .convert src dst x=>match bC cx src,bC cx dst,eval F x with
  |some _,some (.int k),.int _ n=>.val (mkI k n) S
  |some _,some .string,.str s=>.val (.str s) S
  |some _,some (.slice e),.str s=>match bC cx e with
   |some (.int .u8)=>.val (.slice S.next 0 0 s.length s.length 1 none) ⟨S.h.set S.next (.row (mS (fun n=>AV.int .u8 (.ofNat n)) s) 0 0 true e),Nat.succ S.next⟩
   |_=>.err 42
  |some (.slice e),some .string,x=>match bC cx e,x with
   |some (.int .u8),.aq=>.val (.str []) S
   |some (.int .u8),.slice id g off len lim 1 _=>match len with
    |0=>.val (.str []) S
    |_=>match rd S id g off len lim with
     |some cs=>match rP cs with
      |some l=>.val (.str l) S
      |none=>.err 43
     |none=>.err 44
   |_,_=>.err 45
  |some (.slice _),some (.slice e),.slice id g off len lim sz cap=>cond (Nat.beq src dst&&Nat.blt 0 len) (match bC cx e,S.h.get id with
   |some (.int .u8),some (.row cells low top frz ty)=>cond (Nat.ble low g&&Nat.ble g top&&tU frz low) (.val (.slice id g off len lim sz cap) ⟨S.h.set id (.row cells low top true ty),S.next⟩) (.err 147)
   |_,_=>.err 145) (.err 146)
  |some (.pointer e),some .unsafePointer,.ptr id g off lim=>match aE cx e,S.h.get id with
   |some (Nat.succ _),some (.row _ low top _ _)=>cond (Nat.blt off lim&&Nat.ble low g&&Nat.ble g top) (.val (.ptr id g off lim) S) (.err 141)
   |_,_=>.err 142
  |some .unsafePointer,some (.pointer u),.ptr id g off lim=>match g,off,aE cx u,S.h.get id with
   |0,0,some (Nat.succ z),some (.row _ low _ _ ty)=>cond (Nat.beq ty u&&Nat.ble (Nat.succ z) lim&&Nat.beq low 0) (.val (.ptr id 0 0 lim) S) (.err 143)
   |_,_,_,_=>.err 144
  |_,_,_=>.err 46
 | .makeInterface t x=>match bC cx t with
  |some (.interface _)=>.err 47
  |some _=>.val (.iface t (eval F x)) S
  |none=>.err 48
 | .makeFunc fn first captured=>.val (.func fn (args F first) (args F captured)) S
 | .makeMap t r=>gJ (aA cx F S.next (.makeMap t r)) S 48
 | .makeSlice t l c=>gJ (aA cx F S.next (.makeSlice t l c)) S 49
 | .slice t x lo hi mx=>val? (eK cx F t (eval F x) lo hi mx) S 53
 | .fieldAddr s x f=>match bC cx s,eval F x with
  |some (.struct fs),.ptr id g off lim=>match nth f fs.toList with
   |some fd=>match aE cx fd.type with
    |some (Nat.succ _)=>.val (fS (Nat.add off fd.offset) fun o=>.ptr id g o lim) S
    |_=>.err 54
   |none=>.err 55
  |_,_=>.err 56
 | .field t x f=>match bC cx t,eval F x with
  |some (.struct fs),.agg cs=>match nth f fs.toList with
   |some fd=>val? (partOf cx fd.type cs fd.offset) S 57
   |none=>.err 58
  |_,_=>.err 59
 | .indexAddr t x ix=>match bC cx t,eval F x,eR (eval F ix)with
  |some (.slice e),.slice id g off len lim sz _,some i=>match aE cx e with
   |some z=>cond (Nat.beq z sz&&Nat.blt i len) (.val (fS (Nat.add off (Nat.mul i sz)) fun o=>.ptr id g o lim) S) (.err 60)
   |none=>.err 61
  |some (.array n e),.ptr id g off lim,some i=>match aE cx e with
   |some z=>cond (Nat.blt i n) (.val (fS (Nat.add off (Nat.mul i z)) fun o=>.ptr id g o lim) S) (.err 62)
   |none=>.err 63
  |some (.array n e),.uh g off,some i=>match aE cx e with
   |some z=>cond (Nat.blt i n) (.val (fS (Nat.add off (Nat.mul i z)) fun o=>.uh g o) S) (.err 162)
   |none=>.err 163
  |_,_,_=>.err 64
 | .index t x ix=>match bC cx t,eval F x,eR (eval F ix)with
  |some .string,.str s,some i=>match nth i s with
   |some n=>.val (.int .u8 (.ofNat n)) S
   |none=>.err 65
  |some (.array n e),.agg cs,some i=>match aE cx e with
   |some z=>cond (Nat.blt i n) (val? (partOf cx e cs (Nat.mul i z)) S 66) (.err 67)
   |none=>.err 68
  |_,_,_=>.err 70
 | .lookup t x ix ok=>val? (kN cx S t (eval F x) (eval F ix) ok) S 71
 | .mapUpdate t m k v=>dN (nh cx S t (eval F m) (eval F k) (eval F v)) 78
 | .insert t m k v=>dN (nh cx S t (eval F m) (eval F k) (eval F v)) 79
 | .mapEntry t m k=>dN (B8 cx S t (eval F m) (eval F k)) 86
 | .entryStore _ m k v=>dN (B7 S (eval F m) (eval F k) (eval F v)) 87
 | .range t x=>dN (rangeV cx S t (eval F x)) 88
 | .next x str=>sG S (eval F x) str
 | .entry x=>val? (entryV S (eval F x)) S 89
 | .panic x=>match eval F x with
  | .iface t v=>.dP (.iface t v) S
  |_=>.err 98
 | .typeAssert x _ t ok=>val? (jM cx (eval F x) t ok) S 85
 | .extract x i=>match eval F x with
  | .tuple vs=>val? (nth i vs) S 82
  |_=>.err 83
 | .call c=>match c.callee with
  | .value f=>ot cx S (eval F f) (args F c.args)
  | .builtin b=>bg cx S b c.argTypes.toList (args F c.args)
  | .invoke _ _=>.err 84
 |_=>.err 99
end Go.Am
end
