/-
  The abstract machine: its operations.
-/
import Derived.Test.YtdknlbnljfdhgaaGreatDoorAmDefs
noncomputable section
namespace Go.Am
open Go
def ofVF (n:Nat):Value→AV:=
 Nat.rec (motive:=fun _=>Value→AV) (fun _=>.top) (fun _ ih v=>
  match v with
  | .bool b=>.bool b
  | .int k n=>.int k n
  | .string s=>.str (jH UInt8.toNat s.data.toList)
  | .pointer none=>.bd
  | .slice none 0 0=>.ar
  | .map none=>.iF
  | .nilFunc=>.kB
  | .nilIface=>.b8
  | .chan none=>.nilc
  | .agg a=>cond (a.toList.all Value.oneCell') (.agg (jH ih a.toList)) .top
  | _=>.top) n
def ofV (v:Value):AV:=ofVF 2 v
def evTmp (t:Tmp) (F:Fr):AV:=@Option.rec AV (fun _=>AV) .undef (fun v=>v) (F.t.get t)
def evConst (v:Value) (_:Fr):AV:=ofV v
def evGlob (g:Nat) (_:Fr):AV:=.mY g 0
def evFunc (f:FuncId) (_:Fr):AV:=.func (.func f) [] []
def eval (F:Fr) (x:Operand):AV:=@Operand.rec (fun _=>Fr→AV) evTmp evConst evGlob evFunc x F
def cellsOf (v:AV):Option (List AV):=
 match v with
 | .agg cs=>some cs
 | .top=>none
 | .tuple _=>none
 | .dN _=>none
 | v=>some [v]
def aY (cx:Cx) (t:TypeId):Option TypeDesc:=
 match cx.jW.get t with
 | some i=>match i.desc with
  | .named _ u=>match cx.jW.get u with|some j=>some j.desc|none=>none
  | d=>some d
 | none=>none
def aA (cx:Cx) (t:TypeId):Option Nat:=match cx.jW.get t with|some i=>some i.size|none=>none
def bytesOf (cx:Cx) (t:TypeId):Option Nat:=match cx.jW.get t with|some i=>some i.bytes|none=>none
def zeroOf (cx:Cx) (t:TypeId):Option AV:=
 match cx.jW.get t with
 | some i=>match i.zero with|some z=>some (ofV z)|none=>none
 | none=>none
def aD (cx:Cx) (t:TypeId):Option Bool:=
 match aY cx t with
 | some (.struct _)=>some true
 | some (.array _ _)=>some true
 | some _=>some false
 | none=>none
def partOf (cx:Cx) (t:TypeId) (cs:List AV) (off:Nat):Option AV:=
 match aD cx t with
 | some true=>match aA cx t with
  | some n=>some (.agg (takeN n (jT off cs)))
  | none=>none
 | some false=>nth off cs
 | none=>none
def fZ (n:Nat) (l:List AV):List AV:=Nat.rec (motive:=fun _=>List AV) [] (fun _ ih=>fh l ih) n
def globV (cx:Cx) (t:TypeId) (cs:List AV) (off:Nat):Option AV:=
 match aD cx t with
 | some true=>match aA cx t with
  | some n=>cond (Nat.ble (Nat.add off n) (dv cs)) (some (.agg (takeN n (jT off cs)))) none
  | none=>none
 | some false=>nth off cs
 | none=>none
def rd (S:AS) (id g off n ay:Nat):Option (List AV):=
 match S.h.get id with
 | some (.row cells low top _ _)=>
  cond (Nat.ble low g&&Nat.ble g top&&Nat.ble (Nat.add off n) ay) (some (takeN n (jT off cells))) none
 | _=>none
def wr (S:AS) (id g off ay:Nat) (new:List AV):Option AS:=
 match S.h.get id with
 | some (.row cells _ top frz ty)=>
  cond (Nat.beq g top&&Nat.ble (Nat.add off (dv new)) ay && !frz) (some ⟨S.h.set id (.row (cz off cells new) top top false ty),S.next⟩) none
 | _=>none
def qw (a:List Nat):List Nat→Bool:=
 List.rec (motive:=fun _=>List Nat→Bool) (fun b=>List.casesOn (motive:=fun _=>Bool) b true fun _ _=>false)
  (fun x _ ih b=>List.casesOn (motive:=fun _=>Bool) b false fun y t=>cond (Nat.beq x y) (ih t) false) a
def nq (a:List Nat):List Nat→Bool:=
 List.rec (motive:=fun _=>List Nat→Bool) (fun b=>List.casesOn (motive:=fun _=>Bool) b false fun _ _=>true)
  (fun x _ ih b=>List.casesOn (motive:=fun _=>Bool) b false fun y t=>cond (Nat.blt x y) true (cond (Nat.beq x y) (ih t) false)) a
def eqFields (eq:TypeId→AV→AV→Option Bool) (cx:Cx) (xs ys:List AV) (fs:List Field):Option Bool:=
 List.rec (motive:=fun _=>Option Bool) (some true) (fun f _ ih=>
  match partOf cx f.type xs f.offset,partOf cx f.type ys f.offset with
  | some a,some b=>match eq f.type a b with
   | some true=>ih
   | r=>r
  | _,_=>none) fs
def lg (eq:AV→AV→Option Bool) (cx:Cx) (e:TypeId) (z:Nat) (xs ys:List AV) (n:Nat):Nat→Option Bool:=
 Nat.rec (motive:=fun _=>Nat→Option Bool) (fun _=>some true) (fun _ ih i=>
  match partOf cx e xs (Nat.mul i z),partOf cx e ys (Nat.mul i z) with
  | some a,some b=>match eq a b with
   | some true=>ih (Nat.succ i)
   | r=>r
  | _,_=>none) n
def iu (cx:Cx) (ih:TypeId→AV→AV→Option Bool) (t:TypeId) (d:TypeDesc) (x y:AV):Option Bool:=
 match d,x,y with
 | .int _,.int j a,.int k b=>cond (fw j k) (some (yT a b)) none
 | .bool,.bool a,.bool b=>some (a == b)
 | .string,.str a,.str b=>some (qw a b)
 | .pointer _,.bd,.bd=>some true
 | .pointer _,.bd,.ptr ..=>some false
 | .pointer _,.ptr ..,.bd=>some false
 | .pointer e,.ptr i g o _,.ptr j h p _=>match aA cx e with
  | some _=>cond (Nat.beq i j&&Nat.beq g h&&Nat.beq o p) (some true) none
  | none=>none
 | .slice _,.ar,.ar=>some true
 | .slice _,.ar,.slice ..=>some false
 | .slice _,.slice ..,.ar=>some false
 | .map _ _,.iF,.iF=>some true
 | .map _ _,.iF,.map _=>some false
 | .map _ _,.map _,.iF=>some false
 | .func _ _ _,.kB,.kB=>some true
 | .func _ _ _,.kB,.func ..=>some false
 | .func _ _ _,.func ..,.kB=>some false
 | .interface _,.b8,.b8=>some true
 | .interface _,.b8,.iface ..=>some false
 | .interface _,.iface ..,.b8=>some false
 | .interface _,.iface t a,.iface u b=>cond (Nat.beq t u) (match cx.jW.get t with
   | some i=>cond i.comparable (ih t a b) none
   | none=>none) (some false)
 | .struct fs,.agg xs,.agg ys=>match cx.eqs.get t with
  | some _=>eqFields ih cx xs ys fs.toList
  | none=>none
 | .array n e,.agg xs,.agg ys=>match cx.eqs.get t with
  | some _=>match aA cx e with
   | some z=>lg (ih e) cx e z xs ys n 0
   | none=>none
  | none=>none
 | _,_,_=>none
def eqR (cx:Cx) (n:Nat):TypeId→AV→AV→Option Bool:=
 Nat.rec (motive:=fun _=>TypeId→AV→AV→Option Bool) (fun _ _ _=>none) (fun _ ih t x y=>
  match aY cx t with
  | none=>none
  | some d=>iu cx ih t d x y) n
def lite (jW:T TypeInfo) (eqs:T Unit):Cx:=⟨jW,.leaf,eqs,.leaf,.leaf,.leaf,.leaf⟩
def sh (cx:Cx) (n:Nat):TypeId→AV→AV→Option Bool:=eqR (lite cx.jW cx.eqs) n
def pe (op:BinOp) (a b:Nat):Nat:=
 match op with
 | .and=>Nat.land a b
 | .or=>Nat.lor a b
 | .xor=>Nat.xor a b
 | _=>0
def mkI (k:IntKind) (n:Int):AV:=gM (wrapF k n) fun n=>.int k n
def nz (op:BinOp) (k:IntKind) (x y:Int):Int:=
 let a:=BitVec.ofInt k.bits x
 let b:=BitVec.ofInt k.bits y
 match op with
 | .and=>k.wrap (a &&& b).toNat
 | .or=>k.wrap (a ||| b).toNat
 | .xor=>k.wrap (a ^^^ b).toNat
 | _=>k.wrap (a &&& ~~~b).toNat
def fF (op:BinOp) (k:IntKind) (x y:Int):AV:=
 match op,x,y with
 | .andNot,x,y=>gM (nz .andNot k x y) fun n=>.int k n
 | op,.ofNat a,.ofNat b=>cond (Nat.blt a (half k)&&Nat.blt b (half k)) (di (pe op a b) fun n=>.int k (.ofNat n)) (gM (nz op k x y) fun n=>.int k n)
 | op,x,y=>gM (nz op k x y) fun n=>.int k n
def pU (op:BinOp) (k:IntKind) (a b:Int):Option AV:=
 match op with
 | .add=>some (mkI k (Int.add a b))
 | .sub=>some (mkI k (Int.sub a b))
 | .mul=>some (mkI k (Int.mul a b))
 | .quo=>cond (yT b (.ofNat 0)) none (some (mkI k (Int.tdiv a b)))
 | .rem=>cond (yT b (.ofNat 0)) none (some (gM (Int.tmod a b) fun n=>.int k n))
 | .eql=>some (.bool (yT a b))
 | .neq=>some (.bool (!yT a b))
 | .lss=>some (.bool (ltI a b))
 | .leq=>some (.bool (!ltI b a))
 | .gtr=>some (.bool (ltI b a))
 | .geq=>some (.bool (!ltI a b))
 | .shl=>match b with
  | .ofNat n=>some (mkI k (Int.mul a (.ofNat (Nat.pow 2 (Nat.min n k.bits)))))
  | _=>none
 | .shr=>match b with
  | .ofNat n=>some (gM (Int.fdiv a (.ofNat (Nat.pow 2 (Nat.min n k.bits)))) fun n=>.int k n)
  | _=>none
 | .and=>some (fF .and k a b)
 | .or=>some (fF .or k a b)
 | .xor=>some (fF .xor k a b)
 | .andNot=>some (fF .andNot k a b)
def Fe (op:BinOp) (a b:List Nat):Option AV:=
 match op with
 | .add=>cond (Nat.ble (Nat.add (dv a) (dv b)) 4611686018427387904) (some (.str (fh a b))) none
 | .eql=>some (.bool (qw a b))
 | .neq=>some (.bool (!qw a b))
 | .lss=>some (.bool (nq a b))
 | .leq=>some (.bool (!nq b a))
 | .gtr=>some (.bool (nq b a))
 | .geq=>some (.bool (!nq a b))
 | _=>none
def qM (x:AV):Bool:=
 match x with
 | .bool _=>true | .bd=>true | .ptr ..=>true | .ar=>true | .slice ..=>true | .iF=>true | .map _=>true
 | .func ..=>true | .kB=>true | .b8=>true | .iface ..=>true | .agg _=>true
 | _=>false
def Ae (cx:Cx) (t:TypeId) (cst:Bool) (x y:AV):Option Bool:=
 match x,y with
 | .b8,.b8=>cond cst (sh cx 6 t .b8 .b8) none
 | x,y=>cond (qM x) (sh cx 6 t x y) none
def bt (cx:Cx) (op:BinOp) (t:TypeId) (cst:Bool) (x y:AV):Option AV:=
 match x,y with
 | .int j a,.int k b=>match op with
  | .shl=>pU .shl j a b
  | .shr=>pU .shr j a b
  | op=>cond (fw j k) (pU op j a b) none
 | .str a,.str b=>Fe op a b
 | x,y=>match op with
  | .eql=>match Ae cx t cst x y with|some r=>some (.bool r)|none=>none
  | .neq=>match Ae cx t cst x y with|some r=>some (.bool (!r))|none=>none
  | _=>none
def unV (op:UnOp) (x:AV):Option AV:=
 match op,x with
 | .not,.bool b=>some (.bool (!b))
 | .neg,.int k n=>some (mkI k (Int.sub (.ofNat 0) n))
 | .xor,.int k n=>some (fF .xor k (cond (sgn k) (.negSucc 0) (.ofNat (Nat.sub (half k) 1))) n)
 | _,_=>none
def lenV (cx:Cx) (S:AS) (t:TypeId) (x:AV):Option Nat:=
 match aY cx t,x with
 | some .string,.str s=>some s.length
 | some (.slice _),.ar=>some 0
 | some (.slice _),.slice _ _ _ len _ _ _=>some len
 | some (.map _ _),.iF=>some 0
 | some (.map _ _),.map id=>match S.h.get id with
  | some (.map es _)=>some es.length
  | _=>none
 | some (.array n _),_=>some n
 | some (.pointer e),_=>match aY cx e with
  | some (.array n _)=>some n
  | _=>none
 | _,_=>none
def taken (S:AS) (sz:Nat) (x:AV):Option (Nat×List AV):=
 match x with
 | .ar=>some (0,[])
 | .str s=>cond (Nat.beq sz 1) (some (s.length,jH (fun n=>AV.int .u8 (.ofNat n)) s)) none
 | .slice id g off len ay z _=>cond (Nat.beq z sz) (match len with
   | 0=>some (0,[])
   | _=>match rd S id g off (Nat.mul len sz) ay with
    | some l=>some (len,l)
    | none=>none) none
 | _=>none
def grown (S:AS) (e need sz:Nat) (cells:List AV):AV×AS:=
 (.slice S.next 0 0 need (Nat.mul need sz) sz none,⟨S.h.set S.next (.row cells 0 0 false e),Nat.succ S.next⟩)
def fits (need bs:Nat):Bool:=Nat.ble need 4611686018427387904&&Nat.ble (Nat.mul need bs) 140737488355328
def cQ (S:AS) (e sz bs:Nat) (s x:AV):Option (AV×AS):=
 match taken S sz x with
 | none=>none
 | some (n,new)=>
  match n with
  | 0=>match s with
   | .ar=>some (s,S)
   | .slice _ _ _ _ _ z _=>cond (Nat.beq z sz) (some (s,S)) none
   | _=>none
  | _=>match s with
   | .ar=>cond (fits n bs) (some (grown S e n sz new)) none
   | .slice id g off len ay z cap=>cond (Nat.beq z sz)
    (match S.h.get id with
    | some (.row cells low top frz ty)=>
     cond (Nat.ble low g&&Nat.ble g top)
     (di (Nat.add len n) fun need=>cond (fits need bs) (
     match cap with
     | some c=>cond (Nat.ble need c)
      (match wr S id g (Nat.add off (Nat.mul len sz)) ay new with
       | some S'=>some (.slice id g off need ay sz cap,S')
       | none=>none)
      (some (grown S e need sz (fh (takeN (Nat.mul len sz) (jT off cells)) new)))
     | none=>cond (frz || !Nat.beq ty e) none (
      cond (Nat.beq off 0&&Nat.beq g top&&Nat.beq (dv cells) (Nat.mul len sz))
       (some (.slice id (Nat.succ g) 0 need (Nat.mul need sz) sz none,⟨S.h.set id (.row (fh cells new) low (Nat.succ top) false ty),S.next⟩))
       (some (.slice id (Nat.succ top) 0 need (Nat.mul need sz) sz none,⟨S.h.set id (.row (fh (takeN (Nat.mul len sz) (jT off cells)) new) (Nat.succ top) (Nat.succ top) false ty),S.next⟩)))) none) none
    | _=>none) none
   | _=>none
def copyV (S:AS) (sz:Nat) (d x:AV):Option (AV×AS):=
 match taken S sz x,d with
 | some _,.ar=>some (.int .i64 0,S)
 | some (n,new),.slice id g off len ay z _=>cond (Nat.beq z sz)
  (let m:=Nat.min n len
   match m with
   | 0=>some (.int .i64 0,S)
   | m=>match wr S id g off ay (takeN (Nat.mul m sz) new) with
    | some S'=>some (.int .i64 (.ofNat m),S')
    | none=>none) none
 | _,_=>none
def foldI (f:Int→Int→Bool) (k:IntKind) (n:Int):List AV→Option AV
 | []=>some (.int k n)
 | .int j m :: l=>bif fw j k then foldI f k (bif f n m then n else m) l else none
 | _=>none
def lO (d:TypeDesc) (x y:AV):Option Bool:=
 match d,x,y with
 | .int _,.int j a,.int k b=>cond (fw j k) (some (yT a b)) none
 | .string,.str a,.str b=>some (qw a b)
 | .bool,.bool a,.bool b=>some (a == b)
 | _,_,_=>none
def fE (d:TypeDesc) (k:AV) (es:List bj):Nat→Option (Option (Nat×bj)):=
 List.rec (motive:=fun _=>Nat→Option (Option (Nat×bj))) (fun _=>some none)
  (fun e _ ih i=>match lO d k e.key with
   | some true=>some (some (i,e))
   | some false=>ih (Nat.succ i)
   | none=>none) es
def plainKey (d:TypeDesc) (k:AV):Bool:=
 match d,k with
 | .int _,.int ..=>true
 | .string,.str _=>true
 | .bool,.bool _=>true
 | _,_=>false
def dS (x:AV):Option Nat:=
 match x with
 | .int _ (.ofNat n)=>some n
 | _=>none
def bound (F:Fr) (x:Option Operand) (d:Nat):Option Nat:=
 match x with
 | some o=>dS (eval F o)
 | none=>some d
def yr {α:Type} (x:Option α):Bool:=match x with|some _=>true|none=>false
def bounds (F:Fr) (len room:Nat) (lo hi mx:Option Operand):Option (Nat×Nat×Nat):=
 match bound F lo 0,bound F hi len,bound F mx room with
 | some l,some h,some m=>cond (Nat.ble l h&&Nat.ble h m&&Nat.ble m room&&(!yr mx||yr hi)) (some (l,h,m)) none
 | _,_,_=>none
def cutV (id g off ay sz l h m:Nat):AV:=
 cond (Nat.beq m l) (.slice id g off 0 ay sz (some 0)) (di (Nat.add off (Nat.mul l sz)) fun o=>.slice id g o (Nat.sub h l) ay sz (some (Nat.sub m l)))
def mN (len:Nat) (cap:Option Nat):Nat:=match cap with|some c=>c|none=>len
def iJ (cx:Cx) (F:Fr) (t:TypeId) (x:AV) (lo hi mx:Option Operand):Option AV:=
 match aY cx t,x with
 | some .string,.str s=>match bounds F s.length s.length lo hi mx with
  | some (l,h,_)=>cond (yr mx) none (some (.str (takeN (Nat.sub h l) (jT l s))))
  | none=>none
 | some (.slice e),.ar=>match aA cx e,bounds F 0 0 lo hi mx with
  | some _,some _=>some .ar
  | _,_=>none
 | some (.slice e),.slice id g off len ay sz cap=>match aA cx e with
  | some z=>cond (Nat.beq z sz) (match bounds F len (mN len cap) lo hi mx with
   | some (l,h,m)=>cond (yr mx||yr cap) (some (cutV id g off ay sz l h m))
    (some (di (Nat.add off (Nat.mul l sz)) fun o=>.slice id g o (Nat.sub h l) ay sz none))
   | none=>none) none
  | none=>none
 | some (.array n e),.ptr id g off ay=>match aA cx e with
  | some (Nat.succ z)=>match bounds F n n lo hi mx with
   | some (l,h,m)=>cond (Nat.ble (Nat.add off (Nat.mul n (Nat.succ z))) ay) (some (cutV id g off ay (Nat.succ z) l h m)) none
   | none=>none
  | _=>none
 | _,_=>none
def eV (_cx:Cx) (F:Fr) (place:Nat→Option (Nat×Nat)) (parts:List (Nat×Operand)):List AV→Option (List AV):=
 List.rec (motive:=fun _=>List AV→Option (List AV)) (fun cells=>some cells)
  (fun p _ ih cells=>match place p.1,cellsOf (eval F p.2) with
   | some (off,size),some new=>cond (Nat.beq (dv new) size&&Nat.ble (Nat.add off size) (dv cells)) (ih (cz off cells new)) none
   | _,_=>none) parts
def mS (cx:Cx) (fs:List Field):Option (List (Nat×Nat)):=
 List.rec (motive:=fun _=>Option (List (Nat×Nat))) (some []) (fun f _ ih=>match aA cx f.type,ih with
  | some n,some l=>some ((f.offset,n) :: l)
  | _,_=>none) fs
def lD (cx:Cx) (F:Fr) (t:TypeId) (parts:List (Nat×Operand)):Option AV:=
 match zeroOf cx t with
 | none=>none
 | some z=>match cellsOf z,aY cx t with
  | some zero,some (.struct fs)=>match mS cx fs.toList with
   | some ps=>match eV cx F (fun i=>nth i ps) parts zero with
    | some cells=>some (.agg cells)
    | none=>none
   | none=>none
  | some zero,some (.array _ e)=>match aA cx e with
   | some sz=>match eV cx F (fun i=>some (Nat.mul i sz,sz)) parts zero with
    | some cells=>some (.agg cells)
    | none=>none
   | none=>none
  | _,_=>none
def iS (cx:Cx) (x:AV) (t:TypeId) (ok:Bool):Option AV:=
 match aY cx t with
 | none=>none
 | some (.interface _)=>none
 | some _=>match x with
  | .iface u v=>cond (Nat.beq u t) (some (cond ok (.tuple [v,.bool true]) v))
   (cond ok (match zeroOf cx t with|some z=>some (.tuple [z,.bool false])|none=>none) none)
  | .b8=>cond ok (match zeroOf cx t with|some z=>some (.tuple [z,.bool false])|none=>none) none
  | _=>none
def args (F:Fr) (xs:Array Operand):List AV:=jH (eval F) xs.toList
def val? (v:Option AV) (S:AS) (n:Nat):AR:=match v with|some v=>.val v S|none=>.err n
def cG (v:Option (AV×AS)) (n:Nat):AR:=match v with|some (v,S)=>.val v S|none=>.err n
def u6 (c:Nat) (s:List Nat):Nat→Option Nat:=
 List.rec (motive:=fun _=>Nat→Option Nat) (fun _=>none) (fun x _ ih i=>cond (Nat.beq x c) (some i) (ih (Nat.succ i))) s
def cntB (c:Nat) (s:List Nat):Nat→Nat:=
 List.rec (motive:=fun _=>Nat→Nat) (fun n=>n) (fun x _ ih n=>cond (Nat.beq x c) (ih (Nat.succ n)) (ih n)) s
def preL (p:List Nat):List Nat→Bool:=
 List.rec (motive:=fun _=>List Nat→Bool) (fun _=>true) (fun x _ ih l=>List.casesOn (motive:=fun _=>Bool) l false fun y t=>cond (Nat.beq x y) (ih t) false) p
def idxS (p s:List Nat):Nat→Option Nat:=
 List.rec (motive:=fun _=>Nat→Option Nat) (fun i=>cond (preL p []) (some i) none) (fun x t ih i=>cond (preL p (x :: t)) (some i) (ih (Nat.succ i))) s
def rS (r:Option Nat):AV:=match r with|some n=>di n fun n=>.int .i64 (.ofNat n)|none=>.int .i64 (.negSucc 0)
def extV (x:Xf) (as:List AV):Option AV:=
 match x,as with
 | .ident,[v]=>some v
 | .xT,[.str a,.str b]=>some (cond (nq a b) (.int .i64 (.negSucc 0)) (cond (qw a b) (.int .i64 (.ofNat 0)) (.int .i64 (.ofNat 1))))
 | .rT,[.str s,.int .u8 (.ofNat c)]=>cond (Nat.blt c 256) (some (rS (u6 c s 0))) none
 | .Bp,[.str s,.str p]=>some (rS (idxS p s 0))
 | .BH,[.str s,.int .u8 (.ofNat c)]=>cond (Nat.blt c 256) (some (rS (some (cntB c s 0)))) none
 | _,_=>none
def apartV (S:AS) (as:List AV):Option AV:=
 match as with
 | [.slice id g _ _ _ _ _,.slice vz g' _ _ _ _ _]=>cond (Nat.beq id vz) none (match S.h.get id,S.h.get vz with
  | some (.row _ low top false _),some (.row _ low' sO false _)=>cond (Nat.ble low g&&Nat.ble g top&&(Nat.ble low' g'&&Nat.ble g' sO)) (some (.bool false)) none
  | _,_=>none)
 | _=>none
def extS (x:Xf) (S:AS) (as:List AV):Option AV:=match x with | .apart=>apartV S as|_=>extV x as
def noZeroV (e:TypeId) (S:AS) (as:List AV):Option (AV×AS):=
 match as with
 | [.int .i64 (.ofNat n)]=>cond (Nat.ble 1 n&&Nat.ble n 281474976710656) (some (di n fun n=>(.slice S.next 0 0 n n 1 none,⟨S.h.set S.next (.row (fZ n [.top]) 0 0 false e),Nat.succ S.next⟩))) none
 | _=>none
def extM (x:Xf) (S:AS) (as:List AV):Option (AV×AS):=match x with | .Bc e=>noZeroV e S as|_=>match extS x S as with|some v=>some (v,S)|none=>none
def mr (cx:Cx) (S:AS) (fv:AV) (as:List AV):AR:=
 match fv with
 | .func (.func f) first captured=>match cx.exts.get f with
  | some x=>cG (extM x S (fh first (fh as captured))) 101
  | none=>.enter f (fh first (fh as captured)) S
 | .obj .yld id=>.round id as S
 | _=>.err 100
def ja (cx:Cx) (e:TypeId) (sz:Nat):Bool:=
 match zeroOf cx e with
 | some z=>match cellsOf z with
  | some l=>Nat.beq (dv l) sz
  | none=>false
 | none=>false
def tT (c:AV) (r:Option (List Nat)):Option (List Nat):=
 match c,r with
 | .int .u8 (.ofNat n),some l=>cond (Nat.blt n 256) (some (n :: l)) none
 | _,_=>none
def tU (cs:List AV):Option (List Nat):=
 List.rec (motive:=fun _=>Option (List Nat)) (some []) (fun c _ ih=>tT c ih) cs
def tO {α:Type} (n:Nat):List α→List α:=
 Nat.rec (motive:=fun _=>List α→List α) (fun l=>List.casesOn (motive:=fun _=>List α) l [] fun _ t=>t)
  (fun _ ih l=>List.casesOn (motive:=fun _=>List α) l [] fun y t=>y :: ih t) n
def pE (cx:Cx) (S:AS) (t:TypeId) (x k:AV):Option (AV×AS):=
 match aY cx t with
 | some (.map kt _)=>match aY cx kt with
  | some d=>cond (plainKey d k) (match x with
   | .iF=>some (.undef,S)
   | .map id=>match S.h.get id with
    | some (.map es clock)=>match fE d k es 0 with
     | some (some (i,_))=>some (.undef,⟨S.h.set id (.map (tO i es) clock),S.next⟩)
     | some none=>some (.undef,⟨S.h.set id (.map es clock),S.next⟩)
     | none=>none
    | _=>none
   | _=>none) none
  | none=>none
 | _=>none
def clearV (cx:Cx) (S:AS) (t:TypeId) (x:AV):Option (AV×AS):=
 match aY cx t,x with
 | some (.slice _),.ar=>some (.undef,S)
 | some (.slice e),.slice id g off len ay sz _=>match len with
  | 0=>some (.undef,S)
  | _=>match aA cx e,zeroOf cx e with
   | some z,some zv=>match cellsOf zv with
    | some zero=>cond (Nat.beq z sz&&Nat.beq (dv zero) sz) (match wr S id g off ay (fZ len zero) with
     | some S'=>some (.undef,S')
     | none=>none) none
    | none=>none
   | _,_=>none
 | _,_=>none
def qN (frz:Bool) (low:Nat):Bool:=cond frz (Nat.beq low 0) true
def ustrV (cx:Cx) (S:AS) (t:TypeId) (p:AV) (n:Nat):Option (AV×AS):=
 match n with
 | 0=>match p with
  | .bd=>some (.str [],S)
  | .ptr ..=>some (.str [],S)
  | _=>none
 | _=>match aY cx t,p with
  | some (.pointer e),.ptr id g off ay=>match aY cx e,aA cx e,S.h.get id with
   | some (.int .u8),some 1,some (.row cells low top frz ty)=>cond (Nat.beq ty e&&Nat.ble n 4611686018427387904&&qN frz low) (match rd S id g off n ay with
    | some cs=>match tU cs with
     | some l=>some (.str l,⟨S.h.set id (.row cells low top true ty),S.next⟩)
     | none=>none
    | none=>none) none
   | _,_,_=>none
  | _,_=>none
def appZ (cx:Cx) (S:AS) (e:TypeId) (s x:AV):Option (AV×AS):=
 match aA cx e,bytesOf cx e,zeroOf cx e,s,x with
 | some (Nat.succ z),some bs,some zv,.slice id g off len ay sz (some c),.int _ (.ofNat n)=>match cellsOf zv,taken S (Nat.succ z) (.slice id g off len ay sz (some c)) with
  | some zero,some (_,old)=>cond (Nat.beq (dv zero) (Nat.succ z)&&Nat.blt c (Nat.add len n)&&fits (Nat.add len n) bs) (some (grown S e (Nat.add len n) (Nat.succ z) (fh old (fZ n zero)))) none
  | _,_=>none
 | _,_,_,_,_=>none
def aZ (cx:Cx) (S:AS) (b:Builtin) (ts:List TypeId) (as:List AV):AR:=
 match b,ts,as with
 | .len,t :: _,x :: _=>match lenV cx S t x with|some n=>.val (di n fun n=>.int .i64 (.ofNat n)) S|none=>.err 1
 | .cap,t :: _,x :: _=>match aY cx t,x with
  | some (.slice _),.ar=>.val (.int .i64 0) S
  | some (.slice _),.slice _ _ _ _ _ _ (some c)=>.val (.int .i64 (.ofNat c)) S
  | some (.array n _),_=>.val (.int .i64 (.ofNat n)) S
  | _,_=>.err 2
 | .append,t :: u :: _,[s,x]=>match aY cx t,aY cx u with
  | some (.slice e),some (.int _)=>cG (appZ cx S e s x) 3
  | some (.slice e),some _=>match aA cx e,bytesOf cx e with
   | some (Nat.succ z),some bs=>cond (ja cx e (Nat.succ z)) (cG (cQ S e (Nat.succ z) bs s x) 4) (.err 13)
   | _,_=>.err 5
  | _,_=>.err 6
 | .copy,t :: _,[d,x]=>match aY cx t with
  | some (.slice e)=>match aA cx e with
   | some (Nat.succ z)=>cG (copyV S (Nat.succ z) d x) 7
   | _=>.err 8
  | _=>.err 9
 | .unsafeSliceData,_,[.ar]=>.val .bd S
 | .unsafeSliceData,_,[.slice id g off len ay _ _]=>cond (Nat.blt 0 len) (.val (.ptr id g off ay) S) (.err 14)
 | .unsafeString,t :: _,[p,.int _ (.ofNat n)]=>cG (ustrV cx S t p n) 15
 | .delete,t :: _,[x,k]=>cG (pE cx S t x k) 16
 | .clear,t :: _,[x]=>cG (clearV cx S t x) 17
 | .min,_,.int k n :: l=>val? (foldI (fun n m=>!ltI m n) k n l) S 10
 | .max,_,.int k n :: l=>val? (foldI (fun n m=>!ltI n m) k n l) S 11
 | _,_,_=>.err 12
def j6 (cx:Cx) (S:AS) (t:TypeId) (x k:AV) (ok:Bool):Option AV:=
 match aY cx t with
 | some (.map kt et)=>match aY cx kt,zeroOf cx et with
  | some d,some z=>cond (plainKey d k) (match x with
   | .iF=>some (cond ok (.tuple [z,.bool false]) z)
   | .map id=>match S.h.get id with
    | some (.map es _)=>match fE d k es 0 with
     | some (some (_,e))=>some (cond ok (.tuple [e.val,.bool true]) e.val)
     | some none=>some (cond ok (.tuple [z,.bool false]) z)
     | none=>none
    | _=>none
   | _=>none) none
  | _,_=>none
 | _=>none
def jV (cx:Cx) (S:AS) (t:TypeId) (x k v:AV):Option (AV×AS):=
 match aY cx t,x with
 | some (.map kt _),.map id=>match aY cx kt with
  | some d=>cond (plainKey d k) (match S.h.get id with
   | some (.map es clock)=>match fE d k es 0 with
    | some (some (i,e))=>some (.undef,⟨S.h.set id (.map (mL i es ⟨k,v,e.born⟩) clock),S.next⟩)
    | some none=>some (.undef,⟨S.h.set id (.map (fh es [⟨k,v,clock⟩]) (Nat.succ clock)),S.next⟩)
    | none=>none
   | _=>none) none
  | none=>none
 | _,_=>none
def oF (b:Nat) (es:List bj):Nat→Option (Nat×bj):=
 List.rec (motive:=fun _=>Nat→Option (Nat×bj)) (fun _=>none) (fun e _ ih i=>cond (Nat.beq e.born b) (some (i,e)) (ih (Nat.succ i))) es
def vF (cx:Cx) (S:AS) (t:TypeId) (x k:AV):Option (AV×AS):=
 match aY cx t,x with
 | some (.map kt et),.map id=>match aY cx kt,zeroOf cx et with
  | some d,some z=>cond (plainKey d k) (match S.h.get id with
   | some (.map es clock)=>match fE d k es 0 with
    | some (some (i,e))=>some (.tuple [e.val,.int .i64 (.ofNat e.born)],⟨S.h.set id (.map (mL i es ⟨k,e.val,e.born⟩) clock),S.next⟩)
    | some none=>some (.tuple [z,.int .i64 (.ofNat clock)],⟨S.h.set id (.map (fh es [⟨k,z,clock⟩]) (Nat.succ clock)),S.next⟩)
    | none=>none
   | _=>none) none
  | _,_=>none
 | _,_=>none
def vE (S:AS) (x k v:AV):Option (AV×AS):=
 match x,k with
 | .map id,.int _ (.ofNat b)=>match S.h.get id with
  | some (.map es clock)=>match oF b es 0 with
   | some (i,e)=>some (.undef,⟨S.h.set id (.map (mL i es ⟨e.key,v,e.born⟩) clock),S.next⟩)
   | none=>none
  | _=>none
 | _,_=>none
def qK (cx:Cx) (S:AS) (t:TypeId) (x:AV):Option (AV×AS):=
 match aY cx t,x with
 | some .string,.str s=>some (.ptr S.next 0 0 0,⟨S.h.set S.next (.dO (.um s 0)),Nat.succ S.next⟩)
 | some (.map _ _),.iF=>some (.ptr S.next 0 0 0,⟨S.h.set S.next (.dO (.iter none 0 [] 0)),Nat.succ S.next⟩)
 | some (.map _ _),.map id=>match S.h.get id with
  | some (.map _ clock)=>some (.ptr S.next 0 0 0,⟨S.h.set S.next (.dO (.iter (some id) clock [] clock)),Nat.succ S.next⟩)
  | _=>none
 | _,_=>none
def ow {α:Type} (l:List α):Bool:=match l with|[]=>true|_=>false
def vW (S:AS) (id m since:Nat) (seen:List Nat) (clock:Nat) (e:bj):AV×AS:=
 (.tuple [.bool true,e.key,e.val],⟨S.h.set id (.dO (.iter (some m) since (e.born :: seen) clock)),S.next⟩)
def zL (S:AS) (id m since:Nat) (seen:List Nat) (last:Nat) (es:List bj) (clock:Nat):List (AV×AS):=
 cond (!ow seen&&(!ow es&&eY (fun e=>Nat.ble last e.born) es)) [] (
  let left:=fN (fun e=>!mV e.born seen) es
  let old:=fN (fun e=>Nat.blt e.born since) left
  let new:=fN (fun e=>!Nat.blt e.born since) left
  let steps:=jH (vW S id m since seen clock) (fh old new)
  cond (ow old) ((.tuple [.bool false],S) :: steps) steps)
def lU (S:AS) (x:AV) (str:Bool):AR:=
 match x with
 | .ptr id 0 0 _=>match S.h.get id with
  | some (.dO (.um s pos))=>cond str (match nth pos s with
   | some b=>cond (Nat.blt b 128) (.val (.tuple [.bool true,.int .i64 (.ofNat pos),.int .i32 (.ofNat b)]) ⟨S.h.set id (.dO (.um s (Nat.succ pos))),S.next⟩) (.err 91)
   | none=>.val (.tuple [.bool false]) S) (.err 92)
  | some (.dO (.iter none _ _ _))=>cond str (.err 93) (.val (.tuple [.bool false]) S)
  | some (.dO (.iter (some m) since seen last))=>cond str (.err 94) (match S.h.get m with
   | some (.map es clock)=>.many (zL S id m since seen last es clock)
   | _=>.err 95)
  | _=>.err 96
 | _=>.err 97
def qT (S:AS) (x:AV):Option AV:=
 match x with
 | .ptr id 0 0 _=>match S.h.get id with
  | some (.dO (.iter (some m) _ (b :: _) last))=>match S.h.get m with
   | some (.map es clock)=>cond (Nat.beq clock last) (match oF b es 0 with
    | some (_,e)=>some (.tuple [e.key,e.val])
    | none=>none) none
   | _=>none
  | _=>none
 | _=>none
def oA (F:Fr) (r:Option Operand):Bool:=match r with|none=>true|some x=>yr (dS (eval F x))
def aC (cx:Cx) (F:Fr) (id:Nat) (op:Op):Option (AV×bE):=
 match op with
 | .alloc e=>match zeroOf cx e with
  | some z=>match cellsOf z with
   | some cs=>some (.ptr id 0 0 (dv cs),.row cs 0 0 false e)
   | none=>none
  | none=>none
 | .box t x=>match cellsOf (eval F x) with
  | some cs=>some (.ptr id 0 0 (dv cs),.row cs 0 0 false t)
  | none=>none
 | .buildSlice t n parts=>match aY cx t with
  | some (.slice e)=>match aA cx e,zeroOf cx e with
   | some (Nat.succ z),some zv=>match cellsOf zv with
    | some zero=>cond (Nat.beq (dv zero) (Nat.succ z)&&Nat.ble (Nat.mul n (Nat.succ z)) 16777216)
     (match eV cx F (fun i=>some (Nat.mul i (Nat.succ z),Nat.succ z)) parts.toList (fZ n zero) with
     | some cells=>some (.slice id 0 0 n (Nat.mul n (Nat.succ z)) (Nat.succ z) (some n),.row cells 0 0 false e)
     | none=>none) none
    | none=>none
   | _,_=>none
  | _=>none
 | .makeMap t r=>match aY cx t with
  | some (.map _ _)=>cond (oA F r) (some (.map id,.map [] 0)) none
  | _=>none
 | .makeSlice t l c=>match aY cx t,dS (eval F l),dS (eval F c) with
  | some (.slice e),some l,some c=>match aA cx e,bytesOf cx e,zeroOf cx e with
   | some (Nat.succ z),some bs,some zv=>match cellsOf zv with
    | some zero=>cond (Nat.beq (dv zero) (Nat.succ z)&&Nat.ble l c&&fits c bs)
     (some (.slice id 0 0 l (Nat.mul c (Nat.succ z)) (Nat.succ z) (some c),.row (fZ c zero) 0 0 false e)) none
    | none=>none
   | _,_,_=>none
  | _,_,_=>none
 | _=>none
def eK (r:Option (AV×bE)) (S:AS) (n:Nat):AR:=
 match r with
 | some (v,o)=>.val v ⟨S.h.set S.next o,Nat.succ S.next⟩
 | none=>.err n
def bo (cx:Cx) (F:Fr) (S:AS) (o:Oper):AR:=
 match o.op with
 | .move x=>.val (eval F x) S
 | .assign x=>.val (eval F x) S
 | .pick c a b=>match eval F c with
  | .bool true=>.val (eval F a) S
  | .bool false=>.val (eval F b) S
  | _=>.err 20
 | .alloc e=>eK (aC cx F S.next (.alloc e)) S 21
 | .box t x=>eK (aC cx F S.next (.box t x)) S 23
 | .build t parts=>val? (lD cx F t parts.toList) S 24
 | .buildSlice t n parts=>eK (aC cx F S.next (.buildSlice t n parts)) S 25
 | .load t x=>match eval F x with
  | .ptr id g off ay=>match aD cx t with
   | some true=>match aA cx t with
    | some n=>match rd S id g off n ay with
     | some cs=>.val (.agg cs) S
     | none=>.err 30
    | none=>.err 31
   | some false=>match rd S id g off 1 ay with
    | some [v]=>.val v S
    | _=>.err 32
   | none=>.err 33
  | .mY g off=>match cx.eU.get g with
   | some cs=>val? (globV cx t cs off) S 133
   | none=>.err 134
  | _=>.err 34
 | .store t x y=>match eval F x,cellsOf (eval F y),aA cx t with
  | .ptr id g off ay,some cs,some n=>cond (Nat.beq (dv cs) n) (match wr S id g off ay cs with
   | some S'=>.val .undef S'
   | none=>.err 35) (.err 36)
  | _,_,_=>.err 37
 | .nilCheck x=>match eval F x with
  | .ptr i g o l=>.val (.ptr i g o l) S
  | .mY g o=>.val (.mY g o) S
  | .func (.func f) a b=>.val (.func (.func f) a b) S
  | .slice a b c d e f g=>.val (.slice a b c d e f g) S
  | .map i=>.val (.map i) S
  | .obj k i=>.val (.obj k i) S
  | _=>.err 38
 | .binOp op t x y _=>val? (bt cx op t ((x matches .const _)||(y matches .const _)) (eval F x) (eval F y)) S 40
 | .unOp op _ x=>val? (unV op (eval F x)) S 41
 | .convert src dst x=>match aY cx src,aY cx dst,eval F x with
  | some _,some (.int k),.int _ n=>.val (mkI k n) S
  | some _,some .string,.str s=>.val (.str s) S
  | some _,some (.slice e),.str s=>match aY cx e with
   | some (.int .u8)=>.val (.slice S.next 0 0 s.length s.length 1 none) ⟨S.h.set S.next (.row (jH (fun n=>AV.int .u8 (.ofNat n)) s) 0 0 true e),Nat.succ S.next⟩
   | _=>.err 42
  | some (.slice e),some .string,x=>match aY cx e,x with
   | some (.int .u8),.ar=>.val (.str []) S
   | some (.int .u8),.slice id g off len ay 1 _=>match len with
    | 0=>.val (.str []) S
    | _=>match rd S id g off len ay with
     | some cs=>match tU cs with
      | some l=>.val (.str l) S
      | none=>.err 43
     | none=>.err 44
   | _,_=>.err 45
  | some (.slice _),some (.slice e),.slice id g off len ay sz cap=>cond (Nat.beq src dst&&Nat.blt 0 len) (match aY cx e,S.h.get id with
   | some (.int .u8),some (.row cells low top frz ty)=>cond (Nat.ble low g&&Nat.ble g top&&qN frz low) (.val (.slice id g off len ay sz cap) ⟨S.h.set id (.row cells low top true ty),S.next⟩) (.err 147)
   | _,_=>.err 145) (.err 146)
  | some (.pointer e),some .unsafePointer,.ptr id g off ay=>match aA cx e,S.h.get id with
   | some (Nat.succ _),some (.row _ low top _ _)=>cond (Nat.blt off ay&&Nat.ble low g&&Nat.ble g top) (.val (.ptr id g off ay) S) (.err 141)
   | _,_=>.err 142
  | some .unsafePointer,some (.pointer u),.ptr id g off ay=>match g,off,aA cx u,S.h.get id with
   | 0,0,some (Nat.succ z),some (.row _ low _ _ ty)=>cond (Nat.beq ty u&&Nat.ble (Nat.succ z) ay&&Nat.beq low 0) (.val (.ptr id 0 0 ay) S) (.err 143)
   | _,_,_,_=>.err 144
  | _,_,_=>.err 46
 | .makeInterface t x=>match aY cx t with
  | some (.interface _)=>.err 47
  | some _=>.val (.iface t (eval F x)) S
  | none=>.err 48
 | .makeFunc fn first captured=>.val (.func fn (args F first) (args F captured)) S
 | .makeMap t r=>eK (aC cx F S.next (.makeMap t r)) S 48
 | .makeSlice t l c=>eK (aC cx F S.next (.makeSlice t l c)) S 49
 | .slice t x lo hi mx=>val? (iJ cx F t (eval F x) lo hi mx) S 53
 | .fieldAddr s x f=>match aY cx s,eval F x with
  | some (.struct fs),.ptr id g off ay=>match nth f fs.toList with
   | some fd=>match aA cx fd.type with
    | some (Nat.succ _)=>.val (di (Nat.add off fd.offset) fun o=>.ptr id g o ay) S
    | _=>.err 54
   | none=>.err 55
  | _,_=>.err 56
 | .field t x f=>match aY cx t,eval F x with
  | some (.struct fs),.agg cs=>match nth f fs.toList with
   | some fd=>val? (partOf cx fd.type cs fd.offset) S 57
   | none=>.err 58
  | _,_=>.err 59
 | .indexAddr t x ix=>match aY cx t,eval F x,dS (eval F ix) with
  | some (.slice e),.slice id g off len ay sz _,some i=>match aA cx e with
   | some z=>cond (Nat.beq z sz&&Nat.blt i len) (.val (di (Nat.add off (Nat.mul i sz)) fun o=>.ptr id g o ay) S) (.err 60)
   | none=>.err 61
  | some (.array n e),.ptr id g off ay,some i=>match aA cx e with
   | some z=>cond (Nat.blt i n) (.val (di (Nat.add off (Nat.mul i z)) fun o=>.ptr id g o ay) S) (.err 62)
   | none=>.err 63
  | some (.array n e),.mY g off,some i=>match aA cx e with
   | some z=>cond (Nat.blt i n) (.val (di (Nat.add off (Nat.mul i z)) fun o=>.mY g o) S) (.err 162)
   | none=>.err 163
  | _,_,_=>.err 64
 | .index t x ix=>match aY cx t,eval F x,dS (eval F ix) with
  | some .string,.str s,some i=>match nth i s with
   | some n=>.val (.int .u8 (.ofNat n)) S
   | none=>.err 65
  | some (.array n e),.agg cs,some i=>match aA cx e with
   | some z=>cond (Nat.blt i n) (val? (partOf cx e cs (Nat.mul i z)) S 66) (.err 67)
   | none=>.err 68
  | _,_,_=>.err 70
 | .lookup t x ix ok=>val? (j6 cx S t (eval F x) (eval F ix) ok) S 71
 | .mapUpdate t m k v=>cG (jV cx S t (eval F m) (eval F k) (eval F v)) 78
 | .insert t m k v=>cG (jV cx S t (eval F m) (eval F k) (eval F v)) 79
 | .mapEntry t m k=>cG (vF cx S t (eval F m) (eval F k)) 86
 | .entryStore _ m k v=>cG (vE S (eval F m) (eval F k) (eval F v)) 87
 | .range t x=>cG (qK cx S t (eval F x)) 88
 | .next x str=>lU S (eval F x) str
 | .entry x=>val? (qT S (eval F x)) S 89
 | .panic x=>match eval F x with
  | .iface t v=>.dN (.iface t v) S
  | _=>.err 98
 | .typeAssert x _ t ok=>val? (iS cx (eval F x) t ok) S 85
 | .extract x i=>match eval F x with
  | .tuple vs=>val? (nth i vs) S 82
  | _=>.err 83
 | .call c=>match c.callee with
  | .value f=>mr cx S (eval F f) (args F c.args)
  | .builtin b=>aZ cx S b c.argTypes.toList (args F c.args)
  | .invoke _ _=>.err 84
 | _=>.err 99
end Go.Am
end
