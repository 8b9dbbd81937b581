/-
  The abstract machine: regions, code, calls.
-/
import Derived.Test.YthklfandhmkpiaaGreatDoorAmOps
open Nat renaming beq->zza,blt->zzb
set_option linter.unusedVariables false
set_option linter.unusedSimpArgs false
noncomputable section
namespace Go.Am
open Go
def aC.app{α:Type}(a b:aC α):aC α:=
 match a with
 | .err n=>.err n
 | .ok x xs=>match b with
  | .err n=>.err n
  | .ok y ys=>.ok x (gR xs (y::ys))
def aC.bind{α β:Type}(r:aC α)(f:α->aC β):aC β:=
 match r with
 | .err n=>.err n
 | .ok x xs=>match xs with
  |[]=>f x
  |y::ys=>aC.app (f x) (List.rec (motive:=fun _=>α->aC β) (fun y=>f y) (fun z _ ih y=>aC.app (f y) (ih z)) ys y)
def aC.tI{α:Type}(r:aC α):aC α:=
 match r with
 | .ok x []=>.ok x []
 | .ok _ _=>.err 1005
 | .err n=>.err n
def wanted(ops:List Oper)(F:Fr)(o:Oper):Option Bool:=
 match o.guard with
 |none=>some true
 |some (j,want)=>match nth j ops with
  |some p=>match p.dst with
   |some d=>match F.t.get d with
    |some (.bool b)=>some (cond want b (!b))
    |some .top=>none
    |_=>some false
   |none=>some false
  |none=>some false
def putT(d:Tmp)(v:AV)(F:Fr):Fr:=@Fr.rec (fun _=>Fr) (fun t n ds=>@Bool.rec (fun _=>Fr) ⟨t,n,ds⟩ ⟨t.set d v,n,ds⟩ (Nat.ble (Nat.succ d) n)) F
def bw(F:Fr)(dst:Option Tmp)(v:AV):Fr:=@Option.rec Tmp (fun _=>AV->Fr->Fr) (fun _ F=>F) putT dst v F
theorem jP(F:Fr)(d:Tmp)(v:AV):bw F (some d) v=cond (zzb d F.n) ⟨F.t.set d v,F.n,F.ds⟩ F:=by
 obtain⟨t,n,ds⟩:=F;show @Bool.rec (fun _=>Fr) ⟨t,n,ds⟩ ⟨t.set d v,n,ds⟩ (zzb d n)=cond (zzb d n) ⟨t.set d v,n,ds⟩ ⟨t,n,ds⟩;cases zzb d n<;>rfl
inductive Tgt where
 |fn (f:FuncId)
 |round (id:Nat)
abbrev bO:=Tgt->List AV->AS->aC (AV×AS)
def mW{β:Type}(v:AV)(p:AV->β)(k:β):β:=match v with | .eQ x=>p x|_=>k
def rU(r:AV×AS):aC (Bool×AV×AS):=mW r.1 (fun x=>.ok (true,x,r.2) []) (.ok (false,r.1,r.2) [])
def valR(r:AV×AS):Bool×AV×AS:=(false,r.1,r.2)
def manyR(l:List (AV×AS)):aC (Bool×AV×AS):=match l with|[]=>.err 1008|x::xs=>.ok (valR x) (xs.map valR)
def one(cx:Cx)(K:bO)(ops:List Oper)(o:Oper)(F:Fr)(S:AS):aC (Bool×AV×AS):=
 match wanted ops F o with
 |some true=>match bE cx F S o with
  | .val v S=>.ok (false,v,S) []
  | .enter f as S=>aC.bind (K (.fn f) as S) rU
  | .round id as S=>aC.bind (K (.round id) as S) rU
  | .eQ v S=>.ok (true,v,S) []
  | .many l=>manyR l
  | .err n=>.err n
 |some false=>.ok (false,.undef,S) []
 |none=>.err 1000
def lE(F:Fr)(c:Call):Option wJ:=
 match c.callee with
 | .value f=>match eval F f with
  | .func (.func g) first captured=>some (.call g (gR first (args F c.args)) captured)
  |_=>none
 |_=>none
def dW(o:Oper):Option Call:=match o.op with | .defer c=>some c|_=>none
def cP(cx:Cx)(K:bO)(ops:List Oper)(l:List Oper):Fr->AS->aC (Option AV×Fr×AS):=
 List.rec (motive:=fun _=>Fr->AS->aC (Option AV×Fr×AS)) (fun F S=>.ok (none,F,S) [])
  (fun o _ ih F S=>match dW o with
   |none=>aC.bind (one cx K ops o F S) fun r=>cond r.1 (.ok (some r.2.1,F,r.2.2) []) (ih (bw F o.dst r.2.1) r.2.2)
   |some c=>match wanted ops F o with
    |some true=>match lE F c with
     |some d=>ih (bw ⟨F.t,F.n,d::F.ds⟩ o.dst .undef) S
     |none=>.err 1009
    |some false=>ih (bw F o.dst .undef) S
    |none=>.err 1010) l
inductive Cls where
 |pure|read|vU|fresh
def fN(cx:Cx)(o:Oper):Cls:=
 match o.op with
 | .move _=>.pure | .assign _=>.pure | .pick ..=>.pure | .build ..=>.pure | .nilCheck _=>.pure | .unOp ..=>.pure
 | .binOp ..=>.pure | .makeInterface ..=>.pure | .makeFunc ..=>.pure | .slice ..=>.pure | .fieldAddr ..=>.pure | .field ..=>.pure
 | .indexAddr ..=>.pure | .index ..=>.pure | .extract ..=>.pure | .typeAssert ..=>.pure
 | .load _ (.global _)=>.pure
 | .load ..=>.read | .lookup ..=>.read
 | .alloc _=>.fresh | .box ..=>.fresh | .buildSlice ..=>.fresh | .makeMap ..=>.fresh | .makeSlice ..=>.fresh
 | .convert _ dst _=>match bJ cx dst with
  |some (.int _)=>.pure
  |some .string=>.read
  |_=>.vU
 | .call {callee:=.builtin .len,.. }=>.read
 | .call {callee:=.builtin .cap,.. }=>.pure
 | .call {callee:=.builtin .min,.. }=>.pure
 | .call {callee:=.builtin .max,.. }=>.pure
 |_=>.vU
def bR:Cls->Bool | .vU=>true|_=>false
def bU:Cls->Bool | .fresh=>true|_=>false
def eC:Cls->Bool | .read=>true|_=>false
def befL(ops:List Oper):List Nat:=
 (List.rec (motive:=fun _=>List Nat->List Nat) (fun acc=>acc)
  (fun o _ ih acc=>ih (gR acc [List.foldl (fun s (e:Edge)=>match e.ground with
   | .textOnly _=>s
   | .gcOnly _=>s
   |_=>dS (Nat.lor s (Nat.lor (Nat.pow 2 e.on) (match nth e.on acc with|some m=>m|none=>0))) fun n=>n) 0 o.after.toList])) ops) []
def bit(m i:Nat):Bool:=zza (Nat.mod (Nat.div m (Nat.pow 2 i)) 2) 1
structure Row where
 o:Oper
 dy:Nat
 cls:Cls
 i:Nat
def dw(cx:Cx)(ops:List Oper):List Row:=
 (List.rec (motive:=fun _=>List Nat->Nat->List Row) (fun _ _=>[])
  (fun o _ ih bs i=>List.casesOn (motive:=fun _=>List Row) bs [] fun b bs=>⟨o,b,fN cx o,i⟩::ih bs (Nat.succ i)) ops) (befL ops) 0
def ordered(a b:Row):Bool:=zza a.i b.i||bit a.dy b.i||bit b.dy a.i
def settle(l:List Row):List Row:=
 let acts:=gr (fun r=>bR r.cls||bU r.cls) l
 jt (fun r=>cond (bU r.cls&&gS (ordered r) acts) {r with cls:=.vU} r) l
def qV(o:Oper):List Tmp:=o.op.operands.toList.filterMap fun | .tmp t=>some t|_=>none
def gh(ops:List Oper)(o:Oper):List Tmp:=
 match o.guard with
 |none=>qV o
 |some (j,_)=>match nth j ops with
  |some p=>match p.dst with|some d=>d::qV o|none=>qV o
  |none=>qV o
def gp(ops:List Oper)(rows:List Row):Bool:=
 let DY:=gr (fun r=>bR r.cls) rows
 gS (fun r=>zzb r.dy (Nat.pow 2 r.i)) rows &&
 gS (fun a=>gS (ordered a) DY) DY &&
 gS (fun w=>match w.o.dst with
  |none=>true
  |some d=>gS (fun r=>cond (wX d (gh ops r.o)) (bit r.dy w.i||bit w.dy r.i && !eC r.cls) true&&(zza r.i w.i || !(match r.o.dst with|some e=>zza d e|none=>false))) rows) rows
def eO(n:Nat):AV->AV->Bool:=
 Nat.rec (motive:=fun _=>AV->AV->Bool) (fun _ _=>false) (fun _ ih x y=>
  let sameL:List AV->List AV->Bool:=fun a=>List.rec (motive:=fun _=>List AV->Bool) (fun b=>List.casesOn (motive:=fun _=>Bool) b true fun _ _=>false)
   (fun x _ w9 b=>List.casesOn (motive:=fun _=>Bool) b false fun y t=>cond (ih x y) (w9 t) false) a
  match x,y with
  | .bool a,.bool b=>cond a b (!b)
  | .int j a,.int k b=>iO j k&&pP a b
  | .str a,.str b=>ph a b
  | .cT,.cT=>true
  | .ptr a b c d,.ptr e f g h=>zza a e&&zza b f&&zza c g&&zza d h
  | .ar,.ar=>true
  | .slice a b c d e f none,.slice a' b' c' d' e' f' none=>zza a a'&&zza b b'&&zza c c'&&zza d d'&&zza e e'&&zza f f'
  | .slice a b c d e f (some g),.slice a' b' c' d' e' f' (some g')=>zza a a'&&zza b b'&&zza c c'&&zza d d'&&zza e e'&&zza f f'&&zza g g'
  | .jb,.jb=>true
  | .map a,.map b=>zza a b
  | .func (.func f) a b,.func (.func g) c d=>zza f g&&sameL a c&&sameL b d
  | .obj .yld a,.obj .yld b=>zza a b
  | .obj .chan a,.obj .chan b=>zza a b
  | .obj .sym a,.obj .sym b=>zza a b
  | .kI,.kI=>true
  | .bS,.bS=>true
  | .iface t v,.iface u w=>zza t u&&ih v w
  | .agg a,.agg b=>sameL a b
  | .tuple a,.tuple b=>sameL a b
  |_,_=>false) n
def fa(cx:Cx)(ops:List Oper)(F:Fr)(S:AS)(o:Oper):Option AV:=
 match wanted ops F o with
 |some true=>match bE cx F S o with
  | .val v _=>some v
  |_=>none
 |some false=>some .undef
 |none=>none
structure dD where
 i:Nat
 id:Nat
 obj:dp
def bB(p:dD->Bool)(ps:List dD)(S:AS):AS:=
 List.rec (motive:=fun _=>AS->AS) (fun S=>S) (fun x _ ih S=>ih (cond (p x) ⟨S.h.set x.id x.obj,S.nx⟩ S)) ps S
def bz(cx:Cx)(K:bO)(ops:List Oper)(l:List Row):Fr->AS->List dD->List AS->Nat->aC (Option (Nat×AV×AS)×Fr×AS×List AS):=
 List.rec (motive:=fun _=>Fr->AS->List dD->List AS->Nat->aC (Option (Nat×AV×AS)×Fr×AS×List AS))
  (fun F S ps aL _=>.ok (none,F,bB (fun _=>true) ps S,S::aL) [])
  (fun r l ih F S ps aL id=>
   match r.cls with
   | .fresh=>match wanted ops F r.o with
    |some true=>match aO cx F id r.o.op with
     |some (v,x)=>ih (bw F r.o.dst v) S (⟨r.i,id,x⟩::ps) aL (Nat.succ id)
     |none=>.err 1001
    |some false=>ih (bw F r.o.dst .undef) S ps aL id
    |none=>.err 1002
   | .vU=>
    let S':=bB (fun p=>bit r.dy p.i) ps S
    let ps':=gr (fun p=>!bit r.dy p.i) ps
    aC.bind (aC.tI (one cx K ops r.o F S')) fun q=>cond q.1 (cond (gS (fun q=>bit q.dy r.i) l) (.ok (some (r.i,q.2.1,q.2.2),F,S,S::aL) []) (.err 1007)) (ih (bw F r.o.dst q.2.1) q.2.2 ps' (S::aL) id)
   |_=>match fa cx ops F S r.o with
    |some v=>ih (bw F r.o.dst v) S ps aL id
    |none=>.err 1006) l
def eD{α:Type}(p:α->Bool)(l:List α):Nat:=List.rec (motive:=fun _=>Nat) 0 (fun x _ ih=>cond (p x) (Nat.succ ih) ih) l
def hX(cx:Cx)(ops:List Oper)(rows:List Row)(F:Fr)(aL:List AS)(r:Row):Bool:=
 let DY:=gr (fun e=>bR e.cls) rows
 let lo:=eD (fun e=>bit r.dy e.i) DY
 let hi:=eD (fun e=>!bit e.dy r.i) DY
 let may:=takeN (Nat.succ (Nat.sub hi lo)) (kZ lo aL)
 match may with
 |[_]=>true
 |_=>match r.o.dst with
  |some d=>cond (zzb d F.n) (match F.t.get d with
   |some v=>gS (fun S=>match fa cx ops F S r.o with
    |some u=>eO 8 v u
    |none=>false) may
   |none=>false) false
  |none=>false
def rT{α:Type}(l:List α):List α:=List.rec (motive:=fun _=>List α->List α) (fun a=>a) (fun x _ ih a=>ih (x::a)) l []
def Ca(rows:List Row)(F:Fr):Fr:=List.rec (motive:=fun _=>Fr) F (fun r _ ih=>bw ih r.o.dst .top) rows
def lj(cx:Cx)(ops:List Oper)(rows:List Row)(F:Fr)(aL:List AS):Bool:=gS (fun q=>cond (eC q.cls) (hX cx ops rows F aL q) true) rows
def kY(cx:Cx)(ops:List Oper)(rows:List Row)(r:Option (Nat×AV×AS)×Fr×AS×List AS):aC (Option AV×Fr×AS):=
 match r.1 with
 |none=>cond (lj cx ops rows r.2.1 (rT r.2.2.2)) (.ok (none,r.2.1,r.2.2.1) []) (.err 1003)
 |some (i,v,S)=>cond (lj cx ops (takeN i rows) r.2.1 (rT r.2.2.2)) (.ok (some v,Ca rows r.2.1,S) []) (.err 1003)
def eg(cx:Cx)(K:bO)(ops:List Oper)(F:Fr)(S:AS):aC (Option AV×Fr×AS):=
 let rows:=settle (dw cx ops)
 cond (gp ops rows)
  (let k:=eD (fun r=>bU r.cls) rows
   aC.bind (bz cx K ops rows F ⟨S.h,Nat.add S.nx k⟩ [] [] S.nx) (kY cx ops rows))
  (.err 1004)
inductive Ex where
 |normal|exit (id:Nat)|ret|goto (l:Nat)|eQ (v:AV)
structure Out where
 ex:Ex
 F:Fr
 S:AS
def ou(as:List AV)(n:Nat):Fr:=⟨T.ofL as 0 .leaf,Nat.add (dN as) (Nat.sub n (dN as)),[]⟩
def nD(cx:Cx)(S:AS)(t:TypeId)(x:AV):Option AV:=
 match x with
 | .ptr id g off aM=>match aX cx t with
  |some true=>match aH cx t with
   |some n=>match rd S id g off n aM with
    |some cs=>some (.agg cs)
    |none=>none
   |none=>none
  |some false=>match rd S id g off 1 aM with
   |some [v]=>some v
   |_=>none
  |none=>none
 |_=>none
def mR(cx:Cx)(F:Fr)(S:AS)(r:ResultVar)(x:Option (List AV)):Option (List AV):=
 match x with
 |some vs=>match r with
  | .tmp t=>some (eval F (.tmp t)::vs)
  | .cell t ty=>match nD cx S ty (eval F (.tmp t))with
   |some v=>some (v::vs)
   |none=>none
 |none=>none
def nI(cx:Cx)(F:Fr)(S:AS)(l:List ResultVar):Option (List AV):=List.rec (motive:=fun _=>Option (List AV)) (some []) (fun r _ ih=>mR cx F S r ih) l
def di(cx:Cx)(fn:Func)(F:Fr)(S:AS):Option AV:=
 match nI cx F S fn.results.toList with
 |some [v]=>some v
 |some vs=>some (.tuple vs)
 |none=>none
def CO(l:List Oper):Bool:=l.all fun o=>match o.op with | .defer _=>false|_=>true
def cW(c:Code):Bool:=
 Code.rec (motive:=fun _=>Bool) true (fun _ ops _=>CO ops.toList) (fun _ _ a b=>cond a b false) (fun _ _ _ a b=>cond a b false) (fun _ _ b=>b) (fun _ b=>b)
  (fun _ _ _ _ _ _=>false) (fun _=>true) (fun _ b=>b) (fun _=>true) (fun _=>true) true (fun _=>true) c
def tJ(S:AS)(id:Nat)(o:AOth):AS:=⟨S.h.set id (.nR o),S.nx⟩
def putL(F:Fr)(ps:List Tmp):List AV->Option Fr:=
 List.rec (motive:=fun _=>Fr->List AV->Option Fr) (fun F as=>List.casesOn (motive:=fun _=>Option Fr) as (some F) fun _ _=>none)
  (fun p _ ih F as=>List.casesOn (motive:=fun _=>Option Fr) as none fun a as=>ih (bw F (some p) a) as) ps F
def jumpOf(e:Ex):Option (Option Code):=
 match e with
 | .normal=>some none
 | .ret=>some (some .ret)
 | .exit id=>some (some (.exit id))
 | .goto l=>some (some (.goto l))
 | .eQ _=>none
def uV(id:Nat)(e:Ex)(S:AS):aC (AV×AS):=
 match S.h.get id with
 |some (.nR (.loop _ _ F ps a b))=>match jumpOf e with
  |some none=>.ok (.bool true,tJ S id (.loop .ready none F ps a b)) []
  |some (some j)=>.ok (.bool false,tJ S id (.loop .done (some j) F ps a b)) []
  |none=>.err 2100
 |_=>.err 2101
def rS(ih:Code->Fr->AS->aC Out)(id:Nat)(as:List AV)(S:AS):aC (AV×AS):=
 match S.h.get id with
 |some (.nR (.loop .ready _ F ps a b))=>match putL ⟨F.t,F.n,[]⟩ ps.toList as with
  |some F1=>aC.bind (ih a F1 S) fun o=>match o.ex with
   | .normal=>match o.S.h.get id with
    |some (.nR (.loop .ready j F ps a' b'))=>aC.bind (ih b o.F (tJ o.S id (.loop .busy j F ps a' b'))) fun o2=>uV id o2.ex o2.S
    |_=>.err 2102
   |_=>.err 2103
  |none=>.err 2104
 |_=>.err 2105
inductive Md where
 |ret|eQ (v:AV)|got (v:AV)
structure EJ where
 ex:Ex
 F:Fr
 S:AS
 m:Md
def Out.at(m:Md)(o:Out):EJ:=⟨o.ex,o.F,o.S,m⟩
def dq(o:Oper):Bool:=match o.op with | .call {callee:=.builtin .recover,.. }=>true|_=>false
def uX(m:Md):AV×Md:=match m with | .eQ v=>(v,.got v)|m=>(.bS,m)
def iR(cx:Cx)(K:bO)(ops:List Oper)(l:List Oper):Fr->AS->Md->aC EJ:=
 List.rec (motive:=fun _=>Fr->AS->Md->aC EJ) (fun F S m=>.ok ⟨.normal,F,S,m⟩ [])
  (fun o _ ih F S m=>match dW o with
   |some _=>.err 1011
   |none=>cond (dq o)
    (match wanted ops F o with
    |some true=>ih (bw F o.dst (uX m).1) S (uX m).2
    |some false=>ih (bw F o.dst .undef) S m
    |none=>.err 1012)
    (aC.bind (one cx K ops o F S) fun r=>cond r.1 (.ok ⟨.eQ r.2.1,F,r.2.2,m⟩ []) (ih (bw F o.dst r.2.1) r.2.2 m))) l
def sD(c:Code):Bool:=
 Code.rec (motive:=fun _=>Bool) false (fun _ ops _=>ops.toList.any dq) (fun _ _ a b=>cond a true b) (fun _ _ _ a b=>cond a true b) (fun _ _ b=>b) (fun _ b=>b)
  (fun _ _ _ _ a b=>cond a true b) (fun _=>false) (fun _ b=>b) (fun _=>false) (fun _=>false) false (fun _=>false) c
def noK:bO:=fun _ _ _=>.err 2300
def ir(cx:Cx)(ih:Code->Fr->AS->aC Out)(c:Code):Fr->AS->Md->aC EJ:=
 Code.rec (motive:=fun _=>Fr->AS->Md->aC EJ)
  (fun F S m=>.ok ⟨.normal,F,S,m⟩ [])
  (fun id ops draw F S m=>cond (ops.toList.any dq) (cond draw (.err 2200) (iR cx noK ops.toList ops.toList F S m)) (aC.bind (ih (.region id ops draw) F S) fun o=>.ok (o.at m) []))
  (fun _ _ ia ib F S m=>aC.bind (ia F S m) fun o=>match o.ex with
   | .normal=>ib o.F o.S o.m
   |_=>.ok o [])
  (fun x _ _ ia ib F S m=>match eval F x with
   | .bool true=>ia F S m
   | .bool false=>ib F S m
   |_=>.err 2201)
  (fun id _ ib F S m=>aC.bind (ib F S m) fun o=>match o.ex with
   | .exit j=>cond (zza j id) (.ok ⟨.normal,o.F,o.S,o.m⟩ []) (.ok o [])
   |_=>.ok o [])
  (fun b _ F S m=>cond (sD b) (.err 2202) (aC.bind (ih (.loop b) F S) fun o=>.ok (o.at m) []))
  (fun _ _ _ _ _ _ _ _ _=>.err 2203)
  (fun id F S m=>.ok ⟨.exit id,F,S,m⟩ [])
  (fun _ _ _ _ _=>.err 2204)
  (fun _ _ _ _=>.err 2205)
  (fun _ _ _ _=>.err 2206)
  (fun F S m=>.ok ⟨.ret,F,S,m⟩ [])
  (fun _ _ _ _=>.err 2207) c
def kR(e:Ex)(m:Md):Option Md:=
 match e,m with
 | .normal,.got _=>some .ret
 | .ret,.got _=>some .ret
 | .normal,m=>some m
 | .ret,m=>some m
 | .eQ v,.ret=>some (.eQ v)
 |_,_=>none
def gL(cx:Cx)(ih:Code->Fr->AS->aC Out)(fn:Func)(F:Fr)(ds:List wJ):Md->AS->aC (AV×AS):=
 List.rec (motive:=fun _=>Md->AS->aC (AV×AS))
  (fun m S=>match m with
   | .ret=>match di cx fn F S with
    |some v=>.ok (v,S) []
    |none=>.err 2001
   | .eQ v=>.ok (.eQ v,S) []
   | .got _=>.err 2010)
  (fun d _ rest m S=>match d with
   | .mark id=>match S.h.get id with
    |some (.nR (.dfr true))=>rest m (tJ S id (.dfr false))
    |_=>.err 2011
   | .call g as captured=>match cx.fns.get g with
    |some gn=>match gn.body with
     |some c=>aC.bind (ir cx ih c (ou (gR as captured) gn.ntmps) S m) fun o=>match o.F.ds with
      |[]=>match kR o.ex o.m with
       |some m'=>match o.ex with
        | .eQ _=>rest m' o.S
        |_=>match di cx gn o.F o.S with
         |some _=>rest m' o.S
         |none=>.err 2012
       |none=>.err 2013
      |_=>.err 2014
     |none=>.err 2015
    |none=>.err 2016) ds
def fnF(cx:Cx)(ih:Code->Fr->AS->aC Out)(f:FuncId)(as:List AV)(S:AS):aC (AV×AS):=
 match cx.fi.get f with
 |some q=>match q as S with
  |some r=>.ok r []
  |none=>.err 2004
 |none=>match cx.fns.get f with
 |some fn=>match fn.body with
  |some c=>aC.bind (ih c (ou as fn.ntmps) S) fun o=>match o.ex with
   | .exit _=>.err 2000
   | .goto _=>.err 2005
   | .eQ v=>gL cx ih fn o.F o.F.ds (.eQ v) o.S
   |_=>gL cx ih fn o.F o.F.ds .ret o.S
  |none=>.err 2002
 |none=>.err 2003
def Al(n:Nat)(a:List AV):List AV->Bool:=
 List.rec (motive:=fun _=>List AV->Bool) (fun b=>List.casesOn (motive:=fun _=>Bool) b true fun _ _=>false)
  (fun x _ w9 b=>List.casesOn (motive:=fun _=>Bool) b false fun y t=>cond (eO n x y) (w9 t) false) a
def tf(cx:Cx)(ih:Code->Fr->AS->aC Out)(f:FuncId)(as:List AV)(S:AS):aC (AV×AS):=match cx.kU.get f with
 |none=>fnF cx ih f as S
 |some _=>.err 2020
def cD(cx:Cx)(ih:Code->Fr->AS->aC Out):bO:=fun t as S=>
 match t with
 | .fn f=>tf cx ih f as S
 | .round id=>rS ih id as S
def mO(ih:Code->Fr->AS->aC Out)(b:Code)(n:Nat):Code->Fr->AS->aC Out:=
 Nat.rec (motive:=fun _=>Code->Fr->AS->aC Out) (fun _ _ _=>.err 3003) (fun _ rec c F S=>
  aC.bind (ih c F S) fun o=>match o.ex with
   | .goto l=>match findLabel b l with
    |some rest=>rec rest o.F o.S
    |none=>.ok o []
   |_=>.ok o []) n
def qO(ih:Code->Fr->AS->aC Out)(id:Nat)(F:Fr)(r:AV×AS):aC Out:=
 mW r.1 (fun x=>.ok ⟨.eQ x,F,r.2⟩ []) (match r.2.h.get id with
  |some (.nR (.loop .busy _ _ _ _ _))=>.err 2500
  |some (.nR (.loop _ j F' ps a b))=>match j with
   |none=>.ok ⟨.normal,F,tJ r.2 id (.loop .exhausted j F' ps a b)⟩ []
   |some c=>ih c F (tJ r.2 id (.loop .exhausted j F' ps a b))
  |_=>.err 2501)
def qb(cx:Cx)(ih:Code->Fr->AS->aC Out)(x:Operand)(ps:Array Tmp)(a b:Code)(F:Fr)(S:AS):aC Out:=
 cond (cW a&&cW b) (match eval F x with
  | .func (.func g) first captured=>
   aC.bind (cD cx ih (.fn g) (gR first (.obj .yld (Nat.succ S.nx)::captured)) ⟨(S.h.set S.nx (.nR (.dfr true))).set (Nat.succ S.nx) (.nR (.loop .ready none F ps a b)),Nat.succ (Nat.succ S.nx)⟩) fun r=>
    qO ih (Nat.succ S.nx) ⟨F.t,F.n,.mark S.nx::F.ds⟩ r
  |_=>.err 2502) (.err 2503)
def exec(cx:Cx)(n:Nat):Code->Fr->AS->aC Out:=
 Nat.rec (motive:=fun _=>Code->Fr->AS->aC Out) (fun _ _ _=>.err 3000) (fun n ih c F S=>
  match c with
  | .skip=>.ok ⟨.normal,F,S⟩ []
  | .ret=>.ok ⟨.ret,F,S⟩ []
  | .exit id=>.ok ⟨.exit id,F,S⟩ []
  | .region _ ops false=>aC.bind (cP cx (cD cx ih) ops.toList ops.toList F S) fun r=>match r.1 with
   |none=>.ok ⟨.normal,r.2.1,r.2.2⟩ []
   |some v=>.ok ⟨.eQ v,r.2.1,r.2.2⟩ []
  | .region _ ops true=>aC.bind (eg cx (cD cx ih) ops.toList F S) fun r=>match r.1 with
    |none=>.ok ⟨.normal,r.2.1,r.2.2⟩ []
    |some v=>.ok ⟨.eQ v,r.2.1,r.2.2⟩ []
  | .seq a b=>aC.bind (ih a F S) fun o=>match o.ex with
   | .normal=>ih b o.F o.S
   |_=>.ok o []
  | .cond x a b=>match eval F x with
   | .bool true=>ih a F S
   | .bool false=>ih b F S
   |_=>.err 3001
  | .block id b=>aC.bind (ih b F S) fun o=>match o.ex with
   | .exit j=>cond (zza j id) (.ok ⟨.normal,o.F,o.S⟩ []) (.ok o [])
   |_=>.ok o []
  | .loop b=>aC.bind (ih b F S) fun o=>match o.ex with
   | .normal=>ih (.loop b) o.F o.S
   |_=>.ok o []
  | .scope b=>mO ih b n b F S
  | .label _=>.ok ⟨.normal,F,S⟩ []
  | .goto l=>.ok ⟨.goto l,F,S⟩ []
  | .rangeFunc x ps a b=>qb cx ih x ps a b F S
  | .refuse _=>.err 3002) n
def call(cx:Cx)(n:Nat)(f:FuncId)(as:List AV)(S:AS):aC (AV×AS):=cD cx (exec cx n) (.fn f) as S
end Go.Am
end
